/- The reference's readers: a row of tokens. -/
import Derived.Test.YtllgfmijocgniaaK3
set_option linter.unusedVariables false
set_option linter.unusedSimpArgs false
namespace Go.Proofs.Ytllgfmijocgniaa
open Go Go.Abs Go.RowKit

/-- Within a round that fills one element. -/
structure Rnd (b : AV) (n0 k J n : Nat) (hp0 : List Blk) (v : AV) (xs : List AV) (cs : List AV) (t : RS) (hp : List Blk) : Prop where
  kk : hp[k]? = some (.cells (rdr b t) false)
  jj : hp[J]? = some (.cells cs false)
  ap : Appd hp v xs n
  old : Old n0 hp0 hp k
  kn : k < n0
  nJ : n0 ≤ J

section
variable {b : AV} {n0 k J n : Nat} {hp0 : List Blk} {v : AV} {xs cs : List AV} {t : RS} {hp : List Blk}
theorem Rnd.call (h : Rnd b n0 k J n hp0 v xs cs t hp) {hp2 : List Blk} {t2 : RS} (hk : hp2[k]? = some (.cells (rdr b t2) false)) (hR : HKeep hp hp2 k) : Rnd b n0 k J n hp0 v xs cs t2 hp2 :=
  ⟨hk, hR.at (by have := h.kn; have := h.nJ; omega) h.jj, appd_keep h.ap h.kk hR, h.old.keep hR, h.kn, h.nJ⟩
theorem Rnd.set (h : Rnd b n0 k J n hp0 v xs cs t hp) (cs' : List AV) : Rnd b n0 k J n hp0 v xs cs' t (hp.set J (.cells cs' false)) :=
  ⟨set_other (by have := h.kn; have := h.nJ; omega) h.kk, set_at h.jj, Appd.set_cells h.ap h.jj, h.old.set _ h.nJ, h.kn, h.nJ⟩
theorem Rnd.st1 (h : Rnd b n0 k J n hp0 v xs cs t hp) {o : Nat} {x : AV} (ho : o < cs.length) (hc : x.cells = [x]) (h1 : x.one = true) : astore hp 1 (.mp J o) x = some (hp.set J (.cells (cs.set o x) false)) := store_cell h.jj ho hc h1
end

theorem rdRow_zero {α : Type} {one : RS → α × RS} (n : Nat) {t : RS} (h : t.fault ≠ 0) : rdRowLoop one n t = ([], t) := by
  cases n with
  | zero => rfl
  | succ n => simp only [rdRowLoop, if_neg h]

/-- A row's slice, when it is done. -/
theorem row_imp {α : Type} (av : α → AV) {hp : List Blk} {v : AV} {acc : List α} {n : Nat} (hnil : acc = [] → v = .nsl) (hA : Appd hp v (acc.map av) n) : Imp v (slcAV av (nzl acc)) := by
  cases acc with
  | nil => rw [hnil rfl]; exact Imp.refl _
  | cons x r =>
    rcases hA with ⟨rfl, e⟩ | ⟨id, rfl, hid⟩
    · simp at e
    · exact imp_no

set_option maxRecDepth 20000 in
theorem tokens70 {b : AV} {bl : List Nat} (hb : Bytes b bl) {s : RS} (hs : s.at_ ≤ bl.length) : Reads 70 [] (rdr b) s (rdRow bl (rdTok bl) s).2 (slcAV Tok.av (nzl (rdRow bl (rdTok bl) s).1)) := by
  intro hp k K hk hK
  refine CallOk.weaken (K := fun r hp' => ∃ r', Imp r r' ∧ K r' hp') ?_ (fun _ _ h => h)
  refine fnE mixed T70 U70 (Nat.le_of_ble_eq_true rfl) ?_
  unfold c70
  have hkl : k < hp.length := (List.getElem?_eq_some_iff.1 hk).1
  simp -failIfUnchanged -implicitDefEqProofs (disch := first | assumption | decide | omega) only [wkA, instrE, astepE, evE, evsE, evoE, evpE, elook, econs, eonly, putE, argE, pickE, resE, rsE, rE, Option.bind_some, Option.bind_none, Option.map_some, Option.map_none, ↓reduceIte, Nat.reduceEqDiff, Nat.reduceAdd, Nat.zero_add, Nat.add_zero, Nat.reduceLT, Nat.reduceLeDiff, Bool.false_eq_true]
  refine many65 hb hs _ _ _ hk fun hp1 hk1 hR1 => ?_
  have hat1 := (rdMany_at hs).2
  have hrow : rdRow bl (rdTok bl) s = rdRowLoop (rdTok bl) (rdMany bl s).1 (rdMany bl s).2 := rfl
  have hNl := rdMany_le bl s
  have hlen := hb.len
  generalize rdMany bl s = p at *
  obtain ⟨N, s1⟩ := p
  simp only at hat1 hrow hNl hk1
  simp -failIfUnchanged -implicitDefEqProofs (disch := first | assumption | decide | omega) only [wkA, instrE, astepE, evE, evsE, evoE, evpE, elook, econs, eonly, putE, argE, pickE, resE, rsE, rE, Option.bind_some, Option.bind_none, Option.map_some, Option.map_none, ↓reduceIte, Nat.reduceEqDiff, Nat.reduceAdd, Nat.zero_add, Nat.add_zero, Nat.reduceLT, Nat.reduceLeDiff, Bool.false_eq_true]
  refine wpE_while (fun m e hp' => ∃ i acc v t, m + i = N ∧ e = [(0, .mp k 0), (3, v), (4, i64 N), (5, i64 i)] ∧ acc.length = i ∧ (acc = [] → v = .nsl) ∧ Appd hp' v (acc.map Tok.av) 12 ∧ Fresh hp.length v ∧ okElems 12 (acc.map Tok.av) = true ∧ t.at_ ≤ bl.length ∧ hp'[k]? = some (.cells (rdr b t) false) ∧ Old hp.length hp hp' k ∧ rdRow bl (rdTok bl) s = (acc ++ (rdRowLoop (rdTok bl) m t).1, (rdRowLoop (rdTok bl) m t).2)) (n := N)
    ⟨0, [], .nsl, s1, rfl, rfl, rfl, fun _ => rfl, Appd.nil _ _, fun _ _ e => (by cases e), rfl, hat1, hk1, (Old.start hp k).keep hR1, by rw [hrow]; rfl⟩ ?_
  clear hrow hR1 hk1
  rintro m e hp' ⟨i, acc, v, t, hm, rfl, hai, hnil, hA, hFr, hoe, hta, hk', hO, hrow⟩
  have fin : rdRow bl (rdTok bl) s = (acc, t) → ∃ r', Imp v r' ∧ K r' hp' := fun hr => by
    rw [hr] at hK
    exact ⟨_, row_imp Tok.av hnil hA, hK _ hk' hO.done⟩
  have l3 : aload hp' false 1 (.mp k 3) = some (i64 t.fault) := aload_mp hk' rfl
  simp -failIfUnchanged -implicitDefEqProofs (disch := first | assumption | decide | omega) only [wkA, instrE, astepE, evE, evsE, evoE, evpE, elook, econs, eonly, putE, argE, pickE, resE, rsE, rE, Option.bind_some, Option.bind_none, Option.map_some, Option.map_none, ↓reduceIte, Nat.reduceEqDiff, Nat.reduceAdd, Nat.zero_add, Nat.add_zero, Nat.reduceLT, Nat.reduceLeDiff, Bool.false_eq_true, l3]
  refine BoolCase.mk (fun h => ?_) fun h => ?_
  · simp -failIfUnchanged -implicitDefEqProofs (disch := first | assumption | decide | omega) only [wkA, instrE, astepE, evE, evsE, evoE, evpE, elook, econs, eonly, putE, argE, pickE, resE, rsE, rE, Option.bind_some, Option.bind_none, Option.map_some, Option.map_none, ↓reduceIte, Nat.reduceEqDiff, Nat.reduceAdd, Nat.zero_add, Nat.add_zero, Nat.reduceLT, Nat.reduceLeDiff, Bool.false_eq_true, h, l3]
    refine BoolCase.mk (fun h2 => ?_) fun h2 => ?_
    · have ht0 : t.fault = 0 := by simpa using h2
      obtain ⟨f, rfl⟩ : ∃ f, m = f + 1 := ⟨m - 1, by simp at h; omega⟩
      have x2 : IntKind.i64.wrap ((i : Int) + 1) = ((i + 1 : Nat) : Int) := by rw [wrap_i64 (by omega) (by omega)]; rfl
      simp only [rdRowLoop, ht0, if_true] at hrow
      have hOk := rdTok_ok bl t
      have hat' := rdTok_at (b := bl) hta
      have hr : rdTok bl t = (⟨(rdAny bl t).1, (rdAny bl (rdAny bl t).2).1, (rdAny bl (rdAny bl (rdAny bl t).2).2).1, (rdNum bl (-2147483648) 2147483647 (rdAny bl (rdAny bl (rdAny bl t).2).2).2).1, (rdSet bl (rdNum bl (-2147483648) 2147483647 (rdAny bl (rdAny bl (rdAny bl t).2).2).2).2).1⟩, (rdSet bl (rdNum bl (-2147483648) 2147483647 (rdAny bl (rdAny bl (rdAny bl t).2).2).2).2).2) := rfl
      have ez : ([.v (.int .i64 0), .v (.int .i64 0), .v (.int .i64 0), .v (.int .i32 0), .v (.int .u16 0), .v (.int .u16 0), .v (.int .u16 0), .v (.int .u16 0), .v (.int .u16 0), .v (.int .u16 0), .v (.int .u16 0), .v (.int .u16 0)] : List AV) = zTok := rfl
      have ef : afill zTok [] = some zTok := rfl
      have s0 : astore (hp' ++ [.cells zTok false]) 12 (.mp hp'.length 0) (.agg zTok) = some (hp' ++ [.cells zTok false]) := store_new rfl rfl rfl
      have R0 : Rnd b hp.length k hp'.length 12 hp v (acc.map Tok.av) zTok t (hp' ++ [.cells zTok false]) := ⟨get_ext hk', by simp, hA.ext, hO.ext _, hkl, hO.2.1⟩
      simp -failIfUnchanged -implicitDefEqProofs (disch := first | assumption | decide | omega) only [wkA, instrE, astepE, evE, evsE, evoE, evpE, elook, econs, eonly, putE, argE, pickE, resE, rsE, rE, Option.bind_some, Option.bind_none, Option.map_some, Option.map_none, ↓reduceIte, Nat.reduceEqDiff, Nat.reduceAdd, Nat.zero_add, Nat.add_zero, Nat.reduceLT, Nat.reduceLeDiff, Bool.false_eq_true, h2, ez, ef, s0]
      refine any66 hb hta _ _ _ R0.kk fun hp1 hk1 hR1 => ?_
      have R1 := R0.call hk1 hR1
      have a1 := rdAny_at (b := bl) hta
      generalize rdAny bl t = r1 at *
      have s1 := R1.st1 (o := 0) (x := i64 r1.1) (by decide) rfl rfl
      simp -failIfUnchanged -implicitDefEqProofs (disch := first | assumption | decide | omega) only [wkA, instrE, astepE, evE, evsE, evoE, evpE, elook, econs, eonly, putE, argE, pickE, resE, rsE, rE, Option.bind_some, Option.bind_none, Option.map_some, Option.map_none, ↓reduceIte, Nat.reduceEqDiff, Nat.reduceAdd, Nat.zero_add, Nat.add_zero, Nat.reduceLT, Nat.reduceLeDiff, Bool.false_eq_true, s1]
      replace R1 := R1.set (zTok.set 0 (i64 r1.1))
      refine any66 hb a1 _ _ _ R1.kk fun hp2 hk2 hR2 => ?_
      have R2 := R1.call hk2 hR2
      have a2 := rdAny_at (b := bl) a1
      generalize rdAny bl r1.2 = r2 at *
      have s2 := R2.st1 (o := 1) (x := i64 r2.1) (by simp [zTok]) rfl rfl
      simp -failIfUnchanged -implicitDefEqProofs (disch := first | assumption | decide | omega) only [wkA, instrE, astepE, evE, evsE, evoE, evpE, elook, econs, eonly, putE, argE, pickE, resE, rsE, rE, Option.bind_some, Option.bind_none, Option.map_some, Option.map_none, ↓reduceIte, Nat.reduceEqDiff, Nat.reduceAdd, Nat.zero_add, Nat.add_zero, Nat.reduceLT, Nat.reduceLeDiff, Bool.false_eq_true, s2]
      replace R2 := R2.set ((zTok.set 0 (i64 r1.1)).set 1 (i64 r2.1))
      refine any66 hb a2 _ _ _ R2.kk fun hp3 hk3 hR3 => ?_
      have R3 := R2.call hk3 hR3
      have a3 := rdAny_at (b := bl) a2
      generalize rdAny bl r2.2 = r3 at *
      have s3 := R3.st1 (o := 2) (x := i64 r3.1) (by simp [zTok]) rfl rfl
      simp -failIfUnchanged -implicitDefEqProofs (disch := first | assumption | decide | omega) only [wkA, instrE, astepE, evE, evsE, evoE, evpE, elook, econs, eonly, putE, argE, pickE, resE, rsE, rE, Option.bind_some, Option.bind_none, Option.map_some, Option.map_none, ↓reduceIte, Nat.reduceEqDiff, Nat.reduceAdd, Nat.zero_add, Nat.add_zero, Nat.reduceLT, Nat.reduceLeDiff, Bool.false_eq_true, s3]
      replace R3 := R3.set (((zTok.set 0 (i64 r1.1)).set 1 (i64 r2.1)).set 2 (i64 r3.1))
      refine num69 hb a3 (low := -2147483648) (high := 2147483647) _ _ _ R3.kk fun hp4 hk4 hR4 => ?_
      have R4 := R3.call hk4 hR4
      have a4 := (rdNum_at (b := bl) (low := -2147483648) (high := 2147483647) a3).2
      have g4 := rdNum_range (b := bl) (low := -2147483648) (high := 2147483647) (by decide) (by decide) r3.2
      generalize rdNum bl (-2147483648) 2147483647 r3.2 = r4 at *
      have x4 : IntKind.i32.wrap r4.1 = r4.1 := wrap_i32 g4.1 g4.2
      have s4 := R4.st1 (o := 3) (x := i32 r4.1) (by simp [zTok]) rfl rfl
      simp -failIfUnchanged -implicitDefEqProofs (disch := first | assumption | decide | omega) only [wkA, instrE, astepE, evE, evsE, evoE, evpE, elook, econs, eonly, putE, argE, pickE, resE, rsE, rE, Option.bind_some, Option.bind_none, Option.map_some, Option.map_none, ↓reduceIte, Nat.reduceEqDiff, Nat.reduceAdd, Nat.zero_add, Nat.add_zero, Nat.reduceLT, Nat.reduceLeDiff, Bool.false_eq_true, x4, s4]
      replace R4 := R4.set ((((zTok.set 0 (i64 r1.1)).set 1 (i64 r2.1)).set 2 (i64 r3.1)).set 3 (i32 r4.1))
      refine set71 hb a4 _ _ _ R4.kk fun hp5 hk5 hR5 => ?_
      have R5 := R4.call hk5 hR5
      have q5 := rdSet_set (b := bl) (s := r4.2)
      generalize rdSet bl r4.2 = r5 at *
      rw [hr] at hOk hat' hrow
      generalize hT : Tok.mk r1.1 r2.1 r3.1 r4.1 r5.1 = T at *
      have hTc : T.cs = i64 r1.1 :: i64 r2.1 :: i64 r3.1 :: i32 r4.1 :: r5.1.map u16 := by rw [← hT]; rfl
      have s5 : astore hp5 8 (.mp hp'.length 4) (setAV r5.1) = some (hp5.set hp'.length (.cells T.cs false)) := by
        refine store_part R5.jj (by simp [zTok]) (by simp [setAV, AV.cells, q5.1]) (set_one _) ?_
        have : (setAV r5.1).cells = r5.1.map u16 := rfl
        rw [this, hTc]
        unfold putAt
        rw [List.drop_eq_nil_of_le (by simp [zTok, q5.1]), List.append_nil]
        rfl
      replace R5 := R5.set T.cs
      have l5 : aload (hp5.set hp'.length (.cells T.cs false)) true 12 (.mp hp'.length 0) = some T.av := aload_mp R5.jj (pick_all (by rw [hTc]; simp [q5.1]))
      simp -failIfUnchanged -implicitDefEqProofs (disch := first | assumption | decide | omega) only [wkA, instrE, astepE, evE, evsE, evoE, evpE, elook, econs, eonly, putE, argE, pickE, resE, rsE, rE, Option.bind_some, Option.bind_none, Option.map_some, Option.map_none, ↓reduceIte, Nat.reduceEqDiff, Nat.reduceAdd, Nat.zero_add, Nat.add_zero, Nat.reduceLT, Nat.reduceLeDiff, Bool.false_eq_true, s5, l5, absl_any (tok_okElems hOk) (by decide)]
      refine appF R5.ap hFr (Nat.le_trans R5.old.1 R5.old.2.1) hoe (tok_okElems hOk) (by simp) (by decide) (by decide) ?_ fun v3 hp6 hA3 hr3 hF3 => ?_
      · simp only [List.length_map, List.length_cons, List.length_nil, Nat.zero_add]
        omega
      · simp -failIfUnchanged -implicitDefEqProofs (disch := first | assumption | decide | omega) only [wkA, instrE, astepE, evE, evsE, evoE, evpE, elook, econs, eonly, putE, argE, pickE, resE, rsE, rE, Option.bind_some, Option.bind_none, Option.map_some, Option.map_none, ↓reduceIte, Nat.reduceEqDiff, Nat.reduceAdd, Nat.zero_add, Nat.add_zero, Nat.reduceLT, Nat.reduceLeDiff, Bool.false_eq_true, x2]
        exact ⟨f, by omega, i + 1, acc ++ [T], v3, r5.2, by omega, rfl, by simp [hai], by simp, by simpa using hA3, hF3, by simpa using okElems_append hoe (tok_okElems hOk), hat', hr3.cells _ _ _ R5.kk, R5.old.app hr3 hFr, by rw [hrow]; simp⟩
    · simp -failIfUnchanged -implicitDefEqProofs (disch := first | assumption | decide | omega) only [wkA, instrE, astepE, evE, evsE, evoE, evpE, elook, econs, eonly, putE, argE, pickE, resE, rsE, rE, Option.bind_some, Option.bind_none, Option.map_some, Option.map_none, ↓reduceIte, Nat.reduceEqDiff, Nat.reduceAdd, Nat.zero_add, Nat.add_zero, Nat.reduceLT, Nat.reduceLeDiff, Bool.false_eq_true, h2]
      have ht0 : t.fault ≠ 0 := by simpa using h2
      refine fin ?_
      rw [hrow, rdRow_zero m ht0, List.append_nil]
  · simp -failIfUnchanged -implicitDefEqProofs (disch := first | assumption | decide | omega) only [wkA, instrE, astepE, evE, evsE, evoE, evpE, elook, econs, eonly, putE, argE, pickE, resE, rsE, rE, Option.bind_some, Option.bind_none, Option.map_some, Option.map_none, ↓reduceIte, Nat.reduceEqDiff, Nat.reduceAdd, Nat.zero_add, Nat.add_zero, Nat.reduceLT, Nat.reduceLeDiff, Bool.false_eq_true, h]
    have hn0 : m = 0 := by simp at h; omega
    subst hn0
    refine fin ?_
    rw [hrow]; simp [rdRowLoop]

end Go.Proofs.Ytllgfmijocgniaa
