/- The reference's readers: a row of steps. -/
import Derived.Test.YtllgfmijocgniaaK4
set_option linter.unusedVariables false
set_option linter.unusedSimpArgs false
namespace Go.Proofs.Ytllgfmijocgniaa
open Go Go.Abs Go.RowKit

theorem imp_els {xs ys : List AV} {t : Tail} (hl : xs.length = ys.length) (hc : ∀ (i : Nat) x y, xs[i]? = some x → ys[i]? = some y → x.cells.length = y.cells.length ∧ ∀ (j : Nat) c d, x.cells[j]? = some c → y.cells[j]? = some d → Imp c d) : Imp (.sl xs t) (.sl ys .no) := fun C M hp v hr => by
  cases hr with
  | sl f hsp hsz hC hR hT hcap =>
    rename_i a cap sz
    have get : ∀ (i : Nat) y, ys[i]? = some y → ∃ x, xs[i]? = some x := fun i y hy => by
      have : i < xs.length := by have := (List.getElem?_eq_some_iff.1 hy).1; omega
      exact ⟨xs[i], List.getElem?_eq_getElem this⟩
    have getj : ∀ (i : Nat) x y (j : Nat) d, xs[i]? = some x → ys[i]? = some y → y.cells[j]? = some d → ∃ c, x.cells[j]? = some c ∧ Imp c d := fun i x y j d hx hy hd => by
      obtain ⟨q1, q2⟩ := hc i x y hx hy
      have : j < x.cells.length := by have := (List.getElem?_eq_some_iff.1 hd).1; omega
      exact ⟨x.cells[j], List.getElem?_eq_getElem this, q2 j _ _ (List.getElem?_eq_getElem this) hd⟩
    rw [hl]
    refine .sl (sz := sz) f (fun hne => hsp (by intro e; subst e; simp at hl; exact hne (List.eq_nil_of_length_eq_zero hl.symm))) (fun i y hy => ?_) (fun i y j d hy hd => ?_) (fun i y j d hy hd => ?_) trivial (by omega)
    · obtain ⟨x, hx⟩ := get i y hy
      rw [← (hc i x y hx hy).1]; exact hsz i x hx
    · obtain ⟨x, hx⟩ := get i y hy
      obtain ⟨c, h1, h2⟩ := getj i x y j d hx hy hd
      exact hC i x j c hx h1
    · obtain ⟨x, hx⟩ := get i y hy
      obtain ⟨c, h1, h2⟩ := getj i x y j d hx hy hd
      exact h2 _ _ _ _ (hR i x j c hx h1)

/-- An append elsewhere. -/
theorem appd_rel {hp hp' : List Blk} {v w : AV} {ys : List AV} {n J : Nat} (h : Appd hp v ys n) (hr : AppRel hp hp' w) (hv : ∀ xs id, v = .sl xs (.tok id) → id < J) (hw : Fresh J w) : Appd hp' v ys n :=
  h.imp id fun ⟨id, e, h⟩ => ⟨id, e, hr.toks _ _ _ h fun xs e' => by have := hv _ _ e; have := hw _ _ e'; omega⟩

/-- Within a round that fills a step's sets. -/
structure RndS (b : AV) (n0 k J : Nat) (hp0 : List Blk) (v : AV) (ys : List AV) (c9 : List AV) (w : AV) (sets : List (List Int)) (t : RS) (hp : List Blk) : Prop where
  kk : hp[k]? = some (.cells (rdr b t) false)
  jj : hp[J]? = some (.cells (c9 ++ [w]) false)
  ap : Appd hp v ys 10
  vlt : ∀ xs id, v = .sl xs (.tok id) → id < J
  apw : Appd hp w (sets.map setAV) 8
  fw : Fresh J w
  nil : sets = [] → w = .nsl
  old : Old n0 hp0 hp k
  kn : k < n0
  nJ : n0 ≤ J

section
variable {b : AV} {n0 k J : Nat} {hp0 : List Blk} {v w : AV} {ys c9 : List AV} {sets : List (List Int)} {t : RS} {hp : List Blk}
theorem RndS.call (h : RndS b n0 k J hp0 v ys c9 w sets t hp) {hp2 : List Blk} {t2 : RS} (hk : hp2[k]? = some (.cells (rdr b t2) false)) (hR : HKeep hp hp2 k) : RndS b n0 k J hp0 v ys c9 w sets t2 hp2 :=
  ⟨hk, hR.at (by have := h.kn; have := h.nJ; omega) h.jj, appd_keep h.ap h.kk hR, h.vlt, appd_keep h.apw h.kk hR, h.fw, h.nil, h.old.keep hR, h.kn, h.nJ⟩
theorem RndS.app (h : RndS b n0 k J hp0 v ys c9 w sets t hp) (h9 : c9.length = 9) {hp3 : List Blk} {w3 : AV} {m : List Int} (hA : Appd hp3 w3 ((sets ++ [m]).map setAV) 8) (hr : AppRel hp hp3 w) (hF : Fresh J w3) :
    astore hp3 1 (.mp J 9) w3 = some (hp3.set J (.cells (c9 ++ [w3]) false)) ∧ RndS b n0 k J hp0 v ys c9 w3 (sets ++ [m]) t (hp3.set J (.cells (c9 ++ [w3]) false)) := by
  have c0 := hr.cells _ _ _ h.jj
  have st := store_cell (o := 9) (x := w3) c0 (by simp [h9]) (appd_one hA).1 (appd_one hA).2
  have e : (c9 ++ [w]).set 9 w3 = c9 ++ [w3] := by rw [List.set_append_right (h := by omega), h9]; rfl
  rw [e] at st
  refine ⟨st, set_other (by have := h.kn; have := h.nJ; omega) (hr.cells _ _ _ h.kk), set_at c0, Appd.set_cells (appd_rel h.ap hr h.vlt h.fw) c0, h.vlt, Appd.set_cells hA c0, hF, by simp, ?_, h.kn, h.nJ⟩
  exact (h.old.app hr fun xs id e => Nat.le_trans h.nJ (h.fw xs id e)).set _ h.nJ
end

def StpEl (y : AV) (x : Stp) : Prop := ∃ cs, y = .agg cs ∧ cs.length = 10 ∧ cs.all AV.one = true ∧ ∀ (j : Nat) c d, cs[j]? = some c → x.cs[j]? = some d → Imp c d

theorem stpEl_ok {y : AV} {x : Stp} (h : StpEl y x) : okElems 10 [y] = true := by
  obtain ⟨cs, rfl, h1, h2, _⟩ := h
  simp [okElems, AV.cells, h1]
  simpa using h2

theorem stpEls_imp {v : AV} {hp : List Blk} {ys : List AV} {acc : List Stp} (hnil : acc = [] → v = .nsl) (hl : ys.length = acc.length) (he : ∀ (j : Nat) y x, ys[j]? = some y → acc[j]? = some x → StpEl y x) (hA : Appd hp v ys 10) : Imp v (slcAV Stp.av (nzl acc)) := by
  cases acc with
  | nil => rw [hnil rfl]; exact Imp.refl _
  | cons x r =>
    rcases hA with ⟨rfl, e⟩ | ⟨id, rfl, hid⟩
    · subst e; simp at hl
    · refine imp_els (by simpa using hl) fun i y z hy hz => ?_
      simp only [List.getElem?_map, Option.map_eq_some_iff] at hz
      obtain ⟨s, hs, rfl⟩ := hz
      obtain ⟨cs, rfl, h1, h2, h3⟩ := he i y s hy hs
      exact ⟨h1, h3⟩

set_option maxRecDepth 20000 in
theorem steps67 {b : AV} {bl : List Nat} (hb : Bytes b bl) {s : RS} (hs : s.at_ ≤ bl.length) : Reads 67 [] (rdr b) s (rdRow bl (rdStp bl) s).2 (slcAV Stp.av (nzl (rdRow bl (rdStp bl) s).1)) := by
  intro hp k K hk hK
  refine CallOk.weaken (K := fun r hp' => ∃ r', Imp r r' ∧ K r' hp') ?_ (fun _ _ h => h)
  refine fnE mixed T67 U67 (Nat.le_of_ble_eq_true rfl) ?_
  unfold c67
  have hkl : k < hp.length := (List.getElem?_eq_some_iff.1 hk).1
  simp -failIfUnchanged -implicitDefEqProofs (disch := first | assumption | decide | omega) only [wkA, instrE, astepE, evE, evsE, evoE, evpE, elook, econs, eonly, putE, argE, pickE, resE, rsE, rE, Option.bind_some, Option.bind_none, Option.map_some, Option.map_none, ↓reduceIte, Nat.reduceEqDiff, Nat.reduceAdd, Nat.zero_add, Nat.add_zero, Nat.reduceLT, Nat.reduceLeDiff, Bool.false_eq_true]
  refine many65 hb hs _ _ _ hk fun hp1 hk1 hR1 => ?_
  have hat1 := (rdMany_at hs).2
  have hrow : rdRow bl (rdStp bl) s = rdRowLoop (rdStp bl) (rdMany bl s).1 (rdMany bl s).2 := rfl
  have hNl := rdMany_le bl s
  have hlen := hb.len
  generalize rdMany bl s = p at *
  obtain ⟨N, s1⟩ := p
  simp only at hat1 hrow hNl hk1
  simp -failIfUnchanged -implicitDefEqProofs (disch := first | assumption | decide | omega) only [wkA, instrE, astepE, evE, evsE, evoE, evpE, elook, econs, eonly, putE, argE, pickE, resE, rsE, rE, Option.bind_some, Option.bind_none, Option.map_some, Option.map_none, ↓reduceIte, Nat.reduceEqDiff, Nat.reduceAdd, Nat.zero_add, Nat.add_zero, Nat.reduceLT, Nat.reduceLeDiff, Bool.false_eq_true]
  refine wpE_while (fun m e hp' => ∃ i acc ys v t, m + i = N ∧ e = [(0, .mp k 0), (3, v), (4, i64 N), (5, i64 i)] ∧ acc.length = i ∧ ys.length = i ∧ (∀ (j : Nat) y x, ys[j]? = some y → acc[j]? = some x → StpEl y x) ∧ (acc = [] → v = .nsl) ∧ Appd hp' v ys 10 ∧ Fresh hp.length v ∧ okElems 10 ys = true ∧ t.at_ ≤ bl.length ∧ hp'[k]? = some (.cells (rdr b t) false) ∧ Old hp.length hp hp' k ∧ rdRow bl (rdStp bl) s = (acc ++ (rdRowLoop (rdStp bl) m t).1, (rdRowLoop (rdStp bl) m t).2)) (n := N)
    ⟨0, [], [], .nsl, s1, rfl, rfl, rfl, rfl, fun j y x hy => (by simp at hy), fun _ => rfl, Appd.nil _ _, fun _ _ e => (by cases e), rfl, hat1, hk1, (Old.start hp k).keep hR1, by rw [hrow]; rfl⟩ ?_
  clear hrow hR1 hk1
  rintro m e hp' ⟨i, acc, ys, v, t, hm, rfl, hai, hyi, hel, hnil, hA, hFr, hoe, hta, hk', hO, hrow⟩
  have fin : rdRow bl (rdStp bl) s = (acc, t) → ∃ r', Imp v r' ∧ K r' hp' := fun hr => by
    rw [hr] at hK
    exact ⟨_, stpEls_imp hnil (by omega) hel hA, hK _ hk' hO.done⟩
  have l3 : aload hp' false 1 (.mp k 3) = some (i64 t.fault) := aload_mp hk' rfl
  simp -failIfUnchanged -implicitDefEqProofs (disch := first | assumption | decide | omega) only [wkA, instrE, astepE, evE, evsE, evoE, evpE, elook, econs, eonly, putE, argE, pickE, resE, rsE, rE, Option.bind_some, Option.bind_none, Option.map_some, Option.map_none, ↓reduceIte, Nat.reduceEqDiff, Nat.reduceAdd, Nat.zero_add, Nat.add_zero, Nat.reduceLT, Nat.reduceLeDiff, Bool.false_eq_true, l3]
  refine BoolCase.mk (fun h => ?_) fun h => ?_
  rotate_left 1
  · simp -failIfUnchanged -implicitDefEqProofs (disch := first | assumption | decide | omega) only [wkA, instrE, astepE, evE, evsE, evoE, evpE, elook, econs, eonly, putE, argE, pickE, resE, rsE, rE, Option.bind_some, Option.bind_none, Option.map_some, Option.map_none, ↓reduceIte, Nat.reduceEqDiff, Nat.reduceAdd, Nat.zero_add, Nat.add_zero, Nat.reduceLT, Nat.reduceLeDiff, Bool.false_eq_true, h]
    have hn0 : m = 0 := by simp at h; omega
    subst hn0
    refine fin ?_
    rw [hrow]; simp [rdRowLoop]
  simp -failIfUnchanged -implicitDefEqProofs (disch := first | assumption | decide | omega) only [wkA, instrE, astepE, evE, evsE, evoE, evpE, elook, econs, eonly, putE, argE, pickE, resE, rsE, rE, Option.bind_some, Option.bind_none, Option.map_some, Option.map_none, ↓reduceIte, Nat.reduceEqDiff, Nat.reduceAdd, Nat.zero_add, Nat.add_zero, Nat.reduceLT, Nat.reduceLeDiff, Bool.false_eq_true, h, l3]
  refine BoolCase.mk (fun h2 => ?_) fun h2 => ?_
  rotate_left 1
  · simp -failIfUnchanged -implicitDefEqProofs (disch := first | assumption | decide | omega) only [wkA, instrE, astepE, evE, evsE, evoE, evpE, elook, econs, eonly, putE, argE, pickE, resE, rsE, rE, Option.bind_some, Option.bind_none, Option.map_some, Option.map_none, ↓reduceIte, Nat.reduceEqDiff, Nat.reduceAdd, Nat.zero_add, Nat.add_zero, Nat.reduceLT, Nat.reduceLeDiff, Bool.false_eq_true, h2]
    have ht0 : t.fault ≠ 0 := by simpa using h2
    refine fin ?_
    rw [hrow, rdRow_zero m ht0, List.append_nil]
  have ht0 : t.fault = 0 := by simpa using h2
  obtain ⟨f, rfl⟩ : ∃ f, m = f + 1 := ⟨m - 1, by simp at h; omega⟩
  have x2 : IntKind.i64.wrap ((i : Int) + 1) = ((i + 1 : Nat) : Int) := by rw [wrap_i64 (by omega) (by omega)]; rfl
  simp only [rdRowLoop, ht0, if_true] at hrow
  have hat' := rdStp_at (b := bl) hta
  have ez : ([.v (.int .i64 0), .v (.int .i64 0), .v (.int .i64 0), .v (.int .i64 0), .v (.int .i64 0), .v (.int .i64 0), .v (.int .i64 0), .v (.int .i64 0), .nsl, .nsl] : List AV) = zStp := rfl
  have ef : afill zStp [] = some zStp := rfl
  have s0 : astore (hp' ++ [.cells zStp false]) 10 (.mp hp'.length 0) (.agg zStp) = some (hp' ++ [.cells zStp false]) := store_new rfl rfl rfl
  have R0 : Rnd b hp.length k hp'.length 10 hp v ys zStp t (hp' ++ [.cells zStp false]) := ⟨get_ext hk', by simp, hA.ext, hO.ext _, hkl, hO.2.1⟩
  have vlt : ∀ xs id, v = .sl xs (.tok id) → id < hp'.length := fun xs id e => by
    rcases hA with ⟨rfl, _⟩ | ⟨id', e', hid⟩
    · cases e
    · rw [e'] at e; cases e
      exact (List.getElem?_eq_some_iff.1 hid).1
  obtain ⟨S, hS⟩ : ∃ S, S = rdStp bl t := ⟨_, rfl⟩
  rw [← hS] at hrow hat'
  unfold rdStp at hS
  dsimp only at hS
  simp -failIfUnchanged -implicitDefEqProofs (disch := first | assumption | decide | omega) only [wkA, instrE, astepE, evE, evsE, evoE, evpE, elook, econs, eonly, putE, argE, pickE, resE, rsE, rE, Option.bind_some, Option.bind_none, Option.map_some, Option.map_none, ↓reduceIte, Nat.reduceEqDiff, Nat.reduceAdd, Nat.zero_add, Nat.add_zero, Nat.reduceLT, Nat.reduceLeDiff, Bool.false_eq_true, h2, ez, ef, s0]
  refine any66 hb hta _ _ _ R0.kk fun hp1 hk1 hR1 => ?_
  have R1 := R0.call hk1 hR1
  have a1 := rdAny_at (b := bl) hta
  generalize rdAny bl t = r1 at *
  have s1 := R1.st1 (o := 0) (x := i64 r1.1) (by decide) rfl rfl
  simp -failIfUnchanged -implicitDefEqProofs (disch := first | assumption | decide | omega) only [wkA, instrE, astepE, evE, evsE, evoE, evpE, elook, econs, eonly, putE, argE, pickE, resE, rsE, rE, Option.bind_some, Option.bind_none, Option.map_some, Option.map_none, ↓reduceIte, Nat.reduceEqDiff, Nat.reduceAdd, Nat.zero_add, Nat.add_zero, Nat.reduceLT, Nat.reduceLeDiff, Bool.false_eq_true, s1]
  replace R1 := R1.set (zStp.set 0 (i64 r1.1))
  refine any66 hb a1 _ _ _ R1.kk fun hp2 hk2 hR2 => ?_
  have R2 := R1.call hk2 hR2
  have a2 := rdAny_at (b := bl) a1
  generalize rdAny bl r1.2 = r2 at *
  have s2 := R2.st1 (o := 1) (x := i64 r2.1) (by simp [zStp]) rfl rfl
  simp -failIfUnchanged -implicitDefEqProofs (disch := first | assumption | decide | omega) only [wkA, instrE, astepE, evE, evsE, evoE, evpE, elook, econs, eonly, putE, argE, pickE, resE, rsE, rE, Option.bind_some, Option.bind_none, Option.map_some, Option.map_none, ↓reduceIte, Nat.reduceEqDiff, Nat.reduceAdd, Nat.zero_add, Nat.add_zero, Nat.reduceLT, Nat.reduceLeDiff, Bool.false_eq_true, s2]
  replace R2 := R2.set ((zStp.set 0 (i64 r1.1)).set 1 (i64 r2.1))
  refine any66 hb a2 _ _ _ R2.kk fun hp3 hk3 hR3 => ?_
  have R3 := R2.call hk3 hR3
  have a3 := rdAny_at (b := bl) a2
  generalize rdAny bl r2.2 = r3 at *
  have s3 := R3.st1 (o := 2) (x := i64 r3.1) (by simp [zStp]) rfl rfl
  simp -failIfUnchanged -implicitDefEqProofs (disch := first | assumption | decide | omega) only [wkA, instrE, astepE, evE, evsE, evoE, evpE, elook, econs, eonly, putE, argE, pickE, resE, rsE, rE, Option.bind_some, Option.bind_none, Option.map_some, Option.map_none, ↓reduceIte, Nat.reduceEqDiff, Nat.reduceAdd, Nat.zero_add, Nat.add_zero, Nat.reduceLT, Nat.reduceLeDiff, Bool.false_eq_true, s3]
  replace R3 := R3.set (((zStp.set 0 (i64 r1.1)).set 1 (i64 r2.1)).set 2 (i64 r3.1))
  refine any66 hb a3 _ _ _ R3.kk fun hp4 hk4 hR4 => ?_
  have R4 := R3.call hk4 hR4
  have a4 := rdAny_at (b := bl) a3
  generalize rdAny bl r3.2 = r4 at *
  have s4 := R4.st1 (o := 3) (x := i64 r4.1) (by simp [zStp]) rfl rfl
  simp -failIfUnchanged -implicitDefEqProofs (disch := first | assumption | decide | omega) only [wkA, instrE, astepE, evE, evsE, evoE, evpE, elook, econs, eonly, putE, argE, pickE, resE, rsE, rE, Option.bind_some, Option.bind_none, Option.map_some, Option.map_none, ↓reduceIte, Nat.reduceEqDiff, Nat.reduceAdd, Nat.zero_add, Nat.add_zero, Nat.reduceLT, Nat.reduceLeDiff, Bool.false_eq_true, s4]
  replace R4 := R4.set ((((zStp.set 0 (i64 r1.1)).set 1 (i64 r2.1)).set 2 (i64 r3.1)).set 3 (i64 r4.1))
  refine any66 hb a4 _ _ _ R4.kk fun hp5 hk5 hR5 => ?_
  have R5 := R4.call hk5 hR5
  have a5 := rdAny_at (b := bl) a4
  generalize rdAny bl r4.2 = r5 at *
  have s5 := R5.st1 (o := 4) (x := i64 r5.1) (by simp [zStp]) rfl rfl
  simp -failIfUnchanged -implicitDefEqProofs (disch := first | assumption | decide | omega) only [wkA, instrE, astepE, evE, evsE, evoE, evpE, elook, econs, eonly, putE, argE, pickE, resE, rsE, rE, Option.bind_some, Option.bind_none, Option.map_some, Option.map_none, ↓reduceIte, Nat.reduceEqDiff, Nat.reduceAdd, Nat.zero_add, Nat.add_zero, Nat.reduceLT, Nat.reduceLeDiff, Bool.false_eq_true, s5]
  replace R5 := R5.set (((((zStp.set 0 (i64 r1.1)).set 1 (i64 r2.1)).set 2 (i64 r3.1)).set 3 (i64 r4.1)).set 4 (i64 r5.1))
  refine any66 hb a5 _ _ _ R5.kk fun hp6 hk6 hR6 => ?_
  have R6 := R5.call hk6 hR6
  have a6 := rdAny_at (b := bl) a5
  generalize rdAny bl r5.2 = r6 at *
  have s6 := R6.st1 (o := 5) (x := i64 r6.1) (by simp [zStp]) rfl rfl
  simp -failIfUnchanged -implicitDefEqProofs (disch := first | assumption | decide | omega) only [wkA, instrE, astepE, evE, evsE, evoE, evpE, elook, econs, eonly, putE, argE, pickE, resE, rsE, rE, Option.bind_some, Option.bind_none, Option.map_some, Option.map_none, ↓reduceIte, Nat.reduceEqDiff, Nat.reduceAdd, Nat.zero_add, Nat.add_zero, Nat.reduceLT, Nat.reduceLeDiff, Bool.false_eq_true, s6]
  replace R6 := R6.set ((((((zStp.set 0 (i64 r1.1)).set 1 (i64 r2.1)).set 2 (i64 r3.1)).set 3 (i64 r4.1)).set 4 (i64 r5.1)).set 5 (i64 r6.1))
  refine any66 hb a6 _ _ _ R6.kk fun hp7 hk7 hR7 => ?_
  have R7 := R6.call hk7 hR7
  have a7 := rdAny_at (b := bl) a6
  generalize rdAny bl r6.2 = r7 at *
  have s7 := R7.st1 (o := 6) (x := i64 r7.1) (by simp [zStp]) rfl rfl
  simp -failIfUnchanged -implicitDefEqProofs (disch := first | assumption | decide | omega) only [wkA, instrE, astepE, evE, evsE, evoE, evpE, elook, econs, eonly, putE, argE, pickE, resE, rsE, rE, Option.bind_some, Option.bind_none, Option.map_some, Option.map_none, ↓reduceIte, Nat.reduceEqDiff, Nat.reduceAdd, Nat.zero_add, Nat.add_zero, Nat.reduceLT, Nat.reduceLeDiff, Bool.false_eq_true, s7]
  replace R7 := R7.set (((((((zStp.set 0 (i64 r1.1)).set 1 (i64 r2.1)).set 2 (i64 r3.1)).set 3 (i64 r4.1)).set 4 (i64 r5.1)).set 5 (i64 r6.1)).set 6 (i64 r7.1))
  refine any66 hb a7 _ _ _ R7.kk fun hp8 hk8 hR8 => ?_
  have R8 := R7.call hk8 hR8
  have a8 := rdAny_at (b := bl) a7
  generalize rdAny bl r7.2 = r8 at *
  have s8 := R8.st1 (o := 7) (x := i64 r8.1) (by simp [zStp]) rfl rfl
  simp -failIfUnchanged -implicitDefEqProofs (disch := first | assumption | decide | omega) only [wkA, instrE, astepE, evE, evsE, evoE, evpE, elook, econs, eonly, putE, argE, pickE, resE, rsE, rE, Option.bind_some, Option.bind_none, Option.map_some, Option.map_none, ↓reduceIte, Nat.reduceEqDiff, Nat.reduceAdd, Nat.zero_add, Nat.add_zero, Nat.reduceLT, Nat.reduceLeDiff, Bool.false_eq_true, s8]
  replace R8 := R8.set ((((((((zStp.set 0 (i64 r1.1)).set 1 (i64 r2.1)).set 2 (i64 r3.1)).set 3 (i64 r4.1)).set 4 (i64 r5.1)).set 5 (i64 r6.1)).set 6 (i64 r7.1)).set 7 (i64 r8.1))
  refine tokens70 hb a8 _ _ _ R8.kk fun hp9 hk9 hR9 => ?_
  have R9 := R8.call hk9 hR9
  have a9 := rdToks_at (b := bl) a8
  generalize rdRow bl (rdTok bl) r8.2 = p at *
  have s9 := R9.st1 (o := 8) (x := slcAV Tok.av (nzl p.1)) (by simp [zStp]) (by cases nzl p.1 <;> rfl) (slc_one _ _)
  simp -failIfUnchanged -implicitDefEqProofs (disch := first | assumption | decide | omega) only [wkA, instrE, astepE, evE, evsE, evoE, evpE, elook, econs, eonly, putE, argE, pickE, resE, rsE, rE, Option.bind_some, Option.bind_none, Option.map_some, Option.map_none, ↓reduceIte, Nat.reduceEqDiff, Nat.reduceAdd, Nat.zero_add, Nat.add_zero, Nat.reduceLT, Nat.reduceLeDiff, Bool.false_eq_true, s9]
  replace R9 := R9.set (((((((((zStp.set 0 (i64 r1.1)).set 1 (i64 r2.1)).set 2 (i64 r3.1)).set 3 (i64 r4.1)).set 4 (i64 r5.1)).set 5 (i64 r6.1)).set 6 (i64 r7.1)).set 7 (i64 r8.1)).set 8 (slcAV Tok.av (nzl p.1)))
  refine many65 hb a9 _ _ _ R9.kk fun hpA hkA hRA => ?_
  have RA := R9.call hkA hRA
  obtain ⟨c9, hc9⟩ : ∃ c9 : List AV, c9 = [i64 r1.1, i64 r2.1, i64 r3.1, i64 r4.1, i64 r5.1, i64 r6.1, i64 r7.1, i64 r8.1, slcAV Tok.av (nzl p.1)] := ⟨_, rfl⟩
  have h9 : c9.length = 9 := by rw [hc9]; rfl
  have RB : RndS b hp.length k hp'.length hp v ys c9 .nsl [] (rdMany bl p.2).2 hpA := ⟨RA.kk, by rw [hc9]; exact RA.jj, RA.ap, vlt, Appd.nil _ _, fun _ _ e => (by cases e), fun _ => rfl, RA.old, RA.kn, RA.nJ⟩
  have hatA := (rdMany_at a9).2
  have hrowS : rdRow bl (rdSet bl) p.2 = rdRowLoop (rdSet bl) (rdMany bl p.2).1 (rdMany bl p.2).2 := rfl
  have hMl := rdMany_le bl p.2
  generalize hpp : rdMany bl p.2 = pp at *
  obtain ⟨M, sM⟩ := pp
  simp only at hatA hrowS hMl RB
  clear RA R9 R8 R7 R6 R5 R4 R3 R2 R1 R0 s1 s2 s3 s4 s5 s6 s7 s8 s9
  simp -failIfUnchanged -implicitDefEqProofs (disch := first | assumption | decide | omega) only [wkA, instrE, astepE, evE, evsE, evoE, evpE, elook, econs, eonly, putE, argE, pickE, resE, rsE, rE, Option.bind_some, Option.bind_none, Option.map_some, Option.map_none, ↓reduceIte, Nat.reduceEqDiff, Nat.reduceAdd, Nat.zero_add, Nat.add_zero, Nat.reduceLT, Nat.reduceLeDiff, Bool.false_eq_true]
  refine wpE_while (fun m2 e hp2 => ∃ q sets w t2, m2 + q = M ∧ e = [(0, .mp k 0), (3, v), (4, i64 N), (5, i64 i), (6, .mp hp'.length 0), (7, i64 M), (8, i64 q)] ∧ sets.length = q ∧ okElems 8 (sets.map setAV) = true ∧ t2.at_ ≤ bl.length ∧ RndS b hp.length k hp'.length hp v ys c9 w sets t2 hp2 ∧ rdRow bl (rdSet bl) p.2 = (sets ++ (rdRowLoop (rdSet bl) m2 t2).1, (rdRowLoop (rdSet bl) m2 t2).2)) (n := M)
    ⟨0, [], .nsl, sM, rfl, rfl, rfl, rfl, hatA, RB, by rw [hrowS]; rfl⟩ ?_
  clear hrowS RB hatA hpp
  rintro m2 e hp2 ⟨q, sets, w, t2, hm2, rfl, hql, hso, hta2, R, hrS⟩
  have l3 : aload hp2 false 1 (.mp k 3) = some (i64 t2.fault) := aload_mp R.kk rfl
  have p9 : pick1 false 1 (c9 ++ [w]) 9 = some w := by rw [hc9]; rfl
  have x3 : IntKind.i64.wrap ((q : Int) + 1) = ((q + 1 : Nat) : Int) := by rw [wrap_i64 (by omega) (by omega)]; rfl
  by_cases hgo : 0 < m2 ∧ t2.fault = 0
  · obtain ⟨g, rfl⟩ : ∃ g, m2 = g + 1 := ⟨m2 - 1, by omega⟩
    have d1 : decide ((q : Int) < (M : Int)) = true := by simp; omega
    have d2 : ((t2.fault : Int) == 0) = true := by simp [hgo.2]
    have l9 : aload hp2 false 1 (.mp hp'.length 9) = some w := aload_mp R.jj p9
    simp only [rdRowLoop, hgo.2, if_true] at hrS
    simp -failIfUnchanged -implicitDefEqProofs (disch := first | assumption | decide | omega) only [wkA, instrE, astepE, evE, evsE, evoE, evpE, elook, econs, eonly, putE, argE, pickE, resE, rsE, rE, Option.bind_some, Option.bind_none, Option.map_some, Option.map_none, ↓reduceIte, Nat.reduceEqDiff, Nat.reduceAdd, Nat.zero_add, Nat.add_zero, Nat.reduceLT, Nat.reduceLeDiff, Bool.false_eq_true, l3, d1, d2]
    rw [wpE_region2]
    refine ⟨?_, ?_⟩
    all_goals
      simp -failIfUnchanged -implicitDefEqProofs (disch := first | assumption | decide | omega) only [wkA, instrE, astepE, evE, evsE, evoE, evpE, elook, econs, eonly, putE, argE, pickE, resE, rsE, rE, Option.bind_some, Option.bind_none, Option.map_some, Option.map_none, ↓reduceIte, Nat.reduceEqDiff, Nat.reduceAdd, Nat.zero_add, Nat.add_zero, Nat.reduceLT, Nat.reduceLeDiff, Bool.false_eq_true, l9]
      refine set71 hb hta2 _ _ _ R.kk fun hp3 hk3 hR3 => ?_
      have R3 := R.call hk3 hR3
      have l9' : aload hp3 false 1 (.mp hp'.length 9) = some w := aload_mp R3.jj p9
      have q5 := rdSet_set (b := bl) (s := t2)
      have hat3 := rdSet_at (b := bl) hta2
      have hJ3 : hp'.length ≤ hp3.length := Nat.le_of_lt (List.getElem?_eq_some_iff.1 R3.jj).1
      generalize rdSet bl t2 = r at *
      simp -failIfUnchanged -implicitDefEqProofs (disch := first | assumption | decide | omega) only [wkA, instrE, astepE, evE, evsE, evoE, evpE, elook, econs, eonly, putE, argE, pickE, resE, rsE, rE, Option.bind_some, Option.bind_none, Option.map_some, Option.map_none, ↓reduceIte, Nat.reduceEqDiff, Nat.reduceAdd, Nat.zero_add, Nat.add_zero, Nat.reduceLT, Nat.reduceLeDiff, Bool.false_eq_true, l9', absl_any (set_okElems q5) (by decide)]
      refine appF R3.apw R3.fw hJ3 hso (set_okElems q5) (by simp) (by decide) (by decide) ?_ fun w3 hp4 hA4 hr4 hF4 => ?_
      · simp only [List.length_map, List.length_cons, List.length_nil, Nat.zero_add]
        omega
      · have hA4' : Appd hp4 w3 ((sets ++ [r.1]).map setAV) 8 := by simpa using hA4
        obtain ⟨st, R4⟩ := R3.app h9 hA4' hr4 hF4
        simp -failIfUnchanged -implicitDefEqProofs (disch := first | assumption | decide | omega) only [wkA, instrE, astepE, evE, evsE, evoE, evpE, elook, econs, eonly, putE, argE, pickE, resE, rsE, rE, Option.bind_some, Option.bind_none, Option.map_some, Option.map_none, ↓reduceIte, Nat.reduceEqDiff, Nat.reduceAdd, Nat.zero_add, Nat.add_zero, Nat.reduceLT, Nat.reduceLeDiff, Bool.false_eq_true, st, x3]
        exact ⟨g, by omega, q + 1, sets ++ [r.1], w3, r.2, by omega, rfl, by simp [hql], by simpa using okElems_append hso (set_okElems q5), hat3, R4, by rw [hrS]; simp⟩
  · have hstop : rdRow bl (rdSet bl) p.2 = (sets, t2) := by
      by_cases hz : m2 = 0
      · subst hz; rw [hrS]; simp [rdRowLoop]
      · rw [hrS, rdRow_zero m2 (by omega), List.append_nil]
    rw [hstop] at hS
    have hc : decide ((q : Int) < (M : Int)) = false ∨ (decide ((q : Int) < (M : Int)) = true ∧ ((t2.fault : Int) == 0) = false) := by
      simp; omega
    have l10 : aload hp2 true 10 (.mp hp'.length 0) = some (.agg (c9 ++ [w])) := aload_mp R.jj (pick_all (by simp [h9]))
    have hEl : StpEl (.agg (c9 ++ [w])) S.1 := by
      have hone := (appd_one R.apw).2
      refine ⟨c9 ++ [w], rfl, by simp [h9], ?_, fun j c d hc hd => ?_⟩
      · rw [hc9]
        simp only [List.cons_append, List.nil_append, List.all_cons, List.all_nil, slc_one, one_v, hone, Bool.and_self]
      · have ecs : S.1.cs = c9 ++ [slcAV setAV (nzl sets)] := by rw [hS, hc9]; rfl
        rw [ecs] at hd
        rcases Nat.lt_or_ge j 9 with hj | hj
        · rw [List.getElem?_append_left (by omega)] at hc hd
          rw [hc] at hd; cases hd
          exact Imp.refl _
        · have hj9 : j = 9 := by
            have := (List.getElem?_eq_some_iff.1 hc).1
            simp [h9] at this; omega
          subst hj9
          rw [List.getElem?_append_right (by omega), h9] at hc hd
          simp at hc hd
          subst hc; subst hd
          exact row_imp setAV R.nil R.apw
    have hS2 : S.2 = t2 := by rw [hS]
    have hle2 : hp.length ≤ hp2.length := Nat.le_trans R.old.1 R.old.2.1
    rcases hc with d1 | ⟨d1, d2⟩
    all_goals
      first
        | simp -failIfUnchanged -implicitDefEqProofs (disch := first | assumption | decide | omega) only [wkA, instrE, astepE, evE, evsE, evoE, evpE, elook, econs, eonly, putE, argE, pickE, resE, rsE, rE, Option.bind_some, Option.bind_none, Option.map_some, Option.map_none, ↓reduceIte, Nat.reduceEqDiff, Nat.reduceAdd, Nat.zero_add, Nat.add_zero, Nat.reduceLT, Nat.reduceLeDiff, Bool.false_eq_true, l3, d1, d2, l10, absl_any (stpEl_ok hEl) (by decide)]
        | simp -failIfUnchanged -implicitDefEqProofs (disch := first | assumption | decide | omega) only [wkA, instrE, astepE, evE, evsE, evoE, evpE, elook, econs, eonly, putE, argE, pickE, resE, rsE, rE, Option.bind_some, Option.bind_none, Option.map_some, Option.map_none, ↓reduceIte, Nat.reduceEqDiff, Nat.reduceAdd, Nat.zero_add, Nat.add_zero, Nat.reduceLT, Nat.reduceLeDiff, Bool.false_eq_true, l3, d1, l10, absl_any (stpEl_ok hEl) (by decide)]
      refine appF R.ap hFr hle2 hoe (stpEl_ok hEl) (by simp) (by decide) (by decide) ?_ fun v3 hp3 A3 r3 F3 => ?_
      · simp only [List.length_cons, List.length_nil, Nat.zero_add, hyi]
        omega
      · simp -failIfUnchanged -implicitDefEqProofs (disch := first | assumption | decide | omega) only [wkA, instrE, astepE, evE, evsE, evoE, evpE, elook, econs, eonly, putE, argE, pickE, resE, rsE, rE, Option.bind_some, Option.bind_none, Option.map_some, Option.map_none, ↓reduceIte, Nat.reduceEqDiff, Nat.reduceAdd, Nat.zero_add, Nat.add_zero, Nat.reduceLT, Nat.reduceLeDiff, Bool.false_eq_true, x2]
        refine ⟨f, by omega, i + 1, acc ++ [S.1], ys ++ [.agg (c9 ++ [w])], v3, S.2, by omega, rfl, by simp [hai], by simp [hyi], fun j y x hy hx => ?_, by simp, A3, F3, okElems_append hoe (stpEl_ok hEl), hat', by rw [hS2]; exact r3.cells _ _ _ R.kk, R.old.app r3 hFr, by rw [hrow]; simp⟩
        rcases Nat.lt_or_ge j i with hj | hj
        · rw [List.getElem?_append_left (by omega)] at hy hx
          exact hel j y x hy hx
        · have hji : j = i := by
            have := (List.getElem?_eq_some_iff.1 hy).1
            simp [hyi] at this; omega
          subst hji
          rw [List.getElem?_append_right (by omega), hyi] at hy
          rw [List.getElem?_append_right (by omega), hai] at hx
          simp at hy hx
          subst hy; subst hx
          exact hEl

end Go.Proofs.Ytllgfmijocgniaa
