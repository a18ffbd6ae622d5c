/- The program's readers: a token, a step, an operation. -/
import Derived.Test.YtllgfmijocgniaaE9
set_option linter.unusedVariables false
set_option linter.unusedSimpArgs false
namespace Go.Proofs.Ytllgfmijocgniaa
open Go Go.Abs Go.RowKit

def rdTok (b : List Nat) (s : RS) : Tok × RS :=
  let r1 := rdAny b s
  let r2 := rdAny b r1.2
  let r3 := rdAny b r2.2
  let r4 := rdNum b (-2147483648) 2147483647 r3.2
  let r5 := rdSet b r4.2
  (⟨r1.1, r2.1, r3.1, r4.1, r5.1⟩, r5.2)

theorem rdNum_range {b : List Nat} {low high : Int} (h0 : low ≤ 0) (h1 : 0 ≤ high) (s : RS) : low ≤ (rdNum b low high s).1 ∧ (rdNum b low high s).1 ≤ high := by
  by_cases hf : (rdNum b low high s).2.fault = 0
  · exact (rdNum_ok hf).2
  · rw [rdNum_bad hf]; exact ⟨h0, h1⟩
theorem rdAny_at {b : List Nat} {s : RS} (h : s.at_ ≤ b.length) : (rdAny b s).2.at_ ≤ b.length := (rdNum_at h).2
theorem rdAny_64 {b : List Nat} (s : RS) : Is64 (rdAny b s).1 := by
  have := rdNum_range (b := b) (low := -9223372036854775808) (high := 9223372036854775807) (by decide) (by decide) s
  exact ⟨this.1, by have := this.2; unfold rdAny; omega⟩

theorem rdTok_at {b : List Nat} {s : RS} (h : s.at_ ≤ b.length) : (rdTok b s).2.at_ ≤ b.length :=
  rdSet_at (rdNum_at (rdAny_at (rdAny_at (rdAny_at h)))).2
theorem rdTok_ok (b : List Nat) (s : RS) : (rdTok b s).1.Ok := by
  refine ⟨rdAny_64 _, rdAny_64 _, rdAny_64 _, ?_, rdSet_set⟩
  have := rdNum_range (b := b) (low := -2147483648) (high := 2147483647) (by decide) (by decide) (rdAny b (rdAny b (rdAny b s).2).2).2
  exact ⟨this.1, by have := this.2; simp only [rdTok]; omega⟩
theorem tok_okElems {t : Tok} (h : t.Ok) : okElems 12 [t.av] = true := by
  obtain ⟨cs, e, h1, h2⟩ := tok_cs t h
  simp [okElems, e, AV.cells, h1]
  simpa using h2
theorem set_okElems {m : List Int} (h : IsSet m) : okElems 8 [setAV m] = true := by
  obtain ⟨cs, e, h1, h2⟩ := set_cs m h
  simp [okElems, e, AV.cells, h1]
  simpa using h2
theorem stp_okElems (t : Stp) : okElems 10 [t.av] = true := by
  obtain ⟨cs, e, h1, h2⟩ := stp_cs t
  simp [okElems, e, AV.cells, h1]
  simpa using h2
theorem opr_okElems (t : Opr) : okElems 6 [t.av] = true := by
  obtain ⟨cs, e, h1, h2⟩ := opr_cs t
  simp [okElems, e, AV.cells, h1]
  simpa using h2

/-- Some cells of a block, written. -/
theorem store_part {hp : List Blk} {k n o : Nat} {old cs : List AV} {x : AV} (hk : hp[k]? = some (.cells old false)) (ho : o + n ≤ old.length) (hx : x.cells.length = n) (h1 : x.cells.all AV.one = true) (hc : putAt old o x.cells = cs) : astore hp n (.mp k o) x = some (hp.set k (.cells cs false)) := by
  unfold astore
  simp only [hk]
  rw [if_pos ⟨hx, ho, h1⟩, hc]

set_option maxRecDepth 20000 in
theorem token37 {b : AV} {bl : List Nat} (hb : Bytes b bl) {s : RS} (hs : s.at_ ≤ bl.length) : Reads 37 [] (rdc b) s (rdTok bl s).2 (rdTok bl s).1.av := by
  intro hp k K hk hK
  have hOk := rdTok_ok bl s
  refine fnE mixed T37 U37 (Nat.le_of_ble_eq_true rfl) ?_
  unfold c37
  have hkl : k < hp.length := (List.getElem?_eq_some_iff.1 hk).1
  have ez : ([.v (.int .i64 0), .v (.int .i64 0), .v (.int .i64 0), .v (.int .i32 0), .v (.int .u16 0), .v (.int .u16 0), .v (.int .u16 0), .v (.int .u16 0), .v (.int .u16 0), .v (.int .u16 0), .v (.int .u16 0), .v (.int .u16 0)] : List AV) = zTok := rfl
  have hr : rdTok bl s = (⟨(rdAny bl s).1, (rdAny bl (rdAny bl s).2).1, (rdAny bl (rdAny bl (rdAny bl s).2).2).1, (rdNum bl (-2147483648) 2147483647 (rdAny bl (rdAny bl (rdAny bl s).2).2).2).1, (rdSet bl (rdNum bl (-2147483648) 2147483647 (rdAny bl (rdAny bl (rdAny bl s).2).2).2).2).1⟩, (rdSet bl (rdNum bl (-2147483648) 2147483647 (rdAny bl (rdAny bl (rdAny bl s).2).2).2).2).2) := rfl
  simp -failIfUnchanged -implicitDefEqProofs (disch := first | assumption | decide | omega) only [wkA, instrE, astepE, evE, evsE, evoE, evpE, elook, econs, eonly, putE, argE, pickE, resE, rsE, rE, Option.bind_some, Option.bind_none, Option.map_some, Option.map_none, ↓reduceIte, Nat.reduceEqDiff, Nat.reduceAdd, Nat.zero_add, Nat.add_zero, Nat.reduceLT, Nat.reduceLeDiff, Bool.false_eq_true, ez]
  refine any53 hb hs _ _ _ (get_ext hk) fun hp1 hk1 hR1 => ?_
  have hO1 := ((Old.start hp k).ext [.cells zTok false]).keep hR1
  have j1 : hp1[hp.length]? = some (.cells zTok false) := hR1.at (by omega) (by simp)
  have a1 := rdAny_at (b := bl) hs
  generalize rdAny bl s = r1 at *
  simp -failIfUnchanged -implicitDefEqProofs (disch := first | assumption | decide | omega) only [wkA, instrE, astepE, evE, evsE, evoE, evpE, elook, econs, eonly, putE, argE, pickE, resE, rsE, rE, Option.bind_some, Option.bind_none, Option.map_some, Option.map_none, ↓reduceIte, Nat.reduceEqDiff, Nat.reduceAdd, Nat.zero_add, Nat.add_zero, Nat.reduceLT, Nat.reduceLeDiff, Bool.false_eq_true, ez]
  refine any53 hb a1 _ _ _ hk1 fun hp2 hk2 hR2 => ?_
  have hO2 := hO1.keep hR2
  have j2 := hR2.at (by omega) j1
  have a2 := rdAny_at (b := bl) a1
  generalize rdAny bl r1.2 = r2 at *
  simp -failIfUnchanged -implicitDefEqProofs (disch := first | assumption | decide | omega) only [wkA, instrE, astepE, evE, evsE, evoE, evpE, elook, econs, eonly, putE, argE, pickE, resE, rsE, rE, Option.bind_some, Option.bind_none, Option.map_some, Option.map_none, ↓reduceIte, Nat.reduceEqDiff, Nat.reduceAdd, Nat.zero_add, Nat.add_zero, Nat.reduceLT, Nat.reduceLeDiff, Bool.false_eq_true, ez]
  refine any53 hb a2 _ _ _ hk2 fun hp3 hk3 hR3 => ?_
  have hO3 := hO2.keep hR3
  have j3 := hR3.at (by omega) j2
  have a3 := rdAny_at (b := bl) a2
  generalize rdAny bl r2.2 = r3 at *
  have hl3 : hp.length ≤ hp3.length := hO3.2.1
  have hjl3 : hp.length < hp3.length := (List.getElem?_eq_some_iff.1 j3).1
  have e1 : afill zTok [(0, 1, i64 r1.1), (1, 1, i64 r2.1), (2, 1, i64 r3.1)] = some [i64 r1.1, i64 r2.1, i64 r3.1, i32 0, u16 0, u16 0, u16 0, u16 0, u16 0, u16 0, u16 0, u16 0] := rfl
  have s1 : astore (hp3 ++ [.cells zTok false]) 12 (.mp hp3.length 0) (.agg [i64 r1.1, i64 r2.1, i64 r3.1, i32 0, u16 0, u16 0, u16 0, u16 0, u16 0, u16 0, u16 0, u16 0]) = some (hp3 ++ [.cells [i64 r1.1, i64 r2.1, i64 r3.1, i32 0, u16 0, u16 0, u16 0, u16 0, u16 0, u16 0, u16 0, u16 0] false]) := store_new (n := 12) rfl rfl rfl
  simp -failIfUnchanged -implicitDefEqProofs (disch := first | assumption | decide | omega) only [wkA, instrE, astepE, evE, evsE, evoE, evpE, elook, econs, eonly, putE, argE, pickE, resE, rsE, rE, Option.bind_some, Option.bind_none, Option.map_some, Option.map_none, ↓reduceIte, Nat.reduceEqDiff, Nat.reduceAdd, Nat.zero_add, Nat.add_zero, Nat.reduceLT, Nat.reduceLeDiff, Bool.false_eq_true, ez, e1, s1]
  refine num54 hb a3 (low := -2147483648) (high := 2147483647) _ _ _ (get_ext hk3) fun hp4 hk4 hR4 => ?_
  have hO4 := (hO3.ext _).keep hR4
  have j4 := hR4.at (by omega) (get_ext j3)
  have m4 : hp4[hp3.length]? = some (.cells [i64 r1.1, i64 r2.1, i64 r3.1, i32 0, u16 0, u16 0, u16 0, u16 0, u16 0, u16 0, u16 0, u16 0] false) := hR4.at (by omega) (by simp)
  have a4 := (rdNum_at (b := bl) (low := -2147483648) (high := 2147483647) a3).2
  have g4 := rdNum_range (b := bl) (low := -2147483648) (high := 2147483647) (by decide) (by decide) r3.2
  generalize rdNum bl (-2147483648) 2147483647 r3.2 = r4 at *
  have x4 : IntKind.i32.wrap r4.1 = r4.1 := wrap_i32 g4.1 g4.2
  have s2 := store_cell (o := 3) (x := i32 r4.1) m4 (by simp) rfl rfl
  have m5 := set_at (b' := .cells ([i64 r1.1, i64 r2.1, i64 r3.1, i32 0, u16 0, u16 0, u16 0, u16 0, u16 0, u16 0, u16 0, u16 0].set 3 (i32 r4.1)) false) m4
  have hO5 := hO4.set (.cells ([i64 r1.1, i64 r2.1, i64 r3.1, i32 0, u16 0, u16 0, u16 0, u16 0, u16 0, u16 0, u16 0, u16 0].set 3 (i32 r4.1)) false) hl3
  have j5 := set_other (b := .cells ([i64 r1.1, i64 r2.1, i64 r3.1, i32 0, u16 0, u16 0, u16 0, u16 0, u16 0, u16 0, u16 0, u16 0].set 3 (i32 r4.1)) false) (show hp.length ≠ hp3.length by omega) j4
  have k5 := set_other (b := .cells ([i64 r1.1, i64 r2.1, i64 r3.1, i32 0, u16 0, u16 0, u16 0, u16 0, u16 0, u16 0, u16 0, u16 0].set 3 (i32 r4.1)) false) (show k ≠ hp3.length by omega) hk4
  simp -failIfUnchanged -implicitDefEqProofs (disch := first | assumption | decide | omega) only [wkA, instrE, astepE, evE, evsE, evoE, evpE, elook, econs, eonly, putE, argE, pickE, resE, rsE, rE, Option.bind_some, Option.bind_none, Option.map_some, Option.map_none, ↓reduceIte, Nat.reduceEqDiff, Nat.reduceAdd, Nat.zero_add, Nat.add_zero, Nat.reduceLT, Nat.reduceLeDiff, Bool.false_eq_true, x4, s2]
  refine set55 hb a4 _ _ _ k5 fun hp6 hk6 hR6 => ?_
  have hO6 := hO5.keep hR6
  have j6 := hR6.at (by omega) j5
  have m6 := hR6.at (by omega) m5
  have q5 := rdSet_set (b := bl) (s := r4.2)
  generalize rdSet bl r4.2 = r5 at *
  have s3 : astore hp6 8 (.mp hp3.length 4) (setAV r5.1) = some (hp6.set hp3.length (.cells (i64 r1.1 :: i64 r2.1 :: i64 r3.1 :: i32 r4.1 :: r5.1.map u16) false)) := by
    refine store_part m6 (by simp) (by simp [setAV, AV.cells, q5.1]) (set_one _) ?_
    have : (setAV r5.1).cells = r5.1.map u16 := rfl
    rw [this]
    unfold putAt
    rw [List.drop_eq_nil_of_le (by simp [q5.1]), List.append_nil]
    rfl
  have hcs : (i64 r1.1 :: i64 r2.1 :: i64 r3.1 :: i32 r4.1 :: r5.1.map u16 : List AV).length = 12 := by simp [q5.1]
  have m7 := set_at (b' := .cells (i64 r1.1 :: i64 r2.1 :: i64 r3.1 :: i32 r4.1 :: r5.1.map u16) false) m6
  have j7 := set_other (b := .cells (i64 r1.1 :: i64 r2.1 :: i64 r3.1 :: i32 r4.1 :: r5.1.map u16) false) (show hp.length ≠ hp3.length by omega) j6
  have k7 := set_other (b := .cells (i64 r1.1 :: i64 r2.1 :: i64 r3.1 :: i32 r4.1 :: r5.1.map u16) false) (show k ≠ hp3.length by omega) hk6
  have hO7 := hO6.set (.cells (i64 r1.1 :: i64 r2.1 :: i64 r3.1 :: i32 r4.1 :: r5.1.map u16) false) hl3
  have l7 := aload_mp m7 (pick_all hcs)
  rw [hr] at hK hOk
  obtain ⟨cs, ecs, c1, c2⟩ := tok_cs _ hOk
  have ecs' : cs = i64 r1.1 :: i64 r2.1 :: i64 r3.1 :: i32 r4.1 :: r5.1.map u16 := by
    have := ecs.symm; simpa [Tok.av, Tok.cs] using this
  subst ecs'
  have s4 := store_all (n := 12) (x := .agg (i64 r1.1 :: i64 r2.1 :: i64 r3.1 :: i32 r4.1 :: r5.1.map u16)) j7 rfl hcs c2
  have j8 := set_at (b' := .cells (AV.agg (i64 r1.1 :: i64 r2.1 :: i64 r3.1 :: i32 r4.1 :: r5.1.map u16)).cells false) j7
  have l8 := aload_mp j8 (pick_all (cs := i64 r1.1 :: i64 r2.1 :: i64 r3.1 :: i32 r4.1 :: r5.1.map u16) hcs)
  simp -failIfUnchanged -implicitDefEqProofs (disch := first | assumption | decide | omega) only [wkA, instrE, astepE, evE, evsE, evoE, evpE, elook, econs, eonly, putE, argE, pickE, resE, rsE, rE, Option.bind_some, Option.bind_none, Option.map_some, Option.map_none, ↓reduceIte, Nat.reduceEqDiff, Nat.reduceAdd, Nat.zero_add, Nat.add_zero, Nat.reduceLT, Nat.reduceLeDiff, Bool.false_eq_true, s3, l7, s4, l8]
  exact hK _ (set_other (by omega) k7) (hO7.set _ (Nat.le_refl _)).done

end Go.Proofs.Ytllgfmijocgniaa
