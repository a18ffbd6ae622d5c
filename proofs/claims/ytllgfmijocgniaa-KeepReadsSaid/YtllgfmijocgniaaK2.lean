/- The reference's readers: numbers. -/
import Derived.Test.YtllgfmijocgniaaK1
import Derived.Test.YtllgfmijocgniaaJ5
set_option linter.unusedVariables false
set_option linter.unusedSimpArgs false
namespace Go.Proofs.Ytllgfmijocgniaa
open Go Go.Abs Go.RowKit

theorem wrong68 {b : AV} {s : RS} (p e : Nat) (he : e ≠ 0) : Reads 68 [i64 p, i64 e] (rdr b) s (s.wrong p e) (.tup []) := by
  intro hp k K hk hK
  refine fnE mixed T68 U68 (Nat.le_of_ble_eq_true rfl) ?_
  unfold c68
  have l2 : aload hp false 1 (.mp k 3) = some (i64 s.fault) := aload_mp hk rfl
  simp -failIfUnchanged -implicitDefEqProofs (disch := first | assumption | decide | omega) only [wkA, instrE, astepE, evE, evsE, evoE, evpE, elook, econs, eonly, putE, argE, pickE, resE, rsE, rE, Option.bind_some, Option.bind_none, Option.map_some, Option.map_none, ↓reduceIte, Nat.reduceEqDiff, Nat.reduceAdd, Nat.zero_add, Nat.add_zero, Nat.reduceLT, Nat.reduceLeDiff, Bool.false_eq_true, l2]
  refine BoolCase.mk (fun h => ?_) fun h => ?_
  · have h0 : s.fault = 0 := by simpa using h
    have s1 := store_cell (o := 3) (x := i64 e) hk (by simp [rdr]) rfl rfl
    have k1 := set_at (b' := .cells ((rdr b s).set 3 (i64 e)) false) hk
    have s2 := store_cell (o := 2) (x := i64 p) k1 (by simp [rdr]) rfl rfl
    simp -failIfUnchanged -implicitDefEqProofs (disch := first | assumption | decide | omega) only [wkA, instrE, astepE, evE, evsE, evoE, evpE, elook, econs, eonly, putE, argE, pickE, resE, rsE, rE, Option.bind_some, Option.bind_none, Option.map_some, Option.map_none, ↓reduceIte, Nat.reduceEqDiff, Nat.reduceAdd, Nat.zero_add, Nat.add_zero, Nat.reduceLT, Nat.reduceLeDiff, Bool.false_eq_true, s1, s2]
    refine hK _ ?_ ((HKeep.set _ _ _).trans (HKeep.set _ _ _))
    rw [set_at k1]
    simp [rdr, RS.wrong, h0]
  · have h0 : s.fault ≠ 0 := by simpa using h
    simp -failIfUnchanged -implicitDefEqProofs (disch := first | assumption | decide | omega) only [wkA, instrE, astepE, evE, evsE, evoE, evpE, elook, econs, eonly, putE, argE, pickE, resE, rsE, rE, Option.bind_some, Option.bind_none, Option.map_some, Option.map_none, ↓reduceIte, Nat.reduceEqDiff, Nat.reduceAdd, Nat.zero_add, Nat.add_zero, Nat.reduceLT, Nat.reduceLeDiff, Bool.false_eq_true]
    refine hK _ ?_ (HKeep.refl _ _)
    rw [hk]
    simp [RS.wrong, h0]

theorem tmod_nat (a b : Nat) : Int.tmod (a : Int) (b : Int) = ((a % b : Nat) : Int) := rfl
theorem tdiv_nat (a b : Nat) : Int.tdiv (a : Int) (b : Int) = ((a / b : Nat) : Int) := rfl
theorem wrap_u64n {n : Nat} (h : n < 18446744073709551616) : IntKind.u64.wrap (n : Int) = (n : Int) := by rw [wrap_u64]; omega
theorem mod128 (c : Nat) : Int.tmod (c : Int) 128 = ((c % 128 : Nat) : Int) := rfl
theorem mod2 (c : Nat) : Int.tmod (c : Int) 2 = ((c % 2 : Nat) : Int) := rfl
theorem half {w : Nat} (h : w < 18446744073709551616) : IntKind.i64.wrap (IntKind.u64.wrap (Int.tdiv (w : Int) 2)) = ((w / 2 : Nat) : Int) := by
  rw [show (2 : Int) = ((2 : Nat) : Int) from rfl, tdiv_nat, wrap_u64n (by omega)]
  exact wrap_i64 (by omega) (by omega)
theorem acc_mul {c i : Nat} (h : c % 128 * 128 ^ i < 18446744073709551616) : IntKind.u64.wrap (((c % 128 : Nat) : Int) * ((128 ^ i : Nat) : Int)) = ((c % 128 * 128 ^ i : Nat) : Int) := by
  rw [← Int.natCast_mul]
  exact wrap_u64n h
theorem acc_add {u v : Nat} (h : u + v < 18446744073709551616) : IntKind.u64.wrap ((u : Int) + (v : Int)) = ((u + v : Nat) : Int) := by
  rw [← Int.natCast_add]
  exact wrap_u64n h

set_option maxRecDepth 20000 in
theorem num69 {b : AV} {bl : List Nat} (hb : Bytes b bl) {s : RS} (hs : s.at_ ≤ bl.length) {low high : Int} : Reads 69 [i64 low, i64 high] (rdr b) s (rdNum bl low high s).2 (i64 (rdNum bl low high s).1) := by
  intro hp k K hk hK
  refine fnE mixed T69 U69 (Nat.le_of_ble_eq_true rfl) ?_
  unfold c69
  have l1 : aload hp false 1 (.mp k 1) = some (i64 s.at_) := aload_mp hk rfl
  simp -failIfUnchanged -implicitDefEqProofs (disch := first | assumption | decide | omega) only [wkA, instrE, astepE, evE, evsE, evoE, evpE, elook, econs, eonly, putE, argE, pickE, resE, rsE, rE, Option.bind_some, Option.bind_none, Option.map_some, Option.map_none, ↓reduceIte, Nat.reduceEqDiff, Nat.reduceAdd, Nat.zero_add, Nat.add_zero, Nat.reduceLT, Nat.reduceLeDiff, Bool.false_eq_true, l1]
  by_cases hs0 : s.fault ≠ 0
  · have l3 : aload hp false 1 (.mp k 3) = some (i64 s.fault) := aload_mp hk rfl
    have d3 : ((s.fault : Int) == 0) = false := by simpa using hs0
    have e : rdNum bl low high s = (0, s) := by simp [rdNum, hs0]
    rw [e] at hK
    refine wpE_while (fun m e hp' => hp' = hp ∧ e = [(0, .mp k 0), (1, i64 low), (2, i64 high), (7, i64 s.at_), (8, .v (.int .u64 0)), (9, .v (.int .u64 1)), (10, i64 0)]) (n := 0) ⟨rfl, rfl⟩ ?_
    rintro m e hp' ⟨rfl, rfl⟩
    simp -failIfUnchanged -implicitDefEqProofs (disch := first | assumption | decide | omega) only [wkA, instrE, astepE, evE, evsE, evoE, evpE, elook, econs, eonly, putE, argE, pickE, resE, rsE, rE, Option.bind_some, Option.bind_none, Option.map_some, Option.map_none, ↓reduceIte, Nat.reduceEqDiff, Nat.reduceAdd, Nat.zero_add, Nat.add_zero, Nat.reduceLT, Nat.reduceLeDiff, Bool.false_eq_true, l3, d3]
    exact hK _ hk (HKeep.refl _ _)
  have h0 : s.fault = 0 := Decidable.not_not.1 hs0
  have e : rdNum bl low high s = rdEnd low high s (rdLoop bl 10 0 0 s) := by simp [rdNum, h0]
  rw [e] at hK
  refine wpE_while (fun m e hp' => ∃ i u t, m + i = 10 ∧ i < 10 ∧ e = [(0, .mp k 0), (1, i64 low), (2, i64 high), (7, i64 s.at_), (8, .v (.int .u64 (u : Nat))), (9, .v (.int .u64 ((128 ^ i : Nat) : Int))), (10, i64 i)] ∧ hp'[k]? = some (.cells (rdr b t) false) ∧ HKeep hp hp' k ∧ t.fault = 0 ∧ t.at_ ≤ bl.length ∧ u < 128 ^ i ∧ rdLoop bl 10 0 0 s = rdLoop bl m i u t) (n := 10)
    ⟨0, 0, s, rfl, by decide, rfl, hk, HKeep.refl _ _, h0, hs, by decide, rfl⟩ ?_
  clear l1 h0 e hs0
  rintro m e hp' ⟨i, u, t, hm, hi, rfl, hk, hR, ht0, hta, hu, hloop⟩
  obtain ⟨f, rfl⟩ : ∃ f, m = f + 1 := ⟨m - 1, by omega⟩
  rw [rdLoop_succ bl f i u t] at hloop
  have l1 : aload hp' false 1 (.mp k 1) = some (i64 t.at_) := aload_mp hk rfl
  have l0 : aload hp' false 1 (.mp k 0) = some b := aload_mp hk rfl
  have l3 : aload hp' false 1 (.mp k 3) = some (i64 0) := by rw [aload_mp hk (c := i64 t.fault) rfl, ht0]; rfl
  have d3 : ((0 : Int) == 0) = true := rfl
  simp -failIfUnchanged -implicitDefEqProofs (disch := first | assumption | decide | omega) only [wkA, instrE, astepE, evE, evsE, evoE, evpE, elook, econs, eonly, putE, argE, pickE, resE, rsE, rE, Option.bind_some, Option.bind_none, Option.map_some, Option.map_none, ↓reduceIte, Nat.reduceEqDiff, Nat.reduceAdd, Nat.zero_add, Nat.add_zero, Nat.reduceLT, Nat.reduceLeDiff, Bool.false_eq_true, l1, l0, l3, d3, hb.slc.lenStep, goInt, bs_length]
  refine BoolCase.mk (fun h => ?_) fun h => ?_
  · have h1 : t.at_ = bl.length := by simp at h; omega
    have hn : bl[t.at_]? = none := by simp [h1]
    rw [hn] at hloop
    simp only at hloop
    rw [hloop] at hK
    simp -failIfUnchanged -implicitDefEqProofs (disch := first | assumption | decide | omega) only [wkA, instrE, astepE, evE, evsE, evoE, evpE, elook, econs, eonly, putE, argE, pickE, resE, rsE, rE, Option.bind_some, Option.bind_none, Option.map_some, Option.map_none, ↓reduceIte, Nat.reduceEqDiff, Nat.reduceAdd, Nat.zero_add, Nat.add_zero, Nat.reduceLT, Nat.reduceLeDiff, Bool.false_eq_true, l0, hb.slc.lenStep, goInt, bs_length]
    rw [← h1]
    refine wrong68 t.at_ 5 (by decide) _ _ _ hk fun hp2 hk2 hR2 => ?_
    simp -failIfUnchanged -implicitDefEqProofs (disch := first | assumption | decide | omega) only [wkA, instrE, astepE, evE, evsE, evoE, evpE, elook, econs, eonly, putE, argE, pickE, resE, rsE, rE, Option.bind_some, Option.bind_none, Option.map_some, Option.map_none, ↓reduceIte, Nat.reduceEqDiff, Nat.reduceAdd, Nat.zero_add, Nat.add_zero, Nat.reduceLT, Nat.reduceLeDiff, Bool.false_eq_true]
    exact hK _ hk2 (hR.trans hR2)
  have h1 : t.at_ < bl.length := by simp at h; omega
  obtain ⟨c, hc⟩ : ∃ c, bl[t.at_]? = some c := ⟨bl[t.at_], List.getElem?_eq_getElem h1⟩
  have hc8 := hb.small c (List.mem_of_getElem? hc)
  rw [hc] at hloop
  simp only at hloop
  have e1 : aia 1 b (.v (.int .i64 t.at_)) = some (.fp [.v (.int .u8 (c : Nat))] 0) := hb.slc.ia (bs_get hc) rfl
  have e2 : ∀ hp, aload hp false 1 (.fp [.v (.int .u8 (c : Nat))] 0) = some (.v (.int .u8 (c : Nat))) := fun hp => rfl
  have xc : IntKind.u64.wrap (c : Int) = (c : Int) := wrap_u64n (by omega)
  simp -failIfUnchanged -implicitDefEqProofs (disch := first | assumption | decide | omega) only [wkA, instrE, astepE, evE, evsE, evoE, evpE, elook, econs, eonly, putE, argE, pickE, resE, rsE, rE, Option.bind_some, Option.bind_none, Option.map_some, Option.map_none, ↓reduceIte, Nat.reduceEqDiff, Nat.reduceAdd, Nat.zero_add, Nat.add_zero, Nat.reduceLT, Nat.reduceLeDiff, Bool.false_eq_true, l1, l0, e1, e2, xc]
  have bad : ∀ hloop' : rdLoop bl 10 0 0 s = (none, t.wrong t.at_ 2), ∀ hp2, hp2[k]? = some (.cells (rdr b (t.wrong t.at_ 2)) false) → HKeep hp' hp2 k → K (i64 0) hp2 := fun hl hp2 hk2 hR2 => by
    rw [hl] at hK
    exact hK _ hk2 (hR.trans hR2)
  by_cases hbad : (i = 9 ∧ 1 < c) ∨ (0 < i ∧ c = 0)
  · rw [if_pos hbad] at hloop
    have hcase : (((i : Int) == 9) = true ∧ decide (1 < (c : Int)) = true) ∨ (((i : Int) == 9) = true ∧ decide (1 < (c : Int)) = false ∧ decide (0 < (i : Int)) = true ∧ ((c : Int) == 0) = true) ∨ (((i : Int) == 9) = false ∧ decide (0 < (i : Int)) = true ∧ ((c : Int) == 0) = true) := by
      simp; omega
    rcases hcase with ⟨f1, f2⟩ | ⟨f1, f2, f3, f4⟩ | ⟨f1, f3, f4⟩
    · simp -failIfUnchanged -implicitDefEqProofs (disch := first | assumption | decide | omega) only [wkA, instrE, astepE, evE, evsE, evoE, evpE, elook, econs, eonly, putE, argE, pickE, resE, rsE, rE, Option.bind_some, Option.bind_none, Option.map_some, Option.map_none, ↓reduceIte, Nat.reduceEqDiff, Nat.reduceAdd, Nat.zero_add, Nat.add_zero, Nat.reduceLT, Nat.reduceLeDiff, Bool.false_eq_true, f1, f2, l1]
      refine wrong68 t.at_ 2 (by decide) _ _ _ hk fun hp2 hk2 hR2 => ?_
      simp -failIfUnchanged -implicitDefEqProofs (disch := first | assumption | decide | omega) only [wkA, instrE, astepE, evE, evsE, evoE, evpE, elook, econs, eonly, putE, argE, pickE, resE, rsE, rE, Option.bind_some, Option.bind_none, Option.map_some, Option.map_none, ↓reduceIte, Nat.reduceEqDiff, Nat.reduceAdd, Nat.zero_add, Nat.add_zero, Nat.reduceLT, Nat.reduceLeDiff, Bool.false_eq_true]
      exact bad hloop _ hk2 hR2
    · simp -failIfUnchanged -implicitDefEqProofs (disch := first | assumption | decide | omega) only [wkA, instrE, astepE, evE, evsE, evoE, evpE, elook, econs, eonly, putE, argE, pickE, resE, rsE, rE, Option.bind_some, Option.bind_none, Option.map_some, Option.map_none, ↓reduceIte, Nat.reduceEqDiff, Nat.reduceAdd, Nat.zero_add, Nat.add_zero, Nat.reduceLT, Nat.reduceLeDiff, Bool.false_eq_true, f1, f2, f3, f4, l1]
      refine wrong68 t.at_ 2 (by decide) _ _ _ hk fun hp2 hk2 hR2 => ?_
      simp -failIfUnchanged -implicitDefEqProofs (disch := first | assumption | decide | omega) only [wkA, instrE, astepE, evE, evsE, evoE, evpE, elook, econs, eonly, putE, argE, pickE, resE, rsE, rE, Option.bind_some, Option.bind_none, Option.map_some, Option.map_none, ↓reduceIte, Nat.reduceEqDiff, Nat.reduceAdd, Nat.zero_add, Nat.add_zero, Nat.reduceLT, Nat.reduceLeDiff, Bool.false_eq_true]
      exact bad hloop _ hk2 hR2
    · simp -failIfUnchanged -implicitDefEqProofs (disch := first | assumption | decide | omega) only [wkA, instrE, astepE, evE, evsE, evoE, evpE, elook, econs, eonly, putE, argE, pickE, resE, rsE, rE, Option.bind_some, Option.bind_none, Option.map_some, Option.map_none, ↓reduceIte, Nat.reduceEqDiff, Nat.reduceAdd, Nat.zero_add, Nat.add_zero, Nat.reduceLT, Nat.reduceLeDiff, Bool.false_eq_true, f1, f3, f4, l1]
      refine wrong68 t.at_ 2 (by decide) _ _ _ hk fun hp2 hk2 hR2 => ?_
      simp -failIfUnchanged -implicitDefEqProofs (disch := first | assumption | decide | omega) only [wkA, instrE, astepE, evE, evsE, evoE, evpE, elook, econs, eonly, putE, argE, pickE, resE, rsE, rE, Option.bind_some, Option.bind_none, Option.map_some, Option.map_none, ↓reduceIte, Nat.reduceEqDiff, Nat.reduceAdd, Nat.zero_add, Nat.add_zero, Nat.reduceLT, Nat.reduceLeDiff, Bool.false_eq_true]
      exact bad hloop _ hk2 hR2
  rw [if_neg hbad] at hloop
  have h9 : i = 9 → c ≤ 1 := by omega
  obtain ⟨q1, q2, q3⟩ := rdStep hu (by omega) h9
  have x4 : IntKind.i64.wrap ((t.at_ : Int) + 1) = ((t.at_ + 1 : Nat) : Int) := by
    have := hb.len
    rw [wrap_i64 (by omega) (by omega)]; rfl
  have s1 := store_cell (o := 1) (x := i64 ((t.at_ + 1 : Nat) : Int)) hk (by simp [rdr]) rfl rfl
  have k1 := set_at (b' := .cells ((rdr b t).set 1 (i64 ((t.at_ + 1 : Nat) : Int))) false) hk
  have kc : (rdr b t).set 1 (i64 ((t.at_ + 1 : Nat) : Int)) = rdr b t.next := by simp [rdr, RS.next]
  rw [kc] at s1 k1
  have hR2 := hR.trans (HKeep.set hp' k (.cells (rdr b t.next) false))
  have hcase : (((i : Int) == 9) = true ∧ decide (1 < (c : Int)) = false ∧ decide (0 < (i : Int)) = true ∧ ((c : Int) == 0) = false) ∨ (((i : Int) == 9) = false ∧ decide (0 < (i : Int)) = true ∧ ((c : Int) == 0) = false) ∨ (((i : Int) == 9) = false ∧ decide (0 < (i : Int)) = false) := by
    simp; omega
  have m1 := mod128 c
  have m2 := acc_mul q3
  have m3 := acc_add q2
  by_cases hlast : c < 128
  · rw [if_pos hlast] at hloop
    have f5 : decide ((c : Int) < 128) = true := by simp; omega
    rw [hloop] at hK
    simp only [rdEnd] at hK
    generalize hv : u + c % 128 * 128 ^ i = w at *
    have y1 := mod2 w
    have y2 := half q2
    have y3 : IntKind.i64.wrap (-1 - ((w / 2 : Nat) : Int)) = -1 - ((w / 2 : Nat) : Int) := wrap_i64 (by omega) (by omega)
    have hz : (((((w % 2 : Nat) : Int)) == 1) = true ∧ unzz w = -1 - ((w / 2 : Nat) : Int)) ∨ (((((w % 2 : Nat) : Int)) == 1) = false ∧ unzz w = ((w / 2 : Nat) : Int)) := by
      unfold unzz
      by_cases hw : w % 2 = 1
      · left; rw [if_pos hw]; exact ⟨by simp; omega, rfl⟩
      · right; rw [if_neg hw]; exact ⟨by simp; omega, rfl⟩
    have y4 : IntKind.i64.wrap (unzz w) = unzz w := by
      have := unzz_range q2
      exact wrap_i64 this.1 (by omega)
    rcases hcase with ⟨f1, f2, f3, f4⟩ | ⟨f1, f3, f4⟩ | ⟨f1, f3⟩ <;> rcases hz with ⟨z1, z2⟩ | ⟨z1, z2⟩
    all_goals
      first
        | simp -failIfUnchanged -implicitDefEqProofs (disch := first | assumption | decide | omega) only [wkA, instrE, astepE, evE, evsE, evoE, evpE, elook, econs, eonly, putE, argE, pickE, resE, rsE, rE, Option.bind_some, Option.bind_none, Option.map_some, Option.map_none, ↓reduceIte, Nat.reduceEqDiff, Nat.reduceAdd, Nat.zero_add, Nat.add_zero, Nat.reduceLT, Nat.reduceLeDiff, Bool.false_eq_true, f1, f2, f3, f4, l1, m1, m2, m3, x4, s1, f5, y1, y2, z1, y3, y4, ← z2]
        | simp -failIfUnchanged -implicitDefEqProofs (disch := first | assumption | decide | omega) only [wkA, instrE, astepE, evE, evsE, evoE, evpE, elook, econs, eonly, putE, argE, pickE, resE, rsE, rE, Option.bind_some, Option.bind_none, Option.map_some, Option.map_none, ↓reduceIte, Nat.reduceEqDiff, Nat.reduceAdd, Nat.zero_add, Nat.add_zero, Nat.reduceLT, Nat.reduceLeDiff, Bool.false_eq_true, f1, f3, f4, l1, m1, m2, m3, x4, s1, f5, y1, y2, z1, y3, y4, ← z2]
        | simp -failIfUnchanged -implicitDefEqProofs (disch := first | assumption | decide | omega) only [wkA, instrE, astepE, evE, evsE, evoE, evpE, elook, econs, eonly, putE, argE, pickE, resE, rsE, rE, Option.bind_some, Option.bind_none, Option.map_some, Option.map_none, ↓reduceIte, Nat.reduceEqDiff, Nat.reduceAdd, Nat.zero_add, Nat.add_zero, Nat.reduceLT, Nat.reduceLeDiff, Bool.false_eq_true, f1, f3, l1, m1, m2, m3, x4, s1, f5, y1, y2, z1, y3, y4, ← z2]
      refine BoolCase.mk (fun h => ?_) fun h => ?_
      · have hr : unzz w < low ∨ high < unzz w := Or.inl (by simpa using h)
        rw [if_pos hr] at hK
        simp -failIfUnchanged -implicitDefEqProofs (disch := first | assumption | decide | omega) only [wkA, instrE, astepE, evE, evsE, evoE, evpE, elook, econs, eonly, putE, argE, pickE, resE, rsE, rE, Option.bind_some, Option.bind_none, Option.map_some, Option.map_none, ↓reduceIte, Nat.reduceEqDiff, Nat.reduceAdd, Nat.zero_add, Nat.add_zero, Nat.reduceLT, Nat.reduceLeDiff, Bool.false_eq_true, h]
        refine wrong68 s.at_ 3 (by decide) _ _ _ k1 fun hp2 hk2 hR3 => ?_
        simp -failIfUnchanged -implicitDefEqProofs (disch := first | assumption | decide | omega) only [wkA, instrE, astepE, evE, evsE, evoE, evpE, elook, econs, eonly, putE, argE, pickE, resE, rsE, rE, Option.bind_some, Option.bind_none, Option.map_some, Option.map_none, ↓reduceIte, Nat.reduceEqDiff, Nat.reduceAdd, Nat.zero_add, Nat.add_zero, Nat.reduceLT, Nat.reduceLeDiff, Bool.false_eq_true]
        exact hK _ hk2 (hR2.trans hR3)
      · simp -failIfUnchanged -implicitDefEqProofs (disch := first | assumption | decide | omega) only [wkA, instrE, astepE, evE, evsE, evoE, evpE, elook, econs, eonly, putE, argE, pickE, resE, rsE, rE, Option.bind_some, Option.bind_none, Option.map_some, Option.map_none, ↓reduceIte, Nat.reduceEqDiff, Nat.reduceAdd, Nat.zero_add, Nat.add_zero, Nat.reduceLT, Nat.reduceLeDiff, Bool.false_eq_true, h]
        refine BoolCase.mk (fun h' => ?_) fun h' => ?_
        · have hr : unzz w < low ∨ high < unzz w := Or.inr (by simpa using h')
          rw [if_pos hr] at hK
          simp -failIfUnchanged -implicitDefEqProofs (disch := first | assumption | decide | omega) only [wkA, instrE, astepE, evE, evsE, evoE, evpE, elook, econs, eonly, putE, argE, pickE, resE, rsE, rE, Option.bind_some, Option.bind_none, Option.map_some, Option.map_none, ↓reduceIte, Nat.reduceEqDiff, Nat.reduceAdd, Nat.zero_add, Nat.add_zero, Nat.reduceLT, Nat.reduceLeDiff, Bool.false_eq_true, h']
          refine wrong68 s.at_ 3 (by decide) _ _ _ k1 fun hp2 hk2 hR3 => ?_
          simp -failIfUnchanged -implicitDefEqProofs (disch := first | assumption | decide | omega) only [wkA, instrE, astepE, evE, evsE, evoE, evpE, elook, econs, eonly, putE, argE, pickE, resE, rsE, rE, Option.bind_some, Option.bind_none, Option.map_some, Option.map_none, ↓reduceIte, Nat.reduceEqDiff, Nat.reduceAdd, Nat.zero_add, Nat.add_zero, Nat.reduceLT, Nat.reduceLeDiff, Bool.false_eq_true]
          exact hK _ hk2 (hR2.trans hR3)
        · have hr : ¬ (unzz w < low ∨ high < unzz w) := by simp at h h'; omega
          rw [if_neg hr] at hK
          simp -failIfUnchanged -implicitDefEqProofs (disch := first | assumption | decide | omega) only [wkA, instrE, astepE, evE, evsE, evoE, evpE, elook, econs, eonly, putE, argE, pickE, resE, rsE, rE, Option.bind_some, Option.bind_none, Option.map_some, Option.map_none, ↓reduceIte, Nat.reduceEqDiff, Nat.reduceAdd, Nat.zero_add, Nat.add_zero, Nat.reduceLT, Nat.reduceLeDiff, Bool.false_eq_true, h']
          exact hK _ k1 hR2
  · rw [if_neg hlast] at hloop
    have f5 : decide ((c : Int) < 128) = false := by simp; omega
    have x6 : IntKind.i64.wrap ((i : Int) + 1) = ((i + 1 : Nat) : Int) := by rw [wrap_i64 (by omega) (by omega)]; rfl
    have hi9 : i < 9 := by
      rcases Nat.lt_or_ge i 9 with h | h
      · exact h
      · have := h9 (by omega); omega
    have x8 : IntKind.u64.wrap (((128 ^ i : Nat) : Int) * 128) = ((128 ^ (i + 1) : Nat) : Int) := by
      have h8 : (128 : Nat) ^ (i + 1) ≤ 128 ^ 9 := Nat.pow_le_pow_right (by decide) (by omega)
      have h99 : (128 : Nat) ^ 9 = 9223372036854775808 := by decide
      rw [show (128 : Int) = ((128 : Nat) : Int) from rfl, ← Int.natCast_mul, ← Nat.pow_succ]
      exact wrap_u64n (by omega)
    rcases hcase with ⟨f1, f2, f3, f4⟩ | ⟨f1, f3, f4⟩ | ⟨f1, f3⟩
    · simp at f1 f2; omega
    all_goals
      first
        | simp -failIfUnchanged -implicitDefEqProofs (disch := first | assumption | decide | omega) only [wkA, instrE, astepE, evE, evsE, evoE, evpE, elook, econs, eonly, putE, argE, pickE, resE, rsE, rE, Option.bind_some, Option.bind_none, Option.map_some, Option.map_none, ↓reduceIte, Nat.reduceEqDiff, Nat.reduceAdd, Nat.zero_add, Nat.add_zero, Nat.reduceLT, Nat.reduceLeDiff, Bool.false_eq_true, f1, f3, f4, l1, m1, m2, m3, x8, x4, s1, f5, x6]
        | simp -failIfUnchanged -implicitDefEqProofs (disch := first | assumption | decide | omega) only [wkA, instrE, astepE, evE, evsE, evoE, evpE, elook, econs, eonly, putE, argE, pickE, resE, rsE, rE, Option.bind_some, Option.bind_none, Option.map_some, Option.map_none, ↓reduceIte, Nat.reduceEqDiff, Nat.reduceAdd, Nat.zero_add, Nat.add_zero, Nat.reduceLT, Nat.reduceLeDiff, Bool.false_eq_true, f1, f3, l1, m1, m2, m3, x8, x4, s1, f5, x6]
      exact ⟨f, by omega, i + 1, _, t.next, by omega, by omega, rfl, k1, hR2, ht0, h1, q1, hloop⟩

end Go.Proofs.Ytllgfmijocgniaa
