/- The program's reader of numbers. -/
import Derived.Test.YtllgfmijocgniaaE5
set_option linter.unusedVariables false
set_option linter.unusedSimpArgs false
namespace Go.Proofs.Ytllgfmijocgniaa
open Go Go.Abs Go.RowKit

theorem and_one (u : Nat) (h : u < 18446744073709551616) : bitsOp .u64 (u : Int) 1 (· &&& ·) = .int .u64 ((u % 2 : Nat) : Int) := by
  have e : bitsOp .u64 (u : Int) 1 (· &&& ·) = .int .u64 (IntKind.u64.wrap ((BitVec.ofInt 64 (u : Int) &&& BitVec.ofInt 64 ((1 : Nat) : Int)).toNat : Int)) := rfl
  rw [e, ofInt_nat, ofInt_nat, BitVec.toNat_and, BitVec.toNat_ofNat, BitVec.toNat_ofNat]
  have p64 : (2 : Nat) ^ 64 = 18446744073709551616 := by decide
  rw [p64, Nat.mod_eq_of_lt h, Nat.mod_eq_of_lt (by decide), Nat.and_one_is_mod, wrap_u64]
  congr 1
  omega

theorem xor_unzz (u : Nat) (h : u < 18446744073709551616) : bitsOp .i64 (IntKind.i64.wrap ((u : Int).fdiv (2 ^ (min (1 : Int).toNat IntKind.u64.bits)))) (IntKind.i64.wrap (0 - IntKind.i64.wrap ((u % 2 : Nat) : Int))) (· ^^^ ·) = .int .i64 (unzz u) := by
  have e2 : (2 : Int) ^ (min (1 : Int).toNat IntKind.u64.bits) = 2 := rfl
  have e : ∀ a b : Int, bitsOp .i64 a b (· ^^^ ·) = .int .i64 (IntKind.i64.wrap ((BitVec.ofInt 64 a ^^^ BitVec.ofInt 64 b).toNat : Int)) := fun _ _ => rfl
  rw [e2, Int.fdiv_eq_ediv_of_nonneg _ (by decide)]
  have h1 : ((u : Int) / 2) = ((u / 2 : Nat) : Int) := by omega
  have p64 : (2 : Nat) ^ 64 = 18446744073709551616 := by decide
  rw [h1, wrap_i64 (n := ((u / 2 : Nat) : Int)) (by omega) (by omega), wrap_i64 (n := ((u % 2 : Nat) : Int)) (by omega) (by omega), wrap_i64 (by omega) (by omega), e]
  unfold unzz
  by_cases hu : u % 2 = 1
  · rw [if_pos hu, hu]
    have x1 : BitVec.ofInt 64 (0 - ((1 : Nat) : Int)) = BitVec.allOnes 64 := by decide
    rw [x1, BitVec.xor_allOnes, BitVec.toNat_not, ofInt_nat, BitVec.toNat_ofNat, p64, Nat.mod_eq_of_lt (by omega)]
    congr 1
    simp [IntKind.wrap, IntKind.bits, IntKind.signed]
    split <;> omega
  · have h0 : u % 2 = 0 := by omega
    rw [if_neg hu, h0]
    have x1 : BitVec.ofInt 64 (0 - ((0 : Nat) : Int)) = 0#64 := by decide
    rw [x1, BitVec.xor_zero, ofInt_nat, BitVec.toNat_ofNat, p64, Nat.mod_eq_of_lt (by omega)]
    congr 1
    exact wrap_i64 (by omega) (by omega)

theorem aun_neg (n : Int) : aun .neg (.v (.int .i64 n)) = some (.v (.int .i64 (IntKind.i64.wrap (0 - n)))) := rfl

theorem bs_get {l : List Nat} {i c : Nat} (h : l[i]? = some c) : (bs l)[i]? = some (byt c) := by simp [bs, h]

/-- A row of bytes that a reader reads. -/
structure Bytes (b : AV) (bl : List Nat) : Prop where
  slc : Slc b (bs bl)
  small : ∀ x ∈ bl, x < 256
  len : bl.length ≤ 1000000000000

theorem rdStep {u c i : Nat} (hu : u < 128 ^ i) (hi : i ≤ 9) (h9 : i = 9 → c ≤ 1) : u + c % 128 * 128 ^ i < 128 ^ (i + 1) ∧ u + c % 128 * 128 ^ i < 18446744073709551616 ∧ c % 128 * 128 ^ i < 18446744073709551616 := by
  have hc : c % 128 < 128 := Nat.mod_lt _ (by decide)
  have e : (128 : Nat) ^ (i + 1) = 128 ^ i * 128 := Nat.pow_succ ..
  have h1 : c % 128 * 128 ^ i ≤ 127 * 128 ^ i := Nat.mul_le_mul_right _ (by omega)
  refine ⟨by omega, ?_⟩
  rcases Nat.lt_or_ge i 9 with h8 | h8
  · have h128' : (128 : Nat) ^ i ≤ 128 ^ 8 := Nat.pow_le_pow_right (by decide) (by omega)
    have h88 : (128 : Nat) ^ 8 = 72057594037927936 := by decide
    have : c % 128 * 128 ^ i ≤ 127 * 128 ^ 8 := Nat.mul_le_mul (by omega) h128'
    omega
  · have e9 : i = 9 := by omega
    subst e9
    have h99 : (128 : Nat) ^ 9 = 9223372036854775808 := by decide
    have hc1 := h9 rfl
    rw [h99] at hu ⊢
    have : c % 128 ≤ 1 := by omega
    have : c % 128 * 9223372036854775808 ≤ 1 * 9223372036854775808 := Nat.mul_le_mul_right _ this
    omega

theorem rdLoop_succ (b : List Nat) (f i u : Nat) (s : RS) : rdLoop b (f + 1) i u s = match b[s.at_]? with
    | none => (none, s.wrong s.at_ 5)
    | some c => if (i = 9 ∧ 1 < c) ∨ (0 < i ∧ c = 0) then (none, s.wrong s.at_ 2)
      else if c < 128 then (some (u + c % 128 * 128 ^ i), s.next) else rdLoop b f (i + 1) (u + c % 128 * 128 ^ i) s.next := rfl

set_option maxRecDepth 20000 in
theorem num54 {b : AV} {bl : List Nat} (hb : Bytes b bl) {s : RS} (hs : s.at_ ≤ bl.length) {low high : Int} : Reads 54 [i64 low, i64 high] (rdc b) s (rdNum bl low high s).2 (i64 (rdNum bl low high s).1) := by
  intro hp k K hk hK
  refine fnE mixed T54 U54 (Nat.le_of_ble_eq_true rfl) ?_
  unfold c54
  have l2 : aload hp false 1 (.mp k 2) = some (i64 s.fault) := aload_mp hk rfl
  have l1 : aload hp false 1 (.mp k 1) = some (i64 s.at_) := aload_mp hk rfl
  simp -failIfUnchanged -implicitDefEqProofs (disch := first | assumption | decide | omega) only [wkA, instrE, astepE, evE, evsE, evoE, evpE, elook, econs, eonly, putE, argE, pickE, resE, rsE, rE, Option.bind_some, Option.bind_none, Option.map_some, Option.map_none, ↓reduceIte, Nat.reduceEqDiff, Nat.reduceAdd, Nat.zero_add, Nat.add_zero, Nat.reduceLT, Nat.reduceLeDiff, Bool.false_eq_true, l2]
  refine BoolCase.mk (fun h => ?_) fun h => ?_
  · have h0 : s.fault ≠ 0 := by simpa using h
    simp -failIfUnchanged -implicitDefEqProofs (disch := first | assumption | decide | omega) only [wkA, instrE, astepE, evE, evsE, evoE, evpE, elook, econs, eonly, putE, argE, pickE, resE, rsE, rE, Option.bind_some, Option.bind_none, Option.map_some, Option.map_none, ↓reduceIte, Nat.reduceEqDiff, Nat.reduceAdd, Nat.zero_add, Nat.add_zero, Nat.reduceLT, Nat.reduceLeDiff, Bool.false_eq_true]
    have e : rdNum bl low high s = (0, s) := by simp [rdNum, h0]
    rw [e] at hK
    exact hK _ hk (HKeep.refl _ _)
  have h0 : s.fault = 0 := by simpa using h
  have e : rdNum bl low high s = rdEnd low high s (rdLoop bl 10 0 0 s) := by simp [rdNum, h0]
  rw [e] at hK
  simp -failIfUnchanged -implicitDefEqProofs (disch := first | assumption | decide | omega) only [wkA, instrE, astepE, evE, evsE, evoE, evpE, elook, econs, eonly, putE, argE, pickE, resE, rsE, rE, Option.bind_some, Option.bind_none, Option.map_some, Option.map_none, ↓reduceIte, Nat.reduceEqDiff, Nat.reduceAdd, Nat.zero_add, Nat.add_zero, Nat.reduceLT, Nat.reduceLeDiff, Bool.false_eq_true, l1]
  refine wpE_while (fun m e hp' => ∃ i u t, m + i = 10 ∧ i < 10 ∧ e = [(0, .mp k 0), (1, i64 low), (2, i64 high), (7, i64 s.at_), (8, .v (.int .u64 (u : Nat))), (9, i64 i)] ∧ hp'[k]? = some (.cells (rdc b t) false) ∧ HKeep hp hp' k ∧ t.fault = 0 ∧ t.at_ ≤ bl.length ∧ u < 128 ^ i ∧ rdLoop bl 10 0 0 s = rdLoop bl m i u t) (n := 10)
    ⟨0, 0, s, rfl, by decide, rfl, hk, HKeep.refl _ _, h0, hs, by decide, rfl⟩ ?_
  clear l2 l1 h e
  rintro m e hp' ⟨i, u, t, hm, hi, rfl, hk, hR, ht0, hta, hu, hloop⟩
  obtain ⟨f, rfl⟩ : ∃ f, m = f + 1 := ⟨m - 1, by omega⟩
  rw [rdLoop_succ bl f i u t] at hloop
  have l1 : aload hp' false 1 (.mp k 1) = some (i64 t.at_) := aload_mp hk rfl
  have l0 : aload hp' false 1 (.mp k 0) = some b := aload_mp hk rfl
  simp -failIfUnchanged -implicitDefEqProofs (disch := first | assumption | decide | omega) only [wkA, instrE, astepE, evE, evsE, evoE, evpE, elook, econs, eonly, putE, argE, pickE, resE, rsE, rE, Option.bind_some, Option.bind_none, Option.map_some, Option.map_none, ↓reduceIte, Nat.reduceEqDiff, Nat.reduceAdd, Nat.zero_add, Nat.add_zero, Nat.reduceLT, Nat.reduceLeDiff, Bool.false_eq_true, l1, l0, hb.slc.lenStep, goInt, bs_length]
  refine BoolCase.mk (fun h => ?_) fun h => ?_
  · have h1 : t.at_ = bl.length := by simp at h; omega
    have hn : bl[t.at_]? = none := by simp [h1]
    rw [hn] at hloop
    simp only at hloop
    rw [hloop] at hK
    simp -failIfUnchanged -implicitDefEqProofs (disch := first | assumption | decide | omega) only [wkA, instrE, astepE, evE, evsE, evoE, evpE, elook, econs, eonly, putE, argE, pickE, resE, rsE, rE, Option.bind_some, Option.bind_none, Option.map_some, Option.map_none, ↓reduceIte, Nat.reduceEqDiff, Nat.reduceAdd, Nat.zero_add, Nat.add_zero, Nat.reduceLT, Nat.reduceLeDiff, Bool.false_eq_true, l1]
    refine wrong52 t.at_ 5 (by decide) _ _ _ hk fun hp2 hk2 hR2 => ?_
    simp -failIfUnchanged -implicitDefEqProofs (disch := first | assumption | decide | omega) only [wkA, instrE, astepE, evE, evsE, evoE, evpE, elook, econs, eonly, putE, argE, pickE, resE, rsE, rE, Option.bind_some, Option.bind_none, Option.map_some, Option.map_none, ↓reduceIte, Nat.reduceEqDiff, Nat.reduceAdd, Nat.zero_add, Nat.add_zero, Nat.reduceLT, Nat.reduceLeDiff, Bool.false_eq_true]
    exact hK _ hk2 (hR.trans hR2)
  have h1 : t.at_ < bl.length := by simp at h; omega
  obtain ⟨c, hc⟩ : ∃ c, bl[t.at_]? = some c := ⟨bl[t.at_], List.getElem?_eq_getElem h1⟩
  have hc8 := hb.small c (List.mem_of_getElem? hc)
  rw [hc] at hloop
  simp only at hloop
  have e1 : aia 1 b (.v (.int .i64 t.at_)) = some (.fp [.v (.int .u8 (c : Nat))] 0) := hb.slc.ia (bs_get hc) rfl
  have e2 : ∀ hp, aload hp false 1 (.fp [.v (.int .u8 (c : Nat))] 0) = some (.v (.int .u8 (c : Nat))) := fun hp => rfl
  simp -failIfUnchanged -implicitDefEqProofs (disch := first | assumption | decide | omega) only [wkA, instrE, astepE, evE, evsE, evoE, evpE, elook, econs, eonly, putE, argE, pickE, resE, rsE, rE, Option.bind_some, Option.bind_none, Option.map_some, Option.map_none, ↓reduceIte, Nat.reduceEqDiff, Nat.reduceAdd, Nat.zero_add, Nat.add_zero, Nat.reduceLT, Nat.reduceLeDiff, Bool.false_eq_true, l1, l0, e1, e2]
  have bad : ∀ hloop' : rdLoop bl 10 0 0 s = (none, t.wrong t.at_ 2), ∀ hp2, hp2[k]? = some (.cells (rdc b (t.wrong t.at_ 2)) false) → HKeep hp' hp2 k → K (i64 0) hp2 := fun hl hp2 hk2 hR2 => by
    rw [hl] at hK
    exact hK _ hk2 (hR.trans hR2)
  by_cases hbad : (i = 9 ∧ 1 < c) ∨ (0 < i ∧ c = 0)
  · rw [if_pos hbad] at hloop
    have hcase : (((i : Int) == 9) = true ∧ decide (1 < (c : Int)) = true) ∨ (((i : Int) == 9) = true ∧ decide (1 < (c : Int)) = false ∧ decide (0 < (i : Int)) = true ∧ ((c : Int) == 0) = true) ∨ (((i : Int) == 9) = false ∧ decide (0 < (i : Int)) = true ∧ ((c : Int) == 0) = true) := by
      simp; omega
    rcases hcase with ⟨f1, f2⟩ | ⟨f1, f2, f3, f4⟩ | ⟨f1, f3, f4⟩
    · simp -failIfUnchanged -implicitDefEqProofs (disch := first | assumption | decide | omega) only [wkA, instrE, astepE, evE, evsE, evoE, evpE, elook, econs, eonly, putE, argE, pickE, resE, rsE, rE, Option.bind_some, Option.bind_none, Option.map_some, Option.map_none, ↓reduceIte, Nat.reduceEqDiff, Nat.reduceAdd, Nat.zero_add, Nat.add_zero, Nat.reduceLT, Nat.reduceLeDiff, Bool.false_eq_true, f1, f2, l1]
      refine wrong52 t.at_ 2 (by decide) _ _ _ hk fun hp2 hk2 hR2 => ?_
      simp -failIfUnchanged -implicitDefEqProofs (disch := first | assumption | decide | omega) only [wkA, instrE, astepE, evE, evsE, evoE, evpE, elook, econs, eonly, putE, argE, pickE, resE, rsE, rE, Option.bind_some, Option.bind_none, Option.map_some, Option.map_none, ↓reduceIte, Nat.reduceEqDiff, Nat.reduceAdd, Nat.zero_add, Nat.add_zero, Nat.reduceLT, Nat.reduceLeDiff, Bool.false_eq_true]
      exact bad hloop _ hk2 hR2
    · simp -failIfUnchanged -implicitDefEqProofs (disch := first | assumption | decide | omega) only [wkA, instrE, astepE, evE, evsE, evoE, evpE, elook, econs, eonly, putE, argE, pickE, resE, rsE, rE, Option.bind_some, Option.bind_none, Option.map_some, Option.map_none, ↓reduceIte, Nat.reduceEqDiff, Nat.reduceAdd, Nat.zero_add, Nat.add_zero, Nat.reduceLT, Nat.reduceLeDiff, Bool.false_eq_true, f1, f2, f3, f4, l1]
      refine wrong52 t.at_ 2 (by decide) _ _ _ hk fun hp2 hk2 hR2 => ?_
      simp -failIfUnchanged -implicitDefEqProofs (disch := first | assumption | decide | omega) only [wkA, instrE, astepE, evE, evsE, evoE, evpE, elook, econs, eonly, putE, argE, pickE, resE, rsE, rE, Option.bind_some, Option.bind_none, Option.map_some, Option.map_none, ↓reduceIte, Nat.reduceEqDiff, Nat.reduceAdd, Nat.zero_add, Nat.add_zero, Nat.reduceLT, Nat.reduceLeDiff, Bool.false_eq_true]
      exact bad hloop _ hk2 hR2
    · simp -failIfUnchanged -implicitDefEqProofs (disch := first | assumption | decide | omega) only [wkA, instrE, astepE, evE, evsE, evoE, evpE, elook, econs, eonly, putE, argE, pickE, resE, rsE, rE, Option.bind_some, Option.bind_none, Option.map_some, Option.map_none, ↓reduceIte, Nat.reduceEqDiff, Nat.reduceAdd, Nat.zero_add, Nat.add_zero, Nat.reduceLT, Nat.reduceLeDiff, Bool.false_eq_true, f1, f3, f4, l1]
      refine wrong52 t.at_ 2 (by decide) _ _ _ hk fun hp2 hk2 hR2 => ?_
      simp -failIfUnchanged -implicitDefEqProofs (disch := first | assumption | decide | omega) only [wkA, instrE, astepE, evE, evsE, evoE, evpE, elook, econs, eonly, putE, argE, pickE, resE, rsE, rE, Option.bind_some, Option.bind_none, Option.map_some, Option.map_none, ↓reduceIte, Nat.reduceEqDiff, Nat.reduceAdd, Nat.zero_add, Nat.add_zero, Nat.reduceLT, Nat.reduceLeDiff, Bool.false_eq_true]
      exact bad hloop _ hk2 hR2
  rw [if_neg hbad] at hloop
  have h9 : i = 9 → c ≤ 1 := by omega
  obtain ⟨q1, q2, q3⟩ := rdStep hu (by omega) h9
  have x1 := andNot_128 hc8
  have x2 := or_shift hu (by omega) q3
  have x3 : IntKind.i64.wrap (7 * (i : Int)) = 7 * (i : Int) := wrap_i64 (by omega) (by omega)
  have x4 : IntKind.i64.wrap ((t.at_ : Int) + 1) = ((t.at_ + 1 : Nat) : Int) := by
    have := hb.len
    rw [wrap_i64 (by omega) (by omega)]; rfl
  have x5 : ¬ (7 * (i : Int)) < 0 := by omega
  have s1 := store_cell (o := 1) (x := i64 ((t.at_ + 1 : Nat) : Int)) hk (by simp [rdc]) rfl rfl
  have k1 := set_at (b' := .cells ((rdc b t).set 1 (i64 ((t.at_ + 1 : Nat) : Int))) false) hk
  have kc : (rdc b t).set 1 (i64 ((t.at_ + 1 : Nat) : Int)) = rdc b t.next := by simp [rdc, RS.next]
  rw [kc] at s1 k1
  have hR2 := hR.trans (HKeep.set hp' k (.cells (rdc b t.next) false))
  have hcase : (((i : Int) == 9) = true ∧ decide (1 < (c : Int)) = false ∧ decide (0 < (i : Int)) = true ∧ ((c : Int) == 0) = false) ∨ (((i : Int) == 9) = false ∧ decide (0 < (i : Int)) = true ∧ ((c : Int) == 0) = false) ∨ (((i : Int) == 9) = false ∧ decide (0 < (i : Int)) = false) := by
    simp; omega
  have fin : c < 128 → ∀ hp2, hp2[k]? = some (.cells (rdc b t.next) false) → HKeep hp hp2 k → rdLoop bl 10 0 0 s = (some (u + c % 128 * 128 ^ i), t.next) → True := fun _ _ _ _ _ => trivial
  by_cases hlast : c < 128
  · rw [if_pos hlast] at hloop
    have f5 : decide ((c : Int) < 128) = true := by simp; omega
    rw [hloop] at hK
    simp only [rdEnd] at hK
    have y1 := and_one _ q2
    have y2 := xor_unzz _ q2
    generalize hv : u + c % 128 * 128 ^ i = w at *
    have y3 : ((w % 2 : Nat) : Int) = ((w % 2 : Nat) : Int) := rfl
    rcases hcase with ⟨f1, f2, f3, f4⟩ | ⟨f1, f3, f4⟩ | ⟨f1, f3⟩
    all_goals
      first
        | simp -failIfUnchanged -implicitDefEqProofs (disch := first | assumption | decide | omega) only [wkA, instrE, astepE, evE, evsE, evoE, evpE, elook, econs, eonly, putE, argE, pickE, resE, rsE, rE, Option.bind_some, Option.bind_none, Option.map_some, Option.map_none, ↓reduceIte, Nat.reduceEqDiff, Nat.reduceAdd, Nat.zero_add, Nat.add_zero, Nat.reduceLT, Nat.reduceLeDiff, Bool.false_eq_true, f1, f2, f3, f4, l1, abin_andNot, x1, x3, abin_shl, x2, abin_or, hv, x4, s1, f5, abin_shr, abin_and, y1, aun_neg, abin_xor, y2]
        | simp -failIfUnchanged -implicitDefEqProofs (disch := first | assumption | decide | omega) only [wkA, instrE, astepE, evE, evsE, evoE, evpE, elook, econs, eonly, putE, argE, pickE, resE, rsE, rE, Option.bind_some, Option.bind_none, Option.map_some, Option.map_none, ↓reduceIte, Nat.reduceEqDiff, Nat.reduceAdd, Nat.zero_add, Nat.add_zero, Nat.reduceLT, Nat.reduceLeDiff, Bool.false_eq_true, f1, f3, f4, l1, abin_andNot, x1, x3, abin_shl, x2, abin_or, hv, x4, s1, f5, abin_shr, abin_and, y1, aun_neg, abin_xor, y2]
        | simp -failIfUnchanged -implicitDefEqProofs (disch := first | assumption | decide | omega) only [wkA, instrE, astepE, evE, evsE, evoE, evpE, elook, econs, eonly, putE, argE, pickE, resE, rsE, rE, Option.bind_some, Option.bind_none, Option.map_some, Option.map_none, ↓reduceIte, Nat.reduceEqDiff, Nat.reduceAdd, Nat.zero_add, Nat.add_zero, Nat.reduceLT, Nat.reduceLeDiff, Bool.false_eq_true, f1, f3, l1, abin_andNot, x1, x3, abin_shl, x2, abin_or, hv, x4, s1, f5, abin_shr, abin_and, y1, aun_neg, abin_xor, y2]
      refine BoolCase.mk (fun h => ?_) fun h => ?_
      · have hr : unzz w < low ∨ high < unzz w := Or.inl (by simpa using h)
        rw [if_pos hr] at hK
        simp -failIfUnchanged -implicitDefEqProofs (disch := first | assumption | decide | omega) only [wkA, instrE, astepE, evE, evsE, evoE, evpE, elook, econs, eonly, putE, argE, pickE, resE, rsE, rE, Option.bind_some, Option.bind_none, Option.map_some, Option.map_none, ↓reduceIte, Nat.reduceEqDiff, Nat.reduceAdd, Nat.zero_add, Nat.add_zero, Nat.reduceLT, Nat.reduceLeDiff, Bool.false_eq_true, h]
        refine wrong52 s.at_ 3 (by decide) _ _ _ k1 fun hp2 hk2 hR3 => ?_
        simp -failIfUnchanged -implicitDefEqProofs (disch := first | assumption | decide | omega) only [wkA, instrE, astepE, evE, evsE, evoE, evpE, elook, econs, eonly, putE, argE, pickE, resE, rsE, rE, Option.bind_some, Option.bind_none, Option.map_some, Option.map_none, ↓reduceIte, Nat.reduceEqDiff, Nat.reduceAdd, Nat.zero_add, Nat.add_zero, Nat.reduceLT, Nat.reduceLeDiff, Bool.false_eq_true]
        exact hK _ hk2 (hR2.trans hR3)
      · simp -failIfUnchanged -implicitDefEqProofs (disch := first | assumption | decide | omega) only [wkA, instrE, astepE, evE, evsE, evoE, evpE, elook, econs, eonly, putE, argE, pickE, resE, rsE, rE, Option.bind_some, Option.bind_none, Option.map_some, Option.map_none, ↓reduceIte, Nat.reduceEqDiff, Nat.reduceAdd, Nat.zero_add, Nat.add_zero, Nat.reduceLT, Nat.reduceLeDiff, Bool.false_eq_true, h]
        refine BoolCase.mk (fun h' => ?_) fun h' => ?_
        · have hr : unzz w < low ∨ high < unzz w := Or.inr (by simpa using h')
          rw [if_pos hr] at hK
          simp -failIfUnchanged -implicitDefEqProofs (disch := first | assumption | decide | omega) only [wkA, instrE, astepE, evE, evsE, evoE, evpE, elook, econs, eonly, putE, argE, pickE, resE, rsE, rE, Option.bind_some, Option.bind_none, Option.map_some, Option.map_none, ↓reduceIte, Nat.reduceEqDiff, Nat.reduceAdd, Nat.zero_add, Nat.add_zero, Nat.reduceLT, Nat.reduceLeDiff, Bool.false_eq_true, h']
          refine wrong52 s.at_ 3 (by decide) _ _ _ k1 fun hp2 hk2 hR3 => ?_
          simp -failIfUnchanged -implicitDefEqProofs (disch := first | assumption | decide | omega) only [wkA, instrE, astepE, evE, evsE, evoE, evpE, elook, econs, eonly, putE, argE, pickE, resE, rsE, rE, Option.bind_some, Option.bind_none, Option.map_some, Option.map_none, ↓reduceIte, Nat.reduceEqDiff, Nat.reduceAdd, Nat.zero_add, Nat.add_zero, Nat.reduceLT, Nat.reduceLeDiff, Bool.false_eq_true]
          exact hK _ hk2 (hR2.trans hR3)
        · have hr : ¬ (unzz w < low ∨ high < unzz w) := by simp at h h'; omega
          rw [if_neg hr] at hK
          simp -failIfUnchanged -implicitDefEqProofs (disch := first | assumption | decide | omega) only [wkA, instrE, astepE, evE, evsE, evoE, evpE, elook, econs, eonly, putE, argE, pickE, resE, rsE, rE, Option.bind_some, Option.bind_none, Option.map_some, Option.map_none, ↓reduceIte, Nat.reduceEqDiff, Nat.reduceAdd, Nat.zero_add, Nat.add_zero, Nat.reduceLT, Nat.reduceLeDiff, Bool.false_eq_true, h']
          exact hK _ k1 hR2
  · rw [if_neg hlast] at hloop
    have f5 : decide ((c : Int) < 128) = false := by simp; omega
    have x6 : IntKind.i64.wrap ((i : Int) + 1) = ((i + 1 : Nat) : Int) := by rw [wrap_i64 (by omega) (by omega)]; rfl
    rcases hcase with ⟨f1, f2, f3, f4⟩ | ⟨f1, f3, f4⟩ | ⟨f1, f3⟩
    · simp at f1 f2; omega
    all_goals
      first
        | simp -failIfUnchanged -implicitDefEqProofs (disch := first | assumption | decide | omega) only [wkA, instrE, astepE, evE, evsE, evoE, evpE, elook, econs, eonly, putE, argE, pickE, resE, rsE, rE, Option.bind_some, Option.bind_none, Option.map_some, Option.map_none, ↓reduceIte, Nat.reduceEqDiff, Nat.reduceAdd, Nat.zero_add, Nat.add_zero, Nat.reduceLT, Nat.reduceLeDiff, Bool.false_eq_true, f1, f3, f4, l1, abin_andNot, x1, x3, abin_shl, x2, abin_or, x4, s1, f5, x6]
        | simp -failIfUnchanged -implicitDefEqProofs (disch := first | assumption | decide | omega) only [wkA, instrE, astepE, evE, evsE, evoE, evpE, elook, econs, eonly, putE, argE, pickE, resE, rsE, rE, Option.bind_some, Option.bind_none, Option.map_some, Option.map_none, ↓reduceIte, Nat.reduceEqDiff, Nat.reduceAdd, Nat.zero_add, Nat.add_zero, Nat.reduceLT, Nat.reduceLeDiff, Bool.false_eq_true, f1, f3, l1, abin_andNot, x1, x3, abin_shl, x2, abin_or, x4, s1, f5, x6]
      refine ⟨f, by omega, i + 1, _, t.next, by omega, ?_, rfl, k1, hR2, ht0, h1, q1, hloop⟩
      have := f1
      simp at this
      omega

end Go.Proofs.Ytllgfmijocgniaa
