/- Texts cut at a byte, and numbers as texts: in plain Lean, so that the kernel can compute them. No condition. -/
import Derived.Test.YtbcmdjlgdnippaaGreatDoorL1
import Derived.Lib.SplitLaws
import Derived.Lib.IndexBytes
import Derived.Lib.ItoaNum
set_option linter.unusedVariables false
namespace Go.Abs
open Go.Lib

/-- Where a byte stands first. -/
def idxA (n : Nat) : List UInt8 → Nat → Int
  | [], _ => -1
  | b :: r, i => match Nat.beq b.toNat n with
    | true => .ofNat i
    | false => idxA n r (i + 1)

theorem beq_byte (b c : UInt8) : Nat.beq b.toNat c.toNat = (b == c) := by
  rw [Bool.eq_iff_iff, Nat.beq_eq, beq_iff_eq]
  exact ⟨fun h => UInt8.toNat_inj.1 h, fun h => by rw [h]⟩

theorem idxA_eq (c : UInt8) : ∀ (l : List UInt8) (i : Nat), idxA c.toNat l i = if indexByte l c = -1 then -1 else i + indexByte l c
  | [], i => by simp [idxA, indexByte]
  | b :: r, i => by
    have hge := indexByte_ge r c
    by_cases h : b = c
    · subst h
      simp [idxA, indexByte]
    · have hb : (b == c) = false := by simpa using h
      rw [idxA, beq_byte, hb]
      simp only [indexByte, hb, Bool.false_eq_true, if_false, beq_iff_eq]
      rw [idxA_eq c r (i + 1)]
      by_cases h2 : indexByte r c = -1
      · simp [h2]
      · rw [if_neg h2, if_neg h2, if_neg (by omega)]
        omega
theorem idxA_zero (c : UInt8) (l : List UInt8) : idxA c.toNat l 0 = indexByte l c := by
  rw [idxA_eq]
  split
  · rename_i h; rw [h]
  · simp

/-- Cut at each byte n. -/
def splitL (n : Nat) : List UInt8 → List (List UInt8)
  | [] => [[]]
  | b :: r => match Nat.beq b.toNat n with
    | true => [] :: splitL n r
    | false => match splitL n r with
      | [] => [[b]]
      | h :: t => (b :: h) :: t

theorem splitL_cons (n : Nat) (l : List UInt8) : ∃ h t, splitL n l = h :: t := by
  cases l with
  | nil => exact ⟨_, _, rfl⟩
  | cons b r =>
    simp only [splitL]
    split
    · exact ⟨_, _, rfl⟩
    · split <;> exact ⟨_, _, rfl⟩

theorem splitL_miss (c : UInt8) : ∀ (l : List UInt8), indexByte l c = -1 → splitL c.toNat l = [l] ∧ l.count c = 0
  | [], _ => ⟨rfl, rfl⟩
  | b :: r, h => by
    simp only [indexByte] at h
    have hge := indexByte_ge r c
    cases hb : b == c with
    | true => rw [hb] at h; simp at h
    | false =>
      rw [hb] at h
      simp only [Bool.false_eq_true, if_false, beq_iff_eq] at h
      have h2 : indexByte r c = -1 := by
        split at h
        · assumption
        · omega
      obtain ⟨q1, q2⟩ := splitL_miss c r h2
      refine ⟨?_, ?_⟩
      · simp only [splitL, beq_byte, hb, q1]
      · rw [List.count_cons, q2, hb]; simp

theorem splitL_hit (c : UInt8) : ∀ (l : List UInt8) (i : Nat), indexByte l c = i → splitL c.toNat l = l.take i :: splitL c.toNat (l.drop (i + 1)) ∧ l.count c = (l.drop (i + 1)).count c + 1
  | [], i, h => by simp only [indexByte] at h; omega
  | b :: r, i, h => by
    simp only [indexByte] at h
    have hge := indexByte_ge r c
    cases hb : b == c with
    | true =>
      rw [hb] at h
      simp at h
      have hi : i = 0 := by omega
      subst hi
      refine ⟨?_, ?_⟩
      · simp only [splitL, beq_byte, hb]; try simp
      · simp only [Nat.zero_add, List.drop_succ_cons, List.drop_zero]
        rw [List.count_cons, hb]; simp
    | false =>
      rw [hb] at h
      simp only [Bool.false_eq_true, if_false, beq_iff_eq] at h
      split at h
      · omega
      · cases i with
        | zero => omega
        | succ i =>
          obtain ⟨q1, q2⟩ := splitL_hit c r i (by omega)
          refine ⟨?_, ?_⟩
          · simp only [splitL, beq_byte, hb, q1]; simp
          · rw [List.count_cons, q2, hb]; simp

theorem splitK_one (c : UInt8) : ∀ (k : Nat) (l : List UInt8), k = l.count c → splitK [c] 0 k l = splitL c.toNat l
  | 0, l, h => by
    have h1 : indexByte l c = -1 := by
      rcases Int.lt_or_le (indexByte l c) 0 with q | q
      · have := indexByte_ge l c; omega
      · obtain ⟨i, hi⟩ := Int.eq_ofNat_of_zero_le q
        have := (splitL_hit c l i hi).2
        omega
    rw [(splitL_miss c l h1).1]; rfl
  | k + 1, l, h => by
    unfold splitK
    rw [index_one]
    rcases Int.lt_or_le (indexByte l c) 0 with q | q
    · have h1 : indexByte l c = -1 := by have := indexByte_ge l c; omega
      have := (splitL_miss c l h1).2
      omega
    · obtain ⟨i, hi⟩ := Int.eq_ofNat_of_zero_le q
      obtain ⟨q1, q2⟩ := splitL_hit c l i hi
      rw [if_neg (by simp; omega), hi, q1]
      have e : (i : Int).toNat = i := rfl
      rw [e, Nat.add_zero]
      congr 1
      exact splitK_one c k _ (by simp; omega)

/-- A number's digits. -/
def digs : Nat → Nat → List UInt8
  | 0, u => [UInt8.ofNat (48 + u % 10)]
  | f + 1, u => match Nat.blt u 10 with
    | true => [UInt8.ofNat (48 + u)]
    | false => digs f (u / 10) ++ [UInt8.ofNat (48 + u % 10)]

theorem digs_eq : ∀ (f u : Nat), u < 10 ^ (f + 1) → digs f u = decDigits u
  | 0, u, h => by
    have : u < 10 := by simpa using h
    rw [decDigits, dif_pos this, digs, Nat.mod_eq_of_lt this]
  | f + 1, u, h => by
    rw [digs, decDigits]
    cases hb : Nat.blt u 10 with
    | true =>
      have : u < 10 := Nat.le_of_ble_eq_true hb
      rw [dif_pos this]
    | false =>
      have : ¬ u < 10 := fun q => by rw [show Nat.blt u 10 = true from Nat.ble_eq_true_of_le q] at hb; cases hb
      rw [dif_neg this, digs_eq f (u / 10) (by rw [Nat.pow_succ] at h; omega)]

end Go.Abs
