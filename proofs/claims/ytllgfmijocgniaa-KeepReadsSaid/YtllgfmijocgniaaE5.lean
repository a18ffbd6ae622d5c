/- What the readers read: a plain law; and the program's reader of numbers. -/
import Derived.Test.YtllgfmijocgniaaE4
set_option linter.unusedVariables false
set_option linter.unusedSimpArgs false
namespace Go.Proofs.Ytllgfmijocgniaa
open Go Go.Abs Go.RowKit

/-- Where a reader is: its place, its first fault, and where that is. -/
structure RS where
  at_ : Nat
  fault : Nat
  whr : Nat

def RS.wrong (s : RS) (p e : Nat) : RS := if s.fault = 0 then ⟨s.at_, e, p⟩ else s
def RS.next (s : RS) : RS := ⟨s.at_ + 1, s.fault, s.whr⟩

def rdLoop (b : List Nat) : Nat → Nat → Nat → RS → Option Nat × RS
  | 0, _, _, s => (none, s)
  | f + 1, i, u, s => match b[s.at_]? with
    | none => (none, s.wrong s.at_ 5)
    | some c => if (i = 9 ∧ 1 < c) ∨ (0 < i ∧ c = 0) then (none, s.wrong s.at_ 2)
      else if c < 128 then (some (u + c % 128 * 128 ^ i), s.next) else rdLoop b f (i + 1) (u + c % 128 * 128 ^ i) s.next

def unzz (u : Nat) : Int := if u % 2 = 1 then -1 - ((u / 2 : Nat) : Int) else ((u / 2 : Nat) : Int)

def rdEnd (low high : Int) (s : RS) : Option Nat × RS → Int × RS
  | (none, t) => (0, t)
  | (some u, t) => if unzz u < low ∨ high < unzz u then (0, t.wrong s.at_ 3) else (unzz u, t)

def rdNum (b : List Nat) (low high : Int) (s : RS) : Int × RS :=
  if s.fault = 0 then rdEnd low high s (rdLoop b 10 0 0 s) else (0, s)

/-- All old blocks but one are as they were. -/
structure HKeep (hp hp' : List Blk) (k : Nat) : Prop where
  len : hp.length ≤ hp'.length
  same : ∀ (j : Nat) x, j ≠ k → hp[j]? = some x → hp'[j]? = some x

theorem HKeep.refl (hp : List Blk) (k : Nat) : HKeep hp hp k := ⟨Nat.le_refl _, fun _ _ _ h => h⟩
theorem HKeep.trans {a b c : List Blk} {k : Nat} (h : HKeep a b k) (h' : HKeep b c k) : HKeep a c k := ⟨Nat.le_trans h.len h'.len, fun j x hj q => h'.same j x hj (h.same j x hj q)⟩
theorem HKeep.set (a : List Blk) (k : Nat) (b : Blk) : HKeep a (a.set k b) k := ⟨by simp, fun j x hj q => by rw [List.getElem?_set_ne (Ne.symm hj)]; exact q⟩
theorem HKeep.ext (a l : List Blk) (k : Nat) : HKeep a (a ++ l) k := ⟨by simp, fun j x _ q => get_ext q⟩

/-- A reader's block. -/
def rdc (b : AV) (s : RS) : List AV := [b, i64 s.at_, i64 s.fault, i64 s.whr]
/-- The same of the reference's. -/
def rdr (b : AV) (s : RS) : List AV := [b, i64 s.at_, i64 s.whr, i64 s.fault]

/-- A call that takes a reader on. -/
def Reads (f : FuncId) (args : List AV) (c : RS → List AV) (s s' : RS) (r : AV) : Prop := ∀ hp k (K : AV → List Blk → Prop), hp[k]? = some (.cells (c s) false) →
  (∀ hp', hp'[k]? = some (.cells (c s') false) → HKeep hp hp' k → K r hp') → CallOk Try.prog f (.mp k 0 :: args) hp K

/-- One cell of a block, written. -/
theorem store_cell {hp : List Blk} {k o : Nat} {cs : List AV} {x : AV} (hk : hp[k]? = some (.cells cs false)) (ho : o < cs.length) (hc : x.cells = [x]) (h1 : x.one = true) : astore hp 1 (.mp k o) x = some (hp.set k (.cells (cs.set o x) false)) := by
  unfold astore
  simp only [hk]
  rw [if_pos ⟨by rw [hc]; rfl, by omega, by rw [hc]; simp [h1]⟩, hc]
  congr 3
  unfold putAt
  congr 1
  rw [List.set_eq_take_append_cons_drop, if_pos ho]
  simp

theorem set_at {hp : List Blk} {k : Nat} {b b' : Blk} (h : hp[k]? = some b) : (hp.set k b')[k]? = some b' := List.getElem?_set_self (List.getElem?_eq_some_iff.1 h).1

theorem wrong52 {b : AV} {s : RS} (p e : Nat) (he : e ≠ 0) : Reads 52 [i64 p, i64 e] (rdc b) s (s.wrong p e) (.tup []) := by
  intro hp k K hk hK
  refine fnE mixed T52 U52 (Nat.le_of_ble_eq_true rfl) ?_
  unfold c52
  have l2 : aload hp false 1 (.mp k 2) = some (i64 s.fault) := aload_mp hk rfl
  simp -failIfUnchanged -implicitDefEqProofs (disch := first | assumption | decide | omega) only [wkA, instrE, astepE, evE, evsE, evoE, evpE, elook, econs, eonly, putE, argE, pickE, resE, rsE, rE, Option.bind_some, Option.bind_none, Option.map_some, Option.map_none, ↓reduceIte, Nat.reduceEqDiff, Nat.reduceAdd, Nat.zero_add, Nat.add_zero, Nat.reduceLT, Nat.reduceLeDiff, Bool.false_eq_true, l2]
  refine BoolCase.mk (fun h => ?_) fun h => ?_
  · have h0 : s.fault = 0 := by simpa using h
    have s1 := store_cell (o := 2) (x := i64 e) hk (by simp [rdc]) rfl rfl
    have k1 := set_at (b' := .cells ((rdc b s).set 2 (i64 e)) false) hk
    have s2 := store_cell (o := 3) (x := i64 p) k1 (by simp [rdc]) rfl rfl
    simp -failIfUnchanged -implicitDefEqProofs (disch := first | assumption | decide | omega) only [wkA, instrE, astepE, evE, evsE, evoE, evpE, elook, econs, eonly, putE, argE, pickE, resE, rsE, rE, Option.bind_some, Option.bind_none, Option.map_some, Option.map_none, ↓reduceIte, Nat.reduceEqDiff, Nat.reduceAdd, Nat.zero_add, Nat.add_zero, Nat.reduceLT, Nat.reduceLeDiff, Bool.false_eq_true, s1, s2]
    refine hK _ ?_ ((HKeep.set _ _ _).trans (HKeep.set _ _ _))
    rw [set_at k1]
    simp [rdc, RS.wrong, h0]
  · have h0 : s.fault ≠ 0 := by simpa using h
    simp -failIfUnchanged -implicitDefEqProofs (disch := first | assumption | decide | omega) only [wkA, instrE, astepE, evE, evsE, evoE, evpE, elook, econs, eonly, putE, argE, pickE, resE, rsE, rE, Option.bind_some, Option.bind_none, Option.map_some, Option.map_none, ↓reduceIte, Nat.reduceEqDiff, Nat.reduceAdd, Nat.zero_add, Nat.add_zero, Nat.reduceLT, Nat.reduceLeDiff, Bool.false_eq_true]
    refine hK _ ?_ (HKeep.refl _ _)
    rw [hk]
    simp [RS.wrong, h0]

/-! Bits. -/
theorem andNot_table : ∀ x : Fin 256, (BitVec.ofNat 8 x.val &&& ~~~(128#8)).toNat = x.val % 128 := by decide +kernel

theorem ofInt_nat (w n : Nat) : BitVec.ofInt w (n : Int) = BitVec.ofNat w n := BitVec.ofInt_natCast w n

theorem andNot_128 {c : Nat} (h : c < 256) : bitsOp .u8 (c : Int) 128 (fun x y => x &&& ~~~y) = .int .u8 ((c % 128 : Nat) : Int) := by
  have e : bitsOp .u8 (c : Int) 128 (fun x y => x &&& ~~~y) = .int .u8 (IntKind.u8.wrap (((BitVec.ofInt 8 (c : Int)) &&& ~~~(BitVec.ofInt 8 128)).toNat : Int)) := rfl
  have t : (BitVec.ofNat 8 c &&& ~~~(128#8)).toNat = c % 128 := andNot_table ⟨c, h⟩
  have x2 : BitVec.ofInt 8 (128 : Int) = 128#8 := by decide
  rw [e, ofInt_nat, x2, t, wrap_u8]
  congr 1
  omega

theorem or_shift {u c i : Nat} (hu : u < 128 ^ i) (hi : i ≤ 9) (h : c % 128 * 128 ^ i < 18446744073709551616) :
    bitsOp .u64 (u : Int) (IntKind.u64.wrap (IntKind.u64.wrap ((c % 128 : Nat) : Int) * 2 ^ (min (7 * (i : Int)).toNat IntKind.u64.bits))) (· ||| ·) = .int .u64 ((u + c % 128 * 128 ^ i : Nat) : Int) := by
  have e : ∀ a b : Int, bitsOp .u64 a b (· ||| ·) = .int .u64 (IntKind.u64.wrap ((BitVec.ofInt 64 a ||| BitVec.ofInt 64 b).toNat : Int)) := fun _ _ => rfl
  have hp : (2 : Nat) ^ (7 * i) = 128 ^ i := by rw [Nat.pow_mul]
  have hm : min (7 * (i : Int)).toNat IntKind.u64.bits = 7 * i := by
    show min _ 64 = _
    omega
  have hpi : (2 : Int) ^ (7 * i) = ((128 ^ i : Nat) : Int) := by rw [← hp]; simp
  have h128 : (128 : Nat) ^ i ≤ 128 ^ 9 := Nat.pow_le_pow_right (by decide) hi
  have h9 : (128 : Nat) ^ 9 = 9223372036854775808 := by decide
  have hw1 : IntKind.u64.wrap ((c % 128 : Nat) : Int) = ((c % 128 : Nat) : Int) := by rw [wrap_u64]; omega
  have hw2 : IntKind.u64.wrap (((c % 128 : Nat) : Int) * ((128 ^ i : Nat) : Int)) = ((c % 128 * 128 ^ i : Nat) : Int) := by
    rw [wrap_u64, ← Int.natCast_mul]
    omega
  rw [hm, hw1, hpi, hw2, e, ofInt_nat, ofInt_nat, BitVec.toNat_or, BitVec.toNat_ofNat, BitVec.toNat_ofNat]
  have p64 : (2 : Nat) ^ 64 = 18446744073709551616 := by decide
  rw [p64, Nat.mod_eq_of_lt (by omega : u < 18446744073709551616), Nat.mod_eq_of_lt h]
  have hor : u ||| c % 128 * 128 ^ i = u + c % 128 * 128 ^ i := by
    have := Nat.two_pow_add_eq_or_of_lt (b := u) (i := 7 * i) (by rw [hp]; exact hu) (c % 128)
    rw [hp] at this
    rw [Nat.or_comm, Nat.mul_comm (c % 128), ← this, Nat.add_comm]
  rw [hor, wrap_u64]
  congr 1
  have hc : c % 128 < 128 := Nat.mod_lt _ (by decide)
  have hlt : u + c % 128 * 128 ^ i < 18446744073709551616 := by
    rcases Nat.lt_or_ge i 9 with h8 | h8
    · have h128' : (128 : Nat) ^ i ≤ 128 ^ 8 := Nat.pow_le_pow_right (by decide) (by omega)
      have h88 : (128 : Nat) ^ 8 = 72057594037927936 := by decide
      have : c % 128 * 128 ^ i ≤ 127 * 128 ^ 8 := Nat.mul_le_mul (by omega) h128'
      omega
    · have e9 : i = 9 := by omega
      subst e9
      rw [h9] at h hu ⊢
      have : c % 128 ≤ 1 := by omega
      have : c % 128 * 9223372036854775808 ≤ 1 * 9223372036854775808 := Nat.mul_le_mul_right _ this
      omega
  omega

end Go.Proofs.Ytllgfmijocgniaa
