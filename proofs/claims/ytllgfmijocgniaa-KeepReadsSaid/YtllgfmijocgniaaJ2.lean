/- How long a frame is; a journal's frames, one after another: a plain law; and the program's walk over them. -/
import Derived.Test.YtllgfmijocgniaaJ1
import Derived.Test.YtllgfmijocgniaaG5
set_option linter.unusedVariables false
set_option linter.unusedSimpArgs false
namespace Go.Proofs.Ytllgfmijocgniaa
open Go Go.Abs Go.RowKit

def leN (l : List Nat) : Nat → Nat
  | 0 => 0
  | i + 1 => leN l i + l.getD i 0 * 256 ^ i
/-- The number that four bytes tell. -/
def le32 (b : List Nat) (p : Nat) : Nat := leN (b.drop p) 4

theorem getD_small {l : List Nat} (hs : ∀ x ∈ l, x < 256) (i : Nat) : l.getD i 0 < 256 := by
  rw [List.getD_eq_getElem?_getD]
  cases h : l[i]? with
  | none => simp
  | some c => simpa using hs c (List.mem_of_getElem? h)

theorem leN_lt {l : List Nat} (hs : ∀ x ∈ l, x < 256) : ∀ i, leN l i < 256 ^ i
  | 0 => by simp [leN]
  | i + 1 => by
    have := leN_lt hs i
    have hc := getD_small hs i
    have e : (256 : Nat) ^ (i + 1) = 256 ^ i * 256 := Nat.pow_succ ..
    have : l.getD i 0 * 256 ^ i ≤ 255 * 256 ^ i := Nat.mul_le_mul_right _ (by omega)
    simp only [leN]
    omega

theorem le_shift {u c i : Nat} (hu : u < 256 ^ i) (hi : i < 4) (h : c < 256) :
    bitsOp .i64 (u : Int) (IntKind.i64.wrap (IntKind.i64.wrap (c : Int) * 2 ^ (min (8 * (i : Int)).toNat IntKind.i64.bits))) (· ||| ·) = .int .i64 ((u + c * 256 ^ i : Nat) : Int) := by
  have e : ∀ a b : Int, bitsOp .i64 a b (· ||| ·) = .int .i64 (IntKind.i64.wrap ((BitVec.ofInt 64 a ||| BitVec.ofInt 64 b).toNat : Int)) := fun _ _ => rfl
  have hp : (2 : Nat) ^ (8 * i) = 256 ^ i := by rw [Nat.pow_mul]
  have hm : min (8 * (i : Int)).toNat IntKind.i64.bits = 8 * i := by
    show min _ 64 = _
    omega
  have hpi : (2 : Int) ^ (8 * i) = ((256 ^ i : Nat) : Int) := by rw [← hp]; simp
  have h3 : (256 : Nat) ^ i ≤ 256 ^ 3 := Nat.pow_le_pow_right (by decide) (by omega)
  have h33 : (256 : Nat) ^ 3 = 16777216 := by decide
  have hcm : c * 256 ^ i ≤ 255 * 256 ^ 3 := Nat.mul_le_mul (by omega) h3
  have hw1 : IntKind.i64.wrap (c : Int) = (c : Int) := wrap_i64 (by omega) (by omega)
  have hw2 : IntKind.i64.wrap ((c : Int) * ((256 ^ i : Nat) : Int)) = ((c * 256 ^ i : Nat) : Int) := by
    rw [← Int.natCast_mul]
    exact wrap_i64 (by omega) (by omega)
  have p64 : (2 : Nat) ^ 64 = 18446744073709551616 := by decide
  rw [hm, hw1, hpi, hw2, e, ofInt_nat, ofInt_nat, BitVec.toNat_or, BitVec.toNat_ofNat, BitVec.toNat_ofNat]
  rw [p64, Nat.mod_eq_of_lt (by omega : u < 18446744073709551616), Nat.mod_eq_of_lt (by omega)]
  have hor : u ||| c * 256 ^ i = u + c * 256 ^ i := by
    have := Nat.two_pow_add_eq_or_of_lt (b := u) (i := 8 * i) (by rw [hp]; exact hu) c
    rw [hp] at this
    rw [Nat.or_comm, Nat.mul_comm c, ← this, Nat.add_comm]
  rw [hor]
  congr 1
  exact wrap_i64 (by omega) (by omega)

theorem length61 {v : AV} {l : List Nat} (hv : Slc v (bs l)) (hs : ∀ x ∈ l, x < 256) (hl : 4 ≤ l.length) : PureSpec Try.prog 61 [v] (i64 (leN l 4)) := by
  refine pureSpec_of (fnE mixed T61 U61 (Nat.le_of_ble_eq_true rfl) ?_)
  unfold c61
  simp -failIfUnchanged -implicitDefEqProofs (disch := first | assumption | decide | omega) only [wkA, instrE, astepE, evE, evsE, evoE, evpE, elook, econs, eonly, putE, argE, pickE, resE, rsE, rE, Option.bind_some, Option.bind_none, Option.map_some, Option.map_none, ↓reduceIte, Nat.reduceEqDiff, Nat.reduceAdd, Nat.zero_add, Nat.add_zero, Nat.reduceLT, Nat.reduceLeDiff, Bool.false_eq_true]
  refine wpE_count (fun i e hp => e = [(0, v), (3, i64 (leN l i)), (5, i64 i)] ∧ i ≤ 4) 4 ⟨rfl, by decide⟩ ?_ ?_
  · rintro i e hp hi ⟨rfl, _⟩
    obtain ⟨c, hc⟩ : ∃ c, l[i]? = some c := ⟨l[i], List.getElem?_eq_getElem (by omega)⟩
    have hc8 := hs c (List.mem_of_getElem? hc)
    have e1 : aia 1 v (.v (.int .i64 i)) = some (.fp [.v (.int .u8 (c : Nat))] 0) := hv.ia (bs_get hc) rfl
    have e2 : ∀ hp, aload hp false 1 (.fp [.v (.int .u8 (c : Nat))] 0) = some (.v (.int .u8 (c : Nat))) := fun hp => rfl
    have d1 : decide ((i : Int) < 4) = true := by simp; omega
    have x3 : IntKind.i64.wrap (8 * (i : Int)) = 8 * (i : Int) := wrap_i64 (by omega) (by omega)
    have x5 : ¬ (8 * (i : Int)) < 0 := by omega
    have x6 : IntKind.i64.wrap ((i : Int) + 1) = ((i + 1 : Nat) : Int) := by rw [wrap_i64 (by omega) (by omega)]; rfl
    have x2 := le_shift (leN_lt hs i) hi hc8
    simp -failIfUnchanged -implicitDefEqProofs (disch := first | assumption | decide | omega) only [wkA, instrE, astepE, evE, evsE, evoE, evpE, elook, econs, eonly, putE, argE, pickE, resE, rsE, rE, Option.bind_some, Option.bind_none, Option.map_some, Option.map_none, ↓reduceIte, Nat.reduceEqDiff, Nat.reduceAdd, Nat.zero_add, Nat.add_zero, Nat.reduceLT, Nat.reduceLeDiff, Bool.false_eq_true, d1, e1, e2, x3, abin_shl, abin_or, x2, x6]
    refine ⟨?_, by omega⟩
    have : l.getD i 0 = c := by rw [List.getD_eq_getElem?_getD, hc]; rfl
    simp only [leN, this]
  · rintro e hp ⟨rfl, _⟩
    have d0 : decide (((4 : Nat) : Int) < 4) = false := by decide
    simp -failIfUnchanged -implicitDefEqProofs (disch := first | assumption | decide | omega) only [wkA, instrE, astepE, evE, evsE, evoE, evpE, elook, econs, eonly, putE, argE, pickE, resE, rsE, rE, Option.bind_some, Option.bind_none, Option.map_some, Option.map_none, ↓reduceIte, Nat.reduceEqDiff, Nat.reduceAdd, Nat.zero_add, Nat.add_zero, Nat.reduceLT, Nat.reduceLeDiff, Bool.false_eq_true, d0]
    exact impC_v _

/-! Frames. -/
def frameOf (q : Nat) : Option (List Opr) × Nat × Nat → Option (Opr × Nat)
  | (some [o], _, 0) => some (o, q)
  | _ => none
theorem frameOf_some {q : Nat} {u : Option (List Opr) × Nat × Nat} {r : Opr × Nat} (h : frameOf q u = some r) : r.2 = q := by
  unfold frameOf at h
  split at h
  · cases h; rfl
  · cases h
theorem frameOf_app (q k : Nat) (u : Option (List Opr) × Nat × Nat) : frameOf (k + q) u = (frameOf q u).map fun r => (r.1, k + r.2) := by
  unfold frameOf
  split <;> rfl
theorem frameOf_bad {q : Nat} {u : Option (List Opr) × Nat × Nat} (h : u.2.2 ≠ 0) : frameOf q u = none := by
  unfold frameOf
  split
  · exact (h rfl).elim
  · rfl
theorem frameOf_many {q : Nat} {u : Option (List Opr) × Nat × Nat} (h : (u.1.getD []).length ≠ 1) : frameOf q u = none := by
  unfold frameOf
  split
  · exact (h rfl).elim
  · rfl
def unpAt (b : List Nat) (p n : Nat) : Option (List Opr) × Nat × Nat := unp ((b.drop p).take n) (rdOpr ((b.drop p).take n))
def frameAt (b : List Nat) (p : Nat) : Option (Opr × Nat) :=
  if p + 4 ≤ b.length ∧ le32 b p ≤ b.length - (p + 4) then frameOf (p + 4 + le32 b p) (unpAt b (p + 4) (le32 b p)) else none

inductive Frames (b : List Nat) : Nat → List Opr → Nat → Prop
  | done {p : Nat} (h : frameAt b p = none) : Frames b p [] p
  | step {p q r : Nat} {o : Opr} {l : List Opr} (h : frameAt b p = some (o, q)) (hr : Frames b q l r) : Frames b p (o :: l) r

theorem frameAt_lt {b : List Nat} {p q : Nat} {o : Opr} (h : frameAt b p = some (o, q)) : p < q ∧ q ≤ b.length ∧ p + 4 ≤ b.length := by
  unfold frameAt at h
  split at h
  · rename_i hc
    have := frameOf_some h
    simp only at this
    omega
  · cases h

theorem frames_ex (b : List Nat) : ∀ n p, b.length - p = n → ∃ l q, Frames b p l q := by
  intro n
  induction n using Nat.strongRecOn with
  | _ n ih =>
    intro p hn
    cases h : frameAt b p with
    | none => exact ⟨[], p, .done h⟩
    | some r =>
      obtain ⟨o, q⟩ := r
      have := frameAt_lt h
      obtain ⟨l, r, hr⟩ := ih (b.length - q) (by omega) q rfl
      exact ⟨o :: l, r, .step h hr⟩

theorem frameAt_app (pre b : List Nat) (p : Nat) : frameAt (pre ++ b) (pre.length + p) = (frameAt b p).map fun r => (r.1, pre.length + r.2) := by
  have e1 : ∀ k, (pre ++ b).drop (pre.length + k) = b.drop k := fun k => by rw [← List.drop_drop, List.drop_left]
  have e2 : le32 (pre ++ b) (pre.length + p) = le32 b p := by unfold le32; rw [e1]
  have e3 : ∀ n, unpAt (pre ++ b) (pre.length + (p + 4)) n = unpAt b (p + 4) n := fun n => by unfold unpAt; rw [e1]
  unfold frameAt
  rw [e2, show pre.length + p + 4 = pre.length + (p + 4) by omega, e3, Nat.add_assoc, frameOf_app]
  by_cases h : p + 4 ≤ b.length ∧ le32 b p ≤ b.length - (p + 4)
  · rw [if_pos h, if_pos (by simp; omega)]
  · rw [if_neg h, if_neg (by simp; omega)]
    rfl

theorem Frames.app (pre : List Nat) {b : List Nat} {p q : Nat} {l : List Opr} (h : Frames b p l q) : Frames (pre ++ b) (pre.length + p) l (pre.length + q) := by
  induction h with
  | done h => exact .done (by rw [frameAt_app, h]; rfl)
  | step h _ ih => exact .step (by rw [frameAt_app, h]; rfl) ih

def le4 (n : Nat) : List Nat := [n % 256, n / 256 % 256, n / 65536 % 256, n / 16777216 % 256]
theorem leN_le4 {n : Nat} (h : n < 4294967296) (r : List Nat) : leN (le4 n ++ r) 4 = n := by
  simp [leN, le4]
  omega
def encFrame (o : Opr) : List Nat := le4 (encOprs [o]).length ++ encOprs [o]

theorem unOpr1 {o : Opr} (hk : o.Ok) (hf : fewStps (stpsOf o) = true) : unp (encOprs [o]) (rdOpr (encOprs [o])) = (some [o.nrm], 0, 0) := by
  have := unOprs (l := [o]) (fun t ht => by simp at ht; subst ht; exact hk) (fun t ht => by simp at ht; subst ht; exact few_ofits hf) (by simp)
  rw [this]; rfl

theorem encOprs1_len {o : Opr} (hk : o.Ok) (hf : fewStps (stpsOf o) = true) : (encOprs [o]).length ≤ 764080 := by
  have := encMany_max encOpr [o] 764070 (fun x hx => by simp at hx; subst hx; exact encOpr_len hk hf) (by simp)
  unfold encOprs
  simp at this
  omega

theorem frameAt_enc {o : Opr} (hk : o.Ok) (hf : fewStps (stpsOf o) = true) (r : List Nat) : frameAt (encFrame o ++ r) 0 = some (o.nrm, (encFrame o).length) := by
  have hl := encOprs1_len hk hf
  have e1 : le32 (encFrame o ++ r) 0 = (encOprs [o]).length := by
    unfold le32 encFrame
    rw [List.drop_zero, List.append_assoc]
    exact leN_le4 (by omega) _
  have e4 : (le4 (encOprs [o]).length).length = 4 := rfl
  have e2 : ((encFrame o ++ r).drop 4).take (encOprs [o]).length = encOprs [o] := by
    unfold encFrame
    rw [List.append_assoc, List.drop_left' e4, List.take_left]
  have e3 : unpAt (encFrame o ++ r) 4 (encOprs [o]).length = (some [o.nrm], 0, 0) := by unfold unpAt; rw [e2, unOpr1 hk hf]
  unfold frameAt
  rw [Nat.zero_add, e1, if_pos (by simp [encFrame, e4]), e3]
  simp [encFrame, e4, frameOf]

theorem frames_enc : ∀ {l : List Opr}, (∀ o ∈ l, o.Ok ∧ fewStps (stpsOf o) = true) → ∀ {b : List Nat} {k : List Opr} {q : Nat}, Frames b 0 k q → Frames (l.flatMap encFrame ++ b) 0 (l.map Opr.nrm ++ k) ((l.flatMap encFrame).length + q)
  | [], _, b, k, q, h => by simpa using h
  | o :: r, hok, b, k, q, h => by
    have ih := frames_enc (l := r) (fun x hx => hok x (by simp [hx])) h
    have h1 := ih.app (encFrame o)
    have h0 := hok o (by simp)
    simp only [List.flatMap_cons, List.append_assoc, List.map_cons, List.cons_append, List.length_append]
    refine .step (frameAt_enc h0.1 h0.2 _) ?_
    simpa [Nat.add_assoc] using h1

end Go.Proofs.Ytllgfmijocgniaa
