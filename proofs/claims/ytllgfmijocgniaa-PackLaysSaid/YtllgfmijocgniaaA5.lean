/- More operations on abstract values: addresses, numbers, comparisons, lengths, slices. No condition. -/
import Derived.Test.YtllgfmijocgniaaA4
namespace Go.Abs
open Go.RowKit

section
variable {base : Nat} {w0 : Root} {w : World} {C : Cells} {M : List Loc} {hp : List Blk} {P : Program}

/-- A field's address. -/
def afa (off : Nat) : AV → Option AV
  | .fp cs o => some (.fp cs (o + off))
  | .mp k o => some (.mp k (o + off))
  | _ => none

theorem rep_move {x r : AV} {y : Value} {off : Nat} (hx : Rep C M hp x y) (hr : afa off x = some r) : ∃ a, y = .pointer (some a) ∧ Rep C M hp r (.pointer (some (a.add off))) := by
  unfold afa at hr
  split at hr
  · cases hr
    cases hx with
    | fp f hC hR => exact ⟨_, rfl, by rw [addr_add, Nat.add_assoc]; exact .fp f hC hR⟩
  · cases hr
    cases hx with
    | mp hb hM => exact ⟨_, rfl, by rw [addr_add]; exact .mp hb hM⟩
  · cases hr

theorem gives_fa {s : TypeId} {fields : Array Field} {field off n : Nat} {f : Field} (hs : P.underlying s = some (.struct fields)) (hf : fields[field]? = some f) (ho : f.offset = off)
    (hn : tySize P f.type = some n) (hn0 : n ≠ 0) (h : Sim base w0 C M hp w) {x r : AV} {y : Value} (hx : Rep C M hp x y) (hr : afa off x = some r) :
    Gives base w0 C M hp P (Instr.fieldAt s y field) w r hp := by
  obtain ⟨a, rfl, hr'⟩ := rep_move hx hr
  refine .same h ?_ hr'
  simp [Instr.fieldAt, run_underlying hs, hf, Instr.sureAddr, fieldPlace, run_sizeOf' hn, hn0, ho]

/-- The address of an element of a slice. -/
def aia (n : Nat) : AV → AV → Option AV
  | .sl xs _, .v (.int _ i) => if 0 ≤ i then match xs[i.toNat]? with
      | some x => if x.cells.length = n then some (.fp x.cells 0) else none
      | none => none
    else none
  | .ms k off len _, .v (.int _ i) => if 0 ≤ i ∧ i < len then some (.mp k (off + i.toNat * n)) else none
  | _, _ => none

theorem gives_ia {t e : TypeId} {n : Nat} (ht : P.underlying t = some (.slice e)) (hn : tySize P e = some n) (h : Sim base w0 C M hp w) {x i r : AV} {y j : Value}
    (hx : Rep C M hp x y) (hi : Rep C M hp i j) (hr : aia n x i = some r) : Gives base w0 C M hp P (Instr.indexAt t y j) w r hp := by
  unfold aia at hr
  split at hr
  · rename_i xs tl k i
    cases hi
    cases hx with
    | sl f hsp hsz hC hR hT hcap =>
      rename_i a cap sz
      split at hr
      · rename_i h0
        split at hr
        · rename_i x hxi
          split at hr
          · rename_i hlen
            cases hr
            have hlt : i.toNat < xs.length := (List.getElem?_eq_some_iff.1 hxi).1
            have hsz' : sz = n := by rw [← hsz _ _ hxi]; exact hlen
            subst hsz'
            have hne : xs ≠ [] := by intro e; subst e; simp at hlt
            obtain ⟨b, o, sp⟩ := a
            have : sp = none := hsp hne
            subst this
            have hR' : Rep C M hp (.fp x.cells 0) (.pointer (some ⟨b, (o + i.toNat * sz) + 0, none⟩)) :=
              .fp (f i.toNat) (fun j c hc => hC _ _ _ _ hxi hc) (fun j c hc => hR _ _ _ _ hxi hc)
            refine .same h ?_ hR'
            have hi' : i < (xs.length : Int) := by omega
            simp [Instr.indexAt, asIntOf, run_underlying ht, h0, hi', run_sizeOf' hn, addr_add]
          · cases hr
        · cases hr
      · cases hr
  · rename_i k off len cap kk i
    cases hi
    cases hx with
    | ms hb hM =>
      rename_i L cs fz
      split at hr
      · rename_i h0
        cases hr
        refine .same h ?_ (.mp hb hM)
        simp [Instr.indexAt, asIntOf, run_underlying ht, h0, run_sizeOf' hn, addr_add]
      · cases hr
  · cases hr

/-- The address of an element of an array that a pointer points at. -/
def aaa (len n : Nat) (x : AV) : AV → Option AV
  | .v (.int _ i) => if 0 ≤ i ∧ i < len then afa (i.toNat * n) x else none
  | _ => none

theorem gives_aa {t e : TypeId} {len n : Nat} (ht : P.underlying t = some (.array len e)) (hn : tySize P e = some n) (h : Sim base w0 C M hp w) {x i r : AV} {y j : Value}
    (hx : Rep C M hp x y) (hi : Rep C M hp i j) (hr : aaa len n x i = some r) : Gives base w0 C M hp P (Instr.indexAt t y j) w r hp := by
  unfold aaa at hr
  split at hr
  · rename_i k i
    cases hi
    split at hr
    · rename_i h0
      obtain ⟨a, rfl, hr'⟩ := rep_move hx hr
      refine .same h ?_ hr'
      simp [Instr.indexAt, asIntOf, run_underlying ht, h0, run_sizeOf' hn, Instr.sureAddr]
    · cases hr
  · cases hr

/-- A nil check. -/
def anil : AV → Option AV
  | .fp cs o => some (.fp cs o)
  | .mp k o => some (.mp k o)
  | .fn (.func f) a b => some (.fn (.func f) a b)
  | _ => none

/-! Numbers. -/

def bitsOp (k : IntKind) (a b : Int) (f : BitVec k.bits → BitVec k.bits → BitVec k.bits) : Value :=
  .int k (k.wrap (f (BitVec.ofInt k.bits a) (BitVec.ofInt k.bits b)).toNat)

def ibin (op : BinOp) (k : IntKind) (a : Int) (k' : IntKind) (b : Int) : Option Value :=
  match op with
  | .shl => if b < 0 then none else some (.int k (k.wrap (a * 2 ^ (min b.toNat k.bits))))
  | .shr => if b < 0 then none else some (.int k (a.fdiv (2 ^ (min b.toNat k.bits))))
  | op => if k ≠ k' then none else match op with
    | .add => some (.int k (k.wrap (a + b)))
    | .sub => some (.int k (k.wrap (a - b)))
    | .mul => some (.int k (k.wrap (a * b)))
    | .quo => if b = 0 then none else some (.int k (k.wrap (a.tdiv b)))
    | .rem => if b = 0 then none else some (.int k (a.tmod b))
    | .and => some (bitsOp k a b (· &&& ·))
    | .or => some (bitsOp k a b (· ||| ·))
    | .xor => some (bitsOp k a b (· ^^^ ·))
    | .andNot => some (bitsOp k a b (fun x y => x &&& ~~~y))
    | .eql => some (.bool (a == b))
    | .neq => some (.bool (a != b))
    | .lss => some (.bool (a < b))
    | .leq => some (.bool (a ≤ b))
    | .gtr => some (.bool (a > b))
    | .geq => some (.bool (a ≥ b))
    | _ => none

def sbin (op : BinOp) (x y : ByteArray) : Option Value :=
  match op with
  | .add => if ((x.size + y.size : Nat) : Int) > IntKind.i64.max then none else some (.string (x ++ y))
  | .eql => some (.bool (x.toList == y.toList))
  | .neq => some (.bool !(x.toList == y.toList))
  | .lss => some (.bool (Op.bytesLess x.toList y.toList))
  | .leq => some (.bool (Op.bytesLess x.toList y.toList || x.toList == y.toList))
  | .gtr => some (.bool !(Op.bytesLess x.toList y.toList || x.toList == y.toList))
  | .geq => some (.bool !(Op.bytesLess x.toList y.toList))
  | _ => none

def abin (op : BinOp) : AV → AV → Option AV
  | .v (.int k a), .v (.int k' b) => (ibin op k a k' b).map .v
  | .v (.string a), .v (.string b) => (sbin op a b).map .v
  | _, _ => none

theorem run_ibin {op : BinOp} {k k' : IntKind} {a b : Int} {r : Value} (h : ibin op k a k' b = some r) (t : TypeId) (w : World) :
    (binOp op t (.int k a) (.int k' b)).run P w = .ok r w ∧ plain r = true := by
  unfold ibin at h
  split at h
  · split at h
    · cases h
    · rename_i hb
      cases h
      exact ⟨by simp [binOp, Op.shift, hb], rfl⟩
  · split at h
    · cases h
    · rename_i hb
      cases h
      exact ⟨by simp [binOp, Op.shift, hb], rfl⟩
  · rename_i h1 h2
    split at h
    · cases h
    · rename_i hk
      have hk : k = k' := by simpa using hk
      subst hk
      cases op with
      | shl => exact (h1 rfl).elim
      | shr => exact (h2 rfl).elim
      | add => cases h; exact ⟨by simp [binOp, Op.intArith], rfl⟩
      | sub => cases h; exact ⟨by simp [binOp, Op.intArith], rfl⟩
      | mul => cases h; exact ⟨by simp [binOp, Op.intArith], rfl⟩
      | quo =>
        simp only at h
        split at h
        · cases h
        · rename_i hb; cases h; exact ⟨by simp [binOp, Op.intDiv, hb], rfl⟩
      | rem =>
        simp only at h
        split at h
        · cases h
        · rename_i hb; cases h; exact ⟨by simp [binOp, Op.intDiv, hb], rfl⟩
      | and => cases h; exact ⟨by simp [binOp, Op.intBits, bitsOp], rfl⟩
      | or => cases h; exact ⟨by simp [binOp, Op.intBits, bitsOp], rfl⟩
      | xor => cases h; exact ⟨by simp [binOp, Op.intBits, bitsOp], rfl⟩
      | andNot => cases h; exact ⟨by simp [binOp, Op.intBits, bitsOp], rfl⟩
      | eql => cases h; exact ⟨by simp [binOp, Op.intCmp], rfl⟩
      | neq => cases h; exact ⟨by simp [binOp, Op.intCmp], rfl⟩
      | lss => cases h; exact ⟨by simp [binOp, Op.intCmp], rfl⟩
      | leq => cases h; exact ⟨by simp [binOp, Op.intCmp], rfl⟩
      | gtr => cases h; exact ⟨by simp [binOp, Op.intCmp], rfl⟩
      | geq => cases h; exact ⟨by simp [binOp, Op.intCmp], rfl⟩

theorem run_sbin {op : BinOp} {a b : ByteArray} {r : Value} (h : sbin op a b = some r) (t : TypeId) (w : World) :
    (binOp op t (.string a) (.string b)).run P w = .ok r w ∧ plain r = true := by
  have key : binOp op t (.string a) (.string b) = Op.stringOp op a b := by cases op <;> simp [binOp]
  rw [key]
  unfold sbin at h
  cases op <;> simp only [Op.stringOp] at h ⊢ <;> first
    | (cases h; done)
    | (cases h; exact ⟨rfl, rfl⟩)
    | skip
  split at h
  · cases h
  · rename_i hb
    cases h
    rw [if_neg hb]
    exact ⟨rfl, rfl⟩

theorem gives_bin {op : BinOp} {t : TypeId} {ox oy : Operand} (h : Sim base w0 C M hp w) {x y r : AV} {x' y' : Value} (hx : Rep C M hp x x') (hy : Rep C M hp y y')
    (hr : abin op x y = some r) : Gives base w0 C M hp P (do eqGuard op t ox oy x' y'; binOp op t x' y') w r hp := by
  unfold abin at hr
  split at hr
  · rename_i k a k' b
    cases hx; cases hy
    simp only [Option.map_eq_some_iff] at hr
    obtain ⟨v, hv, rfl⟩ := hr
    obtain ⟨h1, h2⟩ := run_ibin (P := P) hv t w
    refine .same h ?_ (.v h2)
    have hg : eqGuard op t ox oy (.int k a) (.int k' b) = pure () := by unfold eqGuard; split <;> rfl
    rw [hg]
    simp [h1]
  · rename_i a b
    cases hx; cases hy
    simp only [Option.map_eq_some_iff] at hr
    obtain ⟨v, hv, rfl⟩ := hr
    obtain ⟨h1, h2⟩ := run_sbin (P := P) hv t w
    refine .same h ?_ (.v h2)
    have hg : eqGuard op t ox oy (.string a) (.string b) = pure () := by unfold eqGuard; split <;> rfl
    rw [hg]
    simp [h1]
  · cases hr

/-- '==' of bools. -/
def aeqb (neg : Bool) : AV → AV → Option AV
  | .v (.bool a), .v (.bool b) => some (.v (.bool (if neg then !(a == b) else a == b)))
  | _, _ => none

def eqOp (neg : Bool) : BinOp := if neg then .neq else .eql

theorem gives_eqb {neg : Bool} {t : TypeId} {ox oy : Operand} (ht : P.underlying t = some .bool) (h : Sim base w0 C M hp w) {x y r : AV} {x' y' : Value} (hx : Rep C M hp x x') (hy : Rep C M hp y y')
    (hr : aeqb neg x y = some r) : Gives base w0 C M hp P (do eqGuard (eqOp neg) t ox oy x' y'; binOp (eqOp neg) t x' y') w r hp := by
  unfold aeqb at hr
  split at hr
  · rename_i a b
    cases hx; cases hy; cases hr
    refine .same h ?_ (.v rfl)
    have hg : eqGuard (eqOp neg) t ox oy (.bool a) (.bool b) = pure () := by unfold eqGuard; split <;> rfl
    rw [hg]
    have := run_equal_bool (P := P) w t a b ht
    cases neg <;> simp [eqOp, binOp, this]
  · cases hr

def nilOf : AV → Bool
  | .v (.pointer none) | .v .nilFunc | .v .nilIface | .nsl => true
  | _ => false

def isConstO : Operand → Bool
  | .const _ => true
  | _ => false

/-- The kinds of types that may be nil. -/
inductive NilK where
  | ptr | slc | fnc | ifc
  deriving DecidableEq

def nilKind (P : Program) (t : TypeId) : Option NilK :=
  match P.underlying t with
  | some (.pointer _) => some .ptr
  | some (.slice _) => some .slc
  | some (.func _ _ _) => some .fnc
  | some (.interface _) => some .ifc
  | _ => none

def kindOf : AV → Option NilK
  | .v (.pointer none) | .fp _ _ | .mp _ _ => some .ptr
  | .nsl | .sl _ _ | .ms _ _ _ _ => some .slc
  | .v .nilFunc | .fn _ _ _ => some .fnc
  | .v .nilIface | .ifc _ _ => some .ifc
  | _ => none

end
end Go.Abs
