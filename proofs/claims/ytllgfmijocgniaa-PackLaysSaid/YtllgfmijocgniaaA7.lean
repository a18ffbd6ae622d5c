/- More operations on abstract values: unary, conversions, lengths, slices, parts. No condition. -/
import Derived.Test.YtllgfmijocgniaaA6
namespace Go.Abs
open Go.RowKit

section
variable {base : Nat} {w0 : Root} {w : World} {C : Cells} {M : List Loc} {hp : List Blk} {P : Program}

/-! Unary, conversions, lengths. -/

def aun (op : UnOp) : AV → Option AV
  | .v (.int k n) => match op with
    | .neg => some (.v (.int k (k.wrap (0 - n))))
    | .xor => some (.v (bitsOp k (if k.signed then -1 else k.max) n (· ^^^ ·)))
    | _ => none
  | .v (.bool b) => match op with
    | .not => some (.v (.bool !b))
    | _ => none
  | _ => none

theorem gives_un {op : UnOp} (h : Sim base w0 C M hp w) {x r : AV} {x' : Value} (hx : Rep C M hp x x') (hr : aun op x = some r) : Gives base w0 C M hp P (Op.unary op x') w r hp := by
  unfold aun at hr
  split at hr
  · cases hx
    split at hr <;> cases hr
    · exact .same h (by simp [Op.unary, Op.intArith]) (.v rfl)
    · exact .same h (by simp [Op.unary, Op.intBits, bitsOp]) (.v rfl)
  · cases hx
    split at hr <;> cases hr
    exact .same h (by simp [Op.unary]) (.v rfl)
  · cases hr

/-- Between integer kinds. -/
def acv (k : IntKind) : AV → Option AV
  | .v (.int _ n) => some (.v (.int k (k.wrap n)))
  | _ => none

theorem gives_cv {src dst : TypeId} {k : IntKind} (hs : (P.underlying src).isSome = true) (hd : P.underlying dst = some (.int k)) (h : Sim base w0 C M hp w) {x r : AV} {x' : Value} (hx : Rep C M hp x x')
    (hr : acv k x = some r) : Gives base w0 C M hp P (convert src dst x') w r hp := by
  unfold acv at hr
  split at hr
  · cases hx; cases hr
    obtain ⟨d, hd'⟩ := Option.isSome_iff_exists.mp hs
    exact .same h (by simp [convert, run_underlying hd', run_underlying hd, Conv.intToInt]) (.v rfl)
  · cases hr

/-- A string as a string of another name. -/
def astr : AV → Option AV
  | .v (.string s) => some (.v (.string s))
  | _ => none

theorem gives_s2s {src dst : TypeId} (hs : (P.underlying src) = some .string) (hd : P.underlying dst = some .string) (h : Sim base w0 C M hp w) {x r : AV} {x' : Value} (hx : Rep C M hp x x')
    (hr : astr x = some r) : Gives base w0 C M hp P (convert src dst x') w r hp := by
  unfold astr at hr
  split at hr
  · cases hx; cases hr
    exact .same h (by simp [convert, run_underlying hs, run_underlying hd]) (.v rfl)
  · cases hr

def alen : AV → Option AV
  | .v (.string s) => some (.v (goInt s.size))
  | .nsl => some (.v (goInt 0))
  | .sl xs _ => some (.v (goInt xs.length))
  | .ms _ _ len _ => some (.v (goInt len))
  | _ => none

theorem gives_len {t ty : TypeId} (h : Sim base w0 C M hp w) {x r : AV} {x' : Value} (hx : Rep C M hp x x') (hk : ∀ s, x = .v (.string s) → P.underlying t = some .string)
    (hk' : (∀ s, x ≠ .v (.string s)) → ∃ e, P.underlying t = some (.slice e)) (hr : alen x = some r) : Gives base w0 C M hp P (Builtin.len_ #[t] ty #[x']) w r hp := by
  unfold alen at hr
  split at hr
  · cases hx; cases hr
    exact .same h (by simp [Builtin.len_, run_underlying (hk _ rfl)]) (.v rfl)
  · cases hx <;> cases hr
    obtain ⟨e, he⟩ := hk' (by intro s e; cases e)
    exact .same h (by simp [Builtin.len_, run_underlying he]) (.v rfl)
  · cases hx <;> cases hr
    obtain ⟨e, he⟩ := hk' (by intro s e; cases e)
    exact .same h (by simp [Builtin.len_, run_underlying he]) (.v rfl)
  · cases hx <;> cases hr
    obtain ⟨e, he⟩ := hk' (by intro s e; cases e)
    exact .same h (by simp [Builtin.len_, run_underlying he]) (.v rfl)
  · cases hr

def aext (i : Nat) : AV → Option AV
  | .tup cs => cs[i]?
  | _ => none

theorem gives_ext {i : Nat} (h : Sim base w0 C M hp w) {x r : AV} {x' : Value} (hx : Rep C M hp x x') (hr : aext i x = some r) : Gives base w0 C M hp P (Instr.extract x' i) w r hp := by
  unfold aext at hr
  split at hr
  · cases hx with
    | tup hl hh =>
      rename_i cs cs'
      have hi : i < cs.length := (List.getElem?_eq_some_iff.1 hr).1
      have hi' : i < cs'.size := by omega
      exact .same h (by simp [Instr.extract, hi']) (hh i r cs'[i] hr (by simp [hi']))
  · cases hr

/-- A part of an aggregate. -/
def afld (ag : Bool) (n off : Nat) : AV → Option AV
  | .agg cs => pick1 ag n cs off
  | _ => none

theorem run_part' {t : TypeId} {ag : Bool} {n : Nat} (hag : tyAgg P t = some ag) (hn : tySize P t = some n) {cs : List AV} {cs' : Array Value} {off : Nat} (hl : cs.length = cs'.size)
    (hh : ∀ (i : Nat) a b, cs[i]? = some a → cs'[i]? = some b → Rep C M hp a b) {r : AV} (hr : pick1 ag n cs off = some r) (w : World) : ∃ v, (part t cs' off).run P w = .ok v w ∧ Rep C M hp r v := by
  unfold part
  simp only [Sem.run_bind, run_isAgg' hag, Result.andThen_ok]
  unfold pick1 at hr
  cases ag with
  | true =>
    simp only [if_true] at hr ⊢
    split at hr
    · rename_i hfit
      cases hr
      refine ⟨.agg (cs'.extract off (off + n)), by simp only [Sem.run_bind, run_sizeOf' hn, Result.andThen_ok, Sem.run_pure], ?_⟩
      refine .agg (by simp; omega) (fun i a b ha hb => ?_)
      have hi : i < n := by
        have := (List.getElem?_eq_some_iff.1 ha).1
        simp at this; omega
      simp only [List.getElem?_take, List.getElem?_drop] at ha
      rw [if_pos hi] at ha
      rw [Array.getElem?_extract] at hb
      rw [if_pos (by omega)] at hb
      exact hh _ _ _ ha hb
    · cases hr
  | false =>
    simp only [Bool.false_eq_true, if_false] at hr ⊢
    have hi : off < cs.length := (List.getElem?_eq_some_iff.1 hr).1
    have hi' : off < cs'.size := by omega
    exact ⟨cs'[off], by simp [hi'], hh off r _ hr (by simp [hi'])⟩

theorem gives_fld {s : TypeId} {fields : Array Field} {field off n : Nat} {ag : Bool} {f : Field} (hs : P.underlying s = some (.struct fields)) (hf : fields[field]? = some f) (ho : f.offset = off)
    (hag : tyAgg P f.type = some ag) (hn : tySize P f.type = some n) (h : Sim base w0 C M hp w) {x r : AV} {x' : Value} (hx : Rep C M hp x x') (hr : afld ag n off x = some r) :
    Gives base w0 C M hp P (Instr.field s x' field) w r hp := by
  unfold afld at hr
  split at hr
  · cases hx with
    | agg hl hh =>
      obtain ⟨v, h1, h2⟩ := run_part' (P := P) hag hn hl hh hr w
      exact .same h (by simp [Instr.field, run_underlying hs, hf, asAgg, ho, h1]) h2
  · cases hr

/-- An element of an array's value, a letter of a string. -/
def aidx (ag : Bool) (n len : Nat) : AV → AV → Option AV
  | .agg cs, .v (.int _ i) => if 0 ≤ i ∧ i < len then pick1 ag n cs (i.toNat * n) else none
  | _, _ => none

theorem gives_idx {t e : TypeId} {ag : Bool} {n len : Nat} (ht : P.underlying t = some (.array len e)) (hag : tyAgg P e = some ag) (hn : tySize P e = some n) (h : Sim base w0 C M hp w) {x i r : AV} {x' i' : Value}
    (hx : Rep C M hp x x') (hi : Rep C M hp i i') (hr : aidx ag n len x i = some r) : Gives base w0 C M hp P (Instr.index t x' i') w r hp := by
  unfold aidx at hr
  split at hr
  · cases hi
    cases hx with
    | agg hl hh =>
      split at hr
      · rename_i hb
        obtain ⟨v, h1, h2⟩ := run_part' (P := P) hag hn hl hh hr w
        exact .same h (by simp [Instr.index, asIntOf, run_underlying ht, hb, run_sizeOf' hn, h1]) h2
      · cases hr
  · cases hr

def achr : AV → AV → Option AV
  | .v (.string s), .v (.int _ i) => if 0 ≤ i then (s[i.toNat]?).map fun b => .v (.int .u8 b.toNat) else none
  | _, _ => none

theorem gives_chr {t : TypeId} (ht : P.underlying t = some .string) (h : Sim base w0 C M hp w) {x i r : AV} {x' i' : Value}
    (hx : Rep C M hp x x') (hi : Rep C M hp i i') (hr : achr x i = some r) : Gives base w0 C M hp P (Instr.index t x' i') w r hp := by
  unfold achr at hr
  split at hr
  · cases hi; cases hx
    split at hr
    · rename_i hb
      simp only [Option.map_eq_some_iff] at hr
      obtain ⟨b, hb', rfl⟩ := hr
      exact .same h (by simp [Instr.index, asIntOf, run_underlying ht, hb, hb']) (.v rfl)
    · cases hr
  · cases hr

end
end Go.Abs
