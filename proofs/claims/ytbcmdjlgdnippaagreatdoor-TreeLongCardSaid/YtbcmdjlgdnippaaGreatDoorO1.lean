/- What the run asks of the library, and that it is so. No condition but what the package's variables hold. -/
import Derived.Test.YtbcmdjlgdnippaaGreatDoorS1
set_option linter.unusedVariables false
namespace Go.Proofs.YtbcmdjlgdnippaaGreatDoor
open Go.Abs Go.RowKit

variable {G : Cells}

/-- Texts. -/
def strsA : List AV → Option (List (List UInt8))
  | [] => some []
  | .v (.string ⟨⟨l⟩⟩) :: r => match strsA r with
    | some m => some (l :: m)
    | none => none
  | _ :: _ => none
theorem strsA_ok : ∀ {xs : List AV} {ls : List (List UInt8)}, strsA xs = some ls → xs = ls.map fun l => .v (.string ⟨⟨l⟩⟩)
  | [], ls, h => by cases h; rfl
  | x :: r, ls, h => by
    unfold strsA at h
    split at h
    · rename_i heq; cases heq
    · rename_i l r' heq
      cases heq
      split at h
      · rename_i m hm
        cases h
        rw [List.map_cons, ← strsA_ok hm]
      · cases h
    · cases h

theorem spec154n (sep : ByteArray) : PureSpec G Tryz.prog 154 [.nsl, .v (.string sep)] (.v (.string ⟨⟨[]⟩⟩)) := by
  refine pure_lib ⟨_, Tryz.func154, by kernel_rfl, by kernel_rfl⟩ fun C w args' hg hc hr => ?_
  obtain ⟨hl, hh⟩ := hr
  match args', hl, hh with
  | [x, y], _, hh =>
    have hx := hh 0 _ _ rfl rfl
    have hy := hh 1 _ _ rfl rfl
    cases hy
    cases hx
    refine (Any.strings_Join_none Tryz.lays156 Tryz.Builder_Extra_156 none 0 sep w).mono ?_
    rintro e w' ⟨h1, h2⟩
    exact ⟨_, h1, below_id h2, .v rfl⟩

def orcIdx (s : ByteArray) (c : Nat) : AV := .v (.int .i64 (idxA c s.data.toList 0))

def orcA : List AV → Option AV
  | [.v (.string s)] => match Nat.ble s.data.toList.length 281474976710656 with
    | true => match Lib.atoiAll s.data.toList with
      | .ok v => some (.tup [.v (.int .i64 v), .v .nilIface])
      | .range => some (.tup [.v (.int .i64 (Lib.atoiSat s.data.toList)), .ifc 472 (.fp [.v (.string ⟨⟨[65, 116, 111, 105]⟩⟩), .v (.string s)] 0)])
      | _ => some (.tup [.v (.int .i64 0), .ifc 472 (.fp [.v (.string ⟨⟨[65, 116, 111, 105]⟩⟩), .v (.string s)] 0)])
    | false => none
  | _ => none

def orcJ : List AV → Option AV
  | [.nsl, .v (.string _)] => some (.v (.string ⟨⟨[]⟩⟩))
  | [.sl xs _, .v (.string sep)] => match strsA xs with
    | some ls => match Nat.ble (Lib.join ls sep.data.toList).length 1000000 && Nat.ble ls.length 1000000 with
      | true => some (.v (.string ⟨⟨Lib.join ls sep.data.toList⟩⟩))
      | false => none
    | none => none
  | _ => none

/-- The library's answers. -/
def orc (f : FuncId) (args : List AV) : Option AV := match Nat.beq f 334 with
  | true => match args with
    | [.v (.string s), .v (.int .u8 (.ofNat c))] => match Nat.blt c 256 with
      | true => some (orcIdx s c)
      | false => none
    | _ => none
  | false => match Nat.beq f 352 with
    | true => match args with
      | [.v (.string s), .v (.string ⟨⟨[c]⟩⟩)] => some (orcIdx s c.toNat)
      | _ => none
    | false => match Nat.beq f 242 with
      | true => match args with
        | [.v (.string s), .v (.int .i32 (.ofNat c))] => match Nat.blt c 128 with
          | true => some (orcIdx s c)
          | false => none
        | _ => none
      | false => match Nat.beq f 161 with
        | true => match args with
          | [.v (.string s), .v (.string ⟨⟨[c]⟩⟩)] => match Nat.ble s.data.toList.length 4294967280 with
            | true => some (.sl (((splitL c.toNat s.data.toList).map fun l => Value.string ⟨⟨l⟩⟩).map .v) .no)
            | false => none
          | _ => none
        | false => match Nat.beq f 218 with
          | true => match args with
            | [.v (.int .u64 (.ofNat x))] => match Nat.blt x 18446744073709551616 with
              | true => some (.v (.int .i64 (Lib.ctz 64 x)))
              | false => none
            | _ => none
          | false => match Nat.beq f 230 with
            | true => match args with
              | [.v (.int .i64 (.ofNat n))] => match Nat.blt n 100 with
                | true => some (.v (.string ⟨⟨digs 1 n⟩⟩))
                | false => none
              | _ => none
            | false => match Nat.beq f 306 with
              | true => orcA args
              | false => match Nat.beq f 154 with
                | true => orcJ args
                | false => none

theorem size_list (s : ByteArray) : s.data.toList.length = s.size := rfl

theorem orc_ok (hG : GOk G) {f : FuncId} {args : List AV} {r : AV} (h : orc f args = some r) : PureSpec G Tryz.prog f args r := by
  unfold orc at h
  split at h
  · rename_i hf
    have := Nat.eq_of_beq_eq_true hf; subst this
    split at h
    · split at h
      · rename_i s c _ hc
        cases h
        exact spec334 s c (Nat.le_of_ble_eq_true hc)
      · cases h
    · cases h
  split at h
  · rename_i hf
    have := Nat.eq_of_beq_eq_true hf; subst this
    split at h
    · cases h; exact spec352 _ _
    · cases h
  split at h
  · rename_i hf
    have := Nat.eq_of_beq_eq_true hf; subst this
    split at h
    · split at h
      · rename_i s c _ hc
        cases h
        exact spec242 s c (Nat.le_of_ble_eq_true hc)
      · cases h
    · cases h
  split at h
  · rename_i hf
    have := Nat.eq_of_beq_eq_true hf; subst this
    split at h
    · split at h
      · rename_i s c _ hc
        cases h
        exact spec161 hG s c (by have := Nat.le_of_ble_eq_true hc; rw [size_list] at this; omega)
      · cases h
    · cases h
  split at h
  · rename_i hf
    have := Nat.eq_of_beq_eq_true hf; subst this
    split at h
    · split at h
      · rename_i x _ hx
        cases h
        exact spec218 hG x (Nat.le_of_ble_eq_true hx)
      · cases h
    · cases h
  split at h
  · rename_i hf
    have := Nat.eq_of_beq_eq_true hf; subst this
    split at h
    · split at h
      · rename_i x _ hx
        cases h
        exact spec230 x (Nat.le_of_ble_eq_true hx)
      · cases h
    · cases h
  split at h
  · rename_i hf
    have := Nat.eq_of_beq_eq_true hf; subst this
    unfold orcA at h
    split at h
    · rename_i s
      split at h
      · rename_i hb
        have hb := Nat.le_of_ble_eq_true hb
        rw [size_list] at hb
        obtain ⟨h1, h2, h3⟩ := spec306 hG s hb
        split at h
        · rename_i v hv; cases h; exact h1 v hv
        · rename_i hv; cases h; exact h3 hv
        · rename_i q1 q2; cases h; exact h2 (fun v hv => q1 v hv) (fun hv => q2 hv)
      · cases h
    · cases h
  split at h
  · rename_i hf
    have := Nat.eq_of_beq_eq_true hf; subst this
    unfold orcJ at h
    split at h
    · cases h; exact spec154n _
    · rename_i xs t sep
      split at h
      · rename_i ls hls
        split at h
        · rename_i hb
          simp only [Bool.and_eq_true] at hb
          cases h
          have e := strsA_ok hls
          subst e
          exact spec154 ls t sep (by have := Nat.le_of_ble_eq_true hb.1; omega) (by have := Nat.le_of_ble_eq_true hb.2; omega)
        · cases h
      · cases h
    · cases h
  · cases h

end Go.Proofs.YtbcmdjlgdnippaaGreatDoor
