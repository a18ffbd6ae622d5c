/- The tree of tokens, as the program builds it: in plain Lean. No condition. -/
import Derived.Test.YtbcmdjlgdnippaaGreatDoorM1
set_option linter.unusedVariables false
namespace Go.Abs

/-- A node that is not shut yet. -/
structure Fr where
  h : Tok
  ks : List T

def Tok.bare (h : Tok) : Tok := { h with rune := 0 }
def goesOn (t u : Tok) : Bool := decide (u.kind = 4) && decide (u.marks = t.marks)
def rootTok : Tok := ⟨1, 1, 0, 0, [0, 0, 0, 0, 0, 0, 0, 0]⟩

/-- The nodes that are open behind tokens, the innermost one ahead. -/
def goB : Nat → List Tok → List Fr → Option (List Fr)
  | 0, _, st => some st
  | _ + 1, [], st => some st
  | n + 1, t :: r, st =>
    if t.kind = 1 then (if 40 < st.length then none else goB n r (⟨t, []⟩ :: st))
    else if t.kind = 2 then (match st with
      | top :: par :: rest => goB n r (⟨par.h, par.ks ++ [.node top.h top.ks]⟩ :: rest)
      | _ => none)
    else if t.kind = 3 then (match st with
      | top :: rest => goB n r (⟨top.h, top.ks ++ [.leaf t]⟩ :: rest)
      | [] => none)
    else if t.kind = 4 then (match st with
      | top :: rest => goB n (r.drop (r.takeWhile (goesOn t)).length) (⟨top.h, top.ks ++ [.text t.bare (t.rune :: (r.takeWhile (goesOn t)).map (·.rune))]⟩ :: rest)
      | [] => none)
    else goB n r st

def buildM (l : List Tok) : Option T := match goB l.length l [⟨rootTok, []⟩] with
  | some [f] => some (.node f.h f.ks)
  | _ => none

def stSize : List Fr → Nat
  | [] => 0
  | f :: r => sizes f.ks + stSize r
def stKids : List Fr → Nat
  | [] => 0
  | f :: r => f.ks.length + stKids r
def stOk : List Fr → Prop
  | [] => True
  | f :: r => f.h.Ok ∧ (∀ k ∈ f.ks, k.wf) ∧ stOk r

/-- More fuel than tokens changes nothing. -/
theorem goB_fuel : ∀ (n m : Nat) (l : List Tok) (st : List Fr), l.length ≤ n → l.length ≤ m → goB n l st = goB m l st
  | 0, 0, l, st, _, _ => rfl
  | 0, m + 1, l, st, h, _ => by
    have : l = [] := List.eq_nil_of_length_eq_zero (by omega)
    subst this; rfl
  | n + 1, 0, l, st, _, h => by
    have : l = [] := List.eq_nil_of_length_eq_zero (by omega)
    subst this; rfl
  | n + 1, m + 1, [], st, _, _ => rfl
  | n + 1, m + 1, t :: r, st, h, h' => by
    simp only [List.length_cons] at h h'
    have h1 : r.length ≤ n := by omega
    have h2 : r.length ≤ m := by omega
    have h3 : (r.drop (r.takeWhile (goesOn t)).length).length ≤ r.length := by rw [List.length_drop]; omega
    simp only [goB]
    split
    · split
      · rfl
      · exact goB_fuel n m _ _ h1 h2
    · split
      · split
        · exact goB_fuel n m _ _ h1 h2
        · rfl
      · split
        · split
          · exact goB_fuel n m _ _ h1 h2
          · rfl
        · split
          · split
            · exact goB_fuel n m _ _ (by omega) (by omega)
            · rfl
          · exact goB_fuel n m _ _ h1 h2

theorem goB_cons {n : Nat} {t : Tok} {r : List Tok} {st : List Fr} (h : r.length < n) : goB n (t :: r) st =
    if t.kind = 1 then (if 40 < st.length then none else goB n r (⟨t, []⟩ :: st))
    else if t.kind = 2 then (match st with
      | top :: par :: rest => goB n r (⟨par.h, par.ks ++ [.node top.h top.ks]⟩ :: rest)
      | _ => none)
    else if t.kind = 3 then (match st with
      | top :: rest => goB n r (⟨top.h, top.ks ++ [.leaf t]⟩ :: rest)
      | [] => none)
    else if t.kind = 4 then (match st with
      | top :: rest => goB n (r.drop (r.takeWhile (goesOn t)).length) (⟨top.h, top.ks ++ [.text t.bare (t.rune :: (r.takeWhile (goesOn t)).map (·.rune))]⟩ :: rest)
      | [] => none)
    else goB n r st := by
  obtain ⟨k, rfl⟩ : ∃ k, n = k + 1 := ⟨n - 1, by omega⟩
  have h3 : (r.drop (r.takeWhile (goesOn t)).length).length ≤ r.length := by rw [List.length_drop]; omega
  have e : ∀ (l : List Tok) (st : List Fr), l.length ≤ k → goB k l st = goB (k + 1) l st := fun l st hl => goB_fuel k (k + 1) l st hl (by omega)
  simp only [goB]
  split
  · split
    · rfl
    · exact e r _ (by omega)
  · split
    · split
      · exact e r _ (by omega)
      · rfl
    · split
      · split
        · exact e r _ (by omega)
        · rfl
      · split
        · split
          · exact e _ _ (by omega)
          · rfl
        · exact e r _ (by omega)
end Go.Abs
