/- The trees of a row of letters, and of nodes in nodes: in plain Lean. No condition. -/
import Derived.Test.YtbcmdjlgdnippaaGreatDoorM2
set_option linter.unusedVariables false
namespace Go.Abs

def tokA : Tok := ⟨4, 0, 0, 97, [0, 0, 0, 0, 0, 0, 0, 0]⟩
def tokQ : Tok := ⟨1, 2, 0, 0, [0, 0, 0, 0, 0, 0, 0, 0]⟩

theorem run_rep : ∀ k : Nat, (List.replicate k tokA).takeWhile (goesOn tokA) = List.replicate k tokA
  | 0 => rfl
  | k + 1 => by
    rw [List.replicate_succ, List.takeWhile_cons, if_pos (by decide), run_rep k]

theorem build_row (k : Nat) : buildM (List.replicate (k + 1) tokA) = some (.node rootTok [.text tokA.bare (List.replicate (k + 1) 97)]) := by
  have e : goB (k + 1) (tokA :: List.replicate k tokA) [⟨rootTok, []⟩] = some [⟨rootTok, [.text tokA.bare (List.replicate (k + 1) 97)]⟩] := by
    rw [goB_cons (by simp), if_neg (by decide), if_neg (by decide), if_neg (by decide), if_pos (by decide), run_rep]
    simp only [List.drop_length, List.map_replicate, List.nil_append]
    rfl
  unfold buildM
  rw [List.length_replicate, List.replicate_succ, e]
theorem build_none : buildM [] = some (.node rootTok []) := rfl

def nestT : Nat → List T
  | 0 => []
  | d + 1 => [.node tokQ (nestT d)]
theorem nest_height : ∀ d, heights (nestT d) = d
  | 0 => rfl
  | d + 1 => by simp only [nestT, heights, T.height, nest_height d]; omega
theorem nest_wf : ∀ d, wfs (nestT d)
  | 0 => trivial
  | d + 1 => ⟨⟨rfl, nest_wf d⟩, trivial⟩

theorem go_open (n : Nat) (rest : List Tok) : ∀ (d : Nat) (st : List Fr), st.length + d ≤ 41 → (List.replicate d tokQ ++ rest).length ≤ n →
    goB n (List.replicate d tokQ ++ rest) st = goB n rest (List.replicate d ⟨tokQ, []⟩ ++ st)
  | 0, st, _, _ => rfl
  | d + 1, st, h, hn => by
    rw [List.replicate_succ, List.cons_append] at hn ⊢
    simp only [List.length_cons] at hn
    rw [goB_cons (by omega), if_pos (show tokQ.kind = 1 from rfl), if_neg (by omega), go_open n rest d (⟨tokQ, []⟩ :: st) (by simp; omega) (by omega)]
    congr 1
    rw [List.replicate_succ', List.append_assoc]; rfl
theorem go_deep (n : Nat) (rest : List Tok) : ∀ (d : Nat) (st : List Fr), 41 < st.length + d → st.length ≤ 41 → (List.replicate d tokQ ++ rest).length ≤ n → goB n (List.replicate d tokQ ++ rest) st = none
  | 0, st, h, h2, _ => by omega
  | d + 1, st, h, h2, hn => by
    rw [List.replicate_succ, List.cons_append] at hn ⊢
    simp only [List.length_cons] at hn
    rw [goB_cons (by omega), if_pos (show tokQ.kind = 1 from rfl)]
    by_cases h3 : 40 < st.length
    · rw [if_pos h3]
    · rw [if_neg h3]
      exact go_deep n rest d (⟨tokQ, []⟩ :: st) (by simp; omega) (by simp; omega) (by omega)
theorem go_close (n : Nat) (b : Fr) : ∀ (d m : Nat), d ≤ n → b.ks = [] →
    goB n (List.replicate d closeTok) ((match d with | 0 => [⟨b.h, nestT m⟩] | d + 1 => ⟨tokQ, nestT m⟩ :: List.replicate d ⟨tokQ, []⟩ ++ [b]) : List Fr) = some [⟨b.h, nestT (m + d)⟩]
  | 0, m, _, _ => by cases n <;> rfl
  | 1, m, hn, hb => by
    show goB n (closeTok :: []) (⟨tokQ, nestT m⟩ :: [b]) = _
    rw [goB_cons (by simp; omega), if_neg (by decide), if_pos (show closeTok.kind = 2 from rfl)]
    dsimp only
    rw [hb]
    have e : ([T.node tokQ (nestT m)] : List T) = nestT (m + 1) := rfl
    rw [List.nil_append, e]
    cases n <;> rfl
  | d + 2, m, hn, hb => by
    have ih := go_close n b (d + 1) (m + 1) (by omega) hb
    show goB n (closeTok :: List.replicate (d + 1) closeTok) (⟨tokQ, nestT m⟩ :: ⟨tokQ, []⟩ :: (List.replicate d ⟨tokQ, []⟩ ++ [b])) = _
    rw [goB_cons (by simp; omega), if_neg (by decide), if_pos (show closeTok.kind = 2 from rfl)]
    dsimp only
    rw [List.nil_append]
    have e : ([T.node tokQ (nestT m)] : List T) = nestT (m + 1) := rfl
    rw [e, show m + (d + 2) = m + 1 + (d + 1) by omega]
    exact ih

def rowQ (d : Nat) : List Tok := List.replicate d tokQ ++ List.replicate d closeTok
theorem build_nest {d : Nat} (h : d ≤ 40) : buildM (rowQ d) = some (.node rootTok (nestT d)) := by
  have hl : (rowQ d).length = d + d := by simp [rowQ]
  have e : goB (rowQ d).length (rowQ d) [⟨rootTok, []⟩] = some [⟨rootTok, nestT d⟩] := by
    have h1 := go_open (rowQ d).length (List.replicate d closeTok) d [⟨rootTok, []⟩] (by simp; omega) (Nat.le_refl _)
    rw [show rowQ d = List.replicate d tokQ ++ List.replicate d closeTok from rfl] at h1 ⊢
    rw [h1]
    have h2 := go_close (rowQ d).length ⟨rootTok, []⟩ d 0 (by omega) rfl
    rw [Nat.zero_add] at h2
    cases d with
    | zero => exact h2
    | succ d => exact h2
  unfold buildM
  rw [e]
theorem build_deep {d : Nat} (h : 40 < d) : buildM (rowQ d) = none := by
  unfold buildM
  rw [show goB (rowQ d).length (rowQ d) [⟨rootTok, []⟩] = none from go_deep _ _ d _ (by simp; omega) (by simp) (Nat.le_refl _)]
end Go.Abs
