/- Library contracts as calls that leave all old memory alone. No condition. -/
import Derived.Test.YtbcmdjlgdnippaaGreatDoorX5
import Derived.Sort.Grow
import Derived.Deep.Draws
set_option linter.unusedVariables false
namespace Go.Abs
open Go.RowKit

section
variable {G : Cells} {P : Program} {f : FuncId}

/-- The world has these cells. -/
def GIn (G : Cells) (w : World) : Prop := ∀ b o v, G b o = some v → w.cell? ⟨b, o, none⟩ = some v

theorem cell_lt {w : World} {b o : Nat} {v : Value} (h : w.cell? ⟨b, o, none⟩ = some v) : b < w.heap.size := by
  rcases Nat.lt_or_ge b w.heap.size with q | q
  · exact q
  · exfalso
    unfold World.cell? at h
    dsimp only at h
    have : w.heap[b]? = none := by simp [q]
    rw [this] at h
    simp at h

/-- What is known behind a call: old cells, and all new ones. -/
def Wn (w : World) (C : Cells) (w' : World) : Cells := fun b o => if b < w.heap.size then C b o else w'.cell? ⟨b, o, none⟩

theorem Wn_new {w w' : World} {C : Cells} {b o : Nat} (h : w.heap.size ≤ b) : Wn w C w' b o = w'.cell? ⟨b, o, none⟩ := by
  unfold Wn; rw [if_neg (by omega)]

theorem pure_lib {args : List AV} {r : AV} (he : Enters P f) (h : ∀ (C : Cells) (w : World) args', GIn G w → (∀ b o v, C b o = some v → w.cell? ⟨b, o, none⟩ = some v) → RepL C [] [] args args' → Calls P f args'.toArray w fun e w' => ∃ v', e = .returned v' ∧ Below w.heap.size w w' ∧ Rep (Wn w C w') [] [] r v') : PureSpec G P f args r :=
  ⟨he, fun C w args' hg hc hr => (h C w args' (fun b o v q => hc b o v (hg b o v q)) hc hr).mono fun e w' ⟨v', e1, hb, hrep⟩ => by
    refine ⟨Wn w C w', v', e1, fun b o v q => ?_, fun b o v q => ?_, fun b o v q => ?_, hb, hrep, trivial⟩
    · unfold Wn; rw [if_pos (cell_lt (hc b o v q))]; exact q
    · unfold Wn at q
      split at q
      · exact Or.inl q
      · rename_i hn; exact Or.inr (by omega)
    · unfold Wn at q
      split at q
      · rename_i hn
        rw [hb.cell (p := ⟨b, o, none⟩) hn]
        exact hc b o v q
      · exact q⟩

theorem repL_vs {C : Cells} {M : List Loc} {hp : List Blk} : ∀ {xs l : List Value}, RepL C M hp (xs.map .v) l → l = xs
  | [], [], _ => rfl
  | [], _ :: _, h => by have := h.1; simp at this
  | _ :: _, [], h => by have := h.1; simp at this
  | x :: xs, y :: l, h => by
    have h0 := h.2 0 _ _ rfl rfl
    have e : y = x := by cases h0; rfl
    have := repL_vs (xs := xs) (l := l) ⟨by simpa using h.1, fun i a b ha hb => h.2 (i + 1) a b (by simpa using ha) (by simpa using hb)⟩
    rw [e, this]

theorem pureV {xs : List Value} {v : Value} (he : Enters P f) (hv : plain v = true) (h : ∀ w, GIn G w → Calls P f xs.toArray w fun e w' => e = .returned v ∧ Below w.heap.size w w') : PureSpec G P f (xs.map .v) (.v v) :=
  pure_lib he fun C w args' hg hc hr => by
    rw [repL_vs hr]
    exact (h w hg).mono fun e w' ⟨h1, h2⟩ => ⟨v, h1, h2, .v hv⟩

theorem pureV1 {x : Value} {v : Value} (he : Enters P f) (hv : plain v = true) (h : ∀ w, GIn G w → Calls P f #[x] w fun e w' => e = .returned v ∧ Below w.heap.size w w') : PureSpec G P f [.v x] (.v v) := pureV (xs := [x]) he hv h
theorem pureV2 {x y : Value} {v : Value} (he : Enters P f) (hv : plain v = true) (h : ∀ w, GIn G w → Calls P f #[x, y] w fun e w' => e = .returned v ∧ Below w.heap.size w w') : PureSpec G P f [.v x, .v y] (.v v) := pureV (xs := [x, y]) he hv h

/-- A new row of strings. -/
theorem rep_row {C : Cells} {M : List Loc} {hp : List Blk} {b : Nat} {vs : List Value} (hC : ∀ (i : Nat) v, vs[i]? = some v → C b i = some v) (hp' : ∀ v ∈ vs, plain v = true) : Rep C M hp (.sl (vs.map .v) .no) (.slice (some ⟨b, 0, none⟩) vs.length vs.length) := by
  have := Rep.sl (C := C) (M := M) (hp := hp) (xs := vs.map .v) (t := .no) (a := ⟨b, 0, none⟩) (cap := vs.length) (sz := 1) (fun i j => (vs[i]?).getD undef) (fun _ => rfl)
    (fun i x hx => by
      rw [List.getElem?_map, Option.map_eq_some_iff] at hx
      obtain ⟨v, _, rfl⟩ := hx
      rfl)
    (fun i x j c hx hc => by
      rw [List.getElem?_map, Option.map_eq_some_iff] at hx
      obtain ⟨v, hv, rfl⟩ := hx
      cases j with
      | zero =>
        simp only [AV.cells, List.getElem?_cons_zero, Option.some.injEq] at hc
        rw [hv]
        simpa using hC i v hv
      | succ j => simp [AV.cells] at hc)
    (fun i x j c hx hc => by
      rw [List.getElem?_map, Option.map_eq_some_iff] at hx
      obtain ⟨v, hv, rfl⟩ := hx
      cases j with
      | zero =>
        simp only [AV.cells, List.getElem?_cons_zero, Option.some.injEq] at hc
        subst hc
        rw [hv]
        exact .v (hp' v (List.mem_of_getElem? hv))
      | succ j => simp [AV.cells] at hc) trivial (by simp)
  rw [List.length_map] at this
  exact this

/-- A tuple of two. -/
theorem rep_pair {C : Cells} {M : List Loc} {hp : List Blk} {a b : AV} {x y : Value} (h1 : Rep C M hp a x) (h2 : Rep C M hp b y) : Rep C M hp (.tup [a, b]) (.tuple #[x, y]) := .tup rfl fun i u v hu hv => by
  match i with
  | 0 => simp at hu hv; subst hu; subst hv; exact h1
  | 1 => simp at hu hv; subst hu; subst hv; exact h2
  | i + 2 => simp at hu

theorem below_grow {B : Nat} {w : World} {k : Nat} {os : Array Obj} (h : B ≤ w.heap.size) : Below B w (Go.Sort.grow (w.drewN k) os) := by
  refine ⟨rfl, rfl, rfl, ?_, fun i hi => ?_⟩
  · simp
  · rw [Go.Sort.heap_grow_old _ _ (by simp; omega)]
    rfl

end
end Go.Abs
