/- How values close: rules without fuel. No condition. -/
import Derived.Test.YtbcmdjlgdnippaaGreatDoorX7
set_option linter.unusedVariables false
namespace Go.Abs
open Go.RowKit

/-- A value comes to this, closed. -/
def Fz (hp : List Blk) (x y : AV) : Prop := ∃ n0, ∀ n, n0 ≤ n → fzA hp n x = some y
def FzL (hp : List Blk) (xs ys : List AV) : Prop := ∃ n0, ∀ n, n0 ≤ n → mapO (fzA hp n) xs = some ys

section
variable {hp : List Blk}

theorem Fz.done {x y : AV} (h : Fz hp x y) : ∃ n, fzA hp n x = some y := by
  obtain ⟨n, h⟩ := h
  exact ⟨n, h n (Nat.le_refl n)⟩
theorem Fz.done2 {x y : AV} (h : Fz hp x y) : ∃ n r0, fzA hp n x = some r0 ∧ r0 = y := by
  obtain ⟨n, h⟩ := h.done
  exact ⟨n, y, h, rfl⟩

theorem fz_succ {x y : AV} (h : ∃ n0, ∀ n, n0 ≤ n → fzA hp (n + 1) x = some y) : Fz hp x y := by
  obtain ⟨n0, h⟩ := h
  refine ⟨n0 + 1, fun n hn => ?_⟩
  obtain ⟨m, rfl⟩ : ∃ m, n = m + 1 := ⟨n - 1, by omega⟩
  exact h m (by omega)

theorem FzL.nil : FzL hp [] [] := ⟨0, fun n _ => rfl⟩
theorem FzL.cons {x y : AV} {xs ys : List AV} (h : Fz hp x y) (k : FzL hp xs ys) : FzL hp (x :: xs) (y :: ys) := by
  obtain ⟨n0, h⟩ := h
  obtain ⟨n1, k⟩ := k
  exact ⟨n0 + n1, fun n hn => by simp only [mapO, h n (by omega), k n (by omega)]⟩
theorem FzL.append {xs ys xs' ys' : List AV} (h : FzL hp xs ys) (k : FzL hp xs' ys') : FzL hp (xs ++ xs') (ys ++ ys') := by
  induction xs generalizing ys with
  | nil =>
    obtain ⟨n0, h⟩ := h
    have := h n0 (Nat.le_refl _)
    cases this
    exact k
  | cons x xs ih =>
    obtain ⟨n0, h⟩ := h
    have h0 := h n0 (Nat.le_refl _)
    simp only [mapO] at h0
    split at h0
    · rename_i y hy
      split at h0
      · rename_i l hl
        cases h0
        refine FzL.cons ⟨n0, fun n hn => ?_⟩ (ih ⟨n0, fun n hn => ?_⟩)
        all_goals
          have h1 := h n hn
          simp only [mapO] at h1
          split at h1
          · rename_i y' hy'
            split at h1
            · rename_i l' hl'
              cases h1
              first | exact hy' | exact hl'
            · cases h1
          · cases h1
      · cases h0
    · cases h0
theorem FzL.map {α : Type} {f : α → AV} : ∀ {l : List α}, (∀ a ∈ l, Fz hp (f a) (f a)) → FzL hp (l.map f) (l.map f)
  | [], _ => FzL.nil
  | a :: l, h => FzL.cons (h a (by simp)) (FzL.map fun b hb => h b (by simp [hb]))
theorem FzL.each {l : List AV} (h : ∀ a ∈ l, Fz hp a a) : FzL hp l l := by
  have := FzL.map (hp := hp) (f := fun a => a) (l := l) h
  simpa using this

theorem Fz.v (x : Value) : Fz hp (.v x) (.v x) := fz_succ ⟨0, fun n _ => rfl⟩
theorem Fz.nsl : Fz hp .nsl .nsl := fz_succ ⟨0, fun n _ => rfl⟩
theorem Fz.agg {xs ys : List AV} (h : FzL hp xs ys) : Fz hp (.agg xs) (.agg ys) := by
  obtain ⟨n0, h⟩ := h
  exact fz_succ ⟨n0, fun n hn => by show (mapO (fzA hp n) xs).map AV.agg = _; rw [h n hn]; rfl⟩
theorem Fz.tup {xs ys : List AV} (h : FzL hp xs ys) : Fz hp (.tup xs) (.tup ys) := by
  obtain ⟨n0, h⟩ := h
  exact fz_succ ⟨n0, fun n hn => by show (mapO (fzA hp n) xs).map AV.tup = _; rw [h n hn]; rfl⟩
theorem Fz.sl {xs ys : List AV} {t : Tail} (h : FzL hp xs ys) : Fz hp (.sl xs t) (.sl ys .no) := by
  obtain ⟨n0, h⟩ := h
  exact fz_succ ⟨n0, fun n hn => by show (mapO (fzA hp n) xs).map (fun ys => AV.sl ys .no) = _; rw [h n hn]; rfl⟩
theorem Fz.fp {xs ys : List AV} {o : Nat} (h : FzL hp xs ys) : Fz hp (.fp xs o) (.fp ys o) := by
  obtain ⟨n0, h⟩ := h
  exact fz_succ ⟨n0, fun n hn => by show (mapO (fzA hp n) xs).map (fun ys => AV.fp ys o) = _; rw [h n hn]; rfl⟩
theorem Fz.ifc {t : TypeId} {x y : AV} (h : Fz hp x y) : Fz hp (.ifc t x) (.ifc t y) := by
  obtain ⟨n0, h⟩ := h
  exact fz_succ ⟨n0, fun n hn => by show (fzA hp n x).map (AV.ifc t) = _; rw [h n hn]; rfl⟩
theorem Fz.mp {k o : Nat} {xs ys : List AV} (hk : hp[k]? = some (.cells xs false)) (h : FzL hp xs ys) : Fz hp (.mp k o) (.fp ys o) := by
  obtain ⟨n0, h⟩ := h
  exact fz_succ ⟨n0, fun n hn => by simp only [fzA, hk, h n hn, Option.map_some]⟩
theorem Fz.rs {k m sz o len : Nat} {xs ys : List AV} (hk : hp[k]? = some (.cells xs true)) (hm : m = xs.length) (h : FzL hp xs ys) : Fz hp (.rs k m sz o len) (.sl (chunks sz ys o len) .no) := by
  obtain ⟨n0, h⟩ := h
  exact fz_succ ⟨n0, fun n hn => by simp only [fzA, hk, hm, if_true, h n hn, Option.map_some]⟩
theorem Fz.rp {k m o : Nat} {xs ys : List AV} (hk : hp[k]? = some (.cells xs true)) (hm : m = xs.length) (h : FzL hp xs ys) : Fz hp (.rp k m o) (.fp ys o) := by
  obtain ⟨n0, h⟩ := h
  exact fz_succ ⟨n0, fun n hn => by simp only [fzA, hk, hm, if_true, h n hn, Option.map_some]⟩
end

theorem clean_fpC {cs : List AV} {off : Nat} (h : ∀ c ∈ cs, Clean c) : Clean (.fp cs off) := fun C M hp v hr => by
  cases hr with
  | fp f hC hR => exact .fp f hC fun i c hc => h c (List.mem_of_getElem? hc) _ _ _ _ (hR i c hc)

/-- Values without addresses of the heap, surely. -/
def closedB : Nat → AV → Bool
  | 0, _ => false
  | n + 1, x => match x with
    | .v _ => true
    | .nsl => true
    | .agg cs => cs.all (closedB n)
    | .tup cs => cs.all (closedB n)
    | .fp cs _ => cs.all (closedB n)
    | .sl xs .no => xs.all fun x => x.cells.all (closedB n)
    | _ => false
theorem closedB_ok : ∀ {n : Nat} {x : AV}, closedB n x = true → Clean x
  | 0, x, h => by cases h
  | n + 1, x, h => by
    unfold closedB at h
    split at h
    · exact clean_v _
    · exact clean_nsl
    · exact clean_agg fun c hc => closedB_ok (List.all_eq_true.1 h c hc)
    · exact clean_tup fun c hc => closedB_ok (List.all_eq_true.1 h c hc)
    · exact clean_fpC fun c hc => closedB_ok (List.all_eq_true.1 h c hc)
    · exact clean_sl fun x hx c hc => closedB_ok (List.all_eq_true.1 (List.all_eq_true.1 h x hx) c hc)
    · cases h
end Go.Abs
