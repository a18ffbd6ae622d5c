/- Calls that leave old memory alone and of whose outcome something is known. No condition. -/
import Derived.Test.YtbcmdjlgdnippaaGreatDoorX6
set_option linter.unusedVariables false
namespace Go.Abs
open Go.RowKit

/-- Whatever the world: the call returns one of these, and nothing that was there has turned. -/
def PureQ (G : Cells) (P : Program) (f : FuncId) (args : List AV) (Q : AV → Prop) : Prop :=
  Enters P f ∧ ∀ (C : Cells) (w : World) (args' : List Value), (∀ b o v, G b o = some v → C b o = some v) → (∀ b o v, C b o = some v → w.cell? ⟨b, o, none⟩ = some v) → RepL C [] [] args args' →
    Calls P f args'.toArray w fun e w' => ∃ r, Q r ∧ ∃ C' v', e = .returned v' ∧ (∀ b o v, C b o = some v → C' b o = some v) ∧ (∀ b o v, C' b o = some v → C b o = some v ∨ w.heap.size ≤ b) ∧
      (∀ b o v, C' b o = some v → w'.cell? ⟨b, o, none⟩ = some v) ∧ Below w.heap.size w w' ∧ Rep C' [] [] r v'

section
variable {G : Cells} {P : Program}

theorem PureQ.mono {f : FuncId} {args : List AV} {Q Q' : AV → Prop} (h : PureQ G P f args Q) (hq : ∀ r, Q r → Q' r) : PureQ G P f args Q' :=
  ⟨h.1, fun C w args' hg hc hr => (h.2 C w args' hg hc hr).mono fun e w' ⟨r, q, rest⟩ => ⟨r, hq r q, rest⟩⟩

theorem PureSpec.q {f : FuncId} {args : List AV} {r0 : AV} {Q : AV → Prop} (h : PureSpec G P f args r0) (hq : Q r0) : PureQ G P f args Q :=
  ⟨h.1, fun C w args' hg hc hr => (h.2 C w args' hg hc hr).mono fun e w' ⟨C', v', a, b, c, d, e1, g, _⟩ => ⟨r0, hq, C', v', a, b, c, d, e1, g⟩⟩

theorem PureQ.spec {f : FuncId} {args : List AV} {r0 : AV} (h : PureQ G P f args (· = r0)) : PureSpec G P f args r0 :=
  ⟨h.1, fun C w args' hg hc hr => (h.2 C w args' hg hc hr).mono fun e w' ⟨r, q, C', v', a, b, c, d, e1, g⟩ => by subst q; exact ⟨C', v', a, b, c, d, e1, g, trivial⟩⟩

theorem CallOk.pureQ {f : FuncId} {args args0 : List AV} {Q : AV → Prop} {hp : List Blk} {K : AV → List Blk → Prop} (h : PureQ G P f args Q) (hi : ImpCs args0 args) (hk : ∀ r, Q r → K r hp) : CallOk G P f args0 hp K :=
  ⟨h.1, fun base w0 C M w args' hs hr => (h.2 C w args' hs.glob hs.froz (hi.rep hr)).mono fun e w' ⟨r, q, C', v', he, h1, h2, h3, hb, hrep⟩ => by
    obtain ⟨hle, hsim⟩ := sim_pure hs h1 h2 h3 hb
    exact ⟨C', M, hp, r, v', hk r q, he, hle, hsim, hrep.mono le_nil⟩⟩

/-- A call on values without the heap, its outcome closed. -/
theorem pureQ_close {f : FuncId} {args : List AV} {Q : AV → Prop} (h : CallOk G P f args [] fun r hp' => ∃ n r0, fzA hp' n r = some r0 ∧ Q r0) : PureQ G P f args Q :=
  ⟨h.1, fun C w args' hg hc hr => (h.2 w.heap.size ⟨w, C⟩ C [] w args' (sim_start hg hc) hr).mono fun e w' ⟨C', M', hp', r, v', ⟨n, r0, hfz, hq⟩, he, hle, hsim, hrep⟩ => by
    refine ⟨r0, hq, fun b o => match C' b o with
      | some v => some v
      | none => if w.heap.size ≤ b then w'.cell? ⟨b, o, none⟩ else none, v', he, fun b o v q => ?_, fun b o v q => ?_, fun b o v q => ?_, hsim.below, ?_⟩
    · simp only [hle.C b o v q]
    · dsimp only at q
      split at q
      · rename_i u hu
        cases q
        rcases Nat.lt_or_ge b w.heap.size with hb | hb
        · exact Or.inl (hsim.old b o v hu hb)
        · exact Or.inr hb
      · split at q
        · rename_i hb; exact Or.inr hb
        · cases q
    · dsimp only at q
      split at q
      · rename_i u hu
        cases q
        exact hsim.froz b o v hu
      · split at q
        · exact q
        · cases q
    · refine fz_rep (hp := hp') (hpz := hp') (fun b o v q => by simp only [q]) (fun k cs row L hk hM i c hc => ?_) (fun _ _ _ q => q) hfz hrep
      obtain ⟨h1, h2, h3, h4, h5, h6⟩ := hsim.cells k cs row L hk hM
      obtain ⟨c', q1, q2⟩ := h3 i c hc
      refine ⟨c', ?_, q2⟩
      simp only [h5 i]
      rw [if_pos h1]
      exact q1⟩

/-- A call that says what it comes to, without the heap. -/
theorem PureQ.of {f : FuncId} {args : List AV} {Q : AV → Prop} (h : ∃ r, Q r ∧ PureSpec G P f args r) : PureQ G P f args Q := by
  obtain ⟨r, q, h⟩ := h
  exact h.q q
end
end Go.Abs
