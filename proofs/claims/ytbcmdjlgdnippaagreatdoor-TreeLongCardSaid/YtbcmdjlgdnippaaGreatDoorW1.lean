/- A builder's copy check, as the abstract heap has it. No condition. -/
import Derived.Test.YtbcmdjlgdnippaaGreatDoorE
set_option linter.unusedVariables false
namespace Go.Abs
open Go.RowKit

section
variable {G : Cells} {P : Program}

/-- What the copy check does: where the first cell is nil it puts the block's own address there. -/
structure CheckSpec (P : Program) (f : FuncId) (t : TypeId × Nat) : Prop where
  enters : Enters P f
  fresh : ∀ b w, w.cell? ⟨b, 0, none⟩ = some (.pointer none) → w.shape? b = some t → w.frozen? ⟨b, 0, none⟩ = false →
    Calls P f #[.pointer (some ⟨b, 0, none⟩)] w fun e w' => e = .returned (.tuple #[]) ∧ w' = w.setCell ⟨b, 0, none⟩ (.pointer (some ⟨b, 0, none⟩))
  used : ∀ b w, w.cell? ⟨b, 0, none⟩ = some (.pointer (some ⟨b, 0, none⟩)) →
    Calls P f #[.pointer (some ⟨b, 0, none⟩)] w fun e w' => e = .returned (.tuple #[]) ∧ w' = w

theorem rep_unit {C : Cells} {M : List Loc} {hp : List Blk} : Rep C M hp (.tup []) (.tuple #[]) := .tup rfl fun i a b ha hb => by simp at ha

theorem callOk_fresh {f : FuncId} {t : TypeId × Nat} (hS : CheckSpec P f t) {k : Nat} {z : List AV} {hp : List Blk} (hk : hp[k]? = some (.cells (.bt k t :: z) false)) :
    CallOk G P f [.mp k 0] hp fun r hp' => r = .tup [] ∧ hp' = hp.set k (.cells (.mp k 0 :: z) false) := by
  refine ⟨hS.enters, fun base w0 C M w args' hs hr => ?_⟩
  obtain ⟨hl, hh⟩ := hr
  match args', hl, hh with
  | [v], _, hh =>
    have hv := hh 0 _ _ rfl rfl
    cases hv with
    | @mp _ _ L cs hb hM =>
      obtain ⟨_, _, h3, h4, _, _, h7⟩ := hs.cells k _ _ L hk hM
      obtain ⟨c', h5, h6⟩ := h3 0 (.bt k t) rfl
      generalize hx : AV.bt k t = x at h6
      cases h6 with
      | @bt k' L' cs' hb' hM' =>
        cases hx
        rw [hM] at hM'
        cases hM'
        refine (hS.fresh L.b w h5 h7 (h4 0)).mono ?_
        rintro e w' ⟨rfl, rfl⟩
        obtain ⟨hle, hsim⟩ := hs.store hk hM 0 [.mp k 0] [.pointer (some ⟨L.b, 0, none⟩)] ⟨rfl, fun i a b ha hb2 => by
          cases i with
          | zero => simp at ha hb2; subst ha; subst hb2; exact .mp hk hM
          | succ i => simp at ha⟩ (by simp)
        exact ⟨C, M, _, .tup [], .tuple #[], ⟨rfl, rfl⟩, rfl, hle, hsim, rep_unit⟩
      | _ => cases hx

theorem callOk_used {f : FuncId} {t : TypeId × Nat} (hS : CheckSpec P f t) {k : Nat} {z : List AV} {hp : List Blk} (hk : hp[k]? = some (.cells (.mp k 0 :: z) false)) :
    CallOk G P f [.mp k 0] hp fun r hp' => r = .tup [] ∧ hp' = hp := by
  refine ⟨hS.enters, fun base w0 C M w args' hs hr => ?_⟩
  obtain ⟨hl, hh⟩ := hr
  match args', hl, hh with
  | [v], _, hh =>
    have hv := hh 0 _ _ rfl rfl
    cases hv with
    | @mp _ _ L cs hb hM =>
      obtain ⟨_, _, h3, _⟩ := hs.cells k _ _ L hk hM
      obtain ⟨c', h5, h6⟩ := h3 0 (.mp k 0) rfl
      generalize hx : AV.mp k 0 = x at h6
      cases h6 with
      | @mp k' off L' cs' hb' hM' =>
        cases hx
        rw [hM] at hM'
        cases hM'
        refine (hS.used L.b w h5).mono ?_
        rintro e w' ⟨rfl, rfl⟩
        exact ⟨C, M, _, .tup [], .tuple #[], ⟨rfl, rfl⟩, rfl, Le.refl _ _ _, hs, rep_unit⟩
      | _ => cases hx

end
end Go.Abs
