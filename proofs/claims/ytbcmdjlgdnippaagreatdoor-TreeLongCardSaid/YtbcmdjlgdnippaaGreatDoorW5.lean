/- The copy check at this program. No condition. -/
import Derived.Test.YtbcmdjlgdnippaaGreatDoorW4
import Derived.Test.YtbcmdjlgdnippaaGreatDoorProg
import Derived.Shelf.Strings.Builder1
set_option linter.unusedVariables false
namespace Go.Proofs
open Go.RowKit
set_option maxHeartbeats 1000000 in
set_option maxRecDepth 100000 in
theorem checkUsed (b : Nat) (w : World) (h0 : w.cell? ⟨b, 0, none⟩ = some (.pointer (some ⟨b, 0, none⟩))) :
    Calls Tryz.prog 297 #[.pointer (some ⟨b, 0, none⟩)] w fun e w' => e = .returned (.tuple #[]) ∧ w' = w := by
  obtain ⟨j, hj⟩ : ∃ j, Tryz.prog.info? 340 = some j := ⟨_, rfl⟩
  go_enter Tryz.func297, Tryz.ntmps297
  go_wp2
  rw [Lib.run_neq_ptr_same w _ (tp := 338) (te := 340) (by kernel_rfl) hj]
  go_wp2
  go_end0
  exact ⟨rfl, rfl⟩

set_option maxHeartbeats 1000000 in
set_option maxRecDepth 100000 in
theorem checkFresh (b : Nat) (w : World) (h0 : w.cell? ⟨b, 0, none⟩ = some (.pointer none)) (hsh : w.shape? b = some (340, 2)) (hfz : w.frozen? ⟨b, 0, none⟩ = false) :
    Calls Tryz.prog 297 #[.pointer (some ⟨b, 0, none⟩)] w fun e w' => e = .returned (.tuple #[]) ∧ w' = w.setCell ⟨b, 0, none⟩ (.pointer (some ⟨b, 0, none⟩)) := by
  obtain ⟨j, hj, hjs⟩ : ∃ j, Tryz.prog.info? 340 = some j ∧ j.size ≠ 0 := ⟨_, rfl, by decide⟩
  go_enter Tryz.func297, Tryz.ntmps297
  go_wp2
  rw [Lib.run_to_unsafe w ⟨b, 0, none⟩ (src := 338) (dst := 450) (t := 340) (by kernel_rfl) (by kernel_rfl) hj hjs hsh (Nat.zero_lt_succ 1)]
  simp only [Result.andThen]
  rw [Oper.upon_value]
  go_wp2
  rw [run_callFunc_extern Tryz.func347 (by kernel_rfl) (by kernel_rfl) (by kernel_rfl) (e := Extern.AbiNoEscape.same) (by kernel_rfl)]
  rw [Lib.run_noEscape]
  simp only [Result.andThen]
  rw [Oper.upon_value]
  go_wp2
  rw [Lib.run_from_unsafe w ⟨b, 0, none⟩ (src := 450) (dst := 338) (u := 340) (by kernel_rfl) (by kernel_rfl) hj hsh (by kernel_rfl)]
  simp only [Result.andThen]
  rw [Oper.upon_value]
  go_wp2
  go_end0
  exact ⟨rfl, rfl⟩

theorem Tryz.checkSpec : Go.Abs.CheckSpec Tryz.prog 297 (340, 2) where
  enters := ⟨_, Tryz.func297, by kernel_rfl, by kernel_rfl⟩
  fresh := fun b w h0 hsh hfz => checkFresh b w h0 hsh hfz
  used := fun b w h0 => checkUsed b w h0
#print axioms Tryz.checkSpec
end Go.Proofs
