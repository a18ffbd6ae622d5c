/- How a law's arguments read: bytes; and what every claim about this program needs. No condition. -/
import Derived.Test.YtllgfmijocgniaaH2
namespace Go.Proofs.Ytllgfmijocgniaa
open Go Go.Abs Go.RowKit
set_option linter.unusedVariables false

theorem knobless : ownKnob Try.prog.godebug = none := by kernel_rfl
theorem laidOut : laidOutB Try.prog = true := by kernel_rfl
theorem boolT : Try.prog.underlying 4 = some .bool := by kernel_rfl

theorem readsEach {ts : List TypeId} (h : (ts.all fun t => Try.prog.readableRec t && decide (t < Try.prog.types.size)) = true) : ∀ t ∈ ts, Try.prog.readableRec t = true ∧ t < Try.prog.types.size := fun t ht => by
  have := List.all_eq_true.1 h t ht
  simpa using this

set_option maxRecDepth 100000 in
theorem cellArg {W : World} {base : Nat} {t e' : TypeId} {e : List CT} {v : Value} (ht : Try.prog.underlying t = some (.slice e')) (hv : Value.okWide Try.prog W .any base t v) (h : CellsOk W [.sl e] v.cells.toList) : CellOk W (.sl e) v := by
  obtain ⟨w, r, e1, h1, h2⟩ := cellsOk_cons h
  rw [cellsOk_nil h2] at e1
  have : v = w := by
    cases v
    case agg cs => simp [Value.okWide, ht, Cell.okWide, Cell.ok] at hv
    all_goals
      simp [Value.cells] at e1
      exact e1
  rw [this]; exact h1

theorem wf8 {n : Int} (h : (Lit.int .u8 n).wf = true) : 0 ≤ n ∧ n < 256 := by
  simp [Lit.wf, IntKind.min, IntKind.max, IntKind.signed, IntKind.bits] at h
  omega

theorem byt_open {W : World} (cs : List Value) (h : CellsOk W [.i .u8] cs) : ∃ n : Nat, n < 256 ∧ RepL (CW W) [] [] (byt n).cells cs := by
  obtain ⟨_, _, rfl, h1, g1⟩ := cellsOk_cons h
  rw [cellsOk_nil g1]
  obtain ⟨n, rfl, hn⟩ := cell_int h1
  have hb := wf8 hn
  refine ⟨n.toNat, by omega, ?_⟩
  have e : byt n.toNat = .v (.int .u8 n) := by
    unfold byt
    rw [Int.toNat_of_nonneg hb.1]
  rw [e]
  exact repl_cons (rep_int _ _) repl_nil

end Go.Proofs.Ytllgfmijocgniaa
