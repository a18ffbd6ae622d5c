/- PackLays holds for every input: what is packed is as the document says, and unpacked as it was. No condition. -/
import Derived.Test.YtllgfmijocgniaaH2
namespace Go.Proofs.Ytllgfmijocgniaa
open Go Go.Abs Go.RowKit
set_option linter.unusedVariables false

theorem own : ownKnob Try.prog.godebug = none := by kernel_rfl
theorem laid : laidOutB Try.prog = true := by kernel_rfl

theorem flat3 : Try.f3.params.toList.mapM (flatT Try.prog 20) = some [[.sl tokCT], [.sl stpCT], [.sl oprCT]] := by kernel_rfl
theorem reads3 : (Try.f3.params.toList.all fun t => Try.prog.readableRec t && decide (t < Try.prog.types.size)) = true := by kernel_rfl
theorem res3 : Try.f3.resultTypes = #[4] := by kernel_rfl
theorem bool4 : Try.prog.underlying 4 = some .bool := by kernel_rfl

theorem reads_all {ts : List TypeId} (h : (ts.all fun t => Try.prog.readableRec t && decide (t < Try.prog.types.size)) = true) : ∀ t ∈ ts, Try.prog.readableRec t = true ∧ t < Try.prog.types.size := fun t ht => by
  have := List.all_eq_true.1 h t ht
  simpa using this

set_option maxRecDepth 100000 in
theorem one_of {W : World} {base : Nat} {t e' : TypeId} {e : List CT} {v : Value} (ht : Try.prog.underlying t = some (.slice e')) (hv : Value.okWide Try.prog W .any base t v) (h : CellsOk W [.sl e] v.cells.toList) : CellOk W (.sl e) v := by
  obtain ⟨w, r, e1, h1, h2⟩ := cellsOk_cons h
  rw [cellsOk_nil h2] at e1
  have : v = w := by
    cases v
    case agg cs => simp [Value.okWide, ht, Cell.okWide, Cell.ok] at hv
    all_goals
      simp [Value.cells] at e1
      exact e1
  rw [this]; exact h1

set_option maxRecDepth 100000 in
theorem packLays_contract (H : Type) (enc : TypeId × Value → H) (W : World) (base : Nat) (args : Array Value) (ds gs : List (DataW H)) (before : List MemPlace)
    (hval : ∀ (j : Nat) t v, Try.f3.params[j]? = some t → args[j]? = some v → Value.okWide Try.prog W .any base t v)
    (hW : DataW.Whole enc Try.prog Try.f3.params.toList Rows.packLaysSpec.vars false W args.toList ds gs before) :
    Calls Try.prog 3 args W fun e W' => ∃ v, e = .returned v ∧ Rows.packLaysSpec.post enc Try.prog Try.f3 false true false false W args v W' := by
  rw [Try.params3] at hval
  have hW' := hW
  obtain ⟨p, q, hA, hV, rfl, hz, hn⟩ := hW
  obtain ⟨n1, n2, hcells⟩ := args_ok flat3 hA
  obtain ⟨v1, v2, v3, hargs⟩ : ∃ v1 v2 v3, args.toList = [v1, v2, v3] := by
    generalize args.toList = l at n1
    match l, n1 with
    | [a, b, c], _ => exact ⟨a, b, c, rfl⟩
  obtain ⟨d1, d2, d3, rfl⟩ : ∃ d1 d2 d3, ds = [d1, d2, d3] := by
    match ds, n2 with
    | [a, b, c], _ => exact ⟨a, b, c, rfl⟩
  obtain rfl : args = #[v1, v2, v3] := by cases args; simp_all
  obtain ⟨o1, k1, r1⟩ := open_sl (f := Tok.av) tok_open (by decide) (one_of Try.underlying22 (hval 0 _ v1 rfl rfl) (hcells 0 _ _ rfl rfl))
  obtain ⟨o2, k2, r2⟩ := open_sl (f := Stp.av) stp_open (by decide) (one_of Try.underlying23 (hval 1 _ v2 rfl rfl) (hcells 1 _ _ rfl rfl))
  obtain ⟨o3, k3, r3⟩ := open_sl (f := Opr.av) opr_open (by decide) (one_of Try.underlying24 (hval 2 _ v3 rfl rfl) (hcells 2 _ _ rfl rfl))
  exact law_contract laid bool4 res3 (reads_all reads3) rfl (fun gs hg => by subst hg; rfl) hW'
    (packLays3 (slc_slc Tok.av o1) (slc_slc Stp.av o2) (slc_slc Opr.av o3) (slc_clean _ _ tok_cells_clean) (slc_clean _ _ stp_cells_clean) (slc_clean _ _ opr_cells_clean) k1 k2 k3)
    (by exact repl_cons r1 (repl_cons r2 (repl_cons r3 repl_nil)))

set_option maxRecDepth 100000 in
theorem packLays_lifted (os : Os) (started : os.Started) (H : Type) (enc : TypeId × Value → H) :
    ReturnsInHanded {} Try.checked os 3 .any (Rows.packLaysSpec.pre6 enc Try.prog Try.f3 Rows.packLaysRow.domain false) (Rows.packLaysSpec.post enc Try.prog Try.f3 false true false false) := by
  refine returnsInHanded_of_change (C := Try.checked) own started (by kernel_rfl) Try.func3
    (ChangeSpec.witness6 (enc := enc) (C := Try.checked) false ⟨#[], #[.slice none 0 0, .slice none 0 0, .slice none 0 0], []⟩ 8 (by kernel_rfl) (by kernel_rfl) (by kernel_rfl) (by kernel_rfl)) ?_
  intro W base args ds gs before hval hW _ _
  exact packLays_contract H enc W base args ds gs before hval hW

theorem packLays_holds : Rows.PackLaysSaid :=
  OpenClaim.holds_of_wide 3 Try.f3 rfl rfl rfl rfl rfl rfl rfl ⟨rfl, rfl, rfl, rfl, rfl⟩ rfl rfl rfl rfl rfl (by kernel_rfl) Try.func3 (by kernel_rfl)
    (of_decide_eq_true (by kernel_rfl)) (by unfold Func.isWrapper; first | (rw [if_pos (by decide +kernel)]; kernel_rfl) | (rw [if_neg (by decide +kernel)]; exact ⟨rfl, rfl⟩))
    (fun os started H enc _ => packLays_lifted os started H enc)
#print axioms packLays_holds
end Go.Proofs.Ytllgfmijocgniaa
