/- KeepReads holds for every input: frames are as the document says, and so is what bytes hold. No condition. -/
import Derived.Test.YtllgfmijocgniaaK8
import Derived.Test.YtllgfmijocgniaaJ8
namespace Go.Proofs.Ytllgfmijocgniaa
open Go Go.Abs Go.RowKit
set_option linter.unusedVariables false

theorem flat4 : Try.f4.params.toList.mapM (flatT Try.prog 20) = some [[.sl oprCT], [.sl [.i .u8]]] := by kernel_rfl
theorem paramReads4 : (Try.f4.params.toList.all fun t => Try.prog.readableRec t && decide (t < Try.prog.types.size)) = true := by kernel_rfl
theorem res4 : Try.f4.resultTypes = #[4] := by kernel_rfl

set_option maxRecDepth 100000 in
theorem keepReads_contract (H : Type) (enc : TypeId × Value → H) (W : World) (base : Nat) (args : Array Value) (ds gs : List (DataW H)) (before : List MemPlace)
    (hval : ∀ (j : Nat) t v, Try.f4.params[j]? = some t → args[j]? = some v → Value.okWide Try.prog W .any base t v)
    (hW : DataW.Whole enc Try.prog Try.f4.params.toList Rows.keepReadsSpec.vars false W args.toList ds gs before) :
    Calls Try.prog 4 args W fun e W' => ∃ v, e = .returned v ∧ Rows.keepReadsSpec.post enc Try.prog Try.f4 false true false false W args v W' := by
  rw [Try.params4] at hval
  have hW' := hW
  obtain ⟨p, q, hA, hV, rfl, hz, hn⟩ := hW
  obtain ⟨n1, n2, hcells⟩ := args_ok flat4 hA
  obtain ⟨v1, v2, hargs⟩ : ∃ v1 v2, args.toList = [v1, v2] := by
    generalize args.toList = l at n1
    match l, n1 with
    | [a, b], _ => exact ⟨a, b, rfl⟩
  obtain ⟨d1, d2, rfl⟩ : ∃ d1 d2, ds = [d1, d2] := by
    match ds, n2 with
    | [a, b], _ => exact ⟨a, b, rfl⟩
  obtain rfl : args = #[v1, v2] := by cases args; simp_all
  obtain ⟨o1, k1, r1⟩ := open_sl (f := Opr.av) opr_open (by decide) (cellArg Try.underlying24 (hval 0 _ v1 rfl rfl) (hcells 0 _ _ rfl rfl))
  obtain ⟨o2, k2, r2⟩ := open_sl (f := byt) byt_open (by decide) (cellArg Try.underlying28 (hval 1 _ v2 rfl rfl) (hcells 1 _ _ rfl rfl))
  exact law_contract laidOut boolT res4 (readsEach paramReads4) rfl (fun gs hg => by subst hg; rfl) hW'
    (reads4 (slc_slc Opr.av o1) (slc_slc byt o2) k2 (slc_clean _ _ opr_cells_clean) (slc_clean _ _ fun x c hc => by
      have e : c = byt x := by simpa [byt, AV.cells] using hc
      subst e
      exact clean_v _) k1)
    (by exact repl_cons r1 (repl_cons r2 repl_nil))

set_option maxRecDepth 100000 in
theorem keepReads_lifted (os : Os) (started : os.Started) (H : Type) (enc : TypeId × Value → H) :
    ReturnsInHanded {} Try.checked os 4 .any (Rows.keepReadsSpec.pre6 enc Try.prog Try.f4 Rows.keepReadsRow.domain false) (Rows.keepReadsSpec.post enc Try.prog Try.f4 false true false false) := by
  refine returnsInHanded_of_change (C := Try.checked) knobless started (by kernel_rfl) Try.func4
    (ChangeSpec.witness6 (enc := enc) (C := Try.checked) false ⟨#[], #[.slice none 0 0, .slice none 0 0], []⟩ 8 (by kernel_rfl) (by kernel_rfl) (by kernel_rfl) (by kernel_rfl)) ?_
  intro W base args ds gs before hval hW _ _
  exact keepReads_contract H enc W base args ds gs before hval hW

theorem keepReads_holds : Rows.KeepReadsSaid :=
  OpenClaim.holds_of_wide 4 Try.f4 rfl rfl rfl rfl rfl rfl rfl ⟨rfl, rfl, rfl, rfl, rfl⟩ rfl rfl rfl rfl rfl (by kernel_rfl) Try.func4 (by kernel_rfl)
    (of_decide_eq_true (by kernel_rfl)) (by unfold Func.isWrapper; first | (rw [if_pos (by decide +kernel)]; kernel_rfl) | (rw [if_neg (by decide +kernel)]; exact ⟨rfl, rfl⟩))
    (fun os started H enc _ => keepReads_lifted os started H enc)
#print axioms keepReads_holds
end Go.Proofs.Ytllgfmijocgniaa
