/- TokenTexts holds for every input: the tokens of any letters are as the document says. Its one condition is the given row's own: the listed package variables hold what the program's text lays into them; the card ties it to that text. -/
import Derived.Test.YtbcmdjlgdnippaaGreatDoorH4
import Derived.Test.YtbcmdjlgdnippaaGreatDoorH5
import Derived.Test.YtbcmdjlgdnippaaGreatDoorT2
set_option linter.unusedVariables false
namespace Go.Proofs.YtbcmdjlgdnippaaGreatDoor
open Go Go.Abs Go.RowKit

theorem flat5 : Tryz.f5.params.toList.mapM (flatT Tryz.prog 20) = some [[.sl [.i .i32]]] := by kernel_rfl
theorem reads5 : (Tryz.f5.params.toList.all fun t => Tryz.prog.readableRec t && decide (t < Tryz.prog.types.size)) = true := by kernel_rfl
theorem res5 : Tryz.f5.resultTypes = #[4] := by kernel_rfl

set_option maxRecDepth 100000 in
theorem tokenTexts_contract (H : Type) (enc : TypeId × Value → H) (W : World) (base : Nat) (args : Array Value) (ds gs : List (DataW H)) (before : List MemPlace)
    (hval : ∀ (j : Nat) t v, Tryz.f5.params[j]? = some t → args[j]? = some v → Value.okWide Tryz.prog W .any base t v)
    (hW : DataW.Whole enc Tryz.prog Tryz.f5.params.toList Rows.tokenTextsSpec.vars false W args.toList ds gs before) (hL : laidMetH Tryz.prog laid W) (hsh : W.ShapedOpen Tryz.prog) :
    Calls Tryz.prog 5 args W fun e W' => ∃ v, e = .returned v ∧ Rows.tokenTextsSpec.post enc Tryz.prog Tryz.f5 false true false false W args v W' := by
  rw [Tryz.params5] at hval
  have hW' := hW
  obtain ⟨p, q, hA, hV, rfl, hz, hn⟩ := hW
  obtain ⟨n1, n2, hcells⟩ := args_ok flat5 hA
  obtain ⟨v1, hargs⟩ : ∃ v1, args.toList = [v1] := by
    generalize args.toList = l at n1
    match l, n1 with
    | [a], _ => exact ⟨a, rfl⟩
  obtain ⟨d1, rfl⟩ : ∃ d1, ds = [d1] := by
    match ds, n2 with
    | [a], _ => exact ⟨a, rfl⟩
  obtain rfl : args = #[v1] := by cases args; simp_all
  obtain ⟨o1, k1, r1⟩ := open_sl (f := i32A) rune_open (by decide) (cellArg Tryz.underlying53 (hval 0 _ v1 rfl rfl) (hcells 0 _ _ rfl rfl))
  exact law_contract laidOut Tryz.underlying4 res5 (readsEach reads5) rfl (fun gs hg => by subst hg; rfl) hW'
    (law5 (gok_of_laid hsh hL) (slc_slcAV i32A o1) (slc_clean i32A o1 fun x c hc => by
      have e : c = i32A x := by simpa [i32A, AV.cells] using hc
      subst e
      exact clean_v _))
    (by exact repl_cons r1 repl_nil)

theorem laid_world (os : Os) (args : Array Value) : laidMetH Tryz.prog laid ((World.laidAll Tryz.prog os laid).forCall (fun _ _ => 0) ⟨#[], args, []⟩).memory := by
  rw [MakeChecks.laidMetH_plain _ _ _ laid_plain]
  exact laidMet_laidAll _ (by kernel_rfl) (by kernel_rfl)

set_option maxRecDepth 100000 in
theorem tokenTexts_lifted (os : Os) (started : os.Started) (H : Type) (enc : TypeId × Value → H) :
    ReturnsInHanded {} Tryz.checked os 5 .any (fun w args => (Rows.tokenTextsSpec.pre enc Tryz.prog Tryz.f5 [] false w args ∧ laidMetH Tryz.prog laid w) ∧ sizedMet enc Tryz.prog Tryz.f5 (OpenSpec.ofChange Rows.tokenTextsSpec) false w args)
      (Rows.tokenTextsSpec.post enc Tryz.prog Tryz.f5 false true false false) := by
  refine returns_of_laid (C := Tryz.checked) (X := fun w _ => laidMetH Tryz.prog laid w) (fun _ _ _ hh h => h.of_heap hh) knobless started (by kernel_rfl) Tryz.func5
    (ChangeSpec.witness_shaped (enc := enc) (C := Tryz.checked) (os := os) (X := fun w _ => laidMetH Tryz.prog laid w) false (World.laidAll Tryz.prog os laid) #[.slice none 0 0] 8 (World.laidAll_os _ _ _) (World.shaped_of_ZipB (by kernel_rfl) (by kernel_rfl)) (by kernel_rfl) (by kernel_rfl) (by kernel_rfl) (laid_world os _)) ?_
  intro W base args ds gs before hval hW hL hsh
  exact tokenTexts_contract H enc W base args ds gs before hval hW hL hsh

theorem inPlace5 : (Rows.tokenTextsRow.inPlace == Tryz.prog.inPlace 5) = true := by kernel_rfl
theorem unfollowed5 : (Rows.tokenTextsRow.unfollowed == Tryz.prog.unfollowed 5) = true := by kernel_rfl
theorem recurses5 : (Rows.tokenTextsRow.recurses == Tryz.prog.recurses 5) = true := by kernel_rfl
theorem named5 : (Rows.tokenTextsRow.named == Tryz.prog.varsNamed 5) = true := by kernel_rfl
theorem goes5 : false = Rows.tokenTextsRow.goesBy Tryz.prog := by kernel_rfl
theorem name5 : Tryz.prog.funcNamed Rows.tokenTextsRow.func = some 5 := by kernel_rfl
theorem noInit5 : Tryz.prog.inits.idxOf? 5 = none := by kernel_rfl
theorem joined5 : joinedFacts Tryz.prog 5 Tryz.f5 Rows.tokenTextsSpec Rows.tokenTextsRow = true :=
  joined_of (by kernel_rfl) laidOut mapsRow (by kernel_rfl) (by kernel_rfl) (by kernel_rfl) stopsNone (by kernel_rfl) stopKnobsNone inPlace5 unfollowed5 recurses5 named5 (by kernel_rfl) (by kernel_rfl) (by kernel_rfl) (by kernel_rfl) (by kernel_rfl) (by kernel_rfl) (by kernel_rfl) (by kernel_rfl) (by kernel_rfl) keysPlain (by kernel_rfl) stopsHear mayEnt liftsFin makeFits (by kernel_rfl) (by kernel_rfl) (by kernel_rfl) (by kernel_rfl)
theorem tokenTexts_holds : Rows.TokenTextsSaid :=
  OpenClaim.holds_of_wide 5 Tryz.f5 rfl rfl rfl rfl rfl rfl rfl ⟨rfl, rfl, rfl, rfl, rfl⟩ rfl rfl rfl rfl rfl name5 Tryz.func5 joined5
    (of_decide_eq_true (by kernel_rfl)) (by unfold Func.isWrapper; first | (rw [if_pos (by decide +kernel)]; kernel_rfl) | (rw [if_neg (by decide +kernel)]; exact ⟨rfl, rfl⟩))
    (fun os started H enc _ => tokenTexts_lifted os started H enc)

theorem stood5 (t : TypeId) (ht : t ∈ [53]) : Tryz.prog.wantsStandIn t = false := by
  have hall : ([53].all fun u => !Tryz.prog.wantsStandIn u) = true := by kernel_rfl
  simpa using List.all_eq_true.1 hall t ht

theorem tokenTexts_card : Rows.TokenTextsCardSaid :=
  Claim7.holds_tied_plain_at .later [] [.data, .data, .data, .data, .sentinel, .sentinel, .pinned] true (true, "6f069fe33474f6e1f2de86477d2d622fcfe79473f68a1663e513ed129d939002") true tokenTexts_holds (fun _ h => by cases h) (by kernel_rfl) (fun _ h => by cases h) tokenTexts_row_tie rfl ⟨rfl, rfl⟩ main_is rfl
    (fun f fn hf hfn => by
      obtain rfl : f = 5 := Option.some.inj (name5.symm.trans hf) |>.symm
      obtain rfl : fn = Tryz.f5 := (Option.some.inj (Tryz.func5.symm.trans hfn)).symm
      exact ⟨looksTrue, fun j t ht => by
        rw [Tryz.params5] at ht
        exact stood5 t (by simpa using Array.mem_of_getElem? ht)⟩)
    goes5
#print axioms tokenTexts_card
end Go.Proofs.YtbcmdjlgdnippaaGreatDoor
