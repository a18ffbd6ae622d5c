/- TreeLong holds for every input: a row of letters is a tree up to 20000 of them, nodes in nodes are up to 40 of them. Its one condition is the given row's own: the listed package variables hold what the program's text lays into them; the card ties it to that text. -/
import Derived.Test.YtbcmdjlgdnippaaGreatDoorH4
import Derived.Test.YtbcmdjlgdnippaaGreatDoorH5
import Derived.Test.YtbcmdjlgdnippaaGreatDoorT3
import Derived.ProofKit
set_option linter.unusedVariables false
namespace Go.Proofs.YtbcmdjlgdnippaaGreatDoor
open Go Go.Abs Go.RowKit Go.ChangeShapes Go.WideShapes

theorem reads3 : (Tryz.f3.params.toList.all fun t => Tryz.prog.readableRec t && decide (t < Tryz.prog.types.size)) = true := by kernel_rfl
theorem res3 : Tryz.f3.resultTypes = #[4] := by kernel_rfl

set_option maxRecDepth 100000 in
theorem treeLong_contract (H : Type) (enc : TypeId × Value → H) (W : World) (base : Nat) (args : Array Value) (ds gs : List (DataW H)) (before : List MemPlace)
    (hval : ∀ (j : Nat) t v, Tryz.f3.params[j]? = some t → args[j]? = some v → Value.okWide Tryz.prog W .any base t v)
    (hW : DataW.Whole enc Tryz.prog Tryz.f3.params.toList Rows.treeLongSpec.vars false W args.toList ds gs before) (hL : laidMetH Tryz.prog laid W) (hsh : W.ShapedOpen Tryz.prog) :
    Calls Tryz.prog 3 args W fun e W' => ∃ v, e = .returned v ∧ Rows.treeLongSpec.post enc Tryz.prog Tryz.f3 false true false false W args v W' := by
  rw [Tryz.params3] at hval
  have hW' := hW
  obtain ⟨p, q, hA0, hV, rfl, hz, hn⟩ := hW
  have hA : DataW.TrodAll enc Tryz.prog W 0 (fun _ => true) true Tryz.f3.params.toList args.toList ds p := hA0
  rw [Tryz.params3] at hA
  obtain ⟨v0, v1, d0, d1, p0, p1, rfl, rfl, rfl, h0, h1⟩ := trodAll_two hA
  obtain ⟨a, rfl, rfl, rfl, wa⟩ := open_int Tryz.underlying22 (hval 0 22 v0 rfl rfl) h0
  obtain ⟨b, rfl, rfl, rfl, wb⟩ := open_int Tryz.underlying5 (hval 1 5 v1 rfl rfl) h1
  have ha : 0 ≤ a := by simp [Lit.wf, IntKind.min, IntKind.max, IntKind.signed, IntKind.bits] at wa; omega
  have hb : 0 ≤ b := by simp [Lit.wf, IntKind.min, IntKind.max, IntKind.signed, IntKind.bits] at wb; omega
  obtain ⟨n, rfl⟩ : ∃ n : Nat, a = n := ⟨a.toNat, by omega⟩
  obtain ⟨d, rfl⟩ : ∃ d : Nat, b = d := ⟨b.toNat, by omega⟩
  exact law_contract laidOut Tryz.underlying4 res3 (readsEach reads3) rfl (fun gs hg => by subst hg; rfl) hW'
    (law3 (gok_of_laid hsh hL) n d) (by exact repl_cons (rep_int _ _) (repl_cons (rep_int _ _) repl_nil))

theorem laid_world (os : Os) (args : Array Value) : laidMetH Tryz.prog laid ((World.laidAll Tryz.prog os laid).forCall (fun _ _ => 0) ⟨#[], args, []⟩).memory := by
  rw [MakeChecks.laidMetH_plain _ _ _ laid_plain]
  exact laidMet_laidAll _ (by kernel_rfl) (by kernel_rfl)

set_option maxRecDepth 100000 in
theorem treeLong_lifted (os : Os) (started : os.Started) (H : Type) (enc : TypeId × Value → H) :
    ReturnsInHanded {} Tryz.checked os 3 .any (fun w args => (Rows.treeLongSpec.pre enc Tryz.prog Tryz.f3 [] false w args ∧ laidMetH Tryz.prog laid w) ∧ sizedMet enc Tryz.prog Tryz.f3 (OpenSpec.ofChange Rows.treeLongSpec) false w args)
      (Rows.treeLongSpec.post enc Tryz.prog Tryz.f3 false true false false) := by
  refine returns_of_laid (C := Tryz.checked) (X := fun w _ => laidMetH Tryz.prog laid w) (fun _ _ _ hh h => h.of_heap hh) knobless started (by kernel_rfl) Tryz.func3
    (ChangeSpec.witness_shaped (enc := enc) (C := Tryz.checked) (os := os) (X := fun w _ => laidMetH Tryz.prog laid w) false (World.laidAll Tryz.prog os laid) #[.int .u32 0, .int .u8 0] 8 (World.laidAll_os _ _ _) (World.shaped_of_ZipB (by kernel_rfl) (by kernel_rfl)) (by kernel_rfl) (by kernel_rfl) (by kernel_rfl) (laid_world os _)) ?_
  intro W base args ds gs before hval hW hL hsh
  exact treeLong_contract H enc W base args ds gs before hval hW hL hsh

theorem inPlace3 : (Rows.treeLongRow.inPlace == Tryz.prog.inPlace 3) = true := by kernel_rfl
theorem unfollowed3 : (Rows.treeLongRow.unfollowed == Tryz.prog.unfollowed 3) = true := by kernel_rfl
theorem recurses3 : (Rows.treeLongRow.recurses == Tryz.prog.recurses 3) = true := by kernel_rfl
theorem named3 : (Rows.treeLongRow.named == Tryz.prog.varsNamed 3) = true := by kernel_rfl
theorem goes3 : false = Rows.treeLongRow.goesBy Tryz.prog := by kernel_rfl
theorem name3 : Tryz.prog.funcNamed Rows.treeLongRow.func = some 3 := by kernel_rfl
theorem noInit3 : Tryz.prog.inits.idxOf? 3 = none := by kernel_rfl
theorem joined3 : joinedFacts Tryz.prog 3 Tryz.f3 Rows.treeLongSpec Rows.treeLongRow = true :=
  joined_of (by kernel_rfl) laidOut mapsRow (by kernel_rfl) (by kernel_rfl) (by kernel_rfl) stopsNone (by kernel_rfl) stopKnobsNone inPlace3 unfollowed3 recurses3 named3 (by kernel_rfl) (by kernel_rfl) (by kernel_rfl) (by kernel_rfl) (by kernel_rfl) (by kernel_rfl) (by kernel_rfl) (by kernel_rfl) (by kernel_rfl) keysPlain (by kernel_rfl) stopsHear mayEnt liftsFin makeFits (by kernel_rfl) (by kernel_rfl) (by kernel_rfl) (by kernel_rfl)
theorem treeLong_holds : Rows.TreeLongSaid :=
  OpenClaim.holds_of_wide 3 Tryz.f3 rfl rfl rfl rfl rfl rfl rfl ⟨rfl, rfl, rfl, rfl, rfl⟩ rfl rfl rfl rfl rfl name3 Tryz.func3 joined3
    (of_decide_eq_true (by kernel_rfl)) (by unfold Func.isWrapper; first | (rw [if_pos (by decide +kernel)]; kernel_rfl) | (rw [if_neg (by decide +kernel)]; exact ⟨rfl, rfl⟩))
    (fun os started H enc _ => treeLong_lifted os started H enc)

theorem stood3 (t : TypeId) (ht : t ∈ [22, 5]) : Tryz.prog.wantsStandIn t = false := by
  have hall : ([22, 5].all fun u => !Tryz.prog.wantsStandIn u) = true := by kernel_rfl
  simpa using List.all_eq_true.1 hall t ht

theorem treeLong_card : Rows.TreeLongCardSaid :=
  Claim7.holds_tied_plain_at .later [] [.data, .data, .data, .data, .sentinel, .sentinel, .pinned] true (true, "6f069fe33474f6e1f2de86477d2d622fcfe79473f68a1663e513ed129d939002") true treeLong_holds (fun _ h => by cases h) (by kernel_rfl) (fun _ h => by cases h) treeLong_row_tie rfl ⟨rfl, rfl⟩ main_is rfl
    (fun f fn hf hfn => by
      obtain rfl : f = 3 := Option.some.inj (name3.symm.trans hf) |>.symm
      obtain rfl : fn = Tryz.f3 := (Option.some.inj (Tryz.func3.symm.trans hfn)).symm
      exact ⟨looksTrue, fun j t ht => by
        rw [Tryz.params3] at ht
        exact stood3 t (by simpa using Array.mem_of_getElem? ht)⟩)
    goes3
#print axioms treeLong_card
end Go.Proofs.YtbcmdjlgdnippaaGreatDoor
