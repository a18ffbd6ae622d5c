/- The law of the letters' tokens, walked: code 5. No condition but what the package's variables hold. -/
import Derived.Test.YtbcmdjlgdnippaaGreatDoorT1
set_option linter.unusedVariables false
set_option linter.unusedSimpArgs false
set_option linter.unusedSimpArgs false
namespace Go.Proofs.YtbcmdjlgdnippaaGreatDoor
open Go Go.Abs Go.RowKit

theorem slc_clean {α : Type} (f : α → AV) (o : Option (List α)) (h : ∀ x, ∀ c ∈ (f x).cells, Abs.Clean c) : Abs.Clean (slcAV f o) := by
  cases o with
  | none => exact clean_nsl
  | some l =>
    refine clean_sl fun x hx => ?_
    obtain ⟨a, _, rfl⟩ := List.mem_map.1 hx
    exact h a

theorem eq_let (r : Int) : aeqf [.i, .i, .i, .i, .i, .i, .i, .i, .i, .i, .i, .i] true (.agg (letC r)) (.agg (letC r)) = some (.v (.bool false)) := by
  simp [aeqf, letC, eqKs, eqK]

theorem law5 {G : Cells} (hG : GOk G) {v : AV} {xs : List Int} (hv : Slc v (xs.map i32A)) (hc : Abs.Clean v) : PureSpec G Tryz.prog 5 [v] (.v (.bool true)) := by
  refine pureSpec_close (fnE mixed T5 U5 (Nat.le_of_ble_eq_true rfl) ?_)
  unfold c5
  simp -failIfUnchanged -implicitDefEqProofs (disch := first | assumption | decide | omega) only [wkA, instrE, astepE, evE, evsE, evoE, evpE, elook, econs, eonly, putE, argE, pickE, resE, rsE, rE, Option.bind_some, Option.bind_none, Option.map_some, Option.map_none, ↓reduceIte, Nat.reduceEqDiff, Nat.reduceAdd, Nat.zero_add, Nat.add_zero, Nat.reduceLT, Nat.reduceLeDiff, Bool.false_eq_true, hv.lenStep, goInt, List.length_map]
  refine BoolCase.mk (fun h => ?_) fun h => ?_
  · simp -failIfUnchanged -implicitDefEqProofs (disch := first | assumption | decide | omega) only [wkA, instrE, astepE, evE, evsE, evoE, evpE, elook, econs, eonly, putE, argE, pickE, resE, rsE, rE, Option.bind_some, Option.bind_none, Option.map_some, Option.map_none, ↓reduceIte, Nat.reduceEqDiff, Nat.reduceAdd, Nat.zero_add, Nat.add_zero, Nat.reduceLT, Nat.reduceLeDiff, Bool.false_eq_true, h]
    refine CallOk.pure (live13 hG) impCs_nil ?_
    simp -failIfUnchanged -implicitDefEqProofs (disch := first | assumption | decide | omega) only [wkA, instrE, astepE, evE, evsE, evoE, evpE, elook, econs, eonly, putE, argE, pickE, resE, rsE, rE, Option.bind_some, Option.bind_none, Option.map_some, Option.map_none, ↓reduceIte, Nat.reduceEqDiff, Nat.reduceAdd, Nat.zero_add, Nat.add_zero, Nat.reduceLT, Nat.reduceLeDiff, Bool.false_eq_true]
    exact ⟨1, rfl⟩
  have hl : xs.length ≤ 100 := by simp at h; omega
  simp -failIfUnchanged -implicitDefEqProofs (disch := first | assumption | decide | omega) only [wkA, instrE, astepE, evE, evsE, evoE, evpE, elook, econs, eonly, putE, argE, pickE, resE, rsE, rE, Option.bind_some, Option.bind_none, Option.map_some, Option.map_none, ↓reduceIte, Nat.reduceEqDiff, Nat.reduceAdd, Nat.zero_add, Nat.add_zero, Nat.reduceLT, Nat.reduceLeDiff, Bool.false_eq_true, h]
  refine CallOk.pure (text24 hv hl) (impCs_cons hc impCs_nil) ?_
  simp -failIfUnchanged -implicitDefEqProofs (disch := first | assumption | decide | omega) only [wkA, instrE, astepE, evE, evsE, evoE, evpE, elook, econs, eonly, putE, argE, pickE, resE, rsE, rE, Option.bind_some, Option.bind_none, Option.map_some, Option.map_none, ↓reduceIte, Nat.reduceEqDiff, Nat.reduceAdd, Nat.zero_add, Nat.add_zero, Nat.reduceLT, Nat.reduceLeDiff, Bool.false_eq_true, hv.lenStep, goInt, List.length_map]
  have hne : ((xs.length : Int) != (xs.length : Int)) = false := by simp
  simp -failIfUnchanged -implicitDefEqProofs (disch := first | assumption | decide | omega) only [wkA, instrE, astepE, evE, evsE, evoE, evpE, elook, econs, eonly, putE, argE, pickE, resE, rsE, rE, Option.bind_some, Option.bind_none, Option.map_some, Option.map_none, ↓reduceIte, Nat.reduceEqDiff, Nat.reduceAdd, Nat.zero_add, Nat.add_zero, Nat.reduceLT, Nat.reduceLeDiff, Bool.false_eq_true, hne, i64A]
  refine wpE_count (fun i e hp => e = [(0, v), (3, .sl (xs.map letA) .no), (4, i64A i)] ∧ hp = []) xs.length ⟨rfl, rfl⟩ ?_ ?_
  · rintro i e hp hi ⟨rfl, rfl⟩
    obtain ⟨r, hr⟩ : ∃ r, xs[i]? = some r := ⟨xs[i], List.getElem?_eq_getElem hi⟩
    have hget : (xs.map i32A)[i]? = some (i32A r) := by simp [hr]
    have hgetA : (xs.map letA)[i]? = some (letA r) := by simp [hr]
    have e1 : aia 1 v (.v (.int .i64 i)) = some (.fp [i32A r] 0) := hv.ia hget rfl
    have e2 : aia 12 (.sl (xs.map letA) .no) (.v (.int .i64 i)) = some (.fp (letC r) 0) := aia_sl hgetA rfl
    have d1 : decide ((i : Int) < (xs.length : Int)) = true := by simp; omega
    have l1 : ∀ hp, aload hp false 1 (.fp [i32A r] 0) = some (i32A r) := fun hp => aload_fp hp rfl
    have l2 : ∀ hp, aload hp true 12 (.fp (letC r) 0) = some (.agg (letC r)) := fun hp => aload_fp hp rfl
    have w1 : IntKind.i64.wrap ((i : Int) + 1) = ((i + 1 : Nat) : Int) := by rw [wrap_i64 (by omega) (by omega)]; rfl
    simp -failIfUnchanged -implicitDefEqProofs (disch := first | assumption | decide | omega) only [wkA, instrE, astepE, evE, evsE, evoE, evpE, elook, econs, eonly, putE, argE, pickE, resE, rsE, rE, Option.bind_some, Option.bind_none, Option.map_some, Option.map_none, ↓reduceIte, Nat.reduceEqDiff, Nat.reduceAdd, Nat.zero_add, Nat.add_zero, Nat.reduceLT, Nat.reduceLeDiff, Bool.false_eq_true, i64A, hv.lenStep, goInt, List.length_map, d1, e1, e2, l1, l2, af_let r, eq_let r, w1]
    exact ⟨trivial, trivial⟩
  · rintro e hp ⟨rfl, rfl⟩
    have d1 : decide ((xs.length : Int) < (xs.length : Int)) = false := by simp
    simp -failIfUnchanged -implicitDefEqProofs (disch := first | assumption | decide | omega) only [wkA, instrE, astepE, evE, evsE, evoE, evpE, elook, econs, eonly, putE, argE, pickE, resE, rsE, rE, Option.bind_some, Option.bind_none, Option.map_some, Option.map_none, ↓reduceIte, Nat.reduceEqDiff, Nat.reduceAdd, Nat.zero_add, Nat.add_zero, Nat.reduceLT, Nat.reduceLeDiff, Bool.false_eq_true, i64A, hv.lenStep, goInt, List.length_map, d1]
    refine CallOk.pure (live13 hG) impCs_nil ?_
    simp -failIfUnchanged -implicitDefEqProofs (disch := first | assumption | decide | omega) only [wkA, instrE, astepE, evE, evsE, evoE, evpE, elook, econs, eonly, putE, argE, pickE, resE, rsE, rE, Option.bind_some, Option.bind_none, Option.map_some, Option.map_none, ↓reduceIte, Nat.reduceEqDiff, Nat.reduceAdd, Nat.zero_add, Nat.add_zero, Nat.reduceLT, Nat.reduceLeDiff, Bool.false_eq_true]
    exact ⟨1, rfl⟩
end Go.Proofs.YtbcmdjlgdnippaaGreatDoor
