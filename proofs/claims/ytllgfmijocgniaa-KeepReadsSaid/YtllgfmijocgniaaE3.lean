/- Few: rows of steps and of operations. -/
import Derived.Test.YtllgfmijocgniaaE2
set_option linter.unusedVariables false
set_option linter.unusedSimpArgs false
namespace Go.Proofs.Ytllgfmijocgniaa
open Go Go.Abs Go.RowKit

def fewStps (l : List Stp) : Bool := (l.take 20).all fewStp && decide (l.length ≤ 20)

theorem few6 {v : AV} {l : List Stp} (hv : Slc v (l.map Stp.av)) : PureSpec Try.prog 6 [v] (.v (.bool (fewStps l))) := by
  refine pureSpec_of (fnE mixed T6 U6 (Nat.le_of_ble_eq_true rfl) ?_)
  unfold c6
  simp -failIfUnchanged -implicitDefEqProofs (disch := first | assumption | decide | omega) only [wkA, instrE, astepE, evE, evsE, evoE, evpE, elook, econs, eonly, putE, argE, pickE, resE, rsE, rE, Option.bind_some, Option.bind_none, Option.map_some, Option.map_none, ↓reduceIte, Nat.reduceEqDiff, Nat.reduceAdd, Nat.zero_add, Nat.add_zero, Nat.reduceLT, Nat.reduceLeDiff, Bool.false_eq_true, hv.lenStep]
  refine wpE_count (fun i e hp => e = [(0, v), (3, i64 i)] ∧ i ≤ l.length ∧ (l.take i).all fewStp = true) (min l.length 20) ⟨rfl, by omega, rfl⟩ ?_ ?_
  · rintro i e hp hi ⟨rfl, hil, hall⟩
    obtain ⟨t, ht⟩ : ∃ t, l[i]? = some t := ⟨l[i], List.getElem?_eq_getElem (by omega)⟩
    have hget : (l.map Stp.av)[i]? = some t.av := by simp [ht]
    have e1 : aia 10 v (.v (.int .i64 i)) = some (.fp t.cs 0) := hv.ia hget rfl
    have l0 : ∀ hp, aload hp true 10 (.fp t.cs 0) = some t.av := fun _ => rfl
    have d1 : decide ((i : Int) < (l.length : Int)) = true := by simp; omega
    have d2 : decide ((i : Int) < 20) = true := by simp; omega
    simp -failIfUnchanged -implicitDefEqProofs (disch := first | assumption | decide | omega) only [wkA, instrE, astepE, evE, evsE, evoE, evpE, elook, econs, eonly, putE, argE, pickE, resE, rsE, rE, Option.bind_some, Option.bind_none, Option.map_some, Option.map_none, ↓reduceIte, Nat.reduceEqDiff, Nat.reduceAdd, Nat.zero_add, Nat.add_zero, Nat.reduceLT, Nat.reduceLeDiff, Bool.false_eq_true, hv.lenStep, goInt, List.length_map, d1, d2, e1, l0]
    refine CallOk.pure (few26 t) (impCs1 (impC_agg rfl fun j c d hc hd => by rw [hc] at hd; cases hd; exact stp_cells_clean t c (List.mem_of_getElem? hc))) ?_
    simp -failIfUnchanged -implicitDefEqProofs (disch := first | assumption | decide | omega) only [wkA, instrE, astepE, evE, evsE, evoE, evpE, elook, econs, eonly, putE, argE, pickE, resE, rsE, rE, Option.bind_some, Option.bind_none, Option.map_some, Option.map_none, ↓reduceIte, Nat.reduceEqDiff, Nat.reduceAdd, Nat.zero_add, Nat.add_zero, Nat.reduceLT, Nat.reduceLeDiff, Bool.false_eq_true, aun_not]
    cases hf : fewStp t
    · simp -failIfUnchanged -implicitDefEqProofs (disch := first | assumption | decide | omega) only [wkA, instrE, astepE, evE, evsE, evoE, evpE, elook, econs, eonly, putE, argE, pickE, resE, rsE, rE, Option.bind_some, Option.bind_none, Option.map_some, Option.map_none, ↓reduceIte, Nat.reduceEqDiff, Nat.reduceAdd, Nat.zero_add, Nat.add_zero, Nat.reduceLT, Nat.reduceLeDiff, Bool.false_eq_true, Bool.not_false]
      have e : fewStps l = false := by
        unfold fewStps
        have : (l.take 20).all fewStp = false := by
          rw [List.all_eq_false]
          exact ⟨t, List.mem_of_getElem? (i := i) (by rw [List.getElem?_take]; simp [ht]; omega), by simp [hf]⟩
        rw [this]; rfl
      rw [e]; exact impC_v _
    · simp -failIfUnchanged -implicitDefEqProofs (disch := first | assumption | decide | omega) only [wkA, instrE, astepE, evE, evsE, evoE, evpE, elook, econs, eonly, putE, argE, pickE, resE, rsE, rE, Option.bind_some, Option.bind_none, Option.map_some, Option.map_none, ↓reduceIte, Nat.reduceEqDiff, Nat.reduceAdd, Nat.zero_add, Nat.add_zero, Nat.reduceLT, Nat.reduceLeDiff, Bool.false_eq_true, Bool.not_true]
      rw [wrap_i64 (by omega) (by omega)]
      refine ⟨rfl, by omega, ?_⟩
      rw [List.take_add_one, ht]
      simp [hall, hf]
  · rintro e hp ⟨rfl, hil, hall⟩
    have fin : ImpC (.v (.bool (decide ((l.length : Int) ≤ 20)))) (.v (.bool (fewStps l))) := by
      have e : fewStps l = decide ((l.length : Int) ≤ 20) := by
        unfold fewStps
        by_cases h : l.length ≤ 20
        · rw [Nat.min_eq_left h, List.take_length] at hall
          rw [List.take_of_length_le h, hall]; simp; omega
        · have h1 : ¬ ((l.length : Int) ≤ 20) := by omega
          simp [h, h1]
      rw [e]; exact impC_v _
    by_cases h : l.length ≤ 20
    · have d1 : decide (((min l.length 20 : Nat) : Int) < (l.length : Int)) = false := by simp; omega
      simp -failIfUnchanged -implicitDefEqProofs (disch := first | assumption | decide | omega) only [wkA, instrE, astepE, evE, evsE, evoE, evpE, elook, econs, eonly, putE, argE, pickE, resE, rsE, rE, Option.bind_some, Option.bind_none, Option.map_some, Option.map_none, ↓reduceIte, Nat.reduceEqDiff, Nat.reduceAdd, Nat.zero_add, Nat.add_zero, Nat.reduceLT, Nat.reduceLeDiff, Bool.false_eq_true, hv.lenStep, goInt, List.length_map, d1]
      exact fin
    · have d1 : decide (((min l.length 20 : Nat) : Int) < (l.length : Int)) = true := by simp; omega
      have d2 : decide (((min l.length 20 : Nat) : Int) < 20) = false := by simp; omega
      simp -failIfUnchanged -implicitDefEqProofs (disch := first | assumption | decide | omega) only [wkA, instrE, astepE, evE, evsE, evoE, evpE, elook, econs, eonly, putE, argE, pickE, resE, rsE, rE, Option.bind_some, Option.bind_none, Option.map_some, Option.map_none, ↓reduceIte, Nat.reduceEqDiff, Nat.reduceAdd, Nat.zero_add, Nat.add_zero, Nat.reduceLT, Nat.reduceLeDiff, Bool.false_eq_true, hv.lenStep, goInt, List.length_map, d1, d2]
      exact fin

def stpsOf (o : Opr) : List Stp := o.steps.getD []
def fewOne (o : Opr) : Bool := fewStps (stpsOf o) && decide ((stpsOf o).length ≤ 4)
def stpSum (l : List Opr) : Nat := (l.map fun o => (stpsOf o).length).sum
def fewOprs (l : List Opr) : Bool := (l.take 24).all fewOne && decide (l.length ≤ 24) && decide (stpSum (l.take 24) ≤ 24)

theorem stpSum_step {l : List Opr} {i : Nat} {o : Opr} (h : l[i]? = some o) : stpSum (l.take (i + 1)) = stpSum (l.take i) + (stpsOf o).length := by
  rw [List.take_add_one, h]
  simp [stpSum]
theorem stpSum_le {l : List Opr} (h : l.all fewOne = true) : stpSum l ≤ 4 * l.length := by
  induction l with
  | nil => simp [stpSum]
  | cons a r ih =>
    simp only [List.all_cons, Bool.and_eq_true] at h
    have := ih h.2
    have h1 := h.1
    simp only [fewOne, Bool.and_eq_true, decide_eq_true_eq] at h1
    simp only [stpSum, List.map_cons, List.sum_cons, List.length_cons] at *
    omega

theorem few7 {v : AV} {l : List Opr} (hv : Slc v (l.map Opr.av)) : PureSpec Try.prog 7 [v] (.v (.bool (fewOprs l))) := by
  refine pureSpec_of (fnE mixed T7 U7 (Nat.le_of_ble_eq_true rfl) ?_)
  unfold c7
  simp -failIfUnchanged -implicitDefEqProofs (disch := first | assumption | decide | omega) only [wkA, instrE, astepE, evE, evsE, evoE, evpE, elook, econs, eonly, putE, argE, pickE, resE, rsE, rE, Option.bind_some, Option.bind_none, Option.map_some, Option.map_none, ↓reduceIte, Nat.reduceEqDiff, Nat.reduceAdd, Nat.zero_add, Nat.add_zero, Nat.reduceLT, Nat.reduceLeDiff, Bool.false_eq_true, hv.lenStep]
  refine wpE_count (fun i e hp => e = [(0, v), (3, i64 (stpSum (l.take i))), (4, i64 i)] ∧ i ≤ l.length ∧ (l.take i).all fewOne = true) (min l.length 24) ⟨rfl, Nat.zero_le _, rfl⟩ ?_ ?_
  · rintro i e hp hi ⟨rfl, hil, hall⟩
    obtain ⟨t, ht⟩ : ∃ t, l[i]? = some t := ⟨l[i], List.getElem?_eq_getElem (by omega)⟩
    have hget : (l.map Opr.av)[i]? = some t.av := by simp [ht]
    have e1 : aia 6 v (.v (.int .i64 i)) = some (.fp t.cs 0) := hv.ia hget rfl
    have l0 : ∀ hp, aload hp false 1 (.fp t.cs 2) = some (slcAV Stp.av t.steps) := fun _ => rfl
    have d1 : decide ((i : Int) < (l.length : Int)) = true := by simp; omega
    have d2 : decide ((i : Int) < 24) = true := by simp; omega
    have hs := slc_slc Stp.av t.steps
    have hsum := stpSum_le hall
    rw [List.length_take] at hsum
    have bad : fewOne t = false → fewOprs l = false := fun hf => by
      unfold fewOprs
      have : (l.take 24).all fewOne = false := by
        rw [List.all_eq_false]
        exact ⟨t, List.mem_of_getElem? (i := i) (by rw [List.getElem?_take]; simp [ht]; omega), by simp [hf]⟩
      rw [this]; rfl
    simp -failIfUnchanged -implicitDefEqProofs (disch := first | assumption | decide | omega) only [wkA, instrE, astepE, evE, evsE, evoE, evpE, elook, econs, eonly, putE, argE, pickE, resE, rsE, rE, Option.bind_some, Option.bind_none, Option.map_some, Option.map_none, ↓reduceIte, Nat.reduceEqDiff, Nat.reduceAdd, Nat.zero_add, Nat.add_zero, Nat.reduceLT, Nat.reduceLeDiff, Bool.false_eq_true, hv.lenStep, goInt, List.length_map, d1, d2, e1, l0]
    refine CallOk.pure (few6 hs) (impCs1 (slc_clean _ _ stp_cells_clean)) ?_
    simp -failIfUnchanged -implicitDefEqProofs (disch := first | assumption | decide | omega) only [wkA, instrE, astepE, evE, evsE, evoE, evpE, elook, econs, eonly, putE, argE, pickE, resE, rsE, rE, Option.bind_some, Option.bind_none, Option.map_some, Option.map_none, ↓reduceIte, Nat.reduceEqDiff, Nat.reduceAdd, Nat.zero_add, Nat.add_zero, Nat.reduceLT, Nat.reduceLeDiff, Bool.false_eq_true, aun_not]
    cases hf : fewStps (t.steps.getD []) with
    | false =>
      simp -failIfUnchanged -implicitDefEqProofs (disch := first | assumption | decide | omega) only [wkA, instrE, astepE, evE, evsE, evoE, evpE, elook, econs, eonly, putE, argE, pickE, resE, rsE, rE, Option.bind_some, Option.bind_none, Option.map_some, Option.map_none, ↓reduceIte, Nat.reduceEqDiff, Nat.reduceAdd, Nat.zero_add, Nat.add_zero, Nat.reduceLT, Nat.reduceLeDiff, Bool.false_eq_true, Bool.not_false]
      rw [bad (by simp [fewOne, stpsOf, hf])]
      exact impC_v _
    | true =>
      simp -failIfUnchanged -implicitDefEqProofs (disch := first | assumption | decide | omega) only [wkA, instrE, astepE, evE, evsE, evoE, evpE, elook, econs, eonly, putE, argE, pickE, resE, rsE, rE, Option.bind_some, Option.bind_none, Option.map_some, Option.map_none, ↓reduceIte, Nat.reduceEqDiff, Nat.reduceAdd, Nat.zero_add, Nat.add_zero, Nat.reduceLT, Nat.reduceLeDiff, Bool.false_eq_true, Bool.not_true, e1, l0, hs.lenStep, goInt, List.length_map]
      refine BoolCase.mk (fun h => ?_) fun h => ?_
      · have h' : 4 < (t.steps.getD []).length := by simp at h; omega
        simp -failIfUnchanged -implicitDefEqProofs (disch := first | assumption | decide | omega) only [wkA, instrE, astepE, evE, evsE, evoE, evpE, elook, econs, eonly, putE, argE, pickE, resE, rsE, rE, Option.bind_some, Option.bind_none, Option.map_some, Option.map_none, ↓reduceIte, Nat.reduceEqDiff, Nat.reduceAdd, Nat.zero_add, Nat.add_zero, Nat.reduceLT, Nat.reduceLeDiff, Bool.false_eq_true]
        have h5 : ¬ (t.steps.getD []).length ≤ 4 := by omega
        rw [bad (by simp [fewOne, stpsOf, h5])]
        exact impC_v _
      · have h' : (t.steps.getD []).length ≤ 4 := by simp at h; omega
        simp -failIfUnchanged -implicitDefEqProofs (disch := first | assumption | decide | omega) only [wkA, instrE, astepE, evE, evsE, evoE, evpE, elook, econs, eonly, putE, argE, pickE, resE, rsE, rE, Option.bind_some, Option.bind_none, Option.map_some, Option.map_none, ↓reduceIte, Nat.reduceEqDiff, Nat.reduceAdd, Nat.zero_add, Nat.add_zero, Nat.reduceLT, Nat.reduceLeDiff, Bool.false_eq_true, e1, l0, hs.lenStep, goInt, List.length_map]
        rw [wrap_i64 (by omega) (by omega), wrap_i64 (by omega) (by omega), stpSum_step ht]
        refine ⟨by simp [stpsOf], by omega, ?_⟩
        rw [List.take_add_one, ht]
        simp [hall, fewOne, stpsOf, hf, h']
  · rintro e hp ⟨rfl, hil, hall⟩
    by_cases h : l.length ≤ 24
    · have d1 : decide (((min l.length 24 : Nat) : Int) < (l.length : Int)) = false := by simp; omega
      have d3 : decide ((l.length : Int) ≤ 24) = true := by simp; omega
      simp -failIfUnchanged -implicitDefEqProofs (disch := first | assumption | decide | omega) only [wkA, instrE, astepE, evE, evsE, evoE, evpE, elook, econs, eonly, putE, argE, pickE, resE, rsE, rE, Option.bind_some, Option.bind_none, Option.map_some, Option.map_none, ↓reduceIte, Nat.reduceEqDiff, Nat.reduceAdd, Nat.zero_add, Nat.add_zero, Nat.reduceLT, Nat.reduceLeDiff, Bool.false_eq_true, hv.lenStep, goInt, List.length_map, d1, d3]
      have e : fewOprs l = decide ((stpSum (l.take (min l.length 24)) : Int) ≤ 24) := by
        unfold fewOprs
        rw [Nat.min_eq_left h, List.take_length] at hall
        rw [Nat.min_eq_left h, List.take_length, List.take_of_length_le h, hall]
        simp [h]
        omega
      rw [e]; exact impC_v _
    · have d1 : decide (((min l.length 24 : Nat) : Int) < (l.length : Int)) = true := by simp; omega
      have d2 : decide (((min l.length 24 : Nat) : Int) < 24) = false := by simp; omega
      have d3 : decide ((l.length : Int) ≤ 24) = false := by simp; omega
      simp -failIfUnchanged -implicitDefEqProofs (disch := first | assumption | decide | omega) only [wkA, instrE, astepE, evE, evsE, evoE, evpE, elook, econs, eonly, putE, argE, pickE, resE, rsE, rE, Option.bind_some, Option.bind_none, Option.map_some, Option.map_none, ↓reduceIte, Nat.reduceEqDiff, Nat.reduceAdd, Nat.zero_add, Nat.add_zero, Nat.reduceLT, Nat.reduceLeDiff, Bool.false_eq_true, hv.lenStep, goInt, List.length_map, d1, d2, d3]
      have e : fewOprs l = false := by
        unfold fewOprs; simp [h]
      rw [e]; exact impC_v _

end Go.Proofs.Ytllgfmijocgniaa
