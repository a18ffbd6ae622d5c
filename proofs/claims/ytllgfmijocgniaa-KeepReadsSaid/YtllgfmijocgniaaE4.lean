/- Same: sets, steps, operations that are alike. -/
import Derived.Test.YtllgfmijocgniaaE3
set_option linter.unusedVariables false
set_option linter.unusedSimpArgs false
namespace Go.Proofs.Ytllgfmijocgniaa
open Go Go.Abs Go.RowKit

theorem set_ints (m : List Int) : ∀ x ∈ m.map u16, ∃ k n, x = .v (.int k n) := by
  intro c hc
  obtain ⟨b, _, rfl⟩ := List.mem_map.1 hc
  exact ⟨_, _, rfl⟩

theorem same59 {v w : AV} {l : List (List Int)} (hv : Slc v (l.map setAV)) (hw : Slc w (l.map setAV)) (hok : ∀ t ∈ l, IsSet t) (hll : l.length < 140737488355328) : PureSpec Try.prog 59 [v, w] (.v (.bool true)) := by
  refine pureSpec_of (fnE mixed T59 U59 (Nat.le_of_ble_eq_true rfl) ?_)
  unfold c59
  have d0 : ((l.length : Int) != (l.length : Int)) = false := by simp
  simp -failIfUnchanged -implicitDefEqProofs (disch := first | assumption | decide | omega) only [wkA, instrE, astepE, evE, evsE, evoE, evpE, elook, econs, eonly, putE, argE, pickE, resE, rsE, rE, Option.bind_some, Option.bind_none, Option.map_some, Option.map_none, ↓reduceIte, Nat.reduceEqDiff, Nat.reduceAdd, Nat.zero_add, Nat.add_zero, Nat.reduceLT, Nat.reduceLeDiff, Bool.false_eq_true, hv.lenStep, hw.lenStep, goInt, List.length_map, d0]
  refine wpE_count (fun i e hp => e = [(0, v), (1, w), (5, i64 i)]) l.length rfl ?_ ?_
  · rintro i e hp hi rfl
    obtain ⟨t, ht⟩ : ∃ t, l[i]? = some t := ⟨l[i], List.getElem?_eq_getElem hi⟩
    have hto := hok t (List.mem_of_getElem? ht)
    have hget : (l.map setAV)[i]? = some (setAV t) := by simp [ht]
    have hlen : (setAV t).cells.length = 8 := by simp [setAV, AV.cells, hto.1]
    have e1 : aia 8 v (.v (.int .i64 i)) = some (.fp (t.map u16) 0) := hv.ia hget hlen
    have e2 : aia 8 w (.v (.int .i64 i)) = some (.fp (t.map u16) 0) := hw.ia hget hlen
    have l0 : ∀ hp, aload hp true 8 (.fp (t.map u16) 0) = some (setAV t) := fun _ => by
      refine aload_fp _ ?_
      unfold pick1
      rw [if_pos rfl, if_pos (by simp [hto.1]), List.drop_zero, List.take_of_length_le (by simp [hto.1])]
      rfl
    have eq1 : aeqf [.i, .i, .i, .i, .i, .i, .i, .i] true (setAV t) (setAV t) = some (.v (.bool false)) := by
      have e := eqKs_self (t.map u16) (set_ints t)
      rw [show (t.map u16).length = 8 by simp [hto.1]] at e
      show (eqKs (List.replicate 8 .i) (t.map u16) (t.map u16)).map _ = _
      rw [e]; rfl
    have d1 : decide ((i : Int) < (l.length : Int)) = true := by simp; omega
    simp -failIfUnchanged -implicitDefEqProofs (disch := first | assumption | decide | omega) only [wkA, instrE, astepE, evE, evsE, evoE, evpE, elook, econs, eonly, putE, argE, pickE, resE, rsE, rE, Option.bind_some, Option.bind_none, Option.map_some, Option.map_none, ↓reduceIte, Nat.reduceEqDiff, Nat.reduceAdd, Nat.zero_add, Nat.add_zero, Nat.reduceLT, Nat.reduceLeDiff, Bool.false_eq_true, hv.lenStep, goInt, List.length_map, d1, e1, e2, l0, eq1]
    rw [wrap_i64 (by omega) (by omega)]
    rfl
  · rintro e hp rfl
    have d1 : decide ((l.length : Int) < (l.length : Int)) = false := by simp
    simp -failIfUnchanged -implicitDefEqProofs (disch := first | assumption | decide | omega) only [wkA, instrE, astepE, evE, evsE, evoE, evpE, elook, econs, eonly, putE, argE, pickE, resE, rsE, rE, Option.bind_some, Option.bind_none, Option.map_some, Option.map_none, ↓reduceIte, Nat.reduceEqDiff, Nat.reduceAdd, Nat.zero_add, Nat.add_zero, Nat.reduceLT, Nat.reduceLeDiff, Bool.false_eq_true, hv.lenStep, goInt, List.length_map, d1]
    exact impC_v _

/-- Steps that are alike. -/
structure Stp.Eqv (x y : Stp) : Prop where
  ns : x.ns = y.ns
  slice : x.slice.getD [] = y.slice.getD []
  sets : x.sets.getD [] = y.sets.getD []

theorem Stp.Eqv.refl (x : Stp) : x.Eqv x := ⟨rfl, rfl, rfl⟩

/-- A fresh block's load. -/
theorem box_load {hp : List Blk} {cs : List AV} {c : AV} {o : Nat} (h : cs[o]? = some c) : aload (hp ++ [.cells cs false]) false 1 (.mp hp.length o) = some c :=
  aload_mp (fz := false) (by simp) h

set_option maxRecDepth 20000 in
theorem same42 {x y : Stp} (he : x.Eqv y) (hok : x.Ok) (h1 : (x.slice.getD []).length < 140737488355328) (h2 : (x.sets.getD []).length < 140737488355328) : PureSpec Try.prog 42 [x.av, y.av] (.v (.bool true)) := by
  refine pureSpec_of (fnE mixed T42 U42 (Nat.le_of_ble_eq_true rfl) ?_)
  obtain ⟨hns, hsl, hst⟩ := he
  simp only [Stp.ns, List.cons.injEq, and_true] at hns
  obtain ⟨n1, n2, n3, n4, n5, n6, n7, n8⟩ := hns
  unfold c42
  have hA : ∀ {o : Nat} {c : AV}, x.cs[o]? = some c → aload [.cells x.av.cells false, .cells y.av.cells false] false 1 (.mp 0 o) = some c := fun h => aload_mp (cs := x.cs) rfl h
  have hB : ∀ {o : Nat} {c : AV}, y.cs[o]? = some c → aload [.cells x.av.cells false, .cells y.av.cells false] false 1 (.mp 1 o) = some c := fun h => aload_mp (cs := y.cs) rfl h
  have g : ∀ n : Int, (n != n) = false := fun n => by simp
  simp -failIfUnchanged -implicitDefEqProofs (disch := first | assumption | decide | omega) only [wkA, instrE, astepE, evE, evsE, evoE, evpE, elook, econs, eonly, putE, argE, pickE, resE, rsE, rE, Option.bind_some, Option.bind_none, Option.map_some, Option.map_none, ↓reduceIte, Nat.reduceEqDiff, Nat.reduceAdd, Nat.zero_add, Nat.add_zero, Nat.reduceLT, Nat.reduceLeDiff, Bool.false_eq_true, List.nil_append, List.cons_append, List.length_nil, List.length_cons, hA (o := 0) rfl, hB (o := 0) rfl, n1, g, hA (o := 1) rfl, hB (o := 1) rfl, n2, hA (o := 2) rfl, hB (o := 2) rfl, n3, hA (o := 3) rfl, hB (o := 3) rfl, n4, hA (o := 4) rfl, hB (o := 4) rfl, n5,
    hA (o := 5) rfl, hB (o := 5) rfl, n6, hA (o := 6) rfl, hB (o := 6) rfl, n7, hA (o := 7) rfl, hB (o := 7) rfl, n8, hA (o := 8) rfl, hB (o := 8) rfl]
  refine CallOk.pure (same18 (slc_slc Tok.av x.slice) (hsl ▸ slc_slc Tok.av y.slice) hok.slice h1) (impCs_cons (slc_clean _ _ tok_cells_clean) (impCs1 (slc_clean _ _ tok_cells_clean))) ?_
  simp -failIfUnchanged -implicitDefEqProofs (disch := first | assumption | decide | omega) only [wkA, instrE, astepE, evE, evsE, evoE, evpE, elook, econs, eonly, putE, argE, pickE, resE, rsE, rE, Option.bind_some, Option.bind_none, Option.map_some, Option.map_none, ↓reduceIte, Nat.reduceEqDiff, Nat.reduceAdd, Nat.zero_add, Nat.add_zero, Nat.reduceLT, Nat.reduceLeDiff, Bool.false_eq_true, hA (o := 9) rfl, hB (o := 9) rfl]
  refine CallOk.pure (same59 (slc_slc setAV x.sets) (hst ▸ slc_slc setAV y.sets) hok.sets h2) (impCs_cons (slc_clean _ _ set_cells_clean) (impCs1 (slc_clean _ _ set_cells_clean))) ?_
  simp -failIfUnchanged -implicitDefEqProofs (disch := first | assumption | decide | omega) only [wkA, instrE, astepE, evE, evsE, evoE, evpE, elook, econs, eonly, putE, argE, pickE, resE, rsE, rE, Option.bind_some, Option.bind_none, Option.map_some, Option.map_none, ↓reduceIte, Nat.reduceEqDiff, Nat.reduceAdd, Nat.zero_add, Nat.add_zero, Nat.reduceLT, Nat.reduceLeDiff, Bool.false_eq_true]
  exact impC_v _

theorem stp_clean (t : Stp) : Abs.Clean t.av := impC_agg rfl fun j c d hc hd => by
  rw [hc] at hd; cases hd; exact stp_cells_clean t c (List.mem_of_getElem? hc)

/-- Small enough for the model's slices. -/
structure Stp.Fits (x : Stp) : Prop where
  slice : (x.slice.getD []).length < 140737488355328
  sets : (x.sets.getD []).length < 140737488355328

theorem same19 {v w : AV} {l m : List Stp} (hv : Slc v (l.map Stp.av)) (hw : Slc w (m.map Stp.av)) (hlm : l.length = m.length) (he : ∀ (i : Nat) x y, l[i]? = some x → m[i]? = some y → x.Eqv y) (hok : ∀ t ∈ l, t.Ok) (hf : ∀ t ∈ l, t.Fits) (hll : l.length < 140737488355328) : PureSpec Try.prog 19 [v, w] (.v (.bool true)) := by
  refine pureSpec_of (fnE mixed T19 U19 (Nat.le_of_ble_eq_true rfl) ?_)
  unfold c19
  have d0 : ((l.length : Int) != (l.length : Int)) = false := by simp
  simp -failIfUnchanged -implicitDefEqProofs (disch := first | assumption | decide | omega) only [wkA, instrE, astepE, evE, evsE, evoE, evpE, elook, econs, eonly, putE, argE, pickE, resE, rsE, rE, Option.bind_some, Option.bind_none, Option.map_some, Option.map_none, ↓reduceIte, Nat.reduceEqDiff, Nat.reduceAdd, Nat.zero_add, Nat.add_zero, Nat.reduceLT, Nat.reduceLeDiff, Bool.false_eq_true, hv.lenStep, hw.lenStep, goInt, List.length_map, ← hlm, d0]
  refine wpE_count (fun i e hp => e = [(0, v), (1, w), (5, i64 i)]) l.length rfl ?_ ?_
  · rintro i e hp hi rfl
    obtain ⟨t, ht⟩ : ∃ t, l[i]? = some t := ⟨l[i], List.getElem?_eq_getElem hi⟩
    obtain ⟨u, hu⟩ : ∃ u, m[i]? = some u := ⟨m[i]'(by omega), List.getElem?_eq_getElem (by omega)⟩
    have hm := List.mem_of_getElem? ht
    have e1 : aia 10 v (.v (.int .i64 i)) = some (.fp t.cs 0) := hv.ia (x := t.av) (by simp [ht]) rfl
    have e2 : aia 10 w (.v (.int .i64 i)) = some (.fp u.cs 0) := hw.ia (x := u.av) (by simp [hu]) rfl
    have l0 : ∀ (t : Stp) hp, aload hp true 10 (.fp t.cs 0) = some t.av := fun _ _ => rfl
    have d1 : decide ((i : Int) < (l.length : Int)) = true := by simp; omega
    simp -failIfUnchanged -implicitDefEqProofs (disch := first | assumption | decide | omega) only [wkA, instrE, astepE, evE, evsE, evoE, evpE, elook, econs, eonly, putE, argE, pickE, resE, rsE, rE, Option.bind_some, Option.bind_none, Option.map_some, Option.map_none, ↓reduceIte, Nat.reduceEqDiff, Nat.reduceAdd, Nat.zero_add, Nat.add_zero, Nat.reduceLT, Nat.reduceLeDiff, Bool.false_eq_true, hv.lenStep, goInt, List.length_map, d1, e1, e2, l0]
    refine CallOk.pure (same42 (he i t u ht hu) (hok t hm) (hf t hm).slice (hf t hm).sets) (impCs_cons (stp_clean _) (impCs1 (stp_clean _))) ?_
    simp -failIfUnchanged -implicitDefEqProofs (disch := first | assumption | decide | omega) only [wkA, instrE, astepE, evE, evsE, evoE, evpE, elook, econs, eonly, putE, argE, pickE, resE, rsE, rE, Option.bind_some, Option.bind_none, Option.map_some, Option.map_none, ↓reduceIte, Nat.reduceEqDiff, Nat.reduceAdd, Nat.zero_add, Nat.add_zero, Nat.reduceLT, Nat.reduceLeDiff, Bool.false_eq_true, aun_not, Bool.not_true]
    rw [wrap_i64 (by omega) (by omega)]
    rfl
  · rintro e hp rfl
    have d1 : decide ((l.length : Int) < (l.length : Int)) = false := by simp
    simp -failIfUnchanged -implicitDefEqProofs (disch := first | assumption | decide | omega) only [wkA, instrE, astepE, evE, evsE, evoE, evpE, elook, econs, eonly, putE, argE, pickE, resE, rsE, rE, Option.bind_some, Option.bind_none, Option.map_some, Option.map_none, ↓reduceIte, Nat.reduceEqDiff, Nat.reduceAdd, Nat.zero_add, Nat.add_zero, Nat.reduceLT, Nat.reduceLeDiff, Bool.false_eq_true, hv.lenStep, goInt, List.length_map, d1]
    exact impC_v _

structure Opr.Eqv (x y : Opr) : Prop where
  kind : x.kind = y.kind
  time : x.time = y.time
  sel : x.sel = y.sel
  anchor : x.anchor = y.anchor
  head : x.head = y.head
  len : (stpsOf x).length = (stpsOf y).length
  steps : ∀ (i : Nat) a b, (stpsOf x)[i]? = some a → (stpsOf y)[i]? = some b → a.Eqv b
structure Opr.Fits (x : Opr) : Prop where
  len : (stpsOf x).length < 140737488355328
  steps : ∀ t ∈ stpsOf x, t.Fits

set_option maxRecDepth 20000 in
theorem same20 {v w : AV} {l m : List Opr} (hv : Slc v (l.map Opr.av)) (hw : Slc w (m.map Opr.av)) (hlm : l.length = m.length) (he : ∀ (i : Nat) x y, l[i]? = some x → m[i]? = some y → x.Eqv y) (hok : ∀ t ∈ l, t.Ok) (hf : ∀ t ∈ l, t.Fits) (hll : l.length < 140737488355328) : PureSpec Try.prog 20 [v, w] (.v (.bool true)) := by
  refine pureSpec_of (fnE mixed T20 U20 (Nat.le_of_ble_eq_true rfl) ?_)
  unfold c20
  have d0 : ((l.length : Int) != (l.length : Int)) = false := by simp
  simp -failIfUnchanged -implicitDefEqProofs (disch := first | assumption | decide | omega) only [wkA, instrE, astepE, evE, evsE, evoE, evpE, elook, econs, eonly, putE, argE, pickE, resE, rsE, rE, Option.bind_some, Option.bind_none, Option.map_some, Option.map_none, ↓reduceIte, Nat.reduceEqDiff, Nat.reduceAdd, Nat.zero_add, Nat.add_zero, Nat.reduceLT, Nat.reduceLeDiff, Bool.false_eq_true, hv.lenStep, hw.lenStep, goInt, List.length_map, ← hlm, d0]
  refine wpE_count (fun i e hp => e = [(0, v), (1, w), (5, i64 i)]) l.length rfl ?_ ?_
  · rintro i e hp hi rfl
    obtain ⟨t, ht⟩ : ∃ t, l[i]? = some t := ⟨l[i], List.getElem?_eq_getElem hi⟩
    obtain ⟨u, hu⟩ : ∃ u, m[i]? = some u := ⟨m[i]'(by omega), List.getElem?_eq_getElem (by omega)⟩
    have hm := List.mem_of_getElem? ht
    obtain ⟨q1, q2, q3, q4, q5, q6, q7⟩ := he i t u ht hu
    have e1 : aia 6 v (.v (.int .i64 i)) = some (.fp t.cs 0) := hv.ia (x := t.av) (by simp [ht]) rfl
    have e2 : aia 6 w (.v (.int .i64 i)) = some (.fp u.cs 0) := hw.ia (x := u.av) (by simp [hu]) rfl
    have l0 : ∀ (t : Opr) hp, aload hp false 1 (.fp t.cs 0) = some (i64 t.kind) := fun _ _ => rfl
    have l1 : ∀ (t : Opr) hp, aload hp false 1 (.fp t.cs 1) = some (i64 t.time) := fun _ _ => rfl
    have l2 : ∀ (t : Opr) hp, aload hp false 1 (.fp t.cs 2) = some (slcAV Stp.av t.steps) := fun _ _ => rfl
    have l3 : ∀ (t : Opr) hp, aload hp true 3 (.fp t.cs 3) = some (.agg [i64 t.sel, i64 t.anchor, i64 t.head]) := fun _ _ => rfl
    have g : ∀ n : Int, (n != n) = false := fun n => by simp
    have eq1 : aeqf [.i, .i, .i] true (.agg [i64 t.sel, i64 t.anchor, i64 t.head]) (.agg [i64 u.sel, i64 u.anchor, i64 u.head]) = some (.v (.bool false)) := by
      rw [q3, q4, q5]
      simp [aeqf, eqKs, eqK]
    have d1 : decide ((i : Int) < (l.length : Int)) = true := by simp; omega
    simp -failIfUnchanged -implicitDefEqProofs (disch := first | assumption | decide | omega) only [wkA, instrE, astepE, evE, evsE, evoE, evpE, elook, econs, eonly, putE, argE, pickE, resE, rsE, rE, Option.bind_some, Option.bind_none, Option.map_some, Option.map_none, ↓reduceIte, Nat.reduceEqDiff, Nat.reduceAdd, Nat.zero_add, Nat.add_zero, Nat.reduceLT, Nat.reduceLeDiff, Bool.false_eq_true, hv.lenStep, goInt, List.length_map, d1, e1, e2, l0, q1, g, l1, q2, l3, eq1, l2]
    refine CallOk.pure (same19 (slc_slc Stp.av t.steps) (slc_slc Stp.av u.steps) q6 q7 (hok t hm).steps (hf t hm).steps (hf t hm).len) (impCs_cons (slc_clean _ _ stp_cells_clean) (impCs1 (slc_clean _ _ stp_cells_clean))) ?_
    simp -failIfUnchanged -implicitDefEqProofs (disch := first | assumption | decide | omega) only [wkA, instrE, astepE, evE, evsE, evoE, evpE, elook, econs, eonly, putE, argE, pickE, resE, rsE, rE, Option.bind_some, Option.bind_none, Option.map_some, Option.map_none, ↓reduceIte, Nat.reduceEqDiff, Nat.reduceAdd, Nat.zero_add, Nat.add_zero, Nat.reduceLT, Nat.reduceLeDiff, Bool.false_eq_true, aun_not, Bool.not_true]
    rw [wrap_i64 (by omega) (by omega)]
    rfl
  · rintro e hp rfl
    have d1 : decide ((l.length : Int) < (l.length : Int)) = false := by simp
    simp -failIfUnchanged -implicitDefEqProofs (disch := first | assumption | decide | omega) only [wkA, instrE, astepE, evE, evsE, evoE, evpE, elook, econs, eonly, putE, argE, pickE, resE, rsE, rE, Option.bind_some, Option.bind_none, Option.map_some, Option.map_none, ↓reduceIte, Nat.reduceEqDiff, Nat.reduceAdd, Nat.zero_add, Nat.add_zero, Nat.reduceLT, Nat.reduceLeDiff, Bool.false_eq_true, hv.lenStep, goInt, List.length_map, d1]
    exact impC_v _

end Go.Proofs.Ytllgfmijocgniaa
