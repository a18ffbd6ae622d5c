/- The law KeepReads over abstract values: it returns true. -/
import Derived.Test.YtllgfmijocgniaaK7
set_option linter.unusedVariables false
set_option linter.unusedSimpArgs false
namespace Go.Proofs.Ytllgfmijocgniaa
open Go Go.Abs Go.RowKit

set_option maxRecDepth 30000 in
theorem reads4 {v1 v2 : AV} {o : List Opr} {bl : List Nat} (h1 : Slc v1 (o.map Opr.av)) (h2 : Slc v2 (bs bl)) (hs : ∀ x ∈ bl, x < 256) (c1 : Abs.Clean v1) (c2 : Abs.Clean v2) (k1 : ∀ t ∈ o, t.Ok) : PureSpec Try.prog 4 [v1, v2] (.v (.bool true)) := by
  refine pureSpec_of (fnE mixed T4 U4 (Nat.le_of_ble_eq_true rfl) ?_)
  unfold c4
  simp -failIfUnchanged -implicitDefEqProofs (disch := first | assumption | decide | omega) only [wkA, instrE, astepE, evE, evsE, evoE, evpE, elook, econs, eonly, putE, argE, pickE, resE, rsE, rE, Option.bind_some, Option.bind_none, Option.map_some, Option.map_none, ↓reduceIte, Nat.reduceEqDiff, Nat.reduceAdd, Nat.zero_add, Nat.add_zero, Nat.reduceLT, Nat.reduceLeDiff, Bool.false_eq_true]
  refine CallOk.pure (few7 h1) (impCs1 c1) ?_
  simp -failIfUnchanged -implicitDefEqProofs (disch := first | assumption | decide | omega) only [wkA, instrE, astepE, evE, evsE, evoE, evpE, elook, econs, eonly, putE, argE, pickE, resE, rsE, rE, Option.bind_some, Option.bind_none, Option.map_some, Option.map_none, ↓reduceIte, Nat.reduceEqDiff, Nat.reduceAdd, Nat.zero_add, Nat.add_zero, Nat.reduceLT, Nat.reduceLeDiff, Bool.false_eq_true, aun_not]
  cases hg : fewOprs o with
  | false =>
    simp -failIfUnchanged -implicitDefEqProofs (disch := first | assumption | decide | omega) only [wkA, instrE, astepE, evE, evsE, evoE, evpE, elook, econs, eonly, putE, argE, pickE, resE, rsE, rE, Option.bind_some, Option.bind_none, Option.map_some, Option.map_none, ↓reduceIte, Nat.reduceEqDiff, Nat.reduceAdd, Nat.zero_add, Nat.add_zero, Nat.reduceLT, Nat.reduceLeDiff, Bool.false_eq_true, Bool.not_false]
    refine CallOk.pure live21 impCs_nil ?_
    simp -failIfUnchanged -implicitDefEqProofs (disch := first | assumption | decide | omega) only [wkA, instrE, astepE, evE, evsE, evoE, evpE, elook, econs, eonly, putE, argE, pickE, resE, rsE, rE, Option.bind_some, Option.bind_none, Option.map_some, Option.map_none, ↓reduceIte, Nat.reduceEqDiff, Nat.reduceAdd, Nat.zero_add, Nat.add_zero, Nat.reduceLT, Nat.reduceLeDiff, Bool.false_eq_true]
    exact impC_v _
  | true =>
  simp -failIfUnchanged -implicitDefEqProofs (disch := first | assumption | decide | omega) only [wkA, instrE, astepE, evE, evsE, evoE, evpE, elook, econs, eonly, putE, argE, pickE, resE, rsE, rE, Option.bind_some, Option.bind_none, Option.map_some, Option.map_none, ↓reduceIte, Nat.reduceEqDiff, Nat.reduceAdd, Nat.zero_add, Nat.add_zero, Nat.reduceLT, Nat.reduceLeDiff, Bool.false_eq_true, Bool.not_true, h2.lenStep, goInt, bs_length]
  refine BoolCase.mk (fun h => ?_) fun h => ?_
  · simp -failIfUnchanged -implicitDefEqProofs (disch := first | assumption | decide | omega) only [wkA, instrE, astepE, evE, evsE, evoE, evpE, elook, econs, eonly, putE, argE, pickE, resE, rsE, rE, Option.bind_some, Option.bind_none, Option.map_some, Option.map_none, ↓reduceIte, Nat.reduceEqDiff, Nat.reduceAdd, Nat.zero_add, Nat.add_zero, Nat.reduceLT, Nat.reduceLeDiff, Bool.false_eq_true]
    refine CallOk.pure live21 impCs_nil ?_
    simp -failIfUnchanged -implicitDefEqProofs (disch := first | assumption | decide | omega) only [wkA, instrE, astepE, evE, evsE, evoE, evpE, elook, econs, eonly, putE, argE, pickE, resE, rsE, rE, Option.bind_some, Option.bind_none, Option.map_some, Option.map_none, ↓reduceIte, Nat.reduceEqDiff, Nat.reduceAdd, Nat.zero_add, Nat.add_zero, Nat.reduceLT, Nat.reduceLeDiff, Bool.false_eq_true]
    exact impC_v _
  have hbl : bl.length ≤ 2000 := by simp at h; omega
  have hb : Bytes v2 bl := ⟨h2, hs, by omega⟩
  obtain ⟨ho24, hof⟩ := few_oprs hg
  have hmax := frames_max k1 hg
  simp -failIfUnchanged -implicitDefEqProofs (disch := first | assumption | decide | omega) only [wkA, instrE, astepE, evE, evsE, evoE, evpE, elook, econs, eonly, putE, argE, pickE, resE, rsE, rE, Option.bind_some, Option.bind_none, Option.map_some, Option.map_none, ↓reduceIte, Nat.reduceEqDiff, Nat.reduceAdd, Nat.zero_add, Nat.add_zero, Nat.reduceLT, Nat.reduceLeDiff, Bool.false_eq_true, h]
  refine wpE_count (fun i e hp => ∃ v, e = [(0, v1), (1, v2), (5, v), (6, i64 i)] ∧ i ≤ o.length ∧ Appd hp v (bs ((o.take i).flatMap encFrame)) 1) o.length ⟨.nsl, rfl, Nat.zero_le _, Appd.nil _ _⟩ ?_ ?_
  · rintro i e hp hi ⟨v, rfl, _, hA⟩
    obtain ⟨t, ht⟩ : ∃ t, o[i]? = some t := ⟨o[i], List.getElem?_eq_getElem hi⟩
    have htm := List.mem_of_getElem? ht
    have hia : aia 6 v1 (.v (.int .i64 i)) = some (.fp t.cs 0) := h1.ia (x := t.av) (by simp [ht]) rfl
    have ld : ∀ hp, aload hp true 6 (.fp t.cs 0) = some t.av := fun _ => rfl
    have d1 : decide ((i : Int) < (o.length : Int)) = true := by simp; omega
    have x6 : IntKind.i64.wrap ((i : Int) + 1) = ((i + 1 : Nat) : Int) := by rw [wrap_i64 (by omega) (by omega)]; rfl
    have hl1 := encFrame_len (k1 t htm) (hof t htm)
    have hl2 := hmax i
    have hpos : 0 < (encFrame t).length := by unfold encFrame; simp [le4]
    have hfl : (encOprs [t]).length < 4294967296 := by have := encOprs1_len (k1 t htm) (hof t htm); omega
    simp -failIfUnchanged -implicitDefEqProofs (disch := first | assumption | decide | omega) only [wkA, instrE, astepE, evE, evsE, evoE, evpE, elook, econs, eonly, putE, argE, pickE, resE, rsE, rE, Option.bind_some, Option.bind_none, Option.map_some, Option.map_none, ↓reduceIte, Nat.reduceEqDiff, Nat.reduceAdd, Nat.zero_add, Nat.add_zero, Nat.reduceLT, Nat.reduceLeDiff, Bool.false_eq_true, h1.lenStep, goInt, List.length_map, d1, hia, ld]
    refine CallOk.pure (frame22 (k1 t htm) hfl) (impCs1 (opr_clean t)) ?_
    simp -failIfUnchanged -implicitDefEqProofs (disch := first | assumption | decide | omega) only [wkA, instrE, astepE, evE, evsE, evoE, evpE, elook, econs, eonly, putE, argE, pickE, resE, rsE, rE, Option.bind_some, Option.bind_none, Option.map_some, Option.map_none, ↓reduceIte, Nat.reduceEqDiff, Nat.reduceAdd, Nat.zero_add, Nat.add_zero, Nat.reduceLT, Nat.reduceLeDiff, Bool.false_eq_true, ab2s_bs, hia, ld]
    refine CallOk.pure (frame23 (k1 t htm) hfl) (impCs1 (opr_clean t)) ?_
    simp -failIfUnchanged -implicitDefEqProofs (disch := first | assumption | decide | omega) only [wkA, instrE, astepE, evE, evsE, evoE, evpE, elook, econs, eonly, putE, argE, pickE, resE, rsE, rE, Option.bind_some, Option.bind_none, Option.map_some, Option.map_none, ↓reduceIte, Nat.reduceEqDiff, Nat.reduceAdd, Nat.zero_add, Nat.add_zero, Nat.reduceLT, Nat.reduceLeDiff, Bool.false_eq_true, ab2s_bs, abin_sne, str_same]
    refine appE (xs := bs ((o.take i).flatMap encFrame)) (ys := bs (encFrame t)) hA (ok_bs _) (ok_bs _) (bs_ne hpos) (by decide) (by decide) (by simp only [bs_length]; omega) fun v' hp2 hA2 _ _ => ?_
    simp -failIfUnchanged -implicitDefEqProofs (disch := first | assumption | decide | omega) only [wkA, instrE, astepE, evE, evsE, evoE, evpE, elook, econs, eonly, putE, argE, pickE, resE, rsE, rE, Option.bind_some, Option.bind_none, Option.map_some, Option.map_none, ↓reduceIte, Nat.reduceEqDiff, Nat.reduceAdd, Nat.zero_add, Nat.add_zero, Nat.reduceLT, Nat.reduceLeDiff, Bool.false_eq_true, x6]
    exact ⟨v', rfl, by omega, by rw [flat_step encFrame ht, bs_append]; exact hA2⟩
  rintro e hp ⟨v, rfl, _, hA⟩
  have d1 : decide ((o.length : Int) < (o.length : Int)) = false := by simp
  rw [List.take_length] at hA
  have hm := hmax o.length
  rw [List.take_length] at hm
  obtain ⟨k, m, hF⟩ := frames_ex bl _ 0 rfl
  have hm2 := hF.few
  have hF2 := frames_enc (l := o) (fun t ht => ⟨k1 t ht, hof t ht⟩) frames_nil
  rw [List.append_nil, List.append_nil, Nat.add_zero] at hF2
  have hkok := hF.ok hb.len
  have hsm : Small (o.flatMap encFrame) := Small.flat fun x _ => small_frame x
  generalize hAll : o.flatMap encFrame = all at *
  obtain ⟨w, hw, hi⟩ := appdX_slc (Or.inl hA) (bs_clean _)
  simp -failIfUnchanged -implicitDefEqProofs (disch := first | assumption | decide | omega) only [wkA, instrE, astepE, evE, evsE, evoE, evpE, elook, econs, eonly, putE, argE, pickE, resE, rsE, rE, Option.bind_some, Option.bind_none, Option.map_some, Option.map_none, ↓reduceIte, Nat.reduceEqDiff, Nat.reduceAdd, Nat.zero_add, Nat.add_zero, Nat.reduceLT, Nat.reduceLeDiff, Bool.false_eq_true, h1.lenStep, goInt, List.length_map, d1]
  refine CallOk.pure (read24 (b := w) ⟨hw, hsm, by omega⟩ hF2) (impCs1 hi) ?_
  have x0 : ∀ (l : List Opr) (n : Nat), aext 0 (.tup [slcAV Opr.av (nzl l), i64 n]) = some (slcAV Opr.av (nzl l)) := fun _ _ => rfl
  have x1 : ∀ (l : List Opr) (n : Nat), aext 1 (.tup [slcAV Opr.av (nzl l), i64 n]) = some (i64 n) := fun _ _ => rfl
  simp -failIfUnchanged -implicitDefEqProofs (disch := first | assumption | decide | omega) only [wkA, instrE, astepE, evE, evsE, evoE, evpE, elook, econs, eonly, putE, argE, pickE, resE, rsE, rE, Option.bind_some, Option.bind_none, Option.map_some, Option.map_none, ↓reduceIte, Nat.reduceEqDiff, Nat.reduceAdd, Nat.zero_add, Nat.add_zero, Nat.reduceLT, Nat.reduceLeDiff, Bool.false_eq_true, x0, x1]
  refine CallOk.pure (read24 hb hF) (impCs1 c2) ?_
  simp -failIfUnchanged -implicitDefEqProofs (disch := first | assumption | decide | omega) only [wkA, instrE, astepE, evE, evsE, evoE, evpE, elook, econs, eonly, putE, argE, pickE, resE, rsE, rE, Option.bind_some, Option.bind_none, Option.map_some, Option.map_none, ↓reduceIte, Nat.reduceEqDiff, Nat.reduceAdd, Nat.zero_add, Nat.add_zero, Nat.reduceLT, Nat.reduceLeDiff, Bool.false_eq_true, x0, x1]
  refine CallOk.pure (read25 hb hF) (impCs1 c2) ?_
  simp -failIfUnchanged -implicitDefEqProofs (disch := first | assumption | decide | omega) only [wkA, instrE, astepE, evE, evsE, evoE, evpE, elook, econs, eonly, putE, argE, pickE, resE, rsE, rE, Option.bind_some, Option.bind_none, Option.map_some, Option.map_none, ↓reduceIte, Nat.reduceEqDiff, Nat.reduceAdd, Nat.zero_add, Nat.add_zero, Nat.reduceLT, Nat.reduceLeDiff, Bool.false_eq_true, x0, x1]
  refine CallOk.pure (same20 (slc_nz Opr.av (o.map Opr.nrm)) h1 (by simp) (fun i a b ha hb => by
    simp only [List.getElem?_map, hb, Option.map_some, Option.some.injEq] at ha
    subst ha
    exact b.nrm_eqv) (fun t ht => by
    obtain ⟨y, hy, rfl⟩ := List.mem_map.1 ht
    exact nrmo_ok (k1 y hy)) (fun t ht => by
    obtain ⟨y, hy, rfl⟩ := List.mem_map.1 ht
    exact nrmo_fits (few_ofits (hof y hy))) (by simp; omega)) (impCs_cons (slc_clean _ _ opr_cells_clean) (impCs1 c1)) ?_
  have heq : ((all.length : Int) == (all.length : Int)) = true := by simp
  have heq2 : ((m : Int) == (m : Int)) = true := by simp
  simp -failIfUnchanged -implicitDefEqProofs (disch := first | assumption | decide | omega) only [wkA, instrE, astepE, evE, evsE, evoE, evpE, elook, econs, eonly, putE, argE, pickE, resE, rsE, rE, Option.bind_some, Option.bind_none, Option.map_some, Option.map_none, ↓reduceIte, Nat.reduceEqDiff, Nat.reduceAdd, Nat.zero_add, Nat.add_zero, Nat.reduceLT, Nat.reduceLeDiff, Bool.false_eq_true, appdX_len (Or.inl hA), goInt, bs_length, heq]
  have hk2 := slc_nz Opr.av k
  refine CallOk.pure (same20 hk2 hk2 rfl (fun i a b ha hb => by rw [ha] at hb; cases hb; exact Opr.Eqv.refl a) (fun t ht => (hkok t ht).1) (fun t ht => (hkok t ht).2) (by omega)) (impCs_cons (slc_clean _ _ opr_cells_clean) (impCs1 (slc_clean _ _ opr_cells_clean))) ?_
  simp -failIfUnchanged -implicitDefEqProofs (disch := first | assumption | decide | omega) only [wkA, instrE, astepE, evE, evsE, evoE, evpE, elook, econs, eonly, putE, argE, pickE, resE, rsE, rE, Option.bind_some, Option.bind_none, Option.map_some, Option.map_none, ↓reduceIte, Nat.reduceEqDiff, Nat.reduceAdd, Nat.zero_add, Nat.add_zero, Nat.reduceLT, Nat.reduceLeDiff, Bool.false_eq_true, heq2]
  refine CallOk.pure live21 impCs_nil ?_
  simp -failIfUnchanged -implicitDefEqProofs (disch := first | assumption | decide | omega) only [wkA, instrE, astepE, evE, evsE, evoE, evpE, elook, econs, eonly, putE, argE, pickE, resE, rsE, rE, Option.bind_some, Option.bind_none, Option.map_some, Option.map_none, ↓reduceIte, Nat.reduceEqDiff, Nat.reduceAdd, Nat.zero_add, Nat.add_zero, Nat.reduceLT, Nat.reduceLeDiff, Bool.false_eq_true]
  exact impC_v _

end Go.Proofs.Ytllgfmijocgniaa
