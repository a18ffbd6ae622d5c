/- The law PackLays over abstract values: it returns true. -/
import Derived.Test.YtllgfmijocgniaaG4
set_option linter.unusedVariables false
set_option linter.unusedSimpArgs false
namespace Go.Proofs.Ytllgfmijocgniaa
open Go Go.Abs Go.RowKit

/-! How long bytes are. -/
theorem flat_max {α : Type} (f : α → List Nat) (l : List α) (m : Nat) (h : ∀ x ∈ l, (f x).length ≤ m) : (l.flatMap f).length ≤ l.length * m := by
  induction l with
  | nil => simp
  | cons a r ih =>
    have h1 := h a (by simp)
    have h2 := ih fun x hx => h x (by simp [hx])
    simp only [List.flatMap_cons, List.length_append, List.length_cons, Nat.add_mul, Nat.one_mul]
    omega
theorem encMany_max {α : Type} (f : α → List Nat) (l : List α) (m : Nat) (h : ∀ x ∈ l, (f x).length ≤ m) (hl : l.length < 140737488355328) : (encMany f l).length ≤ 10 + l.length * m := by
  have h1 := flat_max f l m h
  have h2 := encNum_len (n := (l.length : Nat)) (is64_nat (by omega))
  simp only [encMany, List.length_append]
  omega

theorem encPairs_max : ∀ (m : List Int) (k : Nat), k + m.length ≤ 8 → (∀ v ∈ m, 0 ≤ v ∧ v < 65536) → (encPairs k m).length ≤ 20 * m.length
  | [], k, _, _ => by simp [encPairs]
  | x :: r, k, hk, hv => by
    simp only [List.length_cons] at hk
    have ih := encPairs_max r (k + 1) (by omega) fun v h => hv v (by simp [h])
    have hx := hv x (by simp)
    have h1 := encNum_len (n := (k : Nat)) (is64_nat (by omega))
    have h2 := encNum_len (is64_u16 hx)
    simp only [encPairs, List.length_append, List.length_cons]
    split
    · simp only [List.length_append]; omega
    · simp; omega
theorem encSet_max {m : List Int} (h : IsSet m) : (encSet m).length ≤ 170 := by
  have h1 := encPairs_max m 0 (by rw [h.1]; omega) h.2
  have hc := cnt_le m
  have h2 := encNum_len (n := (cnt m : Nat)) (is64_nat (by rw [h.1] at hc; omega))
  rw [h.1] at h1
  simp only [encSet, List.length_append]
  omega
theorem encTok_len {t : Tok} (h : t.Ok) : (encTok t).length ≤ 210 := by
  have h1 := encNum_len h.kind
  have h2 := encNum_len h.typ
  have h3 := encNum_len h.attr
  have h4 := encNum_len h.rune.is64
  have h5 := encSet_max h.marks
  simp only [encTok, encNums, List.flatMap_cons, List.flatMap_nil, List.length_append, List.length_nil]
  omega
theorem encToks_len {l : List Tok} (h : ∀ t ∈ l, t.Ok) (n : Nat) (hl : l.length ≤ n) (hn : n < 140737488355328) : (encToks l).length ≤ 10 + n * 210 := by
  have := encMany_max encTok l 210 (fun x hx => encTok_len (h x hx)) (by omega)
  have : l.length * 210 ≤ n * 210 := Nat.mul_le_mul_right _ hl
  unfold encToks
  omega
theorem few_stp {t : Stp} (h : fewStp t = true) : (t.slice.getD []).length ≤ 60 ∧ (t.sets.getD []).length ≤ 150 := by
  simpa [fewStp] using h
theorem encStp_len {t : Stp} (h : t.Ok) (hf : fewStp t = true) : (encStp t).length ≤ 38200 := by
  obtain ⟨f1, f2⟩ := few_stp hf
  have h1 := encToks_len h.slice 60 f1 (by decide)
  have h2 := encMany_max encSet (t.sets.getD []) 170 (fun x hx => encSet_max (h.sets x hx)) (by omega)
  have h3 : (t.sets.getD []).length * 170 ≤ 150 * 170 := Nat.mul_le_mul_right _ f2
  have hn := h.ns
  simp only [Stp.ns, List.mem_cons, List.not_mem_nil, or_false, forall_eq_or_imp, forall_eq] at hn
  obtain ⟨n1, n2, n3, n4, n5, n6, n7, n8⟩ := hn
  have := encNum_len n1
  have := encNum_len n2
  have := encNum_len n3
  have := encNum_len n4
  have := encNum_len n5
  have := encNum_len n6
  have := encNum_len n7
  have := encNum_len n8
  simp only [encStp, Stp.ns, encNums, List.flatMap_cons, List.flatMap_nil, List.length_append, List.length_nil]
  omega
theorem few_stps {l : List Stp} (h : fewStps l = true) : l.length ≤ 20 ∧ ∀ t ∈ l, fewStp t = true := by
  simp only [fewStps, Bool.and_eq_true, decide_eq_true_eq] at h
  obtain ⟨h1, h2⟩ := h
  rw [List.take_of_length_le h2, List.all_eq_true] at h1
  exact ⟨h2, h1⟩
theorem encStps_len {l : List Stp} (h : ∀ t ∈ l, t.Ok) (hf : fewStps l = true) : (encStps l).length ≤ 764010 := by
  obtain ⟨h1, h2⟩ := few_stps hf
  have := encMany_max encStp l 38200 (fun x hx => encStp_len (h x hx) (h2 x hx)) (by omega)
  have : l.length * 38200 ≤ 20 * 38200 := Nat.mul_le_mul_right _ h1
  unfold encStps
  omega
theorem few_oprs {l : List Opr} (h : fewOprs l = true) : l.length ≤ 24 ∧ ∀ t ∈ l, fewStps (stpsOf t) = true := by
  simp only [fewOprs, Bool.and_eq_true, decide_eq_true_eq] at h
  obtain ⟨⟨h1, h2⟩, _⟩ := h
  rw [List.take_of_length_le h2, List.all_eq_true] at h1
  exact ⟨h2, fun t ht => by
    have := h1 t ht
    simp only [fewOne, Bool.and_eq_true] at this
    exact this.1⟩
theorem encOpr_len {t : Opr} (h : t.Ok) (hf : fewStps (stpsOf t) = true) : (encOpr t).length ≤ 764070 := by
  have h1 := encStps_len h.steps hf
  have := encNum_len h.kind
  have := encNum_len h.time
  have := encNum_len h.sel
  have := encNum_len h.anchor
  have := encNum_len h.head
  simp only [encOpr, encNums, List.flatMap_cons, List.flatMap_nil, List.length_append, List.length_nil]
  omega
theorem encOprs_len {l : List Opr} (h : ∀ t ∈ l, t.Ok) (hf : fewOprs l = true) : (encOprs l).length ≤ 18337700 := by
  obtain ⟨h1, h2⟩ := few_oprs hf
  have := encMany_max encOpr l 764070 (fun x hx => encOpr_len (h x hx) (h2 x hx)) (by omega)
  have : l.length * 764070 ≤ 24 * 764070 := Nat.mul_le_mul_right _ h1
  unfold encOprs
  omega
theorem few_fits {t : Stp} (h : fewStp t = true) : t.Fits := by
  obtain ⟨f1, f2⟩ := few_stp h
  exact ⟨by omega, by omega⟩
theorem few_ofits {t : Opr} (h : fewStps (stpsOf t) = true) : t.Fits := by
  obtain ⟨f1, f2⟩ := few_stps h
  exact ⟨by omega, fun x hx => few_fits (f2 x hx)⟩

theorem enc_small256 (u : Nat) : ∀ x ∈ enc u, x < 256 := by
  induction u using Nat.strongRecOn with
  | _ u ih =>
    by_cases h : u < 128
    · rw [enc_small h]; intro x hx; simp at hx; omega
    · rw [enc_big h]
      intro x hx
      rcases List.mem_cons.1 hx with rfl | hx
      · omega
      · exact ih (u / 128) (by omega) x hx
def Small (l : List Nat) : Prop := ∀ x ∈ l, x < 256
theorem Small.app {a b : List Nat} (h : Small a) (h' : Small b) : Small (a ++ b) := fun x hx => (List.mem_append.1 hx).elim (h x) (h' x)
theorem Small.flat {α : Type} {f : α → List Nat} {l : List α} (h : ∀ x ∈ l, Small (f x)) : Small (l.flatMap f) := fun x hx => by
  obtain ⟨y, hy, hx⟩ := List.mem_flatMap.1 hx
  exact h y hy x hx
theorem small_num (n : Int) : Small (encNum n) := enc_small256 _
theorem small_nums (l : List Int) : Small (encNums l) := Small.flat fun x _ => small_num x
theorem small_many {α : Type} {f : α → List Nat} {l : List α} (h : ∀ x, Small (f x)) : Small (encMany f l) := (small_num _).app (Small.flat fun x _ => h x)
theorem small_pairs : ∀ (m : List Int) (k : Nat), Small (encPairs k m)
  | [], k => fun x hx => by simp [encPairs] at hx
  | x :: r, k => by
    unfold encPairs
    split
    · exact ((small_num _).app (small_num _)).app (small_pairs r _)
    · exact Small.app (fun x hx => by simp at hx) (small_pairs r _)
theorem small_set (m : List Int) : Small (encSet m) := (small_num _).app (small_pairs _ _)
theorem small_tok (t : Tok) : Small (encTok t) := (small_nums _).app (small_set _)
theorem small_toks (l : List Tok) : Small (encToks l) := small_many small_tok
theorem small_stp (t : Stp) : Small (encStp t) := ((small_nums _).app (small_toks _)).app (small_many small_set)
theorem small_stps (l : List Stp) : Small (encStps l) := small_many small_stp
theorem small_opr (t : Opr) : Small (encOpr t) := ((small_nums _).app (small_stps _)).app (small_nums _)
theorem small_oprs (l : List Opr) : Small (encOprs l) := small_many small_opr

theorem bytes_of {e : List Nat} (hs : Small e) (hl : e.length ≤ 1000000000000) : Bytes (.sl (bs e) .no) e := ⟨Or.inl rfl, hs, hl⟩

theorem nrm_ok {t : Stp} (h : t.Ok) : t.nrm.Ok := ⟨h.ns, by simpa [Stp.nrm, nzl_getD] using h.slice, by simpa [Stp.nrm, nzl_getD] using h.sets⟩
theorem nrm_fits {t : Stp} (h : t.Fits) : t.nrm.Fits := ⟨by simpa [Stp.nrm, nzl_getD] using h.slice, by simpa [Stp.nrm, nzl_getD] using h.sets⟩
theorem nrmo_ok {t : Opr} (h : t.Ok) : t.nrm.Ok := ⟨h.kind, h.time, fun x hx => by
  simp only [Opr.nrm, nzl_getD, List.mem_map] at hx
  obtain ⟨y, hy, rfl⟩ := hx
  exact nrm_ok (h.steps y hy), h.sel, h.anchor, h.head⟩
theorem nrmo_fits {t : Opr} (h : t.Fits) : t.nrm.Fits := by
  have e : stpsOf t.nrm = (stpsOf t).map Stp.nrm := by simp [stpsOf, Opr.nrm, nzl_getD]
  refine ⟨by rw [e]; simpa using h.len, fun x hx => ?_⟩
  rw [e] at hx
  obtain ⟨y, hy, rfl⟩ := List.mem_map.1 hx
  exact nrm_fits (h.steps y hy)

theorem slc_nz {α : Type} (f : α → AV) (l : List α) : Slc (slcAV f (nzl l)) (l.map f) := by
  have := slc_slc f (nzl l)
  rw [nzl_getD] at this
  exact this

theorem str_same (e : List Nat) : (!((strOf e).toList == (strOf e).toList)) = false := by simp

set_option maxRecDepth 30000 in
theorem packLays3 {v1 v2 v3 : AV} {l : List Tok} {x : List Stp} {o : List Opr} (h1 : Slc v1 (l.map Tok.av)) (h2 : Slc v2 (x.map Stp.av)) (h3 : Slc v3 (o.map Opr.av)) (c1 : Abs.Clean v1) (c2 : Abs.Clean v2) (c3' : Abs.Clean v3)
    (k1 : ∀ t ∈ l, t.Ok) (k2 : ∀ t ∈ x, t.Ok) (k3 : ∀ t ∈ o, t.Ok) : PureSpec Try.prog 3 [v1, v2, v3] (.v (.bool true)) := by
  refine pureSpec_of (fnE mixed T3 U3 (Nat.le_of_ble_eq_true rfl) ?_)
  unfold c3
  simp -failIfUnchanged -implicitDefEqProofs (disch := first | assumption | decide | omega) only [wkA, instrE, astepE, evE, evsE, evoE, evpE, elook, econs, eonly, putE, argE, pickE, resE, rsE, rE, Option.bind_some, Option.bind_none, Option.map_some, Option.map_none, ↓reduceIte, Nat.reduceEqDiff, Nat.reduceAdd, Nat.zero_add, Nat.add_zero, Nat.reduceLT, Nat.reduceLeDiff, Bool.false_eq_true, h1.lenStep, goInt, List.length_map]
  refine BoolCase.mk (fun h => ?_) fun h => ?_
  · simp -failIfUnchanged -implicitDefEqProofs (disch := first | assumption | decide | omega) only [wkA, instrE, astepE, evE, evsE, evoE, evpE, elook, econs, eonly, putE, argE, pickE, resE, rsE, rE, Option.bind_some, Option.bind_none, Option.map_some, Option.map_none, ↓reduceIte, Nat.reduceEqDiff, Nat.reduceAdd, Nat.zero_add, Nat.add_zero, Nat.reduceLT, Nat.reduceLeDiff, Bool.false_eq_true, h]
    refine CallOk.pure live8 impCs_nil ?_
    simp -failIfUnchanged -implicitDefEqProofs (disch := first | assumption | decide | omega) only [wkA, instrE, astepE, evE, evsE, evoE, evpE, elook, econs, eonly, putE, argE, pickE, resE, rsE, rE, Option.bind_some, Option.bind_none, Option.map_some, Option.map_none, ↓reduceIte, Nat.reduceEqDiff, Nat.reduceAdd, Nat.zero_add, Nat.add_zero, Nat.reduceLT, Nat.reduceLeDiff, Bool.false_eq_true]
    exact impC_v _
  have hl : l.length ≤ 100 := by simp at h; omega
  simp -failIfUnchanged -implicitDefEqProofs (disch := first | assumption | decide | omega) only [wkA, instrE, astepE, evE, evsE, evoE, evpE, elook, econs, eonly, putE, argE, pickE, resE, rsE, rE, Option.bind_some, Option.bind_none, Option.map_some, Option.map_none, ↓reduceIte, Nat.reduceEqDiff, Nat.reduceAdd, Nat.zero_add, Nat.add_zero, Nat.reduceLT, Nat.reduceLeDiff, Bool.false_eq_true, h]
  refine CallOk.pure (few6 h2) (impCs1 c2) ?_
  simp -failIfUnchanged -implicitDefEqProofs (disch := first | assumption | decide | omega) only [wkA, instrE, astepE, evE, evsE, evoE, evpE, elook, econs, eonly, putE, argE, pickE, resE, rsE, rE, Option.bind_some, Option.bind_none, Option.map_some, Option.map_none, ↓reduceIte, Nat.reduceEqDiff, Nat.reduceAdd, Nat.zero_add, Nat.add_zero, Nat.reduceLT, Nat.reduceLeDiff, Bool.false_eq_true, aun_not]
  cases hf : fewStps x with
  | false =>
    simp -failIfUnchanged -implicitDefEqProofs (disch := first | assumption | decide | omega) only [wkA, instrE, astepE, evE, evsE, evoE, evpE, elook, econs, eonly, putE, argE, pickE, resE, rsE, rE, Option.bind_some, Option.bind_none, Option.map_some, Option.map_none, ↓reduceIte, Nat.reduceEqDiff, Nat.reduceAdd, Nat.zero_add, Nat.add_zero, Nat.reduceLT, Nat.reduceLeDiff, Bool.false_eq_true, Bool.not_false]
    refine CallOk.pure live8 impCs_nil ?_
    simp -failIfUnchanged -implicitDefEqProofs (disch := first | assumption | decide | omega) only [wkA, instrE, astepE, evE, evsE, evoE, evpE, elook, econs, eonly, putE, argE, pickE, resE, rsE, rE, Option.bind_some, Option.bind_none, Option.map_some, Option.map_none, ↓reduceIte, Nat.reduceEqDiff, Nat.reduceAdd, Nat.zero_add, Nat.add_zero, Nat.reduceLT, Nat.reduceLeDiff, Bool.false_eq_true]
    exact impC_v _
  | true =>
  simp -failIfUnchanged -implicitDefEqProofs (disch := first | assumption | decide | omega) only [wkA, instrE, astepE, evE, evsE, evoE, evpE, elook, econs, eonly, putE, argE, pickE, resE, rsE, rE, Option.bind_some, Option.bind_none, Option.map_some, Option.map_none, ↓reduceIte, Nat.reduceEqDiff, Nat.reduceAdd, Nat.zero_add, Nat.add_zero, Nat.reduceLT, Nat.reduceLeDiff, Bool.false_eq_true, Bool.not_true]
  refine CallOk.pure (few7 h3) (impCs1 c3') ?_
  simp -failIfUnchanged -implicitDefEqProofs (disch := first | assumption | decide | omega) only [wkA, instrE, astepE, evE, evsE, evoE, evpE, elook, econs, eonly, putE, argE, pickE, resE, rsE, rE, Option.bind_some, Option.bind_none, Option.map_some, Option.map_none, ↓reduceIte, Nat.reduceEqDiff, Nat.reduceAdd, Nat.zero_add, Nat.add_zero, Nat.reduceLT, Nat.reduceLeDiff, Bool.false_eq_true, aun_not]
  cases hg : fewOprs o with
  | false =>
    simp -failIfUnchanged -implicitDefEqProofs (disch := first | assumption | decide | omega) only [wkA, instrE, astepE, evE, evsE, evoE, evpE, elook, econs, eonly, putE, argE, pickE, resE, rsE, rE, Option.bind_some, Option.bind_none, Option.map_some, Option.map_none, ↓reduceIte, Nat.reduceEqDiff, Nat.reduceAdd, Nat.zero_add, Nat.add_zero, Nat.reduceLT, Nat.reduceLeDiff, Bool.false_eq_true, Bool.not_false]
    refine CallOk.pure live8 impCs_nil ?_
    simp -failIfUnchanged -implicitDefEqProofs (disch := first | assumption | decide | omega) only [wkA, instrE, astepE, evE, evsE, evoE, evpE, elook, econs, eonly, putE, argE, pickE, resE, rsE, rE, Option.bind_some, Option.bind_none, Option.map_some, Option.map_none, ↓reduceIte, Nat.reduceEqDiff, Nat.reduceAdd, Nat.zero_add, Nat.add_zero, Nat.reduceLT, Nat.reduceLeDiff, Bool.false_eq_true]
    exact impC_v _
  | true =>
  have z1 := encToks_len k1 100 hl (by decide)
  have z2 := encStps_len k2 hf
  have z3 := encOprs_len k3 hg
  obtain ⟨hx20, hxf⟩ := few_stps hf
  obtain ⟨ho24, hof⟩ := few_oprs hg
  simp -failIfUnchanged -implicitDefEqProofs (disch := first | assumption | decide | omega) only [wkA, instrE, astepE, evE, evsE, evoE, evpE, elook, econs, eonly, putE, argE, pickE, resE, rsE, rE, Option.bind_some, Option.bind_none, Option.map_some, Option.map_none, ↓reduceIte, Nat.reduceEqDiff, Nat.reduceAdd, Nat.zero_add, Nat.add_zero, Nat.reduceLT, Nat.reduceLeDiff, Bool.false_eq_true, Bool.not_true]
  refine CallOk.pure (tokens9 h1 c1 k1 (by omega)).spec (impCs1 c1) ?_
  simp -failIfUnchanged -implicitDefEqProofs (disch := first | assumption | decide | omega) only [wkA, instrE, astepE, evE, evsE, evoE, evpE, elook, econs, eonly, putE, argE, pickE, resE, rsE, rE, Option.bind_some, Option.bind_none, Option.map_some, Option.map_none, ↓reduceIte, Nat.reduceEqDiff, Nat.reduceAdd, Nat.zero_add, Nat.add_zero, Nat.reduceLT, Nat.reduceLeDiff, Bool.false_eq_true]
  refine CallOk.pure (steps10 h2 c2 k2 (by omega)).spec (impCs1 c2) ?_
  simp -failIfUnchanged -implicitDefEqProofs (disch := first | assumption | decide | omega) only [wkA, instrE, astepE, evE, evsE, evoE, evpE, elook, econs, eonly, putE, argE, pickE, resE, rsE, rE, Option.bind_some, Option.bind_none, Option.map_some, Option.map_none, ↓reduceIte, Nat.reduceEqDiff, Nat.reduceAdd, Nat.zero_add, Nat.add_zero, Nat.reduceLT, Nat.reduceLeDiff, Bool.false_eq_true]
  refine CallOk.pure (ops11 h3 c3' k3 (by omega)).spec (impCs1 c3') ?_
  simp -failIfUnchanged -implicitDefEqProofs (disch := first | assumption | decide | omega) only [wkA, instrE, astepE, evE, evsE, evoE, evpE, elook, econs, eonly, putE, argE, pickE, resE, rsE, rE, Option.bind_some, Option.bind_none, Option.map_some, Option.map_none, ↓reduceIte, Nat.reduceEqDiff, Nat.reduceAdd, Nat.zero_add, Nat.add_zero, Nat.reduceLT, Nat.reduceLeDiff, Bool.false_eq_true, ab2s_bs]
  refine CallOk.pure (tokens12 v1 l h1 k1 (by omega)).spec (impCs1 c1) ?_
  simp -failIfUnchanged -implicitDefEqProofs (disch := first | assumption | decide | omega) only [wkA, instrE, astepE, evE, evsE, evoE, evpE, elook, econs, eonly, putE, argE, pickE, resE, rsE, rE, Option.bind_some, Option.bind_none, Option.map_some, Option.map_none, ↓reduceIte, Nat.reduceEqDiff, Nat.reduceAdd, Nat.zero_add, Nat.add_zero, Nat.reduceLT, Nat.reduceLeDiff, Bool.false_eq_true, ab2s_bs, abin_sne, str_same]
  refine CallOk.pure (steps13 v2 x h2 k2 (by omega)).spec (impCs1 c2) ?_
  simp -failIfUnchanged -implicitDefEqProofs (disch := first | assumption | decide | omega) only [wkA, instrE, astepE, evE, evsE, evoE, evpE, elook, econs, eonly, putE, argE, pickE, resE, rsE, rE, Option.bind_some, Option.bind_none, Option.map_some, Option.map_none, ↓reduceIte, Nat.reduceEqDiff, Nat.reduceAdd, Nat.zero_add, Nat.add_zero, Nat.reduceLT, Nat.reduceLeDiff, Bool.false_eq_true, ab2s_bs, abin_sne, str_same]
  refine CallOk.pure (ops14 v3 o h3 k3 (by omega)).spec (impCs1 c3') ?_
  simp -failIfUnchanged -implicitDefEqProofs (disch := first | assumption | decide | omega) only [wkA, instrE, astepE, evE, evsE, evoE, evpE, elook, econs, eonly, putE, argE, pickE, resE, rsE, rE, Option.bind_some, Option.bind_none, Option.map_some, Option.map_none, ↓reduceIte, Nat.reduceEqDiff, Nat.reduceAdd, Nat.zero_add, Nat.add_zero, Nat.reduceLT, Nat.reduceLeDiff, Bool.false_eq_true, ab2s_bs, abin_sne, str_same]
  have b1 := bytes_of (small_toks l) (by omega)
  have b2 := bytes_of (small_stps x) (by omega)
  have b3 := bytes_of (small_oprs o) (by omega)
  refine CallOk.pure (untokens15 b1) (impCs1 (bytes_clean b1)) ?_
  rw [unToks k1 (by omega)]
  have e0 : ∀ {α : Type} (av : α → AV) (w : Option (List α)), aext 0 (unpAV av (w, 0, 0)) = some (slcAV av w) := fun _ _ => rfl
  have e1 : ∀ {α : Type} (av : α → AV) (w : Option (List α)), aext 1 (unpAV av (w, 0, 0)) = some (i64 0) := fun _ _ => rfl
  have e2 : ∀ {α : Type} (av : α → AV) (w : Option (List α)), aext 2 (unpAV av (w, 0, 0)) = some (i64 0) := fun _ _ => rfl
  simp -failIfUnchanged -implicitDefEqProofs (disch := first | assumption | decide | omega) only [wkA, instrE, astepE, evE, evsE, evoE, evpE, elook, econs, eonly, putE, argE, pickE, resE, rsE, rE, Option.bind_some, Option.bind_none, Option.map_some, Option.map_none, ↓reduceIte, Nat.reduceEqDiff, Nat.reduceAdd, Nat.zero_add, Nat.add_zero, Nat.reduceLT, Nat.reduceLeDiff, Bool.false_eq_true, e0, e1, e2]
  refine CallOk.pure (unsteps16 b2) (impCs1 (bytes_clean b2)) ?_
  rw [unStps k2 (fun t ht => few_fits (hxf t ht)) (by omega)]
  simp -failIfUnchanged -implicitDefEqProofs (disch := first | assumption | decide | omega) only [wkA, instrE, astepE, evE, evsE, evoE, evpE, elook, econs, eonly, putE, argE, pickE, resE, rsE, rE, Option.bind_some, Option.bind_none, Option.map_some, Option.map_none, ↓reduceIte, Nat.reduceEqDiff, Nat.reduceAdd, Nat.zero_add, Nat.add_zero, Nat.reduceLT, Nat.reduceLeDiff, Bool.false_eq_true, e0, e1, e2]
  refine CallOk.pure (unops17 b3) (impCs1 (bytes_clean b3)) ?_
  rw [unOprs k3 (fun t ht => few_ofits (hof t ht)) (by omega)]
  have n0 : ((0 : Int) != 0) = false := rfl
  have n3 : (IntKind.i64.wrap (IntKind.i64.wrap (0 + 0) + 0) != 0) = false := by decide
  simp -failIfUnchanged -implicitDefEqProofs (disch := first | assumption | decide | omega) only [wkA, instrE, astepE, evE, evsE, evoE, evpE, elook, econs, eonly, putE, argE, pickE, resE, rsE, rE, Option.bind_some, Option.bind_none, Option.map_some, Option.map_none, ↓reduceIte, Nat.reduceEqDiff, Nat.reduceAdd, Nat.zero_add, Nat.add_zero, Nat.reduceLT, Nat.reduceLeDiff, Bool.false_eq_true, e0, e1, e2, n0, n3]
  refine CallOk.pure (same18 (slc_nz Tok.av l) h1 k1 (by omega)) (impCs_cons (slc_clean _ _ tok_cells_clean) (impCs1 c1)) ?_
  simp -failIfUnchanged -implicitDefEqProofs (disch := first | assumption | decide | omega) only [wkA, instrE, astepE, evE, evsE, evoE, evpE, elook, econs, eonly, putE, argE, pickE, resE, rsE, rE, Option.bind_some, Option.bind_none, Option.map_some, Option.map_none, ↓reduceIte, Nat.reduceEqDiff, Nat.reduceAdd, Nat.zero_add, Nat.add_zero, Nat.reduceLT, Nat.reduceLeDiff, Bool.false_eq_true]
  refine CallOk.pure (same19 (slc_nz Stp.av (x.map Stp.nrm)) h2 (by simp) (fun i a b ha hb => by
    simp only [List.getElem?_map, hb, Option.map_some, Option.some.injEq] at ha
    subst ha
    exact b.nrm_eqv) (fun t ht => by
    obtain ⟨y, hy, rfl⟩ := List.mem_map.1 ht
    exact nrm_ok (k2 y hy)) (fun t ht => by
    obtain ⟨y, hy, rfl⟩ := List.mem_map.1 ht
    exact nrm_fits (few_fits (hxf y hy))) (by simp; omega)) (impCs_cons (slc_clean _ _ stp_cells_clean) (impCs1 c2)) ?_
  simp -failIfUnchanged -implicitDefEqProofs (disch := first | assumption | decide | omega) only [wkA, instrE, astepE, evE, evsE, evoE, evpE, elook, econs, eonly, putE, argE, pickE, resE, rsE, rE, Option.bind_some, Option.bind_none, Option.map_some, Option.map_none, ↓reduceIte, Nat.reduceEqDiff, Nat.reduceAdd, Nat.zero_add, Nat.add_zero, Nat.reduceLT, Nat.reduceLeDiff, Bool.false_eq_true]
  refine CallOk.pure (same20 (slc_nz Opr.av (o.map Opr.nrm)) h3 (by simp) (fun i a b ha hb => by
    simp only [List.getElem?_map, hb, Option.map_some, Option.some.injEq] at ha
    subst ha
    exact b.nrm_eqv) (fun t ht => by
    obtain ⟨y, hy, rfl⟩ := List.mem_map.1 ht
    exact nrmo_ok (k3 y hy)) (fun t ht => by
    obtain ⟨y, hy, rfl⟩ := List.mem_map.1 ht
    exact nrmo_fits (few_ofits (hof y hy))) (by simp; omega)) (impCs_cons (slc_clean _ _ opr_cells_clean) (impCs1 c3')) ?_
  simp -failIfUnchanged -implicitDefEqProofs (disch := first | assumption | decide | omega) only [wkA, instrE, astepE, evE, evsE, evoE, evpE, elook, econs, eonly, putE, argE, pickE, resE, rsE, rE, Option.bind_some, Option.bind_none, Option.map_some, Option.map_none, ↓reduceIte, Nat.reduceEqDiff, Nat.reduceAdd, Nat.zero_add, Nat.add_zero, Nat.reduceLT, Nat.reduceLeDiff, Bool.false_eq_true]
  refine CallOk.pure live8 impCs_nil ?_
  simp -failIfUnchanged -implicitDefEqProofs (disch := first | assumption | decide | omega) only [wkA, instrE, astepE, evE, evsE, evoE, evpE, elook, econs, eonly, putE, argE, pickE, resE, rsE, rE, Option.bind_some, Option.bind_none, Option.map_some, Option.map_none, ↓reduceIte, Nat.reduceEqDiff, Nat.reduceAdd, Nat.zero_add, Nat.add_zero, Nat.reduceLT, Nat.reduceLeDiff, Bool.false_eq_true]
  exact impC_v _

end Go.Proofs.Ytllgfmijocgniaa
