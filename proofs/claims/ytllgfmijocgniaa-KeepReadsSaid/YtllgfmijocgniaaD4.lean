/- The writer's step and operation; what packs. -/
import Derived.Test.YtllgfmijocgniaaD3
set_option linter.unusedVariables false
set_option linter.unusedSimpArgs false
namespace Go.Proofs.Ytllgfmijocgniaa
open Go Go.Abs Go.RowKit

theorem tok_cs (t : Tok) (h : t.Ok) : ∃ cs, t.av = .agg cs ∧ cs.length = 12 ∧ cs.all AV.one = true := ⟨t.cs, rfl, by simp [Tok.cs, h.marks.1], by
  rw [List.all_eq_true]
  intro c hc
  simp only [Tok.cs, List.mem_cons, List.mem_map] at hc
  rcases hc with rfl | rfl | rfl | rfl | ⟨b, _, rfl⟩ <;> rfl⟩
theorem set_cs (m : List Int) (h : IsSet m) : ∃ cs, setAV m = .agg cs ∧ cs.length = 8 ∧ cs.all AV.one = true := ⟨_, rfl, by simp [h.1], set_one m⟩
theorem stp_cs (t : Stp) : ∃ cs, t.av = .agg cs ∧ cs.length = 10 ∧ cs.all AV.one = true := ⟨t.cs, rfl, rfl, stp_one t⟩
theorem opr_cs (t : Opr) : ∃ cs, t.av = .agg cs ∧ cs.length = 6 ∧ cs.all AV.one = true := ⟨t.cs, rfl, rfl, by
  simp only [Opr.cs, List.all_cons, List.all_nil, slc_one, one_v, Bool.and_self]⟩

theorem rowToks {v : AV} {l : List Tok} (hv : Slc v (l.map Tok.av)) (hok : ∀ t ∈ l, t.Ok) (hll : l.length < 140737488355328) : Writes 45 [v, .fn (.func 28) [] []] (encToks l) :=
  rowWrites R45 rfl Tok.av encTok hv (fun x hx => tok_cs x (hok x hx)) (fun x hx => token28 (hok x hx)) hll
theorem rowSets {v : AV} {l : List (List Int)} (hv : Slc v (l.map setAV)) (hok : ∀ t ∈ l, IsSet t) (hll : l.length < 140737488355328) : Writes 49 [v, .fn (.func 47) [] []] (encMany encSet l) :=
  rowWrites R49 rfl setAV encSet hv (fun x hx => set_cs x (hok x hx)) (fun x hx => marks47 (hok x hx)) hll

theorem many_len {α : Type} (f : α → List Nat) (l : List α) (h : ∀ x, 0 < (f x).length) : l.length < (encMany f l).length := by
  unfold encMany
  rw [List.length_append]
  have := flat_ge f l h
  have := encNum_pos l.length
  omega

theorem step30 {t : Stp} (ht : t.Ok) : Writes 30 [t.av] (encStp t) := by
  intro hp k pre K hW hfit hK
  refine fn_ok F30 ?_
  have hl : (enterS [.mp k 0, t.av] 40).length = 40 := rfl
  have h0 : (enterS [.mp k 0, t.av] 40)[0]? = some (.mp k 0) := rfl
  have h1 : (enterS [.mp k 0, t.av] 40)[1]? = some t.av := rfl
  show Tri _ s30.body _ ⟨enterS [.mp k 0, t.av] 40, hp⟩
  generalize enterS [.mp k 0, t.av] 40 = ts at *
  unfold s30
  dsimp only
  have hkl := wr_lt hW
  have e8 : encStp t = encNums t.ns ++ encToks (t.slice.getD []) ++ encMany encSet (t.sets.getD []) := rfl
  have hfit0 := hfit
  rw [e8] at hfit0
  simp only [List.length_append] at hfit0
  have m1 := many_len encTok (t.slice.getD []) encTok_pos
  have m2 := many_len encSet (t.sets.getD []) encSet_pos
  have e9 : encToks (t.slice.getD []) = encMany encTok (t.slice.getD []) := rfl
  rw [← e9] at m1
  refine Tri.mid (fun ts hp' => ts.length = 40 ∧ ts[0]? = some (.mp k 0) ∧ ts[3]? = some (.mp hp.length 0) ∧ hp'[hp.length]? = some (.cells t.cs false) ∧ Wr hp' k pre ∧ WRel hp hp' k) (tri_region mixed ?_) ?_
  · simp -failIfUnchanged -implicitDefEqProofs (disch := first | assumption | decide | (simp -failIfUnchanged only [List.length_set]; omega)) only [srun_nil, srun_mv, srun_op, srun_call, srun_callv, srun_pcall, callF_fn, thenE_normal, thenE_exit, thenE_ret, inBlk_normal, inBlk_same, inBlk_ret, astep_len, lenStep_sl, absl_2, absl_3, absl_4, absl_8, afa_fp, afa_mp, Nat.zero_add, Nat.add_zero, Nat.reduceAdd, astep_mv, astep_alloc, astep_box, astep_build, astep_bsl, astep_ld, astep_st, astep_nilc, astep_bin, astep_un, astep_cv, astep_fa, astep_ia, astep_aa, astep_fld, astep_idx, astep_chr, astep_ext, astep_app, astep_eqb, astep_mkf, anil_mp, anil_fp, ev, Option.getD_some, aput, get_set_eq, get_set_ne, acv_int, abin_add, abin_sub, abin_mul, abin_eql, abin_neq, abin_lss, abin_leq, abin_gtr, abin_geq, abin_quo, abin_rem, Option.map_some, List.length_set, withV_some, absl_one, List.map, hl, h0, h1]
    exact ⟨trivial, trivial, trivial, trivial, by simp [Stp.av, AV.cells], wr_ext hW, WRel.ext _ _ _⟩
  clear hl h0 h1 ts
  rintro ts hp' ⟨hl, h0, h3, hj, hW', hR⟩
  have hne : hp.length ≠ k := by omega
  generalize hp.length = j at *
  have hld : ∀ (o : Nat) (hp : List Blk) (c : AV), t.cs[o]? = some c → hp[j]? = some (.cells t.cs false) → aload hp false 1 (.mp j o) = some c := fun o hp c ho hk => aload_mp hk ho
  refine Tri.mid (fun ts hp2 => ts.length = 40 ∧ ts[0]? = some (.mp k 0) ∧ ts[3]? = some (.mp j 0) ∧ hp2[j]? = some (.cells t.cs false) ∧ Wr hp2 k (pre ++ encNums t.ns) ∧ WRel hp hp2 k) ?_ ?_
  · refine Tri.mid (fun ts hp2 => hp2 = hp' ∧ ts.length = 40 ∧ ts[0]? = some (.mp k 0) ∧ ts[3]? = some (.mp j 0) ∧ ts[22]? = some (.sl (t.ns.map i64) .exact) ∧ ts[23]? = some (i64 8) ∧ ts[24]? = some (i64 0)) (tri_region mixed ?_) ?_
    · simp -failIfUnchanged -implicitDefEqProofs (disch := first | assumption | decide | (simp -failIfUnchanged only [List.length_set]; omega)) only [srun_nil, srun_mv, srun_op, srun_call, srun_callv, srun_pcall, callF_fn, thenE_normal, thenE_exit, thenE_ret, inBlk_normal, inBlk_same, inBlk_ret, astep_len, lenStep_sl, absl_2, absl_3, absl_4, absl_8, afa_fp, afa_mp, Nat.zero_add, Nat.add_zero, Nat.reduceAdd, astep_mv, astep_alloc, astep_box, astep_build, astep_bsl, astep_ld, astep_st, astep_nilc, astep_bin, astep_un, astep_cv, astep_fa, astep_ia, astep_aa, astep_fld, astep_idx, astep_chr, astep_ext, astep_app, astep_eqb, astep_mkf, anil_mp, anil_fp, ev, Option.getD_some, aput, get_set_eq, get_set_ne, acv_int, abin_add, abin_sub, abin_mul, abin_eql, abin_neq, abin_lss, abin_leq, abin_gtr, abin_geq, abin_quo, abin_rem, Option.map_some, List.length_set, withV_some, absl_one, List.map, hl, h0, h3, hld 0 _ _ rfl hj, hld 1 _ _ rfl hj, hld 2 _ _ rfl hj, hld 3 _ _ rfl hj, hld 4 _ _ rfl hj, hld 5 _ _ rfl hj, hld 6 _ _ rfl hj, hld 7 _ _ rfl hj, goInt]
      exact ⟨trivial, trivial, trivial, trivial, trivial, rfl, rfl, trivial⟩
    clear hl h0 h3 ts
    rintro ts hp2 ⟨rfl, hl, h0, h3, h15, h16, h17⟩
    exact numLoop (o := 22) (N := 40) (l := t.ns) (by decide) (by decide) hl h0 h3 h15 h16 h17 ht.ns (by simp [Stp.ns]) hW' (by rw [List.length_append]; omega)
      fun ts' hp3 a b c d e => ⟨rfl, a, b, c, e.cells _ _ _ hne hj, d, hR.trans e⟩
  clear hl h0 h3 ts hj hW' hR
  rintro ts hp2 ⟨hl, h0, h3, hj, hW, hR⟩
  refine Tri.mid (fun ts hp2 => ts.length = 40 ∧ ts[0]? = some (.mp k 0) ∧ ts[3]? = some (.mp j 0) ∧ hp2[j]? = some (.cells t.cs false) ∧ Wr hp2 k (pre ++ encNums t.ns ++ encToks (t.slice.getD [])) ∧ WRel hp hp2 k) (tri_region mixed ?_) ?_
  · simp -failIfUnchanged -implicitDefEqProofs (disch := first | assumption | decide | (simp -failIfUnchanged only [List.length_set]; omega)) only [srun_nil, srun_mv, srun_op, srun_call, srun_callv, srun_pcall, callF_fn, thenE_normal, thenE_exit, thenE_ret, inBlk_normal, inBlk_same, inBlk_ret, astep_len, lenStep_sl, absl_2, absl_3, absl_4, absl_8, afa_fp, afa_mp, Nat.zero_add, Nat.add_zero, Nat.reduceAdd, astep_mv, astep_alloc, astep_box, astep_build, astep_bsl, astep_ld, astep_st, astep_nilc, astep_bin, astep_un, astep_cv, astep_fa, astep_ia, astep_aa, astep_fld, astep_idx, astep_chr, astep_ext, astep_app, astep_eqb, astep_mkf, anil_mp, anil_fp, ev, Option.getD_some, aput, get_set_eq, get_set_ne, acv_int, abin_add, abin_sub, abin_mul, abin_eql, abin_neq, abin_lss, abin_leq, abin_gtr, abin_geq, abin_quo, abin_rem, Option.map_some, List.length_set, withV_some, absl_one, List.map, hl, h0, h3, hld 8 _ _ rfl hj]
    refine rowToks (slc_slc Tok.av t.slice) ht.slice (by omega) _ _ _ _ hW (by simp only [List.length_append]; omega) fun hp6 hW6 hR6 => ?_
    simp -failIfUnchanged -implicitDefEqProofs (disch := first | assumption | decide | (simp -failIfUnchanged only [List.length_set]; omega)) only [srun_nil, srun_mv, srun_op, srun_call, srun_callv, srun_pcall, callF_fn, thenE_normal, thenE_exit, thenE_ret, inBlk_normal, inBlk_same, inBlk_ret, astep_len, lenStep_sl, absl_2, absl_3, absl_4, absl_8, afa_fp, afa_mp, Nat.zero_add, Nat.add_zero, Nat.reduceAdd, astep_mv, astep_alloc, astep_box, astep_build, astep_bsl, astep_ld, astep_st, astep_nilc, astep_bin, astep_un, astep_cv, astep_fa, astep_ia, astep_aa, astep_fld, astep_idx, astep_chr, astep_ext, astep_app, astep_eqb, astep_mkf, anil_mp, anil_fp, ev, Option.getD_some, aput, get_set_eq, get_set_ne, acv_int, abin_add, abin_sub, abin_mul, abin_eql, abin_neq, abin_lss, abin_leq, abin_gtr, abin_geq, abin_quo, abin_rem, Option.map_some, List.length_set, withV_some, absl_one, List.map, hl, h0, h3]
    exact ⟨trivial, trivial, trivial, trivial, hR6.cells _ _ _ hne hj, hW6, hR.trans hR6⟩
  clear hl h0 h3 ts hj hW hR
  rintro ts hp2 ⟨hl, h0, h3, hj, hW, hR⟩
  refine tri_region mixed ?_
  simp -failIfUnchanged -implicitDefEqProofs (disch := first | assumption | decide | (simp -failIfUnchanged only [List.length_set]; omega)) only [srun_nil, srun_mv, srun_op, srun_call, srun_callv, srun_pcall, callF_fn, thenE_normal, thenE_exit, thenE_ret, inBlk_normal, inBlk_same, inBlk_ret, astep_len, lenStep_sl, absl_2, absl_3, absl_4, absl_8, afa_fp, afa_mp, Nat.zero_add, Nat.add_zero, Nat.reduceAdd, astep_mv, astep_alloc, astep_box, astep_build, astep_bsl, astep_ld, astep_st, astep_nilc, astep_bin, astep_un, astep_cv, astep_fa, astep_ia, astep_aa, astep_fld, astep_idx, astep_chr, astep_ext, astep_app, astep_eqb, astep_mkf, anil_mp, anil_fp, ev, Option.getD_some, aput, get_set_eq, get_set_ne, acv_int, abin_add, abin_sub, abin_mul, abin_eql, abin_neq, abin_lss, abin_leq, abin_gtr, abin_geq, abin_quo, abin_rem, Option.map_some, List.length_set, withV_some, absl_one, List.map, hl, h0, h3, hld 9 _ _ rfl hj]
  refine rowSets (slc_slc setAV t.sets) ht.sets (by omega) _ _ _ _ hW (by simp only [List.length_append]; omega) fun hp6 hW6 hR6 => ?_
  simp -failIfUnchanged -implicitDefEqProofs (disch := first | assumption | decide | (simp -failIfUnchanged only [List.length_set]; omega)) only [srun_nil, srun_mv, srun_op, srun_call, srun_callv, srun_pcall, callF_fn, thenE_normal, thenE_exit, thenE_ret, inBlk_normal, inBlk_same, inBlk_ret, astep_len, lenStep_sl, absl_2, absl_3, absl_4, absl_8, afa_fp, afa_mp, Nat.zero_add, Nat.add_zero, Nat.reduceAdd, astep_mv, astep_alloc, astep_box, astep_build, astep_bsl, astep_ld, astep_st, astep_nilc, astep_bin, astep_un, astep_cv, astep_fa, astep_ia, astep_aa, astep_fld, astep_idx, astep_chr, astep_ext, astep_app, astep_eqb, astep_mkf, anil_mp, anil_fp, ev, Option.getD_some, aput, get_set_eq, get_set_ne, acv_int, abin_add, abin_sub, abin_mul, abin_eql, abin_neq, abin_lss, abin_leq, abin_gtr, abin_geq, abin_quo, abin_rem, Option.map_some, List.length_set, withV_some, absl_one, List.map]
  rw [List.append_assoc, List.append_assoc, ← List.append_assoc (encNums t.ns), ← e8] at hW6
  exact ⟨Or.inl trivial, _, resV_nil _, hK _ hW6 (hR.trans hR6)⟩

theorem rowStps {v : AV} {l : List Stp} (hv : Slc v (l.map Stp.av)) (hok : ∀ t ∈ l, t.Ok) (hll : l.length < 140737488355328) : Writes 48 [v, .fn (.func 30) [] []] (encStps l) :=
  rowWrites R48 rfl Stp.av encStp hv (fun x hx => stp_cs x) (fun x hx => step30 (hok x hx)) hll

theorem op32 {t : Opr} (ht : t.Ok) : Writes 32 [t.av] (encOpr t) := by
  intro hp k pre K hW hfit hK
  refine fn_ok F32 ?_
  have hl : (enterS [.mp k 0, t.av] 37).length = 37 := rfl
  have h0 : (enterS [.mp k 0, t.av] 37)[0]? = some (.mp k 0) := rfl
  have h1 : (enterS [.mp k 0, t.av] 37)[1]? = some t.av := rfl
  show Tri _ s32.body _ ⟨enterS [.mp k 0, t.av] 37, hp⟩
  generalize enterS [.mp k 0, t.av] 37 = ts at *
  unfold s32
  dsimp only
  have hkl := wr_lt hW
  have e7 : encNums [t.kind, t.time] = encNum t.kind ++ encNum t.time := by simp [encNums]
  have e8 : encOpr t = encNums [t.kind, t.time] ++ encStps (t.steps.getD []) ++ encNums [t.sel, t.anchor, t.head] := rfl
  rw [e7] at e8
  have hfit0 := hfit
  rw [e8] at hfit0
  simp only [List.length_append] at hfit0
  have m1 : (t.steps.getD []).length < (encStps (t.steps.getD [])).length := many_len encStp (t.steps.getD []) encStp_pos
  refine Tri.mid (fun ts hp' => ts.length = 37 ∧ ts[0]? = some (.mp k 0) ∧ ts[3]? = some (.mp hp.length 0) ∧ hp'[hp.length]? = some (.cells t.cs false) ∧ Wr hp' k pre ∧ WRel hp hp' k) (tri_region mixed ?_) ?_
  · simp -failIfUnchanged -implicitDefEqProofs (disch := first | assumption | decide | (simp -failIfUnchanged only [List.length_set]; omega)) only [srun_nil, srun_mv, srun_op, srun_call, srun_callv, srun_pcall, callF_fn, thenE_normal, thenE_exit, thenE_ret, inBlk_normal, inBlk_same, inBlk_ret, astep_len, lenStep_sl, absl_2, absl_3, absl_4, absl_8, afa_fp, afa_mp, Nat.zero_add, Nat.add_zero, Nat.reduceAdd, astep_mv, astep_alloc, astep_box, astep_build, astep_bsl, astep_ld, astep_st, astep_nilc, astep_bin, astep_un, astep_cv, astep_fa, astep_ia, astep_aa, astep_fld, astep_idx, astep_chr, astep_ext, astep_app, astep_eqb, astep_mkf, anil_mp, anil_fp, ev, Option.getD_some, aput, get_set_eq, get_set_ne, acv_int, abin_add, abin_sub, abin_mul, abin_eql, abin_neq, abin_lss, abin_leq, abin_gtr, abin_geq, abin_quo, abin_rem, Option.map_some, List.length_set, withV_some, absl_one, List.map, hl, h0, h1]
    exact ⟨trivial, trivial, trivial, trivial, by simp [Opr.av, AV.cells], wr_ext hW, WRel.ext _ _ _⟩
  clear hl h0 h1 ts
  rintro ts hp' ⟨hl, h0, h3, hj, hW', hR⟩
  have hne : hp.length ≠ k := by omega
  generalize hp.length = j at *
  have hld : ∀ (o : Nat) (hp : List Blk) (c : AV), t.cs[o]? = some c → hp[j]? = some (.cells t.cs false) → aload hp false 1 (.mp j o) = some c := fun o hp c ho hk => aload_mp hk ho
  refine Tri.mid (fun ts hp2 => ts.length = 37 ∧ ts[0]? = some (.mp k 0) ∧ ts[3]? = some (.mp j 0) ∧ hp2[j]? = some (.cells t.cs false) ∧ Wr hp2 k (pre ++ encNum t.kind) ∧ WRel hp hp2 k) (tri_region mixed ?_) ?_
  · simp -failIfUnchanged -implicitDefEqProofs (disch := first | assumption | decide | (simp -failIfUnchanged only [List.length_set]; omega)) only [srun_nil, srun_mv, srun_op, srun_call, srun_callv, srun_pcall, callF_fn, thenE_normal, thenE_exit, thenE_ret, inBlk_normal, inBlk_same, inBlk_ret, astep_len, lenStep_sl, absl_2, absl_3, absl_4, absl_8, afa_fp, afa_mp, Nat.zero_add, Nat.add_zero, Nat.reduceAdd, astep_mv, astep_alloc, astep_box, astep_build, astep_bsl, astep_ld, astep_st, astep_nilc, astep_bin, astep_un, astep_cv, astep_fa, astep_ia, astep_aa, astep_fld, astep_idx, astep_chr, astep_ext, astep_app, astep_eqb, astep_mkf, anil_mp, anil_fp, ev, Option.getD_some, aput, get_set_eq, get_set_ne, acv_int, abin_add, abin_sub, abin_mul, abin_eql, abin_neq, abin_lss, abin_leq, abin_gtr, abin_geq, abin_quo, abin_rem, Option.map_some, List.length_set, withV_some, absl_one, List.map, hl, h0, h3, hld 0 _ _ rfl hj]
    refine num46 ht.kind _ _ _ _ hW' (by simp only [List.length_append]; omega) fun hp6 hW6 hR6 => ?_
    simp -failIfUnchanged -implicitDefEqProofs (disch := first | assumption | decide | (simp -failIfUnchanged only [List.length_set]; omega)) only [srun_nil, srun_mv, srun_op, srun_call, srun_callv, srun_pcall, callF_fn, thenE_normal, thenE_exit, thenE_ret, inBlk_normal, inBlk_same, inBlk_ret, astep_len, lenStep_sl, absl_2, absl_3, absl_4, absl_8, afa_fp, afa_mp, Nat.zero_add, Nat.add_zero, Nat.reduceAdd, astep_mv, astep_alloc, astep_box, astep_build, astep_bsl, astep_ld, astep_st, astep_nilc, astep_bin, astep_un, astep_cv, astep_fa, astep_ia, astep_aa, astep_fld, astep_idx, astep_chr, astep_ext, astep_app, astep_eqb, astep_mkf, anil_mp, anil_fp, ev, Option.getD_some, aput, get_set_eq, get_set_ne, acv_int, abin_add, abin_sub, abin_mul, abin_eql, abin_neq, abin_lss, abin_leq, abin_gtr, abin_geq, abin_quo, abin_rem, Option.map_some, List.length_set, withV_some, absl_one, List.map, hl, h0, h3]
    exact ⟨trivial, trivial, trivial, trivial, hR6.cells _ _ _ hne hj, hW6, hR.trans hR6⟩
  clear hl h0 h3 ts hj hW' hR
  rintro ts hp2 ⟨hl, h0, h3, hj, hW, hR⟩
  refine Tri.mid (fun ts hp2 => ts.length = 37 ∧ ts[0]? = some (.mp k 0) ∧ ts[3]? = some (.mp j 0) ∧ hp2[j]? = some (.cells t.cs false) ∧ Wr hp2 k (pre ++ encNum t.kind ++ encNum t.time) ∧ WRel hp hp2 k) (tri_region mixed ?_) ?_
  · simp -failIfUnchanged -implicitDefEqProofs (disch := first | assumption | decide | (simp -failIfUnchanged only [List.length_set]; omega)) only [srun_nil, srun_mv, srun_op, srun_call, srun_callv, srun_pcall, callF_fn, thenE_normal, thenE_exit, thenE_ret, inBlk_normal, inBlk_same, inBlk_ret, astep_len, lenStep_sl, absl_2, absl_3, absl_4, absl_8, afa_fp, afa_mp, Nat.zero_add, Nat.add_zero, Nat.reduceAdd, astep_mv, astep_alloc, astep_box, astep_build, astep_bsl, astep_ld, astep_st, astep_nilc, astep_bin, astep_un, astep_cv, astep_fa, astep_ia, astep_aa, astep_fld, astep_idx, astep_chr, astep_ext, astep_app, astep_eqb, astep_mkf, anil_mp, anil_fp, ev, Option.getD_some, aput, get_set_eq, get_set_ne, acv_int, abin_add, abin_sub, abin_mul, abin_eql, abin_neq, abin_lss, abin_leq, abin_gtr, abin_geq, abin_quo, abin_rem, Option.map_some, List.length_set, withV_some, absl_one, List.map, hl, h0, h3, hld 1 _ _ rfl hj]
    refine num46 ht.time _ _ _ _ hW (by simp only [List.length_append]; omega) fun hp6 hW6 hR6 => ?_
    simp -failIfUnchanged -implicitDefEqProofs (disch := first | assumption | decide | (simp -failIfUnchanged only [List.length_set]; omega)) only [srun_nil, srun_mv, srun_op, srun_call, srun_callv, srun_pcall, callF_fn, thenE_normal, thenE_exit, thenE_ret, inBlk_normal, inBlk_same, inBlk_ret, astep_len, lenStep_sl, absl_2, absl_3, absl_4, absl_8, afa_fp, afa_mp, Nat.zero_add, Nat.add_zero, Nat.reduceAdd, astep_mv, astep_alloc, astep_box, astep_build, astep_bsl, astep_ld, astep_st, astep_nilc, astep_bin, astep_un, astep_cv, astep_fa, astep_ia, astep_aa, astep_fld, astep_idx, astep_chr, astep_ext, astep_app, astep_eqb, astep_mkf, anil_mp, anil_fp, ev, Option.getD_some, aput, get_set_eq, get_set_ne, acv_int, abin_add, abin_sub, abin_mul, abin_eql, abin_neq, abin_lss, abin_leq, abin_gtr, abin_geq, abin_quo, abin_rem, Option.map_some, List.length_set, withV_some, absl_one, List.map, hl, h0, h3]
    exact ⟨trivial, trivial, trivial, trivial, hR6.cells _ _ _ hne hj, hW6, hR.trans hR6⟩
  clear hl h0 h3 ts hj hW hR
  rintro ts hp2 ⟨hl, h0, h3, hj, hW, hR⟩
  refine Tri.mid (fun ts hp2 => ts.length = 37 ∧ ts[0]? = some (.mp k 0) ∧ ts[3]? = some (.mp j 0) ∧ hp2[j]? = some (.cells t.cs false) ∧ Wr hp2 k (pre ++ encNum t.kind ++ encNum t.time ++ encStps (t.steps.getD [])) ∧ WRel hp hp2 k) (tri_region mixed ?_) ?_
  · simp -failIfUnchanged -implicitDefEqProofs (disch := first | assumption | decide | (simp -failIfUnchanged only [List.length_set]; omega)) only [srun_nil, srun_mv, srun_op, srun_call, srun_callv, srun_pcall, callF_fn, thenE_normal, thenE_exit, thenE_ret, inBlk_normal, inBlk_same, inBlk_ret, astep_len, lenStep_sl, absl_2, absl_3, absl_4, absl_8, afa_fp, afa_mp, Nat.zero_add, Nat.add_zero, Nat.reduceAdd, astep_mv, astep_alloc, astep_box, astep_build, astep_bsl, astep_ld, astep_st, astep_nilc, astep_bin, astep_un, astep_cv, astep_fa, astep_ia, astep_aa, astep_fld, astep_idx, astep_chr, astep_ext, astep_app, astep_eqb, astep_mkf, anil_mp, anil_fp, ev, Option.getD_some, aput, get_set_eq, get_set_ne, acv_int, abin_add, abin_sub, abin_mul, abin_eql, abin_neq, abin_lss, abin_leq, abin_gtr, abin_geq, abin_quo, abin_rem, Option.map_some, List.length_set, withV_some, absl_one, List.map, hl, h0, h3, hld 2 _ _ rfl hj]
    refine rowStps (slc_slc Stp.av t.steps) ht.steps (by omega) _ _ _ _ hW (by simp only [List.length_append]; omega) fun hp6 hW6 hR6 => ?_
    simp -failIfUnchanged -implicitDefEqProofs (disch := first | assumption | decide | (simp -failIfUnchanged only [List.length_set]; omega)) only [srun_nil, srun_mv, srun_op, srun_call, srun_callv, srun_pcall, callF_fn, thenE_normal, thenE_exit, thenE_ret, inBlk_normal, inBlk_same, inBlk_ret, astep_len, lenStep_sl, absl_2, absl_3, absl_4, absl_8, afa_fp, afa_mp, Nat.zero_add, Nat.add_zero, Nat.reduceAdd, astep_mv, astep_alloc, astep_box, astep_build, astep_bsl, astep_ld, astep_st, astep_nilc, astep_bin, astep_un, astep_cv, astep_fa, astep_ia, astep_aa, astep_fld, astep_idx, astep_chr, astep_ext, astep_app, astep_eqb, astep_mkf, anil_mp, anil_fp, ev, Option.getD_some, aput, get_set_eq, get_set_ne, acv_int, abin_add, abin_sub, abin_mul, abin_eql, abin_neq, abin_lss, abin_leq, abin_gtr, abin_geq, abin_quo, abin_rem, Option.map_some, List.length_set, withV_some, absl_one, List.map, hl, h0, h3]
    exact ⟨trivial, trivial, trivial, trivial, hR6.cells _ _ _ hne hj, hW6, hR.trans hR6⟩
  clear hl h0 h3 ts hj hW hR
  rintro ts hp2 ⟨hl, h0, h3, hj, hW, hR⟩
  refine Tri.mid (fun ts hp3 => hp3 = hp2 ∧ ts.length = 37 ∧ ts[0]? = some (.mp k 0) ∧ ts[3]? = some (.mp j 0) ∧ ts[27]? = some (.sl ([t.sel, t.anchor, t.head].map i64) .exact) ∧ ts[28]? = some (i64 3) ∧ ts[29]? = some (i64 0)) (tri_region mixed ?_) ?_
  · simp -failIfUnchanged -implicitDefEqProofs (disch := first | assumption | decide | (simp -failIfUnchanged only [List.length_set]; omega)) only [srun_nil, srun_mv, srun_op, srun_call, srun_callv, srun_pcall, callF_fn, thenE_normal, thenE_exit, thenE_ret, inBlk_normal, inBlk_same, inBlk_ret, astep_len, lenStep_sl, absl_2, absl_3, absl_4, absl_8, afa_fp, afa_mp, Nat.zero_add, Nat.add_zero, Nat.reduceAdd, astep_mv, astep_alloc, astep_box, astep_build, astep_bsl, astep_ld, astep_st, astep_nilc, astep_bin, astep_un, astep_cv, astep_fa, astep_ia, astep_aa, astep_fld, astep_idx, astep_chr, astep_ext, astep_app, astep_eqb, astep_mkf, anil_mp, anil_fp, ev, Option.getD_some, aput, get_set_eq, get_set_ne, acv_int, abin_add, abin_sub, abin_mul, abin_eql, abin_neq, abin_lss, abin_leq, abin_gtr, abin_geq, abin_quo, abin_rem, Option.map_some, List.length_set, withV_some, absl_one, List.map, hl, h0, h3, hld 3 _ _ rfl hj, hld 4 _ _ rfl hj, hld 5 _ _ rfl hj, goInt]
    exact ⟨trivial, trivial, trivial, trivial, trivial, trivial, rfl, trivial⟩
  clear hl h0 h3 ts
  rintro ts hp3 ⟨rfl, hl, h0, h3, h15, h16, h17⟩
  refine numLoop (o := 27) (N := 37) (l := [t.sel, t.anchor, t.head]) (by decide) (by decide) hl h0 h3 h15 h16 h17 (by simp; exact ⟨ht.sel, ht.anchor, ht.head⟩) (by simp) hW (by simp only [List.length_append]; omega)
      fun ts' hp3 a b c d e => ⟨Or.inl rfl, _, resV_nil _, hK _ ?_ (hR.trans e)⟩
  rw [e8]
  simpa only [List.append_assoc] using d

theorem rowOprs {v : AV} {l : List Opr} (hv : Slc v (l.map Opr.av)) (hok : ∀ t ∈ l, t.Ok) (hll : l.length < 140737488355328) : Writes 50 [v, .fn (.func 32) [] []] (encOprs l) :=
  rowWrites R50 rfl Opr.av encOpr hv (fun x hx => opr_cs x) (fun x hx => op32 (hok x hx)) hll

def outerFn (pn g : FuncId) : SFn := ⟨5, [.s 2], .seq (.region [⟨some 2, none, .op (.mv (.c .nsl))⟩]) (.seq (.region [⟨some 3, none, .op (.mv (.t 0))⟩, ⟨some 4, none, .call pn [.t 3, .c (.fn (.func g) [] [])]⟩, ⟨some 2, none, .op (.mv (.t 4))⟩]) .ret)⟩
theorem O9 : slimFn Try.prog pu 9 = some (outerFn 27 28) := F9
theorem O10 : slimFn Try.prog pu 10 = some (outerFn 29 30) := F10
theorem O11 : slimFn Try.prog pu 11 = some (outerFn 31 32) := F11

theorem outerOwn {f pn g : FuncId} (F : slimFn Try.prog pu f = some (outerFn pn g)) {v : AV} {e : List Nat} (hv : Abs.Clean v) (h : PureOwn Try.prog pn [v, .fn (.func g) [] []] (bs e) 1) : PureOwn Try.prog f [v] (bs e) 1 := by
  refine pureOwn_of (bs_clean _) (fn_ok F ?_)
  have hl : (enterS [v] 5).length = 5 := rfl
  have h0 : (enterS [v] 5)[0]? = some v := rfl
  show Tri _ (outerFn pn g).body _ ⟨enterS [v] 5, []⟩
  generalize enterS [v] 5 = ts at *
  unfold outerFn
  dsimp only
  refine Tri.seq (tri_region mixed ?_)
  simp -failIfUnchanged -implicitDefEqProofs (disch := first | assumption | decide | (simp -failIfUnchanged only [List.length_set]; omega)) only [srun_nil, srun_mv, srun_op, srun_call, srun_callv, srun_pcall, callF_fn, thenE_normal, thenE_exit, thenE_ret, inBlk_normal, inBlk_same, inBlk_ret, astep_len, lenStep_sl, absl_2, absl_3, absl_4, absl_8, afa_fp, afa_mp, Nat.zero_add, Nat.add_zero, Nat.reduceAdd, astep_mv, astep_alloc, astep_box, astep_build, astep_bsl, astep_ld, astep_st, astep_nilc, astep_bin, astep_un, astep_cv, astep_fa, astep_ia, astep_aa, astep_fld, astep_idx, astep_chr, astep_ext, astep_app, astep_eqb, astep_mkf, anil_mp, anil_fp, ev, Option.getD_some, aput, get_set_eq, get_set_ne, acv_int, abin_add, abin_sub, abin_mul, abin_eql, abin_neq, abin_lss, abin_leq, abin_gtr, abin_geq, abin_quo, abin_rem, Option.map_some, List.length_set, withV_some, absl_one, List.map, hl]
  refine Tri.seq (tri_region mixed ?_)
  simp -failIfUnchanged -implicitDefEqProofs (disch := first | assumption | decide | (simp -failIfUnchanged only [List.length_set]; omega)) only [srun_nil, srun_mv, srun_op, srun_call, srun_callv, srun_pcall, callF_fn, thenE_normal, thenE_exit, thenE_ret, inBlk_normal, inBlk_same, inBlk_ret, astep_len, lenStep_sl, absl_2, absl_3, absl_4, absl_8, afa_fp, afa_mp, Nat.zero_add, Nat.add_zero, Nat.reduceAdd, astep_mv, astep_alloc, astep_box, astep_build, astep_bsl, astep_ld, astep_st, astep_nilc, astep_bin, astep_un, astep_cv, astep_fa, astep_ia, astep_aa, astep_fld, astep_idx, astep_chr, astep_ext, astep_app, astep_eqb, astep_mkf, anil_mp, anil_fp, ev, Option.getD_some, aput, get_set_eq, get_set_ne, acv_int, abin_add, abin_sub, abin_mul, abin_eql, abin_neq, abin_lss, abin_leq, abin_gtr, abin_geq, abin_quo, abin_rem, Option.map_some, List.length_set, withV_some, absl_one, List.map, hl, h0]
  refine call_own h (impCs_cons hv (impCs1 (clean_fn _))) fun id hp' ehp hA => ?_
  simp -failIfUnchanged -implicitDefEqProofs (disch := first | assumption | decide | (simp -failIfUnchanged only [List.length_set]; omega)) only [srun_nil, srun_mv, srun_op, srun_call, srun_callv, srun_pcall, callF_fn, thenE_normal, thenE_exit, thenE_ret, inBlk_normal, inBlk_same, inBlk_ret, astep_len, lenStep_sl, absl_2, absl_3, absl_4, absl_8, afa_fp, afa_mp, Nat.zero_add, Nat.add_zero, Nat.reduceAdd, astep_mv, astep_alloc, astep_box, astep_build, astep_bsl, astep_ld, astep_st, astep_nilc, astep_bin, astep_un, astep_cv, astep_fa, astep_ia, astep_aa, astep_fld, astep_idx, astep_chr, astep_ext, astep_app, astep_eqb, astep_mkf, anil_mp, anil_fp, ev, Option.getD_some, aput, get_set_eq, get_set_ne, acv_int, abin_add, abin_sub, abin_mul, abin_eql, abin_neq, abin_lss, abin_leq, abin_gtr, abin_geq, abin_quo, abin_rem, Option.map_some, List.length_set, withV_some, absl_one, List.map, hl]
  exact Tri.ret ⟨Or.inr rfl, _, resV_s (by simp -failIfUnchanged -implicitDefEqProofs (disch := first | assumption | decide | (simp -failIfUnchanged only [List.length_set]; omega)) only [srun_nil, srun_mv, srun_op, srun_call, srun_callv, srun_pcall, callF_fn, thenE_normal, thenE_exit, thenE_ret, inBlk_normal, inBlk_same, inBlk_ret, astep_len, lenStep_sl, absl_2, absl_3, absl_4, absl_8, afa_fp, afa_mp, Nat.zero_add, Nat.add_zero, Nat.reduceAdd, astep_mv, astep_alloc, astep_box, astep_build, astep_bsl, astep_ld, astep_st, astep_nilc, astep_bin, astep_un, astep_cv, astep_fa, astep_ia, astep_aa, astep_fld, astep_idx, astep_chr, astep_ext, astep_app, astep_eqb, astep_mkf, anil_mp, anil_fp, ev, Option.getD_some, aput, get_set_eq, get_set_ne, acv_int, abin_add, abin_sub, abin_mul, abin_eql, abin_neq, abin_lss, abin_leq, abin_gtr, abin_geq, abin_quo, abin_rem, Option.map_some, List.length_set, withV_some, absl_one, List.map, hl]), id, rfl, hA.at⟩

theorem tokens9 {v : AV} {l : List Tok} (hv : Slc v (l.map Tok.av)) (hc : Abs.Clean v) (hok : ∀ t ∈ l, t.Ok) (hfit : (encToks l).length ≤ 140737488355328) : PureOwn Try.prog 9 [v] (bs (encToks l)) 1 :=
  outerOwn O9 hc (packOwn P27 (rowToks hv hok (Nat.lt_of_lt_of_le (many_len encTok l encTok_pos) hfit)) (encMany_pos _ _) hfit)
theorem steps10 {v : AV} {l : List Stp} (hv : Slc v (l.map Stp.av)) (hc : Abs.Clean v) (hok : ∀ t ∈ l, t.Ok) (hfit : (encStps l).length ≤ 140737488355328) : PureOwn Try.prog 10 [v] (bs (encStps l)) 1 :=
  outerOwn O10 hc (packOwn P29 (rowStps hv hok (Nat.lt_of_lt_of_le (many_len encStp l encStp_pos) hfit)) (encMany_pos _ _) hfit)
theorem ops11 {v : AV} {l : List Opr} (hv : Slc v (l.map Opr.av)) (hc : Abs.Clean v) (hok : ∀ t ∈ l, t.Ok) (hfit : (encOprs l).length ≤ 140737488355328) : PureOwn Try.prog 11 [v] (bs (encOprs l)) 1 :=
  outerOwn O11 hc (packOwn P31 (rowOprs hv hok (Nat.lt_of_lt_of_le (many_len encOpr l encOpr_pos) hfit)) (encMany_pos _ _) hfit)

end Go.Proofs.Ytllgfmijocgniaa
