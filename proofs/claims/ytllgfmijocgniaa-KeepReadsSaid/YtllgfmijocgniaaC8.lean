/- The bytes of operations, by the reference. -/
import Derived.Test.YtllgfmijocgniaaC7
set_option linter.unusedVariables false
set_option linter.unusedSimpArgs false
namespace Go.Proofs.Ytllgfmijocgniaa
open Go Go.Abs Go.RowKit

structure Opr where
  kind : Int
  time : Int
  steps : Option (List Stp)
  sel : Int
  anchor : Int
  head : Int

def Opr.cs (t : Opr) : List AV := [i64 t.kind, i64 t.time, slcAV Stp.av t.steps, i64 t.sel, i64 t.anchor, i64 t.head]
def Opr.av (t : Opr) : AV := .agg t.cs
structure Opr.Ok (t : Opr) : Prop where
  kind : Is64 t.kind
  time : Is64 t.time
  steps : ∀ x ∈ t.steps.getD [], x.Ok
  sel : Is64 t.sel
  anchor : Is64 t.anchor
  head : Is64 t.head

def encOpr (t : Opr) : List Nat := encNums [t.kind, t.time] ++ encStps (t.steps.getD []) ++ encNums [t.sel, t.anchor, t.head]
def encOprs (l : List Opr) : List Nat := encMany encOpr l

theorem encOpr_pos (t : Opr) : 0 < (encOpr t).length := by
  unfold encOpr; simp only [List.length_append]; have := encMany_pos encStp (t.steps.getD []); unfold encStps; omega

theorem opr_cells_clean (t : Opr) : ∀ c ∈ t.av.cells, Abs.Clean c := fun c hc => by
  change c ∈ t.cs at hc
  simp only [Opr.cs, List.mem_cons, List.not_mem_nil, or_false] at hc
  rcases hc with rfl | rfl | rfl | rfl | rfl | rfl
  all_goals first | exact clean_v _ | exact slc_clean _ _ stp_cells_clean

theorem call_stps {o : Option (List Stp)} {hp : List Blk} {K : AV → List Blk → Prop} (hok : ∀ t ∈ o.getD [], t.Ok) (hfit : (encStps (o.getD [])).length ≤ 140737488355328)
    (hk : ∀ id hp', hp' = hp ++ [.tok (encStps (o.getD [])).length 1] → Appd hp' (.sl (bs (encStps (o.getD []))) (.tok id)) (bs (encStps (o.getD []))) 1 → K (.sl (bs (encStps (o.getD []))) (.tok id)) hp') : CallOk Try.prog 13 [slcAV Stp.av o] hp K :=
  call_own (steps13 _ _ (slc_slc Stp.av o) hok hfit) (impCs1 (slc_clean _ _ stp_cells_clean)) hk

theorem ops14 (v : AV) (l : List Opr) (hv : Slc v (l.map Opr.av)) (hok : ∀ t ∈ l, t.Ok) (hfit : (encOprs l).length ≤ 140737488355328) : PureOwn Try.prog 14 [v] (bs (encOprs l)) 1 := by
  refine pureOwn_of (bs_clean _) (fn_ok F14 ?_)
  have hl : (enterS [v] 59).length = 59 := rfl
  have h0 : (enterS [v] 59)[0]? = some v := rfl
  show Tri _ s14.body _ ⟨enterS [v] 59, []⟩
  generalize enterS [v] 59 = ts at *
  have hlen : l.length ≤ 140737488355328 := by
    have := flat_ge encOpr l encOpr_pos
    unfold encOprs encMany at hfit; rw [List.length_append] at hfit; omega
  have h64l : Is64 (l.length : Nat) := is64_nat (by omega)
  unfold s14
  dsimp only
  refine Tri.mid (fun ts hp => ts.length = 59 ∧ ts[0]? = some v) (tri_region mixed ?_) ?_
  · simp -failIfUnchanged -implicitDefEqProofs (disch := first | assumption | decide | (simp -failIfUnchanged only [List.length_set]; omega)) only [srun_nil, srun_mv, srun_op, srun_call, srun_callv, srun_pcall, callF_fn, thenE_normal, thenE_exit, thenE_ret, inBlk_normal, inBlk_same, inBlk_ret, astep_len, lenStep_sl, absl_2, absl_3, absl_4, absl_8, afa_fp, afa_mp, Nat.zero_add, Nat.add_zero, Nat.reduceAdd, astep_mv, astep_alloc, astep_box, astep_build, astep_bsl, astep_ld, astep_st, astep_nilc, astep_bin, astep_un, astep_cv, astep_fa, astep_ia, astep_aa, astep_fld, astep_idx, astep_chr, astep_ext, astep_app, astep_eqb, astep_mkf, anil_mp, anil_fp, ev, Option.getD_some, aput, get_set_eq, get_set_ne, acv_int, abin_add, abin_sub, abin_mul, abin_eql, abin_neq, abin_lss, abin_leq, abin_gtr, abin_geq, abin_quo, abin_rem, Option.map_some, List.length_set, withV_some, absl_one, List.map, hl, h0]
    simp
  rintro ts hp ⟨hl, h0⟩
  refine Tri.mid (fun ts hp => ts.length = 59 ∧ ts[0]? = some v ∧ ∃ v3, ts[3]? = some v3 ∧ Appd hp v3 (bs (encNum l.length)) 1) (tri_region mixed ?_) ?_
  · simp -failIfUnchanged -implicitDefEqProofs (disch := first | assumption | decide | (simp -failIfUnchanged only [List.length_set]; omega)) only [srun_nil, srun_mv, srun_op, srun_call, srun_callv, srun_pcall, callF_fn, thenE_normal, thenE_exit, thenE_ret, inBlk_normal, inBlk_same, inBlk_ret, astep_len, lenStep_sl, absl_2, absl_3, absl_4, absl_8, afa_fp, afa_mp, Nat.zero_add, Nat.add_zero, Nat.reduceAdd, astep_mv, astep_alloc, astep_box, astep_build, astep_bsl, astep_ld, astep_st, astep_nilc, astep_bin, astep_un, astep_cv, astep_fa, astep_ia, astep_aa, astep_fld, astep_idx, astep_chr, astep_ext, astep_app, astep_eqb, astep_mkf, anil_mp, anil_fp, ev, Option.getD_some, aput, get_set_eq, get_set_ne, acv_int, abin_add, abin_sub, abin_mul, abin_eql, abin_neq, abin_lss, abin_leq, abin_gtr, abin_geq, abin_quo, abin_rem, Option.map_some, List.length_set, withV_some, absl_one, List.map, hl, h0, hv.lenStep, goInt, List.length_map]
    refine call_own (num_own h64l) (impCs1 (impC_v _)) fun id hp' ehp hA => ?_
    simp -failIfUnchanged -implicitDefEqProofs (disch := first | assumption | decide | (simp -failIfUnchanged only [List.length_set]; omega)) only [srun_nil, srun_mv, srun_op, srun_call, srun_callv, srun_pcall, callF_fn, thenE_normal, thenE_exit, thenE_ret, inBlk_normal, inBlk_same, inBlk_ret, astep_len, lenStep_sl, absl_2, absl_3, absl_4, absl_8, afa_fp, afa_mp, Nat.zero_add, Nat.add_zero, Nat.reduceAdd, astep_mv, astep_alloc, astep_box, astep_build, astep_bsl, astep_ld, astep_st, astep_nilc, astep_bin, astep_un, astep_cv, astep_fa, astep_ia, astep_aa, astep_fld, astep_idx, astep_chr, astep_ext, astep_app, astep_eqb, astep_mkf, anil_mp, anil_fp, ev, Option.getD_some, aput, get_set_eq, get_set_ne, acv_int, abin_add, abin_sub, abin_mul, abin_eql, abin_neq, abin_lss, abin_leq, abin_gtr, abin_geq, abin_quo, abin_rem, Option.map_some, List.length_set, withV_some, absl_one, List.map, hl, h0]
    exact ⟨trivial, trivial, trivial, _, rfl, hA⟩
  rintro ts hp ⟨hl, h0, v3, h3, hA⟩
  refine Tri.mid (fun ts hp => ts.length = 59 ∧ ∃ v3, ts[3]? = some v3 ∧ Appd hp v3 (bs (encOprs l)) 1) ?_ ?_
  · refine Tri.mid (fun ts hp => ts.length = 59 ∧ ts[0]? = some v ∧ ts[4]? = some (i64 0) ∧ ∃ v3, ts[3]? = some v3 ∧ Appd hp v3 (bs (encNum l.length)) 1) (tri_region mixed ?_) ?_
    · simp -failIfUnchanged -implicitDefEqProofs (disch := first | assumption | decide | (simp -failIfUnchanged only [List.length_set]; omega)) only [srun_nil, srun_mv, srun_op, srun_call, srun_callv, srun_pcall, callF_fn, thenE_normal, thenE_exit, thenE_ret, inBlk_normal, inBlk_same, inBlk_ret, astep_len, lenStep_sl, absl_2, absl_3, absl_4, absl_8, afa_fp, afa_mp, Nat.zero_add, Nat.add_zero, Nat.reduceAdd, astep_mv, astep_alloc, astep_box, astep_build, astep_bsl, astep_ld, astep_st, astep_nilc, astep_bin, astep_un, astep_cv, astep_fa, astep_ia, astep_aa, astep_fld, astep_idx, astep_chr, astep_ext, astep_app, astep_eqb, astep_mkf, anil_mp, anil_fp, ev, Option.getD_some, aput, get_set_eq, get_set_ne, acv_int, abin_add, abin_sub, abin_mul, abin_eql, abin_neq, abin_lss, abin_leq, abin_gtr, abin_geq, abin_quo, abin_rem, Option.map_some, List.length_set, withV_some, absl_one, List.map, hl, h0, h3]
      exact ⟨trivial, trivial, trivial, trivial, v3, rfl, hA⟩
    rintro ts hp ⟨hl, h0, h4, v3, h3, hA⟩
    refine Tri.block (Tri.count (fun i ts hp => ts.length = 59 ∧ ts[0]? = some v ∧ ts[4]? = some (i64 i) ∧ ∃ v3, ts[3]? = some v3 ∧ Appd hp v3 (bs (encNum l.length ++ (l.take i).flatMap encOpr)) 1) l.length
      ⟨hl, h0, h4, v3, h3, by simpa using hA⟩ ?_ ?_)
    · clear hA h3 v3 h4 h0 hl
      rintro i ts hp hi ⟨hl, h0, h4, v3, h3, hA⟩
      obtain ⟨t, ht⟩ : ∃ t, l[i]? = some t := ⟨l[i], by simp [hi]⟩
      have hto := hok t (List.mem_of_getElem? ht)
      have hget : (l.map Opr.av)[i]? = some t.av := by simp [ht]
      have hst := flat_step encOpr ht
      have hle := flat_take encOpr l (i + 1)
      rw [hst] at hle
      have hfit' : (encNum l.length ++ (l.take i).flatMap encOpr ++ encOpr t).length ≤ 140737488355328 := by
        unfold encOprs encMany at hfit; rw [List.length_append] at hfit hle; simp only [List.length_append]; omega
      have het : encOpr t = encNums [t.kind, t.time] ++ encStps (t.steps.getD []) ++ encNums [t.sel, t.anchor, t.head] := rfl
      rw [het] at hfit' hst
      simp only [List.length_append] at hfit'
      generalize hpre : encNum l.length ++ (l.take i).flatMap encOpr = pre at hA
      have hpl : pre.length = (encNum l.length).length + ((l.take i).flatMap encOpr).length := by rw [← hpre, List.length_append]
      refine Tri.seq (Tri.seq (tri_region mixed ?_))
      simp -failIfUnchanged -implicitDefEqProofs (disch := first | assumption | decide | (simp -failIfUnchanged only [List.length_set]; omega)) only [srun_nil, srun_mv, srun_op, srun_call, srun_callv, srun_pcall, callF_fn, thenE_normal, thenE_exit, thenE_ret, inBlk_normal, inBlk_same, inBlk_ret, astep_len, lenStep_sl, absl_2, absl_3, absl_4, absl_8, afa_fp, afa_mp, Nat.zero_add, Nat.add_zero, Nat.reduceAdd, astep_mv, astep_alloc, astep_box, astep_build, astep_bsl, astep_ld, astep_st, astep_nilc, astep_bin, astep_un, astep_cv, astep_fa, astep_ia, astep_aa, astep_fld, astep_idx, astep_chr, astep_ext, astep_app, astep_eqb, astep_mkf, anil_mp, anil_fp, ev, Option.getD_some, aput, get_set_eq, get_set_ne, acv_int, abin_add, abin_sub, abin_mul, abin_eql, abin_neq, abin_lss, abin_leq, abin_gtr, abin_geq, abin_quo, abin_rem, Option.map_some, List.length_set, withV_some, absl_one, List.map, hl, h0, h4, hv.lenStep, goInt, List.length_map]
      refine Tri.cond (b := true) (by simp -failIfUnchanged -implicitDefEqProofs (disch := first | assumption | decide | (simp -failIfUnchanged only [List.length_set]; omega)) only [srun_nil, srun_mv, srun_op, srun_call, srun_callv, srun_pcall, callF_fn, thenE_normal, thenE_exit, thenE_ret, inBlk_normal, inBlk_same, inBlk_ret, astep_len, lenStep_sl, absl_2, absl_3, absl_4, absl_8, afa_fp, afa_mp, Nat.zero_add, Nat.add_zero, Nat.reduceAdd, astep_mv, astep_alloc, astep_box, astep_build, astep_bsl, astep_ld, astep_st, astep_nilc, astep_bin, astep_un, astep_cv, astep_fa, astep_ia, astep_aa, astep_fld, astep_idx, astep_chr, astep_ext, astep_app, astep_eqb, astep_mkf, anil_mp, anil_fp, ev, Option.getD_some, aput, get_set_eq, get_set_ne, acv_int, abin_add, abin_sub, abin_mul, abin_eql, abin_neq, abin_lss, abin_leq, abin_gtr, abin_geq, abin_quo, abin_rem, Option.map_some, List.length_set, withV_some, absl_one, List.map, hl]; simp [hi]) ?_
      have e1 : aia 6 v (.v (.int .i64 i)) = some (.fp t.cs 0) := hv.ia hget rfl
      have hld : ∀ (o : Nat) (hp : List Blk) (c : AV), t.cs[o]? = some c → aload hp false 1 (.fp t.cs o) = some c := fun o hp c ho => aload_fp hp ho
      refine Tri.skip (Tri.seq (Tri.block (Tri.mid (fun ts hp => ts.length = 59 ∧ ts[0]? = some v ∧ ts[4]? = some (i64 i) ∧ ∃ v3, ts[3]? = some v3 ∧ Appd hp v3 (bs (pre ++ encNums [t.kind, t.time])) 1) (tri_region mixed ?_) ?_)))
      · simp -failIfUnchanged -implicitDefEqProofs (disch := first | assumption | decide | (simp -failIfUnchanged only [List.length_set]; omega)) only [srun_nil, srun_mv, srun_op, srun_call, srun_callv, srun_pcall, callF_fn, thenE_normal, thenE_exit, thenE_ret, inBlk_normal, inBlk_same, inBlk_ret, astep_len, lenStep_sl, absl_2, absl_3, absl_4, absl_8, afa_fp, afa_mp, Nat.zero_add, Nat.add_zero, Nat.reduceAdd, astep_mv, astep_alloc, astep_box, astep_build, astep_bsl, astep_ld, astep_st, astep_nilc, astep_bin, astep_un, astep_cv, astep_fa, astep_ia, astep_aa, astep_fld, astep_idx, astep_chr, astep_ext, astep_app, astep_eqb, astep_mkf, anil_mp, anil_fp, ev, Option.getD_some, aput, get_set_eq, get_set_ne, acv_int, abin_add, abin_sub, abin_mul, abin_eql, abin_neq, abin_lss, abin_leq, abin_gtr, abin_geq, abin_quo, abin_rem, Option.map_some, List.length_set, withV_some, absl_one, List.map, hl, h0, h3, h4, e1, hld 0 hp _ rfl, hld 1 hp _ rfl]
        refine call_nums (l := [t.kind, t.time]) (by simp) (by simp; exact ⟨hto.kind, hto.time⟩) (by omega) fun id hp' ehp hN => ?_
        subst ehp
        simp -failIfUnchanged -implicitDefEqProofs (disch := first | assumption | decide | (simp -failIfUnchanged only [List.length_set]; omega)) only [srun_nil, srun_mv, srun_op, srun_call, srun_callv, srun_pcall, callF_fn, thenE_normal, thenE_exit, thenE_ret, inBlk_normal, inBlk_same, inBlk_ret, astep_len, lenStep_sl, absl_2, absl_3, absl_4, absl_8, afa_fp, afa_mp, Nat.zero_add, Nat.add_zero, Nat.reduceAdd, astep_mv, astep_alloc, astep_box, astep_build, astep_bsl, astep_ld, astep_st, astep_nilc, astep_bin, astep_un, astep_cv, astep_fa, astep_ia, astep_aa, astep_fld, astep_idx, astep_chr, astep_ext, astep_app, astep_eqb, astep_mkf, anil_mp, anil_fp, ev, Option.getD_some, aput, get_set_eq, get_set_ne, acv_int, abin_add, abin_sub, abin_mul, abin_eql, abin_neq, abin_lss, abin_leq, abin_gtr, abin_geq, abin_quo, abin_rem, Option.map_some, List.length_set, withV_some, absl_one, List.map, hl, h0, h3, h4]
        refine app_bs hA.ext (encNums_pos (by simp)) (by simp only [List.length_append]; omega) fun v4 hp4 hA4 hrel _ => ?_
        simp -failIfUnchanged -implicitDefEqProofs (disch := first | assumption | decide | (simp -failIfUnchanged only [List.length_set]; omega)) only [srun_nil, srun_mv, srun_op, srun_call, srun_callv, srun_pcall, callF_fn, thenE_normal, thenE_exit, thenE_ret, inBlk_normal, inBlk_same, inBlk_ret, astep_len, lenStep_sl, absl_2, absl_3, absl_4, absl_8, afa_fp, afa_mp, Nat.zero_add, Nat.add_zero, Nat.reduceAdd, astep_mv, astep_alloc, astep_box, astep_build, astep_bsl, astep_ld, astep_st, astep_nilc, astep_bin, astep_un, astep_cv, astep_fa, astep_ia, astep_aa, astep_fld, astep_idx, astep_chr, astep_ext, astep_app, astep_eqb, astep_mkf, anil_mp, anil_fp, ev, Option.getD_some, aput, get_set_eq, get_set_ne, acv_int, abin_add, abin_sub, abin_mul, abin_eql, abin_neq, abin_lss, abin_leq, abin_gtr, abin_geq, abin_quo, abin_rem, Option.map_some, List.length_set, withV_some, absl_one, List.map, hl, h0, h3, h4]
        exact ⟨trivial, trivial, trivial, trivial, v4, rfl, hA4⟩
      clear hA h3 v3 h4 h0 hl
      rintro ts hp ⟨hl, h0, h4, v3, h3, hA⟩
      refine Tri.mid (fun ts hp => ts.length = 59 ∧ ts[0]? = some v ∧ ts[4]? = some (i64 i) ∧ ∃ v3, ts[3]? = some v3 ∧ Appd hp v3 (bs (pre ++ encNums [t.kind, t.time] ++ encStps (t.steps.getD []))) 1) (tri_region mixed ?_) ?_
      · simp -failIfUnchanged -implicitDefEqProofs (disch := first | assumption | decide | (simp -failIfUnchanged only [List.length_set]; omega)) only [srun_nil, srun_mv, srun_op, srun_call, srun_callv, srun_pcall, callF_fn, thenE_normal, thenE_exit, thenE_ret, inBlk_normal, inBlk_same, inBlk_ret, astep_len, lenStep_sl, absl_2, absl_3, absl_4, absl_8, afa_fp, afa_mp, Nat.zero_add, Nat.add_zero, Nat.reduceAdd, astep_mv, astep_alloc, astep_box, astep_build, astep_bsl, astep_ld, astep_st, astep_nilc, astep_bin, astep_un, astep_cv, astep_fa, astep_ia, astep_aa, astep_fld, astep_idx, astep_chr, astep_ext, astep_app, astep_eqb, astep_mkf, anil_mp, anil_fp, ev, Option.getD_some, aput, get_set_eq, get_set_ne, acv_int, abin_add, abin_sub, abin_mul, abin_eql, abin_neq, abin_lss, abin_leq, abin_gtr, abin_geq, abin_quo, abin_rem, Option.map_some, List.length_set, withV_some, absl_one, List.map, hl, h0, h3, h4, e1, hld 2 hp _ rfl]
        refine call_stps hto.steps (by omega) fun id hp' ehp hN => ?_
        subst ehp
        simp -failIfUnchanged -implicitDefEqProofs (disch := first | assumption | decide | (simp -failIfUnchanged only [List.length_set]; omega)) only [srun_nil, srun_mv, srun_op, srun_call, srun_callv, srun_pcall, callF_fn, thenE_normal, thenE_exit, thenE_ret, inBlk_normal, inBlk_same, inBlk_ret, astep_len, lenStep_sl, absl_2, absl_3, absl_4, absl_8, afa_fp, afa_mp, Nat.zero_add, Nat.add_zero, Nat.reduceAdd, astep_mv, astep_alloc, astep_box, astep_build, astep_bsl, astep_ld, astep_st, astep_nilc, astep_bin, astep_un, astep_cv, astep_fa, astep_ia, astep_aa, astep_fld, astep_idx, astep_chr, astep_ext, astep_app, astep_eqb, astep_mkf, anil_mp, anil_fp, ev, Option.getD_some, aput, get_set_eq, get_set_ne, acv_int, abin_add, abin_sub, abin_mul, abin_eql, abin_neq, abin_lss, abin_leq, abin_gtr, abin_geq, abin_quo, abin_rem, Option.map_some, List.length_set, withV_some, absl_one, List.map, hl, h0, h3, h4]
        refine app_bs hA.ext (encMany_pos _ _) (by unfold encStps at *; simp only [List.length_append] at *; omega) fun v4 hp4 hA4 hrel _ => ?_
        simp -failIfUnchanged -implicitDefEqProofs (disch := first | assumption | decide | (simp -failIfUnchanged only [List.length_set]; omega)) only [srun_nil, srun_mv, srun_op, srun_call, srun_callv, srun_pcall, callF_fn, thenE_normal, thenE_exit, thenE_ret, inBlk_normal, inBlk_same, inBlk_ret, astep_len, lenStep_sl, absl_2, absl_3, absl_4, absl_8, afa_fp, afa_mp, Nat.zero_add, Nat.add_zero, Nat.reduceAdd, astep_mv, astep_alloc, astep_box, astep_build, astep_bsl, astep_ld, astep_st, astep_nilc, astep_bin, astep_un, astep_cv, astep_fa, astep_ia, astep_aa, astep_fld, astep_idx, astep_chr, astep_ext, astep_app, astep_eqb, astep_mkf, anil_mp, anil_fp, ev, Option.getD_some, aput, get_set_eq, get_set_ne, acv_int, abin_add, abin_sub, abin_mul, abin_eql, abin_neq, abin_lss, abin_leq, abin_gtr, abin_geq, abin_quo, abin_rem, Option.map_some, List.length_set, withV_some, absl_one, List.map, hl, h0, h3, h4]
        exact ⟨trivial, trivial, trivial, trivial, v4, rfl, hA4⟩
      clear hA h3 v3 h4 h0 hl
      rintro ts hp ⟨hl, h0, h4, v3, h3, hA⟩
      refine tri_region mixed ?_
      simp -failIfUnchanged -implicitDefEqProofs (disch := first | assumption | decide | (simp -failIfUnchanged only [List.length_set]; omega)) only [srun_nil, srun_mv, srun_op, srun_call, srun_callv, srun_pcall, callF_fn, thenE_normal, thenE_exit, thenE_ret, inBlk_normal, inBlk_same, inBlk_ret, astep_len, lenStep_sl, absl_2, absl_3, absl_4, absl_8, afa_fp, afa_mp, Nat.zero_add, Nat.add_zero, Nat.reduceAdd, astep_mv, astep_alloc, astep_box, astep_build, astep_bsl, astep_ld, astep_st, astep_nilc, astep_bin, astep_un, astep_cv, astep_fa, astep_ia, astep_aa, astep_fld, astep_idx, astep_chr, astep_ext, astep_app, astep_eqb, astep_mkf, anil_mp, anil_fp, ev, Option.getD_some, aput, get_set_eq, get_set_ne, acv_int, abin_add, abin_sub, abin_mul, abin_eql, abin_neq, abin_lss, abin_leq, abin_gtr, abin_geq, abin_quo, abin_rem, Option.map_some, List.length_set, withV_some, absl_one, List.map, hl, h0, h3, h4, e1, hld 3 hp _ rfl, hld 4 hp _ rfl, hld 5 hp _ rfl]
      refine call_nums (l := [t.sel, t.anchor, t.head]) (by simp) (by simp; exact ⟨hto.sel, hto.anchor, hto.head⟩) (by omega) fun id hp' ehp hN => ?_
      subst ehp
      simp -failIfUnchanged -implicitDefEqProofs (disch := first | assumption | decide | (simp -failIfUnchanged only [List.length_set]; omega)) only [srun_nil, srun_mv, srun_op, srun_call, srun_callv, srun_pcall, callF_fn, thenE_normal, thenE_exit, thenE_ret, inBlk_normal, inBlk_same, inBlk_ret, astep_len, lenStep_sl, absl_2, absl_3, absl_4, absl_8, afa_fp, afa_mp, Nat.zero_add, Nat.add_zero, Nat.reduceAdd, astep_mv, astep_alloc, astep_box, astep_build, astep_bsl, astep_ld, astep_st, astep_nilc, astep_bin, astep_un, astep_cv, astep_fa, astep_ia, astep_aa, astep_fld, astep_idx, astep_chr, astep_ext, astep_app, astep_eqb, astep_mkf, anil_mp, anil_fp, ev, Option.getD_some, aput, get_set_eq, get_set_ne, acv_int, abin_add, abin_sub, abin_mul, abin_eql, abin_neq, abin_lss, abin_leq, abin_gtr, abin_geq, abin_quo, abin_rem, Option.map_some, List.length_set, withV_some, absl_one, List.map, hl, h0, h3, h4]
      refine app_bs hA.ext (encNums_pos (by simp)) (by simp only [List.length_append] at *; omega) fun v4 hp4 hA4 hrel _ => ?_
      simp -failIfUnchanged -implicitDefEqProofs (disch := first | assumption | decide | (simp -failIfUnchanged only [List.length_set]; omega)) only [srun_nil, srun_mv, srun_op, srun_call, srun_callv, srun_pcall, callF_fn, thenE_normal, thenE_exit, thenE_ret, inBlk_normal, inBlk_same, inBlk_ret, astep_len, lenStep_sl, absl_2, absl_3, absl_4, absl_8, afa_fp, afa_mp, Nat.zero_add, Nat.add_zero, Nat.reduceAdd, astep_mv, astep_alloc, astep_box, astep_build, astep_bsl, astep_ld, astep_st, astep_nilc, astep_bin, astep_un, astep_cv, astep_fa, astep_ia, astep_aa, astep_fld, astep_idx, astep_chr, astep_ext, astep_app, astep_eqb, astep_mkf, anil_mp, anil_fp, ev, Option.getD_some, aput, get_set_eq, get_set_ne, acv_int, abin_add, abin_sub, abin_mul, abin_eql, abin_neq, abin_lss, abin_leq, abin_gtr, abin_geq, abin_quo, abin_rem, Option.map_some, List.length_set, withV_some, absl_one, List.map, hl, h0, h3, h4]
      refine tri_region mixed ?_
      simp -failIfUnchanged -implicitDefEqProofs (disch := first | assumption | decide | (simp -failIfUnchanged only [List.length_set]; omega)) only [srun_nil, srun_mv, srun_op, srun_call, srun_callv, srun_pcall, callF_fn, thenE_normal, thenE_exit, thenE_ret, inBlk_normal, inBlk_same, inBlk_ret, astep_len, lenStep_sl, absl_2, absl_3, absl_4, absl_8, afa_fp, afa_mp, Nat.zero_add, Nat.add_zero, Nat.reduceAdd, astep_mv, astep_alloc, astep_box, astep_build, astep_bsl, astep_ld, astep_st, astep_nilc, astep_bin, astep_un, astep_cv, astep_fa, astep_ia, astep_aa, astep_fld, astep_idx, astep_chr, astep_ext, astep_app, astep_eqb, astep_mkf, anil_mp, anil_fp, ev, Option.getD_some, aput, get_set_eq, get_set_ne, acv_int, abin_add, abin_sub, abin_mul, abin_eql, abin_neq, abin_lss, abin_leq, abin_gtr, abin_geq, abin_quo, abin_rem, Option.map_some, List.length_set, withV_some, absl_one, List.map, hl, h0, h3, h4]
      rw [wrap_i64 (by omega) (by omega), hst]
      refine ⟨trivial, trivial, by simp, v4, rfl, ?_⟩
      have e : encNum l.length ++ ((l.take i).flatMap encOpr ++ (encNums [t.kind, t.time] ++ encStps (t.steps.getD []) ++ encNums [t.sel, t.anchor, t.head])) = pre ++ encNums [t.kind, t.time] ++ encStps (t.steps.getD []) ++ encNums [t.sel, t.anchor, t.head] := by
        rw [← hpre]; simp only [List.append_assoc]
      rw [e]; exact hA4
    · clear hA h3 v3 h4 h0 hl
      rintro ts hp ⟨hl, h0, h4, v3, h3, hA⟩
      refine Tri.seq (Tri.seq (tri_region mixed ?_))
      simp -failIfUnchanged -implicitDefEqProofs (disch := first | assumption | decide | (simp -failIfUnchanged only [List.length_set]; omega)) only [srun_nil, srun_mv, srun_op, srun_call, srun_callv, srun_pcall, callF_fn, thenE_normal, thenE_exit, thenE_ret, inBlk_normal, inBlk_same, inBlk_ret, astep_len, lenStep_sl, absl_2, absl_3, absl_4, absl_8, afa_fp, afa_mp, Nat.zero_add, Nat.add_zero, Nat.reduceAdd, astep_mv, astep_alloc, astep_box, astep_build, astep_bsl, astep_ld, astep_st, astep_nilc, astep_bin, astep_un, astep_cv, astep_fa, astep_ia, astep_aa, astep_fld, astep_idx, astep_chr, astep_ext, astep_app, astep_eqb, astep_mkf, anil_mp, anil_fp, ev, Option.getD_some, aput, get_set_eq, get_set_ne, acv_int, abin_add, abin_sub, abin_mul, abin_eql, abin_neq, abin_lss, abin_leq, abin_gtr, abin_geq, abin_quo, abin_rem, Option.map_some, List.length_set, withV_some, absl_one, List.map, hl, h0, h4, hv.lenStep, goInt, List.length_map]
      refine Tri.cond (b := false) (by simp -failIfUnchanged -implicitDefEqProofs (disch := first | assumption | decide | (simp -failIfUnchanged only [List.length_set]; omega)) only [srun_nil, srun_mv, srun_op, srun_call, srun_callv, srun_pcall, callF_fn, thenE_normal, thenE_exit, thenE_ret, inBlk_normal, inBlk_same, inBlk_ret, astep_len, lenStep_sl, absl_2, absl_3, absl_4, absl_8, afa_fp, afa_mp, Nat.zero_add, Nat.add_zero, Nat.reduceAdd, astep_mv, astep_alloc, astep_box, astep_build, astep_bsl, astep_ld, astep_st, astep_nilc, astep_bin, astep_un, astep_cv, astep_fa, astep_ia, astep_aa, astep_fld, astep_idx, astep_chr, astep_ext, astep_app, astep_eqb, astep_mkf, anil_mp, anil_fp, ev, Option.getD_some, aput, get_set_eq, get_set_ne, acv_int, abin_add, abin_sub, abin_mul, abin_eql, abin_neq, abin_lss, abin_leq, abin_gtr, abin_geq, abin_quo, abin_rem, Option.map_some, List.length_set, withV_some, absl_one, List.map, hl]; simp) ?_
      refine Tri.exit ⟨rfl, ?_⟩
      rw [List.take_length] at hA
      simp -failIfUnchanged -implicitDefEqProofs (disch := first | assumption | decide | (simp -failIfUnchanged only [List.length_set]; omega)) only [srun_nil, srun_mv, srun_op, srun_call, srun_callv, srun_pcall, callF_fn, thenE_normal, thenE_exit, thenE_ret, inBlk_normal, inBlk_same, inBlk_ret, astep_len, lenStep_sl, absl_2, absl_3, absl_4, absl_8, afa_fp, afa_mp, Nat.zero_add, Nat.add_zero, Nat.reduceAdd, astep_mv, astep_alloc, astep_box, astep_build, astep_bsl, astep_ld, astep_st, astep_nilc, astep_bin, astep_un, astep_cv, astep_fa, astep_ia, astep_aa, astep_fld, astep_idx, astep_chr, astep_ext, astep_app, astep_eqb, astep_mkf, anil_mp, anil_fp, ev, Option.getD_some, aput, get_set_eq, get_set_ne, acv_int, abin_add, abin_sub, abin_mul, abin_eql, abin_neq, abin_lss, abin_leq, abin_gtr, abin_geq, abin_quo, abin_rem, Option.map_some, List.length_set, withV_some, absl_one, List.map, hl, h3]
      exact ⟨trivial, v3, rfl, hA⟩
  clear hA h3 v3 h0 hl
  rintro ts hp ⟨hl, v3, h3, hA⟩
  refine Tri.seq (tri_region mixed ?_)
  simp -failIfUnchanged -implicitDefEqProofs (disch := first | assumption | decide | (simp -failIfUnchanged only [List.length_set]; omega)) only [srun_nil, srun_mv, srun_op, srun_call, srun_callv, srun_pcall, callF_fn, thenE_normal, thenE_exit, thenE_ret, inBlk_normal, inBlk_same, inBlk_ret, astep_len, lenStep_sl, absl_2, absl_3, absl_4, absl_8, afa_fp, afa_mp, Nat.zero_add, Nat.add_zero, Nat.reduceAdd, astep_mv, astep_alloc, astep_box, astep_build, astep_bsl, astep_ld, astep_st, astep_nilc, astep_bin, astep_un, astep_cv, astep_fa, astep_ia, astep_aa, astep_fld, astep_idx, astep_chr, astep_ext, astep_app, astep_eqb, astep_mkf, anil_mp, anil_fp, ev, Option.getD_some, aput, get_set_eq, get_set_ne, acv_int, abin_add, abin_sub, abin_mul, abin_eql, abin_neq, abin_lss, abin_leq, abin_gtr, abin_geq, abin_quo, abin_rem, Option.map_some, List.length_set, withV_some, absl_one, List.map, hl, h3]
  rcases hA with ⟨rfl, e⟩ | ⟨id, rfl, hid⟩
  · exact (bs_ne (encMany_pos _ _) e).elim
  refine Tri.ret ⟨Or.inr rfl, _, resV_s (by simp -failIfUnchanged -implicitDefEqProofs (disch := first | assumption | decide | (simp -failIfUnchanged only [List.length_set]; omega)) only [srun_nil, srun_mv, srun_op, srun_call, srun_callv, srun_pcall, callF_fn, thenE_normal, thenE_exit, thenE_ret, inBlk_normal, inBlk_same, inBlk_ret, astep_len, lenStep_sl, absl_2, absl_3, absl_4, absl_8, afa_fp, afa_mp, Nat.zero_add, Nat.add_zero, Nat.reduceAdd, astep_mv, astep_alloc, astep_box, astep_build, astep_bsl, astep_ld, astep_st, astep_nilc, astep_bin, astep_un, astep_cv, astep_fa, astep_ia, astep_aa, astep_fld, astep_idx, astep_chr, astep_ext, astep_app, astep_eqb, astep_mkf, anil_mp, anil_fp, ev, Option.getD_some, aput, get_set_eq, get_set_ne, acv_int, abin_add, abin_sub, abin_mul, abin_eql, abin_neq, abin_lss, abin_leq, abin_gtr, abin_geq, abin_quo, abin_rem, Option.map_some, List.length_set, withV_some, absl_one, List.map, hl]), id, rfl, hid⟩

end Go.Proofs.Ytllgfmijocgniaa
