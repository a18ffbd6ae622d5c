/- The writer's rows. -/
import Derived.Test.YtllgfmijocgniaaD1
set_option linter.unusedVariables false
set_option linter.unusedSimpArgs false
namespace Go.Proofs.Ytllgfmijocgniaa
open Go Go.Abs Go.RowKit

/-- A row's function, for elements of n cells. -/
def rowFn (n : Nat) (z : List AV) : SFn := ⟨23, [],
  .seq (.region [⟨some 8, none, .op (.mv (.t 0))⟩, ⟨some 9, none, .op (.mv (.t 1))⟩, ⟨some 10, none, .op (.len (.t 9))⟩, ⟨some 11, none, .call 46 [.t 8, .t 10]⟩])
  (.seq (.region [⟨some 12, none, .op (.mv (.t 1))⟩, ⟨some 13, none, .op (.len (.t 12))⟩, ⟨some 14, none, .op (.mv (.c (.v (.int .i64 0))))⟩])
  (.block 0 (.loop (.seq (.region [⟨some 15, none, .op (.bin .lss (.t 14) (.t 13))⟩]) (.seq (.cond (.t 15) .skip (.exit 0)) (.seq
    (.block 1 (.seq (.region [⟨some 16, none, .op (.ia n (.t 12) (.t 14))⟩, ⟨some 17, none, .op (.ld true n (.t 16))⟩, ⟨some 7, none, .op (.alloc z)⟩, ⟨none, none, .op (.st n (.t 7) (.t 17))⟩])
      (.region [⟨some 18, none, .op (.mv (.t 2))⟩, ⟨some 19, none, .op (.mv (.t 0))⟩, ⟨some 20, none, .op (.ld true n (.t 7))⟩, ⟨some 21, none, .callv (.t 18) [.t 19, .t 20]⟩])))
    (.region [⟨some 22, none, .op (.bin .add (.t 14) (.c (.v (.int .i64 1))))⟩, ⟨some 14, none, .op (.mv (.t 22))⟩]))))))) ⟩

theorem rowWrites {α : Type} {n : Nat} {z : List AV} {pn g : FuncId} (F : slimFn Try.prog pu pn = some (rowFn n z)) (hz : z.length = n) (av : α → AV) (f : α → List Nat) {v : AV} {l : List α} (hv : Slc v (l.map av))
    (hcs : ∀ x ∈ l, ∃ cs, av x = .agg cs ∧ cs.length = n ∧ cs.all AV.one = true) (hw : ∀ x ∈ l, Writes g [av x] (f x)) (hll : l.length < 140737488355328) : Writes pn [v, .fn (.func g) [] []] (encMany f l) := by
  intro hp k pre K hW hfit hK
  refine fn_ok F ?_
  have hl : (enterS [.mp k 0, v, .fn (.func g) [] []] 23).length = 23 := rfl
  have h0 : (enterS [.mp k 0, v, .fn (.func g) [] []] 23)[0]? = some (.mp k 0) := rfl
  have h1 : (enterS [.mp k 0, v, .fn (.func g) [] []] 23)[1]? = some v := rfl
  have h2 : (enterS [.mp k 0, v, .fn (.func g) [] []] 23)[2]? = some (.fn (.func g) [] []) := rfl
  show Tri _ (rowFn n z).body _ ⟨enterS [.mp k 0, v, .fn (.func g) [] []] 23, hp⟩
  generalize enterS [.mp k 0, v, .fn (.func g) [] []] 23 = ts at *
  unfold rowFn
  dsimp only
  have e8 : encMany f l = encNum l.length ++ l.flatMap f := rfl
  rw [e8] at hfit
  have hfit0 := hfit
  simp only [List.length_append] at hfit0
  refine Tri.mid (fun ts hp' => ts.length = 23 ∧ ts[0]? = some (.mp k 0) ∧ ts[1]? = some v ∧ ts[2]? = some (.fn (.func g) [] []) ∧ Wr hp' k (pre ++ encNum l.length) ∧ WRel hp hp' k) (tri_region mixed ?_) ?_
  · simp -failIfUnchanged -implicitDefEqProofs (disch := first | assumption | decide | (simp -failIfUnchanged only [List.length_set]; omega)) only [srun_nil, srun_mv, srun_op, srun_call, srun_callv, srun_pcall, callF_fn, thenE_normal, thenE_exit, thenE_ret, inBlk_normal, inBlk_same, inBlk_ret, astep_len, lenStep_sl, absl_2, absl_3, absl_4, absl_8, afa_fp, afa_mp, Nat.zero_add, Nat.add_zero, Nat.reduceAdd, astep_mv, astep_alloc, astep_box, astep_build, astep_bsl, astep_ld, astep_st, astep_nilc, astep_bin, astep_un, astep_cv, astep_fa, astep_ia, astep_aa, astep_fld, astep_idx, astep_chr, astep_ext, astep_app, astep_eqb, astep_mkf, anil_mp, anil_fp, ev, Option.getD_some, aput, get_set_eq, get_set_ne, acv_int, abin_add, abin_sub, abin_mul, abin_eql, abin_neq, abin_lss, abin_leq, abin_gtr, abin_geq, abin_quo, abin_rem, Option.map_some, List.length_set, withV_some, absl_one, List.map, hl, h0, h1, hv.lenStep, goInt, List.length_map]
    refine num46 (is64_nat (by omega)) _ _ _ _ hW (by simp only [List.length_append]; omega) fun hp4 hW4 hR4 => ?_
    simp -failIfUnchanged -implicitDefEqProofs (disch := first | assumption | decide | (simp -failIfUnchanged only [List.length_set]; omega)) only [srun_nil, srun_mv, srun_op, srun_call, srun_callv, srun_pcall, callF_fn, thenE_normal, thenE_exit, thenE_ret, inBlk_normal, inBlk_same, inBlk_ret, astep_len, lenStep_sl, absl_2, absl_3, absl_4, absl_8, afa_fp, afa_mp, Nat.zero_add, Nat.add_zero, Nat.reduceAdd, astep_mv, astep_alloc, astep_box, astep_build, astep_bsl, astep_ld, astep_st, astep_nilc, astep_bin, astep_un, astep_cv, astep_fa, astep_ia, astep_aa, astep_fld, astep_idx, astep_chr, astep_ext, astep_app, astep_eqb, astep_mkf, anil_mp, anil_fp, ev, Option.getD_some, aput, get_set_eq, get_set_ne, acv_int, abin_add, abin_sub, abin_mul, abin_eql, abin_neq, abin_lss, abin_leq, abin_gtr, abin_geq, abin_quo, abin_rem, Option.map_some, List.length_set, withV_some, absl_one, List.map, hl, h0, h1, h2]
    exact ⟨trivial, trivial, trivial, trivial, trivial, hW4, hR4⟩
  clear hl h0 h1 h2 ts hW
  rintro ts hp' ⟨hl, h0, h1, h2, hW, hR⟩
  refine Tri.mid (fun ts hp2 => hp2 = hp' ∧ ts.length = 23 ∧ ts[0]? = some (.mp k 0) ∧ ts[2]? = some (.fn (.func g) [] []) ∧ ts[12]? = some v ∧ ts[13]? = some (i64 l.length) ∧ ts[14]? = some (i64 0)) (tri_region mixed ?_) ?_
  · simp -failIfUnchanged -implicitDefEqProofs (disch := first | assumption | decide | (simp -failIfUnchanged only [List.length_set]; omega)) only [srun_nil, srun_mv, srun_op, srun_call, srun_callv, srun_pcall, callF_fn, thenE_normal, thenE_exit, thenE_ret, inBlk_normal, inBlk_same, inBlk_ret, astep_len, lenStep_sl, absl_2, absl_3, absl_4, absl_8, afa_fp, afa_mp, Nat.zero_add, Nat.add_zero, Nat.reduceAdd, astep_mv, astep_alloc, astep_box, astep_build, astep_bsl, astep_ld, astep_st, astep_nilc, astep_bin, astep_un, astep_cv, astep_fa, astep_ia, astep_aa, astep_fld, astep_idx, astep_chr, astep_ext, astep_app, astep_eqb, astep_mkf, anil_mp, anil_fp, ev, Option.getD_some, aput, get_set_eq, get_set_ne, acv_int, abin_add, abin_sub, abin_mul, abin_eql, abin_neq, abin_lss, abin_leq, abin_gtr, abin_geq, abin_quo, abin_rem, Option.map_some, List.length_set, withV_some, absl_one, List.map, hl, h0, h1, h2, hv.lenStep, goInt, List.length_map]
    trivial
  clear hl h0 h1 h2 ts
  rintro ts hp2 ⟨rfl, hl, h0, h2, h12, h13, h14⟩
  refine Tri.block (Tri.count (fun i ts hp4 => ts.length = 23 ∧ ts[0]? = some (.mp k 0) ∧ ts[2]? = some (.fn (.func g) [] []) ∧ ts[12]? = some v ∧ ts[13]? = some (i64 l.length) ∧ ts[14]? = some (i64 i) ∧ Wr hp4 k (pre ++ encNum l.length ++ (l.take i).flatMap f) ∧ WRel hp hp4 k) l.length
    ⟨hl, h0, h2, h12, h13, h14, by simpa using hW, hR⟩ ?_ ?_)
  · clear hl h0 h2 h12 h13 h14 ts hW hR
    rintro i ts hp4 hi ⟨hl, h0, h2, h12, h13, h14, hW, hR⟩
    obtain ⟨x, hx⟩ : ∃ x, l[i]? = some x := ⟨l[i], by simp [hi]⟩
    have hmem := List.mem_of_getElem? hx
    obtain ⟨cs, hav, hlen, hone⟩ := hcs x hmem
    have hget : (l.map av)[i]? = some (.agg cs) := by simp [hx, hav]
    have hst := flat_step f hx
    have hle := flat_take f l (i + 1)
    rw [hst, List.length_append] at hle
    have hkl := wr_lt hW
    refine Tri.seq (tri_region mixed ?_)
    simp -failIfUnchanged -implicitDefEqProofs (disch := first | assumption | decide | (simp -failIfUnchanged only [List.length_set]; omega)) only [srun_nil, srun_mv, srun_op, srun_call, srun_callv, srun_pcall, callF_fn, thenE_normal, thenE_exit, thenE_ret, inBlk_normal, inBlk_same, inBlk_ret, astep_len, lenStep_sl, absl_2, absl_3, absl_4, absl_8, afa_fp, afa_mp, Nat.zero_add, Nat.add_zero, Nat.reduceAdd, astep_mv, astep_alloc, astep_box, astep_build, astep_bsl, astep_ld, astep_st, astep_nilc, astep_bin, astep_un, astep_cv, astep_fa, astep_ia, astep_aa, astep_fld, astep_idx, astep_chr, astep_ext, astep_app, astep_eqb, astep_mkf, anil_mp, anil_fp, ev, Option.getD_some, aput, get_set_eq, get_set_ne, acv_int, abin_add, abin_sub, abin_mul, abin_eql, abin_neq, abin_lss, abin_leq, abin_gtr, abin_geq, abin_quo, abin_rem, Option.map_some, List.length_set, withV_some, absl_one, List.map, hl, h13, h14]
    refine Tri.seq (Tri.cond (b := true) (by simp -failIfUnchanged -implicitDefEqProofs (disch := first | assumption | decide | (simp -failIfUnchanged only [List.length_set]; omega)) only [srun_nil, srun_mv, srun_op, srun_call, srun_callv, srun_pcall, callF_fn, thenE_normal, thenE_exit, thenE_ret, inBlk_normal, inBlk_same, inBlk_ret, astep_len, lenStep_sl, absl_2, absl_3, absl_4, absl_8, afa_fp, afa_mp, Nat.zero_add, Nat.add_zero, Nat.reduceAdd, astep_mv, astep_alloc, astep_box, astep_build, astep_bsl, astep_ld, astep_st, astep_nilc, astep_bin, astep_un, astep_cv, astep_fa, astep_ia, astep_aa, astep_fld, astep_idx, astep_chr, astep_ext, astep_app, astep_eqb, astep_mkf, anil_mp, anil_fp, ev, Option.getD_some, aput, get_set_eq, get_set_ne, acv_int, abin_add, abin_sub, abin_mul, abin_eql, abin_neq, abin_lss, abin_leq, abin_gtr, abin_geq, abin_quo, abin_rem, Option.map_some, List.length_set, withV_some, absl_one, List.map, hl]; simp [hi]) (Tri.skip ?_))
    simp -failIfUnchanged -implicitDefEqProofs (disch := first | assumption | decide | (simp -failIfUnchanged only [List.length_set]; omega)) only [srun_nil, srun_mv, srun_op, srun_call, srun_callv, srun_pcall, callF_fn, thenE_normal, thenE_exit, thenE_ret, inBlk_normal, inBlk_same, inBlk_ret, astep_len, lenStep_sl, absl_2, absl_3, absl_4, absl_8, afa_fp, afa_mp, Nat.zero_add, Nat.add_zero, Nat.reduceAdd, astep_mv, astep_alloc, astep_box, astep_build, astep_bsl, astep_ld, astep_st, astep_nilc, astep_bin, astep_un, astep_cv, astep_fa, astep_ia, astep_aa, astep_fld, astep_idx, astep_chr, astep_ext, astep_app, astep_eqb, astep_mkf, anil_mp, anil_fp, ev, Option.getD_some, aput, get_set_eq, get_set_ne, acv_int, abin_add, abin_sub, abin_mul, abin_eql, abin_neq, abin_lss, abin_leq, abin_gtr, abin_geq, abin_quo, abin_rem, Option.map_some, List.length_set, withV_some, absl_one, List.map]
    have e1 : aia n v (.v (.int .i64 i)) = some (.fp cs 0) := hv.ia hget hlen
    have p1 : pick1 true n cs 0 = some (.agg cs) := by
      unfold pick1
      rw [if_pos rfl, if_pos (by omega), List.drop_zero, List.take_of_length_le (by omega)]
    have l0 : ∀ hp, aload hp true n (.fp cs 0) = some (.agg cs) := fun _ => p1
    have st := store_new (hp := hp4) (z := z) (n := n) (x := .agg cs) hz hlen hone
    refine Tri.seq (Tri.block (Tri.mid (fun ts hp5 => ts.length = 23 ∧ ts[0]? = some (.mp k 0) ∧ ts[2]? = some (.fn (.func g) [] []) ∧ ts[12]? = some v ∧ ts[13]? = some (i64 l.length) ∧ ts[14]? = some (i64 i) ∧ ts[7]? = some (.mp hp4.length 0) ∧ hp5[hp4.length]? = some (.cells cs false) ∧ Wr hp5 k (pre ++ encNum l.length ++ (l.take i).flatMap f) ∧ WRel hp hp5 k) (tri_region mixed ?_) ?_))
    · simp -failIfUnchanged -implicitDefEqProofs (disch := first | assumption | decide | (simp -failIfUnchanged only [List.length_set]; omega)) only [srun_nil, srun_mv, srun_op, srun_call, srun_callv, srun_pcall, callF_fn, thenE_normal, thenE_exit, thenE_ret, inBlk_normal, inBlk_same, inBlk_ret, astep_len, lenStep_sl, absl_2, absl_3, absl_4, absl_8, afa_fp, afa_mp, Nat.zero_add, Nat.add_zero, Nat.reduceAdd, astep_mv, astep_alloc, astep_box, astep_build, astep_bsl, astep_ld, astep_st, astep_nilc, astep_bin, astep_un, astep_cv, astep_fa, astep_ia, astep_aa, astep_fld, astep_idx, astep_chr, astep_ext, astep_app, astep_eqb, astep_mkf, anil_mp, anil_fp, ev, Option.getD_some, aput, get_set_eq, get_set_ne, acv_int, abin_add, abin_sub, abin_mul, abin_eql, abin_neq, abin_lss, abin_leq, abin_gtr, abin_geq, abin_quo, abin_rem, Option.map_some, List.length_set, withV_some, absl_one, List.map, hl, h0, h2, h12, h13, h14, e1, l0, st]
      exact ⟨trivial, trivial, trivial, trivial, trivial, trivial, trivial, trivial, by simp [AV.cells], wr_ext hW, hR.trans (WRel.ext _ _ _)⟩
    clear hl h0 h2 h12 h13 h14 ts hW hR
    rintro ts hp5 ⟨hl, h0, h2, h12, h13, h14, h7, hj, hW, hR⟩
    have l1 : aload hp5 true n (.mp hp4.length 0) = some (.agg cs) := aload_mp hj p1
    refine tri_region mixed ?_
    simp -failIfUnchanged -implicitDefEqProofs (disch := first | assumption | decide | (simp -failIfUnchanged only [List.length_set]; omega)) only [srun_nil, srun_mv, srun_op, srun_call, srun_callv, srun_pcall, callF_fn, thenE_normal, thenE_exit, thenE_ret, inBlk_normal, inBlk_same, inBlk_ret, astep_len, lenStep_sl, absl_2, absl_3, absl_4, absl_8, afa_fp, afa_mp, Nat.zero_add, Nat.add_zero, Nat.reduceAdd, astep_mv, astep_alloc, astep_box, astep_build, astep_bsl, astep_ld, astep_st, astep_nilc, astep_bin, astep_un, astep_cv, astep_fa, astep_ia, astep_aa, astep_fld, astep_idx, astep_chr, astep_ext, astep_app, astep_eqb, astep_mkf, anil_mp, anil_fp, ev, Option.getD_some, aput, get_set_eq, get_set_ne, acv_int, abin_add, abin_sub, abin_mul, abin_eql, abin_neq, abin_lss, abin_leq, abin_gtr, abin_geq, abin_quo, abin_rem, Option.map_some, List.length_set, withV_some, absl_one, List.map, hl, h0, h2, h7, l1]
    rw [← hav]
    refine hw x hmem _ _ _ _ hW (by simp only [List.length_append]; omega) fun hp6 hW6 hR6 => ?_
    simp -failIfUnchanged -implicitDefEqProofs (disch := first | assumption | decide | (simp -failIfUnchanged only [List.length_set]; omega)) only [srun_nil, srun_mv, srun_op, srun_call, srun_callv, srun_pcall, callF_fn, thenE_normal, thenE_exit, thenE_ret, inBlk_normal, inBlk_same, inBlk_ret, astep_len, lenStep_sl, absl_2, absl_3, absl_4, absl_8, afa_fp, afa_mp, Nat.zero_add, Nat.add_zero, Nat.reduceAdd, astep_mv, astep_alloc, astep_box, astep_build, astep_bsl, astep_ld, astep_st, astep_nilc, astep_bin, astep_un, astep_cv, astep_fa, astep_ia, astep_aa, astep_fld, astep_idx, astep_chr, astep_ext, astep_app, astep_eqb, astep_mkf, anil_mp, anil_fp, ev, Option.getD_some, aput, get_set_eq, get_set_ne, acv_int, abin_add, abin_sub, abin_mul, abin_eql, abin_neq, abin_lss, abin_leq, abin_gtr, abin_geq, abin_quo, abin_rem, Option.map_some, List.length_set, withV_some, absl_one, List.map, hl, h0, h2, h12, h13, h14]
    refine tri_region mixed ?_
    simp -failIfUnchanged -implicitDefEqProofs (disch := first | assumption | decide | (simp -failIfUnchanged only [List.length_set]; omega)) only [srun_nil, srun_mv, srun_op, srun_call, srun_callv, srun_pcall, callF_fn, thenE_normal, thenE_exit, thenE_ret, inBlk_normal, inBlk_same, inBlk_ret, astep_len, lenStep_sl, absl_2, absl_3, absl_4, absl_8, afa_fp, afa_mp, Nat.zero_add, Nat.add_zero, Nat.reduceAdd, astep_mv, astep_alloc, astep_box, astep_build, astep_bsl, astep_ld, astep_st, astep_nilc, astep_bin, astep_un, astep_cv, astep_fa, astep_ia, astep_aa, astep_fld, astep_idx, astep_chr, astep_ext, astep_app, astep_eqb, astep_mkf, anil_mp, anil_fp, ev, Option.getD_some, aput, get_set_eq, get_set_ne, acv_int, abin_add, abin_sub, abin_mul, abin_eql, abin_neq, abin_lss, abin_leq, abin_gtr, abin_geq, abin_quo, abin_rem, Option.map_some, List.length_set, withV_some, absl_one, List.map, hl, h0, h2, h12, h13, h14]
    rw [wrap_i64 (by omega) (by omega), hst, ← List.append_assoc]
    exact ⟨trivial, trivial, trivial, trivial, trivial, by simp, hW6, hR.trans hR6⟩
  · clear hl h0 h2 h12 h13 h14 ts hW hR
    rintro ts hp4 ⟨hl, h0, h2, h12, h13, h14, hW, hR⟩
    rw [List.take_length, List.append_assoc, ← e8] at hW
    refine Tri.seq (tri_region mixed ?_)
    simp -failIfUnchanged -implicitDefEqProofs (disch := first | assumption | decide | (simp -failIfUnchanged only [List.length_set]; omega)) only [srun_nil, srun_mv, srun_op, srun_call, srun_callv, srun_pcall, callF_fn, thenE_normal, thenE_exit, thenE_ret, inBlk_normal, inBlk_same, inBlk_ret, astep_len, lenStep_sl, absl_2, absl_3, absl_4, absl_8, afa_fp, afa_mp, Nat.zero_add, Nat.add_zero, Nat.reduceAdd, astep_mv, astep_alloc, astep_box, astep_build, astep_bsl, astep_ld, astep_st, astep_nilc, astep_bin, astep_un, astep_cv, astep_fa, astep_ia, astep_aa, astep_fld, astep_idx, astep_chr, astep_ext, astep_app, astep_eqb, astep_mkf, anil_mp, anil_fp, ev, Option.getD_some, aput, get_set_eq, get_set_ne, acv_int, abin_add, abin_sub, abin_mul, abin_eql, abin_neq, abin_lss, abin_leq, abin_gtr, abin_geq, abin_quo, abin_rem, Option.map_some, List.length_set, withV_some, absl_one, List.map, hl, h13, h14]
    refine Tri.seq (Tri.cond (b := false) (by simp -failIfUnchanged -implicitDefEqProofs (disch := first | assumption | decide | (simp -failIfUnchanged only [List.length_set]; omega)) only [srun_nil, srun_mv, srun_op, srun_call, srun_callv, srun_pcall, callF_fn, thenE_normal, thenE_exit, thenE_ret, inBlk_normal, inBlk_same, inBlk_ret, astep_len, lenStep_sl, absl_2, absl_3, absl_4, absl_8, afa_fp, afa_mp, Nat.zero_add, Nat.add_zero, Nat.reduceAdd, astep_mv, astep_alloc, astep_box, astep_build, astep_bsl, astep_ld, astep_st, astep_nilc, astep_bin, astep_un, astep_cv, astep_fa, astep_ia, astep_aa, astep_fld, astep_idx, astep_chr, astep_ext, astep_app, astep_eqb, astep_mkf, anil_mp, anil_fp, ev, Option.getD_some, aput, get_set_eq, get_set_ne, acv_int, abin_add, abin_sub, abin_mul, abin_eql, abin_neq, abin_lss, abin_leq, abin_gtr, abin_geq, abin_quo, abin_rem, Option.map_some, List.length_set, withV_some, absl_one, List.map, hl]; simp) (Tri.exit ?_))
    exact ⟨Or.inl rfl, _, resV_nil _, hK _ hW hR⟩

def zTok : List AV := [i64 0, i64 0, i64 0, i32 0, u16 0, u16 0, u16 0, u16 0, u16 0, u16 0, u16 0, u16 0]
def zStp : List AV := [i64 0, i64 0, i64 0, i64 0, i64 0, i64 0, i64 0, i64 0, .nsl, .nsl]
def zSet : List AV := [u16 0, u16 0, u16 0, u16 0, u16 0, u16 0, u16 0, u16 0]
def zOpr : List AV := [i64 0, i64 0, .nsl, i64 0, i64 0, i64 0]
theorem R45 : slimFn Try.prog pu 45 = some (rowFn 12 zTok) := F45
theorem R48 : slimFn Try.prog pu 48 = some (rowFn 10 zStp) := F48
theorem R49 : slimFn Try.prog pu 49 = some (rowFn 8 zSet) := F49
theorem R50 : slimFn Try.prog pu 50 = some (rowFn 6 zOpr) := F50

/-- What packs a row. -/
def packFn (row : FuncId) : SFn := ⟨11, [.s 4], .seq (.region [⟨some 4, none, .op (.mv (.c .nsl))⟩]) (.seq (.region [⟨some 5, none, .op (.alloc [.nsl])⟩])
  (.seq (.region [⟨some 6, none, .op (.mv (.t 0))⟩, ⟨some 7, none, .op (.mv (.t 1))⟩, ⟨some 8, none, .call row [.t 5, .t 6, .t 7]⟩])
  (.seq (.region [⟨some 9, none, .op (.fa 0 (.t 5))⟩, ⟨some 10, none, .op (.ld false 1 (.t 9))⟩, ⟨some 4, none, .op (.mv (.t 10))⟩]) .ret)))⟩
theorem P27 : slimFn Try.prog pu 27 = some (packFn 45) := F27
theorem P29 : slimFn Try.prog pu 29 = some (packFn 48) := F29
theorem P31 : slimFn Try.prog pu 31 = some (packFn 50) := F31

theorem packOwn {pn row : FuncId} (F : slimFn Try.prog pu pn = some (packFn row)) {v g : AV} {e : List Nat} (hw : Writes row [v, g] e) (hpos : 0 < e.length) (hfit : e.length ≤ 140737488355328) : PureOwn Try.prog pn [v, g] (bs e) 1 := by
  refine pureOwn_of (bs_clean _) (fn_ok F ?_)
  have hl : (enterS [v, g] 11).length = 11 := rfl
  have h0 : (enterS [v, g] 11)[0]? = some v := rfl
  have h1 : (enterS [v, g] 11)[1]? = some g := rfl
  show Tri _ (packFn row).body _ ⟨enterS [v, g] 11, []⟩
  generalize enterS [v, g] 11 = ts at *
  unfold packFn
  dsimp only
  refine Tri.seq (tri_region mixed ?_)
  simp -failIfUnchanged -implicitDefEqProofs (disch := first | assumption | decide | (simp -failIfUnchanged only [List.length_set]; omega)) only [srun_nil, srun_mv, srun_op, srun_call, srun_callv, srun_pcall, callF_fn, thenE_normal, thenE_exit, thenE_ret, inBlk_normal, inBlk_same, inBlk_ret, astep_len, lenStep_sl, absl_2, absl_3, absl_4, absl_8, afa_fp, afa_mp, Nat.zero_add, Nat.add_zero, Nat.reduceAdd, astep_mv, astep_alloc, astep_box, astep_build, astep_bsl, astep_ld, astep_st, astep_nilc, astep_bin, astep_un, astep_cv, astep_fa, astep_ia, astep_aa, astep_fld, astep_idx, astep_chr, astep_ext, astep_app, astep_eqb, astep_mkf, anil_mp, anil_fp, ev, Option.getD_some, aput, get_set_eq, get_set_ne, acv_int, abin_add, abin_sub, abin_mul, abin_eql, abin_neq, abin_lss, abin_leq, abin_gtr, abin_geq, abin_quo, abin_rem, Option.map_some, List.length_set, withV_some, absl_one, List.map, hl]
  refine Tri.seq (tri_region mixed ?_)
  simp -failIfUnchanged -implicitDefEqProofs (disch := first | assumption | decide | (simp -failIfUnchanged only [List.length_set]; omega)) only [srun_nil, srun_mv, srun_op, srun_call, srun_callv, srun_pcall, callF_fn, thenE_normal, thenE_exit, thenE_ret, inBlk_normal, inBlk_same, inBlk_ret, astep_len, lenStep_sl, absl_2, absl_3, absl_4, absl_8, afa_fp, afa_mp, Nat.zero_add, Nat.add_zero, Nat.reduceAdd, astep_mv, astep_alloc, astep_box, astep_build, astep_bsl, astep_ld, astep_st, astep_nilc, astep_bin, astep_un, astep_cv, astep_fa, astep_ia, astep_aa, astep_fld, astep_idx, astep_chr, astep_ext, astep_app, astep_eqb, astep_mkf, anil_mp, anil_fp, ev, Option.getD_some, aput, get_set_eq, get_set_ne, acv_int, abin_add, abin_sub, abin_mul, abin_eql, abin_neq, abin_lss, abin_leq, abin_gtr, abin_geq, abin_quo, abin_rem, Option.map_some, List.length_set, withV_some, absl_one, List.map, hl]
  refine Tri.seq (tri_region mixed ?_)
  simp -failIfUnchanged -implicitDefEqProofs (disch := first | assumption | decide | (simp -failIfUnchanged only [List.length_set]; omega)) only [srun_nil, srun_mv, srun_op, srun_call, srun_callv, srun_pcall, callF_fn, thenE_normal, thenE_exit, thenE_ret, inBlk_normal, inBlk_same, inBlk_ret, astep_len, lenStep_sl, absl_2, absl_3, absl_4, absl_8, afa_fp, afa_mp, Nat.zero_add, Nat.add_zero, Nat.reduceAdd, astep_mv, astep_alloc, astep_box, astep_build, astep_bsl, astep_ld, astep_st, astep_nilc, astep_bin, astep_un, astep_cv, astep_fa, astep_ia, astep_aa, astep_fld, astep_idx, astep_chr, astep_ext, astep_app, astep_eqb, astep_mkf, anil_mp, anil_fp, ev, Option.getD_some, aput, get_set_eq, get_set_ne, acv_int, abin_add, abin_sub, abin_mul, abin_eql, abin_neq, abin_lss, abin_leq, abin_gtr, abin_geq, abin_quo, abin_rem, Option.map_some, List.length_set, withV_some, absl_one, List.map, hl, h0, h1]
  refine hw _ 0 [] _ ⟨.nsl, rfl, Appd.nil _ _⟩ hfit fun hp' hW hR => ?_
  obtain ⟨w, hk, hA⟩ := hW
  rw [List.nil_append] at hA
  have l0 : aload hp' false 1 (.mp 0 0) = some w := aload_mp hk rfl
  simp -failIfUnchanged -implicitDefEqProofs (disch := first | assumption | decide | (simp -failIfUnchanged only [List.length_set]; omega)) only [srun_nil, srun_mv, srun_op, srun_call, srun_callv, srun_pcall, callF_fn, thenE_normal, thenE_exit, thenE_ret, inBlk_normal, inBlk_same, inBlk_ret, astep_len, lenStep_sl, absl_2, absl_3, absl_4, absl_8, afa_fp, afa_mp, Nat.zero_add, Nat.add_zero, Nat.reduceAdd, astep_mv, astep_alloc, astep_box, astep_build, astep_bsl, astep_ld, astep_st, astep_nilc, astep_bin, astep_un, astep_cv, astep_fa, astep_ia, astep_aa, astep_fld, astep_idx, astep_chr, astep_ext, astep_app, astep_eqb, astep_mkf, anil_mp, anil_fp, ev, Option.getD_some, aput, get_set_eq, get_set_ne, acv_int, abin_add, abin_sub, abin_mul, abin_eql, abin_neq, abin_lss, abin_leq, abin_gtr, abin_geq, abin_quo, abin_rem, Option.map_some, List.length_set, withV_some, absl_one, List.map, hl, h0, h1]
  refine Tri.seq (tri_region mixed ?_)
  simp -failIfUnchanged -implicitDefEqProofs (disch := first | assumption | decide | (simp -failIfUnchanged only [List.length_set]; omega)) only [srun_nil, srun_mv, srun_op, srun_call, srun_callv, srun_pcall, callF_fn, thenE_normal, thenE_exit, thenE_ret, inBlk_normal, inBlk_same, inBlk_ret, astep_len, lenStep_sl, absl_2, absl_3, absl_4, absl_8, afa_fp, afa_mp, Nat.zero_add, Nat.add_zero, Nat.reduceAdd, astep_mv, astep_alloc, astep_box, astep_build, astep_bsl, astep_ld, astep_st, astep_nilc, astep_bin, astep_un, astep_cv, astep_fa, astep_ia, astep_aa, astep_fld, astep_idx, astep_chr, astep_ext, astep_app, astep_eqb, astep_mkf, anil_mp, anil_fp, ev, Option.getD_some, aput, get_set_eq, get_set_ne, acv_int, abin_add, abin_sub, abin_mul, abin_eql, abin_neq, abin_lss, abin_leq, abin_gtr, abin_geq, abin_quo, abin_rem, Option.map_some, List.length_set, withV_some, absl_one, List.map, hl, List.length_nil, l0]
  rcases hA with ⟨rfl, e⟩ | ⟨id, rfl, hid⟩
  · exact (bs_ne hpos e).elim
  refine Tri.ret ⟨Or.inr rfl, _, resV_s (by simp -failIfUnchanged -implicitDefEqProofs (disch := first | assumption | decide | (simp -failIfUnchanged only [List.length_set]; omega)) only [srun_nil, srun_mv, srun_op, srun_call, srun_callv, srun_pcall, callF_fn, thenE_normal, thenE_exit, thenE_ret, inBlk_normal, inBlk_same, inBlk_ret, astep_len, lenStep_sl, absl_2, absl_3, absl_4, absl_8, afa_fp, afa_mp, Nat.zero_add, Nat.add_zero, Nat.reduceAdd, astep_mv, astep_alloc, astep_box, astep_build, astep_bsl, astep_ld, astep_st, astep_nilc, astep_bin, astep_un, astep_cv, astep_fa, astep_ia, astep_aa, astep_fld, astep_idx, astep_chr, astep_ext, astep_app, astep_eqb, astep_mkf, anil_mp, anil_fp, ev, Option.getD_some, aput, get_set_eq, get_set_ne, acv_int, abin_add, abin_sub, abin_mul, abin_eql, abin_neq, abin_lss, abin_leq, abin_gtr, abin_geq, abin_quo, abin_rem, Option.map_some, List.length_set, withV_some, absl_one, List.map, hl]), id, rfl, hid⟩

end Go.Proofs.Ytllgfmijocgniaa
