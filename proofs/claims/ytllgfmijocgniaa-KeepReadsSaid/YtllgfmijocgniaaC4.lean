/- The bytes of numbers and of a set, by the reference. -/
import Derived.Test.YtllgfmijocgniaaC3
set_option linter.unusedVariables false
set_option linter.unusedSimpArgs false
namespace Go.Proofs.Ytllgfmijocgniaa
open Go Go.Abs Go.RowKit

@[reducible] def i64 (n : Int) : AV := .v (.int .i64 n)
def Is64 (n : Int) : Prop := -9223372036854775808 ≤ n ∧ n < 9223372036854775808

def encNum (n : Int) : List Nat := enc (zz n)
def encNums (l : List Int) : List Nat := l.flatMap encNum

theorem encNum_len {n : Int} (h : Is64 n) : (encNum n).length ≤ 10 := enc_len 10 _ (Nat.lt_of_lt_of_le (zz_lt h.1 h.2) (by decide)) (by decide)
theorem encNum_pos (n : Int) : 0 < (encNum n).length := enc_pos _
theorem bs_ne {l : List Nat} (h : 0 < l.length) : bs l ≠ [] := by
  intro e
  have := congrArg List.length e
  rw [bs_length] at this
  simp at this; rw [this] at h; simp at h

theorem bs_cells (l : List Nat) : ∀ x ∈ bs l, x.cells.length = 1 := by
  intro x hx
  obtain ⟨b, _, rfl⟩ := List.mem_map.1 hx
  rfl

theorem bs_clean (l : List Nat) : ∀ x ∈ bs l, ∀ c ∈ x.cells, Abs.Clean c := by
  intro x hx c hc
  obtain ⟨b, _, rfl⟩ := List.mem_map.1 hx
  cases hc with
  | head => exact clean_v _
  | tail _ h => cases h

theorem call_own {f : FuncId} {args args0 : List AV} {hp : List Blk} {e : List Nat} {K : AV → List Blk → Prop} (h : PureOwn Try.prog f args (bs e) 1) (hi : ImpCs args0 args)
    (hk : ∀ id hp', hp' = hp ++ [.tok e.length 1] → Appd hp' (.sl (bs e) (.tok id)) (bs e) 1 → K (.sl (bs e) (.tok id)) hp') : CallOk Try.prog f args0 hp K :=
  CallOk.own h (bs_cells e) hi (hk _ _ (by rw [bs_length]) Appd.new)

theorem impCs1 {a b : AV} (h : ImpC a b) : ImpCs [a] [b] := impCs_cons h impCs_nil

/-- Bytes appended to bytes. -/
theorem app_bs {hp : List Blk} {v : AV} {pre e : List Nat} {t : Tail} {F : AV → List Blk → Prop} (hA : Appd hp v (bs pre) 1) (hne : 0 < e.length) (hfit : (pre ++ e).length ≤ 140737488355328)
    (k : ∀ v' hp', Appd hp' v' (bs (pre ++ e)) 1 → AppRel hp hp' v → (∃ id, v' = .sl (bs (pre ++ e)) (.tok id)) → F v' hp') : withV (aapp hp 1 1 v (.sl (bs e) t)) F := by
  refine Appd.run hA (ok_bs _) (ok_bs _) (bs_ne hne) (by decide) (by decide) (by rw [bs_length, bs_length, ← List.length_append]; omega) fun v' hp' h1 h2 h3 => ?_
  rw [← bs_append] at h1 h3
  exact k v' hp' h1 h2 h3

theorem encNums_pos {l : List Int} (h : l ≠ []) : 0 < (encNums l).length := by
  cases l with
  | nil => exact (h rfl).elim
  | cons a r => simp only [encNums, List.flatMap_cons, List.length_append]; have := encNum_pos a; omega

theorem encNums_take (l : List Int) (i : Nat) : (encNums (l.take i)).length ≤ (encNums l).length := by
  conv => rhs; rw [← List.take_append_drop i l]
  simp only [encNums, List.flatMap_append, List.length_append]
  omega

theorem encNums_ge (l : List Int) : l.length ≤ (encNums l).length := by
  induction l with
  | nil => simp
  | cons a r ih =>
    have := encNum_pos a
    simp only [encNums, List.flatMap_cons, List.length_append, List.length_cons] at *
    omega

theorem encNums_step {l : List Int} {i : Nat} {n : Int} (h : l[i]? = some n) : encNums (l.take (i + 1)) = encNums (l.take i) ++ encNum n := by
  rw [List.take_add_one, h]
  simp [encNums]

theorem num_own {n : Int} (h : Is64 n) : PureOwn Try.prog 33 [i64 n] (bs (encNum n)) 1 := num33 n h.1 h.2

/-- nums -/
theorem nums34 (l : List Int) (hne : l ≠ []) (h64 : ∀ n ∈ l, Is64 n) (hfit : (encNums l).length ≤ 140737488355328) : PureOwn Try.prog 34 [.sl (l.map i64) .no] (bs (encNums l)) 1 := by
  refine pureOwn_of (bs_clean _) (fn_ok F34 ?_)
  have hll : l.length ≤ 140737488355328 := Nat.le_trans (encNums_ge l) hfit
  have hl : (enterS [.sl (l.map i64) .no] 19).length = 19 := rfl
  have h0 : (enterS [.sl (l.map i64) .no] 19)[0]? = some (.sl (l.map i64) .no) := rfl
  show Tri _ s34.body _ ⟨enterS [.sl (l.map i64) .no] 19, []⟩
  generalize enterS [.sl (l.map i64) .no] 19 = ts at *
  unfold s34
  dsimp only
  refine Tri.mid (fun ts hp => ts.length = 19 ∧ ts[0]? = some (.sl (l.map i64) .no)) (tri_region mixed ?_) ?_
  · simp -failIfUnchanged -implicitDefEqProofs (disch := first | assumption | decide | (simp -failIfUnchanged only [List.length_set]; omega)) only [srun_nil, srun_mv, srun_op, srun_call, srun_callv, srun_pcall, callF_fn, thenE_normal, thenE_exit, thenE_ret, inBlk_normal, inBlk_same, inBlk_ret, astep_len, lenStep_sl, absl_2, absl_3, absl_4, absl_8, afa_fp, afa_mp, Nat.zero_add, Nat.add_zero, Nat.reduceAdd, astep_mv, astep_alloc, astep_box, astep_build, astep_bsl, astep_ld, astep_st, astep_nilc, astep_bin, astep_un, astep_cv, astep_fa, astep_ia, astep_aa, astep_fld, astep_idx, astep_chr, astep_ext, astep_app, astep_eqb, astep_mkf, anil_mp, anil_fp, ev, Option.getD_some, aput, get_set_eq, get_set_ne, acv_int, abin_add, abin_sub, abin_mul, abin_eql, abin_neq, abin_lss, abin_leq, abin_gtr, abin_geq, abin_quo, abin_rem, Option.map_some, List.length_set, withV_some, absl_one, List.map, hl, h0]
    simp
  rintro ts hp ⟨hl, h0⟩
  refine Tri.mid (fun ts hp => ts.length = 19 ∧ ts[0]? = some (.sl (l.map i64) .no) ∧ ts[3]? = some .nsl) (tri_region mixed ?_) ?_
  · simp -failIfUnchanged -implicitDefEqProofs (disch := first | assumption | decide | (simp -failIfUnchanged only [List.length_set]; omega)) only [srun_nil, srun_mv, srun_op, srun_call, srun_callv, srun_pcall, callF_fn, thenE_normal, thenE_exit, thenE_ret, inBlk_normal, inBlk_same, inBlk_ret, astep_len, lenStep_sl, absl_2, absl_3, absl_4, absl_8, afa_fp, afa_mp, Nat.zero_add, Nat.add_zero, Nat.reduceAdd, astep_mv, astep_alloc, astep_box, astep_build, astep_bsl, astep_ld, astep_st, astep_nilc, astep_bin, astep_un, astep_cv, astep_fa, astep_ia, astep_aa, astep_fld, astep_idx, astep_chr, astep_ext, astep_app, astep_eqb, astep_mkf, anil_mp, anil_fp, ev, Option.getD_some, aput, get_set_eq, get_set_ne, acv_int, abin_add, abin_sub, abin_mul, abin_eql, abin_neq, abin_lss, abin_leq, abin_gtr, abin_geq, abin_quo, abin_rem, Option.map_some, List.length_set, withV_some, absl_one, List.map, hl, h0]
    simp
  rintro ts hp ⟨hl, h0, h3⟩
  refine Tri.mid (fun ts hp => ts.length = 19 ∧ ∃ v, ts[3]? = some v ∧ Appd hp v (bs (encNums l)) 1) ?_ ?_
  · refine Tri.mid (fun ts hp => ts.length = 19 ∧ ts[0]? = some (.sl (l.map i64) .no) ∧ ts[3]? = some .nsl ∧ ts[4]? = some (i64 0)) (tri_region mixed ?_) ?_
    · simp -failIfUnchanged -implicitDefEqProofs (disch := first | assumption | decide | (simp -failIfUnchanged only [List.length_set]; omega)) only [srun_nil, srun_mv, srun_op, srun_call, srun_callv, srun_pcall, callF_fn, thenE_normal, thenE_exit, thenE_ret, inBlk_normal, inBlk_same, inBlk_ret, astep_len, lenStep_sl, absl_2, absl_3, absl_4, absl_8, afa_fp, afa_mp, Nat.zero_add, Nat.add_zero, Nat.reduceAdd, astep_mv, astep_alloc, astep_box, astep_build, astep_bsl, astep_ld, astep_st, astep_nilc, astep_bin, astep_un, astep_cv, astep_fa, astep_ia, astep_aa, astep_fld, astep_idx, astep_chr, astep_ext, astep_app, astep_eqb, astep_mkf, anil_mp, anil_fp, ev, Option.getD_some, aput, get_set_eq, get_set_ne, acv_int, abin_add, abin_sub, abin_mul, abin_eql, abin_neq, abin_lss, abin_leq, abin_gtr, abin_geq, abin_quo, abin_rem, Option.map_some, List.length_set, withV_some, absl_one, List.map, hl, h0, h3]
      simp [i64]
    rintro ts hp ⟨hl, h0, h3, h4⟩
    refine Tri.block (Tri.count (fun i ts hp => ts.length = 19 ∧ ts[0]? = some (.sl (l.map i64) .no) ∧ ts[4]? = some (i64 i) ∧ ∃ v, ts[3]? = some v ∧ Appd hp v (bs (encNums (l.take i))) 1) l.length ⟨hl, h0, h4, _, h3, Appd.nil _ _⟩ ?_ ?_)
    · rintro i ts hp hi ⟨hl, h0, h4, v, h3, hA⟩
      obtain ⟨n, hn⟩ : ∃ n, l[i]? = some n := ⟨l[i], by simp [hi]⟩
      have hmem := List.mem_of_getElem? hn
      have hget : (l.map i64)[i]? = some (i64 n) := by simp [hn]
      refine Tri.seq (Tri.seq (tri_region mixed ?_))
      simp -failIfUnchanged -implicitDefEqProofs (disch := first | assumption | decide | (simp -failIfUnchanged only [List.length_set]; omega)) only [srun_nil, srun_mv, srun_op, srun_call, srun_callv, srun_pcall, callF_fn, thenE_normal, thenE_exit, thenE_ret, inBlk_normal, inBlk_same, inBlk_ret, astep_len, lenStep_sl, absl_2, absl_3, absl_4, absl_8, afa_fp, afa_mp, Nat.zero_add, Nat.add_zero, Nat.reduceAdd, astep_mv, astep_alloc, astep_box, astep_build, astep_bsl, astep_ld, astep_st, astep_nilc, astep_bin, astep_un, astep_cv, astep_fa, astep_ia, astep_aa, astep_fld, astep_idx, astep_chr, astep_ext, astep_app, astep_eqb, astep_mkf, anil_mp, anil_fp, ev, Option.getD_some, aput, get_set_eq, get_set_ne, acv_int, abin_add, abin_sub, abin_mul, abin_eql, abin_neq, abin_lss, abin_leq, abin_gtr, abin_geq, abin_quo, abin_rem, Option.map_some, List.length_set, withV_some, absl_one, List.map, hl, h0, h4, alen_sl, goInt]
      refine Tri.cond (b := true) (by simp -failIfUnchanged -implicitDefEqProofs (disch := first | assumption | decide | (simp -failIfUnchanged only [List.length_set]; omega)) only [srun_nil, srun_mv, srun_op, srun_call, srun_callv, srun_pcall, callF_fn, thenE_normal, thenE_exit, thenE_ret, inBlk_normal, inBlk_same, inBlk_ret, astep_len, lenStep_sl, absl_2, absl_3, absl_4, absl_8, afa_fp, afa_mp, Nat.zero_add, Nat.add_zero, Nat.reduceAdd, astep_mv, astep_alloc, astep_box, astep_build, astep_bsl, astep_ld, astep_st, astep_nilc, astep_bin, astep_un, astep_cv, astep_fa, astep_ia, astep_aa, astep_fld, astep_idx, astep_chr, astep_ext, astep_app, astep_eqb, astep_mkf, anil_mp, anil_fp, ev, Option.getD_some, aput, get_set_eq, get_set_ne, acv_int, abin_add, abin_sub, abin_mul, abin_eql, abin_neq, abin_lss, abin_leq, abin_gtr, abin_geq, abin_quo, abin_rem, Option.map_some, List.length_set, withV_some, absl_one, List.map, hl]; simp [hi]) ?_
      refine Tri.skip (Tri.seq (Tri.block (tri_region mixed ?_)))
      have e1 : aia 1 (.sl (l.map i64) .no) (.v (.int .i64 i)) = some (.fp [i64 n] 0) := aia_sl hget rfl
      have e2 : ∀ hp, aload hp false 1 (.fp [i64 n] 0) = some (i64 n) := fun hp => rfl
      simp -failIfUnchanged -implicitDefEqProofs (disch := first | assumption | decide | (simp -failIfUnchanged only [List.length_set]; omega)) only [srun_nil, srun_mv, srun_op, srun_call, srun_callv, srun_pcall, callF_fn, thenE_normal, thenE_exit, thenE_ret, inBlk_normal, inBlk_same, inBlk_ret, astep_len, lenStep_sl, absl_2, absl_3, absl_4, absl_8, afa_fp, afa_mp, Nat.zero_add, Nat.add_zero, Nat.reduceAdd, astep_mv, astep_alloc, astep_box, astep_build, astep_bsl, astep_ld, astep_st, astep_nilc, astep_bin, astep_un, astep_cv, astep_fa, astep_ia, astep_aa, astep_fld, astep_idx, astep_chr, astep_ext, astep_app, astep_eqb, astep_mkf, anil_mp, anil_fp, ev, Option.getD_some, aput, get_set_eq, get_set_ne, acv_int, abin_add, abin_sub, abin_mul, abin_eql, abin_neq, abin_lss, abin_leq, abin_gtr, abin_geq, abin_quo, abin_rem, Option.map_some, List.length_set, withV_some, absl_one, List.map, hl, h0, h3, h4, alen_sl, goInt, e1, e2]
      refine call_own (num_own (h64 n hmem)) (impCs1 (impC_v _)) fun id hp' ehp _ => ?_
      have hstep := encNums_step hn
      have hle := encNums_take l (i + 1)
      subst ehp
      refine app_bs hA.ext (encNum_pos n) (by rw [← hstep]; omega) fun v' hp' hA' hrel hv => ?_
      simp -failIfUnchanged -implicitDefEqProofs (disch := first | assumption | decide | (simp -failIfUnchanged only [List.length_set]; omega)) only [srun_nil, srun_mv, srun_op, srun_call, srun_callv, srun_pcall, callF_fn, thenE_normal, thenE_exit, thenE_ret, inBlk_normal, inBlk_same, inBlk_ret, astep_len, lenStep_sl, absl_2, absl_3, absl_4, absl_8, afa_fp, afa_mp, Nat.zero_add, Nat.add_zero, Nat.reduceAdd, astep_mv, astep_alloc, astep_box, astep_build, astep_bsl, astep_ld, astep_st, astep_nilc, astep_bin, astep_un, astep_cv, astep_fa, astep_ia, astep_aa, astep_fld, astep_idx, astep_chr, astep_ext, astep_app, astep_eqb, astep_mkf, anil_mp, anil_fp, ev, Option.getD_some, aput, get_set_eq, get_set_ne, acv_int, abin_add, abin_sub, abin_mul, abin_eql, abin_neq, abin_lss, abin_leq, abin_gtr, abin_geq, abin_quo, abin_rem, Option.map_some, List.length_set, withV_some, absl_one, List.map, hl, h0, h3, h4]
      refine tri_region mixed ?_
      simp -failIfUnchanged -implicitDefEqProofs (disch := first | assumption | decide | (simp -failIfUnchanged only [List.length_set]; omega)) only [srun_nil, srun_mv, srun_op, srun_call, srun_callv, srun_pcall, callF_fn, thenE_normal, thenE_exit, thenE_ret, inBlk_normal, inBlk_same, inBlk_ret, astep_len, lenStep_sl, absl_2, absl_3, absl_4, absl_8, afa_fp, afa_mp, Nat.zero_add, Nat.add_zero, Nat.reduceAdd, astep_mv, astep_alloc, astep_box, astep_build, astep_bsl, astep_ld, astep_st, astep_nilc, astep_bin, astep_un, astep_cv, astep_fa, astep_ia, astep_aa, astep_fld, astep_idx, astep_chr, astep_ext, astep_app, astep_eqb, astep_mkf, anil_mp, anil_fp, ev, Option.getD_some, aput, get_set_eq, get_set_ne, acv_int, abin_add, abin_sub, abin_mul, abin_eql, abin_neq, abin_lss, abin_leq, abin_gtr, abin_geq, abin_quo, abin_rem, Option.map_some, List.length_set, withV_some, absl_one, List.map, hl, h0, h3, h4]
      rw [wrap_i64 (by omega) (by omega), hstep]
      exact ⟨trivial, trivial, by simp, v', rfl, hA'⟩
    · rintro ts hp ⟨hl, h0, h4, v, h3, hA⟩
      refine Tri.seq (Tri.seq (tri_region mixed ?_))
      simp -failIfUnchanged -implicitDefEqProofs (disch := first | assumption | decide | (simp -failIfUnchanged only [List.length_set]; omega)) only [srun_nil, srun_mv, srun_op, srun_call, srun_callv, srun_pcall, callF_fn, thenE_normal, thenE_exit, thenE_ret, inBlk_normal, inBlk_same, inBlk_ret, astep_len, lenStep_sl, absl_2, absl_3, absl_4, absl_8, afa_fp, afa_mp, Nat.zero_add, Nat.add_zero, Nat.reduceAdd, astep_mv, astep_alloc, astep_box, astep_build, astep_bsl, astep_ld, astep_st, astep_nilc, astep_bin, astep_un, astep_cv, astep_fa, astep_ia, astep_aa, astep_fld, astep_idx, astep_chr, astep_ext, astep_app, astep_eqb, astep_mkf, anil_mp, anil_fp, ev, Option.getD_some, aput, get_set_eq, get_set_ne, acv_int, abin_add, abin_sub, abin_mul, abin_eql, abin_neq, abin_lss, abin_leq, abin_gtr, abin_geq, abin_quo, abin_rem, Option.map_some, List.length_set, withV_some, absl_one, List.map, hl, h0, h4, alen_sl, goInt]
      refine Tri.cond (b := false) (by simp -failIfUnchanged -implicitDefEqProofs (disch := first | assumption | decide | (simp -failIfUnchanged only [List.length_set]; omega)) only [srun_nil, srun_mv, srun_op, srun_call, srun_callv, srun_pcall, callF_fn, thenE_normal, thenE_exit, thenE_ret, inBlk_normal, inBlk_same, inBlk_ret, astep_len, lenStep_sl, absl_2, absl_3, absl_4, absl_8, afa_fp, afa_mp, Nat.zero_add, Nat.add_zero, Nat.reduceAdd, astep_mv, astep_alloc, astep_box, astep_build, astep_bsl, astep_ld, astep_st, astep_nilc, astep_bin, astep_un, astep_cv, astep_fa, astep_ia, astep_aa, astep_fld, astep_idx, astep_chr, astep_ext, astep_app, astep_eqb, astep_mkf, anil_mp, anil_fp, ev, Option.getD_some, aput, get_set_eq, get_set_ne, acv_int, abin_add, abin_sub, abin_mul, abin_eql, abin_neq, abin_lss, abin_leq, abin_gtr, abin_geq, abin_quo, abin_rem, Option.map_some, List.length_set, withV_some, absl_one, List.map, hl]; simp) ?_
      refine Tri.exit ⟨rfl, ?_⟩
      rw [List.take_length] at hA
      simp -failIfUnchanged -implicitDefEqProofs (disch := first | assumption | decide | (simp -failIfUnchanged only [List.length_set]; omega)) only [srun_nil, srun_mv, srun_op, srun_call, srun_callv, srun_pcall, callF_fn, thenE_normal, thenE_exit, thenE_ret, inBlk_normal, inBlk_same, inBlk_ret, astep_len, lenStep_sl, absl_2, absl_3, absl_4, absl_8, afa_fp, afa_mp, Nat.zero_add, Nat.add_zero, Nat.reduceAdd, astep_mv, astep_alloc, astep_box, astep_build, astep_bsl, astep_ld, astep_st, astep_nilc, astep_bin, astep_un, astep_cv, astep_fa, astep_ia, astep_aa, astep_fld, astep_idx, astep_chr, astep_ext, astep_app, astep_eqb, astep_mkf, anil_mp, anil_fp, ev, Option.getD_some, aput, get_set_eq, get_set_ne, acv_int, abin_add, abin_sub, abin_mul, abin_eql, abin_neq, abin_lss, abin_leq, abin_gtr, abin_geq, abin_quo, abin_rem, Option.map_some, List.length_set, withV_some, absl_one, List.map, hl, h3]
      exact ⟨trivial, v, rfl, hA⟩
  rintro ts hp ⟨hl, v, h3, hA⟩
  refine Tri.seq (tri_region mixed ?_)
  simp -failIfUnchanged -implicitDefEqProofs (disch := first | assumption | decide | (simp -failIfUnchanged only [List.length_set]; omega)) only [srun_nil, srun_mv, srun_op, srun_call, srun_callv, srun_pcall, callF_fn, thenE_normal, thenE_exit, thenE_ret, inBlk_normal, inBlk_same, inBlk_ret, astep_len, lenStep_sl, absl_2, absl_3, absl_4, absl_8, afa_fp, afa_mp, Nat.zero_add, Nat.add_zero, Nat.reduceAdd, astep_mv, astep_alloc, astep_box, astep_build, astep_bsl, astep_ld, astep_st, astep_nilc, astep_bin, astep_un, astep_cv, astep_fa, astep_ia, astep_aa, astep_fld, astep_idx, astep_chr, astep_ext, astep_app, astep_eqb, astep_mkf, anil_mp, anil_fp, ev, Option.getD_some, aput, get_set_eq, get_set_ne, acv_int, abin_add, abin_sub, abin_mul, abin_eql, abin_neq, abin_lss, abin_leq, abin_gtr, abin_geq, abin_quo, abin_rem, Option.map_some, List.length_set, withV_some, absl_one, List.map, hl, h3]
  rcases hA with ⟨rfl, e⟩ | ⟨id, rfl, hid⟩
  · exact (bs_ne (encNums_pos hne) e).elim
  refine Tri.ret ⟨Or.inr rfl, _, resV_s (by simp -failIfUnchanged -implicitDefEqProofs (disch := first | assumption | decide | (simp -failIfUnchanged only [List.length_set]; omega)) only [srun_nil, srun_mv, srun_op, srun_call, srun_callv, srun_pcall, callF_fn, thenE_normal, thenE_exit, thenE_ret, inBlk_normal, inBlk_same, inBlk_ret, astep_len, lenStep_sl, absl_2, absl_3, absl_4, absl_8, afa_fp, afa_mp, Nat.zero_add, Nat.add_zero, Nat.reduceAdd, astep_mv, astep_alloc, astep_box, astep_build, astep_bsl, astep_ld, astep_st, astep_nilc, astep_bin, astep_un, astep_cv, astep_fa, astep_ia, astep_aa, astep_fld, astep_idx, astep_chr, astep_ext, astep_app, astep_eqb, astep_mkf, anil_mp, anil_fp, ev, Option.getD_some, aput, get_set_eq, get_set_ne, acv_int, abin_add, abin_sub, abin_mul, abin_eql, abin_neq, abin_lss, abin_leq, abin_gtr, abin_geq, abin_quo, abin_rem, Option.map_some, List.length_set, withV_some, absl_one, List.map, hl]), id, rfl, hid⟩

end Go.Proofs.Ytllgfmijocgniaa
