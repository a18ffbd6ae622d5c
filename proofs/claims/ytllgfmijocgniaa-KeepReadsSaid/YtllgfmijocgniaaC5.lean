/- The bytes of a set, by the reference. -/
import Derived.Test.YtllgfmijocgniaaC4
set_option linter.unusedVariables false
set_option linter.unusedSimpArgs false
namespace Go.Proofs.Ytllgfmijocgniaa
open Go Go.Abs Go.RowKit

@[reducible] def u16 (n : Int) : AV := .v (.int .u16 n)

def cnt (m : List Int) : Nat := (m.filter (0 < ·)).length
def encPairs : Nat → List Int → List Nat
  | _, [] => []
  | i, v :: r => (if 0 < v then encNum i ++ encNum v else []) ++ encPairs (i + 1) r
def encSet (m : List Int) : List Nat := encNum (cnt m) ++ encPairs 0 m

/-- A set's numbers. -/
def IsSet (m : List Int) : Prop := m.length = 8 ∧ ∀ v ∈ m, 0 ≤ v ∧ v < 65536

theorem encPairs_append (a : List Int) (v : Int) : ∀ k, encPairs k (a ++ [v]) = encPairs k a ++ (if 0 < v then encNum ((k + a.length : Nat) : Int) ++ encNum v else []) := by
  induction a with
  | nil => intro k; simp [encPairs]
  | cons x r ih =>
    intro k
    simp only [List.cons_append, encPairs, ih, List.append_assoc, List.length_cons]
    rw [show k + 1 + r.length = k + (r.length + 1) by omega]

theorem encPairs_step {m : List Int} {i : Nat} {v : Int} (h : m[i]? = some v) : encPairs 0 (m.take (i + 1)) = encPairs 0 (m.take i) ++ (if 0 < v then encNum (i : Int) ++ encNum v else []) := by
  rw [List.take_add_one, h]
  have hi : i < m.length := (List.getElem?_eq_some_iff.1 h).1
  have e := encPairs_append (m.take i) v 0
  rw [List.length_take, Nat.min_eq_left (by omega), Nat.zero_add] at e
  exact e
theorem cnt_step {m : List Int} {i : Nat} {v : Int} (h : m[i]? = some v) : cnt (m.take (i + 1)) = cnt (m.take i) + (if 0 < v then 1 else 0) := by
  rw [List.take_add_one, h]
  simp only [cnt, List.filter_append, List.length_append, Option.toList]
  congr 1
  by_cases hv : 0 < v <;> simp [hv]

theorem is64_u16 {v : Int} (h : 0 ≤ v ∧ v < 65536) : Is64 v := ⟨by omega, by omega⟩
theorem is64_nat {i : Nat} (h : i < 9223372036854775808) : Is64 i := ⟨by omega, by omega⟩

theorem encPairs_len (m : List Int) (h : ∀ v ∈ m, 0 ≤ v ∧ v < 65536) : ∀ k, k + m.length ≤ 9223372036854775808 → (encPairs k m).length ≤ 20 * m.length := by
  induction m with
  | nil => intro k _; simp [encPairs]
  | cons a r ih =>
    intro k hk
    have ha := encNum_len (is64_u16 (h a (by simp)))
    simp only [List.length_cons] at hk
    have hkk := encNum_len (is64_nat (i := k) (by omega))
    have := ih (fun v hv => h v (by simp [hv])) (k + 1) (by omega)
    simp only [encPairs, List.length_append, List.length_cons]
    by_cases hv : 0 < a
    · rw [if_pos hv, List.length_append]; omega
    · rw [if_neg hv, List.length_nil]; omega

theorem cnt_le (m : List Int) : cnt m ≤ m.length := List.length_filter_le _ _

/-- Bytes, maybe none, appended to bytes. -/
theorem app_any {hp : List Blk} {v x : AV} {pre e : List Nat} {F : AV → List Blk → Prop} (hA : Appd hp v (bs pre) 1) (hx : contents x = some (bs e)) (hfit : (pre ++ e).length ≤ 140737488355328)
    (k : ∀ v' hp', Appd hp' v' (bs (pre ++ e)) 1 → AppRel hp hp' v → F v' hp') : withV (aapp hp 1 1 v x) F := by
  rcases Nat.eq_zero_or_pos e.length with h0 | hpos
  · have he : e = [] := List.eq_nil_of_length_eq_zero h0
    subst he
    refine ⟨v, hp, ?_, k v hp (by rw [List.append_nil]; exact hA) ⟨Nat.le_refl _, fun _ _ _ h => h, fun _ _ _ h _ => h, fun _ _ _ h => h⟩⟩
    rcases hA with ⟨rfl, _⟩ | ⟨id, rfl, _⟩ <;> simp [aapp, hx, bs_nil]
  · have e1 : aapp hp 1 1 v x = aapp hp 1 1 v (.sl (bs e) .no) := by
      have hy : contents (.sl (bs e) .no) = some (bs e) := rfl
      unfold aapp
      rw [hx, hy]
    rw [e1]
    exact app_bs hA hpos hfit fun v' hp' a b _ => k v' hp' a b

theorem Appd.contents {hp : List Blk} {v : AV} {xs : List AV} {n : Nat} (h : Appd hp v xs n) : contents v = some xs := by
  rcases h with ⟨rfl, rfl⟩ | ⟨id, rfl, _⟩ <;> rfl

theorem set35 (m : List Int) (hm : IsSet m) : PureOwn Try.prog 35 [.agg (m.map u16)] (bs (encSet m)) 1 := by
  refine pureOwn_of (bs_clean _) (fn_ok F35 ?_)
  have hl : (enterS [.agg (m.map u16)] 30).length = 30 := rfl
  have h0 : (enterS [.agg (m.map u16)] 30)[0]? = some (.agg (m.map u16)) := rfl
  show Tri _ s35.body _ ⟨enterS [.agg (m.map u16)] 30, []⟩
  generalize enterS [.agg (m.map u16)] 30 = ts at *
  obtain ⟨hm8, hmv⟩ := hm
  unfold s35
  dsimp only
  refine Tri.mid (fun ts hp => ts.length = 30 ∧ ts[1]? = some (.mp 0 0) ∧ hp[0]? = some (.cells (m.map u16) false)) (tri_region mixed ?_) ?_
  · simp -failIfUnchanged -implicitDefEqProofs (disch := first | assumption | decide | (simp -failIfUnchanged only [List.length_set]; omega)) only [srun_nil, srun_mv, srun_op, srun_call, srun_callv, srun_pcall, callF_fn, thenE_normal, thenE_exit, thenE_ret, inBlk_normal, inBlk_same, inBlk_ret, astep_len, lenStep_sl, absl_2, absl_3, absl_4, absl_8, afa_fp, afa_mp, Nat.zero_add, Nat.add_zero, Nat.reduceAdd, astep_mv, astep_alloc, astep_box, astep_build, astep_bsl, astep_ld, astep_st, astep_nilc, astep_bin, astep_un, astep_cv, astep_fa, astep_ia, astep_aa, astep_fld, astep_idx, astep_chr, astep_ext, astep_app, astep_eqb, astep_mkf, anil_mp, anil_fp, ev, Option.getD_some, aput, get_set_eq, get_set_ne, acv_int, abin_add, abin_sub, abin_mul, abin_eql, abin_neq, abin_lss, abin_leq, abin_gtr, abin_geq, abin_quo, abin_rem, Option.map_some, List.length_set, withV_some, absl_one, List.map, hl, h0]
    simp [AV.cells]
  rintro ts hp ⟨hl, h1, hc⟩
  refine Tri.mid (fun ts hp => ts.length = 30 ∧ ts[1]? = some (.mp 0 0) ∧ hp[0]? = some (.cells (m.map u16) false) ∧ ts[3]? = some (i64 0)) (tri_region mixed ?_) ?_
  · simp -failIfUnchanged -implicitDefEqProofs (disch := first | assumption | decide | (simp -failIfUnchanged only [List.length_set]; omega)) only [srun_nil, srun_mv, srun_op, srun_call, srun_callv, srun_pcall, callF_fn, thenE_normal, thenE_exit, thenE_ret, inBlk_normal, inBlk_same, inBlk_ret, astep_len, lenStep_sl, absl_2, absl_3, absl_4, absl_8, afa_fp, afa_mp, Nat.zero_add, Nat.add_zero, Nat.reduceAdd, astep_mv, astep_alloc, astep_box, astep_build, astep_bsl, astep_ld, astep_st, astep_nilc, astep_bin, astep_un, astep_cv, astep_fa, astep_ia, astep_aa, astep_fld, astep_idx, astep_chr, astep_ext, astep_app, astep_eqb, astep_mkf, anil_mp, anil_fp, ev, Option.getD_some, aput, get_set_eq, get_set_ne, acv_int, abin_add, abin_sub, abin_mul, abin_eql, abin_neq, abin_lss, abin_leq, abin_gtr, abin_geq, abin_quo, abin_rem, Option.map_some, List.length_set, withV_some, absl_one, List.map, hl, h1]
    simp [hc]
  rintro ts hp ⟨hl, h1, hc, h3⟩
  refine Tri.mid (fun ts hp => ts.length = 30 ∧ ts[1]? = some (.mp 0 0) ∧ hp[0]? = some (.cells (m.map u16) false) ∧ ts[3]? = some (i64 0) ∧ ts[4]? = some .nsl) (tri_region mixed ?_) ?_
  · simp -failIfUnchanged -implicitDefEqProofs (disch := first | assumption | decide | (simp -failIfUnchanged only [List.length_set]; omega)) only [srun_nil, srun_mv, srun_op, srun_call, srun_callv, srun_pcall, callF_fn, thenE_normal, thenE_exit, thenE_ret, inBlk_normal, inBlk_same, inBlk_ret, astep_len, lenStep_sl, absl_2, absl_3, absl_4, absl_8, afa_fp, afa_mp, Nat.zero_add, Nat.add_zero, Nat.reduceAdd, astep_mv, astep_alloc, astep_box, astep_build, astep_bsl, astep_ld, astep_st, astep_nilc, astep_bin, astep_un, astep_cv, astep_fa, astep_ia, astep_aa, astep_fld, astep_idx, astep_chr, astep_ext, astep_app, astep_eqb, astep_mkf, anil_mp, anil_fp, ev, Option.getD_some, aput, get_set_eq, get_set_ne, acv_int, abin_add, abin_sub, abin_mul, abin_eql, abin_neq, abin_lss, abin_leq, abin_gtr, abin_geq, abin_quo, abin_rem, Option.map_some, List.length_set, withV_some, absl_one, List.map, hl, h1, h3]
    simp [hc]
  rintro ts hp ⟨hl, h1, hc, h3, h4⟩
  refine Tri.mid (fun ts hp => ts.length = 30 ∧ ts[3]? = some (i64 (cnt m)) ∧ ∃ v, ts[4]? = some v ∧ Appd hp v (bs (encPairs 0 m)) 1) ?_ ?_
  · refine Tri.mid (fun ts hp => ts.length = 30 ∧ ts[1]? = some (.mp 0 0) ∧ hp[0]? = some (.cells (m.map u16) false) ∧ ts[3]? = some (i64 0) ∧ ts[4]? = some .nsl ∧ ts[5]? = some (i64 0)) (tri_region mixed ?_) ?_
    · simp -failIfUnchanged -implicitDefEqProofs (disch := first | assumption | decide | (simp -failIfUnchanged only [List.length_set]; omega)) only [srun_nil, srun_mv, srun_op, srun_call, srun_callv, srun_pcall, callF_fn, thenE_normal, thenE_exit, thenE_ret, inBlk_normal, inBlk_same, inBlk_ret, astep_len, lenStep_sl, absl_2, absl_3, absl_4, absl_8, afa_fp, afa_mp, Nat.zero_add, Nat.add_zero, Nat.reduceAdd, astep_mv, astep_alloc, astep_box, astep_build, astep_bsl, astep_ld, astep_st, astep_nilc, astep_bin, astep_un, astep_cv, astep_fa, astep_ia, astep_aa, astep_fld, astep_idx, astep_chr, astep_ext, astep_app, astep_eqb, astep_mkf, anil_mp, anil_fp, ev, Option.getD_some, aput, get_set_eq, get_set_ne, acv_int, abin_add, abin_sub, abin_mul, abin_eql, abin_neq, abin_lss, abin_leq, abin_gtr, abin_geq, abin_quo, abin_rem, Option.map_some, List.length_set, withV_some, absl_one, List.map, hl, h1, h3, h4]
      simp [hc]
    rintro ts hp ⟨hl, h1, hc, h3, h4, h5⟩
    refine Tri.block (Tri.count (fun i ts hp => ts.length = 30 ∧ ts[1]? = some (.mp 0 0) ∧ hp[0]? = some (.cells (m.map u16) false) ∧ ts[3]? = some (i64 (cnt (m.take i))) ∧ ts[5]? = some (i64 i) ∧ ∃ v, ts[4]? = some v ∧ Appd hp v (bs (encPairs 0 (m.take i))) 1) 8
      ⟨hl, h1, hc, h3, h5, _, h4, Appd.nil _ _⟩ ?_ ?_)
    · rintro i ts hp hi ⟨hl, h1, hc, h3, h5, v, h4, hA⟩
      obtain ⟨x, hx⟩ : ∃ x, m[i]? = some x := ⟨m[i], by simp [hm8, hi]⟩
      have hxv := hmv x (List.mem_of_getElem? hx)
      refine Tri.seq (Tri.seq (tri_region mixed ?_))
      simp -failIfUnchanged -implicitDefEqProofs (disch := first | assumption | decide | (simp -failIfUnchanged only [List.length_set]; omega)) only [srun_nil, srun_mv, srun_op, srun_call, srun_callv, srun_pcall, callF_fn, thenE_normal, thenE_exit, thenE_ret, inBlk_normal, inBlk_same, inBlk_ret, astep_len, lenStep_sl, absl_2, absl_3, absl_4, absl_8, afa_fp, afa_mp, Nat.zero_add, Nat.add_zero, Nat.reduceAdd, astep_mv, astep_alloc, astep_box, astep_build, astep_bsl, astep_ld, astep_st, astep_nilc, astep_bin, astep_un, astep_cv, astep_fa, astep_ia, astep_aa, astep_fld, astep_idx, astep_chr, astep_ext, astep_app, astep_eqb, astep_mkf, anil_mp, anil_fp, ev, Option.getD_some, aput, get_set_eq, get_set_ne, acv_int, abin_add, abin_sub, abin_mul, abin_eql, abin_neq, abin_lss, abin_leq, abin_gtr, abin_geq, abin_quo, abin_rem, Option.map_some, List.length_set, withV_some, absl_one, List.map, hl, h5]
      refine Tri.cond (b := true) (by simp -failIfUnchanged -implicitDefEqProofs (disch := first | assumption | decide | (simp -failIfUnchanged only [List.length_set]; omega)) only [srun_nil, srun_mv, srun_op, srun_call, srun_callv, srun_pcall, callF_fn, thenE_normal, thenE_exit, thenE_ret, inBlk_normal, inBlk_same, inBlk_ret, astep_len, lenStep_sl, absl_2, absl_3, absl_4, absl_8, afa_fp, afa_mp, Nat.zero_add, Nat.add_zero, Nat.reduceAdd, astep_mv, astep_alloc, astep_box, astep_build, astep_bsl, astep_ld, astep_st, astep_nilc, astep_bin, astep_un, astep_cv, astep_fa, astep_ia, astep_aa, astep_fld, astep_idx, astep_chr, astep_ext, astep_app, astep_eqb, astep_mkf, anil_mp, anil_fp, ev, Option.getD_some, aput, get_set_eq, get_set_ne, acv_int, abin_add, abin_sub, abin_mul, abin_eql, abin_neq, abin_lss, abin_leq, abin_gtr, abin_geq, abin_quo, abin_rem, Option.map_some, List.length_set, withV_some, absl_one, List.map, hl]; simp; omega) ?_
      refine Tri.skip (Tri.seq (Tri.block (Tri.seq (tri_region mixed ?_))))
      have e1 : aaa 8 1 (.mp 0 0) (.v (.int .i64 i)) = some (.mp 0 i) := by simp [aaa, afa]; omega
      have e2 : ∀ hp', hp'[0]? = some (.cells (m.map u16) false) → aload hp' false 1 (.mp 0 i) = some (u16 x) := fun hp' h => aload_mp h (by simp [pick1, hx])
      simp -failIfUnchanged -implicitDefEqProofs (disch := first | assumption | decide | (simp -failIfUnchanged only [List.length_set]; omega)) only [srun_nil, srun_mv, srun_op, srun_call, srun_callv, srun_pcall, callF_fn, thenE_normal, thenE_exit, thenE_ret, inBlk_normal, inBlk_same, inBlk_ret, astep_len, lenStep_sl, absl_2, absl_3, absl_4, absl_8, afa_fp, afa_mp, Nat.zero_add, Nat.add_zero, Nat.reduceAdd, astep_mv, astep_alloc, astep_box, astep_build, astep_bsl, astep_ld, astep_st, astep_nilc, astep_bin, astep_un, astep_cv, astep_fa, astep_ia, astep_aa, astep_fld, astep_idx, astep_chr, astep_ext, astep_app, astep_eqb, astep_mkf, anil_mp, anil_fp, ev, Option.getD_some, aput, get_set_eq, get_set_ne, acv_int, abin_add, abin_sub, abin_mul, abin_eql, abin_neq, abin_lss, abin_leq, abin_gtr, abin_geq, abin_quo, abin_rem, Option.map_some, List.length_set, withV_some, absl_one, List.map, hl, h1, h5, e1, e2 hp hc]
      have es := encPairs_step hx
      have ec := cnt_step hx
      have hc8 := cnt_le (m.take i)
      have hlen := encPairs_len (m.take (i + 1)) (fun v hv => hmv v (List.mem_of_mem_take hv)) 0 (by rw [List.length_take]; omega)
      rw [List.length_take, es] at hlen
      rw [List.length_take] at hc8
      suffices H : Tri Try.prog (if decide (0 < x) = true then _ else _) _ _ from Tri.cond (b := decide (0 < x)) (by simp -failIfUnchanged -implicitDefEqProofs (disch := first | assumption | decide | (simp -failIfUnchanged only [List.length_set]; omega)) only [srun_nil, srun_mv, srun_op, srun_call, srun_callv, srun_pcall, callF_fn, thenE_normal, thenE_exit, thenE_ret, inBlk_normal, inBlk_same, inBlk_ret, astep_len, lenStep_sl, absl_2, absl_3, absl_4, absl_8, afa_fp, afa_mp, Nat.zero_add, Nat.add_zero, Nat.reduceAdd, astep_mv, astep_alloc, astep_box, astep_build, astep_bsl, astep_ld, astep_st, astep_nilc, astep_bin, astep_un, astep_cv, astep_fa, astep_ia, astep_aa, astep_fld, astep_idx, astep_chr, astep_ext, astep_app, astep_eqb, astep_mkf, anil_mp, anil_fp, ev, Option.getD_some, aput, get_set_eq, get_set_ne, acv_int, abin_add, abin_sub, abin_mul, abin_eql, abin_neq, abin_lss, abin_leq, abin_gtr, abin_geq, abin_quo, abin_rem, Option.map_some, List.length_set, withV_some, absl_one, List.map, hl]) H
      by_cases hp0 : 0 < x
      · simp only [hp0, decide_true, if_true] at es ec hlen ⊢
        refine Tri.seq (tri_region mixed ?_)
        simp -failIfUnchanged -implicitDefEqProofs (disch := first | assumption | decide | (simp -failIfUnchanged only [List.length_set]; omega)) only [srun_nil, srun_mv, srun_op, srun_call, srun_callv, srun_pcall, callF_fn, thenE_normal, thenE_exit, thenE_ret, inBlk_normal, inBlk_same, inBlk_ret, astep_len, lenStep_sl, absl_2, absl_3, absl_4, absl_8, afa_fp, afa_mp, Nat.zero_add, Nat.add_zero, Nat.reduceAdd, astep_mv, astep_alloc, astep_box, astep_build, astep_bsl, astep_ld, astep_st, astep_nilc, astep_bin, astep_un, astep_cv, astep_fa, astep_ia, astep_aa, astep_fld, astep_idx, astep_chr, astep_ext, astep_app, astep_eqb, astep_mkf, anil_mp, anil_fp, ev, Option.getD_some, aput, get_set_eq, get_set_ne, acv_int, abin_add, abin_sub, abin_mul, abin_eql, abin_neq, abin_lss, abin_leq, abin_gtr, abin_geq, abin_quo, abin_rem, Option.map_some, List.length_set, withV_some, absl_one, List.map, hl, h1, h3, h4, h5]
        refine tri_region mixed ?_
        simp -failIfUnchanged -implicitDefEqProofs (disch := first | assumption | decide | (simp -failIfUnchanged only [List.length_set]; omega)) only [srun_nil, srun_mv, srun_op, srun_call, srun_callv, srun_pcall, callF_fn, thenE_normal, thenE_exit, thenE_ret, inBlk_normal, inBlk_same, inBlk_ret, astep_len, lenStep_sl, absl_2, absl_3, absl_4, absl_8, afa_fp, afa_mp, Nat.zero_add, Nat.add_zero, Nat.reduceAdd, astep_mv, astep_alloc, astep_box, astep_build, astep_bsl, astep_ld, astep_st, astep_nilc, astep_bin, astep_un, astep_cv, astep_fa, astep_ia, astep_aa, astep_fld, astep_idx, astep_chr, astep_ext, astep_app, astep_eqb, astep_mkf, anil_mp, anil_fp, ev, Option.getD_some, aput, get_set_eq, get_set_ne, acv_int, abin_add, abin_sub, abin_mul, abin_eql, abin_neq, abin_lss, abin_leq, abin_gtr, abin_geq, abin_quo, abin_rem, Option.map_some, List.length_set, withV_some, absl_one, List.map, hl, h1, h3, h4, h5, e1]
        refine ⟨_, _, impCs1 (impC_v _), (num_own (is64_nat (by omega))).spec, ?_⟩
        simp -failIfUnchanged -implicitDefEqProofs (disch := first | assumption | decide | (simp -failIfUnchanged only [List.length_set]; omega)) only [srun_nil, srun_mv, srun_op, srun_call, srun_callv, srun_pcall, callF_fn, thenE_normal, thenE_exit, thenE_ret, inBlk_normal, inBlk_same, inBlk_ret, astep_len, lenStep_sl, absl_2, absl_3, absl_4, absl_8, afa_fp, afa_mp, Nat.zero_add, Nat.add_zero, Nat.reduceAdd, astep_mv, astep_alloc, astep_box, astep_build, astep_bsl, astep_ld, astep_st, astep_nilc, astep_bin, astep_un, astep_cv, astep_fa, astep_ia, astep_aa, astep_fld, astep_idx, astep_chr, astep_ext, astep_app, astep_eqb, astep_mkf, anil_mp, anil_fp, ev, Option.getD_some, aput, get_set_eq, get_set_ne, acv_int, abin_add, abin_sub, abin_mul, abin_eql, abin_neq, abin_lss, abin_leq, abin_gtr, abin_geq, abin_quo, abin_rem, Option.map_some, List.length_set, withV_some, absl_one, List.map, hl, h1, h3, h4, h5, e1]
        refine app_bs hA (encNum_pos _) (by rw [List.length_append] at hlen ⊢; rw [List.length_append] at hlen; omega) fun v' hp' hA' hrel _ => ?_
        have hc' := hrel.cells _ _ _ hc
        simp -failIfUnchanged -implicitDefEqProofs (disch := first | assumption | decide | (simp -failIfUnchanged only [List.length_set]; omega)) only [srun_nil, srun_mv, srun_op, srun_call, srun_callv, srun_pcall, callF_fn, thenE_normal, thenE_exit, thenE_ret, inBlk_normal, inBlk_same, inBlk_ret, astep_len, lenStep_sl, absl_2, absl_3, absl_4, absl_8, afa_fp, afa_mp, Nat.zero_add, Nat.add_zero, Nat.reduceAdd, astep_mv, astep_alloc, astep_box, astep_build, astep_bsl, astep_ld, astep_st, astep_nilc, astep_bin, astep_un, astep_cv, astep_fa, astep_ia, astep_aa, astep_fld, astep_idx, astep_chr, astep_ext, astep_app, astep_eqb, astep_mkf, anil_mp, anil_fp, ev, Option.getD_some, aput, get_set_eq, get_set_ne, acv_int, abin_add, abin_sub, abin_mul, abin_eql, abin_neq, abin_lss, abin_leq, abin_gtr, abin_geq, abin_quo, abin_rem, Option.map_some, List.length_set, withV_some, absl_one, List.map, hl, h1, h3, h4, h5, e1, e2 hp' hc']
        rw [wrap_i64 (by omega) (by omega)]
        refine ⟨_, _, impCs1 (impC_v _), (num_own (is64_u16 hxv)).spec, ?_⟩
        simp -failIfUnchanged -implicitDefEqProofs (disch := first | assumption | decide | (simp -failIfUnchanged only [List.length_set]; omega)) only [srun_nil, srun_mv, srun_op, srun_call, srun_callv, srun_pcall, callF_fn, thenE_normal, thenE_exit, thenE_ret, inBlk_normal, inBlk_same, inBlk_ret, astep_len, lenStep_sl, absl_2, absl_3, absl_4, absl_8, afa_fp, afa_mp, Nat.zero_add, Nat.add_zero, Nat.reduceAdd, astep_mv, astep_alloc, astep_box, astep_build, astep_bsl, astep_ld, astep_st, astep_nilc, astep_bin, astep_un, astep_cv, astep_fa, astep_ia, astep_aa, astep_fld, astep_idx, astep_chr, astep_ext, astep_app, astep_eqb, astep_mkf, anil_mp, anil_fp, ev, Option.getD_some, aput, get_set_eq, get_set_ne, acv_int, abin_add, abin_sub, abin_mul, abin_eql, abin_neq, abin_lss, abin_leq, abin_gtr, abin_geq, abin_quo, abin_rem, Option.map_some, List.length_set, withV_some, absl_one, List.map, hl, h1, h3, h4, h5]
        refine app_bs hA' (encNum_pos _) (by rw [List.append_assoc]; omega) fun v2 hp2 hA2 hrel2 _ => ?_
        simp -failIfUnchanged -implicitDefEqProofs (disch := first | assumption | decide | (simp -failIfUnchanged only [List.length_set]; omega)) only [srun_nil, srun_mv, srun_op, srun_call, srun_callv, srun_pcall, callF_fn, thenE_normal, thenE_exit, thenE_ret, inBlk_normal, inBlk_same, inBlk_ret, astep_len, lenStep_sl, absl_2, absl_3, absl_4, absl_8, afa_fp, afa_mp, Nat.zero_add, Nat.add_zero, Nat.reduceAdd, astep_mv, astep_alloc, astep_box, astep_build, astep_bsl, astep_ld, astep_st, astep_nilc, astep_bin, astep_un, astep_cv, astep_fa, astep_ia, astep_aa, astep_fld, astep_idx, astep_chr, astep_ext, astep_app, astep_eqb, astep_mkf, anil_mp, anil_fp, ev, Option.getD_some, aput, get_set_eq, get_set_ne, acv_int, abin_add, abin_sub, abin_mul, abin_eql, abin_neq, abin_lss, abin_leq, abin_gtr, abin_geq, abin_quo, abin_rem, Option.map_some, List.length_set, withV_some, absl_one, List.map, hl, h1, h3, h4, h5]
        refine tri_region mixed ?_
        simp -failIfUnchanged -implicitDefEqProofs (disch := first | assumption | decide | (simp -failIfUnchanged only [List.length_set]; omega)) only [srun_nil, srun_mv, srun_op, srun_call, srun_callv, srun_pcall, callF_fn, thenE_normal, thenE_exit, thenE_ret, inBlk_normal, inBlk_same, inBlk_ret, astep_len, lenStep_sl, absl_2, absl_3, absl_4, absl_8, afa_fp, afa_mp, Nat.zero_add, Nat.add_zero, Nat.reduceAdd, astep_mv, astep_alloc, astep_box, astep_build, astep_bsl, astep_ld, astep_st, astep_nilc, astep_bin, astep_un, astep_cv, astep_fa, astep_ia, astep_aa, astep_fld, astep_idx, astep_chr, astep_ext, astep_app, astep_eqb, astep_mkf, anil_mp, anil_fp, ev, Option.getD_some, aput, get_set_eq, get_set_ne, acv_int, abin_add, abin_sub, abin_mul, abin_eql, abin_neq, abin_lss, abin_leq, abin_gtr, abin_geq, abin_quo, abin_rem, Option.map_some, List.length_set, withV_some, absl_one, List.map, hl, h1, h3, h4, h5]
        rw [wrap_i64 (by omega) (by omega), wrap_i64 (by omega) (by omega), es, ec]
        refine ⟨trivial, trivial, hrel2.cells _ _ _ hc', by simp, by simp, v2, rfl, ?_⟩
        rw [← List.append_assoc]; exact hA2
      · simp only [hp0, decide_false] at es ec hlen ⊢
        refine Tri.skip ?_
        rw [inBlk_normal, thenE_normal]
        refine tri_region mixed ?_
        simp -failIfUnchanged -implicitDefEqProofs (disch := first | assumption | decide | (simp -failIfUnchanged only [List.length_set]; omega)) only [srun_nil, srun_mv, srun_op, srun_call, srun_callv, srun_pcall, callF_fn, thenE_normal, thenE_exit, thenE_ret, inBlk_normal, inBlk_same, inBlk_ret, astep_len, lenStep_sl, absl_2, absl_3, absl_4, absl_8, afa_fp, afa_mp, Nat.zero_add, Nat.add_zero, Nat.reduceAdd, astep_mv, astep_alloc, astep_box, astep_build, astep_bsl, astep_ld, astep_st, astep_nilc, astep_bin, astep_un, astep_cv, astep_fa, astep_ia, astep_aa, astep_fld, astep_idx, astep_chr, astep_ext, astep_app, astep_eqb, astep_mkf, anil_mp, anil_fp, ev, Option.getD_some, aput, get_set_eq, get_set_ne, acv_int, abin_add, abin_sub, abin_mul, abin_eql, abin_neq, abin_lss, abin_leq, abin_gtr, abin_geq, abin_quo, abin_rem, Option.map_some, List.length_set, withV_some, absl_one, List.map, hl, h1, h3, h4, h5]
        rw [wrap_i64 (by omega) (by omega), es, ec]
        exact ⟨trivial, trivial, hc, by simp, by simp, v, rfl, by simpa using hA⟩
    · rintro ts hp ⟨hl, h1, hc, h3, h5, v, h4, hA⟩
      rw [List.take_of_length_le (by omega)] at hA h3
      refine Tri.seq (Tri.seq (tri_region mixed ?_))
      simp -failIfUnchanged -implicitDefEqProofs (disch := first | assumption | decide | (simp -failIfUnchanged only [List.length_set]; omega)) only [srun_nil, srun_mv, srun_op, srun_call, srun_callv, srun_pcall, callF_fn, thenE_normal, thenE_exit, thenE_ret, inBlk_normal, inBlk_same, inBlk_ret, astep_len, lenStep_sl, absl_2, absl_3, absl_4, absl_8, afa_fp, afa_mp, Nat.zero_add, Nat.add_zero, Nat.reduceAdd, astep_mv, astep_alloc, astep_box, astep_build, astep_bsl, astep_ld, astep_st, astep_nilc, astep_bin, astep_un, astep_cv, astep_fa, astep_ia, astep_aa, astep_fld, astep_idx, astep_chr, astep_ext, astep_app, astep_eqb, astep_mkf, anil_mp, anil_fp, ev, Option.getD_some, aput, get_set_eq, get_set_ne, acv_int, abin_add, abin_sub, abin_mul, abin_eql, abin_neq, abin_lss, abin_leq, abin_gtr, abin_geq, abin_quo, abin_rem, Option.map_some, List.length_set, withV_some, absl_one, List.map, hl, h5]
      refine Tri.cond (b := false) (by simp -failIfUnchanged -implicitDefEqProofs (disch := first | assumption | decide | (simp -failIfUnchanged only [List.length_set]; omega)) only [srun_nil, srun_mv, srun_op, srun_call, srun_callv, srun_pcall, callF_fn, thenE_normal, thenE_exit, thenE_ret, inBlk_normal, inBlk_same, inBlk_ret, astep_len, lenStep_sl, absl_2, absl_3, absl_4, absl_8, afa_fp, afa_mp, Nat.zero_add, Nat.add_zero, Nat.reduceAdd, astep_mv, astep_alloc, astep_box, astep_build, astep_bsl, astep_ld, astep_st, astep_nilc, astep_bin, astep_un, astep_cv, astep_fa, astep_ia, astep_aa, astep_fld, astep_idx, astep_chr, astep_ext, astep_app, astep_eqb, astep_mkf, anil_mp, anil_fp, ev, Option.getD_some, aput, get_set_eq, get_set_ne, acv_int, abin_add, abin_sub, abin_mul, abin_eql, abin_neq, abin_lss, abin_leq, abin_gtr, abin_geq, abin_quo, abin_rem, Option.map_some, List.length_set, withV_some, absl_one, List.map, hl]; simp) ?_
      refine Tri.exit ⟨rfl, ?_⟩
      simp -failIfUnchanged -implicitDefEqProofs (disch := first | assumption | decide | (simp -failIfUnchanged only [List.length_set]; omega)) only [srun_nil, srun_mv, srun_op, srun_call, srun_callv, srun_pcall, callF_fn, thenE_normal, thenE_exit, thenE_ret, inBlk_normal, inBlk_same, inBlk_ret, astep_len, lenStep_sl, absl_2, absl_3, absl_4, absl_8, afa_fp, afa_mp, Nat.zero_add, Nat.add_zero, Nat.reduceAdd, astep_mv, astep_alloc, astep_box, astep_build, astep_bsl, astep_ld, astep_st, astep_nilc, astep_bin, astep_un, astep_cv, astep_fa, astep_ia, astep_aa, astep_fld, astep_idx, astep_chr, astep_ext, astep_app, astep_eqb, astep_mkf, anil_mp, anil_fp, ev, Option.getD_some, aput, get_set_eq, get_set_ne, acv_int, abin_add, abin_sub, abin_mul, abin_eql, abin_neq, abin_lss, abin_leq, abin_gtr, abin_geq, abin_quo, abin_rem, Option.map_some, List.length_set, withV_some, absl_one, List.map, hl, h3, h4]
      exact ⟨trivial, trivial, v, rfl, hA⟩
  rintro ts hp ⟨hl, h3, v, h4, hA⟩
  refine Tri.seq (tri_region mixed ?_)
  simp -failIfUnchanged -implicitDefEqProofs (disch := first | assumption | decide | (simp -failIfUnchanged only [List.length_set]; omega)) only [srun_nil, srun_mv, srun_op, srun_call, srun_callv, srun_pcall, callF_fn, thenE_normal, thenE_exit, thenE_ret, inBlk_normal, inBlk_same, inBlk_ret, astep_len, lenStep_sl, absl_2, absl_3, absl_4, absl_8, afa_fp, afa_mp, Nat.zero_add, Nat.add_zero, Nat.reduceAdd, astep_mv, astep_alloc, astep_box, astep_build, astep_bsl, astep_ld, astep_st, astep_nilc, astep_bin, astep_un, astep_cv, astep_fa, astep_ia, astep_aa, astep_fld, astep_idx, astep_chr, astep_ext, astep_app, astep_eqb, astep_mkf, anil_mp, anil_fp, ev, Option.getD_some, aput, get_set_eq, get_set_ne, acv_int, abin_add, abin_sub, abin_mul, abin_eql, abin_neq, abin_lss, abin_leq, abin_gtr, abin_geq, abin_quo, abin_rem, Option.map_some, List.length_set, withV_some, absl_one, List.map, hl, h3, h4]
  have hcl := cnt_le m
  have hc64 : Is64 (cnt m) := is64_nat (by omega)
  refine call_own (num_own hc64) (impCs1 (impC_v _)) fun id hp' ehp hN => ?_
  subst ehp
  simp -failIfUnchanged -implicitDefEqProofs (disch := first | assumption | decide | (simp -failIfUnchanged only [List.length_set]; omega)) only [srun_nil, srun_mv, srun_op, srun_call, srun_callv, srun_pcall, callF_fn, thenE_normal, thenE_exit, thenE_ret, inBlk_normal, inBlk_same, inBlk_ret, astep_len, lenStep_sl, absl_2, absl_3, absl_4, absl_8, afa_fp, afa_mp, Nat.zero_add, Nat.add_zero, Nat.reduceAdd, astep_mv, astep_alloc, astep_box, astep_build, astep_bsl, astep_ld, astep_st, astep_nilc, astep_bin, astep_un, astep_cv, astep_fa, astep_ia, astep_aa, astep_fld, astep_idx, astep_chr, astep_ext, astep_app, astep_eqb, astep_mkf, anil_mp, anil_fp, ev, Option.getD_some, aput, get_set_eq, get_set_ne, acv_int, abin_add, abin_sub, abin_mul, abin_eql, abin_neq, abin_lss, abin_leq, abin_gtr, abin_geq, abin_quo, abin_rem, Option.map_some, List.length_set, withV_some, absl_one, List.map, hl, h3, h4]
  refine app_any hN (Appd.contents hA) (by
    have := encPairs_len m hmv 0 (by omega)
    have := encNum_len hc64
    rw [List.length_append]; omega) fun v' hp' hA' hrel => ?_
  simp -failIfUnchanged -implicitDefEqProofs (disch := first | assumption | decide | (simp -failIfUnchanged only [List.length_set]; omega)) only [srun_nil, srun_mv, srun_op, srun_call, srun_callv, srun_pcall, callF_fn, thenE_normal, thenE_exit, thenE_ret, inBlk_normal, inBlk_same, inBlk_ret, astep_len, lenStep_sl, absl_2, absl_3, absl_4, absl_8, afa_fp, afa_mp, Nat.zero_add, Nat.add_zero, Nat.reduceAdd, astep_mv, astep_alloc, astep_box, astep_build, astep_bsl, astep_ld, astep_st, astep_nilc, astep_bin, astep_un, astep_cv, astep_fa, astep_ia, astep_aa, astep_fld, astep_idx, astep_chr, astep_ext, astep_app, astep_eqb, astep_mkf, anil_mp, anil_fp, ev, Option.getD_some, aput, get_set_eq, get_set_ne, acv_int, abin_add, abin_sub, abin_mul, abin_eql, abin_neq, abin_lss, abin_leq, abin_gtr, abin_geq, abin_quo, abin_rem, Option.map_some, List.length_set, withV_some, absl_one, List.map, hl, h3, h4]
  rcases hA' with ⟨rfl, e⟩ | ⟨id', rfl, hid⟩
  · refine (bs_ne ?_ e).elim
    rw [List.length_append]; have := encNum_pos (cnt m); omega
  refine Tri.ret ⟨Or.inr rfl, _, resV_s (by simp -failIfUnchanged -implicitDefEqProofs (disch := first | assumption | decide | (simp -failIfUnchanged only [List.length_set]; omega)) only [srun_nil, srun_mv, srun_op, srun_call, srun_callv, srun_pcall, callF_fn, thenE_normal, thenE_exit, thenE_ret, inBlk_normal, inBlk_same, inBlk_ret, astep_len, lenStep_sl, absl_2, absl_3, absl_4, absl_8, afa_fp, afa_mp, Nat.zero_add, Nat.add_zero, Nat.reduceAdd, astep_mv, astep_alloc, astep_box, astep_build, astep_bsl, astep_ld, astep_st, astep_nilc, astep_bin, astep_un, astep_cv, astep_fa, astep_ia, astep_aa, astep_fld, astep_idx, astep_chr, astep_ext, astep_app, astep_eqb, astep_mkf, anil_mp, anil_fp, ev, Option.getD_some, aput, get_set_eq, get_set_ne, acv_int, abin_add, abin_sub, abin_mul, abin_eql, abin_neq, abin_lss, abin_leq, abin_gtr, abin_geq, abin_quo, abin_rem, Option.map_some, List.length_set, withV_some, absl_one, List.map, hl]; rfl), id', rfl, hid⟩

end Go.Proofs.Ytllgfmijocgniaa
