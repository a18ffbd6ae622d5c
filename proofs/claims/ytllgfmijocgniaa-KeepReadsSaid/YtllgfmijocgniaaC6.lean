/- The bytes of tokens, by the reference. -/
import Derived.Test.YtllgfmijocgniaaC5
set_option linter.unusedVariables false
set_option linter.unusedSimpArgs false
namespace Go.Proofs.Ytllgfmijocgniaa
open Go Go.Abs Go.RowKit

structure Tok where
  kind : Int
  typ : Int
  attr : Int
  rune : Int
  marks : List Int

@[reducible] def i32 (n : Int) : AV := .v (.int .i32 n)
def setAV (m : List Int) : AV := .agg (m.map u16)

def Tok.cs (t : Tok) : List AV := i64 t.kind :: i64 t.typ :: i64 t.attr :: i32 t.rune :: t.marks.map u16
def Tok.av (t : Tok) : AV := .agg t.cs
def Is32 (n : Int) : Prop := -2147483648 ≤ n ∧ n < 2147483648
structure Tok.Ok (t : Tok) : Prop where
  kind : Is64 t.kind
  typ : Is64 t.typ
  attr : Is64 t.attr
  rune : Is32 t.rune
  marks : IsSet t.marks

def encTok (t : Tok) : List Nat := encNums [t.kind, t.typ, t.attr, t.rune] ++ encSet t.marks
def encMany {α : Type} (f : α → List Nat) (l : List α) : List Nat := encNum l.length ++ l.flatMap f
def encToks (l : List Tok) : List Nat := encMany encTok l

theorem Is32.is64 {n : Int} (h : Is32 n) : Is64 n := ⟨by have := h.1; omega, by have := h.2; omega⟩

theorem flat_take {α : Type} (f : α → List Nat) (l : List α) (i : Nat) : ((l.take i).flatMap f).length ≤ (l.flatMap f).length := by
  conv => rhs; rw [← List.take_append_drop i l]
  simp only [List.flatMap_append, List.length_append]
  omega
theorem flat_step {α : Type} (f : α → List Nat) {l : List α} {i : Nat} {x : α} (h : l[i]? = some x) : (l.take (i + 1)).flatMap f = (l.take i).flatMap f ++ f x := by
  rw [List.take_add_one, h]
  simp
theorem flat_ge {α : Type} (f : α → List Nat) (l : List α) (h : ∀ x, 0 < (f x).length) : l.length ≤ (l.flatMap f).length := by
  induction l with
  | nil => simp
  | cons a r ih =>
    have := h a
    simp only [List.flatMap_cons, List.length_append, List.length_cons] at *
    omega
theorem encSet_pos (m : List Int) : 0 < (encSet m).length := by
  unfold encSet; rw [List.length_append]; have := encNum_pos (cnt m); omega
theorem encTok_pos (t : Tok) : 0 < (encTok t).length := by
  unfold encTok; rw [List.length_append]; have := encSet_pos t.marks; omega
theorem encMany_pos {α : Type} (f : α → List Nat) (l : List α) : 0 < (encMany f l).length := by
  unfold encMany; rw [List.length_append]; have := encNum_pos l.length; omega

theorem clean_set (m : List Int) : Abs.Clean (setAV m) := clean_agg fun c hc => by
  obtain ⟨b, _, rfl⟩ := List.mem_map.1 hc
  exact clean_v _
theorem clean_ints (l : List Int) : ∀ x ∈ l.map i64, ∀ c ∈ x.cells, Abs.Clean c := by
  intro x hx c hc
  obtain ⟨b, _, rfl⟩ := List.mem_map.1 hx
  cases hc with
  | head => exact clean_v _
  | tail _ h => cases h

/-- Calls of nums. -/
theorem call_nums {l : List Int} {hp : List Blk} {t : Tail} {K : AV → List Blk → Prop} (hne : l ≠ []) (h64 : ∀ n ∈ l, Is64 n) (hfit : (encNums l).length ≤ 140737488355328)
    (hk : ∀ id hp', hp' = hp ++ [.tok (encNums l).length 1] → Appd hp' (.sl (bs (encNums l)) (.tok id)) (bs (encNums l)) 1 → K (.sl (bs (encNums l)) (.tok id)) hp') : CallOk Try.prog 34 [.sl (l.map i64) t] hp K :=
  call_own (nums34 l hne h64 hfit) (impCs1 (clean_sl (clean_ints l))) hk

theorem pick_set {m : List Int} (h : m.length = 8) (a b c d : AV) : pick1 true 8 (a :: b :: c :: d :: m.map u16) 4 = some (setAV m) := by
  unfold pick1
  rw [if_pos rfl, if_pos (by simp [h])]
  simp only [List.drop_succ_cons, List.drop_zero]
  rw [List.take_of_length_le (by simp [h])]
  rfl


theorem tokens12 (v : AV) (l : List Tok) (hv : Slc v (l.map Tok.av)) (hok : ∀ t ∈ l, t.Ok) (hfit : (encToks l).length ≤ 140737488355328) : PureOwn Try.prog 12 [v] (bs (encToks l)) 1 := by
  refine pureOwn_of (bs_clean _) (fn_ok F12 ?_)
  have hl : (enterS [v] 48).length = 48 := rfl
  have h0 : (enterS [v] 48)[0]? = some v := rfl
  show Tri _ s12.body _ ⟨enterS [v] 48, []⟩
  generalize enterS [v] 48 = ts at *
  have hlen : l.length ≤ 140737488355328 := by
    have := flat_ge encTok l encTok_pos
    unfold encToks encMany at hfit; rw [List.length_append] at hfit; omega
  have h64l : Is64 (l.length : Nat) := is64_nat (by omega)
  unfold s12
  dsimp only
  refine Tri.mid (fun ts hp => ts.length = 48 ∧ ts[0]? = some v) (tri_region mixed ?_) ?_
  · simp -failIfUnchanged -implicitDefEqProofs (disch := first | assumption | decide | (simp -failIfUnchanged only [List.length_set]; omega)) only [srun_nil, srun_mv, srun_op, srun_call, srun_callv, srun_pcall, callF_fn, thenE_normal, thenE_exit, thenE_ret, inBlk_normal, inBlk_same, inBlk_ret, astep_len, lenStep_sl, absl_2, absl_3, absl_4, absl_8, afa_fp, afa_mp, Nat.zero_add, Nat.add_zero, Nat.reduceAdd, astep_mv, astep_alloc, astep_box, astep_build, astep_bsl, astep_ld, astep_st, astep_nilc, astep_bin, astep_un, astep_cv, astep_fa, astep_ia, astep_aa, astep_fld, astep_idx, astep_chr, astep_ext, astep_app, astep_eqb, astep_mkf, anil_mp, anil_fp, ev, Option.getD_some, aput, get_set_eq, get_set_ne, acv_int, abin_add, abin_sub, abin_mul, abin_eql, abin_neq, abin_lss, abin_leq, abin_gtr, abin_geq, abin_quo, abin_rem, Option.map_some, List.length_set, withV_some, absl_one, List.map, hl, h0]
    simp
  rintro ts hp ⟨hl, h0⟩
  refine Tri.mid (fun ts hp => ts.length = 48 ∧ ts[0]? = some v ∧ ∃ v3, ts[3]? = some v3 ∧ Appd hp v3 (bs (encNum l.length)) 1) (tri_region mixed ?_) ?_
  · simp -failIfUnchanged -implicitDefEqProofs (disch := first | assumption | decide | (simp -failIfUnchanged only [List.length_set]; omega)) only [srun_nil, srun_mv, srun_op, srun_call, srun_callv, srun_pcall, callF_fn, thenE_normal, thenE_exit, thenE_ret, inBlk_normal, inBlk_same, inBlk_ret, astep_len, lenStep_sl, absl_2, absl_3, absl_4, absl_8, afa_fp, afa_mp, Nat.zero_add, Nat.add_zero, Nat.reduceAdd, astep_mv, astep_alloc, astep_box, astep_build, astep_bsl, astep_ld, astep_st, astep_nilc, astep_bin, astep_un, astep_cv, astep_fa, astep_ia, astep_aa, astep_fld, astep_idx, astep_chr, astep_ext, astep_app, astep_eqb, astep_mkf, anil_mp, anil_fp, ev, Option.getD_some, aput, get_set_eq, get_set_ne, acv_int, abin_add, abin_sub, abin_mul, abin_eql, abin_neq, abin_lss, abin_leq, abin_gtr, abin_geq, abin_quo, abin_rem, Option.map_some, List.length_set, withV_some, absl_one, List.map, hl, h0, hv.lenStep, goInt, List.length_map]
    refine call_own (num_own h64l) (impCs1 (impC_v _)) fun id hp' ehp hA => ?_
    simp -failIfUnchanged -implicitDefEqProofs (disch := first | assumption | decide | (simp -failIfUnchanged only [List.length_set]; omega)) only [srun_nil, srun_mv, srun_op, srun_call, srun_callv, srun_pcall, callF_fn, thenE_normal, thenE_exit, thenE_ret, inBlk_normal, inBlk_same, inBlk_ret, astep_len, lenStep_sl, absl_2, absl_3, absl_4, absl_8, afa_fp, afa_mp, Nat.zero_add, Nat.add_zero, Nat.reduceAdd, astep_mv, astep_alloc, astep_box, astep_build, astep_bsl, astep_ld, astep_st, astep_nilc, astep_bin, astep_un, astep_cv, astep_fa, astep_ia, astep_aa, astep_fld, astep_idx, astep_chr, astep_ext, astep_app, astep_eqb, astep_mkf, anil_mp, anil_fp, ev, Option.getD_some, aput, get_set_eq, get_set_ne, acv_int, abin_add, abin_sub, abin_mul, abin_eql, abin_neq, abin_lss, abin_leq, abin_gtr, abin_geq, abin_quo, abin_rem, Option.map_some, List.length_set, withV_some, absl_one, List.map, hl, h0]
    exact ⟨trivial, trivial, trivial, _, rfl, hA⟩
  rintro ts hp ⟨hl, h0, v3, h3, hA⟩
  refine Tri.mid (fun ts hp => ts.length = 48 ∧ ∃ v3, ts[3]? = some v3 ∧ Appd hp v3 (bs (encToks l)) 1) ?_ ?_
  · refine Tri.mid (fun ts hp => ts.length = 48 ∧ ts[0]? = some v ∧ ts[4]? = some (i64 0) ∧ ∃ v3, ts[3]? = some v3 ∧ Appd hp v3 (bs (encNum l.length)) 1) (tri_region mixed ?_) ?_
    · simp -failIfUnchanged -implicitDefEqProofs (disch := first | assumption | decide | (simp -failIfUnchanged only [List.length_set]; omega)) only [srun_nil, srun_mv, srun_op, srun_call, srun_callv, srun_pcall, callF_fn, thenE_normal, thenE_exit, thenE_ret, inBlk_normal, inBlk_same, inBlk_ret, astep_len, lenStep_sl, absl_2, absl_3, absl_4, absl_8, afa_fp, afa_mp, Nat.zero_add, Nat.add_zero, Nat.reduceAdd, astep_mv, astep_alloc, astep_box, astep_build, astep_bsl, astep_ld, astep_st, astep_nilc, astep_bin, astep_un, astep_cv, astep_fa, astep_ia, astep_aa, astep_fld, astep_idx, astep_chr, astep_ext, astep_app, astep_eqb, astep_mkf, anil_mp, anil_fp, ev, Option.getD_some, aput, get_set_eq, get_set_ne, acv_int, abin_add, abin_sub, abin_mul, abin_eql, abin_neq, abin_lss, abin_leq, abin_gtr, abin_geq, abin_quo, abin_rem, Option.map_some, List.length_set, withV_some, absl_one, List.map, hl, h0, h3]
      exact ⟨trivial, trivial, trivial, trivial, v3, rfl, hA⟩
    rintro ts hp ⟨hl, h0, h4, v3, h3, hA⟩
    refine Tri.block (Tri.count (fun i ts hp => ts.length = 48 ∧ ts[0]? = some v ∧ ts[4]? = some (i64 i) ∧ ∃ v3, ts[3]? = some v3 ∧ Appd hp v3 (bs (encNum l.length ++ (l.take i).flatMap encTok)) 1) l.length
      ⟨hl, h0, h4, v3, h3, by simpa using hA⟩ ?_ ?_)
    · clear hA h3 v3 h4 h0 hl
      rintro i ts hp hi ⟨hl, h0, h4, v3, h3, hA⟩
      obtain ⟨t, ht⟩ : ∃ t, l[i]? = some t := ⟨l[i], by simp [hi]⟩
      have hto := hok t (List.mem_of_getElem? ht)
      have hget : (l.map Tok.av)[i]? = some t.av := by simp [ht]
      have hst := flat_step encTok ht
      have hle := flat_take encTok l (i + 1)
      rw [hst] at hle
      have hfit' : (encNum l.length ++ (l.take i).flatMap encTok ++ encTok t).length ≤ 140737488355328 := by
        unfold encToks encMany at hfit; rw [List.length_append] at hfit hle; simp only [List.length_append]; omega
      refine Tri.seq (Tri.seq (tri_region mixed ?_))
      simp -failIfUnchanged -implicitDefEqProofs (disch := first | assumption | decide | (simp -failIfUnchanged only [List.length_set]; omega)) only [srun_nil, srun_mv, srun_op, srun_call, srun_callv, srun_pcall, callF_fn, thenE_normal, thenE_exit, thenE_ret, inBlk_normal, inBlk_same, inBlk_ret, astep_len, lenStep_sl, absl_2, absl_3, absl_4, absl_8, afa_fp, afa_mp, Nat.zero_add, Nat.add_zero, Nat.reduceAdd, astep_mv, astep_alloc, astep_box, astep_build, astep_bsl, astep_ld, astep_st, astep_nilc, astep_bin, astep_un, astep_cv, astep_fa, astep_ia, astep_aa, astep_fld, astep_idx, astep_chr, astep_ext, astep_app, astep_eqb, astep_mkf, anil_mp, anil_fp, ev, Option.getD_some, aput, get_set_eq, get_set_ne, acv_int, abin_add, abin_sub, abin_mul, abin_eql, abin_neq, abin_lss, abin_leq, abin_gtr, abin_geq, abin_quo, abin_rem, Option.map_some, List.length_set, withV_some, absl_one, List.map, hl, h0, h4, hv.lenStep, goInt, List.length_map]
      refine Tri.cond (b := true) (by simp -failIfUnchanged -implicitDefEqProofs (disch := first | assumption | decide | (simp -failIfUnchanged only [List.length_set]; omega)) only [srun_nil, srun_mv, srun_op, srun_call, srun_callv, srun_pcall, callF_fn, thenE_normal, thenE_exit, thenE_ret, inBlk_normal, inBlk_same, inBlk_ret, astep_len, lenStep_sl, absl_2, absl_3, absl_4, absl_8, afa_fp, afa_mp, Nat.zero_add, Nat.add_zero, Nat.reduceAdd, astep_mv, astep_alloc, astep_box, astep_build, astep_bsl, astep_ld, astep_st, astep_nilc, astep_bin, astep_un, astep_cv, astep_fa, astep_ia, astep_aa, astep_fld, astep_idx, astep_chr, astep_ext, astep_app, astep_eqb, astep_mkf, anil_mp, anil_fp, ev, Option.getD_some, aput, get_set_eq, get_set_ne, acv_int, abin_add, abin_sub, abin_mul, abin_eql, abin_neq, abin_lss, abin_leq, abin_gtr, abin_geq, abin_quo, abin_rem, Option.map_some, List.length_set, withV_some, absl_one, List.map, hl]; simp [hi]) ?_
      refine Tri.skip (Tri.seq (Tri.block (Tri.seq (tri_region mixed ?_))))
      have e1 : aia 12 v (.v (.int .i64 i)) = some (.fp t.cs 0) := hv.ia hget (by simp [Tok.av, AV.cells, Tok.cs, hto.marks.1])
      have l0 : ∀ hp, aload hp false 1 (.fp t.cs 0) = some (i64 t.kind) := fun _ => rfl
      have l1 : ∀ hp, aload hp false 1 (.fp t.cs 1) = some (i64 t.typ) := fun _ => rfl
      have l2 : ∀ hp, aload hp false 1 (.fp t.cs 2) = some (i64 t.attr) := fun _ => rfl
      have l3 : ∀ hp, aload hp false 1 (.fp t.cs 3) = some (i32 t.rune) := fun _ => rfl
      have l4 : ∀ hp, aload hp true 8 (.fp t.cs 4) = some (setAV t.marks) := fun _ => pick_set hto.marks.1 _ _ _ _
      have hr64 := hto.rune.is64
      have het : encTok t = encNums [t.kind, t.typ, t.attr, t.rune] ++ encSet t.marks := rfl
      simp -failIfUnchanged -implicitDefEqProofs (disch := first | assumption | decide | (simp -failIfUnchanged only [List.length_set]; omega)) only [srun_nil, srun_mv, srun_op, srun_call, srun_callv, srun_pcall, callF_fn, thenE_normal, thenE_exit, thenE_ret, inBlk_normal, inBlk_same, inBlk_ret, astep_len, lenStep_sl, absl_2, absl_3, absl_4, absl_8, afa_fp, afa_mp, Nat.zero_add, Nat.add_zero, Nat.reduceAdd, astep_mv, astep_alloc, astep_box, astep_build, astep_bsl, astep_ld, astep_st, astep_nilc, astep_bin, astep_un, astep_cv, astep_fa, astep_ia, astep_aa, astep_fld, astep_idx, astep_chr, astep_ext, astep_app, astep_eqb, astep_mkf, anil_mp, anil_fp, ev, Option.getD_some, aput, get_set_eq, get_set_ne, acv_int, abin_add, abin_sub, abin_mul, abin_eql, abin_neq, abin_lss, abin_leq, abin_gtr, abin_geq, abin_quo, abin_rem, Option.map_some, List.length_set, withV_some, absl_one, List.map, hl, h0, h3, h4, e1, l0, l1, l2, l3]
      rw [wrap_i64 hr64.1 (by have := hr64.2; omega)]
      have hf1 : (encNums [t.kind, t.typ, t.attr, t.rune]).length ≤ 140737488355328 := by
        rw [het] at hfit'; simp only [List.length_append] at hfit'; omega
      refine call_nums (l := [t.kind, t.typ, t.attr, t.rune]) (by simp) (by simp; exact ⟨hto.kind, hto.typ, hto.attr, hr64⟩) hf1 fun id hp' ehp hN => ?_
      subst ehp
      simp -failIfUnchanged -implicitDefEqProofs (disch := first | assumption | decide | (simp -failIfUnchanged only [List.length_set]; omega)) only [srun_nil, srun_mv, srun_op, srun_call, srun_callv, srun_pcall, callF_fn, thenE_normal, thenE_exit, thenE_ret, inBlk_normal, inBlk_same, inBlk_ret, astep_len, lenStep_sl, absl_2, absl_3, absl_4, absl_8, afa_fp, afa_mp, Nat.zero_add, Nat.add_zero, Nat.reduceAdd, astep_mv, astep_alloc, astep_box, astep_build, astep_bsl, astep_ld, astep_st, astep_nilc, astep_bin, astep_un, astep_cv, astep_fa, astep_ia, astep_aa, astep_fld, astep_idx, astep_chr, astep_ext, astep_app, astep_eqb, astep_mkf, anil_mp, anil_fp, ev, Option.getD_some, aput, get_set_eq, get_set_ne, acv_int, abin_add, abin_sub, abin_mul, abin_eql, abin_neq, abin_lss, abin_leq, abin_gtr, abin_geq, abin_quo, abin_rem, Option.map_some, List.length_set, withV_some, absl_one, List.map, hl, h0, h3, h4]
      refine app_bs hA.ext (encNums_pos (by simp)) (by rw [het] at hfit'; simp only [List.length_append] at hfit' ⊢; omega) fun v4 hp4 hA4 _ _ => ?_
      simp -failIfUnchanged -implicitDefEqProofs (disch := first | assumption | decide | (simp -failIfUnchanged only [List.length_set]; omega)) only [srun_nil, srun_mv, srun_op, srun_call, srun_callv, srun_pcall, callF_fn, thenE_normal, thenE_exit, thenE_ret, inBlk_normal, inBlk_same, inBlk_ret, astep_len, lenStep_sl, absl_2, absl_3, absl_4, absl_8, afa_fp, afa_mp, Nat.zero_add, Nat.add_zero, Nat.reduceAdd, astep_mv, astep_alloc, astep_box, astep_build, astep_bsl, astep_ld, astep_st, astep_nilc, astep_bin, astep_un, astep_cv, astep_fa, astep_ia, astep_aa, astep_fld, astep_idx, astep_chr, astep_ext, astep_app, astep_eqb, astep_mkf, anil_mp, anil_fp, ev, Option.getD_some, aput, get_set_eq, get_set_ne, acv_int, abin_add, abin_sub, abin_mul, abin_eql, abin_neq, abin_lss, abin_leq, abin_gtr, abin_geq, abin_quo, abin_rem, Option.map_some, List.length_set, withV_some, absl_one, List.map, hl, h0, h3, h4]
      refine tri_region mixed ?_
      simp -failIfUnchanged -implicitDefEqProofs (disch := first | assumption | decide | (simp -failIfUnchanged only [List.length_set]; omega)) only [srun_nil, srun_mv, srun_op, srun_call, srun_callv, srun_pcall, callF_fn, thenE_normal, thenE_exit, thenE_ret, inBlk_normal, inBlk_same, inBlk_ret, astep_len, lenStep_sl, absl_2, absl_3, absl_4, absl_8, afa_fp, afa_mp, Nat.zero_add, Nat.add_zero, Nat.reduceAdd, astep_mv, astep_alloc, astep_box, astep_build, astep_bsl, astep_ld, astep_st, astep_nilc, astep_bin, astep_un, astep_cv, astep_fa, astep_ia, astep_aa, astep_fld, astep_idx, astep_chr, astep_ext, astep_app, astep_eqb, astep_mkf, anil_mp, anil_fp, ev, Option.getD_some, aput, get_set_eq, get_set_ne, acv_int, abin_add, abin_sub, abin_mul, abin_eql, abin_neq, abin_lss, abin_leq, abin_gtr, abin_geq, abin_quo, abin_rem, Option.map_some, List.length_set, withV_some, absl_one, List.map, hl, h0, h3, h4, e1, l4]
      refine call_own (set35 t.marks hto.marks) (impCs1 (clean_set _)) fun id hp5 ehp hS => ?_
      subst ehp
      simp -failIfUnchanged -implicitDefEqProofs (disch := first | assumption | decide | (simp -failIfUnchanged only [List.length_set]; omega)) only [srun_nil, srun_mv, srun_op, srun_call, srun_callv, srun_pcall, callF_fn, thenE_normal, thenE_exit, thenE_ret, inBlk_normal, inBlk_same, inBlk_ret, astep_len, lenStep_sl, absl_2, absl_3, absl_4, absl_8, afa_fp, afa_mp, Nat.zero_add, Nat.add_zero, Nat.reduceAdd, astep_mv, astep_alloc, astep_box, astep_build, astep_bsl, astep_ld, astep_st, astep_nilc, astep_bin, astep_un, astep_cv, astep_fa, astep_ia, astep_aa, astep_fld, astep_idx, astep_chr, astep_ext, astep_app, astep_eqb, astep_mkf, anil_mp, anil_fp, ev, Option.getD_some, aput, get_set_eq, get_set_ne, acv_int, abin_add, abin_sub, abin_mul, abin_eql, abin_neq, abin_lss, abin_leq, abin_gtr, abin_geq, abin_quo, abin_rem, Option.map_some, List.length_set, withV_some, absl_one, List.map, hl, h0, h3, h4]
      refine app_bs hA4.ext (encSet_pos _) (by rw [het] at hfit'; simp only [List.length_append] at hfit' ⊢; omega) fun v6 hp6 hA6 _ _ => ?_
      simp -failIfUnchanged -implicitDefEqProofs (disch := first | assumption | decide | (simp -failIfUnchanged only [List.length_set]; omega)) only [srun_nil, srun_mv, srun_op, srun_call, srun_callv, srun_pcall, callF_fn, thenE_normal, thenE_exit, thenE_ret, inBlk_normal, inBlk_same, inBlk_ret, astep_len, lenStep_sl, absl_2, absl_3, absl_4, absl_8, afa_fp, afa_mp, Nat.zero_add, Nat.add_zero, Nat.reduceAdd, astep_mv, astep_alloc, astep_box, astep_build, astep_bsl, astep_ld, astep_st, astep_nilc, astep_bin, astep_un, astep_cv, astep_fa, astep_ia, astep_aa, astep_fld, astep_idx, astep_chr, astep_ext, astep_app, astep_eqb, astep_mkf, anil_mp, anil_fp, ev, Option.getD_some, aput, get_set_eq, get_set_ne, acv_int, abin_add, abin_sub, abin_mul, abin_eql, abin_neq, abin_lss, abin_leq, abin_gtr, abin_geq, abin_quo, abin_rem, Option.map_some, List.length_set, withV_some, absl_one, List.map, hl, h0, h3, h4]
      refine tri_region mixed ?_
      simp -failIfUnchanged -implicitDefEqProofs (disch := first | assumption | decide | (simp -failIfUnchanged only [List.length_set]; omega)) only [srun_nil, srun_mv, srun_op, srun_call, srun_callv, srun_pcall, callF_fn, thenE_normal, thenE_exit, thenE_ret, inBlk_normal, inBlk_same, inBlk_ret, astep_len, lenStep_sl, absl_2, absl_3, absl_4, absl_8, afa_fp, afa_mp, Nat.zero_add, Nat.add_zero, Nat.reduceAdd, astep_mv, astep_alloc, astep_box, astep_build, astep_bsl, astep_ld, astep_st, astep_nilc, astep_bin, astep_un, astep_cv, astep_fa, astep_ia, astep_aa, astep_fld, astep_idx, astep_chr, astep_ext, astep_app, astep_eqb, astep_mkf, anil_mp, anil_fp, ev, Option.getD_some, aput, get_set_eq, get_set_ne, acv_int, abin_add, abin_sub, abin_mul, abin_eql, abin_neq, abin_lss, abin_leq, abin_gtr, abin_geq, abin_quo, abin_rem, Option.map_some, List.length_set, withV_some, absl_one, List.map, hl, h0, h3, h4]
      rw [wrap_i64 (by omega) (by omega), hst]
      refine ⟨trivial, trivial, by simp, v6, rfl, ?_⟩
      have e : encNum l.length ++ ((l.take i).flatMap encTok ++ encTok t) = encNum l.length ++ (l.take i).flatMap encTok ++ encNums [t.kind, t.typ, t.attr, t.rune] ++ encSet t.marks := by
        rw [het]; simp only [List.append_assoc]
      rw [e]; exact hA6
    · clear hA h3 v3 h4 h0 hl
      rintro ts hp ⟨hl, h0, h4, v3, h3, hA⟩
      refine Tri.seq (Tri.seq (tri_region mixed ?_))
      simp -failIfUnchanged -implicitDefEqProofs (disch := first | assumption | decide | (simp -failIfUnchanged only [List.length_set]; omega)) only [srun_nil, srun_mv, srun_op, srun_call, srun_callv, srun_pcall, callF_fn, thenE_normal, thenE_exit, thenE_ret, inBlk_normal, inBlk_same, inBlk_ret, astep_len, lenStep_sl, absl_2, absl_3, absl_4, absl_8, afa_fp, afa_mp, Nat.zero_add, Nat.add_zero, Nat.reduceAdd, astep_mv, astep_alloc, astep_box, astep_build, astep_bsl, astep_ld, astep_st, astep_nilc, astep_bin, astep_un, astep_cv, astep_fa, astep_ia, astep_aa, astep_fld, astep_idx, astep_chr, astep_ext, astep_app, astep_eqb, astep_mkf, anil_mp, anil_fp, ev, Option.getD_some, aput, get_set_eq, get_set_ne, acv_int, abin_add, abin_sub, abin_mul, abin_eql, abin_neq, abin_lss, abin_leq, abin_gtr, abin_geq, abin_quo, abin_rem, Option.map_some, List.length_set, withV_some, absl_one, List.map, hl, h0, h4, hv.lenStep, goInt, List.length_map]
      refine Tri.cond (b := false) (by simp -failIfUnchanged -implicitDefEqProofs (disch := first | assumption | decide | (simp -failIfUnchanged only [List.length_set]; omega)) only [srun_nil, srun_mv, srun_op, srun_call, srun_callv, srun_pcall, callF_fn, thenE_normal, thenE_exit, thenE_ret, inBlk_normal, inBlk_same, inBlk_ret, astep_len, lenStep_sl, absl_2, absl_3, absl_4, absl_8, afa_fp, afa_mp, Nat.zero_add, Nat.add_zero, Nat.reduceAdd, astep_mv, astep_alloc, astep_box, astep_build, astep_bsl, astep_ld, astep_st, astep_nilc, astep_bin, astep_un, astep_cv, astep_fa, astep_ia, astep_aa, astep_fld, astep_idx, astep_chr, astep_ext, astep_app, astep_eqb, astep_mkf, anil_mp, anil_fp, ev, Option.getD_some, aput, get_set_eq, get_set_ne, acv_int, abin_add, abin_sub, abin_mul, abin_eql, abin_neq, abin_lss, abin_leq, abin_gtr, abin_geq, abin_quo, abin_rem, Option.map_some, List.length_set, withV_some, absl_one, List.map, hl]; simp) ?_
      refine Tri.exit ⟨rfl, ?_⟩
      rw [List.take_length] at hA
      simp -failIfUnchanged -implicitDefEqProofs (disch := first | assumption | decide | (simp -failIfUnchanged only [List.length_set]; omega)) only [srun_nil, srun_mv, srun_op, srun_call, srun_callv, srun_pcall, callF_fn, thenE_normal, thenE_exit, thenE_ret, inBlk_normal, inBlk_same, inBlk_ret, astep_len, lenStep_sl, absl_2, absl_3, absl_4, absl_8, afa_fp, afa_mp, Nat.zero_add, Nat.add_zero, Nat.reduceAdd, astep_mv, astep_alloc, astep_box, astep_build, astep_bsl, astep_ld, astep_st, astep_nilc, astep_bin, astep_un, astep_cv, astep_fa, astep_ia, astep_aa, astep_fld, astep_idx, astep_chr, astep_ext, astep_app, astep_eqb, astep_mkf, anil_mp, anil_fp, ev, Option.getD_some, aput, get_set_eq, get_set_ne, acv_int, abin_add, abin_sub, abin_mul, abin_eql, abin_neq, abin_lss, abin_leq, abin_gtr, abin_geq, abin_quo, abin_rem, Option.map_some, List.length_set, withV_some, absl_one, List.map, hl, h3]
      exact ⟨trivial, v3, rfl, hA⟩
  clear hA h3 v3 h0 hl
  rintro ts hp ⟨hl, v3, h3, hA⟩
  refine Tri.seq (tri_region mixed ?_)
  simp -failIfUnchanged -implicitDefEqProofs (disch := first | assumption | decide | (simp -failIfUnchanged only [List.length_set]; omega)) only [srun_nil, srun_mv, srun_op, srun_call, srun_callv, srun_pcall, callF_fn, thenE_normal, thenE_exit, thenE_ret, inBlk_normal, inBlk_same, inBlk_ret, astep_len, lenStep_sl, absl_2, absl_3, absl_4, absl_8, afa_fp, afa_mp, Nat.zero_add, Nat.add_zero, Nat.reduceAdd, astep_mv, astep_alloc, astep_box, astep_build, astep_bsl, astep_ld, astep_st, astep_nilc, astep_bin, astep_un, astep_cv, astep_fa, astep_ia, astep_aa, astep_fld, astep_idx, astep_chr, astep_ext, astep_app, astep_eqb, astep_mkf, anil_mp, anil_fp, ev, Option.getD_some, aput, get_set_eq, get_set_ne, acv_int, abin_add, abin_sub, abin_mul, abin_eql, abin_neq, abin_lss, abin_leq, abin_gtr, abin_geq, abin_quo, abin_rem, Option.map_some, List.length_set, withV_some, absl_one, List.map, hl, h3]
  rcases hA with ⟨rfl, e⟩ | ⟨id, rfl, hid⟩
  · exact (bs_ne (encMany_pos _ _) e).elim
  refine Tri.ret ⟨Or.inr rfl, _, resV_s (by simp -failIfUnchanged -implicitDefEqProofs (disch := first | assumption | decide | (simp -failIfUnchanged only [List.length_set]; omega)) only [srun_nil, srun_mv, srun_op, srun_call, srun_callv, srun_pcall, callF_fn, thenE_normal, thenE_exit, thenE_ret, inBlk_normal, inBlk_same, inBlk_ret, astep_len, lenStep_sl, absl_2, absl_3, absl_4, absl_8, afa_fp, afa_mp, Nat.zero_add, Nat.add_zero, Nat.reduceAdd, astep_mv, astep_alloc, astep_box, astep_build, astep_bsl, astep_ld, astep_st, astep_nilc, astep_bin, astep_un, astep_cv, astep_fa, astep_ia, astep_aa, astep_fld, astep_idx, astep_chr, astep_ext, astep_app, astep_eqb, astep_mkf, anil_mp, anil_fp, ev, Option.getD_some, aput, get_set_eq, get_set_ne, acv_int, abin_add, abin_sub, abin_mul, abin_eql, abin_neq, abin_lss, abin_leq, abin_gtr, abin_geq, abin_quo, abin_rem, Option.map_some, List.length_set, withV_some, absl_one, List.map, hl]), id, rfl, hid⟩

end Go.Proofs.Ytllgfmijocgniaa
