/- The bytes of steps, by the reference. -/
import Derived.Test.YtllgfmijocgniaaC6
set_option linter.unusedVariables false
set_option linter.unusedSimpArgs false
namespace Go.Proofs.Ytllgfmijocgniaa
open Go Go.Abs Go.RowKit

/-- A slice, nil or not. -/
def slcAV {α : Type} (f : α → AV) : Option (List α) → AV
  | none => .nsl
  | some l => .sl (l.map f) .no

theorem slc_slc {α : Type} (f : α → AV) (o : Option (List α)) : Slc (slcAV f o) ((o.getD []).map f) := by
  cases o with
  | none => exact Or.inr ⟨rfl, rfl⟩
  | some l => exact Or.inl rfl

theorem slc_one {α : Type} (f : α → AV) (o : Option (List α)) : (slcAV f o).one = true := by cases o <;> rfl
theorem slc_clean {α : Type} (f : α → AV) (o : Option (List α)) (h : ∀ x, ∀ c ∈ (f x).cells, Abs.Clean c) : Abs.Clean (slcAV f o) := by
  cases o with
  | none => exact clean_nsl
  | some l =>
    exact clean_sl fun x hx c hc => by
      obtain ⟨b, _, rfl⟩ := List.mem_map.1 hx
      exact h b c hc

structure Stp where
  n1 : Int
  n2 : Int
  n3 : Int
  n4 : Int
  n5 : Int
  n6 : Int
  n7 : Int
  n8 : Int
  slice : Option (List Tok)
  sets : Option (List (List Int))

def Stp.ns (t : Stp) : List Int := [t.n1, t.n2, t.n3, t.n4, t.n5, t.n6, t.n7, t.n8]
def Stp.cs (t : Stp) : List AV := [i64 t.n1, i64 t.n2, i64 t.n3, i64 t.n4, i64 t.n5, i64 t.n6, i64 t.n7, i64 t.n8, slcAV Tok.av t.slice, slcAV setAV t.sets]
def Stp.av (t : Stp) : AV := .agg t.cs
structure Stp.Ok (t : Stp) : Prop where
  ns : ∀ n ∈ t.ns, Is64 n
  slice : ∀ x ∈ t.slice.getD [], x.Ok
  sets : ∀ m ∈ t.sets.getD [], IsSet m

def encStp (t : Stp) : List Nat := encNums t.ns ++ encToks (t.slice.getD []) ++ encMany encSet (t.sets.getD [])
def encStps (l : List Stp) : List Nat := encMany encStp l

theorem encStp_pos (t : Stp) : 0 < (encStp t).length := by
  unfold encStp; simp only [List.length_append]; have := encMany_pos encSet (t.sets.getD []); omega

theorem set_cells_clean (m : List Int) : ∀ c ∈ (setAV m).cells, Abs.Clean c := fun c hc => by
  obtain ⟨b, _, rfl⟩ := List.mem_map.1 hc
  exact clean_v _
theorem tok_cells_clean (t : Tok) : ∀ c ∈ t.av.cells, Abs.Clean c := fun c hc => by
  change c ∈ t.cs at hc
  simp only [Tok.cs, List.mem_cons, List.mem_map] at hc
  rcases hc with rfl | rfl | rfl | rfl | ⟨b, _, rfl⟩ <;> exact clean_v _
theorem stp_cells_clean (t : Stp) : ∀ c ∈ t.av.cells, Abs.Clean c := fun c hc => by
  change c ∈ t.cs at hc
  simp only [Stp.cs, List.mem_cons, List.not_mem_nil, or_false] at hc
  rcases hc with rfl | rfl | rfl | rfl | rfl | rfl | rfl | rfl | rfl | rfl
  all_goals first | exact clean_v _ | exact slc_clean _ _ tok_cells_clean | exact slc_clean _ _ set_cells_clean

/-- A fresh block, filled. -/
theorem store_new {hp : List Blk} {z : List AV} {n : Nat} {x : AV} (hz : z.length = n) (hx : x.cells.length = n) (h1 : x.cells.all AV.one = true) : astore (hp ++ [.cells z false]) n (.mp hp.length 0) x = some (hp ++ [.cells x.cells false]) := by
  have h : (hp ++ [Blk.cells z false])[hp.length]? = some (.cells z false) := by simp
  unfold astore
  simp only [h]
  rw [if_pos ⟨hx, by omega, h1⟩]
  congr 1
  rw [List.set_append_right _ _ (Nat.le_refl _)]
  simp only [Nat.sub_self, List.set_cons_zero]
  have e : putAt z 0 x.cells = x.cells := by
    unfold putAt
    rw [List.take_zero, List.nil_append, List.drop_eq_nil_of_le (by omega), List.append_nil]
  rw [e]

theorem one_v (x : Value) : (AV.v x).one = true := rfl
theorem stp_one (t : Stp) : t.av.cells.all AV.one = true := by
  simp only [Stp.av, AV.cells, Stp.cs, List.all_cons, List.all_nil, slc_one, one_v, Bool.and_self]

theorem set_one (m : List Int) : (setAV m).cells.all AV.one = true := by
  rw [List.all_eq_true]
  intro c hc
  obtain ⟨b, _, rfl⟩ := List.mem_map.1 hc
  rfl

theorem call_toks {o : Option (List Tok)} {hp : List Blk} {K : AV → List Blk → Prop} (hok : ∀ t ∈ o.getD [], t.Ok) (hfit : (encToks (o.getD [])).length ≤ 140737488355328)
    (hk : ∀ id hp', hp' = hp ++ [.tok (encToks (o.getD [])).length 1] → Appd hp' (.sl (bs (encToks (o.getD []))) (.tok id)) (bs (encToks (o.getD []))) 1 → K (.sl (bs (encToks (o.getD []))) (.tok id)) hp') : CallOk Try.prog 12 [slcAV Tok.av o] hp K :=
  call_own (tokens12 _ _ (slc_slc Tok.av o) hok hfit) (impCs1 (slc_clean _ _ tok_cells_clean)) hk

theorem steps13 (v : AV) (l : List Stp) (hv : Slc v (l.map Stp.av)) (hok : ∀ t ∈ l, t.Ok) (hfit : (encStps l).length ≤ 140737488355328) : PureOwn Try.prog 13 [v] (bs (encStps l)) 1 := by
  refine pureOwn_of (bs_clean _) (fn_ok F13 ?_)
  have hl : (enterS [v] 67).length = 67 := rfl
  have h0 : (enterS [v] 67)[0]? = some v := rfl
  show Tri _ s13.body _ ⟨enterS [v] 67, []⟩
  generalize enterS [v] 67 = ts at *
  have hlen : l.length ≤ 140737488355328 := by
    have := flat_ge encStp l encStp_pos
    unfold encStps encMany at hfit; rw [List.length_append] at hfit; omega
  have h64l : Is64 (l.length : Nat) := is64_nat (by omega)
  unfold s13
  dsimp only
  refine Tri.mid (fun ts hp => ts.length = 67 ∧ ts[0]? = some v) (tri_region mixed ?_) ?_
  · simp -failIfUnchanged -implicitDefEqProofs (disch := first | assumption | decide | (simp -failIfUnchanged only [List.length_set]; omega)) only [srun_nil, srun_mv, srun_op, srun_call, srun_callv, srun_pcall, callF_fn, thenE_normal, thenE_exit, thenE_ret, inBlk_normal, inBlk_same, inBlk_ret, astep_len, lenStep_sl, absl_2, absl_3, absl_4, absl_8, afa_fp, afa_mp, Nat.zero_add, Nat.add_zero, Nat.reduceAdd, astep_mv, astep_alloc, astep_box, astep_build, astep_bsl, astep_ld, astep_st, astep_nilc, astep_bin, astep_un, astep_cv, astep_fa, astep_ia, astep_aa, astep_fld, astep_idx, astep_chr, astep_ext, astep_app, astep_eqb, astep_mkf, anil_mp, anil_fp, ev, Option.getD_some, aput, get_set_eq, get_set_ne, acv_int, abin_add, abin_sub, abin_mul, abin_eql, abin_neq, abin_lss, abin_leq, abin_gtr, abin_geq, abin_quo, abin_rem, Option.map_some, List.length_set, withV_some, absl_one, List.map, hl, h0]
    simp
  rintro ts hp ⟨hl, h0⟩
  refine Tri.mid (fun ts hp => ts.length = 67 ∧ ts[0]? = some v ∧ ∃ v3, ts[3]? = some v3 ∧ Appd hp v3 (bs (encNum l.length)) 1) (tri_region mixed ?_) ?_
  · simp -failIfUnchanged -implicitDefEqProofs (disch := first | assumption | decide | (simp -failIfUnchanged only [List.length_set]; omega)) only [srun_nil, srun_mv, srun_op, srun_call, srun_callv, srun_pcall, callF_fn, thenE_normal, thenE_exit, thenE_ret, inBlk_normal, inBlk_same, inBlk_ret, astep_len, lenStep_sl, absl_2, absl_3, absl_4, absl_8, afa_fp, afa_mp, Nat.zero_add, Nat.add_zero, Nat.reduceAdd, astep_mv, astep_alloc, astep_box, astep_build, astep_bsl, astep_ld, astep_st, astep_nilc, astep_bin, astep_un, astep_cv, astep_fa, astep_ia, astep_aa, astep_fld, astep_idx, astep_chr, astep_ext, astep_app, astep_eqb, astep_mkf, anil_mp, anil_fp, ev, Option.getD_some, aput, get_set_eq, get_set_ne, acv_int, abin_add, abin_sub, abin_mul, abin_eql, abin_neq, abin_lss, abin_leq, abin_gtr, abin_geq, abin_quo, abin_rem, Option.map_some, List.length_set, withV_some, absl_one, List.map, hl, h0, hv.lenStep, goInt, List.length_map]
    refine call_own (num_own h64l) (impCs1 (impC_v _)) fun id hp' ehp hA => ?_
    simp -failIfUnchanged -implicitDefEqProofs (disch := first | assumption | decide | (simp -failIfUnchanged only [List.length_set]; omega)) only [srun_nil, srun_mv, srun_op, srun_call, srun_callv, srun_pcall, callF_fn, thenE_normal, thenE_exit, thenE_ret, inBlk_normal, inBlk_same, inBlk_ret, astep_len, lenStep_sl, absl_2, absl_3, absl_4, absl_8, afa_fp, afa_mp, Nat.zero_add, Nat.add_zero, Nat.reduceAdd, astep_mv, astep_alloc, astep_box, astep_build, astep_bsl, astep_ld, astep_st, astep_nilc, astep_bin, astep_un, astep_cv, astep_fa, astep_ia, astep_aa, astep_fld, astep_idx, astep_chr, astep_ext, astep_app, astep_eqb, astep_mkf, anil_mp, anil_fp, ev, Option.getD_some, aput, get_set_eq, get_set_ne, acv_int, abin_add, abin_sub, abin_mul, abin_eql, abin_neq, abin_lss, abin_leq, abin_gtr, abin_geq, abin_quo, abin_rem, Option.map_some, List.length_set, withV_some, absl_one, List.map, hl, h0]
    exact ⟨trivial, trivial, trivial, _, rfl, hA⟩
  rintro ts hp ⟨hl, h0, v3, h3, hA⟩
  refine Tri.mid (fun ts hp => ts.length = 67 ∧ ∃ v3, ts[3]? = some v3 ∧ Appd hp v3 (bs (encStps l)) 1) ?_ ?_
  · refine Tri.mid (fun ts hp => ts.length = 67 ∧ ts[0]? = some v ∧ ts[4]? = some (i64 0) ∧ ∃ v3, ts[3]? = some v3 ∧ Appd hp v3 (bs (encNum l.length)) 1) (tri_region mixed ?_) ?_
    · simp -failIfUnchanged -implicitDefEqProofs (disch := first | assumption | decide | (simp -failIfUnchanged only [List.length_set]; omega)) only [srun_nil, srun_mv, srun_op, srun_call, srun_callv, srun_pcall, callF_fn, thenE_normal, thenE_exit, thenE_ret, inBlk_normal, inBlk_same, inBlk_ret, astep_len, lenStep_sl, absl_2, absl_3, absl_4, absl_8, afa_fp, afa_mp, Nat.zero_add, Nat.add_zero, Nat.reduceAdd, astep_mv, astep_alloc, astep_box, astep_build, astep_bsl, astep_ld, astep_st, astep_nilc, astep_bin, astep_un, astep_cv, astep_fa, astep_ia, astep_aa, astep_fld, astep_idx, astep_chr, astep_ext, astep_app, astep_eqb, astep_mkf, anil_mp, anil_fp, ev, Option.getD_some, aput, get_set_eq, get_set_ne, acv_int, abin_add, abin_sub, abin_mul, abin_eql, abin_neq, abin_lss, abin_leq, abin_gtr, abin_geq, abin_quo, abin_rem, Option.map_some, List.length_set, withV_some, absl_one, List.map, hl, h0, h3]
      exact ⟨trivial, trivial, trivial, trivial, v3, rfl, hA⟩
    rintro ts hp ⟨hl, h0, h4, v3, h3, hA⟩
    refine Tri.block (Tri.count (fun i ts hp => ts.length = 67 ∧ ts[0]? = some v ∧ ts[4]? = some (i64 i) ∧ ∃ v3, ts[3]? = some v3 ∧ Appd hp v3 (bs (encNum l.length ++ (l.take i).flatMap encStp)) 1) l.length
      ⟨hl, h0, h4, v3, h3, by simpa using hA⟩ ?_ ?_)
    · clear hA h3 v3 h4 h0 hl
      rintro i ts hp hi ⟨hl, h0, h4, v3, h3, hA⟩
      obtain ⟨t, ht⟩ : ∃ t, l[i]? = some t := ⟨l[i], by simp [hi]⟩
      have hto := hok t (List.mem_of_getElem? ht)
      have hget : (l.map Stp.av)[i]? = some t.av := by simp [ht]
      have hst := flat_step encStp ht
      have hle := flat_take encStp l (i + 1)
      rw [hst] at hle
      have hfit' : (encNum l.length ++ (l.take i).flatMap encStp ++ encStp t).length ≤ 140737488355328 := by
        unfold encStps encMany at hfit; rw [List.length_append] at hfit hle; simp only [List.length_append]; omega
      have het : encStp t = encNums t.ns ++ encToks (t.slice.getD []) ++ (encNum (t.sets.getD []).length ++ (t.sets.getD []).flatMap encSet) := rfl
      rw [het] at hfit' hst
      simp only [List.length_append] at hfit'
      generalize hpre : encNum l.length ++ (l.take i).flatMap encStp = pre at hA
      have hpl : pre.length = (encNum l.length).length + ((l.take i).flatMap encStp).length := by rw [← hpre, List.length_append]
      refine Tri.seq (Tri.seq (tri_region mixed ?_))
      simp -failIfUnchanged -implicitDefEqProofs (disch := first | assumption | decide | (simp -failIfUnchanged only [List.length_set]; omega)) only [srun_nil, srun_mv, srun_op, srun_call, srun_callv, srun_pcall, callF_fn, thenE_normal, thenE_exit, thenE_ret, inBlk_normal, inBlk_same, inBlk_ret, astep_len, lenStep_sl, absl_2, absl_3, absl_4, absl_8, afa_fp, afa_mp, Nat.zero_add, Nat.add_zero, Nat.reduceAdd, astep_mv, astep_alloc, astep_box, astep_build, astep_bsl, astep_ld, astep_st, astep_nilc, astep_bin, astep_un, astep_cv, astep_fa, astep_ia, astep_aa, astep_fld, astep_idx, astep_chr, astep_ext, astep_app, astep_eqb, astep_mkf, anil_mp, anil_fp, ev, Option.getD_some, aput, get_set_eq, get_set_ne, acv_int, abin_add, abin_sub, abin_mul, abin_eql, abin_neq, abin_lss, abin_leq, abin_gtr, abin_geq, abin_quo, abin_rem, Option.map_some, List.length_set, withV_some, absl_one, List.map, hl, h0, h4, hv.lenStep, goInt, List.length_map]
      refine Tri.cond (b := true) (by simp -failIfUnchanged -implicitDefEqProofs (disch := first | assumption | decide | (simp -failIfUnchanged only [List.length_set]; omega)) only [srun_nil, srun_mv, srun_op, srun_call, srun_callv, srun_pcall, callF_fn, thenE_normal, thenE_exit, thenE_ret, inBlk_normal, inBlk_same, inBlk_ret, astep_len, lenStep_sl, absl_2, absl_3, absl_4, absl_8, afa_fp, afa_mp, Nat.zero_add, Nat.add_zero, Nat.reduceAdd, astep_mv, astep_alloc, astep_box, astep_build, astep_bsl, astep_ld, astep_st, astep_nilc, astep_bin, astep_un, astep_cv, astep_fa, astep_ia, astep_aa, astep_fld, astep_idx, astep_chr, astep_ext, astep_app, astep_eqb, astep_mkf, anil_mp, anil_fp, ev, Option.getD_some, aput, get_set_eq, get_set_ne, acv_int, abin_add, abin_sub, abin_mul, abin_eql, abin_neq, abin_lss, abin_leq, abin_gtr, abin_geq, abin_quo, abin_rem, Option.map_some, List.length_set, withV_some, absl_one, List.map, hl]; simp [hi]) ?_
      refine Tri.skip (Tri.seq (Tri.block (Tri.mid (fun ts hp => ts.length = 67 ∧ ts[0]? = some v ∧ ts[4]? = some (i64 i) ∧ ∃ k v3, ts[5]? = some (.mp k 0) ∧ hp[k]? = some (.cells t.cs false) ∧ ts[3]? = some v3 ∧ Appd hp v3 (bs pre) 1) (tri_region mixed ?_) ?_)))
      · have e1 : aia 10 v (.v (.int .i64 i)) = some (.fp t.cs 0) := hv.ia hget rfl
        have l0 : ∀ hp, aload hp true 10 (.fp t.cs 0) = some t.av := fun _ => rfl
        have hone := stp_one t
        simp -failIfUnchanged -implicitDefEqProofs (disch := first | assumption | decide | (simp -failIfUnchanged only [List.length_set]; omega)) only [srun_nil, srun_mv, srun_op, srun_call, srun_callv, srun_pcall, callF_fn, thenE_normal, thenE_exit, thenE_ret, inBlk_normal, inBlk_same, inBlk_ret, astep_len, lenStep_sl, absl_2, absl_3, absl_4, absl_8, afa_fp, afa_mp, Nat.zero_add, Nat.add_zero, Nat.reduceAdd, astep_mv, astep_alloc, astep_box, astep_build, astep_bsl, astep_ld, astep_st, astep_nilc, astep_bin, astep_un, astep_cv, astep_fa, astep_ia, astep_aa, astep_fld, astep_idx, astep_chr, astep_ext, astep_app, astep_eqb, astep_mkf, anil_mp, anil_fp, ev, Option.getD_some, aput, get_set_eq, get_set_ne, acv_int, abin_add, abin_sub, abin_mul, abin_eql, abin_neq, abin_lss, abin_leq, abin_gtr, abin_geq, abin_quo, abin_rem, Option.map_some, List.length_set, withV_some, absl_one, List.map, hl, h0, h3, h4, e1, l0]
        rw [store_new (z := [i64 0, i64 0, i64 0, i64 0, i64 0, i64 0, i64 0, i64 0, .nsl, .nsl]) (n := 10) rfl rfl hone]
        simp -failIfUnchanged -implicitDefEqProofs (disch := first | assumption | decide | (simp -failIfUnchanged only [List.length_set]; omega)) only [srun_nil, srun_mv, srun_op, srun_call, srun_callv, srun_pcall, callF_fn, thenE_normal, thenE_exit, thenE_ret, inBlk_normal, inBlk_same, inBlk_ret, astep_len, lenStep_sl, absl_2, absl_3, absl_4, absl_8, afa_fp, afa_mp, Nat.zero_add, Nat.add_zero, Nat.reduceAdd, astep_mv, astep_alloc, astep_box, astep_build, astep_bsl, astep_ld, astep_st, astep_nilc, astep_bin, astep_un, astep_cv, astep_fa, astep_ia, astep_aa, astep_fld, astep_idx, astep_chr, astep_ext, astep_app, astep_eqb, astep_mkf, anil_mp, anil_fp, ev, Option.getD_some, aput, get_set_eq, get_set_ne, acv_int, abin_add, abin_sub, abin_mul, abin_eql, abin_neq, abin_lss, abin_leq, abin_gtr, abin_geq, abin_quo, abin_rem, Option.map_some, List.length_set, withV_some, absl_one, List.map, hl, h0, h3, h4]
        exact ⟨trivial, trivial, trivial, trivial, _, v3, rfl, by simp [Stp.av, AV.cells], rfl, hA.ext⟩
      clear hA h3 v3 h4 h0 hl
      rintro ts hp ⟨hl, h0, h4, k, v3, h5, hc, h3, hA⟩
      have hld : ∀ (o : Nat) (hp : List Blk) (c : AV), t.cs[o]? = some c → hp[k]? = some (.cells t.cs false) → aload hp false 1 (.mp k o) = some c := fun o hp c ho hk => aload_mp hk ho
      refine Tri.mid (fun ts hp => ts.length = 67 ∧ ts[0]? = some v ∧ ts[4]? = some (i64 i) ∧ ts[5]? = some (.mp k 0) ∧ hp[k]? = some (.cells t.cs false) ∧ ∃ v3, ts[3]? = some v3 ∧ Appd hp v3 (bs (pre ++ encNums t.ns)) 1) (tri_region mixed ?_) ?_
      · simp -failIfUnchanged -implicitDefEqProofs (disch := first | assumption | decide | (simp -failIfUnchanged only [List.length_set]; omega)) only [srun_nil, srun_mv, srun_op, srun_call, srun_callv, srun_pcall, callF_fn, thenE_normal, thenE_exit, thenE_ret, inBlk_normal, inBlk_same, inBlk_ret, astep_len, lenStep_sl, absl_2, absl_3, absl_4, absl_8, afa_fp, afa_mp, Nat.zero_add, Nat.add_zero, Nat.reduceAdd, astep_mv, astep_alloc, astep_box, astep_build, astep_bsl, astep_ld, astep_st, astep_nilc, astep_bin, astep_un, astep_cv, astep_fa, astep_ia, astep_aa, astep_fld, astep_idx, astep_chr, astep_ext, astep_app, astep_eqb, astep_mkf, anil_mp, anil_fp, ev, Option.getD_some, aput, get_set_eq, get_set_ne, acv_int, abin_add, abin_sub, abin_mul, abin_eql, abin_neq, abin_lss, abin_leq, abin_gtr, abin_geq, abin_quo, abin_rem, Option.map_some, List.length_set, withV_some, absl_one, List.map, hl, h0, h3, h4, h5, hld 0 hp _ rfl hc, hld 1 hp _ rfl hc, hld 2 hp _ rfl hc, hld 3 hp _ rfl hc, hld 4 hp _ rfl hc, hld 5 hp _ rfl hc, hld 6 hp _ rfl hc, hld 7 hp _ rfl hc]
        refine call_nums (l := t.ns) (by simp [Stp.ns]) hto.ns (by omega) fun id hp' ehp hN => ?_
        subst ehp
        simp -failIfUnchanged -implicitDefEqProofs (disch := first | assumption | decide | (simp -failIfUnchanged only [List.length_set]; omega)) only [srun_nil, srun_mv, srun_op, srun_call, srun_callv, srun_pcall, callF_fn, thenE_normal, thenE_exit, thenE_ret, inBlk_normal, inBlk_same, inBlk_ret, astep_len, lenStep_sl, absl_2, absl_3, absl_4, absl_8, afa_fp, afa_mp, Nat.zero_add, Nat.add_zero, Nat.reduceAdd, astep_mv, astep_alloc, astep_box, astep_build, astep_bsl, astep_ld, astep_st, astep_nilc, astep_bin, astep_un, astep_cv, astep_fa, astep_ia, astep_aa, astep_fld, astep_idx, astep_chr, astep_ext, astep_app, astep_eqb, astep_mkf, anil_mp, anil_fp, ev, Option.getD_some, aput, get_set_eq, get_set_ne, acv_int, abin_add, abin_sub, abin_mul, abin_eql, abin_neq, abin_lss, abin_leq, abin_gtr, abin_geq, abin_quo, abin_rem, Option.map_some, List.length_set, withV_some, absl_one, List.map, hl, h0, h3, h4, h5]
        refine app_bs hA.ext (encNums_pos (by simp [Stp.ns])) (by simp only [List.length_append]; omega) fun v4 hp4 hA4 hrel _ => ?_
        simp -failIfUnchanged -implicitDefEqProofs (disch := first | assumption | decide | (simp -failIfUnchanged only [List.length_set]; omega)) only [srun_nil, srun_mv, srun_op, srun_call, srun_callv, srun_pcall, callF_fn, thenE_normal, thenE_exit, thenE_ret, inBlk_normal, inBlk_same, inBlk_ret, astep_len, lenStep_sl, absl_2, absl_3, absl_4, absl_8, afa_fp, afa_mp, Nat.zero_add, Nat.add_zero, Nat.reduceAdd, astep_mv, astep_alloc, astep_box, astep_build, astep_bsl, astep_ld, astep_st, astep_nilc, astep_bin, astep_un, astep_cv, astep_fa, astep_ia, astep_aa, astep_fld, astep_idx, astep_chr, astep_ext, astep_app, astep_eqb, astep_mkf, anil_mp, anil_fp, ev, Option.getD_some, aput, get_set_eq, get_set_ne, acv_int, abin_add, abin_sub, abin_mul, abin_eql, abin_neq, abin_lss, abin_leq, abin_gtr, abin_geq, abin_quo, abin_rem, Option.map_some, List.length_set, withV_some, absl_one, List.map, hl, h0, h3, h4, h5]
        exact ⟨trivial, trivial, trivial, trivial, trivial, hrel.cells _ _ _ (get_ext hc), v4, rfl, hA4⟩
      clear hA h3 v3 h4 h0 h5 hl hc
      rintro ts hp ⟨hl, h0, h4, h5, hc, v3, h3, hA⟩
      refine Tri.seq (tri_region mixed ?_)
      simp -failIfUnchanged -implicitDefEqProofs (disch := first | assumption | decide | (simp -failIfUnchanged only [List.length_set]; omega)) only [srun_nil, srun_mv, srun_op, srun_call, srun_callv, srun_pcall, callF_fn, thenE_normal, thenE_exit, thenE_ret, inBlk_normal, inBlk_same, inBlk_ret, astep_len, lenStep_sl, absl_2, absl_3, absl_4, absl_8, afa_fp, afa_mp, Nat.zero_add, Nat.add_zero, Nat.reduceAdd, astep_mv, astep_alloc, astep_box, astep_build, astep_bsl, astep_ld, astep_st, astep_nilc, astep_bin, astep_un, astep_cv, astep_fa, astep_ia, astep_aa, astep_fld, astep_idx, astep_chr, astep_ext, astep_app, astep_eqb, astep_mkf, anil_mp, anil_fp, ev, Option.getD_some, aput, get_set_eq, get_set_ne, acv_int, abin_add, abin_sub, abin_mul, abin_eql, abin_neq, abin_lss, abin_leq, abin_gtr, abin_geq, abin_quo, abin_rem, Option.map_some, List.length_set, withV_some, absl_one, List.map, hl, h0, h3, h4, h5, hld 8 hp _ rfl hc]
      refine call_toks hto.slice (by omega) fun id hp' ehp hN => ?_
      subst ehp
      simp -failIfUnchanged -implicitDefEqProofs (disch := first | assumption | decide | (simp -failIfUnchanged only [List.length_set]; omega)) only [srun_nil, srun_mv, srun_op, srun_call, srun_callv, srun_pcall, callF_fn, thenE_normal, thenE_exit, thenE_ret, inBlk_normal, inBlk_same, inBlk_ret, astep_len, lenStep_sl, absl_2, absl_3, absl_4, absl_8, afa_fp, afa_mp, Nat.zero_add, Nat.add_zero, Nat.reduceAdd, astep_mv, astep_alloc, astep_box, astep_build, astep_bsl, astep_ld, astep_st, astep_nilc, astep_bin, astep_un, astep_cv, astep_fa, astep_ia, astep_aa, astep_fld, astep_idx, astep_chr, astep_ext, astep_app, astep_eqb, astep_mkf, anil_mp, anil_fp, ev, Option.getD_some, aput, get_set_eq, get_set_ne, acv_int, abin_add, abin_sub, abin_mul, abin_eql, abin_neq, abin_lss, abin_leq, abin_gtr, abin_geq, abin_quo, abin_rem, Option.map_some, List.length_set, withV_some, absl_one, List.map, hl, h0, h3, h4, h5]
      refine app_bs hA.ext (encMany_pos _ _) (by unfold encToks at *; simp only [List.length_append]; omega) fun v4 hp4 hA4 hrel _ => ?_
      have hc4 := hrel.cells _ _ _ (get_ext hc)
      simp -failIfUnchanged -implicitDefEqProofs (disch := first | assumption | decide | (simp -failIfUnchanged only [List.length_set]; omega)) only [srun_nil, srun_mv, srun_op, srun_call, srun_callv, srun_pcall, callF_fn, thenE_normal, thenE_exit, thenE_ret, inBlk_normal, inBlk_same, inBlk_ret, astep_len, lenStep_sl, absl_2, absl_3, absl_4, absl_8, afa_fp, afa_mp, Nat.zero_add, Nat.add_zero, Nat.reduceAdd, astep_mv, astep_alloc, astep_box, astep_build, astep_bsl, astep_ld, astep_st, astep_nilc, astep_bin, astep_un, astep_cv, astep_fa, astep_ia, astep_aa, astep_fld, astep_idx, astep_chr, astep_ext, astep_app, astep_eqb, astep_mkf, anil_mp, anil_fp, ev, Option.getD_some, aput, get_set_eq, get_set_ne, acv_int, abin_add, abin_sub, abin_mul, abin_eql, abin_neq, abin_lss, abin_leq, abin_gtr, abin_geq, abin_quo, abin_rem, Option.map_some, List.length_set, withV_some, absl_one, List.map, hl, h0, h3, h4, h5]
      refine Tri.mid (fun ts hp => ts.length = 67 ∧ ts[0]? = some v ∧ ts[4]? = some (i64 i) ∧ ts[5]? = some (.mp k 0) ∧ hp[k]? = some (.cells t.cs false) ∧ ∃ v3, ts[3]? = some v3 ∧ Appd hp v3 (bs (pre ++ encNums t.ns ++ encToks (t.slice.getD []) ++ encNum (t.sets.getD []).length)) 1) (tri_region mixed ?_) ?_
      · have hsl := slc_slc setAV t.sets
        have hll : (t.sets.getD []).length ≤ 140737488355328 := by
          have := flat_ge encSet (t.sets.getD []) encSet_pos
          omega
        simp -failIfUnchanged -implicitDefEqProofs (disch := first | assumption | decide | (simp -failIfUnchanged only [List.length_set]; omega)) only [srun_nil, srun_mv, srun_op, srun_call, srun_callv, srun_pcall, callF_fn, thenE_normal, thenE_exit, thenE_ret, inBlk_normal, inBlk_same, inBlk_ret, astep_len, lenStep_sl, absl_2, absl_3, absl_4, absl_8, afa_fp, afa_mp, Nat.zero_add, Nat.add_zero, Nat.reduceAdd, astep_mv, astep_alloc, astep_box, astep_build, astep_bsl, astep_ld, astep_st, astep_nilc, astep_bin, astep_un, astep_cv, astep_fa, astep_ia, astep_aa, astep_fld, astep_idx, astep_chr, astep_ext, astep_app, astep_eqb, astep_mkf, anil_mp, anil_fp, ev, Option.getD_some, aput, get_set_eq, get_set_ne, acv_int, abin_add, abin_sub, abin_mul, abin_eql, abin_neq, abin_lss, abin_leq, abin_gtr, abin_geq, abin_quo, abin_rem, Option.map_some, List.length_set, withV_some, absl_one, List.map, hl, h0, h3, h4, h5, hld 9 hp4 _ rfl hc4, hsl.lenStep, goInt, List.length_map]
        refine call_own (num_own (is64_nat (by omega))) (impCs1 (impC_v _)) fun id5 hp5 ehp hA5 => ?_
        subst ehp
        simp -failIfUnchanged -implicitDefEqProofs (disch := first | assumption | decide | (simp -failIfUnchanged only [List.length_set]; omega)) only [srun_nil, srun_mv, srun_op, srun_call, srun_callv, srun_pcall, callF_fn, thenE_normal, thenE_exit, thenE_ret, inBlk_normal, inBlk_same, inBlk_ret, astep_len, lenStep_sl, absl_2, absl_3, absl_4, absl_8, afa_fp, afa_mp, Nat.zero_add, Nat.add_zero, Nat.reduceAdd, astep_mv, astep_alloc, astep_box, astep_build, astep_bsl, astep_ld, astep_st, astep_nilc, astep_bin, astep_un, astep_cv, astep_fa, astep_ia, astep_aa, astep_fld, astep_idx, astep_chr, astep_ext, astep_app, astep_eqb, astep_mkf, anil_mp, anil_fp, ev, Option.getD_some, aput, get_set_eq, get_set_ne, acv_int, abin_add, abin_sub, abin_mul, abin_eql, abin_neq, abin_lss, abin_leq, abin_gtr, abin_geq, abin_quo, abin_rem, Option.map_some, List.length_set, withV_some, absl_one, List.map, hl, h0, h3, h4, h5]
        refine app_bs hA4.ext (encNum_pos _) (by unfold encToks at *; simp only [List.length_append]; omega) fun v6 hp6 hA6 hrel6 _ => ?_
        simp -failIfUnchanged -implicitDefEqProofs (disch := first | assumption | decide | (simp -failIfUnchanged only [List.length_set]; omega)) only [srun_nil, srun_mv, srun_op, srun_call, srun_callv, srun_pcall, callF_fn, thenE_normal, thenE_exit, thenE_ret, inBlk_normal, inBlk_same, inBlk_ret, astep_len, lenStep_sl, absl_2, absl_3, absl_4, absl_8, afa_fp, afa_mp, Nat.zero_add, Nat.add_zero, Nat.reduceAdd, astep_mv, astep_alloc, astep_box, astep_build, astep_bsl, astep_ld, astep_st, astep_nilc, astep_bin, astep_un, astep_cv, astep_fa, astep_ia, astep_aa, astep_fld, astep_idx, astep_chr, astep_ext, astep_app, astep_eqb, astep_mkf, anil_mp, anil_fp, ev, Option.getD_some, aput, get_set_eq, get_set_ne, acv_int, abin_add, abin_sub, abin_mul, abin_eql, abin_neq, abin_lss, abin_leq, abin_gtr, abin_geq, abin_quo, abin_rem, Option.map_some, List.length_set, withV_some, absl_one, List.map, hl, h0, h3, h4, h5]
        exact ⟨trivial, trivial, trivial, trivial, trivial, hrel6.cells _ _ _ (get_ext hc4), v6, rfl, hA6⟩
      clear hA4 hrel hc4 hN hA h3 v3 h4 h0 h5 hl hc
      rintro ts hp ⟨hl, h0, h4, h5, hc, v3, h3, hA⟩
      refine Tri.seq (tri_region mixed ?_)
      simp -failIfUnchanged -implicitDefEqProofs (disch := first | assumption | decide | (simp -failIfUnchanged only [List.length_set]; omega)) only [srun_nil, srun_mv, srun_op, srun_call, srun_callv, srun_pcall, callF_fn, thenE_normal, thenE_exit, thenE_ret, inBlk_normal, inBlk_same, inBlk_ret, astep_len, lenStep_sl, absl_2, absl_3, absl_4, absl_8, afa_fp, afa_mp, Nat.zero_add, Nat.add_zero, Nat.reduceAdd, astep_mv, astep_alloc, astep_box, astep_build, astep_bsl, astep_ld, astep_st, astep_nilc, astep_bin, astep_un, astep_cv, astep_fa, astep_ia, astep_aa, astep_fld, astep_idx, astep_chr, astep_ext, astep_app, astep_eqb, astep_mkf, anil_mp, anil_fp, ev, Option.getD_some, aput, get_set_eq, get_set_ne, acv_int, abin_add, abin_sub, abin_mul, abin_eql, abin_neq, abin_lss, abin_leq, abin_gtr, abin_geq, abin_quo, abin_rem, Option.map_some, List.length_set, withV_some, absl_one, List.map, hl, h0, h3, h4, h5]
      have hsl := slc_slc setAV t.sets
      have hsets := hto.sets
      generalize (t.sets.getD []) = ms at *
      have hll : ms.length ≤ 140737488355328 := by
        have := flat_ge encSet ms encSet_pos
        omega
      generalize hpre2 : pre ++ encNums t.ns ++ encToks (t.slice.getD []) ++ encNum ms.length = pre2 at hA
      have hpl2 : pre2.length = pre.length + (encNums t.ns).length + (encToks (t.slice.getD [])).length + (encNum ms.length).length := by rw [← hpre2]; simp only [List.length_append]
      refine Tri.block (Tri.count (fun j ts hp => ts.length = 67 ∧ ts[0]? = some v ∧ ts[4]? = some (i64 i) ∧ ts[5]? = some (.mp k 0) ∧ hp[k]? = some (.cells t.cs false) ∧ ts[6]? = some (i64 j) ∧ ∃ v3, ts[3]? = some v3 ∧ Appd hp v3 (bs (pre2 ++ (ms.take j).flatMap encSet)) 1) ms.length ?_ ?_ ?_)
      · refine ⟨?_, ?_, ?_, ?_, hc, ?_, v3, ?_, by simpa using hA⟩
        all_goals simp -failIfUnchanged -implicitDefEqProofs (disch := first | assumption | decide | (simp -failIfUnchanged only [List.length_set]; omega)) only [srun_nil, srun_mv, srun_op, srun_call, srun_callv, srun_pcall, callF_fn, thenE_normal, thenE_exit, thenE_ret, inBlk_normal, inBlk_same, inBlk_ret, astep_len, lenStep_sl, absl_2, absl_3, absl_4, absl_8, afa_fp, afa_mp, Nat.zero_add, Nat.add_zero, Nat.reduceAdd, astep_mv, astep_alloc, astep_box, astep_build, astep_bsl, astep_ld, astep_st, astep_nilc, astep_bin, astep_un, astep_cv, astep_fa, astep_ia, astep_aa, astep_fld, astep_idx, astep_chr, astep_ext, astep_app, astep_eqb, astep_mkf, anil_mp, anil_fp, ev, Option.getD_some, aput, get_set_eq, get_set_ne, acv_int, abin_add, abin_sub, abin_mul, abin_eql, abin_neq, abin_lss, abin_leq, abin_gtr, abin_geq, abin_quo, abin_rem, Option.map_some, List.length_set, withV_some, absl_one, List.map, hl, h0, h3, h4, h5]
        rfl
      · clear hA h3 v3 h4 h0 h5 hl hc
        rintro j ts hp hj ⟨hl, h0, h4, h5, hc, h6, v3, h3, hA⟩
        obtain ⟨m, hm⟩ : ∃ m, ms[j]? = some m := ⟨ms[j], by simp [hj]⟩
        have hmo := hsets m (List.mem_of_getElem? hm)
        have hgm : (ms.map setAV)[j]? = some (setAV m) := by simp [hm]
        have hsm := flat_step encSet hm
        have hlm := flat_take encSet ms (j + 1)
        rw [hsm, List.length_append] at hlm
        refine Tri.seq (Tri.seq (tri_region mixed ?_))
        simp -failIfUnchanged -implicitDefEqProofs (disch := first | assumption | decide | (simp -failIfUnchanged only [List.length_set]; omega)) only [srun_nil, srun_mv, srun_op, srun_call, srun_callv, srun_pcall, callF_fn, thenE_normal, thenE_exit, thenE_ret, inBlk_normal, inBlk_same, inBlk_ret, astep_len, lenStep_sl, absl_2, absl_3, absl_4, absl_8, afa_fp, afa_mp, Nat.zero_add, Nat.add_zero, Nat.reduceAdd, astep_mv, astep_alloc, astep_box, astep_build, astep_bsl, astep_ld, astep_st, astep_nilc, astep_bin, astep_un, astep_cv, astep_fa, astep_ia, astep_aa, astep_fld, astep_idx, astep_chr, astep_ext, astep_app, astep_eqb, astep_mkf, anil_mp, anil_fp, ev, Option.getD_some, aput, get_set_eq, get_set_ne, acv_int, abin_add, abin_sub, abin_mul, abin_eql, abin_neq, abin_lss, abin_leq, abin_gtr, abin_geq, abin_quo, abin_rem, Option.map_some, List.length_set, withV_some, absl_one, List.map, hl, h0, h4, h5, h6, hld 9 hp _ rfl hc, hsl.lenStep, goInt, List.length_map]
        refine Tri.cond (b := true) (by simp -failIfUnchanged -implicitDefEqProofs (disch := first | assumption | decide | (simp -failIfUnchanged only [List.length_set]; omega)) only [srun_nil, srun_mv, srun_op, srun_call, srun_callv, srun_pcall, callF_fn, thenE_normal, thenE_exit, thenE_ret, inBlk_normal, inBlk_same, inBlk_ret, astep_len, lenStep_sl, absl_2, absl_3, absl_4, absl_8, afa_fp, afa_mp, Nat.zero_add, Nat.add_zero, Nat.reduceAdd, astep_mv, astep_alloc, astep_box, astep_build, astep_bsl, astep_ld, astep_st, astep_nilc, astep_bin, astep_un, astep_cv, astep_fa, astep_ia, astep_aa, astep_fld, astep_idx, astep_chr, astep_ext, astep_app, astep_eqb, astep_mkf, anil_mp, anil_fp, ev, Option.getD_some, aput, get_set_eq, get_set_ne, acv_int, abin_add, abin_sub, abin_mul, abin_eql, abin_neq, abin_lss, abin_leq, abin_gtr, abin_geq, abin_quo, abin_rem, Option.map_some, List.length_set, withV_some, absl_one, List.map, hl]; simp [hj]) ?_
        refine Tri.skip (Tri.seq (Tri.block (tri_region mixed ?_)))
        have e1 : aia 8 (slcAV setAV t.sets) (.v (.int .i64 j)) = some (.fp (m.map u16) 0) := hsl.ia hgm (by simp [setAV, AV.cells, hmo.1])
        have l0 : ∀ hp, aload hp true 8 (.fp (m.map u16) 0) = some (setAV m) := fun _ => by
          refine aload_fp _ ?_
          unfold pick1
          rw [if_pos rfl, if_pos (by simp [hmo.1]), List.drop_zero, List.take_of_length_le (by simp [hmo.1])]
          rfl
        simp -failIfUnchanged -implicitDefEqProofs (disch := first | assumption | decide | (simp -failIfUnchanged only [List.length_set]; omega)) only [srun_nil, srun_mv, srun_op, srun_call, srun_callv, srun_pcall, callF_fn, thenE_normal, thenE_exit, thenE_ret, inBlk_normal, inBlk_same, inBlk_ret, astep_len, lenStep_sl, absl_2, absl_3, absl_4, absl_8, afa_fp, afa_mp, Nat.zero_add, Nat.add_zero, Nat.reduceAdd, astep_mv, astep_alloc, astep_box, astep_build, astep_bsl, astep_ld, astep_st, astep_nilc, astep_bin, astep_un, astep_cv, astep_fa, astep_ia, astep_aa, astep_fld, astep_idx, astep_chr, astep_ext, astep_app, astep_eqb, astep_mkf, anil_mp, anil_fp, ev, Option.getD_some, aput, get_set_eq, get_set_ne, acv_int, abin_add, abin_sub, abin_mul, abin_eql, abin_neq, abin_lss, abin_leq, abin_gtr, abin_geq, abin_quo, abin_rem, Option.map_some, List.length_set, withV_some, absl_one, List.map, hl, h0, h3, h4, h5, h6, hld 9 hp _ rfl hc, e1, l0]
        refine call_own (set35 m hmo) (impCs1 (clean_set _)) fun id hp' ehp hN => ?_
        subst ehp
        simp -failIfUnchanged -implicitDefEqProofs (disch := first | assumption | decide | (simp -failIfUnchanged only [List.length_set]; omega)) only [srun_nil, srun_mv, srun_op, srun_call, srun_callv, srun_pcall, callF_fn, thenE_normal, thenE_exit, thenE_ret, inBlk_normal, inBlk_same, inBlk_ret, astep_len, lenStep_sl, absl_2, absl_3, absl_4, absl_8, afa_fp, afa_mp, Nat.zero_add, Nat.add_zero, Nat.reduceAdd, astep_mv, astep_alloc, astep_box, astep_build, astep_bsl, astep_ld, astep_st, astep_nilc, astep_bin, astep_un, astep_cv, astep_fa, astep_ia, astep_aa, astep_fld, astep_idx, astep_chr, astep_ext, astep_app, astep_eqb, astep_mkf, anil_mp, anil_fp, ev, Option.getD_some, aput, get_set_eq, get_set_ne, acv_int, abin_add, abin_sub, abin_mul, abin_eql, abin_neq, abin_lss, abin_leq, abin_gtr, abin_geq, abin_quo, abin_rem, Option.map_some, List.length_set, withV_some, absl_one, List.map, hl, h0, h3, h4, h5, h6]
        refine app_bs hA.ext (encSet_pos _) (by simp only [List.length_append]; omega) fun v4 hp4 hA4 hrel _ => ?_
        simp -failIfUnchanged -implicitDefEqProofs (disch := first | assumption | decide | (simp -failIfUnchanged only [List.length_set]; omega)) only [srun_nil, srun_mv, srun_op, srun_call, srun_callv, srun_pcall, callF_fn, thenE_normal, thenE_exit, thenE_ret, inBlk_normal, inBlk_same, inBlk_ret, astep_len, lenStep_sl, absl_2, absl_3, absl_4, absl_8, afa_fp, afa_mp, Nat.zero_add, Nat.add_zero, Nat.reduceAdd, astep_mv, astep_alloc, astep_box, astep_build, astep_bsl, astep_ld, astep_st, astep_nilc, astep_bin, astep_un, astep_cv, astep_fa, astep_ia, astep_aa, astep_fld, astep_idx, astep_chr, astep_ext, astep_app, astep_eqb, astep_mkf, anil_mp, anil_fp, ev, Option.getD_some, aput, get_set_eq, get_set_ne, acv_int, abin_add, abin_sub, abin_mul, abin_eql, abin_neq, abin_lss, abin_leq, abin_gtr, abin_geq, abin_quo, abin_rem, Option.map_some, List.length_set, withV_some, absl_one, List.map, hl, h0, h3, h4, h5, h6]
        refine tri_region mixed ?_
        simp -failIfUnchanged -implicitDefEqProofs (disch := first | assumption | decide | (simp -failIfUnchanged only [List.length_set]; omega)) only [srun_nil, srun_mv, srun_op, srun_call, srun_callv, srun_pcall, callF_fn, thenE_normal, thenE_exit, thenE_ret, inBlk_normal, inBlk_same, inBlk_ret, astep_len, lenStep_sl, absl_2, absl_3, absl_4, absl_8, afa_fp, afa_mp, Nat.zero_add, Nat.add_zero, Nat.reduceAdd, astep_mv, astep_alloc, astep_box, astep_build, astep_bsl, astep_ld, astep_st, astep_nilc, astep_bin, astep_un, astep_cv, astep_fa, astep_ia, astep_aa, astep_fld, astep_idx, astep_chr, astep_ext, astep_app, astep_eqb, astep_mkf, anil_mp, anil_fp, ev, Option.getD_some, aput, get_set_eq, get_set_ne, acv_int, abin_add, abin_sub, abin_mul, abin_eql, abin_neq, abin_lss, abin_leq, abin_gtr, abin_geq, abin_quo, abin_rem, Option.map_some, List.length_set, withV_some, absl_one, List.map, hl, h0, h3, h4, h5, h6]
        rw [wrap_i64 (by omega) (by omega), hsm]
        refine ⟨trivial, trivial, trivial, trivial, hrel.cells _ _ _ (get_ext hc), by simp, v4, rfl, ?_⟩
        rw [← List.append_assoc]; exact hA4
      · clear hA h3 v3 h4 h0 h5 hl hc
        rintro ts hp ⟨hl, h0, h4, h5, hc, h6, v3, h3, hA⟩
        refine Tri.seq (Tri.seq (tri_region mixed ?_))
        simp -failIfUnchanged -implicitDefEqProofs (disch := first | assumption | decide | (simp -failIfUnchanged only [List.length_set]; omega)) only [srun_nil, srun_mv, srun_op, srun_call, srun_callv, srun_pcall, callF_fn, thenE_normal, thenE_exit, thenE_ret, inBlk_normal, inBlk_same, inBlk_ret, astep_len, lenStep_sl, absl_2, absl_3, absl_4, absl_8, afa_fp, afa_mp, Nat.zero_add, Nat.add_zero, Nat.reduceAdd, astep_mv, astep_alloc, astep_box, astep_build, astep_bsl, astep_ld, astep_st, astep_nilc, astep_bin, astep_un, astep_cv, astep_fa, astep_ia, astep_aa, astep_fld, astep_idx, astep_chr, astep_ext, astep_app, astep_eqb, astep_mkf, anil_mp, anil_fp, ev, Option.getD_some, aput, get_set_eq, get_set_ne, acv_int, abin_add, abin_sub, abin_mul, abin_eql, abin_neq, abin_lss, abin_leq, abin_gtr, abin_geq, abin_quo, abin_rem, Option.map_some, List.length_set, withV_some, absl_one, List.map, hl, h0, h4, h5, h6, hld 9 hp _ rfl hc, hsl.lenStep, goInt, List.length_map]
        refine Tri.cond (b := false) (by simp -failIfUnchanged -implicitDefEqProofs (disch := first | assumption | decide | (simp -failIfUnchanged only [List.length_set]; omega)) only [srun_nil, srun_mv, srun_op, srun_call, srun_callv, srun_pcall, callF_fn, thenE_normal, thenE_exit, thenE_ret, inBlk_normal, inBlk_same, inBlk_ret, astep_len, lenStep_sl, absl_2, absl_3, absl_4, absl_8, afa_fp, afa_mp, Nat.zero_add, Nat.add_zero, Nat.reduceAdd, astep_mv, astep_alloc, astep_box, astep_build, astep_bsl, astep_ld, astep_st, astep_nilc, astep_bin, astep_un, astep_cv, astep_fa, astep_ia, astep_aa, astep_fld, astep_idx, astep_chr, astep_ext, astep_app, astep_eqb, astep_mkf, anil_mp, anil_fp, ev, Option.getD_some, aput, get_set_eq, get_set_ne, acv_int, abin_add, abin_sub, abin_mul, abin_eql, abin_neq, abin_lss, abin_leq, abin_gtr, abin_geq, abin_quo, abin_rem, Option.map_some, List.length_set, withV_some, absl_one, List.map, hl]; simp) ?_
        refine Tri.exit ?_
        simp -failIfUnchanged -implicitDefEqProofs (disch := first | assumption | decide | (simp -failIfUnchanged only [List.length_set]; omega)) only [srun_nil, srun_mv, srun_op, srun_call, srun_callv, srun_pcall, callF_fn, thenE_normal, thenE_exit, thenE_ret, inBlk_normal, inBlk_same, inBlk_ret, astep_len, lenStep_sl, absl_2, absl_3, absl_4, absl_8, afa_fp, afa_mp, Nat.zero_add, Nat.add_zero, Nat.reduceAdd, astep_mv, astep_alloc, astep_box, astep_build, astep_bsl, astep_ld, astep_st, astep_nilc, astep_bin, astep_un, astep_cv, astep_fa, astep_ia, astep_aa, astep_fld, astep_idx, astep_chr, astep_ext, astep_app, astep_eqb, astep_mkf, anil_mp, anil_fp, ev, Option.getD_some, aput, get_set_eq, get_set_ne, acv_int, abin_add, abin_sub, abin_mul, abin_eql, abin_neq, abin_lss, abin_leq, abin_gtr, abin_geq, abin_quo, abin_rem, Option.map_some, List.length_set, withV_some, absl_one, List.map, hl]
        refine tri_region mixed ?_
        rw [List.take_length] at hA
        simp -failIfUnchanged -implicitDefEqProofs (disch := first | assumption | decide | (simp -failIfUnchanged only [List.length_set]; omega)) only [srun_nil, srun_mv, srun_op, srun_call, srun_callv, srun_pcall, callF_fn, thenE_normal, thenE_exit, thenE_ret, inBlk_normal, inBlk_same, inBlk_ret, astep_len, lenStep_sl, absl_2, absl_3, absl_4, absl_8, afa_fp, afa_mp, Nat.zero_add, Nat.add_zero, Nat.reduceAdd, astep_mv, astep_alloc, astep_box, astep_build, astep_bsl, astep_ld, astep_st, astep_nilc, astep_bin, astep_un, astep_cv, astep_fa, astep_ia, astep_aa, astep_fld, astep_idx, astep_chr, astep_ext, astep_app, astep_eqb, astep_mkf, anil_mp, anil_fp, ev, Option.getD_some, aput, get_set_eq, get_set_ne, acv_int, abin_add, abin_sub, abin_mul, abin_eql, abin_neq, abin_lss, abin_leq, abin_gtr, abin_geq, abin_quo, abin_rem, Option.map_some, List.length_set, withV_some, absl_one, List.map, hl, h0, h3, h4]
        rw [wrap_i64 (by omega) (by omega), hst]
        refine ⟨trivial, trivial, by simp, v3, rfl, ?_⟩
        have e : encNum l.length ++ ((l.take i).flatMap encStp ++ (encNums t.ns ++ encToks (t.slice.getD []) ++ (encNum ms.length ++ ms.flatMap encSet))) = pre2 ++ ms.flatMap encSet := by
          rw [← hpre2, ← hpre]; simp only [List.append_assoc]
        rw [e]; exact hA
    · clear hA h3 v3 h4 h0 hl
      rintro ts hp ⟨hl, h0, h4, v3, h3, hA⟩
      refine Tri.seq (Tri.seq (tri_region mixed ?_))
      simp -failIfUnchanged -implicitDefEqProofs (disch := first | assumption | decide | (simp -failIfUnchanged only [List.length_set]; omega)) only [srun_nil, srun_mv, srun_op, srun_call, srun_callv, srun_pcall, callF_fn, thenE_normal, thenE_exit, thenE_ret, inBlk_normal, inBlk_same, inBlk_ret, astep_len, lenStep_sl, absl_2, absl_3, absl_4, absl_8, afa_fp, afa_mp, Nat.zero_add, Nat.add_zero, Nat.reduceAdd, astep_mv, astep_alloc, astep_box, astep_build, astep_bsl, astep_ld, astep_st, astep_nilc, astep_bin, astep_un, astep_cv, astep_fa, astep_ia, astep_aa, astep_fld, astep_idx, astep_chr, astep_ext, astep_app, astep_eqb, astep_mkf, anil_mp, anil_fp, ev, Option.getD_some, aput, get_set_eq, get_set_ne, acv_int, abin_add, abin_sub, abin_mul, abin_eql, abin_neq, abin_lss, abin_leq, abin_gtr, abin_geq, abin_quo, abin_rem, Option.map_some, List.length_set, withV_some, absl_one, List.map, hl, h0, h4, hv.lenStep, goInt, List.length_map]
      refine Tri.cond (b := false) (by simp -failIfUnchanged -implicitDefEqProofs (disch := first | assumption | decide | (simp -failIfUnchanged only [List.length_set]; omega)) only [srun_nil, srun_mv, srun_op, srun_call, srun_callv, srun_pcall, callF_fn, thenE_normal, thenE_exit, thenE_ret, inBlk_normal, inBlk_same, inBlk_ret, astep_len, lenStep_sl, absl_2, absl_3, absl_4, absl_8, afa_fp, afa_mp, Nat.zero_add, Nat.add_zero, Nat.reduceAdd, astep_mv, astep_alloc, astep_box, astep_build, astep_bsl, astep_ld, astep_st, astep_nilc, astep_bin, astep_un, astep_cv, astep_fa, astep_ia, astep_aa, astep_fld, astep_idx, astep_chr, astep_ext, astep_app, astep_eqb, astep_mkf, anil_mp, anil_fp, ev, Option.getD_some, aput, get_set_eq, get_set_ne, acv_int, abin_add, abin_sub, abin_mul, abin_eql, abin_neq, abin_lss, abin_leq, abin_gtr, abin_geq, abin_quo, abin_rem, Option.map_some, List.length_set, withV_some, absl_one, List.map, hl]; simp) ?_
      refine Tri.exit ⟨rfl, ?_⟩
      rw [List.take_length] at hA
      simp -failIfUnchanged -implicitDefEqProofs (disch := first | assumption | decide | (simp -failIfUnchanged only [List.length_set]; omega)) only [srun_nil, srun_mv, srun_op, srun_call, srun_callv, srun_pcall, callF_fn, thenE_normal, thenE_exit, thenE_ret, inBlk_normal, inBlk_same, inBlk_ret, astep_len, lenStep_sl, absl_2, absl_3, absl_4, absl_8, afa_fp, afa_mp, Nat.zero_add, Nat.add_zero, Nat.reduceAdd, astep_mv, astep_alloc, astep_box, astep_build, astep_bsl, astep_ld, astep_st, astep_nilc, astep_bin, astep_un, astep_cv, astep_fa, astep_ia, astep_aa, astep_fld, astep_idx, astep_chr, astep_ext, astep_app, astep_eqb, astep_mkf, anil_mp, anil_fp, ev, Option.getD_some, aput, get_set_eq, get_set_ne, acv_int, abin_add, abin_sub, abin_mul, abin_eql, abin_neq, abin_lss, abin_leq, abin_gtr, abin_geq, abin_quo, abin_rem, Option.map_some, List.length_set, withV_some, absl_one, List.map, hl, h3]
      exact ⟨trivial, v3, rfl, hA⟩
  clear hA h3 v3 h0 hl
  rintro ts hp ⟨hl, v3, h3, hA⟩
  refine Tri.seq (tri_region mixed ?_)
  simp -failIfUnchanged -implicitDefEqProofs (disch := first | assumption | decide | (simp -failIfUnchanged only [List.length_set]; omega)) only [srun_nil, srun_mv, srun_op, srun_call, srun_callv, srun_pcall, callF_fn, thenE_normal, thenE_exit, thenE_ret, inBlk_normal, inBlk_same, inBlk_ret, astep_len, lenStep_sl, absl_2, absl_3, absl_4, absl_8, afa_fp, afa_mp, Nat.zero_add, Nat.add_zero, Nat.reduceAdd, astep_mv, astep_alloc, astep_box, astep_build, astep_bsl, astep_ld, astep_st, astep_nilc, astep_bin, astep_un, astep_cv, astep_fa, astep_ia, astep_aa, astep_fld, astep_idx, astep_chr, astep_ext, astep_app, astep_eqb, astep_mkf, anil_mp, anil_fp, ev, Option.getD_some, aput, get_set_eq, get_set_ne, acv_int, abin_add, abin_sub, abin_mul, abin_eql, abin_neq, abin_lss, abin_leq, abin_gtr, abin_geq, abin_quo, abin_rem, Option.map_some, List.length_set, withV_some, absl_one, List.map, hl, h3]
  rcases hA with ⟨rfl, e⟩ | ⟨id, rfl, hid⟩
  · exact (bs_ne (encMany_pos _ _) e).elim
  refine Tri.ret ⟨Or.inr rfl, _, resV_s (by simp -failIfUnchanged -implicitDefEqProofs (disch := first | assumption | decide | (simp -failIfUnchanged only [List.length_set]; omega)) only [srun_nil, srun_mv, srun_op, srun_call, srun_callv, srun_pcall, callF_fn, thenE_normal, thenE_exit, thenE_ret, inBlk_normal, inBlk_same, inBlk_ret, astep_len, lenStep_sl, absl_2, absl_3, absl_4, absl_8, afa_fp, afa_mp, Nat.zero_add, Nat.add_zero, Nat.reduceAdd, astep_mv, astep_alloc, astep_box, astep_build, astep_bsl, astep_ld, astep_st, astep_nilc, astep_bin, astep_un, astep_cv, astep_fa, astep_ia, astep_aa, astep_fld, astep_idx, astep_chr, astep_ext, astep_app, astep_eqb, astep_mkf, anil_mp, anil_fp, ev, Option.getD_some, aput, get_set_eq, get_set_ne, acv_int, abin_add, abin_sub, abin_mul, abin_eql, abin_neq, abin_lss, abin_leq, abin_gtr, abin_geq, abin_quo, abin_rem, Option.map_some, List.length_set, withV_some, absl_one, List.map, hl]), id, rfl, hid⟩

end Go.Proofs.Ytllgfmijocgniaa
