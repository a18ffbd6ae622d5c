/- The chapter's example. -/
import Derived.Test.YtllgfmijocgniaaD4
set_option linter.unusedVariables false
set_option linter.unusedSimpArgs false
namespace Go.Proofs.Ytllgfmijocgniaa
open Go Go.Abs Go.RowKit

theorem astep_b2s (ts : List AV) (hp : List Blk) (x : Opd) : astep ts hp (.b2s x) = (ab2s (ev ts x)).map fun r => (r, hp) := rfl

theorem bytesOf_bs (l : List Nat) : bytesOf (bs l) = some (l.map UInt8.ofNat) := by
  induction l with
  | nil => rfl
  | cons a r ih =>
    show (bytesOf (bs r)).map _ = _
    rw [ih]
    simp

/-- The text of bytes. -/
def strOf (l : List Nat) : ByteArray := ⟨(l.map UInt8.ofNat).toArray⟩

theorem ab2s_bs (l : List Nat) (t : Tail) : ab2s (.sl (bs l) t) = some (.v (.string (strOf l))) := by
  simp only [ab2s, bytesOf_bs, Option.map_some]; rfl

theorem abin_seq (a b : ByteArray) : abin .eql (.v (.string a)) (.v (.string b)) = some (.v (.bool (a.toList == b.toList))) := rfl
theorem abin_sne (a b : ByteArray) : abin .neq (.v (.string a)) (.v (.string b)) = some (.v (.bool !(a.toList == b.toList))) := rfl

def exTok : Tok := ⟨4, 0, 0, 97, [0, 0, 0, 0, 0, 0, 0, 0]⟩
theorem exTok_ok : exTok.Ok := ⟨⟨by decide, by decide⟩, ⟨by decide, by decide⟩, ⟨by decide, by decide⟩, ⟨by decide, by decide⟩, by decide, by decide⟩
theorem exTok_enc : encToks [exTok] = [2, 8, 0, 0, 194, 1, 0] := by
  have a : enc 194 = [194, 1] := by rw [enc_big (by decide), enc_small (by decide)]
  have z2 : encNum 1 = [2] := enc_small (by decide)
  have z8 : encNum 4 = [8] := enc_small (by decide)
  have z0 : encNum 0 = [0] := enc_small (by decide)
  have z97 : encNum 97 = [194, 1] := a
  show encNum 1 ++ ((encNum 4 ++ (encNum 0 ++ (encNum 0 ++ (encNum 97 ++ [])))) ++ (encNum 0 ++ _) ++ []) = _
  rw [z2, z8, z0, z97]
  rfl

theorem live8 : PureSpec Try.prog 8 [] (.v (.bool true)) := by
  refine pureSpec_of (fn_ok F8 ?_)
  have hl : (enterS [] 10).length = 10 := rfl
  show Tri _ s8.body _ ⟨enterS [] 10, []⟩
  generalize enterS [] 10 = ts at *
  unfold s8
  dsimp only
  refine Tri.mid (fun ts hp => ts.length = 10) (tri_region mixed ?_) ?_
  · simp -failIfUnchanged -implicitDefEqProofs (disch := first | assumption | decide | (simp -failIfUnchanged only [List.length_set]; omega)) only [srun_nil, srun_mv, srun_op, srun_call, srun_callv, srun_pcall, callF_fn, thenE_normal, thenE_exit, thenE_ret, inBlk_normal, inBlk_same, inBlk_ret, astep_len, lenStep_sl, absl_2, absl_3, absl_4, absl_8, afa_fp, afa_mp, Nat.zero_add, Nat.add_zero, Nat.reduceAdd, astep_mv, astep_alloc, astep_box, astep_build, astep_bsl, astep_ld, astep_st, astep_nilc, astep_bin, astep_un, astep_cv, astep_fa, astep_ia, astep_aa, astep_fld, astep_idx, astep_chr, astep_ext, astep_app, astep_eqb, astep_mkf, anil_mp, anil_fp, ev, Option.getD_some, aput, get_set_eq, get_set_ne, acv_int, abin_add, abin_sub, abin_mul, abin_eql, abin_neq, abin_lss, abin_leq, abin_gtr, abin_geq, abin_quo, abin_rem, Option.map_some, List.length_set, withV_some, absl_one, List.map, hl]
    simp
  clear hl ts
  rintro ts hp hl
  refine Tri.mid (fun ts hp => ts.length = 10 ∧ ∃ t, ts[1]? = some (.sl (bs (encToks [exTok])) t)) (tri_region mixed ?_) ?_
  · have e1 : afill zTok [(0, 1, i64 4), (3, 1, i32 97)] = some exTok.cs := by rfl
    have e1' := e1
    unfold zTok at e1'
    have e2 : absl 12 [.agg exTok.cs] = some (.sl [.agg exTok.cs] .exact) := by rfl
    simp -failIfUnchanged -implicitDefEqProofs (disch := first | assumption | decide | (simp -failIfUnchanged only [List.length_set]; omega)) only [srun_nil, srun_mv, srun_op, srun_call, srun_callv, srun_pcall, callF_fn, thenE_normal, thenE_exit, thenE_ret, inBlk_normal, inBlk_same, inBlk_ret, astep_len, lenStep_sl, absl_2, absl_3, absl_4, absl_8, afa_fp, afa_mp, Nat.zero_add, Nat.add_zero, Nat.reduceAdd, astep_mv, astep_alloc, astep_box, astep_build, astep_bsl, astep_ld, astep_st, astep_nilc, astep_bin, astep_un, astep_cv, astep_fa, astep_ia, astep_aa, astep_fld, astep_idx, astep_chr, astep_ext, astep_app, astep_eqb, astep_mkf, anil_mp, anil_fp, ev, Option.getD_some, aput, get_set_eq, get_set_ne, acv_int, abin_add, abin_sub, abin_mul, abin_eql, abin_neq, abin_lss, abin_leq, abin_gtr, abin_geq, abin_quo, abin_rem, Option.map_some, List.length_set, withV_some, absl_one, List.map, hl, e1', e2]
    refine call_own (tokens9 (v := .sl [exTok.av] .no) (l := [exTok]) (Or.inl rfl) (clean_sl fun x hx => by
      rw [List.mem_singleton] at hx; subst hx; exact tok_cells_clean _) (fun t ht => by rw [List.mem_singleton] at ht; subst ht; exact exTok_ok) (by rw [exTok_enc]; decide))
      (impCs1 (clean_sl fun x hx => by rw [List.mem_singleton] at hx; subst hx; exact tok_cells_clean exTok)) fun id hp' ehp hA => ?_
    simp -failIfUnchanged -implicitDefEqProofs (disch := first | assumption | decide | (simp -failIfUnchanged only [List.length_set]; omega)) only [srun_nil, srun_mv, srun_op, srun_call, srun_callv, srun_pcall, callF_fn, thenE_normal, thenE_exit, thenE_ret, inBlk_normal, inBlk_same, inBlk_ret, astep_len, lenStep_sl, absl_2, absl_3, absl_4, absl_8, afa_fp, afa_mp, Nat.zero_add, Nat.add_zero, Nat.reduceAdd, astep_mv, astep_alloc, astep_box, astep_build, astep_bsl, astep_ld, astep_st, astep_nilc, astep_bin, astep_un, astep_cv, astep_fa, astep_ia, astep_aa, astep_fld, astep_idx, astep_chr, astep_ext, astep_app, astep_eqb, astep_mkf, anil_mp, anil_fp, ev, Option.getD_some, aput, get_set_eq, get_set_ne, acv_int, abin_add, abin_sub, abin_mul, abin_eql, abin_neq, abin_lss, abin_leq, abin_gtr, abin_geq, abin_quo, abin_rem, Option.map_some, List.length_set, withV_some, absl_one, List.map, hl]
    exact ⟨trivial, trivial, _, rfl⟩
  clear hl ts
  rintro ts hp ⟨hl, t, h1⟩
  refine Tri.seq (tri_region mixed ?_)
  have e3 : absl 1 (bs [2, 8, 0, 0, 194, 1, 0]) = some (.sl (bs [2, 8, 0, 0, 194, 1, 0]) .exact) := by rfl
  have e3' : absl 1 [.v (.int .u8 2), .v (.int .u8 8), .v (.int .u8 0), .v (.int .u8 0), .v (.int .u8 194), .v (.int .u8 1), .v (.int .u8 0)] = some (.sl (bs [2, 8, 0, 0, 194, 1, 0]) .exact) := e3
  simp -failIfUnchanged -implicitDefEqProofs (disch := first | assumption | decide | (simp -failIfUnchanged only [List.length_set]; omega)) only [srun_nil, srun_mv, srun_op, srun_call, srun_callv, srun_pcall, callF_fn, thenE_normal, thenE_exit, thenE_ret, inBlk_normal, inBlk_same, inBlk_ret, astep_len, lenStep_sl, absl_2, absl_3, absl_4, absl_8, afa_fp, afa_mp, Nat.zero_add, Nat.add_zero, Nat.reduceAdd, astep_mv, astep_alloc, astep_box, astep_build, astep_bsl, astep_ld, astep_st, astep_nilc, astep_bin, astep_un, astep_cv, astep_fa, astep_ia, astep_aa, astep_fld, astep_idx, astep_chr, astep_ext, astep_app, astep_eqb, astep_mkf, anil_mp, anil_fp, ev, Option.getD_some, aput, get_set_eq, get_set_ne, acv_int, abin_add, abin_sub, abin_mul, abin_eql, abin_neq, abin_lss, abin_leq, abin_gtr, abin_geq, abin_quo, abin_rem, Option.map_some, List.length_set, withV_some, absl_one, List.map, hl, h1, astep_b2s, ab2s_bs, e3', abin_seq]
  rw [exTok_enc, beq_self_eq_true]
  refine Tri.ret ⟨Or.inr rfl, _, resV_s (by simp -failIfUnchanged -implicitDefEqProofs (disch := first | assumption | decide | (simp -failIfUnchanged only [List.length_set]; omega)) only [srun_nil, srun_mv, srun_op, srun_call, srun_callv, srun_pcall, callF_fn, thenE_normal, thenE_exit, thenE_ret, inBlk_normal, inBlk_same, inBlk_ret, astep_len, lenStep_sl, absl_2, absl_3, absl_4, absl_8, afa_fp, afa_mp, Nat.zero_add, Nat.add_zero, Nat.reduceAdd, astep_mv, astep_alloc, astep_box, astep_build, astep_bsl, astep_ld, astep_st, astep_nilc, astep_bin, astep_un, astep_cv, astep_fa, astep_ia, astep_aa, astep_fld, astep_idx, astep_chr, astep_ext, astep_app, astep_eqb, astep_mkf, anil_mp, anil_fp, ev, Option.getD_some, aput, get_set_eq, get_set_ne, acv_int, abin_add, abin_sub, abin_mul, abin_eql, abin_neq, abin_lss, abin_leq, abin_gtr, abin_geq, abin_quo, abin_rem, Option.map_some, List.length_set, withV_some, absl_one, List.map, hl]; rfl), ?_⟩
  exact impC_v _

end Go.Proofs.Ytllgfmijocgniaa
