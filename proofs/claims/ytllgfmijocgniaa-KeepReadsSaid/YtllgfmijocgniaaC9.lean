/- The writer's number. -/
import Derived.Test.YtllgfmijocgniaaC8
set_option linter.unusedVariables false
set_option linter.unusedSimpArgs false
namespace Go.Proofs.Ytllgfmijocgniaa
open Go Go.Abs Go.RowKit

theorem xor64 (a b : Int) : bitsOp .u64 a b (· ^^^ ·) = .int .u64 (IntKind.u64.wrap ((BitVec.ofInt 64 a ^^^ BitVec.ofInt 64 b).toNat : Int)) := rfl
theorem or8 (a b : Int) : bitsOp .u8 a b (· ||| ·) = .int .u8 (IntKind.u8.wrap ((BitVec.ofInt 8 a ||| BitVec.ofInt 8 b).toNat : Int)) := rfl

theorem xor_zz {n : Int} (h : Is64 n) : bitsOp .u64 (IntKind.u64.wrap (IntKind.u64.wrap n * 2 ^ (min (1 : Int).toNat IntKind.u64.bits))) (IntKind.u64.wrap (n.fdiv (2 ^ (min (63 : Int).toNat IntKind.i64.bits)))) (· ^^^ ·) = .int .u64 (zz n : Nat) := by
  have e1 : (2 : Int) ^ (min (1 : Int).toNat IntKind.u64.bits) = 2 := rfl
  have e2 : (2 : Int) ^ (min (63 : Int).toNat IntKind.i64.bits) = 9223372036854775808 := rfl
  rw [e1, e2]
  obtain ⟨h0, h1⟩ := h
  rw [xor64]
  rw [Int.fdiv_eq_ediv_of_nonneg _ (by decide)]
  rw [wrap_u64, wrap_u64, wrap_u64, wrap_u64]
  have p : (2 : Nat) ^ 64 = 18446744073709551616 := by decide
  by_cases hn : n < 0
  · have d : n / 9223372036854775808 = -1 := by omega
    have x1 : (BitVec.ofInt 64 ((-1 : Int) % 18446744073709551616)) = BitVec.allOnes 64 := by decide
    rw [d, x1, BitVec.xor_allOnes, BitVec.toNat_not, BitVec.toNat_ofInt, p]
    unfold zz
    rw [if_pos hn]
    congr 1
    omega
  · have d : n / 9223372036854775808 = 0 := by omega
    have x1 : (BitVec.ofInt 64 ((0 : Int) % 18446744073709551616)) = 0#64 := by decide
    rw [d, x1, BitVec.xor_zero, BitVec.toNat_ofInt, p]
    unfold zz
    rw [if_neg hn]
    congr 1
    omega

theorem or_table : ∀ x : Fin 256, (BitVec.ofNat 8 x.val ||| 128#8).toNat = x.val % 128 + 128 := by decide +kernel

theorem or_128 (u : Nat) : bitsOp .u8 (IntKind.u8.wrap (u : Int)) 128 (· ||| ·) = .int .u8 ((u % 128 + 128 : Nat) : Int) := by
  rw [or8, wrap_u8, wrap_u8]
  congr 1
  have p : (2 : Nat) ^ 8 = 256 := by decide
  have x1 : BitVec.ofInt 8 ((u : Int) % 256) = BitVec.ofNat 8 (u % 256) := by
    apply BitVec.eq_of_toNat_eq
    rw [BitVec.toNat_ofInt, BitVec.toNat_ofNat, p]
    omega
  have x2 : BitVec.ofInt 8 (128 : Int) = 128#8 := by decide
  have t' : (BitVec.ofNat 8 (u % 256) ||| 128#8).toNat = u % 256 % 128 + 128 := or_table ⟨u % 256, Nat.mod_lt _ (by decide)⟩
  rw [x1, x2, t']
  omega

/-- What a write leaves of the heap. -/
structure WRel (hp hp' : List Blk) (k : Nat) : Prop where
  len : hp.length ≤ hp'.length
  cells : ∀ (j : Nat) cs fz, j ≠ k → hp[j]? = some (.cells cs fz) → hp'[j]? = some (.cells cs fz)

theorem WRel.refl (hp : List Blk) (k : Nat) : WRel hp hp k := ⟨Nat.le_refl _, fun _ _ _ _ h => h⟩
theorem WRel.trans {a b c : List Blk} {k : Nat} (h : WRel a b k) (h' : WRel b c k) : WRel a c k := ⟨Nat.le_trans h.len h'.len, fun j cs fz hj q => h'.cells j cs fz hj (h.cells j cs fz hj q)⟩
theorem WRel.of_app {a b : List Blk} {v : AV} {k : Nat} (h : AppRel a b v) : WRel a b k := ⟨h.len, fun j cs fz _ q => h.cells j cs fz q⟩
theorem WRel.set (a : List Blk) (k : Nat) (b : Blk) : WRel a (a.set k b) k := ⟨by simp, fun j cs fz hj q => by rw [List.getElem?_set_ne (Ne.symm hj)]; exact q⟩
theorem WRel.ext (a l : List Blk) (k : Nat) : WRel a (a ++ l) k := ⟨by simp, fun j cs fz _ q => get_ext q⟩

/-- The writer's block: its bytes so far. -/
def Wr (hp : List Blk) (k : Nat) (pre : List Nat) : Prop := ∃ v, hp[k]? = some (.cells [v] false) ∧ Appd hp v (bs pre) 1

/-- A call that writes these bytes. -/
def Writes (f : FuncId) (args : List AV) (e : List Nat) : Prop := ∀ hp k pre (K : AV → List Blk → Prop), Wr hp k pre → (pre ++ e).length ≤ 140737488355328 → (∀ hp', Wr hp' k (pre ++ e) → WRel hp hp' k → K (.tup []) hp') → CallOk Try.prog f (.mp k 0 :: args) hp K

theorem Appd.set_cells {hp : List Blk} {v : AV} {xs : List AV} {n k : Nat} {cs cs' : List AV} {fz fz' : Bool} (h : Appd hp v xs n) (hk : hp[k]? = some (.cells cs fz)) : Appd (hp.set k (.cells cs' fz')) v xs n :=
  h.imp id fun ⟨id, e, h⟩ => ⟨id, e, by
    rw [List.getElem?_set_ne]
    · exact h
    · intro e; subst e; rw [hk] at h; cases h⟩

theorem appd_one {hp : List Blk} {v : AV} {xs : List AV} {n : Nat} (h : Appd hp v xs n) : v.cells = [v] ∧ v.one = true := by
  rcases h with ⟨rfl, _⟩ | ⟨id, rfl, _⟩ <;> exact ⟨rfl, rfl⟩

/-- The writer's block, written. -/
theorem store_wr {hp hp2 : List Blk} {k : Nat} {v v' : AV} {pre : List Nat} (hk : hp2[k]? = some (.cells [v] false)) (hA : Appd hp2 v' (bs pre) 1) : astore hp2 1 (.mp k 0) v' = some (hp2.set k (.cells [v'] false)) ∧ Wr (hp2.set k (.cells [v'] false)) k pre := by
  obtain ⟨c1, c2⟩ := appd_one hA
  have hl : k < hp2.length := (List.getElem?_eq_some_iff.1 hk).1
  refine ⟨?_, v', by rw [List.getElem?_set_self hl], Appd.set_cells hA hk⟩
  unfold astore
  simp only [hk]
  rw [if_pos ⟨by rw [c1]; rfl, by simp, by rw [c1]; simp [c2]⟩, c1]
  rfl

theorem resV_nil (s : St) : resV s [] = some (.tup []) := rfl

theorem num46 {n : Int} (h : Is64 n) : Writes 46 [i64 n] (encNum n) := by
  intro hp k pre K ⟨v, hk, hA⟩ hfit hK
  refine fn_ok F46 ?_
  have hl : (enterS [.mp k 0, i64 n] 39).length = 39 := rfl
  have h0 : (enterS [.mp k 0, i64 n] 39)[0]? = some (.mp k 0) := rfl
  have h1 : (enterS [.mp k 0, i64 n] 39)[1]? = some (i64 n) := rfl
  show Tri _ s46.body _ ⟨enterS [.mp k 0, i64 n] 39, hp⟩
  generalize enterS [.mp k 0, i64 n] 39 = ts at *
  unfold s46
  dsimp only
  have hz : zz n < 18446744073709551616 := zz_lt h.1 h.2
  refine Tri.mid (fun ts hp' => hp' = hp ∧ ts.length = 39 ∧ ts[0]? = some (.mp k 0) ∧ ts[4]? = some (.v (.int .u64 (zz n : Nat)))) (tri_region mixed ?_) ?_
  · have hx := xor_zz h
    simp -failIfUnchanged -implicitDefEqProofs (disch := first | assumption | decide | (simp -failIfUnchanged only [List.length_set]; omega)) only [srun_nil, srun_mv, srun_op, srun_call, srun_callv, srun_pcall, callF_fn, thenE_normal, thenE_exit, thenE_ret, inBlk_normal, inBlk_same, inBlk_ret, astep_len, lenStep_sl, absl_2, absl_3, absl_4, absl_8, afa_fp, afa_mp, Nat.zero_add, Nat.add_zero, Nat.reduceAdd, astep_mv, astep_alloc, astep_box, astep_build, astep_bsl, astep_ld, astep_st, astep_nilc, astep_bin, astep_un, astep_cv, astep_fa, astep_ia, astep_aa, astep_fld, astep_idx, astep_chr, astep_ext, astep_app, astep_eqb, astep_mkf, anil_mp, anil_fp, ev, Option.getD_some, aput, get_set_eq, get_set_ne, acv_int, abin_add, abin_sub, abin_mul, abin_eql, abin_neq, abin_lss, abin_leq, abin_gtr, abin_geq, abin_quo, abin_rem, Option.map_some, List.length_set, withV_some, absl_one, List.map, hl, h0, h1, abin_shl, abin_shr, abin_xor, hx]
    trivial
  clear hl h0 h1 ts
  rintro ts hp' ⟨rfl, hl, h0, h4⟩
  have het : encNum n = enc (zz n) := rfl
  rw [het] at hfit hK
  generalize zz n = z at *
  refine Tri.mid (fun ts hp2 => ∃ w u, u < 128 ∧ ts.length = 39 ∧ ts[0]? = some (.mp k 0) ∧ ts[4]? = some (.v (.int .u64 (u : Nat))) ∧ Wr hp2 k (pre ++ w) ∧ WRel hp' hp2 k ∧ w ++ enc u = enc z) ?_ ?_
  · refine Tri.block (Tri.while (fun m ts hp2 => ∃ w, m < 18446744073709551616 ∧ ts.length = 39 ∧ ts[0]? = some (.mp k 0) ∧ ts[4]? = some (.v (.int .u64 (m : Nat))) ∧ Wr hp2 k (pre ++ w) ∧ WRel hp' hp2 k ∧ w ++ enc m = enc z) (n := z) ⟨[], hz, hl, h0, h4, by rw [List.append_nil]; exact ⟨v, hk, hA⟩, WRel.refl _ _, rfl⟩ ?_)
    clear hl h0 h4 hA hk v ts
    rintro m ts hp ⟨w, hm, hl, h0, h4, ⟨v, hk, hA⟩, hR, he⟩
    have hlen : w.length + (enc m).length = (enc z).length := by rw [← he, List.length_append]
    have hpos := enc_pos m
    rw [List.length_append] at hfit
    refine Tri.seq (Tri.seq (tri_region mixed ?_))
    simp -failIfUnchanged -implicitDefEqProofs (disch := first | assumption | decide | (simp -failIfUnchanged only [List.length_set]; omega)) only [srun_nil, srun_mv, srun_op, srun_call, srun_callv, srun_pcall, callF_fn, thenE_normal, thenE_exit, thenE_ret, inBlk_normal, inBlk_same, inBlk_ret, astep_len, lenStep_sl, absl_2, absl_3, absl_4, absl_8, afa_fp, afa_mp, Nat.zero_add, Nat.add_zero, Nat.reduceAdd, astep_mv, astep_alloc, astep_box, astep_build, astep_bsl, astep_ld, astep_st, astep_nilc, astep_bin, astep_un, astep_cv, astep_fa, astep_ia, astep_aa, astep_fld, astep_idx, astep_chr, astep_ext, astep_app, astep_eqb, astep_mkf, anil_mp, anil_fp, ev, Option.getD_some, aput, get_set_eq, get_set_ne, acv_int, abin_add, abin_sub, abin_mul, abin_eql, abin_neq, abin_lss, abin_leq, abin_gtr, abin_geq, abin_quo, abin_rem, Option.map_some, List.length_set, withV_some, absl_one, List.map, hl, h0, h4]
    refine Tri.cond (b := decide (128 ≤ (m : Int))) (by simp -failIfUnchanged -implicitDefEqProofs (disch := first | assumption | decide | (simp -failIfUnchanged only [List.length_set]; omega)) only [srun_nil, srun_mv, srun_op, srun_call, srun_callv, srun_pcall, callF_fn, thenE_normal, thenE_exit, thenE_ret, inBlk_normal, inBlk_same, inBlk_ret, astep_len, lenStep_sl, absl_2, absl_3, absl_4, absl_8, afa_fp, afa_mp, Nat.zero_add, Nat.add_zero, Nat.reduceAdd, astep_mv, astep_alloc, astep_box, astep_build, astep_bsl, astep_ld, astep_st, astep_nilc, astep_bin, astep_un, astep_cv, astep_fa, astep_ia, astep_aa, astep_fld, astep_idx, astep_chr, astep_ext, astep_app, astep_eqb, astep_mkf, anil_mp, anil_fp, ev, Option.getD_some, aput, get_set_eq, get_set_ne, acv_int, abin_add, abin_sub, abin_mul, abin_eql, abin_neq, abin_lss, abin_leq, abin_gtr, abin_geq, abin_quo, abin_rem, Option.map_some, List.length_set, withV_some, absl_one, List.map, hl]) ?_
    by_cases hu : m < 128
    · have e : decide (128 ≤ (m : Int)) = false := by simp; omega
      rw [e]
      refine Tri.exit ⟨rfl, w, m, hu, ?_⟩
      simp -failIfUnchanged -implicitDefEqProofs (disch := first | assumption | decide | (simp -failIfUnchanged only [List.length_set]; omega)) only [srun_nil, srun_mv, srun_op, srun_call, srun_callv, srun_pcall, callF_fn, thenE_normal, thenE_exit, thenE_ret, inBlk_normal, inBlk_same, inBlk_ret, astep_len, lenStep_sl, absl_2, absl_3, absl_4, absl_8, afa_fp, afa_mp, Nat.zero_add, Nat.add_zero, Nat.reduceAdd, astep_mv, astep_alloc, astep_box, astep_build, astep_bsl, astep_ld, astep_st, astep_nilc, astep_bin, astep_un, astep_cv, astep_fa, astep_ia, astep_aa, astep_fld, astep_idx, astep_chr, astep_ext, astep_app, astep_eqb, astep_mkf, anil_mp, anil_fp, ev, Option.getD_some, aput, get_set_eq, get_set_ne, acv_int, abin_add, abin_sub, abin_mul, abin_eql, abin_neq, abin_lss, abin_leq, abin_gtr, abin_geq, abin_quo, abin_rem, Option.map_some, List.length_set, withV_some, absl_one, List.map, hl, h0, h4]
      exact ⟨trivial, trivial, trivial, ⟨v, hk, hA⟩, hR, he⟩
    · have e : decide (128 ≤ (m : Int)) = true := by simp; omega
      rw [e]
      have l0 : ∀ hp : List Blk, hp[k]? = some (.cells [v] false) → aload hp false 1 (.mp k 0) = some v := fun hp q => aload_mp q rfl
      have ho := or_128 m
      have hs : IntKind.u64.bits = 64 := rfl
      refine Tri.skip (Tri.block (Tri.seq (tri_region mixed ?_)))
      simp -failIfUnchanged -implicitDefEqProofs (disch := first | assumption | decide | (simp -failIfUnchanged only [List.length_set]; omega)) only [srun_nil, srun_mv, srun_op, srun_call, srun_callv, srun_pcall, callF_fn, thenE_normal, thenE_exit, thenE_ret, inBlk_normal, inBlk_same, inBlk_ret, astep_len, lenStep_sl, absl_2, absl_3, absl_4, absl_8, afa_fp, afa_mp, Nat.zero_add, Nat.add_zero, Nat.reduceAdd, astep_mv, astep_alloc, astep_box, astep_build, astep_bsl, astep_ld, astep_st, astep_nilc, astep_bin, astep_un, astep_cv, astep_fa, astep_ia, astep_aa, astep_fld, astep_idx, astep_chr, astep_ext, astep_app, astep_eqb, astep_mkf, anil_mp, anil_fp, ev, Option.getD_some, aput, get_set_eq, get_set_ne, acv_int, abin_add, abin_sub, abin_mul, abin_eql, abin_neq, abin_lss, abin_leq, abin_gtr, abin_geq, abin_quo, abin_rem, Option.map_some, List.length_set, withV_some, absl_one, List.map, hl, h0, h4, l0 hp hk, abin_or, ho]
      refine app_bs (e := [m % 128 + 128]) hA (by simp) (by simp only [List.length_append, List.length_cons, List.length_nil]; omega) fun v' hp2 hA' hrel _ => ?_
      obtain ⟨s1, s2⟩ := store_wr (hp := hp) (hrel.cells _ _ _ hk) hA'
      simp -failIfUnchanged -implicitDefEqProofs (disch := first | assumption | decide | (simp -failIfUnchanged only [List.length_set]; omega)) only [srun_nil, srun_mv, srun_op, srun_call, srun_callv, srun_pcall, callF_fn, thenE_normal, thenE_exit, thenE_ret, inBlk_normal, inBlk_same, inBlk_ret, astep_len, lenStep_sl, absl_2, absl_3, absl_4, absl_8, afa_fp, afa_mp, Nat.zero_add, Nat.add_zero, Nat.reduceAdd, astep_mv, astep_alloc, astep_box, astep_build, astep_bsl, astep_ld, astep_st, astep_nilc, astep_bin, astep_un, astep_cv, astep_fa, astep_ia, astep_aa, astep_fld, astep_idx, astep_chr, astep_ext, astep_app, astep_eqb, astep_mkf, anil_mp, anil_fp, ev, Option.getD_some, aput, get_set_eq, get_set_ne, acv_int, abin_add, abin_sub, abin_mul, abin_eql, abin_neq, abin_lss, abin_leq, abin_gtr, abin_geq, abin_quo, abin_rem, Option.map_some, List.length_set, withV_some, absl_one, List.map, hl, h0, h4, s1]
      refine tri_region mixed ?_
      simp -failIfUnchanged -implicitDefEqProofs (disch := first | assumption | decide | (simp -failIfUnchanged only [List.length_set]; omega)) only [srun_nil, srun_mv, srun_op, srun_call, srun_callv, srun_pcall, callF_fn, thenE_normal, thenE_exit, thenE_ret, inBlk_normal, inBlk_same, inBlk_ret, astep_len, lenStep_sl, absl_2, absl_3, absl_4, absl_8, afa_fp, afa_mp, Nat.zero_add, Nat.add_zero, Nat.reduceAdd, astep_mv, astep_alloc, astep_box, astep_build, astep_bsl, astep_ld, astep_st, astep_nilc, astep_bin, astep_un, astep_cv, astep_fa, astep_ia, astep_aa, astep_fld, astep_idx, astep_chr, astep_ext, astep_app, astep_eqb, astep_mkf, anil_mp, anil_fp, ev, Option.getD_some, aput, get_set_eq, get_set_ne, acv_int, abin_add, abin_sub, abin_mul, abin_eql, abin_neq, abin_lss, abin_leq, abin_gtr, abin_geq, abin_quo, abin_rem, Option.map_some, List.length_set, withV_some, absl_one, List.map, hl, h0, h4, abin_shr]
      have b2 : (m : Int).fdiv (2 ^ (min (7 : Int).toNat IntKind.u64.bits)) = ((m / 128 : Nat) : Int) := by
        have : (2 : Int) ^ (min (7 : Int).toNat IntKind.u64.bits) = 128 := rfl
        rw [this, Int.fdiv_eq_ediv_of_nonneg _ (by decide)]; omega
      rw [b2]
      refine ⟨m / 128, by omega, w ++ [m % 128 + 128], ?_⟩
      simp -failIfUnchanged -implicitDefEqProofs (disch := first | assumption | decide | (simp -failIfUnchanged only [List.length_set]; omega)) only [srun_nil, srun_mv, srun_op, srun_call, srun_callv, srun_pcall, callF_fn, thenE_normal, thenE_exit, thenE_ret, inBlk_normal, inBlk_same, inBlk_ret, astep_len, lenStep_sl, absl_2, absl_3, absl_4, absl_8, afa_fp, afa_mp, Nat.zero_add, Nat.add_zero, Nat.reduceAdd, astep_mv, astep_alloc, astep_box, astep_build, astep_bsl, astep_ld, astep_st, astep_nilc, astep_bin, astep_un, astep_cv, astep_fa, astep_ia, astep_aa, astep_fld, astep_idx, astep_chr, astep_ext, astep_app, astep_eqb, astep_mkf, anil_mp, anil_fp, ev, Option.getD_some, aput, get_set_eq, get_set_ne, acv_int, abin_add, abin_sub, abin_mul, abin_eql, abin_neq, abin_lss, abin_leq, abin_gtr, abin_geq, abin_quo, abin_rem, Option.map_some, List.length_set, withV_some, absl_one, List.map, hl, h0, h4]
      refine ⟨by omega, trivial, trivial, trivial, by rw [← List.append_assoc]; exact s2, hR.trans ((WRel.of_app hrel).trans (WRel.set _ _ _)), ?_⟩
      rw [← he, enc_big hu, List.append_assoc]; rfl
  clear hl h0 h4 hA hk v ts
  rintro ts hp ⟨w, u, hu, hl, h0, h4, ⟨v, hk, hA⟩, hR, he⟩
  have l0 : ∀ hp : List Blk, hp[k]? = some (.cells [v] false) → aload hp false 1 (.mp k 0) = some v := fun hp q => aload_mp q rfl
  have hlen : w.length + (enc u).length = (enc z).length := by rw [← he, List.length_append]
  have hpos := enc_pos u
  rw [List.length_append] at hfit
  refine tri_region mixed ?_
  simp -failIfUnchanged -implicitDefEqProofs (disch := first | assumption | decide | (simp -failIfUnchanged only [List.length_set]; omega)) only [srun_nil, srun_mv, srun_op, srun_call, srun_callv, srun_pcall, callF_fn, thenE_normal, thenE_exit, thenE_ret, inBlk_normal, inBlk_same, inBlk_ret, astep_len, lenStep_sl, absl_2, absl_3, absl_4, absl_8, afa_fp, afa_mp, Nat.zero_add, Nat.add_zero, Nat.reduceAdd, astep_mv, astep_alloc, astep_box, astep_build, astep_bsl, astep_ld, astep_st, astep_nilc, astep_bin, astep_un, astep_cv, astep_fa, astep_ia, astep_aa, astep_fld, astep_idx, astep_chr, astep_ext, astep_app, astep_eqb, astep_mkf, anil_mp, anil_fp, ev, Option.getD_some, aput, get_set_eq, get_set_ne, acv_int, abin_add, abin_sub, abin_mul, abin_eql, abin_neq, abin_lss, abin_leq, abin_gtr, abin_geq, abin_quo, abin_rem, Option.map_some, List.length_set, withV_some, absl_one, List.map, hl, h0, h4, l0 hp hk]
  have b1 : IntKind.u8.wrap (u : Int) = (u : Int) := by rw [wrap_u8]; omega
  rw [b1]
  refine app_bs (e := [u]) hA (by simp) (by simp only [List.length_append, List.length_cons, List.length_nil]; omega) fun v' hp2 hA' hrel _ => ?_
  obtain ⟨s1, s2⟩ := store_wr (hp := hp) (hrel.cells _ _ _ hk) hA'
  simp -failIfUnchanged -implicitDefEqProofs (disch := first | assumption | decide | (simp -failIfUnchanged only [List.length_set]; omega)) only [srun_nil, srun_mv, srun_op, srun_call, srun_callv, srun_pcall, callF_fn, thenE_normal, thenE_exit, thenE_ret, inBlk_normal, inBlk_same, inBlk_ret, astep_len, lenStep_sl, absl_2, absl_3, absl_4, absl_8, afa_fp, afa_mp, Nat.zero_add, Nat.add_zero, Nat.reduceAdd, astep_mv, astep_alloc, astep_box, astep_build, astep_bsl, astep_ld, astep_st, astep_nilc, astep_bin, astep_un, astep_cv, astep_fa, astep_ia, astep_aa, astep_fld, astep_idx, astep_chr, astep_ext, astep_app, astep_eqb, astep_mkf, anil_mp, anil_fp, ev, Option.getD_some, aput, get_set_eq, get_set_ne, acv_int, abin_add, abin_sub, abin_mul, abin_eql, abin_neq, abin_lss, abin_leq, abin_gtr, abin_geq, abin_quo, abin_rem, Option.map_some, List.length_set, withV_some, absl_one, List.map, hl, h0, h4, s1]
  refine ⟨Or.inl trivial, _, resV_nil _, hK _ ?_ (hR.trans ((WRel.of_app hrel).trans (WRel.set _ _ _)))⟩
  rw [← he, enc_small hu, ← List.append_assoc]
  exact s2

end Go.Proofs.Ytllgfmijocgniaa
