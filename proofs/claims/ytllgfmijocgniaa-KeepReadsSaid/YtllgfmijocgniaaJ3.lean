/- The program's walk over a journal's frames. -/
import Derived.Test.YtllgfmijocgniaaJ2
set_option linter.unusedVariables false
set_option linter.unusedSimpArgs false
namespace Go.Proofs.Ytllgfmijocgniaa
open Go Go.Abs Go.RowKit

theorem bs_drop (l : List Nat) (n : Nat) : bs (l.drop n) = (bs l).drop n := List.map_drop
theorem bs_take (l : List Nat) (n : Nat) : bs (l.take n) = (bs l).take n := List.map_take
theorem bs_all1 (l : List Nat) : (bs l).all (fun x => x.cells.length == 1) = true := by
  rw [List.all_eq_true]
  intro x hx
  simpa using bs_cells l x hx

theorem slc_no {l : List Nat} {lo hi : Nat} (h : lo ≤ hi) (h2 : hi ≤ l.length) (hp : List Blk) : slcStep 1 (.sl (bs l) .no) (some (i64 lo)) (some (i64 hi)) none hp = some (.sl (bs ((l.drop lo).take (hi - lo))) .no, hp) := by
  have e1 : bnds (bs l).length (bs l).length (some (lo : Int)) (some (hi : Int)) none = some (lo, hi, (bs l).length) := by
    simp [bnds, bnd, bs_length, h2, h]
  have e2 : ∀ m, tailOf .no (bs l).length lo hi m false = .no := fun m => by simp [tailOf]
  simp only [slcStep, asl, oint, e1, bs_all1, if_true, Option.isSome_none, e2, Option.map_some]
  rw [bs_take, bs_drop, List.drop_take]

theorem slc_from {l : List Nat} {lo : Nat} (h : lo ≤ l.length) (hp : List Blk) : slcStep 1 (.sl (bs l) .no) (some (i64 lo)) none none hp = some (.sl (bs (l.drop lo)) .no, hp) := by
  have e1 : bnds (bs l).length (bs l).length (some (lo : Int)) none none = some (lo, (bs l).length, (bs l).length) := by
    simp [bnds, bnd, bs_length, h]
  have e2 : ∀ m, tailOf .no (bs l).length lo (bs l).length m false = .no := fun m => by simp [tailOf]
  simp only [slcStep, asl, oint, e1, bs_all1, if_true, Option.isSome_none, e2, Option.map_some]
  rw [List.take_of_length_le (Nat.le_refl _), bs_drop]

theorem small_sub {l : List Nat} (h : ∀ x ∈ l, x < 256) (p n : Nat) : ∀ x ∈ (l.drop p).take n, x < 256 := fun x hx => h x (List.mem_of_mem_drop (List.mem_of_mem_take hx))

theorem unp_one {α : Type} {u : Option (List α) × Nat × Nat} (h0 : u.2.2 = 0) (h1 : (u.1.getD []).length = 1) : ∃ o x, u = (some [o], x, 0) := by
  obtain ⟨a, b, c⟩ := u
  simp only at h0 h1
  subst h0
  cases a with
  | none => simp at h1
  | some l =>
    obtain ⟨o, rfl⟩ := List.length_eq_one_iff.1 h1
    exact ⟨o, b, rfl⟩

set_option maxRecDepth 20000 in
theorem walk60 {b : AV} {bl : List Nat} (hb : Bytes b bl) {k j : Nat} (I : Nat → List Opr → List Blk → Prop) (hj : ∀ p acc hp, I p acc hp → hp[j]? = some (.cells [b] false))
    (hy : ∀ p acc hp o q, I p acc hp → frameAt bl p = some (o, q) → CallV Try.prog (.yd k) [i64 q, o.av] hp fun r hp' => r = .v (.bool true) ∧ I q (acc ++ [o]) hp')
    {l : List Opr} {q : Nat} (hF : Frames bl 0 l q) {hp : List Blk} {K : AV → List Blk → Prop} (h0 : I 0 [] hp) (hK : ∀ hp', I q l hp' → K (.tup []) hp') : CallOk Try.prog 60 [.yd k, .mp j 0] hp K := by
  refine fnE mixed T60 U60 (Nat.le_of_ble_eq_true rfl) ?_
  unfold c60
  simp -failIfUnchanged -implicitDefEqProofs (disch := first | assumption | decide | omega) only [wkA, instrE, astepE, evE, evsE, evoE, evpE, elook, econs, eonly, putE, argE, pickE, resE, rsE, rE, Option.bind_some, Option.bind_none, Option.map_some, Option.map_none, ↓reduceIte, Nat.reduceEqDiff, Nat.reduceAdd, Nat.zero_add, Nat.add_zero, Nat.reduceLT, Nat.reduceLeDiff, Bool.false_eq_true]
  refine wpE_while (fun m e hp' => ∃ p acc rest, m = bl.length + 1 - p ∧ e = [(0, .yd k), (1, .mp j 0), (3, i64 p)] ∧ p ≤ bl.length ∧ Frames bl p rest q ∧ acc ++ rest = l ∧ I p acc hp') (n := bl.length + 1)
    ⟨0, [], l, rfl, rfl, Nat.zero_le _, hF, rfl, h0⟩ ?_
  clear h0 hF
  rintro m e hp' ⟨p, acc, rest, rfl, rfl, hp, hF, hl, hI⟩
  have hlen := hb.len
  have fin : frameAt bl p = none → K (.tup []) hp' := fun h => by
    cases hF with
    | done _ => rw [List.append_nil] at hl; subst hl; exact hK _ hI
    | step h' _ => rw [h] at h'; cases h'
  have ld : aload hp' false 1 (.mp j 0) = some b := aload_mp (hj _ _ _ hI) rfl
  have x1 : IntKind.i64.wrap ((p : Int) + 4) = ((p + 4 : Nat) : Int) := by rw [wrap_i64 (by omega) (by omega)]; rfl
  simp -failIfUnchanged -implicitDefEqProofs (disch := first | assumption | decide | omega) only [wkA, instrE, astepE, evE, evsE, evoE, evpE, elook, econs, eonly, putE, argE, pickE, resE, rsE, rE, Option.bind_some, Option.bind_none, Option.map_some, Option.map_none, ↓reduceIte, Nat.reduceEqDiff, Nat.reduceAdd, Nat.zero_add, Nat.add_zero, Nat.reduceLT, Nat.reduceLeDiff, Bool.false_eq_true, ld, hb.slc.lenStep, goInt, bs_length, x1]
  refine BoolCase.mk (fun h => ?_) fun h => ?_
  rotate_left 1
  · have h4 : ¬ p + 4 ≤ bl.length := by simp at h; omega
    simp -failIfUnchanged -implicitDefEqProofs (disch := first | assumption | decide | omega) only [wkA, instrE, astepE, evE, evsE, evoE, evpE, elook, econs, eonly, putE, argE, pickE, resE, rsE, rE, Option.bind_some, Option.bind_none, Option.map_some, Option.map_none, ↓reduceIte, Nat.reduceEqDiff, Nat.reduceAdd, Nat.zero_add, Nat.add_zero, Nat.reduceLT, Nat.reduceLeDiff, Bool.false_eq_true]
    exact fin (by unfold frameAt; rw [if_neg (by omega)])
  have h4 : p + 4 ≤ bl.length := by simp at h; omega
  have hbv : b = .sl (bs bl) .no := by
    rcases hb.slc with rfl | ⟨rfl, e⟩
    · rfl
    · have : bl.length = 0 := by simpa [bs] using congrArg List.length e
      omega
  subst hbv
  simp -failIfUnchanged -implicitDefEqProofs (disch := first | assumption | decide | omega) only [wkA, instrE, astepE, evE, evsE, evoE, evpE, elook, econs, eonly, putE, argE, pickE, resE, rsE, rE, Option.bind_some, Option.bind_none, Option.map_some, Option.map_none, ↓reduceIte, Nat.reduceEqDiff, Nat.reduceAdd, Nat.zero_add, Nat.add_zero, Nat.reduceLT, Nat.reduceLeDiff, Bool.false_eq_true, ld, slc_from hp]
  refine CallOk.pure (length61 (l := bl.drop p) (Or.inl rfl) (fun x hx => hb.small x (List.mem_of_mem_drop hx)) (by simp; omega)) (impCs1 (clean_sl (bs_clean _))) ?_
  have hn : leN (bl.drop p) 4 = le32 bl p := rfl
  have hn32 : le32 bl p < 4294967296 := by
    have := leN_lt (l := bl.drop p) (fun x hx => hb.small x (List.mem_of_mem_drop hx)) 4
    rw [hn] at this
    exact Nat.lt_of_lt_of_le this (by decide)
  rw [hn]
  generalize hN : le32 bl p = n at *
  have x2 : IntKind.i64.wrap ((bl.length : Int) - ((p + 4 : Nat) : Int)) = ((bl.length - (p + 4) : Nat) : Int) := by rw [wrap_i64 (by omega) (by omega)]; omega
  simp -failIfUnchanged -implicitDefEqProofs (disch := first | assumption | decide | omega) only [wkA, instrE, astepE, evE, evsE, evoE, evpE, elook, econs, eonly, putE, argE, pickE, resE, rsE, rE, Option.bind_some, Option.bind_none, Option.map_some, Option.map_none, ↓reduceIte, Nat.reduceEqDiff, Nat.reduceAdd, Nat.zero_add, Nat.add_zero, Nat.reduceLT, Nat.reduceLeDiff, Bool.false_eq_true, x1, ld, hb.slc.lenStep, goInt, bs_length, x2]
  refine BoolCase.mk (fun h2 => ?_) fun h2 => ?_
  · have h5 : bl.length - (p + 4) < n := by simp at h2; omega
    simp -failIfUnchanged -implicitDefEqProofs (disch := first | assumption | decide | omega) only [wkA, instrE, astepE, evE, evsE, evoE, evpE, elook, econs, eonly, putE, argE, pickE, resE, rsE, rE, Option.bind_some, Option.bind_none, Option.map_some, Option.map_none, ↓reduceIte, Nat.reduceEqDiff, Nat.reduceAdd, Nat.zero_add, Nat.add_zero, Nat.reduceLT, Nat.reduceLeDiff, Bool.false_eq_true]
    exact fin (by unfold frameAt; rw [hN, if_neg (by omega)])
  have h5 : n ≤ bl.length - (p + 4) := by simp at h2; omega
  have x3 : IntKind.i64.wrap (((p + 4 : Nat) : Int) + (n : Int)) = ((p + 4 + n : Nat) : Int) := by rw [wrap_i64 (by omega) (by omega)]; rfl
  have x4 : p + 4 + n - (p + 4) = n := by omega
  simp -failIfUnchanged -implicitDefEqProofs (disch := first | assumption | decide | omega) only [wkA, instrE, astepE, evE, evsE, evoE, evpE, elook, econs, eonly, putE, argE, pickE, resE, rsE, rE, Option.bind_some, Option.bind_none, Option.map_some, Option.map_none, ↓reduceIte, Nat.reduceEqDiff, Nat.reduceAdd, Nat.zero_add, Nat.add_zero, Nat.reduceLT, Nat.reduceLeDiff, Bool.false_eq_true, ld, x3, slc_no (l := bl) (lo := p + 4) (hi := p + 4 + n) (by omega) (by omega), x4]
  have hs := small_sub hb.small (p + 4) n
  have hb' : Bytes (.sl (bs ((bl.drop (p + 4)).take n)) .no) ((bl.drop (p + 4)).take n) := bytes_of hs (by simp; omega)
  refine CallOk.pure (unops17 hb') (impCs1 (bytes_clean hb')) ?_
  have hfr : frameAt bl p = frameOf (p + 4 + n) (unpAt bl (p + 4) n) := by
    unfold frameAt
    rw [hN, if_pos ⟨h4, h5⟩]
  have hup : unp ((bl.drop (p + 4)).take n) (rdOpr ((bl.drop (p + 4)).take n)) = unpAt bl (p + 4) n := rfl
  rw [hup]
  generalize unpAt bl (p + 4) n = u at *
  have e0 : aext 0 (unpAV Opr.av u) = some (slcAV Opr.av u.1) := rfl
  have e1 : aext 1 (unpAV Opr.av u) = some (i64 u.2.1) := rfl
  have e2 : aext 2 (unpAV Opr.av u) = some (i64 u.2.2) := rfl
  simp -failIfUnchanged -implicitDefEqProofs (disch := first | assumption | decide | omega) only [wkA, instrE, astepE, evE, evsE, evoE, evpE, elook, econs, eonly, putE, argE, pickE, resE, rsE, rE, Option.bind_some, Option.bind_none, Option.map_some, Option.map_none, ↓reduceIte, Nat.reduceEqDiff, Nat.reduceAdd, Nat.zero_add, Nat.add_zero, Nat.reduceLT, Nat.reduceLeDiff, Bool.false_eq_true, e0, e1, e2, x3]
  refine BoolCase.mk (fun h3 => ?_) fun h3 => ?_
  · simp -failIfUnchanged -implicitDefEqProofs (disch := first | assumption | decide | omega) only [wkA, instrE, astepE, evE, evsE, evoE, evpE, elook, econs, eonly, putE, argE, pickE, resE, rsE, rE, Option.bind_some, Option.bind_none, Option.map_some, Option.map_none, ↓reduceIte, Nat.reduceEqDiff, Nat.reduceAdd, Nat.zero_add, Nat.add_zero, Nat.reduceLT, Nat.reduceLeDiff, Bool.false_eq_true, h3]
    have h6 : u.2.2 ≠ 0 := by simpa using h3
    refine fin ?_
    rw [hfr, frameOf_bad h6]
  have h6 : u.2.2 = 0 := by simpa using h3
  have hsl := slc_slc Opr.av u.1
  simp -failIfUnchanged -implicitDefEqProofs (disch := first | assumption | decide | omega) only [wkA, instrE, astepE, evE, evsE, evoE, evpE, elook, econs, eonly, putE, argE, pickE, resE, rsE, rE, Option.bind_some, Option.bind_none, Option.map_some, Option.map_none, ↓reduceIte, Nat.reduceEqDiff, Nat.reduceAdd, Nat.zero_add, Nat.add_zero, Nat.reduceLT, Nat.reduceLeDiff, Bool.false_eq_true, h3, hsl.lenStep, goInt, List.length_map]
  refine BoolCase.mk (fun h7 => ?_) fun h7 => ?_
  · simp -failIfUnchanged -implicitDefEqProofs (disch := first | assumption | decide | omega) only [wkA, instrE, astepE, evE, evsE, evoE, evpE, elook, econs, eonly, putE, argE, pickE, resE, rsE, rE, Option.bind_some, Option.bind_none, Option.map_some, Option.map_none, ↓reduceIte, Nat.reduceEqDiff, Nat.reduceAdd, Nat.zero_add, Nat.add_zero, Nat.reduceLT, Nat.reduceLeDiff, Bool.false_eq_true, h7]
    have h8 : (u.1.getD []).length ≠ 1 := by simp at h7; omega
    refine fin ?_
    rw [hfr, frameOf_many h8]
  have h8 : (u.1.getD []).length = 1 := by simp at h7; omega
  obtain ⟨o, x, rfl⟩ := unp_one h6 h8
  have hfr' : frameAt bl p = some (o, p + 4 + n) := hfr
  clear hfr
  have hfr := hfr'
  have hia : aia 6 (slcAV Opr.av (some [o])) (.v (.int .i64 0)) = some (.fp o.cs 0) := hsl.ia (i := 0) rfl rfl
  have hld : aload hp' true 6 (.fp o.cs 0) = some o.av := rfl
  simp -failIfUnchanged -implicitDefEqProofs (disch := first | assumption | decide | omega) only [wkA, instrE, astepE, evE, evsE, evoE, evpE, elook, econs, eonly, putE, argE, pickE, resE, rsE, rE, Option.bind_some, Option.bind_none, Option.map_some, Option.map_none, ↓reduceIte, Nat.reduceEqDiff, Nat.reduceAdd, Nat.zero_add, Nat.add_zero, Nat.reduceLT, Nat.reduceLeDiff, Bool.false_eq_true, h7, hia, hld]
  refine CallV.mono (hy p acc hp' o _ hI hfr) fun r hp2 ⟨hr, hI2⟩ => ?_
  subst hr
  simp -failIfUnchanged -implicitDefEqProofs (disch := first | assumption | decide | omega) only [wkA, instrE, astepE, evE, evsE, evoE, evpE, elook, econs, eonly, putE, argE, pickE, resE, rsE, rE, Option.bind_some, Option.bind_none, Option.map_some, Option.map_none, ↓reduceIte, Nat.reduceEqDiff, Nat.reduceAdd, Nat.zero_add, Nat.add_zero, Nat.reduceLT, Nat.reduceLeDiff, Bool.false_eq_true, aun_not, Bool.not_true]
  have hF' : Frames bl (p + 4 + n) (rest.tail) q ∧ acc ++ [o] ++ rest.tail = l := by
    cases hF with
    | done h' => rw [hfr] at h'; cases h'
    | step h' hr =>
      rw [hfr] at h'
      cases h'
      exact ⟨hr, by simpa using hl⟩
  exact ⟨_, by omega, p + 4 + n, acc ++ [o], rest.tail, rfl, rfl, by omega, hF'.1, hF'.2, hI2⟩

theorem frames43 {b : AV} {hp : List Blk} {K : AV → List Blk → Prop} (hc : b.cells = [b]) (hK : K (.fn (.func 60) [] [.mp hp.length 0]) (hp ++ [.cells [b] false])) : CallOk Try.prog 43 [b] hp K := by
  refine fnE mixed T43 U43 (Nat.le_of_ble_eq_true rfl) ?_
  unfold c43
  simp -failIfUnchanged -implicitDefEqProofs (disch := first | assumption | decide | omega) only [wkA, instrE, astepE, evE, evsE, evoE, evpE, elook, econs, eonly, putE, argE, pickE, resE, rsE, rE, Option.bind_some, Option.bind_none, Option.map_some, Option.map_none, ↓reduceIte, Nat.reduceEqDiff, Nat.reduceAdd, Nat.zero_add, Nat.add_zero, Nat.reduceLT, Nat.reduceLeDiff, Bool.false_eq_true, hc]
  exact hK

end Go.Proofs.Ytllgfmijocgniaa
