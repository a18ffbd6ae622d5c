/- The reference's frames. -/
import Derived.Test.YtllgfmijocgniaaK6
import Derived.Test.YtllgfmijocgniaaJ6
set_option linter.unusedVariables false
set_option linter.unusedSimpArgs false
namespace Go.Proofs.Ytllgfmijocgniaa
open Go Go.Abs Go.RowKit

theorem u8_small {n : Nat} (h : n < 256) : IntKind.u8.wrap (n : Int) = (n : Int) := by rw [wrap_u8]; omega
theorem quo_nat (n d : Nat) (h : n < 4294967296) (hd : 0 < d) : IntKind.i64.wrap (Int.tdiv (n : Int) (d : Int)) = ((n / d : Nat) : Int) := by
  have : n / d ≤ n := Nat.div_le_self _ _
  rw [tdiv_nat]
  generalize n / d = m at *
  exact wrap_i64 (by omega) (by omega)

set_option maxRecDepth 20000 in
theorem frame23 {o : Opr} (hk : o.Ok) (hl : (encOprs [o]).length < 4294967296) : PureSpec Try.prog 23 [o.av] (.sl (bs (encFrame o)) .no) := by
  refine pureSpec_of (fnE mixed T23 U23 (Nat.le_of_ble_eq_true rfl) ?_)
  unfold c23
  have ld : aload [Blk.cells o.av.cells false] true 6 (.mp 0 0) = some o.av := aload_mp rfl (pick_all rfl)
  simp -failIfUnchanged -implicitDefEqProofs (disch := first | assumption | decide | omega) only [wkA, instrE, astepE, evE, evsE, evoE, evpE, elook, econs, eonly, putE, argE, pickE, resE, rsE, rE, Option.bind_some, Option.bind_none, Option.map_some, Option.map_none, ↓reduceIte, Nat.reduceEqDiff, Nat.reduceAdd, Nat.zero_add, Nat.add_zero, Nat.reduceLT, Nat.reduceLeDiff, Bool.false_eq_true, List.nil_append, List.length_nil, ld, absl_any (opr_okElems o) (by decide)]
  refine CallOk.pure (ops14 (.sl [o.av] .no) [o] (Or.inl rfl) (fun t ht => by rw [List.mem_singleton] at ht; subst ht; exact hk) (by omega)).spec
    (impCs1 (clean_sl fun x hx => by rw [List.mem_singleton] at hx; subst hx; exact opr_cells_clean o)) ?_
  have hpos : 0 < (encOprs [o]).length := encMany_pos _ _
  have hE : encFrame o = le4 (encOprs [o]).length ++ encOprs [o] := rfl
  rw [hE]
  generalize encOprs [o] = E at *
  have q1 : IntKind.i64.wrap (Int.tdiv (E.length : Int) 256) = ((E.length / 256 : Nat) : Int) := quo_nat _ 256 hl (by decide)
  have q2 : IntKind.i64.wrap (Int.tdiv (E.length : Int) 65536) = ((E.length / 65536 : Nat) : Int) := quo_nat _ 65536 hl (by decide)
  have q3 : IntKind.i64.wrap (Int.tdiv (E.length : Int) 16777216) = ((E.length / 16777216 : Nat) : Int) := quo_nat _ 16777216 hl (by decide)
  have md : ∀ n : Nat, Int.tmod (n : Int) 256 = ((n % 256 : Nat) : Int) := fun _ => rfl
  have w : ∀ n : Nat, IntKind.u8.wrap ((n % 256 : Nat) : Int) = ((n % 256 : Nat) : Int) := fun n => u8_small (Nat.mod_lt _ (by decide))
  simp -failIfUnchanged -implicitDefEqProofs (disch := first | assumption | decide | omega) only [wkA, instrE, astepE, evE, evsE, evoE, evpE, elook, econs, eonly, putE, argE, pickE, resE, rsE, rE, Option.bind_some, Option.bind_none, Option.map_some, Option.map_none, ↓reduceIte, Nat.reduceEqDiff, Nat.reduceAdd, Nat.zero_add, Nat.add_zero, Nat.reduceLT, Nat.reduceLeDiff, Bool.false_eq_true, goInt, bs_length, q1, q2, q3, md, w]
  refine appX (xs := bs (le4 E.length)) (ys := bs E) (Or.inr rfl) (ok_bs _) (ok_bs _) rfl (by decide) (by decide) (by simp [bs, le4]; omega) fun v' hp2 hA2 => ?_
  simp -failIfUnchanged -implicitDefEqProofs (disch := first | assumption | decide | omega) only [wkA, instrE, astepE, evE, evsE, evoE, evpE, elook, econs, eonly, putE, argE, pickE, resE, rsE, rE, Option.bind_some, Option.bind_none, Option.map_some, Option.map_none, ↓reduceIte, Nat.reduceEqDiff, Nat.reduceAdd, Nat.zero_add, Nat.add_zero, Nat.reduceLT, Nat.reduceLeDiff, Bool.false_eq_true]
  rw [← bs_append] at hA2
  rcases hA2 with (⟨_, e⟩ | ⟨id, rfl, _⟩) | rfl
  · have := congrArg List.length e
    simp [bs, le4] at this
  · exact clean_sl (bs_clean _)
  · exact clean_sl (bs_clean _)

theorem rd_fin {hp : List Blk} {v : AV} {l : List Opr} {q : Nat} (hnil : l = [] → v = .nsl) (hA : Appd hp v (l.map Opr.av) 6) : ImpC (.tup [v, i64 q]) (.tup [slcAV Opr.av (nzl l), i64 q]) := by
  refine impC_tup rfl fun i c d hc hd => ?_
  match i with
  | 0 =>
    simp at hc hd
    subst hc; subst hd
    cases l with
    | nil => rw [hnil rfl]; exact impC_nsl
    | cons x r =>
      rcases hA with ⟨_, e⟩ | ⟨id, rfl, _⟩
      · simp at e
      · exact clean_sl oprs_cells
  | 1 =>
    simp at hc hd
    subst hc; subst hd
    exact impC_v _
  | i + 2 => simp at hc

theorem le32_eq {bl : List Nat} {p c0 c1 c2 c3 : Nat} (h0 : bl[p]? = some c0) (h1 : bl[p + 1]? = some c1) (h2 : bl[p + 2]? = some c2) (h3 : bl[p + 3]? = some c3) : le32 bl p = c0 + 256 * c1 + 65536 * c2 + 16777216 * c3 := by
  have g : ∀ j c, bl[p + j]? = some c → (bl.drop p).getD j 0 = c := fun j c h => by rw [List.getD_eq_getElem?_getD, List.getElem?_drop, h]; rfl
  unfold le32
  simp only [leN, g 0 c0 h0, g 1 c1 h1, g 2 c2 h2, g 3 c3 h3]
  omega

set_option maxRecDepth 20000 in
theorem read25 {b : AV} {bl : List Nat} (hb : Bytes b bl) {l : List Opr} {q : Nat} (hF : Frames bl 0 l q) : PureSpec Try.prog 25 [b] (.tup [slcAV Opr.av (nzl l), i64 q]) := by
  refine pureSpec_of (fnE mixed T25 U25 (Nat.le_of_ble_eq_true rfl) ?_)
  unfold c25
  simp -failIfUnchanged -implicitDefEqProofs (disch := first | assumption | decide | omega) only [wkA, instrE, astepE, evE, evsE, evoE, evpE, elook, econs, eonly, putE, argE, pickE, resE, rsE, rE, Option.bind_some, Option.bind_none, Option.map_some, Option.map_none, ↓reduceIte, Nat.reduceEqDiff, Nat.reduceAdd, Nat.zero_add, Nat.add_zero, Nat.reduceLT, Nat.reduceLeDiff, Bool.false_eq_true]
  refine wpE_while (fun m e hp' => ∃ p acc rest v, m = bl.length + 1 - p ∧ e = [(0, b), (4, v), (5, i64 p)] ∧ p ≤ bl.length ∧ Frames bl p rest q ∧ acc ++ rest = l ∧ Appd hp' v (acc.map Opr.av) 6 ∧ acc.length ≤ p ∧ (acc = [] → v = .nsl)) (n := bl.length + 1)
    ⟨0, [], l, .nsl, rfl, rfl, Nat.zero_le _, hF, rfl, Appd.nil _ _, Nat.le_refl _, fun _ => rfl⟩ ?_
  clear hF
  rintro m e hp' ⟨p, acc, rest, v, rfl, rfl, hp, hF, hl, hA, hap, hnil⟩
  have hlen := hb.len
  have fin : frameAt bl p = none → ImpC (.tup [v, i64 p]) (.tup [slcAV Opr.av (nzl l), i64 q]) := fun h => by
    cases hF with
    | done _ => rw [List.append_nil] at hl; subst hl; exact rd_fin hnil hA
    | step h' _ => rw [h] at h'; cases h'
  have x1 : IntKind.i64.wrap ((bl.length : Int) - (p : Int)) = ((bl.length - p : Nat) : Int) := by rw [wrap_i64 (by omega) (by omega)]; omega
  simp -failIfUnchanged -implicitDefEqProofs (disch := first | assumption | decide | omega) only [wkA, instrE, astepE, evE, evsE, evoE, evpE, elook, econs, eonly, putE, argE, pickE, resE, rsE, rE, Option.bind_some, Option.bind_none, Option.map_some, Option.map_none, ↓reduceIte, Nat.reduceEqDiff, Nat.reduceAdd, Nat.zero_add, Nat.add_zero, Nat.reduceLT, Nat.reduceLeDiff, Bool.false_eq_true, hb.slc.lenStep, goInt, bs_length, x1]
  refine BoolCase.mk (fun h => ?_) fun h => ?_
  rotate_left 1
  · have h4 : ¬ p + 4 ≤ bl.length := by simp at h; omega
    simp -failIfUnchanged -implicitDefEqProofs (disch := first | assumption | decide | omega) only [wkA, instrE, astepE, evE, evsE, evoE, evpE, elook, econs, eonly, putE, argE, pickE, resE, rsE, rE, Option.bind_some, Option.bind_none, Option.map_some, Option.map_none, ↓reduceIte, Nat.reduceEqDiff, Nat.reduceAdd, Nat.zero_add, Nat.add_zero, Nat.reduceLT, Nat.reduceLeDiff, Bool.false_eq_true]
    exact fin (by unfold frameAt; rw [if_neg (by omega)])
  have h4 : p + 4 ≤ bl.length := by simp at h; omega
  have hbv : b = .sl (bs bl) .no := by
    rcases hb.slc with rfl | ⟨rfl, e⟩
    · rfl
    · have : bl.length = 0 := by simpa [bs] using congrArg List.length e
      omega
  have get : ∀ j, j < 4 → ∃ c, bl[p + j]? = some c ∧ c < 256 ∧ aia 1 b (.v (.int .i64 ((p + j : Nat) : Int))) = some (.fp [.v (.int .u8 (c : Nat))] 0) := fun j hj => by
    have hlt : p + j < bl.length := by omega
    exact ⟨bl[p + j], List.getElem?_eq_getElem hlt, hb.small _ (List.getElem_mem _), hb.slc.ia (bs_get (List.getElem?_eq_getElem hlt)) rfl⟩
  obtain ⟨c0, g0, b0, i0⟩ := get 0 (by decide)
  obtain ⟨c1, g1, b1, i1⟩ := get 1 (by decide)
  obtain ⟨c2, g2, b2, i2⟩ := get 2 (by decide)
  obtain ⟨c3, g3, b3, i3⟩ := get 3 (by decide)
  rw [Nat.add_zero] at i0 g0
  have hle := le32_eq g0 g1 g2 g3
  have ld : ∀ (c : Nat) hp, aload hp false 1 (.fp [.v (.int .u8 (c : Nat))] 0) = some (.v (.int .u8 (c : Nat))) := fun _ _ => rfl
  have p1 : IntKind.i64.wrap ((p : Int) + 1) = ((p + 1 : Nat) : Int) := by rw [wrap_i64 (by omega) (by omega)]; rfl
  have p2 : IntKind.i64.wrap ((p : Int) + 2) = ((p + 2 : Nat) : Int) := by rw [wrap_i64 (by omega) (by omega)]; rfl
  have p3 : IntKind.i64.wrap ((p : Int) + 3) = ((p + 3 : Nat) : Int) := by rw [wrap_i64 (by omega) (by omega)]; rfl
  have p4 : IntKind.i64.wrap ((p : Int) + 4) = ((p + 4 : Nat) : Int) := by rw [wrap_i64 (by omega) (by omega)]; rfl
  have y0 : IntKind.i64.wrap (c0 : Int) = c0 := wrap_i64 (by omega) (by omega)
  have y1 : IntKind.i64.wrap (c1 : Int) = c1 := wrap_i64 (by omega) (by omega)
  have y2 : IntKind.i64.wrap (c2 : Int) = c2 := wrap_i64 (by omega) (by omega)
  have y3 : IntKind.i64.wrap (c3 : Int) = c3 := wrap_i64 (by omega) (by omega)
  have m1 : IntKind.i64.wrap (256 * (c1 : Int)) = ((256 * c1 : Nat) : Int) := by rw [wrap_i64 (by omega) (by omega)]; omega
  have m2 : IntKind.i64.wrap (65536 * (c2 : Int)) = ((65536 * c2 : Nat) : Int) := by rw [wrap_i64 (by omega) (by omega)]; omega
  have m3 : IntKind.i64.wrap (16777216 * (c3 : Int)) = ((16777216 * c3 : Nat) : Int) := by rw [wrap_i64 (by omega) (by omega)]; omega
  have s1 : IntKind.i64.wrap ((c0 : Int) + ((256 * c1 : Nat) : Int)) = ((c0 + 256 * c1 : Nat) : Int) := by rw [wrap_i64 (by omega) (by omega)]; omega
  have s2 : IntKind.i64.wrap (((c0 + 256 * c1 : Nat) : Int) + ((65536 * c2 : Nat) : Int)) = ((c0 + 256 * c1 + 65536 * c2 : Nat) : Int) := by rw [wrap_i64 (by omega) (by omega)]; omega
  have s3 : IntKind.i64.wrap (((c0 + 256 * c1 + 65536 * c2 : Nat) : Int) + ((16777216 * c3 : Nat) : Int)) = ((le32 bl p : Nat) : Int) := by rw [hle, wrap_i64 (by omega) (by omega)]; omega
  have hn32 : le32 bl p < 4294967296 := by rw [hle]; omega
  have x2 : IntKind.i64.wrap (((bl.length - p : Nat) : Int) - 4) = ((bl.length - (p + 4) : Nat) : Int) := by rw [wrap_i64 (by omega) (by omega)]; omega
  clear hle get
  generalize hN : le32 bl p = n at *
  simp -failIfUnchanged -implicitDefEqProofs (disch := first | assumption | decide | omega) only [wkA, instrE, astepE, evE, evsE, evoE, evpE, elook, econs, eonly, putE, argE, pickE, resE, rsE, rE, Option.bind_some, Option.bind_none, Option.map_some, Option.map_none, ↓reduceIte, Nat.reduceEqDiff, Nat.reduceAdd, Nat.zero_add, Nat.add_zero, Nat.reduceLT, Nat.reduceLeDiff, Bool.false_eq_true, hb.slc.lenStep, goInt, bs_length, i0, i1, i2, i3, ld, p1, p2, p3, p4, y0, y1, y2, y3, m1, m2, m3, s1, s2, s3, x1, x2]
  refine BoolCase.mk (fun h2 => ?_) fun h2 => ?_
  · have h5 : bl.length - (p + 4) < n := by simp at h2; omega
    simp -failIfUnchanged -implicitDefEqProofs (disch := first | assumption | decide | omega) only [wkA, instrE, astepE, evE, evsE, evoE, evpE, elook, econs, eonly, putE, argE, pickE, resE, rsE, rE, Option.bind_some, Option.bind_none, Option.map_some, Option.map_none, ↓reduceIte, Nat.reduceEqDiff, Nat.reduceAdd, Nat.zero_add, Nat.add_zero, Nat.reduceLT, Nat.reduceLeDiff, Bool.false_eq_true]
    exact fin (by unfold frameAt; rw [hN, if_neg (by omega)])
  have h5 : n ≤ bl.length - (p + 4) := by simp at h2; omega
  have x3 : IntKind.i64.wrap (((p + 4 : Nat) : Int) + (n : Int)) = ((p + 4 + n : Nat) : Int) := by rw [wrap_i64 (by omega) (by omega)]; rfl
  have x4 : p + 4 + n - (p + 4) = n := by omega
  have hsl0 := slc_no (l := bl) (lo := p + 4) (hi := p + 4 + n) (by omega) (by omega)
  rw [← hbv, x4] at hsl0
  simp -failIfUnchanged -implicitDefEqProofs (disch := first | assumption | decide | omega) only [wkA, instrE, astepE, evE, evsE, evoE, evpE, elook, econs, eonly, putE, argE, pickE, resE, rsE, rE, Option.bind_some, Option.bind_none, Option.map_some, Option.map_none, ↓reduceIte, Nat.reduceEqDiff, Nat.reduceAdd, Nat.zero_add, Nat.add_zero, Nat.reduceLT, Nat.reduceLeDiff, Bool.false_eq_true, p4, x3, hsl0]
  have hs := small_sub hb.small (p + 4) n
  have hb' : Bytes (.sl (bs ((bl.drop (p + 4)).take n)) .no) ((bl.drop (p + 4)).take n) := bytes_of hs (by simp; omega)
  refine CallOk.pure (unops44 hb') (impCs1 (bytes_clean hb')) ?_
  have hfr : frameAt bl p = frameOf (p + 4 + n) (unpAt bl (p + 4) n) := by
    unfold frameAt
    rw [hN, if_pos ⟨h4, h5⟩]
  have hup : unp ((bl.drop (p + 4)).take n) (rdOpr ((bl.drop (p + 4)).take n)) = unpAt bl (p + 4) n := rfl
  rw [hup]
  generalize unpAt bl (p + 4) n = u at *
  have e0 : aext 0 (unpAV Opr.av u) = some (slcAV Opr.av u.1) := rfl
  have e1 : aext 1 (unpAV Opr.av u) = some (i64 u.2.1) := rfl
  have e2 : aext 2 (unpAV Opr.av u) = some (i64 u.2.2) := rfl
  simp -failIfUnchanged -implicitDefEqProofs (disch := first | assumption | decide | omega) only [wkA, instrE, astepE, evE, evsE, evoE, evpE, elook, econs, eonly, putE, argE, pickE, resE, rsE, rE, Option.bind_some, Option.bind_none, Option.map_some, Option.map_none, ↓reduceIte, Nat.reduceEqDiff, Nat.reduceAdd, Nat.zero_add, Nat.add_zero, Nat.reduceLT, Nat.reduceLeDiff, Bool.false_eq_true, e0, e1, e2]
  refine BoolCase.mk (fun h3 => ?_) fun h3 => ?_
  · simp -failIfUnchanged -implicitDefEqProofs (disch := first | assumption | decide | omega) only [wkA, instrE, astepE, evE, evsE, evoE, evpE, elook, econs, eonly, putE, argE, pickE, resE, rsE, rE, Option.bind_some, Option.bind_none, Option.map_some, Option.map_none, ↓reduceIte, Nat.reduceEqDiff, Nat.reduceAdd, Nat.zero_add, Nat.add_zero, Nat.reduceLT, Nat.reduceLeDiff, Bool.false_eq_true, h3]
    have h6 : u.2.2 ≠ 0 := by simpa using h3
    exact fin (by rw [hfr, frameOf_bad h6])
  have h6 : u.2.2 = 0 := by simpa using h3
  have hsl := slc_slc Opr.av u.1
  simp -failIfUnchanged -implicitDefEqProofs (disch := first | assumption | decide | omega) only [wkA, instrE, astepE, evE, evsE, evoE, evpE, elook, econs, eonly, putE, argE, pickE, resE, rsE, rE, Option.bind_some, Option.bind_none, Option.map_some, Option.map_none, ↓reduceIte, Nat.reduceEqDiff, Nat.reduceAdd, Nat.zero_add, Nat.add_zero, Nat.reduceLT, Nat.reduceLeDiff, Bool.false_eq_true, h3, hsl.lenStep, goInt, List.length_map]
  refine BoolCase.mk (fun h7 => ?_) fun h7 => ?_
  · simp -failIfUnchanged -implicitDefEqProofs (disch := first | assumption | decide | omega) only [wkA, instrE, astepE, evE, evsE, evoE, evpE, elook, econs, eonly, putE, argE, pickE, resE, rsE, rE, Option.bind_some, Option.bind_none, Option.map_some, Option.map_none, ↓reduceIte, Nat.reduceEqDiff, Nat.reduceAdd, Nat.zero_add, Nat.add_zero, Nat.reduceLT, Nat.reduceLeDiff, Bool.false_eq_true, h7]
    have h8 : (u.1.getD []).length ≠ 1 := by simp at h7; omega
    exact fin (by rw [hfr, frameOf_many h8])
  have h8 : (u.1.getD []).length = 1 := by simp at h7; omega
  obtain ⟨o, x, rfl⟩ := unp_one h6 h8
  have hfr' : frameAt bl p = some (o, p + 4 + n) := hfr
  have hia : aia 6 (slcAV Opr.av (some [o])) (.v (.int .i64 0)) = some (.fp o.cs 0) := hsl.ia (i := 0) rfl rfl
  have hld : ∀ hp, aload hp true 6 (.fp o.cs 0) = some o.av := fun _ => rfl
  simp -failIfUnchanged -implicitDefEqProofs (disch := first | assumption | decide | omega) only [wkA, instrE, astepE, evE, evsE, evoE, evpE, elook, econs, eonly, putE, argE, pickE, resE, rsE, rE, Option.bind_some, Option.bind_none, Option.map_some, Option.map_none, ↓reduceIte, Nat.reduceEqDiff, Nat.reduceAdd, Nat.zero_add, Nat.add_zero, Nat.reduceLT, Nat.reduceLeDiff, Bool.false_eq_true, h7, hia, hld, absl_any (opr_okElems o) (by decide)]
  refine appE hA (opr_oks acc) (opr_okElems o) (by simp) (by decide) (by decide) ?_ fun v3 hp3 hA3 _ _ => ?_
  · simp only [List.length_map, List.length_cons, List.length_nil, Nat.zero_add]
    omega
  simp -failIfUnchanged -implicitDefEqProofs (disch := first | assumption | decide | omega) only [wkA, instrE, astepE, evE, evsE, evoE, evpE, elook, econs, eonly, putE, argE, pickE, resE, rsE, rE, Option.bind_some, Option.bind_none, Option.map_some, Option.map_none, ↓reduceIte, Nat.reduceEqDiff, Nat.reduceAdd, Nat.zero_add, Nat.add_zero, Nat.reduceLT, Nat.reduceLeDiff, Bool.false_eq_true, p4, x3]
  have hF' : Frames bl (p + 4 + n) (rest.tail) q ∧ acc ++ [o] ++ rest.tail = l := by
    cases hF with
    | done h' => rw [hfr'] at h'; cases h'
    | step h' hr =>
      rw [hfr'] at h'
      cases h'
      exact ⟨hr, by simpa using hl⟩
  exact ⟨_, by omega, p + 4 + n, acc ++ [o], rest.tail, v3, rfl, rfl, by omega, hF'.1, hF'.2, by simpa using hA3, by simp; omega, by simp⟩

end Go.Proofs.Ytllgfmijocgniaa
