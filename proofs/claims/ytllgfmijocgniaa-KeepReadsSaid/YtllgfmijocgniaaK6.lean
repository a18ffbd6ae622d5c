/- The reference's readers: a row of operations; what unpacks it. -/
import Derived.Test.YtllgfmijocgniaaK5
set_option linter.unusedVariables false
set_option linter.unusedSimpArgs false
namespace Go.Proofs.Ytllgfmijocgniaa
open Go Go.Abs Go.RowKit

set_option maxRecDepth 20000 in
theorem ops62 {b : AV} {bl : List Nat} (hb : Bytes b bl) {s : RS} (hs : s.at_ ≤ bl.length) : Reads 62 [] (rdr b) s (rdRow bl (rdOpr bl) s).2 (slcAV Opr.av (nzl (rdRow bl (rdOpr bl) s).1)) := by
  intro hp k K hk hK
  refine CallOk.weaken (K := fun r hp' => ∃ r', Imp r r' ∧ K r' hp') ?_ (fun _ _ h => h)
  refine fnE mixed T62 U62 (Nat.le_of_ble_eq_true rfl) ?_
  unfold c62
  have hkl : k < hp.length := (List.getElem?_eq_some_iff.1 hk).1
  simp -failIfUnchanged -implicitDefEqProofs (disch := first | assumption | decide | omega) only [wkA, instrE, astepE, evE, evsE, evoE, evpE, elook, econs, eonly, putE, argE, pickE, resE, rsE, rE, Option.bind_some, Option.bind_none, Option.map_some, Option.map_none, ↓reduceIte, Nat.reduceEqDiff, Nat.reduceAdd, Nat.zero_add, Nat.add_zero, Nat.reduceLT, Nat.reduceLeDiff, Bool.false_eq_true]
  refine many65 hb hs _ _ _ hk fun hp1 hk1 hR1 => ?_
  have hat1 := (rdMany_at hs).2
  have hrow : rdRow bl (rdOpr bl) s = rdRowLoop (rdOpr bl) (rdMany bl s).1 (rdMany bl s).2 := rfl
  have hNl := rdMany_le bl s
  have hlen := hb.len
  generalize rdMany bl s = p at *
  obtain ⟨N, s1⟩ := p
  simp only at hat1 hrow hNl hk1
  simp -failIfUnchanged -implicitDefEqProofs (disch := first | assumption | decide | omega) only [wkA, instrE, astepE, evE, evsE, evoE, evpE, elook, econs, eonly, putE, argE, pickE, resE, rsE, rE, Option.bind_some, Option.bind_none, Option.map_some, Option.map_none, ↓reduceIte, Nat.reduceEqDiff, Nat.reduceAdd, Nat.zero_add, Nat.add_zero, Nat.reduceLT, Nat.reduceLeDiff, Bool.false_eq_true]
  refine wpE_while (fun m e hp' => ∃ i acc v t, m + i = N ∧ e = [(0, .mp k 0), (3, v), (4, i64 N), (5, i64 i)] ∧ acc.length = i ∧ (acc = [] → v = .nsl) ∧ Appd hp' v (acc.map Opr.av) 6 ∧ Fresh hp.length v ∧ t.at_ ≤ bl.length ∧ hp'[k]? = some (.cells (rdr b t) false) ∧ Old hp.length hp hp' k ∧ rdRow bl (rdOpr bl) s = (acc ++ (rdRowLoop (rdOpr bl) m t).1, (rdRowLoop (rdOpr bl) m t).2)) (n := N)
    ⟨0, [], .nsl, s1, rfl, rfl, rfl, fun _ => rfl, Appd.nil _ _, fun _ _ e => (by cases e), hat1, hk1, (Old.start hp k).keep hR1, by rw [hrow]; rfl⟩ ?_
  clear hrow hR1 hk1
  rintro m e hp' ⟨i, acc, v, t, hm, rfl, hai, hnil, hA, hFr, hta, hk', hO, hrow⟩
  have fin : rdRow bl (rdOpr bl) s = (acc, t) → ∃ r', Imp v r' ∧ K r' hp' := fun hr => by
    rw [hr] at hK
    exact ⟨_, row_imp Opr.av hnil hA, hK _ hk' hO.done⟩
  have l3 : aload hp' false 1 (.mp k 3) = some (i64 t.fault) := aload_mp hk' rfl
  simp -failIfUnchanged -implicitDefEqProofs (disch := first | assumption | decide | omega) only [wkA, instrE, astepE, evE, evsE, evoE, evpE, elook, econs, eonly, putE, argE, pickE, resE, rsE, rE, Option.bind_some, Option.bind_none, Option.map_some, Option.map_none, ↓reduceIte, Nat.reduceEqDiff, Nat.reduceAdd, Nat.zero_add, Nat.add_zero, Nat.reduceLT, Nat.reduceLeDiff, Bool.false_eq_true, l3]
  refine BoolCase.mk (fun h => ?_) fun h => ?_
  rotate_left 1
  · simp -failIfUnchanged -implicitDefEqProofs (disch := first | assumption | decide | omega) only [wkA, instrE, astepE, evE, evsE, evoE, evpE, elook, econs, eonly, putE, argE, pickE, resE, rsE, rE, Option.bind_some, Option.bind_none, Option.map_some, Option.map_none, ↓reduceIte, Nat.reduceEqDiff, Nat.reduceAdd, Nat.zero_add, Nat.add_zero, Nat.reduceLT, Nat.reduceLeDiff, Bool.false_eq_true, h]
    have hn0 : m = 0 := by simp at h; omega
    subst hn0
    refine fin ?_
    rw [hrow]; simp [rdRowLoop]
  simp -failIfUnchanged -implicitDefEqProofs (disch := first | assumption | decide | omega) only [wkA, instrE, astepE, evE, evsE, evoE, evpE, elook, econs, eonly, putE, argE, pickE, resE, rsE, rE, Option.bind_some, Option.bind_none, Option.map_some, Option.map_none, ↓reduceIte, Nat.reduceEqDiff, Nat.reduceAdd, Nat.zero_add, Nat.add_zero, Nat.reduceLT, Nat.reduceLeDiff, Bool.false_eq_true, h, l3]
  refine BoolCase.mk (fun h2 => ?_) fun h2 => ?_
  rotate_left 1
  · simp -failIfUnchanged -implicitDefEqProofs (disch := first | assumption | decide | omega) only [wkA, instrE, astepE, evE, evsE, evoE, evpE, elook, econs, eonly, putE, argE, pickE, resE, rsE, rE, Option.bind_some, Option.bind_none, Option.map_some, Option.map_none, ↓reduceIte, Nat.reduceEqDiff, Nat.reduceAdd, Nat.zero_add, Nat.add_zero, Nat.reduceLT, Nat.reduceLeDiff, Bool.false_eq_true, h2]
    have ht0 : t.fault ≠ 0 := by simpa using h2
    refine fin ?_
    rw [hrow, rdRow_zero m ht0, List.append_nil]
  have ht0 : t.fault = 0 := by simpa using h2
  obtain ⟨f, rfl⟩ : ∃ f, m = f + 1 := ⟨m - 1, by simp at h; omega⟩
  have x2 : IntKind.i64.wrap ((i : Int) + 1) = ((i + 1 : Nat) : Int) := by rw [wrap_i64 (by omega) (by omega)]; rfl
  simp only [rdRowLoop, ht0, if_true] at hrow
  have hat' := rdOpr_at (b := bl) hta
  obtain ⟨S, hS⟩ : ∃ S, S = rdOpr bl t := ⟨_, rfl⟩
  rw [← hS] at hrow hat'
  unfold rdOpr at hS
  dsimp only at hS
  have ez : ([.v (.int .i64 0), .v (.int .i64 0), .nsl, .v (.int .i64 0), .v (.int .i64 0), .v (.int .i64 0)] : List AV) = zOpr := rfl
  have ef : afill zOpr [] = some zOpr := rfl
  have s0 : astore (hp' ++ [.cells zOpr false]) 6 (.mp hp'.length 0) (.agg zOpr) = some (hp' ++ [.cells zOpr false]) := store_new rfl rfl rfl
  have R0 : Rnd b hp.length k hp'.length 6 hp v (acc.map Opr.av) zOpr t (hp' ++ [.cells zOpr false]) := ⟨get_ext hk', by simp, hA.ext, hO.ext _, hkl, hO.2.1⟩
  simp -failIfUnchanged -implicitDefEqProofs (disch := first | assumption | decide | omega) only [wkA, instrE, astepE, evE, evsE, evoE, evpE, elook, econs, eonly, putE, argE, pickE, resE, rsE, rE, Option.bind_some, Option.bind_none, Option.map_some, Option.map_none, ↓reduceIte, Nat.reduceEqDiff, Nat.reduceAdd, Nat.zero_add, Nat.add_zero, Nat.reduceLT, Nat.reduceLeDiff, Bool.false_eq_true, h2, ez, ef, s0]
  refine any66 hb hta _ _ _ R0.kk fun hp1 hk1 hR1 => ?_
  have R1 := R0.call hk1 hR1
  have a1 := rdAny_at (b := bl) hta
  generalize rdAny bl t = r1 at *
  have s1 := R1.st1 (o := 0) (x := i64 r1.1) (by decide) rfl rfl
  simp -failIfUnchanged -implicitDefEqProofs (disch := first | assumption | decide | omega) only [wkA, instrE, astepE, evE, evsE, evoE, evpE, elook, econs, eonly, putE, argE, pickE, resE, rsE, rE, Option.bind_some, Option.bind_none, Option.map_some, Option.map_none, ↓reduceIte, Nat.reduceEqDiff, Nat.reduceAdd, Nat.zero_add, Nat.add_zero, Nat.reduceLT, Nat.reduceLeDiff, Bool.false_eq_true, s1]
  replace R1 := R1.set (zOpr.set 0 (i64 r1.1))
  refine any66 hb a1 _ _ _ R1.kk fun hp2 hk2 hR2 => ?_
  have R2 := R1.call hk2 hR2
  have a2 := rdAny_at (b := bl) a1
  generalize rdAny bl r1.2 = r2 at *
  have s2 := R2.st1 (o := 1) (x := i64 r2.1) (by simp [zOpr]) rfl rfl
  simp -failIfUnchanged -implicitDefEqProofs (disch := first | assumption | decide | omega) only [wkA, instrE, astepE, evE, evsE, evoE, evpE, elook, econs, eonly, putE, argE, pickE, resE, rsE, rE, Option.bind_some, Option.bind_none, Option.map_some, Option.map_none, ↓reduceIte, Nat.reduceEqDiff, Nat.reduceAdd, Nat.zero_add, Nat.add_zero, Nat.reduceLT, Nat.reduceLeDiff, Bool.false_eq_true, s2]
  replace R2 := R2.set ((zOpr.set 0 (i64 r1.1)).set 1 (i64 r2.1))
  refine steps67 hb a2 _ _ _ R2.kk fun hp3 hk3 hR3 => ?_
  have R3 := R2.call hk3 hR3
  have a3 := rdStps_at (b := bl) a2
  generalize rdRow bl (rdStp bl) r2.2 = p at *
  have s3 := R3.st1 (o := 2) (x := slcAV Stp.av (nzl p.1)) (by simp [zOpr]) (by cases nzl p.1 <;> rfl) (slc_one _ _)
  simp -failIfUnchanged -implicitDefEqProofs (disch := first | assumption | decide | omega) only [wkA, instrE, astepE, evE, evsE, evoE, evpE, elook, econs, eonly, putE, argE, pickE, resE, rsE, rE, Option.bind_some, Option.bind_none, Option.map_some, Option.map_none, ↓reduceIte, Nat.reduceEqDiff, Nat.reduceAdd, Nat.zero_add, Nat.add_zero, Nat.reduceLT, Nat.reduceLeDiff, Bool.false_eq_true, s3]
  replace R3 := R3.set (((zOpr.set 0 (i64 r1.1)).set 1 (i64 r2.1)).set 2 (slcAV Stp.av (nzl p.1)))
  refine any66 hb a3 _ _ _ R3.kk fun hp4 hk4 hR4 => ?_
  have R4 := R3.call hk4 hR4
  have a4 := rdAny_at (b := bl) a3
  generalize rdAny bl p.2 = r3 at *
  have s4 := R4.st1 (o := 3) (x := i64 r3.1) (by simp [zOpr]) rfl rfl
  simp -failIfUnchanged -implicitDefEqProofs (disch := first | assumption | decide | omega) only [wkA, instrE, astepE, evE, evsE, evoE, evpE, elook, econs, eonly, putE, argE, pickE, resE, rsE, rE, Option.bind_some, Option.bind_none, Option.map_some, Option.map_none, ↓reduceIte, Nat.reduceEqDiff, Nat.reduceAdd, Nat.zero_add, Nat.add_zero, Nat.reduceLT, Nat.reduceLeDiff, Bool.false_eq_true, s4]
  replace R4 := R4.set ((((zOpr.set 0 (i64 r1.1)).set 1 (i64 r2.1)).set 2 (slcAV Stp.av (nzl p.1))).set 3 (i64 r3.1))
  refine any66 hb a4 _ _ _ R4.kk fun hp5 hk5 hR5 => ?_
  have R5 := R4.call hk5 hR5
  have a5 := rdAny_at (b := bl) a4
  generalize rdAny bl r3.2 = r4 at *
  have s5 := R5.st1 (o := 4) (x := i64 r4.1) (by simp [zOpr]) rfl rfl
  simp -failIfUnchanged -implicitDefEqProofs (disch := first | assumption | decide | omega) only [wkA, instrE, astepE, evE, evsE, evoE, evpE, elook, econs, eonly, putE, argE, pickE, resE, rsE, rE, Option.bind_some, Option.bind_none, Option.map_some, Option.map_none, ↓reduceIte, Nat.reduceEqDiff, Nat.reduceAdd, Nat.zero_add, Nat.add_zero, Nat.reduceLT, Nat.reduceLeDiff, Bool.false_eq_true, s5]
  replace R5 := R5.set (((((zOpr.set 0 (i64 r1.1)).set 1 (i64 r2.1)).set 2 (slcAV Stp.av (nzl p.1))).set 3 (i64 r3.1)).set 4 (i64 r4.1))
  refine any66 hb a5 _ _ _ R5.kk fun hp6 hk6 hR6 => ?_
  have R6 := R5.call hk6 hR6
  generalize rdAny bl r4.2 = r5 at *
  have s6 := R6.st1 (o := 5) (x := i64 r5.1) (by simp [zOpr]) rfl rfl
  replace R6 := R6.set ((((((zOpr.set 0 (i64 r1.1)).set 1 (i64 r2.1)).set 2 (slcAV Stp.av (nzl p.1))).set 3 (i64 r3.1)).set 4 (i64 r4.1)).set 5 (i64 r5.1))
  have ecs : (((((zOpr.set 0 (i64 r1.1)).set 1 (i64 r2.1)).set 2 (slcAV Stp.av (nzl p.1))).set 3 (i64 r3.1)).set 4 (i64 r4.1)).set 5 (i64 r5.1) = S.1.cs := by rw [hS]; rfl
  have hS2 : S.2 = r5.2 := by rw [hS]
  rw [ecs] at R6 s6
  have l6 : aload (hp6.set hp'.length (.cells S.1.cs false)) true 6 (.mp hp'.length 0) = some S.1.av := aload_mp R6.jj (pick_all rfl)
  simp -failIfUnchanged -implicitDefEqProofs (disch := first | assumption | decide | omega) only [wkA, instrE, astepE, evE, evsE, evoE, evpE, elook, econs, eonly, putE, argE, pickE, resE, rsE, rE, Option.bind_some, Option.bind_none, Option.map_some, Option.map_none, ↓reduceIte, Nat.reduceEqDiff, Nat.reduceAdd, Nat.zero_add, Nat.add_zero, Nat.reduceLT, Nat.reduceLeDiff, Bool.false_eq_true, s6, l6, absl_any (opr_okElems S.1) (by decide)]
  refine appF R6.ap hFr (Nat.le_trans R6.old.1 R6.old.2.1) (opr_oks acc) (opr_okElems S.1) (by simp) (by decide) (by decide) ?_ fun v3 hp7 hA3 hr3 hF3 => ?_
  · simp only [List.length_map, List.length_cons, List.length_nil, Nat.zero_add]
    omega
  · simp -failIfUnchanged -implicitDefEqProofs (disch := first | assumption | decide | omega) only [wkA, instrE, astepE, evE, evsE, evoE, evpE, elook, econs, eonly, putE, argE, pickE, resE, rsE, rE, Option.bind_some, Option.bind_none, Option.map_some, Option.map_none, ↓reduceIte, Nat.reduceEqDiff, Nat.reduceAdd, Nat.zero_add, Nat.add_zero, Nat.reduceLT, Nat.reduceLeDiff, Bool.false_eq_true, x2]
    exact ⟨f, by omega, i + 1, acc ++ [S.1], v3, S.2, by omega, rfl, by simp [hai], by simp, by simpa using hA3, hF3, hat', by rw [hS2]; exact hr3.cells _ _ _ R6.kk, R6.old.app hr3 hFr, by rw [hrow]; simp⟩

theorem end63 {b : AV} {bl : List Nat} (hb : Bytes b bl) {s : RS} : Reads 63 [] (rdr b) s (rdFin bl s) (.tup [i64 (rdFin bl s).whr, i64 (rdFin bl s).fault]) := by
  intro hp k K hk hK
  refine fnE mixed T63 U63 (Nat.le_of_ble_eq_true rfl) ?_
  unfold c63
  have l0 : aload hp false 1 (.mp k 0) = some b := aload_mp hk rfl
  have l1 : aload hp false 1 (.mp k 1) = some (i64 s.at_) := aload_mp hk rfl
  simp -failIfUnchanged -implicitDefEqProofs (disch := first | assumption | decide | omega) only [wkA, instrE, astepE, evE, evsE, evoE, evpE, elook, econs, eonly, putE, argE, pickE, resE, rsE, rE, Option.bind_some, Option.bind_none, Option.map_some, Option.map_none, ↓reduceIte, Nat.reduceEqDiff, Nat.reduceAdd, Nat.zero_add, Nat.add_zero, Nat.reduceLT, Nat.reduceLeDiff, Bool.false_eq_true, l0, l1, hb.slc.lenStep, goInt, bs_length]
  refine BoolCase.mk (fun h => ?_) fun h => ?_
  · have h' : s.at_ < bl.length := by simp at h; omega
    have hf : rdFin bl s = s.wrong s.at_ 4 := by unfold rdFin; rw [if_pos h']
    rw [hf] at hK
    simp -failIfUnchanged -implicitDefEqProofs (disch := first | assumption | decide | omega) only [wkA, instrE, astepE, evE, evsE, evoE, evpE, elook, econs, eonly, putE, argE, pickE, resE, rsE, rE, Option.bind_some, Option.bind_none, Option.map_some, Option.map_none, ↓reduceIte, Nat.reduceEqDiff, Nat.reduceAdd, Nat.zero_add, Nat.add_zero, Nat.reduceLT, Nat.reduceLeDiff, Bool.false_eq_true, l1]
    refine wrong68 s.at_ 4 (by decide) _ _ _ hk fun hp2 hk2 hR2 => ?_
    have l2 : aload hp2 false 1 (.mp k 2) = some (i64 (s.wrong s.at_ 4).whr) := aload_mp hk2 rfl
    have l3 : aload hp2 false 1 (.mp k 3) = some (i64 (s.wrong s.at_ 4).fault) := aload_mp hk2 rfl
    simp -failIfUnchanged -implicitDefEqProofs (disch := first | assumption | decide | omega) only [wkA, instrE, astepE, evE, evsE, evoE, evpE, elook, econs, eonly, putE, argE, pickE, resE, rsE, rE, Option.bind_some, Option.bind_none, Option.map_some, Option.map_none, ↓reduceIte, Nat.reduceEqDiff, Nat.reduceAdd, Nat.zero_add, Nat.add_zero, Nat.reduceLT, Nat.reduceLeDiff, Bool.false_eq_true, l2, l3]
    exact hK _ hk2 hR2
  · have h' : ¬ s.at_ < bl.length := by simp at h; omega
    have hf : rdFin bl s = s := by unfold rdFin; rw [if_neg h']
    rw [hf] at hK
    have l2 : aload hp false 1 (.mp k 2) = some (i64 s.whr) := aload_mp hk rfl
    have l3 : aload hp false 1 (.mp k 3) = some (i64 s.fault) := aload_mp hk rfl
    simp -failIfUnchanged -implicitDefEqProofs (disch := first | assumption | decide | omega) only [wkA, instrE, astepE, evE, evsE, evoE, evpE, elook, econs, eonly, putE, argE, pickE, resE, rsE, rE, Option.bind_some, Option.bind_none, Option.map_some, Option.map_none, ↓reduceIte, Nat.reduceEqDiff, Nat.reduceAdd, Nat.zero_add, Nat.add_zero, Nat.reduceLT, Nat.reduceLeDiff, Bool.false_eq_true, l2, l3]
    exact hK _ hk (HKeep.refl _ _)

theorem afill_r {b : AV} {bl : List Nat} (hb : Bytes b bl) : afill [.nsl, .v (.int .i64 0), .v (.int .i64 0), .v (.int .i64 0)] [(0, 1, b)] = some (rdr b rs0) := by
  rcases hb.slc with rfl | ⟨rfl, _⟩ <;> rfl

theorem unp_def {α : Type} (bl : List Nat) (one : RS → α × RS) : unp bl one = (if (rdFin bl (rdRow bl one rs0).2).fault = 0 then (nzl (rdRow bl one rs0).1, 0, 0) else (none, (rdFin bl (rdRow bl one rs0).2).whr, (rdFin bl (rdRow bl one rs0).2).fault)) := rfl

theorem unops44 {b : AV} {bl : List Nat} (hb : Bytes b bl) : PureSpec Try.prog 44 [b] (unpAV Opr.av (unp bl (rdOpr bl))) := by
  refine pureSpec_of (fnE mixed T44 U44 (Nat.le_of_ble_eq_true rfl) ?_)
  unfold c44
  have hcells : (AV.agg (rdr b rs0)).cells = rdr b rs0 := rfl
  simp -failIfUnchanged -implicitDefEqProofs (disch := first | assumption | decide | omega) only [wkA, instrE, astepE, evE, evsE, evoE, evpE, elook, econs, eonly, putE, argE, pickE, resE, rsE, rE, Option.bind_some, Option.bind_none, Option.map_some, Option.map_none, ↓reduceIte, Nat.reduceEqDiff, Nat.reduceAdd, Nat.zero_add, Nat.add_zero, Nat.reduceLT, Nat.reduceLeDiff, Bool.false_eq_true, afill_r hb, List.nil_append, List.length_nil, hcells]
  refine ops62 hb (Nat.zero_le _) _ _ _ rfl fun hp1 hk1 hR1 => ?_
  rw [unp_def]
  generalize rdRow bl (rdOpr bl) rs0 = r at *
  simp -failIfUnchanged -implicitDefEqProofs (disch := first | assumption | decide | omega) only [wkA, instrE, astepE, evE, evsE, evoE, evpE, elook, econs, eonly, putE, argE, pickE, resE, rsE, rE, Option.bind_some, Option.bind_none, Option.map_some, Option.map_none, ↓reduceIte, Nat.reduceEqDiff, Nat.reduceAdd, Nat.zero_add, Nat.add_zero, Nat.reduceLT, Nat.reduceLeDiff, Bool.false_eq_true]
  refine end63 hb _ _ _ hk1 fun hp2 hk2 hR2 => ?_
  generalize rdFin bl r.2 = t at *
  have x0 : aext 0 (.tup [i64 t.whr, i64 t.fault]) = some (i64 t.whr) := rfl
  have x1 : aext 1 (.tup [i64 t.whr, i64 t.fault]) = some (i64 t.fault) := rfl
  simp -failIfUnchanged -implicitDefEqProofs (disch := first | assumption | decide | omega) only [wkA, instrE, astepE, evE, evsE, evoE, evpE, elook, econs, eonly, putE, argE, pickE, resE, rsE, rE, Option.bind_some, Option.bind_none, Option.map_some, Option.map_none, ↓reduceIte, Nat.reduceEqDiff, Nat.reduceAdd, Nat.zero_add, Nat.add_zero, Nat.reduceLT, Nat.reduceLeDiff, Bool.false_eq_true, x0, x1]
  refine BoolCase.mk (fun h => ?_) fun h => ?_
  · have h0 : t.fault ≠ 0 := by simpa using h
    simp -failIfUnchanged -implicitDefEqProofs (disch := first | assumption | decide | omega) only [wkA, instrE, astepE, evE, evsE, evoE, evpE, elook, econs, eonly, putE, argE, pickE, resE, rsE, rE, Option.bind_some, Option.bind_none, Option.map_some, Option.map_none, ↓reduceIte, Nat.reduceEqDiff, Nat.reduceAdd, Nat.zero_add, Nat.add_zero, Nat.reduceLT, Nat.reduceLeDiff, Bool.false_eq_true]
    rw [if_neg h0]
    exact unpAV_clean opr_cells_clean (none, t.whr, t.fault)
  · have h0 : t.fault = 0 := by simpa using h
    simp -failIfUnchanged -implicitDefEqProofs (disch := first | assumption | decide | omega) only [wkA, instrE, astepE, evE, evsE, evoE, evpE, elook, econs, eonly, putE, argE, pickE, resE, rsE, rE, Option.bind_some, Option.bind_none, Option.map_some, Option.map_none, ↓reduceIte, Nat.reduceEqDiff, Nat.reduceAdd, Nat.zero_add, Nat.add_zero, Nat.reduceLT, Nat.reduceLeDiff, Bool.false_eq_true]
    rw [if_pos h0, h0]
    exact unpAV_clean opr_cells_clean (nzl r.1, 0, 0)

end Go.Proofs.Ytllgfmijocgniaa
