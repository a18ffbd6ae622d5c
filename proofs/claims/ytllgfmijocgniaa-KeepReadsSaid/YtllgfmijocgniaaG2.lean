/- The program's readers: a step, an operation. -/
import Derived.Test.YtllgfmijocgniaaG1
set_option linter.unusedVariables false
set_option linter.unusedSimpArgs false
namespace Go.Proofs.Ytllgfmijocgniaa
open Go Go.Abs Go.RowKit

theorem unrowToks {b : AV} {bl : List Nat} (hb : Bytes b bl) {s : RS} (hs : s.at_ ≤ bl.length) : Reads 51 [.fn (.func 37) [] []] (rdc b) s (rdRow bl (rdTok bl) s).2 (slcAV Tok.av (nzl (rdRow bl (rdTok bl) s).1)) :=
  unrowReads R51 (by decide) (by decide) (by decide) (by decide) hb Tok.av (rdTok bl) (fun s h => token37 hb h) (fun s h => rdTok_at h) (fun s => tok_okElems (rdTok_ok bl s)) hs
theorem unrowSets {b : AV} {bl : List Nat} (hb : Bytes b bl) {s : RS} (hs : s.at_ ≤ bl.length) : Reads 57 [.fn (.func 55) [] []] (rdc b) s (rdRow bl (rdSet bl) s).2 (slcAV setAV (nzl (rdRow bl (rdSet bl) s).1)) :=
  unrowReads R57 (by decide) (by decide) (by decide) (by decide) hb setAV (rdSet bl) (fun s h => set55 hb h) (fun s h => rdSet_at h) (fun s => set_okElems rdSet_set) hs

def rdStp (b : List Nat) (s : RS) : Stp × RS :=
  let r1 := rdAny b s
  let r2 := rdAny b r1.2
  let r3 := rdAny b r2.2
  let r4 := rdAny b r3.2
  let r5 := rdAny b r4.2
  let r6 := rdAny b r5.2
  let r7 := rdAny b r6.2
  let r8 := rdAny b r7.2
  let p := rdRow b (rdTok b) r8.2
  let q := rdRow b (rdSet b) p.2
  (⟨r1.1, r2.1, r3.1, r4.1, r5.1, r6.1, r7.1, r8.1, nzl p.1, nzl q.1⟩, q.2)

theorem rdToks_at {b : List Nat} {s : RS} (h : s.at_ ≤ b.length) : (rdRow b (rdTok b) s).2.at_ ≤ b.length := rdRow_at (fun _ h => rdTok_at h) h
theorem rdSets_at {b : List Nat} {s : RS} (h : s.at_ ≤ b.length) : (rdRow b (rdSet b) s).2.at_ ≤ b.length := rdRow_at (fun _ h => rdSet_at h) h
theorem rdStp_at {b : List Nat} {s : RS} (h : s.at_ ≤ b.length) : (rdStp b s).2.at_ ≤ b.length := by
  unfold rdStp
  dsimp only
  have a1 := rdAny_at h
  generalize rdAny b s = r1 at *
  have a2 := rdAny_at a1
  generalize rdAny b r1.2 = r2 at *
  have a3 := rdAny_at a2
  generalize rdAny b r2.2 = r3 at *
  have a4 := rdAny_at a3
  generalize rdAny b r3.2 = r4 at *
  have a5 := rdAny_at a4
  generalize rdAny b r4.2 = r5 at *
  have a6 := rdAny_at a5
  generalize rdAny b r5.2 = r6 at *
  have a7 := rdAny_at a6
  generalize rdAny b r6.2 = r7 at *
  have a8 := rdAny_at a7
  generalize rdAny b r7.2 = r8 at *
  exact rdSets_at (rdToks_at a8)

set_option maxRecDepth 20000 in
theorem step39 {b : AV} {bl : List Nat} (hb : Bytes b bl) {s : RS} (hs : s.at_ ≤ bl.length) : Reads 39 [] (rdc b) s (rdStp bl s).2 (rdStp bl s).1.av := by
  intro hp k K hk hK
  refine fnE mixed T39 U39 (Nat.le_of_ble_eq_true rfl) ?_
  unfold c39
  have hkl : k < hp.length := (List.getElem?_eq_some_iff.1 hk).1
  have ez : ([.v (.int .i64 0), .v (.int .i64 0), .v (.int .i64 0), .v (.int .i64 0), .v (.int .i64 0), .v (.int .i64 0), .v (.int .i64 0), .v (.int .i64 0), .nsl, .nsl] : List AV) = zStp := rfl
  unfold rdStp at hK
  dsimp only at hK
  simp -failIfUnchanged -implicitDefEqProofs (disch := first | assumption | decide | omega) only [wkA, instrE, astepE, evE, evsE, evoE, evpE, elook, econs, eonly, putE, argE, pickE, resE, rsE, rE, Option.bind_some, Option.bind_none, Option.map_some, Option.map_none, ↓reduceIte, Nat.reduceEqDiff, Nat.reduceAdd, Nat.zero_add, Nat.add_zero, Nat.reduceLT, Nat.reduceLeDiff, Bool.false_eq_true, ez]
  refine any53 hb hs _ _ _ (get_ext hk) fun hp1 hk1 hR1 => ?_
  have hO1 := ((Old.start hp k).ext [.cells zStp false]).keep hR1
  have j1 : hp1[hp.length]? = some (.cells zStp false) := hR1.at (by omega) (by simp)
  have a1 := rdAny_at (b := bl) hs
  generalize rdAny bl s = r1 at *
  simp -failIfUnchanged -implicitDefEqProofs (disch := first | assumption | decide | omega) only [wkA, instrE, astepE, evE, evsE, evoE, evpE, elook, econs, eonly, putE, argE, pickE, resE, rsE, rE, Option.bind_some, Option.bind_none, Option.map_some, Option.map_none, ↓reduceIte, Nat.reduceEqDiff, Nat.reduceAdd, Nat.zero_add, Nat.add_zero, Nat.reduceLT, Nat.reduceLeDiff, Bool.false_eq_true, ez]
  refine any53 hb a1 _ _ _ hk1 fun hp2 hk2 hR2 => ?_
  have hO2 := hO1.keep hR2
  have j2 := hR2.at (by omega) j1
  have a2 := rdAny_at (b := bl) a1
  generalize rdAny bl r1.2 = r2 at *
  simp -failIfUnchanged -implicitDefEqProofs (disch := first | assumption | decide | omega) only [wkA, instrE, astepE, evE, evsE, evoE, evpE, elook, econs, eonly, putE, argE, pickE, resE, rsE, rE, Option.bind_some, Option.bind_none, Option.map_some, Option.map_none, ↓reduceIte, Nat.reduceEqDiff, Nat.reduceAdd, Nat.zero_add, Nat.add_zero, Nat.reduceLT, Nat.reduceLeDiff, Bool.false_eq_true, ez]
  refine any53 hb a2 _ _ _ hk2 fun hp3 hk3 hR3 => ?_
  have hO3 := hO2.keep hR3
  have j3 := hR3.at (by omega) j2
  have a3 := rdAny_at (b := bl) a2
  generalize rdAny bl r2.2 = r3 at *
  simp -failIfUnchanged -implicitDefEqProofs (disch := first | assumption | decide | omega) only [wkA, instrE, astepE, evE, evsE, evoE, evpE, elook, econs, eonly, putE, argE, pickE, resE, rsE, rE, Option.bind_some, Option.bind_none, Option.map_some, Option.map_none, ↓reduceIte, Nat.reduceEqDiff, Nat.reduceAdd, Nat.zero_add, Nat.add_zero, Nat.reduceLT, Nat.reduceLeDiff, Bool.false_eq_true, ez]
  refine any53 hb a3 _ _ _ hk3 fun hp4 hk4 hR4 => ?_
  have hO4 := hO3.keep hR4
  have j4 := hR4.at (by omega) j3
  have a4 := rdAny_at (b := bl) a3
  generalize rdAny bl r3.2 = r4 at *
  simp -failIfUnchanged -implicitDefEqProofs (disch := first | assumption | decide | omega) only [wkA, instrE, astepE, evE, evsE, evoE, evpE, elook, econs, eonly, putE, argE, pickE, resE, rsE, rE, Option.bind_some, Option.bind_none, Option.map_some, Option.map_none, ↓reduceIte, Nat.reduceEqDiff, Nat.reduceAdd, Nat.zero_add, Nat.add_zero, Nat.reduceLT, Nat.reduceLeDiff, Bool.false_eq_true, ez]
  refine any53 hb a4 _ _ _ hk4 fun hp5 hk5 hR5 => ?_
  have hO5 := hO4.keep hR5
  have j5 := hR5.at (by omega) j4
  have a5 := rdAny_at (b := bl) a4
  generalize rdAny bl r4.2 = r5 at *
  simp -failIfUnchanged -implicitDefEqProofs (disch := first | assumption | decide | omega) only [wkA, instrE, astepE, evE, evsE, evoE, evpE, elook, econs, eonly, putE, argE, pickE, resE, rsE, rE, Option.bind_some, Option.bind_none, Option.map_some, Option.map_none, ↓reduceIte, Nat.reduceEqDiff, Nat.reduceAdd, Nat.zero_add, Nat.add_zero, Nat.reduceLT, Nat.reduceLeDiff, Bool.false_eq_true, ez]
  refine any53 hb a5 _ _ _ hk5 fun hp6 hk6 hR6 => ?_
  have hO6 := hO5.keep hR6
  have j6 := hR6.at (by omega) j5
  have a6 := rdAny_at (b := bl) a5
  generalize rdAny bl r5.2 = r6 at *
  simp -failIfUnchanged -implicitDefEqProofs (disch := first | assumption | decide | omega) only [wkA, instrE, astepE, evE, evsE, evoE, evpE, elook, econs, eonly, putE, argE, pickE, resE, rsE, rE, Option.bind_some, Option.bind_none, Option.map_some, Option.map_none, ↓reduceIte, Nat.reduceEqDiff, Nat.reduceAdd, Nat.zero_add, Nat.add_zero, Nat.reduceLT, Nat.reduceLeDiff, Bool.false_eq_true, ez]
  refine any53 hb a6 _ _ _ hk6 fun hp7 hk7 hR7 => ?_
  have hO7 := hO6.keep hR7
  have j7 := hR7.at (by omega) j6
  have a7 := rdAny_at (b := bl) a6
  generalize rdAny bl r6.2 = r7 at *
  simp -failIfUnchanged -implicitDefEqProofs (disch := first | assumption | decide | omega) only [wkA, instrE, astepE, evE, evsE, evoE, evpE, elook, econs, eonly, putE, argE, pickE, resE, rsE, rE, Option.bind_some, Option.bind_none, Option.map_some, Option.map_none, ↓reduceIte, Nat.reduceEqDiff, Nat.reduceAdd, Nat.zero_add, Nat.add_zero, Nat.reduceLT, Nat.reduceLeDiff, Bool.false_eq_true, ez]
  refine any53 hb a7 _ _ _ hk7 fun hp8 hk8 hR8 => ?_
  have hO8 := hO7.keep hR8
  have j8 := hR8.at (by omega) j7
  have a8 := rdAny_at (b := bl) a7
  generalize rdAny bl r7.2 = r8 at *
  have hl8 : hp.length ≤ hp8.length := hO8.2.1
  have hjl8 : hp.length < hp8.length := (List.getElem?_eq_some_iff.1 j8).1
  obtain ⟨cs, hcs⟩ : ∃ cs : List AV, cs = [i64 r1.1, i64 r2.1, i64 r3.1, i64 r4.1, i64 r5.1, i64 r6.1, i64 r7.1, i64 r8.1, .nsl, .nsl] := ⟨_, rfl⟩
  have e1 : afill zStp [(0, 1, i64 r1.1), (1, 1, i64 r2.1), (2, 1, i64 r3.1), (3, 1, i64 r4.1), (4, 1, i64 r5.1), (5, 1, i64 r6.1), (6, 1, i64 r7.1), (7, 1, i64 r8.1)] = some cs := by rw [hcs]; rfl
  have s1 : astore (hp8 ++ [.cells zStp false]) 10 (.mp hp8.length 0) (.agg cs) = some (hp8 ++ [.cells cs false]) := store_new (n := 10) rfl (by rw [hcs]; rfl) (by rw [hcs]; rfl)
  simp -failIfUnchanged -implicitDefEqProofs (disch := first | assumption | decide | omega) only [wkA, instrE, astepE, evE, evsE, evoE, evpE, elook, econs, eonly, putE, argE, pickE, resE, rsE, rE, Option.bind_some, Option.bind_none, Option.map_some, Option.map_none, ↓reduceIte, Nat.reduceEqDiff, Nat.reduceAdd, Nat.zero_add, Nat.add_zero, Nat.reduceLT, Nat.reduceLeDiff, Bool.false_eq_true, ez, e1, s1]
  refine unrowToks hb a8 _ _ _ (get_ext hk8) fun hp9 hk9 hR9 => ?_
  have hO9 := (hO8.ext _).keep hR9
  have j9 := hR9.at (by omega) (get_ext j8)
  have m9 : hp9[hp8.length]? = some (.cells cs false) := hR9.at (by omega) (by simp)
  have a9 := rdToks_at (b := bl) a8
  generalize rdRow bl (rdTok bl) r8.2 = p at *
  have s2 := store_cell (o := 8) (x := slcAV Tok.av (nzl p.1)) m9 (by rw [hcs]; simp) (by cases nzl p.1 <;> rfl) (slc_one _ _)
  have m10 := set_at (b' := .cells (cs.set 8 (slcAV Tok.av (nzl p.1))) false) m9
  have hO10 := hO9.set (.cells (cs.set 8 (slcAV Tok.av (nzl p.1))) false) hl8
  have j10 := set_other (b := .cells (cs.set 8 (slcAV Tok.av (nzl p.1))) false) (show hp.length ≠ hp8.length by omega) j9
  have k10 := set_other (b := .cells (cs.set 8 (slcAV Tok.av (nzl p.1))) false) (show k ≠ hp8.length by omega) hk9
  simp -failIfUnchanged -implicitDefEqProofs (disch := first | assumption | decide | omega) only [wkA, instrE, astepE, evE, evsE, evoE, evpE, elook, econs, eonly, putE, argE, pickE, resE, rsE, rE, Option.bind_some, Option.bind_none, Option.map_some, Option.map_none, ↓reduceIte, Nat.reduceEqDiff, Nat.reduceAdd, Nat.zero_add, Nat.add_zero, Nat.reduceLT, Nat.reduceLeDiff, Bool.false_eq_true, s2]
  refine unrowSets hb a9 _ _ _ k10 fun hp11 hk11 hR11 => ?_
  have hO11 := hO10.keep hR11
  have j11 := hR11.at (by omega) j10
  have m11 := hR11.at (by omega) m10
  generalize rdRow bl (rdSet bl) p.2 = q at *
  have s3 := store_cell (o := 9) (x := slcAV setAV (nzl q.1)) m11 (by rw [hcs]; simp) (by cases nzl q.1 <;> rfl) (slc_one _ _)
  have ecs : (cs.set 8 (slcAV Tok.av (nzl p.1))).set 9 (slcAV setAV (nzl q.1)) = (Stp.mk r1.1 r2.1 r3.1 r4.1 r5.1 r6.1 r7.1 r8.1 (nzl p.1) (nzl q.1)).cs := by rw [hcs]; rfl
  rw [ecs] at s3
  generalize hx : Stp.mk r1.1 r2.1 r3.1 r4.1 r5.1 r6.1 r7.1 r8.1 (nzl p.1) (nzl q.1) = x at *
  have m12 := set_at (b' := .cells x.cs false) m11
  have j12 := set_other (b := .cells x.cs false) (show hp.length ≠ hp8.length by omega) j11
  have k12 := set_other (b := .cells x.cs false) (show k ≠ hp8.length by omega) hk11
  have hO12 := hO11.set (.cells x.cs false) hl8
  have l12 := aload_mp m12 (pick_all (n := 10) (cs := x.cs) rfl)
  have s4 := store_all (n := 10) (x := .agg x.cs) j12 rfl rfl (stp_one x)
  have j13 := set_at (b' := .cells (AV.agg x.cs).cells false) j12
  have l13 := aload_mp j13 (pick_all (n := 10) (cs := x.cs) rfl)
  simp -failIfUnchanged -implicitDefEqProofs (disch := first | assumption | decide | omega) only [wkA, instrE, astepE, evE, evsE, evoE, evpE, elook, econs, eonly, putE, argE, pickE, resE, rsE, rE, Option.bind_some, Option.bind_none, Option.map_some, Option.map_none, ↓reduceIte, Nat.reduceEqDiff, Nat.reduceAdd, Nat.zero_add, Nat.add_zero, Nat.reduceLT, Nat.reduceLeDiff, Bool.false_eq_true, s3, l12, s4, l13]
  exact hK _ (set_other (by omega) k12) (hO12.set _ (Nat.le_refl _)).done

theorem unrowStps {b : AV} {bl : List Nat} (hb : Bytes b bl) {s : RS} (hs : s.at_ ≤ bl.length) : Reads 56 [.fn (.func 39) [] []] (rdc b) s (rdRow bl (rdStp bl) s).2 (slcAV Stp.av (nzl (rdRow bl (rdStp bl) s).1)) :=
  unrowReads R56 (by decide) (by decide) (by decide) (by decide) hb Stp.av (rdStp bl) (fun s h => step39 hb h) (fun s h => rdStp_at h) (fun s => stp_okElems _) hs
theorem rdStps_at {b : List Nat} {s : RS} (h : s.at_ ≤ b.length) : (rdRow b (rdStp b) s).2.at_ ≤ b.length := rdRow_at (fun _ h => rdStp_at h) h

def rdOpr (b : List Nat) (s : RS) : Opr × RS :=
  let r1 := rdAny b s
  let r2 := rdAny b r1.2
  let p := rdRow b (rdStp b) r2.2
  let r3 := rdAny b p.2
  let r4 := rdAny b r3.2
  let r5 := rdAny b r4.2
  (⟨r1.1, r2.1, nzl p.1, r3.1, r4.1, r5.1⟩, r5.2)
theorem rdOpr_at {b : List Nat} {s : RS} (h : s.at_ ≤ b.length) : (rdOpr b s).2.at_ ≤ b.length :=
  rdAny_at (rdAny_at (rdAny_at (rdStps_at (rdAny_at (rdAny_at h)))))

set_option maxRecDepth 20000 in
theorem op41 {b : AV} {bl : List Nat} (hb : Bytes b bl) {s : RS} (hs : s.at_ ≤ bl.length) : Reads 41 [] (rdc b) s (rdOpr bl s).2 (rdOpr bl s).1.av := by
  intro hp k K hk hK
  refine fnE mixed T41 U41 (Nat.le_of_ble_eq_true rfl) ?_
  unfold c41
  have hkl : k < hp.length := (List.getElem?_eq_some_iff.1 hk).1
  have ez : ([.v (.int .i64 0), .v (.int .i64 0), .nsl, .v (.int .i64 0), .v (.int .i64 0), .v (.int .i64 0)] : List AV) = zOpr := rfl
  unfold rdOpr at hK
  dsimp only at hK
  simp -failIfUnchanged -implicitDefEqProofs (disch := first | assumption | decide | omega) only [wkA, instrE, astepE, evE, evsE, evoE, evpE, elook, econs, eonly, putE, argE, pickE, resE, rsE, rE, Option.bind_some, Option.bind_none, Option.map_some, Option.map_none, ↓reduceIte, Nat.reduceEqDiff, Nat.reduceAdd, Nat.zero_add, Nat.add_zero, Nat.reduceLT, Nat.reduceLeDiff, Bool.false_eq_true, ez]
  refine any53 hb hs _ _ _ (get_ext hk) fun hp1 hk1 hR1 => ?_
  have hO1 := ((Old.start hp k).ext [.cells zOpr false]).keep hR1
  have j1 : hp1[hp.length]? = some (.cells zOpr false) := hR1.at (by omega) (by simp)
  have a1 := rdAny_at (b := bl) hs
  generalize rdAny bl s = r1 at *
  simp -failIfUnchanged -implicitDefEqProofs (disch := first | assumption | decide | omega) only [wkA, instrE, astepE, evE, evsE, evoE, evpE, elook, econs, eonly, putE, argE, pickE, resE, rsE, rE, Option.bind_some, Option.bind_none, Option.map_some, Option.map_none, ↓reduceIte, Nat.reduceEqDiff, Nat.reduceAdd, Nat.zero_add, Nat.add_zero, Nat.reduceLT, Nat.reduceLeDiff, Bool.false_eq_true, ez]
  refine any53 hb a1 _ _ _ hk1 fun hp2 hk2 hR2 => ?_
  have hO2 := hO1.keep hR2
  have j2 := hR2.at (by omega) j1
  have a2 := rdAny_at (b := bl) a1
  generalize rdAny bl r1.2 = r2 at *
  have hl2 : hp.length ≤ hp2.length := hO2.2.1
  have hjl2 : hp.length < hp2.length := (List.getElem?_eq_some_iff.1 j2).1
  have e1 : afill zOpr [(0, 1, i64 r1.1), (1, 1, i64 r2.1)] = some [i64 r1.1, i64 r2.1, .nsl, i64 0, i64 0, i64 0] := rfl
  have s1 : astore (hp2 ++ [.cells zOpr false]) 6 (.mp hp2.length 0) (.agg [i64 r1.1, i64 r2.1, .nsl, i64 0, i64 0, i64 0]) = some (hp2 ++ [.cells [i64 r1.1, i64 r2.1, .nsl, i64 0, i64 0, i64 0] false]) := store_new (n := 6) rfl rfl rfl
  simp -failIfUnchanged -implicitDefEqProofs (disch := first | assumption | decide | omega) only [wkA, instrE, astepE, evE, evsE, evoE, evpE, elook, econs, eonly, putE, argE, pickE, resE, rsE, rE, Option.bind_some, Option.bind_none, Option.map_some, Option.map_none, ↓reduceIte, Nat.reduceEqDiff, Nat.reduceAdd, Nat.zero_add, Nat.add_zero, Nat.reduceLT, Nat.reduceLeDiff, Bool.false_eq_true, ez, e1, s1]
  refine unrowStps hb a2 _ _ _ (get_ext hk2) fun hp3 hk3 hR3 => ?_
  have hO3 := (hO2.ext _).keep hR3
  have j3 := hR3.at (by omega) (get_ext j2)
  have m3 : hp3[hp2.length]? = some (.cells [i64 r1.1, i64 r2.1, .nsl, i64 0, i64 0, i64 0] false) := hR3.at (by omega) (by simp)
  have a3 := rdStps_at (b := bl) a2
  generalize rdRow bl (rdStp bl) r2.2 = p at *
  have s2 := store_cell (o := 2) (x := slcAV Stp.av (nzl p.1)) m3 (by simp) (by cases nzl p.1 <;> rfl) (slc_one _ _)
  have em : ([i64 r1.1, i64 r2.1, .nsl, i64 0, i64 0, i64 0] : List AV).set 2 (slcAV Stp.av (nzl p.1)) = [i64 r1.1, i64 r2.1, slcAV Stp.av (nzl p.1), i64 0, i64 0, i64 0] := rfl
  rw [em] at s2
  generalize hsv : slcAV Stp.av (nzl p.1) = sv at *
  have hs1 : sv.one = true := by rw [← hsv]; exact slc_one _ _
  have m4 := set_at (b' := .cells [i64 r1.1, i64 r2.1, sv, i64 0, i64 0, i64 0] false) m3
  have hO4 := hO3.set (.cells [i64 r1.1, i64 r2.1, sv, i64 0, i64 0, i64 0] false) hl2
  have j4 := set_other (b := .cells [i64 r1.1, i64 r2.1, sv, i64 0, i64 0, i64 0] false) (show hp.length ≠ hp2.length by omega) j3
  have k4 := set_other (b := .cells [i64 r1.1, i64 r2.1, sv, i64 0, i64 0, i64 0] false) (show k ≠ hp2.length by omega) hk3
  simp -failIfUnchanged -implicitDefEqProofs (disch := first | assumption | decide | omega) only [wkA, instrE, astepE, evE, evsE, evoE, evpE, elook, econs, eonly, putE, argE, pickE, resE, rsE, rE, Option.bind_some, Option.bind_none, Option.map_some, Option.map_none, ↓reduceIte, Nat.reduceEqDiff, Nat.reduceAdd, Nat.zero_add, Nat.add_zero, Nat.reduceLT, Nat.reduceLeDiff, Bool.false_eq_true, s2]
  refine any53 hb a3 _ _ _ k4 fun hp5 hk5 hR5 => ?_
  have hO5 := hO4.keep hR5
  have j5 := hR5.at (by omega) j4
  have m5 := hR5.at (by omega) m4
  have a5 := rdAny_at (b := bl) a3
  generalize rdAny bl p.2 = r3 at *
  simp -failIfUnchanged -implicitDefEqProofs (disch := first | assumption | decide | omega) only [wkA, instrE, astepE, evE, evsE, evoE, evpE, elook, econs, eonly, putE, argE, pickE, resE, rsE, rE, Option.bind_some, Option.bind_none, Option.map_some, Option.map_none, ↓reduceIte, Nat.reduceEqDiff, Nat.reduceAdd, Nat.zero_add, Nat.add_zero, Nat.reduceLT, Nat.reduceLeDiff, Bool.false_eq_true]
  refine any53 hb a5 _ _ _ hk5 fun hp6 hk6 hR6 => ?_
  have hO6 := hO5.keep hR6
  have j6 := hR6.at (by omega) j5
  have m6 := hR6.at (by omega) m5
  have a6 := rdAny_at (b := bl) a5
  generalize rdAny bl r3.2 = r4 at *
  simp -failIfUnchanged -implicitDefEqProofs (disch := first | assumption | decide | omega) only [wkA, instrE, astepE, evE, evsE, evoE, evpE, elook, econs, eonly, putE, argE, pickE, resE, rsE, rE, Option.bind_some, Option.bind_none, Option.map_some, Option.map_none, ↓reduceIte, Nat.reduceEqDiff, Nat.reduceAdd, Nat.zero_add, Nat.add_zero, Nat.reduceLT, Nat.reduceLeDiff, Bool.false_eq_true]
  refine any53 hb a6 _ _ _ hk6 fun hp7 hk7 hR7 => ?_
  have hO7 := hO6.keep hR7
  have j7 := hR7.at (by omega) j6
  have m7 := hR7.at (by omega) m6
  generalize rdAny bl r4.2 = r5 at *
  have e2 : afill [i64 0, i64 0, i64 0] [(0, 1, i64 r3.1), (1, 1, i64 r4.1), (2, 1, i64 r5.1)] = some [i64 r3.1, i64 r4.1, i64 r5.1] := rfl
  have s3 : astore hp7 3 (.mp hp2.length 3) (.agg [i64 r3.1, i64 r4.1, i64 r5.1]) = some (hp7.set hp2.length (.cells [i64 r1.1, i64 r2.1, sv, i64 r3.1, i64 r4.1, i64 r5.1] false)) := store_part m7 (by simp) rfl rfl rfl
  have m8 := set_at (b' := .cells [i64 r1.1, i64 r2.1, sv, i64 r3.1, i64 r4.1, i64 r5.1] false) m7
  have j8 := set_other (b := .cells [i64 r1.1, i64 r2.1, sv, i64 r3.1, i64 r4.1, i64 r5.1] false) (show hp.length ≠ hp2.length by omega) j7
  have k8 := set_other (b := .cells [i64 r1.1, i64 r2.1, sv, i64 r3.1, i64 r4.1, i64 r5.1] false) (show k ≠ hp2.length by omega) hk7
  have hO8 := hO7.set (.cells [i64 r1.1, i64 r2.1, sv, i64 r3.1, i64 r4.1, i64 r5.1] false) hl2
  have l8 := aload_mp m8 (pick_all (n := 6) rfl)
  have s4 := store_all (n := 6) (x := .agg [i64 r1.1, i64 r2.1, sv, i64 r3.1, i64 r4.1, i64 r5.1]) j8 rfl rfl (by simp only [AV.cells, List.all_cons, List.all_nil, hs1, one_v, Bool.and_self])
  have j9 := set_at (b' := .cells (AV.agg [i64 r1.1, i64 r2.1, sv, i64 r3.1, i64 r4.1, i64 r5.1]).cells false) j8
  have l9 := aload_mp j9 (pick_all (n := 6) (cs := [i64 r1.1, i64 r2.1, sv, i64 r3.1, i64 r4.1, i64 r5.1]) rfl)
  simp -failIfUnchanged -implicitDefEqProofs (disch := first | assumption | decide | omega) only [wkA, instrE, astepE, evE, evsE, evoE, evpE, elook, econs, eonly, putE, argE, pickE, resE, rsE, rE, Option.bind_some, Option.bind_none, Option.map_some, Option.map_none, ↓reduceIte, Nat.reduceEqDiff, Nat.reduceAdd, Nat.zero_add, Nat.add_zero, Nat.reduceLT, Nat.reduceLeDiff, Bool.false_eq_true, e2, s3, l8, s4, l9]
  have hav : (Opr.mk r1.1 r2.1 (nzl p.1) r3.1 r4.1 r5.1).av = .agg [i64 r1.1, i64 r2.1, sv, i64 r3.1, i64 r4.1, i64 r5.1] := by rw [← hsv]; rfl
  rw [hav] at hK
  exact hK _ (set_other (by omega) k8) (hO8.set _ (Nat.le_refl _)).done

theorem unrowOprs {b : AV} {bl : List Nat} (hb : Bytes b bl) {s : RS} (hs : s.at_ ≤ bl.length) : Reads 58 [.fn (.func 41) [] []] (rdc b) s (rdRow bl (rdOpr bl) s).2 (slcAV Opr.av (nzl (rdRow bl (rdOpr bl) s).1)) :=
  unrowReads R58 (by decide) (by decide) (by decide) (by decide) hb Opr.av (rdOpr bl) (fun s h => op41 hb h) (fun s h => rdOpr_at h) (fun s => opr_okElems _) hs

end Go.Proofs.Ytllgfmijocgniaa
