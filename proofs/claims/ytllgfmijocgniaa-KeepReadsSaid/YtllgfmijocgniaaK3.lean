/- The reference's readers: any number, how many, a set. -/
import Derived.Test.YtllgfmijocgniaaK2
set_option linter.unusedVariables false
set_option linter.unusedSimpArgs false
namespace Go.Proofs.Ytllgfmijocgniaa
open Go Go.Abs Go.RowKit

theorem any66 {b : AV} {bl : List Nat} (hb : Bytes b bl) {s : RS} (hs : s.at_ ≤ bl.length) : Reads 66 [] (rdr b) s (rdAny bl s).2 (i64 (rdAny bl s).1) := by
  intro hp k K hk hK
  refine fnE mixed T66 U66 (Nat.le_of_ble_eq_true rfl) ?_
  unfold c66
  simp -failIfUnchanged -implicitDefEqProofs (disch := first | assumption | decide | omega) only [wkA, instrE, astepE, evE, evsE, evoE, evpE, elook, econs, eonly, putE, argE, pickE, resE, rsE, rE, Option.bind_some, Option.bind_none, Option.map_some, Option.map_none, ↓reduceIte, Nat.reduceEqDiff, Nat.reduceAdd, Nat.zero_add, Nat.add_zero, Nat.reduceLT, Nat.reduceLeDiff, Bool.false_eq_true]
  refine num69 hb hs _ _ _ hk fun hp2 hk2 hR2 => ?_
  simp -failIfUnchanged -implicitDefEqProofs (disch := first | assumption | decide | omega) only [wkA, instrE, astepE, evE, evsE, evoE, evpE, elook, econs, eonly, putE, argE, pickE, resE, rsE, rE, Option.bind_some, Option.bind_none, Option.map_some, Option.map_none, ↓reduceIte, Nat.reduceEqDiff, Nat.reduceAdd, Nat.zero_add, Nat.add_zero, Nat.reduceLT, Nat.reduceLeDiff, Bool.false_eq_true]
  exact hK _ hk2 hR2

theorem many65 {b : AV} {bl : List Nat} (hb : Bytes b bl) {s : RS} (hs : s.at_ ≤ bl.length) : Reads 65 [] (rdr b) s (rdMany bl s).2 (i64 (rdMany bl s).1) := by
  intro hp k K hk hK
  refine fnE mixed T65 U65 (Nat.le_of_ble_eq_true rfl) ?_
  unfold c65
  have l1 : aload hp false 1 (.mp k 1) = some (i64 s.at_) := aload_mp hk rfl
  simp -failIfUnchanged -implicitDefEqProofs (disch := first | assumption | decide | omega) only [wkA, instrE, astepE, evE, evsE, evoE, evpE, elook, econs, eonly, putE, argE, pickE, resE, rsE, rE, Option.bind_some, Option.bind_none, Option.map_some, Option.map_none, ↓reduceIte, Nat.reduceEqDiff, Nat.reduceAdd, Nat.zero_add, Nat.add_zero, Nat.reduceLT, Nat.reduceLeDiff, Bool.false_eq_true, l1]
  refine num69 hb hs (low := 0) (high := 9223372036854775807) _ _ _ hk fun hp2 hk2 hR2 => ?_
  have hat := (rdNum_at (b := bl) (low := 0) (high := 9223372036854775807) hs).2
  have hok := @rdNum_ok bl 0 9223372036854775807 s
  have hbad := @rdNum_bad bl 0 9223372036854775807 s
  have hm : rdMany bl s = manyEnd bl s (rdNum bl 0 9223372036854775807 s) := rfl
  rw [hm] at hK
  generalize rdNum bl 0 9223372036854775807 s = p at *
  obtain ⟨n, t⟩ := p
  simp only at hat hok hbad hk2
  simp only [manyEnd] at hK
  have l0 : aload hp2 false 1 (.mp k 0) = some b := aload_mp hk2 rfl
  have l1 : aload hp2 false 1 (.mp k 1) = some (i64 t.at_) := aload_mp hk2 rfl
  have l3 : aload hp2 false 1 (.mp k 3) = some (i64 t.fault) := aload_mp hk2 rfl
  have hlen := hb.len
  have x1 : IntKind.i64.wrap ((bl.length : Int) - (t.at_ : Int)) = ((bl.length - t.at_ : Nat) : Int) := by
    rw [wrap_i64 (by omega) (by omega)]; omega
  simp -failIfUnchanged -implicitDefEqProofs (disch := first | assumption | decide | omega) only [wkA, instrE, astepE, evE, evsE, evoE, evpE, elook, econs, eonly, putE, argE, pickE, resE, rsE, rE, Option.bind_some, Option.bind_none, Option.map_some, Option.map_none, ↓reduceIte, Nat.reduceEqDiff, Nat.reduceAdd, Nat.zero_add, Nat.add_zero, Nat.reduceLT, Nat.reduceLeDiff, Bool.false_eq_true, l0, l1, l3, hb.slc.lenStep, goInt, bs_length, x1]
  refine BoolCase.mk (fun h => ?_) fun h => ?_
  · have h' : ((bl.length - t.at_ : Nat) : Int) < n := by simpa using h
    rw [if_pos h'] at hK
    simp -failIfUnchanged -implicitDefEqProofs (disch := first | assumption | decide | omega) only [wkA, instrE, astepE, evE, evsE, evoE, evpE, elook, econs, eonly, putE, argE, pickE, resE, rsE, rE, Option.bind_some, Option.bind_none, Option.map_some, Option.map_none, ↓reduceIte, Nat.reduceEqDiff, Nat.reduceAdd, Nat.zero_add, Nat.add_zero, Nat.reduceLT, Nat.reduceLeDiff, Bool.false_eq_true]
    refine wrong68 s.at_ 3 (by decide) _ _ _ hk2 fun hp3 hk3' hR3 => ?_
    have l4 : aload hp3 false 1 (.mp k 3) = some (i64 (t.wrong s.at_ 3).fault) := aload_mp hk3' rfl
    have hf := wrong_fault t s.at_ (e := 3) (by decide)
    have d : (((t.wrong s.at_ 3).fault : Int) != 0) = true := by simp; omega
    simp -failIfUnchanged -implicitDefEqProofs (disch := first | assumption | decide | omega) only [wkA, instrE, astepE, evE, evsE, evoE, evpE, elook, econs, eonly, putE, argE, pickE, resE, rsE, rE, Option.bind_some, Option.bind_none, Option.map_some, Option.map_none, ↓reduceIte, Nat.reduceEqDiff, Nat.reduceAdd, Nat.zero_add, Nat.add_zero, Nat.reduceLT, Nat.reduceLeDiff, Bool.false_eq_true, l4, d]
    exact hK _ hk3' (hR2.trans hR3)
  · have h' : ¬ ((bl.length - t.at_ : Nat) : Int) < n := by simpa using h
    rw [if_neg h'] at hK
    simp -failIfUnchanged -implicitDefEqProofs (disch := first | assumption | decide | omega) only [wkA, instrE, astepE, evE, evsE, evoE, evpE, elook, econs, eonly, putE, argE, pickE, resE, rsE, rE, Option.bind_some, Option.bind_none, Option.map_some, Option.map_none, ↓reduceIte, Nat.reduceEqDiff, Nat.reduceAdd, Nat.zero_add, Nat.add_zero, Nat.reduceLT, Nat.reduceLeDiff, Bool.false_eq_true, l3]
    refine BoolCase.mk (fun h2 => ?_) fun h2 => ?_
    · have hf : t.fault ≠ 0 := by simpa using h2
      have hn := hbad hf
      subst hn
      simp -failIfUnchanged -implicitDefEqProofs (disch := first | assumption | decide | omega) only [wkA, instrE, astepE, evE, evsE, evoE, evpE, elook, econs, eonly, putE, argE, pickE, resE, rsE, rE, Option.bind_some, Option.bind_none, Option.map_some, Option.map_none, ↓reduceIte, Nat.reduceEqDiff, Nat.reduceAdd, Nat.zero_add, Nat.add_zero, Nat.reduceLT, Nat.reduceLeDiff, Bool.false_eq_true]
      exact hK _ hk2 hR2
    · have hf : t.fault = 0 := by simpa using h2
      have hn := (hok hf).2.1
      simp -failIfUnchanged -implicitDefEqProofs (disch := first | assumption | decide | omega) only [wkA, instrE, astepE, evE, evsE, evoE, evpE, elook, econs, eonly, putE, argE, pickE, resE, rsE, rE, Option.bind_some, Option.bind_none, Option.map_some, Option.map_none, ↓reduceIte, Nat.reduceEqDiff, Nat.reduceAdd, Nat.zero_add, Nat.add_zero, Nat.reduceLT, Nat.reduceLeDiff, Bool.false_eq_true]
      have e : i64 n = i64 n.toNat := by rw [Int.toNat_of_nonneg hn]
      have := hK _ hk2 hR2
      rw [← e] at this
      exact this

set_option maxRecDepth 20000 in
theorem set71 {b : AV} {bl : List Nat} (hb : Bytes b bl) {s : RS} (hs : s.at_ ≤ bl.length) : Reads 71 [] (rdr b) s (rdSet bl s).2 (setAV (rdSet bl s).1) := by
  intro hp k K hk hK
  refine fnE mixed T71 U71 (Nat.le_of_ble_eq_true rfl) ?_
  unfold c71
  have hkl : k < hp.length := (List.getElem?_eq_some_iff.1 hk).1
  have hlen2 : (hp ++ [Blk.cells (zero8.map u16) false]).length = hp.length + 1 := by simp
  have ez : ([.v (.int .u16 0), .v (.int .u16 0), .v (.int .u16 0), .v (.int .u16 0), .v (.int .u16 0), .v (.int .u16 0), .v (.int .u16 0), .v (.int .u16 0)] : List AV) = zero8.map u16 := rfl
  have ef : afill (zero8.map u16) [] = some (zero8.map u16) := rfl
  have s0 : astore ((hp ++ [Blk.cells (zero8.map u16) false]) ++ [Blk.cells (zero8.map u16) false]) 8 (.mp (hp.length + 1) 0) (.agg (zero8.map u16)) = some ((hp ++ [Blk.cells (zero8.map u16) false]) ++ [Blk.cells (zero8.map u16) false]) := by
    have := store_new (hp := hp ++ [Blk.cells (zero8.map u16) false]) (z := zero8.map u16) (n := 8) (x := .agg (zero8.map u16)) rfl rfl rfl
    rw [hlen2] at this
    exact this
  simp -failIfUnchanged -implicitDefEqProofs (disch := first | assumption | decide | omega) only [wkA, instrE, astepE, evE, evsE, evoE, evpE, elook, econs, eonly, putE, argE, pickE, resE, rsE, rE, Option.bind_some, Option.bind_none, Option.map_some, Option.map_none, ↓reduceIte, Nat.reduceEqDiff, Nat.reduceAdd, Nat.zero_add, Nat.add_zero, Nat.reduceLT, Nat.reduceLeDiff, Bool.false_eq_true, ez, hlen2, ef, s0]
  have k1 : ((hp ++ [Blk.cells (zero8.map u16) false]) ++ [Blk.cells (zero8.map u16) false])[k]? = some (.cells (rdr b s) false) := get_ext (get_ext hk)
  refine num69 hb hs (low := 0) (high := 8) _ _ _ k1 fun hp2 hk2 hR2 => ?_
  have hO := (((Old.start hp k).ext [Blk.cells (zero8.map u16) false]).ext [Blk.cells (zero8.map u16) false]).keep hR2
  have j1 : hp2[hp.length]? = some (.cells (zero8.map u16) false) := hR2.at (by omega) (by simp)
  have j2 : hp2[hp.length + 1]? = some (.cells (zero8.map u16) false) := hR2.at (by omega) (by simp)
  have hrs : rdSet bl s = rdSetLoop bl (rdNum bl 0 8 s).1.toNat (-1) zero8 (rdNum bl 0 8 s).2 := rfl
  have hat := (rdNum_at (low := 0) (high := 8) hs).2
  have hrange : 0 ≤ (rdNum bl 0 8 s).1 ∧ (rdNum bl 0 8 s).1 ≤ 8 := by
    by_cases hf : (rdNum bl 0 8 s).2.fault = 0
    · exact (rdNum_ok hf).2
    · rw [rdNum_bad hf]; omega
  generalize rdNum bl 0 8 s = p at *
  obtain ⟨N, hN⟩ : ∃ N : Nat, p.1 = N := ⟨p.1.toNat, by omega⟩
  rw [hN] at hrs hrange
  rw [hN]
  simp only [Int.toNat_natCast] at hrs
  simp -failIfUnchanged -implicitDefEqProofs (disch := first | assumption | decide | omega) only [wkA, instrE, astepE, evE, evsE, evoE, evpE, elook, econs, eonly, putE, argE, pickE, resE, rsE, rE, Option.bind_some, Option.bind_none, Option.map_some, Option.map_none, ↓reduceIte, Nat.reduceEqDiff, Nat.reduceAdd, Nat.zero_add, Nat.add_zero, Nat.reduceLT, Nat.reduceLeDiff, Bool.false_eq_true, ez, hlen2]
  refine wpE_while (fun n e hp' => ∃ i a m t, n + i = N ∧ e = [(0, .mp k 0), (2, .mp hp.length 0), (3, .mp (hp.length + 1) 0), (4, i64 N), (5, i64 a), (6, i64 i)] ∧ -1 ≤ a ∧ a ≤ 7 ∧ IsSet m ∧ t.at_ ≤ bl.length ∧ hp'[k]? = some (.cells (rdr b t) false) ∧ hp'[hp.length]? = some (.cells (zero8.map u16) false) ∧ hp'[hp.length + 1]? = some (.cells (m.map u16) false) ∧ Old hp.length hp hp' k ∧ rdSet bl s = rdSetLoop bl n a m t) (n := N)
    ⟨0, -1, zero8, p.2, rfl, rfl, by omega, by omega, zero_set, hat, hk2, j1, j2, hO, hrs⟩ ?_
  clear hrs hO j1 j2 hR2 hk2 hat k1
  rintro n e hp' ⟨i, a, m, t, hni, rfl, ha1, ha2, hm, hta, hk', j1, j2, hO, hrs⟩
  have fin : rdSet bl s = (m, t) → @wpE Try.prog (.seq (.region [⟨some 38, none, .op (.ld true 8 (.t 3))⟩, ⟨none, none, .op (.st 8 (.t 2) (.t 38))⟩] [2]) (.ret [2])) ⟨@retQ [.c 2 true 8] ⟨K⟩⟩ [(2, .mp hp.length 0), (3, .mp (hp.length + 1) 0)] hp' := fun hr => by
    have ld : aload hp' true 8 (.mp (hp.length + 1) 0) = some (setAV m) := aload_mp j2 (pick_all (by simp [hm.1]))
    have st := store_all (n := 8) (x := setAV m) j1 (by simp [zero8]) (by simp [setAV, AV.cells, hm.1]) (set_one m)
    have k3 := set_at (b' := .cells (setAV m).cells false) j1
    have ld2 : aload (hp'.set hp.length (.cells (setAV m).cells false)) true 8 (.mp hp.length 0) = some (setAV m) := aload_mp k3 (pick_all (cs := m.map u16) (by simp [hm.1]))
    simp -failIfUnchanged -implicitDefEqProofs (disch := first | assumption | decide | omega) only [wkA, instrE, astepE, evE, evsE, evoE, evpE, elook, econs, eonly, putE, argE, pickE, resE, rsE, rE, Option.bind_some, Option.bind_none, Option.map_some, Option.map_none, ↓reduceIte, Nat.reduceEqDiff, Nat.reduceAdd, Nat.zero_add, Nat.add_zero, Nat.reduceLT, Nat.reduceLeDiff, Bool.false_eq_true, ld, st, ld2]
    rw [hr] at hK
    exact hK _ (set_other (by omega) hk') (hO.set _ (Nat.le_refl _)).done
  have l2 : aload hp' false 1 (.mp k 3) = some (i64 t.fault) := aload_mp hk' rfl
  simp -failIfUnchanged -implicitDefEqProofs (disch := first | assumption | decide | omega) only [wkA, instrE, astepE, evE, evsE, evoE, evpE, elook, econs, eonly, putE, argE, pickE, resE, rsE, rE, Option.bind_some, Option.bind_none, Option.map_some, Option.map_none, ↓reduceIte, Nat.reduceEqDiff, Nat.reduceAdd, Nat.zero_add, Nat.add_zero, Nat.reduceLT, Nat.reduceLeDiff, Bool.false_eq_true, l2]
  refine BoolCase.mk (fun h => ?_) fun h => ?_
  · simp -failIfUnchanged -implicitDefEqProofs (disch := first | assumption | decide | omega) only [wkA, instrE, astepE, evE, evsE, evoE, evpE, elook, econs, eonly, putE, argE, pickE, resE, rsE, rE, Option.bind_some, Option.bind_none, Option.map_some, Option.map_none, ↓reduceIte, Nat.reduceEqDiff, Nat.reduceAdd, Nat.zero_add, Nat.add_zero, Nat.reduceLT, Nat.reduceLeDiff, Bool.false_eq_true, h, l2]
    refine BoolCase.mk (fun h2 => ?_) fun h2 => ?_
    · simp -failIfUnchanged -implicitDefEqProofs (disch := first | assumption | decide | omega) only [wkA, instrE, astepE, evE, evsE, evoE, evpE, elook, econs, eonly, putE, argE, pickE, resE, rsE, rE, Option.bind_some, Option.bind_none, Option.map_some, Option.map_none, ↓reduceIte, Nat.reduceEqDiff, Nat.reduceAdd, Nat.zero_add, Nat.add_zero, Nat.reduceLT, Nat.reduceLeDiff, Bool.false_eq_true, h2]
      have ht0 : t.fault = 0 := by simpa using h2
      obtain ⟨f, rfl⟩ : ∃ f, n = f + 1 := ⟨n - 1, by simp at h; omega⟩
      have x1 : IntKind.i64.wrap (a + 1) = a + 1 := wrap_i64 (by omega) (by omega)
      have x2 : IntKind.i64.wrap ((i : Int) + 1) = ((i + 1 : Nat) : Int) := by rw [wrap_i64 (by omega) (by omega)]; rfl
      rw [x1]
      simp only [rdSetLoop, ht0, if_true] at hrs
      refine num69 hb hta (low := a + 1) (high := 7) _ _ _ hk' fun hp2 hk2 hR2 => ?_
      have hat2 := (rdNum_at (b := bl) (low := a + 1) (high := 7) hta).2
      have ok2 := @rdNum_ok bl (a + 1) 7 t
      have bad2 := @rdNum_bad bl (a + 1) 7 t
      generalize rdNum bl (a + 1) 7 t = r at *
      simp -failIfUnchanged -implicitDefEqProofs (disch := first | assumption | decide | omega) only [wkA, instrE, astepE, evE, evsE, evoE, evpE, elook, econs, eonly, putE, argE, pickE, resE, rsE, rE, Option.bind_some, Option.bind_none, Option.map_some, Option.map_none, ↓reduceIte, Nat.reduceEqDiff, Nat.reduceAdd, Nat.zero_add, Nat.add_zero, Nat.reduceLT, Nat.reduceLeDiff, Bool.false_eq_true]
      refine num69 hb hat2 (low := 1) (high := 65535) _ _ _ hk2 fun hp3 hk3 hR3 => ?_
      have hat3 := (rdNum_at (b := bl) (low := 1) (high := 65535) hat2).2
      have ok3 := @rdNum_ok bl 1 65535 r.2
      generalize rdNum bl 1 65535 r.2 = q at *
      have hO3 := (hO.keep hR2).keep hR3
      have j13 := hR3.at (by omega) (hR2.at (by omega) j1)
      have j23 := hR3.at (by omega) (hR2.at (by omega) j2)
      have l3 : aload hp3 false 1 (.mp k 3) = some (i64 q.2.fault) := aload_mp hk3 rfl
      have hr7 : -1 ≤ r.1 ∧ r.1 ≤ 7 := by
        by_cases hf : r.2.fault = 0
        · have := ok2 hf; omega
        · rw [bad2 hf]; omega
      simp -failIfUnchanged -implicitDefEqProofs (disch := first | assumption | decide | omega) only [wkA, instrE, astepE, evE, evsE, evoE, evpE, elook, econs, eonly, putE, argE, pickE, resE, rsE, rE, Option.bind_some, Option.bind_none, Option.map_some, Option.map_none, ↓reduceIte, Nat.reduceEqDiff, Nat.reduceAdd, Nat.zero_add, Nat.add_zero, Nat.reduceLT, Nat.reduceLeDiff, Bool.false_eq_true, l3]
      refine BoolCase.mk (fun h3 => ?_) fun h3 => ?_
      · have hq0 : q.2.fault = 0 := by simpa using h3
        obtain ⟨o1, o2, o3⟩ := ok3 hq0
        obtain ⟨_, o4, o5⟩ := ok2 o1
        have x3 : IntKind.u16.wrap q.1 = q.1 := by rw [wrap_u16]; omega
        have x4 : aaa 8 1 (.mp (hp.length + 1) 0) (.v (.int .i64 r.1)) = some (.mp (hp.length + 1) r.1.toNat) := by rw [aaa_mp (by omega) (by omega)]; simp
        have st := store_cell (o := r.1.toNat) (x := u16 q.1) j23 (by simp [hm.1]; omega) rfl rfl
        have em : (m.map u16).set r.1.toNat (u16 q.1) = (m.set r.1.toNat q.1).map u16 := by rw [List.map_set]
        rw [em] at st
        simp -failIfUnchanged -implicitDefEqProofs (disch := first | assumption | decide | omega) only [wkA, instrE, astepE, evE, evsE, evoE, evpE, elook, econs, eonly, putE, argE, pickE, resE, rsE, rE, Option.bind_some, Option.bind_none, Option.map_some, Option.map_none, ↓reduceIte, Nat.reduceEqDiff, Nat.reduceAdd, Nat.zero_add, Nat.add_zero, Nat.reduceLT, Nat.reduceLeDiff, Bool.false_eq_true, x3, x4, st, x2]
        refine ⟨f, by omega, i + 1, r.1, m.set r.1.toNat q.1, q.2, by omega, rfl, hr7.1, hr7.2, ?_, hat3, set_other (by omega) hk3, set_other (by omega) j13, set_at j23, hO3.set _ (by omega), ?_⟩
        · refine ⟨by simp [hm.1], fun v hv => ?_⟩
          rcases List.mem_or_eq_of_mem_set hv with q' | q'
          · exact hm.2 v q'
          · subst q'; omega
        · rw [hrs, if_pos hq0]
      · have hq0 : q.2.fault ≠ 0 := by simpa using h3
        simp -failIfUnchanged -implicitDefEqProofs (disch := first | assumption | decide | omega) only [wkA, instrE, astepE, evE, evsE, evoE, evpE, elook, econs, eonly, putE, argE, pickE, resE, rsE, rE, Option.bind_some, Option.bind_none, Option.map_some, Option.map_none, ↓reduceIte, Nat.reduceEqDiff, Nat.reduceAdd, Nat.zero_add, Nat.add_zero, Nat.reduceLT, Nat.reduceLeDiff, Bool.false_eq_true, x2]
        exact ⟨f, by omega, i + 1, r.1, m, q.2, by omega, rfl, hr7.1, hr7.2, hm, hat3, hk3, j13, j23, hO3, by rw [hrs, if_neg hq0]⟩
    · simp -failIfUnchanged -implicitDefEqProofs (disch := first | assumption | decide | omega) only [wkA, instrE, astepE, evE, evsE, evoE, evpE, elook, econs, eonly, putE, argE, pickE, resE, rsE, rE, Option.bind_some, Option.bind_none, Option.map_some, Option.map_none, ↓reduceIte, Nat.reduceEqDiff, Nat.reduceAdd, Nat.zero_add, Nat.add_zero, Nat.reduceLT, Nat.reduceLeDiff, Bool.false_eq_true, h2]
      have ht0 : t.fault ≠ 0 := by simpa using h2
      refine fin ?_
      rw [hrs]
      cases n with
      | zero => rfl
      | succ n => simp only [rdSetLoop, if_neg ht0]
  · simp -failIfUnchanged -implicitDefEqProofs (disch := first | assumption | decide | omega) only [wkA, instrE, astepE, evE, evsE, evoE, evpE, elook, econs, eonly, putE, argE, pickE, resE, rsE, rE, Option.bind_some, Option.bind_none, Option.map_some, Option.map_none, ↓reduceIte, Nat.reduceEqDiff, Nat.reduceAdd, Nat.zero_add, Nat.add_zero, Nat.reduceLT, Nat.reduceLeDiff, Bool.false_eq_true, h]
    have hn0 : n = 0 := by simp at h; omega
    subst hn0
    exact fin hrs

end Go.Proofs.Ytllgfmijocgniaa
