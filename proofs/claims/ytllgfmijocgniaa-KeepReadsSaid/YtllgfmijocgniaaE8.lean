/- The program's readers: a set, rows. -/
import Derived.Test.YtllgfmijocgniaaE7
set_option linter.unusedVariables false
set_option linter.unusedSimpArgs false
namespace Go.Proofs.Ytllgfmijocgniaa
open Go Go.Abs Go.RowKit

theorem aaa_mp {len n k o : Nat} {i : Int} (h0 : 0 ≤ i) (h1 : i < len) : aaa len n (.mp k o) (.v (.int .i64 i)) = some (.mp k (o + i.toNat * n)) := by
  simp [aaa, h0, h1, afa]

/-- A whole block, written. -/
theorem store_all {hp : List Blk} {k n : Nat} {old : List AV} {x : AV} (hk : hp[k]? = some (.cells old false)) (ho : old.length = n) (hx : x.cells.length = n) (h1 : x.cells.all AV.one = true) : astore hp n (.mp k 0) x = some (hp.set k (.cells x.cells false)) := by
  unfold astore
  simp only [hk]
  rw [if_pos ⟨hx, by omega, h1⟩]
  have e : putAt old 0 x.cells = x.cells := by
    unfold putAt
    rw [List.take_zero, List.nil_append, List.drop_eq_nil_of_le (by omega), List.append_nil]
  rw [e]

theorem HKeep.at {a b : List Blk} {k j : Nat} {x : Blk} (h : HKeep a b k) (hj : j ≠ k) (hx : a[j]? = some x) : b[j]? = some x := h.same j x hj hx
theorem set_other {hp : List Blk} {j k : Nat} {x b : Blk} (hj : j ≠ k) (h : hp[j]? = some x) : (hp.set k b)[j]? = some x := by rw [List.getElem?_set_ne (Ne.symm hj)]; exact h

/-- All blocks of old are as they were, but one. -/
def Old (n : Nat) (hp hp' : List Blk) (k : Nat) : Prop := n ≤ hp.length ∧ hp.length ≤ hp'.length ∧ ∀ (j : Nat) x, j < n → j ≠ k → hp[j]? = some x → hp'[j]? = some x
theorem Old.start (hp : List Blk) (k : Nat) : Old hp.length hp hp k := ⟨Nat.le_refl _, Nat.le_refl _, fun _ _ _ _ h => h⟩
theorem Old.keep {n : Nat} {a b c : List Blk} {k : Nat} (h : Old n a b k) (h' : HKeep b c k) : Old n a c k := ⟨h.1, Nat.le_trans h.2.1 h'.len, fun j x h1 h2 h3 => h'.same j x h2 (h.2.2 j x h1 h2 h3)⟩
theorem Old.ext {n : Nat} {a b : List Blk} {k : Nat} (h : Old n a b k) (l : List Blk) : Old n a (b ++ l) k := h.keep (HKeep.ext _ _ _)
theorem Old.set {n : Nat} {a b : List Blk} {k j : Nat} (h : Old n a b k) (x : Blk) (hj : n ≤ j) : Old n a (b.set j x) k := ⟨h.1, by simpa using h.2.1, fun i y h1 h2 h3 => set_other (by omega) (h.2.2 i y h1 h2 h3)⟩
theorem Old.done {a b : List Blk} {k : Nat} (h : Old a.length a b k) : HKeep a b k := ⟨h.2.1, fun j x hj hx => h.2.2 j x (List.getElem?_eq_some_iff.1 hx).1 hj hx⟩
theorem Old.app {n : Nat} {a b c : List Blk} {k : Nat} {v : AV} (h : Old n a b k) (hr : AppRel b c v) (hv : ∀ xs id, v = .sl xs (.tok id) → n ≤ id) : Old n a c k := ⟨h.1, Nat.le_trans h.2.1 hr.len, fun j x h1 h2 h3 => by
  have q := h.2.2 j x h1 h2 h3
  cases x with
  | cells cs fz => exact hr.cells _ _ _ q
  | tok m s => exact hr.toks _ _ _ q fun xs e => by have := hv xs j e; omega
  | _ => exact hr.objs _ _ rfl q⟩

def nzl {α : Type} (l : List α) : Option (List α) := if l.isEmpty then none else some l

theorem zero_set : IsSet zero8 := ⟨rfl, by decide⟩

theorem rdSetLoop_set {b : List Nat} : ∀ (n : Nat) (a : Int) (m : List Int) (s : RS), IsSet m → IsSet (rdSetLoop b n a m s).1
  | 0, a, m, s, h => h
  | n + 1, a, m, s, h => by
    simp only [rdSetLoop]
    split
    · refine rdSetLoop_set n _ _ _ ?_
      split
      · rename_i hf
        have := rdNum_ok hf
        refine ⟨by simp [h.1], fun v hv => ?_⟩
        rcases List.mem_or_eq_of_mem_set hv with q | q
        · exact h.2 v q
        · subst q; omega
      · exact h
    · exact h
theorem rdSet_set {b : List Nat} {s : RS} : IsSet (rdSet b s).1 := rdSetLoop_set _ _ _ _ zero_set

theorem pick_all {n : Nat} {cs : List AV} (h : cs.length = n) : pick1 true n cs 0 = some (.agg cs) := by
  unfold pick1
  rw [if_pos rfl, if_pos (by omega), List.drop_zero, List.take_of_length_le (by omega)]

set_option maxRecDepth 20000 in
theorem set55 {b : AV} {bl : List Nat} (hb : Bytes b bl) {s : RS} (hs : s.at_ ≤ bl.length) : Reads 55 [] (rdc b) s (rdSet bl s).2 (setAV (rdSet bl s).1) := by
  intro hp k K hk hK
  refine fnE mixed T55 U55 (Nat.le_of_ble_eq_true rfl) ?_
  unfold c55
  have hkl : k < hp.length := (List.getElem?_eq_some_iff.1 hk).1
  have hlen2 : (hp ++ [Blk.cells (zero8.map u16) false]).length = hp.length + 1 := by simp
  have ez : ([.v (.int .u16 0), .v (.int .u16 0), .v (.int .u16 0), .v (.int .u16 0), .v (.int .u16 0), .v (.int .u16 0), .v (.int .u16 0), .v (.int .u16 0)] : List AV) = zero8.map u16 := rfl
  simp -failIfUnchanged -implicitDefEqProofs (disch := first | assumption | decide | omega) only [wkA, instrE, astepE, evE, evsE, evoE, evpE, elook, econs, eonly, putE, argE, pickE, resE, rsE, rE, Option.bind_some, Option.bind_none, Option.map_some, Option.map_none, ↓reduceIte, Nat.reduceEqDiff, Nat.reduceAdd, Nat.zero_add, Nat.add_zero, Nat.reduceLT, Nat.reduceLeDiff, Bool.false_eq_true, ez, hlen2]
  have k1 : ((hp ++ [Blk.cells (zero8.map u16) false]) ++ [Blk.cells (zero8.map u16) false])[k]? = some (.cells (rdc b s) false) := get_ext (get_ext hk)
  refine num54 hb hs (low := 0) (high := 8) _ _ _ k1 fun hp2 hk2 hR2 => ?_
  have hO := (((Old.start hp k).ext [Blk.cells (zero8.map u16) false]).ext [Blk.cells (zero8.map u16) false]).keep hR2
  have j1 : hp2[hp.length]? = some (.cells (zero8.map u16) false) := hR2.at (by omega) (by simp)
  have j2 : hp2[hp.length + 1]? = some (.cells (zero8.map u16) false) := hR2.at (by omega) (by simp)
  have hrs : rdSet bl s = rdSetLoop bl (rdNum bl 0 8 s).1.toNat (-1) zero8 (rdNum bl 0 8 s).2 := rfl
  have hat := (rdNum_at (low := 0) (high := 8) hs).2
  have hrange : 0 ≤ (rdNum bl 0 8 s).1 ∧ (rdNum bl 0 8 s).1 ≤ 8 := by
    by_cases hf : (rdNum bl 0 8 s).2.fault = 0
    · exact (rdNum_ok hf).2
    · rw [rdNum_bad hf]; omega
  generalize rdNum bl 0 8 s = p at *
  simp -failIfUnchanged -implicitDefEqProofs (disch := first | assumption | decide | omega) only [wkA, instrE, astepE, evE, evsE, evoE, evpE, elook, econs, eonly, putE, argE, pickE, resE, rsE, rE, Option.bind_some, Option.bind_none, Option.map_some, Option.map_none, ↓reduceIte, Nat.reduceEqDiff, Nat.reduceAdd, Nat.zero_add, Nat.add_zero, Nat.reduceLT, Nat.reduceLeDiff, Bool.false_eq_true, ez, hlen2]
  refine wpE_while (fun n e hp' => ∃ a m t, e = [(0, .mp k 0), (2, .mp hp.length 0), (3, .mp (hp.length + 1) 0), (4, i64 a), (5, i64 n)] ∧ n ≤ 8 ∧ -1 ≤ a ∧ a ≤ 7 ∧ IsSet m ∧ t.at_ ≤ bl.length ∧ hp'[k]? = some (.cells (rdc b t) false) ∧ hp'[hp.length]? = some (.cells (zero8.map u16) false) ∧ hp'[hp.length + 1]? = some (.cells (m.map u16) false) ∧ Old hp.length hp hp' k ∧ rdSet bl s = rdSetLoop bl n a m t) (n := p.1.toNat)
    ⟨-1, zero8, p.2, by rw [Int.toNat_of_nonneg hrange.1], by omega, by omega, by omega, zero_set, hat, hk2, j1, j2, hO, hrs⟩ ?_
  clear hrs hrange hO j1 j2 hR2 hk2 hat k1
  rintro n e hp' ⟨a, m, t, rfl, hn, ha1, ha2, hm, hta, hk', j1, j2, hO, hrs⟩
  have fin : rdSet bl s = (m, t) → @wpE Try.prog (.seq (.region [⟨some 35, none, .op (.ld true 8 (.t 3))⟩, ⟨none, none, .op (.st 8 (.t 2) (.t 35))⟩] [2]) (.ret [2])) ⟨@retQ [.c 2 true 8] ⟨K⟩⟩ [(2, .mp hp.length 0), (3, .mp (hp.length + 1) 0)] hp' := fun hr => by
    have ld : aload hp' true 8 (.mp (hp.length + 1) 0) = some (setAV m) := aload_mp j2 (pick_all (by simp [hm.1]))
    have st := store_all (n := 8) (x := setAV m) j1 (by simp [zero8]) (by simp [setAV, AV.cells, hm.1]) (set_one m)
    have k3 := set_at (b' := .cells (setAV m).cells false) j1
    have ld2 : aload (hp'.set hp.length (.cells (setAV m).cells false)) true 8 (.mp hp.length 0) = some (setAV m) := aload_mp k3 (pick_all (cs := m.map u16) (by simp [hm.1]))
    simp -failIfUnchanged -implicitDefEqProofs (disch := first | assumption | decide | omega) only [wkA, instrE, astepE, evE, evsE, evoE, evpE, elook, econs, eonly, putE, argE, pickE, resE, rsE, rE, Option.bind_some, Option.bind_none, Option.map_some, Option.map_none, ↓reduceIte, Nat.reduceEqDiff, Nat.reduceAdd, Nat.zero_add, Nat.add_zero, Nat.reduceLT, Nat.reduceLeDiff, Bool.false_eq_true, ld, st, ld2]
    rw [hr] at hK
    exact hK _ (set_other (by omega) hk') (hO.set _ (Nat.le_refl _)).done
  have l2 : aload hp' false 1 (.mp k 2) = some (i64 t.fault) := aload_mp hk' rfl
  simp -failIfUnchanged -implicitDefEqProofs (disch := first | assumption | decide | omega) only [wkA, instrE, astepE, evE, evsE, evoE, evpE, elook, econs, eonly, putE, argE, pickE, resE, rsE, rE, Option.bind_some, Option.bind_none, Option.map_some, Option.map_none, ↓reduceIte, Nat.reduceEqDiff, Nat.reduceAdd, Nat.zero_add, Nat.add_zero, Nat.reduceLT, Nat.reduceLeDiff, Bool.false_eq_true, l2]
  refine BoolCase.mk (fun h => ?_) fun h => ?_
  · simp -failIfUnchanged -implicitDefEqProofs (disch := first | assumption | decide | omega) only [wkA, instrE, astepE, evE, evsE, evoE, evpE, elook, econs, eonly, putE, argE, pickE, resE, rsE, rE, Option.bind_some, Option.bind_none, Option.map_some, Option.map_none, ↓reduceIte, Nat.reduceEqDiff, Nat.reduceAdd, Nat.zero_add, Nat.add_zero, Nat.reduceLT, Nat.reduceLeDiff, Bool.false_eq_true, h, l2]
    refine BoolCase.mk (fun h2 => ?_) fun h2 => ?_
    · simp -failIfUnchanged -implicitDefEqProofs (disch := first | assumption | decide | omega) only [wkA, instrE, astepE, evE, evsE, evoE, evpE, elook, econs, eonly, putE, argE, pickE, resE, rsE, rE, Option.bind_some, Option.bind_none, Option.map_some, Option.map_none, ↓reduceIte, Nat.reduceEqDiff, Nat.reduceAdd, Nat.zero_add, Nat.add_zero, Nat.reduceLT, Nat.reduceLeDiff, Bool.false_eq_true, h2]
      have ht0 : t.fault = 0 := by simpa using h2
      obtain ⟨f, rfl⟩ : ∃ f, n = f + 1 := ⟨n - 1, by simp at h; omega⟩
      have x1 : IntKind.i64.wrap (a + 1) = a + 1 := wrap_i64 (by omega) (by omega)
      have x2 : IntKind.i64.wrap (((f + 1 : Nat) : Int) - 1) = (f : Int) := by rw [wrap_i64 (by omega) (by omega)]; omega
      rw [x1]
      simp only [rdSetLoop, ht0, if_true] at hrs
      refine num54 hb hta (low := a + 1) (high := 7) _ _ _ hk' fun hp2 hk2 hR2 => ?_
      have hat2 := (rdNum_at (b := bl) (low := a + 1) (high := 7) hta).2
      have ok2 := @rdNum_ok bl (a + 1) 7 t
      have bad2 := @rdNum_bad bl (a + 1) 7 t
      generalize rdNum bl (a + 1) 7 t = r at *
      simp -failIfUnchanged -implicitDefEqProofs (disch := first | assumption | decide | omega) only [wkA, instrE, astepE, evE, evsE, evoE, evpE, elook, econs, eonly, putE, argE, pickE, resE, rsE, rE, Option.bind_some, Option.bind_none, Option.map_some, Option.map_none, ↓reduceIte, Nat.reduceEqDiff, Nat.reduceAdd, Nat.zero_add, Nat.add_zero, Nat.reduceLT, Nat.reduceLeDiff, Bool.false_eq_true]
      refine num54 hb hat2 (low := 1) (high := 65535) _ _ _ hk2 fun hp3 hk3 hR3 => ?_
      have hat3 := (rdNum_at (b := bl) (low := 1) (high := 65535) hat2).2
      have ok3 := @rdNum_ok bl 1 65535 r.2
      generalize rdNum bl 1 65535 r.2 = q at *
      have hO3 := (hO.keep hR2).keep hR3
      have j13 := hR3.at (by omega) (hR2.at (by omega) j1)
      have j23 := hR3.at (by omega) (hR2.at (by omega) j2)
      have l3 : aload hp3 false 1 (.mp k 2) = some (i64 q.2.fault) := aload_mp hk3 rfl
      have hr7 : -1 ≤ r.1 ∧ r.1 ≤ 7 := by
        by_cases hf : r.2.fault = 0
        · have := ok2 hf; omega
        · rw [bad2 hf]; omega
      simp -failIfUnchanged -implicitDefEqProofs (disch := first | assumption | decide | omega) only [wkA, instrE, astepE, evE, evsE, evoE, evpE, elook, econs, eonly, putE, argE, pickE, resE, rsE, rE, Option.bind_some, Option.bind_none, Option.map_some, Option.map_none, ↓reduceIte, Nat.reduceEqDiff, Nat.reduceAdd, Nat.zero_add, Nat.add_zero, Nat.reduceLT, Nat.reduceLeDiff, Bool.false_eq_true, l3]
      refine BoolCase.mk (fun h3 => ?_) fun h3 => ?_
      · have hq0 : q.2.fault = 0 := by simpa using h3
        obtain ⟨o1, o2, o3⟩ := ok3 hq0
        obtain ⟨_, o4, o5⟩ := ok2 o1
        have x3 : IntKind.u16.wrap q.1 = q.1 := by rw [wrap_u16]; omega
        have x4 : aaa 8 1 (.mp (hp.length + 1) 0) (.v (.int .i64 r.1)) = some (.mp (hp.length + 1) r.1.toNat) := by rw [aaa_mp (by omega) (by omega)]; simp
        have st := store_cell (o := r.1.toNat) (x := u16 q.1) j23 (by simp [hm.1]; omega) rfl rfl
        have em : (m.map u16).set r.1.toNat (u16 q.1) = (m.set r.1.toNat q.1).map u16 := by rw [List.map_set]
        rw [em] at st
        simp -failIfUnchanged -implicitDefEqProofs (disch := first | assumption | decide | omega) only [wkA, instrE, astepE, evE, evsE, evoE, evpE, elook, econs, eonly, putE, argE, pickE, resE, rsE, rE, Option.bind_some, Option.bind_none, Option.map_some, Option.map_none, ↓reduceIte, Nat.reduceEqDiff, Nat.reduceAdd, Nat.zero_add, Nat.add_zero, Nat.reduceLT, Nat.reduceLeDiff, Bool.false_eq_true, x3, x4, st, x2]
        refine ⟨f, by omega, r.1, m.set r.1.toNat q.1, q.2, rfl, by omega, hr7.1, hr7.2, ?_, hat3, set_other (by omega) hk3, set_other (by omega) j13, set_at j23, hO3.set _ (by omega), ?_⟩
        · refine ⟨by simp [hm.1], fun v hv => ?_⟩
          rcases List.mem_or_eq_of_mem_set hv with q' | q'
          · exact hm.2 v q'
          · subst q'; omega
        · rw [hrs, if_pos hq0]
      · have hq0 : q.2.fault ≠ 0 := by simpa using h3
        simp -failIfUnchanged -implicitDefEqProofs (disch := first | assumption | decide | omega) only [wkA, instrE, astepE, evE, evsE, evoE, evpE, elook, econs, eonly, putE, argE, pickE, resE, rsE, rE, Option.bind_some, Option.bind_none, Option.map_some, Option.map_none, ↓reduceIte, Nat.reduceEqDiff, Nat.reduceAdd, Nat.zero_add, Nat.add_zero, Nat.reduceLT, Nat.reduceLeDiff, Bool.false_eq_true, x2]
        exact ⟨f, by omega, r.1, m, q.2, rfl, by omega, hr7.1, hr7.2, hm, hat3, hk3, j13, j23, hO3, by rw [hrs, if_neg hq0]⟩
    · simp -failIfUnchanged -implicitDefEqProofs (disch := first | assumption | decide | omega) only [wkA, instrE, astepE, evE, evsE, evoE, evpE, elook, econs, eonly, putE, argE, pickE, resE, rsE, rE, Option.bind_some, Option.bind_none, Option.map_some, Option.map_none, ↓reduceIte, Nat.reduceEqDiff, Nat.reduceAdd, Nat.zero_add, Nat.add_zero, Nat.reduceLT, Nat.reduceLeDiff, Bool.false_eq_true, h2]
      have ht0 : t.fault ≠ 0 := by simpa using h2
      refine fin ?_
      rw [hrs]
      cases n with
      | zero => rfl
      | succ n => simp only [rdSetLoop, if_neg ht0]
  · simp -failIfUnchanged -implicitDefEqProofs (disch := first | assumption | decide | omega) only [wkA, instrE, astepE, evE, evsE, evoE, evpE, elook, econs, eonly, putE, argE, pickE, resE, rsE, rE, Option.bind_some, Option.bind_none, Option.map_some, Option.map_none, ↓reduceIte, Nat.reduceEqDiff, Nat.reduceAdd, Nat.zero_add, Nat.add_zero, Nat.reduceLT, Nat.reduceLeDiff, Bool.false_eq_true, h]
    have hn0 : n = 0 := by simpa using h
    subst hn0
    exact fin hrs

end Go.Proofs.Ytllgfmijocgniaa
