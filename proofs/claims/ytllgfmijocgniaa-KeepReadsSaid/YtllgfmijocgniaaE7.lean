/- The program's readers: any number, how many, a set, a row. -/
import Derived.Test.YtllgfmijocgniaaE6
set_option linter.unusedVariables false
set_option linter.unusedSimpArgs false
namespace Go.Proofs.Ytllgfmijocgniaa
open Go Go.Abs Go.RowKit

def rdAny (b : List Nat) (s : RS) : Int × RS := rdNum b (-9223372036854775808) 9223372036854775807 s

def manyEnd (b : List Nat) (s : RS) : Int × RS → Nat × RS
  | (n, t) => if ((b.length - t.at_ : Nat) : Int) < n then (0, t.wrong s.at_ 3) else (n.toNat, t)
def rdMany (b : List Nat) (s : RS) : Nat × RS := manyEnd b s (rdNum b 0 9223372036854775807 s)

def rdSetLoop (b : List Nat) : Nat → Int → List Int → RS → List Int × RS
  | 0, _, m, s => (m, s)
  | n + 1, a, m, s => if s.fault = 0 then
      let r := rdNum b (a + 1) 7 s
      let q := rdNum b 1 65535 r.2
      rdSetLoop b n r.1 (if q.2.fault = 0 then m.set r.1.toNat q.1 else m) q.2
    else (m, s)

def zero8 : List Int := [0, 0, 0, 0, 0, 0, 0, 0]
def rdSet (b : List Nat) (s : RS) : List Int × RS :=
  let r := rdNum b 0 8 s
  rdSetLoop b r.1.toNat (-1) zero8 r.2

def rdRowLoop {α : Type} (one : RS → α × RS) : Nat → RS → List α × RS
  | 0, s => ([], s)
  | n + 1, s => if s.fault = 0 then ((one s).1 :: (rdRowLoop one n (one s).2).1, (rdRowLoop one n (one s).2).2) else ([], s)

def rdRow {α : Type} (b : List Nat) (one : RS → α × RS) (s : RS) : List α × RS := rdRowLoop one (rdMany b s).1 (rdMany b s).2

/-! Where they come to. -/
theorem wrong_at (s : RS) (p e : Nat) : (s.wrong p e).at_ = s.at_ := by unfold RS.wrong; split <;> rfl
theorem wrong_fault (s : RS) (p : Nat) {e : Nat} (he : e ≠ 0) : (s.wrong p e).fault ≠ 0 := by
  unfold RS.wrong; split
  · exact he
  · assumption

theorem rdLoop_at {b : List Nat} : ∀ (f i u : Nat) (s : RS), s.at_ ≤ b.length → s.at_ ≤ (rdLoop b f i u s).2.at_ ∧ (rdLoop b f i u s).2.at_ ≤ b.length
  | 0, i, u, s, h => ⟨Nat.le_refl _, h⟩
  | f + 1, i, u, s, h => by
    rw [rdLoop_succ]
    split
    · simp only [wrong_at]; exact ⟨Nat.le_refl _, h⟩
    · rename_i c hc
      have hl : s.at_ < b.length := (List.getElem?_eq_some_iff.1 hc).1
      split
      · simp only [wrong_at]; exact ⟨Nat.le_refl _, h⟩
      · split
        · exact ⟨Nat.le_succ _, hl⟩
        · have := rdLoop_at f (i + 1) (u + c % 128 * 128 ^ i) s.next hl
          exact ⟨Nat.le_trans (Nat.le_succ _) this.1, this.2⟩

theorem rdNum_at {b : List Nat} {low high : Int} {s : RS} (h : s.at_ ≤ b.length) : s.at_ ≤ (rdNum b low high s).2.at_ ∧ (rdNum b low high s).2.at_ ≤ b.length := by
  unfold rdNum
  split
  · have := rdLoop_at 10 0 0 s h
    revert this
    generalize rdLoop b 10 0 0 s = q
    rcases q with ⟨_ | u, t⟩
    · exact id
    · intro this
      simp only [rdEnd]
      split
      · simp only [wrong_at]; exact this
      · exact this
  · exact ⟨Nat.le_refl _, h⟩

theorem rdLoop_none {b : List Nat} : ∀ (f i u : Nat) (s t : RS), f + i = 10 → rdLoop b f i u s = (none, t) → t.fault ≠ 0 ∨ f = 0
  | 0, i, u, s, t, hf, h => Or.inr rfl
  | f + 1, i, u, s, t, hf, h => by
    refine Or.inl ?_
    rw [rdLoop_succ] at h
    split at h
    · cases h; exact wrong_fault _ _ (by decide)
    · rename_i c hc
      split at h
      · cases h; exact wrong_fault _ _ (by decide)
      · rename_i hbad
        split at h
        · cases h
        · rename_i h128
          rcases rdLoop_none f (i + 1) _ _ _ (by omega) h with q | q
          · exact q
          · subst q
            have : i = 9 := by omega
            omega

theorem rdLoop_fault {b : List Nat} : ∀ (f i u : Nat) (s t : RS) (w : Nat), rdLoop b f i u s = (some w, t) → t.fault = s.fault
  | 0, i, u, s, t, w, h => by cases h
  | f + 1, i, u, s, t, w, h => by
    rw [rdLoop_succ] at h
    split at h
    · cases h
    · rename_i c hc
      split at h
      · cases h
      · split at h
        · cases h; rfl
        · exact rdLoop_fault f (i + 1) _ s.next _ _ h

theorem rdNum_ok {b : List Nat} {low high : Int} {s : RS} (h : (rdNum b low high s).2.fault = 0) : s.fault = 0 ∧ low ≤ (rdNum b low high s).1 ∧ (rdNum b low high s).1 ≤ high := by
  unfold rdNum at h ⊢
  split at h
  · rename_i h0
    rw [if_pos h0]
    refine ⟨h0, ?_⟩
    revert h
    cases hq : rdLoop b 10 0 0 s with
    | mk o t =>
    rcases o with _ | u
    · simp only [rdEnd]
      intro h
      rcases rdLoop_none 10 0 0 s t rfl hq with q | q
      · exact (q h).elim
      · cases q
    · simp only [rdEnd]
      split
      · intro h; exact (wrong_fault _ _ (by decide) h).elim
      · intro _; simp only; omega
  · rename_i h0; exact (h0 h).elim

theorem rdNum_bad {b : List Nat} {low high : Int} {s : RS} (h : (rdNum b low high s).2.fault ≠ 0) : (rdNum b low high s).1 = 0 := by
  unfold rdNum at h ⊢
  split
  · rename_i h0
    rw [if_pos h0] at h
    revert h
    cases hq : rdLoop b 10 0 0 s with
    | mk o t =>
    rcases o with _ | u
    · intro _; rfl
    · have := rdLoop_fault _ _ _ _ _ _ hq
      simp only [rdEnd]
      split
      · intro _; rfl
      · intro h; exact (h (by rw [this]; exact h0)).elim
  · rfl

theorem unzz_range {u : Nat} (h : u < 18446744073709551616) : -9223372036854775808 ≤ unzz u ∧ unzz u ≤ 9223372036854775807 := by
  unfold unzz; split <;> omega

theorem rdMany_at {b : List Nat} {s : RS} (h : s.at_ ≤ b.length) : s.at_ ≤ (rdMany b s).2.at_ ∧ (rdMany b s).2.at_ ≤ b.length := by
  have hq := rdNum_at (low := 0) (high := 9223372036854775807) h
  unfold rdMany
  revert hq
  generalize rdNum b 0 9223372036854775807 s = q
  obtain ⟨n, t⟩ := q
  intro hq
  simp only [manyEnd]
  split
  · simp only [wrong_at]; exact hq
  · exact hq

theorem rdSetLoop_at {b : List Nat} : ∀ (n : Nat) (a : Int) (m : List Int) (s : RS), s.at_ ≤ b.length → (rdSetLoop b n a m s).2.at_ ≤ b.length
  | 0, a, m, s, h => h
  | n + 1, a, m, s, h => by
    simp only [rdSetLoop]
    split
    · exact rdSetLoop_at n _ _ _ (rdNum_at (rdNum_at h).2).2
    · exact h
theorem rdSet_at {b : List Nat} {s : RS} (h : s.at_ ≤ b.length) : (rdSet b s).2.at_ ≤ b.length := rdSetLoop_at _ _ _ _ (rdNum_at h).2

theorem rdRowLoop_at {α : Type} {b : List Nat} {one : RS → α × RS} (ho : ∀ s, s.at_ ≤ b.length → (one s).2.at_ ≤ b.length) : ∀ (n : Nat) (s : RS), s.at_ ≤ b.length → (rdRowLoop one n s).2.at_ ≤ b.length
  | 0, s, h => h
  | n + 1, s, h => by
    simp only [rdRowLoop]
    split
    · exact rdRowLoop_at ho n _ (ho s h)
    · exact h
theorem rdRow_at {α : Type} {b : List Nat} {one : RS → α × RS} (ho : ∀ s, s.at_ ≤ b.length → (one s).2.at_ ≤ b.length) {s : RS} (h : s.at_ ≤ b.length) : (rdRow b one s).2.at_ ≤ b.length := rdRowLoop_at ho _ _ (rdMany_at h).2

/-! The program's. -/
theorem any53 {b : AV} {bl : List Nat} (hb : Bytes b bl) {s : RS} (hs : s.at_ ≤ bl.length) : Reads 53 [] (rdc b) s (rdAny bl s).2 (i64 (rdAny bl s).1) := by
  intro hp k K hk hK
  refine fnE mixed T53 U53 (Nat.le_of_ble_eq_true rfl) ?_
  unfold c53
  simp -failIfUnchanged -implicitDefEqProofs (disch := first | assumption | decide | omega) only [wkA, instrE, astepE, evE, evsE, evoE, evpE, elook, econs, eonly, putE, argE, pickE, resE, rsE, rE, Option.bind_some, Option.bind_none, Option.map_some, Option.map_none, ↓reduceIte, Nat.reduceEqDiff, Nat.reduceAdd, Nat.zero_add, Nat.add_zero, Nat.reduceLT, Nat.reduceLeDiff, Bool.false_eq_true]
  refine num54 hb hs _ _ _ hk fun hp2 hk2 hR2 => ?_
  simp -failIfUnchanged -implicitDefEqProofs (disch := first | assumption | decide | omega) only [wkA, instrE, astepE, evE, evsE, evoE, evpE, elook, econs, eonly, putE, argE, pickE, resE, rsE, rE, Option.bind_some, Option.bind_none, Option.map_some, Option.map_none, ↓reduceIte, Nat.reduceEqDiff, Nat.reduceAdd, Nat.zero_add, Nat.add_zero, Nat.reduceLT, Nat.reduceLeDiff, Bool.false_eq_true]
  exact hK _ hk2 hR2

/-- A call that takes a reader on; of what it gives this is known. -/
def ReadsR (f : FuncId) (args : List AV) (c : RS → List AV) (s s' : RS) (R : AV → Prop) : Prop := ∀ hp k (K : AV → List Blk → Prop), hp[k]? = some (.cells (c s) false) →
  (∀ r hp', R r → hp'[k]? = some (.cells (c s') false) → HKeep hp hp' k → K r hp') → CallOk Try.prog f (.mp k 0 :: args) hp K

theorem many_key {bl : List Nat} (hlen : bl.length ≤ 1000000000000) {s : RS} (hs : s.at_ ≤ bl.length) : (rdMany bl s).2 = (if ((bl.length - (rdNum bl 0 bl.length s).2.at_ : Nat) : Int) < (rdNum bl 0 bl.length s).1 then (rdNum bl 0 bl.length s).2.wrong s.at_ 3 else (rdNum bl 0 bl.length s).2) ∧ ((rdMany bl s).2.fault = 0 → (rdNum bl 0 bl.length s).1 = (rdMany bl s).1) := by
  unfold rdMany
  have key : ∀ (p q : Int × RS), rdNum bl 0 bl.length s = p → rdNum bl 0 9223372036854775807 s = q → (p = q ∧ 0 ≤ p.1 ∧ p.1 ≤ bl.length) ∨ (p.1 = 0 ∧ p.2.fault ≠ 0 ∧ p.2.at_ ≤ bl.length ∧ (q.1 : Int) > bl.length ∧ q.2.wrong s.at_ 3 = p.2) →
      (manyEnd bl s q).2 = (if ((bl.length - p.2.at_ : Nat) : Int) < p.1 then p.2.wrong s.at_ 3 else p.2) ∧ ((manyEnd bl s q).2.fault = 0 → p.1 = (manyEnd bl s q).1) := by
    rintro ⟨m, t⟩ ⟨n, t'⟩ _ _ (⟨h, h0, h1⟩ | ⟨h1, h2, h3, h4, h5⟩)
    · cases h
      simp only [manyEnd]
      simp only at h0 h1
      by_cases hc : ((bl.length - t.at_ : Nat) : Int) < m
      · rw [if_pos hc, if_pos hc]
        exact ⟨rfl, fun h => (wrong_fault _ _ (by decide) h).elim⟩
      · rw [if_neg hc, if_neg hc]
        exact ⟨rfl, fun _ => by simp only; omega⟩
    · simp only at h1 h2 h3 h4 h5
      subst h1
      simp only [manyEnd]
      rw [if_pos (by omega), if_neg (by omega)]
      exact ⟨h5, fun h => (h2 (by rw [← h5]; exact h)).elim⟩
  refine key _ _ rfl rfl ?_
  unfold rdNum
  by_cases h0 : s.fault = 0
  · rw [if_pos h0, if_pos h0]
    have hta := (rdLoop_at 10 0 0 s hs)
    cases hq : rdLoop bl 10 0 0 s with
    | mk o t =>
    rw [hq] at hta
    simp only at hta
    rcases o with _ | u
    · exact Or.inl ⟨rfl, by simp [rdEnd], by simp [rdEnd]⟩
    · have htf := rdLoop_fault _ _ _ _ _ _ hq
      simp only [rdEnd]
      by_cases h1 : unzz u < 0
      · rw [if_pos (Or.inl h1), if_pos (Or.inl h1)]
        exact Or.inl ⟨rfl, by simp, by simp⟩
      · by_cases h2 : (bl.length : Int) < unzz u
        · rw [if_pos (Or.inr h2)]
          by_cases h3 : (9223372036854775807 : Int) < unzz u
          · rw [if_pos (Or.inr h3)]
            exact Or.inl ⟨rfl, by simp, by simp⟩
          · rw [if_neg (by omega)]
            exact Or.inr ⟨rfl, wrong_fault _ _ (by decide), by simp only [wrong_at]; exact hta.2, h2, rfl⟩
        · rw [if_neg (by omega), if_neg (by omega)]
          exact Or.inl ⟨rfl, by simp only; omega, by simp only; omega⟩
  · rw [if_neg h0, if_neg h0]
    exact Or.inl ⟨rfl, by simp, by simp⟩

theorem many64 {b : AV} {bl : List Nat} (hb : Bytes b bl) {s : RS} (hs : s.at_ ≤ bl.length) : ReadsR 64 [] (rdc b) s (rdMany bl s).2 (fun r => ∃ n : Nat, r = i64 n ∧ n ≤ bl.length ∧ ((rdMany bl s).2.fault = 0 → n = (rdMany bl s).1)) := by
  intro hp k K hk hK
  refine fnE mixed T64 U64 (Nat.le_of_ble_eq_true rfl) ?_
  unfold c64
  have l0 : aload hp false 1 (.mp k 0) = some b := aload_mp hk rfl
  have l1 : aload hp false 1 (.mp k 1) = some (i64 s.at_) := aload_mp hk rfl
  simp -failIfUnchanged -implicitDefEqProofs (disch := first | assumption | decide | omega) only [wkA, instrE, astepE, evE, evsE, evoE, evpE, elook, econs, eonly, putE, argE, pickE, resE, rsE, rE, Option.bind_some, Option.bind_none, Option.map_some, Option.map_none, ↓reduceIte, Nat.reduceEqDiff, Nat.reduceAdd, Nat.zero_add, Nat.add_zero, Nat.reduceLT, Nat.reduceLeDiff, Bool.false_eq_true, l0, l1, hb.slc.lenStep, goInt, bs_length]
  refine num54 hb hs _ _ _ hk fun hp2 hk2 hR2 => ?_
  have hat := rdNum_at (b := bl) (low := 0) (high := bl.length) hs
  have hok := @rdNum_ok bl 0 bl.length s
  have hbad := @rdNum_bad bl 0 bl.length s
  have hkey := many_key (bl := bl) hb.len hs
  obtain ⟨hk1, hk3⟩ := hkey
  generalize hp0 : rdNum bl 0 bl.length s = p at *
  have l0 : aload hp2 false 1 (.mp k 0) = some b := aload_mp hk2 rfl
  have l1 : aload hp2 false 1 (.mp k 1) = some (i64 p.2.at_) := aload_mp hk2 rfl
  have hlen := hb.len
  have x1 : IntKind.i64.wrap ((bl.length : Int) - (p.2.at_ : Int)) = ((bl.length - p.2.at_ : Nat) : Int) := by
    rw [wrap_i64 (by omega) (by omega)]; omega
  have hrange : 0 ≤ p.1 ∧ p.1 ≤ bl.length := by
    by_cases hf : p.2.fault = 0
    · exact (hok hf).2
    · rw [hbad hf]; omega
  have hval : ∃ n : Nat, i64 p.1 = i64 n ∧ n ≤ bl.length ∧ ((rdMany bl s).2.fault = 0 → n = (rdMany bl s).1) := ⟨p.1.toNat, by rw [Int.toNat_of_nonneg hrange.1], by omega, fun h => by have := hk3 h; omega⟩
  simp -failIfUnchanged -implicitDefEqProofs (disch := first | assumption | decide | omega) only [wkA, instrE, astepE, evE, evsE, evoE, evpE, elook, econs, eonly, putE, argE, pickE, resE, rsE, rE, Option.bind_some, Option.bind_none, Option.map_some, Option.map_none, ↓reduceIte, Nat.reduceEqDiff, Nat.reduceAdd, Nat.zero_add, Nat.add_zero, Nat.reduceLT, Nat.reduceLeDiff, Bool.false_eq_true, l0, l1, hb.slc.lenStep, goInt, bs_length, x1]
  refine BoolCase.mk (fun h => ?_) fun h => ?_
  · have h' : ((bl.length - p.2.at_ : Nat) : Int) < p.1 := by simpa using h
    rw [if_pos h'] at hk1
    simp -failIfUnchanged -implicitDefEqProofs (disch := first | assumption | decide | omega) only [wkA, instrE, astepE, evE, evsE, evoE, evpE, elook, econs, eonly, putE, argE, pickE, resE, rsE, rE, Option.bind_some, Option.bind_none, Option.map_some, Option.map_none, ↓reduceIte, Nat.reduceEqDiff, Nat.reduceAdd, Nat.zero_add, Nat.add_zero, Nat.reduceLT, Nat.reduceLeDiff, Bool.false_eq_true]
    refine wrong52 s.at_ 3 (by decide) _ _ _ hk2 fun hp3 hk3' hR3 => ?_
    simp -failIfUnchanged -implicitDefEqProofs (disch := first | assumption | decide | omega) only [wkA, instrE, astepE, evE, evsE, evoE, evpE, elook, econs, eonly, putE, argE, pickE, resE, rsE, rE, Option.bind_some, Option.bind_none, Option.map_some, Option.map_none, ↓reduceIte, Nat.reduceEqDiff, Nat.reduceAdd, Nat.zero_add, Nat.add_zero, Nat.reduceLT, Nat.reduceLeDiff, Bool.false_eq_true]
    rw [← hk1] at hk3'
    exact hK _ _ hval hk3' (hR2.trans hR3)
  · have h' : ¬ ((bl.length - p.2.at_ : Nat) : Int) < p.1 := by simpa using h
    rw [if_neg h'] at hk1
    simp -failIfUnchanged -implicitDefEqProofs (disch := first | assumption | decide | omega) only [wkA, instrE, astepE, evE, evsE, evoE, evpE, elook, econs, eonly, putE, argE, pickE, resE, rsE, rE, Option.bind_some, Option.bind_none, Option.map_some, Option.map_none, ↓reduceIte, Nat.reduceEqDiff, Nat.reduceAdd, Nat.zero_add, Nat.add_zero, Nat.reduceLT, Nat.reduceLeDiff, Bool.false_eq_true]
    rw [← hk1] at hk2
    exact hK _ _ hval hk2 hR2

end Go.Proofs.Ytllgfmijocgniaa
