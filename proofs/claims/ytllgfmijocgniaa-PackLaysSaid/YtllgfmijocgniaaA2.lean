/- The steps of the abstract heap: a new frozen row, a new mutable block, a slice that grows, a store, a freezing. No condition. -/
import Derived.Test.YtllgfmijocgniaaA1
import Derived.Laws.Append
import Derived.ArgAppend
namespace Go.Abs
open Go.RowKit

variable {base : Nat} {w0 : Root} {w : World} {C : Cells} {M : List Loc} {hp : List Blk}

/-- Some more cells that nobody will write any more. -/
def Cells.add (C : Cells) (B lo : Nat) (vs : List Value) : Cells :=
  fun b o => if b = B ∧ lo ≤ o ∧ o < lo + vs.length then vs[o - lo]? else C b o

theorem Cells.add_in (C : Cells) (B lo : Nat) (vs : List Value) (i : Nat) (h : i < vs.length) : C.add B lo vs B (lo + i) = vs[i]? := by
  unfold Cells.add
  rw [if_pos ⟨rfl, by omega, by omega⟩]
  congr 1; omega

theorem Cells.add_other (C : Cells) (B lo : Nat) (vs : List Value) {b o : Nat} (h : ¬ (b = B ∧ lo ≤ o ∧ o < lo + vs.length)) : C.add B lo vs b o = C b o := by
  unfold Cells.add
  rw [if_neg h]

theorem Sim.fresh (h : Sim base w0 C M hp w) (o : Nat) : C w.heap.size o = none := by
  cases hc : C w.heap.size o with
  | none => rfl
  | some v =>
    have := World.block_lt_of_cell? w _ (h.froz _ _ _ hc)
    simp at this

theorem Sim.fresh' (h : Sim base w0 C M hp w) {b o : Nat} (hb : w.heap.size ≤ b) : C b o = none := by
  cases hc : C b o with
  | none => rfl
  | some v =>
    have := World.block_lt_of_cell? w _ (h.froz _ _ _ hc)
    simp at this
    omega

theorem Le.addC {B lo : Nat} {vs : List Value} (hn : ∀ o, lo ≤ o → o < lo + vs.length → C B o = none) : Le C M hp (C.add B lo vs) M hp := by
  refine ⟨fun b o v h => ?_, fun k cs fz h => ⟨⟨cs, fz, h⟩, rfl⟩, fun k n s h => ⟨n, h, Nat.le_refl _, fun _ => rfl, fun h => h⟩⟩
  rw [Cells.add_other]
  · exact h
  · rintro ⟨rfl, h1, h2⟩
    rw [hn o h1 h2] at h
    cases h

theorem Le.push (b : Blk) (L : Loc) (hl : M.length = hp.length) : Le C M hp C (M ++ [L]) (hp ++ [b]) := by
  refine ⟨fun _ _ _ h => h, fun k cs fz h => ?_, fun k n s h => ?_⟩
  · have hk : k < hp.length := (List.getElem?_eq_some_iff.1 h).1
    exact ⟨⟨cs, fz, by rw [List.getElem?_append_left hk]; exact h⟩, by rw [List.getElem?_append_left (by omega)]⟩
  · have hk : k < hp.length := (List.getElem?_eq_some_iff.1 h).1
    exact ⟨n, by rw [List.getElem?_append_left hk]; exact h, Nat.le_refl _, fun _ => by rw [List.getElem?_append_left (by omega)], fun h => by rw [List.getElem?_append_left (by omega)]; exact h⟩

/-- A new block whose first cells are frozen at once. -/
theorem Sim.frozenRow (h : Sim base w0 C M hp w) (cells : Array Value) (e : TypeId) (vs : List Value) (hv : ∀ (i : Nat) v, vs[i]? = some v → cells[i]? = some v) :
    Le C M hp (C.add w.heap.size 0 vs) M hp ∧ Sim base w0 (C.add w.heap.size 0 vs) M hp (w.alloc (.cells cells e)) := by
  have hle : Le C M hp (C.add w.heap.size 0 vs) M hp := Le.addC fun o _ _ => h.fresh o
  refine ⟨hle, h.below.alloc (Nat.le_trans h.basele h.below.size) _, h.basele, fun b o v hc hb => h.old b o v (by rwa [Cells.add_other _ _ _ _ (fun q => by have := h.basew; omega)] at hc) hb, h.mlen, ?_, ?_, ?_, h.apart⟩
  · intro b o v hc
    by_cases hb : b = w.heap.size ∧ 0 ≤ o ∧ o < 0 + vs.length
    · obtain ⟨rfl, _, h2⟩ := hb
      have := Cells.add_in C w.heap.size 0 vs o (by omega)
      rw [Nat.zero_add] at this
      rw [this] at hc
      rw [World.cell?_alloc_new]
      exact hv o v hc
    · rw [Cells.add_other _ _ _ _ hb] at hc
      have hw := h.froz b o v hc
      rw [World.cell?_alloc_lt _ _ _ (World.block_lt_of_cell? _ _ hw)]
      exact hw
  · intro k cs fz L hk hM
    obtain ⟨h1, h2, h3, h4⟩ := h.cells k cs fz L hk hM
    have hne : ∀ o, ¬ (L.b = w.heap.size ∧ 0 ≤ o ∧ o < 0 + vs.length) := fun o hq => by omega
    refine ⟨h1, by simp; omega, fun i c hc => ?_, fun hf => ?_⟩
    · obtain ⟨c', a1, a2, a3⟩ := h3 i c hc
      exact ⟨c', by rw [World.cell?_alloc_lt _ _ _ (by exact h2)]; exact a1, a2.mono hle, fun q => by rw [Cells.add_other _ _ _ _ (hne i)]; exact a3 q⟩
    · obtain ⟨q1, q2⟩ := h4 hf
      exact ⟨fun i => by rw [World.frozen?_alloc_old _ _ _ (by show L.b ≠ _; omega)]; exact q1 i, fun o => by rw [Cells.add_other _ _ _ _ (hne o)]; exact q2 o⟩
  · intro k n s L hk hM
    obtain ⟨h1, h2, h3, h4, h5⟩ := h.toks k n s L hk hM
    have hne : ∀ o, ¬ (L.b = w.heap.size ∧ 0 ≤ o ∧ o < 0 + vs.length) := fun o hq => by omega
    refine ⟨h1, by simp; omega, h3, fun o ho => by rw [Cells.add_other _ _ _ _ (hne o)]; exact h4 o ho, fun o ho ho' => ?_⟩
    obtain ⟨a1, a2⟩ := h5 o ho ho'
    exact ⟨by rw [World.cell?_alloc_lt _ _ _ (by exact h2)]; exact a1, by rw [World.frozen?_alloc_old _ _ _ (by show L.b ≠ _; omega)]; exact a2⟩

/-- Two lists laid side by side by a value's cells. -/
def RepL (C : Cells) (M : List Loc) (hp : List Blk) (cs : List AV) (cs' : List Value) : Prop :=
  cs.length = cs'.length ∧ ∀ (i : Nat) a b, cs[i]? = some a → cs'[i]? = some b → Rep C M hp a b

theorem RepL.mono {C' : Cells} {M' : List Loc} {hp' : List Blk} (hle : Le C M hp C' M' hp') {cs : List AV} {cs' : List Value} (h : RepL C M hp cs cs') : RepL C' M' hp' cs cs' :=
  ⟨h.1, fun i a b h1 h2 => (h.2 i a b h1 h2).mono hle⟩

theorem RepL.get {cs : List AV} {cs' : List Value} (h : RepL C M hp cs cs') {i : Nat} {c : AV} (hc : cs[i]? = some c) : ∃ c', cs'[i]? = some c' ∧ Rep C M hp c c' := by
  have hi : i < cs'.length := by rw [← h.1]; exact (List.getElem?_eq_some_iff.1 hc).1
  exact ⟨cs'[i], List.getElem?_eq_getElem hi, h.2 i c _ hc (List.getElem?_eq_getElem hi)⟩

/-- A new mutable block. -/
theorem Sim.newBlock (h : Sim base w0 C M hp w) (cs : List AV) (cells : Array Value) (e : TypeId) (hr : RepL C M hp cs cells.toList) :
    Le C M hp C (M ++ [{ b := w.heap.size }]) (hp ++ [.cells cs false]) ∧
      Sim base w0 C (M ++ [{ b := w.heap.size }]) (hp ++ [.cells cs false]) (w.alloc (.cells cells e)) := by
  have hle : Le C M hp C (M ++ [{ b := w.heap.size }]) (hp ++ [.cells cs false]) := Le.push _ _ h.mlen
  have hbw := Nat.le_trans h.basele h.below.size
  refine ⟨hle, h.below.alloc hbw _, h.basele, h.old, by simp [h.mlen], ?_, ?_, ?_, ?_⟩
  · intro b o v hc
    have hw := h.froz b o v hc
    rw [World.cell?_alloc_lt _ _ _ (World.block_lt_of_cell? _ _ hw)]
    exact hw
  · intro k cs₁ fz L hk hM
    rcases Nat.lt_or_ge k hp.length with hl | hl
    · rw [List.getElem?_append_left hl] at hk
      rw [List.getElem?_append_left (by rw [h.mlen]; exact hl)] at hM
      obtain ⟨h1, h2, h3, h4⟩ := h.cells k cs₁ fz L hk hM
      refine ⟨h1, by simp; omega, fun i c hc => ?_, fun hf => ?_⟩
      · obtain ⟨c', a1, a2, a3⟩ := h3 i c hc
        exact ⟨c', by rw [World.cell?_alloc_lt _ _ _ (by exact h2)]; exact a1, a2.mono hle, a3⟩
      · obtain ⟨q1, q2⟩ := h4 hf
        exact ⟨fun i => by rw [World.frozen?_alloc_old _ _ _ (by show L.b ≠ _; omega)]; exact q1 i, q2⟩
    · have hk' : k = hp.length := by
        have := (List.getElem?_eq_some_iff.1 hk).1
        simp at this; omega
      subst hk'
      rw [List.getElem?_append_right (Nat.le_refl _)] at hk
      rw [List.getElem?_append_right (by rw [h.mlen]; exact Nat.le_refl _), h.mlen] at hM
      simp at hk hM
      obtain ⟨rfl, rfl⟩ := hk
      subst hM
      refine ⟨hbw, by simp, fun i c hc => ?_, fun _ => ⟨fun i => World.frozen?_alloc_new _ _ _ _, fun o => h.fresh o⟩⟩
      obtain ⟨c', a1, a2⟩ := hr.get hc
      exact ⟨c', by rw [World.cell?_alloc_new]; simpa using a1, a2.mono hle, fun q => by cases q⟩
  · intro k n s L hk hM
    rcases Nat.lt_or_ge k hp.length with hl | hl
    · rw [List.getElem?_append_left hl] at hk
      rw [List.getElem?_append_left (by rw [h.mlen]; exact hl)] at hM
      obtain ⟨h1, h2, h3, h4, h5⟩ := h.toks k n s L hk hM
      refine ⟨h1, by simp; omega, h3, h4, fun o ho ho' => ?_⟩
      obtain ⟨a1, a2⟩ := h5 o ho ho'
      exact ⟨by rw [World.cell?_alloc_lt _ _ _ (by exact h2)]; exact a1, by rw [World.frozen?_alloc_old _ _ _ (by show L.b ≠ _; omega)]; exact a2⟩
    · have hk' : k = hp.length := by
        have := (List.getElem?_eq_some_iff.1 hk).1
        simp at this; omega
      subst hk'
      rw [List.getElem?_append_right (Nat.le_refl _)] at hk
      simp at hk
  · intro k k' L L' hne hM hM'
    have key : ∀ (j : Nat) (L₁ : Loc), M[j]? = some L₁ → L₁.b < w.heap.size := by
      intro j L₁ hj
      have hjl : j < hp.length := by rw [← h.mlen]; exact (List.getElem?_eq_some_iff.1 hj).1
      cases hb : hp[j] with
      | cells cs₁ fz => exact (h.cells j cs₁ fz L₁ (by rw [List.getElem?_eq_getElem hjl, hb]) hj).2.1
      | tok n s => exact (h.toks j n s L₁ (by rw [List.getElem?_eq_getElem hjl, hb]) hj).2.1
    rcases Nat.lt_or_ge k M.length with hl | hl
    · rw [List.getElem?_append_left hl] at hM
      rcases Nat.lt_or_ge k' M.length with hl' | hl'
      · rw [List.getElem?_append_left hl'] at hM'
        exact h.apart k k' L L' hne hM hM'
      · rw [List.getElem?_append_right hl'] at hM'
        have := key k L hM
        have e : L' = { b := w.heap.size } := by
          cases hj : k' - M.length with
          | zero => rw [hj] at hM'; simpa using hM'.symm
          | succ j => rw [hj] at hM'; simp at hM'
        subst e
        show L.b ≠ w.heap.size
        omega
    · rw [List.getElem?_append_right hl] at hM
      have e : L = { b := w.heap.size } := by
        cases hj : k - M.length with
        | zero => rw [hj] at hM; simpa using hM.symm
        | succ j => rw [hj] at hM; simp at hM
      subst e
      rcases Nat.lt_or_ge k' M.length with hl' | hl'
      · rw [List.getElem?_append_left hl'] at hM'
        have := key k' L' hM'
        show w.heap.size ≠ L'.b
        omega
      · rw [List.getElem?_append_right hl'] at hM'
        exfalso
        have h1 : k - M.length = 0 := by
          cases hj : k - M.length with
          | zero => rfl
          | succ j => rw [hj] at hM; simp at hM
        have h2 : k' - M.length = 0 := by
          cases hj : k' - M.length with
          | zero => rfl
          | succ j => rw [hj] at hM'; simp at hM'
        omega

end Go.Abs
