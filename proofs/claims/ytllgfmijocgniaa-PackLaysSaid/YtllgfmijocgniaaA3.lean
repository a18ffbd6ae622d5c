/- The steps of the abstract heap, more: a slice that grows, a store, a freezing. No condition. -/
import Derived.Test.YtllgfmijocgniaaA2
namespace Go.Abs
open Go.RowKit

variable {base : Nat} {w0 : Root} {w : World} {C : Cells} {M : List Loc} {hp : List Blk}

theorem Sim.at (h : Sim base w0 C M hp w) {k : Nat} {L : Loc} (hM : M[k]? = some L) : L.b < w.heap.size ∧ base ≤ L.b := by
  have hjl : k < hp.length := by rw [← h.mlen]; exact (List.getElem?_eq_some_iff.1 hM).1
  cases hb : hp[k] with
  | cells cs fz => have := h.cells k cs fz L (by rw [List.getElem?_eq_getElem hjl, hb]) hM; exact ⟨this.2.1, this.1⟩
  | tok n s => have := h.toks k n s L (by rw [List.getElem?_eq_getElem hjl, hb]) hM; exact ⟨this.2.1, this.1⟩

theorem push_cases {α : Type} {l : List α} {x y : α} {k : Nat} (h : (l ++ [x])[k]? = some y) : (k < l.length ∧ l[k]? = some y) ∨ (k = l.length ∧ y = x) := by
  rcases Nat.lt_or_ge k l.length with hl | hl
  · rw [List.getElem?_append_left hl] at h; exact Or.inl ⟨hl, h⟩
  · rw [List.getElem?_append_right hl] at h
    cases hj : k - l.length with
    | zero => rw [hj] at h; simp at h; exact Or.inr ⟨by omega, h.symm⟩
    | succ j => rw [hj] at h; simp at h

theorem set_cases {α : Type} {l : List α} {x y : α} {k id : Nat} (h : (l.set id x)[k]? = some y) : (k ≠ id ∧ l[k]? = some y) ∨ (k = id ∧ id < l.length ∧ y = x) := by
  by_cases e : k = id
  · subst e
    have hl : k < l.length := by
      have := (List.getElem?_eq_some_iff.1 h).1
      simpa using this
    rw [List.getElem?_set_self hl] at h
    exact Or.inr ⟨rfl, hl, by simpa using h.symm⟩
  · rw [List.getElem?_set_ne (Ne.symm e)] at h
    exact Or.inl ⟨e, h⟩

/-- Nothing that M knows lies in a block that is yet to come. -/
theorem Sim.noFresh (h : Sim base w0 C M hp w) {k : Nat} {L : Loc} (hM : M[k]? = some L) {vs : List Value} (o : Nat) : ¬ (L.b = w.heap.size ∧ 0 ≤ o ∧ o < 0 + vs.length) := by
  have := (h.at hM).1
  omega

/-- A new row that may grow: a new token. -/
theorem Sim.newTok (h : Sim base w0 C M hp w) (cells : Array Value) (e : TypeId) (vs : List Value) (hv : ∀ (i : Nat) v, vs[i]? = some v → cells[i]? = some v)
    (n s cap : Nat) (hs : vs.length ≤ cap) (hcap : cap ≤ cells.size) :
    let C' := C.add w.heap.size 0 vs
    let M' := M ++ [{ b := w.heap.size, fin := vs.length, cap := cap }]
    let hp' := hp ++ [.tok n s]
    Le C M hp C' M' hp' ∧ Sim base w0 C' M' hp' (w.alloc (.cells cells e)) := by
  intro C' M' hp'
  obtain ⟨hle1, h1⟩ := h.frozenRow cells e vs hv
  have hle2 : Le C' M hp C' M' hp' := Le.push _ _ h.mlen
  have hbw := Nat.le_trans h.basele h.below.size
  refine ⟨hle1.trans hle2, h1.below, h.basele, h1.old, by simp [M', hp', h.mlen], h1.froz, ?_, ?_, ?_⟩
  · intro k cs fz L hk hM
    rcases push_cases hk with ⟨hl, hk⟩ | ⟨_, hk⟩
    · rcases push_cases hM with ⟨_, hM⟩ | ⟨hl', _⟩
      · obtain ⟨a1, a2, a3, a4⟩ := h1.cells k cs fz L hk hM
        refine ⟨a1, a2, fun i c hc => ?_, a4⟩
        obtain ⟨c', b1, b2, b3⟩ := a3 i c hc
        exact ⟨c', b1, b2.mono hle2, b3⟩
      · rw [h.mlen] at hl'; omega
    · cases hk
  · intro k n₁ s₁ L hk hM
    rcases push_cases hk with ⟨hl, hk⟩ | ⟨hl, hk⟩
    · rcases push_cases hM with ⟨_, hM⟩ | ⟨hl', _⟩
      · exact h1.toks k n₁ s₁ L hk hM
      · rw [h.mlen] at hl'; omega
    · cases hk
      rcases push_cases hM with ⟨hl', _⟩ | ⟨_, rfl⟩
      · rw [h.mlen] at hl'; omega
      · refine ⟨hbw, by simp, hs, fun o ho => ?_, fun o ho ho' => ?_⟩
        · show C.add w.heap.size 0 vs w.heap.size o = none
          rw [Cells.add_other _ _ _ _ (by simp at ho ⊢; omega)]
          exact h.fresh o
        · refine ⟨?_, World.frozen?_alloc_new _ _ _ _⟩
          rw [World.cell?_alloc_new]
          simp at ho'
          exact ⟨cells[o], Array.getElem?_eq_getElem (by omega)⟩
  · intro k k' L L' hne hM hM'
    rcases push_cases hM with ⟨_, hM⟩ | ⟨e1, rfl⟩ <;> rcases push_cases hM' with ⟨_, hM'⟩ | ⟨e2, rfl⟩
    · exact h.apart k k' L L' hne hM hM'
    · have := (h.at hM).1; show L.b ≠ w.heap.size; omega
    · have := (h.at hM').1; show w.heap.size ≠ L'.b; omega
    · omega

/-- What a token's turn does to the order of things. -/
theorem Le.setTok {C' : Cells} {id n n' s : Nat} {L' : Loc} (hC : ∀ b o v, C b o = some v → C' b o = some v) (hid : hp[id]? = some (.tok n s)) (hn : n < n') (hl : M.length = hp.length) :
    Le C M hp C' (M.set id L') (hp.set id (.tok n' s)) := by
  have hlt : id < hp.length := (List.getElem?_eq_some_iff.1 hid).1
  refine ⟨hC, fun k cs fz hk => ?_, fun k n₁ s₁ hk => ?_⟩
  · have hne : id ≠ k := by intro e; subst e; rw [hid] at hk; cases hk
    exact ⟨⟨cs, fz, by rw [List.getElem?_set_ne hne]; exact hk⟩, by rw [List.getElem?_set_ne hne]⟩
  · by_cases e : id = k
    · subst e
      rw [hid] at hk
      cases hk
      exact ⟨n', by rw [List.getElem?_set_self hlt], by omega, fun q => by omega, fun _ => by rw [List.getElem?_set_self (by omega)]; rfl⟩
    · exact ⟨n₁, by rw [List.getElem?_set_ne e]; exact hk, Nat.le_refl _, fun _ => by rw [List.getElem?_set_ne e], fun q => by rw [List.getElem?_set_ne e]; exact q⟩

/-- A row that grows into a new block: the token goes with it. -/
theorem Sim.moveTok (h : Sim base w0 C M hp w) (cells : Array Value) (e : TypeId) (vs : List Value) (hv : ∀ (i : Nat) v, vs[i]? = some v → cells[i]? = some v)
    {id n n' s cap : Nat} (hid : hp[id]? = some (.tok n s)) (hn : n < n') (hs : vs.length ≤ cap) (hcap : cap ≤ cells.size) :
    let C' := C.add w.heap.size 0 vs
    let M' := M.set id { b := w.heap.size, fin := vs.length, cap := cap }
    let hp' := hp.set id (.tok n' s)
    Le C M hp C' M' hp' ∧ Sim base w0 C' M' hp' (w.alloc (.cells cells e)) := by
  intro C' M' hp'
  obtain ⟨hle1, h1⟩ := h.frozenRow cells e vs hv
  have hle2 : Le C' M hp C' M' hp' := Le.setTok (fun _ _ _ h => h) hid hn h.mlen
  have hbw := Nat.le_trans h.basele h.below.size
  have hlt : id < hp.length := (List.getElem?_eq_some_iff.1 hid).1
  refine ⟨hle1.trans hle2, h1.below, h.basele, h1.old, by simp [M', hp', h.mlen], h1.froz, ?_, ?_, ?_⟩
  · intro k cs fz L hk hM
    rcases set_cases hk with ⟨hne, hk⟩ | ⟨_, _, hk⟩
    · rcases set_cases hM with ⟨_, hM⟩ | ⟨e, _⟩
      · obtain ⟨a1, a2, a3, a4⟩ := h1.cells k cs fz L hk hM
        refine ⟨a1, a2, fun i c hc => ?_, a4⟩
        obtain ⟨c', b1, b2, b3⟩ := a3 i c hc
        exact ⟨c', b1, b2.mono hle2, b3⟩
      · omega
    · cases hk
  · intro k n₁ s₁ L hk hM
    rcases set_cases hk with ⟨hne, hk⟩ | ⟨rfl, _, hk⟩
    · rcases set_cases hM with ⟨_, hM⟩ | ⟨e, _⟩
      · exact h1.toks k n₁ s₁ L hk hM
      · omega
    · cases hk
      rcases set_cases hM with ⟨hne, _⟩ | ⟨_, _, rfl⟩
      · omega
      · refine ⟨hbw, by simp, hs, fun o ho => ?_, fun o ho ho' => ?_⟩
        · show C.add w.heap.size 0 vs w.heap.size o = none
          rw [Cells.add_other _ _ _ _ (by simp at ho ⊢; omega)]
          exact h.fresh o
        · refine ⟨?_, World.frozen?_alloc_new _ _ _ _⟩
          rw [World.cell?_alloc_new]
          simp at ho'
          exact ⟨cells[o], Array.getElem?_eq_getElem (by omega)⟩
  · intro k k' L L' hne hM hM'
    rcases set_cases hM with ⟨_, hM⟩ | ⟨e1, _, rfl⟩ <;> rcases set_cases hM' with ⟨_, hM'⟩ | ⟨e2, _, rfl⟩
    · exact h.apart k k' L L' hne hM hM'
    · have := (h.at hM).1; show L.b ≠ w.heap.size; omega
    · have := (h.at hM').1; show w.heap.size ≠ L'.b; omega
    · omega

theorem heap_setCells (b : Nat) : ∀ (vs : List Value) (o : Nat) (w : World) (k : Nat), k ≠ b → (w.setCells b o vs).heap[k]? = w.heap[k]?
  | [], _, _, _, _ => rfl
  | v :: r, o, _, k, h => by rw [World.setCells, heap_setCells b r (o + 1) _ k h]; exact Below.heap_setCell _ _ _ _ h

theorem size_setCells (b : Nat) : ∀ (vs : List Value) (o : Nat) (w : World), (w.setCells b o vs).heap.size = w.heap.size
  | [], _, _ => rfl
  | v :: r, o, _ => by rw [World.setCells, size_setCells b r (o + 1)]; simp

theorem below_setCells {B : Nat} {a : World} (b : Nat) (hb : B ≤ b) : ∀ (vs : List Value) (o : Nat) (w : World), Below B a w → Below B a (w.setCells b o vs)
  | [], _, _, h => h
  | v :: r, o, _, h => below_setCells b hb r (o + 1) _ (h.setCell hb v)

/-- A row that grows where it lies. -/
theorem Sim.growTok (h : Sim base w0 C M hp w) (vs : List Value) {id n n' s : Nat} {L : Loc} (hid : hp[id]? = some (.tok n s)) (hM : M[id]? = some L) (hn : n < n') (hfit : L.fin + vs.length ≤ L.cap) :
    let C' := C.add L.b L.fin vs
    let M' := M.set id { L with fin := L.fin + vs.length }
    let hp' := hp.set id (.tok n' s)
    Le C M hp C' M' hp' ∧ Sim base w0 C' M' hp' (w.setCells L.b L.fin vs) := by
  intro C' M' hp'
  obtain ⟨t1, t2, t3, t4, t5⟩ := h.toks id n s L hid hM
  have hCC : ∀ b o v, C b o = some v → C' b o = some v := fun b o v hc => by
    show C.add L.b L.fin vs b o = some v
    rw [Cells.add_other]
    · exact hc
    · rintro ⟨rfl, q1, q2⟩
      rw [t4 o q1] at hc
      cases hc
  have hle : Le C M hp C' M' hp' := Le.setTok hCC hid hn h.mlen
  have hlt : id < hp.length := (List.getElem?_eq_some_iff.1 hid).1
  have hout : ∀ b o, ¬ (b = L.b ∧ L.fin ≤ o ∧ o < L.fin + vs.length) → (w.setCells L.b L.fin vs).cell? ⟨b, o, none⟩ = w.cell? ⟨b, o, none⟩ := fun b o hno =>
    World.cell?_setCells_out L.b vs L.fin w ⟨b, o, none⟩ (fun e _ => by simp at e ⊢; omega)
  refine ⟨hle, below_setCells L.b t1 vs L.fin w h.below, h.basele, fun b o v hc hb => h.old b o v (by have hc' : C.add L.b L.fin vs b o = some v := hc; rwa [Cells.add_other _ _ _ _ (fun q => by omega)] at hc') hb, by simp [M', hp', h.mlen], ?_, ?_, ?_, ?_⟩
  · intro b o v hc
    by_cases hb : b = L.b ∧ L.fin ≤ o ∧ o < L.fin + vs.length
    · obtain ⟨rfl, q1, q2⟩ := hb
      obtain ⟨j, rfl⟩ : ∃ j, o = L.fin + j := ⟨o - L.fin, by omega⟩
      have hj : j < vs.length := by omega
      have e := Cells.add_in C L.b L.fin vs j hj
      have hc' : C.add L.b L.fin vs L.b (L.fin + j) = some v := hc
      rw [e, List.getElem?_eq_getElem hj] at hc'
      rw [World.cell?_setCells_in L.b vs L.fin w (fun i hi => by
        obtain ⟨⟨x, hx⟩, _⟩ := t5 (L.fin + i) (by omega) (by omega)
        rw [hx]; rfl) j hj]
      exact hc'
    · have hc' : C.add L.b L.fin vs b o = some v := hc
      rw [Cells.add_other _ _ _ _ hb] at hc'
      rw [hout b o hb]
      exact h.froz b o v hc'
  · intro k cs fz L₁ hk hM₁
    rcases set_cases hk with ⟨hne, hk⟩ | ⟨_, _, hk⟩
    · rcases set_cases hM₁ with ⟨_, hM₁⟩ | ⟨e, _⟩
      · obtain ⟨a1, a2, a3, a4⟩ := h.cells k cs fz L₁ hk hM₁
        have hb : L₁.b ≠ L.b := h.apart k id L₁ L hne hM₁ hM
        refine ⟨a1, by rw [size_setCells]; exact a2, fun i c hc => ?_, fun hf => ?_⟩
        · obtain ⟨c', b1, b2, b3⟩ := a3 i c hc
          exact ⟨c', by rw [hout _ _ (fun q => hb q.1)]; exact b1, b2.mono hle, fun q => hCC _ _ _ (b3 q)⟩
        · obtain ⟨q1, q2⟩ := a4 hf
          refine ⟨fun i => by rw [World.frozen?_setCells]; exact q1 i, fun o => ?_⟩
          show C.add L.b L.fin vs L₁.b o = none
          rw [Cells.add_other _ _ _ _ (fun q => hb q.1)]
          exact q2 o
      · omega
    · cases hk
  · intro k n₁ s₁ L₁ hk hM₁
    rcases set_cases hk with ⟨hne, hk⟩ | ⟨rfl, _, hk⟩
    · rcases set_cases hM₁ with ⟨_, hM₁⟩ | ⟨e, _⟩
      · obtain ⟨a1, a2, a3, a4, a5⟩ := h.toks k n₁ s₁ L₁ hk hM₁
        have hb : L₁.b ≠ L.b := h.apart k id L₁ L hne hM₁ hM
        refine ⟨a1, by rw [size_setCells]; exact a2, a3, fun o ho => ?_, fun o ho ho' => ?_⟩
        · show C.add L.b L.fin vs L₁.b o = none
          rw [Cells.add_other _ _ _ _ (fun q => hb q.1)]
          exact a4 o ho
        · rw [hout _ _ (fun q => hb q.1), World.frozen?_setCells]
          exact a5 o ho ho'
      · omega
    · cases hk
      rcases set_cases hM₁ with ⟨hne, _⟩ | ⟨_, _, rfl⟩
      · omega
      · refine ⟨t1, by rw [size_setCells]; exact t2, hfit, fun o ho => ?_, fun o ho ho' => ?_⟩
        · show C.add L.b L.fin vs L.b o = none
          simp at ho
          rw [Cells.add_other _ _ _ _ (by omega)]
          exact t4 o (by omega)
        · simp at ho ho'
          rw [World.frozen?_setCells]
          show (∃ v, (w.setCells L.b L.fin vs).cell? ⟨L.b, o, none⟩ = some v) ∧ _
          rw [hout L.b o (by omega)]
          exact t5 o (by omega) ho'
  · intro k k' L₁ L₂ hne hM₁ hM₂
    rcases set_cases hM₁ with ⟨_, q1⟩ | ⟨e1, _, rfl⟩ <;> rcases set_cases hM₂ with ⟨_, q2⟩ | ⟨e2, _, rfl⟩
    · exact h.apart k k' L₁ L₂ hne q1 q2
    · exact h.apart k id L₁ L (by omega) q1 hM
    · exact h.apart id k' L L₂ (by omega) hM q2
    · omega

/-- The cells of a list, some of them others. -/
def putAt (cs : List AV) (off : Nat) (vs : List AV) : List AV := cs.take off ++ vs ++ cs.drop (off + vs.length)

theorem putAt_get {cs vs : List AV} {off : Nat} (h : off + vs.length ≤ cs.length) (i : Nat) :
    (putAt cs off vs)[i]? = if i < off then cs[i]? else if i < off + vs.length then vs[i - off]? else cs[i]? := by
  unfold putAt
  have h1 : (cs.take off).length = off := by simp; omega
  by_cases c1 : i < off
  · rw [if_pos c1, List.append_assoc, List.getElem?_append_left (by omega), List.getElem?_take_of_lt c1]
  · rw [if_neg c1, List.append_assoc, List.getElem?_append_right (by omega), h1]
    by_cases c2 : i < off + vs.length
    · rw [if_pos c2, List.getElem?_append_left (by omega)]
    · rw [if_neg c2, List.getElem?_append_right (by omega), List.getElem?_drop]
      congr 1; omega

theorem putAt_length {cs vs : List AV} {off : Nat} (h : off + vs.length ≤ cs.length) : (putAt cs off vs).length = cs.length := by
  unfold putAt; simp; omega

/-- What a turn of a block's cells does to the order of things. -/
theorem Le.setCells {C' : Cells} {k : Nat} {cs cs' : List AV} {fz fz' : Bool} (hC : ∀ b o v, C b o = some v → C' b o = some v) (hk : hp[k]? = some (.cells cs fz)) :
    Le C M hp C' M (hp.set k (.cells cs' fz')) := by
  have hlt : k < hp.length := (List.getElem?_eq_some_iff.1 hk).1
  refine ⟨hC, fun j cs₁ fz₁ hj => ⟨?_, rfl⟩, fun j n₁ s₁ hj => ?_⟩
  · by_cases e : k = j
    · subst e; exact ⟨cs', fz', List.getElem?_set_self hlt⟩
    · exact ⟨cs₁, fz₁, by rw [List.getElem?_set_ne e]; exact hj⟩
  · have e : k ≠ j := by intro e; subst e; rw [hk] at hj; cases hj
    exact ⟨n₁, by rw [List.getElem?_set_ne e]; exact hj, Nat.le_refl _, fun _ => rfl, fun h => h⟩

/-- A store into a mutable block. -/
theorem Sim.store (h : Sim base w0 C M hp w) {k : Nat} {cs : List AV} {L : Loc} (hk : hp[k]? = some (.cells cs false)) (hM : M[k]? = some L)
    (off : Nat) (us : List AV) (vs : List Value) (hr : RepL C M hp us vs) (hfit : off + us.length ≤ cs.length) :
    Le C M hp C M (hp.set k (.cells (putAt cs off us) false)) ∧ Sim base w0 C M (hp.set k (.cells (putAt cs off us) false)) (w.setCells L.b off vs) := by
  have hle : Le C M hp C M (hp.set k (.cells (putAt cs off us) false)) := Le.setCells (fun _ _ _ h => h) hk
  obtain ⟨t1, t2, t3, t4⟩ := h.cells k cs false L hk hM
  obtain ⟨tf, tc⟩ := t4 rfl
  have hlen : us.length = vs.length := hr.1
  have hout : ∀ b o, ¬ (b = L.b ∧ off ≤ o ∧ o < off + vs.length) → (w.setCells L.b off vs).cell? ⟨b, o, none⟩ = w.cell? ⟨b, o, none⟩ := fun b o hno =>
    World.cell?_setCells_out L.b vs off w ⟨b, o, none⟩ (fun e _ => by simp at e ⊢; omega)
  refine ⟨hle, below_setCells L.b t1 vs off w h.below, h.basele, h.old, by simp [h.mlen], ?_, ?_, ?_, h.apart⟩
  · intro b o v hc
    rw [hout b o (by rintro ⟨rfl, _⟩; rw [tc o] at hc; cases hc)]
    exact h.froz b o v hc
  · intro j cs₁ fz₁ L₁ hj hM₁
    rcases set_cases hj with ⟨hne, hj⟩ | ⟨rfl, _, hj⟩
    · obtain ⟨a1, a2, a3, a4⟩ := h.cells j cs₁ fz₁ L₁ hj hM₁
      have hb : L₁.b ≠ L.b := h.apart j k L₁ L hne hM₁ hM
      refine ⟨a1, by rw [size_setCells]; exact a2, fun i c hc => ?_, fun hf => ?_⟩
      · obtain ⟨c', b1, b2, b3⟩ := a3 i c hc
        exact ⟨c', by rw [hout _ _ (fun q => hb q.1)]; exact b1, b2.mono hle, b3⟩
      · obtain ⟨q1, q2⟩ := a4 hf
        exact ⟨fun i => by rw [World.frozen?_setCells]; exact q1 i, q2⟩
    · cases hj
      rw [hM] at hM₁
      cases hM₁
      refine ⟨t1, by rw [size_setCells]; exact t2, fun i c hc => ?_, fun _ => ⟨fun i => by rw [World.frozen?_setCells]; exact tf i, tc⟩⟩
      rw [putAt_get hfit] at hc
      by_cases c1 : i < off
      · rw [if_pos c1] at hc
        obtain ⟨c', b1, b2, b3⟩ := t3 i c hc
        exact ⟨c', by rw [hout _ _ (by omega)]; exact b1, b2.mono hle, fun q => by cases q⟩
      · rw [if_neg c1] at hc
        by_cases c2 : i < off + us.length
        · rw [if_pos c2] at hc
          obtain ⟨c', b1, b2⟩ := hr.get hc
          have hj : i - off < vs.length := by omega
          have := World.cell?_setCells_in L.b vs off w (fun q hq => by
            obtain ⟨c', b1, _, _⟩ := t3 (off + q) _ (List.getElem?_eq_getElem (by omega))
            rw [b1]; rfl) (i - off) hj
          rw [show off + (i - off) = i by omega] at this
          refine ⟨c', ?_, b2.mono hle, fun q => by cases q⟩
          rw [this, ← b1, List.getElem?_eq_getElem hj]
        · rw [if_neg c2] at hc
          obtain ⟨c', b1, b2, b3⟩ := t3 i c hc
          exact ⟨c', by rw [hout _ _ (by omega)]; exact b1, b2.mono hle, fun q => by cases q⟩
  · intro j n₁ s₁ L₁ hj hM₁
    rcases set_cases hj with ⟨hne, hj⟩ | ⟨_, _, hj⟩
    · obtain ⟨a1, a2, a3, a4, a5⟩ := h.toks j n₁ s₁ L₁ hj hM₁
      have hb : L₁.b ≠ L.b := h.apart j k L₁ L hne hM₁ hM
      refine ⟨a1, by rw [size_setCells]; exact a2, a3, a4, fun o ho ho' => ?_⟩
      rw [hout _ _ (fun q => hb q.1), World.frozen?_setCells]
      exact a5 o ho ho'
    · cases hj

/-- All that is known of the abstract heap: every block frozen (a call has ended: nobody writes to its memory any more). -/
theorem Sim.freezeAll (h : Sim base w0 C M hp w) :
    ∃ C' : Cells, (∀ b o v, C b o = some v → C' b o = some v) ∧ (∀ b o v, C' b o = some v → w.cell? ⟨b, o, none⟩ = some v) ∧
      (∀ (k : Nat) cs fz L, hp[k]? = some (.cells cs fz) → M[k]? = some L → ∀ (i : Nat) c, cs[i]? = some c → ∃ c', C' L.b i = some c' ∧ Rep C M hp c c') ∧
      (∀ (k : Nat) n s L, hp[k]? = some (.tok n s) → M[k]? = some L → ∀ o, L.fin ≤ o → C' L.b o = none) := by
  classical
  refine ⟨fun b o => match C b o with
    | some v => some v
    | none => if ∃ (k : Nat) (cs : List AV) (fz : Bool) (L : Loc), hp[k]? = some (.cells cs fz) ∧ M[k]? = some L ∧ L.b = b ∧ o < cs.length then w.cell? ⟨b, o, none⟩ else none, ?_, ?_, ?_, ?_⟩
  · intro b o v hc
    simp [hc]
  · intro b o v hc
    cases hcc : C b o with
    | some u => simp [hcc] at hc; subst hc; exact h.froz b o u hcc
    | none =>
      simp only [hcc] at hc
      split at hc
      · exact hc
      · cases hc
  · intro k cs fz L hk hM i c hc
    obtain ⟨t1, t2, t3, t4⟩ := h.cells k cs fz L hk hM
    obtain ⟨c', b1, b2, b3⟩ := t3 i c hc
    refine ⟨c', ?_, b2⟩
    cases hcc : C L.b i with
    | some u =>
      have := h.froz _ _ _ hcc
      rw [b1] at this
      simp only [hcc]
      exact this.symm
    | none =>
      simp only [hcc]
      rw [if_pos ⟨k, cs, fz, L, hk, hM, rfl, (List.getElem?_eq_some_iff.1 hc).1⟩]
      exact b1
  · intro k n s L hk hM o ho
    obtain ⟨t1, t2, t3, t4, t5⟩ := h.toks k n s L hk hM
    simp only [t4 o ho]
    rw [if_neg]
    rintro ⟨k', cs, fz, L', hk', hM', e, _⟩
    have hne : k' ≠ k := by intro e; subst e; rw [hk] at hk'; cases hk'
    exact h.apart k' k L' L hne hM' hM e

end Go.Abs
