/- The operations on abstract values, and that the model's own agree with them: values, numbers, reading. No condition. -/
import Derived.Test.YtllgfmijocgniaaA3
import Derived.Laws.StructEq
import Derived.Laws.Slices
namespace Go.Abs
open Go.RowKit

/-- An operand. -/
inductive Opd where
  | t (n : Nat)
  | c (a : AV)

def undefA : AV := .tup []

def ev (ts : List AV) : Opd → AV
  | .t n => (ts[n]?).getD undefA
  | .c a => a

def toAV : Value → Option AV
  | .slice none 0 0 => some .nsl
  | .func f fs cs => if fs.size = 0 ∧ cs.size = 0 then some (.fn f [] []) else none
  | x => if plain x then some (.v x) else none

def slimOpd : Operand → Option Opd
  | .tmp t => some (.t t)
  | .const v => (toAV v).map .c
  | .func f => some (.c (.fn (.func f) [] []))
  | .global _ => none

def toAVs : List Value → Option (List AV)
  | [] => some []
  | x :: r => match toAV x, toAVs r with
    | some a, some l => some (a :: l)
    | _, _ => none

def slimOpds : List Operand → Option (List Opd)
  | [] => some []
  | x :: r => match slimOpd x, slimOpds r with
    | some a, some l => some (a :: l)
    | _, _ => none

/-- A frame's slots. -/
def FrameRep (C : Cells) (M : List Loc) (hp : List Blk) (ts : List AV) (tmps : Array Value) : Prop := RepL C M hp ts tmps.toList

section
variable {base : Nat} {w0 : Root} {w : World} {C : Cells} {M : List Loc} {hp : List Blk} {P : Program}

theorem rep_undef : Rep C M hp undefA undef := .tup rfl (fun i a b h => by simp at h)

theorem rep_toAV {x : Value} {a : AV} (h : toAV x = some a) : Rep C M hp a x := by
  unfold toAV at h
  split at h
  · cases h; exact .nsl
  · split at h
    · rename_i hq
      cases h
      exact .fn (by simp [hq.1]) (by simp [hq.2]) (fun i a b h => by simp at h) (fun i a b h => by simp at h)
    · cases h
  · split at h
    · rename_i hp'
      cases h
      exact .v hp'
    · cases h

theorem rep_toAVs : ∀ {xs : List Value} {l : List AV}, toAVs xs = some l → RepL C M hp l xs
  | [], l, h => by cases h; exact ⟨rfl, fun i a b h => by simp at h⟩
  | x :: r, l, h => by
    simp only [toAVs] at h
    split at h
    · rename_i a l' h1 h2
      cases h
      have ih := rep_toAVs h2
      refine ⟨by simp [ih.1], fun i a' b' e1 e2 => ?_⟩
      cases i with
      | zero => simp at e1 e2; subst e1; subst e2; exact rep_toAV h1
      | succ i => simp at e1 e2; exact ih.2 i a' b' e1 e2
    · cases h

theorem frame_get {ts : List AV} {tmps : Array Value} (h : FrameRep C M hp ts tmps) (n : Nat) : Rep C M hp ((ts[n]?).getD undefA) (tmps.getD n undef) := by
  rcases Nat.lt_or_ge n ts.length with hl | hl
  · have hl' : n < tmps.size := by have := h.1; simp at this; omega
    have := h.2 n ts[n] tmps[n] (List.getElem?_eq_getElem hl) (by simp [hl'])
    simpa [List.getElem?_eq_getElem hl, Array.getD, hl'] using this
  · have hl' : tmps.size ≤ n := by have := h.1; simp at this; omega
    have e : tmps.getD n undef = undef := by simp [Array.getD, Nat.not_lt.2 hl']
    rw [List.getElem?_eq_none hl, e]
    exact rep_undef

theorem rep_ev {ts : List AV} {a : Act} (h : FrameRep C M hp ts a.tmps) {x : Operand} {o : Opd} (hx : slimOpd x = some o) : Rep C M hp (ev ts o) (a.eval x) := by
  cases x with
  | tmp t => cases hx; exact frame_get h t
  | const v =>
    simp only [slimOpd, Option.map_eq_some_iff] at hx
    obtain ⟨av, h1, rfl⟩ := hx
    exact rep_toAV h1
  | global g => cases hx
  | func f => cases hx; exact .fn rfl rfl (fun i a b h => by simp at h) (fun i a b h => by simp at h)

theorem frame_put {ts : List AV} {a : Act} (h : FrameRep C M hp ts a.tmps) {x : AV} {y : Value} (hr : Rep C M hp x y) (d : Nat) :
    FrameRep C M hp (ts.set d x) (a.put (some d) y).tmps := by
  have hlen : ts.length = a.tmps.size := by simpa using h.1
  refine ⟨by simp [Act.put, hlen], fun i u v hu hv => ?_⟩
  simp only [Act.put, Array.toList_setIfInBounds] at hv
  rcases set_cases hu with ⟨hne, hu⟩ | ⟨rfl, hl, rfl⟩
  · rw [List.getElem?_set_ne (Ne.symm hne)] at hv
    exact h.2 i u v hu hv
  · rw [List.getElem?_set_self (by simpa [hlen] using hl)] at hv
    simp at hv
    subst hv
    exact hr

/-- What a run gives: the abstract value, in the abstract heap, whatever has become frozen. -/
def Gives (base : Nat) (w0 : Root) (C : Cells) (M : List Loc) (hp : List Blk) (P : Program) (m : Sem Value) (w : World) (r : AV) (hp' : List Blk) : Prop :=
  ∃ C' M' v' w', m.run P w = .ok v' w' ∧ Le C M hp C' M' hp' ∧ Sim base w0 C' M' hp' w' ∧ Rep C' M' hp' r v'

theorem Gives.same {m : Sem Value} {r : AV} {v : Value} (h : Sim base w0 C M hp w) (hr : m.run P w = .ok v w) (hv : Rep C M hp r v) : Gives base w0 C M hp P m w r hp :=
  ⟨C, M, v, w, hr, Le.refl _ _ _, h, hv⟩

/-! Types. -/

def tyAgg (P : Program) (t : TypeId) : Option Bool :=
  match P.underlying t with
  | some (.struct _) | some (.array _ _) => some true
  | some _ => some false
  | none => none

def tySize (P : Program) (t : TypeId) : Option Nat := (P.info? t).map (·.size)

theorem run_isAgg' {t : TypeId} {b : Bool} (h : tyAgg P t = some b) (w : World) : (isAgg t).run P w = .ok b w := by
  unfold tyAgg at h
  cases hd : P.underlying t with
  | none => simp [hd] at h
  | some d =>
    rw [hd] at h
    unfold isAgg
    simp only [Sem.run_bind, run_underlying hd, Result.andThen_ok]
    cases d <;> simp at h <;> subst h <;> rfl

theorem run_sizeOf' {t : TypeId} {n : Nat} (h : tySize P t = some n) (w : World) : (sizeOf t).run P w = .ok n w := by
  unfold tySize at h
  simp only [Option.map_eq_some_iff] at h
  obtain ⟨i, hi, rfl⟩ := h
  simp [sizeOf, typeInfo, hi]

/-! Reading. -/

/-- A part of cells as a value. -/
def pick1 (ag : Bool) (n : Nat) (cs : List AV) (off : Nat) : Option AV :=
  if ag then (if off + n ≤ cs.length then some (.agg ((cs.drop off).take n)) else none) else cs[off]?

theorem addr_add (b o n : Nat) : (⟨b, o, none⟩ : Addr).add n = ⟨b, o + n, none⟩ := by unfold Addr.add; split <;> simp_all

theorem run_loadVar' {t : TypeId} {ag : Bool} {n : Nat} (hag : tyAgg P t = some ag) (hn : tySize P t = some n) {cs : List AV} {b o off : Nat}
    (hsrc : ∀ (i : Nat) c, cs[i]? = some c → ∃ c', w.cell? ⟨b, o + i, none⟩ = some c' ∧ Rep C M hp c c') {r : AV} (hr : pick1 ag n cs off = some r) :
    ∃ v, (loadVar t ⟨b, o + off, none⟩).run P w = .ok v w ∧ Rep C M hp r v := by
  unfold loadVar
  simp only [Sem.run_bind, run_isAgg' hag, Result.andThen_ok]
  unfold pick1 at hr
  cases ag with
  | true =>
    simp only [if_true] at hr ⊢
    split at hr
    · rename_i hfit
      cases hr
      have hch : ∀ j, j < n → ∃ c', w.cell? ⟨b, o + off + j, none⟩ = some c' ∧ ∃ c, cs[off + j]? = some c ∧ Rep C M hp c c' := fun j hj => by
        obtain ⟨c', h1, h2⟩ := hsrc (off + j) cs[off + j] (List.getElem?_eq_getElem (by omega))
        exact ⟨c', by rw [Nat.add_assoc]; exact h1, _, List.getElem?_eq_getElem (by omega), h2⟩
      have hl := run_loadCells (P := P) w ⟨b, o + off, none⟩ n (fun j => (w.cell? ⟨b, o + off + j, none⟩).getD undef) (fun j hj => by
        obtain ⟨c', h1, _⟩ := hch j hj
        rw [addr_add]; simp [h1])
      refine ⟨.agg ((List.range n).map (fun j => (w.cell? ⟨b, o + off + j, none⟩).getD undef)).toArray, ?_, ?_⟩
      · simp only [Sem.run_bind, run_sizeOf' hn, Result.andThen_ok, hl, Sem.run_pure]
      · refine .agg (by simp; omega) (fun i a c ha hc => ?_)
        have hi : i < n := by
          have := (List.getElem?_eq_some_iff.1 ha).1
          simp at this; omega
        obtain ⟨c', h1, c0, h2, h3⟩ := hch i hi
        simp only [List.getElem?_take, List.getElem?_drop] at ha
        rw [if_pos hi, h2] at ha
        cases ha
        simp [hi, h1] at hc
        subst hc
        exact h3
    · cases hr
  | false =>
    simp only [Bool.false_eq_true, if_false] at hr ⊢
    obtain ⟨c', h1, h2⟩ := hsrc off r hr
    exact ⟨c', by simp [h1], h2⟩

/-- What a pointer reads. -/
def aload (hp : List Blk) (ag : Bool) (n : Nat) : AV → Option AV
  | .fp cs off => pick1 ag n cs off
  | .mp k off => match hp[k]? with
    | some (.cells cs _) => pick1 ag n cs off
    | _ => none
  | _ => none

theorem gives_load {t : TypeId} {ag : Bool} {n : Nat} (hag : tyAgg P t = some ag) (hn : tySize P t = some n) (h : Sim base w0 C M hp w) {x : AV} {y : Value} (hx : Rep C M hp x y)
    {r : AV} (hr : aload hp ag n x = some r) : Gives base w0 C M hp P (Instr.loadAt t y) w r hp := by
  unfold aload at hr
  split at hr
  · rename_i cs off
    cases hx with
    | fp f hC hR =>
      rename_i b o
      obtain ⟨v, h1, h2⟩ := run_loadVar' (w := w) (o := o) hag hn (fun i c hc => ⟨f i, h.froz _ _ _ (hC i c hc), hR i c hc⟩) hr
      exact .same h (by simp [Instr.loadAt, Instr.sureAddr, h1]) h2
  · rename_i k off
    cases hx with
    | mp hb hM =>
      rename_i L cs fz
      rw [hb] at hr
      simp only at hr
      obtain ⟨t1, t2, t3, t4⟩ := h.cells k cs fz L hb hM
      obtain ⟨v, h1, h2⟩ := run_loadVar' (w := w) (o := 0) (b := L.b) hag hn (fun i c hc => by
        obtain ⟨c', a1, a2, _⟩ := t3 i c hc
        exact ⟨c', by rw [Nat.zero_add]; exact a1, a2⟩) hr
      rw [Nat.zero_add] at h1
      exact .same h (by simp [Instr.loadAt, Instr.sureAddr, h1]) h2
  · cases hr

/-- The cells of a value that is known. -/
theorem rep_cells {x : AV} {y : Value} (h : Rep C M hp x y) : RepL C M hp x.cells y.cells.toList := by
  have single : ∀ {x : AV} {y : Value}, Rep C M hp x y → RepL C M hp [x] [y] := fun h => ⟨rfl, fun i a b e1 e2 => by
    cases i with
    | zero => simp at e1 e2; subst e1; subst e2; exact h
    | succ i => simp at e1⟩
  cases h with
  | agg hl h => exact ⟨by simp [AV.cells, Value.cells, hl], fun i a b e1 e2 => h i a b (by simpa [AV.cells] using e1) (by simpa [Value.cells] using e2)⟩
  | v h =>
    have hc : y.cells = #[y] := by cases y <;> first | rfl | simp [plain] at h
    rw [hc]
    exact single (.v h)
  | tup hl h => exact single (.tup hl h)
  | nsl => exact single .nsl
  | sl f a b c d e g => exact single (.sl f a b c d e g)
  | fp f a b => exact single (.fp f a b)
  | mp a b => exact single (.mp a b)
  | ms a b => exact single (.ms a b)
  | fn a b c d => exact single (.fn a b c d)
  | ifc a => exact single (.ifc a)

theorem RepL.cells_one {cs : List AV} {cs' : List Value} (h : RepL C M hp cs cs') (h1 : cs.all AV.one = true) : ∀ v ∈ cs', v.oneCell' = true := by
  intro v hv
  obtain ⟨i, hi, rfl⟩ := List.getElem_of_mem hv
  have hl : i < cs.length := by rw [h.1]; exact hi
  exact (h.2 i cs[i] cs'[i] (List.getElem?_eq_getElem hl) (List.getElem?_eq_getElem hi)).one (List.all_eq_true.1 h1 _ (List.getElem_mem hl))

/-- A store through a pointer into a mutable block. -/
def astore (hp : List Blk) (n : Nat) (p x : AV) : Option (List Blk) :=
  match p with
  | .mp k off => match hp[k]? with
    | some (.cells cs false) => if x.cells.length = n ∧ off + n ≤ cs.length ∧ x.cells.all AV.one = true then some (hp.set k (.cells (putAt cs off x.cells) false)) else none
    | _ => none
  | _ => none

theorem run_store' {t : TypeId} {n : Nat} (hn : tySize P t = some n) (h : Sim base w0 C M hp w) {p x : AV} {p' x' : Value} (hpp : Rep C M hp p p') (hx : Rep C M hp x x')
    {hp' : List Blk} (hs : astore hp n p x = some hp') : ∃ w', (Instr.storeAt t p' x').run P w = .ok () w' ∧ Le C M hp C M hp' ∧ Sim base w0 C M hp' w' := by
  unfold astore at hs
  split at hs
  · rename_i k off
    cases hpp with
    | mp hb hM =>
      rename_i L cs fz
      rw [hb] at hs
      cases fz with
      | true => simp at hs
      | false =>
        simp only at hs
        split at hs
        · rename_i hc
          obtain ⟨c1, c2, c3⟩ := hc
          cases hs
          have hr := rep_cells hx
          obtain ⟨hle, hsim⟩ := h.store hb hM off x.cells x'.cells.toList hr (by omega)
          obtain ⟨t1, t2, t3, t4⟩ := h.cells k cs false L hb hM
          have hlen : x'.cells.toList.length = n := by rw [← hr.1]; exact c1
          refine ⟨_, ?_, hle, hsim⟩
          have hst := run_storeCells_cells (P := P) L.b off x'.cells.toList 0 w (fun j hj => by
              obtain ⟨c', a1, _⟩ := t3 (off + j) cs[off + j] (List.getElem?_eq_getElem (by omega))
              rw [Nat.add_zero, a1]; rfl) (fun j hj => by rw [Nat.add_zero]; exact (t4 rfl).1 _) (hr.cells_one c3)
          rw [Nat.add_zero] at hst
          have hsz : x'.cells.size = n := by simpa using hlen
          simp only [Instr.storeAt, Instr.sureAddr, Sem.run_bind, Sem.run_pure, Result.andThen_ok, storeVar, run_sizeOf' hn]
          rw [if_neg (by omega)]
          exact hst
        · cases hs
  · cases hs

end
end Go.Abs
