/- How arguments read: whole numbers, texts, slices, tokens. No condition. -/
import Derived.Test.YtbcmdjlgdnippaaGreatDoorH1
import Derived.Test.YtbcmdjlgdnippaaGreatDoorL1
set_option linter.unusedVariables false
namespace Go.Abs
open Go.RowKit

/-- A slice that came in. -/
def slcAV {α : Type} (f : α → AV) : Option (List α) → AV
  | none => .nsl
  | some l => .sl (l.map f) .no

theorem slc_slcAV {α : Type} (f : α → AV) (o : Option (List α)) : Slc (slcAV f o) ((o.getD []).map f) := by
  cases o with
  | none => exact Or.inr ⟨rfl, rfl⟩
  | some l => exact Or.inl rfl

/-- A token. -/
structure Tok where
  kind : Int
  type : Int
  attr : Int
  rune : Int
  marks : List Int

def i64A (n : Int) : AV := .v (.int .i64 n)
def i32A (n : Int) : AV := .v (.int .i32 n)
def u16A (n : Int) : AV := .v (.int .u16 n)
def Tok.cells (t : Tok) : List AV := i64A t.kind :: i64A t.type :: i64A t.attr :: i32A t.rune :: t.marks.map u16A
def Tok.av (t : Tok) : AV := .agg t.cells
def In64 (n : Int) : Prop := -9223372036854775808 ≤ n ∧ n ≤ 9223372036854775807
def In32 (n : Int) : Prop := -2147483648 ≤ n ∧ n ≤ 2147483647
structure Tok.Ok (t : Tok) : Prop where
  hk : In64 t.kind
  ht : In64 t.type
  ha : In64 t.attr
  hr : In32 t.rune
  len : t.marks.length = 8
  hm : ∀ x ∈ t.marks, 0 ≤ x ∧ x < 65536

theorem cellsOk_cons {W : World} {c : CTy} {L : List CTy} {cs : List Value} (h : CellsOk W (c :: L) cs) : ∃ v r, cs = v :: r ∧ CellOk W c v ∧ CellsOk W L r := by
  cases cs with
  | nil => have := h.1; simp at this
  | cons v r => exact ⟨v, r, rfl, h.2 0 c v rfl rfl, by have := h.1; simpa using this, fun i a b ha hb => h.2 (i + 1) a b ha hb⟩
theorem cellsOk_nil {W : World} {cs : List Value} (h : CellsOk W [] cs) : cs = [] := List.eq_nil_of_length_eq_zero h.1.symm

theorem cell_int {W : World} {k : IntKind} {v : Value} (h : CellOk W (.i k) v) : ∃ n, v = .int k n ∧ (Lit.int k n).wf = true := by
  cases h with
  | i h => exact ⟨_, rfl, h⟩
theorem wf64 {n : Int} (h : (Lit.int .i64 n).wf = true) : (-9223372036854775808 ≤ n ∧ n ≤ 9223372036854775807) := by
  simp [Lit.wf, IntKind.min, IntKind.max, IntKind.signed, IntKind.bits] at h
  exact ⟨by omega, by omega⟩
theorem wf32 {n : Int} (h : (Lit.int .i32 n).wf = true) : (-2147483648 ≤ n ∧ n ≤ 2147483647) := by
  simp [Lit.wf, IntKind.min, IntKind.max, IntKind.signed, IntKind.bits] at h
  exact ⟨by omega, by omega⟩
theorem wf16 {n : Int} (h : (Lit.int .u16 n).wf = true) : 0 ≤ n ∧ n < 65536 := by
  simp [Lit.wf, IntKind.min, IntKind.max, IntKind.signed, IntKind.bits] at h
  omega

theorem repl_cons {C : Cells} {M : List Loc} {hp : List Blk} {a : AV} {v : Value} {az : List AV} {vs : List Value} (h : Rep C M hp a v) (hs : RepL C M hp az vs) : RepL C M hp (a :: az) (v :: vs) :=
  ⟨by simp [hs.1], fun i x y hx hy => by
    cases i with
    | zero => simp at hx hy; subst hx; subst hy; exact h
    | succ i => simp at hx hy; exact hs.2 i x y hx hy⟩
theorem repl_nil {C : Cells} {M : List Loc} {hp : List Blk} : RepL C M hp [] [] := ⟨rfl, fun i x y hx => by simp at hx⟩
theorem rep_int {C : Cells} {M : List Loc} {hp : List Blk} (k : IntKind) (n : Int) : Rep C M hp (.v (.int k n)) (.int k n) := .v rfl

theorem ints_open {W : World} : ∀ (n : Nat) {cs : List Value}, CellsOk W (List.replicate n (.i .u16)) cs → ∃ m : List Int, m.length = n ∧ (∀ x ∈ m, 0 ≤ x ∧ x < 65536) ∧ RepL (CW W) [] [] (m.map fun n => AV.v (.int .u16 n)) cs
  | 0, cs, h => by
    rw [cellsOk_nil h]
    exact ⟨[], rfl, fun x hx => by simp at hx, repl_nil⟩
  | n + 1, cs, h => by
    obtain ⟨v, r, rfl, h1, h2⟩ := cellsOk_cons h
    obtain ⟨k, rfl, hk⟩ := cell_int h1
    obtain ⟨m, e, hm, hr⟩ := ints_open n h2
    refine ⟨k :: m, by simp [e], fun x hx => ?_, repl_cons (rep_int _ _) hr⟩
    rcases List.mem_cons.1 hx with rfl | hx
    · exact wf16 hk
    · exact hm x hx

theorem open_sl {W : World} {e : List CTy} {α : Type} {f : α → AV} {OK : α → Prop} (hE : ∀ cs, CellsOk W e cs → ∃ a, OK a ∧ RepL (CW W) [] [] (f a).cells cs) (hn : 0 < e.length) {v : Value} (h : CellOk W (.sl e) v) :
    ∃ o : Option (List α), (∀ x ∈ o.getD [], OK x) ∧ Rep (CW W) [] [] (slcAV f o) v := by
  cases h with
  | nil => exact ⟨none, fun x hx => by simp at hx, .nsl⟩
  | sl g hl hc hsp hC hR =>
    rename_i a len cap
    have each : ∀ i : Fin len, ∃ a, OK a ∧ RepL (CW W) [] [] (f a).cells ((List.range e.length).map (g i.val)) := fun i => hE _ ⟨by simp, fun j c v hc hv => by
      have hj := (List.getElem?_eq_some_iff.1 hc).1
      simp only [List.getElem?_map, List.getElem?_range hj, Option.map_some, Option.some.injEq] at hv
      subst hv
      exact hR i.val j c i.isLt hc⟩
    have hg : ∀ (i : Nat) x, (List.ofFn fun i => (each i).choose)[i]? = some x → ∃ hi : i < len, OK x ∧ RepL (CW W) [] [] (f x).cells ((List.range e.length).map (g i)) := fun i x hx => by
      have hi : i < len := by have := (List.getElem?_eq_some_iff.1 hx).1; simpa using this
      rw [List.getElem?_ofFn] at hx
      simp only [hi, dif_pos, Option.some.injEq] at hx
      subst hx
      exact ⟨hi, (each ⟨i, hi⟩).choose_spec⟩
    generalize hl' : (List.ofFn fun i => (each i).choose) = l at hg
    have hlen : l.length = len := by rw [← hl']; simp
    refine ⟨some l, fun x hx => ?_, ?_⟩
    · obtain ⟨i, hi, rfl⟩ := List.getElem_of_mem hx
      obtain ⟨_, h1, _⟩ := hg i _ (List.getElem?_eq_getElem hi)
      exact h1
    · have hlen2 : (l.map f).length = len := by simp [hlen]
      have key : ∀ (i : Nat) (y : AV), (l.map f)[i]? = some y → ∃ hi : i < len, RepL (CW W) [] [] y.cells ((List.range e.length).map (g i)) := fun i y hy => by
        simp only [List.getElem?_map, Option.map_eq_some_iff] at hy
        obtain ⟨x, hx, rfl⟩ := hy
        obtain ⟨hi, _, h2⟩ := hg i x hx
        exact ⟨hi, h2⟩
      show Rep (CW W) [] [] (.sl (l.map f) .no) (.slice (some a) len cap)
      rw [← hlen2]
      refine .sl (sz := e.length) g (fun hne => ?_) (fun i x hx => ?_) (fun i x j c hx hj => ?_) (fun i x j c hx hj => ?_) trivial (by omega)
      · exact hsp (by rw [← hlen2]; exact List.length_pos_iff.2 hne) hn
      · obtain ⟨_, h2⟩ := key i x hx
        rw [h2.1]; simp
      · obtain ⟨hi, h2⟩ := key i x hx
        have hj' : j < e.length := by have := (List.getElem?_eq_some_iff.1 hj).1; have := h2.1; simp at this; omega
        exact hC i j _ hi (List.getElem?_eq_getElem hj')
      · obtain ⟨hi, h2⟩ := key i x hx
        have hj' : j < e.length := by have := (List.getElem?_eq_some_iff.1 hj).1; have := h2.1; simp at this; omega
        exact h2.2 j c _ hj (by simp [List.getElem?_range hj'])


def setCT : List CTy := List.replicate 8 (.i .u16)
def tokCT : List CTy := .i .i64 :: .i .i64 :: .i .i64 :: .i .i32 :: setCT

theorem tok_open {W : World} (cs : List Value) (h : CellsOk W tokCT cs) : ∃ t : Tok, t.Ok ∧ RepL (CW W) [] [] t.av.cells cs := by
  obtain ⟨_, _, rfl, h0, g1⟩ := cellsOk_cons h
  obtain ⟨_, _, rfl, h1, g2⟩ := cellsOk_cons g1
  obtain ⟨_, _, rfl, h2, g3⟩ := cellsOk_cons g2
  obtain ⟨_, _, rfl, h3, g4⟩ := cellsOk_cons g3
  obtain ⟨a, rfl, wa⟩ := cell_int h0
  obtain ⟨b, rfl, wb⟩ := cell_int h1
  obtain ⟨c, rfl, wc⟩ := cell_int h2
  obtain ⟨d, rfl, wd⟩ := cell_int h3
  obtain ⟨m, hm1, hm2, hr⟩ := ints_open 8 g4
  exact ⟨⟨a, b, c, d, m⟩, ⟨wf64 wa, wf64 wb, wf64 wc, wf32 wd, hm1, hm2⟩, repl_cons (rep_int _ _) (repl_cons (rep_int _ _) (repl_cons (rep_int _ _) (repl_cons (rep_int _ _) hr)))⟩

theorem rune_open {W : World} (cs : List Value) (h : CellsOk W [.i .i32] cs) : ∃ n : Int, In32 n ∧ RepL (CW W) [] [] (i32A n).cells cs := by
  obtain ⟨_, _, rfl, h0, g1⟩ := cellsOk_cons h
  rw [cellsOk_nil g1]
  obtain ⟨a, rfl, wa⟩ := cell_int h0
  exact ⟨a, wf32 wa, repl_cons (rep_int _ _) repl_nil⟩

theorem readsEach {P : Program} {ts : List TypeId} (h : (ts.all fun t => P.readableRec t && decide (t < P.types.size)) = true) : ∀ t ∈ ts, P.readableRec t = true ∧ t < P.types.size := fun t ht => by
  have := List.all_eq_true.1 h t ht
  simpa using this

set_option maxRecDepth 100000 in
theorem cellArg {P : Program} {W : World} {base : Nat} {t e' : TypeId} {e : List CTy} {v : Value} (ht : P.underlying t = some (.slice e')) (hv : Value.okWide P W .any base t v) (h : CellsOk W [.sl e] v.cells.toList) : CellOk W (.sl e) v := by
  obtain ⟨w, r, e1, h1, h2⟩ := cellsOk_cons h
  rw [cellsOk_nil h2] at e1
  have : v = w := by
    cases v
    case agg cs => simp [Value.okWide, ht, Cell.okWide, Cell.ok] at hv
    all_goals
      simp [Value.cells] at e1
      exact e1
  rw [this]; exact h1

end Go.Abs
