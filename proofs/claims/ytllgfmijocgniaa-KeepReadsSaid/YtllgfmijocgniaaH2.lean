/- How tokens, steps and operations read. -/
import Derived.Test.YtllgfmijocgniaaH1
import Derived.Test.YtllgfmijocgniaaG5
set_option linter.unusedVariables false
namespace Go.Proofs.Ytllgfmijocgniaa
open Go Go.Abs Go.RowKit

theorem cellsOk_cons {W : World} {c : CT} {L : List CT} {cs : List Value} (h : CellsOk W (c :: L) cs) : ∃ v r, cs = v :: r ∧ CellOk W c v ∧ CellsOk W L r := by
  cases cs with
  | nil => have := h.1; simp at this
  | cons v r => exact ⟨v, r, rfl, h.2 0 c v rfl rfl, by have := h.1; simpa using this, fun i a b ha hb => h.2 (i + 1) a b ha hb⟩
theorem cellsOk_nil {W : World} {cs : List Value} (h : CellsOk W [] cs) : cs = [] := List.eq_nil_of_length_eq_zero h.1.symm

theorem cell_int {W : World} {k : IntKind} {v : Value} (h : CellOk W (.i k) v) : ∃ n, v = .int k n ∧ (Lit.int k n).wf = true := by
  cases h with
  | i h => exact ⟨_, rfl, h⟩
theorem wf64 {n : Int} (h : (Lit.int .i64 n).wf = true) : Is64 n := by
  simp [Lit.wf, IntKind.min, IntKind.max, IntKind.signed, IntKind.bits] at h
  exact ⟨by omega, by omega⟩
theorem wf32 {n : Int} (h : (Lit.int .i32 n).wf = true) : Is32 n := by
  simp [Lit.wf, IntKind.min, IntKind.max, IntKind.signed, IntKind.bits] at h
  exact ⟨by omega, by omega⟩
theorem wf16 {n : Int} (h : (Lit.int .u16 n).wf = true) : 0 ≤ n ∧ n < 65536 := by
  simp [Lit.wf, IntKind.min, IntKind.max, IntKind.signed, IntKind.bits] at h
  omega

theorem repl_cons {C : Cells} {M : List Abs.Loc} {hp : List Blk} {a : AV} {v : Value} {az : List AV} {vs : List Value} (h : Rep C M hp a v) (hs : RepL C M hp az vs) : RepL C M hp (a :: az) (v :: vs) :=
  ⟨by simp [hs.1], fun i x y hx hy => by
    cases i with
    | zero => simp at hx hy; subst hx; subst hy; exact h
    | succ i => simp at hx hy; exact hs.2 i x y hx hy⟩
theorem repl_nil {C : Cells} {M : List Abs.Loc} {hp : List Blk} : RepL C M hp [] [] := ⟨rfl, fun i x y hx => by simp at hx⟩
theorem rep_int {C : Cells} {M : List Abs.Loc} {hp : List Blk} (k : IntKind) (n : Int) : Rep C M hp (.v (.int k n)) (.int k n) := .v rfl

theorem ints_open {W : World} : ∀ (n : Nat) {cs : List Value}, CellsOk W (List.replicate n (.i .u16)) cs → ∃ m : List Int, m.length = n ∧ (∀ x ∈ m, 0 ≤ x ∧ x < 65536) ∧ RepL (CW W) [] [] (m.map u16) cs
  | 0, cs, h => by
    rw [cellsOk_nil h]
    exact ⟨[], rfl, fun x hx => by simp at hx, repl_nil⟩
  | n + 1, cs, h => by
    obtain ⟨v, r, rfl, h1, h2⟩ := cellsOk_cons h
    obtain ⟨k, rfl, hk⟩ := cell_int h1
    obtain ⟨m, e, hm, hr⟩ := ints_open n h2
    refine ⟨k :: m, by simp [e], fun x hx => ?_, repl_cons (rep_int _ _) hr⟩
    rcases List.mem_cons.1 hx with rfl | hx
    · exact wf16 hk
    · exact hm x hx

theorem open_sl {W : World} {e : List CT} {α : Type} {f : α → AV} {OK : α → Prop} (hE : ∀ cs, CellsOk W e cs → ∃ a, OK a ∧ RepL (CW W) [] [] (f a).cells cs) (hn : 0 < e.length) {v : Value} (h : CellOk W (.sl e) v) :
    ∃ o : Option (List α), (∀ x ∈ o.getD [], OK x) ∧ Rep (CW W) [] [] (slcAV f o) v := by
  cases h with
  | nil => exact ⟨none, fun x hx => by simp at hx, .nsl⟩
  | sl g hl hc hsp hC hR =>
    rename_i a len cap
    have each : ∀ i : Fin len, ∃ a, OK a ∧ RepL (CW W) [] [] (f a).cells ((List.range e.length).map (g i.val)) := fun i => hE _ ⟨by simp, fun j c v hc hv => by
      have hj := (List.getElem?_eq_some_iff.1 hc).1
      simp only [List.getElem?_map, List.getElem?_range hj, Option.map_some, Option.some.injEq] at hv
      subst hv
      exact hR i.val j c i.isLt hc⟩
    have hg : ∀ (i : Nat) x, (List.ofFn fun i => (each i).choose)[i]? = some x → ∃ hi : i < len, OK x ∧ RepL (CW W) [] [] (f x).cells ((List.range e.length).map (g i)) := fun i x hx => by
      have hi : i < len := by have := (List.getElem?_eq_some_iff.1 hx).1; simpa using this
      rw [List.getElem?_ofFn] at hx
      simp only [hi, dif_pos, Option.some.injEq] at hx
      subst hx
      exact ⟨hi, (each ⟨i, hi⟩).choose_spec⟩
    generalize hl' : (List.ofFn fun i => (each i).choose) = l at hg
    have hlen : l.length = len := by rw [← hl']; simp
    refine ⟨some l, fun x hx => ?_, ?_⟩
    · obtain ⟨i, hi, rfl⟩ := List.getElem_of_mem hx
      obtain ⟨_, h1, _⟩ := hg i _ (List.getElem?_eq_getElem hi)
      exact h1
    · have hlen2 : (l.map f).length = len := by simp [hlen]
      have key : ∀ (i : Nat) (y : AV), (l.map f)[i]? = some y → ∃ hi : i < len, RepL (CW W) [] [] y.cells ((List.range e.length).map (g i)) := fun i y hy => by
        simp only [List.getElem?_map, Option.map_eq_some_iff] at hy
        obtain ⟨x, hx, rfl⟩ := hy
        obtain ⟨hi, _, h2⟩ := hg i x hx
        exact ⟨hi, h2⟩
      show Rep (CW W) [] [] (.sl (l.map f) .no) (.slice (some a) len cap)
      rw [← hlen2]
      refine .sl (sz := e.length) g (fun hne => ?_) (fun i x hx => ?_) (fun i x j c hx hj => ?_) (fun i x j c hx hj => ?_) trivial (by omega)
      · exact hsp (by rw [← hlen2]; exact List.length_pos_iff.2 hne) hn
      · obtain ⟨_, h2⟩ := key i x hx
        rw [h2.1]; simp
      · obtain ⟨hi, h2⟩ := key i x hx
        have hj' : j < e.length := by have := (List.getElem?_eq_some_iff.1 hj).1; have := h2.1; simp at this; omega
        exact hC i j _ hi (List.getElem?_eq_getElem hj')
      · obtain ⟨hi, h2⟩ := key i x hx
        have hj' : j < e.length := by have := (List.getElem?_eq_some_iff.1 hj).1; have := h2.1; simp at this; omega
        exact h2.2 j c _ hj (by simp [List.getElem?_range hj'])

def setCT : List CT := List.replicate 8 (.i .u16)
def tokCT : List CT := .i .i64 :: .i .i64 :: .i .i64 :: .i .i32 :: setCT
def stpCT : List CT := [.i .i64, .i .i64, .i .i64, .i .i64, .i .i64, .i .i64, .i .i64, .i .i64, .sl tokCT, .sl setCT]
def oprCT : List CT := [.i .i64, .i .i64, .sl stpCT, .i .i64, .i .i64, .i .i64]

theorem set_open {W : World} (cs : List Value) (h : CellsOk W setCT cs) : ∃ m, IsSet m ∧ RepL (CW W) [] [] (setAV m).cells cs := by
  obtain ⟨m, h1, h2, h3⟩ := ints_open 8 h
  exact ⟨m, ⟨h1, h2⟩, h3⟩

theorem tok_open {W : World} (cs : List Value) (h : CellsOk W tokCT cs) : ∃ t : Tok, t.Ok ∧ RepL (CW W) [] [] t.av.cells cs := by
  obtain ⟨_, _, rfl, h0, g1⟩ := cellsOk_cons h
  obtain ⟨_, _, rfl, h1, g2⟩ := cellsOk_cons g1
  obtain ⟨_, _, rfl, h2, g3⟩ := cellsOk_cons g2
  obtain ⟨_, _, rfl, h3, g4⟩ := cellsOk_cons g3
  obtain ⟨a, rfl, wa⟩ := cell_int h0
  obtain ⟨b, rfl, wb⟩ := cell_int h1
  obtain ⟨c, rfl, wc⟩ := cell_int h2
  obtain ⟨d, rfl, wd⟩ := cell_int h3
  obtain ⟨m, hm, hr⟩ := set_open _ g4
  exact ⟨⟨a, b, c, d, m⟩, ⟨wf64 wa, wf64 wb, wf64 wc, wf32 wd, hm⟩, repl_cons (rep_int _ _) (repl_cons (rep_int _ _) (repl_cons (rep_int _ _) (repl_cons (rep_int _ _) hr)))⟩

theorem stp_open {W : World} (cs : List Value) (h : CellsOk W stpCT cs) : ∃ t : Stp, t.Ok ∧ RepL (CW W) [] [] t.av.cells cs := by
  obtain ⟨_, _, rfl, h1, g1⟩ := cellsOk_cons h
  obtain ⟨_, _, rfl, h2, g2⟩ := cellsOk_cons g1
  obtain ⟨_, _, rfl, h3, g3⟩ := cellsOk_cons g2
  obtain ⟨_, _, rfl, h4, g4⟩ := cellsOk_cons g3
  obtain ⟨_, _, rfl, h5, g5⟩ := cellsOk_cons g4
  obtain ⟨_, _, rfl, h6, g6⟩ := cellsOk_cons g5
  obtain ⟨_, _, rfl, h7, g7⟩ := cellsOk_cons g6
  obtain ⟨_, _, rfl, h8, g8⟩ := cellsOk_cons g7
  obtain ⟨_, _, rfl, h9, g9⟩ := cellsOk_cons g8
  obtain ⟨_, _, rfl, h10, g10⟩ := cellsOk_cons g9
  rw [cellsOk_nil g10]
  obtain ⟨a1, rfl, w1⟩ := cell_int h1
  obtain ⟨a2, rfl, w2⟩ := cell_int h2
  obtain ⟨a3, rfl, w3⟩ := cell_int h3
  obtain ⟨a4, rfl, w4⟩ := cell_int h4
  obtain ⟨a5, rfl, w5⟩ := cell_int h5
  obtain ⟨a6, rfl, w6⟩ := cell_int h6
  obtain ⟨a7, rfl, w7⟩ := cell_int h7
  obtain ⟨a8, rfl, w8⟩ := cell_int h8
  obtain ⟨o1, k1, r1⟩ := open_sl (f := Tok.av) tok_open (by decide) h9
  obtain ⟨o2, k2, r2⟩ := open_sl (f := setAV) set_open (by decide) h10
  refine ⟨⟨a1, a2, a3, a4, a5, a6, a7, a8, o1, o2⟩, ⟨?_, k1, k2⟩, repl_cons (rep_int _ _) (repl_cons (rep_int _ _) (repl_cons (rep_int _ _) (repl_cons (rep_int _ _) (repl_cons (rep_int _ _) (repl_cons (rep_int _ _) (repl_cons (rep_int _ _) (repl_cons (rep_int _ _) (repl_cons r1 (repl_cons r2 repl_nil)))))))))⟩
  intro n hn
  simp only [Stp.ns, List.mem_cons, List.not_mem_nil, or_false] at hn
  rcases hn with rfl | rfl | rfl | rfl | rfl | rfl | rfl | rfl
  all_goals first | exact wf64 w1 | exact wf64 w2 | exact wf64 w3 | exact wf64 w4 | exact wf64 w5 | exact wf64 w6 | exact wf64 w7 | exact wf64 w8

theorem opr_open {W : World} (cs : List Value) (h : CellsOk W oprCT cs) : ∃ t : Opr, t.Ok ∧ RepL (CW W) [] [] t.av.cells cs := by
  obtain ⟨_, _, rfl, h1, g1⟩ := cellsOk_cons h
  obtain ⟨_, _, rfl, h2, g2⟩ := cellsOk_cons g1
  obtain ⟨_, _, rfl, h3, g3⟩ := cellsOk_cons g2
  obtain ⟨_, _, rfl, h4, g4⟩ := cellsOk_cons g3
  obtain ⟨_, _, rfl, h5, g5⟩ := cellsOk_cons g4
  obtain ⟨_, _, rfl, h6, g6⟩ := cellsOk_cons g5
  rw [cellsOk_nil g6]
  obtain ⟨a1, rfl, w1⟩ := cell_int h1
  obtain ⟨a2, rfl, w2⟩ := cell_int h2
  obtain ⟨o1, k1, r1⟩ := open_sl (f := Stp.av) stp_open (by decide) h3
  obtain ⟨a4, rfl, w4⟩ := cell_int h4
  obtain ⟨a5, rfl, w5⟩ := cell_int h5
  obtain ⟨a6, rfl, w6⟩ := cell_int h6
  exact ⟨⟨a1, a2, o1, a4, a5, a6⟩, ⟨wf64 w1, wf64 w2, k1, wf64 w4, wf64 w5, wf64 w6⟩, repl_cons (rep_int _ _) (repl_cons (rep_int _ _) (repl_cons r1 (repl_cons (rep_int _ _) (repl_cons (rep_int _ _) (repl_cons (rep_int _ _) repl_nil)))))⟩

/-- An argument of one cell. -/
theorem arg_cell {W : World} {c : CT} {v : Value} (h : CellsOk W [c] v.cells.toList) (hc : ∀ e, c = .sl e ∨ True) : ∃ w, v.cells.toList = [w] ∧ CellOk W c w := by
  obtain ⟨w, r, e, h1, h2⟩ := cellsOk_cons h
  rw [cellsOk_nil h2] at e
  exact ⟨w, e, h1⟩

theorem cells_self {v w : Value} (h : v.cells.toList = [w]) (hne : ∀ cs, v ≠ .agg cs) : v = w := by
  cases v
  case agg cs => exact (hne cs rfl).elim
  all_goals first
    | (simp [Value.cells] at h; exact h)

end Go.Proofs.Ytllgfmijocgniaa
