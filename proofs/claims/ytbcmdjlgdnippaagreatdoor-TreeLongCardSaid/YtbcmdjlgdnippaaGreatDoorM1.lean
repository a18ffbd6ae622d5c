/- Trees, as the program lays them. No condition. -/
import Derived.Test.YtbcmdjlgdnippaaGreatDoorH2
set_option linter.unusedVariables false
namespace Go.Abs

inductive T where
  | node (h : Tok) (ks : List T)
  | leaf (h : Tok)
  | text (h : Tok) (r : List Int)

mutual
def T.size : T → Nat
  | .node _ ks => 2 + sizes ks
  | .leaf _ => 1
  | .text _ r => r.length
def sizes : List T → Nat
  | [] => 0
  | k :: r => k.size + sizes r
end

mutual
def T.height : T → Nat
  | .node _ ks => heights ks + 1
  | .leaf _ => 1
  | .text _ _ => 1
def heights : List T → Nat
  | [] => 0
  | k :: r => max k.height (heights r)
end

def closeTok : Tok := ⟨2, 0, 0, 0, [0, 0, 0, 0, 0, 0, 0, 0]⟩

mutual
def T.toks : T → List Tok
  | .node h ks => h :: (toksL ks ++ [closeTok])
  | .leaf h => [h]
  | .text h r => r.map fun x => { h with rune := x }
def toksL : List T → List Tok
  | [] => []
  | k :: r => k.toks ++ toksL r
end

/-- A row of pointers that is nil where it is empty. -/
def kidsAV : List AV → AV
  | [] => .nsl
  | l => .sl l .no

mutual
def T.av : T → AV
  | .node h ks => .fp (h.cells ++ [.nsl, kidsAV (avs ks), i64A ((2 + sizes ks : Nat) : Int), i64A ((heights ks + 1 : Nat) : Int)]) 0
  | .leaf h => .fp (h.cells ++ [.nsl, .nsl, i64A 1, i64A 1]) 0
  | .text h r => .fp (h.cells ++ [.sl (r.map i32A) .no, .nsl, i64A (r.length : Int), i64A 1]) 0
def avs : List T → List AV
  | [] => []
  | k :: r => k.av :: avs r
end

theorem avs_map : ∀ ks : List T, avs ks = ks.map T.av
  | [] => rfl
  | k :: r => by rw [avs, avs_map r]; rfl
theorem avs_append (ks ls : List T) : avs (ks ++ ls) = avs ks ++ avs ls := by simp [avs_map]
theorem avs_length (ks : List T) : (avs ks).length = ks.length := by simp [avs_map]
theorem sizes_append : ∀ ks ls : List T, sizes (ks ++ ls) = sizes ks + sizes ls
  | [], ls => by simp [sizes]
  | k :: r, ls => by simp only [List.cons_append, sizes, sizes_append r ls]; omega
theorem heights_append : ∀ ks ls : List T, heights (ks ++ ls) = max (heights ks) (heights ls)
  | [], ls => by simp [heights]
  | k :: r, ls => by simp only [List.cons_append, heights, heights_append r ls]; omega
theorem toksL_append : ∀ ks ls : List T, toksL (ks ++ ls) = toksL ks ++ toksL ls
  | [], ls => by simp [toksL]
  | k :: r, ls => by simp only [List.cons_append, toksL, toksL_append r ls, List.append_assoc]
theorem T.av_fp : ∀ t : T, ∃ cs, t.av = .fp cs 0
  | .node _ _ => ⟨_, rfl⟩
  | .leaf _ => ⟨_, rfl⟩
  | .text _ _ => ⟨_, rfl⟩
theorem T.av_cells (t : T) : t.av.cells = [t.av] := by
  obtain ⟨cs, h⟩ := t.av_fp; rw [h]; rfl
theorem sizes_take_le : ∀ (ks : List T) (i : Nat), sizes (ks.take i) ≤ sizes ks
  | [], i => by simp [sizes]
  | k :: r, 0 => by simp [sizes]
  | k :: r, i + 1 => by simp only [List.take_succ_cons, sizes]; have := sizes_take_le r i; omega
theorem heights_take_le : ∀ (ks : List T) (i : Nat), heights (ks.take i) ≤ heights ks
  | [], i => by simp [heights]
  | k :: r, 0 => by simp [heights]
  | k :: r, i + 1 => by simp only [List.take_succ_cons, heights]; have := heights_take_le r i; omega
theorem sizes_take_succ {ks : List T} {i : Nat} {k : T} (h : ks[i]? = some k) : sizes (ks.take (i + 1)) = sizes (ks.take i) + k.size := by
  rw [List.take_add_one, h, Option.toList_some, sizes_append]; simp [sizes]
theorem heights_take_succ {ks : List T} {i : Nat} {k : T} (h : ks[i]? = some k) : heights (ks.take (i + 1)) = max (heights (ks.take i)) k.height := by
  rw [List.take_add_one, h, Option.toList_some, heights_append]; simp [heights]


mutual
/-- All heads have as many marks as they must. -/
def T.wf : T → Prop
  | .node h ks => h.marks.length = 8 ∧ wfs ks
  | .leaf h => h.marks.length = 8
  | .text h _ => h.marks.length = 8
def wfs : List T → Prop
  | [] => True
  | k :: r => k.wf ∧ wfs r
end
/-- A tree's size and height, as its node tells them. -/
theorem T.av_nth {t : T} (w : t.wf) : ∃ c0 c1 c2 c3 c4 c5 c6 c7 c8 c9 c10 c11 a b : AV, t.av = .fp [c0, c1, c2, c3, c4, c5, c6, c7, c8, c9, c10, c11, a, b, i64A (t.size : Int), i64A (t.height : Int)] 0 := by
  have key : ∀ (h : Tok) (r : List AV), h.marks.length = 8 → ∃ c0 c1 c2 c3 c4 c5 c6 c7 c8 c9 c10 c11, h.cells ++ r = [c0, c1, c2, c3, c4, c5, c6, c7, c8, c9, c10, c11] ++ r := fun h r hm => by
    have h12 : h.cells.length = 12 := by simp [Tok.cells, hm]
    match h.cells, h12 with
    | [c0, c1, c2, c3, c4, c5, c6, c7, c8, c9, c10, c11], _ => exact ⟨c0, c1, c2, c3, c4, c5, c6, c7, c8, c9, c10, c11, rfl⟩
  cases t with
  | node h ks =>
    obtain ⟨c0, c1, c2, c3, c4, c5, c6, c7, c8, c9, c10, c11, e⟩ := key h [.nsl, kidsAV (avs ks), i64A ((2 + sizes ks : Nat) : Int), i64A ((heights ks + 1 : Nat) : Int)] w.1
    exact ⟨c0, c1, c2, c3, c4, c5, c6, c7, c8, c9, c10, c11, _, _, by rw [T.av, e]; rfl⟩
  | leaf h =>
    obtain ⟨c0, c1, c2, c3, c4, c5, c6, c7, c8, c9, c10, c11, e⟩ := key h [.nsl, .nsl, i64A 1, i64A 1] w
    exact ⟨c0, c1, c2, c3, c4, c5, c6, c7, c8, c9, c10, c11, _, _, by rw [T.av, e]; rfl⟩
  | text h r =>
    obtain ⟨c0, c1, c2, c3, c4, c5, c6, c7, c8, c9, c10, c11, e⟩ := key h [.sl (r.map i32A) .no, .nsl, i64A (r.length : Int), i64A 1] w
    exact ⟨c0, c1, c2, c3, c4, c5, c6, c7, c8, c9, c10, c11, _, _, by rw [T.av, e]; rfl⟩
theorem wfs_iff : ∀ ks : List T, wfs ks ↔ ∀ k ∈ ks, k.wf
  | [] => by simp [wfs]
  | k :: r => by simp [wfs, wfs_iff r]

mutual
theorem T.height_le : ∀ t : T, t.height ≤ t.size + 1
  | .node h ks => by simp only [T.height, T.size]; have := heights_le ks; omega
  | .leaf h => by simp [T.height, T.size]
  | .text h r => by simp [T.height]
theorem heights_le : ∀ ks : List T, heights ks ≤ sizes ks + 1
  | [] => by simp [heights]
  | k :: r => by simp only [heights, sizes]; have := k.height_le; have := heights_le r; omega
end
mutual
theorem T.toks_length : ∀ t : T, t.toks.length = t.size
  | .node h ks => by simp only [T.toks, T.size, List.length_cons, List.length_append, List.length_nil, toksL_length ks]; omega
  | .leaf h => rfl
  | .text h r => by simp [T.toks, T.size]
theorem toksL_length : ∀ ks : List T, (toksL ks).length = sizes ks
  | [] => rfl
  | k :: r => by simp only [toksL, sizes, List.length_append, k.toks_length, toksL_length r]
end
end Go.Abs
