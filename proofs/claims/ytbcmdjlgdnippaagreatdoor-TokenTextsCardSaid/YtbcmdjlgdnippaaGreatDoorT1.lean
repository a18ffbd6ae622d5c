/- The tokens of a text of letters: code 24, walked. No condition. -/
import Derived.Test.YtbcmdjlgdnippaaGreatDoorH2
import Derived.Test.YtbcmdjlgdnippaaGreatDoorV2
set_option linter.unusedVariables false
set_option linter.unusedSimpArgs false
set_option linter.unusedSimpArgs false
namespace Go.Proofs.YtbcmdjlgdnippaaGreatDoor
open Go Go.Abs Go.RowKit

/-- A letter's cells and token. -/
def letC (r : Int) : List AV := [.v (.int .i64 4), .v (.int .i64 0), .v (.int .i64 0), .v (.int .i32 r), .v (.int .u16 0), .v (.int .u16 0), .v (.int .u16 0), .v (.int .u16 0), .v (.int .u16 0), .v (.int .u16 0), .v (.int .u16 0), .v (.int .u16 0)]
def letA (r : Int) : AV := .agg (letC r)

theorem letC_len (r : Int) : (letA r).cells.length = 12 := rfl

theorem push_let {l : List Int} {r : Int} (h : l.length < 1000000) :
    aappR [.cells (flat (l.map letA)) true] 12 48 32 (.rs 0 (flat (l.map letA)).length 12 0 l.length) (.sl [letA r] .exact) = some (.rs 0 (flat ((l ++ [r]).map letA)).length 12 0 (l ++ [r]).length, [.cells (flat ((l ++ [r]).map letA)) true]) := by
  have hn : ∀ z ∈ l.map letA, z.cells.length = 12 := fun z hz => by obtain ⟨a, _, rfl⟩ := List.mem_map.1 hz; rfl
  have hf := flat_length hn
  rw [List.length_map] at hf
  have hp : rowPut (flat (l.map letA)) (l.length * 12) (flat [letA r]) = flat ((l ++ [r]).map letA) := by
    unfold rowPut
    rw [← hf, List.take_length, List.drop_of_length_le (by omega), List.append_nil, List.map_append, flat_append]
    rfl
  have h1 : (l.length + (0 + 1)) * 48 ≤ 140737488355328 := by omega
  have h2 : okElems 12 [letA r] = true := rfl
  have h3 : ¬ ([letA r] = ([] : List AV)) := by simp
  simp only [aappR, aapp, contents, aappC, h2, h3, hp, if_true, if_false, and_self, List.getElem?_cons_zero, List.set_cons_zero, Nat.zero_lt_succ, List.length_append, List.length_cons, List.length_nil]
  rw [if_pos ⟨trivial, trivial, h1⟩]

theorem mk_let {z : List AV} (hz : z.length = 12) {n : Nat} (h : n ≤ 100) : amks [] 12 48 z (.v (.int .i64 0)) (.v (.int .i64 n)) = some (.rs 0 (flat (([] : List Int).map letA)).length 12 0 0, [.cells (flat (([] : List Int).map letA)) true]) := by
  unfold amks
  dsimp only
  rw [if_pos ⟨by omega, by omega, by omega, by omega, hz, by omega⟩]
  rfl

theorem chunks_let : ∀ (l : List Int) (pre : List AV), chunks 12 (pre ++ flat (l.map letA)) pre.length l.length = l.map letA
  | [], pre => rfl
  | r :: l, pre => by
    have h := chunks_let l (pre ++ letC r)
    rw [List.length_append, List.append_assoc] at h
    rw [List.map_cons, flat_cons, List.length_cons, chunks, List.drop_append_of_le_length (Nat.le_refl _), List.drop_length, List.nil_append]
    show AV.agg (List.take (letC r).length (letC r ++ flat (l.map letA))) :: chunks 12 (pre ++ (letC r ++ flat (l.map letA))) (pre.length + (letC r).length) l.length = _
    rw [h, List.take_left']
    · rfl
    · rfl

theorem mapO_v {hp : List Blk} {n : Nat} : ∀ {l : List AV}, (∀ x ∈ l, ∃ v, x = .v v) → mapO (fzA hp (n + 1)) l = some l
  | [], _ => rfl
  | x :: l, h => by
    obtain ⟨v, rfl⟩ := h x (by simp)
    have h2 := mapO_v (hp := hp) (n := n) (l := l) (fun x hx => h x (by simp [hx]))
    have e : fzA hp (n + 1) (AV.v v) = some (AV.v v) := rfl
    simp only [mapO, e, h2]

theorem flat_let_v (l : List Int) : ∀ x ∈ flat (l.map letA), ∃ v, x = AV.v v := by
  intro x hx
  obtain ⟨z, hz, hx⟩ := List.mem_flatMap.1 hx
  obtain ⟨r, _, rfl⟩ := List.mem_map.1 hz
  have hx' : x ∈ letC r := hx
  simp only [letC, List.mem_cons, List.not_mem_nil, or_false] at hx'
  rcases hx' with rfl | rfl | rfl | rfl | rfl | rfl | rfl | rfl | rfl | rfl | rfl | rfl <;> exact ⟨_, rfl⟩

theorem af_let (r : Int) : afill [.v (.int .i64 0), .v (.int .i64 0), .v (.int .i64 0), .v (.int .i32 0), .v (.int .u16 0), .v (.int .u16 0), .v (.int .u16 0), .v (.int .u16 0), .v (.int .u16 0), .v (.int .u16 0), .v (.int .u16 0), .v (.int .u16 0)] [(0, 1, .v (.int .i64 4)), (3, 1, i32A r)] = some (letC r) := rfl
theorem bsl_let (r : Int) : absl 12 [.agg (letC r)] = some (.sl [letA r] .exact) := rfl

theorem text24 {G : Cells} {v : AV} {xs : List Int} (hv : Slc v (xs.map i32A)) (hl : xs.length ≤ 100) : PureSpec G Tryz.prog 24 [v] (.sl (xs.map letA) .no) := by
  refine pureSpec_close (fnE mixed T24 U24 (Nat.le_of_ble_eq_true rfl) ?_)
  unfold c24
  simp -failIfUnchanged -implicitDefEqProofs (disch := first | assumption | decide | omega) only [wkA, instrE, astepE, evE, evsE, evoE, evpE, elook, econs, eonly, putE, argE, pickE, resE, rsE, rE, Option.bind_some, Option.bind_none, Option.map_some, Option.map_none, ↓reduceIte, Nat.reduceEqDiff, Nat.reduceAdd, Nat.zero_add, Nat.add_zero, Nat.reduceLT, Nat.reduceLeDiff, Bool.false_eq_true, hv.lenStep, goInt, List.length_map, mk_let (z := [AV.v (Value.int IntKind.i64 0), AV.v (Value.int IntKind.i64 0), AV.v (Value.int IntKind.i64 0), AV.v (Value.int IntKind.i32 0), AV.v (Value.int IntKind.u16 0), AV.v (Value.int IntKind.u16 0), AV.v (Value.int IntKind.u16 0), AV.v (Value.int IntKind.u16 0), AV.v (Value.int IntKind.u16 0), AV.v (Value.int IntKind.u16 0), AV.v (Value.int IntKind.u16 0), AV.v (Value.int IntKind.u16 0)]) rfl hl]
  refine wpE_count (fun i e hp => e = [(3, .rs 0 (flat ((xs.take i).map letA)).length 12 0 i), (9, v), (10, i64A xs.length), (11, i64A i)] ∧ hp = [.cells (flat ((xs.take i).map letA)) true]) xs.length ⟨rfl, rfl⟩ ?_ ?_
  · rintro i e hp hi ⟨rfl, rfl⟩
    obtain ⟨r, hr⟩ : ∃ r, xs[i]? = some r := ⟨xs[i], List.getElem?_eq_getElem hi⟩
    have hget : (xs.map i32A)[i]? = some (i32A r) := by simp [hr]
    have e1 : aia 1 v (.v (.int .i64 i)) = some (.fp [i32A r] 0) := hv.ia hget rfl
    have d1 : decide ((i : Int) < (xs.length : Int)) = true := by simp; omega
    have ht : (xs.take i).length = i := by rw [List.length_take]; omega
    have hs : xs.take i ++ [r] = xs.take (i + 1) := by rw [List.take_add_one, hr]; rfl
    have hp := push_let (l := xs.take i) (r := r) (by omega)
    rw [hs, ht, List.length_take, Nat.min_eq_left (by omega)] at hp
    have l1 : ∀ hp, aload hp false 1 (.fp [i32A r] 0) = some (i32A r) := fun hp => aload_fp hp rfl
    have w1 : IntKind.i64.wrap ((i : Int) + 1) = ((i + 1 : Nat) : Int) := by rw [wrap_i64 (by omega) (by omega)]; rfl
    simp -failIfUnchanged -implicitDefEqProofs (disch := first | assumption | decide | omega) only [wkA, instrE, astepE, evE, evsE, evoE, evpE, elook, econs, eonly, putE, argE, pickE, resE, rsE, rE, Option.bind_some, Option.bind_none, Option.map_some, Option.map_none, ↓reduceIte, Nat.reduceEqDiff, Nat.reduceAdd, Nat.zero_add, Nat.add_zero, Nat.reduceLT, Nat.reduceLeDiff, Bool.false_eq_true, i64A, d1, e1, l1, af_let r, bsl_let r, hp, w1]
    exact ⟨trivial, trivial⟩
  · rintro e hp ⟨rfl, rfl⟩
    have d1 : decide ((xs.length : Int) < (xs.length : Int)) = false := by simp
    simp -failIfUnchanged -implicitDefEqProofs (disch := first | assumption | decide | omega) only [wkA, instrE, astepE, evE, evsE, evoE, evpE, elook, econs, eonly, putE, argE, pickE, resE, rsE, rE, Option.bind_some, Option.bind_none, Option.map_some, Option.map_none, ↓reduceIte, Nat.reduceEqDiff, Nat.reduceAdd, Nat.zero_add, Nat.add_zero, Nat.reduceLT, Nat.reduceLeDiff, Bool.false_eq_true, i64A, d1]
    refine ⟨2, ?_⟩
    rw [List.take_length]
    show (if (flat (xs.map letA)).length = (flat (xs.map letA)).length then (mapO (fzA _ 1) (flat (xs.map letA))).map fun ds => AV.sl (chunks 12 ds 0 xs.length) .no else none) = _
    rw [if_pos rfl, mapO_v (flat_let_v xs), Option.map_some]
    have := chunks_let xs []
    rw [List.nil_append] at this
    rw [show (0 : Nat) = ([] : List AV).length from rfl, this]
end Go.Proofs.YtbcmdjlgdnippaaGreatDoor
