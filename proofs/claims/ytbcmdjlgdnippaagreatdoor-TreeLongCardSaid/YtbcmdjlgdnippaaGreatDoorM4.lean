/- Which tokens may be: all of a row: code 34, walked. No condition. -/
import Derived.Test.YtbcmdjlgdnippaaGreatDoorM3
import Derived.Test.YtbcmdjlgdnippaaGreatDoorY1
set_option linter.unusedVariables false
set_option linter.unusedSimpArgs false
namespace Go.Abs
open Go.RowKit

/-- Blocks of cells, and tokens, alone. -/
def PlainH (hp : List Blk) : Prop := ∀ b ∈ hp, (∃ cs r, b = .cells cs r) ∨ ∃ n s e, b = .tok n s e

theorem plainH_cons {b : Blk} {hp : List Blk} (h : (∃ cs r, b = .cells cs r) ∨ ∃ n s e, b = .tok n s e) (k : PlainH hp) : PlainH (b :: hp) := fun c hc => by
  rcases List.mem_cons.1 hc with rfl | hc
  · exact h
  · exact k c hc
theorem plainH_nil : PlainH [] := fun b hb => by cases hb

theorem plainH_push {hp : List Blk} {cs : List AV} {r : Bool} (h : PlainH hp) : PlainH (hp ++ [.cells cs r]) := fun b hb => by
  rcases List.mem_append.1 hb with hb | hb
  · exact h b hb
  · exact Or.inl ⟨cs, r, List.mem_singleton.1 hb⟩
theorem er_plain {b b' : Blk} (h : (∃ cs r, b = .cells cs r) ∨ ∃ n s e, b = .tok n s e) (e : er b' = er b) : b' = b := by
  rcases h with ⟨cs, r, rfl⟩ | ⟨n, s, t, rfl⟩
  all_goals
    cases b' with
    | cells _ _ => exact e
    | tok _ _ _ => exact e
    | mapb _ _ => cases e
    | loopb _ _ _ _ _ => cases e
    | obj o => cases o <;> cases e

theorem er_same_plain : ∀ {hp hp' : List Blk}, PlainH hp → hp'.map er = hp.map er → hp' = hp
  | [], [], _, _ => rfl
  | [], _ :: _, _, h => by cases h
  | _ :: _, [], _, h => by cases h
  | b :: hp, b' :: hp', hb, h => by
    simp only [List.map_cons, List.cons.injEq] at h
    rw [er_plain (hb b (by simp)) h.1, er_same_plain (fun c hc => hb c (by simp [hc])) h.2]

/-- A call that leaves the heap as it was, but for new blocks that nobody needs. -/
theorem CallOk.closeP {G : Cells} {P : Program} {f : FuncId} {args : List AV} {hp : List Blk} {r0 : AV} (hb : PlainH hp) (h : CallOk G P f args hp fun r hp' => ∃ l, hp' = hp ++ l ∧ Fz (mask hp.length hp') r r0) :
    CallOk G P f args hp fun r hp' => r = r0 ∧ hp' = hp := by
  refine CallOk.mono (CallOk.close (r0 := r0) (CallOk.mono h ?_)) ?_
  · rintro r hp' ⟨l, rfl, hf⟩
    exact ⟨by rw [List.map_append, List.take_left' (by simp)], keeps_push, hf.done⟩
  · rintro r hp' ⟨h1, h2, _⟩
    exact ⟨h1, er_same_plain hb h2⟩
end Go.Abs

namespace Go.Proofs.YtbcmdjlgdnippaaGreatDoor
open Go Go.Abs Go.RowKit

theorem clean_tokC (t : Tok) : ∀ c ∈ t.cells, Abs.Clean c := fun c hc => by
  simp only [Tok.cells, List.mem_cons, List.mem_map] at hc
  rcases hc with rfl | rfl | rfl | rfl | ⟨x, _, rfl⟩ <;> exact clean_v _
theorem clean_tok (t : Tok) : Abs.Clean t.av := clean_agg (clean_tokC t)

/-- Old blocks are as they were. -/
def Ext (hb hp : List Blk) : Prop := ∀ (j : Nat) b, hb[j]? = some b → hp[j]? = some b
theorem Ext.refl (hb : List Blk) : Ext hb hb := fun _ _ h => h
theorem Ext.app {hb l : List Blk} : Ext hb (hb ++ l) := fun _ _ h => get_ext h
theorem Ext.app2 {hb hp l : List Blk} (h : Ext hb hp) : Ext hb (hp ++ l) := fun j b q => get_ext (h j b q)
theorem Ext.nil (hp : List Blk) : Ext [] hp := fun j b h => by simp at h
theorem Ext.len {hb hp : List Blk} (h : Ext hb hp) : hb.length ≤ hp.length := by
  rcases Nat.lt_or_ge hp.length hb.length with q | q
  · have := h hp.length _ (List.getElem?_eq_getElem q)
    rw [List.getElem?_eq_none (Nat.le_refl _)] at this; cases this
  · exact q
theorem Ext.split {hb hp : List Blk} (h : Ext hb hp) : ∃ l, hp = hb ++ l := by
  refine ⟨hp.drop hb.length, ?_⟩
  apply List.ext_getElem?
  intro j
  rcases Nat.lt_or_ge j hb.length with q | q
  · rw [List.getElem?_append_left q, h j _ (List.getElem?_eq_getElem q), List.getElem?_eq_getElem q]
  · rw [List.getElem?_append_right q, List.getElem?_drop]; congr 1; omega

/-- A row of tokens: a slice, or a row of the caller's heap. -/
def RdS (hb : List Blk) (v : AV) (l : List Tok) : Prop := ∃ k cs off, v = .rs k cs.length 12 off l.length ∧ hb[k]? = some (.cells cs true) ∧ ∀ (i : Nat) t, l[i]? = some t → off + i * 12 + 12 ≤ cs.length ∧ (cs.drop (off + i * 12)).take 12 = t.cells
def Rd (hb : List Blk) (v : AV) (l : List Tok) : Prop := Slc v (l.map Tok.av) ∨ RdS hb v l

theorem load_marks {t : Tok} (ho : t.Ok) : pick1 true 8 t.cells 4 = some (.agg (t.marks.map u16A)) := by
  have h : t.marks.length = 8 := ho.len
  have h2 : t.cells.length = 12 := tok12 ho
  unfold pick1
  rw [if_pos rfl, if_pos (by omega)]
  have : t.cells.drop 4 = t.marks.map u16A := rfl
  rw [this, List.take_of_length_le (by simp [h])]

theorem Rd.len {hb : List Blk} {v : AV} {l : List Tok} (h : Rd hb v l) (hp : List Blk) : lenStep v hp = some (.v (.int .i64 (l.length : Int)), hp) := by
  rcases h with h | ⟨k, cs, off, rfl, _, _⟩
  · have := h.lenStep hp
    rw [List.length_map] at this
    exact this
  · rfl

/-- What is read of one token of a row. -/
structure TokAt (hb : List Blk) (p : AV) (t : Tok) : Prop where
  nil : anil p = some p
  f0 : ∃ q, afa 0 p = some q ∧ ∀ hp, Ext hb hp → aload hp false 1 q = some (.v (.int .i64 t.kind))
  f4 : ∃ q, afa 4 p = some q ∧ ∀ hp, Ext hb hp → aload hp true 8 q = some (.agg (t.marks.map u16A))
  all : ∀ hp, Ext hb hp → aload hp true 12 p = some t.av

theorem Rd.tok {hb : List Blk} {v : AV} {l : List Tok} (h : Rd hb v l) {i : Nat} {t : Tok} (ht : l[i]? = some t) (ho : t.Ok) : ∃ p, aia 12 v (.v (.int .i64 (i : Int))) = some p ∧ TokAt hb p t := by
  rcases h with h | ⟨k, cs, off, rfl, hk, hc⟩
  · refine ⟨.fp t.cells 0, h.ia (x := t.av) (by simp [ht]) (tok12 ho), rfl, ⟨_, rfl, fun hp _ => rfl⟩, ⟨_, rfl, fun hp _ => load_marks ho⟩, fun hp _ => load_tok0 ho⟩
  · obtain ⟨h1, h2⟩ := hc i t ht
    have hi := (List.getElem?_eq_some_iff.1 ht).1
    have hg : ∀ j, j < 12 → cs[off + i * 12 + j]? = t.cells[j]? := fun j hj => by
      rw [← h2, List.getElem?_take_of_lt hj, List.getElem?_drop]
    refine ⟨.rp k cs.length (off + i * 12), ?_, rfl, ⟨_, rfl, fun hp he => ?_⟩, ⟨_, rfl, fun hp he => ?_⟩, fun hp he => ?_⟩
    · show (if 0 ≤ (i : Int) ∧ (i : Int) < (l.length : Int) then some (AV.rp k cs.length (off + (i : Int).toNat * 12)) else none) = _
      rw [if_pos ⟨by omega, by omega⟩]
      simp
    · simp only [aload, he k _ hk, if_true]
      have := hg 0 (by omega)
      exact this
    · simp only [aload, he k _ hk, if_true]
      unfold pick1
      rw [if_pos rfl, if_pos (by omega)]
      have : (cs.drop (off + i * 12 + 4)).take 8 = ((cs.drop (off + i * 12)).take 12).drop 4 := by
        rw [List.drop_take, List.drop_drop]
      rw [this, h2]
      rfl
    · simp only [aload, he k _ hk, if_true]
      unfold pick1
      rw [if_pos rfl, if_pos h1, h2]
      rfl

section
variable {G : Cells} {S : AV} {p : Tok → Bool} {l : List Tok} {hb : List Blk}

theorem right112 (hb0 : PlainH hb) (hS : Abs.Clean S) (h1 : S.cells = [S]) {t : Tok} (ho : t.Ok) (hR : PureSpec G Tryz.prog 30 [S, t.av] (.v (.bool (p t)))) :
    CallOk G Tryz.prog 112 [t.av, .mp hb.length 0] (hb ++ [.cells [S] false]) fun r hp' => r = .v (.bool !p t) ∧ hp' = hb ++ [.cells [S] false] := by
  refine CallOk.closeP (plainH_push hb0) (fnE mixed T112 U112 (Nat.le_of_ble_eq_true rfl) ?_)
  unfold c112
  have l0 : aload (hb ++ [.cells [S] false] ++ [Blk.cells t.av.cells false]) true 12 (.mp (hb.length + 1) 0) = some t.av := by
    have : (hb ++ [.cells [S] false] ++ [Blk.cells t.av.cells false])[hb.length + 1]? = some (.cells t.cells false) := by simp [Tok.av, AV.cells]
    simp only [aload, this]
    exact load_tok0 ho
  have l1 : aload (hb ++ [.cells [S] false] ++ [Blk.cells t.av.cells false]) false 1 (.mp hb.length 0) = some S := by
    have : (hb ++ [.cells [S] false] ++ [Blk.cells t.av.cells false])[hb.length]? = some (.cells [S] false) := by simp
    simp only [aload, this]; rfl
  simp -failIfUnchanged -implicitDefEqProofs (disch := first | assumption | decide | omega) only [wkA, instrE, astepE, evE, evsE, evoE, evpE, elook, econs, eonly, putE, argE, pickE, resE, rsE, rE, Option.bind_some, Option.bind_none, Option.map_some, Option.map_none, ↓reduceIte, Nat.reduceEqDiff, Nat.reduceAdd, Nat.zero_add, Nat.add_zero, Nat.reduceLT, Nat.reduceLeDiff, Bool.false_eq_true, l0, l1, List.length_append, List.length_cons, List.length_nil]
  refine CallOk.pure hR (impCs_cons hS (impCs_cons (clean_tok t) impCs_nil)) ?_
  simp -failIfUnchanged -implicitDefEqProofs (disch := first | assumption | decide | omega) only [wkA, instrE, astepE, evE, evsE, evoE, evpE, elook, econs, eonly, putE, argE, pickE, resE, rsE, rE, Option.bind_some, Option.bind_none, Option.map_some, Option.map_none, ↓reduceIte, Nat.reduceEqDiff, Nat.reduceAdd, Nat.zero_add, Nat.add_zero, Nat.reduceLT, Nat.reduceLeDiff, Bool.false_eq_true, show ∀ b, aun .not (.v (.bool b)) = some (.v (.bool !b)) from fun b => rfl]
  exact ⟨[_], rfl, Fz.v _⟩

/-- The place of the first token that may not be; how many there are, if there is none. -/
def wrongAt (p : Tok → Bool) (l : List Tok) : Nat := l.findIdx fun t => !p t

theorem index111 (hb0 : PlainH hb) (hS : Abs.Clean S) (h1 : S.cells = [S]) {v : AV} (hv : Rd hb v l) (hn : l.length ≤ 4611686018427387904) (ho : ∀ t ∈ l, t.Ok) (hR : ∀ t ∈ l, PureSpec G Tryz.prog 30 [S, t.av] (.v (.bool (p t)))) :
    CallOk G Tryz.prog 111 [v, .fn (.func 112) [] [.mp hb.length 0]] (hb ++ [.cells [S] false]) fun r hp' => r = i64A (if l.all p then -1 else (wrongAt p l : Int)) ∧ hp' = hb ++ [.cells [S] false] := by
  refine fnE mixed T111 U111 (Nat.le_of_ble_eq_true rfl) ?_
  unfold c111
  simp -failIfUnchanged -implicitDefEqProofs (disch := first | assumption | decide | omega) only [wkA, instrE, astepE, evE, evsE, evoE, evpE, elook, econs, eonly, putE, argE, pickE, resE, rsE, rE, Option.bind_some, Option.bind_none, Option.map_some, Option.map_none, ↓reduceIte, Nat.reduceEqDiff, Nat.reduceAdd, Nat.zero_add, Nat.add_zero, Nat.reduceLT, Nat.reduceLeDiff, Bool.false_eq_true, hv.len]
  refine wpE_count (fun i e hp => e = [(0, v), (1, .fn (.func 112) [] [.mp hb.length 0]), (7, i64A l.length), (8, i64A i)] ∧ hp = hb ++ [.cells [S] false] ∧ ∀ j t, j < i → l[j]? = some t → p t = true) l.length ⟨rfl, rfl, fun j t hj => by omega⟩ ?_ ?_
  · rintro i e hp hi ⟨rfl, rfl, hI⟩
    obtain ⟨t, ht⟩ : ∃ t, l[i]? = some t := ⟨l[i], List.getElem?_eq_getElem hi⟩
    have htm := List.mem_of_getElem? ht
    have d1 : decide ((i : Int) < (l.length : Int)) = true := by simp; omega
    obtain ⟨q, e1, hq⟩ := hv.tok ht (ho t htm)
    have l1 := hq.all _ (Ext.app (l := [.cells [S] false]))
    have w1 : IntKind.i64.wrap ((i : Int) + 1) = ((i + 1 : Nat) : Int) := by rw [wrap_i64 (by omega) (by omega)]; rfl
    simp -failIfUnchanged -implicitDefEqProofs (disch := first | assumption | decide | omega) only [wkA, instrE, astepE, evE, evsE, evoE, evpE, elook, econs, eonly, putE, argE, pickE, resE, rsE, rE, Option.bind_some, Option.bind_none, Option.map_some, Option.map_none, ↓reduceIte, Nat.reduceEqDiff, Nat.reduceAdd, Nat.zero_add, Nat.add_zero, Nat.reduceLT, Nat.reduceLeDiff, Bool.false_eq_true, i64A, d1, e1, l1, callvH_fn, List.nil_append, List.cons_append]
    refine CallOk.mono (right112 hb0 hS h1 (ho t htm) (hR t htm)) ?_
    rintro r hp' ⟨rfl, rfl⟩
    simp -failIfUnchanged -implicitDefEqProofs (disch := first | assumption | decide | omega) only [wkA, instrE, astepE, evE, evsE, evoE, evpE, elook, econs, eonly, putE, argE, pickE, resE, rsE, rE, Option.bind_some, Option.bind_none, Option.map_some, Option.map_none, ↓reduceIte, Nat.reduceEqDiff, Nat.reduceAdd, Nat.zero_add, Nat.add_zero, Nat.reduceLT, Nat.reduceLeDiff, Bool.false_eq_true]
    refine BoolCase.mk (fun h => ?_) fun h => ?_
    · simp -failIfUnchanged -implicitDefEqProofs (disch := first | assumption | decide | omega) only [wkA, instrE, astepE, evE, evsE, evoE, evpE, elook, econs, eonly, putE, argE, pickE, resE, rsE, rE, Option.bind_some, Option.bind_none, Option.map_some, Option.map_none, ↓reduceIte, Nat.reduceEqDiff, Nat.reduceAdd, Nat.zero_add, Nat.add_zero, Nat.reduceLT, Nat.reduceLeDiff, Bool.false_eq_true, h]
      have h2 : p t = false := by simpa using h
      have ha : l.all p = false := by
        rw [List.all_eq_false]
        exact ⟨t, htm, by simp [h2]⟩
      have hw : wrongAt p l = i := by
        unfold wrongAt
        rw [List.findIdx_eq hi]
        refine ⟨?_, fun j hj => ?_⟩
        · rw [List.getElem?_eq_getElem hi] at ht; cases ht; simp [h2]
        · simp [hI j l[j] hj (List.getElem?_eq_getElem (by omega))]
      rw [ha, hw]
      exact ⟨rfl, trivial⟩
    · simp -failIfUnchanged -implicitDefEqProofs (disch := first | assumption | decide | omega) only [wkA, instrE, astepE, evE, evsE, evoE, evpE, elook, econs, eonly, putE, argE, pickE, resE, rsE, rE, Option.bind_some, Option.bind_none, Option.map_some, Option.map_none, ↓reduceIte, Nat.reduceEqDiff, Nat.reduceAdd, Nat.zero_add, Nat.add_zero, Nat.reduceLT, Nat.reduceLeDiff, Bool.false_eq_true, h, w1]
      refine ⟨rfl, trivial, fun j u hj hu => ?_⟩
      rcases Nat.lt_or_ge j i with q | q
      · exact hI j u q hu
      · obtain rfl : j = i := by omega
        rw [ht] at hu; cases hu
        simpa using h
  · rintro e hp ⟨rfl, rfl, hI⟩
    have d1 : decide ((l.length : Int) < (l.length : Int)) = false := by simp
    simp -failIfUnchanged -implicitDefEqProofs (disch := first | assumption | decide | omega) only [wkA, instrE, astepE, evE, evsE, evoE, evpE, elook, econs, eonly, putE, argE, pickE, resE, rsE, rE, Option.bind_some, Option.bind_none, Option.map_some, Option.map_none, ↓reduceIte, Nat.reduceEqDiff, Nat.reduceAdd, Nat.zero_add, Nat.add_zero, Nat.reduceLT, Nat.reduceLeDiff, Bool.false_eq_true, i64A, d1]
    have ha : l.all p = true := List.all_eq_true.2 fun t ht => by
      obtain ⟨j, hj, rfl⟩ := List.getElem_of_mem ht
      exact hI j _ hj (List.getElem?_eq_getElem hj)
    rw [ha]
    exact ⟨rfl, trivial⟩

theorem all34 (hb0 : PlainH hb) (hS : Abs.Clean S) (h1 : S.cells = [S]) {v : AV} (hv : Rd hb v l) (hn : l.length ≤ 4611686018427387904) (ho : ∀ t ∈ l, t.Ok) (hR : ∀ t ∈ l, PureSpec G Tryz.prog 30 [S, t.av] (.v (.bool (p t)))) :
    CallOk G Tryz.prog 34 [S, v] hb fun r hp' => r = .tup [i64A (if l.all p then 0 else (wrongAt p l : Int)), .v (.bool (l.all p))] ∧ hp' = hb := by
  refine CallOk.closeP hb0 (fnE mixed T34 U34 (Nat.le_of_ble_eq_true rfl) ?_)
  unfold c34
  simp -failIfUnchanged -implicitDefEqProofs (disch := first | assumption | decide | omega) only [wkA, instrE, astepE, evE, evsE, evoE, evpE, elook, econs, eonly, putE, argE, pickE, resE, rsE, rE, Option.bind_some, Option.bind_none, Option.map_some, Option.map_none, ↓reduceIte, Nat.reduceEqDiff, Nat.reduceAdd, Nat.zero_add, Nat.add_zero, Nat.reduceLT, Nat.reduceLeDiff, Bool.false_eq_true, h1]
  refine CallOk.mono (index111 hb0 hS h1 hv hn ho hR) ?_
  rintro r hp' ⟨rfl, rfl⟩
  have m1 : amm true [.v (.int .i64 (if l.all p then -1 else (wrongAt p l : Int))), .v (.int .i64 0)] = some (.v (.int .i64 (if l.all p then 0 else (wrongAt p l : Int)))) := by
    simp only [amm, ammL, amm2, Option.bind_some, if_true]
    cases l.all p
    · simp; omega
    · simp
  have d1 : decide ((if l.all p then -1 else (wrongAt p l : Int)) < 0) = l.all p := by
    cases l.all p
    · simp
    · simp
  simp -failIfUnchanged -implicitDefEqProofs (disch := first | assumption | decide | omega) only [wkA, instrE, astepE, evE, evsE, evoE, evpE, elook, econs, eonly, putE, argE, pickE, resE, rsE, rE, Option.bind_some, Option.bind_none, Option.map_some, Option.map_none, ↓reduceIte, Nat.reduceEqDiff, Nat.reduceAdd, Nat.zero_add, Nat.add_zero, Nat.reduceLT, Nat.reduceLeDiff, Bool.false_eq_true, i64A, m1, d1]
  exact ⟨_, rfl, Fz.tup (FzL.cons (Fz.v _) (FzL.cons (Fz.v _) FzL.nil))⟩
end
end Go.Proofs.YtbcmdjlgdnippaaGreatDoor
