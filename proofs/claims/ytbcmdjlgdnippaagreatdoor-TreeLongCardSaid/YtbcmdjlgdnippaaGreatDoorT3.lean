/- The law of long rows and deep nodes, walked: code 3. No condition but what the package's variables hold. -/
import Derived.Test.YtbcmdjlgdnippaaGreatDoorV3
set_option linter.unusedVariables false
set_option linter.unusedSimpArgs false
namespace Go.Proofs.YtbcmdjlgdnippaaGreatDoor
open Go Go.Abs Go.RowKit

theorem size17 {G : Cells} {t : T} (hw : t.wf) : PureSpec G Tryz.prog 17 [t.av] (i64A (t.size : Int)) := by
  refine pureSpec_close (fnE mixed T17 U17 (Nat.le_of_ble_eq_true rfl) ?_)
  unfold c17
  obtain ⟨d0, d1, d2, d3, d4, d5, d6, d7, d8, d9, d10, d11, p, q, hav⟩ := T.av_nth hw
  have hE : ∀ cs, aeqn .ptr false (.fp cs 0) (.v (.pointer none)) = some (.v (.bool false)) := fun cs => rfl
  have l2 : ∀ hp, aload hp false 1 (.fp [d0, d1, d2, d3, d4, d5, d6, d7, d8, d9, d10, d11, p, q, i64A (t.size : Int), i64A (t.height : Int)] 14) = some (i64A (t.size : Int)) := fun hp => aload_fp hp rfl
  rw [hav]
  simp -failIfUnchanged -implicitDefEqProofs (disch := first | assumption | decide | omega) only [wkA, instrE, astepE, evE, evsE, evoE, evpE, elook, econs, eonly, putE, argE, pickE, resE, rsE, rE, Option.bind_some, Option.bind_none, Option.map_some, Option.map_none, ↓reduceIte, Nat.reduceEqDiff, Nat.reduceAdd, Nat.zero_add, Nat.add_zero, Nat.reduceLT, Nat.reduceLeDiff, Bool.false_eq_true, hE, anil_fp, l2, BoolCase_false]
  exact (Fz.v _).done
theorem height18 {G : Cells} {t : T} (hw : t.wf) : PureSpec G Tryz.prog 18 [t.av] (i64A (t.height : Int)) := by
  refine pureSpec_close (fnE mixed T18 U18 (Nat.le_of_ble_eq_true rfl) ?_)
  unfold c18
  obtain ⟨d0, d1, d2, d3, d4, d5, d6, d7, d8, d9, d10, d11, p, q, hav⟩ := T.av_nth hw
  have hE : ∀ cs, aeqn .ptr false (.fp cs 0) (.v (.pointer none)) = some (.v (.bool false)) := fun cs => rfl
  have l2 : ∀ hp, aload hp false 1 (.fp [d0, d1, d2, d3, d4, d5, d6, d7, d8, d9, d10, d11, p, q, i64A (t.size : Int), i64A (t.height : Int)] 15) = some (i64A (t.height : Int)) := fun hp => aload_fp hp rfl
  rw [hav]
  simp -failIfUnchanged -implicitDefEqProofs (disch := first | assumption | decide | omega) only [wkA, instrE, astepE, evE, evsE, evoE, evpE, elook, econs, eonly, putE, argE, pickE, resE, rsE, rE, Option.bind_some, Option.bind_none, Option.map_some, Option.map_none, ↓reduceIte, Nat.reduceEqDiff, Nat.reduceAdd, Nat.zero_add, Nat.add_zero, Nat.reduceLT, Nat.reduceLeDiff, Bool.false_eq_true, hE, anil_fp, l2, BoolCase_false]
  exact (Fz.v _).done

theorem tokA_ok : tokA.Ok := ⟨⟨by decide, by decide⟩, ⟨by decide, by decide⟩, ⟨by decide, by decide⟩, ⟨by decide, by decide⟩, rfl, by decide⟩
theorem tokQ_ok : tokQ.Ok := ⟨⟨by decide, by decide⟩, ⟨by decide, by decide⟩, ⟨by decide, by decide⟩, ⟨by decide, by decide⟩, rfl, by decide⟩
theorem tokC_ok : closeTok.Ok := ⟨⟨by decide, by decide⟩, ⟨by decide, by decide⟩, ⟨by decide, by decide⟩, ⟨by decide, by decide⟩, rfl, by decide⟩

/-- A row that is filled from its begin on. -/
def fillC (i k : Nat) : List AV := (List.replicate i tokA.cells).flatten ++ (List.replicate (k - i) z12).flatten
theorem rep_len {α : Type} {z : List α} {n : Nat} (h : z.length = n) (k : Nat) : (List.replicate k z).flatten.length = k * n := by
  induction k with
  | zero => simp
  | succ k ih => rw [List.replicate_succ, List.flatten_cons, List.length_append, ih, h, Nat.succ_mul]; omega
theorem fillC_len {i k : Nat} (h : i ≤ k) : (fillC i k).length = k * 12 := by
  rw [fillC, List.length_append, rep_len (show tokA.cells.length = 12 from rfl), rep_len (show z12.length = 12 from rfl)]
  omega
theorem fill_put {i k : Nat} (h : i < k) : putAt (fillC i k) (i * 12) tokA.cells = fillC (i + 1) k := by
  have h1 : (List.replicate i tokA.cells).flatten.length = i * 12 := rep_len rfl i
  unfold putAt fillC
  rw [take_pre h1, ← List.drop_drop, drop_pre h1, show k - i = (k - (i + 1)) + 1 by omega, List.replicate_succ, List.flatten_cons, show tokA.cells.length = 12 from rfl, drop_pre (show z12.length = 12 from rfl), List.replicate_succ', List.flatten_append, List.append_assoc, List.append_assoc]
  simp
theorem fill_rd (k : Nat) : Rd [.cells (fillC k k) true] (.rs 0 (k * 12) 12 0 k) (List.replicate k tokA) := by
  refine Or.inr ⟨0, fillC k k, 0, by rw [fillC_len (Nat.le_refl k), List.length_replicate], rfl, fun i t ht => ?_⟩
  have hi : i < k := by have := (List.getElem?_eq_some_iff.1 ht).1; simpa using this
  have ht2 : t = tokA := by
    rw [List.getElem?_replicate, if_pos hi] at ht; exact (Option.some.inj ht).symm
  subst ht2
  rw [fillC_len (Nat.le_refl k)]
  refine ⟨by omega, ?_⟩
  have e : fillC k k = (List.replicate i tokA.cells).flatten ++ (tokA.cells ++ (List.replicate (k - i - 1) tokA.cells).flatten) := by
    unfold fillC
    rw [Nat.sub_self, List.replicate_zero, List.flatten_nil, List.append_nil]
    have : List.replicate k tokA.cells = List.replicate i tokA.cells ++ tokA.cells :: List.replicate (k - i - 1) tokA.cells := by
      rw [← List.replicate_succ, List.replicate_append_replicate]; congr 1; omega
    rw [this, List.flatten_append, List.flatten_cons]
  rw [e, Nat.zero_add, drop_pre (rep_len (show tokA.cells.length = 12 from rfl) i), take_pre (show tokA.cells.length = 12 from rfl)]

theorem one12 {t : Tok} (ho : t.Ok) : okElems 12 [t.av] = true := by
  have h2 : t.cells.all AV.one = true := by
    rw [List.all_eq_true]
    intro c hc
    simp only [Tok.cells, List.mem_cons, List.mem_map] at hc
    rcases hc with rfl | rfl | rfl | rfl | ⟨x, _, rfl⟩ <;> rfl
  simp only [okElems, List.all_cons, List.all_nil, Bool.and_true, Tok.av, AV.cells, tok12 ho, h2]
  rfl
theorem ones12 {l : List Tok} (ho : ∀ t ∈ l, t.Ok) : okElems 12 (l.map Tok.av) = true := by
  rw [okElems, List.all_eq_true]
  intro x hx
  obtain ⟨t, ht, rfl⟩ := List.mem_map.1 hx
  have := one12 (ho t ht)
  simpa [okElems] using this
theorem absl12 {t : Tok} (ho : t.Ok) : absl 12 [.agg t.cells] = some (.sl [t.av] .exact) := by
  have := one12 ho
  unfold absl
  rw [if_pos ⟨this, by simp⟩]
  rfl
/-- A token more. -/
theorem push_tok {hp : List Blk} {v : AV} {l : List Tok} {t : Tok} (h : Appd hp v (l.map Tok.av) 12 32) (hl : ∀ t ∈ l, t.Ok) (ho : t.Ok) (hn : l.length ≤ 100000) :
    ∃ v' hp', aappN hp 12 48 32 v (.sl [t.av] .exact) = some (v', hp') ∧ Appd hp' v' ((l ++ [t]).map Tok.av) 12 32 := by
  have h1 := one12 ho
  have h2 := ones12 hl
  have hne : ¬ ([t.av] = ([] : List AV)) := by simp
  rcases h with ⟨rfl, e⟩ | ⟨id, rfl, hid⟩
  · have : l = [] := by simpa using e
    subst this
    exact ⟨.sl [t.av] (.tok hp.length), hp ++ [.tok 1 12 32], by simp [aappN, aapp, contents, aappC, h1], Or.inr ⟨hp.length, rfl, by simp⟩⟩
  · have h3 : (l.length + (0 + 1)) * 48 ≤ 140737488355328 := by omega
    rw [List.length_map] at hid
    have hlt := (List.getElem?_eq_some_iff.1 hid).1
    refine ⟨.sl (l.map Tok.av ++ [t.av]) (.tok id), hp.set id (.tok (l.length + 1) 12 32), ?_, Or.inr ⟨id, by simp, by rw [List.getElem?_set_self hlt]; simp⟩⟩
    simp only [aappN, aapp, contents, aappC, h1, h2, hne, if_false, if_true, hid, List.length_map, List.length_cons, List.length_nil, true_and, and_self, Nat.zero_lt_succ]
    rw [if_pos h3]

theorem fz_build {hp : List Blk} (ok : Bool) (l : List Tok) : Fz hp (buildAV ok l) (buildAV ok l) := by
  unfold buildAV
  split
  · exact Fz.tup (FzL.cons (Fz.v _) (FzL.cons (Fz.v _) FzL.nil))
  · split
    · split
      · exact Fz.tup (FzL.cons (fz_tree _) (FzL.cons (Fz.v _) FzL.nil))
      · exact Fz.tup (FzL.cons (Fz.v _) (FzL.cons (Fz.v _) FzL.nil))
    · exact Fz.tup (FzL.cons (Fz.v _) (FzL.cons (Fz.v _) FzL.nil))

theorem rowQ_mem {d : Nat} {t : Tok} (h : t ∈ rowQ d) : t = tokQ ∨ t = closeTok := by
  rcases List.mem_append.1 h with h | h
  · exact Or.inl (List.eq_of_mem_replicate h)
  · exact Or.inr (List.eq_of_mem_replicate h)
theorem rowQ_ok {d : Nat} : ∀ t ∈ rowQ d, t.Ok := fun t ht => by
  rcases rowQ_mem ht with rfl | rfl
  · exact tokQ_ok
  · exact tokC_ok

section
variable {G : Cells} (hG : GOk G)
include hG

theorem allA (k : Nat) : (List.replicate k tokA).length ≤ 20000 → CallOk G Tryz.prog 34 [S3, .rs 0 (k * 12) 12 0 k] [.cells (fillC k k) true] fun r hp' => r = .tup [i64A 0, .v (.bool true)] ∧ hp' = [.cells (fillC k k) true] := fun h => by
  have := all34 (p := fun _ => true) (plainH_cons (Or.inl ⟨_, _, rfl⟩) plainH_nil) S3clean rfl (fill_rd k) (by omega) (fun t ht => by rw [List.eq_of_mem_replicate ht]; exact tokA_ok) (fun t ht => by rw [List.eq_of_mem_replicate ht]; exact rightA hG)
  have ha : (List.replicate k tokA).all (fun _ => true) = true := by simp
  rw [ha] at this
  exact this

theorem buildQ (d : Nat) (hd : d < 60) {hp : List Blk} {qv : AV} (hq : Appd hp qv ((rowQ d).map Tok.av) 12 32) : ∃ q0, ImpC qv q0 ∧ PureSpec G Tryz.prog 16 [S3, q0] (buildAV true (rowQ d)) := by
  have hlen : (rowQ d).length = 2 * d := by simp [rowQ]; omega
  obtain ⟨q0, h0, hsl⟩ : ∃ q0, ImpC qv q0 ∧ Slc q0 ((rowQ d).map Tok.av) := by
    rcases hq with ⟨rfl, e⟩ | ⟨id, rfl, _⟩
    · exact ⟨.nsl, impC_nsl, Or.inr ⟨rfl, e⟩⟩
    · refine ⟨.sl ((rowQ d).map Tok.av) .no, clean_sl fun x hx c hc => ?_, Or.inl rfl⟩
      obtain ⟨t, _, rfl⟩ := List.mem_map.1 hx
      exact clean_tokC t c hc
  refine ⟨q0, h0, ?_⟩
  have hA := all34 (hb := []) (p := fun _ => true) plainH_nil S3clean rfl (Or.inl hsl) (by omega) rowQ_ok (fun t ht => by
    rcases rowQ_mem ht with rfl | rfl
    · exact rightQ hG
    · exact rightC hG)
  have ha : (rowQ d).all (fun _ => true) = true := by simp
  rw [ha] at hA
  have hB := build16 (hb := []) (fun b hb => by cases hb) (Or.inl hsl) rowQ_ok (fun _ => hA)
  exact pureSpec_close (CallOk.mono hB fun r hp' h => by
    rw [h.1]
    exact (fz_build true (rowQ d)).done)

theorem law3 (n deep : Nat) : PureSpec G Tryz.prog 3 [.v (.int .u32 n), .v (.int .u8 deep)] (.v (.bool true)) := by
  refine pureSpec_close (fnE mixed T3 U3 (Nat.le_of_ble_eq_true rfl) ?_)
  unfold c3
  simp -failIfUnchanged -implicitDefEqProofs (disch := first | assumption | decide | omega) only [wkA, instrE, astepE, evE, evsE, evoE, evpE, elook, econs, eonly, putE, argE, pickE, resE, rsE, rE, Option.bind_some, Option.bind_none, Option.map_some, Option.map_none, ↓reduceIte, Nat.reduceEqDiff, Nat.reduceAdd, Nat.zero_add, Nat.add_zero, Nat.reduceLT, Nat.reduceLeDiff, Bool.false_eq_true]
  refine CallOk.pure (new3 hG) (impCs_cons (clean_v _) impCs_nil) ?_
  have x0 : ∀ a b, aext 0 (.tup [a, b]) = some a := fun _ _ => rfl
  have x1 : ∀ a b, aext 1 (.tup [a, b]) = some b := fun _ _ => rfl
  have b0 : ((0 : Int) != 0) = false := rfl
  obtain ⟨k, hk⟩ : ∃ k, k = n % 30000 := ⟨_, rfl⟩
  have hk3 : k < 30000 := by omega
  have r1 : ((n : Int).tmod 30000) = (k : Int) := by rw [hk]; rfl
  have w1 : IntKind.i64.wrap (k : Int) = (k : Int) := wrap_i64 (by omega) (by omega)
  have m1 : amks [] 12 48 z12 (.v (.int .i64 (k : Int))) (.v (.int .i64 (k : Int))) = some (.rs 0 (k * 12) 12 0 k, [.cells (fillC 0 k) true]) := by
    unfold amks
    dsimp only
    rw [if_pos ⟨by omega, by omega, by omega, by omega, rfl, by decide⟩]
    simp [fillC]
  have f1 : afill z12 [(0, 1, .v (.int .i64 4)), (3, 1, .v (.int .i32 97))] = some tokA.cells := rfl
  simp only [z12, z13, List.take_succ_cons, List.take_zero] at m1 f1
  have rm : abin .rem (.v (.int .u32 n)) (.v (.int .u32 30000)) = some (.v (.int .u32 (k : Int))) := by rw [abin_rem _ _ _ (by decide), r1]
  simp -failIfUnchanged -implicitDefEqProofs (disch := first | assumption | decide | omega) only [wkA, instrE, astepE, evE, evsE, evoE, evpE, elook, econs, eonly, putE, argE, pickE, resE, rsE, rE, Option.bind_some, Option.bind_none, Option.map_some, Option.map_none, ↓reduceIte, Nat.reduceEqDiff, Nat.reduceAdd, Nat.zero_add, Nat.add_zero, Nat.reduceLT, Nat.reduceLeDiff, Bool.false_eq_true, x0, x1, b0, rm, w1, m1]
  refine wpE_count (fun i e hp => e = [(1, .v (.int .u8 deep)), (5, S3), (7, i64A k), (8, .rs 0 (k * 12) 12 0 k), (9, i64A i)] ∧ hp = [.cells (fillC i k) true]) k ⟨rfl, rfl⟩ ?_ ?_
  · rintro i e hp hi ⟨rfl, rfl⟩
    have d1 : decide ((i : Int) < (k : Int)) = true := by simp; omega
    have w2 : IntKind.i64.wrap ((i : Int) + 1) = ((i + 1 : Nat) : Int) := by rw [wrap_i64 (by omega) (by omega)]; rfl
    have a1 := rs_ia (k := 0) (m := k * 12) (n := 12) (len := k) (j := i) hi
    have s1 : astore [.cells (fillC i k) true] 12 (.rp 0 (k * 12) (i * 12)) (.agg tokA.cells) = some [.cells (fillC (i + 1) k) true] := by
      have hl := fillC_len (show i ≤ k by omega)
      show (if k * 12 = (fillC i k).length then astoreAt [.cells (fillC i k) true] 0 true (fillC i k) 12 (i * 12) (.agg tokA.cells) else none) = _
      rw [if_pos hl.symm]
      unfold astoreAt
      rw [if_pos ⟨rfl, by rw [hl]; omega, rfl⟩]
      have := fill_put hi
      show some [Blk.cells (putAt (fillC i k) (i * 12) tokA.cells) true] = _
      rw [this]
    simp -failIfUnchanged -implicitDefEqProofs (disch := first | assumption | decide | omega) only [wkA, instrE, astepE, evE, evsE, evoE, evpE, elook, econs, eonly, putE, argE, pickE, resE, rsE, rE, Option.bind_some, Option.bind_none, Option.map_some, Option.map_none, ↓reduceIte, Nat.reduceEqDiff, Nat.reduceAdd, Nat.zero_add, Nat.add_zero, Nat.reduceLT, Nat.reduceLeDiff, Bool.false_eq_true, i64A, d1, w2, a1, f1, s1]
    exact ⟨trivial, trivial⟩
  · rintro e hp ⟨rfl, rfl⟩
    have d1 : decide ((k : Int) < (k : Int)) = false := by simp
    have hbc : CellsH [Blk.cells (fillC k k) true] := fun b hb => ⟨_, _, List.mem_singleton.1 hb⟩
    simp -failIfUnchanged -implicitDefEqProofs (disch := first | assumption | decide | omega) only [wkA, instrE, astepE, evE, evsE, evoE, evpE, elook, econs, eonly, putE, argE, pickE, resE, rsE, rE, Option.bind_some, Option.bind_none, Option.map_some, Option.map_none, ↓reduceIte, Nat.reduceEqDiff, Nat.reduceAdd, Nat.zero_add, Nat.add_zero, Nat.reduceLT, Nat.reduceLeDiff, Bool.false_eq_true, i64A, d1]
    refine CallOk.mono (build16 hbc (fill_rd k) (fun t ht => by rw [List.eq_of_mem_replicate ht]; exact tokA_ok) (allA hG k)) ?_
    rintro _ hp' ⟨rfl, hh⟩
    rw [hh]
    clear hh
    obtain ⟨x, e, hb, hs⟩ : ∃ x e, buildAV true (List.replicate k tokA) = .tup [x, okAV e] ∧ ((e = 0 ∧ k ≤ 20000 ∧ Abs.Clean x ∧ PureSpec G Tryz.prog 17 [x] (i64A ((k + 2 : Nat) : Int))) ∨ (e = 4 ∧ 20000 < k)) := by
      unfold buildAV
      rw [List.length_replicate]
      by_cases h : 20000 < k
      · rw [if_pos h]
        exact ⟨_, _, rfl, Or.inr ⟨rfl, h⟩⟩
      · rw [if_neg h, if_pos rfl]
        cases k with
        | zero =>
          refine ⟨_, _, rfl, Or.inl ⟨rfl, by omega, clean_tree _, ?_⟩⟩
          exact size17 (t := .node rootTok []) ⟨rfl, trivial⟩
        | succ j =>
          rw [build_row]
          refine ⟨_, _, rfl, Or.inl ⟨rfl, by omega, clean_tree _, ?_⟩⟩
          have := size17 (G := G) (t := .node rootTok [.text tokA.bare (List.replicate (j + 1) 97)]) ⟨rfl, rfl, trivial⟩
          have e : (T.node rootTok [.text tokA.bare (List.replicate (j + 1) 97)]).size = j + 1 + 2 := by
            simp only [T.size, sizes, List.length_replicate]; omega
          rw [e] at this
          exact this
    rw [hb]
    rcases hs with ⟨rfl, hk2, hx, hs⟩ | ⟨rfl, hk2⟩
    · have d3 : decide ((k : Int) ≤ 20000) = true := by simp; omega
      have c0 : ((0 : Int) == 0) = true := rfl
      have q0 : aeqb true (.v (.bool true)) (.v (.bool true)) = some (.v (.bool false)) := rfl
      simp -failIfUnchanged -implicitDefEqProofs (disch := first | assumption | decide | omega) only [wkA, instrE, astepE, evE, evsE, evoE, evpE, elook, econs, eonly, putE, argE, pickE, resE, rsE, rE, Option.bind_some, Option.bind_none, Option.map_some, Option.map_none, ↓reduceIte, Nat.reduceEqDiff, Nat.reduceAdd, Nat.zero_add, Nat.add_zero, Nat.reduceLT, Nat.reduceLeDiff, Bool.false_eq_true, x0, x1, okAV, d3, c0, q0, b0, BoolCase_true, BoolCase_false]
      refine CallOk.pure hs (impCs_cons hx impCs_nil) ?_
      have w6 : IntKind.i64.wrap ((k : Int) + 2) = ((k + 2 : Nat) : Int) := by rw [wrap_i64 (by omega) (by omega)]; rfl
      have c1 : (((k + 2 : Nat) : Int) != ((k + 2 : Nat) : Int)) = false := by simp
      simp -failIfUnchanged -implicitDefEqProofs (disch := first | assumption | decide | omega) only [wkA, instrE, astepE, evE, evsE, evoE, evpE, elook, econs, eonly, putE, argE, pickE, resE, rsE, rE, Option.bind_some, Option.bind_none, Option.map_some, Option.map_none, ↓reduceIte, Nat.reduceEqDiff, Nat.reduceAdd, Nat.zero_add, Nat.add_zero, Nat.reduceLT, Nat.reduceLeDiff, Bool.false_eq_true, i64A, w6, c1, b0, BoolCase_true, BoolCase_false]
      obtain ⟨d, hd⟩ : ∃ d, d = deep % 60 := ⟨_, rfl⟩
      have hd3 : d < 60 := by omega
      have r2 : ((deep : Int).tmod 60) = (d : Int) := by rw [hd]; rfl
      have rm2 : abin .rem (.v (.int .u8 deep)) (.v (.int .u8 60)) = some (.v (.int .u8 (d : Int))) := by rw [abin_rem _ _ _ (by decide), r2]
      have w7 : IntKind.i64.wrap (d : Int) = (d : Int) := wrap_i64 (by omega) (by omega)
      have w8 : IntKind.i64.wrap (2 * (d : Int)) = ((2 * d : Nat) : Int) := by rw [wrap_i64 (by omega) (by omega)]; omega
      have f2 : afill z12 [(0, 1, .v (.int .i64 1)), (1, 1, .v (.int .i64 2))] = some tokQ.cells := rfl
      have f3 : afill z12 [(0, 1, .v (.int .i64 2))] = some closeTok.cells := rfl
      simp only [z12, z13, List.take_succ_cons, List.take_zero] at f2 f3
      have g2 := absl12 tokQ_ok
      have g3 := absl12 tokC_ok
      have hlen : (rowQ d).length = 2 * d := by simp [rowQ]; omega
      simp -failIfUnchanged -implicitDefEqProofs (disch := first | assumption | decide | omega) only [wkA, instrE, astepE, evE, evsE, evoE, evpE, elook, econs, eonly, putE, argE, pickE, resE, rsE, rE, Option.bind_some, Option.bind_none, Option.map_some, Option.map_none, ↓reduceIte, Nat.reduceEqDiff, Nat.reduceAdd, Nat.zero_add, Nat.add_zero, Nat.reduceLT, Nat.reduceLeDiff, Bool.false_eq_true, rm2, r2, w7]
      refine wpE_count (fun i e hp => ∃ qv, e = [(5, S3), (11, qv), (12, i64A d), (13, i64A i)] ∧ Appd hp qv (((rowQ d).take i).map Tok.av) 12 32) (2 * d) ⟨.nsl, rfl, Or.inl ⟨rfl, rfl⟩⟩ ?_ ?_
      · rintro i e hp hi ⟨qv, rfl, hq⟩
        have d1 : decide ((i : Int) < ((2 * d : Nat) : Int)) = true := by simp; omega
        have w2 : IntKind.i64.wrap ((i : Int) + 1) = ((i + 1 : Nat) : Int) := by rw [wrap_i64 (by omega) (by omega)]; rfl
        have hsub : ∀ t ∈ (rowQ d).take i, t.Ok := fun t ht => rowQ_ok t (List.mem_of_mem_take ht)
        have hle : ((rowQ d).take i).length ≤ 100000 := by rw [List.length_take]; omega
        by_cases hid : i < d
        · have d2 : decide ((i : Int) < (d : Int)) = true := by simp; omega
          obtain ⟨v', hp', p1, p2⟩ := push_tok hq hsub tokQ_ok hle
          have ht : (rowQ d)[i]? = some tokQ := by
            rw [rowQ, List.getElem?_append_left (by simpa using hid), List.getElem?_replicate, if_pos hid]
          have hts : (rowQ d).take i ++ [tokQ] = (rowQ d).take (i + 1) := by rw [List.take_add_one, ht]; rfl
          rw [hts] at p2
          simp -failIfUnchanged -implicitDefEqProofs (disch := first | assumption | decide | omega) only [wkA, instrE, astepE, evE, evsE, evoE, evpE, elook, econs, eonly, putE, argE, pickE, resE, rsE, rE, Option.bind_some, Option.bind_none, Option.map_some, Option.map_none, ↓reduceIte, Nat.reduceEqDiff, Nat.reduceAdd, Nat.zero_add, Nat.add_zero, Nat.reduceLT, Nat.reduceLeDiff, Bool.false_eq_true, i64A, d1, d2, w8, w2, f2, g2, p1, BoolCase_true]
          exact ⟨v', rfl, p2⟩
        · have d2 : decide ((i : Int) < (d : Int)) = false := by simp; omega
          obtain ⟨v', hp', p1, p2⟩ := push_tok hq hsub tokC_ok hle
          have ht : (rowQ d)[i]? = some closeTok := by
            rw [rowQ, List.getElem?_append_right (by simp; omega), List.length_replicate, List.getElem?_replicate, if_pos (by omega)]
          have hts : (rowQ d).take i ++ [closeTok] = (rowQ d).take (i + 1) := by rw [List.take_add_one, ht]; rfl
          rw [hts] at p2
          simp -failIfUnchanged -implicitDefEqProofs (disch := first | assumption | decide | omega) only [wkA, instrE, astepE, evE, evsE, evoE, evpE, elook, econs, eonly, putE, argE, pickE, resE, rsE, rE, Option.bind_some, Option.bind_none, Option.map_some, Option.map_none, ↓reduceIte, Nat.reduceEqDiff, Nat.reduceAdd, Nat.zero_add, Nat.add_zero, Nat.reduceLT, Nat.reduceLeDiff, Bool.false_eq_true, i64A, d1, d2, w8, w2, f3, g3, p1, BoolCase_false]
          exact ⟨v', rfl, p2⟩
      · rintro e hp ⟨qv, rfl, hq⟩
        have d1 : decide (((2 * d : Nat) : Int) < ((2 * d : Nat) : Int)) = false := by simp
        rw [List.take_of_length_le (by omega)] at hq
        simp -failIfUnchanged -implicitDefEqProofs (disch := first | assumption | decide | omega) only [wkA, instrE, astepE, evE, evsE, evoE, evpE, elook, econs, eonly, putE, argE, pickE, resE, rsE, rE, Option.bind_some, Option.bind_none, Option.map_some, Option.map_none, ↓reduceIte, Nat.reduceEqDiff, Nat.reduceAdd, Nat.zero_add, Nat.add_zero, Nat.reduceLT, Nat.reduceLeDiff, Bool.false_eq_true, i64A, d1, w8]
        obtain ⟨q0, hq1, hq2⟩ := buildQ hG d hd3 hq
        refine CallOk.pure hq2 (impCs_cons S3clean (impCs_cons hq1 impCs_nil)) ?_
        have w9 : IntKind.i64.wrap ((d : Int) + 1) = ((d + 1 : Nat) : Int) := by rw [wrap_i64 (by omega) (by omega)]; rfl
        by_cases h4 : d ≤ 40
        · have e1 : buildAV true (rowQ d) = .tup [(T.node rootTok (nestT d)).av, okAV 0] := by
            unfold buildAV
            rw [if_neg (by omega), if_pos rfl, build_nest h4]
          have d5 : decide ((d : Int) ≤ 40) = true := by simp; omega
          have c0 : ((0 : Int) == 0) = true := rfl
          have q1 : aeqb false (.v (.bool true)) (.v (.bool true)) = some (.v (.bool true)) := rfl
          have h7 : (T.node rootTok (nestT d)).height = d + 1 := by simp only [T.height, nest_height]
          rw [e1]
          simp -failIfUnchanged -implicitDefEqProofs (disch := first | assumption | decide | omega) only [wkA, instrE, astepE, evE, evsE, evoE, evpE, elook, econs, eonly, putE, argE, pickE, resE, rsE, rE, Option.bind_some, Option.bind_none, Option.map_some, Option.map_none, ↓reduceIte, Nat.reduceEqDiff, Nat.reduceAdd, Nat.zero_add, Nat.add_zero, Nat.reduceLT, Nat.reduceLeDiff, Bool.false_eq_true, x0, x1, okAV, d5, c0, q1, BoolCase_true, BoolCase_false]
          refine CallOk.pure (height18 (t := .node rootTok (nestT d)) ⟨rfl, nest_wf d⟩) (impCs_cons (clean_tree _) impCs_nil) ?_
          have c1 : (((d + 1 : Nat) : Int) == ((d + 1 : Nat) : Int)) = true := by simp
          simp -failIfUnchanged -implicitDefEqProofs (disch := first | assumption | decide | omega) only [wkA, instrE, astepE, evE, evsE, evoE, evpE, elook, econs, eonly, putE, argE, pickE, resE, rsE, rE, Option.bind_some, Option.bind_none, Option.map_some, Option.map_none, ↓reduceIte, Nat.reduceEqDiff, Nat.reduceAdd, Nat.zero_add, Nat.add_zero, Nat.reduceLT, Nat.reduceLeDiff, Bool.false_eq_true, i64A, h7, w9, c1, BoolCase_true, BoolCase_false]
          refine CallOk.pure (live14 hG) impCs_nil ?_
          simp -failIfUnchanged -implicitDefEqProofs (disch := first | assumption | decide | omega) only [wkA, instrE, astepE, evE, evsE, evoE, evpE, elook, econs, eonly, putE, argE, pickE, resE, rsE, rE, Option.bind_some, Option.bind_none, Option.map_some, Option.map_none, ↓reduceIte, Nat.reduceEqDiff, Nat.reduceAdd, Nat.zero_add, Nat.add_zero, Nat.reduceLT, Nat.reduceLeDiff, Bool.false_eq_true]
          exact (Fz.v _).done
        · have e1 : buildAV true (rowQ d) = .tup [.v (.pointer none), okAV 12] := by
            unfold buildAV
            rw [if_neg (by omega), if_pos rfl, build_deep (by omega)]
          have d5 : decide ((d : Int) ≤ 40) = false := by simp; omega
          have c0 : ((12 : Int) == 0) = false := rfl
          have c2 : ((12 : Int) == 12) = true := rfl
          have q1 : aeqb false (.v (.bool false)) (.v (.bool false)) = some (.v (.bool true)) := rfl
          rw [e1]
          simp -failIfUnchanged -implicitDefEqProofs (disch := first | assumption | decide | omega) only [wkA, instrE, astepE, evE, evsE, evoE, evpE, elook, econs, eonly, putE, argE, pickE, resE, rsE, rE, Option.bind_some, Option.bind_none, Option.map_some, Option.map_none, ↓reduceIte, Nat.reduceEqDiff, Nat.reduceAdd, Nat.zero_add, Nat.add_zero, Nat.reduceLT, Nat.reduceLeDiff, Bool.false_eq_true, x0, x1, okAV, d5, c0, c2, q1, BoolCase_true, BoolCase_false]
          refine CallOk.pure (live14 hG) impCs_nil ?_
          simp -failIfUnchanged -implicitDefEqProofs (disch := first | assumption | decide | omega) only [wkA, instrE, astepE, evE, evsE, evoE, evpE, elook, econs, eonly, putE, argE, pickE, resE, rsE, rE, Option.bind_some, Option.bind_none, Option.map_some, Option.map_none, ↓reduceIte, Nat.reduceEqDiff, Nat.reduceAdd, Nat.zero_add, Nat.add_zero, Nat.reduceLT, Nat.reduceLeDiff, Bool.false_eq_true]
          exact (Fz.v _).done
    · have d3 : decide ((k : Int) ≤ 20000) = false := by simp; omega
      have c0 : ((4 : Int) == 0) = false := rfl
      have c3 : ((4 : Int) != 0) = true := rfl
      have c4 : ((4 : Int) != 4) = false := rfl
      have q0 : aeqb true (.v (.bool false)) (.v (.bool false)) = some (.v (.bool false)) := rfl
      simp -failIfUnchanged -implicitDefEqProofs (disch := first | assumption | decide | omega) only [wkA, instrE, astepE, evE, evsE, evoE, evpE, elook, econs, eonly, putE, argE, pickE, resE, rsE, rE, Option.bind_some, Option.bind_none, Option.map_some, Option.map_none, ↓reduceIte, Nat.reduceEqDiff, Nat.reduceAdd, Nat.zero_add, Nat.add_zero, Nat.reduceLT, Nat.reduceLeDiff, Bool.false_eq_true, x0, x1, okAV, d3, c0, c3, c4, q0, BoolCase_true, BoolCase_false]
      obtain ⟨d, hd⟩ : ∃ d, d = deep % 60 := ⟨_, rfl⟩
      have hd3 : d < 60 := by omega
      have r2 : ((deep : Int).tmod 60) = (d : Int) := by rw [hd]; rfl
      have rm2 : abin .rem (.v (.int .u8 deep)) (.v (.int .u8 60)) = some (.v (.int .u8 (d : Int))) := by rw [abin_rem _ _ _ (by decide), r2]
      have w7 : IntKind.i64.wrap (d : Int) = (d : Int) := wrap_i64 (by omega) (by omega)
      have w8 : IntKind.i64.wrap (2 * (d : Int)) = ((2 * d : Nat) : Int) := by rw [wrap_i64 (by omega) (by omega)]; omega
      have f2 : afill z12 [(0, 1, .v (.int .i64 1)), (1, 1, .v (.int .i64 2))] = some tokQ.cells := rfl
      have f3 : afill z12 [(0, 1, .v (.int .i64 2))] = some closeTok.cells := rfl
      simp only [z12, z13, List.take_succ_cons, List.take_zero] at f2 f3
      have g2 := absl12 tokQ_ok
      have g3 := absl12 tokC_ok
      have hlen : (rowQ d).length = 2 * d := by simp [rowQ]; omega
      simp -failIfUnchanged -implicitDefEqProofs (disch := first | assumption | decide | omega) only [wkA, instrE, astepE, evE, evsE, evoE, evpE, elook, econs, eonly, putE, argE, pickE, resE, rsE, rE, Option.bind_some, Option.bind_none, Option.map_some, Option.map_none, ↓reduceIte, Nat.reduceEqDiff, Nat.reduceAdd, Nat.zero_add, Nat.add_zero, Nat.reduceLT, Nat.reduceLeDiff, Bool.false_eq_true, rm2, r2, w7]
      refine wpE_count (fun i e hp => ∃ qv, e = [(5, S3), (11, qv), (12, i64A d), (13, i64A i)] ∧ Appd hp qv (((rowQ d).take i).map Tok.av) 12 32) (2 * d) ⟨.nsl, rfl, Or.inl ⟨rfl, rfl⟩⟩ ?_ ?_
      · rintro i e hp hi ⟨qv, rfl, hq⟩
        have d1 : decide ((i : Int) < ((2 * d : Nat) : Int)) = true := by simp; omega
        have w2 : IntKind.i64.wrap ((i : Int) + 1) = ((i + 1 : Nat) : Int) := by rw [wrap_i64 (by omega) (by omega)]; rfl
        have hsub : ∀ t ∈ (rowQ d).take i, t.Ok := fun t ht => rowQ_ok t (List.mem_of_mem_take ht)
        have hle : ((rowQ d).take i).length ≤ 100000 := by rw [List.length_take]; omega
        by_cases hid : i < d
        · have d2 : decide ((i : Int) < (d : Int)) = true := by simp; omega
          obtain ⟨v', hp', p1, p2⟩ := push_tok hq hsub tokQ_ok hle
          have ht : (rowQ d)[i]? = some tokQ := by
            rw [rowQ, List.getElem?_append_left (by simpa using hid), List.getElem?_replicate, if_pos hid]
          have hts : (rowQ d).take i ++ [tokQ] = (rowQ d).take (i + 1) := by rw [List.take_add_one, ht]; rfl
          rw [hts] at p2
          simp -failIfUnchanged -implicitDefEqProofs (disch := first | assumption | decide | omega) only [wkA, instrE, astepE, evE, evsE, evoE, evpE, elook, econs, eonly, putE, argE, pickE, resE, rsE, rE, Option.bind_some, Option.bind_none, Option.map_some, Option.map_none, ↓reduceIte, Nat.reduceEqDiff, Nat.reduceAdd, Nat.zero_add, Nat.add_zero, Nat.reduceLT, Nat.reduceLeDiff, Bool.false_eq_true, i64A, d1, d2, w8, w2, f2, g2, p1, BoolCase_true]
          exact ⟨v', rfl, p2⟩
        · have d2 : decide ((i : Int) < (d : Int)) = false := by simp; omega
          obtain ⟨v', hp', p1, p2⟩ := push_tok hq hsub tokC_ok hle
          have ht : (rowQ d)[i]? = some closeTok := by
            rw [rowQ, List.getElem?_append_right (by simp; omega), List.length_replicate, List.getElem?_replicate, if_pos (by omega)]
          have hts : (rowQ d).take i ++ [closeTok] = (rowQ d).take (i + 1) := by rw [List.take_add_one, ht]; rfl
          rw [hts] at p2
          simp -failIfUnchanged -implicitDefEqProofs (disch := first | assumption | decide | omega) only [wkA, instrE, astepE, evE, evsE, evoE, evpE, elook, econs, eonly, putE, argE, pickE, resE, rsE, rE, Option.bind_some, Option.bind_none, Option.map_some, Option.map_none, ↓reduceIte, Nat.reduceEqDiff, Nat.reduceAdd, Nat.zero_add, Nat.add_zero, Nat.reduceLT, Nat.reduceLeDiff, Bool.false_eq_true, i64A, d1, d2, w8, w2, f3, g3, p1, BoolCase_false]
          exact ⟨v', rfl, p2⟩
      · rintro e hp ⟨qv, rfl, hq⟩
        have d1 : decide (((2 * d : Nat) : Int) < ((2 * d : Nat) : Int)) = false := by simp
        rw [List.take_of_length_le (by omega)] at hq
        simp -failIfUnchanged -implicitDefEqProofs (disch := first | assumption | decide | omega) only [wkA, instrE, astepE, evE, evsE, evoE, evpE, elook, econs, eonly, putE, argE, pickE, resE, rsE, rE, Option.bind_some, Option.bind_none, Option.map_some, Option.map_none, ↓reduceIte, Nat.reduceEqDiff, Nat.reduceAdd, Nat.zero_add, Nat.add_zero, Nat.reduceLT, Nat.reduceLeDiff, Bool.false_eq_true, i64A, d1, w8]
        obtain ⟨q0, hq1, hq2⟩ := buildQ hG d hd3 hq
        refine CallOk.pure hq2 (impCs_cons S3clean (impCs_cons hq1 impCs_nil)) ?_
        have w9 : IntKind.i64.wrap ((d : Int) + 1) = ((d + 1 : Nat) : Int) := by rw [wrap_i64 (by omega) (by omega)]; rfl
        by_cases h4 : d ≤ 40
        · have e1 : buildAV true (rowQ d) = .tup [(T.node rootTok (nestT d)).av, okAV 0] := by
            unfold buildAV
            rw [if_neg (by omega), if_pos rfl, build_nest h4]
          have d5 : decide ((d : Int) ≤ 40) = true := by simp; omega
          have c0 : ((0 : Int) == 0) = true := rfl
          have q1 : aeqb false (.v (.bool true)) (.v (.bool true)) = some (.v (.bool true)) := rfl
          have h7 : (T.node rootTok (nestT d)).height = d + 1 := by simp only [T.height, nest_height]
          rw [e1]
          simp -failIfUnchanged -implicitDefEqProofs (disch := first | assumption | decide | omega) only [wkA, instrE, astepE, evE, evsE, evoE, evpE, elook, econs, eonly, putE, argE, pickE, resE, rsE, rE, Option.bind_some, Option.bind_none, Option.map_some, Option.map_none, ↓reduceIte, Nat.reduceEqDiff, Nat.reduceAdd, Nat.zero_add, Nat.add_zero, Nat.reduceLT, Nat.reduceLeDiff, Bool.false_eq_true, x0, x1, okAV, d5, c0, q1, BoolCase_true, BoolCase_false]
          refine CallOk.pure (height18 (t := .node rootTok (nestT d)) ⟨rfl, nest_wf d⟩) (impCs_cons (clean_tree _) impCs_nil) ?_
          have c1 : (((d + 1 : Nat) : Int) == ((d + 1 : Nat) : Int)) = true := by simp
          simp -failIfUnchanged -implicitDefEqProofs (disch := first | assumption | decide | omega) only [wkA, instrE, astepE, evE, evsE, evoE, evpE, elook, econs, eonly, putE, argE, pickE, resE, rsE, rE, Option.bind_some, Option.bind_none, Option.map_some, Option.map_none, ↓reduceIte, Nat.reduceEqDiff, Nat.reduceAdd, Nat.zero_add, Nat.add_zero, Nat.reduceLT, Nat.reduceLeDiff, Bool.false_eq_true, i64A, h7, w9, c1, BoolCase_true, BoolCase_false]
          refine CallOk.pure (live14 hG) impCs_nil ?_
          simp -failIfUnchanged -implicitDefEqProofs (disch := first | assumption | decide | omega) only [wkA, instrE, astepE, evE, evsE, evoE, evpE, elook, econs, eonly, putE, argE, pickE, resE, rsE, rE, Option.bind_some, Option.bind_none, Option.map_some, Option.map_none, ↓reduceIte, Nat.reduceEqDiff, Nat.reduceAdd, Nat.zero_add, Nat.add_zero, Nat.reduceLT, Nat.reduceLeDiff, Bool.false_eq_true]
          exact (Fz.v _).done
        · have e1 : buildAV true (rowQ d) = .tup [.v (.pointer none), okAV 12] := by
            unfold buildAV
            rw [if_neg (by omega), if_pos rfl, build_deep (by omega)]
          have d5 : decide ((d : Int) ≤ 40) = false := by simp; omega
          have c0 : ((12 : Int) == 0) = false := rfl
          have c2 : ((12 : Int) == 12) = true := rfl
          have q1 : aeqb false (.v (.bool false)) (.v (.bool false)) = some (.v (.bool true)) := rfl
          rw [e1]
          simp -failIfUnchanged -implicitDefEqProofs (disch := first | assumption | decide | omega) only [wkA, instrE, astepE, evE, evsE, evoE, evpE, elook, econs, eonly, putE, argE, pickE, resE, rsE, rE, Option.bind_some, Option.bind_none, Option.map_some, Option.map_none, ↓reduceIte, Nat.reduceEqDiff, Nat.reduceAdd, Nat.zero_add, Nat.add_zero, Nat.reduceLT, Nat.reduceLeDiff, Bool.false_eq_true, x0, x1, okAV, d5, c0, c2, q1, BoolCase_true, BoolCase_false]
          refine CallOk.pure (live14 hG) impCs_nil ?_
          simp -failIfUnchanged -implicitDefEqProofs (disch := first | assumption | decide | omega) only [wkA, instrE, astepE, evE, evsE, evoE, evpE, elook, econs, eonly, putE, argE, pickE, resE, rsE, rE, Option.bind_some, Option.bind_none, Option.map_some, Option.map_none, ↓reduceIte, Nat.reduceEqDiff, Nat.reduceAdd, Nat.zero_add, Nat.add_zero, Nat.reduceLT, Nat.reduceLeDiff, Bool.false_eq_true]
          exact (Fz.v _).done
end
end Go.Proofs.YtbcmdjlgdnippaaGreatDoor
