/- Nodes made: code 80, 81, 82, walked. No condition. -/
import Derived.Test.YtbcmdjlgdnippaaGreatDoorM2
import Derived.Test.YtbcmdjlgdnippaaGreatDoorX8
import Derived.Test.YtbcmdjlgdnippaaGreatDoorQ0
import Derived.Test.YtbcmdjlgdnippaaGreatDoorY3
set_option linter.unusedVariables false
set_option linter.unusedSimpArgs false
namespace Go.Proofs.YtbcmdjlgdnippaaGreatDoor
open Go Go.Abs Go.RowKit

def z16 : List AV := [.v (.int .i64 0), .v (.int .i64 0), .v (.int .i64 0), .v (.int .i32 0), .v (.int .u16 0), .v (.int .u16 0), .v (.int .u16 0), .v (.int .u16 0), .v (.int .u16 0), .v (.int .u16 0), .v (.int .u16 0), .v (.int .u16 0), .nsl, .nsl, .v (.int .i64 0), .v (.int .i64 0)]

theorem tok12 {h : Tok} (ho : h.Ok) : h.cells.length = 12 := by simp [Tok.cells, ho.len]
theorem tok_cut {h : Tok} (ho : h.Ok) : ∃ c0 c1 c2 c3 c4 c5 c6 c7 c8 c9 c10 c11, h.cells = [c0, c1, c2, c3, c4, c5, c6, c7, c8, c9, c10, c11] := by
  have := tok12 ho
  match h.cells, this with
  | [c0, c1, c2, c3, c4, c5, c6, c7, c8, c9, c10, c11], _ => exact ⟨c0, c1, c2, c3, c4, c5, c6, c7, c8, c9, c10, c11, rfl⟩
theorem load_tok {h : Tok} (ho : h.Ok) (r : List AV) : pick1 true 12 (h.cells ++ r) 0 = some h.av := by
  obtain ⟨c0, c1, c2, c3, c4, c5, c6, c7, c8, c9, c10, c11, e⟩ := tok_cut ho
  simp only [Tok.av, e]; rfl
theorem load_tok0 {h : Tok} (ho : h.Ok) : pick1 true 12 h.cells 0 = some h.av := by
  have := load_tok ho []
  rwa [List.append_nil] at this

theorem fz_tok {hp : List Blk} (h : Tok) : FzL hp h.cells h.cells := by
  refine FzL.each fun a ha => ?_
  simp only [Tok.cells, List.mem_cons, List.mem_map] at ha
  rcases ha with rfl | rfl | rfl | rfl | ⟨x, _, rfl⟩ <;> exact Fz.v _
theorem fz_runes {hp : List Blk} (r : List Int) {t : Tail} : Fz hp (.sl (r.map i32A) t) (.sl (r.map i32A) .no) := Fz.sl (FzL.map fun a _ => Fz.v _)

mutual
theorem fz_tree {hp : List Blk} : ∀ t : T, Fz hp t.av t.av
  | .node h ks => by
    rw [T.av]
    exact Fz.fp (FzL.append (fz_tok h) (FzL.cons Fz.nsl (FzL.cons (fz_kids ks) (FzL.cons (Fz.v _) (FzL.cons (Fz.v _) FzL.nil)))))
  | .leaf h => by
    rw [T.av]
    exact Fz.fp (FzL.append (fz_tok h) (FzL.cons Fz.nsl (FzL.cons Fz.nsl (FzL.cons (Fz.v _) (FzL.cons (Fz.v _) FzL.nil)))))
  | .text h r => by
    rw [T.av]
    exact Fz.fp (FzL.append (fz_tok h) (FzL.cons (fz_runes r) (FzL.cons Fz.nsl (FzL.cons (Fz.v _) (FzL.cons (Fz.v _) FzL.nil)))))
theorem fz_trees {hp : List Blk} : ∀ ks : List T, FzL hp (avs ks) (avs ks)
  | [] => FzL.nil
  | k :: r => by
    rw [avs]
    exact FzL.cons (fz_tree k) (fz_trees r)
theorem fz_kids {hp : List Blk} : ∀ ks : List T, Fz hp (kidsAV (avs ks)) (kidsAV (avs ks))
  | [] => Fz.nsl
  | k :: r => by
    rw [avs, kidsAV]
    · exact Fz.sl (FzL.cons (fz_tree k) (fz_trees r))
    · exact fun h => by cases h
end

theorem leaf81 {G : Cells} {h : Tok} (ho : h.Ok) : PureSpec G Tryz.prog 81 [h.av] (T.leaf h).av := by
  refine pureSpec_close (fnE mixed T81 U81 (Nat.le_of_ble_eq_true rfl) ?_)
  unfold c81
  have hl : aload ([] ++ [Blk.cells h.av.cells false]) true 12 (.mp ([] : List Blk).length 0) = some h.av := load_tok0 ho
  have hf : afill z16 [(0, 12, h.av), (14, 1, .v (.int .i64 1)), (15, 1, .v (.int .i64 1))] = some (h.cells ++ [.nsl, .nsl, i64A 1, i64A 1]) := by
    obtain ⟨c0, c1, c2, c3, c4, c5, c6, c7, c8, c9, c10, c11, e⟩ := tok_cut ho
    simp only [Tok.av, e]; rfl
  unfold z16 at hf
  simp -failIfUnchanged -implicitDefEqProofs (disch := first | assumption | decide | omega) only [wkA, instrE, astepE, evE, evsE, evoE, evpE, elook, econs, eonly, putE, argE, pickE, resE, rsE, rE, Option.bind_some, Option.bind_none, Option.map_some, Option.map_none, ↓reduceIte, Nat.reduceEqDiff, Nat.reduceAdd, Nat.zero_add, Nat.add_zero, Nat.reduceLT, Nat.reduceLeDiff, Bool.false_eq_true, hl, hf]
  exact (Fz.mp rfl (FzL.append (fz_tok h) (FzL.cons Fz.nsl (FzL.cons Fz.nsl (FzL.cons (Fz.v _) (FzL.cons (Fz.v _) FzL.nil)))))).done


theorem bare_ok {h : Tok} (ho : h.Ok) : (Tok.bare h).Ok := ⟨ho.hk, ho.ht, ho.ha, ⟨by show (-2147483648 : Int) ≤ 0; decide, by show (0 : Int) ≤ 2147483647; decide⟩, ho.len, ho.hm⟩

theorem letters82 {G : Cells} {h : Tok} (ho : h.Ok) (r : List Int) : PureSpec G Tryz.prog 82 [h.av, .sl (r.map i32A) .no] (T.text (Tok.bare h) r).av := by
  refine pureSpec_close (fnE mixed T82 U82 (Nat.le_of_ble_eq_true rfl) ?_)
  unfold c82
  have hs : astore ([] ++ [Blk.cells h.av.cells false]) 1 (.mp ([] : List Blk).length (0 + 3)) (.v (.int .i32 0)) = some ([] ++ [Blk.cells (Tok.bare h).av.cells false]) := by
    obtain ⟨k, t, a, x, m⟩ := h
    rfl
  have hl : aload ([] ++ [Blk.cells (Tok.bare h).av.cells false]) true 12 (.mp ([] : List Blk).length 0) = some (Tok.bare h).av := load_tok0 (bare_ok ho)
  have hf : afill z16 [(0, 12, (Tok.bare h).av), (12, 1, .sl (r.map i32A) .no), (14, 1, .v (.int .i64 r.length)), (15, 1, .v (.int .i64 1))] = some ((Tok.bare h).cells ++ [.sl (r.map i32A) .no, .nsl, i64A r.length, i64A 1]) := by
    obtain ⟨c0, c1, c2, c3, c4, c5, c6, c7, c8, c9, c10, c11, e⟩ := tok_cut (bare_ok ho)
    simp only [Tok.av, e]; rfl
  unfold z16 at hf
  simp -failIfUnchanged -implicitDefEqProofs (disch := first | assumption | decide | omega) only [wkA, instrE, astepE, evE, evsE, evoE, evpE, elook, econs, eonly, putE, argE, pickE, resE, rsE, rE, Option.bind_some, Option.bind_none, Option.map_some, Option.map_none, ↓reduceIte, Nat.reduceEqDiff, Nat.reduceAdd, Nat.zero_add, Nat.add_zero, Nat.reduceLT, Nat.reduceLeDiff, Bool.false_eq_true, hs, hl, hf, goInt, List.length_map]
  exact (Fz.mp rfl (FzL.append (fz_tok _) (FzL.cons (fz_runes r) (FzL.cons Fz.nsl (FzL.cons (Fz.v _) (FzL.cons (Fz.v _) FzL.nil)))))).done

theorem slc_kids (ks : List T) : Slc (kidsAV (avs ks)) (avs ks) := by
  cases ks with
  | nil => exact Or.inr ⟨rfl, rfl⟩
  | cons k r => exact Or.inl (by rw [avs, kidsAV]; exact fun h => by cases h)

theorem max2 (a b : Nat) : amm true [.v (.int .i64 (a : Int)), .v (.int .i64 (b : Int))] = some (.v (.int .i64 ((max a b : Nat) : Int))) := by
  simp only [amm, ammL, amm2, Option.bind_some, if_true]
  congr 3
  split <;> omega

theorem inner80 {G : Cells} {h : Tok} (ho : h.Ok) {ks : List T} (hk : ∀ k ∈ ks, k.wf) (hb : sizes ks ≤ 4611686018427387904) (hn : ks.length ≤ 4611686018427387904) : PureSpec G Tryz.prog 80 [h.av, kidsAV (avs ks)] (T.node h ks).av := by
  refine pureSpec_close (fnE mixed T80 U80 (Nat.le_of_ble_eq_true rfl) ?_)
  unfold c80
  obtain ⟨c0, c1, c2, c3, c4, c5, c6, c7, c8, c9, c10, c11, e⟩ := tok_cut ho
  have hl : aload ([] ++ [Blk.cells h.av.cells false]) true 12 (.mp ([] : List Blk).length 0) = some h.av := load_tok0 ho
  have hv := slc_kids ks
  have hf : afill z16 [(0, 12, h.av), (13, 1, kidsAV (avs ks)), (14, 1, .v (.int .i64 2))] = some [c0, c1, c2, c3, c4, c5, c6, c7, c8, c9, c10, c11, .nsl, kidsAV (avs ks), i64A 2, i64A 0] := by
    simp only [Tok.av, e]
    have hc : (kidsAV (avs ks)).cells = [kidsAV (avs ks)] := by rcases hv with q | ⟨q, _⟩ <;> rw [q] <;> rfl
    unfold z16 afill
    rw [if_pos ⟨rfl, of_decide_eq_true rfl⟩]
    unfold afill
    rw [if_pos ⟨by rw [hc]; rfl, of_decide_eq_true rfl⟩, hc]
    rfl
  unfold z16 at hf
  simp -failIfUnchanged -implicitDefEqProofs (disch := first | assumption | decide | omega) only [wkA, instrE, astepE, evE, evsE, evoE, evpE, elook, econs, eonly, putE, argE, pickE, resE, rsE, rE, Option.bind_some, Option.bind_none, Option.map_some, Option.map_none, ↓reduceIte, Nat.reduceEqDiff, Nat.reduceAdd, Nat.zero_add, Nat.add_zero, Nat.reduceLT, Nat.reduceLeDiff, Bool.false_eq_true, hl, hf, hv.lenStep, goInt, avs_length]
  refine wpE_count (fun i e hp => e = [(5, .mp 1 0), (12, kidsAV (avs ks)), (13, i64A ks.length), (14, i64A i)] ∧ hp = [.cells h.av.cells false, .cells [c0, c1, c2, c3, c4, c5, c6, c7, c8, c9, c10, c11, .nsl, kidsAV (avs ks), i64A ((2 + sizes (ks.take i) : Nat) : Int), i64A ((heights (ks.take i) : Nat) : Int)] false]) ks.length ⟨rfl, rfl⟩ ?_ ?_
  · rintro i e hp hi ⟨rfl, rfl⟩
    obtain ⟨k, hki⟩ : ∃ k, ks[i]? = some k := ⟨ks[i], List.getElem?_eq_getElem hi⟩
    have hget : (avs ks)[i]? = some k.av := by rw [avs_map]; simp [hki]
    have d1 : decide ((i : Int) < (ks.length : Int)) = true := by simp; omega
    have e1 : aia 1 (kidsAV (avs ks)) (.v (.int .i64 i)) = some (.fp [k.av] 0) := by rw [hv.ia hget (by rw [T.av_cells]; rfl), T.av_cells]
    have l1 : ∀ hp, aload hp false 1 (.fp [k.av] 0) = some k.av := fun hp => aload_fp hp rfl
    obtain ⟨d0, d1', d2, d3, d4, d5, d6, d7, d8, d9, d10, d11, p, q, hav⟩ := T.av_nth (hk k (List.mem_of_getElem? hki))
    have l2 : ∀ hp, aload hp false 1 (.fp [d0, d1', d2, d3, d4, d5, d6, d7, d8, d9, d10, d11, p, q, i64A (k.size : Int), i64A (k.height : Int)] 14) = some (i64A (k.size : Int)) := fun hp => aload_fp hp rfl
    have l3 : ∀ hp, aload hp false 1 (.fp [d0, d1', d2, d3, d4, d5, d6, d7, d8, d9, d10, d11, p, q, i64A (k.size : Int), i64A (k.height : Int)] 15) = some (i64A (k.height : Int)) := fun hp => aload_fp hp rfl
    rw [hav] at e1 l1
    simp only [i64A] at e1 l1 l2 l3
    have l4 : ∀ a b, aload [.cells h.av.cells false, .cells [c0, c1, c2, c3, c4, c5, c6, c7, c8, c9, c10, c11, .nsl, kidsAV (avs ks), a, b] false] false 1 (.mp 1 14) = some a := fun a b => rfl
    have l5 : ∀ a b, aload [.cells h.av.cells false, .cells [c0, c1, c2, c3, c4, c5, c6, c7, c8, c9, c10, c11, .nsl, kidsAV (avs ks), a, b] false] false 1 (.mp 1 15) = some b := fun a b => rfl
    have s4 : ∀ a b n, astore [.cells h.av.cells false, .cells [c0, c1, c2, c3, c4, c5, c6, c7, c8, c9, c10, c11, .nsl, kidsAV (avs ks), a, b] false] 1 (.mp 1 14) (.v (.int .i64 n)) = some [.cells h.av.cells false, .cells [c0, c1, c2, c3, c4, c5, c6, c7, c8, c9, c10, c11, .nsl, kidsAV (avs ks), .v (.int .i64 n), b] false] := fun a b n => rfl
    have s5 : ∀ a b n, astore [.cells h.av.cells false, .cells [c0, c1, c2, c3, c4, c5, c6, c7, c8, c9, c10, c11, .nsl, kidsAV (avs ks), a, b] false] 1 (.mp 1 15) (.v (.int .i64 n)) = some [.cells h.av.cells false, .cells [c0, c1, c2, c3, c4, c5, c6, c7, c8, c9, c10, c11, .nsl, kidsAV (avs ks), a, .v (.int .i64 n)] false] := fun a b n => rfl
    have t1 := sizes_take_succ hki
    have t2 := heights_take_succ hki
    have b1 := sizes_take_le ks (i + 1)
    have w1 : IntKind.i64.wrap (((2 + sizes (ks.take i) : Nat) : Int) + (k.size : Int)) = ((2 + sizes (ks.take (i + 1)) : Nat) : Int) := by rw [wrap_i64 (by omega) (by omega)]; omega
    have w2 : IntKind.i64.wrap ((i : Int) + 1) = ((i + 1 : Nat) : Int) := by rw [wrap_i64 (by omega) (by omega)]; rfl
    have m1 := max2 (heights (ks.take i)) k.height
    rw [← t2] at m1
    simp -failIfUnchanged -implicitDefEqProofs (disch := first | assumption | decide | omega) only [wkA, instrE, astepE, evE, evsE, evoE, evpE, elook, econs, eonly, putE, argE, pickE, resE, rsE, rE, Option.bind_some, Option.bind_none, Option.map_some, Option.map_none, ↓reduceIte, Nat.reduceEqDiff, Nat.reduceAdd, Nat.zero_add, Nat.add_zero, Nat.reduceLT, Nat.reduceLeDiff, Bool.false_eq_true, i64A, d1, e1, l1, l2, l3, l4, l5, s4, s5, anil_mp, anil_fp, w1, w2, m1]
    exact ⟨trivial, trivial⟩
  · rintro e hp ⟨rfl, rfl⟩
    have d1 : decide ((ks.length : Int) < (ks.length : Int)) = false := by simp
    have l5 : ∀ a b, aload [.cells h.av.cells false, .cells [c0, c1, c2, c3, c4, c5, c6, c7, c8, c9, c10, c11, .nsl, kidsAV (avs ks), a, b] false] false 1 (.mp 1 15) = some b := fun a b => rfl
    have s5 : ∀ a b n, astore [.cells h.av.cells false, .cells [c0, c1, c2, c3, c4, c5, c6, c7, c8, c9, c10, c11, .nsl, kidsAV (avs ks), a, b] false] 1 (.mp 1 15) (.v (.int .i64 n)) = some [.cells h.av.cells false, .cells [c0, c1, c2, c3, c4, c5, c6, c7, c8, c9, c10, c11, .nsl, kidsAV (avs ks), a, .v (.int .i64 n)] false] := fun a b n => rfl
    have h1 := heights_le ks
    have w1 : IntKind.i64.wrap ((heights ks : Int) + 1) = ((heights ks + 1 : Nat) : Int) := by rw [wrap_i64 (by omega) (by omega)]; rfl
    simp -failIfUnchanged -implicitDefEqProofs (disch := first | assumption | decide | omega) only [wkA, instrE, astepE, evE, evsE, evoE, evpE, elook, econs, eonly, putE, argE, pickE, resE, rsE, rE, Option.bind_some, Option.bind_none, Option.map_some, Option.map_none, ↓reduceIte, Nat.reduceEqDiff, Nat.reduceAdd, Nat.zero_add, Nat.add_zero, Nat.reduceLT, Nat.reduceLeDiff, Bool.false_eq_true, i64A, d1, List.take_length, l5, s5, anil_mp, w1]
    refine (Fz.mp rfl ?_).done
    have := FzL.append (hp := [.cells h.av.cells false, .cells [c0, c1, c2, c3, c4, c5, c6, c7, c8, c9, c10, c11, .nsl, kidsAV (avs ks), .v (.int .i64 ((2 + sizes ks : Nat) : Int)), .v (.int .i64 ((heights ks + 1 : Nat) : Int))] false]) (fz_tok h) (FzL.cons Fz.nsl (FzL.cons (fz_kids ks) (FzL.cons (Fz.v (.int .i64 ((2 + sizes ks : Nat) : Int))) (FzL.cons (Fz.v (.int .i64 ((heights ks + 1 : Nat) : Int))) FzL.nil))))
    rw [e] at this
    rw [e]
    exact this
end Go.Proofs.YtbcmdjlgdnippaaGreatDoor
