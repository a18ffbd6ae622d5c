/- What a journal holds, as the program reads it. -/
import Derived.Test.YtllgfmijocgniaaJ3
set_option linter.unusedVariables false
set_option linter.unusedSimpArgs false
namespace Go.Proofs.Ytllgfmijocgniaa
open Go Go.Abs Go.RowKit

theorem jumpE_none {Q : Hid Post} {e : Env} {hp : List Blk} : @jumpE Q none e hp = Q.v .normal e hp := rfl
theorem roundE_normal {k : Nat} {ats : List AV} {ps : Array Tmp} {ok : Code → Code → Prop} {K : AV → List Blk → Prop} {e : Env} {hp : List Blk} : roundE k ats ps ok K .normal e hp = ((∃ st pd, hp[k]? = some (.loopb st pd ats ps ok)) ∧ K (.v (.bool true)) (hp.set k (.loopb .ready none ats ps ok))) := rfl

theorem appd_set {hp : List Blk} {v : AV} {xs : List AV} {n m k : Nat} {b : Blk} (h : Appd hp v xs n) (hF : Fresh m v) (hk : k < m) : Appd (hp.set k b) v xs n :=
  h.imp id fun ⟨id, e, h⟩ => ⟨id, e, by have := hF _ _ e; rw [List.getElem?_set_ne (by omega)]; exact h⟩
theorem appd_ext {hp l : List Blk} {v : AV} {xs : List AV} {n : Nat} (h : Appd hp v xs n) : Appd (hp ++ l) v xs n :=
  h.imp id fun ⟨id, e, h⟩ => ⟨id, e, get_ext h⟩

structure RdI (b : AV) (bl : List Nat) (ats : List AV) (ok : Code → Code → Prop) (p : Nat) (acc : List Opr) (hp : List Blk) : Prop where
  out : ∃ v, hp[0]? = some (.cells [v] false) ∧ Appd hp v (acc.map Opr.av) 6 ∧ Fresh 5 v ∧ (acc = [] → v = .nsl)
  fin : hp[1]? = some (.cells [i64 p] false)
  jou : hp[2]? = some (.cells [b] false)
  rcd : hp[4]? = some (.loopb .ready none ats [10, 11].toArray ok)
  len : 5 ≤ hp.length
  few : acc.length ≤ p ∧ p ≤ bl.length

theorem opr_oks (l : List Opr) : okElems 6 (l.map Opr.av) = true := by
  unfold okElems
  rw [List.all_map, List.all_eq_true]
  intro o _
  have := opr_okElems o
  simpa [okElems] using this
theorem opr_all_one (o : Opr) : o.av.cells.all AV.one = true := by
  have := opr_okElems o
  simp [okElems] at this
  rw [List.all_eq_true]
  exact this.2


set_option maxRecDepth 20000 in
theorem read24 {b : AV} {bl : List Nat} (hb : Bytes b bl) {l : List Opr} {q : Nat} (hF : Frames bl 0 l q) : PureSpec Try.prog 24 [b] (.tup [slcAV Opr.av (nzl l), i64 q]) := by
  refine pureSpec_of (fnEM mixed T24 U24 (Nat.le_of_ble_eq_true rfl) ?_)
  unfold c24
  have hc : b.cells = [b] := by rcases hb.slc with rfl | ⟨rfl, _⟩ <;> rfl
  have s1 : astore [Blk.cells [.nsl] false, Blk.cells [.v (.int .i64 0)] false] 1 (.mp 1 0) (.v (.int .i64 0)) = some [Blk.cells [.nsl] false, Blk.cells [i64 0] false] := rfl
  have ez : ([.v (.int .i64 0), .v (.int .i64 0), .nsl, .v (.int .i64 0), .v (.int .i64 0), .v (.int .i64 0)] : List AV) = zOpr := rfl
  simp -failIfUnchanged -implicitDefEqProofs (disch := first | assumption | decide | omega) only [wkA, instrE, astepE, evE, evsE, evoE, evpE, elook, econs, eonly, putE, argE, pickE, resE, rsE, rE, Option.bind_some, Option.bind_none, Option.map_some, Option.map_none, ↓reduceIte, Nat.reduceEqDiff, Nat.reduceAdd, Nat.zero_add, Nat.add_zero, Nat.reduceLT, Nat.reduceLeDiff, Bool.false_eq_true, ez, List.nil_append, List.cons_append, List.length_nil, List.length_cons, s1]
  refine frames43 hc ?_
  simp -failIfUnchanged -implicitDefEqProofs (disch := first | assumption | decide | omega) only [wkA, instrE, astepE, evE, evsE, evoE, evpE, elook, econs, eonly, putE, argE, pickE, resE, rsE, rE, Option.bind_some, Option.bind_none, Option.map_some, Option.map_none, ↓reduceIte, Nat.reduceEqDiff, Nat.reduceAdd, Nat.zero_add, Nat.add_zero, Nat.reduceLT, Nat.reduceLeDiff, Bool.false_eq_true, ez]
  rw [wpE_range]
  refine ⟨60, [], [.mp 2 0], rfl, fun ats ok hR => ?_⟩
  replace hR : RoundOk Try.prog 4 ats [10, 11] ok _ _ _ := hR
  refine walk60 hb (RdI b bl ats ok) (fun p acc hp h => h.jou) (fun p acc hp o q' hI hfr => ?_) hF ⟨⟨.nsl, rfl, Appd.nil _ _, fun _ _ e => (by cases e), fun _ => rfl⟩, rfl, rfl, rfl, Nat.le_refl _, Nat.le_refl _, Nat.zero_le _⟩ fun hp hI => ?_
  · refine hR _ _ _ rfl ⟨_, hI.rcd⟩ ?_
    obtain ⟨⟨v, o1, o2, o3, o4⟩, f1, j1, r1, hl, hfew⟩ := hI
    have hq := frameAt_lt hfr
    have hlen := hb.len
    have s2 : astore (hp ++ [.cells zOpr false]) 6 (.mp hp.length 0) o.av = some (hp ++ [.cells o.av.cells false]) := store_new rfl rfl (opr_all_one o)
    simp only [setE, List.zip_cons_cons, List.zip_nil_left]
    simp -failIfUnchanged -implicitDefEqProofs (disch := first | assumption | decide | omega) only [wkA, instrE, astepE, evE, evsE, evoE, evpE, elook, econs, eonly, putE, argE, pickE, resE, rsE, rE, Option.bind_some, Option.bind_none, Option.map_some, Option.map_none, ↓reduceIte, Nat.reduceEqDiff, Nat.reduceAdd, Nat.zero_add, Nat.add_zero, Nat.reduceLT, Nat.reduceLeDiff, Bool.false_eq_true, ez, s2]
    refine ⟨⟨_, get_ext r1⟩, fun pd => ?_⟩
    generalize hh : (hp ++ [Blk.cells o.av.cells false]).set 4 (.loopb .busy pd ats #[10, 11] ok) = hp2
    have g : ∀ (j : Nat) x, j ≠ 4 → hp[j]? = some x → hp2[j]? = some x := fun j x hj hx => by rw [← hh]; exact set_other hj (get_ext hx)
    have g4 : hp2[4]? = some (.loopb .busy pd ats #[10, 11] ok) := by rw [← hh]; exact List.getElem?_set_self (by simp; omega)
    have gn : hp2[hp.length]? = some (.cells o.av.cells false) := by rw [← hh]; exact set_other (by omega) (by simp)
    have A2 : Appd hp2 v (acc.map Opr.av) 6 := by rw [← hh]; exact appd_set (appd_ext o2) o3 (by omega)
    have hl2 : 5 ≤ hp2.length := by rw [← hh]; simp; omega
    have l0 : aload hp2 false 1 (.mp 0 0) = some v := aload_mp (g 0 _ (by omega) o1) rfl
    have l7 : aload hp2 true 6 (.mp hp.length 0) = some o.av := aload_mp gn (pick_all rfl)
    simp -failIfUnchanged -implicitDefEqProofs (disch := first | assumption | decide | omega) only [wkA, instrE, astepE, evE, evsE, evoE, evpE, elook, econs, eonly, putE, argE, pickE, resE, rsE, rE, Option.bind_some, Option.bind_none, Option.map_some, Option.map_none, ↓reduceIte, Nat.reduceEqDiff, Nat.reduceAdd, Nat.zero_add, Nat.add_zero, Nat.reduceLT, Nat.reduceLeDiff, Bool.false_eq_true, l0, l7, absl_any (opr_okElems o) (by decide)]
    refine appF A2 o3 hl2 (opr_oks acc) (opr_okElems o) (by simp) (by decide) (by decide) ?_ fun v3 hp3 A3 r3 F3 => ?_
    · simp only [List.length_map, List.length_cons, List.length_nil, Nat.zero_add]
      omega
    have c0 := r3.cells _ _ _ (g 0 _ (by omega) o1)
    have st0 := store_cell (o := 0) (x := v3) c0 (by simp) (appd_one A3).1 (appd_one A3).2
    have k0 := set_at (b' := .cells ([v].set 0 v3) false) c0
    have c1 := set_other (j := 1) (k := 0) (b := .cells ([v].set 0 v3) false) (by decide) (r3.cells _ _ _ (g 1 _ (by omega) f1))
    have st1 := store_cell (o := 0) (x := i64 q') c1 (by simp) rfl rfl
    have k1 := set_at (b' := .cells ([i64 p].set 0 (i64 q')) false) c1
    have c2 := r3.cells _ _ _ (g 2 _ (by omega) j1)
    have c4 := r3.objs _ _ rfl g4
    have hl3 := r3.len
    simp -failIfUnchanged -implicitDefEqProofs (disch := first | assumption | decide | omega) only [wkA, instrE, astepE, evE, evsE, evoE, evpE, elook, econs, eonly, putE, argE, pickE, resE, rsE, rE, Option.bind_some, Option.bind_none, Option.map_some, Option.map_none, ↓reduceIte, Nat.reduceEqDiff, Nat.reduceAdd, Nat.zero_add, Nat.add_zero, Nat.reduceLT, Nat.reduceLeDiff, Bool.false_eq_true, st0, st1, roundE_normal]
    refine ⟨⟨_, _, set_other (by decide) (set_other (by decide) c4)⟩, trivial, ⟨⟨v3, ?_, ?_, F3, by simp⟩, ?_, ?_, ?_, ?_, ?_⟩⟩
    · exact set_other (by decide) (set_other (by decide) k0)
    · have := appd_set (b := .loopb .ready none ats #[10, 11] ok) (appd_set (b := .cells ([i64 p].set 0 (i64 q')) false) (appd_set (b := .cells ([v].set 0 v3) false) A3 F3 (show 0 < 5 by decide)) F3 (show 1 < 5 by decide)) F3 (show 4 < 5 by decide)
      simpa using this
    · exact set_other (by decide) k1
    · exact set_other (by decide) (set_other (by decide) (set_other (by decide) c2))
    · exact List.getElem?_set_self (by simp; omega)
    · simp; omega
    · simp; omega
  · refine ⟨.ready, none, hI.rcd, by simp, ?_⟩
    obtain ⟨⟨v, o1, o2, o3, o4⟩, f1, j1, r1, hl, hfew⟩ := hI
    generalize hh : hp.set 4 (.loopb .exhausted none ats [10, 11].toArray ok) = hp2
    have l0 : aload hp2 false 1 (.mp 0 0) = some v := by rw [← hh]; exact aload_mp (set_other (by decide) o1) rfl
    have l1 : aload hp2 false 1 (.mp 1 0) = some (i64 q) := by rw [← hh]; exact aload_mp (set_other (by decide) f1) rfl
    have fin : ImpC (.tup [v, i64 q]) (.tup [slcAV Opr.av (nzl l), i64 q]) := by
      refine impC_tup rfl fun i c d hc hd => ?_
      match i with
      | 0 =>
        simp at hc hd
        subst hc; subst hd
        cases l with
        | nil => rw [o4 rfl]; exact impC_nsl
        | cons x r =>
          rcases o2 with ⟨_, e⟩ | ⟨id, rfl, _⟩
          · simp at e
          · exact clean_sl fun x hx c hc => by
              obtain ⟨y, _, rfl⟩ := List.mem_map.1 hx
              exact opr_cells_clean y c hc
      | 1 =>
        simp at hc hd
        subst hc; subst hd
        exact impC_v _
      | i + 2 => simp at hc
    rw [jumpE_none, show hp.set (([Blk.cells [AV.nsl] false, Blk.cells [i64 0] false] ++ [Blk.cells [b] false]).length + 1) (.loopb .exhausted none ats [10, 11].toArray ok) = hp2 from hh]
    simp -failIfUnchanged -implicitDefEqProofs (disch := first | assumption | decide | omega) only [wkA, instrE, astepE, evE, evsE, evoE, evpE, elook, econs, eonly, putE, argE, pickE, resE, rsE, rE, Option.bind_some, Option.bind_none, Option.map_some, Option.map_none, ↓reduceIte, Nat.reduceEqDiff, Nat.reduceAdd, Nat.zero_add, Nat.add_zero, Nat.reduceLT, Nat.reduceLeDiff, Bool.false_eq_true, l0, l1, retM_ret]
    exact fun hp' he => fin

end Go.Proofs.Ytllgfmijocgniaa
