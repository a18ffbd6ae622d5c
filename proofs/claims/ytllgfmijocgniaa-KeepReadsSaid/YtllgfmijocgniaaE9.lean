/- The program's readers: rows of anything. -/
import Derived.Test.YtllgfmijocgniaaE8
set_option linter.unusedVariables false
set_option linter.unusedSimpArgs false
namespace Go.Proofs.Ytllgfmijocgniaa
open Go Go.Abs Go.RowKit

/-- What reads a row of elements of n cells. -/
def unrowTC (n byt : Nat) : TC := (.seq (.region [⟨(some 4), none, (.op (.mv (.c .nsl)))⟩] [0, 1]) (.seq (.region [⟨(some 5), none, (.op (.mv (.c .nsl)))⟩] [0, 1, 5]) (.seq (.seq (.region [⟨(some 7), none, (.op (.mv (.t 0)))⟩, ⟨(some 8), none, (.call 64 [(.t 7)])⟩, ⟨(some 6), none, (.op (.mv (.t 8)))⟩] [0, 1, 5, 6]) (.block 0 (.loop (.seq (.seq (.region [⟨(some 9), none, (.op (.mv (.t 6)))⟩, ⟨(some 10), none, (.op (.bin .gtr (.t 9) (.c (.v (.int .i64 0)))))⟩, ⟨(some 11), none, (.op (.mv (.t 10)))⟩, ⟨(some 12), (some (11, true)), (.op (.mv (.t 0)))⟩, ⟨(some 13), (some (11, true)), (.op (.nilc (.t 12)))⟩, ⟨(some 14), (some (11, true)), (.op (.fa 2 (.t 13)))⟩, ⟨(some 15), (some (11, true)), (.op (.ld false 1 (.t 14)))⟩, ⟨(some 16), (some (11, true)), (.op (.bin .eql (.t 15) (.c (.v (.int .i64 0)))))⟩, ⟨(some 17), none, (.op (.pick (.t 11) (.t 16) (.c (.v (.bool false)))))⟩] [0, 1, 5, 6, 17]) (.cond (.t 17) (.skip [0, 1, 5, 6]) (.exit 0 [5]))) (.seq (.block 1 (.region [⟨(some 20), none, (.op (.mv (.t 5)))⟩, ⟨(some 21), none, (.op (.mv (.t 1)))⟩, ⟨(some 22), none, (.op (.mv (.t 0)))⟩, ⟨(some 23), none, (.callv (.t 21) [(.t 22)])⟩, ⟨(some 24), none, (.op (.bsl n [(.t 23)]))⟩, ⟨(some 25), none, (.op (.app n byt (.t 20) (.t 24)))⟩, ⟨(some 5), none, (.op (.mv (.t 25)))⟩] [0, 1, 5, 6])) (.region [⟨(some 18), none, (.op (.mv (.t 6)))⟩, ⟨(some 19), none, (.op (.bin .sub (.t 18) (.c (.v (.int .i64 1)))))⟩, ⟨(some 6), none, (.op (.mv (.t 19)))⟩] [0, 1, 5, 6])))))) (.seq (.region [⟨(some 26), none, (.op (.mv (.t 5)))⟩, ⟨(some 4), none, (.op (.mv (.t 26)))⟩] [4]) (.ret [4])))))
theorem R51 : slimFn Try.prog pu 51 = some ⟨27, [(.s 4)], (unrowTC 12 48).er⟩ := T51
theorem R56 : slimFn Try.prog pu 56 = some ⟨27, [(.s 4)], (unrowTC 10 112).er⟩ := T56
theorem R57 : slimFn Try.prog pu 57 = some ⟨27, [(.s 4)], (unrowTC 8 16).er⟩ := T57
theorem R58 : slimFn Try.prog pu 58 = some ⟨27, [(.s 4)], (unrowTC 6 64).er⟩ := T58

theorem appE {hp : List Blk} {v : AV} {xs ys : List AV} {n byt : Nat} {t : Tail} {F : Hid (AV × List Blk → Prop)} (hA : Appd hp v xs n) (hx : okElems n xs = true) (hy : okElems n ys = true) (hne : ys ≠ []) (hn : 0 < n) (hb : 0 < byt)
    (hfit : (xs.length + ys.length) * byt ≤ 140737488355328) (k : ∀ v' hp', Appd hp' v' (xs ++ ys) n → AppRel hp hp' v → (∃ id, v' = .sl (xs ++ ys) (.tok id)) → F.v (v', hp')) : @withA _ (aapp hp n byt v (.sl ys t)) F := by
  obtain ⟨v', hp', h1, h2⟩ := Appd.run (t := t) (F := fun v hp => F.v (v, hp)) hA hx hy hne hn hb hfit k
  exact ⟨(v', hp'), h1, h2⟩

/-- A slice that may be appended to, made since. -/
def Fresh (n : Nat) (v : AV) : Prop := ∀ xs id, v = .sl xs (.tok id) → n ≤ id

theorem appd_keep {hp hp' : List Blk} {v : AV} {xs cs : List AV} {n k : Nat} {fz : Bool} (h : Appd hp v xs n) (hk : hp[k]? = some (.cells cs fz)) (hR : HKeep hp hp' k) : Appd hp' v xs n :=
  h.imp id fun ⟨id, e, h⟩ => ⟨id, e, hR.same _ _ (fun q => by subst q; rw [hk] at h; cases h) h⟩

/-- The same as appE, where new tokens lie at the heap's end. -/
theorem appF {hp : List Blk} {v : AV} {xs ys : List AV} {n byt m : Nat} {t : Tail} {F : Hid (AV × List Blk → Prop)} (hA : Appd hp v xs n) (hF : Fresh m v) (hle : m ≤ hp.length) (hx : okElems n xs = true) (hy : okElems n ys = true) (hne : ys ≠ []) (hn : 0 < n) (hb : 0 < byt)
    (hfit : (xs.length + ys.length) * byt ≤ 140737488355328) (k : ∀ v' hp', Appd hp' v' (xs ++ ys) n → AppRel hp hp' v → Fresh m v' → F.v (v', hp')) : @withA _ (aapp hp n byt v (.sl ys t)) F := by
  rcases hA with ⟨rfl, rfl⟩ | ⟨id, rfl, hid⟩
  · refine ⟨(.sl ys (.tok hp.length), hp ++ [.tok ys.length n]), ?_, ?_⟩
    · simp only [List.length_nil, Nat.zero_add] at hfit
      simp [aapp, contents, hne, hy, hn, hb, hfit]
    · refine k _ _ (Or.inr ⟨hp.length, rfl, by simp⟩) ⟨by simp, fun j cs fz h => get_ext h, fun j n s h _ => get_ext h, fun j b _ h => get_ext h⟩ fun zs id e => ?_
      cases e; exact hle
  · have hl : id < hp.length := (List.getElem?_eq_some_iff.1 hid).1
    refine ⟨(.sl (xs ++ ys) (.tok id), hp.set id (.tok (xs.length + ys.length) n)), ?_, ?_⟩
    · simp [aapp, contents, hne, hy, hn, hb, hfit, hx, hid]
    · refine k _ _ (Or.inr ⟨id, rfl, by rw [List.getElem?_set_self hl, List.length_append]⟩) ⟨by simp, fun j cs fz h => ?_, fun j n' s h hne' => ?_, fun j b hb h => set_other (fun e => by subst e; rw [hid] at h; cases h; cases hb) h⟩ fun zs id' e => ?_
      · exact set_other (fun e => by subst e; rw [hid] at h; cases h) h
      · exact set_other (fun e => by subst e; exact hne' xs rfl) h
      · cases e; exact hF _ _ rfl

theorem absl_any {n : Nat} {x : AV} (h : okElems n [x] = true) (hn : n ≤ 16777216) : absl n [x] = some (.sl [x] .exact) := by
  unfold absl
  rw [if_pos ⟨h, by simpa using hn⟩]

theorem okElems_append {n : Nat} {a b : List AV} (h : okElems n a = true) (h' : okElems n b = true) : okElems n (a ++ b) = true := by
  unfold okElems at *
  rw [List.all_append, h, h']; rfl

set_option maxRecDepth 20000 in
theorem unrowReads {α : Type} {n byt : Nat} {pn g : FuncId} (F : slimFn Try.prog pu pn = some ⟨27, [(.s 4)], (unrowTC n byt).er⟩) (hn : 0 < n) (hn2 : n ≤ 16777216) (hby : 0 < byt) (hby2 : byt ≤ 112) {b : AV} {bl : List Nat} (hb : Bytes b bl) (av : α → AV) (one : RS → α × RS)
    (hone : ∀ s, s.at_ ≤ bl.length → Reads g [] (rdc b) s (one s).2 (av (one s).1)) (hat : ∀ s, s.at_ ≤ bl.length → (one s).2.at_ ≤ bl.length) (hok : ∀ s, okElems n [av (one s).1] = true) {s : RS} (hs : s.at_ ≤ bl.length) :
    Reads pn [.fn (.func g) [] []] (rdc b) s (rdRow bl one s).2 (slcAV av (nzl (rdRow bl one s).1)) := by
  intro hp k K hk hK
  refine CallOk.weaken (K := fun r hp' => ∃ r', Imp r r' ∧ K r' hp') ?_ (fun _ _ h => h)
  refine fnE mixed F rfl (Nat.le_of_ble_eq_true rfl) ?_
  unfold unrowTC
  simp -failIfUnchanged -implicitDefEqProofs (disch := first | assumption | decide | omega) only [wkA, instrE, astepE, evE, evsE, evoE, evpE, elook, econs, eonly, putE, argE, pickE, resE, rsE, rE, Option.bind_some, Option.bind_none, Option.map_some, Option.map_none, ↓reduceIte, Nat.reduceEqDiff, Nat.reduceAdd, Nat.zero_add, Nat.add_zero, Nat.reduceLT, Nat.reduceLeDiff, Bool.false_eq_true]
  refine many64 hb hs _ _ _ hk fun r hp1 ⟨c, hr, hc, hrc⟩ hk1 hR1 => ?_
  subst hr
  simp -failIfUnchanged -implicitDefEqProofs (disch := first | assumption | decide | omega) only [wkA, instrE, astepE, evE, evsE, evoE, evpE, elook, econs, eonly, putE, argE, pickE, resE, rsE, rE, Option.bind_some, Option.bind_none, Option.map_some, Option.map_none, ↓reduceIte, Nat.reduceEqDiff, Nat.reduceAdd, Nat.zero_add, Nat.add_zero, Nat.reduceLT, Nat.reduceLeDiff, Bool.false_eq_true]
  have hat1 := (rdMany_at hs).2
  have hrow : rdRow bl one s = rdRowLoop one c (rdMany bl s).2 := by
    by_cases hf : (rdMany bl s).2.fault = 0
    · rw [hrc hf]; rfl
    · have e : ∀ m, rdRowLoop one m (rdMany bl s).2 = ([], (rdMany bl s).2) := fun m => by
        cases m with
        | zero => rfl
        | succ m => simp only [rdRowLoop, if_neg hf]
      rw [e]; exact e _
  have hlen := hb.len
  generalize (rdMany bl s).2 = s1 at *
  refine wpE_while (fun m e hp' => ∃ acc v t, e = [(0, .mp k 0), (1, .fn (.func g) [] []), (5, v), (6, i64 m)] ∧ acc.length + m = c ∧ (acc = [] → v = .nsl) ∧ Appd hp' v (acc.map av) n ∧ Fresh hp.length v ∧ okElems n (acc.map av) = true ∧ t.at_ ≤ bl.length ∧ hp'[k]? = some (.cells (rdc b t) false) ∧ Old hp.length hp hp' k ∧ rdRow bl one s = (acc ++ (rdRowLoop one m t).1, (rdRowLoop one m t).2)) (n := c)
    ⟨[], .nsl, s1, rfl, by simp, fun _ => rfl, Appd.nil _ _, fun _ _ e => (by cases e), rfl, hat1, hk1, (Old.start hp k).keep hR1, by rw [hrow]; rfl⟩ ?_
  clear hrow hrc hR1 hk1
  rintro m e hp' ⟨acc, v, t, rfl, hm, hnil, hA, hFr, hoe, hta, hk', hO, hrow⟩
  have fin : rdRow bl one s = (acc, t) → ∃ r', Imp v r' ∧ K r' hp' := fun hr => by
    rw [hr] at hK
    refine ⟨_, ?_, hK _ hk' hO.done⟩
    cases acc with
    | nil => rw [hnil rfl]; exact Imp.refl _
    | cons x r =>
      rcases hA with ⟨rfl, e⟩ | ⟨id, rfl, hid⟩
      · simp at e
      · exact imp_no
  have l2 : aload hp' false 1 (.mp k 2) = some (i64 t.fault) := aload_mp hk' rfl
  simp -failIfUnchanged -implicitDefEqProofs (disch := first | assumption | decide | omega) only [wkA, instrE, astepE, evE, evsE, evoE, evpE, elook, econs, eonly, putE, argE, pickE, resE, rsE, rE, Option.bind_some, Option.bind_none, Option.map_some, Option.map_none, ↓reduceIte, Nat.reduceEqDiff, Nat.reduceAdd, Nat.zero_add, Nat.add_zero, Nat.reduceLT, Nat.reduceLeDiff, Bool.false_eq_true, l2]
  refine BoolCase.mk (fun h => ?_) fun h => ?_
  · simp -failIfUnchanged -implicitDefEqProofs (disch := first | assumption | decide | omega) only [wkA, instrE, astepE, evE, evsE, evoE, evpE, elook, econs, eonly, putE, argE, pickE, resE, rsE, rE, Option.bind_some, Option.bind_none, Option.map_some, Option.map_none, ↓reduceIte, Nat.reduceEqDiff, Nat.reduceAdd, Nat.zero_add, Nat.add_zero, Nat.reduceLT, Nat.reduceLeDiff, Bool.false_eq_true, h, l2]
    refine BoolCase.mk (fun h2 => ?_) fun h2 => ?_
    · simp -failIfUnchanged -implicitDefEqProofs (disch := first | assumption | decide | omega) only [wkA, instrE, astepE, evE, evsE, evoE, evpE, elook, econs, eonly, putE, argE, pickE, resE, rsE, rE, Option.bind_some, Option.bind_none, Option.map_some, Option.map_none, ↓reduceIte, Nat.reduceEqDiff, Nat.reduceAdd, Nat.zero_add, Nat.add_zero, Nat.reduceLT, Nat.reduceLeDiff, Bool.false_eq_true, h2]
      have ht0 : t.fault = 0 := by simpa using h2
      obtain ⟨f, rfl⟩ : ∃ f, m = f + 1 := ⟨m - 1, by simp at h; omega⟩
      have x2 : IntKind.i64.wrap (((f + 1 : Nat) : Int) - 1) = (f : Int) := by rw [wrap_i64 (by omega) (by omega)]; omega
      simp only [rdRowLoop, ht0, if_true] at hrow
      refine hone t hta _ _ _ hk' fun hp2 hk2 hR2 => ?_
      have hA2 := appd_keep hA hk' hR2
      have hO2 := hO.keep hR2
      simp -failIfUnchanged -implicitDefEqProofs (disch := first | assumption | decide | omega) only [wkA, instrE, astepE, evE, evsE, evoE, evpE, elook, econs, eonly, putE, argE, pickE, resE, rsE, rE, Option.bind_some, Option.bind_none, Option.map_some, Option.map_none, ↓reduceIte, Nat.reduceEqDiff, Nat.reduceAdd, Nat.zero_add, Nat.add_zero, Nat.reduceLT, Nat.reduceLeDiff, Bool.false_eq_true, absl_any (hok t) hn2]
      refine appF hA2 hFr (Nat.le_trans hO2.1 hO2.2.1) hoe (hok t) (by simp) hn hby ?_ fun v3 hp3 hA3 hr3 hF3 => ?_
      · simp only [List.length_map, List.length_cons, List.length_nil, Nat.zero_add]
        have : (acc.length + 1) * byt ≤ 1000000000000 * 112 := Nat.mul_le_mul (by omega) hby2
        omega
      · simp -failIfUnchanged -implicitDefEqProofs (disch := first | assumption | decide | omega) only [wkA, instrE, astepE, evE, evsE, evoE, evpE, elook, econs, eonly, putE, argE, pickE, resE, rsE, rE, Option.bind_some, Option.bind_none, Option.map_some, Option.map_none, ↓reduceIte, Nat.reduceEqDiff, Nat.reduceAdd, Nat.zero_add, Nat.add_zero, Nat.reduceLT, Nat.reduceLeDiff, Bool.false_eq_true, x2]
        refine ⟨f, by omega, acc ++ [(one t).1], v3, (one t).2, rfl, by simp; omega, by simp, by simpa using hA3, hF3, by simpa using okElems_append hoe (hok t), hat t hta, hr3.cells _ _ _ hk2, hO2.app hr3 hFr, ?_⟩
        rw [hrow]; simp
    · simp -failIfUnchanged -implicitDefEqProofs (disch := first | assumption | decide | omega) only [wkA, instrE, astepE, evE, evsE, evoE, evpE, elook, econs, eonly, putE, argE, pickE, resE, rsE, rE, Option.bind_some, Option.bind_none, Option.map_some, Option.map_none, ↓reduceIte, Nat.reduceEqDiff, Nat.reduceAdd, Nat.zero_add, Nat.add_zero, Nat.reduceLT, Nat.reduceLeDiff, Bool.false_eq_true, h2]
      have ht0 : t.fault ≠ 0 := by simpa using h2
      refine fin ?_
      rw [hrow]
      cases m with
      | zero => simp [rdRowLoop]
      | succ n => simp only [rdRowLoop, if_neg ht0, List.append_nil]
  · simp -failIfUnchanged -implicitDefEqProofs (disch := first | assumption | decide | omega) only [wkA, instrE, astepE, evE, evsE, evoE, evpE, elook, econs, eonly, putE, argE, pickE, resE, rsE, rE, Option.bind_some, Option.bind_none, Option.map_some, Option.map_none, ↓reduceIte, Nat.reduceEqDiff, Nat.reduceAdd, Nat.zero_add, Nat.add_zero, Nat.reduceLT, Nat.reduceLeDiff, Bool.false_eq_true, h]
    have hn0 : m = 0 := by simpa using h
    subst hn0
    refine fin ?_
    rw [hrow]; simp [rdRowLoop]

end Go.Proofs.Ytllgfmijocgniaa
