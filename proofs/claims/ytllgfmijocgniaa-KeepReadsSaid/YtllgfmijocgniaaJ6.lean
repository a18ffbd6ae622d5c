/- The law KeepGrows over abstract values: it returns true. -/
import Derived.Test.YtllgfmijocgniaaJ5
set_option linter.unusedVariables false
set_option linter.unusedSimpArgs false
namespace Go.Proofs.Ytllgfmijocgniaa
open Go Go.Abs Go.RowKit

theorem opr_clean (t : Opr) : Abs.Clean t.av := clean_agg fun c hc => opr_cells_clean t c hc

/-- A slice that may be appended to; or one without room. -/
def AppdX (hp : List Blk) (v : AV) (xs : List AV) (n : Nat) : Prop := Appd hp v xs n ∨ v = .sl xs .exact

theorem appX {hp : List Blk} {v x : AV} {xs ys : List AV} {n byt : Nat} {F : Hid (AV × List Blk → Prop)} (hA : AppdX hp v xs n) (hx : okElems n xs = true) (hy : okElems n ys = true) (hc : contents x = some ys) (hn : 0 < n) (hb : 0 < byt)
    (hfit : (xs.length + ys.length) * byt ≤ 140737488355328) (k : ∀ v' hp', AppdX hp' v' (xs ++ ys) n → F.v (v', hp')) : @withA _ (aapp hp n byt v x) F := by
  have hfit' : ys.length * byt ≤ 140737488355328 := Nat.le_trans (Nat.mul_le_mul_right _ (by omega)) hfit
  by_cases he : ys = []
  · subst he
    rw [List.append_nil] at k
    refine ⟨(v, hp), ?_, k v hp hA⟩
    rcases hA with (⟨rfl, _⟩ | ⟨id, rfl, _⟩) | rfl <;> simp [aapp, hc]
  · rcases hA with (⟨rfl, rfl⟩ | ⟨id, rfl, hid⟩) | rfl
    · exact ⟨(.sl ys (.tok hp.length), hp ++ [.tok ys.length n]), by simp only [aapp, hc, if_neg he, if_pos (And.intro hy (And.intro hn hb)), if_pos hfit'], k _ _ (Or.inl (Or.inr ⟨hp.length, by simp, by simp⟩))⟩
    · have hl : id < hp.length := (List.getElem?_eq_some_iff.1 hid).1
      exact ⟨(.sl (xs ++ ys) (.tok id), hp.set id (.tok (xs.length + ys.length) n)), by simp only [aapp, hc, if_neg he, if_pos (And.intro hy (And.intro hn hb)), if_pos (And.intro hx hfit), hid, and_self, if_true], k _ _ (Or.inl (Or.inr ⟨id, rfl, by rw [List.getElem?_set_self hl, List.length_append]⟩))⟩
    · exact ⟨(.sl (xs ++ ys) (.tok hp.length), hp ++ [.tok (xs.length + ys.length) n]), by simp only [aapp, hc, if_neg he, if_pos (And.intro hy (And.intro hn hb)), if_pos (And.intro hx hfit)], k _ _ (Or.inl (Or.inr ⟨hp.length, rfl, by simp⟩))⟩

theorem appdX_slc {hp : List Blk} {v : AV} {xs : List AV} {n : Nat} (h : AppdX hp v xs n) (hcl : ∀ x ∈ xs, ∀ c ∈ x.cells, Abs.Clean c) : ∃ w, Slc w xs ∧ ImpC v w := by
  rcases h with (⟨rfl, rfl⟩ | ⟨id, rfl, hid⟩) | rfl
  · exact ⟨.nsl, Or.inr ⟨rfl, rfl⟩, impC_nsl⟩
  · exact ⟨.sl xs .no, Or.inl rfl, clean_sl hcl⟩
  · exact ⟨.sl xs .no, Or.inl rfl, clean_sl hcl⟩

theorem appdX_len {hp : List Blk} {v : AV} {xs : List AV} {n : Nat} (h : AppdX hp v xs n) (hp' : List Blk) : lenStep v hp' = some (.v (goInt xs.length), hp') := by
  rcases h with (⟨rfl, rfl⟩ | ⟨id, rfl, hid⟩) | rfl <;> rfl

theorem slc_contents {v : AV} {xs : List AV} (h : Slc v xs) : contents v = some xs := by
  rcases h with rfl | ⟨rfl, rfl⟩ <;> rfl

theorem oprs_cells {l : List Opr} : ∀ x ∈ l.map Opr.av, ∀ c ∈ x.cells, Abs.Clean c := fun x hx c hc => by
  obtain ⟨y, _, rfl⟩ := List.mem_map.1 hx
  exact opr_cells_clean y c hc

def exOpr : Opr := ⟨4, 0, none, 0, 0, 0⟩
theorem is64_4 : Is64 4 := ⟨by decide, by decide⟩
theorem is64_0 : Is64 0 := ⟨by decide, by decide⟩
theorem exOpr_ok : exOpr.Ok := ⟨is64_4, is64_0, fun x hx => by simp [exOpr] at hx, is64_0, is64_0, is64_0⟩
theorem exOpr_few : fewStps (stpsOf exOpr) = true := by decide
theorem exOpr_enc : encOprs [exOpr] = [2, 8, 0, 0, 0, 0, 0] := by
  simp [encOprs, encMany, encOpr, encStps, encNums, encNum, exOpr, zz, enc_small]
theorem exFrame : encFrame exOpr = [7, 0, 0, 0, 2, 8, 0, 0, 0, 0, 0] := by
  unfold encFrame
  rw [exOpr_enc]
  rfl
theorem small_le4 (n : Nat) : Small (le4 n) := fun x hx => by
  simp [le4] at hx
  omega
theorem small_frame (o : Opr) : Small (encFrame o) := (small_le4 _).app (small_oprs _)
theorem frames_nil : Frames [] 0 [] 0 := .done rfl

set_option maxRecDepth 20000 in
theorem live21 : PureSpec Try.prog 21 [] (.v (.bool true)) := by
  refine pureSpec_of (fnE mixed T21 U21 (Nat.le_of_ble_eq_true rfl) ?_)
  unfold c21
  have e1 : afill [.v (.int .i64 0), .v (.int .i64 0), .nsl, .v (.int .i64 0), .v (.int .i64 0), .v (.int .i64 0)] [(0, 1, .v (.int .i64 4))] = some exOpr.cs := rfl
  simp -failIfUnchanged -implicitDefEqProofs (disch := first | assumption | decide | omega) only [wkA, instrE, astepE, evE, evsE, evoE, evpE, elook, econs, eonly, putE, argE, pickE, resE, rsE, rE, Option.bind_some, Option.bind_none, Option.map_some, Option.map_none, ↓reduceIte, Nat.reduceEqDiff, Nat.reduceAdd, Nat.zero_add, Nat.add_zero, Nat.reduceLT, Nat.reduceLeDiff, Bool.false_eq_true, e1]
  refine CallOk.pure (frame22 exOpr_ok (by rw [exOpr_enc]; decide)) (impCs1 (opr_clean exOpr)) ?_
  simp -failIfUnchanged -implicitDefEqProofs (disch := first | assumption | decide | omega) only [wkA, instrE, astepE, evE, evsE, evoE, evpE, elook, econs, eonly, putE, argE, pickE, resE, rsE, rE, Option.bind_some, Option.bind_none, Option.map_some, Option.map_none, ↓reduceIte, Nat.reduceEqDiff, Nat.reduceAdd, Nat.zero_add, Nat.add_zero, Nat.reduceLT, Nat.reduceLeDiff, Bool.false_eq_true]
  have hF := frames_enc (l := [exOpr]) (fun o ho => by rw [List.mem_singleton] at ho; subst ho; exact ⟨exOpr_ok, exOpr_few⟩) frames_nil
  simp only [List.flatMap_cons, List.flatMap_nil, List.append_nil, List.map_cons, List.map_nil, Nat.add_zero] at hF
  have hb : Bytes (.sl (bs (encFrame exOpr)) .no) (encFrame exOpr) := bytes_of (small_frame exOpr) (by rw [exFrame]; decide)
  refine CallOk.pure (read24 hb hF) (impCs1 (bytes_clean hb)) ?_
  have x0 : aext 0 (.tup [slcAV Opr.av (nzl [exOpr.nrm]), i64 (encFrame exOpr).length]) = some (slcAV Opr.av (nzl [exOpr.nrm])) := rfl
  have x1 : aext 1 (.tup [slcAV Opr.av (nzl [exOpr.nrm]), i64 (encFrame exOpr).length]) = some (i64 11) := by rw [exFrame]; rfl
  have hl : goInt ((bs (encFrame exOpr)).length : Int) = .int .i64 11 := by rw [exFrame]; rfl
  have hia : aia 1 (.sl (bs (encFrame exOpr)) .no) (.v (.int .i64 0)) = some (.fp [.v (.int .u8 7)] 0) := by rw [exFrame]; rfl
  have hld : ∀ hp, aload hp false 1 (.fp [.v (.int .u8 7)] 0) = some (.v (.int .u8 7)) := fun _ => rfl
  have hl2 : lenStep (slcAV Opr.av (nzl [exOpr.nrm])) = fun hp => some (i64 1, hp) := rfl
  have hia2 : aia 6 (slcAV Opr.av (nzl [exOpr.nrm])) (.v (.int .i64 0)) = some (.fp exOpr.nrm.cs 0) := rfl
  have hfa : afa 0 (.fp exOpr.nrm.cs 0) = some (.fp exOpr.nrm.cs 0) := rfl
  have hld2 : ∀ hp, aload hp false 1 (.fp exOpr.nrm.cs 0) = some (i64 4) := fun _ => rfl
  have t1 : ((11 : Int) == 11) = true := rfl
  have t2 : ((7 : Int) == 7) = true := rfl
  have t3 : ((1 : Int) == 1) = true := rfl
  have t4 : ((4 : Int) == 4) = true := rfl
  simp -failIfUnchanged -implicitDefEqProofs (disch := first | assumption | decide | omega) only [wkA, instrE, astepE, evE, evsE, evoE, evpE, elook, econs, eonly, putE, argE, pickE, resE, rsE, rE, Option.bind_some, Option.bind_none, Option.map_some, Option.map_none, ↓reduceIte, Nat.reduceEqDiff, Nat.reduceAdd, Nat.zero_add, Nat.add_zero, Nat.reduceLT, Nat.reduceLeDiff, Bool.false_eq_true, x0, x1, hl, hia, hld, hl2, hia2, hfa, hld2, t1, t2, t3, t4]
  exact impC_v _

theorem Opr.Eqv.refl (x : Opr) : x.Eqv x := ⟨rfl, rfl, rfl, rfl, rfl, rfl, fun i a b ha hb => by rw [ha] at hb; cases hb; exact Stp.Eqv.refl a⟩

theorem eqv_append {o k : List Opr} (i : Nat) (x y : Opr) (hx : (o.map Opr.nrm ++ k)[i]? = some x) (hy : (o ++ k)[i]? = some y) : x.Eqv y := by
  rcases Nat.lt_or_ge i o.length with h | h
  · rw [List.getElem?_append_left (by simpa using h)] at hx
    rw [List.getElem?_append_left h] at hy
    simp only [List.getElem?_map, hy, Option.map_some, Option.some.injEq] at hx
    subst hx
    exact y.nrm_eqv
  · rw [List.getElem?_append_right (by simpa using h)] at hx
    rw [List.getElem?_append_right h] at hy
    simp only [List.length_map] at hx
    rw [hx] at hy
    cases hy
    exact Opr.Eqv.refl x

theorem encFrame_len {t : Opr} (h : t.Ok) (hf : fewStps (stpsOf t) = true) : (encFrame t).length ≤ 764084 := by
  have := encOprs1_len h hf
  unfold encFrame
  simp only [List.length_append]
  have e : (le4 (encOprs [t]).length).length = 4 := rfl
  omega

/-- All frames, one behind the other, as both laws make them: the round. -/
theorem frames_max {o : List Opr} (hk : ∀ t ∈ o, t.Ok) (hg : fewOprs o = true) : ∀ i, ((o.take i).flatMap encFrame).length ≤ 18338016 := by
  obtain ⟨h24, hof⟩ := few_oprs hg
  intro i
  have h1 := flat_max encFrame (o.take i) 764084 fun x hx => encFrame_len (hk x (List.mem_of_mem_take hx)) (hof x (List.mem_of_mem_take hx))
  have h2 : (o.take i).length * 764084 ≤ 24 * 764084 := Nat.mul_le_mul_right _ (by simp; omega)
  omega

end Go.Proofs.Ytllgfmijocgniaa
