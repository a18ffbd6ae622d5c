/- What unpacks. -/
import Derived.Test.YtllgfmijocgniaaG2
set_option linter.unusedVariables false
set_option linter.unusedSimpArgs false
namespace Go.Proofs.Ytllgfmijocgniaa
open Go Go.Abs Go.RowKit

def unpackTC (row : FuncId) : TC := (.seq (.region [⟨(some 4), none, (.op (.mv (.c .nsl)))⟩, ⟨(some 5), none, (.op (.mv (.c (.v (.int .i64 0)))))⟩, ⟨(some 6), none, (.op (.mv (.c (.v (.int .i64 0)))))⟩] [0, 1]) (.seq (.region [⟨(some 9), none, (.op (.mv (.t 0)))⟩, ⟨(some 10), none, (.op (.build [.nsl, (.v (.int .i64 0)), (.v (.int .i64 0)), (.v (.int .i64 0))] [(0, (1, (.t 9)))]))⟩, ⟨(some 11), none, (.op (.box (.t 10)))⟩, ⟨(some 7), none, (.op (.mv (.t 11)))⟩] [0, 1, 7]) (.seq (.region [⟨(some 12), none, (.op (.mv (.t 7)))⟩, ⟨(some 13), none, (.op (.mv (.t 1)))⟩, ⟨(some 14), none, (.call row [(.t 12), (.t 13)])⟩, ⟨(some 8), none, (.op (.mv (.t 14)))⟩] [0, 7, 8]) (.seq (.seq (.region [⟨(some 15), none, (.op (.mv (.t 7)))⟩, ⟨(some 16), none, (.op (.nilc (.t 15)))⟩, ⟨(some 17), none, (.op (.fa 1 (.t 16)))⟩, ⟨(some 18), none, (.op (.ld false 1 (.t 17)))⟩, ⟨(some 19), none, (.op (.mv (.t 0)))⟩, ⟨(some 20), none, (.op (.len (.t 19)))⟩, ⟨(some 21), none, (.op (.bin .lss (.t 18) (.t 20)))⟩] [7, 8, 21]) (.cond (.t 21) (.region [⟨(some 22), none, (.op (.mv (.t 7)))⟩, ⟨(some 23), none, (.op (.mv (.t 7)))⟩, ⟨(some 24), none, (.op (.nilc (.t 23)))⟩, ⟨(some 25), none, (.op (.fa 1 (.t 24)))⟩, ⟨(some 26), none, (.op (.ld false 1 (.t 25)))⟩, ⟨(some 27), none, (.call 52 [(.t 22), (.t 26), (.c (.v (.int .i64 4)))])⟩] [7, 8]) (.skip [7, 8]))) (.seq (.seq (.region [⟨(some 28), none, (.op (.mv (.t 7)))⟩, ⟨(some 29), none, (.op (.nilc (.t 28)))⟩, ⟨(some 30), none, (.op (.fa 2 (.t 29)))⟩, ⟨(some 31), none, (.op (.ld false 1 (.t 30)))⟩, ⟨(some 32), none, (.op (.bin .neq (.t 31) (.c (.v (.int .i64 0)))))⟩] [7, 8, 32]) (.cond (.t 32) (.seq (.region [⟨(some 33), none, (.op (.mv (.t 7)))⟩, ⟨(some 34), none, (.op (.nilc (.t 33)))⟩, ⟨(some 35), none, (.op (.fa 3 (.t 34)))⟩, ⟨(some 36), none, (.op (.ld false 1 (.t 35)))⟩, ⟨(some 37), none, (.op (.mv (.t 7)))⟩, ⟨(some 38), none, (.op (.nilc (.t 37)))⟩, ⟨(some 39), none, (.op (.fa 2 (.t 38)))⟩, ⟨(some 40), none, (.op (.ld false 1 (.t 39)))⟩, ⟨(some 4), none, (.op (.mv (.c .nsl)))⟩, ⟨(some 5), none, (.op (.mv (.t 36)))⟩, ⟨(some 6), none, (.op (.mv (.t 40)))⟩] [4, 5, 6]) (.ret [4, 5, 6])) (.skip [8]))) (.seq (.region [⟨(some 41), none, (.op (.mv (.t 8)))⟩, ⟨(some 4), none, (.op (.mv (.t 41)))⟩, ⟨(some 5), none, (.op (.mv (.c (.v (.int .i64 0)))))⟩, ⟨(some 6), none, (.op (.mv (.c (.v (.int .i64 0)))))⟩] [4, 5, 6]) (.ret [4, 5, 6])))))))
theorem V36 : slimFn Try.prog pu 36 = some ⟨42, [(.s 4), (.s 5), (.s 6)], (unpackTC 51).er⟩ := T36
theorem V38 : slimFn Try.prog pu 38 = some ⟨42, [(.s 4), (.s 5), (.s 6)], (unpackTC 56).er⟩ := T38
theorem V40 : slimFn Try.prog pu 40 = some ⟨42, [(.s 4), (.s 5), (.s 6)], (unpackTC 58).er⟩ := T40
def untTC (pn g : FuncId) : TC := (.seq (.region [⟨(some 2), none, (.op (.mv (.c .nsl)))⟩, ⟨(some 3), none, (.op (.mv (.c (.v (.int .i64 0)))))⟩, ⟨(some 4), none, (.op (.mv (.c (.v (.int .i64 0)))))⟩] [0]) (.seq (.region [⟨(some 5), none, (.op (.mv (.t 0)))⟩, ⟨(some 6), none, (.call pn [(.t 5), (.c (.fn (.func g) [] []))])⟩, ⟨(some 7), none, (.op (.ext 0 (.t 6)))⟩, ⟨(some 8), none, (.op (.ext 1 (.t 6)))⟩, ⟨(some 9), none, (.op (.ext 2 (.t 6)))⟩, ⟨(some 2), none, (.op (.mv (.t 7)))⟩, ⟨(some 3), none, (.op (.mv (.t 8)))⟩, ⟨(some 4), none, (.op (.mv (.t 9)))⟩] [2, 3, 4]) (.ret [2, 3, 4])))
theorem W15 : slimFn Try.prog pu 15 = some ⟨10, [(.s 2), (.s 3), (.s 4)], (untTC 36 37).er⟩ := T15
theorem W16 : slimFn Try.prog pu 16 = some ⟨10, [(.s 2), (.s 3), (.s 4)], (untTC 38 39).er⟩ := T16
theorem W17 : slimFn Try.prog pu 17 = some ⟨10, [(.s 2), (.s 3), (.s 4)], (untTC 40 41).er⟩ := T17

def rs0 : RS := ⟨0, 0, 0⟩
/-- At the end: is all read? -/
def rdFin (b : List Nat) (s : RS) : RS := if s.at_ < b.length then s.wrong s.at_ 4 else s
/-- What a row's bytes are, the place of the first fault, and the fault. -/
def unp {α : Type} (b : List Nat) (one : RS → α × RS) : Option (List α) × Nat × Nat :=
  let r := rdRow b one rs0
  let t := rdFin b r.2
  if t.fault = 0 then (nzl r.1, 0, 0) else (none, t.whr, t.fault)

theorem afill_b {b : AV} {bl : List Nat} (hb : Bytes b bl) : afill [.nsl, .v (.int .i64 0), .v (.int .i64 0), .v (.int .i64 0)] [(0, 1, b)] = some (rdc b rs0) := by
  rcases hb.slc with rfl | ⟨rfl, _⟩ <;> rfl

def unpAV {α : Type} (av : α → AV) (u : Option (List α) × Nat × Nat) : AV := .tup [slcAV av u.1, i64 u.2.1, i64 u.2.2]

theorem unpAV_clean {α : Type} {av : α → AV} (hcl : ∀ x, ∀ c ∈ (av x).cells, Abs.Clean c) (u : Option (List α) × Nat × Nat) : Abs.Clean (unpAV av u) := clean_tup fun c hc => by
  simp only [List.mem_cons, List.not_mem_nil, or_false] at hc
  rcases hc with rfl | rfl | rfl
  · exact slc_clean _ _ hcl
  · exact clean_v _
  · exact clean_v _

theorem unpackSpec {α : Type} {pn row g : FuncId} (F : slimFn Try.prog pu pn = some ⟨42, [(.s 4), (.s 5), (.s 6)], (unpackTC row).er⟩) {b : AV} {bl : List Nat} (hb : Bytes b bl) (av : α → AV) (one : RS → α × RS)
    (hrow : ∀ s, s.at_ ≤ bl.length → Reads row [.fn (.func g) [] []] (rdc b) s (rdRow bl one s).2 (slcAV av (nzl (rdRow bl one s).1))) (hcl : ∀ x, ∀ c ∈ (av x).cells, Abs.Clean c) :
    PureSpec Try.prog pn [b, .fn (.func g) [] []] (unpAV av (unp bl one)) := by
  refine pureSpec_of (fnE mixed F rfl (Nat.le_of_ble_eq_true rfl) ?_)
  unfold unpackTC
  have hcells : (AV.agg (rdc b rs0)).cells = rdc b rs0 := rfl
  simp -failIfUnchanged -implicitDefEqProofs (disch := first | assumption | decide | omega) only [wkA, instrE, astepE, evE, evsE, evoE, evpE, elook, econs, eonly, putE, argE, pickE, resE, rsE, rE, Option.bind_some, Option.bind_none, Option.map_some, Option.map_none, ↓reduceIte, Nat.reduceEqDiff, Nat.reduceAdd, Nat.zero_add, Nat.add_zero, Nat.reduceLT, Nat.reduceLeDiff, Bool.false_eq_true, afill_b hb, List.nil_append, List.length_nil, hcells]
  refine hrow rs0 (Nat.zero_le _) _ _ _ rfl fun hp1 hk1 hR1 => ?_
  have hu : unp bl one = (if (rdFin bl (rdRow bl one rs0).2).fault = 0 then (nzl (rdRow bl one rs0).1, 0, 0) else (none, (rdFin bl (rdRow bl one rs0).2).whr, (rdFin bl (rdRow bl one rs0).2).fault)) := rfl
  rw [hu]
  generalize rdRow bl one rs0 = r at *
  have l1 : aload hp1 false 1 (.mp 0 1) = some (i64 r.2.at_) := aload_mp hk1 rfl
  have rest : ∀ (t : RS) (hp2 : List Blk), rdFin bl r.2 = t → hp2[0]? = some (.cells (rdc b t) false) → ImpC (.tup (if t.fault = 0 then [slcAV av (nzl r.1), i64 0, i64 0] else [.nsl, i64 t.whr, i64 t.fault])) (unpAV av (if (rdFin bl r.2).fault = 0 then (nzl r.1, 0, 0) else (none, (rdFin bl r.2).whr, (rdFin bl r.2).fault))) := by
    rintro t hp2 rfl _
    split
    · exact unpAV_clean hcl (nzl r.1, 0, 0)
    · exact unpAV_clean hcl (none, _, _)
  simp -failIfUnchanged -implicitDefEqProofs (disch := first | assumption | decide | omega) only [wkA, instrE, astepE, evE, evsE, evoE, evpE, elook, econs, eonly, putE, argE, pickE, resE, rsE, rE, Option.bind_some, Option.bind_none, Option.map_some, Option.map_none, ↓reduceIte, Nat.reduceEqDiff, Nat.reduceAdd, Nat.zero_add, Nat.add_zero, Nat.reduceLT, Nat.reduceLeDiff, Bool.false_eq_true, l1, hb.slc.lenStep, goInt, bs_length]
  refine BoolCase.mk (fun h => ?_) fun h => ?_
  · have h' : r.2.at_ < bl.length := by simp at h; omega
    have hf : rdFin bl r.2 = r.2.wrong r.2.at_ 4 := by unfold rdFin; rw [if_pos h']
    simp -failIfUnchanged -implicitDefEqProofs (disch := first | assumption | decide | omega) only [wkA, instrE, astepE, evE, evsE, evoE, evpE, elook, econs, eonly, putE, argE, pickE, resE, rsE, rE, Option.bind_some, Option.bind_none, Option.map_some, Option.map_none, ↓reduceIte, Nat.reduceEqDiff, Nat.reduceAdd, Nat.zero_add, Nat.add_zero, Nat.reduceLT, Nat.reduceLeDiff, Bool.false_eq_true, l1]
    refine wrong52 r.2.at_ 4 (by decide) _ _ _ hk1 fun hp2 hk2 hR2 => ?_
    have l2 : aload hp2 false 1 (.mp 0 2) = some (i64 (r.2.wrong r.2.at_ 4).fault) := aload_mp hk2 rfl
    have l3 : aload hp2 false 1 (.mp 0 3) = some (i64 (r.2.wrong r.2.at_ 4).whr) := aload_mp hk2 rfl
    have h0 := wrong_fault r.2 r.2.at_ (e := 4) (by decide)
    have hd : (((r.2.wrong r.2.at_ 4).fault : Int) != 0) = true := by simp; omega
    have := rest _ hp2 hf hk2
    rw [if_neg h0] at this
    simp -failIfUnchanged -implicitDefEqProofs (disch := first | assumption | decide | omega) only [wkA, instrE, astepE, evE, evsE, evoE, evpE, elook, econs, eonly, putE, argE, pickE, resE, rsE, rE, Option.bind_some, Option.bind_none, Option.map_some, Option.map_none, ↓reduceIte, Nat.reduceEqDiff, Nat.reduceAdd, Nat.zero_add, Nat.add_zero, Nat.reduceLT, Nat.reduceLeDiff, Bool.false_eq_true, l2, hd, l3]
    exact this
  · have h' : ¬ r.2.at_ < bl.length := by simp at h; omega
    have hf : rdFin bl r.2 = r.2 := by unfold rdFin; rw [if_neg h']
    have l2 : aload hp1 false 1 (.mp 0 2) = some (i64 r.2.fault) := aload_mp hk1 rfl
    have l3 : aload hp1 false 1 (.mp 0 3) = some (i64 r.2.whr) := aload_mp hk1 rfl
    have := rest _ hp1 hf hk1
    simp -failIfUnchanged -implicitDefEqProofs (disch := first | assumption | decide | omega) only [wkA, instrE, astepE, evE, evsE, evoE, evpE, elook, econs, eonly, putE, argE, pickE, resE, rsE, rE, Option.bind_some, Option.bind_none, Option.map_some, Option.map_none, ↓reduceIte, Nat.reduceEqDiff, Nat.reduceAdd, Nat.zero_add, Nat.add_zero, Nat.reduceLT, Nat.reduceLeDiff, Bool.false_eq_true, l2]
    refine BoolCase.mk (fun h2 => ?_) fun h2 => ?_
    · have h0 : r.2.fault ≠ 0 := by simpa using h2
      rw [if_neg h0] at this
      simp -failIfUnchanged -implicitDefEqProofs (disch := first | assumption | decide | omega) only [wkA, instrE, astepE, evE, evsE, evoE, evpE, elook, econs, eonly, putE, argE, pickE, resE, rsE, rE, Option.bind_some, Option.bind_none, Option.map_some, Option.map_none, ↓reduceIte, Nat.reduceEqDiff, Nat.reduceAdd, Nat.zero_add, Nat.add_zero, Nat.reduceLT, Nat.reduceLeDiff, Bool.false_eq_true, l2, l3]
      exact this
    · have h0 : r.2.fault = 0 := by simpa using h2
      rw [if_pos h0] at this
      simp -failIfUnchanged -implicitDefEqProofs (disch := first | assumption | decide | omega) only [wkA, instrE, astepE, evE, evsE, evoE, evpE, elook, econs, eonly, putE, argE, pickE, resE, rsE, rE, Option.bind_some, Option.bind_none, Option.map_some, Option.map_none, ↓reduceIte, Nat.reduceEqDiff, Nat.reduceAdd, Nat.zero_add, Nat.add_zero, Nat.reduceLT, Nat.reduceLeDiff, Bool.false_eq_true]
      exact this

theorem untSpec {α : Type} {f pn g : FuncId} (F : slimFn Try.prog pu f = some ⟨10, [(.s 2), (.s 3), (.s 4)], (untTC pn g).er⟩) {b : AV} (hc : Abs.Clean b) (av : α → AV) {u : Option (List α) × Nat × Nat} (h : PureSpec Try.prog pn [b, .fn (.func g) [] []] (unpAV av u)) (hcl : ∀ x, ∀ c ∈ (av x).cells, Abs.Clean c) :
    PureSpec Try.prog f [b] (unpAV av u) := by
  refine pureSpec_of (fnE mixed F rfl (Nat.le_of_ble_eq_true rfl) ?_)
  unfold untTC
  simp -failIfUnchanged -implicitDefEqProofs (disch := first | assumption | decide | omega) only [wkA, instrE, astepE, evE, evsE, evoE, evpE, elook, econs, eonly, putE, argE, pickE, resE, rsE, rE, Option.bind_some, Option.bind_none, Option.map_some, Option.map_none, ↓reduceIte, Nat.reduceEqDiff, Nat.reduceAdd, Nat.zero_add, Nat.add_zero, Nat.reduceLT, Nat.reduceLeDiff, Bool.false_eq_true]
  refine CallOk.pure h (impCs_cons hc (impCs1 (clean_fn _))) ?_
  have e0 : aext 0 (unpAV av u) = some (slcAV av u.1) := rfl
  have e1 : aext 1 (unpAV av u) = some (i64 u.2.1) := rfl
  have e2 : aext 2 (unpAV av u) = some (i64 u.2.2) := rfl
  simp -failIfUnchanged -implicitDefEqProofs (disch := first | assumption | decide | omega) only [wkA, instrE, astepE, evE, evsE, evoE, evpE, elook, econs, eonly, putE, argE, pickE, resE, rsE, rE, Option.bind_some, Option.bind_none, Option.map_some, Option.map_none, ↓reduceIte, Nat.reduceEqDiff, Nat.reduceAdd, Nat.zero_add, Nat.add_zero, Nat.reduceLT, Nat.reduceLeDiff, Bool.false_eq_true, e0, e1, e2]
  exact unpAV_clean hcl u

theorem bytes_clean {b : AV} {bl : List Nat} (hb : Bytes b bl) : Abs.Clean b := by
  rcases hb.slc with rfl | ⟨rfl, _⟩
  · exact clean_sl (bs_clean bl)
  · exact clean_nsl

theorem untokens15 {b : AV} {bl : List Nat} (hb : Bytes b bl) : PureSpec Try.prog 15 [b] (unpAV Tok.av (unp bl (rdTok bl))) :=
  untSpec W15 (bytes_clean hb) Tok.av (unpackSpec V36 hb Tok.av (rdTok bl) (fun s h => unrowToks hb h) tok_cells_clean) tok_cells_clean
theorem unsteps16 {b : AV} {bl : List Nat} (hb : Bytes b bl) : PureSpec Try.prog 16 [b] (unpAV Stp.av (unp bl (rdStp bl))) :=
  untSpec W16 (bytes_clean hb) Stp.av (unpackSpec V38 hb Stp.av (rdStp bl) (fun s h => unrowStps hb h) stp_cells_clean) stp_cells_clean
theorem unops17 {b : AV} {bl : List Nat} (hb : Bytes b bl) : PureSpec Try.prog 17 [b] (unpAV Opr.av (unp bl (rdOpr bl))) :=
  untSpec W17 (bytes_clean hb) Opr.av (unpackSpec V40 hb Opr.av (rdOpr bl) (fun s h => unrowOprs hb h) opr_cells_clean) opr_cells_clean

end Go.Proofs.Ytllgfmijocgniaa
