/- A frame, as the program writes it; what is read is small enough. -/
import Derived.Test.YtllgfmijocgniaaJ4
set_option linter.unusedVariables false
set_option linter.unusedSimpArgs false
namespace Go.Proofs.Ytllgfmijocgniaa
open Go Go.Abs Go.RowKit

theorem rdRowLoop_all {α : Type} {one : RS → α × RS} {T : α → Prop} (h : ∀ s, T (one s).1) : ∀ (n : Nat) (s : RS), (∀ x ∈ (rdRowLoop one n s).1, T x) ∧ (rdRowLoop one n s).1.length ≤ n
  | 0, s => ⟨fun x hx => by simp [rdRowLoop] at hx, by simp [rdRowLoop]⟩
  | n + 1, s => by
    simp only [rdRowLoop]
    split
    · obtain ⟨h1, h2⟩ := rdRowLoop_all h n (one s).2
      refine ⟨fun x hx => ?_, by simpa using h2⟩
      rcases List.mem_cons.1 hx with rfl | hx
      · exact h s
      · exact h1 x hx
    · exact ⟨fun x hx => by simp at hx, by simp⟩

theorem rdMany_le (b : List Nat) (s : RS) : (rdMany b s).1 ≤ b.length := by
  unfold rdMany
  generalize rdNum b 0 9223372036854775807 s = q
  obtain ⟨n, t⟩ := q
  simp only [manyEnd]
  split
  · simp
  · simp only; omega

theorem rdRow_all {α : Type} {one : RS → α × RS} {T : α → Prop} (h : ∀ s, T (one s).1) (b : List Nat) (s : RS) : (∀ x ∈ (rdRow b one s).1, T x) ∧ (rdRow b one s).1.length ≤ b.length := by
  obtain ⟨h1, h2⟩ := rdRowLoop_all h (rdMany b s).1 (rdMany b s).2
  exact ⟨h1, Nat.le_trans h2 (rdMany_le b s)⟩

theorem rdStp_ok {b : List Nat} (hb : b.length ≤ 1000000000000) (s : RS) : (rdStp b s).1.Ok ∧ (rdStp b s).1.Fits := by
  unfold rdStp
  dsimp only
  obtain ⟨p1, p2⟩ := rdRow_all (fun s => rdTok_ok b s) b (rdAny b (rdAny b (rdAny b (rdAny b (rdAny b (rdAny b (rdAny b (rdAny b s).2).2).2).2).2).2).2).2
  generalize hp : rdRow b (rdTok b) (rdAny b (rdAny b (rdAny b (rdAny b (rdAny b (rdAny b (rdAny b (rdAny b s).2).2).2).2).2).2).2).2 = p at *
  obtain ⟨q1, q2⟩ := rdRow_all (T := IsSet) (fun s => rdSet_set (b := b) (s := s)) b p.2
  refine ⟨⟨fun n hn => ?_, by simpa [nzl_getD] using p1, by simpa [nzl_getD] using q1⟩, ⟨by simp only [nzl_getD]; omega, by simp only [nzl_getD]; omega⟩⟩
  simp only [Stp.ns, List.mem_cons, List.not_mem_nil, or_false] at hn
  rcases hn with rfl | rfl | rfl | rfl | rfl | rfl | rfl | rfl <;> exact rdAny_64 _

theorem rdOpr_ok {b : List Nat} (hb : b.length ≤ 1000000000000) (s : RS) : (rdOpr b s).1.Ok ∧ (rdOpr b s).1.Fits := by
  unfold rdOpr
  dsimp only
  obtain ⟨p1, p2⟩ := rdRow_all (one := rdStp b) (T := fun x => x.Ok ∧ x.Fits) (fun s => rdStp_ok hb s) b (rdAny b (rdAny b s).2).2
  generalize hp : rdRow b (rdStp b) (rdAny b (rdAny b s).2).2 = p at *
  refine ⟨⟨rdAny_64 _, rdAny_64 _, fun x hx => (p1 x (by simpa [nzl_getD] using hx)).1, rdAny_64 _, rdAny_64 _, rdAny_64 _⟩, ⟨by simp only [stpsOf, nzl_getD]; omega, fun x hx => (p1 x (by simpa [stpsOf, nzl_getD] using hx)).2⟩⟩

theorem unp_all {α : Type} {T : α → Prop} {b : List Nat} {one : RS → α × RS} (h : ∀ x ∈ (rdRow b one rs0).1, T x) : ∀ x ∈ (unp b one).1.getD [], T x := by
  have hu : unp b one = (if (rdFin b (rdRow b one rs0).2).fault = 0 then (nzl (rdRow b one rs0).1, 0, 0) else (none, (rdFin b (rdRow b one rs0).2).whr, (rdFin b (rdRow b one rs0).2).fault)) := rfl
  rw [hu]
  split
  · intro x hx
    exact h x (by simpa [nzl_getD] using hx)
  · intro x hx; simp at hx

theorem unpAt_all {b : List Nat} {p n : Nat} (hb : b.length ≤ 1000000000000) : ∀ x ∈ (unpAt b p n).1.getD [], x.Ok ∧ x.Fits := by
  have hl : ((b.drop p).take n).length ≤ 1000000000000 := by simp; omega
  unfold unpAt
  generalize (b.drop p).take n = s at *
  exact unp_all (rdRow_all (one := rdOpr s) (T := fun x => x.Ok ∧ x.Fits) (fun r => rdOpr_ok hl r) s rs0).1

theorem frameOf_mem {q q' : Nat} {o : Opr} {u : Option (List Opr) × Nat × Nat} (h : frameOf q u = some (o, q')) : o ∈ u.1.getD [] := by
  unfold frameOf at h
  split at h
  · cases h; simp
  · cases h

theorem frameAt_mem {b : List Nat} {p q : Nat} {o : Opr} (h : frameAt b p = some (o, q)) : ∃ n, o ∈ (unpAt b (p + 4) n).1.getD [] := by
  unfold frameAt at h
  split at h
  · exact ⟨_, frameOf_mem h⟩
  · cases h

theorem frameAt_ok {b : List Nat} (hb : b.length ≤ 1000000000000) {p q : Nat} {o : Opr} (h : frameAt b p = some (o, q)) : o.Ok ∧ o.Fits := by
  obtain ⟨n, hn⟩ := frameAt_mem h
  exact unpAt_all hb o hn

theorem Frames.ok {b : List Nat} (hb : b.length ≤ 1000000000000) {p q : Nat} {l : List Opr} (h : Frames b p l q) : ∀ o ∈ l, o.Ok ∧ o.Fits := by
  induction h with
  | done _ => intro o ho; simp at ho
  | step h _ ih =>
    intro o ho
    rcases List.mem_cons.1 ho with rfl | ho
    · exact frameAt_ok hb h
    · exact ih o ho
theorem Frames.few {b : List Nat} {p q : Nat} {l : List Opr} (h : Frames b p l q) : p + l.length ≤ q ∧ (p ≤ b.length → q ≤ b.length) := by
  induction h with
  | done _ => simp
  | step h _ ih =>
    have := frameAt_lt h
    simp only [List.length_cons]
    omega

/-! A frame. -/
theorem byte_shr {n i : Nat} (hn : n < 4294967296) (hi : i < 4) : IntKind.u8.wrap ((n : Int).fdiv (2 ^ (min (8 * (i : Int)).toNat IntKind.i64.bits))) = (((le4 n).getD i 0 : Nat) : Int) := by
  have h256 : ∀ x : Int, IntKind.u8.wrap x = x % 256 := fun x => wrap_u8 x
  rw [h256]
  match i, hi with
  | 0, _ =>
    have e : (2 : Int) ^ (min (8 * ((0 : Nat) : Int)).toNat IntKind.i64.bits) = 1 := rfl
    rw [e, Int.fdiv_eq_ediv_of_nonneg _ (by decide)]
    simp [le4]
  | 1, _ =>
    have e : (2 : Int) ^ (min (8 * ((1 : Nat) : Int)).toNat IntKind.i64.bits) = 256 := by decide
    rw [e, Int.fdiv_eq_ediv_of_nonneg _ (by decide)]
    simp [le4]
  | 2, _ =>
    have e : (2 : Int) ^ (min (8 * ((2 : Nat) : Int)).toNat IntKind.i64.bits) = 65536 := by decide
    rw [e, Int.fdiv_eq_ediv_of_nonneg _ (by decide)]
    simp [le4]
  | 3, _ =>
    have e : (2 : Int) ^ (min (8 * ((3 : Nat) : Int)).toNat IntKind.i64.bits) = 16777216 := by decide
    rw [e, Int.fdiv_eq_ediv_of_nonneg _ (by decide)]
    simp [le4]

theorem le4_take {n i : Nat} (hi : i < 4) : (le4 n).take (i + 1) = (le4 n).take i ++ [(le4 n).getD i 0] := by
  rw [List.take_add_one]
  match i, hi with
  | 0, _ => rfl
  | 1, _ => rfl
  | 2, _ => rfl
  | 3, _ => rfl

set_option maxRecDepth 20000 in
theorem frame22 {o : Opr} (hk : o.Ok) (hl : (encOprs [o]).length < 4294967296) : PureSpec Try.prog 22 [o.av] (.sl (bs (encFrame o)) .no) := by
  refine pureSpec_of (fnE mixed T22 U22 (Nat.le_of_ble_eq_true rfl) ?_)
  unfold c22
  have ld : aload [Blk.cells o.av.cells false] true 6 (.mp 0 0) = some o.av := aload_mp rfl (pick_all rfl)
  simp -failIfUnchanged -implicitDefEqProofs (disch := first | assumption | decide | omega) only [wkA, instrE, astepE, evE, evsE, evoE, evpE, elook, econs, eonly, putE, argE, pickE, resE, rsE, rE, Option.bind_some, Option.bind_none, Option.map_some, Option.map_none, ↓reduceIte, Nat.reduceEqDiff, Nat.reduceAdd, Nat.zero_add, Nat.add_zero, Nat.reduceLT, Nat.reduceLeDiff, Bool.false_eq_true, List.nil_append, List.length_nil, ld, absl_any (opr_okElems o) (by decide)]
  have hc : Abs.Clean (.sl [o.av] .no) := clean_sl fun x hx => by rw [List.mem_singleton] at hx; subst hx; exact opr_cells_clean o
  refine call_own (ops11 (v := .sl [o.av] .no) (l := [o]) (Or.inl rfl) hc (fun t ht => by rw [List.mem_singleton] at ht; subst ht; exact hk) (by omega))
    (impCs1 (clean_sl fun x hx => by rw [List.mem_singleton] at hx; subst hx; exact opr_cells_clean o)) fun id hp' ehp hA => ?_
  clear ehp
  generalize hE : encOprs [o] = E at *
  simp -failIfUnchanged -implicitDefEqProofs (disch := first | assumption | decide | omega) only [wkA, instrE, astepE, evE, evsE, evoE, evpE, elook, econs, eonly, putE, argE, pickE, resE, rsE, rE, Option.bind_some, Option.bind_none, Option.map_some, Option.map_none, ↓reduceIte, Nat.reduceEqDiff, Nat.reduceAdd, Nat.zero_add, Nat.add_zero, Nat.reduceLT, Nat.reduceLeDiff, Bool.false_eq_true]
  refine wpE_count (fun i e hp => ∃ v, e = [(3, .sl (bs E) (.tok id)), (4, v), (9, i64 i)] ∧ i ≤ 4 ∧ Appd hp v (bs ((le4 E.length).take i)) 1) 4 ⟨.nsl, rfl, by decide, Appd.nil _ _⟩ ?_ ?_
  · rintro i e hp hi ⟨v, rfl, _, hA⟩
    have d1 : decide ((i : Int) < 4) = true := by simp; omega
    have x3 : IntKind.i64.wrap (8 * (i : Int)) = 8 * (i : Int) := wrap_i64 (by omega) (by omega)
    have x5 : ¬ (8 * (i : Int)) < 0 := by omega
    have x6 : IntKind.i64.wrap ((i : Int) + 1) = ((i + 1 : Nat) : Int) := by rw [wrap_i64 (by omega) (by omega)]; rfl
    have x7 := byte_shr hl hi
    simp -failIfUnchanged -implicitDefEqProofs (disch := first | assumption | decide | omega) only [wkA, instrE, astepE, evE, evsE, evoE, evpE, elook, econs, eonly, putE, argE, pickE, resE, rsE, rE, Option.bind_some, Option.bind_none, Option.map_some, Option.map_none, ↓reduceIte, Nat.reduceEqDiff, Nat.reduceAdd, Nat.zero_add, Nat.add_zero, Nat.reduceLT, Nat.reduceLeDiff, Bool.false_eq_true, d1, goInt, bs_length, x3, abin_shr, x7]
    refine appE (xs := bs ((le4 E.length).take i)) (ys := bs [(le4 E.length).getD i 0]) hA (ok_bs _) (ok_bs _) (by simp [bs]) (by decide) (by decide) ?_ fun v' hp2 hA2 _ _ => ?_
    · simp [bs, le4]; omega
    · simp -failIfUnchanged -implicitDefEqProofs (disch := first | assumption | decide | omega) only [wkA, instrE, astepE, evE, evsE, evoE, evpE, elook, econs, eonly, putE, argE, pickE, resE, rsE, rE, Option.bind_some, Option.bind_none, Option.map_some, Option.map_none, ↓reduceIte, Nat.reduceEqDiff, Nat.reduceAdd, Nat.zero_add, Nat.add_zero, Nat.reduceLT, Nat.reduceLeDiff, Bool.false_eq_true, x6]
      exact ⟨v', rfl, by omega, by rw [le4_take hi, bs_append]; exact hA2⟩
  · rintro e hp ⟨v, rfl, _, hA⟩
    have d0 : decide (((4 : Nat) : Int) < 4) = false := by decide
    simp -failIfUnchanged -implicitDefEqProofs (disch := first | assumption | decide | omega) only [wkA, instrE, astepE, evE, evsE, evoE, evpE, elook, econs, eonly, putE, argE, pickE, resE, rsE, rE, Option.bind_some, Option.bind_none, Option.map_some, Option.map_none, ↓reduceIte, Nat.reduceEqDiff, Nat.reduceAdd, Nat.zero_add, Nat.add_zero, Nat.reduceLT, Nat.reduceLeDiff, Bool.false_eq_true, d0]
    have hpos : 0 < E.length := by rw [← hE]; exact encMany_pos _ _
    refine appE (xs := bs ((le4 E.length).take 4)) (ys := bs E) hA (ok_bs _) (ok_bs _) (bs_ne hpos) (by decide) (by decide) ?_ fun v' hp2 hA2 _ hv => ?_
    · simp [bs, le4]; omega
    · simp -failIfUnchanged -implicitDefEqProofs (disch := first | assumption | decide | omega) only [wkA, instrE, astepE, evE, evsE, evoE, evpE, elook, econs, eonly, putE, argE, pickE, resE, rsE, rE, Option.bind_some, Option.bind_none, Option.map_some, Option.map_none, ↓reduceIte, Nat.reduceEqDiff, Nat.reduceAdd, Nat.zero_add, Nat.add_zero, Nat.reduceLT, Nat.reduceLeDiff, Bool.false_eq_true]
      obtain ⟨id', rfl⟩ := hv
      have e : bs ((le4 E.length).take 4) ++ bs E = bs (encFrame o) := by
        unfold encFrame
        rw [hE, bs_append]
        rfl
      rw [e]
      exact clean_sl (bs_clean _)

end Go.Proofs.Ytllgfmijocgniaa
