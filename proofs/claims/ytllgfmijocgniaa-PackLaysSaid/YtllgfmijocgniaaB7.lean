/- A region, its order given or open. No condition. -/
import Derived.Test.YtllgfmijocgniaaB6
set_option linter.unusedVariables false
namespace Go.Abs
open Go.RowKit

def edgesOf (o : Oper) : List Nat := (o.after.toList.filter (Region.binds .any)).map (·.on)

/-- For each operation, as bits, all that must come ahead of it. -/
def befs : List Oper → List Nat → List Nat
  | [], acc => acc
  | o :: r, acc => befs r (acc ++ [(edgesOf o).foldl (fun s e => s ||| (2 ^ e ||| acc.getD e 0)) 0])

def slimOpers (P : Program) (ops : Array Oper) : List Oper → Option (List SOper)
  | [] => some []
  | o :: r => match slimOper P ops o, slimOpers P ops r with
    | some s, some l => some (s :: l)
    | _, _ => none

/-- Is text order as good as any? -/
def drawOk (ops : List Oper) (sops : List SOper) : Bool :=
  let bs := befs ops []
  (List.range ops.length).all fun j => match ops[j]?, sops[j]? with
    | some o, some sj => (edgesOf o).all (· < j) && (List.range j).all fun i => match sops[i]? with
      | some si => (bs.getD j 0).testBit i || indep si sj
      | none => false
    | _, _ => false

section
variable {base : Nat} {w0 : Root} {w : World} {C : Cells} {M : List Loc} {P : Program}

theorem foldl_bits (f : Nat → Nat) (i : Nat) : ∀ (l : List Nat) (s : Nat), (l.foldl (fun s e => s ||| (2 ^ e ||| f e)) s).testBit i = true → s.testBit i = true ∨ ∃ e ∈ l, i = e ∨ (f e).testBit i = true
  | [], s, h => Or.inl h
  | e :: r, s, h => by
    rcases foldl_bits f i r _ h with h | ⟨e', he', h⟩
    · rw [Nat.testBit_or, Nat.testBit_or, Nat.testBit_two_pow] at h
      simp only [Bool.or_eq_true, decide_eq_true_eq] at h
      rcases h with h | h | h
      · exact Or.inl h
      · exact Or.inr ⟨e, by simp, Or.inl h.symm⟩
      · exact Or.inr ⟨e, by simp, Or.inr h⟩
    · exact Or.inr ⟨e', by simp [he'], h⟩

theorem befs_ok {ops : List Oper} {E : Nat → Prop} (hcl : ∀ (i : Nat) o, ops[i]? = some o → E i → ∀ e ∈ edgesOf o, E e) : ∀ (l : List Oper) (acc : List Nat), (∀ k, l[k]? = ops[acc.length + k]?) →
    (∀ (j : Nat) o, j < acc.length → ops[j]? = some o → (∀ e ∈ edgesOf o, E e) → ∀ i, (acc.getD j 0).testBit i = true → E i) →
    ∀ (j : Nat) o, ops[j]? = some o → (∀ e ∈ edgesOf o, E e) → ∀ i, ((befs l acc).getD j 0).testBit i = true → E i
  | [], acc, hl, hacc, j, o, ho, he, i, hb => by
    have hj : j < acc.length := by
      rcases Nat.lt_or_ge j acc.length with h | h
      · exact h
      · have := hl (j - acc.length)
        rw [show acc.length + (j - acc.length) = j by omega, ho] at this
        simp at this
    exact hacc j o hj ho he i hb
  | x :: r, acc, hl, hacc, j, o, ho, he, i, hb => by
    simp only [befs] at hb
    refine befs_ok hcl r _ (fun k => ?_) ?_ j o ho he i hb
    · have := hl (k + 1)
      simp only [List.getElem?_cons_succ] at this
      rw [this]; congr 1; simp; omega
    · intro j' o' hj' ho' he' i' hb'
      simp only [List.length_append, List.length_cons, List.length_nil] at hj'
      rcases Nat.lt_or_ge j' acc.length with h | h
      · refine hacc j' o' h ho' he' i' ?_
        rw [List.getD_eq_getElem?_getD, List.getElem?_append_left h] at hb'
        rw [List.getD_eq_getElem?_getD]; exact hb'
      · have hje : j' = acc.length := by omega
        subst hje
        have hx : ops[acc.length]? = some x := by have := hl 0; simpa using this.symm
        rw [hx] at ho'
        cases ho'
        rw [List.getD_eq_getElem?_getD, List.getElem?_append_right (Nat.le_refl _)] at hb'
        simp only [Nat.sub_self, List.getElem?_cons_zero, Option.getD_some] at hb'
        rcases foldl_bits _ i' _ _ hb' with q | ⟨e, hem, q⟩
        · simp at q
        · rcases q with rfl | q
          · exact he' _ hem
          · have hel : e < acc.length := by
              rcases Nat.lt_or_ge e acc.length with h | h
              · exact h
              · rw [List.getD_eq_getElem?_getD, List.getElem?_eq_none h] at q
                simp at q
            cases hoe : ops[e]? with
            | none =>
              exfalso
              have := (List.getElem?_eq_some_iff.1 hx).1
              rw [List.getElem?_eq_none_iff] at hoe
              omega
            | some oe => exact hacc e oe hel hoe (hcl e oe hoe (he' e hem)) i' q

/-- An operation has an outcome. -/
theorem wpOp_out {ops : Array Oper} {i : Nat} {K' : Act → World → Prop} {a : Act} (h : wpOp P ops (fun _ _ _ => False) i K' a w) : ∃ a' w', K' a' w' := by
  have noOut : ¬ LetsOut (fun _ _ _ => False) := fun ⟨_, _, h⟩ => h
  unfold wpOp at h
  split at h
  · exact ⟨_, _, h⟩
  · rename_i o _
    split at h
    · rcases h with h | ⟨_, h⟩
      · unfold Oper.wp Oper.upon at h
        split at h
        · exact ⟨_, _, h⟩
        · exact ⟨_, _, h⟩
        · exact ⟨_, _, h⟩
        · obtain ⟨e, w', fr, hR, _⟩ := h []
          cases e with
          | returned v => exact ⟨_, _, hR⟩
          | panicked c => exact hR.elim
          | outgrown => exact (noOut hR).elim
        · obtain ⟨v, w', hR, _⟩ := h default []
          exact ⟨_, _, hR⟩
        · exact h.elim
        · exact h.elim
      · exact (noOut h).elim
    · exact ⟨_, _, h⟩

theorem sstep_out {ops : Array Oper} {i : Nat} {o : Oper} {so : SOper} (hi : ops[i]? = some o) (hso : SlR P ops o so) {s : St} {a : Act} (h : SimF base w0 C M s a w) {K : St → Prop} (hs : SStep P so K s) :
    ∃ C' M' v hp' a' w', K ⟨aput s.ts so.dst v, hp'⟩ ∧ SimF base w0 C' M' ⟨aput s.ts so.dst v, hp'⟩ a' w' := by
  have hs' : SStep P so (fun s' => K s' ∧ ∃ v hp', s' = ⟨aput s.ts so.dst v, hp'⟩) s :=
    sstep_mono' hs fun v hp' hke k => ⟨k, v, hp', rfl⟩
  have := sstep_okR (Q := fun _ _ _ => False) hi hso h hs' (K' := fun a' w' => ∃ C' M' s', (K s' ∧ ∃ v hp', s' = ⟨aput s.ts so.dst v, hp'⟩) ∧ SimF base w0 C' M' s' a' w')
    (fun C' M' s' a' w' _ hf hk => ⟨C', M', s', hk, hf⟩)
  obtain ⟨a', w', C', M', s', ⟨k, v, hp', rfl⟩, hf⟩ := wpOp_out this
  exact ⟨C', M', v, hp', a', w', k, hf⟩

/-- What is passive is defined from the beginning, if it is at its place. -/
theorem defd {ops : Array Oper} {j : SOper} (hj : kindS j.ins = .free) : ∀ {pre : List (Nat × SOper)} {s : St} {a : Act} {C : Cells} {M : List Loc} {w : World}, (∀ p ∈ pre, ∃ o, ops[p.1]? = some o ∧ SlR P ops o p.2) →
    (∀ p ∈ pre, indep p.2 j = true) → SimF base w0 C M s a w → SOps P (pre.map (·.2)) (fun s' => ∃ v, NV P j s' v) s → ∃ v, NV P j s v
  | [], s, a, C, M, w, _, _, _, h => h
  | p :: pre, s, a, C, M, w, ho, hi, hf, h => by
    obtain ⟨o, h1, h2⟩ := ho p (by simp)
    have h' : SStep P p.2 (SOps P (pre.map fun x : Nat × SOper => x.2) (fun s' => ∃ v, NV P j s' v)) s := h
    obtain ⟨C', M', v, hp', a', w', k, hf'⟩ := sstep_out h1 h2 hf h'
    obtain ⟨u, hu⟩ := defd hj (fun q hq => ho q (by simp [hq])) (fun q hq => hi q (by simp [hq])) hf' k
    obtain ⟨ts, hp⟩ := s
    exact ⟨u, (nv_after (hp := hp) (indep_parts (hi p (by simp))).1 (Or.inl hj)).1 hu⟩

theorem slimOpers_get {ops : Array Oper} : ∀ {l : List Oper} {sl : List SOper}, slimOpers P ops l = some sl → sl.length = l.length ∧ ∀ (i : Nat) o, l[i]? = some o → ∃ so, sl[i]? = some so ∧ slimOper P ops o = some so
  | [], sl, h => by cases h; exact ⟨rfl, fun i o h => by simp at h⟩
  | x :: r, sl, h => by
    simp only [slimOpers] at h
    split at h
    · rename_i s l h1 h2
      cases h
      obtain ⟨e1, e2⟩ := slimOpers_get h2
      refine ⟨by simp [e1], fun i o ho => ?_⟩
      cases i with
      | zero => simp at ho; subst ho; exact ⟨s, rfl, h1⟩
      | succ i => simp at ho; simpa using e2 i o ho
    · cases h

/-- Text order. -/
theorem text_ok {ops : Array Oper} {Q : Exit → Act → World → Prop} {K : St → Prop} : ∀ (sl : List SOper) (k : Nat) (s : St) (a : Act) (C : Cells) (M : List Loc) (w : World),
    (∀ (i : Nat) so, sl[i]? = some so → ∃ o, ops[k + i]? = some o ∧ SlR P ops o so) → SimF base w0 C M s a w → SOps P sl K s →
    (∀ C' M' s' a' w', Le C M s.hp C' M' s'.hp → SimF base w0 C' M' s' a' w' → K s' → Q .normal a' w') → wpOps P ops Q (List.range' k sl.length) a w
  | [], k, s, a, C, M, w, _, hf, h, hq => hq C M s a w (Le.refl _ _ _) hf h
  | so :: r, k, s, a, C, M, w, hg, hf, h, hq => by
    obtain ⟨o, h1, h2⟩ := hg 0 so rfl
    rw [List.length_cons, List.range'_succ, wpOps_cons]
    refine sstep_okR h1 h2 hf h fun C' M' s' a' w' hle hf' k' => ?_
    refine text_ok r (k + 1) s' a' C' M' w' (fun i so' hi => ?_) hf' k' (fun C'' M'' s'' a'' w'' hle' hf'' k'' => hq C'' M'' s'' a'' w'' (hle.trans hle') hf'' k'')
    have := hg (i + 1) so' (by simpa using hi)
    rwa [show k + (i + 1) = k + 1 + i by omega] at this

/-- What hasn't been done yet, in text order. -/
def todo (n : Nat) (listed : Array Bool) : List Nat := (List.range n).filter fun i => !listed.getD i true

theorem range_split {n j : Nat} (h : j < n) : List.range n = List.range j ++ j :: List.range' (j + 1) (n - j - 1) := by
  rw [List.range_eq_range', List.range_eq_range', show n = j + (1 + (n - j - 1)) by omega, ← List.range'_append, show j + (1 + (n - j - 1)) - j - 1 = n - j - 1 by omega]
  congr 1
  rw [show 1 + (n - j - 1) = (n - j - 1) + 1 by omega, List.range'_succ]
  simp

theorem todo_split {n j : Nat} {listed : Array Bool} (hj : j < n) (hn : listed.size = n) (hl : listed.getD j true = false) :
    todo n listed = (List.range j).filter (fun i => !listed.getD i true) ++ j :: (List.range' (j + 1) (n - j - 1)).filter (fun i => !listed.getD i true) ∧
    todo n (listed.setIfInBounds j true) = (List.range j).filter (fun i => !listed.getD i true) ++ (List.range' (j + 1) (n - j - 1)).filter (fun i => !listed.getD i true) := by
  have hne : ∀ i, i ≠ j → (listed.setIfInBounds j true).getD i true = listed.getD i true := fun i hi => by
    simp [Array.getD_eq_getD_getElem?, Array.getElem?_setIfInBounds_ne (Ne.symm hi)]
  have hse : (listed.setIfInBounds j true).getD j true = true := by
    simp [Array.getD_eq_getD_getElem?, Array.getElem?_setIfInBounds_self_of_lt (show j < listed.size by omega)]
  unfold todo
  rw [range_split hj, List.filter_append, List.filter_cons, List.filter_append, List.filter_cons]
  rw [hl, hse]
  simp only [Bool.not_false, if_true, Bool.not_true, Bool.false_eq_true, if_false]
  refine ⟨trivial, ?_⟩
  congr 1
  · apply List.filter_congr
    intro i hi
    rw [hne i (by simp at hi; omega)]
  · apply List.filter_congr
    intro i hi
    rw [hne i (by simp [List.mem_range'] at hi; omega)]

/-- An order that is left open. -/
theorem any_ok {ops : Array Oper} {Q : Exit → Act → World → Prop} {K : St → Prop} {sops : List SOper} (hlen : sops.length = ops.toList.length) (hget : ∀ (i : Nat) o, ops.toList[i]? = some o → ∃ so, sops[i]? = some so ∧ SlR P ops o so) (hdr : drawOk ops.toList sops = true) :
    ∀ (fuel : Nat) (listed : Array Bool) (s : St) (a : Act) (C : Cells) (M : List Loc) (w : World), listed.size = ops.size → (todo ops.size listed).length ≤ fuel →
      (∀ (i : Nat) o, ops[i]? = some o → listed.getD i true = true → ∀ e ∈ edgesOf o, listed.getD e false = true) →
      SimF base w0 C M s a w → SOps P ((todo ops.size listed).map fun i => (sops[i]?).getD ⟨none, none, .op (.alloc [])⟩) K s →
      (∀ C' M' s' a' w', Le C M s.hp C' M' s'.hp → SimF base w0 C' M' s' a' w' → K s' → Q .normal a' w') → wpAny P .any ops Q fuel listed a w := by
  have hlen' : sops.length = ops.size := by simpa using hlen
  -- the checks
  have chk : ∀ j o sj, ops[j]? = some o → sops[j]? = some sj → (∀ e ∈ edgesOf o, e < j) ∧ ∀ (i : Nat) si, i < j → sops[i]? = some si → ((befs ops.toList []).getD j 0).testBit i = true ∨ indep si sj = true := by
    intro j o sj ho hsj
    have hjn : j < ops.size := (Array.getElem?_eq_some_iff.1 ho).1
    unfold drawOk at hdr
    have := List.all_eq_true.1 hdr j (by simp [hjn])
    rw [show ops.toList[j]? = some o by simpa using ho, hsj] at this
    simp only [Bool.and_eq_true, List.all_eq_true, decide_eq_true_eq] at this
    refine ⟨this.1, fun i si hij hsi => ?_⟩
    have h2 := this.2 i (by simp [hij])
    rw [hsi] at h2
    simpa using h2
  have sget : ∀ j, j < ops.size → ∃ o so, ops[j]? = some o ∧ sops[j]? = some so ∧ SlR P ops o so := by
    intro j hj
    obtain ⟨so, h1, h2⟩ := hget j ops[j] (by simp [hj])
    exact ⟨ops[j], so, by simp [hj], h1, h2⟩
  -- nothing ready: nothing to do
  have hready : ∀ listed : Array Bool, listed.size = ops.size → (∀ (i : Nat) o, ops[i]? = some o → listed.getD i true = true → ∀ e ∈ edgesOf o, listed.getD e false = true) → Region.ready .any ops listed = [] → todo ops.size listed = [] := by
    intro listed hls hcl hr
    -- the least that isn't listed would be ready
    have : ∀ m, m ≤ ops.size → ∀ i, i < m → listed.getD i true = true := by
      intro m
      induction m with
      | zero => intro _ i hi; omega
      | succ m ih =>
        intro hm i hi
        rcases Nat.lt_or_ge i m with h | h
        · exact ih (by omega) i h
        · have hie : i = m := by omega
          subst hie
          cases hlb : listed.getD i true with
          | true => rfl
          | false =>
            exfalso
            obtain ⟨o, so, h1, h2, h3⟩ := sget i (by omega)
            obtain ⟨c1, _⟩ := chk i o so h1 h2
            have : i ∈ Region.ready .any ops listed := by
              unfold Region.ready
              rw [List.mem_filter]
              refine ⟨by simp; omega, ?_⟩
              rw [hlb, h1]
              simp only [Bool.not_false, Bool.true_and, Option.map_some, Option.getD_some]
              rw [← Array.all_toList, List.all_eq_true]
              intro e he
              cases hb : Region.binds .any e with
              | false => rfl
              | true =>
                have hel : e.on < i := c1 e.on (by unfold edgesOf; rw [List.mem_map]; exact ⟨e, by rw [List.mem_filter]; exact ⟨he, hb⟩, rfl⟩)
                have := ih (by omega) e.on hel
                have hin : e.on < listed.size := by omega
                simp [Array.getD_eq_getD_getElem?, Array.getElem?_eq_getElem hin] at this ⊢
                exact this
            rw [hr] at this
            cases this
    unfold todo
    rw [List.filter_eq_nil_iff]
    intro i hi
    simp at hi
    rw [this ops.size (Nat.le_refl _) i hi]
    simp
  intro fuel
  induction fuel with
  | zero =>
    intro listed s a C M w hls hfu hcl hf hs hq
    have ht : todo ops.size listed = [] := List.eq_nil_of_length_eq_zero (by omega)
    rw [ht] at hs
    refine ⟨?_, hq C M s a w (Le.refl _ _ _) hf hs⟩
    unfold Region.ready
    rw [List.filter_eq_nil_iff]
    intro i hi
    simp at hi
    have : i ∉ todo ops.size listed := by rw [ht]; simp
    unfold todo at this
    rw [List.mem_filter] at this
    simp [hi] at this
    simp [this]
  | succ fuel ih =>
    intro listed s a C M w hls hfu hcl hf hs hq
    refine ⟨fun hr => ?_, fun j hj => ?_⟩
    · rw [hready listed hls hcl hr] at hs
      exact hq C M s a w (Le.refl _ _ _) hf hs
    · unfold Region.ready at hj
      rw [List.mem_filter] at hj
      obtain ⟨hjr, hj2⟩ := hj
      have hjn : j < ops.size := by simpa using hjr
      obtain ⟨o, so, h1, h2, h3⟩ := sget j hjn
      rw [h1] at hj2
      simp only [Bool.and_eq_true, Bool.not_eq_true', Option.map_some, Option.getD_some] at hj2
      obtain ⟨hjl, hje⟩ := hj2
      have hedges : ∀ e ∈ edgesOf o, listed.getD e false = true := by
        intro e he
        unfold edgesOf at he
        rw [List.mem_map] at he
        obtain ⟨ed, hed, rfl⟩ := he
        rw [List.mem_filter] at hed
        rw [← Array.all_toList, List.all_eq_true] at hje
        have := hje ed hed.1
        rw [hed.2] at this
        simpa using this
      obtain ⟨e1, e2⟩ := todo_split hjn hls hjl
      rw [e1, List.map_append, List.map_cons] at hs
      have hsj : (sops[j]?).getD ⟨none, none, .op (.alloc [])⟩ = so := by rw [h2]; rfl
      rw [hsj] at hs
      -- those ahead that are still to be done are independent
      have hpre : ∀ i ∈ (List.range j).filter (fun i => !listed.getD i true), ∃ oi si, ops[i]? = some oi ∧ sops[i]? = some si ∧ SlR P ops oi si ∧ indep si so = true := by
        intro i hi
        rw [List.mem_filter] at hi
        obtain ⟨hir, hil⟩ := hi
        have hij : i < j := by simpa using hir
        obtain ⟨oi, si, q1, q2, q3⟩ := sget i (by omega)
        refine ⟨oi, si, q1, q2, q3, ?_⟩
        rcases (chk j o so h1 h2).2 i si hij q2 with hb | hb
        · exfalso
          have := befs_ok (ops := ops.toList) (E := fun e => listed.getD e false = true) (fun i' o' ho' he' => hcl i' o' (by simpa using ho') (by
              have hil' : i' < listed.size := by
                rw [hls]; simpa using (List.getElem?_eq_some_iff.1 ho').1
              simp [Array.getD_eq_getD_getElem?, Array.getElem?_eq_getElem hil'] at he' ⊢
              exact he')) ops.toList [] (fun k => by simp) (fun j' o' hj' => by simp at hj') j o (by simpa using h1) hedges i hb
          have hil' : i < listed.size := by omega
          simp [Array.getD_eq_getD_getElem?, Array.getElem?_eq_getElem hil'] at hil this
          rw [this] at hil
          cases hil
        · exact hb
      have hmove : SOps P (so :: ((((List.range j).filter (fun i => !listed.getD i true)).map fun i => (sops[i]?).getD ⟨none, none, .op (.alloc [])⟩) ++ (((List.range' (j + 1) (ops.size - j - 1)).filter (fun i => !listed.getD i true)).map fun i => (sops[i]?).getD ⟨none, none, .op (.alloc [])⟩))) K s := by
        refine moveFront (fun p hp => ?_) (fun hjf => ?_) hs
        · rw [List.mem_map] at hp
          obtain ⟨i, hi, rfl⟩ := hp
          obtain ⟨oi, si, q1, q2, q3, q4⟩ := hpre i hi
          rw [q2]; exact q4
        · have hs' := SOps.append.1 hs
          have := defd (ops := ops) hjf (pre := ((List.range j).filter (fun i => !listed.getD i true)).map fun i => (i, (sops[i]?).getD ⟨none, none, .op (.alloc [])⟩)) (fun p hp => by
              rw [List.mem_map] at hp
              obtain ⟨i, hi, rfl⟩ := hp
              obtain ⟨oi, si, q1, q2, q3, q4⟩ := hpre i hi
              exact ⟨oi, q1, by simp only [q2, Option.getD_some]; exact q3⟩) (fun p hp => by
              rw [List.mem_map] at hp
              obtain ⟨i, hi, rfl⟩ := hp
              obtain ⟨oi, si, q1, q2, q3, q4⟩ := hpre i hi
              simp only [q2, Option.getD_some]; exact q4) hf (by
              rw [List.map_map]
              refine SOps.mono hs' fun s' k => ?_
              have k' : SStep P so _ s' := k
              rw [sstep_iff (Or.inl hjf)] at k'
              obtain ⟨v, hv, _⟩ := k'
              exact ⟨v, hv⟩)
          exact this
      refine sstep_okR h1 h3 hf (K := SOps P ((((List.range j).filter (fun i => !listed.getD i true)).map fun i => (sops[i]?).getD ⟨none, none, .op (.alloc [])⟩) ++ (((List.range' (j + 1) (ops.size - j - 1)).filter (fun i => !listed.getD i true)).map fun i => (sops[i]?).getD ⟨none, none, .op (.alloc [])⟩)) K) hmove fun C' M' s' a' w' hle hf' k => ?_
      refine ih (listed.setIfInBounds j true) s' a' C' M' w' (by simpa using hls) ?_ ?_ hf' ?_ (fun C'' M'' s'' a'' w'' hle' hf'' k'' => hq C'' M'' s'' a'' w'' (hle.trans hle') hf'' k'')
      · have l1 := congrArg List.length e1
        have l2 := congrArg List.length e2
        simp only [List.length_append, List.length_cons] at l1 l2
        omega
      · intro i oi hoi hil e he
        by_cases hij : i = j
        · subst hij
          rw [h1] at hoi
          cases hoi
          have := hedges e he
          by_cases hej : e = i
          · subst hej
            simp [Array.getD_eq_getD_getElem?, Array.getElem?_setIfInBounds_self_of_lt (show e < listed.size by omega)]
          · simpa [Array.getD_eq_getD_getElem?, Array.getElem?_setIfInBounds_ne (Ne.symm hej)] using this
        · have := hcl i oi hoi (by simpa [Array.getD_eq_getD_getElem?, Array.getElem?_setIfInBounds_ne (Ne.symm hij)] using hil) e he
          by_cases hej : e = j
          · subst hej
            simp [Array.getD_eq_getD_getElem?, Array.getElem?_setIfInBounds_self_of_lt (show e < listed.size by omega)]
          · simpa [Array.getD_eq_getD_getElem?, Array.getElem?_setIfInBounds_ne (Ne.symm hej)] using this
      · rw [e2, List.map_append]; exact k

end
end Go.Abs
