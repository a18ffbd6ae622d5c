/- A region whose order is left open does what its text order does, where its operations are independent enough. No condition. -/
import Derived.Test.YtllgfmijocgniaaB5
set_option linter.unusedVariables false
namespace Go.Abs
open Go.RowKit

/-- The operands of a slim operation. -/
def opOpds : SOp → List Opd
  | .mv x | .box x | .nilc x | .un _ x | .cv _ x | .s2s x | .b2s x | .fa _ x | .fld _ _ _ x | .ext _ x | .lenS x | .len x | .ld _ _ x => [x]
  | .pick c a b => [c, a, b]
  | .alloc _ => []
  | .build _ ps => ps.map fun p => p.2.2
  | .bsl _ vs => vs
  | .st _ p x | .bin _ p x | .eqb _ p x | .eqn _ _ p x | .eqf _ _ p x | .ia _ p x | .aa _ _ p x | .idx _ _ _ p x | .chr p x | .app _ _ p x => [p, x]
  | .slc _ x lo hi mx => x :: (lo.toList ++ hi.toList ++ mx.toList)
  | .sls x lo hi => x :: (lo.toList ++ hi.toList)
  | .mkf _ a b => a ++ b

def insOpds : SInstr → List Opd
  | .op o => opOpds o
  | .call _ args | .pcall _ args => args
  | .callv x args => x :: args

def slotOf : Opd → Option Nat
  | .t n => some n
  | .c _ => none

/-- The slots that an operation looks at. -/
def reads (so : SOper) : List Nat := (insOpds so.ins).filterMap slotOf ++ (so.guard.map (·.1)).toList

inductive Kind where
  | free | read | app | eff
  deriving DecidableEq

def kindS : SInstr → Kind
  | .op o => match o with
    | .ld .. => .read
    | .app .. => .app
    | .alloc _ | .box _ | .st .. => .eff
    | _ => .free
  | .pcall _ _ => .free
  | _ => .eff

def apart2 (x y : SOper) : Bool :=
  match x.dst with
  | none => true
  | some d => !(reads y).contains d && y.dst != some d

/-- Has an operation one outcome? -/
def det : SInstr → Bool
  | .call _ _ | .callv _ _ => false
  | _ => true

def isOp : SInstr → Bool
  | .op _ => true
  | _ => false

/-- May two operations change places? -/
def indep (x y : SOper) : Bool :=
  apart2 x y && apart2 y x && (kindS x.ins == .free || kindS y.ins == .free || (kindS x.ins == .read && (kindS y.ins == .read || kindS y.ins == .app)) || (kindS x.ins == .app && kindS y.ins == .read)) && (det x.ins || isOp y.ins || !det y.ins)

section
variable {P : Program}

theorem ev_aput {ts : List AV} {d : Option Nat} {v : AV} {x : Opd} (h : ∀ k, d = some k → slotOf x ≠ some k) : ev (aput ts d v) x = ev ts x := by
  cases x with
  | c a => rfl
  | t n =>
    cases d with
    | none => rfl
    | some k =>
      have hne : k ≠ n := fun e => h k rfl (by rw [e]; rfl)
      simp only [ev, aput, List.getElem?_set_ne hne]

theorem map_congr' {ts ts' : List AV} : ∀ {l : List Opd}, (∀ x ∈ l, ev ts x = ev ts' x) → l.map (ev ts) = l.map (ev ts')
  | [], _ => rfl
  | x :: r, h => by rw [List.map_cons, List.map_cons, h x (by simp), map_congr' fun y hy => h y (by simp [hy])]

theorem omap_congr {ts ts' : List AV} {o : Option Opd} (h : ∀ x ∈ o.toList, ev ts x = ev ts' x) : o.map (ev ts) = o.map (ev ts') := by
  cases o with
  | none => rfl
  | some x => simp only [Option.map_some]; rw [h x (by simp)]

theorem astep_congr {ts ts' : List AV} {hp : List Blk} {o : SOp} (h : ∀ x ∈ opOpds o, ev ts x = ev ts' x) : astep ts hp o = astep ts' hp o := by
  cases o with
  | alloc z => rfl
  | build z ps =>
    simp only [astep]
    congr 2
    apply List.map_congr_left
    intro p hp'
    rw [h p.2.2 (by simp only [opOpds, List.mem_map]; exact ⟨p, hp', rfl⟩)]
  | bsl n vs => simp only [astep]; rw [map_congr' (l := vs) h]
  | slc n x lo hi mx =>
    simp only [opOpds, List.mem_cons, List.mem_append] at h
    simp only [astep]
    rw [h x (Or.inl rfl), omap_congr (o := lo) fun y hy => h y (Or.inr (Or.inl (Or.inl hy))), omap_congr (o := hi) fun y hy => h y (Or.inr (Or.inl (Or.inr hy))), omap_congr (o := mx) fun y hy => h y (Or.inr (Or.inr hy))]
  | sls x lo hi =>
    simp only [opOpds, List.mem_cons, List.mem_append] at h
    simp only [astep]
    rw [h x (Or.inl rfl), omap_congr (o := lo) fun y hy => h y (Or.inr (Or.inl hy)), omap_congr (o := hi) fun y hy => h y (Or.inr (Or.inr hy))]
  | mkf f a b =>
    simp only [opOpds, List.mem_append] at h
    simp only [astep]
    rw [map_congr' (l := a) fun y hy => h y (Or.inl hy), map_congr' (l := b) fun y hy => h y (Or.inr hy)]
  | _ =>
    simp only [opOpds, List.mem_cons, List.not_mem_nil, or_false, forall_eq_or_imp, forall_eq] at h
    simp only [astep, h]

theorem mapPair {hp : List Blk} {x : Option AV} (r : AV × List Blk) (h : x.map (fun r => (r, hp)) = some r) : r.2 = hp := by
  simp only [Option.map_eq_some_iff] at h
  obtain ⟨_, _, rfl⟩ := h
  rfl

/-- An operation that neither reads nor writes the heap. -/
theorem astep_free {o : SOp} (h : kindS (.op o) = .free) (ts : List AV) : ∃ f : Option AV, ∀ hp, astep ts hp o = f.map fun r => (r, hp) := by
  cases o <;> simp only [kindS, reduceCtorEq] at h <;> simp only [astep]
  case mv x => exact ⟨some (ev ts x), fun hp => rfl⟩
  case pick c a b =>
    split
    · rename_i b' _
      exact ⟨some (if b' then ev ts a else ev ts b), fun hp => rfl⟩
    · exact ⟨none, fun hp => rfl⟩
  case mkf f a b => exact ⟨some _, fun hp => rfl⟩
  case slc n x lo hi mx =>
    split
    · exact ⟨none, fun hp => rfl⟩
    · exact ⟨_, fun hp => rfl⟩
  case sls x lo hi =>
    split
    · exact ⟨_, fun hp => rfl⟩
    · exact ⟨none, fun hp => rfl⟩
  case lenS x =>
    split
    · exact ⟨some _, fun hp => rfl⟩
    · exact ⟨none, fun hp => rfl⟩
  case len x =>
    split
    · exact ⟨none, fun hp => rfl⟩
    · exact ⟨_, fun hp => rfl⟩
  case build z ps => exact ⟨(afill z (ps.map fun p => (p.1, p.2.1, ev ts p.2.2))).map AV.agg, fun hp => by simp [Option.map_map, Function.comp_def]⟩
  all_goals exact ⟨_, fun hp => rfl⟩

/-- Does an operation leave the heap as it was? -/
def passive (k : Kind) : Prop := k = .free ∨ k = .read

theorem astep_keeps {o : SOp} (h : passive (kindS (.op o))) {ts : List AV} {hp hp' : List Blk} {v : AV} (hs : astep ts hp o = some (v, hp')) : hp' = hp := by
  rcases h with hk | hk
  · obtain ⟨f, hf⟩ := astep_free hk ts
    rw [hf] at hs
    exact mapPair _ hs
  · cases o <;> simp only [kindS, reduceCtorEq] at hk
    simp only [astep] at hs
    exact mapPair _ hs

/-- Heaps that read the same. -/
def SameCells (hp hp' : List Blk) : Prop := ∀ ag n p, aload hp' ag n p = aload hp ag n p

theorem same_of {hp hp' : List Blk} (h : ∀ (k : Nat) cs fz, hp'[k]? = some (.cells cs fz) ↔ hp[k]? = some (.cells cs fz)) : SameCells hp hp' := by
  intro ag n p
  cases p with
  | mp k off =>
    simp only [aload]
    cases h1 : hp[k]? with
    | none =>
      cases h2 : hp'[k]? with
      | none => rfl
      | some b => cases b with
        | cells cs fz => rw [(h k cs fz).1 h2] at h1; cases h1
        | tok _ _ => rfl
    | some b => cases b with
      | cells cs fz => rw [(h k cs fz).2 h1]
      | tok _ _ =>
        cases h2 : hp'[k]? with
        | none => rfl
        | some b => cases b with
          | cells cs fz => rw [(h k cs fz).1 h2] at h1; cases h1
          | tok _ _ => rfl
  | _ => rfl

theorem same_push {hp : List Blk} {n s : Nat} : SameCells hp (hp ++ [.tok n s]) := same_of fun k cs fz => by
  rcases Nat.lt_or_ge k hp.length with hk | hk
  · rw [List.getElem?_append_left hk]
  · rw [List.getElem?_append_right hk, List.getElem?_eq_none hk]
    cases hj : k - hp.length <;> simp

theorem same_set {hp : List Blk} {id n n' s s' : Nat} (h : hp[id]? = some (.tok n s)) : SameCells hp (hp.set id (.tok n' s')) := same_of fun k cs fz => by
  by_cases e : id = k
  · subst e
    have hl : id < hp.length := (List.getElem?_eq_some_iff.1 h).1
    rw [List.getElem?_set_self hl, h]
    simp
  · rw [List.getElem?_set_ne e]

theorem aapp_same {hp hp' : List Blk} {n b : Nat} {s x r : AV} (h : aapp hp n b s x = some (r, hp')) : SameCells hp hp' := by
  unfold aapp at h
  split at h
  · cases h
  split at h
  · split at h
    · cases h; exact fun _ _ _ => rfl
    · cases h; exact fun _ _ _ => rfl
    · cases h
  · split at h
    · split at h
      · split at h
        · cases h; exact same_push
        · cases h
      · split at h
        · split at h
          · cases h; exact same_push
          · split at h
            · rename_i hid
              split at h
              · cases h; exact same_set hid
              · cases h
            · cases h
          · cases h
        · cases h
      · cases h
    · cases h

/-- What an operation without effect may give. -/
def NV (P : Program) (so : SOper) (s : St) (v : AV) : Prop :=
  if awant so.guard s.ts = true then
    match so.ins with
    | .op o => (astep s.ts s.hp o).map (·.1) = some v
    | .pcall f args => ∃ bs, ImpCs (args.map (ev s.ts)) bs ∧ PureSpec P f bs v
    | _ => False
  else v = undefA

theorem sstep_iff {so : SOper} (hk : passive (kindS so.ins)) {K : St → Prop} {s : St} : SStep P so K s ↔ ∃ v, NV P so s v ∧ K ⟨aput s.ts so.dst v, s.hp⟩ := by
  unfold SStep NV
  split
  · cases hi : so.ins with
    | op o =>
      rw [hi] at hk
      simp only
      cases hst : astep s.ts s.hp o with
      | none => simp
      | some r =>
        obtain ⟨v, hp'⟩ := r
        have := astep_keeps hk hst
        subst this
        simp
    | call f args => rw [hi] at hk; rcases hk with hk | hk <;> cases hk
    | callv x args => rw [hi] at hk; rcases hk with hk | hk <;> cases hk
    | pcall f args =>
      simp only
      exact ⟨fun ⟨bs, r, h1, h2, h3⟩ => ⟨r, ⟨bs, h1, h2⟩, h3⟩, fun ⟨r, ⟨bs, h1, h2⟩, h3⟩ => ⟨bs, r, h1, h2, h3⟩⟩
  · simp

theorem awant_aput {g : Option (Nat × Bool)} {ts : List AV} {d : Option Nat} {v : AV} (h : ∀ k, d = some k → g.map (·.1) ≠ some k) : awant g (aput ts d v) = awant g ts := by
  cases g with
  | none => rfl
  | some p =>
    cases d with
    | none => rfl
    | some k =>
      have hne : k ≠ p.1 := fun e => h k rfl (by rw [e]; rfl)
      simp only [awant, aput, List.getElem?_set_ne hne]

theorem apart_reads {x y : SOper} (h : apart2 x y = true) {k : Nat} (hk : x.dst = some k) : k ∉ reads y ∧ y.dst ≠ some k := by
  unfold apart2 at h
  rw [hk] at h
  simp at h
  exact ⟨h.1, h.2⟩

theorem reads_opd {y : SOper} {x : Opd} (hx : x ∈ insOpds y.ins) {k : Nat} (h : k ∉ reads y) : slotOf x ≠ some k := by
  intro e
  apply h
  unfold reads
  rw [List.mem_append]
  left
  rw [List.mem_filterMap]
  exact ⟨x, hx, e⟩

theorem reads_guard {y : SOper} {k : Nat} (h : k ∉ reads y) : y.guard.map (·.1) ≠ some k := by
  intro e
  apply h
  unfold reads
  rw [List.mem_append]
  right
  rw [e]
  simp

/-- What a passive operation gives doesn't hang on an independent one. -/
theorem nv_after {x y : SOper} {hp hp' : List Blk} (h : apart2 y x = true) (hk : kindS x.ins = .free ∨ (SameCells hp hp' ∧ kindS x.ins = .read)) {ts : List AV} {v u : AV} : NV P x ⟨aput ts y.dst v, hp'⟩ u ↔ NV P x ⟨ts, hp⟩ u := by
  have hd : ∀ k, y.dst = some k → k ∉ reads x := fun k hk => (apart_reads h hk).1
  unfold NV
  rw [awant_aput fun k hk => reads_guard (hd k hk)]
  split
  · cases hi : x.ins with
    | op o =>
      simp only
      have hc : astep (aput ts y.dst v) hp' o = astep ts hp' o := astep_congr fun z hz => ev_aput fun k hk => reads_opd (y := x) (by rw [hi]; exact hz) (hd k hk)
      rw [hc]
      rw [hi] at hk
      rcases hk with hk | ⟨hs, hk⟩
      · obtain ⟨f, hf⟩ := astep_free hk ts
        rw [hf, hf]
        simp [Option.map_map, Function.comp_def]
      · cases o <;> simp only [kindS, reduceCtorEq] at hk
        simp only [astep, Option.map_map, Function.comp_def]
        rw [hs]
    | pcall f args =>
      simp only
      rw [map_congr' (l := args) fun z hz => ev_aput fun k hk => reads_opd (y := x) (by rw [hi]; exact hz) (hd k hk)]
    | _ => exact Iff.rfl
  · exact Iff.rfl

theorem aput_comm {ts : List AV} {d e : Option Nat} (h : ∀ k, d = some k → e ≠ some k) (v u : AV) : aput (aput ts d v) e u = aput (aput ts e u) d v := by
  cases d with
  | none => rfl
  | some d =>
    cases e with
    | none => rfl
    | some e =>
      have : d ≠ e := fun q => h d rfl (by rw [q])
      simp only [aput]
      rw [List.set_comm _ _ this]

/-- An operation doesn't look at another one's slot. -/
theorem sstep_put {y : SOper} {d : Option Nat} {v : AV} (hd : ∀ k, d = some k → k ∉ reads y ∧ y.dst ≠ some k) {K : St → Prop} {ts : List AV} {hp : List Blk} :
    SStep P y K ⟨aput ts d v, hp⟩ ↔ SStep P y (fun s => K ⟨aput s.ts d v, s.hp⟩) ⟨ts, hp⟩ := by
  have hcm : ∀ u, aput (aput ts d v) y.dst u = aput (aput ts y.dst u) d v := fun u => aput_comm (fun k hk => (hd k hk).2) v u
  have hev : ∀ x ∈ insOpds y.ins, ev (aput ts d v) x = ev ts x := fun x hx => ev_aput fun k hk => reads_opd hx (hd k hk).1
  unfold SStep
  rw [awant_aput fun k hk => reads_guard (hd k hk).1]
  simp only [hcm]
  split
  · cases hi : y.ins with
    | op o =>
      rw [hi] at hev
      simp only
      rw [astep_congr (ts := aput ts d v) (ts' := ts) hev]
    | call f args =>
      rw [hi] at hev
      simp only
      rw [map_congr' (l := args) hev]
    | callv x args =>
      rw [hi] at hev
      simp only
      rw [map_congr' (l := args) fun z hz => hev z (by simp [insOpds, hz]), hev x (by simp [insOpds])]
    | pcall f args =>
      rw [hi] at hev
      simp only
      rw [map_congr' (l := args) hev]
  · rfl

/-- What becomes of the heap. -/
def HpRel (k : Kind) (hp hp' : List Blk) : Prop := (passive k → hp' = hp) ∧ (k = .app → SameCells hp hp')

theorem HpRel.same {k : Kind} {hp hp' : List Blk} (h : HpRel k hp hp') (hk : k = .read ∨ k = .app ∨ k = .free) : SameCells hp hp' := by
  rcases hk with e | e | e
  · rw [h.1 (Or.inr e)]; exact fun _ _ _ => rfl
  · exact h.2 e
  · rw [h.1 (Or.inl e)]; exact fun _ _ _ => rfl

/-- The outcomes of an operation, by their form. -/
theorem sstep_mono' {y : SOper} {K K' : St → Prop} {s : St} (h : SStep P y K s) (hk : ∀ v hp', HpRel (kindS y.ins) s.hp hp' → K ⟨aput s.ts y.dst v, hp'⟩ → K' ⟨aput s.ts y.dst v, hp'⟩) : SStep P y K' s := by
  have none : ∀ {hp : List Blk}, HpRel (kindS y.ins) hp hp := ⟨fun _ => rfl, fun _ _ _ _ => rfl⟩
  have eff : ∀ {hp hp' : List Blk}, kindS y.ins = .eff → HpRel (kindS y.ins) hp hp' := by
    intro hp hp' e
    rw [e]
    exact ⟨(fun q => by rcases q with q | q <;> cases q), (fun q => by cases q)⟩
  unfold SStep at h ⊢
  split at h
  · rename_i hw
    rw [if_pos hw]
    cases hi : y.ins with
    | op o =>
      rw [hi] at h
      simp only at h ⊢
      cases hst : astep s.ts s.hp o with
      | none => rw [hst] at h; exact h
      | some r =>
        obtain ⟨v, hp'⟩ := r
        rw [hst] at h
        refine hk v hp' ⟨fun q => ?_, fun q => ?_⟩ h
        · rw [hi] at q; exact astep_keeps q hst
        · rw [hi] at q
          cases o <;> simp only [kindS, reduceCtorEq] at q
          simp only [astep] at hst
          exact aapp_same hst
    | call f args =>
      rw [hi] at h
      exact h.mono fun v hp' k => hk v hp' (eff (by rw [hi]; rfl)) k
    | callv x args =>
      rw [hi] at h
      simp only at h ⊢
      split at h
      · exact h.mono fun v hp' k => hk v hp' (eff (by rw [hi]; rfl)) k
      · exact h
    | pcall f args =>
      rw [hi] at h
      obtain ⟨bs, r, h1, h2, h3⟩ := h
      exact ⟨bs, r, h1, h2, hk _ _ none h3⟩
  · rename_i hw
    rw [if_neg hw]
    exact hk _ _ none h

theorem indep_parts {x y : SOper} (h : indep x y = true) : apart2 x y = true ∧ apart2 y x = true ∧
    (kindS x.ins = .free ∨ kindS y.ins = .free ∨ (kindS x.ins = .read ∧ (kindS y.ins = .read ∨ kindS y.ins = .app)) ∨ (kindS x.ins = .app ∧ kindS y.ins = .read)) ∧ (det x.ins = true ∨ isOp y.ins = true ∨ det y.ins = false) := by
  unfold indep at h
  simp only [Bool.and_eq_true, Bool.or_eq_true, beq_iff_eq, Bool.not_eq_true'] at h
  obtain ⟨⟨⟨h1, h2⟩, h3⟩, h4⟩ := h
  refine ⟨h1, h2, ?_, ?_⟩
  · rcases h3 with ((q | q) | q) | q
    · exact Or.inl q
    · exact Or.inr (Or.inl q)
    · exact Or.inr (Or.inr (Or.inl q))
    · exact Or.inr (Or.inr (Or.inr q))
  · rcases h4 with (q | q) | q
    · exact Or.inl q
    · exact Or.inr (Or.inl q)
    · exact Or.inr (Or.inr q)

/-- The one outcome. -/
theorem det_out {x : SOper} (hx : det x.ins = true) {K : St → Prop} {s : St} (h : SStep P x K s) :
    ∃ u hp', HpRel (kindS x.ins) s.hp hp' ∧ K ⟨aput s.ts x.dst u, hp'⟩ ∧ ∀ K' : St → Prop, K' ⟨aput s.ts x.dst u, hp'⟩ → SStep P x K' s := by
  have h' := sstep_mono' (K' := fun s1 => K s1 ∧ HpRel (kindS x.ins) s.hp s1.hp) h fun v hp' hr k => ⟨k, hr⟩
  unfold SStep at h'
  split at h'
  · rename_i hw
    cases hi : x.ins with
    | op o =>
      rw [hi] at h'
      simp only at h'
      cases hst : astep s.ts s.hp o with
      | none => rw [hst] at h'; exact h'.elim
      | some r =>
        obtain ⟨v, hp'⟩ := r
        rw [hst] at h'
        refine ⟨v, hp', h'.2, h'.1, fun K' k => ?_⟩
        unfold SStep
        rw [if_pos hw, hi]
        simp only
        rw [hst]
        exact k
    | call f args => rw [hi] at hx; cases hx
    | callv y args => rw [hi] at hx; cases hx
    | pcall f args =>
      rw [hi] at h'
      obtain ⟨bs, r, h1, h2, h3⟩ := h'
      refine ⟨r, s.hp, h3.2, h3.1, fun K' k => ?_⟩
      unfold SStep
      rw [if_pos hw, hi]
      exact ⟨bs, r, h1, h2, k⟩
  · rename_i hw
    refine ⟨undefA, s.hp, h'.2, h'.1, fun K' k => ?_⟩
    unfold SStep
    rw [if_neg hw]
    exact k

theorem nv_op {y : SOper} (hy : isOp y.ins = true) {s : St} {u v : AV} (hu : NV P y s u) (hv : NV P y s v) : u = v := by
  unfold NV at hu hv
  split at hu
  · rename_i hw
    rw [if_pos hw] at hv
    cases hi : y.ins with
    | op o =>
      rw [hi] at hu hv
      simp only at hu hv
      rw [hu] at hv
      exact Option.some.inj hv
    | _ => rw [hi] at hy; cases hy
  · rename_i hw
    rw [if_neg hw] at hv
    rw [hu, hv]

/-- Two independent operations change places. -/
theorem swap {x y : SOper} (h : indep x y = true) {K : St → Prop} {s : St} (hd : kindS y.ins = .free → ∃ v, NV P y s v) (hs : SStep P x (SStep P y K) s) : SStep P y (SStep P x K) s := by
  obtain ⟨ts, hp⟩ := s
  obtain ⟨a1, a2, a3, a4⟩ := indep_parts h
  by_cases hy : passive (kindS y.ins)
  · by_cases hx : det x.ins = true
    · -- one outcome
      obtain ⟨u, hp', hrel, k, hk⟩ := det_out hx hs
      rw [sstep_iff hy] at k
      obtain ⟨v, hv, k⟩ := k
      rw [sstep_iff hy]
      refine ⟨v, ?_, ?_⟩
      · refine (nv_after a1 ?_).1 hv
        rcases hy with q | q
        · exact Or.inl q
        · refine Or.inr ⟨hrel.same ?_, q⟩
          rcases a3 with r | r | r | r
          · exact Or.inr (Or.inr r)
          · rw [q] at r; cases r
          · exact Or.inl r.1
          · exact Or.inr (Or.inl r.1)
      · rw [sstep_put fun k hk => apart_reads a2 hk]
        exact hk _ k
    · -- a call ahead of an operation that gives one value
      have hxk : kindS x.ins = .eff := by
        cases hi : x.ins <;> rw [hi] at hx <;> first | (exact (hx rfl).elim) | rfl
      have hyf : kindS y.ins = .free := by
        rcases a3 with r | r | r | r
        · rw [hxk] at r; cases r
        · exact r
        · rw [hxk] at r; cases r.1
        · rw [hxk] at r; cases r.1
      have hyo : isOp y.ins = true := by
        rcases a4 with r | r | r
        · exact (hx r).elim
        · exact r
        · cases hi : y.ins <;> rw [hi] at r hyf <;> first | rfl | (cases hyf; done) | (cases r; done)
      obtain ⟨v, hv⟩ := hd hyf
      rw [sstep_iff hy]
      refine ⟨v, hv, ?_⟩
      rw [sstep_put fun k hk => apart_reads a2 hk]
      refine sstep_mono' hs fun u hp' _ k => ?_
      rw [sstep_iff hy] at k
      obtain ⟨v', hv', k⟩ := k
      have := nv_op hyo ((nv_after (hp := hp) a1 (Or.inl hyf)).1 hv') hv
      subst this
      exact k
  · have hx : passive (kindS x.ins) := by
      rcases a3 with r | r | r | r
      · exact Or.inl r
      · exact (hy (Or.inl r)).elim
      · exact Or.inr r.1
      · exact (hy (Or.inr r.2)).elim
    rw [sstep_iff hx] at hs
    obtain ⟨v, hv, hs⟩ := hs
    rw [sstep_put fun k hk => apart_reads a1 hk] at hs
    refine sstep_mono' hs fun u hp' hrel k => ?_
    rw [sstep_iff hx]
    refine ⟨v, (nv_after (hp := hp) a2 ?_).2 hv, k⟩
    rcases hx with q | q
    · exact Or.inl q
    · refine Or.inr ⟨hrel.same ?_, q⟩
      rcases a3 with r | r | r | r
      · rw [q] at r; cases r
      · exact (hy (Or.inl r)).elim
      · rcases r.2 with r | r
        · exact Or.inl r
        · exact Or.inr (Or.inl r)
      · exact (hy (Or.inr r.2)).elim

/-- An operation goes ahead of those that are independent of it. -/
theorem moveFront {j : SOper} {post : List SOper} {K : St → Prop} : ∀ {pre : List SOper} {s : St}, (∀ p ∈ pre, indep p j = true) → (kindS j.ins = .free → ∃ v, NV P j s v) → SOps P (pre ++ j :: post) K s → SOps P (j :: (pre ++ post)) K s
  | [], s, _, _, h => h
  | p :: pre, s, hi, hd, h => by
    have h1 : SStep P p (SOps P (j :: (pre ++ post)) K) s := by
      refine sstep_mono' (K := SOps P (pre ++ j :: post) K) h fun v hp' hke k => ?_
      refine moveFront (fun q hq => hi q (by simp [hq])) (fun hj => ?_) k
      obtain ⟨u, hu⟩ := hd hj
      obtain ⟨ts, hp⟩ := s
      exact ⟨u, (nv_after (hp := hp) (indep_parts (hi p (by simp))).1 (Or.inl hj)).2 hu⟩
    exact swap (hi p (by simp)) hd h1

end
end Go.Abs
