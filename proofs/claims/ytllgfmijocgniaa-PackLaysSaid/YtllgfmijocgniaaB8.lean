/- Slim code: what it does to abstract slots and heap, and that the model's code does the same. No condition. -/
import Derived.Test.YtllgfmijocgniaaB7
set_option linter.unusedVariables false
namespace Go.Abs
open Go.RowKit

inductive SCode where
  | skip
  | region (ops : List SOper)
  | seq (a b : SCode)
  | cond (c : Opd) (a b : SCode)
  | block (id : Nat) (a : SCode)
  | loop (a : SCode)
  | exit (id : Nat)
  | ret

/-- Calls of some functions as calls that leave all old memory alone. -/
def purify2 (pu : List FuncId) (so : SOper) : SOper :=
  match so.ins with
  | .call f _ => if pu.contains f then purify1 so else so
  | _ => so

def purify (pu : List FuncId) (l : List SOper) : List SOper := l.map (purify2 pu)

def slim (P : Program) (pu : List FuncId) : Code → Option SCode
  | .skip => some .skip
  | .region _ ops draw => match slimOpers P ops ops.toList with
    | some l => if draw then (if drawOk ops.toList l then some (.region l) else if drawOk ops.toList (purify pu l) then some (.region (purify pu l)) else none) else some (.region l)
    | none => none
  | .seq a b => match slim P pu a, slim P pu b with
    | some x, some y => some (.seq x y)
    | _, _ => none
  | .cond c a b => match slimOpd c, slim P pu a, slim P pu b with
    | some c, some x, some y => some (.cond c x y)
    | _, _, _ => none
  | .block id a => match slim P pu a with
    | some x => some (.block id x)
    | none => none
  | .loop a => match slim P pu a with
    | some x => some (.loop x)
    | none => none
  | .exit id => some (.exit id)
  | .ret => some .ret
  | _ => none

/-- What slim code does, whatever world stands behind. -/
def Tri (P : Program) (sc : SCode) (Q : Exit → St → Prop) (s : St) : Prop :=
  ∀ c pu, slim P pu c = some sc → ∀ base w0 C M a w, SimF base w0 C M s a w →
    c.wp P (fun e a' w' => ∃ C' M' s', Q e s' ∧ Le C M s.hp C' M' s'.hp ∧ SimF base w0 C' M' s' a' w') a w

def thenE (next : St → Prop) (Q : Exit → St → Prop) : Exit → St → Prop
  | .normal, s => next s
  | e, s => Q e s

def inBlk (id : Nat) (Q : Exit → St → Prop) : Exit → St → Prop
  | .exit id', s => if id' = id then Q .normal s else Q (.exit id') s
  | e, s => Q e s

section
variable {P : Program} {Q : Exit → St → Prop} {s : St}

theorem Tri.mono {sc : SCode} {Q' : Exit → St → Prop} (h : Tri P sc Q s) (hq : ∀ e s, Q e s → Q' e s) : Tri P sc Q' s := fun c pu hc base w0 C M a w hf =>
  wp_mono (h c pu hc base w0 C M a w hf) fun e a' w' ⟨C', M', s', q, r⟩ => ⟨C', M', s', hq _ _ q, r⟩

theorem slim_inv {sc : SCode} {c : Code} {pu : List FuncId} (h : slim P pu c = some sc) : match sc with
    | .skip => c = .skip
    | .region l => ∃ id ops draw, c = .region id ops draw ∧ l.length = ops.toList.length ∧ (∀ (i : Nat) o, ops.toList[i]? = some o → ∃ so, l[i]? = some so ∧ SlR P ops o so) ∧ (draw = true → drawOk ops.toList l = true)
    | .seq x y => ∃ a b, c = .seq a b ∧ slim P pu a = some x ∧ slim P pu b = some y
    | .cond o x y => ∃ d a b, c = .cond d a b ∧ slimOpd d = some o ∧ slim P pu a = some x ∧ slim P pu b = some y
    | .block id x => ∃ a, c = .block id a ∧ slim P pu a = some x
    | .loop x => ∃ a, c = .loop a ∧ slim P pu a = some x
    | .exit id => c = .exit id
    | .ret => c = .ret := by
  cases c <;> simp only [slim] at h
  case skip => cases h; rfl
  case region id ops draw =>
    split at h
    · rename_i l hl
      obtain ⟨hlen, hget⟩ := slimOpers_get hl
      have plain : ∀ (i : Nat) o, ops.toList[i]? = some o → ∃ so, l[i]? = some so ∧ SlR P ops o so := fun i o ho => by
        obtain ⟨so, h1, h2⟩ := hget i o ho
        exact ⟨so, h1, Or.inl h2⟩
      cases draw with
      | true =>
        simp only [if_true] at h
        split at h
        · rename_i hd
          cases h
          exact ⟨id, ops, true, rfl, hlen, plain, fun _ => hd⟩
        · split at h
          · rename_i hd
            cases h
            refine ⟨id, ops, true, rfl, by simp [purify, hlen], fun i o ho => ?_, fun _ => hd⟩
            obtain ⟨so, h1, h2⟩ := hget i o ho
            refine ⟨purify2 pu so, by simp only [purify, List.getElem?_map, h1, Option.map_some], ?_⟩
            unfold purify2
            split
            · split
              · exact Or.inr ⟨so, h2, rfl⟩
              · exact Or.inl h2
            · exact Or.inl h2
          · cases h
      | false =>
        simp only [Bool.false_eq_true, if_false] at h
        cases h
        exact ⟨id, ops, false, rfl, hlen, plain, fun q => by cases q⟩
    · cases h
  case seq a b =>
    split at h
    · rename_i x y h1 h2
      cases h
      exact ⟨a, b, rfl, h1, h2⟩
    · cases h
  case cond d a b =>
    split at h
    · rename_i o x y h0 h1 h2
      cases h
      exact ⟨d, a, b, rfl, h0, h1, h2⟩
    · cases h
  case block id a =>
    split at h
    · rename_i x h1
      cases h
      exact ⟨a, rfl, h1⟩
    · cases h
  case loop a =>
    split at h
    · rename_i x h1
      cases h
      exact ⟨a, rfl, h1⟩
    · cases h
  case exit id => cases h; rfl
  case ret => cases h; rfl
  all_goals cases h

theorem load_same {base : Nat} {w0 : Root} {C : Cells} {M : List Loc} {hp : List Blk} {w : World} {t : TypeId} {ag : Bool} {n : Nat} (hag : tyAgg P t = some ag) (hn : tySize P t = some n) (h : Sim base w0 C M hp w) {x : AV} {ad : Addr} (hx : Rep C M hp x (.pointer (some ad)))
    {r : AV} (hr : aload hp ag n x = some r) : ∃ v, (loadVar t ad).run P w = .ok v w ∧ Rep C M hp r v := by
  unfold aload at hr
  split at hr
  · cases hx with
    | fp f hC hR =>
      rename_i b o
      exact run_loadVar' (w := w) (o := o) hag hn (fun i c hc => ⟨f i, h.froz _ _ _ (hC i c hc), hR i c hc⟩) hr
  · cases hx with
    | mp hb hM =>
      rename_i L cs fz
      rw [hb] at hr
      simp only at hr
      obtain ⟨t1, t2, t3, t4⟩ := h.cells _ cs fz L hb hM
      obtain ⟨v, h1, h2⟩ := run_loadVar' (w := w) (o := 0) (b := L.b) hag hn (fun i c hc => by
        obtain ⟨c', a1, a2, _⟩ := t3 i c hc
        exact ⟨c', by rw [Nat.zero_add]; exact a1, a2⟩) hr
      rw [Nat.zero_add] at h1
      exact ⟨v, h1, h2⟩
  · cases hr

theorem Tri.skip (h : Q .normal s) : Tri P .skip Q s := fun c pu hc base w0 C M a w hf => by
  have e : c = .skip := slim_inv hc
  subst e
  exact wp_skip ⟨C, M, s, h, Le.refl _ _ _, hf⟩

theorem Tri.exit {id : Nat} (h : Q (.exit id) s) : Tri P (.exit id) Q s := fun c pu hc base w0 C M a w hf => by
  have e : c = .exit id := slim_inv hc
  subst e
  exact wp_exit ⟨C, M, s, h, Le.refl _ _ _, hf⟩

theorem Tri.ret (h : Q .ret s) : Tri P .ret Q s := fun c pu hc base w0 C M a w hf => by
  have e : c = .ret := slim_inv hc
  subst e
  exact wp_ret ⟨C, M, s, h, Le.refl _ _ _, hf⟩

theorem Tri.region (hm : P.follows .mixedOrders = true) {l : List SOper} (h : SOps P l (fun s' => Q .normal s') s) : Tri P (.region l) Q s := fun c pu hc base w0 C M a w hf => by
  obtain ⟨id, ops, draw, rfl, hlen, hget, hd⟩ := slim_inv hc
  have hget' : ∀ (i : Nat) so, l[i]? = some so → ∃ o, ops[0 + i]? = some o ∧ SlR P ops o so := by
    intro i so hi
    have hil : i < ops.size := by
      have := (List.getElem?_eq_some_iff.1 hi).1
      simp at hlen; omega
    obtain ⟨so', h1, h2⟩ := hget i ops[i] (by simp [hil])
    rw [hi] at h1
    cases h1
    exact ⟨ops[i], by simp [hil], h2⟩
  cases draw with
  | false =>
    apply wp_region
    have := text_ok (Q := fun e a' w' => ∃ C' M' s', Q e s' ∧ Le C M s.hp C' M' s'.hp ∧ SimF base w0 C' M' s' a' w') l 0 s a C M w hget' hf h (fun C' M' s' a' w' hle hf' k => ⟨C', M', s', k, hle, hf'⟩)
    rw [List.range_eq_range']
    have e : ops.size = l.length := by simp at hlen; omega
    rw [e]
    exact this
  | true =>
    refine wp_region_any hm ?_
    have hf' : SimF base w0 C M s a w.drew := ⟨hf.sim.drew, hf.frame, hf.defers⟩
    have htodo : todo ops.size (Array.replicate ops.size false) = List.range ops.size := by
      unfold todo
      rw [List.filter_eq_self]
      intro i hi
      simp at hi
      simp [Array.getD_eq_getD_getElem?, hi]
    refine any_ok hlen hget (hd rfl) ops.size _ s a C M w.drew (by simp) (by rw [htodo]; simp) ?_ hf' ?_ (fun C' M' s' a' w' hle hf' k => ⟨C', M', s', k, hle, hf'⟩)
    · intro i o ho hi
      have hil : i < ops.size := (Array.getElem?_eq_some_iff.1 ho).1
      simp [Array.getD_eq_getD_getElem?, hil] at hi
    · rw [htodo]
      have e : (List.range ops.size).map (fun i => (l[i]?).getD ⟨none, none, .op (.alloc [])⟩) = l := by
        apply List.ext_getElem?
        intro i
        rcases Nat.lt_or_ge i l.length with hi | hi
        · have : i < ops.size := by simp at hlen; omega
          simp [this, List.getElem?_eq_getElem hi]
        · rw [List.getElem?_eq_none hi, List.getElem?_eq_none (by simp at hlen ⊢; omega)]
      rw [e]
      exact h

theorem Tri.seq {x y : SCode} (h : Tri P x (thenE (fun s' => Tri P y Q s') Q) s) : Tri P (.seq x y) Q s := fun c pu hc base w0 C M a w hf => by
  obtain ⟨a', b', rfl, h1, h2⟩ := slim_inv hc
  refine wp_seq (wp_mono (h a' pu h1 base w0 C M a w hf) fun e a₁ w₁ ⟨C', M', s', q, hle, hf'⟩ => ?_)
  cases e with
  | normal => exact wp_mono (q b' pu h2 base w0 C' M' a₁ w₁ hf') fun e a₂ w₂ ⟨C'', M'', s'', q', hle', hf''⟩ => ⟨C'', M'', s'', q', hle.trans hle', hf''⟩
  | _ => exact ⟨C', M', s', q, hle, hf'⟩

theorem Tri.cond {o : Opd} {x y : SCode} {b : Bool} (hb : ev s.ts o = .v (.bool b)) (h : Tri P (if b then x else y) Q s) : Tri P (.cond o x y) Q s := fun c pu hc base w0 C M a w hf => by
  obtain ⟨d, a', b', rfl, h0, h1, h2⟩ := slim_inv hc
  have hr := rep_ev hf.frame h0
  rw [hb] at hr
  have hv : a.eval d = .bool b := by
    generalize a.eval d = v at hr
    cases hr; rfl
  refine wp_cond hv ?_
  cases b with
  | true => exact h a' pu h1 base w0 C M a w hf
  | false => exact h b' pu h2 base w0 C M a w hf

theorem Tri.block {id : Nat} {x : SCode} (h : Tri P x (inBlk id Q) s) : Tri P (.block id x) Q s := fun c pu hc base w0 C M a w hf => by
  obtain ⟨a', rfl, h1⟩ := slim_inv hc
  refine wp_block (wp_mono (h a' pu h1 base w0 C M a w hf) fun e a₁ w₁ ⟨C', M', s', q, hle, hf'⟩ => ?_)
  cases e with
  | exit id' =>
    simp only [inBlk] at q
    simp only [Exit.inBlock]
    split
    · rename_i e; rw [if_pos e] at q; exact ⟨C', M', s', q, hle, hf'⟩
    · rename_i e; rw [if_neg e] at q; exact ⟨C', M', s', q, hle, hf'⟩
  | _ => exact ⟨C', M', s', q, hle, hf'⟩

theorem Tri.loop {x : SCode} (I : St → Prop) (μ : St → Nat) (h0 : I s) (round : ∀ s, I s → Tri P x (thenE (fun s' => I s' ∧ μ s' < μ s) Q) s) : Tri P (.loop x) Q s := fun c pu hc base w0 C M a w hf => by
  obtain ⟨a', rfl, h1⟩ := slim_inv hc
  intro b k cs
  have key : ∀ n s C M a w, μ s = n → I s → SimF base w0 C M s a w →
      ∃ e a₁ w₁, (∃ C' M' s', Q e s' ∧ Le C M s.hp C' M' s'.hp ∧ SimF base w0 C' M' s' a₁ w₁) ∧ Arrives P (lone (b.at a (.code a' :: .inLoop a' :: k)) cs w) b k cs e a₁ w₁ := by
    intro n
    induction n using Nat.strongRecOn with
    | _ n ih =>
      intro s C M a w hn hI hf
      obtain ⟨e, a₁, w₁, ⟨C', M', s', hq, hle, hf'⟩, harr⟩ := round s hI a' pu h1 base w0 C M a w hf b (.inLoop a' :: k) cs
      cases e with
      | normal =>
        obtain ⟨hI₁, hlt⟩ := hq
        obtain ⟨e₂, a₂, w₂, ⟨C'', M'', s'', hq₂, hle₂, hf₂⟩, harr₂⟩ := ih (μ s') (hn ▸ hlt) s' C' M' a₁ w₁ rfl hI₁ hf'
        exact ⟨e₂, a₂, w₂, ⟨C'', M'', s'', hq₂, hle.trans hle₂, hf₂⟩, .of_steps (Steps.trans harr (.one step_inLoop)) harr₂⟩
      | exit id => exact ⟨_, a₁, w₁, ⟨C', M', s', hq, hle, hf'⟩, .pass (x := .inLoop a') rfl (fun _ _ => .inl (by simp)) harr⟩
      | goto l => exact ⟨_, a₁, w₁, ⟨C', M', s', hq, hle, hf'⟩, .pass (x := .inLoop a') rfl (fun _ _ => .inl (by simp)) harr⟩
      | ret => exact ⟨_, a₁, w₁, ⟨C', M', s', hq, hle, hf'⟩, .pass (x := .inLoop a') rfl (fun _ _ => .inl (by simp)) harr⟩
      | panic ch => exact ⟨_, a₁, w₁, ⟨C', M', s', hq, hle, hf'⟩, .pass (x := .inLoop a') rfl (fun _ _ => .inl (by simp)) harr⟩
      | outgrown => exact ⟨_, a₁, w₁, ⟨C', M', s', hq, hle, hf'⟩, .pass (x := .inLoop a') rfl (fun _ _ => .inl (by simp)) harr⟩
  obtain ⟨e, a₁, w₁, hq, harr⟩ := key _ s C M a w rfl h0 hf
  exact ⟨e, a₁, w₁, hq, .of_steps (.one step_loop) harr⟩

/-! Functions. -/

inductive RV where
  | s (t : Nat)
  | c (t : Nat) (ag : Bool) (n : Nat)

structure SFn where
  ntmps : Nat
  results : List RV
  body : SCode

def slimRV (P : Program) : ResultVar → Option RV
  | .tmp t => some (.s t)
  | .cell t ty => match tyAgg P ty, tySize P ty with
    | some ag, some n => some (.c t ag n)
    | _, _ => none

def slimRVs (P : Program) : List ResultVar → Option (List RV)
  | [] => some []
  | x :: r => match slimRV P x, slimRVs P r with
    | some a, some l => some (a :: l)
    | _, _ => none

def slimFn (P : Program) (pu : List FuncId) (f : FuncId) : Option SFn :=
  match P.funcs[f]? with
  | some fn => if fn.name == "runtime.NumGoroutine" then none else
    match fn.body with
    | some c => match slim P pu c, slimRVs P fn.results.toList with
      | some sc, some rs => some ⟨fn.ntmps, rs, sc⟩
      | _, _ => none
    | none => none
  | none => none

def resA (s : St) : RV → Option AV
  | .s t => some ((s.ts[t]?).getD undefA)
  | .c t ag n => aload s.hp ag n ((s.ts[t]?).getD undefA)

def resAs (s : St) : List RV → Option (List AV)
  | [] => some []
  | x :: r => match resA s x, resAs s r with
    | some a, some l => some (a :: l)
    | _, _ => none

/-- What a function returns. -/
def resV (s : St) (rs : List RV) : Option AV :=
  match resAs s rs with
  | some [x] => some x
  | some l => some (.tup l)
  | none => none

/-- What a result variable holds. -/
def resGet (tmps : Array Value) : ResultVar → Sem Value
  | .tmp t => pure (tmps.getD t undef)
  | .cell a t => do loadVar t (← asAddr (tmps.getD a undef))

theorem run_results {base : Nat} {w0 : Root} {C : Cells} {M : List Loc} {a : Act} {w : World} (h : SimF base w0 C M s a w) : ∀ {rs : List ResultVar} {rs' : List RV} {l : List AV}, slimRVs P rs = some rs' → resAs s rs' = some l →
    ∃ vs : List Value, (rs.mapM (resGet a.tmps)).run P w = .ok vs w ∧ RepL C M s.hp l vs
  | [], rs', l, h1, h2 => by
    cases h1; cases h2
    exact ⟨[], by simp, rfl, fun i a b h => by simp at h⟩
  | r :: rs, rs', l, h1, h2 => by
    simp only [slimRVs] at h1
    split at h1
    · rename_i x l' e1 e2
      cases h1
      simp only [resAs] at h2
      split at h2
      · rename_i y l2 e3 e4
        cases h2
        obtain ⟨vs, hvs, hrep⟩ := run_results h e2 e4
        have hone : ∃ v, (resGet a.tmps r).run P w = .ok v w ∧ Rep C M s.hp y v := by
          cases r with
          | tmp t =>
            cases e1
            cases e3
            exact ⟨_, rfl, frame_get h.frame t⟩
          | cell t ty =>
            simp only [slimRV] at e1
            split at e1
            · rename_i ag n hag hn
              cases e1
              simp only [resA] at e3
              have hrx := frame_get h.frame t
              have hadr : ∃ ad, a.tmps.getD t undef = .pointer (some ad) := by
                generalize (s.ts[t]?).getD undefA = q at hrx e3
                generalize a.tmps.getD t undef = q' at hrx
                unfold aload at e3
                split at e3
                · cases hrx; exact ⟨_, rfl⟩
                · cases hrx; exact ⟨_, rfl⟩
                · cases e3
              obtain ⟨ad, had⟩ := hadr
              simp only [resGet]
              rw [had]
              obtain ⟨v, hv1, hv2⟩ := load_same (P := P) hag hn h.sim (x := (s.ts[t]?).getD undefA) (ad := ad) (by rw [had] at hrx; exact hrx) e3
              exact ⟨v, by simp [asAddr, hv1], hv2⟩
            · cases e1
        obtain ⟨v, hv, hr⟩ := hone
        refine ⟨v :: vs, ?_, ⟨by simp [hrep.1], fun i a b ha hb => ?_⟩⟩
        · simp only [List.mapM_cons, Sem.run_bind]
          rw [hv]
          simp only [Result.andThen_ok, Sem.run_pure]
          rw [hvs]
          rfl
        · cases i with
          | zero => simp at ha hb; subst ha; subst hb; exact hr
          | succ i => simp at ha hb; exact hrep.2 i a b ha hb
      · cases h2
    · cases h1

end
end Go.Abs
