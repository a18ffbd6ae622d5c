/- One operation of slim code, calls among them, and that the model's operation does the same. No condition. -/
import Derived.Test.YtllgfmijocgniaaB4
import Derived.Orders
set_option linter.unusedVariables false
namespace Go.Abs
open Go.RowKit

structure SOper where
  dst : Option Nat
  guard : Option (Nat × Bool)
  ins : SInstr

/-- The slots of a frame, and the abstract heap. -/
structure St where
  ts : List AV
  hp : List Blk

def aput (ts : List AV) (dst : Option Nat) (v : AV) : List AV :=
  match dst with
  | some d => ts.set d v
  | none => ts

def awant (g : Option (Nat × Bool)) (ts : List AV) : Bool :=
  match g with
  | none => true
  | some (t, want) => match ts[t]? with
    | some (.v (.bool b)) => b == want
    | _ => false

/-- A function that can be entered. -/
def Enters (P : Program) (f : FuncId) : Prop := ∃ fn, P.funcs[f]? = some fn ∧ fn.body.isSome = true ∧ (fn.name == "runtime.NumGoroutine") = false

/-- What a call comes to, whatever the world that has this abstract heap. -/
def CallOk (P : Program) (f : FuncId) (args : List AV) (hp : List Blk) (K : AV → List Blk → Prop) : Prop :=
  Enters P f ∧ ∀ base w0 C M w args', Sim base w0 C M hp w → RepL C M hp args args' → Calls P f args'.toArray w fun e w' =>
    ∃ C' M' hp' r v', K r hp' ∧ e = .returned v' ∧ Le C M hp C' M' hp' ∧ Sim base w0 C' M' hp' w' ∧ Rep C' M' hp' r v'

theorem CallOk.mono {P : Program} {f : FuncId} {args : List AV} {hp : List Blk} {K K' : AV → List Blk → Prop} (h : CallOk P f args hp K) (hk : ∀ r hp', K r hp' → K' r hp') : CallOk P f args hp K' :=
  ⟨h.1, fun base w0 C M w args' hs hr => (h.2 base w0 C M w args' hs hr).mono fun e w' ⟨C', M', hp', r, v', k, rest⟩ => ⟨C', M', hp', r, v', hk _ _ k, rest⟩⟩

/-- The second one says less, and nothing of the heap. -/
def ImpC (x y : AV) : Prop := ∀ C M hp v, Rep C M hp x v → Rep C [] [] y v

/-- Whatever the world: the call returns that, and nothing that was there has turned. -/
def PureBy (P : Program) (f : FuncId) (args : List AV) (r : AV) (More : Cells → World → World → Value → Prop) : Prop :=
  Enters P f ∧ ∀ (C : Cells) (w : World) (args' : List Value), (∀ b o v, C b o = some v → w.cell? ⟨b, o, none⟩ = some v) → RepL C [] [] args args' →
    Calls P f args'.toArray w fun e w' => ∃ C' v', e = .returned v' ∧ (∀ b o v, C b o = some v → C' b o = some v) ∧ (∀ b o v, C' b o = some v → C b o = some v ∨ w.heap.size ≤ b) ∧
      (∀ b o v, C' b o = some v → w'.cell? ⟨b, o, none⟩ = some v) ∧ Below w.heap.size w w' ∧ Rep C' [] [] r v' ∧ More C' w w' v'

def PureSpec (P : Program) (f : FuncId) (args : List AV) (r : AV) : Prop := PureBy P f args r fun _ _ _ _ => True


section
variable {P : Program}

theorem le_nil {C : Cells} {M : List Loc} {hp : List Blk} : Le C [] [] C M hp := ⟨fun _ _ _ h => h, fun k cs fz h => by simp at h, fun k n s h => by simp at h⟩

/-- Arguments, what is told of them forgotten in part. -/
def ImpCs (as bs : List AV) : Prop := as.length = bs.length ∧ ∀ (i : Nat) a b, as[i]? = some a → bs[i]? = some b → ImpC a b

theorem impCs_nil : ImpCs [] [] := ⟨rfl, fun i a b h => by simp at h⟩
theorem impCs_cons {a b : AV} {as bs : List AV} (h : ImpC a b) (hs : ImpCs as bs) : ImpCs (a :: as) (b :: bs) :=
  ⟨by simp [hs.1], fun i x y hx hy => by
    cases i with
    | zero => simp at hx hy; subst hx; subst hy; exact h
    | succ i => simp at hx hy; exact hs.2 i x y hx hy⟩

theorem ImpCs.rep {as bs : List AV} (h : ImpCs as bs) {C : Cells} {M : List Loc} {hp : List Blk} {vs : List Value} (hr : RepL C M hp as vs) : RepL C [] [] bs vs :=
  ⟨by rw [← h.1]; exact hr.1, fun i b v hb hv => by
    have hi : i < as.length := by rw [h.1]; exact (List.getElem?_eq_some_iff.1 hb).1
    exact h.2 i as[i] b (List.getElem?_eq_getElem hi) hb _ _ _ _ (hr.2 i as[i] v (List.getElem?_eq_getElem hi) hv)⟩

/-- After such a call the abstract heap is as it was. -/
theorem sim_pure {base : Nat} {w0 : Root} {C C' : Cells} {M : List Loc} {hp : List Blk} {w w' : World} (h : Sim base w0 C M hp w) (h1 : ∀ b o v, C b o = some v → C' b o = some v) (h2 : ∀ b o v, C' b o = some v → C b o = some v ∨ w.heap.size ≤ b)
    (h3 : ∀ b o v, C' b o = some v → w'.cell? ⟨b, o, none⟩ = some v) (hb : Below w.heap.size w w') : Le C M hp C' M hp ∧ Sim base w0 C' M hp w' := by
  have hle : Le C M hp C' M hp := ⟨h1, fun k cs fz h => ⟨⟨cs, fz, h⟩, rfl⟩, fun k n s h => ⟨n, h, Nat.le_refl _, fun _ => rfl, fun h => h⟩⟩
  have hcell : ∀ {b o : Nat}, b < w.heap.size → w'.cell? ⟨b, o, none⟩ = w.cell? ⟨b, o, none⟩ := fun hlt => hb.cell (p := ⟨_, _, none⟩) hlt
  have hfr : ∀ {b o : Nat}, b < w.heap.size → w'.frozen? ⟨b, o, none⟩ = w.frozen? ⟨b, o, none⟩ := fun hlt => hb.frozen (p := ⟨_, _, none⟩) hlt
  have hnone : ∀ {b o : Nat}, b < w.heap.size → C b o = none → C' b o = none := by
    intro b o hlt hc
    cases hc' : C' b o with
    | none => rfl
    | some v =>
      rcases h2 b o v hc' with q | q
      · rw [hc] at q; cases q
      · omega
  refine ⟨hle, h.below.trans (hb.mono h.basew), h.basele, fun b o v hc hlt => ?_, h.mlen, h3, ?_, ?_, h.apart⟩
  · rcases h2 b o v hc with q | q
    · exact h.old b o v q hlt
    · have := h.basew; omega
  · intro k cs fz L hk hM
    obtain ⟨t1, t2, t3, t4⟩ := h.cells k cs fz L hk hM
    refine ⟨t1, Nat.lt_of_lt_of_le t2 hb.size, fun i c hc => ?_, fun hf => ?_⟩
    · obtain ⟨c', q1, q2, q3⟩ := t3 i c hc
      exact ⟨c', by rw [hcell t2]; exact q1, q2.mono hle, fun q => h1 _ _ _ (q3 q)⟩
    · obtain ⟨q1, q2⟩ := t4 hf
      exact ⟨fun i => by rw [hfr t2]; exact q1 i, fun o => hnone t2 (q2 o)⟩
  · intro k n s L hk hM
    obtain ⟨t1, t2, t3, t4, t5⟩ := h.toks k n s L hk hM
    refine ⟨t1, Nat.lt_of_lt_of_le t2 hb.size, t3, fun o ho => hnone t2 (t4 o ho), fun o ho ho' => ?_⟩
    obtain ⟨q1, q2⟩ := t5 o ho ho'
    exact ⟨by rw [hcell t2]; exact q1, by rw [hfr t2]; exact q2⟩

theorem CallOk.pure {f : FuncId} {args args0 : List AV} {r : AV} {hp : List Blk} {K : AV → List Blk → Prop} (h : PureSpec P f args r) (hi : ImpCs args0 args) (hk : K r hp) : CallOk P f args0 hp K :=
  ⟨h.1, fun base w0 C M w args' hs hr => (h.2 C w args' hs.froz (hi.rep hr)).mono fun e w' ⟨C', v', he, h1, h2, h3, hb, hrep, _⟩ => by
    obtain ⟨hle, hsim⟩ := sim_pure hs h1 h2 h3 hb
    exact ⟨C', M, hp, r, v', hk, he, hle, hsim, hrep.mono le_nil⟩⟩

end

/-- One operation. -/
def SStep (P : Program) (so : SOper) (K : St → Prop) (s : St) : Prop :=
  if awant so.guard s.ts = true then
    match so.ins with
    | .op o => match astep s.ts s.hp o with
      | some (v, hp') => K ⟨aput s.ts so.dst v, hp'⟩
      | none => False
    | .call f args => CallOk P f (args.map (ev s.ts)) s.hp fun v hp' => K ⟨aput s.ts so.dst v, hp'⟩
    | .callv x args => match ev s.ts x with
      | .fn (.func f) fs cs => CallOk P f (fs ++ args.map (ev s.ts) ++ cs) s.hp fun v hp' => K ⟨aput s.ts so.dst v, hp'⟩
      | _ => False
    | .pcall f args => ∃ bs r, ImpCs (args.map (ev s.ts)) bs ∧ PureSpec P f bs r ∧ K ⟨aput s.ts so.dst r, s.hp⟩
  else K ⟨aput s.ts so.dst undefA, s.hp⟩

/-- Operations, one behind the other. -/
def SOps (P : Program) : List SOper → (St → Prop) → St → Prop
  | [], K, s => K s
  | o :: r, K, s => SStep P o (SOps P r K) s

theorem SStep.mono {P : Program} {so : SOper} {K K' : St → Prop} {s : St} (h : SStep P so K s) (hk : ∀ s, K s → K' s) : SStep P so K' s := by
  unfold SStep at h ⊢
  split at h
  · rename_i hw
    rw [if_pos hw]
    split at h
    · split at h
      · exact hk _ h
      · exact h
    · exact h.mono fun _ _ k => hk _ k
    · split at h
      · exact h.mono fun _ _ k => hk _ k
      · exact h
    · obtain ⟨bs, r, h1, h2, h3⟩ := h
      exact ⟨bs, r, h1, h2, hk _ h3⟩
  · rename_i hw
    rw [if_neg hw]
    exact hk _ h

theorem SOps.mono {P : Program} : ∀ {l : List SOper} {K K' : St → Prop} {s : St}, SOps P l K s → (∀ s, K s → K' s) → SOps P l K' s
  | [], _, _, _, h, hk => hk _ h
  | _ :: _, _, _, _, h, hk => SStep.mono h fun _ k => SOps.mono k hk

theorem SOps.append {P : Program} : ∀ {l r : List SOper} {K : St → Prop} {s : St}, SOps P (l ++ r) K s ↔ SOps P l (SOps P r K) s
  | [], _, _, _ => Iff.rfl
  | o :: l, r, K, s => ⟨fun h => SStep.mono h fun _ k => SOps.append.1 k, fun h => SStep.mono h fun _ k => SOps.append.2 k⟩

def slimGuard (ops : Array Oper) : Option (Nat × Bool) → Option (Option (Nat × Bool))
  | none => some none
  | some (j, want) => match (ops[j]?).bind (·.dst) with
    | some t => some (some (t, want))
    | none => none

def slimOper (P : Program) (ops : Array Oper) (o : Oper) : Option SOper :=
  match slimGuard ops o.guard, slimOp P o with
  | some g, some i => some ⟨o.dst, g, i⟩
  | _, _ => none

/-- A frame and a world that stand for abstract slots and heap. -/
structure SimF (base : Nat) (w0 : Root) (C : Cells) (M : List Loc) (s : St) (a : Act) (w : World) : Prop where
  sim : Sim base w0 C M s.hp w
  frame : FrameRep C M s.hp s.ts a.tmps
  defers : a.defers = []

section
variable {base : Nat} {w0 : Root} {w : World} {C : Cells} {M : List Loc} {P : Program}

theorem frame_mono {C' : Cells} {M' : List Loc} {hp hp' : List Blk} (hle : Le C M hp C' M' hp') {ts : List AV} {tmps : Array Value} (h : FrameRep C M hp ts tmps) : FrameRep C' M' hp' ts tmps := RepL.mono hle h

theorem frame_aput {hp : List Blk} {ts : List AV} {a : Act} (h : FrameRep C M hp ts a.tmps) {x : AV} {y : Value} (hr : Rep C M hp x y) (d : Option Nat) : FrameRep C M hp (aput ts d x) (a.put d y).tmps := by
  cases d with
  | none => exact h
  | some d => exact frame_put h hr d

theorem put_defers (a : Act) (d : Option Tmp) (v : Value) : (a.put d v).defers = a.defers := by cases d <;> rfl

theorem want_ok {ops : Array Oper} {o : Oper} {g : Option (Nat × Bool)} (hg : slimGuard ops o.guard = some g) {hp : List Blk} {ts : List AV} {a : Act} (h : FrameRep C M hp ts a.tmps) : Region.wanted o (yielded ops a.tmps) = awant g ts := by
  unfold slimGuard at hg
  unfold Region.wanted
  split at hg
  · rename_i e
    cases hg
    rw [e]; rfl
  · rename_i j want e
    rw [e]
    simp only
    split at hg
    · rename_i t ht
      cases hg
      have hlen : ts.length = a.tmps.size := by simpa using h.1
      simp only [awant, yielded, ht, Option.bind_some]
      rcases Nat.lt_or_ge t ts.length with hl | hl
      · have hl' : t < a.tmps.size := Nat.lt_of_lt_of_eq hl hlen
        have hr := h.2 t ts[t] a.tmps[t] (List.getElem?_eq_getElem hl) (by simp [hl'])
        rw [List.getElem?_eq_getElem hl, Array.getElem?_eq_getElem hl']
        generalize ts[t] = x at hr
        generalize a.tmps[t] = y at hr
        cases hr with
        | v hp0 =>
          cases y <;> simp
        | _ => simp
      · have hl' : a.tmps.size ≤ t := Nat.le_trans (Nat.le_of_eq hlen.symm) hl
        rw [List.getElem?_eq_none hl, Array.getElem?_eq_none hl']
        simp
    · cases hg

theorem run_callFunc {f : FuncId} (hf : Enters P f) (args : Array Value) (w : World) : (callFunc f args).run P w = .ok (.enter f args) w := by
  obtain ⟨fn, h1, h2, h3⟩ := hf
  have hb : fn.body.isNone = false := by cases hb : fn.body <;> simp [hb] at h2 ⊢
  simp only [callFunc, Sem.run_bind, run_program, Result.andThen_ok, h1, h3, hb, Bool.false_eq_true, if_false, Sem.run_pure]

theorem slimOps_get {l : List Operand} {l' : List Opd} {hp : List Blk} {ts : List AV} {a : Act} (hf : FrameRep C M hp ts a.tmps) (h : slimOpds l = some l') : RepL C M hp (l'.map (ev ts)) (l.map a.eval) := rep_evs hf h

theorem slimOp_call {o : Oper} {ins : SInstr} (h : slimOp P o = some ins) (hn : ∀ s, ins ≠ .op s) : ∃ c, o.op = .call c ∧ slimCall P c = some ins := by
  unfold slimOp at h
  split at h
  all_goals first
    | (rename_i c hop; exact ⟨c, hop, h⟩)
    | (exfalso
       repeat' split at h
       all_goals first
         | (cases h; done)
         | (cases h; exact hn _ rfl)
         | (simp only [Option.map_eq_some_iff] at h; obtain ⟨_, _, rfl⟩ := h; exact hn _ rfl))

theorem slimCall_call {c : Call} {f : FuncId} {args : List Opd} (h : slimCall P c = some (.call f args)) : c.callee = .value (.func f) ∧ slimOpds c.args.toList = some args := by
  unfold slimCall at h
  split at h
  all_goals first
    | (rename_i hc; simp only [Option.map_eq_some_iff, SInstr.call.injEq] at h; obtain ⟨l, h1, rfl, rfl⟩ := h; exact ⟨hc, h1⟩)
    | (exfalso
       repeat' split at h
       all_goals first
         | (cases h; done)
         | (simp at h; done))

theorem slimCall_callv {c : Call} {x : Opd} {args : List Opd} (h : slimCall P c = some (.callv x args)) : ∃ y, c.callee = .value y ∧ slimOpd y = some x ∧ slimOpds c.args.toList = some args := by
  unfold slimCall at h
  split at h
  case h_5 y _ hc =>
    split at h
    · rename_i x' l h1 h2
      cases h
      exact ⟨y, hc, h1, h2⟩
    · cases h
  all_goals
    exfalso
    repeat' split at h
    all_goals first
      | (cases h; done)
      | (simp at h; done)

theorem slimCall_pcall {c : Call} {f : FuncId} {args : List Opd} (h : slimCall P c = some (.pcall f args)) : False := by
  unfold slimCall at h
  repeat' split at h
  all_goals first
    | (cases h; done)
    | (simp at h; done)

/-- The model's operation, a call perhaps, does what the slim one does. -/
theorem sstep_ok {ops : Array Oper} {Q : Exit → Act → World → Prop} {i : Nat} {o : Oper} {so : SOper} (hi : ops[i]? = some o) (hso : slimOper P ops o = some so) {s : St} {a : Act} (h : SimF base w0 C M s a w) {K : St → Prop} (hs : SStep P so K s)
    {K' : Act → World → Prop} (hk : ∀ C' M' s' a' w', Le C M s.hp C' M' s'.hp → SimF base w0 C' M' s' a' w' → K s' → K' a' w') : wpOp P ops Q i K' a w := by
  unfold slimOper at hso
  split at hso
  · rename_i g ins hg hins
    cases hso
    unfold wpOp
    rw [hi]
    simp only
    unfold SStep at hs
    rw [want_ok hg h.frame]
    simp only at hs
    split at hs
    · rename_i hw
      rw [if_pos hw]
      left
      unfold Oper.wp
      have callCase : ∀ (f : FuncId) (vs : List AV) (vs' : List Value), (execOp a.eval o).run P w = (callFunc f vs'.toArray).run P w → RepL C M s.hp vs vs' →
          (CallOk P f vs s.hp fun v hp' => K ⟨aput s.ts o.dst v, hp'⟩) → o.upon P a K' Q ((execOp a.eval o).run P w) := by
        intro f vs vs' hrun hrep hc
        rw [hrun, run_callFunc hc.1]
        rw [Oper.upon_enter]
        refine (hc.2 base w0 C M w vs' h.sim hrep).mono fun e w' ⟨C', M', hp', r, v', k, he, hle, hsim, hr⟩ => ?_
        subst he
        exact hk C' M' ⟨aput s.ts o.dst r, hp'⟩ _ _ hle ⟨hsim, frame_aput (frame_mono hle h.frame) hr o.dst, by rw [put_defers]; exact h.defers⟩ k
      split at hs
      · rename_i op
        split at hs
        · rename_i v hp' hstep
          obtain ⟨nx, C', M', v', w', h1, h2, h3, h4, h5⟩ := step_ok hins h.sim h.frame hstep
          rw [h1]
          have hput := hk C' M' ⟨aput s.ts o.dst v, hp'⟩ (a.put o.dst v') w' h3 ⟨h4, frame_aput (frame_mono h3 h.frame) h5 o.dst, by rw [put_defers]; exact h.defers⟩ hs
          cases nx <;> simp only [nextVal, reduceCtorEq, Option.some.injEq] at h2
          · subst h2; exact hput
          · subst h2; exact hput
        · exact hs.elim
      · rename_i f args
        obtain ⟨c, hop, hc⟩ := slimOp_call hins (fun s e => by cases e)
        obtain ⟨hcal, hargs⟩ := slimCall_call hc
        refine callCase f _ (c.args.toList.map a.eval) ?_ (rep_evs h.frame hargs) hs
        have he : c.args.map a.eval = (c.args.toList.map a.eval).toArray := by apply Array.ext'; simp
        simp only [execOp, hop, resolve, hcal, Act.eval, Deferred.ofValue, Sem.run_bind, Sem.run_pure, Result.andThen_ok, invoke]
        simp [he]
      · rename_i x args
        obtain ⟨c, hop, hc⟩ := slimOp_call hins (fun s e => by cases e)
        obtain ⟨y, hcal, hy, hargs⟩ := slimCall_callv hc
        have ry := rep_ev h.frame hy
        split at hs
        · rename_i f fs cs hfe
          rw [hfe] at ry
          generalize hyv : a.eval y = yv at ry
          cases ry with
          | fn hlf hlc hf hc =>
            rename_i fs' cs'
            have ra := rep_evs h.frame hargs
            have rapp : ∀ {a b : List AV} {a' b' : List Value}, RepL C M s.hp a a' → RepL C M s.hp b b' → RepL C M s.hp (a ++ b) (a' ++ b') := by
              intro a b a' b' h1 h2
              refine ⟨by rw [List.length_append, List.length_append, h1.1, h2.1], fun k u v hu hv => ?_⟩
              rcases Nat.lt_or_ge k a.length with hk | hk
              · rw [List.getElem?_append_left hk] at hu
                rw [List.getElem?_append_left (by rw [← h1.1]; exact hk)] at hv
                exact h1.2 k u v hu hv
              · rw [List.getElem?_append_right hk] at hu
                rw [List.getElem?_append_right (by rw [← h1.1]; exact hk), ← h1.1] at hv
                exact h2.2 _ u v hu hv
            have r1 : RepL C M s.hp fs fs'.toList := ⟨by simpa using hlf, fun i a b h1 h2 => hf i a b h1 (by simpa using h2)⟩
            have r2 : RepL C M s.hp cs cs'.toList := ⟨by simpa using hlc, fun i a b h1 h2 => hc i a b h1 (by simpa using h2)⟩
            refine callCase f _ (fs'.toList ++ c.args.toList.map a.eval ++ cs'.toList) ?_ (rapp (rapp r1 ra) r2) hs
            have he : fs' ++ c.args.map a.eval ++ cs' = (fs'.toList ++ c.args.toList.map a.eval ++ cs'.toList).toArray := by apply Array.ext'; simp
            simp only [execOp, hop, resolve, hcal, hyv, Deferred.ofValue, Sem.run_bind, Sem.run_pure, Result.andThen_ok, invoke, he]
        · exact hs.elim
      · obtain ⟨c, hop, hc⟩ := slimOp_call hins (fun s e => by cases e)
        exact (slimCall_pcall hc).elim
    · rename_i hw
      rw [if_neg hw]
      exact hk C M ⟨aput s.ts o.dst undefA, s.hp⟩ _ _ (Le.refl _ _ _) ⟨h.sim, frame_aput h.frame rep_undef o.dst, by rw [put_defers]; exact h.defers⟩ hs
  · cases hso

/-- A call as one that leaves all old memory alone. -/
def purify1 (so : SOper) : SOper :=
  match so.ins with
  | .call f args => { so with ins := .pcall f args }
  | _ => so

/-- A slim operation of one of the model's. -/
def SlR (P : Program) (ops : Array Oper) (o : Oper) (so : SOper) : Prop := slimOper P ops o = some so ∨ ∃ so0, slimOper P ops o = some so0 ∧ so = purify1 so0

theorem sstep_purify {so : SOper} {K : St → Prop} {s : St} (h : SStep P (purify1 so) K s) : SStep P so K s := by
  obtain ⟨d, g, ins⟩ := so
  cases ins with
  | call f args =>
    unfold SStep purify1 at h
    unfold SStep
    simp only at h ⊢
    split at h
    · rename_i hw
      rw [if_pos hw]
      obtain ⟨bs, r, h1, h2, h3⟩ := h
      exact CallOk.pure h2 h1 h3
    · rename_i hw
      rw [if_neg hw]
      exact h
  | _ => exact h

theorem sstep_okR {ops : Array Oper} {Q : Exit → Act → World → Prop} {i : Nat} {o : Oper} {so : SOper} (hi : ops[i]? = some o) (hso : SlR P ops o so) {s : St} {a : Act} (h : SimF base w0 C M s a w) {K : St → Prop} (hs : SStep P so K s)
    {K' : Act → World → Prop} (hk : ∀ C' M' s' a' w', Le C M s.hp C' M' s'.hp → SimF base w0 C' M' s' a' w' → K s' → K' a' w') : wpOp P ops Q i K' a w := by
  rcases hso with hso | ⟨so0, hso, rfl⟩
  · exact sstep_ok hi hso h hs hk
  · exact sstep_ok hi hso h (sstep_purify hs) hk

end
end Go.Abs
