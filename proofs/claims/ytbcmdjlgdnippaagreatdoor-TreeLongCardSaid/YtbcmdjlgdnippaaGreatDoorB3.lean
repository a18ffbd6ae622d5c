/- Functions that defer a call of a closure which takes what is panicked with. No condition. -/
import Derived.Test.YtbcmdjlgdnippaaGreatDoorB2
import Derived.RecoverIn
set_option linter.unusedVariables false
set_option linter.unusedSimpArgs false
namespace Go.Abs
open Go.RowKit

/-- A deferred closure: its first statement sets a slot to what is panicked with. -/
structure SRec where
  ntmps : Nat
  d0 : Nat
  d1 : Nat
  body : SCode

def recAt (o1 o2 : Oper) : Option (Nat × Nat) := match o1 with
  | { dst := some d0, op := .call { callee := .builtin .recover, args := ⟨[]⟩, argTypes := _ }, type := _, pos := _, after := _, guard := none } => match o2 with
    | { dst := some d1, op := .assign (.tmp t), type := _, pos := _, after := _, guard := none } => if t = d0 then some (d0, d1) else none
    | _ => none
  | _ => none

def slimRec (P : Program) (O : Opts) (g : FuncId) : Option SRec := match P.funcs[g]? with
  | some fn => if fn.name == "runtime.NumGoroutine" then none else match fn.results.toList with
    | [] => match fn.body with
      | some (.seq (.region _ ⟨[o1, o2]⟩ false) rest) => match recAt o1 o2, slim P O rest with
        | some (d0, d1), some sc => if d0 < fn.ntmps ∧ d1 < fn.ntmps ∧ d0 ≠ d1 then some ⟨fn.ntmps, d0, d1, sc⟩ else none
        | _, _ => none
      | _ => none
    | _ => none
  | none => none

/-- What a deferred closure comes to: `x`: what is panicked with, if anything is. -/
def DCall (G : Cells) (P : Program) (g : FuncId) (args : List AV) (hp : List Blk) (x : Option Value) (K : List Blk → Prop) : Prop :=
  Enters P g ∧ ∀ base w0 C M w args', Sim G base w0 C M hp w → RepL C M hp args args' →
    CallsDIn Fence.wide 0 P g args'.toArray (match x with | none => .returning | some v => .panicking [{ v := v, recovered := false }]) w fun e u' w' =>
      ∃ C' M' hp' v, K hp' ∧ e = .returned v ∧ settle u' = .returning ∧ Le C M hp C' M' hp' ∧ Sim G base w0 C' M' hp' w'

/-- The abstract value of what is panicked with. -/
def recV : Option AV → AV
  | none => .v .nilIface
  | some x => x

def plainA : AV → Bool
  | .v x => plain x
  | .agg cs => plainAs cs
  | _ => false
where plainAs : List AV → Bool
  | [] => true
  | x :: r => plainA x && plainAs r

mutual
theorem rep_conc {C : Cells} {M : List Loc} {hp : List Blk} : ∀ {x : AV} {v : Value}, plainA x = true → conc x = some v → Rep C M hp x v
  | .v x, v, h, hc => by
    simp only [conc, Option.some.injEq] at hc
    subst hc
    exact .v (by simpa [plainA] using h)
  | .agg cs, v, h, hc => by
    simp only [conc, Option.map_eq_some_iff] at hc
    obtain ⟨l, h1, rfl⟩ := hc
    have := rep_concs (C := C) (M := M) (hp := hp) (by simpa [plainA] using h) h1
    exact .agg (by simpa using this.1) (fun i a b ha hb => this.2 i a b ha (by simpa using hb))
  | .tup _, _, h, _ => by simp [plainA] at h
  | .nsl, _, h, _ => by simp [plainA] at h
  | .sl _ _, _, h, _ => by simp [plainA] at h
  | .fp _ _, _, h, _ => by simp [plainA] at h
  | .mp _ _, _, h, _ => by simp [plainA] at h
  | .rp _ _ _, _, h, _ => by simp [plainA] at h
  | .rs _ _ _ _ _, _, h, _ => by simp [plainA] at h
  | .ob _, _, h, _ => by simp [plainA] at h
  | .pan _, _, h, _ => by simp [plainA] at h
  | .fn _ _ _, _, h, _ => by simp [plainA] at h
  | .ifc _ _, _, h, _ => by simp [plainA] at h
  | .mapv _, _, h, _ => by simp [plainA] at h
  | .yd _, _, h, _ => by simp [plainA] at h
  | .bt _ _, _, h, _ => by simp [plainA] at h
theorem rep_concs {C : Cells} {M : List Loc} {hp : List Blk} : ∀ {xs : List AV} {vs : List Value}, plainA.plainAs xs = true → conc.concs xs = some vs → RepL C M hp xs vs
  | [], vs, _, hc => by
    simp only [conc.concs, Option.some.injEq] at hc
    subst hc
    exact ⟨rfl, fun i a b ha hb => by simp at ha⟩
  | x :: r, vs, h, hc => by
    simp only [plainA.plainAs, Bool.and_eq_true] at h
    simp only [conc.concs] at hc
    split at hc
    · rename_i a l h1 h2
      cases hc
      have k1 := rep_conc (C := C) (M := M) (hp := hp) h.1 h1
      have k2 := rep_concs (C := C) (M := M) (hp := hp) h.2 h2
      refine ⟨by simp [k2.1], fun i a b ha hb => ?_⟩
      cases i with
      | zero => simp at ha hb; subst ha; subst hb; exact k1
      | succ i => simp at ha hb; exact k2.2 i a b ha hb
    · cases hc
end

/-- May that be panicked with? -/
def plainI : AV → Bool
  | .ifc _ x => plainA x
  | _ => false

theorem rep_concI {C : Cells} {M : List Loc} {hp : List Blk} {x : AV} {v : Value} (h : plainI x = true) (hc : concI x = some v) : Rep C M hp x v := by
  cases x with
  | ifc t x =>
    simp only [concI, Option.map_eq_some_iff] at hc
    obtain ⟨a, h1, rfl⟩ := hc
    exact .ifc (rep_conc (by simpa [plainI] using h) h1)
  | _ => simp [plainI] at h

section
variable {G : Cells} {P : Program}

def recOp (d0 : Nat) (ts0 : Array TypeId) (ty0 : TypeId) (p0 : String) (af0 : Array Edge) : Oper := { dst := some d0, op := .call { callee := .builtin .recover, args := ⟨[]⟩, argTypes := ts0 }, type := ty0, pos := p0, after := af0, guard := none }
def asgOp (d1 d0 : Nat) (ty1 : TypeId) (p1 : String) (af1 : Array Edge) : Oper := { dst := some d1, op := .assign (.tmp d0), type := ty1, pos := p1, after := af1, guard := none }

theorem rec_ops {Q : Exit → Act → List Frame → World → Prop} {d0 d1 : Nat} {ts0 : Array TypeId} {ty0 ty1 : TypeId} {p0 p1 : String} {af0 af1 : Array Edge} {a : Act} {cs : List Frame} {w : World} (hd : d0 < a.tmps.size) {rv : Value} {cs' : List Frame}
    (hr : (recoverD cs = none ∧ rv = .nilIface ∧ cs' = cs) ∨ recoverD cs = some (rv, cs')) (hq : Q .normal ((a.put (some d0) rv).put (some d1) rv) cs' w) :
    wpOpsSIn Fence.wide 0 P ⟨[recOp d0 ts0 ty0 p0 af0, asgOp d1 d0 ty1 p1 af1]⟩ Q [0, 1] a cs w := by
  have e1 : (execOp a.eval (recOp d0 ts0 ty0 p0 af0)).run P w = .ok .recover w := by
    simp [execOp, resolve, invoke, builtin, recOp]
  have e2 : ∀ cs1, Q .normal ((a.put (some d0) rv).put (some d1) rv) cs1 w → wpOpsSIn Fence.wide 0 P ⟨[recOp d0 ts0 ty0 p0 af0, asgOp d1 d0 ty1 p1 af1]⟩ Q [1] (a.put (some d0) rv) cs1 w := by
    intro cs1 hq
    have : (a.put (some d0) rv).eval (.tmp d0) = rv := by simp [Act.eval, Act.put, hd]
    have e3 : (execOp (a.put (some d0) rv).eval (asgOp d1 d0 ty1 p1 af1)).run P w = .ok (.value rv) w := by
      simp only [execOp, asgOp, Sem.run_pure, this]
    have e4 : (⟨[recOp d0 ts0 ty0 p0 af0, asgOp d1 d0 ty1 p1 af1]⟩ : Array Oper)[1]? = some (asgOp d1 d0 ty1 p1 af1) := rfl
    have e5 : ∀ y, Region.wanted (asgOp d1 d0 ty1 p1 af1) y = true := fun _ => rfl
    simp only [wpOpsSIn, e4, e5, if_true, e3]
    exact ⟨fun _ _ => trivial, hq⟩
  have e4 : (⟨[recOp d0 ts0 ty0 p0 af0, asgOp d1 d0 ty1 p1 af1]⟩ : Array Oper)[0]? = some (recOp d0 ts0 ty0 p0 af0) := rfl
  have e5 : ∀ y, Region.wanted (recOp d0 ts0 ty0 p0 af0) y = true := fun _ => rfl
  have e6 : (recOp d0 ts0 ty0 p0 af0).dst = some d0 := rfl
  rcases hr with ⟨h1, rfl, rfl⟩ | h1
  · unfold wpOpsSIn
    simp only [e4, e5, if_true, e1, h1, e6]
    exact ⟨fun _ _ => trivial, e2 _ hq⟩
  · unfold wpOpsSIn
    simp only [e4, e5, if_true, e1, h1, e6]
    exact ⟨fun _ _ => trivial, e2 _ hq⟩

theorem settle_one (v : Value) : settle (.panicking [{ v := v, recovered := true }]) = .returning := by rfl

/-- A deferred closure, by its body. -/
theorem dcall_of {O : Opts} {g : FuncId} {d : SRec} (hg : slimRec P O g = some d) {args : List AV} {hp : List Blk} {x : Option AV} {v : Option Value} {K : List Blk → Prop}
    (hx : match x, v with | none, none => True | some x, some v => plainI x = true ∧ concI x = some v | _, _ => False)
    (h : Tri G P d.body (fun e s => (e = .normal ∨ e = .ret) ∧ K s.hp) ⟨((enterS args d.ntmps).set d.d0 (recV x)).set d.d1 (recV x), hp⟩) : DCall G P g args hp v K := by
  unfold slimRec at hg
  split at hg
  · rename_i fn hfn
    split at hg
    · cases hg
    · rename_i hname
      split at hg
      · rename_i hres
        split at hg
        · rename_i id o1 o2 rest hb
          split at hg
          · rename_i d0 d1 sc hrec hsc
            split at hg
            · rename_i hlt
              obtain ⟨hd0, hd1, hne⟩ := hlt
              cases hg
              have hres' : fn.results = #[] := Array.toList_inj.1 (by simpa using hres)
              refine ⟨⟨fn, hfn, by rw [hb]; rfl, by simpa using hname⟩, fun base w0 C M w args' hs hr => ?_⟩
              refine callsDIn_of_wpSIn (F := Fence.wide) (n := 0) hfn hb trivial fun c₀ cs hu => ?_
              -- the two first operations
              unfold recAt at hrec
              split at hrec
              · rename_i d0' ts0 ty0 p0 af0
                split at hrec
                · rename_i d1' t1 ty1 p1 af1
                  split at hrec
                  · rename_i ht
                    subst ht
                    cases hrec
                    refine wpSIn_seq (wpSIn_region ?_)
                    have key : ∀ (rv : Value) (cs' : List Frame) (u' : FrameMode), Rep C M hp (recV x) rv → settle u' = .returning → cs' = { c₀ with mode := u' } :: cs →
                        rest.wpSIn Fence.wide 0 P (bodyPostS P fn c₀ cs fun e u' w' => ∃ C' M' hp' v, K hp' ∧ e = .returned v ∧ settle u' = .returning ∧ Le C M hp C' M' hp' ∧ Sim G base w0 C' M' hp' w')
                          (({ tmps := args'.toArray ++ Array.replicate (fn.ntmps - args'.toArray.size) undef, defers := [] } : Act).put (some d0) rv |>.put (some d1) rv) cs' w := by
                      intro rv cs' u' hrv hset hcs'
                      refine wpSIn_of_wpIn rfl ?_
                      have hfr : SimF G .plain none base w0 C M ⟨((enterS args fn.ntmps).set d0 (recV x)).set d1 (recV x), hp⟩ (({ tmps := args'.toArray ++ Array.replicate (fn.ntmps - args'.toArray.size) undef, defers := [] } : Act).put (some d0) rv |>.put (some d1) rv) w :=
                        ⟨hs, frame_aput (frame_aput (frame_enter hr _) hrv (some d0)) hrv (some d1), rfl, trivial⟩
                      refine wpIn_mono (h rest O hsc none base w0 C M _ w hfr) fun e a' w' ⟨C', M', s', ⟨he, hK⟩, hle, hf'⟩ => ?_
                      have hd := hf'.defers
                      rcases he with rfl | rfl
                      · exact ⟨hd, u', hcs', .tuple #[], by simp [results, hres'], C', M', s'.hp, _, hK, rfl, hset, hle, hf'.sim⟩
                      · exact ⟨hd, u', hcs', .tuple #[], by simp [results, hres'], C', M', s'.hp, _, hK, rfl, hset, hle, hf'.sim⟩
                    have hsz : d0 < (args'.toArray ++ Array.replicate (fn.ntmps - args'.toArray.size) undef).size := by simp; omega
                    cases x with
                    | none =>
                      cases v with
                      | some v => exact hx.elim
                      | none =>
                        have hu' : c₀.mode = .returning := hu
                        have hrd : recoverD (c₀ :: cs) = none := by simp [recoverD, hu']
                        have := key .nilIface (c₀ :: cs) .returning (.v rfl) rfl (by cases c₀; cases hu'; rfl)
                        exact rec_ops hsz (Or.inl ⟨hrd, rfl, rfl⟩) this
                    | some x =>
                      cases v with
                      | none => exact hx.elim
                      | some v =>
                        have hu' : c₀.mode = .panicking [{ v := v, recovered := false }] := hu
                        have hrd : recoverD (c₀ :: cs) = some (v, { c₀ with mode := .panicking [{ v := v, recovered := true }] } :: cs) := by simp [recoverD, hu']
                        have := key v _ (.panicking [{ v := v, recovered := true }]) (rep_concI hx.1 hx.2) (settle_one v) rfl
                        exact rec_ops hsz (Or.inr hrd) this
                  · cases hrec
                · cases hrec
              · cases hrec
            · cases hg
          · cases hg
        · cases hg
      · cases hg
  · cases hg


/-- A function whose second statement defers a call of a closure. -/
structure SFnD where
  ntmps : Nat
  results : List RV
  head : SCode
  t : Nat
  g : FuncId
  caps : List Opd
  body : SCode

def mkfOp (t : Nat) (g : FuncId) (cs : Array Operand) (ty0 : TypeId) (p0 : String) (af0 : Array Edge) : Oper := { dst := some t, op := .makeFunc (.func g) ⟨[]⟩ cs, type := ty0, pos := p0, after := af0, guard := none }
def defOp (t : Nat) (ts1 : Array TypeId) (ty1 : TypeId) (p1 : String) (af1 : Array Edge) : Oper := { dst := none, op := .defer { callee := .value (.tmp t), args := ⟨[]⟩, argTypes := ts1 }, type := ty1, pos := p1, after := af1, guard := none }

def defAt (o1 o2 : Oper) : Option (Nat × FuncId × List Opd) := match o1 with
  | { dst := some t, op := .makeFunc (.func g) ⟨[]⟩ cs, type := _, pos := _, after := _, guard := none } => match o2 with
    | { dst := none, op := .defer { callee := .value (.tmp t'), args := ⟨[]⟩, argTypes := _ }, type := _, pos := _, after := _, guard := none } => if t' = t then (match slimOpds cs.toList with | some l => some (t, g, l) | none => none) else none
    | _ => none
  | _ => none

def slimDef (P : Program) (O : Opts) (f : FuncId) : Option SFnD := match P.funcs[f]? with
  | some fn => if fn.name == "runtime.NumGoroutine" then none else match fn.body with
    | some (.seq r0 (.seq (.region _ ⟨[o1, o2]⟩ false) rest)) => match defAt o1 o2, slim P O r0, slim P O rest, slimRVs P fn.results.toList with
      | some (t, g, l), some h, some b, some rs => if t < fn.ntmps then some ⟨fn.ntmps, rs, h, t, g, l, b⟩ else none
      | _, _, _, _ => none
    | _ => none
  | none => none

theorem dfr_ops {Q : Exit → Act → World → Prop} {t : Nat} {g : FuncId} {cs : Array Operand} {ts1 : Array TypeId} {ty0 ty1 : TypeId} {p0 p1 : String} {af0 af1 : Array Edge} {a : Act} {w : World} (hd : t < a.tmps.size)
    (hq : Q .normal { (a.put (some t) (.func (.func g) #[] (cs.map a.eval))) with defers := { target := .fn (.func g) (cs.map a.eval), args := #[] } :: a.defers } w) :
    wpOpsIn (FW none) 0 P ⟨[mkfOp t g cs ty0 p0 af0, defOp t ts1 ty1 p1 af1]⟩ Q [0, 1] a w := by
  have e1 : (execOp a.eval (mkfOp t g cs ty0 p0 af0)).run P w = .ok (.value (.func (.func g) #[] (cs.map a.eval))) w := by
    simp [execOp, mkfOp, Instr.makeFunc]
  have e2 : (execOp (a.put (some t) (.func (.func g) #[] (cs.map a.eval))).eval (defOp t ts1 ty1 p1 af1)).run P w = .ok (.defer { target := .fn (.func g) (cs.map a.eval), args := #[] }) w := by
    have : (a.put (some t) (.func (.func g) #[] (cs.map a.eval))).eval (.tmp t) = .func (.func g) #[] (cs.map a.eval) := by simp [Act.eval, Act.put, hd]
    simp [execOp, defOp, resolve, this, Deferred.ofValue]
  have e3 : ∀ y, Region.wanted (mkfOp t g cs ty0 p0 af0) y = true := fun _ => rfl
  have e4 : ∀ y, Region.wanted (defOp t ts1 ty1 p1 af1) y = true := fun _ => rfl
  have e5 : (⟨[mkfOp t g cs ty0 p0 af0, defOp t ts1 ty1 p1 af1]⟩ : Array Oper)[0]? = some (mkfOp t g cs ty0 p0 af0) := rfl
  have e6 : (⟨[mkfOp t g cs ty0 p0 af0, defOp t ts1 ty1 p1 af1]⟩ : Array Oper)[1]? = some (defOp t ts1 ty1 p1 af1) := rfl
  have e7 : (mkfOp t g cs ty0 p0 af0).dst = some t := rfl
  have e8 : (defOp t ts1 ty1 p1 af1).dst = none := rfl
  have s1 : (mkfOp t g cs ty0 p0 af0).semAt (FW none).round a.eval = execOp a.eval (mkfOp t g cs ty0 p0 af0) := rfl
  have s2 : (defOp t ts1 ty1 p1 af1).semAt (FW none).round (a.put (some t) (.func (.func g) #[] (cs.map a.eval))).eval = execOp (a.put (some t) (.func (.func g) #[] (cs.map a.eval))).eval (defOp t ts1 ty1 p1 af1) := rfl
  unfold wpOpsIn
  simp only [e5, e3, if_true]
  refine ⟨fun _ _ => trivial, ?_⟩
  rw [s1, e1]
  simp only [Oper.uponIn, e7]
  unfold wpOpsIn
  simp only [e6, e4, if_true]
  refine ⟨fun _ _ => trivial, ?_⟩
  rw [s2, e2]
  simp only [Oper.uponIn, e8]
  exact hq

/-- What the end of such a function's body comes to. -/
def endD (G : Cells) (P : Program) (g : FuncId) (ks : List Nat) (rs : List RV) (K : AV → List Blk → Prop) : Exit → St → Prop
  | .normal, s => DCall G P g (ks.map fun k => .mp k 0) s.hp none fun hp' => ∃ r, resV ⟨s.ts, hp'⟩ rs = some r ∧ K r hp'
  | .ret, s => DCall G P g (ks.map fun k => .mp k 0) s.hp none fun hp' => ∃ r, resV ⟨s.ts, hp'⟩ rs = some r ∧ K r hp'
  | .panic ch, s => ∃ v, ch = [{ v := v, recovered := false }] ∧ DCall G P g (ks.map fun k => .mp k 0) s.hp (some v) fun hp' => ∃ r, resV ⟨s.ts, hp'⟩ rs = some r ∧ K r hp'
  | _, _ => False

theorem fn_okD {O : Opts} {f : FuncId} {d : SFnD} (hf : slimDef P O f = some d) {args : List AV} {hp : List Blk} {K : AV → List Blk → Prop}
    (h : Tri G P d.head (fun e s => e = .normal ∧ d.t < s.ts.length ∧ ∃ ks : List Nat, d.caps.map (ev s.ts) = ks.map (fun k => .mp k 0) ∧
      TriD G P (.dfr d.g ks) d.body (endD G P d.g ks d.results K) ⟨s.ts.set d.t (.fn (.func d.g) [] (ks.map fun k => .mp k 0)), s.hp⟩) ⟨enterS args d.ntmps, hp⟩) : CallOk G P f args hp K := by
  unfold slimDef at hf
  split at hf
  · rename_i fn hfn
    split at hf
    · cases hf
    · rename_i hname
      split at hf
      · rename_i r0 id o1 o2 rest hb
        split at hf
        · rename_i t g l hd bd rs hdef hh hbd hrs
          split at hf
          · rename_i hlt
            cases hf
            unfold defAt at hdef
            split at hdef
            · rename_i t0 g0 cs0 ty0 p0 af0
              split at hdef
              · rename_i t1 ts1 ty1 p1 af1
                split at hdef
                · rename_i ht
                  subst ht
                  split at hdef
                  · rename_i l' hl
                    cases hdef
                    refine ⟨⟨fn, hfn, by rw [hb]; rfl, by simpa using hname⟩, fun base w0 C M w args' hs hr => ?_⟩
                    refine callsIn_wide.1 (callsIn_of_wp_defers (F := Fence.wide) (n := 0) hfn hb trivial ?_)
                    have hf : SimF G .plain none base w0 C M ⟨enterS args fn.ntmps, hp⟩ { tmps := args'.toArray ++ Array.replicate (fn.ntmps - args'.toArray.size) undef, defers := [] } w :=
                      ⟨hs, frame_enter hr _, rfl, trivial⟩
                    refine wpIn_seq (wpIn_mono (h r0 O hh none base w0 C M _ w hf) fun e a1 w1 ⟨C1, M1, s1, ⟨he, htl, ks, hks, hT⟩, hle1, hf1⟩ => ?_)
                    subst he
                    have hd1 : a1.defers = [] := hf1.defers
                    have hcap : RepL C1 M1 s1.hp (ks.map fun k => .mp k 0) (cs0.map a1.eval).toList := by
                      have := rep_evs hf1.frame hl
                      rw [hks] at this
                      simpa using this
                    have hsz : t < a1.tmps.size := by
                      have := hf1.frame.1
                      simp only [Array.length_toList] at this
                      have htl' : t < s1.ts.length := htl
                      omega
                    refine wpIn_seq (wpIn_region ?_)
                    refine dfr_ops hsz ?_
                    have hf2 : SimF G (.dfr g ks) none base w0 C1 M1 ⟨s1.ts.set t (.fn (.func g) [] (ks.map fun k => .mp k 0)), s1.hp⟩ { (a1.put (some t) (.func (.func g) #[] (cs0.map a1.eval))) with defers := { target :=   .fn (.func g) (cs0.map a1.eval), args := #[] } :: a1.defers } w1 := by
                      refine ⟨hf1.sim, ?_, ⟨C1, cs0.map a1.eval, by rw [hd1], hcap⟩, rfl⟩
                      exact frame_aput hf1.frame (.fn rfl (by have := hcap.1; simpa using this) (fun i x y hx _ => by simp at hx) (fun i x y hx hy => hcap.2 i x y hx (by simpa using hy))) (some t)
                    refine wpIn_mono (hT rest O hbd none base w0 C1 M1 _ w1 hf2) fun e a2 w2 ⟨C2, M2, s2, hq, hle2, hf3⟩ => ?_
                    obtain ⟨C0, cap, hds, hcapr⟩ := hf3.defers
                    have fin : ∀ (x : Option Value) (u : FrameMode), u = (match x with | none => .returning | some v => .panicking [{ v := v, recovered := false }]) →
                        DCall G P g (ks.map fun k => .mp k 0) s2.hp x (fun hp' => ∃ r, resV ⟨s2.ts, hp'⟩ rs = some r ∧ K r hp') →
                        LeavesIn Fence.wide 0 P fn a2.tmps (fun e w' => ∃ C' M' hp' r v', K r hp' ∧ e = .returned v' ∧ Le C M hp C' M' hp' ∧ Sim G base w0 C' M' hp' w' ∧ Rep C' M' hp' r v') a2.defers u w2 := by
                      intro x u hu hD
                      rw [hds]
                      have hcapr' : RepL C2 M2 s2.hp (ks.map fun k => .mp k 0) cap.toList := by
                        refine ⟨hcapr.1, fun i a b ha hb => ?_⟩
                        have := hcapr.2 i a b ha hb
                        simp only [List.getElem?_map, Option.map_eq_some_iff] at ha
                        obtain ⟨k, _, rfl⟩ := ha
                        cases this with
                        | mp hb' hM' => exact .mp hb' hM'
                      have hcall := hD.2 base w0 C2 M2 w2 cap.toList hf3.sim hcapr'
                      refine leavesIn_cons (by rw [hu]; cases x <;> simp) (fun q => by cases q) (run_callFunc hD.1 _ _) (fun _ _ => trivial) ?_
                      rw [hu]
                      have e0 : (#[] : Array Value) ++ cap = cap.toList.toArray := by simp
                      rw [e0]
                      refine CallsDIn.mono hcall fun e u' w' ⟨C3, M3, hp3, v, ⟨r, hrv, hK⟩, he, hset, hle3, hs3⟩ => ?_
                      subst he
                      simp only
                      rw [hset]
                      obtain ⟨v', hv1, hv2⟩ := run_res (P := P) (dn := .plain) (ro := none) (s' := ⟨s2.ts, hp3⟩) (a' := { tmps := a2.tmps, defers := [] }) hrs ⟨hs3, frame_mono hle3 hf3.frame, rfl, trivial⟩ hrv
                      exact ⟨v', hv1, C3, M3, hp3, r, v', hK, rfl, hle1.trans (hle2.trans hle3), hs3, hv2⟩
                    cases e with
                    | normal => exact fin none .returning rfl hq
                    | ret => exact fin none .returning rfl hq
                    | panic ch =>
                      obtain ⟨v, rfl, hD⟩ := hq
                      exact fin (some v) _ rfl hD
                    | _ => exact hq.elim
                  · cases hdef
                · cases hdef
              · cases hdef
            · cases hdef
          · cases hf
        · cases hf
      · cases hf
  · cases hf

end
end Go.Abs
