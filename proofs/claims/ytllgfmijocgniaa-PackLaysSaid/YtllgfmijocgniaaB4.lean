/- The model's operations do what the slim ones do. No condition. -/
import Derived.Test.YtllgfmijocgniaaB3
namespace Go.Abs
open Go.RowKit

section
variable {base : Nat} {w0 : Root} {w : World} {C : Cells} {M : List Loc} {hp : List Blk} {P : Program}

theorem of_map1 {α β : Type} {x : Option α} {_hp hp' : List Blk} {r : β} {f : α → β × List Blk} (h : x.map f = some (r, hp')) : ∃ y, x = some y ∧ f y = (r, hp') := by
  simpa [Option.map_eq_some_iff] using h

theorem step_bin {op : BinOp} {t : TypeId} {x y : Operand} {x' y' : Opd} {so : SOp} {ts : List AV} {a : Act} (h : Sim base w0 C M hp w) (hf : FrameRep C M hp ts a.tmps) (hx : slimOpd x = some x') (hy : slimOpd y = some y')
    (hs : slimBin P op t x y x' y' = some so) {r : AV} {hp' : List Blk} (hr : astep ts hp so = some (r, hp')) :
    Gives base w0 C M hp P (do eqGuard op t x y (a.eval x) (a.eval y); binOp op t (a.eval x) (a.eval y)) w r hp' := by
  have rx := rep_ev hf hx
  have ry := rep_ev hf hy
  unfold slimBin at hs
  split at hs
  · cases hs
    obtain ⟨q, h1, h2⟩ := of_map1 (_hp := hp) hr
    cases h2
    exact gives_bin h rx ry h1
  · cases hs
    obtain ⟨q, h1, h2⟩ := of_map1 (_hp := hp) hr
    cases h2
    exact gives_bin h rx ry h1
  · rename_i hb
    split at hs
    · rename_i e; subst e; cases hs
      obtain ⟨q, h1, h2⟩ := of_map1 (_hp := hp) hr
      cases h2
      exact gives_eqb (neg := false) hb h rx ry h1
    · split at hs
      · rename_i e; subst e; cases hs
        obtain ⟨q, h1, h2⟩ := of_map1 (_hp := hp) hr
        cases h2
        exact gives_eqb (neg := true) hb h rx ry h1
      · cases hs
  · split at hs
    · rename_i hc
      split at hs
      · rename_i ks hk
        split at hs
        · rename_i e; subst e; cases hs
          obtain ⟨q, h1, h2⟩ := of_map1 (_hp := hp) hr
          cases h2
          exact gives_eqf (neg := false) (by omega) hk hc.1 hc.2 h rx ry h1
        · split at hs
          · rename_i e; subst e; cases hs
            obtain ⟨q, h1, h2⟩ := of_map1 (_hp := hp) hr
            cases h2
            exact gives_eqf (neg := true) (by omega) hk hc.1 hc.2 h rx ry h1
          · cases hs
      · cases hs
    · cases hs
  · split at hs
    · rename_i hc
      split at hs
      · rename_i ks hk
        split at hs
        · rename_i e; subst e; cases hs
          obtain ⟨q, h1, h2⟩ := of_map1 (_hp := hp) hr
          cases h2
          exact gives_eqf (neg := false) (by omega) hk hc.1 hc.2 h rx ry h1
        · split at hs
          · rename_i e; subst e; cases hs
            obtain ⟨q, h1, h2⟩ := of_map1 (_hp := hp) hr
            cases h2
            exact gives_eqf (neg := true) (by omega) hk hc.1 hc.2 h rx ry h1
          · cases hs
      · cases hs
    · cases hs
  · split at hs
    · rename_i K hK
      split at hs
      · rename_i hc
        have hc' : K = .ifc → isConstO x = true ∨ isConstO y = true := fun e => hc.resolve_left (fun q => q e)
        split at hs
        · rename_i e; subst e; cases hs
          obtain ⟨q, h1, h2⟩ := of_map1 (_hp := hp) hr
          cases h2
          exact gives_eqn (neg := false) hK hc' h rx ry h1
        · split at hs
          · rename_i e; subst e; cases hs
            obtain ⟨q, h1, h2⟩ := of_map1 (_hp := hp) hr
            cases h2
            exact gives_eqn (neg := true) hK hc' h rx ry h1
          · cases hs
      · cases hs
    · cases hs

theorem step_conv {src dst : TypeId} {x : Operand} {x' : Opd} {so : SOp} {ts : List AV} {a : Act} (h : Sim base w0 C M hp w) (hf : FrameRep C M hp ts a.tmps) (hx : slimOpd x = some x')
    (hs : slimConv P src dst x' = some so) {r : AV} {hp' : List Blk} (hr : astep ts hp so = some (r, hp')) : Gives base w0 C M hp P (convert src dst (a.eval x)) w r hp' := by
  have rx := rep_ev hf hx
  unfold slimConv at hs
  split at hs
  · rename_i k1 k2 e1 e2
    cases hs
    obtain ⟨q, h1, h2⟩ := of_map1 (_hp := hp) hr
    cases h2
    exact gives_cv (by rw [e1]; rfl) e2 h rx h1
  · rename_i e1 e2
    cases hs
    obtain ⟨q, h1, h2⟩ := of_map1 (_hp := hp) hr
    cases h2
    exact gives_s2s e1 e2 h rx h1
  · rename_i e e1 e2
    split at hs
    · rename_i e3
      cases hs
      obtain ⟨q, h1, h2⟩ := of_map1 (_hp := hp) hr
      cases h2
      exact gives_b2s e1 e3 e2 h rx h1
    · cases hs
  · cases hs

theorem elemTyOf_ok {t e : TypeId} {n byt : Nat} (h : elemTyOf P t = some (e, n, byt)) : ElemTy P t e n byt := by
  unfold elemTyOf at h
  split at h
  · rename_i e' ht
    split at h
    · rename_i i hi
      split at h
      · rename_i z hz
        split at h
        · rename_i hc
          cases h
          exact ⟨ht, i, z, hi, rfl, rfl, hz, hc⟩
        · cases h
      · cases h
    · cases h
  · cases h

/-- The model's operation does what the slim one does. -/
theorem step_ok {o : Oper} {s : SOp} (hs : slimOp P o = some (.op s)) {ts : List AV} {a : Act} (h : Sim base w0 C M hp w) (hf : FrameRep C M hp ts a.tmps) {r : AV} {hp' : List Blk} (hr : astep ts hp s = some (r, hp')) :
    Steps1 base w0 C M hp P (execOp a.eval o) w r hp' := by
  have val : ∀ {x : Operand} {x' : Opd}, slimOpd x = some x' → astep ts hp (.mv x') = some (r, hp') → Steps1 base w0 C M hp P (pure (.value (a.eval x))) w r hp' := by
    intro x x' hx hr
    cases hr
    exact ⟨.value (a.eval x), C, M, a.eval x, w, rfl, rfl, Le.refl _ _ _, h, rep_ev hf hx⟩
  unfold slimOp at hs
  unfold execOp
  split at hs
  all_goals try (rename_i hop; rw [hop]; simp only)
  · -- move
    simp only [Option.map_eq_some_iff, SInstr.op.injEq] at hs
    obtain ⟨x', hx, rfl⟩ := hs
    exact val hx hr
  · simp only [Option.map_eq_some_iff, SInstr.op.injEq] at hs
    obtain ⟨x', hx, rfl⟩ := hs
    exact val hx hr
  · -- pick
    split at hs
    · rename_i c' a' b' hc ha hb
      cases hs
      simp only [astep] at hr
      split at hr
      · rename_i b0 hb0
        cases hr
        have rc := rep_ev hf hc
        rw [hb0] at rc
        generalize a.eval _ = cv at rc ⊢
        cases rc
        cases b0
        · exact ⟨.value _, C, M, _, w, by simp [asBool], rfl, Le.refl _ _ _, h, rep_ev hf hb⟩
        · exact ⟨.value _, C, M, _, w, by simp [asBool], rfl, Le.refl _ _ _, h, rep_ev hf ha⟩
      · cases hr
    · cases hs
  · -- alloc
    simp only [Option.map_eq_some_iff, SInstr.op.injEq] at hs
    obtain ⟨z, hz, rfl⟩ := hs
    cases hr
    exact .of_gives (gives_alloc hz h)
  · -- box
    simp only [Option.map_eq_some_iff, SInstr.op.injEq] at hs
    obtain ⟨x', hx, rfl⟩ := hs
    cases hr
    exact .of_gives (gives_box h (rep_ev hf hx))
  · -- build
    split at hs
    · rename_i fs z ht hz
      split at hs
      · rename_i pl hpl
        simp only [Option.map_eq_some_iff, SInstr.op.injEq] at hs
        obtain ⟨ps, hps, rfl⟩ := hs
        obtain ⟨q, h1, h2⟩ := of_map1 (_hp := hp) hr
        cases h2
        obtain ⟨e1, e2⟩ := slimParts_get hps
        refine .of_gives (gives_build ht hz hpl h (ps := ps.map fun p => (p.1, p.2.1, ev ts p.2.2)) (by simp [e1]) (fun i u v hu hv => ?_) h1)
        simp only [List.getElem?_map, Option.map_eq_some_iff, Array.toList_map] at hu hv
        obtain ⟨u0, hu0, rfl⟩ := hu
        obtain ⟨v0, hv0, rfl⟩ := hv
        obtain ⟨q1, q2⟩ := e2 i u0 v0 hu0 hv0
        exact ⟨q1, rep_ev hf q2⟩
      · cases hs
    · rename_i n e z ht hz
      split at hs
      · rename_i sz hsz
        simp only [Option.map_eq_some_iff, SInstr.op.injEq] at hs
        obtain ⟨ps, hps, rfl⟩ := hs
        obtain ⟨q, h1, h2⟩ := of_map1 (_hp := hp) hr
        cases h2
        obtain ⟨e1, e2⟩ := slimParts_get hps
        refine .of_gives (gives_buildA ht hsz hz h (ps := ps.map fun p => (p.1, p.2.1, ev ts p.2.2)) (by simp [e1]) (fun i u v hu hv => ?_) h1)
        simp only [List.getElem?_map, Option.map_eq_some_iff, Array.toList_map] at hu hv
        obtain ⟨u0, hu0, rfl⟩ := hu
        obtain ⟨v0, hv0, rfl⟩ := hv
        obtain ⟨q1, q2⟩ := e2 i u0 v0 hu0 hv0
        exact ⟨by simpa using q1, rep_ev hf q2⟩
      · cases hs
    · cases hs
  · -- buildSlice
    split at hs
    · rename_i e ht
      split at hs
      · rename_i n z l hn hz hl
        split at hs
        · rename_i hc
          obtain ⟨hzl, hlen⟩ := hc
          cases hs
          obtain ⟨q, h1, h2⟩ := of_map1 (_hp := hp) hr
          cases h2
          obtain ⟨e1, e2⟩ := slimSeq_get hl
          have := gives_bsl (base := base) (w0 := w0) (w := w) ht hn hz hzl h (vs := l.map (ev ts)) (ps' := (‹Array (Nat × Operand)›).map fun x => (x.1, a.eval x.2)) (by simp [e1]) (fun i u v hu hv => by
            simp only [List.getElem?_map, Option.map_eq_some_iff, Array.toList_map] at hu hv
            obtain ⟨u0, hu0, rfl⟩ := hu
            obtain ⟨v0, hv0, rfl⟩ := hv
            obtain ⟨q1, q2⟩ := e2 i u0 v0 hu0 hv0
            exact ⟨by simpa using q1, rep_ev hf q2⟩) h1
          rw [List.length_map, ← hlen] at this
          exact .of_gives this
        · cases hs
      · cases hs
    · cases hs
  · -- load
    split at hs
    · rename_i ag n x' hag hn hx
      cases hs
      obtain ⟨q, h1, h2⟩ := of_map1 (_hp := hp) hr
      cases h2
      exact .of_gives (gives_load hag hn h (rep_ev hf hx) h1)
    · cases hs
  · -- store
    split at hs
    · rename_i n p' x' hn hp0 hx
      cases hs
      obtain ⟨q, h1, h2⟩ := of_map1 (_hp := hp) hr
      cases h2
      obtain ⟨w', r1, r2, r3⟩ := run_store' (P := P) hn h (rep_ev hf hp0) (rep_ev hf hx) h1
      exact ⟨.skip, C, M, undef, w', by simp [r1], rfl, r2, r3, rep_undef⟩
    · cases hs
  · -- nilCheck
    simp only [Option.map_eq_some_iff, SInstr.op.injEq] at hs
    obtain ⟨x', hx, rfl⟩ := hs
    obtain ⟨q, h1, h2⟩ := of_map1 (_hp := hp) hr
    cases h2
    have rx := rep_ev hf hx
    unfold anil at h1
    generalize a.eval _ = v at rx ⊢
    split at h1
    · rename_i e
      rw [e] at rx
      cases h1
      have rx0 := rx
      cases rx
      exact ⟨.value _, C, M, _, w, rfl, rfl, Le.refl _ _ _, h, rx0⟩
    · rename_i e
      rw [e] at rx
      cases h1
      have rx0 := rx
      cases rx
      exact ⟨.value _, C, M, _, w, rfl, rfl, Le.refl _ _ _, h, rx0⟩
    · rename_i e
      rw [e] at rx
      cases h1
      have rx0 := rx
      cases rx
      exact ⟨.value _, C, M, _, w, rfl, rfl, Le.refl _ _ _, h, rx0⟩
    · cases h1
  · -- binOp
    split at hs
    · rename_i x' y' hx hy
      simp only [Option.map_eq_some_iff, SInstr.op.injEq] at hs
      obtain ⟨so, hso, rfl⟩ := hs
      exact .of_gives (step_bin h hf hx hy hso hr)
    · cases hs
  · -- unOp
    simp only [Option.map_eq_some_iff, SInstr.op.injEq] at hs
    obtain ⟨x', hx, rfl⟩ := hs
    obtain ⟨q, h1, h2⟩ := of_map1 (_hp := hp) hr
    cases h2
    exact .of_gives (gives_un h (rep_ev hf hx) h1)
  · -- convert
    split at hs
    · rename_i x' hx
      simp only [Option.map_eq_some_iff, SInstr.op.injEq] at hs
      obtain ⟨so, hso, rfl⟩ := hs
      exact .of_gives (step_conv h hf hx hso hr)
    · cases hs
  · -- slice
    split at hs
    · rename_i x' lo' hi' mx' hx hlo hhi hmx
      split at hs
      · rename_i e ht
        simp only [Option.map_eq_some_iff, SInstr.op.injEq] at hs
        obtain ⟨n, hn, rfl⟩ := hs
        simp only [astep] at hr
        split at hr
        · cases hr
        · rename_i hns
          obtain ⟨q, h1, h2⟩ := of_map1 (_hp := hp) hr
          cases h2
          exact .of_gives (gives_asl ht hn h (rep_ev hf hx) (rep_evO hf hlo) (rep_evO hf hhi) (rep_evO hf hmx) hns h1)
      · rename_i ht
        split at hs
        · rename_i hmx0
          cases hs
          simp only [astep] at hr
          split at hr
          · rename_i s hsv
            obtain ⟨q, h1, h2⟩ := of_map1 (_hp := hp) hr
            cases h2
            have rx := rep_ev hf hx
            rw [hsv] at rx
            exact .of_gives (gives_asls (n := 0) ht h rx (rep_evO hf hlo) (rep_evO hf hhi) (rep_evO hf hmx) ⟨s, rfl⟩ h1)
          · cases hr
        · cases hs
      · cases hs
    · cases hs
  · -- fieldAddr
    split at hs
    · rename_i x' fs hx ht
      split at hs
      · rename_i fd hfd
        split at hs
        · rename_i n hn
          split at hs
          · rename_i hn0
            cases hs
            obtain ⟨q, h1, h2⟩ := of_map1 (_hp := hp) hr
            cases h2
            exact .of_gives (gives_fa ht hfd rfl hn hn0 h (rep_ev hf hx) h1)
          · cases hs
        · cases hs
      · cases hs
    · cases hs
  · -- field
    split at hs
    · rename_i x' fs hx ht
      split at hs
      · rename_i fd hfd
        split at hs
        · rename_i ag n hag hn
          cases hs
          obtain ⟨q, h1, h2⟩ := of_map1 (_hp := hp) hr
          cases h2
          exact .of_gives (gives_fld ht hfd rfl hag hn h (rep_ev hf hx) h1)
        · cases hs
      · cases hs
    · cases hs
  · -- indexAddr
    split at hs
    · rename_i x' i' e hx hi ht
      simp only [Option.map_eq_some_iff, SInstr.op.injEq] at hs
      obtain ⟨n, hn, rfl⟩ := hs
      obtain ⟨q, h1, h2⟩ := of_map1 (_hp := hp) hr
      cases h2
      exact .of_gives (gives_ia ht hn h (rep_ev hf hx) (rep_ev hf hi) h1)
    · rename_i x' i' len e hx hi ht
      simp only [Option.map_eq_some_iff, SInstr.op.injEq] at hs
      obtain ⟨n, hn, rfl⟩ := hs
      obtain ⟨q, h1, h2⟩ := of_map1 (_hp := hp) hr
      cases h2
      exact .of_gives (gives_aa ht hn h (rep_ev hf hx) (rep_ev hf hi) h1)
    · cases hs
  · -- index
    split at hs
    · rename_i x' i' hx hi ht
      cases hs
      obtain ⟨q, h1, h2⟩ := of_map1 (_hp := hp) hr
      cases h2
      exact .of_gives (gives_chr ht h (rep_ev hf hx) (rep_ev hf hi) h1)
    · rename_i x' i' len e hx hi ht
      split at hs
      · rename_i ag n hag hn
        cases hs
        obtain ⟨q, h1, h2⟩ := of_map1 (_hp := hp) hr
        cases h2
        exact .of_gives (gives_idx ht hag hn h (rep_ev hf hx) (rep_ev hf hi) h1)
      · cases hs
    · cases hs
  · -- extract
    simp only [Option.map_eq_some_iff, SInstr.op.injEq] at hs
    obtain ⟨x', hx, rfl⟩ := hs
    obtain ⟨q, h1, h2⟩ := of_map1 (_hp := hp) hr
    cases h2
    exact .of_gives (gives_ext h (rep_ev hf hx) h1)
  · -- makeFunc
    split at hs
    · rename_i f' c' h1 h2
      cases hs
      cases hr
      have r1 := rep_evs hf h1
      have r2 := rep_evs hf h2
      refine ⟨.value _, C, M, _, w, by simp [Instr.makeFunc]; rfl, rfl, Le.refl _ _ _, h, ?_⟩
      exact .fn (by have := r1.1; simpa using this) (by have := r2.1; simpa using this) (fun i x y hx hy => r1.2 i x y hx (by simpa using hy)) (fun i x y hx hy => r2.2 i x y hx (by simpa using hy))
    · cases hs
  · -- call
    rename_i c
    unfold slimCall at hs
    split at hs
    · rename_i hcal
      split at hs
      · rename_i x t hargs htys
        have ha : c.args = #[x] := by apply Array.ext'; simpa using hargs
        have ht : c.argTypes = #[t] := by apply Array.ext'; simpa using htys
        split at hs
        · rename_i o' hx hu
          cases hs
          simp only [astep] at hr
          split at hr
          · rename_i s hsv
            cases hr
            have rx := rep_ev hf hx
            rw [hsv] at rx
            have g := gives_len (P := P) (t := t) (ty := o.type) h rx (fun _ _ => hu) (fun q => (q s rfl).elim) (r := .v (goInt s.size)) rfl
            have := Steps1.of_gives g
            simpa [resolve, hcal, ha, ht, invoke, builtin] using this
          · cases hr
        · rename_i o' e hx hu
          cases hs
          simp only [astep] at hr
          split at hr
          · cases hr
          · rename_i hns
            obtain ⟨q, h1, h2⟩ := of_map1 (_hp := hp) hr
            cases h2
            have g := gives_len (P := P) (t := t) (ty := o.type) h (rep_ev hf hx) (fun s e => (hns s e).elim) (fun _ => ⟨_, hu⟩) h1
            have := Steps1.of_gives g
            simpa [resolve, hcal, ha, ht, invoke, builtin] using this
        · cases hs
      · cases hs
    · rename_i hcal
      split at hs
      · rename_i s x t u hargs htys
        have ha : c.args = #[s, x] := by apply Array.ext'; simpa using hargs
        have ht : c.argTypes = #[t, u] := by apply Array.ext'; simpa using htys
        split at hs
        · rename_i htu
          subst htu
          split at hs
          · rename_i s' x' e n b hs' hx' he
            cases hs
            have g := gives_app (P := P) (ty := o.type) (elemTyOf_ok he) h (rep_ev hf hs') (rep_ev hf hx') hr
            have := Steps1.of_gives g
            simpa [resolve, hcal, ha, ht, invoke, builtin] using this
          · cases hs
        · cases hs
      · cases hs
    · cases hs
    · simp only [Option.map_eq_some_iff, reduceCtorEq, and_false, exists_const] at hs
    · split at hs <;> cases hs
    · cases hs
  · cases hs

end
end Go.Abs
