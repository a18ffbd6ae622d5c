/- Functions of slim code, and calls that leave all old memory alone. No condition. -/
import Derived.Test.YtllgfmijocgniaaB8
set_option linter.unusedVariables false
namespace Go.Abs
open Go.RowKit

section
variable {P : Program}

theorem repl_append {C : Cells} {M : List Loc} {hp : List Blk} {a b : List AV} {a' b' : List Value} (h1 : RepL C M hp a a') (h2 : RepL C M hp b b') : RepL C M hp (a ++ b) (a' ++ b') := by
  refine ⟨by rw [List.length_append, List.length_append, h1.1, h2.1], fun k u v hu hv => ?_⟩
  rcases Nat.lt_or_ge k a.length with hk | hk
  · rw [List.getElem?_append_left hk] at hu
    rw [List.getElem?_append_left (by rw [← h1.1]; exact hk)] at hv
    exact h1.2 k u v hu hv
  · rw [List.getElem?_append_right hk] at hu
    rw [List.getElem?_append_right (by rw [← h1.1]; exact hk), ← h1.1] at hv
    exact h2.2 _ u v hu hv

theorem repl_undef {C : Cells} {M : List Loc} {hp : List Blk} (n : Nat) : RepL C M hp (List.replicate n undefA) (List.replicate n undef) :=
  ⟨by simp, fun i a b ha hb => by
    rw [List.getElem?_replicate] at ha hb
    split at ha
    · rename_i h
      rw [if_pos h] at hb
      cases ha; cases hb
      exact rep_undef
    · cases ha⟩

/-- A function's slots when it is entered. -/
def enterS (args : List AV) (ntmps : Nat) : List AV := args ++ List.replicate (ntmps - args.length) undefA

/-- A function, by its body. -/
theorem fn_ok {pu : List FuncId} {f : FuncId} {sf : SFn} {args : List AV} {hp : List Blk} {K : AV → List Blk → Prop} (hf : slimFn P pu f = some sf)
    (h : Tri P sf.body (fun e s' => (e = .normal ∨ e = .ret) ∧ ∃ r, resV s' sf.results = some r ∧ K r s'.hp) ⟨enterS args sf.ntmps, hp⟩) : CallOk P f args hp K := by
  unfold slimFn at hf
  split at hf
  · rename_i fn hfn
    split at hf
    · cases hf
    · rename_i hname
      split at hf
      · rename_i c hc
        split at hf
        · rename_i sc rs hsc hrs
          cases hf
          refine ⟨⟨fn, hfn, by rw [hc]; rfl, by simpa using hname⟩, fun base w0 C M w args' hs hr => ?_⟩
          refine calls_of_wp hfn hc ?_
          have hlen : args.length = args'.length := hr.1
          have hf : SimF base w0 C M ⟨enterS args fn.ntmps, hp⟩ { tmps := args'.toArray ++ Array.replicate (fn.ntmps - args'.toArray.size) undef, defers := [] } w := by
            refine ⟨hs, ?_, rfl⟩
            have := repl_append hr (repl_undef (C := C) (M := M) (hp := hp) (fn.ntmps - args.length))
            unfold FrameRep enterS
            simpa [hlen] using this
          refine wp_mono (h c pu hsc base w0 C M _ w hf) fun e a' w' ⟨C', M', s', ⟨he, r, hrv, k⟩, hle, hf'⟩ => ?_
          have hres : ∃ v, (results fn a'.tmps).run P w' = .ok v w' ∧ Rep C' M' s'.hp r v := by
            unfold resV at hrv
            cases hra : resAs s' rs with
            | none => rw [hra] at hrv; cases hrv
            | some l =>
              rw [hra] at hrv
              obtain ⟨vs, hvs, hrep⟩ := run_results (P := P) hf' hrs hra
              have hrun : (results fn a'.tmps).run P w' = .ok (if h : vs.toArray.size = 1 then vs.toArray[0] else .tuple vs.toArray) w' := by
                change (fn.results.mapM (resGet a'.tmps) >>= fun vs => (pure (if h : vs.size = 1 then vs[0] else .tuple vs) : Sem Value)).run P w' = _
                rw [Array.mapM_eq_mapM_toList]
                simp only [Sem.run_bind, Sem.run_map]
                rw [hvs]
                rfl
              have hsingle : ∀ x, l = [x] → r = x := by
                intro x e
                subst e
                exact (Option.some.inj hrv).symm
              refine ⟨_, hrun, ?_⟩
              by_cases h1 : vs.length = 1
              · have hl1 : l.length = 1 := by rw [hrep.1]; exact h1
                obtain ⟨x, hx⟩ : ∃ x, l = [x] := List.length_eq_one_iff.1 hl1
                obtain ⟨v, hv⟩ : ∃ v, vs = [v] := List.length_eq_one_iff.1 h1
                rw [hsingle x hx]
                subst hx; subst hv
                simpa using hrep.2 0 _ _ rfl rfl
              · have hl1 : l.length ≠ 1 := by rw [hrep.1]; exact h1
                have hrt : r = .tup l := by
                  cases l with
                  | nil => simp at hrv; exact hrv.symm
                  | cons x l' =>
                    cases l' with
                    | nil => exact (hl1 rfl).elim
                    | cons y l'' => simp at hrv; exact hrv.symm
                subst hrt
                rw [dif_neg (by simpa using h1)]
                exact .tup (by simpa using hrep.1) (fun i a b ha hb => hrep.2 i a b ha (by simpa using hb))
          obtain ⟨v, hv1, hv2⟩ := hres
          have fin : bodyPost P fn (fun e w' => ∃ C' M' hp' r v', K r hp' ∧ e = .returned v' ∧ Le C M hp C' M' hp' ∧ Sim base w0 C' M' hp' w' ∧ Rep C' M' hp' r v') .normal a' w' :=
            ⟨hf'.defers, v, hv1, C', M', s'.hp, r, v, k, rfl, hle, hf'.sim, hv2⟩
          rcases he with rfl | rfl
          · exact fin
          · exact fin
        · cases hf
      · cases hf
  · cases hf

/-! What may be forgotten of a value. -/

/-- The second one says less. -/
def Imp (x y : AV) : Prop := ∀ C M hp v, Rep C M hp x v → Rep C M hp y v

theorem Imp.refl (x : AV) : Imp x x := fun _ _ _ _ h => h

theorem ImpC.imp {x y : AV} (h : ImpC x y) : Imp x y := fun C M hp v hr => (h C M hp v hr).mono le_nil

theorem impC_v (x : Value) : ImpC (.v x) (.v x) := fun C M hp v h => by cases h with | v h => exact .v h
theorem impC_nsl : ImpC .nsl .nsl := fun C M hp v h => by cases h; exact .nsl
theorem impC_agg {cs ds : List AV} (hl : cs.length = ds.length) (h : ∀ (i : Nat) c d, cs[i]? = some c → ds[i]? = some d → ImpC c d) : ImpC (.agg cs) (.agg ds) := fun C M hp v hr => by
  cases hr with
  | agg hl' hh =>
    refine .agg (by omega) (fun i a b ha hb => ?_)
    have hi : i < cs.length := by have := (List.getElem?_eq_some_iff.1 ha).1; omega
    exact h i cs[i] a (List.getElem?_eq_getElem hi) ha _ _ _ _ (hh i cs[i] b (List.getElem?_eq_getElem hi) hb)
theorem impC_tup {cs ds : List AV} (hl : cs.length = ds.length) (h : ∀ (i : Nat) c d, cs[i]? = some c → ds[i]? = some d → ImpC c d) : ImpC (.tup cs) (.tup ds) := fun C M hp v hr => by
  cases hr with
  | tup hl' hh =>
    refine .tup (by omega) (fun i a b ha hb => ?_)
    have hi : i < cs.length := by have := (List.getElem?_eq_some_iff.1 ha).1; omega
    exact h i cs[i] a (List.getElem?_eq_getElem hi) ha _ _ _ _ (hh i cs[i] b (List.getElem?_eq_getElem hi) hb)

theorem impC_sl {xs ys : List AV} {t : Tail} (hl : xs.length = ys.length) (hc : ∀ (i : Nat) x y, xs[i]? = some x → ys[i]? = some y → x.cells.length = y.cells.length ∧ ∀ (j : Nat) c d, x.cells[j]? = some c → y.cells[j]? = some d → ImpC c d) : ImpC (.sl xs t) (.sl ys .no) := fun C M hp v hr => by
  cases hr with
  | sl f hsp hsz hC hR hT hcap =>
    rename_i a cap sz
    have get : ∀ (i : Nat) y, ys[i]? = some y → ∃ x, xs[i]? = some x := fun i y hy => by
      have : i < xs.length := by have := (List.getElem?_eq_some_iff.1 hy).1; omega
      exact ⟨xs[i], List.getElem?_eq_getElem this⟩
    have getj : ∀ (i : Nat) x y (j : Nat) d, xs[i]? = some x → ys[i]? = some y → y.cells[j]? = some d → ∃ c, x.cells[j]? = some c ∧ ImpC c d := fun i x y j d hx hy hd => by
      obtain ⟨q1, q2⟩ := hc i x y hx hy
      have : j < x.cells.length := by have := (List.getElem?_eq_some_iff.1 hd).1; omega
      exact ⟨x.cells[j], List.getElem?_eq_getElem this, q2 j _ _ (List.getElem?_eq_getElem this) hd⟩
    rw [hl]
    refine .sl (sz := sz) f (fun hne => hsp (by intro e; subst e; simp at hl; exact hne (List.eq_nil_of_length_eq_zero hl.symm))) (fun i y hy => ?_) (fun i y j d hy hd => ?_) (fun i y j d hy hd => ?_) trivial (by omega)
    · obtain ⟨x, hx⟩ := get i y hy
      rw [← (hc i x y hx hy).1]; exact hsz i x hx
    · obtain ⟨x, hx⟩ := get i y hy
      obtain ⟨c, h1, h2⟩ := getj i x y j d hx hy hd
      exact hC i x j c hx h1
    · obtain ⟨x, hx⟩ := get i y hy
      obtain ⟨c, h1, h2⟩ := getj i x y j d hx hy hd
      exact h2 _ _ _ _ (hR i x j c hx h1)

/-- Nothing of the heap is in it. -/
def Clean (x : AV) : Prop := ImpC x x

theorem clean_v (x : Value) : Clean (.v x) := impC_v x
theorem clean_nsl : Clean .nsl := impC_nsl
theorem clean_agg {cs : List AV} (h : ∀ c ∈ cs, Clean c) : Clean (.agg cs) := impC_agg rfl fun i c d hc hd => by
  rw [hc] at hd; cases hd; exact h c (List.mem_of_getElem? hc)
theorem clean_tup {cs : List AV} (h : ∀ c ∈ cs, Clean c) : Clean (.tup cs) := impC_tup rfl fun i c d hc hd => by
  rw [hc] at hd; cases hd; exact h c (List.mem_of_getElem? hc)
theorem clean_sl {xs : List AV} {t : Tail} (h : ∀ x ∈ xs, ∀ c ∈ x.cells, Clean c) : ImpC (.sl xs t) (.sl xs .no) := impC_sl rfl fun i x y hx hy => by
  rw [hx] at hy
  cases hy
  refine ⟨rfl, fun j c d hc hd => ?_⟩
  rw [hc] at hd
  cases hd
  exact h x (List.mem_of_getElem? hx) c (List.mem_of_getElem? hc)
theorem clean_fn (f : Fn) : Clean (.fn f [] []) := fun C M hp v h => by
  cases h with
  | fn a b c d => exact .fn a b (fun i x y hx => by simp at hx) (fun i x y hx => by simp at hx)

/-- A slice's room forgotten. -/
theorem imp_no {xs : List AV} {t : Tail} : Imp (.sl xs t) (.sl xs .no) := fun C M hp v h => by
  cases h with
  | sl f hsp hsz hC hR hT hcap => exact .sl f hsp hsz hC hR trivial hcap

theorem CallOk.weaken {f : FuncId} {args : List AV} {hp : List Blk} {K K' : AV → List Blk → Prop} (h : CallOk P f args hp K) (hk : ∀ r hp', K r hp' → ∃ r', Imp r r' ∧ K' r' hp') : CallOk P f args hp K' :=
  ⟨h.1, fun base w0 C M w args' hs hr => (h.2 base w0 C M w args' hs hr).mono fun e w' ⟨C', M', hp', r, v', k, he, hle, hsim, hrep⟩ => by
    obtain ⟨r', hi, k'⟩ := hk r hp' k
    exact ⟨C', M', hp', r', v', k', he, hle, hsim, hi _ _ _ _ hrep⟩⟩

/-! Calls that leave all old memory alone. -/

/-- How a value's room lies that may be appended to. -/
def OwnRoom (n : Nat) (C' : Cells) (w w' : World) (len : Nat) (v : Value) : Prop :=
  ∃ a cap, v = .slice (some a) len cap ∧ a.spot = none ∧ w.heap.size ≤ a.block ∧ a.block < w'.heap.size ∧ len ≤ cap ∧ (∀ o, a.off + len * n ≤ o → C' a.block o = none) ∧
    ∀ o, a.off + len * n ≤ o → o < a.off + cap * n → (∃ u, w'.cell? ⟨a.block, o, none⟩ = some u) ∧ w'.frozen? ⟨a.block, o, none⟩ = false

/-- The same, of a slice that may be appended to. -/
def PureOwn (P : Program) (f : FuncId) (args : List AV) (xs : List AV) (n : Nat) : Prop := PureBy P f args (.sl xs .no) fun C' w w' v' => OwnRoom n C' w w' xs.length v'

theorem PureOwn.spec {f : FuncId} {args xs : List AV} {n : Nat} (h : PureOwn P f args xs n) : PureSpec P f args (.sl xs .no) :=
  ⟨h.1, fun C w args' hc hr => (h.2 C w args' hc hr).mono fun e w' ⟨C', v', a, b, c, d, e1, g, _⟩ => ⟨C', v', a, b, c, d, e1, g, trivial⟩⟩

theorem sim_start {C : Cells} {w : World} (h : ∀ b o v, C b o = some v → w.cell? ⟨b, o, none⟩ = some v) : Sim w.heap.size ⟨w, C⟩ C [] [] w :=
  ⟨Below.refl _ _, Nat.le_refl _, fun _ _ _ h _ => h, rfl, h, fun k cs fz L hk => by simp at hk, fun k n s L hk => by simp at hk, fun k k' L L' _ hk => by simp at hk⟩

theorem pure_of {f : FuncId} {args : List AV} {r0 : AV} {K : AV → List Blk → Prop} {More : Cells → World → World → Value → Prop} (h : CallOk P f args [] K) (hk : ∀ r hp', K r hp' → ImpC r r0)
    (hmore : ∀ r hp' C' M' w w' v', K r hp' → Sim w.heap.size ⟨w, C'⟩ C' M' hp' w' ∨ True → (∃ C, Sim w.heap.size ⟨w, C⟩ C' M' hp' w') → Rep C' M' hp' r v' → More C' w w' v') : PureBy P f args r0 More :=
  ⟨h.1, fun C w args' hc hr => (h.2 w.heap.size ⟨w, C⟩ C [] w args' (sim_start hc) hr).mono fun e w' ⟨C', M', hp', r, v', k, he, hle, hsim, hrep⟩ =>
    ⟨C', v', he, hle.C, fun b o v hcv => (Nat.lt_or_ge b w.heap.size).imp (fun hb => hsim.old b o v hcv hb) id, hsim.froz, hsim.below, hk r hp' k _ _ _ _ hrep, hmore r hp' C' M' w w' v' k (Or.inr trivial) ⟨C, hsim⟩ hrep⟩⟩

theorem pureSpec_of {f : FuncId} {args : List AV} {r0 : AV} (h : CallOk P f args [] fun r hp' => ImpC r r0) : PureSpec P f args r0 :=
  pure_of h (fun _ _ h => h) (fun _ _ _ _ _ _ _ _ _ _ _ => trivial)

theorem pureOwn_of {f : FuncId} {args : List AV} {xs : List AV} {n : Nat} (hcl : ∀ x ∈ xs, ∀ c ∈ x.cells, Clean c) (h : CallOk P f args [] fun r hp' => ∃ id, r = .sl xs (.tok id) ∧ hp'[id]? = some (.tok xs.length n)) : PureOwn P f args xs n :=
  pure_of h (fun r hp' ⟨id, e, _⟩ => by subst e; exact clean_sl hcl) (fun r hp' C' M' w w' v' ⟨id, e, hid⟩ _ hsim hrep => by
    subst e
    obtain ⟨C, hsim⟩ := hsim
    cases hrep with
    | sl f hsp hsz hC hR hT hcap =>
      rename_i a cap sz
      obtain ⟨n1, s1, L, q1, q2, q3, q4, q5⟩ := hT
      rw [hid] at q1
      cases q1
      obtain ⟨p1, p2, p3, p4⟩ := q5 rfl
      obtain ⟨t1, t2, t3, t4, t5⟩ := hsim.toks id xs.length n L hid q2
      exact ⟨a, cap, rfl, p1, by rw [p2]; exact t1, by rw [p2]; exact t2, hcap, fun o ho => by rw [p2]; exact t4 o (by omega), fun o ho ho' => by rw [p2]; exact t5 o (by omega) (by omega)⟩)

theorem CallOk.own {f : FuncId} {args args0 xs : List AV} {n : Nat} {hp : List Blk} {K : AV → List Blk → Prop} (h : PureOwn P f args xs n) (hn : ∀ x ∈ xs, x.cells.length = n) (hi : ImpCs args0 args)
    (hk : K (.sl xs (.tok hp.length)) (hp ++ [.tok xs.length n])) : CallOk P f args0 hp K :=
  ⟨h.1, fun base w0 C M w args' hs hr => (h.2 C w args' hs.froz (hi.rep hr)).mono fun e w' ⟨C', v', he, h1, h2, h3, hb, hrep, hown⟩ => by
    obtain ⟨hle, hsim⟩ := sim_pure hs h1 h2 h3 hb
    obtain ⟨a, cap, rfl, p1, p2, p3, p4, p5, p6⟩ := hown
    have hle2 : Le C' M hp C' (M ++ [{ b := a.block, fin := a.off + xs.length * n, cap := a.off + cap * n }]) (hp ++ [.tok xs.length n]) := Le.push _ _ hsim.mlen
    refine ⟨C', M ++ [{ b := a.block, fin := a.off + xs.length * n, cap := a.off + cap * n }], hp ++ [.tok xs.length n], .sl xs (.tok hp.length), _, hk, he, hle.trans hle2, ?_, ?_⟩
    · refine ⟨hsim.below, hsim.basele, hsim.old, by simp [hsim.mlen], hsim.froz, ?_, ?_, ?_⟩
      · intro k cs fz L hk' hM
        rcases push_cases hk' with ⟨hl, hk'⟩ | ⟨_, hk'⟩
        · rcases push_cases hM with ⟨_, hM⟩ | ⟨hl', _⟩
          · obtain ⟨a1, a2, a3, a4⟩ := hsim.cells k cs fz L hk' hM
            refine ⟨a1, a2, fun i c hc => ?_, a4⟩
            obtain ⟨c', b1, b2, b3⟩ := a3 i c hc
            exact ⟨c', b1, b2.mono hle2, b3⟩
          · rw [hsim.mlen] at hl'; omega
        · cases hk'
      · intro k n₁ s₁ L hk' hM
        rcases push_cases hk' with ⟨hl, hk'⟩ | ⟨hl, hk'⟩
        · rcases push_cases hM with ⟨_, hM⟩ | ⟨hl', _⟩
          · exact hsim.toks k n₁ s₁ L hk' hM
          · rw [hsim.mlen] at hl'; omega
        · cases hk'
          rcases push_cases hM with ⟨hl', _⟩ | ⟨_, rfl⟩
          · rw [hsim.mlen] at hl'; omega
          · exact ⟨Nat.le_trans hs.basew p2, p3, Nat.add_le_add_left (Nat.mul_le_mul_right n p4) _, p5, p6⟩
      · intro k k' L L' hne hM hM'
        have small : ∀ {k : Nat} {L : Loc}, M[k]? = some L → L.b < w.heap.size := fun hM => (hs.at hM).1
        rcases push_cases hM with ⟨_, hM⟩ | ⟨e1, rfl⟩ <;> rcases push_cases hM' with ⟨_, hM'⟩ | ⟨e2, rfl⟩
        · exact hsim.apart k k' L L' hne hM hM'
        · have := small hM; show L.b ≠ a.block; omega
        · have := small hM'; show a.block ≠ L'.b; omega
        · omega
    · cases hrep with
      | sl f hsp hsz hC hR hT hcap =>
        rename_i sz
        refine .sl f hsp hsz hC (fun i x j c hx hc => (hR i x j c hx hc).mono le_nil) ?_ hcap
        refine ⟨xs.length, n, { b := a.block, fin := a.off + xs.length * n, cap := a.off + cap * n }, by simp, by rw [← hsim.mlen]; simp, Nat.le_refl _, ?_, fun _ => ⟨p1, rfl, rfl, rfl⟩⟩
        cases xs with
        | nil => exact Or.inl rfl
        | cons x r => exact Or.inr (by rw [← hsz 0 x rfl]; exact hn x (by simp))⟩

end
end Go.Abs
