/- What the kernel computed is what the code does. No condition. -/
import Derived.Test.YtbcmdjlgdnippaaGreatDoorX3
set_option linter.unusedVariables false
set_option linter.unusedSimpArgs false
namespace Go.Abs
open Go.RowKit

section
variable {G : Cells} {P : Program}

theorem instrE_mono {i : SInstr} {F F' : Hid (AV → List Blk → Prop)} {E E' : Hid PanT} {e : Env} {hp : List Blk} (h : @instrE G P i F E e hp) (hF : ∀ v hp, F.v v hp → F'.v v hp) (hE : ∀ ch hp, E.v ch hp → E'.v ch hp) : @instrE G P i F' E' e hp := by
  cases i with
  | op o => obtain ⟨v, h1, h2⟩ := h; exact ⟨v, h1, hF _ _ h2⟩
  | call f args => obtain ⟨az, h1, h2⟩ := h; exact ⟨az, h1, CallOk.mono h2 hF⟩
  | callv x args =>
    obtain ⟨x', h0, az, h1, h2⟩ := h
    exact ⟨x', h0, az, h1, CallV.mono h2 hF⟩
  | pcall f args => obtain ⟨az, h1, bs, r', h2, h3, h4⟩ := h; exact ⟨az, h1, bs, r', h2, h3, hF _ _ h4⟩
  | pcallr f args r => obtain ⟨az, h1, bs, h2, h3, h4⟩ := h; exact ⟨az, h1, bs, h2, h3, hF _ _ h4⟩
  | callp f args => obtain ⟨az, h1, h2⟩ := h; exact ⟨az, h1, CallP.mono h2 hF hE⟩
  | callvp x args =>
    obtain ⟨x', h0, az, h1, h2⟩ := h
    exact ⟨x', h0, az, h1, CallVP.mono h2 hF hE⟩
  | pan x => obtain ⟨v, h1, h2⟩ := h; exact ⟨v, h1, hE _ _ h2⟩

theorem guardE_mono {w : Bool} {v : AV} {A B A' B' : Hid Prop} (h : @guardE w v A B) (h1 : A.v → A'.v) (h2 : B.v → B'.v) : @guardE w v A' B' := by
  unfold guardE at h ⊢
  split at h
  · cases w with
    | true => exact ⟨fun q => h1 (h.1 q), fun q => h2 (h.2 q)⟩
    | false => exact ⟨fun q => h2 (h.1 q), fun q => h1 (h.2 q)⟩
  · exact h2 h
  · exact h.elim

theorem RunE_mono : ∀ {l : List SOper} {K K' : Hid (Env → List Blk → Prop)} {E E' : Hid PanT} {e : Env} {hp : List Blk}, @RunE G P l K E e hp → (∀ e hp, K.v e hp → K'.v e hp) → (∀ ch hp, E.v ch hp → E'.v ch hp) → @RunE G P l K' E' e hp
  | [], K, K', E, E', e, hp, h, hk, hE => by rw [RunE_nil] at h ⊢; exact hk _ _ h
  | ⟨d, g, i⟩ :: r, K, K', E, E', e, hp, h, hk, hE => by
    rcases g with _ | ⟨k, w⟩
    · rw [RunE_op] at h ⊢; exact instrE_mono h (fun v hp' q => RunE_mono q hk hE) hE
    · rw [RunE_gd] at h ⊢; obtain ⟨g, h1, h2⟩ := h; exact ⟨g, h1, guardE_mono h2 (fun q => instrE_mono q (fun v hp' q => RunE_mono q hk hE) hE) fun q => RunE_mono q hk hE⟩

theorem RunW_mono : ∀ {l : List (SOper × List SOper)} {K K' : Hid (Env → List Blk → Prop)} {E E' : Hid PanT} {e : Env} {hp : List Blk}, @RunW G P l K E e hp → (∀ e hp, K.v e hp → K'.v e hp) → (∀ ch hp, E.v ch hp → E'.v ch hp) → @RunW G P l K' E' e hp
  | [], K, K', E, E', e, hp, h, hk, hE => by rw [RunW_nil] at h ⊢; exact hk _ _ h
  | (o, cs) :: r, K, K', E, E', e, hp, h, hk, hE => by
    rw [RunW_op] at h ⊢
    exact RunE_mono h (fun e hp k => ⟨k.1, RunW_mono k.2 hk hE⟩) hE

/-- Active loops are what they are said to be. -/
def LamOk (G : Cells) (P : Program) (Λ : Lam) (hp : List Blk) : Prop := ∀ k rc, (k, rc) ∈ Λ → ∃ ats ok st pd, hp[k]? = some (.loopb st pd ats rc.ps.toArray ok) ∧
  RoundOk G P k ats rc.ps ok (fun Q e hp => @wpE G P true rc.a ⟨Q⟩ e hp) (fun Q e hp => @wpE G P true rc.b ⟨Q⟩ e hp) rc.e

theorem LamOk.keeps {Λ : Lam} {hp hp' : List Blk} (h : LamOk G P Λ hp) (hk : Keeps hp hp') : LamOk G P Λ hp' := fun k rc hm => by
  obtain ⟨ats, ok, st, pd, h1, h2⟩ := h k rc hm
  obtain ⟨st', pd', h3⟩ := hk _ _ _ _ _ _ h1
  exact ⟨ats, ok, st', pd', h3, h2⟩
theorem lamOk_nil {hp : List Blk} : LamOk G P [] hp := fun k rc hm => by cases hm

def CvOk (G : Cells) (P : Program) (cv : Cv) : Prop := ∀ Λ x args hp k r, LamOk G P Λ hp → cv Λ x args (R (hp.map er)) k = some r →
  ((∀ ch h, k (.pan ch) h = none) → CallV G P x args hp fun v hp' => k (.val v) (R (hp'.map er)) = some r ∧ Keeps hp hp') ∧
  (∀ f fs cs, x = .fn (.func f) fs cs → CallP G P f (fs ++ args ++ cs) hp (fun v hp' => k (.val v) (R (hp'.map er)) = some r ∧ Keeps hp hp') fun ch hp' => k (.pan ch) (R (hp'.map er)) = some r ∧ Keeps hp hp')

theorem fzA_er {hp : List Blk} : ∀ {n : Nat} {x r : AV}, fzA (hp.map er) n x = some r → fzA hp n x = some r
  | 0, x, r, h => by cases h
  | n + 1, x, r, h => by
    have mp : ∀ {l : List AV} {m : List AV}, mapO (fzA (hp.map er) n) l = some m → mapO (fzA hp n) l = some m := by
      intro l
      induction l with
      | nil => intro m h; exact h
      | cons a l ih =>
        intro m h
        simp only [mapO] at h ⊢
        split at h
        · rename_i y hy
          rw [fzA_er hy]
          simp only
          split at h
          · rename_i l' hl
            rw [ih hl]
            exact h
          · cases h
        · cases h
    have mp' : ∀ {l : List AV} {g : List AV → AV} {y : AV}, (mapO (fzA (hp.map er) n) l).map g = some y → (mapO (fzA hp n) l).map g = some y := by
      intro l g y h
      rw [Option.map_eq_some_iff] at h ⊢
      obtain ⟨m, h1, h2⟩ := h
      exact ⟨m, mp h1, h2⟩
    unfold fzA at h ⊢
    cases x <;> simp only at h ⊢
    case v => exact h
    case nsl => exact h
    case agg => exact mp' h
    case tup => exact mp' h
    case sl => exact mp' h
    case fp => exact mp' h
    case ifc t x =>
      rw [Option.map_eq_some_iff] at h ⊢
      obtain ⟨y, h1, h2⟩ := h
      exact ⟨y, fzA_er h1, h2⟩
    case fn f a b =>
      simp only [Option.bind_eq_some_iff] at h ⊢
      obtain ⟨a', h1, h2⟩ := h
      exact ⟨a', mp h1, mp' h2⟩
    case mp k off =>
      split at h
      · rename_i cs hk; rw [er_cells hk]; exact mp' h
      · cases h
    case rp k m off =>
      split at h
      · rename_i cs hk
        rw [er_cells hk]
        simp only
        split at h
        · rename_i hc; rw [if_pos hc]; exact mp' h
        · cases h
      · cases h
    case rs k m sz off len =>
      split at h
      · rename_i cs hk
        rw [er_cells hk]
        simp only
        split at h
        · rename_i hc; rw [if_pos hc]; exact mp' h
        · cases h
      · cases h
    all_goals cases h

theorem callV_fn {f : FuncId} {fs cs args : List AV} {hp : List Blk} {K : AV → List Blk → Prop} : CallV G P (.fn (.func f) fs cs) args hp K = CallOk G P f (fs ++ args ++ cs) hp K := rfl

theorem valK_pan {k : AV → RH → Option AV} : ∀ ch h, valK k (.pan ch) h = none := fun _ _ => rfl

theorem pureC_ok {cv : Cv} (hcv : CvOk G P cv) {f : FuncId} {az : List AV} {v : AV} (h : pureC cv f az = some v) : ∃ bs, ImpCs az bs ∧ PureSpec G P f bs v := by
  unfold pureC at h
  split at h
  · rename_i bs hbs
    refine ⟨bs, fz_impCs hbs, pureSpec_close ?_⟩
    have := (hcv [] (.fn (.func f) [] []) bs [] _ v lamOk_nil h).1 fun _ _ => rfl
    rw [callV_fn, List.nil_append, List.append_nil] at this
    exact CallOk.mono this fun r hp' k => ⟨64, fzA_er (by have := k.1; rw [toL_R] at this; exact this)⟩
  · cases h

variable {cv : Cv} (hcv : CvOk G P cv)
include hcv

theorem insX_ok {i : SInstr} {Λ : Lam} {e : Env} {hp : List Blk} {k : OutK} {r : AV} (hΛ : LamOk G P Λ hp) (h : insX i cv Λ e (R (hp.map er)) k = some r) :
    @instrE G P i ⟨fun v hp' => k (.val v) (R (hp'.map er)) = some r ∧ Keeps hp hp'⟩ ⟨fun ch hp' => k (.pan ch) (R (hp'.map er)) = some r ∧ Keeps hp hp'⟩ e hp := by
  cases i with
  | op o =>
    simp only [insX, opX_eq, Option.bind_eq_some_iff] at h
    obtain ⟨⟨v, hE⟩, h1, h2⟩ := h
    obtain ⟨hp', q1, rfl, q3⟩ := cm_step hp v hE h1
    exact ⟨(v, hp'), q1, h2, q3⟩
  | call f args =>
    simp only [insX, getsX_eq, Option.bind_eq_some_iff] at h
    obtain ⟨az, h1, h2⟩ := h
    have := (hcv Λ _ az hp _ r hΛ h2).1 valK_pan
    rw [callV_fn, List.nil_append, List.append_nil] at this
    exact ⟨az, h1, this⟩
  | callv x args =>
    simp only [insX, getX_eq, getsX_eq, Option.bind_eq_some_iff] at h
    obtain ⟨x', h0, az, h1, h2⟩ := h
    exact ⟨x', h0, az, h1, (hcv Λ _ az hp _ r hΛ h2).1 valK_pan⟩
  | pcall f args =>
    simp only [insX, getsX_eq, Option.bind_eq_some_iff] at h
    obtain ⟨az, h1, h2⟩ := h
    split at h2
    · rename_i v hv
      rw [forceA_eq] at h2
      obtain ⟨bs, q1, q2⟩ := pureC_ok hcv hv
      exact ⟨az, h1, bs, v, q1, q2, h2, Keeps.refl hp⟩
    · cases h2
  | pcallr f args r' =>
    simp only [insX, getsX_eq, Option.bind_eq_some_iff] at h
    obtain ⟨az, h1, h2⟩ := h
    split at h2
    · rename_i v hv
      rw [forceA_eq] at h2
      obtain ⟨bs, q1, q2⟩ := pureC_ok hcv hv
      split at h2
      · rename_i heq
        have := eqA_ok heq
        subst this
        exact ⟨az, h1, bs, q1, q2, h2, Keeps.refl hp⟩
      · cases h2
    · cases h2
  | callp f args =>
    simp only [insX, getsX_eq, Option.bind_eq_some_iff] at h
    obtain ⟨az, h1, h2⟩ := h
    have := (hcv Λ _ az hp _ r hΛ h2).2 f [] [] rfl
    rw [List.nil_append, List.append_nil] at this
    exact ⟨az, h1, this⟩
  | callvp x args =>
    simp only [insX, getX_eq, Option.bind_eq_some_iff] at h
    obtain ⟨x', h0, h2⟩ := h
    split at h2
    · rename_i f fs cs
      simp only [getsX_eq, Option.bind_eq_some_iff] at h2
      obtain ⟨az, h1, h2⟩ := h2
      exact ⟨_, h0, az, h1, (hcv Λ _ az hp _ r hΛ h2).2 f fs cs rfl⟩
    · cases h2
  | pan x =>
    simp only [insX, getX_eq, Option.bind_eq_some_iff] at h
    obtain ⟨x', h0, h2⟩ := h
    split at h2
    · rename_i v hv
      exact ⟨v, by rw [h0]; exact hv, h2, Keeps.refl hp⟩
    · cases h2

theorem soX_ok {o : SOper} {Λ : Lam} {e : Env} {hp : List Blk} {next : OpsT} {kn : Env → RH → Option AV} {kp : List PanicEntry → RH → Option AV} {r : AV} {l : List SOper} {K : Hid (Env → List Blk → Prop)} {E : Hid PanT} (hΛ : LamOk G P Λ hp) (h : soX o next cv Λ e (R (hp.map er)) kn kp = some r)
    (hn : ∀ e hp', Keeps hp hp' → next cv Λ e (R (hp'.map er)) kn kp = some r → @RunE G P l K E e hp') (hE : ∀ ch hp', Keeps hp hp' → kp ch (R (hp'.map er)) = some r → E.v ch hp') : @RunE G P (o :: l) K E e hp := by
  obtain ⟨d, g, i⟩ := o
  have yes : insX i cv Λ e (R (hp.map er)) (fun o h' => nextX d next o cv Λ e h' kn kp) = some r → @instrE G P i ⟨fun v hp' => @RunE G P l K E (putE d v e) hp'⟩ E e hp := fun q => by
    refine instrE_mono (insX_ok hcv hΛ q) (fun v hp' ⟨k1, k2⟩ => ?_) fun ch hp' ⟨k1, k2⟩ => hE ch hp' k2 (by cases d <;> exact k1)
    refine hn _ hp' k2 ?_
    cases d <;> exact k1
  cases g with
  | none => rw [RunE_op]; exact yes h
  | some gw =>
    obtain ⟨g, w⟩ := gw
    rw [RunE_gd]
    simp only [soX, elookK_eq, Option.bind_eq_some_iff] at h
    obtain ⟨v, h1, h2⟩ := h
    refine ⟨v, h1, ?_⟩
    dsimp only
    split at h2
    · rename_i b
      cases hx : Bool.xor b w with
      | false =>
        rw [hx] at h2
        have hb : b = w := by cases b <;> cases w <;> first | rfl | cases hx
        subst hb
        cases b with
        | true => exact ⟨fun _ => yes h2, nofun⟩
        | false => exact ⟨nofun, fun _ => yes h2⟩
      | true =>
        rw [hx] at h2
        have no := hn _ hp (Keeps.refl hp) h2
        cases b <;> cases w <;> first | (cases hx; done) | skip
        · exact ⟨nofun, fun _ => no⟩
        · exact ⟨fun _ => no, nofun⟩
    · exact hn _ hp (Keeps.refl hp) h2
    · cases h2

theorem opsX_ok : ∀ {l : List SOper} {Λ : Lam} {e : Env} {hp : List Blk} {kn : Env → RH → Option AV} {kp : List PanicEntry → RH → Option AV} {r : AV}, LamOk G P Λ hp → opsX l cv Λ e (R (hp.map er)) kn kp = some r →
    @RunE G P l ⟨fun e' hp' => kn e' (R (hp'.map er)) = some r ∧ Keeps hp hp'⟩ ⟨fun ch hp' => kp ch (R (hp'.map er)) = some r ∧ Keeps hp hp'⟩ e hp
  | [], Λ, e, hp, kn, kp, r, hΛ, h => by rw [RunE_nil]; exact ⟨h, Keeps.refl hp⟩
  | o :: l, Λ, e, hp, kn, kp, r, hΛ, h => by
    refine soX_ok hcv (next := opsX l) hΛ h (fun e hp' hk q => ?_) fun ch hp' hk q => ⟨q, hk⟩
    exact RunE_mono (opsX_ok (hΛ.keeps hk) q) (fun e hp2 k => ⟨k.1, hk.trans k.2⟩) fun ch hp2 k => ⟨k.1, hk.trans k.2⟩

omit hcv in
theorem recB_ok {c : SOper} {e : Env} {hp : List Blk} (h : recB c e (R (hp.map er)) = true) : recE c e hp := by
  unfold recB at h
  unfold recE
  split at h
  · rename_i o d hi hd
    have yes : (match elook e d, opX o e (R (hp.map er)) fun u _ => some u with | some v, some u => eqA 64 u v | _, _ => false) = true → @withA _ (elook e d) ⟨fun v => @withA _ (astepE e hp o) ⟨fun r => r.1 = v⟩⟩ := fun q => by
      split at q
      · rename_i v u hv hu
        rw [opX_eq, Option.bind_eq_some_iff] at hu
        obtain ⟨⟨u', hE⟩, hu, h3⟩ := hu
        cases h3
        obtain ⟨hp', q1, _, _⟩ := cm_step hp _ hE hu
        exact ⟨v, hv, (_, hp'), q1, eqA_ok q⟩
      · cases q
    rw [hi, hd]
    simp only
    unfold guardB at h
    split at h
    · rename_i hg
      split at hg
      · rename_i hc; rw [hc]; exact yes h
      · rename_i k w hc
        rw [hc]
        split at hg
        · rename_i b hk
          simp only [Option.some.injEq, beq_iff_eq] at hg
          subst hg
          refine ⟨_, hk, ?_⟩
          cases b with
          | true => exact ⟨fun _ => yes h, nofun⟩
          | false => exact ⟨nofun, fun _ => yes h⟩
        · cases hg
        · cases hg
    · rename_i hg
      have no : @withA _ (elook e d) ⟨fun v => v = undefA⟩ := by
        split at h
        · rename_i v hv; exact ⟨v, hv, eqA_ok h⟩
        · cases h
      split at hg
      · cases hg
      · rename_i k w hc
        rw [hc]
        split at hg
        · rename_i b hk
          simp only [Option.some.injEq, beq_eq_false_iff_ne, ne_eq] at hg
          refine ⟨_, hk, ?_⟩
          cases b <;> cases w <;> first | (exact (hg rfl).elim) | skip
          · exact ⟨nofun, fun _ => no⟩
          · exact ⟨fun _ => no, nofun⟩
        · rename_i hk
          exact ⟨_, hk, no⟩
        · cases hg
    · cases h
  · cases h

theorem opsWX_ok : ∀ {l : List (SOper × List SOper)} {Λ : Lam} {e : Env} {hp : List Blk} {kn : Env → RH → Option AV} {kp : List PanicEntry → RH → Option AV} {r : AV}, LamOk G P Λ hp → opsWX l cv Λ e (R (hp.map er)) kn kp = some r →
    @RunW G P l ⟨fun e' hp' => kn e' (R (hp'.map er)) = some r ∧ Keeps hp hp'⟩ ⟨fun ch hp' => kp ch (R (hp'.map er)) = some r ∧ Keeps hp hp'⟩ e hp
  | [], Λ, e, hp, kn, kp, r, hΛ, h => by rw [RunW_nil]; exact ⟨h, Keeps.refl hp⟩
  | (o, cs) :: l, Λ, e, hp, kn, kp, r, hΛ, h => by
    rw [RunW_op]
    refine soX_ok hcv (next := fun cv Λ e h k kp => match cs.all (fun c => recB c e h) with
      | true => opsWX l cv Λ e h k kp
      | false => none) hΛ h (fun e hp' hk q => ?_) fun ch hp' hk q => ⟨q, hk⟩
    rw [RunE_nil]
    dsimp only at q ⊢
    split at q
    · rename_i hall
      refine ⟨?_, RunW_mono (opsWX_ok (hΛ.keeps hk) q) (fun e hp2 k => ⟨k.1, hk.trans k.2⟩) fun ch hp2 k => ⟨k.1, hk.trans k.2⟩⟩
      clear q h
      induction cs with
      | nil => trivial
      | cons c cs ih =>
        simp only [List.all_cons, Bool.and_eq_true] at hall
        exact ⟨recB_ok hall.1, ih hall.2⟩
    · cases q

omit hcv in
theorem loopN_ok {a : TC} {nest : Bool} {f : Env → RH → ExK → Option AV} {r : AV} {k : ExK} {hp0 : List Blk} {Λ : Lam} (hΛ : LamOk G P Λ hp0) (hf : ∀ e hp k, LamOk G P Λ hp → f e (R (hp.map er)) k = some r → @wpE G P nest a ⟨fun x e' hp' => k x e' (R (hp'.map er)) = some r ∧ Keeps hp hp'⟩ e hp)
    {m : Nat} {e : Env} {hp : List Blk} (hk : Keeps hp0 hp) (h : loopN f m e (R (hp.map er)) k = some r) : @wpE G P nest (.loop a) ⟨fun x e' hp' => k x e' (R (hp'.map er)) = some r ∧ Keeps hp0 hp'⟩ e hp := by
  rw [wpE_loop]
  refine ⟨fun m e hp => loopN f m e (R (hp.map er)) k = some r ∧ Keeps hp0 hp, m, ⟨h, hk⟩, fun m e hp ⟨h1, h2⟩ => ?_⟩
  cases m with
  | zero => cases h1
  | succ m =>
    refine wpE_mono (hf e hp _ (hΛ.keeps h2) h1) fun x e' hp' ⟨k1, k2⟩ => ?_
    cases x with
    | normal => exact ⟨m, Nat.lt_succ_self m, k1, h2.trans k2⟩
    | _ => exact ⟨k1, h2.trans k2⟩

omit hcv in
theorem keeps_setLoop {hp : List Blk} {k : Nat} {st st' : LoopState} {pd pd' : Option Code} {ats : List AV} {ps : Array Tmp} {ok : Code → Code → Prop} (hk : hp[k]? = some (.loopb st pd ats ps ok)) : Keeps hp (hp.set k (.loopb st' pd' ats ps ok)) := fun j st1 pd1 ats1 ps1 ok1 h => by
  by_cases e : k = j
  · subst e
    rw [hk] at h
    cases h
    exact ⟨st', pd', List.getElem?_set_self (List.getElem?_eq_some_iff.1 hk).1⟩
  · exact ⟨st1, pd1, by rw [List.getElem?_set_ne e]; exact h⟩

omit hcv in
theorem er_setLoop {hp : List Blk} {k : Nat} {st : LoopState} {pd : Option Code} {ats : List AV} {ps : Array Tmp} {ok : Code → Code → Prop} : (hp.set k (.loopb st pd ats ps ok)).map er = (hp.map er).set k (lbE st (match st with | .busy => none | _ => pd)) := by
  rw [List.map_set]; rfl

theorem codeX_ok {lf : Nat} : ∀ {c : TC} {nest : Bool} {Λ : Lam} {e : Env} {hp : List Blk} {k : ExK} {r : AV}, LamOk G P Λ hp → codeX c cv lf nest Λ e (R (hp.map er)) k = some r →
    @wpE G P nest c ⟨fun x e' hp' => k x e' (R (hp'.map er)) = some r ∧ Keeps hp hp'⟩ e hp := by
  intro c
  induction c with
  | skip L => intro nest Λ e hp k r hΛ h; rw [wpE_skip]; simp only [codeX_skip, codeX_skipF, codeX_region, codeX_regionF, codeX_seq, codeX_seqF, codeX_cond, codeX_condF, codeX_block, codeX_blockF, codeX_exit, codeX_exitF, codeX_ret, codeX_retF, codeX_rangeF, codeX_rangeFF, codeX_region2, codeX_region2F, codeX_regionW, codeX_regionWF, codeX_scope, codeX_scopeF, codeX_lab, codeX_labF, onlyK_eq] at h; exact ⟨h, Keeps.refl hp⟩
  | lab L => intro nest Λ e hp k r hΛ h; rw [wpE_lab]; simp only [codeX_skip, codeX_skipF, codeX_region, codeX_regionF, codeX_seq, codeX_seqF, codeX_cond, codeX_condF, codeX_block, codeX_blockF, codeX_exit, codeX_exitF, codeX_ret, codeX_retF, codeX_rangeF, codeX_rangeFF, codeX_region2, codeX_region2F, codeX_regionW, codeX_regionWF, codeX_scope, codeX_scopeF, codeX_lab, codeX_labF, onlyK_eq] at h; exact ⟨h, Keeps.refl hp⟩
  | bad => intro nest Λ e hp k r hΛ h; cases h
  | exit id L => intro nest Λ e hp k r hΛ h; rw [wpE_exit]; simp only [codeX_skip, codeX_skipF, codeX_region, codeX_regionF, codeX_seq, codeX_seqF, codeX_cond, codeX_condF, codeX_block, codeX_blockF, codeX_exit, codeX_exitF, codeX_ret, codeX_retF, codeX_rangeF, codeX_rangeFF, codeX_region2, codeX_region2F, codeX_regionW, codeX_regionWF, codeX_scope, codeX_scopeF, codeX_lab, codeX_labF, onlyK_eq] at h; exact ⟨h, Keeps.refl hp⟩
  | ret L => intro nest Λ e hp k r hΛ h; rw [wpE_ret]; simp only [codeX_skip, codeX_skipF, codeX_region, codeX_regionF, codeX_seq, codeX_seqF, codeX_cond, codeX_condF, codeX_block, codeX_blockF, codeX_exit, codeX_exitF, codeX_ret, codeX_retF, codeX_rangeF, codeX_rangeFF, codeX_region2, codeX_region2F, codeX_regionW, codeX_regionWF, codeX_scope, codeX_scopeF, codeX_lab, codeX_labF, onlyK_eq] at h; exact ⟨h, Keeps.refl hp⟩
  | region ops L =>
    intro nest Λ e hp k r hΛ h
    rw [wpE_region]
    simp only [codeX_skip, codeX_skipF, codeX_region, codeX_regionF, codeX_seq, codeX_seqF, codeX_cond, codeX_condF, codeX_block, codeX_blockF, codeX_exit, codeX_exitF, codeX_ret, codeX_retF, codeX_rangeF, codeX_rangeFF, codeX_region2, codeX_region2F, codeX_regionW, codeX_regionWF, codeX_scope, codeX_scopeF, codeX_lab, codeX_labF, onlyK_eq] at h
    exact opsX_ok hcv hΛ h
  | regionW l L =>
    intro nest Λ e hp k r hΛ h
    rw [wpE_regionW]
    simp only [codeX_skip, codeX_skipF, codeX_region, codeX_regionF, codeX_seq, codeX_seqF, codeX_cond, codeX_condF, codeX_block, codeX_blockF, codeX_exit, codeX_exitF, codeX_ret, codeX_retF, codeX_rangeF, codeX_rangeFF, codeX_region2, codeX_region2F, codeX_regionW, codeX_regionWF, codeX_scope, codeX_scopeF, codeX_lab, codeX_labF, onlyK_eq] at h
    exact opsWX_ok hcv hΛ h
  | region2 ls L =>
    intro nest Λ e hp k r hΛ h
    rw [wpE_region2]
    cases ls with
    | nil => cases h
    | cons l0 ls =>
      simp only [codeX_skip, codeX_skipF, codeX_region, codeX_regionF, codeX_seq, codeX_seqF, codeX_cond, codeX_condF, codeX_block, codeX_blockF, codeX_exit, codeX_exitF, codeX_ret, codeX_retF, codeX_rangeF, codeX_rangeFF, codeX_region2, codeX_region2F, codeX_regionW, codeX_regionWF, codeX_scope, codeX_scopeF, codeX_lab, codeX_labF, onlyK_eq] at h
      split at h
      · rename_i t _
        split at h
        · rename_i x hx
          split at h
          · rename_i hall
            cases h
            refine ⟨told t, fun l hl => ?_⟩
            rw [List.mem_cons] at hl
            rcases hl with rfl | hl
            · exact opsX_ok hcv hΛ hx
            · have := List.all_eq_true.1 hall l hl
              split at this
              · rename_i y hy
                rw [← eqA_ok this] at hy
                exact opsX_ok hcv hΛ hy
              · cases this
          · cases h
        · cases h
      · cases h
  | seq a b iha ihb =>
    intro nest Λ e hp k r hΛ h
    rw [wpE_seq]
    simp only [codeX_seq, codeX_seqF, codeX_block, codeX_blockF, codeX_scope, codeX_scopeF] at h
    refine wpE_mono (iha hΛ h) fun x e' hp' ⟨k1, k2⟩ => ?_
    cases x with
    | normal => exact wpE_mono (ihb (hΛ.keeps k2) k1) fun x e2 hp2 ⟨q1, q2⟩ => ⟨q1, k2.trans q2⟩
    | _ => exact ⟨k1, k2⟩
  | cond c a b iha ihb =>
    intro nest Λ e hp k r hΛ h
    rw [wpE_cond]
    simp only [codeX_skip, codeX_skipF, codeX_region, codeX_regionF, codeX_seq, codeX_seqF, codeX_cond, codeX_condF, codeX_block, codeX_blockF, codeX_exit, codeX_exitF, codeX_ret, codeX_retF, codeX_rangeF, codeX_rangeFF, codeX_region2, codeX_region2F, codeX_regionW, codeX_regionWF, codeX_scope, codeX_scopeF, codeX_lab, codeX_labF, getX_eq, Option.bind_eq_some_iff] at h
    obtain ⟨v, h1, h2⟩ := h
    refine ⟨v, h1, ?_⟩
    dsimp only
    split at h2
    · exact ⟨fun _ => iha hΛ h2, nofun⟩
    · exact ⟨nofun, fun _ => ihb hΛ h2⟩
    · cases h2
  | block id a iha =>
    intro nest Λ e hp k r hΛ h
    rw [wpE_block]
    simp only [codeX_seq, codeX_seqF, codeX_block, codeX_blockF, codeX_scope, codeX_scopeF] at h
    refine wpE_mono (iha hΛ h) fun x e' hp' ⟨k1, k2⟩ => ?_
    cases x with
    | exit id' =>
      simp only [blkQ]
      dsimp only at k1
      split at k1
      · rename_i hq
        rw [if_pos (Nat.eq_of_beq_eq_true hq)]
        exact ⟨k1, k2⟩
      · rename_i hq
        rw [if_neg (fun q => by subst q; rw [Nat.beq_refl] at hq; cases hq)]
        exact ⟨k1, k2⟩
    | _ => exact ⟨k1, k2⟩
  | scope a iha =>
    intro nest Λ e hp k r hΛ h
    rw [wpE_scope]
    simp only [codeX_seq, codeX_seqF, codeX_block, codeX_blockF, codeX_scope, codeX_scopeF] at h
    refine wpE_mono (iha hΛ h) fun x e' hp' ⟨k1, k2⟩ => ?_
    cases x with
    | goto l => cases k1
    | _ => exact ⟨k1, k2⟩
  | loop a iha =>
    intro nest Λ e hp k r hΛ h
    exact loopN_ok hΛ (fun e hp k hΛ h => iha hΛ h) (Keeps.refl hp) h
  | rangeF x ps a b L iha ihb =>
    intro nest Λ e hp k r hΛ h
    rw [wpE_range]
    simp only [codeX_skip, codeX_skipF, codeX_region, codeX_regionF, codeX_seq, codeX_seqF, codeX_cond, codeX_condF, codeX_block, codeX_blockF, codeX_exit, codeX_exitF, codeX_ret, codeX_retF, codeX_rangeF, codeX_rangeFF, codeX_region2, codeX_region2F, codeX_regionW, codeX_regionWF, codeX_scope, codeX_scopeF, codeX_lab, codeX_labF, getX_eq, Option.bind_eq_some_iff] at h
    obtain ⟨v, h1, h2⟩ := h
    split at h2
    · rename_i g fs cs
      refine ⟨g, fs, cs, h1, fun k0 hk0 ats ok hR => ?_⟩
      have hmk : hp.map er ++ (if nest = true then [] else [.obj (.deferred none)]) = (hp ++ marks nest).map er := by
        rw [List.map_append]
        cases nest <;> rfl
      have hlb : (hp ++ marks nest).map er ++ [lbE .ready none] = (hp ++ marks nest ++ [Blk.loopb .ready none ats ps.toArray ok]).map er := by
        rw [List.map_append (l₁ := hp ++ marks nest)]; rfl
      have h2 : cv ((k0, ⟨ps, a, b, e⟩) :: Λ) (.fn (.func g) [] []) (fs ++ [.yd k0] ++ cs) (R ((hp ++ marks nest ++ [Blk.loopb .ready none ats ps.toArray ok]).map er)) (valK fun _ h' => rangeK k0 L e k h') = some r := by
        have rn : ∀ H, (R H).n = H.length := fun _ => rfl
        rw [← hlb, ← hmk]
        cases nest with
        | true =>
          simp only [pushR_eq, forceN_eq, rn] at h2
          simp only [marks, if_true, List.append_nil] at hk0 ⊢
          rw [List.length_map, ← hk0] at h2
          exact h2
        | false =>
          simp only [pushR_eq, forceN_eq, rn] at h2
          simp only [marks, Bool.false_eq_true, if_false] at hk0 ⊢
          rw [List.length_append, List.length_map, List.length_singleton] at h2
          rw [List.length_append, List.length_singleton] at hk0
          rw [← hk0] at h2
          exact h2
      have hat : (hp ++ marks nest ++ [Blk.loopb .ready none ats ps.toArray ok])[k0]? = some (.loopb .ready none ats ps.toArray ok) := by
        rw [hk0, List.getElem?_append_right (Nat.le_refl _), Nat.sub_self]; rfl
      have hΛ' : LamOk G P ((k0, ⟨ps, a, b, e⟩) :: Λ) (hp ++ marks nest ++ [Blk.loopb .ready none ats ps.toArray ok]) := fun j rc hm => by
        rcases List.mem_cons.1 hm with hm | hm
        · cases hm
          exact ⟨ats, ok, .ready, none, hat, hR⟩
        · exact (hΛ.keeps (keeps_push.trans keeps_push)) j rc hm
      have := (hcv _ _ _ _ _ r hΛ' h2).1 valK_pan
      rw [callV_fn, List.nil_append, List.append_nil] at this
      refine CallOk.mono this fun v hp' ⟨q1, q2⟩ => ?_
      obtain ⟨st, pd, hst⟩ := q2 _ _ _ _ _ _ hat
      refine ⟨st, pd, hst, ?_⟩
      have he : (hp'.map er)[k0]? = some (er (.loopb st pd ats ps.toArray ok)) := by rw [List.getElem?_map, hst]; rfl
      simp only [valK, rangeK, nthR_eq, he, er, Option.bind_some] at q1
      have hkk : Keeps hp (hp'.set k0 (.loopb .exhausted pd ats ps.toArray ok)) := (keeps_push.trans keeps_push).trans (q2.trans (keeps_setLoop hst))
      have hse : (hp'.set k0 (.loopb .exhausted pd ats ps.toArray ok)).map er = (hp'.map er).set k0 (lbE .exhausted pd) := er_setLoop
      cases st <;> simp only [reduceCtorEq, ne_eq, not_false_eq_true, not_true_eq_false, true_and, false_and] at q1 ⊢
      all_goals
        rw [updR_set, he] at q1
        simp only [Option.bind_some] at q1
        rw [← hse] at q1
        cases pd with
        | none => simp only [onlyK_eq] at q1; exact ⟨q1, hkk⟩
        | some c =>
          cases c with
          | ret => simp only [onlyK_eq] at q1; exact ⟨q1, hkk⟩
          | exit id => simp only [onlyK_eq] at q1; exact ⟨q1, hkk⟩
          | _ => cases q1
    · cases h2

end
end Go.Abs
