/- What the kernel computed of functions is what they do. No condition. -/
import Derived.Test.YtbcmdjlgdnippaaGreatDoorX4
set_option linter.unusedVariables false
set_option linter.unusedSimpArgs false
namespace Go.Abs
open Go.RowKit

section
variable {G : Cells} {P : Program} {T : FuncId → Option (FnE × Nat)} {orc : FuncId → List AV → Option AV} {lf : Nat}

def TOk (P : Program) (T : FuncId → Option (FnE × Nat)) : Prop := ∀ f fe pu, T f = some (fe, pu) → FnOk P f fe
def OOk (G : Cells) (P : Program) (T : FuncId → Option (FnE × Nat)) (orc : FuncId → List AV → Option AV) : Prop := ∀ f args r, T f = none → orc f args = some r → PureSpec G P f args r

theorem resE_er {e : Env} {hp : List Blk} {rs : List RV} {r : AV} (h : resE e (hp.map er) rs = some r) : resE e hp rs = some r := by
  have key : ∀ {rs : List RV} {l : List AV}, rsE e (hp.map er) rs = some l → rsE e hp rs = some l := by
    intro rs
    induction rs with
    | nil => intro l h; exact h
    | cons x rs ih =>
      intro l h
      simp only [rsE, Option.bind_eq_some_iff, Option.map_eq_some_iff] at h ⊢
      obtain ⟨a, h1, l', h2, h3⟩ := h
      refine ⟨a, ?_, l', ih h2, h3⟩
      cases x with
      | s t => exact h1
      | c t ag n =>
        simp only [rE, Option.bind_eq_some_iff] at h1 ⊢
        obtain ⟨p, q1, q2⟩ := h1
        exact ⟨p, q1, aload_er q2⟩
  unfold resE at h ⊢
  rw [Option.map_eq_some_iff] at h ⊢
  obtain ⟨l, h1, h2⟩ := h
  exact ⟨l, key h1, h2⟩

theorem endRel_er {n0 : Nat} {hp hp' : List Blk} (h : EndRel n0 hp hp') : hp'.map er = hp.map er ∧ Keeps hp hp' := by
  constructor
  · apply List.ext_getElem?
    intro k
    rw [List.getElem?_map, List.getElem?_map]
    rcases h.2 k with q | ⟨_, q1, q2⟩
    · rw [q]
    · rw [q1, q2]; rfl
  · intro k st pd ats ps ok hk
    rcases h.2 k with q | ⟨_, q1, q2⟩
    · exact ⟨st, pd, by rw [q]; exact hk⟩
    · rw [q1] at hk; cases hk

theorem unconcL_ok : ∀ {l : List Value} {xs : List AV}, unconcL l = some xs → conc.concs xs = some l ∧ plainA.plainAs xs = true
  | [], xs, h => by cases h; exact ⟨rfl, rfl⟩
  | x :: r, xs, h => by
    simp only [unconcL] at h
    split at h
    · rename_i hp
      split at h
      · rename_i l hl
        cases h
        obtain ⟨h1, h2⟩ := unconcL_ok hl
        exact ⟨by simp [conc.concs, conc, h1], by simp [plainA.plainAs, plainA, hp, h2]⟩
      · cases h
    · cases h

theorem unconc_ok {v : Value} {x : AV} (h : unconc v = some x) : plainI x = true ∧ concI x = some v := by
  unfold unconc at h
  split at h
  · rename_i t cs
    split at h
    · rename_i l hl
      cases h
      obtain ⟨h1, h2⟩ := unconcL_ok hl
      exact ⟨by simp [plainI, plainA, h2], by simp [concI, conc, h1]⟩
    · cases h
  · rename_i t x _
    split at h
    · rename_i hp
      cases h
      exact ⟨by simp [plainI, plainA, hp], by simp [concI, conc]⟩
    · cases h
  · cases h

theorem ksOf_ok : ∀ {l : List AV} {ks : List Nat}, ksOf l = some ks → l = ks.map fun k => .mp k 0
  | [], ks, h => by cases h; rfl
  | x :: r, ks, h => by
    unfold ksOf at h
    split at h
    · rename_i heq
      cases heq
    · rename_i k r' heq
      cases heq
      split at h
      · rename_i l hl
        cases h
        rw [ksOf_ok hl]; rfl
      · cases h
    · cases h

theorem rowBytes_ok : ∀ {xs : List AV} {k : List UInt8 → Option AV} {r : AV}, rowBytes xs k = some r → ∃ l : List UInt8, xs = l.map (fun c => .v (.int .u8 c.toNat)) ∧ k l = some r
  | [], k, r, h => ⟨[], rfl, h⟩
  | x :: xs, k, r, h => by
    unfold rowBytes at h
    split at h
    · rename_i heq; cases heq
    · rename_i k' n r' heq
      cases heq
      split at h
      · rename_i hn
        have hn := Nat.le_of_ble_eq_true hn
        obtain ⟨l, h1, h2⟩ := rowBytes_ok h
        refine ⟨UInt8.ofNat n :: l, ?_, h2⟩
        rw [List.map_cons, ← h1]
        have : (UInt8.ofNat n).toNat = n := by simp; omega
        rw [this]
        rfl
      · cases h
    · cases h

variable (hm : P.follows .mixedOrders = true) (hT : TOk P T)
include hm hT

theorem runD_ok {cv : Cv} (hcv : CvOk G P cv) {Λ : Lam} {g : FuncId} {ks : List Nat} {x : Option AV} {v : Option Value} {hp : List Blk} {k : RH → Option AV} {r : AV} (hΛ : LamOk G P Λ hp)
    (hx : match x, v with | none, none => True | some x, some v => plainI x = true ∧ concI x = some v | _, _ => False)
    (h : runD T cv lf Λ g ks x (R (hp.map er)) k = some r) : DCall G P g (ks.map fun k => .mp k 0) hp v fun hp' => k (R (hp'.map er)) = some r ∧ Keeps hp hp' := by
  unfold runD at h
  split at h
  · rename_i n d0 d1 c pu hTg
    obtain ⟨⟨O, F⟩, hf, h0, h1⟩ := hT _ _ _ hTg
    split at h
    · rename_i hn
      refine dcallE hm F hf ⟨h0, h1⟩ (by simpa using hn) hx ?_
      refine wpE_mono (codeX_ok hcv hΛ h) fun x e' hp' ⟨q1, q2⟩ => ?_
      cases x with
      | normal => exact ⟨q1, q2⟩
      | ret => exact ⟨q1, q2⟩
      | _ => cases q1
    · cases h
  · cases h

theorem fnX_ok {cv : Cv} (hcv : CvOk G P cv) {f : FuncId} {fe : FnE} (hfe : FnOk P f fe) {Λ : Lam} {args : List AV} {hp : List Blk} {k : OutK} {r : AV} (hΛ : LamOk G P Λ hp)
    (h : fnX T fe cv lf Λ args (R (hp.map er)) k = some r) : CallP G P f args hp (fun v hp' => k (.val v) (R (hp'.map er)) = some r ∧ Keeps hp hp') fun ch hp' => k (.pan ch) (R (hp'.map er)) = some r ∧ Keeps hp hp' := by
  have res : ∀ {rs : List RV} {e : Env} {hp1 : List Blk}, Keeps hp hp1 → resK rs e (R (hp1.map er)) k = some r → @withA _ (resE e hp1 rs) ⟨fun v => k (.val v) (R (hp1.map er)) = some r ∧ Keeps hp hp1⟩ := fun hk q => by
    rw [resK_eq, Option.bind_eq_some_iff] at q
    obtain ⟨v, hv, q⟩ := q
    exact ⟨v, resE_er hv, q, hk⟩
  cases fe with
  | plain n rs c =>
    obtain ⟨⟨O, F⟩, hf⟩ := hfe
    simp only [fnX] at h
    split at h
    · rename_i hn
      refine fnEP hm F hf hn (wpE_mono (codeX_ok hcv hΛ h) fun x e' hp' ⟨q1, q2⟩ => ?_)
      cases x with
      | normal => exact res q2 q1
      | ret => exact res q2 q1
      | panic ch => exact ⟨q1, q2⟩
      | _ => cases q1
    · cases h
  | loops n rs c =>
    obtain ⟨⟨O, F⟩, hf⟩ := hfe
    simp only [fnX] at h
    split at h
    · rename_i hn
      refine fnEPM hm F hf hn (wpE_mono (codeX_ok hcv hΛ h) fun x e' hp' ⟨q1, q2⟩ => ?_)
      cases x with
      | normal =>
        intro hp2 he
        obtain ⟨w1, w2⟩ := endRel_er he
        have q1' : resK rs e' (R (hp2.map er)) k = some r := by rw [w1]; exact q1
        exact res (q2.trans w2) q1'
      | ret =>
        intro hp2 he
        obtain ⟨w1, w2⟩ := endRel_er he
        have q1' : resK rs e' (R (hp2.map er)) k = some r := by rw [w1]; exact q1
        exact res (q2.trans w2) q1'
      | panic ch =>
        intro hp2 he
        obtain ⟨w1, w2⟩ := endRel_er he
        refine ⟨?_, q2.trans w2⟩
        show k (.pan ch) (R (hp2.map er)) = some r
        rw [w1]; exact q1
      | _ => cases q1
    · cases h
  | dfr n rs a t g caps b =>
    obtain ⟨⟨O, F⟩, hfa, hfb, ht⟩ := hfe
    simp only [fnX] at h
    split at h
    · rename_i hn
      refine CallOk.toP (fnED hm F hfa hfb ht hn (wpE_mono (codeX_ok hcv hΛ h) fun x e1 hp1 ⟨q1, q2⟩ => ?_))
      cases x with
      | normal =>
        simp only [getsX_eq, Option.bind_eq_some_iff] at q1
        obtain ⟨az, w1, w2⟩ := q1
        split at w2
        · rename_i ks hks
          rw [forceL_eq forceN_eq] at w2
          have haz := ksOf_ok hks
          refine ⟨ks, by rw [w1, haz], wpE_mono (codeX_ok hcv (hΛ.keeps q2) w2) fun x e2 hp2 ⟨u1, u2⟩ => ?_⟩
          have hΛ2 := hΛ.keeps (q2.trans u2)
          have fin : ∀ {x : Option AV} {v : Option Value}, (match x, v with | none, none => True | some x, some v => plainI x = true ∧ concI x = some v | _, _ => False) → runD T cv lf Λ g ks x (R (hp2.map er)) (fun h3 => resK rs e2 h3 k) = some r →
              DCall G P g (ks.map fun k => .mp k 0) hp2 v fun hp' => @withA _ (resE e2 hp' rs) ⟨fun v => k (.val v) (R (hp'.map er)) = some r ∧ Keeps hp hp'⟩ := fun hx q =>
            DCall.mono (runD_ok hm hT hcv hΛ2 hx q) fun hp3 ⟨z1, z2⟩ => res ((q2.trans u2).trans z2) z1
          cases x with
          | normal => exact fin (x := none) (v := none) trivial u1
          | ret => exact fin (x := none) (v := none) trivial u1
          | panic ch =>
            split at u1
            · rename_i heq; cases heq
            · rename_i heq; cases heq
            · rename_i v heq
              cases heq
              split at u1
              · rename_i xv hxv
                exact ⟨v, rfl, fin (x := some xv) (v := some v) (unconc_ok hxv) u1⟩
              · cases u1
            · cases u1
          | _ => cases u1
        · cases w2
      | _ => cases q1
    · cases h
  | rcv n d0 d1 c => cases h
  | bck t =>
    simp only [fnX] at h
    split at h
    · rename_i b
      unfold chkX at h
      rw [nthR_eq, Option.bind_eq_some_iff] at h
      obtain ⟨blk, hblk, h⟩ := h
      split at h
      · rename_i b' t' z
        have hb := er_cells hblk
        split at h
        · rename_i hc
          simp only [Bool.and_eq_true, Nat.beq_eq] at hc
          obtain ⟨⟨rfl, h1⟩, h2⟩ := hc
          have ht : t' = t := Prod.ext h1 h2
          subst ht
          rw [updR_set, hblk] at h
          refine CallOk.toP (CallOk.mono (callOk_fresh hfe hb) ?_)
          rintro r' hp' ⟨rfl, rfl⟩
          have hs : (hp.set b' (.cells (.mp b' 0 :: z) false)).map er = (hp.map er).set b' (.cells (.mp b' 0 :: z) false) := by rw [List.map_set]; rfl
          rw [hs]
          exact ⟨h, keeps_set hb nofun⟩
        · cases h
      · rename_i b' z
        have hb := er_cells hblk
        split at h
        · rename_i hc
          have := Nat.eq_of_beq_eq_true hc
          subst this
          refine CallOk.toP (CallOk.mono (callOk_used hfe hb) ?_)
          rintro r' hp' ⟨rfl, rfl⟩
          exact ⟨h, Keeps.refl _⟩
        · cases h
      · cases h
    · cases h
  | bst e =>
    simp only [fnX] at h
    split at h
    · rename_i b
      unfold strX at h
      rw [nthR_eq, Option.bind_eq_some_iff] at h
      obtain ⟨blk, hblk, h⟩ := h
      split at h
      · rename_i c0
        have hb := er_cells hblk
        refine CallOk.toP (CallOk.mono (callOk_strNil hfe hb) ?_)
        rintro r' hp' ⟨rfl, rfl⟩
        exact ⟨h, Keeps.refl _⟩
      · rename_i c0 xs id
        have hb := er_cells hblk
        rw [nthR_eq, Option.bind_eq_some_iff] at h
        obtain ⟨blk2, hblk2, h⟩ := h
        split at h
        · rename_i n e'
          have hid := er_tok hblk2
          split at h
          · rename_i hc
            simp only [Bool.and_eq_true, Nat.beq_eq] at hc
            obtain ⟨⟨⟨h1, h2⟩, h3⟩, h4⟩ := hc
            have h3 := Nat.le_of_ble_eq_true h3
            have h4 := Nat.le_of_ble_eq_true h4
            obtain ⟨l, hl, hk⟩ := rowBytes_ok h
            subst hl
            subst h2
            have hn : n = l.length := by rw [h1, List.length_map]
            subst hn
            refine CallOk.toP (CallOk.mono (callOk_str hfe hb hid (by intro e; subst e; simp at h3) h4) ?_)
            rintro r' hp' ⟨rfl, rfl⟩
            exact ⟨hk, Keeps.refl _⟩
          · cases h
        · cases h
      · cases h
    · cases h

omit hm hT in
theorem findL_ok {k : Nat} : ∀ {Λ : Lam} {rc : LRec} {Λr : Lam}, findL k Λ = some (rc, Λr) → (k, rc) ∈ Λ ∧ ∀ x ∈ Λr, x ∈ Λ
  | [], _, _, h => by cases h
  | (j, r) :: Λ, rc, Λr, h => by
    simp only [findL] at h
    split at h
    · rename_i e
      subst e
      cases h
      exact ⟨List.mem_cons_self, fun x hx => List.mem_cons_of_mem _ hx⟩
    · obtain ⟨h1, h2⟩ := findL_ok h
      exact ⟨List.mem_cons_of_mem _ h1, fun x hx => List.mem_cons_of_mem _ (h2 x hx)⟩

theorem callX_ok (hO : OOk G P T orc) {cv : Cv} (hcv : CvOk G P cv) : CvOk G P (callX T orc lf cv) := by
  intro Λ x args hp k r hΛ h
  have fn : ∀ f fs cs, x = .fn (.func f) fs cs → CallP G P f (fs ++ args ++ cs) hp (fun v hp' => k (.val v) (R (hp'.map er)) = some r ∧ Keeps hp hp') fun ch hp' => k (.pan ch) (R (hp'.map er)) = some r ∧ Keeps hp hp' := by
    intro f fs cs hx
    subst hx
    simp only [callX] at h
    rw [forceL_eq fun _ _ => rfl] at h
    split at h
    · rename_i hTf
      split at h
      · rename_i bs hbs
        split at h
        · rename_i v hv
          rw [forceA_eq] at h
          exact CallOk.toP (CallOk.pure (hO _ _ _ hTf hv) (fz_impCs hbs) ⟨h, Keeps.refl hp⟩)
        · cases h
      · cases h
    · rename_i fe pu hTf
      have hfe := hT _ _ _ hTf
      split at h
      · exact fnX_ok hm hT hcv hfe hΛ h
      · split at h
        · rename_i v hv
          rw [forceA_eq] at h
          have hp0 : CallOk G P f (fs ++ args ++ cs) hp fun r hp' => (hp'.map er).take hp.length = hp.map er ∧ Keeps hp hp' ∧ ∃ n, fzA (mask hp.length hp') n r = some v := by
            have := fnX_ok hm hT hcv hfe hΛ hv
            refine CallP.ok ⟨this.1, fun base w0 C M w args' hs hr => (this.2 base w0 C M w args' hs hr).mono fun e w' ⟨C', M', hp', h1, h2, h3⟩ => ⟨C', M', hp', h1, h2, ?_⟩⟩
            rcases h3 with ⟨v', u', q, rest⟩ | ⟨ch, q, rest⟩
            · refine Or.inl ⟨v', u', ?_, rest⟩
              obtain ⟨q1, q2⟩ := q
              simp only [closeK] at q1
              split at q1
              · rename_i hsm
                refine ⟨sameR_ok hsm, q2, 64, ?_⟩
                have rn : (R (hp.map er)).n = hp.length := List.length_map _
                rw [rn, toL_R, mask_er] at q1
                exact fzA_er q1
              · cases q1
            · exact (by cases q.1)
          refine CallOk.toP (CallOk.mono (CallOk.close hp0) ?_)
          rintro r' hp' ⟨rfl, q1, q2⟩
          exact ⟨by rw [q1]; exact h, q2⟩
        · cases h
      · split at h
        · rename_i bs hbs
          split at h
          · rename_i v hv
            rw [forceA_eq] at h
            have hp0 : CallOk G P f bs [] fun v' hp' => ∃ n, fzA hp' n v' = some v := by
              have := fnX_ok hm hT hcv hfe (hp := []) (lamOk_nil (hp := [])) hv
              refine CallP.ok ⟨this.1, fun base w0 C M w args' hs hr => (this.2 base w0 C M w args' hs hr).mono fun e w' ⟨C', M', hp', h1, h2, h3⟩ => ⟨C', M', hp', h1, h2, ?_⟩⟩
              rcases h3 with ⟨v', u', q, rest⟩ | ⟨ch, q, rest⟩
              · exact Or.inl ⟨v', u', ⟨64, fzA_er (by have := q.1; simp only [pureK, toL_R] at this; exact this)⟩, rest⟩
              · exact (by cases q.1)
            exact CallOk.toP (CallOk.pure (pureSpec_close hp0) (fz_impCs hbs) ⟨h, Keeps.refl hp⟩)
          · cases h
        · cases h
  refine ⟨fun hnp => ?_, fn⟩
  cases x with
  | fn f fs cs =>
    cases f with
    | func f =>
      rw [callV_fn]
      have := fn f fs cs rfl
      refine CallP.ok ⟨this.1, fun base w0 C M w args' hs hr => (this.2 base w0 C M w args' hs hr).mono fun e w' ⟨C', M', hp', h1, h2, h3⟩ => ⟨C', M', hp', h1, h2, ?_⟩⟩
      rcases h3 with q | ⟨ch, q, rest⟩
      · exact Or.inl q
      · rw [hnp] at q; exact (by cases q.1)
    | _ => simp only [callX] at h; cases h
  | yd k0 =>
    simp only [callX] at h
    split at h
    · rename_i rc Λr hfi
      obtain ⟨hmem, hsub⟩ := findL_ok hfi
      obtain ⟨ats, ok, st, pd, hat, hR⟩ := hΛ k0 rc hmem
      have hΛr : LamOk G P Λr hp := fun j rc' hj => hΛ j rc' (hsub _ hj)
      split at h
      · rename_i hlen
        rw [nthR_eq, Option.bind_eq_some_iff] at h
        obtain ⟨blk, hready, h⟩ := h
        split at h
        · rename_i pd0 a0 b0 c0
          obtain ⟨pd', ats', ps', ok', hp1, hp2⟩ := er_loop hready
          rw [hat] at hp1
          cases hp1
          refine hR args hp _ hlen ⟨pd, hat⟩ ?_
          refine wpE_mono (codeX_ok hcv hΛr h) fun x e1 hp1 ⟨q1, q2⟩ => ?_
          cases x with
          | normal =>
            dsimp only at q1
            rw [nthR_eq, Option.bind_eq_some_iff] at q1
            obtain ⟨blk1, hready1, q1⟩ := q1
            split at q1
            · rename_i pd1 a1 b1 c1
              obtain ⟨st2, pd2, hst2⟩ := q2 _ _ _ _ _ _ hat
              obtain ⟨pd3, ats3, ps3, ok3, hp3, _⟩ := er_loop hready1
              rw [hst2] at hp3
              cases hp3
              rw [updR_set, hready1] at q1
              simp only [Option.bind_some] at q1
              refine ⟨⟨pd2, hst2⟩, fun pdn => ?_⟩
              have hse : (hp1.map er).set k0 (lbE .busy none) = (hp1.set k0 (.loopb .busy pdn ats rc.ps.toArray ok)).map er := er_setLoop.symm
              rw [hse] at q1
              have hk1 : Keeps hp (hp1.set k0 (.loopb .busy pdn ats rc.ps.toArray ok)) := q2.trans (keeps_setLoop hst2)
              refine wpE_mono (codeX_ok hcv (hΛr.keeps hk1) q1) fun x e2 hp2 ⟨u1, u2⟩ => ?_
              obtain ⟨st4, pd4, hst4⟩ := (hk1.trans u2) _ _ _ _ _ _ hat
              have he : (hp2.map er)[k0]? = some (er (.loopb st4 pd4 ats rc.ps.toArray ok)) := by rw [List.getElem?_map, hst4]; rfl
              simp only [roundK, nthR_eq, he, er, Option.bind_some] at u1
              have hk2 : ∀ st pd, Keeps hp (hp2.set k0 (.loopb st pd ats rc.ps.toArray ok)) := fun st pd => (hk1.trans u2).trans (keeps_setLoop hst4)
              cases x with
              | normal =>
                dsimp only at u1
                rw [updR_set, he] at u1
                simp only [Option.bind_some] at u1
                refine ⟨⟨st4, pd4, hst4⟩, ?_, hk2 _ _⟩
                rw [er_setLoop]
                exact u1
              | ret =>
                dsimp only at u1
                rw [updR_set, he] at u1
                simp only [Option.bind_some] at u1
                refine ⟨⟨st4, pd4, hst4⟩, ?_, hk2 _ _⟩
                rw [er_setLoop]
                exact u1
              | exit id =>
                dsimp only at u1
                rw [updR_set, he] at u1
                simp only [Option.bind_some] at u1
                refine ⟨⟨st4, pd4, hst4⟩, ?_, hk2 _ _⟩
                rw [er_setLoop]
                exact u1
              | _ => cases u1
            · cases q1
          | _ => cases q1
        · cases h
      · cases h
    · cases h
  | _ => simp only [callX] at h; cases h

theorem evalV_ok (hO : OOk G P T orc) : ∀ d, CvOk G P (evalV T orc lf d)
  | 0 => fun Λ x args hp k r hΛ h => by cases h
  | d + 1 => callX_ok hm hT hO (evalV_ok hO d)

/-- A table of functions, as a tree. -/
inductive Tr where
  | nil
  | node (l : Tr) (k : FuncId) (fe : FnE) (m : Nat) (r : Tr)

noncomputable def Tr.get (t : Tr) (f : FuncId) : Option (FnE × Nat) := @Tr.rec (fun _ => Option (FnE × Nat)) none
  (fun _ k fe m _ il ir => @Bool.rec (fun _ => Option (FnE × Nat)) (@Bool.rec (fun _ => Option (FnE × Nat)) ir (some (fe, m)) (Nat.beq f k)) il (Nat.blt f k)) t

def Tr.Ok (P : Program) : Tr → Prop
  | .nil => True
  | .node l k fe _ r => l.Ok P ∧ FnOk P k fe ∧ r.Ok P

omit hm hT in
theorem Tr.get_ok {f : FuncId} {fe : FnE} {m : Nat} : ∀ {t : Tr}, t.Ok P → t.get f = some (fe, m) → FnOk P f fe
  | .nil, _, h => by cases h
  | .node l k fe' m' r, ho, h => by
    obtain ⟨h1, h2, h3⟩ := ho
    have hg : Tr.get (.node l k fe' m' r) f = @Bool.rec (fun _ => Option (FnE × Nat)) (@Bool.rec (fun _ => Option (FnE × Nat)) (r.get f) (some (fe', m')) (Nat.beq f k)) (l.get f) (Nat.blt f k) := rfl
    rw [hg] at h
    cases hb : Nat.blt f k with
    | true => rw [hb] at h; exact Tr.get_ok h1 h
    | false =>
      rw [hb] at h
      cases hq : Nat.beq f k with
      | true =>
        rw [hq] at h
        cases h
        rw [Nat.eq_of_beq_eq_true hq]
        exact h2
      | false => rw [hq] at h; exact Tr.get_ok h3 h

/-- A fact that the kernel computed. -/
theorem evalFact (hO : OOk G P T orc) {d : Nat} {f : FuncId} {args : List AV} {r : AV} (h : evalV T orc lf d [] (.fn (.func f) [] []) args (R []) pureK = some r) : PureSpec G P f args r := by
  refine pureSpec_close ?_
  have := (evalV_ok hm hT hO d [] (.fn (.func f) [] []) args [] pureK r lamOk_nil h).1 fun _ _ => rfl
  rw [callV_fn, List.nil_append, List.append_nil] at this
  exact CallOk.mono this fun r hp' k => ⟨64, fzA_er (by have := k.1; simp only [pureK, toL_R] at this; exact this)⟩

end
end Go.Abs
