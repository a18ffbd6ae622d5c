/- Heaps of which loop records are forgotten; operations do there what they do. No condition. -/
import Derived.Test.YtbcmdjlgdnippaaGreatDoorW3
set_option linter.unusedVariables false
set_option linter.unusedSimpArgs false
namespace Go.Abs
open Go.RowKit

/-- A block without what a run does not look at. -/
def er : Blk → Blk
  | .loopb st pd _ _ _ => .loopb st (match st with | .busy => none | _ => pd) [] #[] (fun _ _ => False)
  | .obj (.deferred _) => .obj (.deferred none)
  | b => b

/-- Loop records stay. -/
def Keeps (hp hp' : List Blk) : Prop := ∀ (k : Nat) st pd ats ps ok, hp[k]? = some (.loopb st pd ats ps ok) → ∃ st' pd', hp'[k]? = some (.loopb st' pd' ats ps ok)

theorem Keeps.refl (hp : List Blk) : Keeps hp hp := fun k st pd ats ps ok h => ⟨st, pd, h⟩
theorem Keeps.trans {a b c : List Blk} (h : Keeps a b) (h' : Keeps b c) : Keeps a c := fun k st pd ats ps ok q => by
  obtain ⟨st', pd', q'⟩ := h k st pd ats ps ok q
  exact h' k st' pd' ats ps ok q'
theorem keeps_push {hp l : List Blk} : Keeps hp (hp ++ l) := fun k st pd ats ps ok h => ⟨st, pd, get_ext h⟩
theorem keeps_set {hp : List Blk} {k : Nat} {b b' : Blk} (hk : hp[k]? = some b) (hb : ∀ st pd ats ps ok, b ≠ .loopb st pd ats ps ok) : Keeps hp (hp.set k b') := fun j st pd ats ps ok h => by
  by_cases e : k = j
  · subst e; rw [hk] at h; cases h; exact (hb _ _ _ _ _ rfl).elim
  · exact ⟨st, pd, by rw [List.getElem?_set_ne e]; exact h⟩

theorem er_get {hp : List Blk} {k : Nat} {b : Blk} (h : (hp.map er)[k]? = some b) : ∃ b0, hp[k]? = some b0 ∧ er b0 = b := by
  rw [List.getElem?_map, Option.map_eq_some_iff] at h
  exact h

theorem er_cells {hp : List Blk} {k : Nat} {cs : List AV} {r : Bool} (h : (hp.map er)[k]? = some (.cells cs r)) : hp[k]? = some (.cells cs r) := by
  obtain ⟨b, h1, h2⟩ := er_get h
  cases b with
  | cells cs' r' => cases h2; exact h1
  | obj o => cases o <;> cases h2
  | _ => cases h2
theorem er_tok {hp : List Blk} {k n s : Nat} {e : TypeId} (h : (hp.map er)[k]? = some (.tok n s e)) : hp[k]? = some (.tok n s e) := by
  obtain ⟨b, h1, h2⟩ := er_get h
  cases b with
  | tok n s e => cases h2; exact h1
  | obj o => cases o <;> cases h2
  | _ => cases h2
theorem er_mapb {hp : List Blk} {k : Nat} {es : List (AV × AV × Nat)} {cl : Nat} (h : (hp.map er)[k]? = some (.mapb es cl)) : hp[k]? = some (.mapb es cl) := by
  obtain ⟨b, h1, h2⟩ := er_get h
  cases b with
  | mapb es cl => cases h2; exact h1
  | obj o => cases o <;> cases h2
  | _ => cases h2
theorem er_iter {hp : List Blk} {k : Nat} {s : ByteArray} {p : Nat} (h : (hp.map er)[k]? = some (.obj (.stringIter s p))) : hp[k]? = some (.obj (.stringIter s p)) := by
  obtain ⟨b, h1, h2⟩ := er_get h
  cases b with
  | obj o => cases o <;> cases h2; exact h1
  | _ => cases h2
theorem er_loop {hp : List Blk} {k : Nat} {st : LoopState} {pd : Option Code} {ats : List AV} {ps : Array Tmp} {ok : Code → Code → Prop} (h : (hp.map er)[k]? = some (.loopb st pd ats ps ok)) :
    ∃ pd' ats' ps' ok', hp[k]? = some (.loopb st pd' ats' ps' ok') ∧ (st ≠ .busy → pd' = pd) := by
  obtain ⟨b, h1, h2⟩ := er_get h
  cases b with
  | loopb st' pd' ats' ps' ok' =>
    simp only [er, Blk.loopb.injEq] at h2
    obtain ⟨rfl, h3, _⟩ := h2
    exact ⟨pd', ats', ps', ok', h1, fun hne => by cases st' <;> first | exact h3 | exact (hne rfl).elim⟩
  | obj o => cases o <;> cases h2
  | _ => cases h2

/-- What is done there is done here. -/
def Cm (f : List Blk → Option (AV × List Blk)) : Prop := ∀ hp v hE, f (hp.map er) = some (v, hE) → ∃ hp', f hp = some (v, hp') ∧ hp'.map er = hE ∧ Keeps hp hp'

theorem Cm.const (x : Option AV) : Cm fun hp => x.map fun r => (r, hp) := fun hp v hE h => by
  simp only [Option.map_eq_some_iff, Prod.mk.injEq] at h
  obtain ⟨r, h1, rfl, rfl⟩ := h
  exact ⟨hp, by simp [h1], rfl, Keeps.refl hp⟩
theorem Cm.bind {α : Type} (x : Option α) {g : α → List Blk → Option (AV × List Blk)} (hg : ∀ a, Cm (g a)) : Cm fun hp => x.bind fun a => g a hp := fun hp v hE h => by
  simp only [Option.bind_eq_some_iff] at h
  obtain ⟨a, h1, h2⟩ := h
  obtain ⟨hp', q1, q2, q3⟩ := hg a hp v hE h2
  exact ⟨hp', by simp [h1, q1], q2, q3⟩
theorem Cm.bindMap {α : Type} (x : Option α) (g : α → AV) : Cm fun hp => x.map fun a => (g a, hp) := fun hp v hE h => by
  simp only [Option.map_eq_some_iff, Prod.mk.injEq] at h
  obtain ⟨a, h1, rfl, rfl⟩ := h
  exact ⟨hp, by simp [h1], rfl, Keeps.refl hp⟩
theorem Cm.push {α : Type} (x : Option α) (g : Nat → α → AV) (b : α → Blk) (hb : ∀ a, er (b a) = b a) : Cm fun hp => x.map fun a => (g hp.length a, hp ++ [b a]) := fun hp v hE h => by
  simp only [Option.map_eq_some_iff, Prod.mk.injEq, List.length_map] at h
  obtain ⟨a, h1, rfl, rfl⟩ := h
  exact ⟨hp ++ [b a], by simp [h1], by simp [hb], keeps_push⟩
theorem Cm.none : Cm fun _ => none := fun hp v hE h => by cases h
theorem Cm.some (x : AV) : Cm fun hp => some (x, hp) := fun hp v hE h => by
  cases h
  exact ⟨hp, rfl, rfl, Keeps.refl hp⟩
theorem Cm.read (g : List Blk → Option AV) (hg : ∀ hp x, g (hp.map er) = .some x → g hp = .some x) : Cm fun hp => (g hp).map fun r => (r, hp) := fun hp v hE h => by
  simp only [Option.map_eq_some_iff, Prod.mk.injEq] at h
  obtain ⟨r, h1, rfl, rfl⟩ := h
  exact ⟨hp, by simp [hg hp r h1], rfl, Keeps.refl hp⟩
theorem Cm.ite {c : Prop} [Decidable c] {f g : List Blk → Option (AV × List Blk)} (hf : c → Cm f) (hg : ¬ c → Cm g) : Cm fun hp => if c then f hp else g hp := fun hp v hE h => by
  dsimp only at h ⊢
  split at h
  · rename_i hc
    rw [if_pos hc]
    exact hf hc hp v hE h
  · rename_i hc
    rw [if_neg hc]
    exact hg hc hp v hE h
theorem Cm.newBlk (x : Nat → AV) (b : Blk) (hb : er b = b) : Cm fun hp => Option.some (x hp.length, hp ++ [b]) := fun hp v hE h => by
  simp only [Option.some.injEq, Prod.mk.injEq, List.length_map] at h
  obtain ⟨rfl, rfl⟩ := h
  exact ⟨hp ++ [b], rfl, by simp [hb], keeps_push⟩
theorem Cm.pushK (b : Nat → Blk) (x : Nat → AV) (hb : ∀ k, er (b k) = b k) : Cm fun hp => Option.some (x hp.length, hp ++ [b hp.length]) := fun hp v hE h => by
  simp only [Option.some.injEq, Prod.mk.injEq, List.length_map] at h
  obtain ⟨rfl, rfl⟩ := h
  exact ⟨hp ++ [b hp.length], rfl, by simp [hb], keeps_push⟩
theorem Cm.setCells {k : Nat} {r : Bool} {g : List AV → Option (AV × List AV)} : Cm fun hp => match hp[k]? with
    | .some (.cells cs r') => if r' = r then (g cs).map fun p => (p.1, hp.set k (.cells p.2 r)) else .none
    | _ => .none := fun hp v hE h => by
  dsimp only at h ⊢
  split at h
  · rename_i cs r' hk
    have hk' := er_cells hk
    rw [hk']
    dsimp only
    split at h
    · rename_i hr
      rw [if_pos hr]
      simp only [Option.map_eq_some_iff, Prod.mk.injEq] at h
      obtain ⟨p, h1, rfl, rfl⟩ := h
      refine ⟨hp.set k (.cells p.2 r), by simp [h1], by rw [List.map_set]; rfl, keeps_set hk' nofun⟩
    · cases h
  · cases h

theorem aload_er {hp : List Blk} {ag : Bool} {n : Nat} {p c : AV} (h : aload (hp.map er) ag n p = some c) : aload hp ag n p = some c := by
  unfold aload at h ⊢
  split at h
  · exact h
  · split at h
    · rename_i hk; rw [er_cells hk]; exact h
    · cases h
  · split at h
    · rename_i hk; rw [er_cells hk]; exact h
    · cases h
  · cases h

theorem cm_store {n : Nat} {p x : AV} : Cm fun hp => (astore hp n p x).map fun hp' => (undefA, hp') := fun hp v hE h => by
  simp only [Option.map_eq_some_iff, Prod.mk.injEq] at h
  obtain ⟨h1, q, rfl, rfl⟩ := h
  have key : ∀ (k : Nat) (row : Bool) cs off, hp[k]? = some (.cells cs row) → astoreAt (hp.map er) k row cs n off x = some h1 → ∃ hp', astoreAt hp k row cs n off x = some hp' ∧ hp'.map er = h1 ∧ Keeps hp hp' := fun k row cs off hk hs => by
    unfold astoreAt at hs ⊢
    split at hs
    · rename_i hc
      rw [if_pos hc]
      cases hs
      exact ⟨_, rfl, by rw [List.map_set]; rfl, keeps_set hk nofun⟩
    · cases hs
  unfold astore at q ⊢
  cases p with
  | mp k off =>
    simp only at q ⊢
    split at q
    · rename_i cs hk
      rw [er_cells hk]
      obtain ⟨hp', a, b, c⟩ := key _ _ _ _ (er_cells hk) q
      exact ⟨hp', by simp [a], b, c⟩
    · cases q
  | rp k m off =>
    simp only at q ⊢
    split at q
    · rename_i cs hk
      rw [er_cells hk]
      simp only at q ⊢
      split at q
      · rename_i hm
        rw [if_pos hm]
        obtain ⟨hp', a, b, c⟩ := key _ _ _ _ (er_cells hk) q
        exact ⟨hp', by simp [a], b, c⟩
      · cases q
    · cases q
  | _ => cases q

theorem cm_appC {n byt : Nat} {e : TypeId} {s : AV} {ys : List AV} : Cm fun hp => aappC hp n byt e s ys := fun hp v hE h => by
  dsimp only at h ⊢
  unfold aappC at h ⊢
  cases s with
  | nsl =>
    simp only [List.length_map] at h ⊢
    split at h
    · rename_i hl
      rw [if_pos hl]
      cases h
      exact ⟨_, rfl, by simp [er], keeps_push⟩
    · cases h
  | rs k m sz off len =>
    simp only at h ⊢
    split at h
    · rename_i hl
      rw [if_pos hl]
      split at h
      · rename_i cs hk
        rw [er_cells hk]
        simp only at h ⊢
        split at h
        · rename_i hm
          rw [if_pos hm]
          cases h
          exact ⟨_, rfl, by rw [List.map_set]; rfl, keeps_set (er_cells hk) nofun⟩
        · cases h
      · cases h
    · cases h
  | sl xs t =>
    simp only at h ⊢
    split at h
    · rename_i hl
      rw [if_pos hl]
      cases t with
      | exact =>
        simp only [List.length_map] at h ⊢
        cases h
        exact ⟨_, rfl, by simp [er], keeps_push⟩
      | no => cases h
      | tok id =>
        simp only at h ⊢
        split at h
        · rename_i c s' e' hk
          rw [er_tok hk]
          simp only at h ⊢
          split at h
          · rename_i hm
            rw [if_pos hm]
            cases h
            exact ⟨_, rfl, by rw [List.map_set]; rfl, keeps_set (er_tok hk) nofun⟩
          · cases h
        · cases h
    · cases h
  | _ => cases h

theorem cm_app {n byt : Nat} {e : TypeId} {s x : AV} : Cm fun hp => aapp hp n byt e s x := fun hp v hE h => by
  dsimp only at h ⊢
  unfold aapp at h ⊢
  cases hcx : contents x with
  | none => rw [hcx] at h; cases h
  | some ys =>
    rw [hcx] at h
    simp only at h ⊢
    by_cases hy : ys = []
    · rw [if_pos hy] at h ⊢
      split at h <;> first | (cases h; exact ⟨hp, rfl, rfl, Keeps.refl hp⟩) | cases h
    · rw [if_neg hy] at h ⊢
      split at h
      · rename_i hc
        rw [if_pos hc]
        exact cm_appC hp v hE h
      · cases h

theorem cm_appN {n byt : Nat} {e : TypeId} {s x : AV} : Cm fun hp => aappN hp n byt e s x := by
  unfold aappN
  cases s with
  | rs _ _ _ _ _ => exact Cm.none
  | _ => exact cm_app

theorem cm_appS {byt : Nat} {e : TypeId} {s x : AV} : Cm fun hp => aappS hp byt e s x := fun hp v hE h => by
  dsimp only at h ⊢
  unfold aappS at h ⊢
  split at h
  · rename_i b
    by_cases h0 : b.size = 0
    · rw [if_pos h0] at h ⊢
      split at h <;> first | (cases h; exact ⟨hp, rfl, rfl, Keeps.refl hp⟩) | cases h
    · rw [if_neg h0] at h ⊢
      split at h
      · split at h
        · rename_i q
          simp only [if_pos q]
          exact cm_appC hp v hE h
        · cases h
      · split at h
        · rename_i q
          simp only [if_pos q]
          exact cm_appC hp v hE h
        · cases h
      · cases h
  · cases h

theorem cm_appR {n byt : Nat} {e : TypeId} {s x : AV} : Cm fun hp => aappR hp n byt e s x := by
  unfold aappR
  cases s with
  | nsl =>
    simp only
    cases contents x with
    | none => exact Cm.none
    | some ys =>
      simp only
      exact Cm.ite (fun _ => Cm.some _) fun _ => Cm.ite (fun _ => Cm.newBlk (fun k => .rs k (flat ys).length n 0 ys.length) _ rfl) fun _ => Cm.none
  | _ => exact cm_app

theorem cm_abslR {n : Nat} {vs : List AV} : Cm fun hp => abslR hp n vs := by
  unfold abslR
  exact Cm.ite (fun _ => Cm.newBlk (fun k => .rs k (flat vs).length n 0 vs.length) _ rfl) fun _ => Cm.none

theorem cm_amks {n byt : Nat} {z : List AV} {l c : AV} : Cm fun hp => amks hp n byt z l c := by
  unfold amks
  split
  · exact Cm.ite (fun _ => Cm.newBlk (fun k => .rs k _ n 0 _) _ rfl) fun _ => Cm.none
  · exact Cm.none

theorem cm_amkt {n byt : Nat} {e : TypeId} {z : List AV} {l c : AV} : Cm fun hp => amkt hp n byt e z l c := by
  unfold amkt
  split
  · exact Cm.ite (fun _ => Cm.newBlk (fun k => .sl [] (.tok k)) _ rfl) fun _ => Cm.none
  · exact Cm.none

theorem cm_iter {v : AV} : Cm fun hp => iterStep v hp := by
  unfold iterStep
  split
  · exact Cm.newBlk (fun k => .ob k) _ rfl
  · exact Cm.none

theorem cm_next {v : AV} : Cm fun hp => anext hp v := fun hp u hE h => by
  dsimp only at h ⊢
  unfold anext at h ⊢
  split at h
  · rename_i k
    split at h
    · rename_i s pos hk
      rw [er_iter hk]
      simp only
      split at h
      · rename_i hl
        rw [if_pos hl]
        cases h
        exact ⟨_, rfl, by rw [List.map_set]; rfl, keeps_set (er_iter hk) nofun⟩
      · rename_i hl
        rw [if_neg hl]
        cases h
        exact ⟨_, rfl, rfl, Keeps.refl hp⟩
    · cases h
  · cases h

theorem mapAt_er {hp : List Blk} {m : AV} {r : Nat × List (AV × AV × Nat) × Nat} (h : mapAt (hp.map er) m = some r) : mapAt hp m = some r ∧ hp[r.1]? = some (.mapb r.2.1 r.2.2) := by
  unfold mapAt at h ⊢
  split at h
  · rename_i k
    split at h
    · rename_i es cl hk
      rw [er_mapb hk]
      cases h
      exact ⟨rfl, er_mapb hk⟩
    · cases h
  · cases h

theorem alkp_er {hp : List Blk} {ag : Bool} {ks : List LeafK} {z : AV} {ok : Bool} {m key x : AV} (h : alkp (hp.map er) ag ks z ok m key = some x) : alkp hp ag ks z ok m key = some x := by
  unfold alkp at h ⊢
  split at h
  · rename_i k es cl hm
    rw [(mapAt_er hm).1]
    exact h
  · cases h

theorem cm_mput {ag : Bool} {ks : List LeafK} {m key x : AV} : Cm fun hp => (amput hp ag ks m key x).map fun hp' => (undefA, hp') := fun hp v hE h => by
  simp only [Option.map_eq_some_iff, Prod.mk.injEq] at h
  obtain ⟨h1, q, rfl, rfl⟩ := h
  dsimp only
  unfold amput at q ⊢
  split at q
  · rename_i k es cl hm
    obtain ⟨m1, m2⟩ := mapAt_er hm
    rw [m1]
    simp only
    split at q
    · rename_i hc
      rw [if_pos hc]
      split at q
      · cases q
        exact ⟨_, rfl, by rw [List.map_set]; rfl, keeps_set m2 nofun⟩
      · cases q
        exact ⟨_, rfl, by rw [List.map_set]; rfl, keeps_set m2 nofun⟩
      · cases q
    · cases q
  · cases q

theorem cm_ment {ag : Bool} {ks : List LeafK} {z m key : AV} : Cm fun hp => ament hp ag ks z m key := fun hp v hE q => by
  dsimp only at q ⊢
  unfold ament at q ⊢
  split at q
  · rename_i k es cl hm
    obtain ⟨m1, m2⟩ := mapAt_er hm
    rw [m1]
    simp only
    split at q
    · rename_i hc
      rw [if_pos hc]
      split at q
      · cases q
        exact ⟨_, rfl, by rw [List.map_set]; rfl, keeps_set m2 nofun⟩
      · cases q
        exact ⟨_, rfl, by rw [List.map_set]; rfl, keeps_set m2 nofun⟩
      · cases q
    · cases q
  · cases q

theorem cm_est {m st x : AV} : Cm fun hp => (aest hp m st x).map fun hp' => (undefA, hp') := fun hp v hE h => by
  simp only [Option.map_eq_some_iff, Prod.mk.injEq] at h
  obtain ⟨h1, q, rfl, rfl⟩ := h
  dsimp only
  unfold aest at q ⊢
  split at q
  · rename_i k es cl _ n hm
    obtain ⟨m1, m2⟩ := mapAt_er hm
    rw [m1]
    simp only
    split at q
    · cases q
      exact ⟨_, rfl, by rw [List.map_set]; rfl, keeps_set m2 nofun⟩
    · cases q
  · cases q

theorem cm_len {v : AV} : Cm fun hp => lenStep v hp := by
  unfold lenStep
  split
  · exact Cm.none
  · exact Cm.const _

theorem cm_step {e : Env} {o : SOp} : Cm fun hp => astepE e hp o := by
  cases o <;> simp only [astepE]
  case mv x => exact Cm.const _
  case pick c a b => exact Cm.bind _ fun c => Cm.const _
  case alloc z => exact Cm.newBlk (fun k => .mp k 0) _ rfl
  case alb t z => exact Cm.pushK (fun k => .cells (.bt k t :: z) false) (fun k => .mp k 0) fun _ => rfl
  case box x => exact Cm.push _ (fun k _ => .mp k 0) (fun r : AV => .cells r.cells false) fun _ => rfl
  case build z ps => exact Cm.bind _ fun l => Cm.bindMap _ _
  case bsl n vs => exact Cm.bind _ fun l => Cm.const _
  case ld ag n x => exact Cm.bind _ fun x => Cm.read (fun hp => aload hp ag n x) fun hp y h => aload_er h
  case st n p x => exact Cm.bind _ fun p => Cm.bind _ fun x => cm_store
  case app n byt ty s x => exact Cm.bind _ fun s => Cm.bind _ fun x => cm_appN
  case mkf f a b => exact Cm.bind _ fun a => Cm.bindMap _ _
  case bslR n vs => exact Cm.bind _ fun l => cm_abslR
  case appR n byt ty s x => exact Cm.bind _ fun s => Cm.bind _ fun x => cm_appR
  case aps byt ty s x => exact Cm.bind _ fun s => Cm.bind _ fun x => cm_appS
  case mks n byt ty z l c => exact Cm.bind _ fun l => Cm.bind _ fun c => cm_amks
  case mkt n byt ty z l c => exact Cm.bind _ fun l => Cm.bind _ fun c => cm_amkt
  case mif t x => exact Cm.bindMap _ _
  case iter x => exact Cm.bind _ fun x => cm_iter
  case next x => exact Cm.bind _ fun x => cm_next
  case mkm => exact Cm.newBlk (fun k => .mapv k) _ rfl
  case lkp ag ks z ok m k => exact Cm.bind _ fun m => Cm.bind _ fun k => Cm.read (fun hp => alkp hp ag ks z ok m k) fun hp y h => alkp_er h
  case mput ag ks m k x => exact Cm.bind _ fun m => Cm.bind _ fun k => Cm.bind _ fun x => cm_mput
  case ment ag ks z m k => exact Cm.bind _ fun m => Cm.bind _ fun k => cm_ment
  case est m st x => exact Cm.bind _ fun m => Cm.bind _ fun st => Cm.bind _ fun x => cm_est
  case len x => exact Cm.bind _ fun x => cm_len
  case lenS x =>
    refine Cm.bind _ fun x => ?_
    unfold lenS
    split
    · exact Cm.some _
    · exact Cm.none
  case slc n x lo hi mx =>
    refine Cm.bind _ fun x => Cm.bind _ fun lo => Cm.bind _ fun hi => Cm.bind _ fun mx => ?_
    unfold slcStep
    split
    · exact Cm.none
    · exact Cm.const _
  case sls x lo hi =>
    refine Cm.bind _ fun x => Cm.bind _ fun lo => Cm.bind _ fun hi => ?_
    unfold slsStep
    split
    · exact Cm.const _
    · exact Cm.none
  all_goals first
    | exact Cm.bind _ fun _ => Cm.const _
    | exact Cm.bind _ fun _ => Cm.bind _ fun _ => Cm.const _

end Go.Abs
