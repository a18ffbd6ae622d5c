/- A call that leaves the heap as it was: what it made is closed and forgotten. No condition. -/
import Derived.Test.YtbcmdjlgdnippaaGreatDoorX2
set_option linter.unusedVariables false
namespace Go.Abs
open Go.RowKit

/-- Every reference lies below n. -/
inductive Low (n : Nat) : AV → Prop
  | v {x : Value} : Low n (.v x)
  | agg {cs : List AV} (h : ∀ (i : Nat) c, cs[i]? = some c → Low n c) : Low n (.agg cs)
  | tup {cs : List AV} (h : ∀ (i : Nat) c, cs[i]? = some c → Low n c) : Low n (.tup cs)
  | nsl : Low n .nsl
  | sl {xs : List AV} {t : Tail} (ht : ∀ id, t = .tok id → id < n) (h : ∀ (i : Nat) x (j : Nat) c, xs[i]? = some x → x.cells[j]? = some c → Low n c) : Low n (.sl xs t)
  | fp {cs : List AV} {off : Nat} (h : ∀ (i : Nat) c, cs[i]? = some c → Low n c) : Low n (.fp cs off)
  | mp {k off : Nat} (h : k < n) : Low n (.mp k off)
  | rp {k m off : Nat} (h : k < n) : Low n (.rp k m off)
  | rs {k m sz off len : Nat} (h : k < n) : Low n (.rs k m sz off len)
  | ob {k : Nat} (h : k < n) : Low n (.ob k)
  | pan {ch : List PanicEntry} : Low n (.pan ch)
  | fn {f : Fn} {fs cs : List AV} (h1 : ∀ (i : Nat) c, fs[i]? = some c → Low n c) (h2 : ∀ (i : Nat) c, cs[i]? = some c → Low n c) : Low n (.fn f fs cs)
  | ifc {t : TypeId} {x : AV} (h : Low n x) : Low n (.ifc t x)
  | mapv {k : Nat} (h : k < n) : Low n (.mapv k)
  | yd {k : Nat} (h : k < n) : Low n (.yd k)
  | bt {k : Nat} {t : TypeId × Nat} (h : k < n) : Low n (.bt k t)

section
variable {G : Cells} {P : Program} {C : Cells} {M : List Loc} {hp : List Blk}

theorem get_lt {α : Type} {l : List α} {k : Nat} {x : α} (h : l[k]? = some x) : k < l.length := (List.getElem?_eq_some_iff.1 h).1

theorem ex_get {α : Type} {l : List AV} {a : Array α} (hl : l.length = a.size) {i : Nat} {c : AV} (hc : l[i]? = some c) : ∃ b, a[i]? = some b := ⟨_, Array.getElem?_eq_getElem (by rw [← hl]; exact get_lt hc)⟩

theorem Rep.low {x : AV} {v : Value} (h : Rep C M hp x v) : Low hp.length x := by
  induction h with
  | v h => exact .v
  | agg hl h ih =>
    refine .agg fun i c hc => ?_
    obtain ⟨b, hb⟩ := ex_get hl hc
    exact ih i c b hc hb
  | tup hl h ih =>
    refine .tup fun i c hc => ?_
    obtain ⟨b, hb⟩ := ex_get hl hc
    exact ih i c b hc hb
  | nsl => exact .nsl
  | sl f hsp hsz hC hR hT hcap ih =>
    refine .sl (fun id e => ?_) ih
    subst e
    obtain ⟨n, s, ty, L, q1, _⟩ := hT
    exact get_lt q1
  | fp f hC hR ih => exact .fp ih
  | mp hb hM => exact .mp (get_lt hb)
  | rp hb hM hn ha => exact .rp (get_lt hb)
  | rs hb hM hn hlc ha => exact .rs (get_lt hb)
  | ob hb hM => exact .ob (get_lt hb)
  | fn hlf hlc hf hc ihf ihc =>
    refine .fn (fun i c h => ?_) fun i c h => ?_
    · obtain ⟨b, hb⟩ := ex_get hlf h
      exact ihf i c b h hb
    · obtain ⟨b, hb⟩ := ex_get hlc h
      exact ihc i c b h hb
  | ifc h ih => exact .ifc ih
  | mapv hb hM => exact .mapv (get_lt hb)
  | yd hb hM => exact .yd (get_lt hb)
  | bt hb hM => exact .bt (get_lt hb)

theorem take_get {α : Type} {l : List α} {n k : Nat} (h : k < n) : (l.take n)[k]? = l[k]? := by
  rw [List.getElem?_take]; simp [h]

/-- What refers to old blocks only means the same when the new ones are forgotten. -/
theorem Rep.trunc {n : Nat} {x : AV} {v : Value} (h : Rep C M hp x v) : Low n x → Rep C (M.take n) (hp.take n) x v := by
  induction h with
  | v h => intro _; exact .v h
  | agg hl h ih => intro hL; cases hL with | agg q => exact .agg hl fun i a b ha hb => ih i a b ha hb (q i a ha)
  | tup hl h ih => intro hL; cases hL with | tup q => exact .tup hl fun i a b ha hb => ih i a b ha hb (q i a ha)
  | nsl => intro _; exact .nsl
  | sl f hsp hsz hC hR hT hcap ih =>
    intro hL
    cases hL with
    | sl ht q =>
      refine .sl f hsp hsz hC (fun i x j c hx hc => ih i x j c hx hc (q i x j c hx hc)) ?_ hcap
      rename_i xs t a cap sz
      cases t with
      | exact => exact hT
      | no => exact hT
      | tok id =>
        have hid := ht id rfl
        obtain ⟨n', s, ty, L, q1, q2, q3⟩ := hT
        exact ⟨n', s, ty, L, by rw [take_get hid]; exact q1, by rw [take_get hid]; exact q2, q3⟩
  | fp f hC hR ih => intro hL; cases hL with | fp q => exact .fp f hC fun i c hc => ih i c hc (q i c hc)
  | mp hb hM => intro hL; cases hL with | mp q => exact .mp (by rw [take_get q]; exact hb) (by rw [take_get q]; exact hM)
  | rp hb hM hn ha => intro hL; cases hL with | rp q => exact .rp (by rw [take_get q]; exact hb) (by rw [take_get q]; exact hM) hn ha
  | rs hb hM hn hlc ha => intro hL; cases hL with | rs q => exact .rs (by rw [take_get q]; exact hb) (by rw [take_get q]; exact hM) hn hlc ha
  | ob hb hM => intro hL; cases hL with | ob q => exact .ob (by rw [take_get q]; exact hb) (by rw [take_get q]; exact hM)
  | fn hlf hlc hf hc ihf ihc => intro hL; cases hL with | fn q1 q2 => exact .fn hlf hlc (fun i a b ha hb => ihf i a b ha hb (q1 i a ha)) fun i a b ha hb => ihc i a b ha hb (q2 i a ha)
  | ifc h ih => intro hL; cases hL with | ifc q => exact .ifc (ih q)
  | mapv hb hM => intro hL; cases hL with | mapv q => exact .mapv (by rw [take_get q]; exact hb) (by rw [take_get q]; exact hM)
  | yd hb hM => intro hL; cases hL with | yd q => exact .yd (by rw [take_get q]; exact hb) (by rw [take_get q]; exact hM)
  | bt hb hM => intro hL; cases hL with | bt q => exact .bt (by rw [take_get q]; exact hb) (by rw [take_get q]; exact hM)

/-- The heap, its first blocks hidden. -/
def mask (n : Nat) (hp : List Blk) : List Blk := List.replicate n (.tok 0 0 0) ++ hp.drop n

theorem mask_cells {n : Nat} {hp : List Blk} {k : Nat} {cs : List AV} {r : Bool} (h : (mask n hp)[k]? = some (.cells cs r)) : n ≤ k ∧ hp[k]? = some (.cells cs r) := by
  unfold mask at h
  rcases Nat.lt_or_ge k n with q | q
  · rw [List.getElem?_append_left (by simpa using q)] at h
    rw [List.getElem?_replicate] at h
    split at h <;> simp at h
  · rw [List.getElem?_append_right (by simpa using q)] at h
    simp only [List.length_replicate, List.getElem?_drop] at h
    exact ⟨q, by rw [← h]; congr 1; omega⟩

theorem mask_er (n : Nat) (hp : List Blk) : mask n (hp.map er) = (mask n hp).map er := by
  unfold mask
  rw [List.map_append, List.map_replicate, List.map_drop]
  rfl

/-- Blocks of a kind whose contents are told by what a run looks at. -/
theorem er_same {b b' : Blk} (h : er b = er b') : (b' = b ∨ (∃ st pd ats ps ok, b = .loopb st pd ats ps ok) ∨ (∃ c c', b = .obj (.deferred c) ∧ b' = .obj (.deferred c'))) := by
  cases b with
  | cells cs r => cases b' with
    | cells cs' r' => left; exact h.symm
    | obj o => cases o <;> cases h
    | _ => cases h
  | tok n s e => cases b' with
    | tok n' s' e' => left; exact h.symm
    | obj o => cases o <;> cases h
    | _ => cases h
  | mapb es cl => cases b' with
    | mapb es' cl' => left; exact h.symm
    | obj o => cases o <;> cases h
    | _ => cases h
  | loopb st pd ats ps ok => right; left; exact ⟨_, _, _, _, _, rfl⟩
  | obj o =>
    cases o with
    | deferred c => cases b' with
      | obj o' => cases o' <;> first | (right; right; exact ⟨_, _, rfl, rfl⟩) | cases h
      | _ => cases h
    | _ => cases b' with
      | obj o' => left; cases o' <;> first | exact h.symm | cases h
      | _ => cases h

theorem CallOk.close {f : FuncId} {args : List AV} {hp : List Blk} {r0 : AV} (h : CallOk G P f args hp fun r hp' => (hp'.map er).take hp.length = hp.map er ∧ Keeps hp hp' ∧ ∃ n, fzA (mask hp.length hp') n r = some r0) :
    CallOk G P f args hp fun r hp' => r = r0 ∧ hp'.map er = hp.map er ∧ Keeps hp hp' := by
  classical
  refine ⟨h.1, fun base w0 C M w args' hs hr => (h.2 base w0 C M w args' hs hr).mono ?_⟩
  rintro e w' ⟨C', M', hp', r, v', ⟨hsame, hkeep, n, hfz⟩, he, hle, hsim, hrep⟩
  have hN : hp.length ≤ hp'.length := hle.length
  have hMl : M.length = hp.length := hs.mlen
  have hMl' : M'.length = hp'.length := hsim.mlen
  let isNew : Nat → Prop := fun b => ∃ (k : Nat) (L : Loc), hp.length ≤ k ∧ M'[k]? = some L ∧ L.b = b
  let C2 : Cells := fun b o => match C' b o with
    | some v => some v
    | none => if isNew b then w'.cell? ⟨b, o, none⟩ else none
  have hC2 : ∀ b o v, C' b o = some v → C2 b o = some v := fun b o v q => by simp only [C2, q]
  have hlow : ∀ {k : Nat} {b : Blk}, hp[k]? = some b → ∃ b', hp'[k]? = some b' ∧ er b = er b' := fun {k b} hb => by
    have hk := get_lt hb
    have : ((hp'.map er).take hp.length)[k]? = (hp.map er)[k]? := by rw [hsame]
    rw [take_get hk, List.getElem?_map, List.getElem?_map, hb] at this
    cases hb' : hp'[k]? with
    | none => rw [hb'] at this; cases this
    | some b' => rw [hb'] at this; exact ⟨b', rfl, by simpa using this.symm⟩
  have hcellsk : ∀ {k : Nat} {cs : List AV} {fz : Bool}, k < hp.length → hp'[k]? = some (.cells cs fz) → hp[k]? = some (.cells cs fz) := fun {k cs fz} hk hb' => by
    obtain ⟨b, hb⟩ : ∃ b, hp[k]? = some b := ⟨_, List.getElem?_eq_getElem hk⟩
    obtain ⟨b2, h1, h2⟩ := hlow hb
    rw [hb'] at h1
    cases h1
    rcases er_same h2 with q | ⟨_, _, _, _, _, q⟩ | ⟨_, _, _, q⟩
    · rw [hb, q]
    · rw [q] at h2; cases h2
    · cases q
  have hMk : ∀ {k : Nat}, k < hp.length → M'[k]? = M[k]? := fun {k} hk => by
    obtain ⟨b, hb⟩ : ∃ b, hp[k]? = some b := ⟨_, List.getElem?_eq_getElem hk⟩
    obtain ⟨b2, h1, h2⟩ := hlow hb
    cases b with
    | cells cs fz =>
      obtain ⟨cs', q1, _, q3, _⟩ := hle.cells k cs fz hb
      have := hcellsk hk q1
      rw [hb] at this
      cases this
      exact q3 fun _ => rfl
    | tok n s ty =>
      obtain ⟨n', q1, _, q3, _⟩ := hle.toks k n s ty hb
      rw [h1] at q1
      cases q1
      rcases er_same h2 with q | ⟨_, _, _, _, _, q⟩ | ⟨_, _, q, _⟩
      · cases q; exact q3 rfl
      · cases q
      · cases q
    | obj o => exact (hle.objs k _ rfl hb).2
    | mapb es cl => exact (hle.objs k _ rfl hb).2
    | loopb st pd ats ps ok => exact (hle.objs k _ rfl hb).2
  have hnone : ∀ {k : Nat} {L : Loc} {o : Nat}, k < hp.length → M'[k]? = some L → C' L.b o = none → C2 L.b o = none := fun {k L o} hk hM hc => by
    simp only [C2, hc]
    rw [if_neg]
    rintro ⟨k', L', h1, h2, h3⟩
    exact hsim.apart k' k L' L (by omega) h2 hM h3
  have htrunc : ∀ {x : AV} {v : Value}, Low hp.length x → Rep C' M' hp' x v → Rep C2 (M'.take hp.length) (hp'.take hp.length) x v := fun hl hr => by
    have h1 := hr.trunc hl
    exact h1.mono ⟨hC2, fun k cs fz q => ⟨cs, q, fun _ => Nat.le_refl _, fun _ => rfl, fun q => q⟩, fun k n s ty q => ⟨n, q, Nat.le_refl _, fun _ => rfl, fun q => q⟩, fun k b hb q => ⟨⟨b, q, Blk.like.refl b⟩, rfl⟩⟩
  have hlt : ∀ {k : Nat} {b : Blk}, (hp'.take hp.length)[k]? = some b → k < hp.length ∧ hp'[k]? = some b := fun {k b} hb => by
    have hk : k < hp.length := by have := get_lt hb; rw [List.length_take] at this; omega
    rw [take_get hk] at hb
    exact ⟨hk, hb⟩
  have hltM : ∀ {k : Nat} {L : Loc}, k < hp.length → (M'.take hp.length)[k]? = some L → M'[k]? = some L := fun {k L} hk hb => by
    rw [take_get hk] at hb; exact hb
  refine ⟨C2, M'.take hp.length, hp'.take hp.length, r0, v', ⟨rfl, ?_, ?_⟩, he, ?_, ?_, ?_⟩
  · rw [List.map_take]; exact hsame
  · intro k st pd ats ps ok hk
    obtain ⟨st', pd', q⟩ := hkeep k st pd ats ps ok hk
    exact ⟨st', pd', by rw [take_get (get_lt hk)]; exact q⟩
  · -- Le
    refine ⟨fun b o v q => hC2 _ _ _ (hle.C b o v q), fun k cs fz hk => ?_, fun k n s ty hk => ?_, fun k b hb hk => ?_⟩
    · have hkl := get_lt hk
      obtain ⟨cs', q1, _⟩ := hle.cells k cs fz hk
      have := hcellsk hkl q1
      rw [hk] at this
      cases this
      exact ⟨cs, by rw [take_get hkl]; exact q1, fun _ => Nat.le_refl _, fun _ => by rw [take_get hkl]; exact hMk hkl, fun q => by rw [take_get hkl, hMk hkl]; exact q⟩
    · have hkl := get_lt hk
      obtain ⟨n', q1, q2, q3, q4⟩ := hle.toks k n s ty hk
      exact ⟨n', by rw [take_get hkl]; exact q1, q2, fun _ => by rw [take_get hkl]; exact hMk hkl, fun q => by rw [take_get hkl, hMk hkl]; exact q⟩
    · have hkl := get_lt hk
      obtain ⟨⟨b', q1, q2⟩, q3⟩ := hle.objs k b hb hk
      exact ⟨⟨b', by rw [take_get hkl]; exact q1, q2⟩, by rw [take_get hkl]; exact q3⟩
  · -- Sim
    refine ⟨hsim.below, hsim.basele, fun b o v q hb => ?_, fun b o v q => hC2 _ _ _ (hsim.glob b o v q), ?_, fun b o v q => ?_, fun k cs fz L hk hM => ?_, fun k n s ty L hk hM => ?_, fun k k' L L' hne hM hM' => ?_, fun k b L hb hk hM => ?_⟩
    · simp only [C2] at q
      split at q
      · rename_i u hu; cases q; exact hsim.old b o _ hu hb
      · split at q
        · rename_i hn
          obtain ⟨k, L, h1, h2, h3⟩ := hn
          have := (hsim.at h2).2
          omega
        · cases q
    · rw [List.length_take, List.length_take, hMl']
    · simp only [C2] at q
      split at q
      · rename_i u hu; cases q; exact hsim.froz b o _ hu
      · split at q
        · exact q
        · cases q
    · obtain ⟨hkl, hk'⟩ := hlt hk
      have hM' := hltM hkl hM
      obtain ⟨t1, t2, t3, t4, t5, t6, t7⟩ := hsim.cells k cs fz L hk' hM'
      refine ⟨t1, t2, fun i c hc => ?_, t4, fun o => hnone hkl hM' (t5 o), t6, t7⟩
      obtain ⟨c', q1, q2⟩ := t3 i c hc
      refine ⟨c', q1, htrunc ?_ q2⟩
      have hk0 := hcellsk hkl hk'
      rw [hMk hkl] at hM'
      obtain ⟨_, _, s3, _⟩ := hs.cells k cs fz L hk0 hM'
      obtain ⟨c0, _, q3⟩ := s3 i c hc
      exact q3.low
    · obtain ⟨hkl, hk'⟩ := hlt hk
      have hM' := hltM hkl hM
      obtain ⟨t1, t2, t3, t4, t5, t6⟩ := hsim.toks k n s ty L hk' hM'
      exact ⟨t1, t2, t3, fun o ho => hnone hkl hM' (t4 o ho), t5, t6⟩
    · have e1 : k < hp.length := by have := get_lt hM; rw [List.length_take] at this; omega
      have e2 : k' < hp.length := by have := get_lt hM'; rw [List.length_take] at this; omega
      exact hsim.apart k k' L L' hne (hltM e1 hM) (hltM e2 hM')
    · obtain ⟨hkl, hk'⟩ := hlt hk
      have hM' := hltM hkl hM
      obtain ⟨t1, o, t2, t3, t4⟩ := hsim.objs k b L hb hk' hM'
      refine ⟨t1, o, t2, t3, ?_⟩
      obtain ⟨b0, hb0⟩ : ∃ b, hp[k]? = some b := ⟨_, List.getElem?_eq_getElem hkl⟩
      obtain ⟨b2, h1, h2⟩ := hlow hb0
      rw [hk'] at h1
      cases h1
      have hM0 : M[k]? = some L := by rw [← hMk hkl]; exact hM'
      cases b with
      | obj o' => exact t4
      | mapb es cl =>
        rcases er_same h2 with q | ⟨_, _, _, _, _, q⟩ | ⟨_, _, _, q⟩
        · subst q
          obtain ⟨_, o0, _, _, entries0, _, hl0, hh0⟩ := hs.objs k _ L rfl hb0 hM0
          obtain ⟨entries, e1, e2, e3⟩ := t4
          refine ⟨entries, e1, e2, fun i a b ha hb => ?_⟩
          obtain ⟨b1, hb1⟩ : ∃ b1, entries0.toList[i]? = some b1 := ⟨_, List.getElem?_eq_getElem (by rw [← hl0]; exact get_lt ha)⟩
          obtain ⟨u1, u2, _⟩ := hh0 i a b1 ha hb1
          obtain ⟨v1, v2, v3⟩ := e3 i a b ha hb
          exact ⟨htrunc u1.low v1, htrunc u2.low v2, v3⟩
        · rw [q] at h2; cases h2
        · cases q
      | loopb st pd ats ps ok =>
        obtain ⟨fn, tmps, assign, body, D, e1, e2, e3, e4⟩ := t4
        refine ⟨fn, tmps, assign, body, D, e1, e2, e3, fun i a b ha hb => htrunc ?_ (e4 i a b ha hb)⟩
        cases b0 with
        | loopb st0 pd0 ats0 ps0 ok0 =>
          obtain ⟨st', pd', q⟩ := hkeep k st0 pd0 ats0 ps0 ok0 hb0
          rw [hk'] at q
          cases q
          obtain ⟨_, o0, _, _, fn0, tmps0, as0, bd0, D0, _, _, g3, g4⟩ := hs.objs k _ L rfl hb0 hM0
          obtain ⟨b1, hb1⟩ : ∃ b1, tmps0[i]? = some b1 := ⟨_, Array.getElem?_eq_getElem (by rw [← g3]; exact get_lt ha)⟩
          exact (g4 i a b1 ha hb1).low
        | obj o => cases o <;> cases h2
        | _ => cases h2
      | cells cs fz => cases hb
      | tok n s e => cases hb
  · -- the outcome
    refine (fz_rep (C' := C2) (hpz := mask hp.length hp') hC2 (fun k cs row L hk hM i c hc => ?_) (fun k cs row hk => ?_) hfz hrep).mono le_nil
    · obtain ⟨hk1, hk2⟩ := mask_cells hk
      obtain ⟨t1, t2, t3, t4, t5, _⟩ := hsim.cells k cs row L hk2 hM
      obtain ⟨c', q1, q2⟩ := t3 i c hc
      refine ⟨c', ?_, q2⟩
      simp only [C2, t5 i]
      rw [if_pos ⟨k, L, hk1, hM, rfl⟩]
      exact q1
    · exact (mask_cells hk).2

end
end Go.Abs
