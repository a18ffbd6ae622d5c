/- Values without the heap: what a call left behind is closed for good. No condition. -/
import Derived.Test.YtbcmdjlgdnippaaGreatDoorX1
set_option linter.unusedVariables false
set_option linter.unusedSimpArgs false
namespace Go.Abs
open Go.RowKit

def mapO {α β : Type} (f : α → Option β) : List α → Option (List β)
  | [] => some []
  | x :: r => match f x with
    | some y => match mapO f r with
      | some l => some (y :: l)
      | none => none
    | none => none

theorem mapO_get {α β : Type} {f : α → Option β} : ∀ {l : List α} {r : List β}, mapO f l = some r → r.length = l.length ∧ ∀ (i : Nat) x y, l[i]? = some x → r[i]? = some y → f x = some y
  | [], r, h => by cases h; exact ⟨rfl, fun i x y hx => by simp at hx⟩
  | a :: l, r, h => by
    simp only [mapO] at h
    split at h
    · rename_i y hy
      split at h
      · rename_i l' hl
        cases h
        obtain ⟨h1, h2⟩ := mapO_get hl
        refine ⟨by simp [h1], fun i x z hx hz => ?_⟩
        cases i with
        | zero => simp at hx hz; subst hx; subst hz; exact hy
        | succ i => simp at hx hz; exact h2 i x z hx hz
      · cases h
    · cases h

/-- The elements of a row. -/
def chunks (sz : Nat) (cs : List AV) (off : Nat) : Nat → List AV
  | 0 => []
  | n + 1 => .agg ((cs.drop off).take sz) :: chunks sz cs (off + sz) n

theorem chunks_get {sz : Nat} {cs : List AV} : ∀ {n off i : Nat}, i < n → (chunks sz cs off n)[i]? = some (.agg ((cs.drop (off + i * sz)).take sz))
  | n + 1, off, 0, _ => by simp [chunks]
  | n + 1, off, i + 1, h => by
    simp only [chunks, List.getElem?_cons_succ]
    rw [chunks_get (by omega), show off + sz + i * sz = off + (i + 1) * sz by rw [Nat.succ_mul]; omega]
theorem chunks_len {sz : Nat} {cs : List AV} : ∀ {n off : Nat}, (chunks sz cs off n).length = n
  | 0, off => rfl
  | n + 1, off => by simp [chunks, chunks_len]

/-- A value with all that it reaches in the heap, closed. -/
def fzA (hp : List Blk) : Nat → AV → Option AV
  | 0, _ => none
  | n + 1, x => match x with
    | .v x => some (.v x)
    | .nsl => some .nsl
    | .agg cs => (mapO (fzA hp n) cs).map .agg
    | .tup cs => (mapO (fzA hp n) cs).map .tup
    | .sl xs _ => (mapO (fzA hp n) xs).map fun ys => .sl ys .no
    | .fp cs off => (mapO (fzA hp n) cs).map fun ds => .fp ds off
    | .ifc t x => (fzA hp n x).map (.ifc t)
    | .fn f a b => (mapO (fzA hp n) a).bind fun a => (mapO (fzA hp n) b).map fun b => .fn f a b
    | .mp k off => match hp[k]? with
      | some (.cells cs false) => (mapO (fzA hp n) cs).map fun ds => .fp ds off
      | _ => none
    | .rp k m off => match hp[k]? with
      | some (.cells cs true) => if m = cs.length then (mapO (fzA hp n) cs).map fun ds => .fp ds off else none
      | _ => none
    | .rs k m sz off len => match hp[k]? with
      | some (.cells cs true) => if m = cs.length then (mapO (fzA hp n) cs).map fun ds => .sl (chunks sz ds off len) .no else none
      | _ => none
    | _ => none

theorem cells_fz {hp : List Blk} {n : Nat} {x y : AV} (h : fzA hp n x = some y) (hx : ∀ cs, x ≠ .agg cs) : y.cells = [y] := by
  cases n with
  | zero => cases h
  | succ n =>
    unfold fzA at h
    cases x <;> simp only at h
    case agg cs => exact (hx cs rfl).elim
    case v x => cases h; rfl
    case nsl => cases h; rfl
    case mp k off => split at h <;> first | cases h; done | (simp only [Option.map_eq_some_iff] at h; obtain ⟨_, _, rfl⟩ := h; rfl)
    case rp k m off => split at h <;> first | cases h; done | (split at h <;> first | cases h; done | (simp only [Option.map_eq_some_iff] at h; obtain ⟨_, _, rfl⟩ := h; rfl))
    case rs k m sz off len => split at h <;> first | cases h; done | (split at h <;> first | cases h; done | (simp only [Option.map_eq_some_iff] at h; obtain ⟨_, _, rfl⟩ := h; rfl))
    case fn f a b =>
      simp only [Option.bind_eq_some_iff, Option.map_eq_some_iff] at h
      obtain ⟨_, _, _, _, rfl⟩ := h
      rfl
    all_goals first
      | (cases h; done)
      | (simp only [Option.map_eq_some_iff] at h; obtain ⟨_, _, rfl⟩ := h; rfl)

theorem fz_rep {C C' : Cells} {M : List Loc} {hp hpz : List Blk} (hC : ∀ b o v, C b o = some v → C' b o = some v)
    (hm : ∀ (k : Nat) cs row L, hpz[k]? = some (.cells cs row) → M[k]? = some L → ∀ (i : Nat) c, cs[i]? = some c → ∃ c', C' L.b i = some c' ∧ Rep C M hp c c') (hz : ∀ (k : Nat) cs row, hpz[k]? = some (.cells cs row) → hp[k]? = some (.cells cs row)) :
    ∀ {n : Nat} {x r : AV} {v : Value}, fzA hpz n x = some r → Rep C M hp x v → Rep C' [] [] r v := by
  intro n
  induction n with
  | zero => intro x r v h; cases h
  | succ n ih =>
    intro x r v h hr
    have lst : ∀ {cs ds : List AV} {f : Nat → Value}, mapO (fzA hpz n) cs = some ds → (∀ (i : Nat) c, cs[i]? = some c → Rep C M hp c (f i)) → ∀ (i : Nat) d, ds[i]? = some d → ∃ c, cs[i]? = some c ∧ Rep C' [] [] d (f i) := by
      intro cs ds f hm' hR i d hd
      obtain ⟨e1, e2⟩ := mapO_get hm'
      have hi : i < cs.length := by rw [← e1]; exact (List.getElem?_eq_some_iff.1 hd).1
      exact ⟨cs[i], List.getElem?_eq_getElem hi, ih (e2 i _ _ (List.getElem?_eq_getElem hi) hd) (hR i _ (List.getElem?_eq_getElem hi))⟩
    have blk : ∀ {k : Nat} {cs ds : List AV} {row : Bool} {L : Loc}, hpz[k]? = some (.cells cs row) → M[k]? = some L → mapO (fzA hpz n) cs = some ds → ∀ off, Rep C' [] [] (.fp ds off) (.pointer (some ⟨L.b, off, none⟩)) ∧ ∀ (i : Nat) d, ds[i]? = some d → ∃ c', C' L.b i = some c' ∧ Rep C' [] [] d c' := by
      intro k cs ds row L hk hM hm' off
      obtain ⟨e1, e2⟩ := mapO_get hm'
      have key : ∀ (i : Nat) d, ds[i]? = some d → ∃ c', C' L.b i = some c' ∧ Rep C' [] [] d c' := by
        intro i d hd
        have hi : i < cs.length := by rw [← e1]; exact (List.getElem?_eq_some_iff.1 hd).1
        obtain ⟨c', q1, q2⟩ := hm k cs row L hk hM i cs[i] (List.getElem?_eq_getElem hi)
        exact ⟨c', q1, ih (e2 i _ _ (List.getElem?_eq_getElem hi) hd) q2⟩
      refine ⟨?_, key⟩
      have := Rep.fp (C := C') (M := []) (hp := []) (cs := ds) (off := off) (b := L.b) (o := 0) (fun i => (C' L.b i).getD undef) (fun i d hd => by
        obtain ⟨c', q1, _⟩ := key i d hd
        rw [Nat.zero_add, q1]; rfl) (fun i d hd => by
        obtain ⟨c', q1, q2⟩ := key i d hd
        rw [q1]; exact q2)
      simpa using this
    unfold fzA at h
    cases hr with
    | v hp' => simp only at h; cases h; exact .v hp'
    | nsl => simp only at h; cases h; exact .nsl
    | agg hl hh =>
      rename_i cs cs'
      simp only [Option.map_eq_some_iff] at h
      obtain ⟨ds, h1, rfl⟩ := h
      obtain ⟨e1, e2⟩ := mapO_get h1
      refine .agg (by omega) fun i a b ha hb => ?_
      have hi : i < cs.length := by rw [← e1]; exact (List.getElem?_eq_some_iff.1 ha).1
      exact ih (e2 i _ _ (List.getElem?_eq_getElem hi) ha) (hh i _ b (List.getElem?_eq_getElem hi) hb)
    | tup hl hh =>
      rename_i cs cs'
      simp only [Option.map_eq_some_iff] at h
      obtain ⟨ds, h1, rfl⟩ := h
      obtain ⟨e1, e2⟩ := mapO_get h1
      refine .tup (by omega) fun i a b ha hb => ?_
      have hi : i < cs.length := by rw [← e1]; exact (List.getElem?_eq_some_iff.1 ha).1
      exact ih (e2 i _ _ (List.getElem?_eq_getElem hi) ha) (hh i _ b (List.getElem?_eq_getElem hi) hb)
    | sl f hsp hsz hC1 hR hT hcap =>
      rename_i xs t a cap sz
      simp only [Option.map_eq_some_iff] at h
      obtain ⟨ys, h1, rfl⟩ := h
      obtain ⟨e1, e2⟩ := mapO_get h1
      have el : ∀ (i : Nat) y, ys[i]? = some y → ∃ x, xs[i]? = some x ∧ y.cells.length = x.cells.length ∧ ∀ (j : Nat) d, y.cells[j]? = some d → ∃ c, x.cells[j]? = some c ∧ Rep C' [] [] d (f i j) := by
        intro i y hy
        have hi : i < xs.length := by rw [← e1]; exact (List.getElem?_eq_some_iff.1 hy).1
        have hx := List.getElem?_eq_getElem hi
        have hf := e2 i _ _ hx hy
        refine ⟨xs[i], hx, ?_⟩
        by_cases hag : ∃ cs, xs[i] = .agg cs
        · obtain ⟨cs, hcs⟩ := hag
          rw [hcs] at hf hx ⊢
          cases n with
          | zero => cases hf
          | succ n =>
            unfold fzA at hf
            simp only [Option.map_eq_some_iff] at hf
            obtain ⟨ds, q1, rfl⟩ := hf
            obtain ⟨g1, g2⟩ := mapO_get q1
            refine ⟨g1, fun j d hd => ?_⟩
            have hj : j < cs.length := by rw [← g1]; exact (List.getElem?_eq_some_iff.1 hd).1
            refine ⟨cs[j], List.getElem?_eq_getElem hj, ?_⟩
            -- one more step of fuel
            have := g2 j _ _ (List.getElem?_eq_getElem hj) hd
            have up : fzA hpz (n + 1) (.agg [cs[j]]) = some (.agg [d]) := by
              unfold fzA
              simp [mapO, this]
            have hrep : Rep C M hp (.agg [cs[j]]) (.agg #[f i j]) := .agg rfl fun i' a b ha hb => by
              cases i' with
              | zero => simp at ha hb; subst ha; subst hb; exact hR i _ j _ hx (List.getElem?_eq_getElem hj)
              | succ i' => simp at ha
            have := ih up hrep
            cases this with
            | agg hl hh => exact hh 0 d (f i j) rfl rfl
        · have hna : ∀ cs, xs[i] ≠ .agg cs := fun cs hcs => hag ⟨cs, hcs⟩
          have hyc := cells_fz hf hna
          have hxc : (xs[i]).cells = [xs[i]] := by
            cases hxi : xs[i] with
            | agg cs => exact (hna cs hxi).elim
            | _ => rfl
          rw [hyc, hxc]
          refine ⟨rfl, fun j d hd => ?_⟩
          cases j with
          | zero =>
            simp at hd
            subst hd
            exact ⟨xs[i], rfl, ih hf (hR i _ 0 _ hx (by rw [hxc]; rfl))⟩
          | succ j => simp at hd
      rw [← e1]
      refine .sl (sz := sz) f (fun hne => hsp (by intro e; subst e; simp at e1; exact hne e1)) (fun i y hy => ?_) (fun i y j d hy hd => ?_) (fun i y j d hy hd => ?_) trivial (by rw [e1]; exact hcap)
      · obtain ⟨x, hx, q1, _⟩ := el i y hy
        rw [q1]; exact hsz i x hx
      · obtain ⟨x, hx, _, q2⟩ := el i y hy
        obtain ⟨c, hc, _⟩ := q2 j d hd
        exact hC _ _ _ (hC1 i x j c hx hc)
      · obtain ⟨x, hx, _, q2⟩ := el i y hy
        obtain ⟨c, hc, hrep⟩ := q2 j d hd
        exact hrep
    | fp f hC1 hR =>
      simp only [Option.map_eq_some_iff] at h
      obtain ⟨ds, h1, rfl⟩ := h
      refine .fp f (fun i d hd => ?_) fun i d hd => ?_
      · obtain ⟨c, hc, _⟩ := lst h1 hR i d hd
        exact hC _ _ _ (hC1 i c hc)
      · obtain ⟨c, _, q⟩ := lst h1 hR i d hd
        exact q
    | ifc hx =>
      simp only [Option.map_eq_some_iff] at h
      obtain ⟨y, h1, rfl⟩ := h
      exact .ifc (ih h1 hx)
    | fn hlf hlc hf hc =>
      rename_i f fs cs fs' cs'
      simp only [Option.bind_eq_some_iff, Option.map_eq_some_iff] at h
      obtain ⟨a, h1, b, h2, rfl⟩ := h
      obtain ⟨e1, e2⟩ := mapO_get h1
      obtain ⟨g1, g2⟩ := mapO_get h2
      refine .fn (by omega) (by omega) (fun i x y hx hy => ?_) fun i x y hx hy => ?_
      · have hi : i < fs.length := by rw [← e1]; exact (List.getElem?_eq_some_iff.1 hx).1
        exact ih (e2 i _ _ (List.getElem?_eq_getElem hi) hx) (hf i _ y (List.getElem?_eq_getElem hi) hy)
      · have hi : i < cs.length := by rw [← g1]; exact (List.getElem?_eq_some_iff.1 hx).1
        exact ih (g2 i _ _ (List.getElem?_eq_getElem hi) hx) (hc i _ y (List.getElem?_eq_getElem hi) hy)
    | mp hb hM =>
      simp only at h
      split at h
      · rename_i cs hk
        simp only [Option.map_eq_some_iff] at h
        obtain ⟨ds, h1, rfl⟩ := h
        exact (blk hk hM h1 _).1
      · cases h
    | rp hb hM hn ha =>
      simp only at h
      split at h
      · rename_i cs hk
        split at h
        · rename_i hmn
          simp only [Option.map_eq_some_iff] at h
          obtain ⟨ds, h1, rfl⟩ := h
          have hk' := hz _ _ _ hk
          rw [hb] at hk'
          cases hk'
          rw [ha hmn]
          exact (blk hk hM h1 _).1
        · cases h
      · cases h
    | rs hb hM hn hlc ha =>
      rename_i k nn sz off len cap L cs0 a
      simp only at h
      split at h
      · rename_i cs hk
        split at h
        · rename_i hmn
          simp only [Option.map_eq_some_iff] at h
          obtain ⟨ds, h1, rfl⟩ := h
          have hk' := hz _ _ _ hk
          rw [hb] at hk'
          cases hk'
          obtain ⟨a1, a2, a3, a4⟩ := ha hmn
          rw [a1]
          obtain ⟨_, hcell⟩ := blk hk hM h1 0
          have hdl := (mapO_get h1).1
          have hge : ∀ (i : Nat) x, (chunks sz ds off len)[i]? = some x → i < len ∧ x = .agg ((ds.drop (off + i * sz)).take sz) := by
            intro i x hx
            have hi : i < len := by have := (List.getElem?_eq_some_iff.1 hx).1; rwa [chunks_len] at this
            rw [chunks_get hi] at hx
            exact ⟨hi, (Option.some.inj hx).symm⟩
          have hin : ∀ i, i < len → off + i * sz + sz ≤ ds.length := by
            intro i hi
            have : (i + 1) * sz ≤ len * sz := Nat.mul_le_mul_right _ hi
            rw [Nat.succ_mul] at this
            omega
          have hel : ∀ (i : Nat) x (j : Nat) c, (chunks sz ds off len)[i]? = some x → x.cells[j]? = some c → ds[off + i * sz + j]? = some c := by
            intro i x j c hx hc
            obtain ⟨hi, rfl⟩ := hge i x hx
            simp only [AV.cells] at hc
            have hj : j < sz := by have := (List.getElem?_eq_some_iff.1 hc).1; simp at this; omega
            rw [List.getElem?_take_of_lt hj, List.getElem?_drop] at hc
            exact hc
          have := Rep.sl (C := C') (M := []) (hp := []) (xs := chunks sz ds off len) (t := .no) (a := ⟨L.b, off, none⟩) (cap := cap) (sz := sz) (fun i j => (C' L.b (off + i * sz + j)).getD undef) (fun _ => rfl) (fun i x hx => by
              obtain ⟨hi, rfl⟩ := hge i x hx
              have := hin i hi
              simp only [AV.cells, List.length_take, List.length_drop]
              omega) (fun i x j c hx hc => by
              obtain ⟨c', q1, q2⟩ := hcell _ _ (hel i x j c hx hc)
              dsimp only
              rw [q1]; rfl) (fun i x j c hx hc => by
              obtain ⟨c', q1, q2⟩ := hcell _ _ (hel i x j c hx hc)
              rw [q1]; exact q2) trivial (by rw [chunks_len]; exact hlc)
          rw [chunks_len] at this
          exact this
        · cases h
      · cases h
    | ob hb hM => cases h
    | mapv hb hM => cases h
    | yd hb hM => cases h
    | bt hb hM => cases h

theorem fz_impC {n : Nat} {x r : AV} (h : fzA [] n x = some r) : ImpC x r := fun C M hp v hr => fz_rep (hpz := []) (fun _ _ _ q => q) (fun k cs row L hk => by simp at hk) (fun k cs row hk => by simp at hk) h hr

theorem fz_impCs {n : Nat} {as bs : List AV} (h : mapO (fzA [] n) as = some bs) : ImpCs as bs := by
  obtain ⟨e1, e2⟩ := mapO_get h
  exact ⟨e1.symm, fun i a b ha hb => fz_impC (e2 i a b ha hb)⟩

/-- A call on values without the heap, its outcome closed. -/
theorem pureSpec_close {G : Cells} {P : Program} {f : FuncId} {args : List AV} {r0 : AV} (h : CallOk G P f args [] fun r hp' => ∃ n, fzA hp' n r = some r0) : PureSpec G P f args r0 :=
  ⟨h.1, fun C w args' hg hc hr => (h.2 w.heap.size ⟨w, C⟩ C [] w args' (sim_start hg hc) hr).mono fun e w' ⟨C', M', hp', r, v', ⟨n, hfz⟩, he, hle, hsim, hrep⟩ => by
    refine ⟨fun b o => match C' b o with
      | some v => some v
      | none => if w.heap.size ≤ b then w'.cell? ⟨b, o, none⟩ else none, v', he, fun b o v q => ?_, fun b o v q => ?_, fun b o v q => ?_, hsim.below, ?_, trivial⟩
    · simp only [hle.C b o v q]
    · dsimp only at q
      split at q
      · rename_i u hu
        cases q
        rcases Nat.lt_or_ge b w.heap.size with hb | hb
        · exact Or.inl (hsim.old b o v hu hb)
        · exact Or.inr hb
      · split at q
        · rename_i hb; exact Or.inr hb
        · cases q
    · dsimp only at q
      split at q
      · rename_i u hu
        cases q
        exact hsim.froz b o v hu
      · split at q
        · exact q
        · cases q
    · refine fz_rep (hp := hp') (hpz := hp') (fun b o v q => by simp only [q]) (fun k cs row L hk hM i c hc => ?_) (fun _ _ _ q => q) hfz hrep
      obtain ⟨h1, h2, h3, h4, h5, h6⟩ := hsim.cells k cs row L hk hM
      obtain ⟨c', q1, q2⟩ := h3 i c hc
      refine ⟨c', ?_, q2⟩
      simp only [h5 i]
      rw [if_pos h1]
      exact q1⟩

end Go.Abs
