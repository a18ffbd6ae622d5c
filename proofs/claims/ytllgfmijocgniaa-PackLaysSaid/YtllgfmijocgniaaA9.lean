/- More operations on abstract values: slice expressions, new variables, composite values, function values. No condition. -/
import Derived.Test.YtllgfmijocgniaaA8
namespace Go.Abs
open Go.RowKit

section
variable {base : Nat} {w0 : Root} {w : World} {C : Cells} {M : List Loc} {hp : List Blk} {P : Program}

/-! Slice expressions. -/

/-- A bound that is given, or none. -/
def bnd (top dflt : Nat) : Option Int → Option Nat
  | some v => if 0 ≤ v ∧ v ≤ top then some v.toNat else none
  | none => some dflt

def oint : Option AV → Option (Option Int)
  | none => some none
  | some (.v (.int _ i)) => some (some i)
  | _ => none

/-- Low, high, and the end of the room. -/
def bnds (len cap : Nat) (lo hi mx : Option Int) : Option (Nat × Nat × Nat) :=
  match bnd cap cap mx with
  | none => none
  | some m => if mx.isSome && hi.isNone then none else
    match bnd m len hi with
    | none => none
    | some h => match bnd h 0 lo with
      | none => none
      | some l => some (l, h, m)

/-- An optional operand, and what it holds. -/
def RepO (C : Cells) (M : List Loc) (hp : List Blk) : Option AV → Option Value → Prop
  | none, none => True
  | some a, some b => Rep C M hp a b
  | _, _ => False

theorem oint_cases {a : Option AV} {b : Option Value} {i : Option Int} (h : RepO C M hp a b) (hi : oint a = some i) : (b = none ∧ i = none) ∨ ∃ k n, b = some (.int k n) ∧ i = some n := by
  unfold oint at hi
  split at hi
  · cases hi
    cases b with
    | none => exact Or.inl ⟨rfl, rfl⟩
    | some b => exact h.elim
  · cases hi
    cases b with
    | none => exact h.elim
    | some b => cases h; exact Or.inr ⟨_, _, rfl, rfl⟩
  · cases hi

theorem run_sliceBound' {k : IntKind} {n : Int} {top d r : Nat} (code : BoundsCode) (h : bnd top d (some n) = some r) (w : World) : (Instr.sliceBound (.int k n) top code).run P w = .ok r w := by
  unfold bnd at h
  simp only at h
  split at h
  · rename_i hb
    cases h
    exact run_sliceBound w k n top code hb.1 hb.2
  · cases h

theorem bnd_le {top d r : Nat} {i : Option Int} (hd : d ≤ top) (h : bnd top d i = some r) : r ≤ top := by
  unfold bnd at h
  split at h
  · split at h
    · cases h; omega
    · cases h
  · cases h; exact hd

/-- The bounds, as the model asks them, where the room is what is known of it or more. -/
theorem run_bounds {isSlice : Bool} {len cap cap' : Nat} {lo hi mx : Option Value} {lo' hi' mx' : Option Int} {l h m : Nat} (hlo : (lo = none ∧ lo' = none) ∨ ∃ k n, lo = some (.int k n) ∧ lo' = some n)
    (hhi : (hi = none ∧ hi' = none) ∨ ∃ k n, hi = some (.int k n) ∧ hi' = some n) (hmx : (mx = none ∧ mx' = none) ∨ ∃ k n, mx = some (.int k n) ∧ mx' = some n) (hlc : len ≤ cap) (hcc : cap ≤ cap')
    (hb : bnds len cap lo' hi' mx' = some (l, h, m)) (w : World) :
    (Instr.sliceBounds isSlice len cap' lo hi mx).run P w = .ok (l, h, if mx'.isSome then m else cap') w ∧ l ≤ h ∧ h ≤ m ∧ m ≤ cap ∧ (mx' = none → m = cap) := by
  unfold bnds at hb
  split at hb
  · cases hb
  rename_i m₀ hm
  split at hb
  · cases hb
  rename_i hnn
  split at hb
  · cases hb
  rename_i h₀ hh
  split at hb
  · cases hb
  rename_i l₀ hl
  cases hb
  have hmc : m ≤ cap := bnd_le (Nat.le_refl _) hm
  have bmono : ∀ {top top' d r : Nat} {n : Int}, top ≤ top' → bnd top d (some n) = some r → bnd top' d (some n) = some r := by
    intro top top' d r n ht hq
    unfold bnd at hq ⊢
    simp only at hq ⊢
    split at hq
    · rename_i q
      rw [if_pos ⟨q.1, by omega⟩]; exact hq
    · cases hq
  have hlh : l ≤ h := bnd_le (Nat.zero_le _) hl
  rcases hmx with ⟨rfl, rfl⟩ | ⟨km, nm, rfl, rfl⟩
  · have hm0 : m = cap := by cases hm; rfl
    subst hm0
    have hhm : h ≤ m := bnd_le hlc hh
    refine ⟨?_, hlh, hhm, Nat.le_refl _, fun _ => rfl⟩
    unfold Instr.sliceBounds
    rcases hhi with ⟨rfl, rfl⟩ | ⟨kh, nh, rfl, rfl⟩ <;> rcases hlo with ⟨rfl, rfl⟩ | ⟨kl, nl, rfl, rfl⟩
    · cases hh; cases hl; simp
    · cases hh
      simp [run_sliceBound' (P := P) _ hl]
    · cases hl
      simp [run_sliceBound' (P := P) _ (bmono hcc hh)]
    · simp [run_sliceBound' (P := P) _ (bmono hcc hh), run_sliceBound' (P := P) _ hl]
  · rcases hhi with ⟨rfl, rfl⟩ | ⟨kh, nh, rfl, rfl⟩
    · simp at hnn
    have hhm : h ≤ m := by
      unfold bnd at hh
      simp only at hh
      split at hh
      · cases hh; omega
      · cases hh
    refine ⟨?_, hlh, hhm, hmc, fun q => by cases q⟩
    unfold Instr.sliceBounds
    have hm' := bmono (d := cap) (r := m) hcc (by unfold bnd at hm ⊢; exact hm)
    have hm'' : bnd cap' cap' (some nm) = some m := by unfold bnd at hm' ⊢; exact hm'
    rcases hlo with ⟨rfl, rfl⟩ | ⟨kl, nl, rfl, rfl⟩
    · cases hl
      simp [run_sliceBound' (P := P) _ hm'', run_sliceBound' (P := P) _ hh]
    · simp [run_sliceBound' (P := P) _ hm'', run_sliceBound' (P := P) _ hh, run_sliceBound' (P := P) _ hl]

/-- What is known of the room of a piece. -/
def tailOf (t : Tail) (len l h m : Nat) (mx : Bool) : Tail :=
  if mx then (if m = h then .exact else .no)
  else if h = len then (if l = 0 then t else match t with | .exact => .exact | _ => .no) else .no

def asl (n : Nat) (x : AV) (lo hi mx : Option AV) : Option AV :=
  match oint lo, oint hi, oint mx with
  | some l', some h', some m' => match x with
    | .nsl => match bnds 0 0 l' h' m' with
      | some _ => some .nsl
      | none => none
    | .sl xs t => match bnds xs.length xs.length l' h' m' with
      | some (l, h, m) => if xs.all (fun x => x.cells.length == n) then some (.sl ((xs.take h).drop l) (tailOf t xs.length l h m m'.isSome)) else none
      | none => none
    | .ms k off len cap => if len ≤ cap then match bnds len cap l' h' m' with
      | some (l, h, m) => some (.ms k (if m = l then off else off + l * n) (h - l) (m - l))
      | none => none
      else none
    | .v (.string s) => if mx.isSome then none else match bnds s.size s.size l' h' none with
      | some (l, h, _) => some (.v (.string (s.extract l h)))
      | none => none
    | _ => none
  | _, _, _ => none

theorem flat_take {n : Nat} : ∀ {zs : List AV}, (∀ z ∈ zs, z.cells.length = n) → ∀ k, flat (zs.take k) = (flat zs).take (k * n)
  | [], _, k => by simp [flat]
  | z :: r, h, k => by
    cases k with
    | zero => simp [flat]
    | succ k =>
      rw [List.take_succ_cons, flat_cons, flat_cons, flat_take (fun x hx => h x (by simp [hx])), Nat.add_mul, Nat.one_mul, List.take_append, h z (by simp), show k * n + n - n = k * n by omega,
        List.take_of_length_le (l := z.cells) (by rw [h z (by simp)]; omega)]

theorem flat_drop {n : Nat} : ∀ {zs : List AV}, (∀ z ∈ zs, z.cells.length = n) → ∀ k, flat (zs.drop k) = (flat zs).drop (k * n)
  | [], _, k => by simp [flat]
  | z :: r, h, k => by
    cases k with
    | zero => simp
    | succ k =>
      rw [List.drop_succ_cons, flat_cons, flat_drop (fun x hx => h x (by simp [hx])), Nat.add_mul, Nat.one_mul, List.drop_append, h z (by simp), show k * n + n - n = k * n by omega,
        List.drop_of_length_le (l := z.cells) (by rw [h z (by simp)]; omega), List.nil_append]

theorem gives_asl {t e : TypeId} {n : Nat} (ht : P.underlying t = some (.slice e)) (hn : tySize P e = some n) (h : Sim base w0 C M hp w) {x r : AV} {x' : Value} (hx : Rep C M hp x x') {lo hi mx : Option AV} {lo' hi' mx' : Option Value}
    (hlo : RepO C M hp lo lo') (hhi : RepO C M hp hi hi') (hmx : RepO C M hp mx mx') (hns : ∀ s, x ≠ .v (.string s)) (hr : asl n x lo hi mx = some r) : Gives base w0 C M hp P (Instr.sliceAt t x' lo' hi' mx') w r hp := by
  unfold asl at hr
  split at hr
  · rename_i l₁ h₁ m₁ el eh em
    have cl := oint_cases hlo el
    have ch := oint_cases hhi eh
    have cm := oint_cases hmx em
    split at hr
    · split at hr
      · rename_i q hq
        obtain ⟨l, hh, m⟩ := q
        cases hr
        cases hx
        obtain ⟨hrun, c1, c2, c3, c4⟩ := run_bounds (P := P) (isSlice := true) cl ch cm (Nat.le_refl 0) (Nat.le_refl 0) hq w
        have hm : m = 0 := by omega
        have hl : l = 0 := by omega
        have hh0 : hh = 0 := by omega
        subst hm; subst hl; subst hh0
        refine .same h ?_ .nsl
        simp [Instr.sliceAt, Instr.slice, run_underlying ht, hrun, run_sizeOf' hn]
      · cases hr
    · rename_i xs tl
      split at hr
      · rename_i l hh m hq
        split at hr
        · rename_i hall
          cases hr
          have hall' : ∀ z ∈ xs, z.cells.length = n := by
            intro z hz
            have := List.all_eq_true.1 hall z hz
            simpa using this
          cases x' <;> first | (cases hx; done) | skip
          rename_i b len cap
          cases b with
          | none => cases hx
          | some a =>
            obtain ⟨e1, hat, hspot, hcap⟩ := repSl_inv hx hall'
            subst e1
            obtain ⟨hrun, c1, c2, c3, c4⟩ := run_bounds (P := P) (isSlice := true) cl ch cm (Nat.le_refl _) hcap hq w
            refine ⟨C, M, _, w, by simp [Instr.sliceAt, Instr.slice, run_underlying ht, hrun, run_sizeOf' hn]; rfl, Le.refl _ _ _, h, ?_⟩
            have hlen : ((xs.take hh).drop l).length = hh - l := by simp; omega
            have hsub : ∀ z ∈ (xs.take hh).drop l, z.cells.length = n := fun z hz => hall' z (List.mem_of_mem_take (List.mem_of_mem_drop hz))
            generalize hM : (if m₁.isSome = true then m else cap) = m'
            have hm' : hh ≤ m' := by rw [← hM]; split <;> omega
            by_cases hml : m' = l
            · -- nothing, and no room
              rw [if_pos hml]
              have hhl : hh = l := by omega
              subst hhl
              have he : (xs.take hh).drop hh = [] := by apply List.eq_nil_of_length_eq_zero; omega
              rw [he, hml, Nat.sub_self]
              refine .sl (xs := []) (sz := n) (fun _ _ => undef) (fun q => (q rfl).elim) (fun i x hx => by simp at hx) (fun i x j c hx => by simp at hx) (fun i x j c hx => by simp at hx) ?_ (Nat.le_refl _)
              unfold tailOf
              split
              · split <;> simp [TailOk]
              · rename_i hmx0
                simp only [hmx0, Bool.false_eq_true, if_false] at hM
                split
                · rename_i hhx
                  split
                  · rename_i hl0
                    have hx0 : xs = [] := by apply List.eq_nil_of_length_eq_zero; omega
                    subst hx0
                    cases hx with
                    | sl f hsp hsz hC hR hT hcap' =>
                      cases tl with
                      | exact => simp [TailOk]
                      | no => simp [TailOk]
                      | tok id =>
                        obtain ⟨n1, s1, L, q1, q2, q3, q4, q5⟩ := hT
                        refine ⟨n1, s1, L, q1, q2, q3, Or.inl rfl, fun q => ?_⟩
                        obtain ⟨p1, p2, p3, p4⟩ := q5 q
                        refine ⟨p1, p2, p3, ?_⟩
                        have : cap = 0 := by omega
                        rw [this] at p4
                        simpa using p4
                  · split <;> simp [TailOk]
                · simp [TailOk]
            · rw [if_neg hml]
              have hmlt : l < m' := by omega
              obtain ⟨ab, ao, asp⟩ := a
              have hsp : asp = none ∨ (xs = [] ∨ True) := Or.inr (Or.inr trivial)
              by_cases hxn : xs = []
              · -- an empty row with room
                subst hxn
                have hl0 : l = 0 := by simp at c3 c2; omega
                have hh0 : hh = 0 := by simp at c3; omega
                subst hl0; subst hh0
                have hadd : (⟨ab, ao, asp⟩ : Addr).add (0 * n) = ⟨ab, ao, asp⟩ := by simp [Addr.add]
                rw [hadd]
                simp only [List.take_nil, List.drop_nil, Nat.sub_zero]
                refine .sl (xs := []) (sz := n) (fun _ _ => undef) (fun q => (q rfl).elim) (fun i x hx => by simp at hx) (fun i x j c hx => by simp at hx) (fun i x j c hx => by simp at hx) ?_ (Nat.zero_le _)
                unfold tailOf
                split
                · rename_i hmx1
                  simp only [hmx1, if_true] at hM
                  have : m = 0 := by simp at c3; omega
                  omega
                · rename_i hmx0
                  simp only [hmx0, Bool.false_eq_true, if_false] at hM
                  subst hM
                  simp only [List.length_nil, if_true]
                  cases hx with
                  | sl f hsp hsz hC hR hT hcap' =>
                    cases tl with
                    | exact => exact hT
                    | no => trivial
                    | tok id =>
                      obtain ⟨n1, s1, L, q1, q2, q3, q4, q5⟩ := hT
                      exact ⟨n1, s1, L, q1, q2, q3, Or.inl rfl, q5⟩
              · have hsp0 : asp = none := hspot hxn
                subst hsp0
                rw [addr_add]
                refine repSl' hlen.symm hsub ?_ ?_ (by omega)
                · rw [flat_drop (n := n) (fun z hz => hall' z (List.mem_of_mem_take hz)), flat_take hall']
                  exact (hat.take _).drop _
                · unfold tailOf
                  split
                  · rename_i hmx1
                    simp only [hmx1, if_true] at hM
                    split
                    · simp only [TailOk]; omega
                    · trivial
                  · rename_i hmx0
                    simp only [hmx0, Bool.false_eq_true, if_false] at hM
                    subst hM
                    split
                    · rename_i hhx
                      split
                      · rename_i hl0
                        subst hl0
                        subst hhx
                        cases hx with
                        | sl f hsp hsz hC hR hT hcap' =>
                          rename_i sz
                          have : sz = n := by
                            cases xs with
                            | nil => exact (hxn rfl).elim
                            | cons z r => rw [← hsz 0 z rfl]; exact hall' z (by simp)
                          subst this
                          simpa using hT
                      · cases tl with
                        | exact =>
                          cases hx with
                          | sl f hsp hsz hC hR hT hcap' =>
                            have hT' : cap = xs.length := hT
                            simp only [TailOk]; omega
                        | no => trivial
                        | tok id => trivial
                    · trivial
        · cases hr
      · cases hr
    · rename_i k off len cap
      split at hr
      · rename_i hlc
        split at hr
        · rename_i l hh m hq
          cases hr
          cases hx with
          | ms hb hM =>
            rename_i L cs fz
            obtain ⟨hrun, c1, c2, c3, c4⟩ := run_bounds (P := P) (isSlice := true) cl ch cm hlc (Nat.le_refl _) hq w
            have hmm : (if m₁.isSome = true then m else cap) = m := by
              split
              · rfl
              · rename_i q
                exact (c4 (by cases m₁ <;> simp at q ⊢)).symm
            rw [hmm] at hrun
            have hR : Rep C M hp (.ms k (if m = l then off else off + l * n) (hh - l) (m - l)) (.slice (some ⟨L.b, if m = l then off else off + l * n, none⟩) (hh - l) (m - l)) := .ms hb hM
            refine .same h ?_ hR
            simp [Instr.sliceAt, Instr.slice, run_underlying ht, hrun, run_sizeOf' hn]
            split <;> simp [addr_add]
        · cases hr
      · cases hr
    · rename_i s
      exact (hns s rfl).elim
    · cases hr
  · cases hr

theorem gives_asls {t : TypeId} {n : Nat} (ht : P.underlying t = some .string) (h : Sim base w0 C M hp w) {x r : AV} {x' : Value} (hx : Rep C M hp x x') {lo hi mx : Option AV} {lo' hi' mx' : Option Value}
    (hlo : RepO C M hp lo lo') (hhi : RepO C M hp hi hi') (hmx : RepO C M hp mx mx') (hs : ∃ s, x = .v (.string s)) (hr : asl n x lo hi mx = some r) : Gives base w0 C M hp P (Instr.sliceAt t x' lo' hi' mx') w r hp := by
  obtain ⟨s, rfl⟩ := hs
  cases hx
  unfold asl at hr
  split at hr
  · rename_i l₁ h₁ m₁ el eh em
    have cl := oint_cases hlo el
    have ch := oint_cases hhi eh
    simp only at hr
    split at hr
    · cases hr
    · rename_i hmn
      have hmn' : mx = none := by cases mx <;> simp at hmn ⊢
      subst hmn'
      have hmv : mx' = none := by cases mx' with | none => rfl | some b => exact hmx.elim
      subst hmv
      split at hr
      · rename_i l hh m hq
        cases hr
        obtain ⟨hrun, c1, c2, c3, c4⟩ := run_bounds (P := P) (isSlice := false) cl ch (Or.inl ⟨rfl, rfl⟩) (Nat.le_refl _) (Nat.le_refl _) hq w
        exact .same h (by simp [Instr.sliceAt, Instr.slice, run_underlying ht, hrun]) (.v rfl)
      · cases hr
  · cases hr

end
end Go.Abs
