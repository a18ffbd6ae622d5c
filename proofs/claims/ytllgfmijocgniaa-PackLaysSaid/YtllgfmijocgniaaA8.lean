/- More operations on abstract values: slices of slices, appends, rows of values. No condition. -/
import Derived.Test.YtllgfmijocgniaaA7
import Derived.Laws.BytesString
namespace Go.Abs
open Go.RowKit

section
variable {base : Nat} {w0 : Root} {w : World} {C : Cells} {M : List Loc} {hp : List Blk} {P : Program}

/-- All cells of a row of values. -/
def flat (zs : List AV) : List AV := zs.flatMap AV.cells

theorem flat_nil : flat [] = [] := rfl
theorem flat_cons (z : AV) (r : List AV) : flat (z :: r) = z.cells ++ flat r := by simp [flat]
theorem flat_append (a b : List AV) : flat (a ++ b) = flat a ++ flat b := by simp [flat]

theorem flat_length {n : Nat} : ∀ {zs : List AV}, (∀ z ∈ zs, z.cells.length = n) → (flat zs).length = zs.length * n
  | [], _ => by simp [flat]
  | z :: r, h => by
    rw [flat_cons, List.length_append, flat_length (fun x hx => h x (by simp [hx])), h z (by simp), List.length_cons, Nat.add_mul]
    omega

theorem flat_get {n : Nat} : ∀ {zs : List AV}, (∀ z ∈ zs, z.cells.length = n) → ∀ {i j : Nat} {z c : AV}, zs[i]? = some z → z.cells[j]? = some c → (flat zs)[i * n + j]? = some c
  | [], _, i, j, z, c, hz, _ => by simp at hz
  | y :: r, h, i, j, z, c, hz, hc => by
    have hy := h y (by simp)
    cases i with
    | zero =>
      simp at hz
      subst hz
      rw [flat_cons, Nat.zero_mul, Nat.zero_add, List.getElem?_append_left (List.getElem?_eq_some_iff.1 hc).1]
      exact hc
    | succ i =>
      simp at hz
      rw [flat_cons, Nat.add_mul, Nat.one_mul, List.getElem?_append_right (by omega), hy, show i * n + n + j - n = i * n + j by omega]
      exact flat_get (fun x hx => h x (by simp [hx])) hz hc

theorem flat_inv {n : Nat} : ∀ {zs : List AV}, (∀ z ∈ zs, z.cells.length = n) → ∀ {k : Nat} {c : AV}, (flat zs)[k]? = some c → ∃ i j z, k = i * n + j ∧ zs[i]? = some z ∧ z.cells[j]? = some c
  | [], _, k, c, hc => by simp [flat] at hc
  | y :: r, h, k, c, hc => by
    have hy := h y (by simp)
    rw [flat_cons] at hc
    rcases Nat.lt_or_ge k n with hk | hk
    · rw [List.getElem?_append_left (by omega)] at hc
      exact ⟨0, k, y, by omega, by simp, hc⟩
    · rw [List.getElem?_append_right (by omega), hy] at hc
      obtain ⟨i, j, z, e, h1, h2⟩ := flat_inv (fun x hx => h x (by simp [hx])) hc
      exact ⟨i + 1, j, z, by rw [Nat.add_mul]; omega, by simpa using h1, h2⟩

/-- Frozen cells, one behind the other. -/
def AtC (C : Cells) (M : List Loc) (hp : List Blk) (b o : Nat) (cs : List AV) : Prop :=
  ∀ (j : Nat) c, cs[j]? = some c → ∃ v, C b (o + j) = some v ∧ Rep C M hp c v

theorem AtC.mono {C' : Cells} {M' : List Loc} {hp' : List Blk} (hle : Le C M hp C' M' hp') {b o : Nat} {cs : List AV} (h : AtC C M hp b o cs) : AtC C' M' hp' b o cs :=
  fun j c hc => let ⟨v, h1, h2⟩ := h j c hc; ⟨v, hle.C _ _ _ h1, h2.mono hle⟩

theorem AtC.append {b o : Nat} {as bs : List AV} (h1 : AtC C M hp b o as) (h2 : AtC C M hp b (o + as.length) bs) : AtC C M hp b o (as ++ bs) := by
  intro j c hc
  rcases Nat.lt_or_ge j as.length with hj | hj
  · rw [List.getElem?_append_left hj] at hc; exact h1 j c hc
  · rw [List.getElem?_append_right hj] at hc
    obtain ⟨v, e1, e2⟩ := h2 _ c hc
    exact ⟨v, by rw [← e1]; congr 1; omega, e2⟩

theorem AtC.drop {b o : Nat} {cs : List AV} (h : AtC C M hp b o cs) (n : Nat) : AtC C M hp b (o + n) (cs.drop n) := by
  intro j c hc
  rw [List.getElem?_drop] at hc
  obtain ⟨v, e1, e2⟩ := h _ c hc
  exact ⟨v, by rw [← e1]; congr 1; omega, e2⟩

theorem AtC.take {b o : Nat} {cs : List AV} (h : AtC C M hp b o cs) (n : Nat) : AtC C M hp b o (cs.take n) := by
  intro j c hc
  rw [List.getElem?_take] at hc
  split at hc
  · exact h j c hc
  · cases hc

/-- The values that lie there. -/
theorem AtC.vals (h : Sim base w0 C M hp w) {b o : Nat} {cs : List AV} (ha : AtC C M hp b o cs) :
    ∃ vs : List Value, RepL C M hp cs vs ∧ ∀ (j : Nat) v, vs[j]? = some v → w.cell? ⟨b, o + j, none⟩ = some v := by
  refine ⟨(List.range cs.length).map fun j => (C b (o + j)).getD undef, ⟨by simp, fun i a v e1 e2 => ?_⟩, fun j v e => ?_⟩
  · obtain ⟨u, h1, h2⟩ := ha i a e1
    have hi : i < cs.length := (List.getElem?_eq_some_iff.1 e1).1
    simp [hi, h1] at e2
    subst e2
    exact h2
  · have hj : j < cs.length := by
      have := (List.getElem?_eq_some_iff.1 e).1
      simpa using this
    obtain ⟨u, h1, h2⟩ := ha j cs[j] (List.getElem?_eq_getElem hj)
    simp [hj, h1] at e
    subst e
    exact h.froz _ _ _ h1

theorem repSl {zs : List AV} {t : Tail} {b o cap n : Nat} (hn : ∀ z ∈ zs, z.cells.length = n) (ha : AtC C M hp b o (flat zs)) (hT : TailOk M hp ⟨b, o, none⟩ zs.length cap n t) (hcap : zs.length ≤ cap) :
    Rep C M hp (.sl zs t) (.slice (some ⟨b, o, none⟩) zs.length cap) := by
  refine .sl (fun i j => (C b (o + i * n + j)).getD undef) (fun _ => rfl) (fun i x hx => hn x (List.mem_of_getElem? hx)) (fun i x j c hx hc => ?_) (fun i x j c hx hc => ?_) hT hcap
  all_goals
    obtain ⟨v, h1, h2⟩ := ha _ c (flat_get hn hx hc)
    rw [← Nat.add_assoc] at h1
  · show C b (o + i * n + j) = _
    rw [h1]; rfl
  · rw [h1]; exact h2

theorem repSl' {zs : List AV} {t : Tail} {b o cap n len : Nat} (hl : len = zs.length) (hn : ∀ z ∈ zs, z.cells.length = n) (ha : AtC C M hp b o (flat zs)) (hT : TailOk M hp ⟨b, o, none⟩ len cap n t) (hcap : len ≤ cap) :
    Rep C M hp (.sl zs t) (.slice (some ⟨b, o, none⟩) len cap) := by
  subst hl; exact repSl hn ha hT hcap

theorem repSl_inv {zs : List AV} {t : Tail} {a : Addr} {len cap n : Nat} (h : Rep C M hp (.sl zs t) (.slice (some a) len cap)) (hn : ∀ z ∈ zs, z.cells.length = n) :
    len = zs.length ∧ AtC C M hp a.block a.off (flat zs) ∧ (zs ≠ [] → a.spot = none) ∧ zs.length ≤ cap := by
  cases h with
  | sl f hsp hsz hC hR hT hcap =>
    rename_i sz
    refine ⟨rfl, fun k c hc => ?_, hsp, hcap⟩
    obtain ⟨i, j, z, rfl, hz, hc'⟩ := flat_inv hn hc
    have : sz = n := by rw [← hsz i z hz]; exact hn z (List.mem_of_getElem? hz)
    subst this
    exact ⟨f i j, by rw [← Nat.add_assoc]; exact hC i z j c hz hc', hR i z j c hz hc'⟩

/-- A row of cells that lies in a new block. -/
theorem newRow_at (h : Sim base w0 C M hp w) (cells : Array Value) (e : TypeId) {cs : List AV} {vs : List Value} (hr : RepL C M hp cs vs) (hv : ∀ (i : Nat) v, vs[i]? = some v → cells[i]? = some v) :
    Le C M hp (C.add w.heap.size 0 vs) M hp ∧ Sim base w0 (C.add w.heap.size 0 vs) M hp (w.alloc (.cells cells e)) ∧ AtC (C.add w.heap.size 0 vs) M hp w.heap.size 0 cs := by
  obtain ⟨hle, hs⟩ := h.frozenRow cells e vs hv
  refine ⟨hle, hs, fun j c hc => ?_⟩
  obtain ⟨v, h1, h2⟩ := hr.get hc
  exact ⟨v, by rw [Cells.add_in _ _ _ _ _ (List.getElem?_eq_some_iff.1 h1).1]; exact h1, h2.mono hle⟩

/-! append. -/

/-- What is appended. -/
def contents : AV → Option (List AV)
  | .nsl => some []
  | .sl ys _ => some ys
  | _ => none

def okElems (n : Nat) (ys : List AV) : Bool := ys.all fun y => y.cells.length == n && y.cells.all AV.one

def aapp (hp : List Blk) (n byt : Nat) (s x : AV) : Option (AV × List Blk) :=
  match contents x with
  | none => none
  | some ys =>
    if ys = [] then (match s with | .nsl | .sl _ _ => some (s, hp) | _ => none)
    else if okElems n ys = true ∧ 0 < n ∧ 0 < byt then
      match s with
      | .nsl => if ys.length * byt ≤ 140737488355328 then some (.sl ys (.tok hp.length), hp ++ [.tok ys.length n]) else none
      | .sl xs t => if okElems n xs = true ∧ (xs.length + ys.length) * byt ≤ 140737488355328 then
          match t with
          | .exact => some (.sl (xs ++ ys) (.tok hp.length), hp ++ [.tok (xs.length + ys.length) n])
          | .tok id => match hp[id]? with
            | some (.tok c s') => if c = xs.length ∧ s' = n then some (.sl (xs ++ ys) (.tok id), hp.set id (.tok (xs.length + ys.length) n)) else none
            | _ => none
          | .no => none
        else none
      | _ => none
    else none

theorem okElems_len {n : Nat} {ys : List AV} (h : okElems n ys = true) : ∀ z ∈ ys, z.cells.length = n := by
  intro z hz
  have := List.all_eq_true.1 h z hz
  simp at this
  exact this.1

theorem okElems_one {n : Nat} {ys : List AV} (h : okElems n ys = true) : (flat ys).all AV.one = true := by
  rw [List.all_eq_true]
  intro c hc
  simp only [flat, List.mem_flatMap] at hc
  obtain ⟨z, hz, hc⟩ := hc
  have := List.all_eq_true.1 h z hz
  simp at this
  exact this.2 c hc

theorem okElems_append {n : Nat} {xs ys : List AV} (h1 : okElems n xs = true) (h2 : okElems n ys = true) : okElems n (xs ++ ys) = true := by
  unfold okElems at *; rw [List.all_append, h1, h2]; rfl

/-- The type's row for an append: the element's type, its size in cells and in bytes, its zero. -/
structure ElemTy (P : Program) (t e : TypeId) (n byt : Nat) : Prop where
  ht : P.underlying t = some (.slice e)
  hi : ∃ i z, P.info? e = some i ∧ i.size = n ∧ i.bytes = byt ∧ i.zero = some z ∧ z.cells.size = n

theorem le_of_bytes {k byt B : Nat} (hb : 0 < byt) (h : k * byt ≤ B) : k ≤ B := Nat.le_trans (Nat.le_mul_of_pos_right k hb) h

theorem size_zc (z : Array Value) (n : Nat) : (Builtin.zeroCells z n).size = n * z.size := by simp [Builtin.zeroCells]

theorem grownCap_le (w : World) (need old : Nat) (e : TypeId) : need ≤ grownCap w need old e := by unfold grownCap; simp [Question.cut]

theorem gives_app {t ty e : TypeId} {n byt : Nat} (hE : ElemTy P t e n byt) (h : Sim base w0 C M hp w) {s x r : AV} {s' x' : Value} (hs : Rep C M hp s s') (hx : Rep C M hp x x') {hp' : List Blk}
    (hr : aapp hp n byt s x = some (r, hp')) : Gives base w0 C M hp P (Builtin.append_ #[t, t] ty #[s', x']) w r hp' := by
  obtain ⟨ht, i, z, hi, hsize, hby, hz, hzs⟩ := hE
  unfold aapp at hr
  split at hr
  · cases hr
  rename_i ys hys
  split at hr
  · -- nothing is appended
    rename_i hnil
    subst hnil
    have hx0 : ∃ a c, x' = .slice a 0 c := by
      unfold contents at hys
      split at hys
      · cases hx; exact ⟨_, _, rfl⟩
      · cases hys
        cases hx; exact ⟨_, _, rfl⟩
      · cases hys
    obtain ⟨a, c, rfl⟩ := hx0
    have hfc : ∀ w, (Builtin.firstCells n 0 (.slice a 0 c)).run P w = .ok #[] w := by
      intro w
      cases a with
      | none => simp [Builtin.firstCells]
      | some a => simp [Builtin.firstCells, loadCells, loadCellsFrom]
    have key : ∀ b m cp, m ≤ cp → (Builtin.append_ #[t, t] ty #[.slice b m cp, .slice a 0 c]).run P w = .ok (.slice b m cp) w := by
      intro b m cp hm
      cases b with
      | none => simp [Builtin.append_, run_underlying ht, sizeOf, typeInfo, hi, hsize, Builtin.lenOf, hm, hfc]
      | some b => simp [Builtin.append_, run_underlying ht, sizeOf, typeInfo, hi, hsize, Builtin.lenOf, hm, hfc, storeCells]
    split at hr
    · cases hr
      cases hs
      exact .same h (key _ _ _ (Nat.le_refl _)) .nsl
    · cases hr
      have hs0 := hs
      cases hs with
      | sl f hsp hsz hC hR hT hcap => exact .same h (key _ _ _ hcap) hs0
    · cases hr
  · rename_i hne
    split at hr
    · rename_i hok
      obtain ⟨hoy, hn0, hb0⟩ := hok
      -- what is appended, as it lies
      obtain ⟨a, c, hxe, hax, hax0⟩ : ∃ (a : Addr) (c : Nat), x' = .slice (some a) ys.length c ∧ AtC C M hp a.block a.off (flat ys) ∧ a.spot = none := by
        unfold contents at hys
        split at hys
        · cases hys; exact (hne rfl).elim
        · cases hys
          cases x' <;> first | (cases hx; done) | skip
          rename_i b l cp
          cases b with
          | none => cases hx
          | some a =>
            obtain ⟨e1, e2, e3, e4⟩ := repSl_inv hx (okElems_len hoy)
            exact ⟨a, cp, by rw [e1], e2, e3 hne⟩
        · cases hys
      subst hxe
      obtain ⟨ab, ao, asp⟩ := a
      have : asp = none := hax0
      subst this
      obtain ⟨news, hrn, hcn⟩ := hax.vals h
      have hln : news.length = ys.length * i.size := by rw [← hrn.1, flat_length (okElems_len hoy), hsize]
      have h1n : ∀ u ∈ news, u.oneCell' = true := hrn.cells_one (okElems_one hoy)
      have hcn' : ∀ (j : Nat) v, news[j]? = some v → w.cell? ((⟨ab, ao, none⟩ : Addr).add j) = some v := fun j v hj => by rw [addr_add]; exact hcn j v hj
      have hy0 : 0 < ys.length := by cases ys with | nil => exact (hne rfl).elim | cons _ _ => simp
      split at hr
      · -- onto nil
        split at hr
        · rename_i hfit
          cases hr
          cases hs
          have hle47 : ys.length ≤ 140737488355328 := le_of_bytes hb0 hfit
          have hrun := run_append_nil (P := P) w t ty e i z ht hi hz ⟨ab, ao, none⟩ ys.length c news hln hcn' hy0 (by omega) (by rw [hby]; omega)
          have hg := grownCap_le w ys.length 0 e
          have hln2 : news.length = ys.length * n := by rw [hln, hsize]
          have hcells : ∀ (i' : Nat) v, news[i']? = some v → (news.toArray ++ Builtin.zeroCells z.cells (grownCap w ys.length 0 e - ys.length))[i']? = some v := by
            intro i' v hv
            have hl : i' < news.length := (List.getElem?_eq_some_iff.1 hv).1
            rw [Array.getElem?_append_left (by simpa using hl)]
            simpa using hv
          obtain ⟨hle, hsim⟩ := h.drew.newTok (news.toArray ++ Builtin.zeroCells z.cells (grownCap w ys.length 0 e - ys.length)) e news hcells ys.length n (grownCap w ys.length 0 e * n)
            (by rw [hln2]; exact Nat.mul_le_mul_right n hg) (by simp only [Array.size_append, size_zc, hzs, List.size_toArray, hln2, ← Nat.add_mul]; exact Nat.mul_le_mul_right n (by omega))
          refine ⟨_, _, _, _, hrun, hle, hsim, ?_⟩
          refine repSl (okElems_len hoy) ?_ ?_ hg
          · intro j c hc
            obtain ⟨v, e1, e2⟩ := hrn.get hc
            exact ⟨v, by rw [World.size_drew, Cells.add_in _ _ _ _ _ (List.getElem?_eq_some_iff.1 e1).1]; exact e1, e2.mono hle⟩
          · refine ⟨ys.length, n, { b := w.heap.size, fin := news.length, cap := grownCap w ys.length 0 e * n }, by simp, by rw [← h.mlen]; simp, Nat.le_refl _, Or.inr rfl, fun _ => ⟨rfl, rfl, ?_, ?_⟩⟩
            · simp [hln2]
            · simp
        · cases hr
      · -- onto a slice
        rename_i xs tl
        split at hr
        · rename_i hok2
          obtain ⟨hox, hfit⟩ := hok2
          have hle47 : xs.length + ys.length ≤ 140737488355328 := le_of_bytes hb0 hfit
          cases s' <;> first | (cases hs; done) | skip
          rename_i b l cp
          cases b with
          | none => cases hs
          | some sa =>
            have hs0 := hs
            obtain ⟨e1, hat, hspot, hcap⟩ := repSl_inv hs (okElems_len hox)
            subst e1
            obtain ⟨olds, hro, hco⟩ := hat.vals h
            have hlo : olds.length = xs.length * i.size := by rw [← hro.1, flat_length (okElems_len hox), hsize]
            have hco' : ∀ (j : Nat) v, olds[j]? = some v → w.cell? (sa.add j) = some v := fun j v hj => by
              obtain ⟨sb, so, ssp⟩ := sa
              have hxne : xs ≠ [] := by
                intro e; subst e
                have := (List.getElem?_eq_some_iff.1 hj).1
                rw [hlo] at this; simp at this
              have : ssp = none := hspot hxne
              subst this
              rw [addr_add]; exact hco j v hj
            have hrl : RepL C M hp (flat (xs ++ ys)) (olds ++ news) := by
              rw [flat_append]
              refine ⟨by rw [List.length_append, List.length_append, hro.1, hrn.1], fun k u v hu hv => ?_⟩
              rcases Nat.lt_or_ge k (flat xs).length with hk | hk
              · rw [List.getElem?_append_left hk] at hu
                rw [List.getElem?_append_left (by rw [← hro.1]; exact hk)] at hv
                exact hro.2 k u v hu hv
              · rw [List.getElem?_append_right hk] at hu
                rw [List.getElem?_append_right (by rw [← hro.1]; exact hk), ← hro.1] at hv
                exact hrn.2 _ u v hu hv
            have hlall : (olds ++ news).length = (xs.length + ys.length) * n := by rw [List.length_append, hlo, hln, hsize, ← Nat.add_mul]
            -- the arm that moves
            have grow : ∀ cp, cp < xs.length + ys.length → (Builtin.append_ #[t, t] ty #[.slice (some sa) xs.length cp, .slice (some ⟨ab, ao, none⟩) ys.length c]).run P w =
                .ok (.slice (some ⟨w.heap.size, 0, none⟩) (xs.length + ys.length) (grownCap w (xs.length + ys.length) cp e))
                  (w.drew.alloc (.cells (olds.toArray ++ news.toArray ++ Builtin.zeroCells z.cells (grownCap w (xs.length + ys.length) cp e - (xs.length + ys.length))) e)) := fun cp hcp =>
              run_append_grow (P := P) w t ty e i z ht hi hz sa xs.length cp olds hlo hco' ⟨ab, ao, none⟩ ys.length c news hln hcn' hcp (by omega) (growslice_fits hcp (by rw [hby]; exact hfit))
            have hcells : ∀ cp, ∀ (i' : Nat) v, (olds ++ news)[i']? = some v → (olds.toArray ++ news.toArray ++ Builtin.zeroCells z.cells (grownCap w (xs.length + ys.length) cp e - (xs.length + ys.length)))[i']? = some v := by
              intro cp i' v hv
              have hl : i' < (olds ++ news).length := (List.getElem?_eq_some_iff.1 hv).1
              rw [Array.getElem?_append_left (by simpa using hl)]
              simpa using hv
            have hcsz : ∀ cp, grownCap w (xs.length + ys.length) cp e * n ≤ (olds.toArray ++ news.toArray ++ Builtin.zeroCells z.cells (grownCap w (xs.length + ys.length) cp e - (xs.length + ys.length))).size := by
              intro cp
              have := grownCap_le w (xs.length + ys.length) cp e
              simp only [Array.size_append, size_zc, hzs, List.size_toArray]
              rw [hlo, hln, hsize, ← Nat.add_mul, ← Nat.add_mul]
              exact Nat.mul_le_mul_right n (by omega)
            have hatNew : ∀ {C' : Cells} {M' : List Loc} {hp'' : List Blk}, Le C M hp C' M' hp'' → (∀ j, j < (olds ++ news).length → C' w.heap.size (0 + j) = (olds ++ news)[j]?) → AtC C' M' hp'' w.heap.size 0 (flat (xs ++ ys)) := by
              intro C' M' hp'' hle hc j cc hcc
              obtain ⟨v, e1, e2⟩ := hrl.get hcc
              exact ⟨v, by rw [hc j (List.getElem?_eq_some_iff.1 e1).1]; exact e1, e2.mono hle⟩
            have hlen : (xs ++ ys).length = xs.length + ys.length := List.length_append
            split at hr
            · -- a slice whose room is known: none
              cases hr
              cases hs with
              | sl f hsp hsz hC hR hT hcap' =>
                have hcp : cp = xs.length := hT
                subst hcp
                have hg := grownCap_le w (xs.length + ys.length) xs.length e
                obtain ⟨hle, hsim⟩ := h.drew.newTok _ e (olds ++ news) (hcells xs.length) (xs.length + ys.length) n (grownCap w (xs.length + ys.length) xs.length e * n)
                  (by rw [hlall]; exact Nat.mul_le_mul_right n hg) (hcsz xs.length)
                refine ⟨_, _, _, _, grow xs.length (by omega), hle, hsim, ?_⟩
                refine repSl' hlen.symm (okElems_len (okElems_append hox hoy)) (hatNew hle (fun j hj => by rw [World.size_drew, Cells.add_in _ _ _ _ _ hj])) ?_ hg
                refine ⟨xs.length + ys.length, n, { b := w.heap.size, fin := (olds ++ news).length, cap := grownCap w (xs.length + ys.length) xs.length e * n }, by simp, by rw [← h.mlen]; simp, Nat.le_refl _, Or.inr rfl, fun _ => ⟨rfl, rfl, ?_, ?_⟩⟩
                · rw [hlall]; simp
                · simp
            · -- a slice that has grown already
              rename_i id
              split at hr
              · rename_i cc s2 hid
                split at hr
                · rename_i hcond
                  obtain ⟨rfl, rfl⟩ := hcond
                  cases hr
                  cases hs with
                  | sl f hsp hsz hC hR hT hcap' =>
                    obtain ⟨n1, s1, L, q1, q2, q3, q4, q5⟩ := hT
                    rw [hid] at q1
                    cases q1
                    obtain ⟨p1, p2, p3, p4⟩ := q5 rfl
                    obtain ⟨sb, so, ssp⟩ := sa
                    have : ssp = none := p1
                    subst this
                    have hsb : sb = L.b := p2
                    subst hsb
                    simp only at p3 p4
                    by_cases hroom : xs.length + ys.length ≤ cp
                    · -- in place
                      have hfitL : L.fin + news.length ≤ L.cap := by
                        rw [← p3, ← p4, hln, hsize, Nat.add_assoc, ← Nat.add_mul]
                        exact Nat.add_le_add_left (Nat.mul_le_mul_right _ hroom) so
                      obtain ⟨t1, t2, t3, t4, t5⟩ := h.toks id xs.length s2 L hid q2
                      have hrun := run_append_room_cells (P := P) w t ty e i ht hi L.b so xs.length cp ⟨ab, ao, none⟩ ys.length c news hln hcn' h1n hroom
                        (fun j hj => by rw [hsize, p3]; obtain ⟨⟨v, hv⟩, _⟩ := t5 (L.fin + j) (by omega) (by omega); rw [hv]; rfl)
                        (fun j hj => by rw [hsize, p3]; exact (t5 (L.fin + j) (by omega) (by omega)).2)
                      rw [hsize, p3] at hrun
                      obtain ⟨hle, hsim⟩ := h.growTok news hid q2 (n' := xs.length + ys.length) (by omega) hfitL
                      refine ⟨_, _, _, _, hrun, hle, hsim, ?_⟩
                      refine repSl' hlen.symm (okElems_len (okElems_append hox hoy)) ?_ ?_ hroom
                      · rw [flat_append]
                        refine AtC.append (hat.mono hle) ?_
                        rw [flat_length (okElems_len hox), p3]
                        intro j cc hcc
                        obtain ⟨v, e1, e2⟩ := hrn.get hcc
                        exact ⟨v, by rw [Cells.add_in _ _ _ _ _ (List.getElem?_eq_some_iff.1 e1).1]; exact e1, e2.mono hle⟩
                      · have hidl : id < hp.length := (List.getElem?_eq_some_iff.1 hid).1
                        refine ⟨xs.length + ys.length, s2, { L with fin := L.fin + news.length }, by rw [List.getElem?_set_self hidl], by rw [List.getElem?_set_self (by rw [h.mlen]; exact hidl)], Nat.le_refl _, Or.inr rfl, fun _ => ⟨rfl, rfl, ?_, p4⟩⟩
                        show so + (xs.length + ys.length) * s2 = L.fin + news.length
                        rw [← p3, hln, hsize, Nat.add_assoc, ← Nat.add_mul]
                    · -- it moves
                      have hg := grownCap_le w (xs.length + ys.length) cp e
                      obtain ⟨hle, hsim⟩ := h.drew.moveTok _ e (olds ++ news) (hcells cp) hid (n' := xs.length + ys.length) (by omega) (cap := grownCap w (xs.length + ys.length) cp e * s2)
                        (by rw [hlall]; exact Nat.mul_le_mul_right _ hg) (hcsz cp)
                      refine ⟨_, _, _, _, grow cp (by omega), hle, hsim, ?_⟩
                      refine repSl' hlen.symm (okElems_len (okElems_append hox hoy)) (hatNew hle (fun j hj => by rw [World.size_drew, Cells.add_in _ _ _ _ _ hj])) ?_ hg
                      have hidl : id < hp.length := (List.getElem?_eq_some_iff.1 hid).1
                      refine ⟨xs.length + ys.length, s2, { b := w.heap.size, fin := (olds ++ news).length, cap := grownCap w (xs.length + ys.length) cp e * s2 }, by rw [List.getElem?_set_self hidl], by rw [World.size_drew, List.getElem?_set_self (by rw [h.mlen]; exact hidl)], Nat.le_refl _, Or.inr rfl, fun _ => ⟨rfl, rfl, ?_, ?_⟩⟩
                      · rw [hlall]; simp
                      · simp
                · cases hr
              · cases hr
            · cases hr
        · cases hr
      · cases hr
    · cases hr

end
end Go.Abs
