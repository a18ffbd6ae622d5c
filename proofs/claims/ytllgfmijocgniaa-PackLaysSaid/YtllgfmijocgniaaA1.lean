/- The abstract values and heap of a functional reading of the model, and how they stand to the model's own. No condition. -/
import Derived.Below
import Derived.Calls
import Derived.Tactics
namespace Go.Abs
open Go.RowKit

/-- What is known of a slice's spare room. -/
inductive Tail where
  | exact
  | no
  | tok (id : Nat)
  deriving DecidableEq

/-- Abstract values: pure data; `mp`, `ms` point into the small mutable heap. -/
inductive AV where
  | v (x : Value)
  | agg (cs : List AV)
  | tup (cs : List AV)
  | nsl
  | sl (xs : List AV) (t : Tail)
  | fp (cs : List AV) (off : Nat)
  | mp (k off : Nat)
  | ms (k off len cap : Nat)
  | fn (f : Fn) (first captured : List AV)
  | ifc (t : TypeId) (x : AV)

/-- The cells of a value. -/
def AV.cells : AV → List AV
  | .agg cs => cs
  | x => [x]

/-- Is it the value of one cell? -/
def AV.one : AV → Bool
  | .agg _ | .tup _ => false
  | _ => true

/-- Values without addresses. -/
def plain : Value → Bool
  | .bool _ | .int _ _ | .float _ _ | .string _ | .pointer none | .nilFunc | .nilIface => true
  | _ => false

inductive Blk where
  | cells (cs : List AV) (froz : Bool)
  | tok (n sz : Nat)

structure Loc where
  b : Nat
  fin : Nat := 0
  cap : Nat := 0

abbrev Cells := Nat → Nat → Option Value

/-- How a slice's spare room lies. -/
def TailOk (M : List Loc) (hp : List Blk) (a : Addr) (len cap sz : Nat) : Tail → Prop
  | .exact => cap = len
  | .no => True
  | .tok id => ∃ n s L, hp[id]? = some (.tok n s) ∧ M[id]? = some L ∧ len ≤ n ∧ (len = 0 ∨ sz = s) ∧
      (len = n → a.spot = none ∧ a.block = L.b ∧ a.off + len * s = L.fin ∧ a.off + cap * s = L.cap)

inductive Rep (C : Cells) (M : List Loc) (hp : List Blk) : AV → Value → Prop
  | v {x : Value} (h : plain x = true) : Rep C M hp (.v x) x
  | agg {cs : List AV} {cs' : Array Value} (hl : cs.length = cs'.size)
      (h : ∀ (i : Nat) a b, cs[i]? = some a → cs'[i]? = some b → Rep C M hp a b) : Rep C M hp (.agg cs) (.agg cs')
  | tup {cs : List AV} {cs' : Array Value} (hl : cs.length = cs'.size)
      (h : ∀ (i : Nat) a b, cs[i]? = some a → cs'[i]? = some b → Rep C M hp a b) : Rep C M hp (.tup cs) (.tuple cs')
  | nsl : Rep C M hp .nsl (.slice none 0 0)
  | sl {xs : List AV} {t : Tail} {a : Addr} {cap sz : Nat} (f : Nat → Nat → Value)
      (hsp : xs ≠ [] → a.spot = none)
      (hsz : ∀ (i : Nat) x, xs[i]? = some x → x.cells.length = sz)
      (hC : ∀ (i : Nat) x (j : Nat) c, xs[i]? = some x → x.cells[j]? = some c → C a.block (a.off + i * sz + j) = some (f i j))
      (hR : ∀ (i : Nat) x (j : Nat) c, xs[i]? = some x → x.cells[j]? = some c → Rep C M hp c (f i j))
      (hT : TailOk M hp a xs.length cap sz t) (hcap : xs.length ≤ cap) : Rep C M hp (.sl xs t) (.slice (some a) xs.length cap)
  | fp {cs : List AV} {off b o : Nat} (f : Nat → Value)
      (hC : ∀ (i : Nat) c, cs[i]? = some c → C b (o + i) = some (f i)) (hR : ∀ (i : Nat) c, cs[i]? = some c → Rep C M hp c (f i)) :
      Rep C M hp (.fp cs off) (.pointer (some ⟨b, o + off, none⟩))
  | mp {k off : Nat} {L : Loc} {cs : List AV} {fz : Bool} (hb : hp[k]? = some (.cells cs fz)) (hM : M[k]? = some L) :
      Rep C M hp (.mp k off) (.pointer (some ⟨L.b, off, none⟩))
  | ms {k off len cap : Nat} {L : Loc} {cs : List AV} {fz : Bool} (hb : hp[k]? = some (.cells cs fz)) (hM : M[k]? = some L) :
      Rep C M hp (.ms k off len cap) (.slice (some ⟨L.b, off, none⟩) len cap)
  | fn {f : Fn} {fs cs : List AV} {fs' cs' : Array Value} (hlf : fs.length = fs'.size) (hlc : cs.length = cs'.size)
      (hf : ∀ (i : Nat) a b, fs[i]? = some a → fs'[i]? = some b → Rep C M hp a b)
      (hc : ∀ (i : Nat) a b, cs[i]? = some a → cs'[i]? = some b → Rep C M hp a b) : Rep C M hp (.fn f fs cs) (.func f fs' cs')
  | ifc {t : TypeId} {x : AV} {x' : Value} (h : Rep C M hp x x') : Rep C M hp (.ifc t x) (.iface t x')

/-- What comes later: frozen cells stay, mutable blocks stay where they lie, a token's count never falls. -/
structure Le (C : Cells) (M : List Loc) (hp : List Blk) (C' : Cells) (M' : List Loc) (hp' : List Blk) : Prop where
  C : ∀ b o v, C b o = some v → C' b o = some v
  cells : ∀ (k : Nat) cs fz, hp[k]? = some (.cells cs fz) → (∃ cs' fz', hp'[k]? = some (.cells cs' fz')) ∧ M'[k]? = M[k]?
  toks : ∀ (k : Nat) n s, hp[k]? = some (.tok n s) → ∃ n', hp'[k]? = some (.tok n' s) ∧ n ≤ n' ∧ (n' = n → M'[k]? = M[k]?) ∧ ((M[k]?).isSome → (M'[k]?).isSome)

theorem Le.refl (C : Cells) (M : List Loc) (hp : List Blk) : Le C M hp C M hp :=
  ⟨fun _ _ _ h => h, fun _ cs fz h => ⟨⟨cs, fz, h⟩, rfl⟩, fun _ n _ h => ⟨n, h, Nat.le_refl _, fun _ => rfl, fun h => h⟩⟩

theorem Le.trans {C C₁ C₂ : Cells} {M M₁ M₂ : List Loc} {hp hp₁ hp₂ : List Blk} (h : Le C M hp C₁ M₁ hp₁) (k : Le C₁ M₁ hp₁ C₂ M₂ hp₂) : Le C M hp C₂ M₂ hp₂ := by
  refine ⟨fun b o v e => k.C _ _ _ (h.C _ _ _ e), fun i cs fz e => ?_, fun i n s e => ?_⟩
  · obtain ⟨⟨cs', fz', e'⟩, m⟩ := h.cells i cs fz e
    obtain ⟨e'', m'⟩ := k.cells i cs' fz' e'
    exact ⟨e'', m'.trans m⟩
  · obtain ⟨n', e', l, m, s1⟩ := h.toks i n s e
    obtain ⟨n'', e'', l', m', s2⟩ := k.toks i n' s e'
    refine ⟨n'', e'', Nat.le_trans l l', fun q => ?_, fun q => s2 (s1 q)⟩
    have a : n' = n := by omega
    have b : n'' = n' := by omega
    exact (m' b).trans (m a)

theorem TailOk.mono {C C' : Cells} {M M' : List Loc} {hp hp' : List Blk} (hle : Le C M hp C' M' hp') {a : Addr} {len cap sz : Nat} {t : Tail}
    (h : TailOk M hp a len cap sz t) : TailOk M' hp' a len cap sz t := by
  cases t with
  | exact => exact h
  | no => trivial
  | tok id =>
    obtain ⟨n, s, L, e, m, l, z, q⟩ := h
    obtain ⟨n', e', l', m', s1⟩ := hle.toks id n s e
    have : (M'[id]?).isSome := s1 (by simp [m])
    obtain ⟨L', hL'⟩ := Option.isSome_iff_exists.1 this
    refine ⟨n', s, L', e', hL', Nat.le_trans l l', z, fun hq => ?_⟩
    have hn : n' = n := by omega
    have := m' hn
    rw [hL', m] at this
    cases this
    exact q (by omega)

theorem Rep.mono {C C' : Cells} {M M' : List Loc} {hp hp' : List Blk} (hle : Le C M hp C' M' hp') {x : AV} {y : Value}
    (h : Rep C M hp x y) : Rep C' M' hp' x y := by
  induction h with
  | v h => exact .v h
  | agg hl _ ih => exact .agg hl ih
  | tup hl _ ih => exact .tup hl ih
  | nsl => exact .nsl
  | sl f hsp hsz hC _ hT hcap ih => exact .sl f hsp hsz (fun i x j c h1 h2 => hle.C _ _ _ (hC i x j c h1 h2)) ih (hT.mono hle) hcap
  | fp f hC _ ih => exact .fp f (fun i c h => hle.C _ _ _ (hC i c h)) ih
  | mp hb hM =>
    obtain ⟨⟨cs', fz', e⟩, m⟩ := hle.cells _ _ _ hb
    exact .mp e (m.trans hM)
  | ms hb hM =>
    obtain ⟨⟨cs', fz', e⟩, m⟩ := hle.cells _ _ _ hb
    exact .ms e (m.trans hM)
  | fn hlf hlc _ _ ihf ihc => exact .fn hlf hlc ihf ihc
  | ifc _ ih => exact .ifc ih

/-- Where a call began: the world, and what was frozen then. -/
structure Root where
  w : World
  C : Cells

/-- The world as the abstract heap has it. -/
structure Sim (base : Nat) (w0 : Root) (C : Cells) (M : List Loc) (hp : List Blk) (w : World) : Prop where
  below : Below base w0.w w
  basele : base ≤ w0.w.heap.size
  old : ∀ b o v, C b o = some v → b < base → w0.C b o = some v
  mlen : M.length = hp.length
  froz : ∀ b o v, C b o = some v → w.cell? ⟨b, o, none⟩ = some v
  cells : ∀ (k : Nat) cs fz L, hp[k]? = some (.cells cs fz) → M[k]? = some L → base ≤ L.b ∧ L.b < w.heap.size ∧
    (∀ (i : Nat) c, cs[i]? = some c → ∃ c', w.cell? ⟨L.b, i, none⟩ = some c' ∧ Rep C M hp c c' ∧ (fz = true → C L.b i = some c')) ∧
    (fz = false → (∀ i, w.frozen? ⟨L.b, i, none⟩ = false) ∧ ∀ o, C L.b o = none)
  toks : ∀ (k : Nat) n s L, hp[k]? = some (.tok n s) → M[k]? = some L → base ≤ L.b ∧ L.b < w.heap.size ∧ L.fin ≤ L.cap ∧
    (∀ o, L.fin ≤ o → C L.b o = none) ∧ (∀ o, L.fin ≤ o → o < L.cap → (∃ v, w.cell? ⟨L.b, o, none⟩ = some v) ∧ w.frozen? ⟨L.b, o, none⟩ = false)
  apart : ∀ (k k' : Nat) L L', k ≠ k' → M[k]? = some L → M[k']? = some L' → L.b ≠ L'.b

theorem Sim.basew {base : Nat} {w0 : Root} {w : World} {C : Cells} {M : List Loc} {hp : List Blk} (h : Sim base w0 C M hp w) : base ≤ w.heap.size :=
  Nat.le_trans h.basele h.below.size

theorem Sim.loc {base : Nat} {w0 : Root} {w : World} {C : Cells} {M : List Loc} {hp : List Blk} (h : Sim base w0 C M hp w) {k : Nat} {b : Blk} (hb : hp[k]? = some b) :
    ∃ L, M[k]? = some L := by
  have : k < hp.length := (List.getElem?_eq_some_iff.1 hb).1
  rw [← h.mlen] at this
  exact ⟨M[k], List.getElem?_eq_getElem this⟩

theorem Sim.drew {base : Nat} {w0 : Root} {w : World} {C : Cells} {M : List Loc} {hp : List Blk} (h : Sim base w0 C M hp w) : Sim base w0 C M hp w.drew :=
  ⟨h.below.drew, h.basele, h.old, h.mlen, h.froz, h.cells, h.toks, h.apart⟩

theorem Rep.one {C : Cells} {M : List Loc} {hp : List Blk} {x : AV} {y : Value} (h : Rep C M hp x y) (h1 : x.one = true) : y.oneCell' = true := by
  cases h <;> first | rfl | (simp [AV.one] at h1; done) | skip
  rename_i hx
  cases y <;> first | rfl | (simp [plain] at hx)

end Go.Abs
