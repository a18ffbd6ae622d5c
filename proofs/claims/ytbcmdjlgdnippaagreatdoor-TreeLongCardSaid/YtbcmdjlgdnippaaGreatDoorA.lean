/- The abstract values and heap of a functional reading of the model, and how they stand to the model's own. No condition. -/
import Derived.Below
import Derived.Calls
import Derived.Tactics
import Derived.Laws.Append
import Derived.ArgAppend
import Derived.Deep.AppendSrc
import Derived.Laws.StructEq
import Derived.Laws.Slices
import Derived.Laws.BytesString
import Derived.Lib.UnsafeStr
set_option linter.unusedVariables false
namespace Go.Abs
open Go.RowKit

/-- What is known of a slice's spare room. -/
inductive Tail where
  | exact
  | no
  | tok (id : Nat)
  deriving DecidableEq

/-- Abstract values: pure data; `mp` points into the small mutable heap; `rp`, `rs` into a row that may grow (`n`: how many cells the row had then); `ob`: a thing without cells; `pan`: a panic on its way. -/
inductive AV where
  | v (x : Value)
  | agg (cs : List AV)
  | tup (cs : List AV)
  | nsl
  | sl (xs : List AV) (t : Tail)
  | fp (cs : List AV) (off : Nat)
  | mp (k off : Nat)
  | rp (k n off : Nat)
  | rs (k n sz off len : Nat)
  | ob (k : Nat)
  | pan (ch : List PanicEntry)
  | fn (f : Fn) (first captured : List AV)
  | ifc (t : TypeId) (x : AV)
  | mapv (k : Nat)
  | yd (k : Nat)
  | bt (k : Nat) (t : TypeId × Nat)

/-- The cells of a value. -/
def AV.cells : AV → List AV
  | .agg cs => cs
  | x => [x]

/-- Is it the value of one cell? -/
def AV.one : AV → Bool
  | .agg _ | .tup _ | .pan _ => false
  | _ => true

/-- Values without addresses. -/
def plain : Value → Bool
  | .bool _ | .int _ _ | .float _ _ | .string _ | .pointer none | .nilFunc | .nilIface | .map none => true
  | _ => false

/-- `cells cs true`: a row that may grow. -/
inductive Blk where
  | cells (cs : List AV) (row : Bool)
  | tok (n sz : Nat) (e : TypeId)
  | obj (o : Obj)
  | mapb (es : List (AV × AV × Nat)) (clock : Nat)
  | loopb (st : LoopState) (pd : Option Code) (ats : List AV) (ps : Array Tmp) (ok : Code → Code → Prop)

/-- Blocks without cells. -/
def Blk.isObj : Blk → Bool
  | .cells _ _ | .tok _ _ _ => false
  | _ => true

/-- What may become of such a block. -/
def Blk.like (b b' : Blk) : Prop := (∀ o, b = .obj o → ∃ o', b' = .obj o' ∧ (o = .deferred (some []) → o' = o)) ∧
  (∀ st pd ats ps ok, b = .loopb st pd ats ps ok → ∃ st' pd', b' = .loopb st' pd' ats ps ok) ∧ (∀ es cl, b = .mapb es cl → ∃ es' cl', b' = .mapb es' cl')

theorem Blk.like.refl (b : Blk) : b.like b := ⟨fun o h => ⟨o, h, fun _ => rfl⟩, fun st pd _ _ _ h => ⟨st, pd, h⟩, fun es cl h => ⟨es, cl, h⟩⟩
theorem Blk.like.trans {a b c : Blk} (h : a.like b) (h' : b.like c) : a.like c := by
  refine ⟨fun o e => ?_, fun st pd ats ps ok e => ?_, fun es cl e => ?_⟩
  · obtain ⟨o', e', f⟩ := h.1 o e
    obtain ⟨o'', e'', f'⟩ := h'.1 o' e'
    refine ⟨o'', e'', fun q => ?_⟩
    have q1 := f q
    rw [q1] at f'
    exact f' q
  · obtain ⟨st', pd', e'⟩ := h.2.1 _ _ _ _ _ e
    exact h'.2.1 _ _ _ _ _ e'
  · obtain ⟨es', cl', e'⟩ := h.2.2 _ _ e
    exact h'.2.2 _ _ e'
theorem Blk.like.isObj {b b' : Blk} (h : b.like b') (ho : b.isObj = true) : b'.isObj = true := by
  cases b with
  | obj o => obtain ⟨o', e, _⟩ := h.1 o rfl; rw [e]; rfl
  | loopb st pd ats ps ok => obtain ⟨_, _, e⟩ := h.2.1 _ _ _ _ _ rfl; rw [e]; rfl
  | mapb es cl => obtain ⟨_, _, e⟩ := h.2.2 _ _ rfl; rw [e]; rfl
  | _ => cases ho

/-- A block that holds no cells. -/
def NotCells (o : Obj) : Prop := ∀ c t f, o ≠ .cells c t f

structure Loc where
  b : Nat
  fin : Nat := 0
  cap : Nat := 0
  ty : TypeId × Nat := (0, 0)

abbrev Cells := Nat → Nat → Option Value

/-- How a slice's spare room lies. -/
def TailOk (M : List Loc) (hp : List Blk) (a : Addr) (len cap sz : Nat) : Tail → Prop
  | .exact => cap = len
  | .no => True
  | .tok id => ∃ n s ty L, hp[id]? = some (.tok n s ty) ∧ M[id]? = some L ∧ len ≤ n ∧ (len = 0 ∨ sz = s) ∧
      (len = n → a.spot = none ∧ a.block = L.b ∧ a.off + len * s = L.fin ∧ a.off + cap * s = L.cap)

inductive Rep (C : Cells) (M : List Loc) (hp : List Blk) : AV → Value → Prop
  | v {x : Value} (h : plain x = true) : Rep C M hp (.v x) x
  | agg {cs : List AV} {cs' : Array Value} (hl : cs.length = cs'.size)
      (h : ∀ (i : Nat) a b, cs[i]? = some a → cs'[i]? = some b → Rep C M hp a b) : Rep C M hp (.agg cs) (.agg cs')
  | tup {cs : List AV} {cs' : Array Value} (hl : cs.length = cs'.size)
      (h : ∀ (i : Nat) a b, cs[i]? = some a → cs'[i]? = some b → Rep C M hp a b) : Rep C M hp (.tup cs) (.tuple cs')
  | nsl : Rep C M hp .nsl (.slice none 0 0)
  | sl {xs : List AV} {t : Tail} {a : Addr} {cap sz : Nat} (f : Nat → Nat → Value)
      (hsp : xs ≠ [] → a.spot = none)
      (hsz : ∀ (i : Nat) x, xs[i]? = some x → x.cells.length = sz)
      (hC : ∀ (i : Nat) x (j : Nat) c, xs[i]? = some x → x.cells[j]? = some c → C a.block (a.off + i * sz + j) = some (f i j))
      (hR : ∀ (i : Nat) x (j : Nat) c, xs[i]? = some x → x.cells[j]? = some c → Rep C M hp c (f i j))
      (hT : TailOk M hp a xs.length cap sz t) (hcap : xs.length ≤ cap) : Rep C M hp (.sl xs t) (.slice (some a) xs.length cap)
  | fp {cs : List AV} {off b o : Nat} (f : Nat → Value)
      (hC : ∀ (i : Nat) c, cs[i]? = some c → C b (o + i) = some (f i)) (hR : ∀ (i : Nat) c, cs[i]? = some c → Rep C M hp c (f i)) :
      Rep C M hp (.fp cs off) (.pointer (some ⟨b, o + off, none⟩))
  | mp {k off : Nat} {L : Loc} {cs : List AV} (hb : hp[k]? = some (.cells cs false)) (hM : M[k]? = some L) :
      Rep C M hp (.mp k off) (.pointer (some ⟨L.b, off, none⟩))
  | rp {k n off : Nat} {L : Loc} {cs : List AV} {a : Addr} (hb : hp[k]? = some (.cells cs true)) (hM : M[k]? = some L) (hn : n ≤ cs.length) (ha : n = cs.length → a = ⟨L.b, off, none⟩) :
      Rep C M hp (.rp k n off) (.pointer (some a))
  | rs {k n sz off len cap : Nat} {L : Loc} {cs : List AV} {a : Addr} (hb : hp[k]? = some (.cells cs true)) (hM : M[k]? = some L) (hn : n ≤ cs.length) (hlc : len ≤ cap)
      (ha : n = cs.length → a = ⟨L.b, off, none⟩ ∧ off + len * sz ≤ cs.length ∧ cs.length ≤ off + cap * sz ∧ off + cap * sz ≤ L.cap) :
      Rep C M hp (.rs k n sz off len) (.slice (some a) len cap)
  | ob {k : Nat} {L : Loc} {o : Obj} (hb : hp[k]? = some (.obj o)) (hM : M[k]? = some L) : Rep C M hp (.ob k) (.pointer (some ⟨L.b, 0, none⟩))
  | fn {f : Fn} {fs cs : List AV} {fs' cs' : Array Value} (hlf : fs.length = fs'.size) (hlc : cs.length = cs'.size)
      (hf : ∀ (i : Nat) a b, fs[i]? = some a → fs'[i]? = some b → Rep C M hp a b)
      (hc : ∀ (i : Nat) a b, cs[i]? = some a → cs'[i]? = some b → Rep C M hp a b) : Rep C M hp (.fn f fs cs) (.func f fs' cs')
  | ifc {t : TypeId} {x : AV} {x' : Value} (h : Rep C M hp x x') : Rep C M hp (.ifc t x) (.iface t x')
  | mapv {k : Nat} {L : Loc} {es : List (AV × AV × Nat)} {cl : Nat} (hb : hp[k]? = some (.mapb es cl)) (hM : M[k]? = some L) : Rep C M hp (.mapv k) (.map (some L.b))
  | yd {k : Nat} {L : Loc} {st : LoopState} {pd : Option Code} {ats : List AV} {ps : Array Tmp} {ok : Code → Code → Prop} (hb : hp[k]? = some (.loopb st pd ats ps ok)) (hM : M[k]? = some L) : Rep C M hp (.yd k) (.func (.yield L.b) #[] #[])
  | bt {k : Nat} {L : Loc} {cs : List AV} (hb : hp[k]? = some (.cells cs false)) (hM : M[k]? = some L) : Rep C M hp (.bt k L.ty) (.pointer none)

/-- What comes later: frozen cells stay, mutable blocks stay where they lie, a token's count never falls. -/
structure Le (C : Cells) (M : List Loc) (hp : List Blk) (C' : Cells) (M' : List Loc) (hp' : List Blk) : Prop where
  C : ∀ b o v, C b o = some v → C' b o = some v
  cells : ∀ (k : Nat) cs fz, hp[k]? = some (.cells cs fz) → ∃ cs', hp'[k]? = some (.cells cs' fz) ∧ (fz = true → cs.length ≤ cs'.length) ∧ ((fz = true → cs'.length = cs.length) → M'[k]? = M[k]?) ∧ ((M[k]?).isSome → (M'[k]?).isSome)
  toks : ∀ (k : Nat) n s ty, hp[k]? = some (.tok n s ty) → ∃ n', hp'[k]? = some (.tok n' s ty) ∧ n ≤ n' ∧ (n' = n → M'[k]? = M[k]?) ∧ ((M[k]?).isSome → (M'[k]?).isSome)
  objs : ∀ (k : Nat) b, b.isObj = true → hp[k]? = some b → (∃ b', hp'[k]? = some b' ∧ b.like b') ∧ M'[k]? = M[k]?

theorem Le.refl (C : Cells) (M : List Loc) (hp : List Blk) : Le C M hp C M hp :=
  ⟨fun _ _ _ h => h, fun _ cs fz h => ⟨cs, h, fun _ => Nat.le_refl _, fun _ => rfl, fun h => h⟩, fun _ n _ _ h => ⟨n, h, Nat.le_refl _, fun _ => rfl, fun h => h⟩, fun _ b _ h => ⟨⟨b, h, .refl b⟩, rfl⟩⟩

theorem Le.trans {C C₁ C₂ : Cells} {M M₁ M₂ : List Loc} {hp hp₁ hp₂ : List Blk} (h : Le C M hp C₁ M₁ hp₁) (k : Le C₁ M₁ hp₁ C₂ M₂ hp₂) : Le C M hp C₂ M₂ hp₂ := by
  refine ⟨fun b o v e => k.C _ _ _ (h.C _ _ _ e), fun i cs fz e => ?_, fun i n s ty e => ?_, fun i b hb e => ?_⟩
  · obtain ⟨cs', e', g, m, s⟩ := h.cells i cs fz e
    obtain ⟨cs'', e'', g', m', s'⟩ := k.cells i cs' fz e'
    refine ⟨cs'', e'', fun q => Nat.le_trans (g q) (g' q), fun q => ?_, fun q => s' (s q)⟩
    exact (m' fun qf => by have := q qf; have := g qf; have := g' qf; omega).trans (m fun qf => by have := q qf; have := g qf; have := g' qf; omega)
  · obtain ⟨n', e', l, m, s1⟩ := h.toks i n s ty e
    obtain ⟨n'', e'', l', m', s2⟩ := k.toks i n' s ty e'
    refine ⟨n'', e'', Nat.le_trans l l', fun q => ?_, fun q => s2 (s1 q)⟩
    have a : n' = n := by omega
    have b : n'' = n' := by omega
    exact (m' b).trans (m a)
  · obtain ⟨⟨b', e', l⟩, m⟩ := h.objs i b hb e
    obtain ⟨⟨b'', e'', l'⟩, m'⟩ := k.objs i b' (l.isObj hb) e'
    exact ⟨⟨b'', e'', l.trans l'⟩, m'.trans m⟩

theorem Le.length {C C' : Cells} {M M' : List Loc} {hp hp' : List Blk} (h : Le C M hp C' M' hp') : hp.length ≤ hp'.length := by
  rcases Nat.eq_zero_or_pos hp.length with h0 | h0
  · omega
  · have hl : hp.length - 1 < hp.length := by omega
    have e := List.getElem?_eq_getElem hl
    have key : ∃ b, hp'[hp.length - 1]? = some b := by
      cases hb : hp[hp.length - 1] with
      | cells cs fz => rw [hb] at e; obtain ⟨cs', q, _⟩ := h.cells _ _ _ e; exact ⟨_, q⟩
      | tok n s ty => rw [hb] at e; obtain ⟨n', q, _⟩ := h.toks _ _ _ _ e; exact ⟨_, q⟩
      | obj o => rw [hb] at e; obtain ⟨⟨b', q, _⟩, _⟩ := h.objs _ _ rfl e; exact ⟨_, q⟩
      | mapb es cl => rw [hb] at e; obtain ⟨⟨b', q, _⟩, _⟩ := h.objs _ _ rfl e; exact ⟨_, q⟩
      | loopb st pd ats ps ok => rw [hb] at e; obtain ⟨⟨b', q, _⟩, _⟩ := h.objs _ _ rfl e; exact ⟨_, q⟩
    obtain ⟨b, hb⟩ := key
    have := (List.getElem?_eq_some_iff.1 hb).1
    omega

theorem TailOk.mono {C C' : Cells} {M M' : List Loc} {hp hp' : List Blk} (hle : Le C M hp C' M' hp') {a : Addr} {len cap sz : Nat} {t : Tail}
    (h : TailOk M hp a len cap sz t) : TailOk M' hp' a len cap sz t := by
  cases t with
  | exact => exact h
  | no => trivial
  | tok id =>
    obtain ⟨n, s, ty, L, e, m, l, z, q⟩ := h
    obtain ⟨n', e', l', m', s1⟩ := hle.toks id n s ty e
    have : (M'[id]?).isSome := s1 (by simp [m])
    obtain ⟨L', hL'⟩ := Option.isSome_iff_exists.1 this
    refine ⟨n', s, ty, L', e', hL', Nat.le_trans l l', z, fun hq => ?_⟩
    have hn : n' = n := by omega
    have := m' hn
    rw [hL', m] at this
    cases this
    exact q (by omega)

theorem Rep.mono {C C' : Cells} {M M' : List Loc} {hp hp' : List Blk} (hle : Le C M hp C' M' hp') {x : AV} {y : Value}
    (h : Rep C M hp x y) : Rep C' M' hp' x y := by
  induction h with
  | v h => exact .v h
  | agg hl _ ih => exact .agg hl ih
  | tup hl _ ih => exact .tup hl ih
  | nsl => exact .nsl
  | sl f hsp hsz hC _ hT hcap ih => exact .sl f hsp hsz (fun i x j c h1 h2 => hle.C _ _ _ (hC i x j c h1 h2)) ih (hT.mono hle) hcap
  | fp f hC _ ih => exact .fp f (fun i c h => hle.C _ _ _ (hC i c h)) ih
  | mp hb hM =>
    obtain ⟨cs', e, _, m, _⟩ := hle.cells _ _ _ hb
    exact .mp e ((m nofun).trans hM)
  | @rp k n off L cs a hb hM hn ha =>
    obtain ⟨cs', e, g, m, s⟩ := hle.cells _ _ _ hb
    have g := g rfl
    obtain ⟨L', hL'⟩ := Option.isSome_iff_exists.1 (s (by rw [hM]; rfl))
    refine .rp e hL' (by omega) fun q => ?_
    have h1 : cs'.length = cs.length := by omega
    have h2 := m fun _ => h1
    rw [hL', hM] at h2
    cases h2
    exact ha (by omega)
  | @rs k n sz off len cap L cs a hb hM hn hlc ha =>
    obtain ⟨cs', e, g, m, s⟩ := hle.cells _ _ _ hb
    have g := g rfl
    obtain ⟨L', hL'⟩ := Option.isSome_iff_exists.1 (s (by rw [hM]; rfl))
    refine .rs e hL' (by omega) hlc fun q => ?_
    have h1 : cs'.length = cs.length := by omega
    have h2 := m fun _ => h1
    rw [hL', hM] at h2
    cases h2
    rw [h1]
    exact ha (by omega)
  | ob hb hM =>
    obtain ⟨⟨b', e, l⟩, m⟩ := hle.objs _ _ rfl hb
    obtain ⟨o', rfl, _⟩ := l.1 _ rfl
    exact .ob e (m.trans hM)
  | fn hlf hlc _ _ ihf ihc => exact .fn hlf hlc ihf ihc
  | ifc _ ih => exact .ifc ih
  | mapv hb hM =>
    obtain ⟨⟨b', e, l⟩, m⟩ := hle.objs _ _ rfl hb
    obtain ⟨es', cl', rfl⟩ := l.2.2 _ _ rfl
    exact .mapv e (m.trans hM)
  | bt hb hM =>
    obtain ⟨cs', e, _, m, _⟩ := hle.cells _ _ _ hb
    exact .bt e ((m nofun).trans hM)
  | yd hb hM =>
    obtain ⟨⟨b', e, l⟩, m⟩ := hle.objs _ _ rfl hb
    obtain ⟨_, _, rfl⟩ := l.2.1 _ _ _ _ _ rfl
    exact .yd e (m.trans hM)

/-- What lies in a block without cells. -/
def ObjOk (C : Cells) (M : List Loc) (hp : List Blk) : Blk → Obj → Prop
  | .obj o', o => o = o'
  | .mapb es cl, o => ∃ entries : Array MapEntry, o = .map entries cl ∧ es.length = entries.toList.length ∧ ∀ (i : Nat) a b, es[i]? = some a → entries.toList[i]? = some b → Rep C M hp a.1 b.key ∧ Rep C M hp a.2.1 b.val ∧ b.born = a.2.2
  | .loopb st pd ats ps ok, o => ∃ fn tmps assign body D, o = .loop { state := st, pending := pd, fn := fn, tmps := tmps, params := ps, assign := assign, body := body, defers := D } ∧ ok assign body ∧
      ats.length = tmps.size ∧ ∀ (i : Nat) a b, ats[i]? = some a → tmps[i]? = some b → Rep C M hp a b
  | _, _ => False

theorem ObjOk.mono {C C' : Cells} {M M' : List Loc} {hp hp' : List Blk} (hle : Le C M hp C' M' hp') {b : Blk} {o : Obj} (h : ObjOk C M hp b o) : ObjOk C' M' hp' b o := by
  cases b with
  | obj o' => exact h
  | mapb es cl =>
    obtain ⟨en, e, h1, h2⟩ := h
    exact ⟨en, e, h1, fun i a b ha hb => let ⟨x, y, z⟩ := h2 i a b ha hb; ⟨x.mono hle, y.mono hle, z⟩⟩
  | loopb st pd ats ps ok =>
    obtain ⟨fn, tmps, assign, body, D, e, h1, h2, h3⟩ := h
    exact ⟨fn, tmps, assign, body, D, e, h1, h2, fun i a b ha hb => (h3 i a b ha hb).mono hle⟩
  | _ => exact h.elim

/-- Where a call began: the world, and what was frozen then. -/
structure Root where
  w : World
  C : Cells

/-- What kind of row a block is, and how long. -/
def ShOk (w : World) (b : Nat) (e : TypeId × Nat) : Prop := w.shape? b = some e

theorem ShOk.same {w w' : World} {b : Nat} {e : TypeId × Nat} (h : ShOk w b e) (hb : w'.heap[b]? = w.heap[b]?) : ShOk w' b e := by
  unfold ShOk World.shape? at h ⊢
  rw [hb]; exact h

theorem ShOk.alloc {w : World} {b : Nat} {e : TypeId × Nat} (h : ShOk w b e) (hb : b < w.heap.size) (o : Obj) : ShOk (w.alloc o) b e := h.same (Below.heap_alloc w o b hb)

theorem ShOk.new {w : World} {cells : Array Value} {e : TypeId} : ShOk (w.alloc (.cells cells e)) w.heap.size (e, cells.size) := by
  have : (w.alloc (.cells cells e)).heap[w.heap.size]? = some (.cells cells e) := by
    show (w.heap.push (.cells cells e))[w.heap.size]? = _
    simp
  unfold ShOk World.shape?
  rw [this]

theorem ShOk.set {w : World} {b : Nat} {e : TypeId × Nat} (h : ShOk w b e) (a : Addr) (v : Value) : ShOk (w.setCell a v) b e := by
  by_cases hb : b = a.block
  · unfold ShOk World.shape? at h ⊢
    have : (w.setCell a v).heap[b]? = (w.heap[b]?).map fun
      | .cells c elem frozen => .cells (if a.spot.isSome then c else c.setIfInBounds a.off v) elem frozen
      | o => o := by
      show (w.heap.modify a.block _)[b]? = _
      rw [Array.getElem?_modify, if_pos hb.symm]
      cases w.heap[b]? with
      | none => rfl
      | some x => cases x <;> rfl
    rw [this]
    cases hx : w.heap[b]? with
    | none => rw [hx] at h; simp at h
    | some x =>
      rw [hx] at h
      cases x with
      | cells cs ty fr =>
        simp only [Option.some.injEq] at h
        simp only [Option.map_some, ← h]
        split <;> simp
      | _ => simp at h
  · unfold ShOk World.shape? at h ⊢
    rw [Below.heap_setCell _ _ _ _ hb]; exact h

/-- What kind of row a block is, and that nothing is frozen from a place on. -/
def TokTy (w : World) (b fin : Nat) (e : TypeId) : Prop := ∃ (cs : Array Value) (lo hi : Nat), w.heap[b]? = some (.cells cs e (lo, hi)) ∧ (lo = hi ∨ hi ≤ fin)

theorem TokTy.free {w : World} {b fin : Nat} {e : TypeId} (h : TokTy w b fin e) (o : Nat) (ho : fin ≤ o) : w.frozen? ⟨b, o, none⟩ = false := by
  obtain ⟨cs, lo, hi, h1, h2⟩ := h
  simp only [World.frozen?, h1, Bool.and_eq_false_iff, decide_eq_false_iff_not]
  omega

theorem TokTy.shape {w : World} {b fin : Nat} {e : TypeId} (h : TokTy w b fin e) : ∃ c, w.shape? b = some (e, c) := by
  obtain ⟨cs, lo, hi, h1, h2⟩ := h
  exact ⟨cs.size, by simp only [World.shape?, h1]⟩

theorem TokTy.same {w w' : World} {b fin : Nat} {e : TypeId} (h : TokTy w b fin e) (hb : w'.heap[b]? = w.heap[b]?) : TokTy w' b fin e := by
  obtain ⟨cs, lo, hi, h1, h2⟩ := h
  exact ⟨cs, lo, hi, by rw [hb]; exact h1, h2⟩

theorem TokTy.alloc {w : World} {b fin : Nat} {e : TypeId} (h : TokTy w b fin e) (hb : b < w.heap.size) (o : Obj) : TokTy (w.alloc o) b fin e := h.same (Below.heap_alloc w o b hb)

theorem TokTy.new {w : World} {cells : Array Value} {e : TypeId} {fin : Nat} : TokTy (w.alloc (.cells cells e)) w.heap.size fin e := by
  refine ⟨cells, 0, 0, ?_, .inl rfl⟩
  show (w.heap.push (.cells cells e))[w.heap.size]? = _
  simp

theorem TokTy.set {w : World} {b fin fin' : Nat} {e : TypeId} (h : TokTy w b fin e) (hf : fin ≤ fin') (a : Addr) (v : Value) : TokTy (w.setCell a v) b fin' e := by
  obtain ⟨cs, lo, hi, h1, h2⟩ := h
  have h3 : lo = hi ∨ hi ≤ fin' := by omega
  by_cases hb : b = a.block
  · subst hb
    refine ⟨if a.spot.isSome then cs else cs.setIfInBounds a.off v, lo, hi, ?_, h3⟩
    show (w.heap.modify a.block _)[a.block]? = _
    rw [Array.getElem?_modify, if_pos rfl, h1]
    rfl
  · exact ⟨cs, lo, hi, by rw [Below.heap_setCell _ _ _ _ hb]; exact h1, h3⟩

theorem TokTy.up {w : World} {b fin fin' : Nat} {e : TypeId} (h : TokTy w b fin e) (hf : fin ≤ fin') : TokTy w b fin' e := by
  obtain ⟨cs, lo, hi, h1, h2⟩ := h
  exact ⟨cs, lo, hi, h1, by omega⟩

theorem TokTy.freeze {w : World} {b fin : Nat} {e : TypeId} (h : TokTy w b fin e) (a : Addr) (n : Nat) (hfit : b = a.block → a.off + n ≤ fin) : TokTy (w.freeze a n) b fin e := by
  unfold World.freeze
  split
  · exact h
  · obtain ⟨cs, lo, hi, h1, h2⟩ := h
    by_cases hb : b = a.block
    · have hfit' := hfit hb
      subst hb
      by_cases he : lo = hi
      · refine ⟨cs, a.off, a.off + n, ?_, .inr hfit'⟩
        show (w.heap.modify a.block _)[a.block]? = _
        rw [Array.getElem?_modify, if_pos rfl, h1]
        simp [he]
      · refine ⟨cs, min lo a.off, max hi (a.off + n), ?_, .inr (by omega)⟩
        show (w.heap.modify a.block _)[a.block]? = _
        rw [Array.getElem?_modify, if_pos rfl, h1]
        simp [he]
    · refine ⟨cs, lo, hi, ?_, h2⟩
      show (w.heap.modify a.block _)[b]? = _
      rw [Array.getElem?_modify, if_neg (Ne.symm hb)]
      exact h1

section
variable {G : Cells}
/-- The world as the abstract heap has it. `G`: what is known of package-level variables. -/
structure Sim (G : Cells) (base : Nat) (w0 : Root) (C : Cells) (M : List Loc) (hp : List Blk) (w : World) : Prop where
  below : Below base w0.w w
  basele : base ≤ w0.w.heap.size
  old : ∀ b o v, C b o = some v → b < base → w0.C b o = some v
  glob : ∀ b o v, G b o = some v → C b o = some v
  mlen : M.length = hp.length
  froz : ∀ b o v, C b o = some v → w.cell? ⟨b, o, none⟩ = some v
  cells : ∀ (k : Nat) cs fz L, hp[k]? = some (.cells cs fz) → M[k]? = some L → base ≤ L.b ∧ L.b < w.heap.size ∧
    (∀ (i : Nat) c, cs[i]? = some c → ∃ c', w.cell? ⟨L.b, i, none⟩ = some c' ∧ Rep C M hp c c') ∧
    (∀ i, w.frozen? ⟨L.b, i, none⟩ = false) ∧ (∀ o, C L.b o = none) ∧ (∀ o, o < L.cap → ∃ v, w.cell? ⟨L.b, o, none⟩ = some v) ∧ ShOk w L.b L.ty
  toks : ∀ (k : Nat) n s ty L, hp[k]? = some (.tok n s ty) → M[k]? = some L → base ≤ L.b ∧ L.b < w.heap.size ∧ L.fin ≤ L.cap ∧
    (∀ o, L.fin ≤ o → C L.b o = none) ∧ (∀ o, L.fin ≤ o → o < L.cap → (∃ v, w.cell? ⟨L.b, o, none⟩ = some v) ∧ w.frozen? ⟨L.b, o, none⟩ = false) ∧ TokTy w L.b L.fin ty
  apart : ∀ (k k' : Nat) L L', k ≠ k' → M[k]? = some L → M[k']? = some L' → L.b ≠ L'.b
  objs : ∀ (k : Nat) b L, b.isObj = true → hp[k]? = some b → M[k]? = some L → base ≤ L.b ∧ ∃ o, w.heap[L.b]? = some o ∧ NotCells o ∧ ObjOk C M hp b o

theorem Sim.basew {base : Nat} {w0 : Root} {w : World} {C : Cells} {M : List Loc} {hp : List Blk} (h : Sim G base w0 C M hp w) : base ≤ w.heap.size :=
  Nat.le_trans h.basele h.below.size

theorem Sim.loc {base : Nat} {w0 : Root} {w : World} {C : Cells} {M : List Loc} {hp : List Blk} (h : Sim G base w0 C M hp w) {k : Nat} {b : Blk} (hb : hp[k]? = some b) :
    ∃ L, M[k]? = some L := by
  have : k < hp.length := (List.getElem?_eq_some_iff.1 hb).1
  rw [← h.mlen] at this
  exact ⟨M[k], List.getElem?_eq_getElem this⟩

theorem Sim.drew {base : Nat} {w0 : Root} {w : World} {C : Cells} {M : List Loc} {hp : List Blk} (h : Sim G base w0 C M hp w) : Sim G base w0 C M hp w.drew :=
  ⟨h.below.drew, h.basele, h.old, h.glob, h.mlen, h.froz, h.cells, h.toks, h.apart, h.objs⟩
end

theorem Rep.one {C : Cells} {M : List Loc} {hp : List Blk} {x : AV} {y : Value} (h : Rep C M hp x y) (h1 : x.one = true) : y.oneCell' = true := by
  cases h <;> first | rfl | (simp [AV.one] at h1; done) | skip
  rename_i hx
  cases y <;> first | rfl | (simp [plain] at hx)

end Go.Abs

/- The steps of the abstract heap: a new frozen row, a new mutable block, a slice that grows, a store, a freezing. No condition. -/
namespace Go.Abs
open Go.RowKit

variable {G : Cells} {base : Nat} {w0 : Root} {w : World} {C : Cells} {M : List Loc} {hp : List Blk}

/-- Some more cells that nobody will write any more. -/
def Cells.add (C : Cells) (B lo : Nat) (vs : List Value) : Cells :=
  fun b o => if b = B ∧ lo ≤ o ∧ o < lo + vs.length then vs[o - lo]? else C b o

theorem Cells.add_in (C : Cells) (B lo : Nat) (vs : List Value) (i : Nat) (h : i < vs.length) : C.add B lo vs B (lo + i) = vs[i]? := by
  unfold Cells.add
  rw [if_pos ⟨rfl, by omega, by omega⟩]
  congr 1; omega

theorem Cells.add_other (C : Cells) (B lo : Nat) (vs : List Value) {b o : Nat} (h : ¬ (b = B ∧ lo ≤ o ∧ o < lo + vs.length)) : C.add B lo vs b o = C b o := by
  unfold Cells.add
  rw [if_neg h]

theorem Sim.fresh (h : Sim G base w0 C M hp w) (o : Nat) : C w.heap.size o = none := by
  cases hc : C w.heap.size o with
  | none => rfl
  | some v =>
    have := World.block_lt_of_cell? w _ (h.froz _ _ _ hc)
    simp at this

theorem Sim.fresh' (h : Sim G base w0 C M hp w) {b o : Nat} (hb : w.heap.size ≤ b) : C b o = none := by
  cases hc : C b o with
  | none => rfl
  | some v =>
    have := World.block_lt_of_cell? w _ (h.froz _ _ _ hc)
    simp at this
    omega

/-- What a step must show of blocks without cells. -/
theorem Sim.objsKeep (h : Sim G base w0 C M hp w) {C' : Cells} {M' : List Loc} {hp' : List Blk} {w' : World} (hle : Le C M hp C' M' hp') (hh : ∀ (k : Nat) b, b.isObj = true → hp'[k]? = some b → hp[k]? = some b ∧ M'[k]? = M[k]?)
    (hw : ∀ (b : Nat) o, w.heap[b]? = some o → NotCells o → w'.heap[b]? = some o) : ∀ (k : Nat) b L, b.isObj = true → hp'[k]? = some b → M'[k]? = some L → base ≤ L.b ∧ ∃ o, w'.heap[L.b]? = some o ∧ NotCells o ∧ ObjOk C' M' hp' b o := fun k b L hb hk hM => by
  obtain ⟨h1, h2⟩ := hh k b hb hk
  rw [h2] at hM
  obtain ⟨a, o, e, c, d⟩ := h.objs k b L hb h1 hM
  exact ⟨a, o, hw _ _ e c, c, d.mono hle⟩

theorem heap_alloc_keep (w : World) (x : Obj) (b : Nat) (o : Obj) (h : w.heap[b]? = some o) : (w.alloc x).heap[b]? = some o := by
  show (w.heap.push x)[b]? = some o
  have hl := (Array.getElem?_eq_some_iff.1 h).1
  rw [Array.getElem?_push_lt hl, ← Array.getElem?_eq_getElem hl]
  exact h

theorem objs_push {b : Blk} {L : Loc} (hl : M.length = hp.length) (hb : b.isObj = false) {k : Nat} {x : Blk} (hx : x.isObj = true) (h : (hp ++ [b])[k]? = some x) : hp[k]? = some x ∧ (M ++ [L])[k]? = M[k]? := by
  rcases Nat.lt_or_ge k hp.length with hk | hk
  · rw [List.getElem?_append_left hk] at h
    exact ⟨h, List.getElem?_append_left (by omega)⟩
  · rw [List.getElem?_append_right hk] at h
    cases hj : k - hp.length with
    | zero => rw [hj] at h; simp at h; subst h; rw [hb] at hx; cases hx
    | succ j => rw [hj] at h; simp at h

theorem objs_set {b : Blk} {i : Nat} (hb : b.isObj = false) {k : Nat} {x : Blk} (hx : x.isObj = true) (h : (hp.set i b)[k]? = some x) : k ≠ i ∧ hp[k]? = some x := by
  by_cases e : i = k
  · subst e
    by_cases hi : i < hp.length
    · rw [List.getElem?_set_self hi] at h
      simp at h
      subst h; rw [hb] at hx; cases hx
    · rw [List.getElem?_eq_none (by simp; omega)] at h
      cases h
  · rw [List.getElem?_set_ne e] at h
    exact ⟨fun q => e q.symm, h⟩

theorem Le.addC {B lo : Nat} {vs : List Value} (hn : ∀ o, lo ≤ o → o < lo + vs.length → C B o = none) : Le C M hp (C.add B lo vs) M hp := by
  refine ⟨fun b o v h => ?_, fun k cs fz h => ⟨cs, h, fun _ => Nat.le_refl _, fun _ => rfl, fun h => h⟩, fun k n s ty h => ⟨n, h, Nat.le_refl _, fun _ => rfl, fun h => h⟩, fun k b _ h => ⟨⟨b, h, .refl b⟩, rfl⟩⟩
  rw [Cells.add_other]
  · exact h
  · rintro ⟨rfl, h1, h2⟩
    rw [hn o h1 h2] at h
    cases h

theorem Le.push (b : Blk) (L : Loc) (hl : M.length = hp.length) : Le C M hp C (M ++ [L]) (hp ++ [b]) := by
  refine ⟨fun _ _ _ h => h, fun k cs fz h => ?_, fun k n s ty h => ?_, fun k o _ h => ?_⟩
  · have hk : k < hp.length := (List.getElem?_eq_some_iff.1 h).1
    exact ⟨cs, by rw [List.getElem?_append_left hk]; exact h, fun _ => Nat.le_refl _, fun _ => by rw [List.getElem?_append_left (by omega)], fun h => by rw [List.getElem?_append_left (by omega)]; exact h⟩
  · have hk : k < hp.length := (List.getElem?_eq_some_iff.1 h).1
    exact ⟨n, by rw [List.getElem?_append_left hk]; exact h, Nat.le_refl _, fun _ => by rw [List.getElem?_append_left (by omega)], fun h => by rw [List.getElem?_append_left (by omega)]; exact h⟩
  · have hk : k < hp.length := (List.getElem?_eq_some_iff.1 h).1
    exact ⟨⟨o, by rw [List.getElem?_append_left hk]; exact h, .refl o⟩, by rw [List.getElem?_append_left (by omega)]⟩

/-- A new block whose first cells are frozen at once. -/
theorem Sim.frozenRow (h : Sim G base w0 C M hp w) (cells : Array Value) (e : TypeId) (vs : List Value) (hv : ∀ (i : Nat) v, vs[i]? = some v → cells[i]? = some v) :
    Le C M hp (C.add w.heap.size 0 vs) M hp ∧ Sim G base w0 (C.add w.heap.size 0 vs) M hp (w.alloc (.cells cells e)) := by
  have hle : Le C M hp (C.add w.heap.size 0 vs) M hp := Le.addC fun o _ _ => h.fresh o
  refine ⟨hle, h.below.alloc (Nat.le_trans h.basele h.below.size) _, h.basele, fun b o v hc hb => h.old b o v (by rwa [Cells.add_other _ _ _ _ (fun q => by have := h.basew; omega)] at hc) hb, fun b o v hg => hle.C _ _ _ (h.glob b o v hg), h.mlen, ?_, ?_, ?_, h.apart, h.objsKeep hle (fun k o _ h => ⟨h, rfl⟩) fun b o hb _ => heap_alloc_keep _ _ _ _ hb⟩
  · intro b o v hc
    by_cases hb : b = w.heap.size ∧ 0 ≤ o ∧ o < 0 + vs.length
    · obtain ⟨rfl, _, h2⟩ := hb
      have := Cells.add_in C w.heap.size 0 vs o (by omega)
      rw [Nat.zero_add] at this
      rw [this] at hc
      rw [World.cell?_alloc_new]
      exact hv o v hc
    · rw [Cells.add_other _ _ _ _ hb] at hc
      have hw := h.froz b o v hc
      rw [World.cell?_alloc_lt _ _ _ (World.block_lt_of_cell? _ _ hw)]
      exact hw
  · intro k cs fz L hk hM
    obtain ⟨h1, h2, h3, q1, q2, q3⟩ := h.cells k cs fz L hk hM
    have hne : ∀ o, ¬ (L.b = w.heap.size ∧ 0 ≤ o ∧ o < 0 + vs.length) := fun o hq => by omega
    refine ⟨h1, by simp; omega, fun i c hc => ?_, fun i => by rw [World.frozen?_alloc_old _ _ _ (by show L.b ≠ _; omega)]; exact q1 i, fun o => by rw [Cells.add_other _ _ _ _ (hne o)]; exact q2 o,
      fun o ho => by rw [World.cell?_alloc_lt _ _ _ (by exact h2)]; exact q3.1 o ho, q3.2.alloc h2 _⟩
    obtain ⟨c', a1, a2⟩ := h3 i c hc
    exact ⟨c', by rw [World.cell?_alloc_lt _ _ _ (by exact h2)]; exact a1, a2.mono hle⟩
  · intro k n s ty L hk hM
    obtain ⟨h1, h2, h3, h4, h5, h6⟩ := h.toks k n s ty L hk hM
    have hne : ∀ o, ¬ (L.b = w.heap.size ∧ 0 ≤ o ∧ o < 0 + vs.length) := fun o hq => by omega
    refine ⟨h1, by simp; omega, h3, fun o ho => by rw [Cells.add_other _ _ _ _ (hne o)]; exact h4 o ho, fun o ho ho' => ?_, h6.alloc h2 _⟩
    obtain ⟨a1, a2⟩ := h5 o ho ho'
    exact ⟨by rw [World.cell?_alloc_lt _ _ _ (by exact h2)]; exact a1, by rw [World.frozen?_alloc_old _ _ _ (by show L.b ≠ _; omega)]; exact a2⟩

/-- Two lists laid side by side by a value's cells. -/
def RepL (C : Cells) (M : List Loc) (hp : List Blk) (cs : List AV) (cs' : List Value) : Prop :=
  cs.length = cs'.length ∧ ∀ (i : Nat) a b, cs[i]? = some a → cs'[i]? = some b → Rep C M hp a b

theorem RepL.mono {C' : Cells} {M' : List Loc} {hp' : List Blk} (hle : Le C M hp C' M' hp') {cs : List AV} {cs' : List Value} (h : RepL C M hp cs cs') : RepL C' M' hp' cs cs' :=
  ⟨h.1, fun i a b h1 h2 => (h.2 i a b h1 h2).mono hle⟩

theorem RepL.get {cs : List AV} {cs' : List Value} (h : RepL C M hp cs cs') {i : Nat} {c : AV} (hc : cs[i]? = some c) : ∃ c', cs'[i]? = some c' ∧ Rep C M hp c c' := by
  have hi : i < cs'.length := by rw [← h.1]; exact (List.getElem?_eq_some_iff.1 hc).1
  exact ⟨cs'[i], List.getElem?_eq_getElem hi, h.2 i c _ hc (List.getElem?_eq_getElem hi)⟩

/-- A new mutable block, or row. -/
theorem Sim.newCells (h : Sim G base w0 C M hp w) (row : Bool) (cap : Nat) (cs : List AV) (vs : List Value) (cells : Array Value) (e : TypeId) (hr : RepL C M hp cs vs) (hv : ∀ (i : Nat) v, vs[i]? = some v → cells[i]? = some v) (hcap : cap ≤ cells.size) :
    Le C M hp C (M ++ [{ b := w.heap.size, cap := cap, ty := (e, cells.size) }]) (hp ++ [.cells cs row]) ∧
      Sim G base w0 C (M ++ [{ b := w.heap.size, cap := cap, ty := (e, cells.size) }]) (hp ++ [.cells cs row]) (w.alloc (.cells cells e)) := by
  have hle : Le C M hp C (M ++ [{ b := w.heap.size, cap := cap, ty := (e, cells.size) }]) (hp ++ [.cells cs row]) := Le.push _ _ h.mlen
  have hbw := Nat.le_trans h.basele h.below.size
  refine ⟨hle, h.below.alloc hbw _, h.basele, h.old, h.glob, by simp [h.mlen], ?_, ?_, ?_, ?_, h.objsKeep hle (fun k o ho hk => objs_push h.mlen rfl ho hk) fun b o hb _ => heap_alloc_keep _ _ _ _ hb⟩
  · intro b o v hc
    have hw := h.froz b o v hc
    rw [World.cell?_alloc_lt _ _ _ (World.block_lt_of_cell? _ _ hw)]
    exact hw
  · intro k cs₁ fz L hk hM
    rcases Nat.lt_or_ge k hp.length with hl | hl
    · rw [List.getElem?_append_left hl] at hk
      rw [List.getElem?_append_left (by rw [h.mlen]; exact hl)] at hM
      obtain ⟨h1, h2, h3, q1, q2, q3⟩ := h.cells k cs₁ fz L hk hM
      refine ⟨h1, by simp; omega, fun i c hc => ?_, fun i => by rw [World.frozen?_alloc_old _ _ _ (by show L.b ≠ _; omega)]; exact q1 i, q2, fun o ho => by rw [World.cell?_alloc_lt _ _ _ (by exact h2)]; exact q3.1 o ho, q3.2.alloc h2 _⟩
      obtain ⟨c', a1, a2⟩ := h3 i c hc
      exact ⟨c', by rw [World.cell?_alloc_lt _ _ _ (by exact h2)]; exact a1, a2.mono hle⟩
    · have hk' : k = hp.length := by
        have := (List.getElem?_eq_some_iff.1 hk).1
        simp at this; omega
      subst hk'
      rw [List.getElem?_append_right (Nat.le_refl _)] at hk
      rw [List.getElem?_append_right (by rw [h.mlen]; exact Nat.le_refl _), h.mlen] at hM
      simp at hk hM
      obtain ⟨rfl, rfl⟩ := hk
      subst hM
      refine ⟨hbw, by simp, fun i c hc => ?_, fun i => World.frozen?_alloc_new _ _ _ _, fun o => h.fresh o, fun o ho => ?_, ShOk.new⟩
      · obtain ⟨c', a1, a2⟩ := hr.get hc
        exact ⟨c', by rw [World.cell?_alloc_new]; exact hv _ _ a1, a2.mono hle⟩
      · rw [World.cell?_alloc_new]
        have ho : o < cap := ho
        exact ⟨cells[o], Array.getElem?_eq_getElem (by omega)⟩
  · intro k n s ty L hk hM
    rcases Nat.lt_or_ge k hp.length with hl | hl
    · rw [List.getElem?_append_left hl] at hk
      rw [List.getElem?_append_left (by rw [h.mlen]; exact hl)] at hM
      obtain ⟨h1, h2, h3, h4, h5, h6⟩ := h.toks k n s ty L hk hM
      refine ⟨h1, by simp; omega, h3, h4, fun o ho ho' => ?_, h6.alloc h2 _⟩
      obtain ⟨a1, a2⟩ := h5 o ho ho'
      exact ⟨by rw [World.cell?_alloc_lt _ _ _ (by exact h2)]; exact a1, by rw [World.frozen?_alloc_old _ _ _ (by show L.b ≠ _; omega)]; exact a2⟩
    · have hk' : k = hp.length := by
        have := (List.getElem?_eq_some_iff.1 hk).1
        simp at this; omega
      subst hk'
      rw [List.getElem?_append_right (Nat.le_refl _)] at hk
      simp at hk
  · intro k k' L L' hne hM hM'
    have key : ∀ (j : Nat) (L₁ : Loc), M[j]? = some L₁ → L₁.b < w.heap.size := by
      intro j L₁ hj
      have hjl : j < hp.length := by rw [← h.mlen]; exact (List.getElem?_eq_some_iff.1 hj).1
      cases hb : hp[j] with
      | cells cs₁ fz => exact (h.cells j cs₁ fz L₁ (by rw [List.getElem?_eq_getElem hjl, hb]) hj).2.1
      | tok n s ty => exact (h.toks j n s _ L₁ (by rw [List.getElem?_eq_getElem hjl, hb]) hj).2.1
      | _ =>
        obtain ⟨_, o, e, _⟩ := h.objs j _ L₁ (by rw [hb]; rfl) (List.getElem?_eq_getElem hjl) hj
        exact (Array.getElem?_eq_some_iff.1 e).1
    rcases Nat.lt_or_ge k M.length with hl | hl
    · rw [List.getElem?_append_left hl] at hM
      rcases Nat.lt_or_ge k' M.length with hl' | hl'
      · rw [List.getElem?_append_left hl'] at hM'
        exact h.apart k k' L L' hne hM hM'
      · rw [List.getElem?_append_right hl'] at hM'
        have := key k L hM
        have e : L' = { b := w.heap.size, cap := cap, ty := (e, cells.size) } := by
          cases hj : k' - M.length with
          | zero => rw [hj] at hM'; simpa using hM'.symm
          | succ j => rw [hj] at hM'; simp at hM'
        subst e
        show L.b ≠ w.heap.size
        omega
    · rw [List.getElem?_append_right hl] at hM
      have e : L = { b := w.heap.size, cap := cap, ty := (e, cells.size) } := by
        cases hj : k - M.length with
        | zero => rw [hj] at hM; simpa using hM.symm
        | succ j => rw [hj] at hM; simp at hM
      subst e
      rcases Nat.lt_or_ge k' M.length with hl' | hl'
      · rw [List.getElem?_append_left hl'] at hM'
        have := key k' L' hM'
        show w.heap.size ≠ L'.b
        omega
      · rw [List.getElem?_append_right hl'] at hM'
        exfalso
        have h1 : k - M.length = 0 := by
          cases hj : k - M.length with
          | zero => rfl
          | succ j => rw [hj] at hM; simp at hM
        have h2 : k' - M.length = 0 := by
          cases hj : k' - M.length with
          | zero => rfl
          | succ j => rw [hj] at hM'; simp at hM'
        omega

theorem Sim.newBlock (h : Sim G base w0 C M hp w) (cs : List AV) (cells : Array Value) (e : TypeId) (hr : RepL C M hp cs cells.toList) :
    Le C M hp C (M ++ [{ b := w.heap.size, ty := (e, cells.size) }]) (hp ++ [.cells cs false]) ∧
      Sim G base w0 C (M ++ [{ b := w.heap.size, ty := (e, cells.size) }]) (hp ++ [.cells cs false]) (w.alloc (.cells cells e)) :=
  h.newCells false 0 cs cells.toList cells e hr (fun i v hv => by simpa using hv) (Nat.zero_le _)

end Go.Abs

/- The steps of the abstract heap, more: a slice that grows, a store, a freezing. No condition. -/
namespace Go.Abs
open Go.RowKit

variable {G : Cells} {base : Nat} {w0 : Root} {w : World} {C : Cells} {M : List Loc} {hp : List Blk}

theorem Sim.at (h : Sim G base w0 C M hp w) {k : Nat} {L : Loc} (hM : M[k]? = some L) : L.b < w.heap.size ∧ base ≤ L.b := by
  have hjl : k < hp.length := by rw [← h.mlen]; exact (List.getElem?_eq_some_iff.1 hM).1
  cases hb : hp[k] with
  | cells cs fz => have := h.cells k cs fz L (by rw [List.getElem?_eq_getElem hjl, hb]) hM; exact ⟨this.2.1, this.1⟩
  | tok n s ty => have := h.toks k n s _ L (by rw [List.getElem?_eq_getElem hjl, hb]) hM; exact ⟨this.2.1, this.1⟩
  | _ =>
    obtain ⟨h1, o, e, _⟩ := h.objs k _ L (by rw [hb]; rfl) (List.getElem?_eq_getElem hjl) hM
    exact ⟨(Array.getElem?_eq_some_iff.1 e).1, h1⟩

theorem push_cases {α : Type} {l : List α} {x y : α} {k : Nat} (h : (l ++ [x])[k]? = some y) : (k < l.length ∧ l[k]? = some y) ∨ (k = l.length ∧ y = x) := by
  rcases Nat.lt_or_ge k l.length with hl | hl
  · rw [List.getElem?_append_left hl] at h; exact Or.inl ⟨hl, h⟩
  · rw [List.getElem?_append_right hl] at h
    cases hj : k - l.length with
    | zero => rw [hj] at h; simp at h; exact Or.inr ⟨by omega, h.symm⟩
    | succ j => rw [hj] at h; simp at h

theorem set_cases {α : Type} {l : List α} {x y : α} {k id : Nat} (h : (l.set id x)[k]? = some y) : (k ≠ id ∧ l[k]? = some y) ∨ (k = id ∧ id < l.length ∧ y = x) := by
  by_cases e : k = id
  · subst e
    have hl : k < l.length := by
      have := (List.getElem?_eq_some_iff.1 h).1
      simpa using this
    rw [List.getElem?_set_self hl] at h
    exact Or.inr ⟨rfl, hl, by simpa using h.symm⟩
  · rw [List.getElem?_set_ne (Ne.symm e)] at h
    exact Or.inl ⟨e, h⟩

/-- Nothing that M knows lies in a block that is yet to come. -/
theorem Sim.noFresh (h : Sim G base w0 C M hp w) {k : Nat} {L : Loc} (hM : M[k]? = some L) {vs : List Value} (o : Nat) : ¬ (L.b = w.heap.size ∧ 0 ≤ o ∧ o < 0 + vs.length) := by
  have := (h.at hM).1
  omega

/-- A new row that may grow: a new token. -/
theorem Sim.newTok (h : Sim G base w0 C M hp w) (cells : Array Value) (e : TypeId) (vs : List Value) (hv : ∀ (i : Nat) v, vs[i]? = some v → cells[i]? = some v)
    (n s cap : Nat) (hs : vs.length ≤ cap) (hcap : cap ≤ cells.size) :
    let C' := C.add w.heap.size 0 vs
    let M' := M ++ [{ b := w.heap.size, fin := vs.length, cap := cap }]
    let hp' := hp ++ [.tok n s e]
    Le C M hp C' M' hp' ∧ Sim G base w0 C' M' hp' (w.alloc (.cells cells e)) := by
  intro C' M' hp'
  obtain ⟨hle1, h1⟩ := h.frozenRow cells e vs hv
  have hle2 : Le C' M hp C' M' hp' := Le.push _ _ h.mlen
  have hbw := Nat.le_trans h.basele h.below.size
  refine ⟨hle1.trans hle2, h1.below, h.basele, h1.old, h1.glob, by simp [M', hp', h.mlen], h1.froz, ?_, ?_, ?_, h1.objsKeep hle2 (fun k o ho hk => objs_push h.mlen rfl ho hk) fun b o hb _ => hb⟩
  · intro k cs fz L hk hM
    rcases push_cases hk with ⟨hl, hk⟩ | ⟨_, hk⟩
    · rcases push_cases hM with ⟨_, hM⟩ | ⟨hl', _⟩
      · obtain ⟨a1, a2, a3, a4⟩ := h1.cells k cs fz L hk hM
        refine ⟨a1, a2, fun i c hc => ?_, a4⟩
        obtain ⟨c', b1, b2⟩ := a3 i c hc
        exact ⟨c', b1, b2.mono hle2⟩
      · rw [h.mlen] at hl'; omega
    · cases hk
  · intro k n₁ s₁ ty L hk hM
    rcases push_cases hk with ⟨hl, hk⟩ | ⟨hl, hk⟩
    · rcases push_cases hM with ⟨_, hM⟩ | ⟨hl', _⟩
      · exact h1.toks k n₁ s₁ ty L hk hM
      · rw [h.mlen] at hl'; omega
    · cases hk
      rcases push_cases hM with ⟨hl', _⟩ | ⟨_, rfl⟩
      · rw [h.mlen] at hl'; omega
      · refine ⟨hbw, by simp, hs, fun o ho => ?_, fun o ho ho' => ?_, TokTy.new⟩
        · show C.add w.heap.size 0 vs w.heap.size o = none
          rw [Cells.add_other _ _ _ _ (by simp at ho ⊢; omega)]
          exact h.fresh o
        · refine ⟨?_, World.frozen?_alloc_new _ _ _ _⟩
          rw [World.cell?_alloc_new]
          simp at ho'
          exact ⟨cells[o], Array.getElem?_eq_getElem (by omega)⟩
  · intro k k' L L' hne hM hM'
    rcases push_cases hM with ⟨_, hM⟩ | ⟨e1, rfl⟩ <;> rcases push_cases hM' with ⟨_, hM'⟩ | ⟨e2, rfl⟩
    · exact h.apart k k' L L' hne hM hM'
    · have := (h.at hM).1; show L.b ≠ w.heap.size; omega
    · have := (h.at hM').1; show w.heap.size ≠ L'.b; omega
    · omega

/-- What a token's turn does to the order of things. -/
theorem Le.setTok {C' : Cells} {id n n' s : Nat} {ty : TypeId} {L' : Loc} (hC : ∀ b o v, C b o = some v → C' b o = some v) (hid : hp[id]? = some (.tok n s ty)) (hn : n < n') (hl : M.length = hp.length) :
    Le C M hp C' (M.set id L') (hp.set id (.tok n' s ty)) := by
  have hlt : id < hp.length := (List.getElem?_eq_some_iff.1 hid).1
  refine ⟨hC, fun k cs fz hk => ?_, fun k n₁ s₁ ty₁ hk => ?_, fun k o ho hk => ?_⟩
  · have hne : id ≠ k := by intro e; subst e; rw [hid] at hk; cases hk
    exact ⟨cs, by rw [List.getElem?_set_ne hne]; exact hk, fun _ => Nat.le_refl _, fun _ => by rw [List.getElem?_set_ne hne], fun q => by rw [List.getElem?_set_ne hne]; exact q⟩
  · by_cases e : id = k
    · subst e
      rw [hid] at hk
      cases hk
      exact ⟨n', by rw [List.getElem?_set_self hlt], by omega, fun q => by omega, fun _ => by rw [List.getElem?_set_self (by omega)]; rfl⟩
    · exact ⟨n₁, by rw [List.getElem?_set_ne e]; exact hk, Nat.le_refl _, fun _ => by rw [List.getElem?_set_ne e], fun q => by rw [List.getElem?_set_ne e]; exact q⟩
  · have hne : id ≠ k := by intro e; subst e; rw [hid] at hk; cases hk; cases ho
    exact ⟨⟨o, by rw [List.getElem?_set_ne hne]; exact hk, .refl o⟩, by rw [List.getElem?_set_ne hne]⟩

/-- A row that grows into a new block: the token goes with it. -/
theorem Sim.moveTok (h : Sim G base w0 C M hp w) (cells : Array Value) (e : TypeId) (vs : List Value) (hv : ∀ (i : Nat) v, vs[i]? = some v → cells[i]? = some v)
    {id n n' s cap : Nat} (hid : hp[id]? = some (.tok n s e)) (hn : n < n') (hs : vs.length ≤ cap) (hcap : cap ≤ cells.size) :
    let C' := C.add w.heap.size 0 vs
    let M' := M.set id { b := w.heap.size, fin := vs.length, cap := cap }
    let hp' := hp.set id (.tok n' s e)
    Le C M hp C' M' hp' ∧ Sim G base w0 C' M' hp' (w.alloc (.cells cells e)) := by
  intro C' M' hp'
  obtain ⟨hle1, h1⟩ := h.frozenRow cells e vs hv
  have hle2 : Le C' M hp C' M' hp' := Le.setTok (fun _ _ _ h => h) hid hn h.mlen
  have hbw := Nat.le_trans h.basele h.below.size
  have hlt : id < hp.length := (List.getElem?_eq_some_iff.1 hid).1
  refine ⟨hle1.trans hle2, h1.below, h.basele, h1.old, h1.glob, by simp [M', hp', h.mlen], h1.froz, ?_, ?_, ?_, h1.objsKeep hle2 (fun k o ho hk => ⟨(objs_set rfl ho hk).2, List.getElem?_set_ne (Ne.symm (objs_set rfl ho hk).1)⟩) fun b o hb _ => hb⟩
  · intro k cs fz L hk hM
    rcases set_cases hk with ⟨hne, hk⟩ | ⟨_, _, hk⟩
    · rcases set_cases hM with ⟨_, hM⟩ | ⟨e, _⟩
      · obtain ⟨a1, a2, a3, a4⟩ := h1.cells k cs fz L hk hM
        refine ⟨a1, a2, fun i c hc => ?_, a4⟩
        obtain ⟨c', b1, b2⟩ := a3 i c hc
        exact ⟨c', b1, b2.mono hle2⟩
      · omega
    · cases hk
  · intro k n₁ s₁ ty L hk hM
    rcases set_cases hk with ⟨hne, hk⟩ | ⟨rfl, _, hk⟩
    · rcases set_cases hM with ⟨_, hM⟩ | ⟨e, _⟩
      · exact h1.toks k n₁ s₁ ty L hk hM
      · omega
    · cases hk
      rcases set_cases hM with ⟨hne, _⟩ | ⟨_, _, rfl⟩
      · omega
      · refine ⟨hbw, by simp, hs, fun o ho => ?_, fun o ho ho' => ?_, TokTy.new⟩
        · show C.add w.heap.size 0 vs w.heap.size o = none
          rw [Cells.add_other _ _ _ _ (by simp at ho ⊢; omega)]
          exact h.fresh o
        · refine ⟨?_, World.frozen?_alloc_new _ _ _ _⟩
          rw [World.cell?_alloc_new]
          simp at ho'
          exact ⟨cells[o], Array.getElem?_eq_getElem (by omega)⟩
  · intro k k' L L' hne hM hM'
    rcases set_cases hM with ⟨_, hM⟩ | ⟨e1, _, rfl⟩ <;> rcases set_cases hM' with ⟨_, hM'⟩ | ⟨e2, _, rfl⟩
    · exact h.apart k k' L L' hne hM hM'
    · have := (h.at hM).1; show L.b ≠ w.heap.size; omega
    · have := (h.at hM').1; show w.heap.size ≠ L'.b; omega
    · omega

theorem heap_setCells (b : Nat) : ∀ (vs : List Value) (o : Nat) (w : World) (k : Nat), k ≠ b → (w.setCells b o vs).heap[k]? = w.heap[k]?
  | [], _, _, _, _ => rfl
  | v :: r, o, _, k, h => by rw [World.setCells, heap_setCells b r (o + 1) _ k h]; exact Below.heap_setCell _ _ _ _ h

theorem size_setCells (b : Nat) : ∀ (vs : List Value) (o : Nat) (w : World), (w.setCells b o vs).heap.size = w.heap.size
  | [], _, _ => rfl
  | v :: r, o, _ => by rw [World.setCells, size_setCells b r (o + 1)]; simp

theorem below_setCells {B : Nat} {a : World} (b : Nat) (hb : B ≤ b) : ∀ (vs : List Value) (o : Nat) (w : World), Below B a w → Below B a (w.setCells b o vs)
  | [], _, _, h => h
  | v :: r, o, _, h => below_setCells b hb r (o + 1) _ (h.setCell hb v)

theorem ShOk.setCells {b : Nat} {e : TypeId × Nat} (b' : Nat) : ∀ (vs : List Value) (o : Nat) (w : World), ShOk w b e → ShOk (w.setCells b' o vs) b e
  | [], _, w, h => h
  | v :: r, o, w, h => by rw [World.setCells]; exact ShOk.setCells b' r (o + 1) _ (h.set _ _)

theorem TokTy.setCells {b fin fin' : Nat} {e : TypeId} (hf : fin ≤ fin') (b' : Nat) : ∀ (vs : List Value) (o : Nat) (w : World), TokTy w b fin e → TokTy (w.setCells b' o vs) b fin' e
  | [], _, _, h => h.up hf
  | v :: r, o, w, h => by rw [World.setCells]; exact TokTy.setCells hf b' r (o + 1) _ (h.set (Nat.le_refl _) _ _)

/-- A row that grows where it lies. -/
theorem Sim.growTok (h : Sim G base w0 C M hp w) (vs : List Value) {id n n' s : Nat} {ty : TypeId} {L : Loc} (hid : hp[id]? = some (.tok n s ty)) (hM : M[id]? = some L) (hn : n < n') (hfit : L.fin + vs.length ≤ L.cap) :
    let C' := C.add L.b L.fin vs
    let M' := M.set id { L with fin := L.fin + vs.length }
    let hp' := hp.set id (.tok n' s ty)
    Le C M hp C' M' hp' ∧ Sim G base w0 C' M' hp' (w.setCells L.b L.fin vs) := by
  intro C' M' hp'
  obtain ⟨t1, t2, t3, t4, t5, t6⟩ := h.toks id n s ty L hid hM
  have hCC : ∀ b o v, C b o = some v → C' b o = some v := fun b o v hc => by
    show C.add L.b L.fin vs b o = some v
    rw [Cells.add_other]
    · exact hc
    · rintro ⟨rfl, q1, q2⟩
      rw [t4 o q1] at hc
      cases hc
  have hle : Le C M hp C' M' hp' := Le.setTok hCC hid hn h.mlen
  have hlt : id < hp.length := (List.getElem?_eq_some_iff.1 hid).1
  have hout : ∀ b o, ¬ (b = L.b ∧ L.fin ≤ o ∧ o < L.fin + vs.length) → (w.setCells L.b L.fin vs).cell? ⟨b, o, none⟩ = w.cell? ⟨b, o, none⟩ := fun b o hno =>
    World.cell?_setCells_out L.b vs L.fin w ⟨b, o, none⟩ (fun e _ => by simp at e ⊢; omega)
  refine ⟨hle, below_setCells L.b t1 vs L.fin w h.below, h.basele, fun b o v hc hb => h.old b o v (by have hc' : C.add L.b L.fin vs b o = some v := hc; rwa [Cells.add_other _ _ _ _ (fun q => by omega)] at hc') hb, fun b o v hg => hCC _ _ _ (h.glob b o v hg), by simp [M', hp', h.mlen], ?_, ?_, ?_, ?_, fun k o L₁ ho hk hM₁ => ?_⟩
  · intro b o v hc
    by_cases hb : b = L.b ∧ L.fin ≤ o ∧ o < L.fin + vs.length
    · obtain ⟨rfl, q1, q2⟩ := hb
      obtain ⟨j, rfl⟩ : ∃ j, o = L.fin + j := ⟨o - L.fin, by omega⟩
      have hj : j < vs.length := by omega
      have e := Cells.add_in C L.b L.fin vs j hj
      have hc' : C.add L.b L.fin vs L.b (L.fin + j) = some v := hc
      rw [e, List.getElem?_eq_getElem hj] at hc'
      rw [World.cell?_setCells_in L.b vs L.fin w (fun i hi => by
        obtain ⟨⟨x, hx⟩, _⟩ := t5 (L.fin + i) (by omega) (by omega)
        rw [hx]; rfl) j hj]
      exact hc'
    · have hc' : C.add L.b L.fin vs b o = some v := hc
      rw [Cells.add_other _ _ _ _ hb] at hc'
      rw [hout b o hb]
      exact h.froz b o v hc'
  · intro k cs fz L₁ hk hM₁
    rcases set_cases hk with ⟨hne, hk⟩ | ⟨_, _, hk⟩
    · rcases set_cases hM₁ with ⟨_, hM₁⟩ | ⟨e, _⟩
      · obtain ⟨a1, a2, a3, a4⟩ := h.cells k cs fz L₁ hk hM₁
        have hb : L₁.b ≠ L.b := h.apart k id L₁ L hne hM₁ hM
        obtain ⟨q1, q2, q3⟩ := a4
        refine ⟨a1, by rw [size_setCells]; exact a2, fun i c hc => ?_, fun i => by rw [World.frozen?_setCells]; exact q1 i, fun o => ?_, fun o ho => by rw [hout _ _ (fun q => hb q.1)]; exact q3.1 o ho, q3.2.same (heap_setCells _ _ _ _ _ hb)⟩
        · obtain ⟨c', b1, b2⟩ := a3 i c hc
          exact ⟨c', by rw [hout _ _ (fun q => hb q.1)]; exact b1, b2.mono hle⟩
        · show C.add L.b L.fin vs L₁.b o = none
          rw [Cells.add_other _ _ _ _ (fun q => hb q.1)]
          exact q2 o
      · omega
    · cases hk
  · intro k n₁ s₁ ty L₁ hk hM₁
    rcases set_cases hk with ⟨hne, hk⟩ | ⟨rfl, _, hk⟩
    · rcases set_cases hM₁ with ⟨_, hM₁⟩ | ⟨e, _⟩
      · obtain ⟨a1, a2, a3, a4, a5, a6⟩ := h.toks k n₁ s₁ ty L₁ hk hM₁
        have hb : L₁.b ≠ L.b := h.apart k id L₁ L hne hM₁ hM
        refine ⟨a1, by rw [size_setCells]; exact a2, a3, fun o ho => ?_, fun o ho ho' => ?_, a6.same (heap_setCells _ _ _ _ _ hb)⟩
        · show C.add L.b L.fin vs L₁.b o = none
          rw [Cells.add_other _ _ _ _ (fun q => hb q.1)]
          exact a4 o ho
        · rw [hout _ _ (fun q => hb q.1), World.frozen?_setCells]
          exact a5 o ho ho'
      · omega
    · cases hk
      rcases set_cases hM₁ with ⟨hne, _⟩ | ⟨_, _, rfl⟩
      · omega
      · refine ⟨t1, by rw [size_setCells]; exact t2, hfit, fun o ho => ?_, fun o ho ho' => ?_, TokTy.setCells (Nat.le_add_right _ _) _ _ _ _ t6⟩
        · show C.add L.b L.fin vs L.b o = none
          simp at ho
          rw [Cells.add_other _ _ _ _ (by omega)]
          exact t4 o (by omega)
        · simp at ho ho'
          rw [World.frozen?_setCells]
          show (∃ v, (w.setCells L.b L.fin vs).cell? ⟨L.b, o, none⟩ = some v) ∧ _
          rw [hout L.b o (by omega)]
          exact t5 o (by omega) ho'
  · intro k k' L₁ L₂ hne hM₁ hM₂
    rcases set_cases hM₁ with ⟨_, q1⟩ | ⟨e1, _, rfl⟩ <;> rcases set_cases hM₂ with ⟨_, q2⟩ | ⟨e2, _, rfl⟩
    · exact h.apart k k' L₁ L₂ hne q1 q2
    · exact h.apart k id L₁ L (by omega) q1 hM
    · exact h.apart id k' L L₂ (by omega) hM q2
    · omega
  · obtain ⟨hne, hk'⟩ := objs_set rfl ho hk
    have hM' : M[k]? = some L₁ := by have q : (M.set id { L with fin := L.fin + vs.length })[k]? = some L₁ := hM₁; rwa [List.getElem?_set_ne (Ne.symm hne)] at q
    obtain ⟨a1, x, a2, a3, a4⟩ := h.objs k o L₁ ho hk' hM'
    exact ⟨a1, x, by rw [heap_setCells _ _ _ _ _ (h.apart k id L₁ L hne hM' hM)]; exact a2, a3, a4.mono hle⟩

/-- The cells of a list, some of them others. -/
def putAt (cs : List AV) (off : Nat) (vs : List AV) : List AV := cs.take off ++ vs ++ cs.drop (off + vs.length)

theorem putAt_get {cs vs : List AV} {off : Nat} (h : off + vs.length ≤ cs.length) (i : Nat) :
    (putAt cs off vs)[i]? = if i < off then cs[i]? else if i < off + vs.length then vs[i - off]? else cs[i]? := by
  unfold putAt
  have h1 : (cs.take off).length = off := by simp; omega
  by_cases c1 : i < off
  · rw [if_pos c1, List.append_assoc, List.getElem?_append_left (by omega), List.getElem?_take_of_lt c1]
  · rw [if_neg c1, List.append_assoc, List.getElem?_append_right (by omega), h1]
    by_cases c2 : i < off + vs.length
    · rw [if_pos c2, List.getElem?_append_left (by omega)]
    · rw [if_neg c2, List.getElem?_append_right (by omega), List.getElem?_drop]
      congr 1; omega

theorem putAt_length {cs vs : List AV} {off : Nat} (h : off + vs.length ≤ cs.length) : (putAt cs off vs).length = cs.length := by
  unfold putAt; simp; omega

/-- What a turn of a block's cells does to the order of things. -/
theorem Le.setCells {C' : Cells} {k : Nat} {cs cs' : List AV} {row : Bool} (hC : ∀ b o v, C b o = some v → C' b o = some v) (hk : hp[k]? = some (.cells cs row)) (hl : cs'.length = cs.length) :
    Le C M hp C' M (hp.set k (.cells cs' row)) := by
  have hlt : k < hp.length := (List.getElem?_eq_some_iff.1 hk).1
  refine ⟨hC, fun j cs₁ fz₁ hj => ?_, fun j n₁ s₁ ty₁ hj => ?_, fun j o ho hj => ?_⟩
  · by_cases e : k = j
    · subst e
      rw [hk] at hj
      cases hj
      exact ⟨cs', List.getElem?_set_self hlt, fun _ => by omega, fun _ => rfl, fun h => h⟩
    · exact ⟨cs₁, by rw [List.getElem?_set_ne e]; exact hj, fun _ => Nat.le_refl _, fun _ => rfl, fun h => h⟩
  · have e : k ≠ j := by intro e; subst e; rw [hk] at hj; cases hj
    exact ⟨n₁, by rw [List.getElem?_set_ne e]; exact hj, Nat.le_refl _, fun _ => rfl, fun h => h⟩
  · have e : k ≠ j := by intro e; subst e; rw [hk] at hj; cases hj; cases ho
    exact ⟨⟨o, by rw [List.getElem?_set_ne e]; exact hj, .refl o⟩, rfl⟩

/-- What the growth of a row does to the order of things. -/
theorem Le.growRow {C' : Cells} {k : Nat} {cs cs' : List AV} {L' : Loc} (hC : ∀ b o v, C b o = some v → C' b o = some v) (hk : hp[k]? = some (.cells cs true)) (hl : M.length = hp.length) (hg : cs.length < cs'.length ∨ (cs'.length = cs.length ∧ M[k]? = some L')) :
    Le C M hp C' (M.set k L') (hp.set k (.cells cs' true)) := by
  have hlt : k < hp.length := (List.getElem?_eq_some_iff.1 hk).1
  refine ⟨hC, fun j cs₁ fz₁ hj => ?_, fun j n₁ s₁ ty₁ hj => ?_, fun j o ho hj => ?_⟩
  · by_cases e : k = j
    · subst e
      rw [hk] at hj
      cases hj
      refine ⟨cs', List.getElem?_set_self hlt, fun _ => by omega, fun q => ?_, fun h => by rw [List.getElem?_set_self (by omega)]; rfl⟩
      have := q rfl
      rcases hg with hg | ⟨_, hg⟩
      · omega
      · rw [List.getElem?_set_self (by omega), hg]
    · exact ⟨cs₁, by rw [List.getElem?_set_ne e]; exact hj, fun _ => Nat.le_refl _, fun _ => by rw [List.getElem?_set_ne e], fun h => by rw [List.getElem?_set_ne e]; exact h⟩
  · have e : k ≠ j := by intro e; subst e; rw [hk] at hj; cases hj
    exact ⟨n₁, by rw [List.getElem?_set_ne e]; exact hj, Nat.le_refl _, fun _ => by rw [List.getElem?_set_ne e], fun h => by rw [List.getElem?_set_ne e]; exact h⟩
  · have e : k ≠ j := by intro e; subst e; rw [hk] at hj; cases hj; cases ho
    exact ⟨⟨o, by rw [List.getElem?_set_ne e]; exact hj, .refl o⟩, by rw [List.getElem?_set_ne e]⟩

/-- A store into a mutable block, or into a row's room; the block may be longer then. -/
theorem Sim.storeLong (h : Sim G base w0 C M hp w) {k : Nat} {cs cs' : List AV} {row : Bool} {L : Loc} (hk : hp[k]? = some (.cells cs row)) (hM : M[k]? = some L)
    (off : Nat) (us : List AV) (vs : List Value) (hr : RepL C M hp us vs) (hle : Le C M hp C M (hp.set k (.cells cs' row))) (hfit : off + us.length ≤ cs.length ∨ off + us.length ≤ L.cap)
    (hcs' : ∀ (i : Nat), cs'[i]? = if i < off then cs[i]? else if i < off + us.length then us[i - off]? else cs[i]?) :
    Sim G base w0 C M (hp.set k (.cells cs' row)) (w.setCells L.b off vs) := by
  obtain ⟨t1, t2, t3, tf, tc, tr, tsh⟩ := h.cells k cs row L hk hM
  have hlen : us.length = vs.length := hr.1
  have hout : ∀ b o, ¬ (b = L.b ∧ off ≤ o ∧ o < off + vs.length) → (w.setCells L.b off vs).cell? ⟨b, o, none⟩ = w.cell? ⟨b, o, none⟩ := fun b o hno =>
    World.cell?_setCells_out L.b vs off w ⟨b, o, none⟩ (fun e _ => by simp at e ⊢; omega)
  have hin := World.cell?_setCells_in L.b vs off w (fun q hq => by
    rcases hfit with hfit | hfit
    · obtain ⟨c', b1, _⟩ := t3 (off + q) _ (List.getElem?_eq_getElem (by omega))
      rw [b1]; rfl
    · obtain ⟨c', b1⟩ := tr (off + q) (by omega)
      rw [b1]; rfl)
  refine ⟨below_setCells L.b t1 vs off w h.below, h.basele, h.old, h.glob, by simp [h.mlen], ?_, ?_, ?_, h.apart, fun j o L₁ ho hj hM₁ => ?_⟩
  · intro b o v hc
    rw [hout b o (by rintro ⟨rfl, _⟩; rw [tc o] at hc; cases hc)]
    exact h.froz b o v hc
  · intro j cs₁ fz₁ L₁ hj hM₁
    rcases set_cases hj with ⟨hne, hj⟩ | ⟨rfl, _, hj⟩
    · obtain ⟨a1, a2, a3, q1, q2, q3⟩ := h.cells j cs₁ fz₁ L₁ hj hM₁
      have hb : L₁.b ≠ L.b := h.apart j k L₁ L hne hM₁ hM
      refine ⟨a1, by rw [size_setCells]; exact a2, fun i c hc => ?_, fun i => by rw [World.frozen?_setCells]; exact q1 i, q2, fun o ho => by rw [hout _ _ (fun q => hb q.1)]; exact q3.1 o ho, q3.2.same (heap_setCells _ _ _ _ _ hb)⟩
      obtain ⟨c', b1, b2⟩ := a3 i c hc
      exact ⟨c', by rw [hout _ _ (fun q => hb q.1)]; exact b1, b2.mono hle⟩
    · cases hj
      rw [hM] at hM₁
      cases hM₁
      refine ⟨t1, by rw [size_setCells]; exact t2, fun i c hc => ?_, fun i => by rw [World.frozen?_setCells]; exact tf i, tc, fun o ho => ?_, tsh.setCells _ _ _ _⟩
      · rw [hcs'] at hc
        by_cases c1 : i < off
        · rw [if_pos c1] at hc
          obtain ⟨c', b1, b2⟩ := t3 i c hc
          exact ⟨c', by rw [hout _ _ (by omega)]; exact b1, b2.mono hle⟩
        · rw [if_neg c1] at hc
          by_cases c2 : i < off + us.length
          · rw [if_pos c2] at hc
            obtain ⟨c', b1, b2⟩ := hr.get hc
            have hj : i - off < vs.length := by omega
            have := hin (i - off) hj
            rw [show off + (i - off) = i by omega] at this
            refine ⟨c', ?_, b2.mono hle⟩
            rw [this, ← b1, List.getElem?_eq_getElem hj]
          · rw [if_neg c2] at hc
            obtain ⟨c', b1, b2⟩ := t3 i c hc
            exact ⟨c', by rw [hout _ _ (by omega)]; exact b1, b2.mono hle⟩
      · by_cases c1 : off ≤ o ∧ o < off + vs.length
        · have := hin (o - off) (by omega)
          rw [show off + (o - off) = o by omega] at this
          have hq : o - off < vs.length := by omega
          exact ⟨vs[o - off], this⟩
        · rw [hout _ _ (by omega)]
          exact tr o ho
  · intro j n₁ s₁ ty L₁ hj hM₁
    rcases set_cases hj with ⟨hne, hj⟩ | ⟨_, _, hj⟩
    · obtain ⟨a1, a2, a3, a4, a5, a6⟩ := h.toks j n₁ s₁ ty L₁ hj hM₁
      have hb : L₁.b ≠ L.b := h.apart j k L₁ L hne hM₁ hM
      refine ⟨a1, by rw [size_setCells]; exact a2, a3, a4, fun o ho ho' => ?_, a6.same (heap_setCells _ _ _ _ _ hb)⟩
      rw [hout _ _ (fun q => hb q.1), World.frozen?_setCells]
      exact a5 o ho ho'
    · cases hj
  · obtain ⟨hne, hj'⟩ := objs_set rfl ho hj
    obtain ⟨a1, x, a2, a3, a4⟩ := h.objs j o L₁ ho hj' hM₁
    exact ⟨a1, x, by rw [heap_setCells _ _ _ _ _ (h.apart j k L₁ L hne hM₁ hM)]; exact a2, a3, a4.mono hle⟩

/-- A store into a mutable block. -/
theorem Sim.store (h : Sim G base w0 C M hp w) {k : Nat} {cs : List AV} {row : Bool} {L : Loc} (hk : hp[k]? = some (.cells cs row)) (hM : M[k]? = some L)
    (off : Nat) (us : List AV) (vs : List Value) (hr : RepL C M hp us vs) (hfit : off + us.length ≤ cs.length) :
    Le C M hp C M (hp.set k (.cells (putAt cs off us) row)) ∧ Sim G base w0 C M (hp.set k (.cells (putAt cs off us) row)) (w.setCells L.b off vs) := by
  have hle : Le C M hp C M (hp.set k (.cells (putAt cs off us) row)) := Le.setCells (fun _ _ _ h => h) hk (putAt_length hfit)
  exact ⟨hle, h.storeLong hk hM off us vs hr hle (Or.inl hfit) fun i => putAt_get hfit i⟩

/-- To write what is there turns nothing. -/
theorem setCell_id {w : World} {b o : Nat} {v : Value} (h : w.cell? ⟨b, o, none⟩ = some v) : w.setCell ⟨b, o, none⟩ v = w := by
  have key : w.heap.modify b (fun
      | .cells c elem frozen => .cells (if (none : Option Nat).isSome then c else c.setIfInBounds o v) elem frozen
      | o => o) = w.heap := by
    apply Array.ext_getElem?
    intro i
    rw [Array.getElem?_modify]
    split
    · rename_i e
      subst e
      cases hx : w.heap[b]? with
      | none => rfl
      | some x =>
        cases x with
        | cells c ty fr =>
          have hc : c[o]? = some v := by simpa [World.cell?, hx] using h
          simp only [Option.map_some, Option.isSome_none, Bool.false_eq_true, if_false]
          congr 2
          apply Array.ext_getElem?
          intro j
          rw [Array.getElem?_setIfInBounds]
          split
          · rename_i e; subst e; split
            · exact hc.symm
            · rename_i hn; rw [Array.getElem?_eq_none (by omega)] at hc; cases hc
          · rfl
        | _ => rfl
    · rfl
  show ({ w with heap := _ } : World) = w
  exact congrArg (fun q => ({ w with heap := q } : World)) key

/-- A nil pointer in a block's first cell is told where it lies. -/
theorem Sim.tellNil (h : Sim G base w0 C M hp w) {k : Nat} {L : Loc} {z : List AV} (hk : hp[k]? = some (.cells (.v (.pointer none) :: z) false)) (hM : M[k]? = some L) :
    Le C M hp C M (hp.set k (.cells (.bt k L.ty :: z) false)) ∧ Sim G base w0 C M (hp.set k (.cells (.bt k L.ty :: z) false)) w := by
  obtain ⟨hle, hs⟩ := h.store hk hM 0 [.bt k L.ty] [.pointer none] ⟨rfl, fun i a b ha hb => by
    cases i with
    | zero => simp at ha hb; subst ha; subst hb; exact .bt hk hM
    | succ i => simp at ha⟩ (by simp)
  obtain ⟨_, _, h3, _⟩ := h.cells k _ _ L hk hM
  obtain ⟨c', h4, h5⟩ := h3 0 (.v (.pointer none)) rfl
  cases h5
  have e : w.setCells L.b 0 [.pointer none] = w := by
    rw [World.setCells, World.setCells]
    exact setCell_id h4
  rw [e] at hs
  exact ⟨hle, hs⟩

theorem heap_freeze (w : World) (a : Addr) (n k : Nat) (hk : k ≠ a.block) : (w.freeze a n).heap[k]? = w.heap[k]? := by
  unfold World.freeze
  split
  · rfl
  · show (w.heap.modify a.block _)[k]? = _
    rw [Array.getElem?_modify, if_neg (Ne.symm hk)]

theorem heap_freeze_keep (w : World) (a : Addr) (n k : Nat) (o : Obj) (h : w.heap[k]? = some o) (ho : NotCells o) : (w.freeze a n).heap[k]? = some o := by
  unfold World.freeze
  split
  · exact h
  · show (w.heap.modify a.block _)[k]? = _
    rw [Array.getElem?_modify]
    split
    · rw [h]
      cases o with
      | cells c t f => exact (ho c t f rfl).elim
      | _ => rfl
    · exact h

theorem size_freeze (w : World) (a : Addr) (n : Nat) : (w.freeze a n).heap.size = w.heap.size := by
  unfold World.freeze
  split
  · rfl
  · show (w.heap.modify a.block _).size = _
    simp

theorem freeze_at {w : World} {k lo hi : Nat} {cs : Array Value} {e : TypeId} (a : Addr) (n : Nat) (h : w.heap[k]? = some (.cells cs e (lo, hi))) : ∃ fr, (w.freeze a n).heap[k]? = some (.cells cs e fr) := by
  by_cases hb : k = a.block
  · unfold World.freeze
    split
    · exact ⟨_, h⟩
    · refine ⟨if lo == hi then (a.off, a.off + n) else (min lo a.off, max hi (a.off + n)), ?_⟩
      show (w.heap.modify a.block _)[k]? = _
      rw [Array.getElem?_modify, if_pos hb.symm, h]
      rfl
  · exact ⟨_, by rw [heap_freeze _ _ _ _ hb]; exact h⟩

theorem cell_freeze (w : World) (a c : Addr) (n : Nat) : (w.freeze a n).cell? c = w.cell? c := by
  unfold World.cell?
  cases hx : w.heap[c.block]? with
  | none => rw [Array.getElem?_eq_none (by rw [size_freeze]; exact Array.getElem?_eq_none_iff.1 hx)]
  | some x =>
    cases x with
    | cells cs e fr =>
      obtain ⟨lo, hi⟩ := fr
      obtain ⟨fr', q⟩ := freeze_at a n hx
      rw [q]
    | _ => rw [heap_freeze_keep _ _ _ _ _ hx (fun c t f q => by cases q)]

/-- The head of a row that only grows is frozen. -/
theorem Sim.freezeRow (h : Sim G base w0 C M hp w) {a : Addr} {n : Nat} {id c s : Nat} {ty : TypeId} {L : Loc} (hid : hp[id]? = some (.tok c s ty)) (hM : M[id]? = some L) (ha : L.b = a.block) (hfit : a.off + n ≤ L.fin) :
    Sim G base w0 C M hp (w.freeze a n) := by
  obtain ⟨t1, t2, _⟩ := h.toks id c s ty L hid hM
  refine ⟨Lib.below_freeze h.below (by omega) n, h.basele, h.old, h.glob, h.mlen, fun b o v hc => by rw [cell_freeze]; exact h.froz b o v hc, ?_, ?_, h.apart, ?_⟩
  · intro k cs fz L' hk hM'
    obtain ⟨h1, h2, h3, h4, h5, h6, h7⟩ := h.cells k cs fz L' hk hM'
    have hne : k ≠ id := by intro q; subst q; rw [hid] at hk; cases hk
    have hb : L'.b ≠ a.block := by rw [← ha]; exact h.apart k id L' L hne hM' hM
    refine ⟨h1, by rw [size_freeze]; exact h2, fun i x hx => ?_, fun i => ?_, h5, fun o ho => ?_, h7.same (heap_freeze _ _ _ _ hb)⟩
    · obtain ⟨c', a1, a2⟩ := h3 i x hx
      exact ⟨c', by rw [cell_freeze]; exact a1, a2⟩
    · have := h4 i
      unfold World.frozen? at this ⊢
      rw [heap_freeze _ _ _ _ hb]; exact this
    · obtain ⟨v, hv⟩ := h6 o ho
      exact ⟨v, by rw [cell_freeze]; exact hv⟩
  · intro k n' s' ty' L' hk hM'
    obtain ⟨h1, h2, h3, h4, h5, h6⟩ := h.toks k n' s' ty' L' hk hM'
    have hT : TokTy (w.freeze a n) L'.b L'.fin ty' := h6.freeze a n fun hb => by
      by_cases hne : k = id
      · subst hne; rw [hM] at hM'; cases hM'; exact hfit
      · exact (h.apart k id L' L hne hM' hM (by rw [hb, ha])).elim
    refine ⟨h1, by rw [size_freeze]; exact h2, h3, h4, fun o ho ho' => ⟨?_, hT.free o ho⟩, hT⟩
    obtain ⟨⟨v, hv⟩, _⟩ := h5 o ho ho'
    exact ⟨v, by rw [cell_freeze]; exact hv⟩
  · intro k b L' hb hk hM'
    obtain ⟨h1, o, h2, h3, h4⟩ := h.objs k b L' hb hk hM'
    exact ⟨h1, o, heap_freeze_keep _ _ _ _ _ h2 h3, h3, h4⟩

/-- A row that grows into a new block. -/
theorem Sim.moveRow (h : Sim G base w0 C M hp w) (cells : Array Value) (e : TypeId) (cs' : List AV) (vs : List Value) (hr : RepL C M hp cs' vs) (hv : ∀ (i : Nat) v, vs[i]? = some v → cells[i]? = some v) {cap : Nat} (hcap : cap ≤ cells.size)
    {k : Nat} {cs : List AV} (hk : hp[k]? = some (.cells cs true)) (hlt : cs.length < cs'.length) :
    Le C M hp C (M.set k { b := w.heap.size, cap := cap, ty := (e, cells.size) }) (hp.set k (.cells cs' true)) ∧ Sim G base w0 C (M.set k { b := w.heap.size, cap := cap, ty := (e, cells.size) }) (hp.set k (.cells cs' true)) (w.alloc (.cells cells e)) := by
  have hle : Le C M hp C (M.set k { b := w.heap.size, cap := cap, ty := (e, cells.size) }) (hp.set k (.cells cs' true)) := Le.growRow (fun _ _ _ h => h) hk h.mlen (Or.inl hlt)
  have hbw := Nat.le_trans h.basele h.below.size
  have hkl : k < hp.length := (List.getElem?_eq_some_iff.1 hk).1
  refine ⟨hle, h.below.alloc hbw _, h.basele, h.old, h.glob, by simp [h.mlen], ?_, ?_, ?_, ?_, h.objsKeep hle (fun j o ho hj => ⟨(objs_set rfl ho hj).2, List.getElem?_set_ne (Ne.symm (objs_set rfl ho hj).1)⟩) fun b o hb _ => heap_alloc_keep _ _ _ _ hb⟩
  · intro b o v hc
    have hw := h.froz b o v hc
    rw [World.cell?_alloc_lt _ _ _ (World.block_lt_of_cell? _ _ hw)]
    exact hw
  · intro j cs₁ fz L hj hM
    rcases set_cases hj with ⟨hne, hj⟩ | ⟨rfl, _, hj⟩
    · rcases set_cases hM with ⟨_, hM⟩ | ⟨e, _⟩
      · obtain ⟨h1, h2, h3, q1, q2, q3⟩ := h.cells j cs₁ fz L hj hM
        refine ⟨h1, by simp; omega, fun i c hc => ?_, fun i => by rw [World.frozen?_alloc_old _ _ _ (by show L.b ≠ _; omega)]; exact q1 i, q2, fun o ho => by rw [World.cell?_alloc_lt _ _ _ (by exact h2)]; exact q3.1 o ho, q3.2.alloc h2 _⟩
        obtain ⟨c', a1, a2⟩ := h3 i c hc
        exact ⟨c', by rw [World.cell?_alloc_lt _ _ _ (by exact h2)]; exact a1, a2.mono hle⟩
      · omega
    · cases hj
      rcases set_cases hM with ⟨hne, _⟩ | ⟨_, _, rfl⟩
      · omega
      · refine ⟨hbw, by simp, fun i c hc => ?_, fun i => World.frozen?_alloc_new _ _ _ _, fun o => h.fresh o, fun o ho => ?_, ShOk.new⟩
        · obtain ⟨c', a1, a2⟩ := hr.get hc
          exact ⟨c', by rw [World.cell?_alloc_new]; exact hv _ _ a1, a2.mono hle⟩
        · rw [World.cell?_alloc_new]
          have ho : o < cap := ho
          exact ⟨cells[o], Array.getElem?_eq_getElem (by omega)⟩
  · intro j n s ty L hj hM
    rcases set_cases hj with ⟨hne, hj⟩ | ⟨_, _, hj⟩
    · rcases set_cases hM with ⟨_, hM⟩ | ⟨e, _⟩
      · obtain ⟨h1, h2, h3, h4, h5, h6⟩ := h.toks j n s ty L hj hM
        refine ⟨h1, by simp; omega, h3, h4, fun o ho ho' => ?_, h6.alloc h2 _⟩
        obtain ⟨a1, a2⟩ := h5 o ho ho'
        exact ⟨by rw [World.cell?_alloc_lt _ _ _ (by exact h2)]; exact a1, by rw [World.frozen?_alloc_old _ _ _ (by show L.b ≠ _; omega)]; exact a2⟩
      · omega
    · cases hj
  · intro j j' L L' hne hM hM'
    rcases set_cases hM with ⟨_, hM⟩ | ⟨e1, _, rfl⟩ <;> rcases set_cases hM' with ⟨_, hM'⟩ | ⟨e2, _, rfl⟩
    · exact h.apart j j' L L' hne hM hM'
    · have := (h.at hM).1; show L.b ≠ w.heap.size; omega
    · have := (h.at hM').1; show w.heap.size ≠ L'.b; omega
    · omega

/-- All that is known of the abstract heap: every block frozen (a call has ended: nobody writes to its memory any more). -/
theorem Sim.freezeAll (h : Sim G base w0 C M hp w) :
    ∃ C' : Cells, (∀ b o v, C b o = some v → C' b o = some v) ∧ (∀ b o v, C' b o = some v → w.cell? ⟨b, o, none⟩ = some v) ∧
      (∀ (k : Nat) cs fz L, hp[k]? = some (.cells cs fz) → M[k]? = some L → ∀ (i : Nat) c, cs[i]? = some c → ∃ c', C' L.b i = some c' ∧ Rep C M hp c c') ∧
      (∀ (k : Nat) n s ty L, hp[k]? = some (.tok n s ty) → M[k]? = some L → ∀ o, L.fin ≤ o → C' L.b o = none) := by
  classical
  refine ⟨fun b o => match C b o with
    | some v => some v
    | none => if ∃ (k : Nat) (cs : List AV) (fz : Bool) (L : Loc), hp[k]? = some (.cells cs fz) ∧ M[k]? = some L ∧ L.b = b ∧ o < cs.length then w.cell? ⟨b, o, none⟩ else none, ?_, ?_, ?_, ?_⟩
  · intro b o v hc
    simp [hc]
  · intro b o v hc
    cases hcc : C b o with
    | some u => simp [hcc] at hc; subst hc; exact h.froz b o u hcc
    | none =>
      simp only [hcc] at hc
      split at hc
      · exact hc
      · cases hc
  · intro k cs fz L hk hM i c hc
    obtain ⟨t1, t2, t3, t4⟩ := h.cells k cs fz L hk hM
    obtain ⟨c', b1, b2⟩ := t3 i c hc
    refine ⟨c', ?_, b2⟩
    cases hcc : C L.b i with
    | some u =>
      have := h.froz _ _ _ hcc
      rw [b1] at this
      simp only [hcc]
      exact this.symm
    | none =>
      simp only [hcc]
      rw [if_pos ⟨k, cs, fz, L, hk, hM, rfl, (List.getElem?_eq_some_iff.1 hc).1⟩]
      exact b1
  · intro k n s ty L hk hM o ho
    obtain ⟨t1, t2, t3, t4, t5, t6⟩ := h.toks k n s ty L hk hM
    simp only [t4 o ho]
    rw [if_neg]
    rintro ⟨k', cs, fz, L', hk', hM', e, _⟩
    have hne : k' ≠ k := by intro e; subst e; rw [hk] at hk'; cases hk'
    exact h.apart k' k L' L hne hM' hM e

end Go.Abs

/- The operations on abstract values, and that the model's own agree with them: values, numbers, reading. No condition. -/
namespace Go.Abs
open Go.RowKit

/-- An operand. -/
inductive Opd where
  | t (n : Nat)
  | c (a : AV)

def undefA : AV := .tup []

def ev (ts : List AV) : Opd → AV
  | .t n => (ts[n]?).getD undefA
  | .c a => a

def toAV : Value → Option AV
  | .slice none 0 0 => some .nsl
  | .func f fs cs => if fs.size = 0 ∧ cs.size = 0 then some (.fn f [] []) else none
  | x => if plain x then some (.v x) else none

def slimOpd : Operand → Option Opd
  | .tmp t => some (.t t)
  | .const v => (toAV v).map .c
  | .func f => some (.c (.fn (.func f) [] []))
  | .global _ => none

def toAVs : List Value → Option (List AV)
  | [] => some []
  | x :: r => match toAV x, toAVs r with
    | some a, some l => some (a :: l)
    | _, _ => none

def slimOpds : List Operand → Option (List Opd)
  | [] => some []
  | x :: r => match slimOpd x, slimOpds r with
    | some a, some l => some (a :: l)
    | _, _ => none

/-- A frame's slots. -/
def FrameRep (C : Cells) (M : List Loc) (hp : List Blk) (ts : List AV) (tmps : Array Value) : Prop := RepL C M hp ts tmps.toList

section
variable {G : Cells} {base : Nat} {w0 : Root} {w : World} {C : Cells} {M : List Loc} {hp : List Blk} {P : Program}

theorem rep_undef : Rep C M hp undefA undef := .tup rfl (fun i a b h => by simp at h)

theorem rep_toAV {x : Value} {a : AV} (h : toAV x = some a) : Rep C M hp a x := by
  unfold toAV at h
  split at h
  · cases h; exact .nsl
  · split at h
    · rename_i hq
      cases h
      exact .fn (by simp [hq.1]) (by simp [hq.2]) (fun i a b h => by simp at h) (fun i a b h => by simp at h)
    · cases h
  · split at h
    · rename_i hp'
      cases h
      exact .v hp'
    · cases h

theorem rep_toAVs : ∀ {xs : List Value} {l : List AV}, toAVs xs = some l → RepL C M hp l xs
  | [], l, h => by cases h; exact ⟨rfl, fun i a b h => by simp at h⟩
  | x :: r, l, h => by
    simp only [toAVs] at h
    split at h
    · rename_i a l' h1 h2
      cases h
      have ih := rep_toAVs h2
      refine ⟨by simp [ih.1], fun i a' b' e1 e2 => ?_⟩
      cases i with
      | zero => simp at e1 e2; subst e1; subst e2; exact rep_toAV h1
      | succ i => simp at e1 e2; exact ih.2 i a' b' e1 e2
    · cases h

theorem frame_get {ts : List AV} {tmps : Array Value} (h : FrameRep C M hp ts tmps) (n : Nat) : Rep C M hp ((ts[n]?).getD undefA) (tmps.getD n undef) := by
  rcases Nat.lt_or_ge n ts.length with hl | hl
  · have hl' : n < tmps.size := by have := h.1; simp at this; omega
    have := h.2 n ts[n] tmps[n] (List.getElem?_eq_getElem hl) (by simp [hl'])
    simpa [List.getElem?_eq_getElem hl, Array.getD, hl'] using this
  · have hl' : tmps.size ≤ n := by have := h.1; simp at this; omega
    have e : tmps.getD n undef = undef := by simp [Array.getD, Nat.not_lt.2 hl']
    rw [List.getElem?_eq_none hl, e]
    exact rep_undef

theorem rep_ev {ts : List AV} {a : Act} (h : FrameRep C M hp ts a.tmps) {x : Operand} {o : Opd} (hx : slimOpd x = some o) : Rep C M hp (ev ts o) (a.eval x) := by
  cases x with
  | tmp t => cases hx; exact frame_get h t
  | const v =>
    simp only [slimOpd, Option.map_eq_some_iff] at hx
    obtain ⟨av, h1, rfl⟩ := hx
    exact rep_toAV h1
  | global g => cases hx
  | func f => cases hx; exact .fn rfl rfl (fun i a b h => by simp at h) (fun i a b h => by simp at h)

theorem frame_put {ts : List AV} {a : Act} (h : FrameRep C M hp ts a.tmps) {x : AV} {y : Value} (hr : Rep C M hp x y) (d : Nat) :
    FrameRep C M hp (ts.set d x) (a.put (some d) y).tmps := by
  have hlen : ts.length = a.tmps.size := by simpa using h.1
  refine ⟨by simp [Act.put, hlen], fun i u v hu hv => ?_⟩
  simp only [Act.put, Array.toList_setIfInBounds] at hv
  rcases set_cases hu with ⟨hne, hu⟩ | ⟨rfl, hl, rfl⟩
  · rw [List.getElem?_set_ne (Ne.symm hne)] at hv
    exact h.2 i u v hu hv
  · rw [List.getElem?_set_self (by simpa [hlen] using hl)] at hv
    simp at hv
    subst hv
    exact hr

/-- What a run gives: the abstract value, in the abstract heap, whatever has become frozen. -/
def Gives (G : Cells) (base : Nat) (w0 : Root) (C : Cells) (M : List Loc) (hp : List Blk) (P : Program) (m : Sem Value) (w : World) (r : AV) (hp' : List Blk) : Prop :=
  ∃ C' M' v' w', m.run P w = .ok v' w' ∧ Le C M hp C' M' hp' ∧ Sim G base w0 C' M' hp' w' ∧ Rep C' M' hp' r v'

theorem Gives.same {m : Sem Value} {r : AV} {v : Value} (h : Sim G base w0 C M hp w) (hr : m.run P w = .ok v w) (hv : Rep C M hp r v) : Gives G base w0 C M hp P m w r hp :=
  ⟨C, M, v, w, hr, Le.refl _ _ _, h, hv⟩

/-! Types. -/

def tyAgg (P : Program) (t : TypeId) : Option Bool :=
  match P.underlying t with
  | some (.struct _) | some (.array _ _) => some true
  | some _ => some false
  | none => none

def tySize (P : Program) (t : TypeId) : Option Nat := (P.info? t).map (·.size)

theorem run_isAgg' {t : TypeId} {b : Bool} (h : tyAgg P t = some b) (w : World) : (isAgg t).run P w = .ok b w := by
  unfold tyAgg at h
  cases hd : P.underlying t with
  | none => simp [hd] at h
  | some d =>
    rw [hd] at h
    unfold isAgg
    simp only [Sem.run_bind, run_underlying hd, Result.andThen_ok]
    cases d <;> simp at h <;> subst h <;> rfl

theorem run_sizeOf' {t : TypeId} {n : Nat} (h : tySize P t = some n) (w : World) : (sizeOf t).run P w = .ok n w := by
  unfold tySize at h
  simp only [Option.map_eq_some_iff] at h
  obtain ⟨i, hi, rfl⟩ := h
  simp [sizeOf, typeInfo, hi]

/-! Reading. -/

/-- A part of cells as a value. -/
def pick1 (ag : Bool) (n : Nat) (cs : List AV) (off : Nat) : Option AV :=
  if ag then (if off + n ≤ cs.length then some (.agg ((cs.drop off).take n)) else none) else cs[off]?

theorem addr_add (b o n : Nat) : (⟨b, o, none⟩ : Addr).add n = ⟨b, o + n, none⟩ := by unfold Addr.add; split <;> simp_all

theorem run_loadVar' {t : TypeId} {ag : Bool} {n : Nat} (hag : tyAgg P t = some ag) (hn : tySize P t = some n) {cs : List AV} {b o off : Nat}
    (hsrc : ∀ (i : Nat) c, cs[i]? = some c → ∃ c', w.cell? ⟨b, o + i, none⟩ = some c' ∧ Rep C M hp c c') {r : AV} (hr : pick1 ag n cs off = some r) :
    ∃ v, (loadVar t ⟨b, o + off, none⟩).run P w = .ok v w ∧ Rep C M hp r v := by
  unfold loadVar
  simp only [Sem.run_bind, run_isAgg' hag, Result.andThen_ok]
  unfold pick1 at hr
  cases ag with
  | true =>
    simp only [if_true] at hr ⊢
    split at hr
    · rename_i hfit
      cases hr
      have hch : ∀ j, j < n → ∃ c', w.cell? ⟨b, o + off + j, none⟩ = some c' ∧ ∃ c, cs[off + j]? = some c ∧ Rep C M hp c c' := fun j hj => by
        obtain ⟨c', h1, h2⟩ := hsrc (off + j) cs[off + j] (List.getElem?_eq_getElem (by omega))
        exact ⟨c', by rw [Nat.add_assoc]; exact h1, _, List.getElem?_eq_getElem (by omega), h2⟩
      have hl := run_loadCells (P := P) w ⟨b, o + off, none⟩ n (fun j => (w.cell? ⟨b, o + off + j, none⟩).getD undef) (fun j hj => by
        obtain ⟨c', h1, _⟩ := hch j hj
        rw [addr_add]; simp [h1])
      refine ⟨.agg ((List.range n).map (fun j => (w.cell? ⟨b, o + off + j, none⟩).getD undef)).toArray, ?_, ?_⟩
      · simp only [Sem.run_bind, run_sizeOf' hn, Result.andThen_ok, hl, Sem.run_pure]
      · refine .agg (by simp; omega) (fun i a c ha hc => ?_)
        have hi : i < n := by
          have := (List.getElem?_eq_some_iff.1 ha).1
          simp at this; omega
        obtain ⟨c', h1, c0, h2, h3⟩ := hch i hi
        simp only [List.getElem?_take, List.getElem?_drop] at ha
        rw [if_pos hi, h2] at ha
        cases ha
        simp [hi, h1] at hc
        subst hc
        exact h3
    · cases hr
  | false =>
    simp only [Bool.false_eq_true, if_false] at hr ⊢
    obtain ⟨c', h1, h2⟩ := hsrc off r hr
    exact ⟨c', by simp [h1], h2⟩

/-- What a pointer reads. -/
def aload (hp : List Blk) (ag : Bool) (n : Nat) : AV → Option AV
  | .fp cs off => pick1 ag n cs off
  | .mp k off => match hp[k]? with
    | some (.cells cs false) => pick1 ag n cs off
    | _ => none
  | .rp k m off => match hp[k]? with
    | some (.cells cs true) => if m = cs.length then pick1 ag n cs off else none
    | _ => none
  | _ => none

theorem gives_load {t : TypeId} {ag : Bool} {n : Nat} (hag : tyAgg P t = some ag) (hn : tySize P t = some n) (h : Sim G base w0 C M hp w) {x : AV} {y : Value} (hx : Rep C M hp x y)
    {r : AV} (hr : aload hp ag n x = some r) : Gives G base w0 C M hp P (Instr.loadAt t y) w r hp := by
  unfold aload at hr
  split at hr
  · rename_i cs off
    cases hx with
    | fp f hC hR =>
      rename_i b o
      obtain ⟨v, h1, h2⟩ := run_loadVar' (w := w) (o := o) hag hn (fun i c hc => ⟨f i, h.froz _ _ _ (hC i c hc), hR i c hc⟩) hr
      exact .same h (by simp [Instr.loadAt, Instr.sureAddr, h1]) h2
  · rename_i k off
    cases hx with
    | mp hb hM =>
      rename_i L cs
      rw [hb] at hr
      simp only at hr
      obtain ⟨t1, t2, t3, t4⟩ := h.cells k cs false L hb hM
      obtain ⟨v, h1, h2⟩ := run_loadVar' (w := w) (o := 0) (b := L.b) hag hn (fun i c hc => by
        obtain ⟨c', a1, a2⟩ := t3 i c hc
        exact ⟨c', by rw [Nat.zero_add]; exact a1, a2⟩) hr
      rw [Nat.zero_add] at h1
      exact .same h (by simp [Instr.loadAt, Instr.sureAddr, h1]) h2
  · rename_i k m off
    cases hx with
    | rp hb hM hn' ha =>
      rename_i L cs a
      rw [hb] at hr
      simp only at hr
      split at hr
      · rename_i hm
        have ha := ha hm
        subst ha
        obtain ⟨t1, t2, t3, t4⟩ := h.cells k cs true L hb hM
        obtain ⟨v, h1, h2⟩ := run_loadVar' (w := w) (o := 0) (b := L.b) hag hn (fun i c hc => by
          obtain ⟨c', a1, a2⟩ := t3 i c hc
          exact ⟨c', by rw [Nat.zero_add]; exact a1, a2⟩) hr
        rw [Nat.zero_add] at h1
        exact .same h (by simp [Instr.loadAt, Instr.sureAddr, h1]) h2
      · cases hr
  · cases hr

/-- The cells of a value that is known. -/
theorem rep_cells {x : AV} {y : Value} (h : Rep C M hp x y) : RepL C M hp x.cells y.cells.toList := by
  have single : ∀ {x : AV} {y : Value}, Rep C M hp x y → RepL C M hp [x] [y] := fun h => ⟨rfl, fun i a b e1 e2 => by
    cases i with
    | zero => simp at e1 e2; subst e1; subst e2; exact h
    | succ i => simp at e1⟩
  cases h with
  | agg hl h => exact ⟨by simp [AV.cells, Value.cells, hl], fun i a b e1 e2 => h i a b (by simpa [AV.cells] using e1) (by simpa [Value.cells] using e2)⟩
  | v h =>
    have hc : y.cells = #[y] := by cases y <;> first | rfl | simp [plain] at h
    rw [hc]
    exact single (.v h)
  | tup hl h => exact single (.tup hl h)
  | nsl => exact single .nsl
  | sl f a b c d e g => exact single (.sl f a b c d e g)
  | fp f a b => exact single (.fp f a b)
  | mp a b => exact single (.mp a b)
  | rp a b c d => exact single (.rp a b c d)
  | rs a b c d e => exact single (.rs a b c d e)
  | ob a b => exact single (.ob a b)
  | fn a b c d => exact single (.fn a b c d)
  | ifc a => exact single (.ifc a)
  | mapv a b => exact single (.mapv a b)
  | yd a b => exact single (.yd a b)
  | bt a b => exact single (.bt a b)

theorem RepL.cells_one {cs : List AV} {cs' : List Value} (h : RepL C M hp cs cs') (h1 : cs.all AV.one = true) : ∀ v ∈ cs', v.oneCell' = true := by
  intro v hv
  obtain ⟨i, hi, rfl⟩ := List.getElem_of_mem hv
  have hl : i < cs.length := by rw [h.1]; exact hi
  exact (h.2 i cs[i] cs'[i] (List.getElem?_eq_getElem hl) (List.getElem?_eq_getElem hi)).one (List.all_eq_true.1 h1 _ (List.getElem_mem hl))

/-- A store through a pointer into a mutable block. -/
def astoreAt (hp : List Blk) (k : Nat) (row : Bool) (cs : List AV) (n off : Nat) (x : AV) : Option (List Blk) :=
  if x.cells.length = n ∧ off + n ≤ cs.length ∧ x.cells.all AV.one = true then some (hp.set k (.cells (putAt cs off x.cells) row)) else none
def astore (hp : List Blk) (n : Nat) (p x : AV) : Option (List Blk) :=
  match p with
  | .mp k off => match hp[k]? with
    | some (.cells cs false) => astoreAt hp k false cs n off x
    | _ => none
  | .rp k m off => match hp[k]? with
    | some (.cells cs true) => if m = cs.length then astoreAt hp k true cs n off x else none
    | _ => none
  | _ => none

theorem run_storeAt' {t : TypeId} {n : Nat} (hn : tySize P t = some n) (h : Sim G base w0 C M hp w) {k off : Nat} {cs : List AV} {row : Bool} {L : Loc} (hb : hp[k]? = some (.cells cs row)) (hM : M[k]? = some L) {x : AV} {x' : Value} (hx : Rep C M hp x x')
    {hp' : List Blk} (hs : astoreAt hp k row cs n off x = some hp') : ∃ w', (Instr.storeAt t (.pointer (some ⟨L.b, off, none⟩)) x').run P w = .ok () w' ∧ Le C M hp C M hp' ∧ Sim G base w0 C M hp' w' := by
  unfold astoreAt at hs
  split at hs
  · rename_i hc
    obtain ⟨c1, c2, c3⟩ := hc
    cases hs
    have hr := rep_cells hx
    obtain ⟨hle, hsim⟩ := h.store hb hM off x.cells x'.cells.toList hr (by omega)
    obtain ⟨t1, t2, t3, t4⟩ := h.cells k cs row L hb hM
    have hlen : x'.cells.toList.length = n := by rw [← hr.1]; exact c1
    refine ⟨_, ?_, hle, hsim⟩
    have hst := run_storeCells_cells (P := P) L.b off x'.cells.toList 0 w (fun j hj => by
        obtain ⟨c', a1, _⟩ := t3 (off + j) cs[off + j] (List.getElem?_eq_getElem (by omega))
        rw [Nat.add_zero, a1]; rfl) (fun j hj => by rw [Nat.add_zero]; exact t4.1 _) (hr.cells_one c3)
    rw [Nat.add_zero] at hst
    have hsz : x'.cells.size = n := by simpa using hlen
    simp only [Instr.storeAt, Instr.sureAddr, Sem.run_bind, Sem.run_pure, Result.andThen_ok, storeVar, run_sizeOf' hn]
    rw [if_neg (by omega)]
    exact hst
  · cases hs

theorem run_store' {t : TypeId} {n : Nat} (hn : tySize P t = some n) (h : Sim G base w0 C M hp w) {p x : AV} {p' x' : Value} (hpp : Rep C M hp p p') (hx : Rep C M hp x x')
    {hp' : List Blk} (hs : astore hp n p x = some hp') : ∃ w', (Instr.storeAt t p' x').run P w = .ok () w' ∧ Le C M hp C M hp' ∧ Sim G base w0 C M hp' w' := by
  unfold astore at hs
  split at hs
  · rename_i k off
    cases hpp with
    | mp hb hM =>
      rename_i L cs
      rw [hb] at hs
      exact run_storeAt' hn h hb hM hx hs
  · rename_i k m off
    cases hpp with
    | rp hb hM hn' ha =>
      rename_i L cs a
      rw [hb] at hs
      simp only at hs
      split at hs
      · rename_i hm
        rw [ha hm]
        exact run_storeAt' hn h hb hM hx hs
      · cases hs
  · cases hs

end
end Go.Abs

/- More operations on abstract values: addresses, numbers, comparisons, lengths, slices. No condition. -/
namespace Go.Abs
open Go.RowKit

section
variable {G : Cells} {base : Nat} {w0 : Root} {w : World} {C : Cells} {M : List Loc} {hp : List Blk} {P : Program}

/-- A field's address. -/
def afa (off : Nat) : AV → Option AV
  | .fp cs o => some (.fp cs (o + off))
  | .mp k o => some (.mp k (o + off))
  | .rp k n o => some (.rp k n (o + off))
  | _ => none

theorem rep_move {x r : AV} {y : Value} {off : Nat} (hx : Rep C M hp x y) (hr : afa off x = some r) : ∃ a, y = .pointer (some a) ∧ Rep C M hp r (.pointer (some (a.add off))) := by
  unfold afa at hr
  split at hr
  · cases hr
    cases hx with
    | fp f hC hR => exact ⟨_, rfl, by rw [addr_add, Nat.add_assoc]; exact .fp f hC hR⟩
  · cases hr
    cases hx with
    | mp hb hM => exact ⟨_, rfl, by rw [addr_add]; exact .mp hb hM⟩
  · cases hr
    cases hx with
    | rp hb hM hn ha => exact ⟨_, rfl, .rp hb hM hn fun q => by rw [ha q, addr_add]⟩
  · cases hr

theorem gives_fa {s : TypeId} {fields : Array Field} {field off n : Nat} {f : Field} (hs : P.underlying s = some (.struct fields)) (hf : fields[field]? = some f) (ho : f.offset = off)
    (hn : tySize P f.type = some n) (hn0 : n ≠ 0) (h : Sim G base w0 C M hp w) {x r : AV} {y : Value} (hx : Rep C M hp x y) (hr : afa off x = some r) :
    Gives G base w0 C M hp P (Instr.fieldAt s y field) w r hp := by
  obtain ⟨a, rfl, hr'⟩ := rep_move hx hr
  refine .same h ?_ hr'
  simp [Instr.fieldAt, run_underlying hs, hf, Instr.sureAddr, fieldPlace, run_sizeOf' hn, hn0, ho]

/-- The address of an element of a slice. -/
def aia (n : Nat) : AV → AV → Option AV
  | .sl xs _, .v (.int _ i) => if 0 ≤ i then match xs[i.toNat]? with
      | some x => if x.cells.length = n then some (.fp x.cells 0) else none
      | none => none
    else none
  | .rs k m _ off len, .v (.int _ i) => if 0 ≤ i ∧ i < len then some (.rp k m (off + i.toNat * n)) else none
  | _, _ => none

theorem gives_ia {t e : TypeId} {n : Nat} (ht : P.underlying t = some (.slice e)) (hn : tySize P e = some n) (h : Sim G base w0 C M hp w) {x i r : AV} {y j : Value}
    (hx : Rep C M hp x y) (hi : Rep C M hp i j) (hr : aia n x i = some r) : Gives G base w0 C M hp P (Instr.indexAt t y j) w r hp := by
  unfold aia at hr
  split at hr
  · rename_i xs tl k i
    cases hi
    cases hx with
    | sl f hsp hsz hC hR hT hcap =>
      rename_i a cap sz
      split at hr
      · rename_i h0
        split at hr
        · rename_i x hxi
          split at hr
          · rename_i hlen
            cases hr
            have hlt : i.toNat < xs.length := (List.getElem?_eq_some_iff.1 hxi).1
            have hsz' : sz = n := by rw [← hsz _ _ hxi]; exact hlen
            subst hsz'
            have hne : xs ≠ [] := by intro e; subst e; simp at hlt
            obtain ⟨b, o, sp⟩ := a
            have : sp = none := hsp hne
            subst this
            have hR' : Rep C M hp (.fp x.cells 0) (.pointer (some ⟨b, (o + i.toNat * sz) + 0, none⟩)) :=
              .fp (f i.toNat) (fun j c hc => hC _ _ _ _ hxi hc) (fun j c hc => hR _ _ _ _ hxi hc)
            refine .same h ?_ hR'
            have hi' : i < (xs.length : Int) := by omega
            simp [Instr.indexAt, asIntOf, run_underlying ht, h0, hi', run_sizeOf' hn, addr_add]
          · cases hr
        · cases hr
      · cases hr
  · rename_i k m sz off len kk i
    cases hi
    cases hx with
    | rs hb hM hn' hlc ha =>
      rename_i cap L cs a
      split at hr
      · rename_i h0
        cases hr
        refine .same h (v := .pointer (some (a.add (i.toNat * n)))) ?_ (.rp hb hM hn' fun q => by rw [(ha q).1, addr_add])
        simp [Instr.indexAt, asIntOf, run_underlying ht, h0, run_sizeOf' hn]
      · cases hr
  · cases hr

/-- The address of an element of an array that a pointer points at. -/
def aaa (len n : Nat) (x : AV) : AV → Option AV
  | .v (.int _ i) => if 0 ≤ i ∧ i < len then afa (i.toNat * n) x else none
  | _ => none

theorem gives_aa {t e : TypeId} {len n : Nat} (ht : P.underlying t = some (.array len e)) (hn : tySize P e = some n) (h : Sim G base w0 C M hp w) {x i r : AV} {y j : Value}
    (hx : Rep C M hp x y) (hi : Rep C M hp i j) (hr : aaa len n x i = some r) : Gives G base w0 C M hp P (Instr.indexAt t y j) w r hp := by
  unfold aaa at hr
  split at hr
  · rename_i k i
    cases hi
    split at hr
    · rename_i h0
      obtain ⟨a, rfl, hr'⟩ := rep_move hx hr
      refine .same h ?_ hr'
      simp [Instr.indexAt, asIntOf, run_underlying ht, h0, run_sizeOf' hn, Instr.sureAddr]
    · cases hr
  · cases hr

/-- A nil check. -/
def anil : AV → Option AV
  | .fp cs o => some (.fp cs o)
  | .mp k o => some (.mp k o)
  | .rp k n o => some (.rp k n o)
  | .fn (.func f) a b => some (.fn (.func f) a b)
  | _ => none

/-! Numbers. -/

def bitsOp (k : IntKind) (a b : Int) (f : BitVec k.bits → BitVec k.bits → BitVec k.bits) : Value :=
  .int k (k.wrap (f (BitVec.ofInt k.bits a) (BitVec.ofInt k.bits b)).toNat)

def ibin (op : BinOp) (k : IntKind) (a : Int) (k' : IntKind) (b : Int) : Option Value :=
  match op with
  | .shl => if b < 0 then none else some (.int k (k.wrap (a * 2 ^ (min b.toNat k.bits))))
  | .shr => if b < 0 then none else some (.int k (a.fdiv (2 ^ (min b.toNat k.bits))))
  | op => if k ≠ k' then none else match op with
    | .add => some (.int k (k.wrap (a + b)))
    | .sub => some (.int k (k.wrap (a - b)))
    | .mul => some (.int k (k.wrap (a * b)))
    | .quo => if b = 0 then none else some (.int k (k.wrap (a.tdiv b)))
    | .rem => if b = 0 then none else some (.int k (a.tmod b))
    | .and => some (bitsOp k a b (· &&& ·))
    | .or => some (bitsOp k a b (· ||| ·))
    | .xor => some (bitsOp k a b (· ^^^ ·))
    | .andNot => some (bitsOp k a b (fun x y => x &&& ~~~y))
    | .eql => some (.bool (a == b))
    | .neq => some (.bool (a != b))
    | .lss => some (.bool (a < b))
    | .leq => some (.bool (a ≤ b))
    | .gtr => some (.bool (a > b))
    | .geq => some (.bool (a ≥ b))
    | _ => none

def sbin (op : BinOp) (x y : ByteArray) : Option Value :=
  match op with
  | .add => if ((x.size + y.size : Nat) : Int) > IntKind.i64.max then none else some (.string (x ++ y))
  | .eql => some (.bool (x.toList == y.toList))
  | .neq => some (.bool !(x.toList == y.toList))
  | .lss => some (.bool (Op.bytesLess x.toList y.toList))
  | .leq => some (.bool (Op.bytesLess x.toList y.toList || x.toList == y.toList))
  | .gtr => some (.bool !(Op.bytesLess x.toList y.toList || x.toList == y.toList))
  | .geq => some (.bool !(Op.bytesLess x.toList y.toList))
  | _ => none

def abin (op : BinOp) : AV → AV → Option AV
  | .v (.int k a), .v (.int k' b) => (ibin op k a k' b).map .v
  | .v (.string a), .v (.string b) => (sbin op a b).map .v
  | _, _ => none

theorem run_ibin {op : BinOp} {k k' : IntKind} {a b : Int} {r : Value} (h : ibin op k a k' b = some r) (t : TypeId) (w : World) :
    (binOp op t (.int k a) (.int k' b)).run P w = .ok r w ∧ plain r = true := by
  unfold ibin at h
  split at h
  · split at h
    · cases h
    · rename_i hb
      cases h
      exact ⟨by simp [binOp, Op.shift, hb], rfl⟩
  · split at h
    · cases h
    · rename_i hb
      cases h
      exact ⟨by simp [binOp, Op.shift, hb], rfl⟩
  · rename_i h1 h2
    split at h
    · cases h
    · rename_i hk
      have hk : k = k' := by simpa using hk
      subst hk
      cases op with
      | shl => exact (h1 rfl).elim
      | shr => exact (h2 rfl).elim
      | add => cases h; exact ⟨by simp [binOp, Op.intArith], rfl⟩
      | sub => cases h; exact ⟨by simp [binOp, Op.intArith], rfl⟩
      | mul => cases h; exact ⟨by simp [binOp, Op.intArith], rfl⟩
      | quo =>
        simp only at h
        split at h
        · cases h
        · rename_i hb; cases h; exact ⟨by simp [binOp, Op.intDiv, hb], rfl⟩
      | rem =>
        simp only at h
        split at h
        · cases h
        · rename_i hb; cases h; exact ⟨by simp [binOp, Op.intDiv, hb], rfl⟩
      | and => cases h; exact ⟨by simp [binOp, Op.intBits, bitsOp], rfl⟩
      | or => cases h; exact ⟨by simp [binOp, Op.intBits, bitsOp], rfl⟩
      | xor => cases h; exact ⟨by simp [binOp, Op.intBits, bitsOp], rfl⟩
      | andNot => cases h; exact ⟨by simp [binOp, Op.intBits, bitsOp], rfl⟩
      | eql => cases h; exact ⟨by simp [binOp, Op.intCmp], rfl⟩
      | neq => cases h; exact ⟨by simp [binOp, Op.intCmp], rfl⟩
      | lss => cases h; exact ⟨by simp [binOp, Op.intCmp], rfl⟩
      | leq => cases h; exact ⟨by simp [binOp, Op.intCmp], rfl⟩
      | gtr => cases h; exact ⟨by simp [binOp, Op.intCmp], rfl⟩
      | geq => cases h; exact ⟨by simp [binOp, Op.intCmp], rfl⟩

theorem run_sbin {op : BinOp} {a b : ByteArray} {r : Value} (h : sbin op a b = some r) (t : TypeId) (w : World) :
    (binOp op t (.string a) (.string b)).run P w = .ok r w ∧ plain r = true := by
  have key : binOp op t (.string a) (.string b) = Op.stringOp op a b := by cases op <;> simp [binOp]
  rw [key]
  unfold sbin at h
  cases op <;> simp only [Op.stringOp] at h ⊢ <;> first
    | (cases h; done)
    | (cases h; exact ⟨rfl, rfl⟩)
    | skip
  split at h
  · cases h
  · rename_i hb
    cases h
    rw [if_neg hb]
    exact ⟨rfl, rfl⟩

theorem gives_bin {op : BinOp} {t : TypeId} {ox oy : Operand} (h : Sim G base w0 C M hp w) {x y r : AV} {x' y' : Value} (hx : Rep C M hp x x') (hy : Rep C M hp y y')
    (hr : abin op x y = some r) : Gives G base w0 C M hp P (do eqGuard op t ox oy x' y'; binOp op t x' y') w r hp := by
  unfold abin at hr
  split at hr
  · rename_i k a k' b
    cases hx; cases hy
    simp only [Option.map_eq_some_iff] at hr
    obtain ⟨v, hv, rfl⟩ := hr
    obtain ⟨h1, h2⟩ := run_ibin (P := P) hv t w
    refine .same h ?_ (.v h2)
    have hg : eqGuard op t ox oy (.int k a) (.int k' b) = pure () := by unfold eqGuard; split <;> rfl
    rw [hg]
    simp [h1]
  · rename_i a b
    cases hx; cases hy
    simp only [Option.map_eq_some_iff] at hr
    obtain ⟨v, hv, rfl⟩ := hr
    obtain ⟨h1, h2⟩ := run_sbin (P := P) hv t w
    refine .same h ?_ (.v h2)
    have hg : eqGuard op t ox oy (.string a) (.string b) = pure () := by unfold eqGuard; split <;> rfl
    rw [hg]
    simp [h1]
  · cases hr

/-- '==' of bools. -/
def aeqb (neg : Bool) : AV → AV → Option AV
  | .v (.bool a), .v (.bool b) => some (.v (.bool (if neg then !(a == b) else a == b)))
  | _, _ => none

def eqOp (neg : Bool) : BinOp := if neg then .neq else .eql

theorem gives_eqb {neg : Bool} {t : TypeId} {ox oy : Operand} (ht : P.underlying t = some .bool) (h : Sim G base w0 C M hp w) {x y r : AV} {x' y' : Value} (hx : Rep C M hp x x') (hy : Rep C M hp y y')
    (hr : aeqb neg x y = some r) : Gives G base w0 C M hp P (do eqGuard (eqOp neg) t ox oy x' y'; binOp (eqOp neg) t x' y') w r hp := by
  unfold aeqb at hr
  split at hr
  · rename_i a b
    cases hx; cases hy; cases hr
    refine .same h ?_ (.v rfl)
    have hg : eqGuard (eqOp neg) t ox oy (.bool a) (.bool b) = pure () := by unfold eqGuard; split <;> rfl
    rw [hg]
    have := run_equal_bool (P := P) w t a b ht
    cases neg <;> simp [eqOp, binOp, this]
  · cases hr

def nilOf : AV → Bool
  | .v (.pointer none) | .v .nilFunc | .v .nilIface | .nsl | .bt _ _ => true
  | _ => false

def isConstO : Operand → Bool
  | .const _ => true
  | _ => false

/-- The kinds of types that may be nil. -/
inductive NilK where
  | ptr | slc | fnc | ifc
  deriving DecidableEq

def nilKind (P : Program) (t : TypeId) : Option NilK :=
  match P.underlying t with
  | some (.pointer _) => some .ptr
  | some (.slice _) => some .slc
  | some (.func _ _ _) => some .fnc
  | some (.interface _) => some .ifc
  | _ => none

def kindOf : AV → Option NilK
  | .v (.pointer none) | .fp _ _ | .mp _ _ | .rp _ _ _ | .bt _ _ => some .ptr
  | .nsl | .sl _ _ | .rs _ _ _ _ _ => some .slc
  | .v .nilFunc | .fn _ _ _ => some .fnc
  | .v .nilIface | .ifc _ _ => some .ifc
  | _ => none

end
end Go.Abs

/- More operations on abstract values: nil, unary, conversions, lengths, slices, parts. No condition. -/
namespace Go.Abs
open Go.RowKit

section
variable {G : Cells} {base : Nat} {w0 : Root} {w : World} {C : Cells} {M : List Loc} {hp : List Blk} {P : Program}

/-- '==' where one side is nil. -/
def aeqn (K : NilK) (neg : Bool) (x y : AV) : Option AV :=
  if kindOf x = some K ∧ kindOf y = some K ∧ (nilOf x = true ∨ nilOf y = true) then some (.v (.bool (neg != (nilOf x && nilOf y)))) else none

/-- What a value of a kind that may be nil looks like. -/
def kindShape (K : NilK) (nil : Bool) (x' : Value) : Prop :=
  match K with
  | .ptr => if nil then x' = .pointer none else ∃ a, x' = .pointer (some a)
  | .slc => if nil then x' = .slice none 0 0 else ∃ a n c, x' = .slice (some a) n c
  | .fnc => if nil then x' = .nilFunc else ∃ f a b, x' = .func f a b
  | .ifc => if nil then x' = .nilIface else ∃ t v, x' = .iface t v

theorem kind_shape {K : NilK} {x : AV} {x' : Value} (hx : Rep C M hp x x') (kx : kindOf x = some K) : kindShape K (nilOf x) x' := by
  cases hx with
  | v h =>
    cases x' with
    | pointer a => cases a with
      | none => cases kx; exact rfl
      | some a => simp [plain] at h
    | nilFunc => cases kx; exact rfl
    | nilIface => cases kx; exact rfl
    | _ => first | (cases kx; done) | (simp [plain] at h; done)
  | nsl => cases kx; exact rfl
  | agg _ _ => cases kx
  | tup _ _ => cases kx
  | sl _ _ _ _ _ _ _ => cases kx; exact ⟨_, _, _, rfl⟩
  | fp _ _ _ => cases kx; exact ⟨_, rfl⟩
  | mp _ _ => cases kx; exact ⟨_, rfl⟩
  | rp _ _ _ _ => cases kx; exact ⟨_, rfl⟩
  | rs _ _ _ _ _ => cases kx; exact ⟨_, _, _, rfl⟩
  | ob _ _ => cases kx
  | fn _ _ _ _ => cases kx; exact ⟨_, _, _, rfl⟩
  | ifc _ => cases kx; exact ⟨_, _, rfl⟩
  | mapv _ _ => cases kx
  | yd _ _ => cases kx
  | bt _ _ => cases kx; exact rfl

theorem run_equal_nil {K : NilK} {t : TypeId} (ht : nilKind P t = some K) {x' y' : Value} {a b : Bool} (hx : kindShape K a x') (hy : kindShape K b y') (hn : a = true ∨ b = true) (d : Nat) (w : World) :
    (Op.equalIn (d + 1) t x' y').run P w = .ok (a && b) w := by
  unfold nilKind at ht
  cases hd : P.underlying t with
  | none => rw [hd] at ht; cases ht
  | some dd =>
    rw [hd] at ht
    have hu := fun w' => run_underlying (P := P) hd w'
    cases K <;> cases dd <;> simp only [reduceCtorEq, Option.some.injEq] at ht <;> cases a <;> cases b <;>
      simp only [kindShape, if_true, Bool.false_eq_true, if_false, or_self, or_true, true_or] at hx hy hn
    all_goals first
      | (subst hx; subst hy; rw [Op.equalIn]; simp only [Sem.run_bind, hu, Result.andThen_ok]; rfl)
      | (obtain ⟨_, rfl⟩ := hx; subst hy; rw [Op.equalIn]; simp only [Sem.run_bind, hu, Result.andThen_ok]; rfl)
      | (obtain ⟨_, rfl⟩ := hy; subst hx; rw [Op.equalIn]; simp only [Sem.run_bind, hu, Result.andThen_ok]; rfl)
      | (obtain ⟨_, _, rfl⟩ := hx; subst hy; rw [Op.equalIn]; simp only [Sem.run_bind, hu, Result.andThen_ok]; rfl)
      | (obtain ⟨_, _, rfl⟩ := hy; subst hx; rw [Op.equalIn]; simp only [Sem.run_bind, hu, Result.andThen_ok]; rfl)
      | (obtain ⟨_, _, _, rfl⟩ := hx; subst hy; rw [Op.equalIn]; simp only [Sem.run_bind, hu, Result.andThen_ok]; rfl)
      | (obtain ⟨_, _, _, rfl⟩ := hy; subst hx; rw [Op.equalIn]; simp only [Sem.run_bind, hu, Result.andThen_ok]; rfl)

theorem binOp_eql_shape {K : NilK} {x' y' : Value} {a b : Bool} (neg : Bool) (t : TypeId) (hx : kindShape K a x') (hy : kindShape K b y') :
    binOp (eqOp neg) t x' y' = (Op.equal t x' y' >>= fun r => pure (.bool (neg != r))) := by
  have key : ∀ (x' y' : Value), (∀ k n, x' ≠ .int k n) → (∀ s, x' ≠ .string s) → (∀ k n, x' ≠ .float k n) → (∀ k n m, x' ≠ .complex k n m) → binOp (eqOp neg) t x' y' = (Op.equal t x' y' >>= fun r => pure (.bool (neg != r))) := by
    intro x' y' h1 h2 h3 h4
    cases neg <;> simp only [eqOp, Bool.false_eq_true, if_false, if_true] <;> unfold binOp <;> split <;> first
      | (exact (h1 _ _ rfl).elim) | (exact (h2 _ rfl).elim) | (exact (h3 _ _ rfl).elim) | (exact (h4 _ _ _ rfl).elim) | (simp; done) | (simp_all; done)
  apply key <;> intros <;> intro e <;> subst e <;> cases K <;> cases a <;> simp [kindShape] at hx

theorem eqGuard_other (op : BinOp) (t : TypeId) (ox oy : Operand) {x' y' : Value} (h1 : x' = .nilIface → y' = .nilIface → isConstO ox = true ∨ isConstO oy = true) (h2 : ∀ cs, x' ≠ .agg cs) : eqGuard op t ox oy x' y' = pure () := by
  have key : ∀ op : BinOp, (op = .eql ∨ op = .neq) → eqGuard op t ox oy x' y' = pure () := by
    intro op hop
    rcases hop with rfl | rfl
    all_goals
      unfold eqGuard
      simp only [Bool.not_true, Bool.false_eq_true, if_false]
      split
      · rcases h1 rfl rfl with h | h
        · cases ox <;> simp [isConstO] at h; rfl
        · cases oy <;> simp [isConstO] at h
          cases ox <;> rfl
      · exact (h2 _ rfl).elim
      · rfl
  cases op <;> first | exact key _ (Or.inl rfl) | exact key _ (Or.inr rfl) | rfl

theorem eqGuard_shape {K : NilK} {x' y' : Value} {a b : Bool} (op : BinOp) (t : TypeId) (ox oy : Operand) (hx : kindShape K a x') (hy : kindShape K b y')
    (hc : K = .ifc → isConstO ox = true ∨ isConstO oy = true) : eqGuard op t ox oy x' y' = pure () := by
  refine eqGuard_other op t ox oy (fun e _ => hc ?_) (fun cs e => ?_)
  · subst e; cases K <;> cases a <;> simp [kindShape] at hx <;> rfl
  · subst e; cases K <;> cases a <;> simp [kindShape] at hx

theorem gives_eqn {K : NilK} {neg : Bool} {t : TypeId} {ox oy : Operand} (ht : nilKind P t = some K) (hc : K = .ifc → isConstO ox = true ∨ isConstO oy = true) (h : Sim G base w0 C M hp w) {x y r : AV} {x' y' : Value}
    (hx : Rep C M hp x x') (hy : Rep C M hp y y') (hr : aeqn K neg x y = some r) : Gives G base w0 C M hp P (do eqGuard (eqOp neg) t ox oy x' y'; binOp (eqOp neg) t x' y') w r hp := by
  unfold aeqn at hr
  split at hr
  · rename_i hk
    obtain ⟨k1, k2, k3⟩ := hk
    cases hr
    have s1 := kind_shape hx k1
    have s2 := kind_shape hy k2
    refine .same h ?_ (.v rfl)
    rw [eqGuard_shape _ t ox oy s1 s2 hc, binOp_eql_shape neg t s1 s2]
    have := run_equal_nil (P := P) ht s1 s2 k3 9999 w
    simp only [Sem.run_bind, Sem.run_pure, Result.andThen_ok, Op.equal, Op.maxDepth]
    rw [this]
    rfl
  · cases hr

end
end Go.Abs

/- More operations on abstract values: unary, conversions, lengths, slices, parts. No condition. -/
namespace Go.Abs
open Go.RowKit

section
variable {G : Cells} {base : Nat} {w0 : Root} {w : World} {C : Cells} {M : List Loc} {hp : List Blk} {P : Program}

/-! Unary, conversions, lengths. -/

def aun (op : UnOp) : AV → Option AV
  | .v (.int k n) => match op with
    | .neg => some (.v (.int k (k.wrap (0 - n))))
    | .xor => some (.v (bitsOp k (if k.signed then -1 else k.max) n (· ^^^ ·)))
    | _ => none
  | .v (.bool b) => match op with
    | .not => some (.v (.bool !b))
    | _ => none
  | _ => none

theorem gives_un {op : UnOp} (h : Sim G base w0 C M hp w) {x r : AV} {x' : Value} (hx : Rep C M hp x x') (hr : aun op x = some r) : Gives G base w0 C M hp P (Op.unary op x') w r hp := by
  unfold aun at hr
  split at hr
  · cases hx
    split at hr <;> cases hr
    · exact .same h (by simp [Op.unary, Op.intArith]) (.v rfl)
    · exact .same h (by simp [Op.unary, Op.intBits, bitsOp]) (.v rfl)
  · cases hx
    split at hr <;> cases hr
    exact .same h (by simp [Op.unary]) (.v rfl)
  · cases hr

/-- Between integer kinds. -/
def acv (k : IntKind) : AV → Option AV
  | .v (.int _ n) => some (.v (.int k (k.wrap n)))
  | _ => none

theorem gives_cv {src dst : TypeId} {k : IntKind} (hs : (P.underlying src).isSome = true) (hd : P.underlying dst = some (.int k)) (h : Sim G base w0 C M hp w) {x r : AV} {x' : Value} (hx : Rep C M hp x x')
    (hr : acv k x = some r) : Gives G base w0 C M hp P (convert src dst x') w r hp := by
  unfold acv at hr
  split at hr
  · cases hx; cases hr
    obtain ⟨d, hd'⟩ := Option.isSome_iff_exists.mp hs
    exact .same h (by simp [convert, run_underlying hd', run_underlying hd, Conv.intToInt]) (.v rfl)
  · cases hr

/-- A string as a string of another name. -/
def astr : AV → Option AV
  | .v (.string s) => some (.v (.string s))
  | _ => none

theorem gives_s2s {src dst : TypeId} (hs : (P.underlying src) = some .string) (hd : P.underlying dst = some .string) (h : Sim G base w0 C M hp w) {x r : AV} {x' : Value} (hx : Rep C M hp x x')
    (hr : astr x = some r) : Gives G base w0 C M hp P (convert src dst x') w r hp := by
  unfold astr at hr
  split at hr
  · cases hx; cases hr
    exact .same h (by simp [convert, run_underlying hs, run_underlying hd]) (.v rfl)
  · cases hr

def alen : AV → Option AV
  | .v (.string s) => some (.v (goInt s.size))
  | .nsl => some (.v (goInt 0))
  | .sl xs _ => some (.v (goInt xs.length))
  | .rs _ _ _ _ len => some (.v (goInt len))
  | _ => none

theorem gives_len {t ty : TypeId} (h : Sim G base w0 C M hp w) {x r : AV} {x' : Value} (hx : Rep C M hp x x') (hk : ∀ s, x = .v (.string s) → P.underlying t = some .string)
    (hk' : (∀ s, x ≠ .v (.string s)) → ∃ e, P.underlying t = some (.slice e)) (hr : alen x = some r) : Gives G base w0 C M hp P (Builtin.len_ #[t] ty #[x']) w r hp := by
  unfold alen at hr
  split at hr
  · cases hx; cases hr
    exact .same h (by simp [Builtin.len_, run_underlying (hk _ rfl)]) (.v rfl)
  · cases hx <;> cases hr
    obtain ⟨e, he⟩ := hk' (by intro s e; cases e)
    exact .same h (by simp [Builtin.len_, run_underlying he]) (.v rfl)
  · cases hx <;> cases hr
    obtain ⟨e, he⟩ := hk' (by intro s e; cases e)
    exact .same h (by simp [Builtin.len_, run_underlying he]) (.v rfl)
  · cases hx <;> cases hr
    obtain ⟨e, he⟩ := hk' (by intro s e; cases e)
    exact .same h (by simp [Builtin.len_, run_underlying he]) (.v rfl)
  · cases hr

def aext (i : Nat) : AV → Option AV
  | .tup cs => cs[i]?
  | _ => none

theorem gives_ext {i : Nat} (h : Sim G base w0 C M hp w) {x r : AV} {x' : Value} (hx : Rep C M hp x x') (hr : aext i x = some r) : Gives G base w0 C M hp P (Instr.extract x' i) w r hp := by
  unfold aext at hr
  split at hr
  · cases hx with
    | tup hl hh =>
      rename_i cs cs'
      have hi : i < cs.length := (List.getElem?_eq_some_iff.1 hr).1
      have hi' : i < cs'.size := by omega
      exact .same h (by simp [Instr.extract, hi']) (hh i r cs'[i] hr (by simp [hi']))
  · cases hr

/-- A part of an aggregate. -/
def afld (ag : Bool) (n off : Nat) : AV → Option AV
  | .agg cs => pick1 ag n cs off
  | _ => none

theorem run_part' {t : TypeId} {ag : Bool} {n : Nat} (hag : tyAgg P t = some ag) (hn : tySize P t = some n) {cs : List AV} {cs' : Array Value} {off : Nat} (hl : cs.length = cs'.size)
    (hh : ∀ (i : Nat) a b, cs[i]? = some a → cs'[i]? = some b → Rep C M hp a b) {r : AV} (hr : pick1 ag n cs off = some r) (w : World) : ∃ v, (part t cs' off).run P w = .ok v w ∧ Rep C M hp r v := by
  unfold part
  simp only [Sem.run_bind, run_isAgg' hag, Result.andThen_ok]
  unfold pick1 at hr
  cases ag with
  | true =>
    simp only [if_true] at hr ⊢
    split at hr
    · rename_i hfit
      cases hr
      refine ⟨.agg (cs'.extract off (off + n)), by simp only [Sem.run_bind, run_sizeOf' hn, Result.andThen_ok, Sem.run_pure], ?_⟩
      refine .agg (by simp; omega) (fun i a b ha hb => ?_)
      have hi : i < n := by
        have := (List.getElem?_eq_some_iff.1 ha).1
        simp at this; omega
      simp only [List.getElem?_take, List.getElem?_drop] at ha
      rw [if_pos hi] at ha
      rw [Array.getElem?_extract] at hb
      rw [if_pos (by omega)] at hb
      exact hh _ _ _ ha hb
    · cases hr
  | false =>
    simp only [Bool.false_eq_true, if_false] at hr ⊢
    have hi : off < cs.length := (List.getElem?_eq_some_iff.1 hr).1
    have hi' : off < cs'.size := by omega
    exact ⟨cs'[off], by simp [hi'], hh off r _ hr (by simp [hi'])⟩

theorem gives_fld {s : TypeId} {fields : Array Field} {field off n : Nat} {ag : Bool} {f : Field} (hs : P.underlying s = some (.struct fields)) (hf : fields[field]? = some f) (ho : f.offset = off)
    (hag : tyAgg P f.type = some ag) (hn : tySize P f.type = some n) (h : Sim G base w0 C M hp w) {x r : AV} {x' : Value} (hx : Rep C M hp x x') (hr : afld ag n off x = some r) :
    Gives G base w0 C M hp P (Instr.field s x' field) w r hp := by
  unfold afld at hr
  split at hr
  · cases hx with
    | agg hl hh =>
      obtain ⟨v, h1, h2⟩ := run_part' (P := P) hag hn hl hh hr w
      exact .same h (by simp [Instr.field, run_underlying hs, hf, asAgg, ho, h1]) h2
  · cases hr

/-- An element of an array's value, a letter of a string. -/
def aidx (ag : Bool) (n len : Nat) : AV → AV → Option AV
  | .agg cs, .v (.int _ i) => if 0 ≤ i ∧ i < len then pick1 ag n cs (i.toNat * n) else none
  | _, _ => none

theorem gives_idx {t e : TypeId} {ag : Bool} {n len : Nat} (ht : P.underlying t = some (.array len e)) (hag : tyAgg P e = some ag) (hn : tySize P e = some n) (h : Sim G base w0 C M hp w) {x i r : AV} {x' i' : Value}
    (hx : Rep C M hp x x') (hi : Rep C M hp i i') (hr : aidx ag n len x i = some r) : Gives G base w0 C M hp P (Instr.index t x' i') w r hp := by
  unfold aidx at hr
  split at hr
  · cases hi
    cases hx with
    | agg hl hh =>
      split at hr
      · rename_i hb
        obtain ⟨v, h1, h2⟩ := run_part' (P := P) hag hn hl hh hr w
        exact .same h (by simp [Instr.index, asIntOf, run_underlying ht, hb, run_sizeOf' hn, h1]) h2
      · cases hr
  · cases hr

def achr : AV → AV → Option AV
  | .v (.string s), .v (.int _ i) => if 0 ≤ i then (s[i.toNat]?).map fun b => .v (.int .u8 b.toNat) else none
  | _, _ => none

theorem gives_chr {t : TypeId} (ht : P.underlying t = some .string) (h : Sim G base w0 C M hp w) {x i r : AV} {x' i' : Value}
    (hx : Rep C M hp x x') (hi : Rep C M hp i i') (hr : achr x i = some r) : Gives G base w0 C M hp P (Instr.index t x' i') w r hp := by
  unfold achr at hr
  split at hr
  · cases hi; cases hx
    split at hr
    · rename_i hb
      simp only [Option.map_eq_some_iff] at hr
      obtain ⟨b, hb', rfl⟩ := hr
      exact .same h (by simp [Instr.index, asIntOf, run_underlying ht, hb, hb']) (.v rfl)
    · cases hr
  · cases hr

end
end Go.Abs

/- More operations on abstract values: slices of slices, appends, rows of values. No condition. -/
namespace Go.Abs
open Go.RowKit

section
variable {G : Cells} {base : Nat} {w0 : Root} {w : World} {C : Cells} {M : List Loc} {hp : List Blk} {P : Program}

/-- All cells of a row of values. -/
def flat (zs : List AV) : List AV := zs.flatMap AV.cells

theorem flat_nil : flat [] = [] := rfl
theorem flat_cons (z : AV) (r : List AV) : flat (z :: r) = z.cells ++ flat r := by simp [flat]
theorem flat_append (a b : List AV) : flat (a ++ b) = flat a ++ flat b := by simp [flat]

theorem flat_length {n : Nat} : ∀ {zs : List AV}, (∀ z ∈ zs, z.cells.length = n) → (flat zs).length = zs.length * n
  | [], _ => by simp [flat]
  | z :: r, h => by
    rw [flat_cons, List.length_append, flat_length (fun x hx => h x (by simp [hx])), h z (by simp), List.length_cons, Nat.add_mul]
    omega

theorem flat_get {n : Nat} : ∀ {zs : List AV}, (∀ z ∈ zs, z.cells.length = n) → ∀ {i j : Nat} {z c : AV}, zs[i]? = some z → z.cells[j]? = some c → (flat zs)[i * n + j]? = some c
  | [], _, i, j, z, c, hz, _ => by simp at hz
  | y :: r, h, i, j, z, c, hz, hc => by
    have hy := h y (by simp)
    cases i with
    | zero =>
      simp at hz
      subst hz
      rw [flat_cons, Nat.zero_mul, Nat.zero_add, List.getElem?_append_left (List.getElem?_eq_some_iff.1 hc).1]
      exact hc
    | succ i =>
      simp at hz
      rw [flat_cons, Nat.add_mul, Nat.one_mul, List.getElem?_append_right (by omega), hy, show i * n + n + j - n = i * n + j by omega]
      exact flat_get (fun x hx => h x (by simp [hx])) hz hc

theorem flat_inv {n : Nat} : ∀ {zs : List AV}, (∀ z ∈ zs, z.cells.length = n) → ∀ {k : Nat} {c : AV}, (flat zs)[k]? = some c → ∃ i j z, k = i * n + j ∧ zs[i]? = some z ∧ z.cells[j]? = some c
  | [], _, k, c, hc => by simp [flat] at hc
  | y :: r, h, k, c, hc => by
    have hy := h y (by simp)
    rw [flat_cons] at hc
    rcases Nat.lt_or_ge k n with hk | hk
    · rw [List.getElem?_append_left (by omega)] at hc
      exact ⟨0, k, y, by omega, by simp, hc⟩
    · rw [List.getElem?_append_right (by omega), hy] at hc
      obtain ⟨i, j, z, e, h1, h2⟩ := flat_inv (fun x hx => h x (by simp [hx])) hc
      exact ⟨i + 1, j, z, by rw [Nat.add_mul]; omega, by simpa using h1, h2⟩

/-- Frozen cells, one behind the other. -/
def AtC (C : Cells) (M : List Loc) (hp : List Blk) (b o : Nat) (cs : List AV) : Prop :=
  ∀ (j : Nat) c, cs[j]? = some c → ∃ v, C b (o + j) = some v ∧ Rep C M hp c v

theorem AtC.mono {C' : Cells} {M' : List Loc} {hp' : List Blk} (hle : Le C M hp C' M' hp') {b o : Nat} {cs : List AV} (h : AtC C M hp b o cs) : AtC C' M' hp' b o cs :=
  fun j c hc => let ⟨v, h1, h2⟩ := h j c hc; ⟨v, hle.C _ _ _ h1, h2.mono hle⟩

theorem AtC.append {b o : Nat} {as bs : List AV} (h1 : AtC C M hp b o as) (h2 : AtC C M hp b (o + as.length) bs) : AtC C M hp b o (as ++ bs) := by
  intro j c hc
  rcases Nat.lt_or_ge j as.length with hj | hj
  · rw [List.getElem?_append_left hj] at hc; exact h1 j c hc
  · rw [List.getElem?_append_right hj] at hc
    obtain ⟨v, e1, e2⟩ := h2 _ c hc
    exact ⟨v, by rw [← e1]; congr 1; omega, e2⟩

theorem AtC.drop {b o : Nat} {cs : List AV} (h : AtC C M hp b o cs) (n : Nat) : AtC C M hp b (o + n) (cs.drop n) := by
  intro j c hc
  rw [List.getElem?_drop] at hc
  obtain ⟨v, e1, e2⟩ := h _ c hc
  exact ⟨v, by rw [← e1]; congr 1; omega, e2⟩

theorem AtC.take {b o : Nat} {cs : List AV} (h : AtC C M hp b o cs) (n : Nat) : AtC C M hp b o (cs.take n) := by
  intro j c hc
  rw [List.getElem?_take] at hc
  split at hc
  · exact h j c hc
  · cases hc

/-- The values that lie there. -/
theorem AtC.vals (h : Sim G base w0 C M hp w) {b o : Nat} {cs : List AV} (ha : AtC C M hp b o cs) :
    ∃ vs : List Value, RepL C M hp cs vs ∧ ∀ (j : Nat) v, vs[j]? = some v → w.cell? ⟨b, o + j, none⟩ = some v := by
  refine ⟨(List.range cs.length).map fun j => (C b (o + j)).getD undef, ⟨by simp, fun i a v e1 e2 => ?_⟩, fun j v e => ?_⟩
  · obtain ⟨u, h1, h2⟩ := ha i a e1
    have hi : i < cs.length := (List.getElem?_eq_some_iff.1 e1).1
    simp [hi, h1] at e2
    subst e2
    exact h2
  · have hj : j < cs.length := by
      have := (List.getElem?_eq_some_iff.1 e).1
      simpa using this
    obtain ⟨u, h1, h2⟩ := ha j cs[j] (List.getElem?_eq_getElem hj)
    simp [hj, h1] at e
    subst e
    exact h.froz _ _ _ h1

theorem repSl {zs : List AV} {t : Tail} {b o cap n : Nat} (hn : ∀ z ∈ zs, z.cells.length = n) (ha : AtC C M hp b o (flat zs)) (hT : TailOk M hp ⟨b, o, none⟩ zs.length cap n t) (hcap : zs.length ≤ cap) :
    Rep C M hp (.sl zs t) (.slice (some ⟨b, o, none⟩) zs.length cap) := by
  refine .sl (fun i j => (C b (o + i * n + j)).getD undef) (fun _ => rfl) (fun i x hx => hn x (List.mem_of_getElem? hx)) (fun i x j c hx hc => ?_) (fun i x j c hx hc => ?_) hT hcap
  all_goals
    obtain ⟨v, h1, h2⟩ := ha _ c (flat_get hn hx hc)
    rw [← Nat.add_assoc] at h1
  · show C b (o + i * n + j) = _
    rw [h1]; rfl
  · rw [h1]; exact h2

theorem repSl' {zs : List AV} {t : Tail} {b o cap n len : Nat} (hl : len = zs.length) (hn : ∀ z ∈ zs, z.cells.length = n) (ha : AtC C M hp b o (flat zs)) (hT : TailOk M hp ⟨b, o, none⟩ len cap n t) (hcap : len ≤ cap) :
    Rep C M hp (.sl zs t) (.slice (some ⟨b, o, none⟩) len cap) := by
  subst hl; exact repSl hn ha hT hcap

theorem repSl_inv {zs : List AV} {t : Tail} {a : Addr} {len cap n : Nat} (h : Rep C M hp (.sl zs t) (.slice (some a) len cap)) (hn : ∀ z ∈ zs, z.cells.length = n) :
    len = zs.length ∧ AtC C M hp a.block a.off (flat zs) ∧ (zs ≠ [] → a.spot = none) ∧ zs.length ≤ cap := by
  cases h with
  | sl f hsp hsz hC hR hT hcap =>
    rename_i sz
    refine ⟨rfl, fun k c hc => ?_, hsp, hcap⟩
    obtain ⟨i, j, z, rfl, hz, hc'⟩ := flat_inv hn hc
    have : sz = n := by rw [← hsz i z hz]; exact hn z (List.mem_of_getElem? hz)
    subst this
    exact ⟨f i j, by rw [← Nat.add_assoc]; exact hC i z j c hz hc', hR i z j c hz hc'⟩

/-- A row of cells that lies in a new block. -/
theorem newRow_at (h : Sim G base w0 C M hp w) (cells : Array Value) (e : TypeId) {cs : List AV} {vs : List Value} (hr : RepL C M hp cs vs) (hv : ∀ (i : Nat) v, vs[i]? = some v → cells[i]? = some v) :
    Le C M hp (C.add w.heap.size 0 vs) M hp ∧ Sim G base w0 (C.add w.heap.size 0 vs) M hp (w.alloc (.cells cells e)) ∧ AtC (C.add w.heap.size 0 vs) M hp w.heap.size 0 cs := by
  obtain ⟨hle, hs⟩ := h.frozenRow cells e vs hv
  refine ⟨hle, hs, fun j c hc => ?_⟩
  obtain ⟨v, h1, h2⟩ := hr.get hc
  exact ⟨v, by rw [Cells.add_in _ _ _ _ _ (List.getElem?_eq_some_iff.1 h1).1]; exact h1, h2.mono hle⟩

/-! append. -/

/-- What is appended. -/
def contents : AV → Option (List AV)
  | .nsl => some []
  | .sl ys _ => some ys
  | _ => none

/-- A row with something behind its first cells. -/
def rowPut (cs : List AV) (off : Nat) (us : List AV) : List AV := cs.take off ++ us ++ cs.drop (off + us.length)

def okElems (n : Nat) (ys : List AV) : Bool := ys.all fun y => y.cells.length == n && y.cells.all AV.one

/-- Some elements behind a slice. -/
def aappC (hp : List Blk) (n byt : Nat) (e : TypeId) (s : AV) (ys : List AV) : Option (AV × List Blk) :=
  match s with
  | .nsl => if ys.length * byt ≤ 140737488355328 then some (.sl ys (.tok hp.length), hp ++ [.tok ys.length n e]) else none
  | .rs k m sz off len => if sz = n ∧ off = 0 ∧ (len + ys.length) * byt ≤ 140737488355328 then
      match hp[k]? with
      | some (.cells cs true) => if m = cs.length then some (.rs k (rowPut cs (len * n) (flat ys)).length n 0 (len + ys.length), hp.set k (.cells (rowPut cs (len * n) (flat ys)) true)) else none
      | _ => none
    else none
  | .sl xs t => if okElems n xs = true ∧ (xs.length + ys.length) * byt ≤ 140737488355328 then
      match t with
      | .exact => some (.sl (xs ++ ys) (.tok hp.length), hp ++ [.tok (xs.length + ys.length) n e])
      | .tok id => match hp[id]? with
        | some (.tok c s' e') => if c = xs.length ∧ s' = n ∧ e' = e then some (.sl (xs ++ ys) (.tok id), hp.set id (.tok (xs.length + ys.length) n e)) else none
        | _ => none
      | .no => none
    else none
  | _ => none

def aapp (hp : List Blk) (n byt : Nat) (e : TypeId) (s x : AV) : Option (AV × List Blk) :=
  match contents x with
  | none => none
  | some ys =>
    if ys = [] then (match s with | .nsl | .sl _ _ | .rs _ _ _ _ _ => some (s, hp) | _ => none)
    else if okElems n ys = true ∧ 0 < n ∧ 0 < byt then aappC hp n byt e s ys
    else none

/-- An append that leaves all cells as they were. -/
def aappN (hp : List Blk) (n byt : Nat) (e : TypeId) (s x : AV) : Option (AV × List Blk) :=
  match s with
  | .rs _ _ _ _ _ => none
  | s => aapp hp n byt e s x

theorem aappN_some {hp : List Blk} {n byt : Nat} {e : TypeId} {s x : AV} {r : AV × List Blk} (h : aappN hp n byt e s x = some r) : aapp hp n byt e s x = some r := by
  unfold aappN at h
  split at h
  · cases h
  · exact h

theorem okElems_len {n : Nat} {ys : List AV} (h : okElems n ys = true) : ∀ z ∈ ys, z.cells.length = n := by
  intro z hz
  have := List.all_eq_true.1 h z hz
  simp at this
  exact this.1

theorem okElems_one {n : Nat} {ys : List AV} (h : okElems n ys = true) : (flat ys).all AV.one = true := by
  rw [List.all_eq_true]
  intro c hc
  simp only [flat, List.mem_flatMap] at hc
  obtain ⟨z, hz, hc⟩ := hc
  have := List.all_eq_true.1 h z hz
  simp at this
  exact this.2 c hc

theorem okElems_append {n : Nat} {xs ys : List AV} (h1 : okElems n xs = true) (h2 : okElems n ys = true) : okElems n (xs ++ ys) = true := by
  unfold okElems at *; rw [List.all_append, h1, h2]; rfl

/-- The type's row for an append: the element's type, its size in cells and in bytes, its zero. -/
structure ElemTy (P : Program) (t e : TypeId) (n byt : Nat) : Prop where
  ht : P.underlying t = some (.slice e)
  hi : ∃ i z, P.info? e = some i ∧ i.size = n ∧ i.bytes = byt ∧ i.zero = some z ∧ z.cells.size = n

theorem le_of_bytes {k byt B : Nat} (hb : 0 < byt) (h : k * byt ≤ B) : k ≤ B := Nat.le_trans (Nat.le_mul_of_pos_right k hb) h

theorem size_zc (z : Array Value) (n : Nat) : (Builtin.zeroCells z n).size = n * z.size := by simp [Builtin.zeroCells]

theorem grownCap_le (w : World) (need old : Nat) (e : TypeId) : need ≤ grownCap w need old e := by unfold grownCap; simp [Question.cut]

theorem rowPut_length {cs us : List AV} {off : Nat} (h : off ≤ cs.length) : (rowPut cs off us).length = max cs.length (off + us.length) := by
  unfold rowPut
  simp only [List.length_append, List.length_take, List.length_drop]
  omega

theorem rowPut_get {cs us : List AV} {off : Nat} (h : off ≤ cs.length) (i : Nat) : (rowPut cs off us)[i]? = if i < off then cs[i]? else if i < off + us.length then us[i - off]? else cs[i]? := by
  unfold rowPut
  have h1 : (cs.take off).length = off := by simp; omega
  by_cases c1 : i < off
  · rw [if_pos c1, List.append_assoc, List.getElem?_append_left (by omega), List.getElem?_take_of_lt c1]
  · rw [if_neg c1, List.append_assoc, List.getElem?_append_right (by omega), h1]
    by_cases c2 : i < off + us.length
    · rw [if_pos c2, List.getElem?_append_left (by omega)]
    · rw [if_neg c2, List.getElem?_append_right (by omega), List.getElem?_drop]
      congr 1; omega

theorem src_nil (w : World) (t tx ty e : TypeId) (i : TypeInfo) (z : Value) (ht : P.underlying t = some (.slice e)) (hi : P.info? e = some i) (hz : i.zero = some z) {x' : Value} {m : Nat} {news : List Value} (hs : Src P i.size tx x' m news w)
    (h0 : 0 < m) (h63 : (m : Int) ≤ 9223372036854775807) (h48 : m * i.bytes ≤ 281474976710656) :
    (Builtin.append_ #[t, tx] ty #[.slice none 0 0, x']).run P w = .ok (.slice (some ⟨w.heap.size, 0, none⟩) m (grownCap w m 0 e)) (w.drew.alloc (.cells (news.toArray ++ Builtin.zeroCells z.cells (grownCap w m 0 e - m)) e)) := by
  have := run_append_grow_src (P := P) w t tx ty e i z ht hi hz none 0 0 [] (run_firstCells_none w.drew i.size 0 0 0) x' m news hs (by omega) (by omega) (by rw [Nat.zero_add, nextslicecap_zero h0]; exact h48)
  simpa using this

theorem src_grow (w : World) (t tx ty e : TypeId) (i : TypeInfo) (z : Value) (ht : P.underlying t = some (.slice e)) (hi : P.info? e = some i) (hz : i.zero = some z) (b : Addr) (sLen sCap : Nat) (olds : List Value) (hlo : olds.length = sLen * i.size)
    (holds : ∀ j u, olds[j]? = some u → w.cell? (b.add j) = some u) {x' : Value} {m : Nat} {news : List Value} (hs : Src P i.size tx x' m news w) (hg : sCap < sLen + m) (h63 : ((sLen + m : Nat) : Int) ≤ 9223372036854775807) (hfit : Builtin.nextslicecap (sLen + m) sCap * i.bytes ≤ 281474976710656) :
    (Builtin.append_ #[t, tx] ty #[.slice (some b) sLen sCap, x']).run P w = .ok (.slice (some ⟨w.heap.size, 0, none⟩) (sLen + m) (grownCap w (sLen + m) sCap e))
      (w.drew.alloc (.cells (olds.toArray ++ news.toArray ++ Builtin.zeroCells z.cells (grownCap w (sLen + m) sCap e - (sLen + m))) e)) := by
  have := run_append_grow_src (P := P) w t tx ty e i z ht hi hz (some b) sLen sCap olds (run_firstCells_some w.drew i.size sLen b sLen sCap olds hlo (by simpa using holds)) x' m news hs hg h63 hfit
  simpa using this

theorem gives_appC {t tx ty e : TypeId} {n byt : Nat} (hE : ElemTy P t e n byt) (h : Sim G base w0 C M hp w) {s r : AV} {s' x' : Value} (hs : Rep C M hp s s') {ys : List AV} {news : List Value} (hoy : okElems n ys = true) (hn0 : 0 < n) (hb0 : 0 < byt) (hne : ys ≠ [])
    (hrn : RepL C M hp (flat ys) news) (hsrc : ∀ i, P.info? e = some i → Src P i.size tx x' ys.length news w) {hp' : List Blk}
    (hr : aappC hp n byt e s ys = some (r, hp')) : Gives G base w0 C M hp P (Builtin.append_ #[t, tx] ty #[s', x']) w r hp' := by
  obtain ⟨ht, i, z, hi, hsize, hby, hz, hzs⟩ := hE
  have hsrc := hsrc i hi
  have hln : news.length = ys.length * i.size := hsrc.newsLen
  have hy0 : 0 < ys.length := by cases ys with | nil => exact (hne rfl).elim | cons _ _ => simp
  unfold aappC at hr
  split at hr
  · -- onto nil
    split at hr
    · rename_i hfit
      cases hr
      cases hs
      have hle47 : ys.length ≤ 140737488355328 := le_of_bytes hb0 hfit
      have hrun := src_nil (P := P) w t tx ty e i z ht hi hz hsrc hy0 (by omega) (by rw [hby]; omega)
      have hg := grownCap_le w ys.length 0 e
      have hln2 : news.length = ys.length * n := by rw [hln, hsize]
      have hcells : ∀ (i' : Nat) v, news[i']? = some v → (news.toArray ++ Builtin.zeroCells z.cells (grownCap w ys.length 0 e - ys.length))[i']? = some v := by
        intro i' v hv
        have hl : i' < news.length := (List.getElem?_eq_some_iff.1 hv).1
        rw [Array.getElem?_append_left (by simpa using hl)]
        simpa using hv
      obtain ⟨hle, hsim⟩ := h.drew.newTok (news.toArray ++ Builtin.zeroCells z.cells (grownCap w ys.length 0 e - ys.length)) e news hcells ys.length n (grownCap w ys.length 0 e * n)
        (by rw [hln2]; exact Nat.mul_le_mul_right n hg) (by simp only [Array.size_append, size_zc, hzs, List.size_toArray, hln2, ← Nat.add_mul]; exact Nat.mul_le_mul_right n (by omega))
      refine ⟨_, _, _, _, hrun, hle, hsim, ?_⟩
      refine repSl (okElems_len hoy) ?_ ?_ hg
      · intro j c hc
        obtain ⟨v, e1, e2⟩ := hrn.get hc
        exact ⟨v, by rw [World.size_drew, Cells.add_in _ _ _ _ _ (List.getElem?_eq_some_iff.1 e1).1]; exact e1, e2.mono hle⟩
      · refine ⟨ys.length, n, e, { b := w.heap.size, fin := news.length, cap := grownCap w ys.length 0 e * n }, by simp, by rw [← h.mlen]; simp, Nat.le_refl _, Or.inr rfl, fun _ => ⟨rfl, rfl, ?_, ?_⟩⟩
        · simp [hln2]
        · simp
    · cases hr
  · -- onto a row
    rename_i k m sz off len
    split at hr
    · rename_i hc0
      obtain ⟨rfl, rfl, hfit⟩ := hc0
      split at hr
      · rename_i cs hb
        split at hr
        · rename_i hm
          cases hr
          cases hs with
          | rs hb' hM hn' hlc ha =>
            rename_i cap L cs' sa
            rw [hb] at hb'
            cases hb'
            obtain ⟨rfl, a2, a3, a4⟩ := ha hm
            simp only [Nat.zero_add] at a2 a3 a4
            have hle47 : len + ys.length ≤ 140737488355328 := le_of_bytes hb0 hfit
            obtain ⟨t1, t2, t3, tf, tc, tr, tsh⟩ := h.cells k cs true L hb hM
            have hlf : (flat ys).length = ys.length * sz := flat_length (okElems_len hoy)
            have hln2 : news.length = ys.length * sz := by rw [hln, hsize]
            have hadd : len * sz + ys.length * sz = (len + ys.length) * sz := (Nat.add_mul _ _ _).symm
            have hnew : (rowPut cs (len * sz) (flat ys)).length = max cs.length ((len + ys.length) * sz) := by rw [rowPut_length a2, hlf, hadd]
            by_cases hroom : len + ys.length ≤ cap
            · have hcap2 : (len + ys.length) * sz ≤ cap * sz := Nat.mul_le_mul_right _ hroom
              have hrun := run_append_room_src (P := P) w t tx ty e i ht hi L.b 0 len cap x' ys.length news hsrc hroom
                (fun j hj => by rw [hsize, Nat.zero_add]; obtain ⟨v, hv⟩ := tr (len * sz + j) (by omega); rw [hv]; rfl)
                (fun j hj => tf _)
              rw [hsize, Nat.zero_add] at hrun
              have hMs : M.set k L = M := by
                apply List.ext_getElem?
                intro j
                by_cases e : k = j
                · subst e; rw [List.getElem?_set_self (List.getElem?_eq_some_iff.1 hM).1, hM]
                · rw [List.getElem?_set_ne e]
              have hle : Le C M hp C M (hp.set k (.cells (rowPut cs (len * sz) (flat ys)) true)) := by
                have := Le.growRow (C := C) (C' := C) (M := M) (cs' := rowPut cs (len * sz) (flat ys)) (L' := L) (fun _ _ _ h => h) hb h.mlen (by
                  rw [hnew]
                  rcases Nat.lt_or_ge cs.length ((len + ys.length) * sz) with q | q
                  · exact Or.inl (by omega)
                  · exact Or.inr ⟨by omega, hM⟩)
                rwa [hMs] at this
              have hsim := h.storeLong hb hM (len * sz) (flat ys) news hrn hle (Or.inr (by omega)) (rowPut_get a2)
              refine ⟨_, _, _, _, hrun, hle, hsim, ?_⟩
              refine .rs (by rw [List.getElem?_set_self (List.getElem?_eq_some_iff.1 hb).1]) hM (Nat.le_refl _) hroom fun _ => ⟨rfl, ?_, ?_, ?_⟩
              · rw [hnew]; omega
              · rw [hnew]; omega
              · omega
            · have hcl : cs.length < (len + ys.length) * sz := by
                have : (cap + 1) * sz ≤ (len + ys.length) * sz := Nat.mul_le_mul_right _ (by omega)
                rw [Nat.add_mul] at this
                omega
              have hg := grownCap_le w (len + ys.length) cap e
              have hgm : (len + ys.length) * sz ≤ grownCap w (len + ys.length) cap e * sz := Nat.mul_le_mul_right _ hg
              obtain ⟨olds, hro, hco⟩ : ∃ olds : List Value, RepL C M hp (cs.take (len * sz)) olds ∧ ∀ (j : Nat) v, olds[j]? = some v → w.cell? ⟨L.b, j, none⟩ = some v := by
                refine ⟨(List.range (len * sz)).map fun j => (w.cell? ⟨L.b, j, none⟩).getD undef, ⟨by simp; omega, fun j a b ha hb => ?_⟩, fun j v hj => ?_⟩
                · have hjl : j < len * sz := by have := (List.getElem?_eq_some_iff.1 hb).1; simpa using this
                  rw [List.getElem?_take_of_lt hjl] at ha
                  obtain ⟨c', b1, b2⟩ := t3 j a ha
                  simp [hjl, b1] at hb
                  subst hb
                  exact b2
                · have hjl : j < len * sz := by have := (List.getElem?_eq_some_iff.1 hj).1; simpa using this
                  obtain ⟨c', b1, b2⟩ := t3 j cs[j] (List.getElem?_eq_getElem (by omega))
                  simp [hjl, b1] at hj
                  subst hj
                  exact b1
              have hlo : olds.length = len * i.size := by rw [← hro.1, hsize]; simp; omega
              have hrun := src_grow (P := P) w t tx ty e i z ht hi hz ⟨L.b, 0, none⟩ len cap olds hlo (fun j v hj => by rw [addr_add, Nat.zero_add]; exact hco j v hj) hsrc (by omega) (by omega) (growslice_fits (by omega) (by rw [hby]; exact hfit))
              have hrl : RepL C M hp (rowPut cs (len * sz) (flat ys)) (olds ++ news) := by
                have e0 : rowPut cs (len * sz) (flat ys) = cs.take (len * sz) ++ flat ys := by
                  unfold rowPut
                  rw [List.drop_eq_nil_of_le (by omega), List.append_nil]
                rw [e0]
                refine ⟨by rw [List.length_append, List.length_append, hro.1, hrn.1], fun q u v hu hv => ?_⟩
                rcases Nat.lt_or_ge q (cs.take (len * sz)).length with hk | hk
                · rw [List.getElem?_append_left hk] at hu
                  rw [List.getElem?_append_left (by rw [← hro.1]; exact hk)] at hv
                  exact hro.2 q u v hu hv
                · rw [List.getElem?_append_right hk] at hu
                  rw [List.getElem?_append_right (by rw [← hro.1]; exact hk), ← hro.1] at hv
                  exact hrn.2 _ u v hu hv
              obtain ⟨hle, hsim⟩ := h.drew.moveRow (olds.toArray ++ news.toArray ++ Builtin.zeroCells z.cells (grownCap w (len + ys.length) cap e - (len + ys.length))) e (rowPut cs (len * sz) (flat ys)) (olds ++ news) hrl
                (fun i' v hv => by
                  have hl : i' < (olds ++ news).length := (List.getElem?_eq_some_iff.1 hv).1
                  rw [Array.getElem?_append_left (by simpa using hl)]
                  simpa using hv) (cap := grownCap w (len + ys.length) cap e * sz) (by
                  simp only [Array.size_append, size_zc, hzs, List.size_toArray]
                  rw [hlo, hln, hsize, ← Nat.add_mul, ← Nat.add_mul]
                  exact Nat.mul_le_mul_right sz (by omega)) hb (by rw [hnew]; omega)
              refine ⟨_, _, _, _, hrun, hle, hsim, ?_⟩
              have hkl : k < hp.length := (List.getElem?_eq_some_iff.1 hb).1
              refine .rs (by rw [List.getElem?_set_self hkl]) (by rw [List.getElem?_set_self (by rw [h.mlen]; exact hkl)]) (Nat.le_refl _) hg fun _ => ⟨rfl, ?_, ?_, ?_⟩
              · rw [hnew]; omega
              · rw [hnew]; omega
              · simp
        · cases hr
      · cases hr
    · cases hr
  · -- onto a slice
    rename_i xs tl
    split at hr
    · rename_i hok2
      obtain ⟨hox, hfit⟩ := hok2
      have hle47 : xs.length + ys.length ≤ 140737488355328 := le_of_bytes hb0 hfit
      cases s' <;> first | (cases hs; done) | skip
      rename_i b l cp
      cases b with
      | none => cases hs
      | some sa =>
        have hs0 := hs
        obtain ⟨e1, hat, hspot, hcap⟩ := repSl_inv hs (okElems_len hox)
        subst e1
        obtain ⟨olds, hro, hco⟩ := hat.vals h
        have hlo : olds.length = xs.length * i.size := by rw [← hro.1, flat_length (okElems_len hox), hsize]
        have hco' : ∀ (j : Nat) v, olds[j]? = some v → w.cell? (sa.add j) = some v := fun j v hj => by
          obtain ⟨sb, so, ssp⟩ := sa
          have hxne : xs ≠ [] := by
            intro e; subst e
            have := (List.getElem?_eq_some_iff.1 hj).1
            rw [hlo] at this; simp at this
          have : ssp = none := hspot hxne
          subst this
          rw [addr_add]; exact hco j v hj
        have hrl : RepL C M hp (flat (xs ++ ys)) (olds ++ news) := by
          rw [flat_append]
          refine ⟨by rw [List.length_append, List.length_append, hro.1, hrn.1], fun k u v hu hv => ?_⟩
          rcases Nat.lt_or_ge k (flat xs).length with hk | hk
          · rw [List.getElem?_append_left hk] at hu
            rw [List.getElem?_append_left (by rw [← hro.1]; exact hk)] at hv
            exact hro.2 k u v hu hv
          · rw [List.getElem?_append_right hk] at hu
            rw [List.getElem?_append_right (by rw [← hro.1]; exact hk), ← hro.1] at hv
            exact hrn.2 _ u v hu hv
        have hlall : (olds ++ news).length = (xs.length + ys.length) * n := by rw [List.length_append, hlo, hln, hsize, ← Nat.add_mul]
        -- the arm that moves
        have grow : ∀ cp, cp < xs.length + ys.length → (Builtin.append_ #[t, tx] ty #[.slice (some sa) xs.length cp, x']).run P w =
            .ok (.slice (some ⟨w.heap.size, 0, none⟩) (xs.length + ys.length) (grownCap w (xs.length + ys.length) cp e))
              (w.drew.alloc (.cells (olds.toArray ++ news.toArray ++ Builtin.zeroCells z.cells (grownCap w (xs.length + ys.length) cp e - (xs.length + ys.length))) e)) := fun cp hcp =>
          src_grow (P := P) w t tx ty e i z ht hi hz sa xs.length cp olds hlo hco' hsrc hcp (by omega) (growslice_fits hcp (by rw [hby]; exact hfit))
        have hcells : ∀ cp, ∀ (i' : Nat) v, (olds ++ news)[i']? = some v → (olds.toArray ++ news.toArray ++ Builtin.zeroCells z.cells (grownCap w (xs.length + ys.length) cp e - (xs.length + ys.length)))[i']? = some v := by
          intro cp i' v hv
          have hl : i' < (olds ++ news).length := (List.getElem?_eq_some_iff.1 hv).1
          rw [Array.getElem?_append_left (by simpa using hl)]
          simpa using hv
        have hcsz : ∀ cp, grownCap w (xs.length + ys.length) cp e * n ≤ (olds.toArray ++ news.toArray ++ Builtin.zeroCells z.cells (grownCap w (xs.length + ys.length) cp e - (xs.length + ys.length))).size := by
          intro cp
          have := grownCap_le w (xs.length + ys.length) cp e
          simp only [Array.size_append, size_zc, hzs, List.size_toArray]
          rw [hlo, hln, hsize, ← Nat.add_mul, ← Nat.add_mul]
          exact Nat.mul_le_mul_right n (by omega)
        have hatNew : ∀ {C' : Cells} {M' : List Loc} {hp'' : List Blk}, Le C M hp C' M' hp'' → (∀ j, j < (olds ++ news).length → C' w.heap.size (0 + j) = (olds ++ news)[j]?) → AtC C' M' hp'' w.heap.size 0 (flat (xs ++ ys)) := by
          intro C' M' hp'' hle hc j cc hcc
          obtain ⟨v, e1, e2⟩ := hrl.get hcc
          exact ⟨v, by rw [hc j (List.getElem?_eq_some_iff.1 e1).1]; exact e1, e2.mono hle⟩
        have hlen : (xs ++ ys).length = xs.length + ys.length := List.length_append
        split at hr
        · -- a slice whose room is known: none
          cases hr
          cases hs with
          | sl f hsp hsz hC hR hT hcap' =>
            have hcp : cp = xs.length := hT
            subst hcp
            have hg := grownCap_le w (xs.length + ys.length) xs.length e
            obtain ⟨hle, hsim⟩ := h.drew.newTok _ e (olds ++ news) (hcells xs.length) (xs.length + ys.length) n (grownCap w (xs.length + ys.length) xs.length e * n)
              (by rw [hlall]; exact Nat.mul_le_mul_right n hg) (hcsz xs.length)
            refine ⟨_, _, _, _, grow xs.length (by omega), hle, hsim, ?_⟩
            refine repSl' hlen.symm (okElems_len (okElems_append hox hoy)) (hatNew hle (fun j hj => by rw [World.size_drew, Cells.add_in _ _ _ _ _ hj])) ?_ hg
            refine ⟨xs.length + ys.length, n, e, { b := w.heap.size, fin := (olds ++ news).length, cap := grownCap w (xs.length + ys.length) xs.length e * n }, by simp, by rw [← h.mlen]; simp, Nat.le_refl _, Or.inr rfl, fun _ => ⟨rfl, rfl, ?_, ?_⟩⟩
            · rw [hlall]; simp
            · simp
        · -- a slice that has grown already
          rename_i id
          split at hr
          · rename_i cc s2 e2 hid
            split at hr
            · rename_i hcond
              obtain ⟨rfl, rfl, he2⟩ := hcond
              rw [he2] at hid
              cases hr
              cases hs with
              | sl f hsp hsz hC hR hT hcap' =>
                obtain ⟨n1, s1, ty1, L, q1, q2, q3, q4, q5⟩ := hT
                rw [hid] at q1
                cases q1
                obtain ⟨p1, p2, p3, p4⟩ := q5 rfl
                obtain ⟨sb, so, ssp⟩ := sa
                have : ssp = none := p1
                subst this
                have hsb : sb = L.b := p2
                subst hsb
                simp only at p3 p4
                by_cases hroom : xs.length + ys.length ≤ cp
                · -- in place
                  have hfitL : L.fin + news.length ≤ L.cap := by
                    rw [← p3, ← p4, hln, hsize, Nat.add_assoc, ← Nat.add_mul]
                    exact Nat.add_le_add_left (Nat.mul_le_mul_right _ hroom) so
                  obtain ⟨t1, t2, t3, t4, t5, t6⟩ := h.toks id xs.length s2 e L hid q2
                  have hrun := run_append_room_src (P := P) w t tx ty e i ht hi L.b so xs.length cp x' ys.length news hsrc hroom
                    (fun j hj => by rw [hsize, p3]; obtain ⟨⟨v, hv⟩, _⟩ := t5 (L.fin + j) (by omega) (by omega); rw [hv]; rfl)
                    (fun j hj => by rw [hsize, p3]; exact (t5 (L.fin + j) (by omega) (by omega)).2)
                  rw [hsize, p3] at hrun
                  obtain ⟨hle, hsim⟩ := h.growTok news hid q2 (n' := xs.length + ys.length) (by omega) hfitL
                  refine ⟨_, _, _, _, hrun, hle, hsim, ?_⟩
                  refine repSl' hlen.symm (okElems_len (okElems_append hox hoy)) ?_ ?_ hroom
                  · rw [flat_append]
                    refine AtC.append (hat.mono hle) ?_
                    rw [flat_length (okElems_len hox), p3]
                    intro j cc hcc
                    obtain ⟨v, e1, e2⟩ := hrn.get hcc
                    exact ⟨v, by rw [Cells.add_in _ _ _ _ _ (List.getElem?_eq_some_iff.1 e1).1]; exact e1, e2.mono hle⟩
                  · have hidl : id < hp.length := (List.getElem?_eq_some_iff.1 hid).1
                    refine ⟨xs.length + ys.length, s2, e, { L with fin := L.fin + news.length }, by rw [List.getElem?_set_self hidl], by rw [List.getElem?_set_self (by rw [h.mlen]; exact hidl)], Nat.le_refl _, Or.inr rfl, fun _ => ⟨rfl, rfl, ?_, p4⟩⟩
                    show so + (xs.length + ys.length) * s2 = L.fin + news.length
                    rw [← p3, hln, hsize, Nat.add_assoc, ← Nat.add_mul]
                · -- it moves
                  have hg := grownCap_le w (xs.length + ys.length) cp e
                  obtain ⟨hle, hsim⟩ := h.drew.moveTok _ e (olds ++ news) (hcells cp) hid (n' := xs.length + ys.length) (by omega) (cap := grownCap w (xs.length + ys.length) cp e * s2)
                    (by rw [hlall]; exact Nat.mul_le_mul_right _ hg) (hcsz cp)
                  refine ⟨_, _, _, _, grow cp (by omega), hle, hsim, ?_⟩
                  refine repSl' hlen.symm (okElems_len (okElems_append hox hoy)) (hatNew hle (fun j hj => by rw [World.size_drew, Cells.add_in _ _ _ _ _ hj])) ?_ hg
                  have hidl : id < hp.length := (List.getElem?_eq_some_iff.1 hid).1
                  refine ⟨xs.length + ys.length, s2, e, { b := w.heap.size, fin := (olds ++ news).length, cap := grownCap w (xs.length + ys.length) cp e * s2 }, by rw [List.getElem?_set_self hidl], by rw [World.size_drew, List.getElem?_set_self (by rw [h.mlen]; exact hidl)], Nat.le_refl _, Or.inr rfl, fun _ => ⟨rfl, rfl, ?_, ?_⟩⟩
                  · rw [hlall]; simp
                  · simp
            · cases hr
          · cases hr
        · cases hr
    · cases hr
  · cases hr

theorem gives_app {t ty e : TypeId} {n byt : Nat} (hE : ElemTy P t e n byt) (h : Sim G base w0 C M hp w) {s x r : AV} {s' x' : Value} (hs : Rep C M hp s s') (hx : Rep C M hp x x') {hp' : List Blk}
    (hr : aapp hp n byt e s x = some (r, hp')) : Gives G base w0 C M hp P (Builtin.append_ #[t, t] ty #[s', x']) w r hp' := by
  obtain ⟨ht, i, z, hi, hsize, hby, hz, hzs⟩ := hE
  unfold aapp at hr
  split at hr
  · cases hr
  rename_i ys hys
  split at hr
  · -- nothing is appended
    rename_i hnil
    subst hnil
    have hx0 : ∃ a c, x' = .slice a 0 c := by
      unfold contents at hys
      split at hys
      · cases hx; exact ⟨_, _, rfl⟩
      · cases hys
        cases hx; exact ⟨_, _, rfl⟩
      · cases hys
    obtain ⟨a, c, rfl⟩ := hx0
    have hfc : ∀ w, (Builtin.firstCells n 0 (.slice a 0 c)).run P w = .ok #[] w := by
      intro w
      cases a with
      | none => simp [Builtin.firstCells]
      | some a => simp [Builtin.firstCells, loadCells, loadCellsFrom]
    have key : ∀ b m cp, m ≤ cp → (Builtin.append_ #[t, t] ty #[.slice b m cp, .slice a 0 c]).run P w = .ok (.slice b m cp) w := by
      intro b m cp hm
      cases b with
      | none => simp [Builtin.append_, run_underlying ht, sizeOf, typeInfo, hi, hsize, Builtin.lenOf, hm, hfc]
      | some b => simp [Builtin.append_, run_underlying ht, sizeOf, typeInfo, hi, hsize, Builtin.lenOf, hm, hfc, storeCells]
    split at hr
    · cases hr
      cases hs
      exact .same h (key _ _ _ (Nat.le_refl _)) .nsl
    · cases hr
      have hs0 := hs
      cases hs with
      | sl f hsp hsz hC hR hT hcap => exact .same h (key _ _ _ hcap) hs0
    · cases hr
      have hs0 := hs
      cases hs with
      | rs hb hM hn hlc ha => exact .same h (key _ _ _ hlc) hs0
    · cases hr
  · rename_i hne
    split at hr
    · rename_i hok
      obtain ⟨hoy, hn0, hb0⟩ := hok
      -- what is appended, as it lies
      obtain ⟨a, c, hxe, hax, hax0⟩ : ∃ (a : Addr) (c : Nat), x' = .slice (some a) ys.length c ∧ AtC C M hp a.block a.off (flat ys) ∧ a.spot = none := by
        unfold contents at hys
        split at hys
        · cases hys; exact (hne rfl).elim
        · cases hys
          cases x' <;> first | (cases hx; done) | skip
          rename_i b l cp
          cases b with
          | none => cases hx
          | some a =>
            obtain ⟨e1, e2, e3, e4⟩ := repSl_inv hx (okElems_len hoy)
            exact ⟨a, cp, by rw [e1], e2, e3 hne⟩
        · cases hys
      subst hxe
      obtain ⟨ab, ao, asp⟩ := a
      have : asp = none := hax0
      subst this
      obtain ⟨news, hrn, hcn⟩ := hax.vals h
      have hln : news.length = ys.length * i.size := by rw [← hrn.1, flat_length (okElems_len hoy), hsize]
      have h1n : ∀ u ∈ news, u.oneCell' = true := hrn.cells_one (okElems_one hoy)
      have hcn' : ∀ (j : Nat) v, news[j]? = some v → w.cell? ((⟨ab, ao, none⟩ : Addr).add j) = some v := fun j v hj => by rw [addr_add]; exact hcn j v hj
      have hi' := hi
      exact gives_appC ⟨ht, i, z, hi, hsize, hby, hz, hzs⟩ h hs hoy hn0 hb0 hne hrn (fun i' hi'' => by rw [hi] at hi''; cases hi''; exact Src.ofSlice w ht ⟨ab, ao, none⟩ ys.length c news hln hcn' h1n) hr
    · cases hr

/-- A string's bytes. -/
def bytesA (b : ByteArray) : List AV := b.data.toList.map fun c => .v (.int .u8 c.toNat)

theorem bytesA_len (b : ByteArray) : (bytesA b).length = b.size := by
  unfold bytesA
  rw [List.length_map, Array.length_toList]
  rfl

theorem bytesA_flat : ∀ l : List UInt8, flat (l.map fun c => AV.v (.int .u8 c.toNat)) = l.map fun c => AV.v (.int .u8 c.toNat)
  | [] => rfl
  | c :: r => by
    have := bytesA_flat r
    simp only [flat, List.map_cons, List.flatMap_cons] at this ⊢
    rw [this]
    rfl

/-- A string is appended to bytes. -/
def aappS (hp : List Blk) (byt : Nat) (e : TypeId) (s x : AV) : Option (AV × List Blk) :=
  match x with
  | .v (.string b) => if b.size = 0 then (match s with | .nsl | .sl _ _ => some (s, hp) | _ => none)
    else match s with
      | .nsl | .sl _ _ => if 0 < byt then aappC hp 1 byt e s (bytesA b) else none
      | _ => none
  | _ => none

theorem gives_appS {t u ty e : TypeId} {byt : Nat} (hE : ElemTy P t e 1 byt) (hu : P.underlying u = some .string) (h : Sim G base w0 C M hp w) {s x r : AV} {s' x' : Value} (hs : Rep C M hp s s') (hx : Rep C M hp x x') {hp' : List Blk}
    (hr : aappS hp byt e s x = some (r, hp')) : Gives G base w0 C M hp P (Builtin.append_ #[t, u] ty #[s', x']) w r hp' := by
  have hE0 := hE
  obtain ⟨ht, i, z, hi, hsize, hby, hz, hzs⟩ := hE
  unfold aappS at hr
  split at hr
  · rename_i b
    cases hx
    split at hr
    · rename_i h0
      have hfc : ∀ w, (Builtin.firstCells 1 0 (.string b)).run P w = .ok #[] w := by
        intro w
        have := firstCells_string (P := P) b w
        have hb : Go.byteCells b = [] := List.eq_nil_of_length_eq_zero (by rw [byteCells_length, h0])
        rw [h0, hb] at this
        exact this
      have key : ∀ b' m cp, m ≤ cp → (Builtin.append_ #[t, u] ty #[.slice b' m cp, .string b]).run P w = .ok (.slice b' m cp) w := by
        intro b' m cp hm
        cases b' with
        | none => simp [Builtin.append_, run_underlying ht, run_underlying hu, sizeOf, typeInfo, hi, hsize, Builtin.lenOf, h0, hm, hfc]
        | some b' => simp [Builtin.append_, run_underlying ht, run_underlying hu, sizeOf, typeInfo, hi, hsize, Builtin.lenOf, h0, hm, hfc, storeCells]
      split at hr
      · cases hr
        cases hs
        exact .same h (key _ _ _ (Nat.le_refl _)) .nsl
      · cases hr
        have hs0 := hs
        cases hs with
        | sl f hsp hsz hC hR hT hcap => exact .same h (key _ _ _ hcap) hs0
      · cases hr
    · rename_i h0
      have fin : ∀ {r : AV}, 0 < byt → aappC hp 1 byt e s (bytesA b) = some (r, hp') → Gives G base w0 C M hp P (Builtin.append_ #[t, u] ty #[s', .string b]) w r hp' := by
        intro r hb0 hr
        refine gives_appC hE0 h hs (ys := bytesA b) (news := Go.byteCells b) ?_ (by decide) hb0 ?_ ?_ (fun i' hi' => ?_) hr
        · unfold okElems
          rw [List.all_eq_true]
          intro x hx
          unfold bytesA at hx
          obtain ⟨c, _, rfl⟩ := List.mem_map.1 hx
          rfl
        · intro q
          have := bytesA_len b
          rw [q] at this
          exact h0 this.symm
        · unfold bytesA
          rw [bytesA_flat]
          refine ⟨by simp [Go.byteCells], fun i x y hx hy => ?_⟩
          simp only [Go.byteCells, List.getElem?_map] at hx hy
          cases hq : b.data.toList[i]? with
          | none => rw [hq] at hx; cases hx
          | some c =>
            rw [hq] at hx hy
            cases hx; cases hy
            exact .v rfl
        · rw [hi] at hi'
          cases hi'
          rw [hsize, bytesA_len]
          exact Src.ofString w hu b
      split at hr
      · split at hr
        · rename_i q; exact fin q hr
        · cases hr
      · split at hr
        · rename_i q; exact fin q hr
        · cases hr
      · cases hr
  · cases hr

end
end Go.Abs

/- More operations on abstract values: slice expressions, new variables, composite values, function values. No condition. -/
namespace Go.Abs
open Go.RowKit

section
variable {G : Cells} {base : Nat} {w0 : Root} {w : World} {C : Cells} {M : List Loc} {hp : List Blk} {P : Program}

/-! Slice expressions. -/

/-- A bound that is given, or none. -/
def bnd (top dflt : Nat) : Option Int → Option Nat
  | some v => if 0 ≤ v ∧ v ≤ top then some v.toNat else none
  | none => some dflt

def oint : Option AV → Option (Option Int)
  | none => some none
  | some (.v (.int _ i)) => some (some i)
  | _ => none

/-- Low, high, and the end of the room. -/
def bnds (len cap : Nat) (lo hi mx : Option Int) : Option (Nat × Nat × Nat) :=
  match bnd cap cap mx with
  | none => none
  | some m => if mx.isSome && hi.isNone then none else
    match bnd m len hi with
    | none => none
    | some h => match bnd h 0 lo with
      | none => none
      | some l => some (l, h, m)

/-- An optional operand, and what it holds. -/
def RepO (C : Cells) (M : List Loc) (hp : List Blk) : Option AV → Option Value → Prop
  | none, none => True
  | some a, some b => Rep C M hp a b
  | _, _ => False

theorem oint_cases {a : Option AV} {b : Option Value} {i : Option Int} (h : RepO C M hp a b) (hi : oint a = some i) : (b = none ∧ i = none) ∨ ∃ k n, b = some (.int k n) ∧ i = some n := by
  unfold oint at hi
  split at hi
  · cases hi
    cases b with
    | none => exact Or.inl ⟨rfl, rfl⟩
    | some b => exact h.elim
  · cases hi
    cases b with
    | none => exact h.elim
    | some b => cases h; exact Or.inr ⟨_, _, rfl, rfl⟩
  · cases hi

theorem run_sliceBound' {k : IntKind} {n : Int} {top d r : Nat} (code : BoundsCode) (h : bnd top d (some n) = some r) (w : World) : (Instr.sliceBound (.int k n) top code).run P w = .ok r w := by
  unfold bnd at h
  simp only at h
  split at h
  · rename_i hb
    cases h
    exact run_sliceBound w k n top code hb.1 hb.2
  · cases h

theorem bnd_le {top d r : Nat} {i : Option Int} (hd : d ≤ top) (h : bnd top d i = some r) : r ≤ top := by
  unfold bnd at h
  split at h
  · split at h
    · cases h; omega
    · cases h
  · cases h; exact hd

/-- The bounds, as the model asks them, where the room is what is known of it or more. -/
theorem run_bounds {isSlice : Bool} {len cap cap' : Nat} {lo hi mx : Option Value} {lo' hi' mx' : Option Int} {l h m : Nat} (hlo : (lo = none ∧ lo' = none) ∨ ∃ k n, lo = some (.int k n) ∧ lo' = some n)
    (hhi : (hi = none ∧ hi' = none) ∨ ∃ k n, hi = some (.int k n) ∧ hi' = some n) (hmx : (mx = none ∧ mx' = none) ∨ ∃ k n, mx = some (.int k n) ∧ mx' = some n) (hlc : len ≤ cap) (hcc : cap ≤ cap')
    (hb : bnds len cap lo' hi' mx' = some (l, h, m)) (w : World) :
    (Instr.sliceBounds isSlice len cap' lo hi mx).run P w = .ok (l, h, if mx'.isSome then m else cap') w ∧ l ≤ h ∧ h ≤ m ∧ m ≤ cap ∧ (mx' = none → m = cap) := by
  unfold bnds at hb
  split at hb
  · cases hb
  rename_i m₀ hm
  split at hb
  · cases hb
  rename_i hnn
  split at hb
  · cases hb
  rename_i h₀ hh
  split at hb
  · cases hb
  rename_i l₀ hl
  cases hb
  have hmc : m ≤ cap := bnd_le (Nat.le_refl _) hm
  have bmono : ∀ {top top' d r : Nat} {n : Int}, top ≤ top' → bnd top d (some n) = some r → bnd top' d (some n) = some r := by
    intro top top' d r n ht hq
    unfold bnd at hq ⊢
    simp only at hq ⊢
    split at hq
    · rename_i q
      rw [if_pos ⟨q.1, by omega⟩]; exact hq
    · cases hq
  have hlh : l ≤ h := bnd_le (Nat.zero_le _) hl
  rcases hmx with ⟨rfl, rfl⟩ | ⟨km, nm, rfl, rfl⟩
  · have hm0 : m = cap := by cases hm; rfl
    subst hm0
    have hhm : h ≤ m := bnd_le hlc hh
    refine ⟨?_, hlh, hhm, Nat.le_refl _, fun _ => rfl⟩
    unfold Instr.sliceBounds
    rcases hhi with ⟨rfl, rfl⟩ | ⟨kh, nh, rfl, rfl⟩ <;> rcases hlo with ⟨rfl, rfl⟩ | ⟨kl, nl, rfl, rfl⟩
    · cases hh; cases hl; simp
    · cases hh
      simp [run_sliceBound' (P := P) _ hl]
    · cases hl
      simp [run_sliceBound' (P := P) _ (bmono hcc hh)]
    · simp [run_sliceBound' (P := P) _ (bmono hcc hh), run_sliceBound' (P := P) _ hl]
  · rcases hhi with ⟨rfl, rfl⟩ | ⟨kh, nh, rfl, rfl⟩
    · simp at hnn
    have hhm : h ≤ m := by
      unfold bnd at hh
      simp only at hh
      split at hh
      · cases hh; omega
      · cases hh
    refine ⟨?_, hlh, hhm, hmc, fun q => by cases q⟩
    unfold Instr.sliceBounds
    have hm' := bmono (d := cap) (r := m) hcc (by unfold bnd at hm ⊢; exact hm)
    have hm'' : bnd cap' cap' (some nm) = some m := by unfold bnd at hm' ⊢; exact hm'
    rcases hlo with ⟨rfl, rfl⟩ | ⟨kl, nl, rfl, rfl⟩
    · cases hl
      simp [run_sliceBound' (P := P) _ hm'', run_sliceBound' (P := P) _ hh]
    · simp [run_sliceBound' (P := P) _ hm'', run_sliceBound' (P := P) _ hh, run_sliceBound' (P := P) _ hl]

/-- What is known of the room of a piece. -/
def tailOf (t : Tail) (len l h m : Nat) (mx : Bool) : Tail :=
  if mx then (if m = h then .exact else .no)
  else if h = len then (if l = 0 then t else match t with | .exact => .exact | _ => .no) else .no

def asl (n : Nat) (x : AV) (lo hi mx : Option AV) : Option AV :=
  match oint lo, oint hi, oint mx with
  | some l', some h', some m' => match x with
    | .nsl => match bnds 0 0 l' h' m' with
      | some _ => some .nsl
      | none => none
    | .sl xs t => match bnds xs.length xs.length l' h' m' with
      | some (l, h, m) => if xs.all (fun x => x.cells.length == n) then some (.sl ((xs.take h).drop l) (tailOf t xs.length l h m m'.isSome)) else none
      | none => none
    | .rs k m sz off len => if sz = n ∧ m'.isNone then match bnds len len l' h' none with
      | some (l, h, _) => if l = 0 then some (.rs k m n off h) else if l < len then some (.rs k m n (off + l * n) (h - l)) else some (.sl [] .no)
      | none => none
      else none
    | .v (.string s) => if mx.isSome then none else match bnds s.size s.size l' h' none with
      | some (l, h, _) => some (.v (.string (s.extract l h)))
      | none => none
    | _ => none
  | _, _, _ => none

theorem flat_take {n : Nat} : ∀ {zs : List AV}, (∀ z ∈ zs, z.cells.length = n) → ∀ k, flat (zs.take k) = (flat zs).take (k * n)
  | [], _, k => by simp [flat]
  | z :: r, h, k => by
    cases k with
    | zero => simp [flat]
    | succ k =>
      rw [List.take_succ_cons, flat_cons, flat_cons, flat_take (fun x hx => h x (by simp [hx])), Nat.add_mul, Nat.one_mul, List.take_append, h z (by simp), show k * n + n - n = k * n by omega,
        List.take_of_length_le (l := z.cells) (by rw [h z (by simp)]; omega)]

theorem flat_drop {n : Nat} : ∀ {zs : List AV}, (∀ z ∈ zs, z.cells.length = n) → ∀ k, flat (zs.drop k) = (flat zs).drop (k * n)
  | [], _, k => by simp [flat]
  | z :: r, h, k => by
    cases k with
    | zero => simp
    | succ k =>
      rw [List.drop_succ_cons, flat_cons, flat_drop (fun x hx => h x (by simp [hx])), Nat.add_mul, Nat.one_mul, List.drop_append, h z (by simp), show k * n + n - n = k * n by omega,
        List.drop_of_length_le (l := z.cells) (by rw [h z (by simp)]; omega), List.nil_append]

theorem gives_asl {t e : TypeId} {n : Nat} (ht : P.underlying t = some (.slice e)) (hn : tySize P e = some n) (h : Sim G base w0 C M hp w) {x r : AV} {x' : Value} (hx : Rep C M hp x x') {lo hi mx : Option AV} {lo' hi' mx' : Option Value}
    (hlo : RepO C M hp lo lo') (hhi : RepO C M hp hi hi') (hmx : RepO C M hp mx mx') (hns : ∀ s, x ≠ .v (.string s)) (hr : asl n x lo hi mx = some r) : Gives G base w0 C M hp P (Instr.sliceAt t x' lo' hi' mx') w r hp := by
  unfold asl at hr
  split at hr
  · rename_i l₁ h₁ m₁ el eh em
    have cl := oint_cases hlo el
    have ch := oint_cases hhi eh
    have cm := oint_cases hmx em
    split at hr
    · split at hr
      · rename_i q hq
        obtain ⟨l, hh, m⟩ := q
        cases hr
        cases hx
        obtain ⟨hrun, c1, c2, c3, c4⟩ := run_bounds (P := P) (isSlice := true) cl ch cm (Nat.le_refl 0) (Nat.le_refl 0) hq w
        have hm : m = 0 := by omega
        have hl : l = 0 := by omega
        have hh0 : hh = 0 := by omega
        subst hm; subst hl; subst hh0
        refine .same h ?_ .nsl
        simp [Instr.sliceAt, Instr.slice, run_underlying ht, hrun, run_sizeOf' hn]
      · cases hr
    · rename_i xs tl
      split at hr
      · rename_i l hh m hq
        split at hr
        · rename_i hall
          cases hr
          have hall' : ∀ z ∈ xs, z.cells.length = n := by
            intro z hz
            have := List.all_eq_true.1 hall z hz
            simpa using this
          cases x' <;> first | (cases hx; done) | skip
          rename_i b len cap
          cases b with
          | none => cases hx
          | some a =>
            obtain ⟨e1, hat, hspot, hcap⟩ := repSl_inv hx hall'
            subst e1
            obtain ⟨hrun, c1, c2, c3, c4⟩ := run_bounds (P := P) (isSlice := true) cl ch cm (Nat.le_refl _) hcap hq w
            refine ⟨C, M, _, w, by simp [Instr.sliceAt, Instr.slice, run_underlying ht, hrun, run_sizeOf' hn]; rfl, Le.refl _ _ _, h, ?_⟩
            have hlen : ((xs.take hh).drop l).length = hh - l := by simp; omega
            have hsub : ∀ z ∈ (xs.take hh).drop l, z.cells.length = n := fun z hz => hall' z (List.mem_of_mem_take (List.mem_of_mem_drop hz))
            generalize hM : (if m₁.isSome = true then m else cap) = m'
            have hm' : hh ≤ m' := by rw [← hM]; split <;> omega
            by_cases hml : m' = l
            · -- nothing, and no room
              rw [if_pos hml]
              have hhl : hh = l := by omega
              subst hhl
              have he : (xs.take hh).drop hh = [] := by apply List.eq_nil_of_length_eq_zero; omega
              rw [he, hml, Nat.sub_self]
              refine .sl (xs := []) (sz := n) (fun _ _ => undef) (fun q => (q rfl).elim) (fun i x hx => by simp at hx) (fun i x j c hx => by simp at hx) (fun i x j c hx => by simp at hx) ?_ (Nat.le_refl _)
              unfold tailOf
              split
              · split <;> simp [TailOk]
              · rename_i hmx0
                simp only [hmx0, Bool.false_eq_true, if_false] at hM
                split
                · rename_i hhx
                  split
                  · rename_i hl0
                    have hx0 : xs = [] := by apply List.eq_nil_of_length_eq_zero; omega
                    subst hx0
                    cases hx with
                    | sl f hsp hsz hC hR hT hcap' =>
                      cases tl with
                      | exact => simp [TailOk]
                      | no => simp [TailOk]
                      | tok id =>
                        obtain ⟨n1, s1, ty1, L, q1, q2, q3, q4, q5⟩ := hT
                        refine ⟨n1, s1, ty1, L, q1, q2, q3, Or.inl rfl, fun q => ?_⟩
                        obtain ⟨p1, p2, p3, p4⟩ := q5 q
                        refine ⟨p1, p2, p3, ?_⟩
                        have : cap = 0 := by omega
                        rw [this] at p4
                        simpa using p4
                  · split <;> simp [TailOk]
                · simp [TailOk]
            · rw [if_neg hml]
              have hmlt : l < m' := by omega
              obtain ⟨ab, ao, asp⟩ := a
              have hsp : asp = none ∨ (xs = [] ∨ True) := Or.inr (Or.inr trivial)
              by_cases hxn : xs = []
              · -- an empty row with room
                subst hxn
                have hl0 : l = 0 := by simp at c3 c2; omega
                have hh0 : hh = 0 := by simp at c3; omega
                subst hl0; subst hh0
                have hadd : (⟨ab, ao, asp⟩ : Addr).add (0 * n) = ⟨ab, ao, asp⟩ := by simp [Addr.add]
                rw [hadd]
                simp only [List.take_nil, List.drop_nil, Nat.sub_zero]
                refine .sl (xs := []) (sz := n) (fun _ _ => undef) (fun q => (q rfl).elim) (fun i x hx => by simp at hx) (fun i x j c hx => by simp at hx) (fun i x j c hx => by simp at hx) ?_ (Nat.zero_le _)
                unfold tailOf
                split
                · rename_i hmx1
                  simp only [hmx1, if_true] at hM
                  have : m = 0 := by simp at c3; omega
                  omega
                · rename_i hmx0
                  simp only [hmx0, Bool.false_eq_true, if_false] at hM
                  subst hM
                  simp only [List.length_nil, if_true]
                  cases hx with
                  | sl f hsp hsz hC hR hT hcap' =>
                    cases tl with
                    | exact => exact hT
                    | no => trivial
                    | tok id =>
                      obtain ⟨n1, s1, ty1, L, q1, q2, q3, q4, q5⟩ := hT
                      exact ⟨n1, s1, ty1, L, q1, q2, q3, Or.inl rfl, q5⟩
              · have hsp0 : asp = none := hspot hxn
                subst hsp0
                rw [addr_add]
                refine repSl' hlen.symm hsub ?_ ?_ (by omega)
                · rw [flat_drop (n := n) (fun z hz => hall' z (List.mem_of_mem_take hz)), flat_take hall']
                  exact (hat.take _).drop _
                · unfold tailOf
                  split
                  · rename_i hmx1
                    simp only [hmx1, if_true] at hM
                    split
                    · simp only [TailOk]; omega
                    · trivial
                  · rename_i hmx0
                    simp only [hmx0, Bool.false_eq_true, if_false] at hM
                    subst hM
                    split
                    · rename_i hhx
                      split
                      · rename_i hl0
                        subst hl0
                        subst hhx
                        cases hx with
                        | sl f hsp hsz hC hR hT hcap' =>
                          rename_i sz
                          have : sz = n := by
                            cases xs with
                            | nil => exact (hxn rfl).elim
                            | cons z r => rw [← hsz 0 z rfl]; exact hall' z (by simp)
                          subst this
                          simpa using hT
                      · cases tl with
                        | exact =>
                          cases hx with
                          | sl f hsp hsz hC hR hT hcap' =>
                            have hT' : cap = xs.length := hT
                            simp only [TailOk]; omega
                        | no => trivial
                        | tok id => trivial
                    · trivial
        · cases hr
      · cases hr
    · rename_i k m sz off len
      split at hr
      · rename_i hlc
        obtain ⟨rfl, hmn⟩ := hlc
        have hm0 : m₁ = none := by cases m₁ <;> simp at hmn ⊢
        subst hm0
        split at hr
        · rename_i l hh mm hq
          cases hx with
          | rs hb hM hn' hlc ha =>
            rename_i cap L cs a
            obtain ⟨hrun, c1, c2, c3, c4⟩ := run_bounds (P := P) (isSlice := true) cl ch cm (Nat.le_refl _) hlc hq w
            simp only [Option.isSome_none, Bool.false_eq_true, if_false] at hrun
            split at hr
            · rename_i hl0
              cases hr
              subst hl0
              have hR : Rep C M hp (.rs k m sz off hh) (.slice (some a) hh cap) := .rs hb hM hn' (by omega) fun q => by
                obtain ⟨a1, a2, a3, a4⟩ := ha q
                refine ⟨a1, Nat.le_trans (Nat.add_le_add_left (Nat.mul_le_mul_right _ (by omega)) _) a2, a3, a4⟩
              refine .same h ?_ hR
              simp only [Instr.sliceAt, Instr.slice, Sem.run_bind, Sem.run_pure, run_underlying ht, hrun, run_sizeOf' hn, Result.andThen_ok]
              simp [Addr.add]
            · split at hr
              · rename_i hl0 hll
                cases hr
                have hR : Rep C M hp (.rs k m sz (off + l * sz) (hh - l)) (.slice (some (a.add (l * sz))) (hh - l) (cap - l)) := .rs hb hM hn' (by omega) fun q => by
                  obtain ⟨a1, a2, a3, a4⟩ := ha q
                  have e1 : off + l * sz + (hh - l) * sz = off + hh * sz := by rw [Nat.add_assoc, ← Nat.add_mul]; congr 2; omega
                  have e2 : off + l * sz + (cap - l) * sz = off + cap * sz := by rw [Nat.add_assoc, ← Nat.add_mul]; congr 2; omega
                  refine ⟨by rw [a1, addr_add], ?_, by rw [e2]; exact a3, by rw [e2]; exact a4⟩
                  rw [e1]
                  exact Nat.le_trans (Nat.add_le_add_left (Nat.mul_le_mul_right _ (by omega)) _) a2
                refine .same h ?_ hR
                have hcl : cap ≠ l := by omega
                simp [Instr.sliceAt, Instr.slice, run_underlying ht, hrun, run_sizeOf' hn, hcl]
              · cases hr
                have hhl : hh = l := by omega
                subst hhl
                refine ⟨C, M, _, w, by simp [Instr.sliceAt, Instr.slice, run_underlying ht, hrun, run_sizeOf' hn]; rfl, Le.refl _ _ _, h, ?_⟩
                split
                all_goals exact .sl (xs := []) (sz := sz) (fun _ _ => undef) (fun q => (q rfl).elim) (fun i x hx => by simp at hx) (fun i x j c hx => by simp at hx) (fun i x j c hx => by simp at hx) trivial (Nat.zero_le _)
        · cases hr
      · cases hr
    · rename_i s
      exact (hns s rfl).elim
    · cases hr
  · cases hr

theorem gives_asls {t : TypeId} {n : Nat} (ht : P.underlying t = some .string) (h : Sim G base w0 C M hp w) {x r : AV} {x' : Value} (hx : Rep C M hp x x') {lo hi mx : Option AV} {lo' hi' mx' : Option Value}
    (hlo : RepO C M hp lo lo') (hhi : RepO C M hp hi hi') (hmx : RepO C M hp mx mx') (hs : ∃ s, x = .v (.string s)) (hr : asl n x lo hi mx = some r) : Gives G base w0 C M hp P (Instr.sliceAt t x' lo' hi' mx') w r hp := by
  obtain ⟨s, rfl⟩ := hs
  cases hx
  unfold asl at hr
  split at hr
  · rename_i l₁ h₁ m₁ el eh em
    have cl := oint_cases hlo el
    have ch := oint_cases hhi eh
    simp only at hr
    split at hr
    · cases hr
    · rename_i hmn
      have hmn' : mx = none := by cases mx <;> simp at hmn ⊢
      subst hmn'
      have hmv : mx' = none := by cases mx' with | none => rfl | some b => exact hmx.elim
      subst hmv
      split at hr
      · rename_i l hh m hq
        cases hr
        obtain ⟨hrun, c1, c2, c3, c4⟩ := run_bounds (P := P) (isSlice := false) cl ch (Or.inl ⟨rfl, rfl⟩) (Nat.le_refl _) (Nat.le_refl _) hq w
        exact .same h (by simp [Instr.sliceAt, Instr.slice, run_underlying ht, hrun]) (.v rfl)
      · cases hr
  · cases hr

end
end Go.Abs
