/- From a call that leaves all old memory alone to a law's contract; how arguments read as abstract values. No condition. -/
import Derived.Test.YtbcmdjlgdnippaaGreatDoorE
import Derived.HandedShaped
import Derived.Handed
import Derived.ProofKit
import Derived.OpenShut
set_option linter.unusedVariables false
namespace Go.Abs
open Go.ChangeShapes Go.WideShapes Go.ChangeAt Go.RowKit

/-- All cells that there are. -/
def CW (W : World) : Cells := fun b o => W.cell? ⟨b, o, none⟩

section
variable {H : Type} {enc : TypeId × Value → H} {P : Program}

theorem trodAll_stays (hl : laidOutB P = true) {W W' : World} {sp : Nat → Bool} (hb : Below W.heap.size W W') : ∀ {ts : List TypeId} {vs : List Value} {ds : List (DataW H)} {ps : List MemPlace}, (∀ t ∈ ts, P.readableRec t = true ∧ t < P.types.size) →
    DataW.TrodAll enc P W 0 (fun _ => true) true ts vs ds ps → (∀ p ∈ ps, p.block < W.heap.size) → (∀ p ∈ ps, sp p.block = true) → DataW.TrodAll enc P W' 0 sp true ts vs ds ps
  | [], [], [], _, _, h, _, _ => h
  | t :: ts, v :: vs, d :: ds, ps, ht, ⟨p, q, h1, h2, e⟩, hlt, hsp => by
    subst e
    refine ⟨p, q, WideElems.Trod_stays hl (ht t (by simp)).1 (ht t (by simp)).2 h1 (fun x hx => hb.same (hlt x (by simp [hx]))) (fun x hx => hsp x (by simp [hx])), ?_, rfl⟩
    exact trodAll_stays hl hb (fun u hu => ht u (by simp [hu])) h2 (fun x hx => hlt x (by simp [hx])) (fun x hx => hsp x (by simp [hx]))

theorem below_kept {W W' : World} (hb : Below W.heap.size W W') (may : MemPlace → Prop) : W.keptBut W' may := by
  refine ⟨hb.os, hb.output, fun i hi => ?_⟩
  rw [hb.block i hi]
  split
  · rename_i a b c a' b' c' h1 h2
    rw [h1] at h2
    cases h2
    exact ⟨rfl, rfl, rfl, fun _ _ => rfl⟩
  · rename_i h1 h2
    rw [h1] at h2
    cases h2
    exact Or.inr ⟨rfl, rfl⟩
  · rfl

theorem below_frozen {W W' : World} (hb : Below W.heap.size W W') {b off : Nat} (h : b < W.heap.size) : W'.frozen? ⟨b, off, none⟩ = W.frozen? ⟨b, off, none⟩ := by
  unfold World.frozen?
  rw [hb.block b h]

/-- A law's contract, off a call that leaves old memory alone and returns true. -/
theorem law_contract {f : FuncId} {fn : Func} {s : ChangeSpec} {tb : TypeId} (hl : laidOutB P = true) (htb : P.underlying tb = some .bool) (hres : fn.resultTypes = #[tb])
    (hread : ∀ t ∈ fn.params.toList, P.readableRec t = true ∧ t < P.types.size) (hvars : s.vars = []) {W : World} {args : Array Value} {ds gs : List (DataW H)} {before : List MemPlace}
    (hspec : ∀ gs, gs = [] → s.fn H (ds ++ gs) = { results := [.lit (.bool true)], args := ds }) (hW : DataW.Whole enc P fn.params.toList s.vars false W args.toList ds gs before)
    {avs : List AV} (hp : PureSpec (CW W) P f avs (.v (.bool true))) (hr : RepL (CW W) [] [] avs args.toList) :
    Calls P f args W fun e W' => ∃ v, e = .returned v ∧ s.post enc P fn false true false false W args v W' := by
  have hcall := hp.2 (CW W) W args.toList (fun b o v h => h) (fun b o v h => h) hr
  rw [Array.toArray_toList] at hcall
  refine hcall.mono fun e W' ⟨C', v', he, _, _, _, hb, hrep, _⟩ => ?_
  cases hrep
  subst he
  refine ⟨_, rfl, ?_⟩
  have hlt : ∀ p ∈ before, p.block < W.heap.size := fun p hp => hW.lt p hp
  have hW' := hW
  obtain ⟨p, q, hA, hV, rfl, hz, hn⟩ := hW
  rw [hvars] at hV
  obtain ⟨rfl, rfl⟩ := trodVars_none hV
  have hs := hspec [] rfl
  have hargs : ∀ sp : Nat → Bool, (∀ x ∈ p ++ [], sp x.block = true) → DataW.TrodAll enc P W' 0 sp true fn.params.toList args.toList ds p := fun sp hsp =>
    trodAll_stays hl hb hread hA (fun x hx => hlt x (by simp [hx])) (fun x hx => hsp x (by simp [hx]))
  have hresT : ∀ (b : Nat) (sp : Nat → Bool) (hd : Bool), DataW.TrodAll enc P W' b sp hd fn.resultTypes.toList ((Value.bool true).resultList fn.resultTypes.size) [.lit (.bool true)] [] := fun b sp hd => by
    rw [hres]
    exact trodAll_cons_mk (shut_bool htb _) trodAll_mk0
  have hvT : ∀ sp, DataW.TrodVars enc P W' sp s.vars [] [] := fun sp => by rw [hvars]; rfl
  refine ⟨ds, [], p ++ [], [], p, [], hW', ?_, ?_, ?_, below_kept hb _, fun _ => ?_⟩
  · rw [hs]; exact hresT _ _ _
  · rw [hs]; exact hargs _ (fun x hx => by simpa using hlt x hx)
  · rw [hs]; exact hvT _
  · refine ⟨ok_one hres rfl (okWide_bool_mk htb _), _, _, ([] ++ p) ++ [], ⟨[] ++ p, [], trodAll_append (hargs _ (fun _ _ => rfl)) (hresT _ _ _), by simpa using hvT _, by simp, ?_, ?_⟩, ?_⟩
    · intro b off hp'
      rw [below_frozen hb (show b < W.heap.size from hlt (.cell b off) (by simpa using hp'))]
      exact hz b off (by simpa using hp')
    · intro ha; cases ha
    · intro x hx _; simpa using hx

/-- A law's lift: what it lists of variables, and the world's shape. -/
theorem returns_of_laid {a : Assume} {C : Checked} {os : Os} {f : FuncId} {fn : Func} {s : ChangeSpec} {conds : List PathCond} {apart fresh handsOn again : Bool} {X : World → Array Value → Prop}
    (hX : ∀ (w w' : World) (args : Array Value), w.heap = w'.heap → X w args → X w' args)
    (own : ownKnob C.prog.godebug = none) (started : os.Started) (noInit : C.prog.inits.idxOf? f = none) (hfn : C.prog.funcs[f]? = some fn)
    (witness : ∃ (w : World) (tape : Tape) (i : Input), w.os = os ∧ (w.forCall tape i).Shaped C.prog ∧ i.vars = [] ∧ Input.okWide C.prog (w.forCall tape i) .any w.heap.size f i ∧
      ((s.pre enc C.prog fn conds apart (w.forCall tape i).memory i.args ∧ X (w.forCall tape i).memory i.args) ∧ sizedMet enc C.prog fn (OpenSpec.ofChange s) apart (w.forCall tape i).memory i.args) ∧ a.holds C.prog (lone (Frame.enter C.prog f i.args .normal) [] (w.forCall tape i)))
    (contract : ∀ (W : World) (base : Nat) (args : Array Value) (ds gs : List (DataW H)) (before : List MemPlace),
      (∀ (j : Nat) t v, fn.params[j]? = some t → args[j]? = some v → Value.okWide C.prog W .any base t v) →
      DataW.Whole enc C.prog fn.params.toList s.vars apart W args.toList ds gs before → X W args → W.ShapedOpen C.prog →
      Calls C.prog f args W fun e W' => ∃ v, e = .returned v ∧ s.post enc C.prog fn apart fresh handsOn again W args v W') :
    ReturnsInHanded a C os f .any (fun w args => (s.pre enc C.prog fn conds apart w args ∧ X w args) ∧ sizedMet enc C.prog fn (OpenSpec.ofChange s) apart w args) (s.post enc C.prog fn apart fresh handsOn again) := by
  refine returnsInHanded_of_calls own started noInit witness ?_
  intro w tape i _ hsh _ hok hpre hholds
  obtain ⟨_, _, _, fn', hfn', _, _, _, _, hval⟩ := hok
  have e : fn' = fn := Option.some.inj (hfn'.symm.trans hfn)
  subst e
  obtain ⟨⟨⟨ds, gs, before, hw, hc⟩, hx⟩, hz⟩ := hpre
  have hw' := DataW.Whole.of_heap (w' := w.forCall tape i) (by rfl) hw
  refine (contract (w.forCall tape i) w.heap.size i.args ds gs before hval hw' (hX _ _ _ (by rfl) hx) hsh).mono fun e W' ⟨v, he, hp⟩ => ?_
  subst he
  exact ChangeSpec.post_blind hp

end

/-! How arguments read. -/

/-- What stands in a cell of a type without maps, pointers, functions, interfaces. -/
inductive CTy where
  | i (k : IntKind)
  | b
  | s
  | sl (e : List CTy)

inductive CellOk (W : World) : CTy → Value → Prop
  | i {k : IntKind} {n : Int} (h : (Lit.int k n).wf = true) : CellOk W (.i k) (.int k n)
  | b {x : Bool} : CellOk W .b (.bool x)
  | s {x : ByteArray} (h : x.size ≤ maxLen) : CellOk W .s (.string x)
  | nil {e : List CTy} : CellOk W (.sl e) (.slice none 0 0)
  | sl {e : List CTy} {a : Addr} {len cap : Nat} (g : Nat → Nat → Value) (hl : len ≤ cap) (hc : cap ≤ maxLen) (hsp : 0 < len → 0 < e.length → a.spot = none)
      (hC : ∀ i j c, i < len → e[j]? = some c → W.cell? ⟨a.block, a.off + i * e.length + j, none⟩ = some (g i j))
      (hR : ∀ i j c, i < len → e[j]? = some c → CellOk W c (g i j)) : CellOk W (.sl e) (.slice (some a) len cap)

def CellsOk (W : World) (L : List CTy) (cs : List Value) : Prop := L.length = cs.length ∧ ∀ (i : Nat) c v, L[i]? = some c → cs[i]? = some v → CellOk W c v

def flatFs (P : Program) (g : TypeId → Option (List CTy)) : List Field → Nat → Option (List CTy)
  | [], _ => some []
  | f :: r, off => if f.offset = off then match g f.type with
      | some l => if P.cellsOf f.type = l.length then (flatFs P g r (off + l.length)).map (l ++ ·) else none
      | none => none
    else none

def repCT : Nat → List CTy → List CTy
  | 0, _ => []
  | n + 1, l => l ++ repCT n l

/-- A type's cells. -/
def flatT (P : Program) : Nat → TypeId → Option (List CTy)
  | 0, _ => none
  | f + 1, t => match P.underlying t with
    | some (.int k) => some [.i k]
    | some .bool => some [.b]
    | some .string => some [.s]
    | some (.slice e) => match flatT P f e with
      | some l => if P.cellsOf e = l.length then some [.sl l] else none
      | none => none
    | some (.struct fs) => match flatFs P (flatT P f) fs.toList 0 with
      | some l => if P.cellsOf t = l.length then some l else none
      | none => none
    | some (.array n e) => match flatT P f e with
      | some l => if P.cellsOf e = l.length ∧ P.cellsOf t = n * l.length then some (repCT n l) else none
      | none => none
    | _ => none

section
variable {H : Type} {enc : TypeId × Value → H} {P : Program} {W : World} {sp : Nat → Bool} {held : Bool}

theorem cellsOk_append {L L' : List CTy} {cs cs' : List Value} (h : CellsOk W L cs) (h' : CellsOk W L' cs') : CellsOk W (L ++ L') (cs ++ cs') := by
  refine ⟨by simp [h.1, h'.1], fun i c v hc hv => ?_⟩
  rcases Nat.lt_or_ge i L.length with hi | hi
  · rw [List.getElem?_append_left hi] at hc
    rw [List.getElem?_append_left (by rw [← h.1]; exact hi)] at hv
    exact h.2 i c v hc hv
  · rw [List.getElem?_append_right hi] at hc
    rw [List.getElem?_append_right (by rw [← h.1]; exact hi), ← h.1] at hv
    exact h'.2 _ c v hc hv

theorem cellsOk_one {c : CTy} {v : Value} (h : CellOk W c v) : CellsOk W [c] [v] := ⟨rfl, fun i c' v' hc hv => by
  cases i with
  | zero => simp at hc hv; subst hc; subst hv; exact h
  | succ i => simp at hc⟩

theorem repCT_length (n : Nat) (l : List CTy) : (repCT n l).length = n * l.length := by
  induction n with
  | zero => simp [repCT]
  | succ n ih => simp only [repCT, List.length_append, ih, Nat.succ_mul]; omega

theorem drop_split {α : Type} (cs : List α) (off n : Nat) : cs.drop off = (cs.drop off).take n ++ cs.drop (off + n) := by
  conv => lhs; rw [← List.take_append_drop n (cs.drop off)]
  rw [List.drop_drop]

theorem fs_ok {g : TypeId → Option (List CTy)} {cs : List Value} {R : TypeId → List Value → Prop} (hg : ∀ t l v, g t = some l → R t v → CellsOk W l v) :
    ∀ (fs : List Field) (off : Nat) (L : List CTy), flatFs P g fs off = some L → (∀ f ∈ fs, R f.type ((cs.drop f.offset).take (P.cellsOf f.type))) → (cs.drop off).length = L.length → CellsOk W L (cs.drop off)
  | [], off, L, h, _, hl => by
    cases h
    have : cs.drop off = [] := List.eq_nil_of_length_eq_zero hl
    rw [this]
    exact ⟨rfl, fun i c v hc => by simp at hc⟩
  | f :: r, off, L, h, hR, hl => by
    simp only [flatFs] at h
    split at h
    · rename_i hoff
      subst hoff
      split at h
      · rename_i l hgl
        split at h
        · rename_i hn
          simp only [Option.map_eq_some_iff] at h
          obtain ⟨L', hL', rfl⟩ := h
          have h1 := hg _ _ _ hgl (hR f (by simp))
          rw [drop_split cs f.offset (P.cellsOf f.type)]
          refine cellsOk_append h1 ?_
          rw [hn]
          refine fs_ok hg r (f.offset + l.length) L' hL' (fun f' hf' => hR f' (by simp [hf'])) ?_
          simp only [List.length_append, List.length_drop] at hl ⊢
          omega
        · cases h
      · cases h
    · cases h

theorem rep_ok {l : List CTy} {cs : List Value} (n : Nat) : ∀ (k i : Nat), k + i = n → (∀ j, j < n → CellsOk W l ((cs.drop (j * l.length)).take l.length)) → (cs.drop (i * l.length)).length = k * l.length → CellsOk W (repCT k l) (cs.drop (i * l.length))
  | 0, i, _, _, hl => by
    have : cs.drop (i * l.length) = [] := List.eq_nil_of_length_eq_zero (by rw [hl]; simp)
    rw [this]
    exact ⟨rfl, fun i c v hc => by simp [repCT] at hc⟩
  | k + 1, i, hk, hR, hl => by
    rw [drop_split cs (i * l.length) l.length]
    refine cellsOk_append (hR i (by omega)) ?_
    have e : i * l.length + l.length = (i + 1) * l.length := by rw [Nat.succ_mul]
    rw [e]
    refine rep_ok n k (i + 1) (by omega) hR ?_
    rw [← e]
    simp only [List.length_drop, Nat.succ_mul] at hl ⊢
    omega

theorem cells_get {a : Addr} {n : Nat} {cs : List Value} (h : W.cells? 0 a n = some cs) : cs.length = n ∧ ∀ j, j < n → W.cell? (a.add j) = cs[j]? := by
  unfold World.cells? at h
  rw [if_pos (Nat.zero_le _)] at h
  refine ⟨by simpa using mapM_some_length h, fun j hj => ?_⟩
  exact mapM_some_get h j j (by simp [hj])

theorem add_parts (a : Addr) (n : Nat) (h : a.spot = none) : a.add n = ⟨a.block, a.off + n, none⟩ := by
  cases a with
  | mk b o s => simp at h; subst h; rw [addr_add]

theorem cell_spot {a : Addr} {v : Value} (h : W.cell? a = some v) : a.spot = none := by
  unfold World.cell? at h
  split at h
  · split at h
    · cases h
    · rename_i hs
      simpa using hs
  · cases h

theorem trod_ok : ∀ (d : Nat) (t : TypeId) (L : List CTy), flatT P d t = some L → ∀ (fuel : Nat) (cs : List Value) (x : DataW H × List MemPlace), DataW.trod enc P W 0 sp held fuel t cs = some x → CellsOk W L cs
  | 0, t, L, h => by cases h
  | d + 1, t, L, h => by
    intro fuel cs x hx
    simp only [flatT] at h
    split at h
    · rename_i k ht
      cases h
      obtain ⟨n, rfl, _, hw⟩ := DataW.trod_int ht hx
      exact cellsOk_one (.i hw)
    · rename_i ht
      cases h
      obtain ⟨n, rfl, _⟩ := DataW.trod_bool ht hx
      exact cellsOk_one .b
    · rename_i ht
      cases h
      obtain ⟨n, rfl, _, hw⟩ := DataW.trod_string ht hx
      exact cellsOk_one (.s hw)
    · rename_i e ht
      split at h
      · rename_i l hl
        split at h
        · rename_i hn
          cases h
          rcases DataW.trod_slice ht hx with ⟨rfl, _⟩ | ⟨a, len, cap, elems, rest, n, rfl, rfl, _, _, hlc, hcm, hel, hget, _, _⟩
          · exact cellsOk_one .nil
          · rw [hn] at hget
            have each : ∀ i, i < len → ∃ ci, W.cells? 0 (a.add (i * l.length)) l.length = some ci ∧ CellsOk W l ci := fun i hi => by
              have h1 := hget i hi
              rw [List.getElem?_eq_getElem (by omega)] at h1
              simp only [Option.bind_eq_some_iff] at h1
              obtain ⟨ci, c1, c2⟩ := h1
              exact ⟨ci, c1, trod_ok d e l hl n ci _ c2⟩
            have hsp : 0 < len → 0 < l.length → a.spot = none := fun h0 h1 => by
              obtain ⟨ci, c1, _⟩ := each 0 h0
              obtain ⟨q1, q2⟩ := cells_get c1
              have q3 := q2 0 h1
              rw [List.getElem?_eq_getElem (by omega)] at q3
              have q5 : (a.add (0 * l.length)).add 0 = a := by simp [Addr.add]
              rw [q5] at q3
              exact cell_spot q3
            refine cellsOk_one (.sl (fun i j => (W.cell? ⟨a.block, a.off + i * l.length + j, none⟩).getD (.int .i64 0)) hlc hcm hsp (fun i j c hi hj => ?_) (fun i j c hi hj => ?_))
            all_goals
              have hjl := (List.getElem?_eq_some_iff.1 hj).1
              obtain ⟨ci, c1, c2, c3⟩ := each i hi
              obtain ⟨q1, q2⟩ := cells_get c1
              have q3 := q2 j hjl
              have hs := hsp (by omega) (by omega)
              rw [add_parts a _ hs, addr_add] at q3
              rw [List.getElem?_eq_getElem (by omega)] at q3
              simp only [q3, Option.getD_some]
            exact c3 j c _ hj (List.getElem?_eq_getElem (by omega))
        · cases h
      · cases h
    · rename_i fs ht
      split at h
      · rename_i l hl
        split at h
        · rename_i hn
          cases h
          obtain ⟨xs, n, rfl, _, hlen, hsz, hget⟩ := DataW.trod_struct ht hx
          have := fs_ok (W := W) (P := P) (cs := cs) (R := fun t v => ∃ x, DataW.trod enc P W 0 sp held n t v = some x) (fun t l v hg hx => by
            obtain ⟨x, hx⟩ := hx
            exact trod_ok d t l hg n v x hx) fs.toList 0 _ hl (fun f hf => by
            obtain ⟨i, hi, rfl⟩ := List.getElem_of_mem hf
            have hi' : i < fs.size := by simpa using hi
            have := hget i fs[i] (by simp [hi'])
            rw [List.getElem?_eq_getElem (by omega)] at this
            exact ⟨_, by simpa using this⟩) (by rw [List.drop_zero]; omega)
          rw [List.drop_zero] at this
          exact this
        · cases h
      · cases h
    · rename_i n e ht
      split at h
      · rename_i l hl
        split at h
        · rename_i hn
          cases h
          obtain ⟨xs, m, rfl, _, hlen, hsz, hget⟩ := DataW.trod_array ht hx
          have := rep_ok (W := W) (l := l) (cs := cs) n n 0 (by omega) (fun j hj => by
            have h1 := hget j hj
            rw [List.getElem?_eq_getElem (by omega), hn.1] at h1
            exact trod_ok d e l hl m _ _ h1) (by simp; omega)
          simpa using this
        · cases h
      · cases h
    · cases h

/-- Arguments, each of the cells of its type. -/
theorem args_ok {d : Nat} : ∀ {ts : List TypeId} {Ls : List (List CTy)} {vs : List Value} {ds : List (DataW H)} {ps : List MemPlace}, ts.mapM (flatT P d) = some Ls → DataW.TrodAll enc P W 0 sp held ts vs ds ps →
    vs.length = Ls.length ∧ ds.length = Ls.length ∧ ∀ (i : Nat) L v, Ls[i]? = some L → vs[i]? = some v → CellsOk W L v.cells.toList
  | [], Ls, [], [], _, h, _ => by
    simp at h; subst h
    exact ⟨rfl, rfl, fun i L v h => by simp at h⟩
  | t :: ts, Ls, v :: vs, x :: ds, ps, h, ⟨p, q, ⟨fuel, h1⟩, h2, _⟩ => by
    simp only [List.mapM_cons, Option.pure_def, Option.bind_eq_bind, Option.bind_eq_some_iff, Option.some.injEq] at h
    obtain ⟨L, hL, Ls', hLs, rfl⟩ := h
    obtain ⟨e1, e2, e3⟩ := args_ok hLs h2
    refine ⟨by simp [e1], by simp [e2], fun i L' v' hL' hv' => ?_⟩
    cases i with
    | zero => simp at hL' hv'; subst hL'; subst hv'; exact trod_ok d t L hL fuel _ _ h1
    | succ i => simp at hL' hv'; exact e3 i L' v' hL' hv'

end
end Go.Abs
