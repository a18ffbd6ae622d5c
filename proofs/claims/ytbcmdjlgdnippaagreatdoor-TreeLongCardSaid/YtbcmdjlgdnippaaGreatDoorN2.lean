/- More operations on abstract values: maps whose keys are flat. No condition. -/
import Derived.Test.YtbcmdjlgdnippaaGreatDoorN
import Derived.MapKept
import Derived.DeepKeys3
set_option linter.unusedVariables false
set_option linter.unusedSimpArgs false
namespace Go.Abs
open Go.RowKit

section
variable {G : Cells} {base : Nat} {w0 : Root} {w : World} {C : Cells} {M : List Loc} {hp : List Blk} {P : Program}

/-! Keys. -/

def KeyOk (P : Program) (d : Nat) : Prop :=
  ∀ (t : TypeId) (ks : List LeafK), leaves P d t = some ks → ∃ ag, tyAgg P t = some ag ∧ (ag = false → ks.length = 1) ∧
    ∀ (em : Bool) (dd : Nat) (C : Cells) (M : List Loc) (hp : List Blk) (w : World) (xs : List AV) (u : Value), RepL C M hp xs u.cells.toList → Formed ag u → xs.length = ks.length → (∀ x ∈ xs, x.one = true) →
      (Instr.checkKey em (dd + d) t u).run P w = .ok () w

theorem check_fields (em : Bool) (d dd : Nat) (hd : KeyOk P d) {xs : List AV} {a : Array Value} (hx : RepL C M hp xs a.toList) (hone : ∀ x ∈ xs, x.one = true) (w : World) :
    ∀ (fs : List Field) (off : Nat) (ks : List LeafK), leavesF P (leaves P d) fs off = some ks → off + ks.length ≤ xs.length →
      (forIn fs PUnit.unit fun f _ => if f.name ≠ "_" then (part f.type a f.offset >>= fun v => Instr.checkKey em (dd + d) f.type v >>= fun _ => pure (ForInStep.yield PUnit.unit) : Sem (ForInStep PUnit)) else pure (ForInStep.yield PUnit.unit)).run P w = .ok PUnit.unit w
  | [], off, ks, hl, he => by simp
  | f :: fs, off, ks, hl, he => by
    simp only [leavesF] at hl
    split at hl
    · rename_i hf
      obtain ⟨hname, rfl⟩ := hf
      split at hl
      · rename_i l hlf
        split at hl
        · rename_i hsz
          obtain ⟨hsz, hpos⟩ := hsz
          simp only [Option.map_eq_some_iff] at hl
          obtain ⟨ks', hrest, rfl⟩ := hl
          rw [List.length_append] at he
          obtain ⟨ag, hag, h1, hrun⟩ := hd f.type l hlf
          obtain ⟨u, hu, fu, ru⟩ := run_part2 (P := P) (off := f.offset) hag hsz h1 hx (by omega) (fun x hx => hone x (List.mem_of_mem_drop (List.mem_of_mem_take hx))) w
          have hq := hrun em dd C M hp w _ u ru fu (by simp; omega) (fun x hx => hone x (List.mem_of_mem_drop (List.mem_of_mem_take hx)))
          have ih := check_fields em d dd hd hx hone w fs (f.offset + l.length) ks' hrest (by omega)
          simp only [List.forIn_cons, Sem.run_bind, hname, ne_eq, not_false_eq_true, if_true, hu, hq, Result.andThen_ok, Sem.run_pure]
          exact ih
        · cases hl
      · cases hl
    · cases hl

theorem check_items (em : Bool) (d dd : Nat) (hd : KeyOk P d) {e : TypeId} {l : List LeafK} (hl : leaves P d e = some l) (hsz : tySize P e = some l.length) {xs : List AV} {a : Array Value} (hx : RepL C M hp xs a.toList) (hone : ∀ x ∈ xs, x.one = true) (w : World) :
    ∀ (n k : Nat), (k + n) * l.length ≤ xs.length →
      (forIn (List.range' k n) () fun i _ => (do Instr.checkKey em (dd + d) e (← part e a (i * (← sizeOf e))); pure (ForInStep.yield ()) : Sem (ForInStep Unit))).run P w = .ok () w
  | 0, k, _ => by simp
  | n + 1, k, h => by
    obtain ⟨ag, hag, h1, hrun⟩ := hd e l hl
    have hk : k * l.length + l.length ≤ xs.length := by
      have : (k + 1) * l.length ≤ (k + (n + 1)) * l.length := Nat.mul_le_mul_right _ (by omega)
      rw [Nat.add_mul, Nat.one_mul] at this
      omega
    obtain ⟨u, hu, fu, ru⟩ := run_part2 (P := P) (off := k * l.length) hag hsz h1 hx hk (fun x hx => hone x (List.mem_of_mem_drop (List.mem_of_mem_take hx))) w
    have hq := hrun em dd C M hp w _ u ru fu (by simp; omega) (fun x hx => hone x (List.mem_of_mem_drop (List.mem_of_mem_take hx)))
    have ih := check_items em d dd hd hl hsz hx hone w n (k + 1) (by rw [show k + 1 + n = k + (n + 1) by omega]; exact h)
    rw [List.range'_succ]
    simp only [List.forIn_cons, Sem.run_bind, run_sizeOf' hsz, Result.andThen_ok, hu, hq, Sem.run_pure]
    exact ih

theorem keyOk : ∀ d, KeyOk P d
  | 0 => fun t ks h => by cases h
  | d + 1 => fun t ks h => by
    have ihd : KeyOk P d := keyOk d
    obtain ⟨ag, hag, h1, _⟩ := eqOk (d + 1) t ks h
    refine ⟨ag, hag, h1, fun em dd C M hp w xs u hx fu hlen hone => ?_⟩
    unfold leaves at h
    cases hu : P.underlying t with
    | none => rw [hu] at h; cases h
    | some dsc =>
      rw [hu] at h
      have hagd := hag
      unfold tyAgg at hagd
      rw [hu] at hagd
      rw [show dd + (d + 1) = (dd + d) + 1 from rfl, Instr.checkKey]
      simp only [Sem.run_bind, run_underlying hu, Result.andThen_ok]
      cases dsc <;> simp only [reduceCtorEq, Option.some.injEq] at h
      case bool => cases u <;> rfl
      case int q => cases u <;> rfl
      case string => cases u <;> rfl
      case array n e =>
        simp at hagd
        subst hagd
        obtain ⟨a, rfl⟩ := fu
        split at h
        · rename_i l hl
          split at h
          · rename_i hsz
            obtain ⟨hsz, hpos⟩ := hsz
            cases h
            simp only [Std.Legacy.Range.forIn_eq_forIn_range', Std.Legacy.Range.size, Nat.sub_zero, Nat.add_one_sub_one, Nat.div_one]
            have hx' : RepL C M hp xs a.toList := hx
            have := check_items em d dd ihd hl hsz hx' hone w n 0 (by rw [hlen]; simp [Nat.zero_add])
            simp only [Sem.run_bind] at this ⊢
            rw [this]
            rfl
          · cases h
        · cases h
      case struct fs =>
        simp at hagd
        subst hagd
        obtain ⟨a, rfl⟩ := fu
        split at h
        · cases h
        · simp only
          rw [← Array.forIn_toList]
          have hx' : RepL C M hp xs a.toList := hx
          have := check_fields em d dd ihd hx' hone w fs.toList 0 ks h (by omega)
          simp only [Sem.run_bind] at this ⊢
          rw [this]
          rfl

/-- Is it a key of that form? -/
def keyForm (ag : Bool) (ks : List LeafK) (x : AV) : Bool := (match x with | .agg _ => ag | _ => !ag) && x.cells.length == ks.length && x.cells.all AV.one

theorem formed_of {ag : Bool} {ks : List LeafK} {x : AV} {v : Value} (h : keyForm ag ks x = true) (hr : Rep C M hp x v) : Formed ag v ∧ RepL C M hp x.cells v.cells.toList ∧ x.cells.length = ks.length ∧ ∀ c ∈ x.cells, c.one = true := by
  unfold keyForm at h
  simp only [Bool.and_eq_true, beq_iff_eq, List.all_eq_true] at h
  obtain ⟨⟨h1, h2⟩, h3⟩ := h
  refine ⟨?_, rep_cells hr, h2, h3⟩
  cases x with
  | agg cs => simp at h1; subst h1; cases hr; exact ⟨_, rfl⟩
  | _ =>
    simp at h1
    subst h1
    exact cells_of_one (hr.one (h3 _ (by simp [AV.cells])))

/-- Where a key stands. -/
def mfind (ks : List LeafK) (key : List AV) : List (AV × AV × Nat) → Nat → Option (Option (Nat × AV))
  | [], _ => some none
  | e :: r, i => match eqKs ks key e.1.cells with
    | some true => some (some (i, e.2.1))
    | some false => mfind ks key r (i + 1)
    | none => none

theorem beq_bytes (a b : ByteArray) : (a == b) = (a.toList == b.toList) := beq_toListBytes a b

theorem sameNow_eq {d : TypeDesc} {ks : List LeafK} {x y : AV} {x' y' : Value} {r : Bool} (hx : Rep C M hp x x') (hy : Rep C M hp y y') (h : eqKs ks x.cells y.cells = some r) : Instr.sameNow d x' y' = none ∨ Instr.sameNow d x' y' = some r := by
  unfold Instr.sameNow
  split
  · rename_i _ k a k' b
    cases hx; cases hy
    simp only [AV.cells] at h
    have hl := eqKs_len h
    match ks, hl with
    | [q], _ =>
      simp only [eqKs] at h
      split at h
      · rename_i a1 b1 h1 h2
        cases h2; cases h
        cases q <;> simp [eqK] at h1
        obtain ⟨rfl, rfl⟩ := h1
        right; simp
      · cases h
  · cases hx; cases hy
    simp only [AV.cells] at h
    have hl := eqKs_len h
    match ks, hl with
    | [q], _ =>
      simp only [eqKs] at h
      split at h
      · rename_i a1 b1 h1 h2
        cases h2; cases h
        cases q <;> simp [eqK] at h1
        right; rw [beq_bytes, h1]; simp
      · cases h
  · cases hx; cases hy
    simp only [AV.cells] at h
    have hl := eqKs_len h
    match ks, hl with
    | [q], _ =>
      simp only [eqKs] at h
      split at h
      · rename_i a1 b1 h1 h2
        cases h2; cases h
        cases q <;> simp [eqK] at h1
        right; simp [h1]
      · cases h
  · exact Or.inl rfl

/-- What a search in a map gives. -/
def Found (C : Cells) (M : List Loc) (hp : List Blk) (entries : List MapEntry) (n : Nat) : Option (Nat × AV) → Option (Nat × Value) → Prop
  | none, none => True
  | some (i, v), some (i', v') => i = i' ∧ ∃ e, n ≤ i ∧ entries[i - n]? = some e ∧ e.val = v' ∧ Rep C M hp v v'
  | _, _ => False

def EntsOk (C : Cells) (M : List Loc) (hp : List Blk) (ag : Bool) (ks : List LeafK) (es : List (AV × AV × Nat)) (entries : List MapEntry) : Prop :=
  es.length = entries.length ∧ ∀ (i : Nat) a b, es[i]? = some a → entries[i]? = some b → (Rep C M hp a.1 b.key ∧ Rep C M hp a.2.1 b.val ∧ b.born = a.2.2) ∧ keyForm ag ks a.1 = true

theorem EntsOk.tail {ag : Bool} {ks : List LeafK} {e : AV × AV × Nat} {es : List (AV × AV × Nat)} {b : MapEntry} {entries : List MapEntry} (h : EntsOk C M hp ag ks (e :: es) (b :: entries)) : EntsOk C M hp ag ks es entries :=
  ⟨by have := h.1; simpa using this, fun i x y hx hy => h.2 (i + 1) x y (by simpa using hx) (by simpa using hy)⟩

theorem findNow_ok {d : TypeDesc} {ks : List LeafK} {ag : Bool} {x : AV} {x' : Value} (hx : Rep C M hp x x') : ∀ {es : List (AV × AV × Nat)} {entries : List MapEntry} {n : Nat} {r : Option (Nat × AV)}, EntsOk C M hp ag ks es entries → mfind ks x.cells es n = some r →
    Instr.findNow d x' entries n = none ∨ ∃ r', Instr.findNow d x' entries n = some r' ∧ Found C M hp entries n r r'
  | [], [], n, r, _, h => by cases h; exact Or.inr ⟨none, rfl, trivial⟩
  | [], _ :: _, _, _, he, _ => by have := he.1; simp at this
  | _ :: _, [], _, _, he, _ => by have := he.1; simp at this
  | e :: es, b :: entries, n, r, he, h => by
    obtain ⟨⟨k1, k2, k3⟩, k4⟩ := he.2 0 e b rfl rfl
    simp only [mfind] at h
    split at h
    · rename_i hq
      cases h
      simp only [Instr.findNow]
      rcases sameNow_eq (d := d) hx k1 hq with h1 | h1
      · rw [h1]; exact Or.inl rfl
      · rw [h1]; exact Or.inr ⟨_, rfl, rfl, b, Nat.le_refl _, by simp, rfl, k2⟩
    · rename_i hq
      simp only [Instr.findNow]
      rcases sameNow_eq (d := d) hx k1 hq with h1 | h1
      · rw [h1]; exact Or.inl rfl
      · rw [h1]
        rcases findNow_ok hx he.tail h with h2 | ⟨r', h2, h3⟩
        · exact Or.inl h2
        · refine Or.inr ⟨r', h2, ?_⟩
          unfold Found at h3 ⊢
          split at h3
          · trivial
          · obtain ⟨e1, y, e2, e3, e4⟩ := h3
            refine ⟨e1, y, by omega, ?_, e4⟩
            rename_i i v i' v'
            rw [show i - n = (i - (n + 1)) + 1 by omega]
            simpa using e3
          · exact h3
    · cases h

theorem run_findAsking {kt : TypeId} {d : Nat} (hdm : d ≤ 10000) {ks : List LeafK} {ag : Bool} (hk : leaves P d kt = some ks) (hag : tyAgg P kt = some ag) {x : AV} {x' : Value} (hx : Rep C M hp x x') (hf : keyForm ag ks x = true) (w : World) :
    ∀ {es : List (AV × AV × Nat)} {entries : List MapEntry} {n : Nat} {r : Option (Nat × AV)}, EntsOk C M hp ag ks es entries → mfind ks x.cells es n = some r →
    ∃ r', (Instr.findAsking kt x' entries n).run P w = .ok r' w ∧ Found C M hp entries n r r'
  | [], [], n, r, _, h => by cases h; exact ⟨none, rfl, trivial⟩
  | [], _ :: _, _, _, he, _ => by have := he.1; simp at this
  | _ :: _, [], _, _, he, _ => by have := he.1; simp at this
  | e :: es, b :: entries, n, r, he, h => by
    obtain ⟨⟨k1, k2, k3⟩, k4⟩ := he.2 0 e b rfl rfl
    obtain ⟨ag', hag', _, hrun⟩ := eqOk d kt ks hk
    rw [hag] at hag'
    cases hag'
    obtain ⟨f1, f2, f3, f4⟩ := formed_of hf hx
    obtain ⟨g1, g2, g3, g4⟩ := formed_of k4 k1
    have heq : ∀ q, eqKs ks x.cells e.1.cells = some q → (Op.equal kt x' b.key).run P w = .ok q w := fun q hq => by
      have := hrun (10000 - d) C M hp w _ _ x' b.key q f2 g2 f1 g1 hq
      rw [show 10000 - d + d = 10000 by omega] at this
      exact this
    simp only [mfind] at h
    split at h
    · rename_i hq
      cases h
      refine ⟨some (n, b.val), by simp [Instr.findAsking, heq _ hq], rfl, b, Nat.le_refl _, by simp, rfl, k2⟩
    · rename_i hq
      obtain ⟨r', h2, h3⟩ := run_findAsking hdm hk hag hx hf w he.tail h
      refine ⟨r', by simp [Instr.findAsking, heq _ hq, h2], ?_⟩
      unfold Found at h3 ⊢
      split at h3
      · trivial
      · obtain ⟨e1, y, e2, e3, e4⟩ := h3
        refine ⟨e1, y, by omega, ?_, e4⟩
        rename_i i v i' v'
        rw [show i - n = (i - (n + 1)) + 1 by omega]
        simpa using e3
      · exact h3
    · cases h

theorem run_findKey' {kt : TypeId} {d : Nat} (hdm : d ≤ 10000) {ks : List LeafK} {ag : Bool} (hk : leaves P d kt = some ks) (hag : tyAgg P kt = some ag) {x : AV} {x' : Value} (hx : Rep C M hp x x') (hf : keyForm ag ks x = true) (w : World)
    {es : List (AV × AV × Nat)} {entries : List MapEntry} {r : Option (Nat × AV)} (he : EntsOk C M hp ag ks es entries) (h : mfind ks x.cells es 0 = some r) :
    ∃ r', (Instr.findKey kt x' entries).run P w = .ok r' w ∧ Found C M hp entries 0 r r' := by
  obtain ⟨dsc, hu⟩ : ∃ dsc, P.underlying kt = some dsc := by
    unfold tyAgg at hag
    cases hu : P.underlying kt with
    | none => simp [hu] at hag
    | some d => exact ⟨d, rfl⟩
  simp only [Instr.findKey, Sem.run_bind, run_underlying hu, Result.andThen_ok]
  rcases findNow_ok (d := dsc) hx he h with h1 | ⟨r', h1, h2⟩
  · rw [h1]
    exact run_findAsking hdm hk hag hx hf w he h
  · rw [h1]
    exact ⟨r', rfl, h2⟩

/-! The operations. -/

/-- All keys are of that form. -/
def keysForm (ag : Bool) (ks : List LeafK) (es : List (AV × AV × Nat)) : Bool := es.all fun e => keyForm ag ks e.1

def mapAt (hp : List Blk) : AV → Option (Nat × List (AV × AV × Nat) × Nat)
  | .mapv k => match hp[k]? with
    | some (.mapb es cl) => some (k, es, cl)
    | _ => none
  | _ => none

theorem mapAt_ok (h : Sim G base w0 C M hp w) {m : AV} {m' : Value} (hm : Rep C M hp m m') {k : Nat} {es : List (AV × AV × Nat)} {cl : Nat} (ha : mapAt hp m = some (k, es, cl)) {ag : Bool} {ks : List LeafK} (hf : keysForm ag ks es = true) :
    ∃ L entries, m' = .map (some L.b) ∧ M[k]? = some L ∧ hp[k]? = some (.mapb es cl) ∧ w.heap[L.b]? = some (.map entries cl) ∧ EntsOk C M hp ag ks es entries.toList := by
  unfold mapAt at ha
  split at ha
  · split at ha
    · rename_i hb
      cases ha
      cases hm with
      | mapv hb' hM =>
        rename_i L es' cl'
        obtain ⟨t1, o, t2, t3, t4⟩ := h.objs k _ L rfl hb hM
        obtain ⟨entries, rfl, e1, e2⟩ := t4
        refine ⟨L, entries, rfl, hM, hb, t2, e1, fun i a b ha hb => ⟨e2 i a b ha hb, ?_⟩⟩
        exact List.all_eq_true.1 hf a (List.mem_of_getElem? ha)
    · cases ha
  · cases ha

/-- m[k] -/
def alkp (hp : List Blk) (ag : Bool) (ks : List LeafK) (z : AV) (ok : Bool) (m key : AV) : Option AV :=
  match mapAt hp m with
  | some (_, es, _) => if keyForm ag ks key = true ∧ keysForm ag ks es = true then
      match mfind ks key.cells es 0 with
      | some (some (_, v)) => some (if ok then .tup [v, .v (.bool true)] else v)
      | some none => some (if ok then .tup [z, .v (.bool false)] else z)
      | none => none
    else none
  | none => none

theorem run_getMap {r : Nat} {entries : Array MapEntry} {cl : Nat} (h : w.heap[r]? = some (.map entries cl)) : (getObj r).run P w = .ok (.map entries cl) w := by
  simp [getObj, Sem.run, h]

theorem gives_lkp {mt kt et : TypeId} {d : Nat} {ks : List LeafK} {ag : Bool} {z : AV} {ok : Bool} (hmt : P.underlying mt = some (.map kt et)) (hd0 : 0 < d) (hdm : d ≤ 10000) (hk : leaves P d kt = some ks) (hag : tyAgg P kt = some ag) (hz : tyZeroV P et = some z)
    (h : Sim G base w0 C M hp w) {m key r : AV} {m' key' : Value} (hm : Rep C M hp m m') (hkey : Rep C M hp key key') (hr : alkp hp ag ks z ok m key = some r) : Gives G base w0 C M hp P (Instr.lookup mt m' key' ok) w r hp := by
  unfold alkp at hr
  split at hr
  · rename_i k es cl ha
    split at hr
    · rename_i hc
      obtain ⟨hf, hfs⟩ := hc
      obtain ⟨L, entries, rfl, hM, hb, hw, hes⟩ := mapAt_ok h hm ha hfs
      obtain ⟨ag', hag', _, hck⟩ := keyOk d kt ks hk
      rw [hag] at hag'
      cases hag'
      obtain ⟨f1, f2, f3, f4⟩ := formed_of hf hkey
      have hchk : ∀ em, (Instr.checkKey em 10000 kt key').run P w = .ok () w := fun em => by
        have := hck em (10000 - d) C M hp w _ key' f2 f1 f3 f4
        rwa [show 10000 - d + d = 10000 by omega] at this
      obtain ⟨zv, hzv, hzr⟩ := tyZeroV_run hz
      have run : ∀ r', (Instr.findKey kt key' entries.toList).run P w = .ok r' w → (Instr.lookup mt (.map (some L.b)) key' ok).run P w =
          .ok (if ok then .tuple #[(match r' with | some (_, v) => v | none => zv), .bool r'.isSome] else (match r' with | some (_, v) => v | none => zv)) w := fun r' hr' => by
        unfold Instr.lookup
        simp only [Sem.run_bind, run_underlying hmt, Result.andThen_ok, run_getMap hw, Sem.run_pure, hchk, hr']
        cases r' with
        | none => simp [hzv]
        | some p => simp
      split at hr
      · rename_i i v hfd
        cases hr
        obtain ⟨r', hr', hF⟩ := run_findKey' hdm hk hag hkey hf w hes hfd
        have := run r' hr'
        cases r' with
        | none => exact hF.elim
        | some p =>
          obtain ⟨i', v'⟩ := p
          obtain ⟨_, y, _, _, _, hv⟩ := hF
          cases ok with
          | true => exact .same h this (rep_two hv (.v rfl))
          | false => exact .same h this hv
      · rename_i hfd
        cases hr
        obtain ⟨r', hr', hF⟩ := run_findKey' hdm hk hag hkey hf w hes hfd
        have := run r' hr'
        cases r' with
        | none =>
          cases ok with
          | true => exact .same h this (rep_two (hzr _ _ _) (.v rfl))
          | false => exact .same h this (hzr _ _ _)
        | some p => exact hF.elim
      · cases hr
    · cases hr
  · cases hr

/-- m[k] = v -/
def amput (hp : List Blk) (ag : Bool) (ks : List LeafK) (m key x : AV) : Option (List Blk) :=
  match mapAt hp m with
  | some (k, es, cl) => if keyForm ag ks key = true ∧ keysForm ag ks es = true then
      match mfind ks key.cells es 0 with
      | some (some (i, _)) => some (hp.set k (.mapb (es.modify i fun e => (key, x, e.2.2)) cl))
      | some none => some (hp.set k (.mapb (es ++ [(key, x, cl)]) (cl + 1)))
      | none => none
    else none
  | none => none

/-- A map's variable that an assignment takes: its value and stamp. -/
def ament (hp : List Blk) (ag : Bool) (ks : List LeafK) (z : AV) (m key : AV) : Option (AV × List Blk) :=
  match mapAt hp m with
  | some (k, es, cl) => if keyForm ag ks key = true ∧ keysForm ag ks es = true then
      match mfind ks key.cells es 0 with
      | some (some (i, v)) => some (.tup [v, .v (goInt (((es[i]?).map (·.2.2)).getD 0))], hp.set k (.mapb (es.modify i fun e => (key, e.2.1, e.2.2)) cl))
      | some none => some (.tup [z, .v (goInt cl)], hp.set k (.mapb (es ++ [(key, z, cl)]) (cl + 1)))
      | none => none
    else none
  | none => none

/-- That variable takes a value. -/
def aest (hp : List Blk) (m stamp x : AV) : Option (List Blk) :=
  match mapAt hp m, stamp with
  | some (k, es, cl), .v (.int _ n) => match es.findIdx? (fun e => (e.2.2 : Int) == n) with
    | some i => some (hp.set k (.mapb (es.modify i fun e => (e.1, x, e.2.2)) cl))
    | none => none
  | _, _ => none

theorem sameBits_self {ks : List LeafK} : ∀ {xs ys : List AV} {us vs : List Value}, RepL C M hp xs us → RepL C M hp ys vs → eqKs ks xs ys = some true → ∀ n, (us.zip vs).all (fun p => Instr.sameBits n p.1 p.2) = true := by
  induction ks with
  | nil =>
    intro xs ys us vs hx hy h n
    have hl := eqKs_len h
    have : us = [] := List.eq_nil_of_length_eq_zero (by rw [← hx.1]; exact hl.1)
    rw [this]; rfl
  | cons k ks ih =>
    intro xs ys us vs hx hy h n
    have hl := eqKs_len h
    match xs, ys, us, vs, hx, hy, h with
    | [], _, _, _, _, _, h => simp [eqKs] at h
    | _ :: _, [], _, _, _, _, h => simp [eqKs] at h
    | _ :: _, _ :: _, [], _, hx, _, _ => have := hx.1; simp at this
    | _ :: _, _ :: _, _ :: _, [], _, hy, _ => have := hy.1; simp at this
    | x :: xs, y :: ys, u :: us, v :: vs, hx, hy, h =>
      simp only [eqKs] at h
      split at h
      · rename_i a b h1 h2
        simp only [Option.some.injEq, Bool.and_eq_true] at h
        obtain ⟨rfl, rfl⟩ := h
        have e1 := hx.2 0 x u rfl rfl
        have e2 := hy.2 0 y v rfl rfl
        have ih' := ih (xs := xs) (ys := ys) (us := us) (vs := vs) ⟨by have := hx.1; simpa using this, fun i p q hp hq => hx.2 (i + 1) p q (by simpa using hp) (by simpa using hq)⟩ ⟨by have := hy.1; simpa using this, fun i p q hp hq => hy.2 (i + 1) p q (by simpa using hp) (by simpa using hq)⟩ h2 n
        simp only [List.zip_cons_cons, List.all_cons, Bool.and_eq_true]
        refine ⟨?_, ih'⟩
        cases k with
        | i =>
          obtain ⟨k, a, b, rfl, rfl, hr⟩ := eqK_i h1
          cases e1; cases e2
          simp at hr
          subst hr
          cases n <;> simp [Instr.sameBits]
        | b =>
          obtain ⟨a, b, rfl, rfl, hr⟩ := eqK_b h1
          cases e1; cases e2
          simp at hr
          subst hr
          cases n <;> simp [Instr.sameBits]
        | s =>
          obtain ⟨a, b, rfl, rfl, hr⟩ := eqK_s h1
          cases e1; cases e2
          rw [← beq_bytes] at hr
          cases n <;> simp [Instr.sameBits] <;> simpa using hr.symm
      · cases h

theorem run_keyStays {ag : Bool} {ks : List LeafK} {x y : AV} {x' y' : Value} (hx : Rep C M hp x x') (hy : Rep C M hp y y') (fx : keyForm ag ks x = true) (fy : keyForm ag ks y = true) (h : eqKs ks x.cells y.cells = some true) :
    (Instr.keyThatStays y' x').run P w = .ok x' w := by
  obtain ⟨f1, f2, f3, f4⟩ := formed_of fx hx
  obtain ⟨g1, g2, g3, g4⟩ := formed_of fy hy
  have hs : ∀ n, (y'.cells.toList.zip x'.cells.toList).all (fun p => Instr.sameBits n p.1 p.2) = true := by
    have heq : eqKs ks y.cells x.cells = some true := by
      have sym : ∀ (ks : List LeafK) (xs ys : List AV), eqKs ks xs ys = some true → eqKs ks ys xs = some true := by
        intro ks
        induction ks with
        | nil => intro xs ys h; cases xs <;> cases ys <;> simp [eqKs] at h ⊢
        | cons k ks ih =>
          intro xs ys h
          cases xs with
          | nil => simp [eqKs] at h
          | cons x xs => cases ys with
            | nil => simp [eqKs] at h
            | cons y ys =>
              simp only [eqKs] at h ⊢
              split at h
              · rename_i a b h1 h2
                simp only [Option.some.injEq, Bool.and_eq_true] at h
                obtain ⟨rfl, rfl⟩ := h
                have : eqK k y x = some true := by
                  cases k with
                  | i => obtain ⟨k, a, b, rfl, rfl, hr⟩ := eqK_i h1; simp at hr; subst hr; simp [eqK]
                  | b => obtain ⟨a, b, rfl, rfl, hr⟩ := eqK_b h1; simp at hr; subst hr; simp [eqK]
                  | s => obtain ⟨a, b, rfl, rfl, hr⟩ := eqK_s h1; simp at hr; simp [eqK, hr]
                rw [this, ih _ _ h2]; rfl
              · cases h
      exact sym _ _ _ h
    exact fun n => sameBits_self g2 f2 heq n
  have hb : Instr.sameBits 10000 y' x' = true := by
    cases ag with
    | true =>
      obtain ⟨a, rfl⟩ := f1
      obtain ⟨b, rfl⟩ := g1
      simp only [Value.cells] at hs
      have hsz : b.size = a.size := by
        have e1 := f2.1; have e2 := g2.1
        simp [Value.cells] at e1 e2
        omega
      show (b.size == a.size && (b.toList.zip a.toList).all fun (x, y) => Instr.sameBits 9999 x y) = true
      rw [hsz]
      simpa using hs 9999
    | false =>
      have c1 : x'.cells = #[x'] := f1
      have c2 : y'.cells = #[y'] := g1
      have := hs 10000
      rw [c1, c2] at this
      simpa using this
  simp [Instr.keyThatStays, hb]

theorem mfind_some {ks : List LeafK} {key : List AV} : ∀ {es : List (AV × AV × Nat)} {n i : Nat} {v : AV}, mfind ks key es n = some (some (i, v)) → ∃ e, n ≤ i ∧ es[i - n]? = some e ∧ e.2.1 = v ∧ eqKs ks key e.1.cells = some true
  | [], n, i, v, h => by simp [mfind] at h
  | e :: r, n, i, v, h => by
    simp only [mfind] at h
    split at h
    · rename_i hq
      cases h
      exact ⟨e, Nat.le_refl _, by simp, rfl, hq⟩
    · obtain ⟨e', h1, h2, h3⟩ := mfind_some h
      refine ⟨e', by omega, ?_, h3⟩
      rw [show i - n = (i - (n + 1)) + 1 by omega]
      simpa using h2
    · cases h

theorem like_map {es es' : List (AV × AV × Nat)} {cl cl' : Nat} : (Blk.mapb es cl).like (.mapb es' cl') := ⟨fun o e => (by cases e), fun _ _ _ _ _ e => (by cases e), fun _ _ _ => ⟨es', cl', rfl⟩⟩
theorem notCells_map (a : Array MapEntry) (cl : Nat) : NotCells (.map a cl) := fun _ _ _ e => by cases e

/-- Another content of a map. -/
theorem Sim.putMap (h : Sim G base w0 C M hp w) {k : Nat} {L : Loc} {es es' : List (AV × AV × Nat)} {cl cl' : Nat} (hb : hp[k]? = some (.mapb es cl)) (hM : M[k]? = some L) {entries entries' : Array MapEntry} (hw : w.heap[L.b]? = some (.map entries cl))
    (hl : es'.length = entries'.toList.length) (he : ∀ (i : Nat) a b, es'[i]? = some a → entries'.toList[i]? = some b → Rep C M hp a.1 b.key ∧ Rep C M hp a.2.1 b.val ∧ b.born = a.2.2) :
    (setObj L.b (.map entries' cl')).run P w = .ok () (w.putObj L.b (.map entries' cl')) ∧ Le C M hp C M (hp.set k (.mapb es' cl')) ∧ Sim G base w0 C M (hp.set k (.mapb es' cl')) (w.putObj L.b (.map entries' cl')) := by
  obtain ⟨hle, hs⟩ := h.putObjLe (b' := .mapb es' cl') rfl like_map hb hM (o' := .map entries' cl') (notCells_map _ _) ⟨entries', rfl, hl, he⟩
  exact ⟨by simp [setObj, Sem.run, hw, World.putObj], hle, hs⟩

theorem modify_entries {es : List (AV × AV × Nat)} {entries : Array MapEntry} {f : AV × AV × Nat → AV × AV × Nat} {g : MapEntry → MapEntry} (i : Nat) (hl : es.length = entries.toList.length)
    (he : ∀ (j : Nat) a b, es[j]? = some a → entries.toList[j]? = some b → Rep C M hp a.1 b.key ∧ Rep C M hp a.2.1 b.val ∧ b.born = a.2.2)
    (hi : ∀ a b, es[i]? = some a → entries.toList[i]? = some b → Rep C M hp (f a).1 (g b).key ∧ Rep C M hp (f a).2.1 (g b).val ∧ (g b).born = (f a).2.2) :
    (es.modify i f).length = (entries.modify i g).toList.length ∧ ∀ (j : Nat) a b, (es.modify i f)[j]? = some a → (entries.modify i g).toList[j]? = some b → Rep C M hp a.1 b.key ∧ Rep C M hp a.2.1 b.val ∧ b.born = a.2.2 := by
  refine ⟨by simpa using hl, fun j a b ha hb => ?_⟩
  rw [Array.getElem?_toList] at hb
  rw [List.getElem?_modify] at ha
  rw [Array.getElem?_modify] at hb
  by_cases c : i = j
  · subst c
    simp only [if_true, Option.map_eq_some_iff] at ha hb
    simp only [Option.map_eq_map, Option.map_eq_some_iff] at ha hb
    obtain ⟨a0, a1, a2⟩ := ha
    obtain ⟨b0, b1, b2⟩ := hb
    subst a2; subst b2
    exact hi a0 b0 a1 (by simpa using b1)
  · simp [c] at ha hb
    exact he j a b ha (by simpa using hb)

theorem push_entries {es : List (AV × AV × Nat)} {entries : Array MapEntry} {a0 : AV × AV × Nat} {b0 : MapEntry} (hl : es.length = entries.toList.length)
    (he : ∀ (j : Nat) a b, es[j]? = some a → entries.toList[j]? = some b → Rep C M hp a.1 b.key ∧ Rep C M hp a.2.1 b.val ∧ b.born = a.2.2)
    (h0 : Rep C M hp a0.1 b0.key ∧ Rep C M hp a0.2.1 b0.val ∧ b0.born = a0.2.2) :
    (es ++ [a0]).length = (entries.push b0).toList.length ∧ ∀ (j : Nat) a b, (es ++ [a0])[j]? = some a → (entries.push b0).toList[j]? = some b → Rep C M hp a.1 b.key ∧ Rep C M hp a.2.1 b.val ∧ b.born = a.2.2 := by
  refine ⟨by simpa using hl, fun j a b ha hb => ?_⟩
  rw [Array.toList_push] at hb
  rcases push_cases ha with ⟨_, ha⟩ | ⟨e, rfl⟩ <;> rcases push_cases hb with ⟨_, hb⟩ | ⟨e', rfl⟩
  · exact he j a b ha hb
  · have := (List.getElem?_eq_some_iff.1 ha).1; omega
  · have := (List.getElem?_eq_some_iff.1 hb).1; omega
  · exact h0

theorem run_mput {mt kt et : TypeId} {d : Nat} {ks : List LeafK} {ag : Bool} (hmt : P.underlying mt = some (.map kt et)) (hdm : d ≤ 10000) (hk : leaves P d kt = some ks) (hag : tyAgg P kt = some ag)
    (h : Sim G base w0 C M hp w) {m key x : AV} {m' key' x' : Value} (hm : Rep C M hp m m') (hkey : Rep C M hp key key') (hx : Rep C M hp x x') {hp' : List Blk} (hr : amput hp ag ks m key x = some hp') :
    ∃ w', (Instr.mapUpdate mt m' key' x').run P w = .ok () w' ∧ Le C M hp C M hp' ∧ Sim G base w0 C M hp' w' := by
  unfold amput at hr
  split at hr
  · rename_i k es cl ha
    split at hr
    · rename_i hc
      obtain ⟨hf, hfs⟩ := hc
      obtain ⟨L, entries, rfl, hM, hb, hw, hes⟩ := mapAt_ok h hm ha hfs
      obtain ⟨ag', hag', _, hck⟩ := keyOk d kt ks hk
      rw [hag] at hag'
      cases hag'
      obtain ⟨f1, f2, f3, f4⟩ := formed_of hf hkey
      have hchk : ∀ em, (Instr.checkKey em 10000 kt key').run P w = .ok () w := fun em => by
        have := hck em (10000 - d) C M hp w _ key' f2 f1 f3 f4
        rwa [show 10000 - d + d = 10000 by omega] at this
      have heach := fun i a b h1 h2 => (hes.2 i a b h1 h2).1
      split at hr
      · rename_i i v hfd
        cases hr
        obtain ⟨r', hr', hF⟩ := run_findKey' hdm hk hag hkey hf w hes hfd
        cases r' with
        | none => exact hF.elim
        | some p =>
          obtain ⟨i', v'⟩ := p
          obtain ⟨rfl, y, _, hy, _, hv⟩ := hF
          rw [Nat.sub_zero] at hy
          obtain ⟨e, _, hei, rfl, heq⟩ := mfind_some hfd
          rw [Nat.sub_zero] at hei
          obtain ⟨⟨k1, k2, k3⟩, k4⟩ := hes.2 i e y hei hy
          have hst := run_keyStays (P := P) (w := w) hkey k1 hf k4 heq
          have hy' : entries[i]? = some y := by simpa using hy
          obtain ⟨q1, q2⟩ := modify_entries (f := fun e => (key, x, e.2.2)) (g := fun e => { e with key := key', val := x' }) i hes.1 heach (fun a b ha hb => ⟨hkey, hx, by
            rw [hei] at ha; rw [hy] at hb; cases ha; cases hb; exact k3⟩)
          obtain ⟨s1, s2, s3⟩ := h.putMap (P := P) (cl' := cl) hb hM hw q1 q2
          refine ⟨_, ?_, s2, s3⟩
          simp only [Instr.mapUpdate, Sem.run_bind, run_underlying hmt, Result.andThen_ok, run_getMap hw, hchk, hr', hy', Option.map_some, Option.getD_some, hst, s1]
      · rename_i hfd
        cases hr
        obtain ⟨r', hr', hF⟩ := run_findKey' hdm hk hag hkey hf w hes hfd
        cases r' with
        | some p => exact hF.elim
        | none =>
          obtain ⟨q1, q2⟩ := push_entries (a0 := (key, x, cl)) (b0 := { key := key', val := x', born := cl }) hes.1 heach ⟨hkey, hx, rfl⟩
          obtain ⟨s1, s2, s3⟩ := h.putMap (P := P) (cl' := cl + 1) hb hM hw q1 q2
          refine ⟨_, ?_, s2, s3⟩
          simp only [Instr.mapUpdate, Sem.run_bind, run_underlying hmt, Result.andThen_ok, run_getMap hw, hchk, hr', s1]
      · cases hr
    · cases hr
  · cases hr

theorem gives_ment {mt kt et : TypeId} {d : Nat} {ks : List LeafK} {ag : Bool} {z : AV} (hmt : P.underlying mt = some (.map kt et)) (hdm : d ≤ 10000) (hk : leaves P d kt = some ks) (hag : tyAgg P kt = some ag) (hz : tyZeroV P et = some z)
    (h : Sim G base w0 C M hp w) {m key r : AV} {m' key' : Value} (hm : Rep C M hp m m') (hkey : Rep C M hp key key') {hp' : List Blk} (hr : ament hp ag ks z m key = some (r, hp')) :
    Gives G base w0 C M hp P (Instr.mapEntry mt m' key') w r hp' := by
  unfold ament at hr
  split at hr
  · rename_i k es cl ha
    split at hr
    · rename_i hc
      obtain ⟨hf, hfs⟩ := hc
      obtain ⟨L, entries, rfl, hM, hb, hw, hes⟩ := mapAt_ok h hm ha hfs
      obtain ⟨ag', hag', _, hck⟩ := keyOk d kt ks hk
      rw [hag] at hag'
      cases hag'
      obtain ⟨f1, f2, f3, f4⟩ := formed_of hf hkey
      have hchk : ∀ em, (Instr.checkKey em 10000 kt key').run P w = .ok () w := fun em => by
        have := hck em (10000 - d) C M hp w _ key' f2 f1 f3 f4
        rwa [show 10000 - d + d = 10000 by omega] at this
      have heach := fun i a b h1 h2 => (hes.2 i a b h1 h2).1
      obtain ⟨zv, hzv, hzr⟩ := tyZeroV_run hz
      split at hr
      · rename_i i v hfd
        cases hr
        obtain ⟨r', hr', hF⟩ := run_findKey' hdm hk hag hkey hf w hes hfd
        cases r' with
        | none => exact hF.elim
        | some p =>
          obtain ⟨i', v'⟩ := p
          obtain ⟨rfl, y, _, hy, rfl, hv⟩ := hF
          rw [Nat.sub_zero] at hy
          obtain ⟨e, _, hei, rfl, heq⟩ := mfind_some hfd
          rw [Nat.sub_zero] at hei
          obtain ⟨⟨k1, k2, k3⟩, k4⟩ := hes.2 i e y hei hy
          have hst := run_keyStays (P := P) (w := w) hkey k1 hf k4 heq
          have hy' : entries[i]? = some y := by simpa using hy
          obtain ⟨q1, q2⟩ := modify_entries (f := fun e => (key, e.2.1, e.2.2)) (g := fun e => { e with key := key' }) i hes.1 heach (fun a b ha hb => by
            rw [hei] at ha; rw [hy] at hb; cases ha; cases hb; exact ⟨hkey, k2, k3⟩)
          obtain ⟨s1, s2, s3⟩ := h.putMap (P := P) (cl' := cl) hb hM hw q1 q2
          refine ⟨C, M, .tuple #[y.val, goInt y.born], _, ?_, s2, s3, ?_⟩
          · simp only [Instr.mapEntry, Sem.run_bind, run_underlying hmt, Result.andThen_ok, run_getMap hw, hchk, hr', hy', Option.map_some, Option.getD_some, hst, s1, Sem.run_pure]
          · rw [hei, Option.map_some, Option.getD_some, ← k3]
            exact rep_two (hv.mono s2) (.v rfl)
      · rename_i hfd
        cases hr
        obtain ⟨r', hr', hF⟩ := run_findKey' hdm hk hag hkey hf w hes hfd
        cases r' with
        | some p => exact hF.elim
        | none =>
          obtain ⟨q1, q2⟩ := push_entries (a0 := (key, z, cl)) (b0 := { key := key', val := zv, born := cl }) hes.1 heach ⟨hkey, hzr _ _ _, rfl⟩
          obtain ⟨s1, s2, s3⟩ := h.putMap (P := P) (cl' := cl + 1) hb hM hw q1 q2
          refine ⟨C, M, .tuple #[zv, goInt cl], _, ?_, s2, s3, rep_two (hzr _ _ _) (.v rfl)⟩
          simp only [Instr.mapEntry, Sem.run_bind, run_underlying hmt, Result.andThen_ok, run_getMap hw, hchk, hr', hzv, s1, Sem.run_pure]
      · cases hr
    · cases hr
  · cases hr

theorem mapAt_ok0 (h : Sim G base w0 C M hp w) {m : AV} {m' : Value} (hm : Rep C M hp m m') {k : Nat} {es : List (AV × AV × Nat)} {cl : Nat} (ha : mapAt hp m = some (k, es, cl)) :
    ∃ L entries, m' = .map (some L.b) ∧ M[k]? = some L ∧ hp[k]? = some (.mapb es cl) ∧ w.heap[L.b]? = some (.map entries cl) ∧ es.length = entries.toList.length ∧
      ∀ (i : Nat) a b, es[i]? = some a → entries.toList[i]? = some b → Rep C M hp a.1 b.key ∧ Rep C M hp a.2.1 b.val ∧ b.born = a.2.2 := by
  unfold mapAt at ha
  split at ha
  · split at ha
    · rename_i hb
      cases ha
      cases hm with
      | mapv hb' hM =>
        rename_i L es' cl'
        obtain ⟨t1, o, t2, t3, t4⟩ := h.objs k _ L rfl hb hM
        obtain ⟨entries, rfl, e1, e2⟩ := t4
        exact ⟨L, entries, rfl, hM, hb, t2, e1, e2⟩
    · cases ha
  · cases ha

theorem findIdx_same (n : Int) : ∀ {es : List (AV × AV × Nat)} {l : List MapEntry}, es.length = l.length → (∀ (i : Nat) a b, es[i]? = some a → l[i]? = some b → b.born = a.2.2) →
    l.findIdx? (fun e => (e.born : Int) == n) = es.findIdx? (fun e => (e.2.2 : Int) == n)
  | [], [], _, _ => rfl
  | [], _ :: _, h, _ => by simp at h
  | _ :: _, [], h, _ => by simp at h
  | e :: es, b :: l, h, hb => by
    rw [List.findIdx?_cons, List.findIdx?_cons, hb 0 e b rfl rfl, findIdx_same n (es := es) (l := l) (by simpa using h) fun i x y hx hy => hb (i + 1) x y (by simpa using hx) (by simpa using hy)]

theorem run_est {mt : TypeId} (h : Sim G base w0 C M hp w) {m st x : AV} {m' st' x' : Value} (hm : Rep C M hp m m') (hst : Rep C M hp st st') (hx : Rep C M hp x x') {hp' : List Blk} (hr : aest hp m st x = some hp') :
    ∃ w', (Instr.entryStore mt m' st' x').run P w = .ok () w' ∧ Le C M hp C M hp' ∧ Sim G base w0 C M hp' w' := by
  unfold aest at hr
  split at hr
  · rename_i k es cl kk n ha
    split at hr
    · rename_i i hfi
      cases hr
      cases hst
      obtain ⟨L, entries, rfl, hM, hb, hw, hl, heach⟩ := mapAt_ok0 h hm ha
      obtain ⟨q1, q2⟩ := modify_entries (f := fun e => (e.1, x, e.2.2)) (g := fun e => { e with val := x' }) i hl heach (fun a b ha hb => ⟨(heach i a b ha hb).1, hx, (heach i a b ha hb).2.2⟩)
      obtain ⟨s1, s2, s3⟩ := h.putMap (P := P) (cl' := cl) hb hM hw q1 q2
      have hfi' : entries.findIdx? (fun e => (e.born : Int) == n) = some i := by
        rw [← hfi, ← findIdx_same n hl fun i a b ha hb => (heach i a b ha hb).2.2]
        cases entries
        simp
      refine ⟨_, ?_, s2, s3⟩
      simp only [Instr.entryStore, Sem.run_bind, Result.andThen_ok, run_getMap hw, asInt, asIntOf, Sem.run_pure]
      simp only [hfi', s1]
    · cases hr
  · cases hr

theorem gives_mkm {mt : TypeId} (h : Sim G base w0 C M hp w) : Gives G base w0 C M hp P (Instr.makeMap mt none) w (.mapv hp.length) (hp ++ [.mapb [] 0]) := by
  obtain ⟨hle, hs⟩ := h.newObj (b := .mapb [] 0) rfl (o := .map #[] 0) (notCells_map _ _) ⟨#[], rfl, rfl, fun i a b ha hb => by simp at ha⟩
  exact ⟨C, _, _, _, run_makeMap mt w, hle, hs, .mapv (L := { b := w.heap.size }) (es := []) (cl := 0) (by simp) (by rw [← h.mlen]; simp)⟩

end
end Go.Abs
