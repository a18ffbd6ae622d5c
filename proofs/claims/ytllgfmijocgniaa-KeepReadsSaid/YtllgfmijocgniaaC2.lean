/- Lemmas for running slim code by simp. No condition. -/
import Derived.Test.YtllgfmijocgniaaC1
set_option linter.unusedVariables false
namespace Go.Abs
open Go.RowKit

section
variable {P : Program} {K : St → Prop} {ts : List AV} {hp : List Blk} {r : List SOper}

theorem ev_t (ts : List AV) (n : Nat) : ev ts (.t n) = (ts[n]?).getD undefA := rfl
theorem ev_c (ts : List AV) (a : AV) : ev ts (.c a) = a := rfl

theorem get_set_ne (ts : List AV) {k n : Nat} (v : AV) (h : k ≠ n) : (ts.set k v)[n]? = ts[n]? := List.getElem?_set_ne h
theorem get_set_eq (ts : List AV) {k : Nat} (v : AV) (h : k < ts.length) : (ts.set k v)[k]? = some v := List.getElem?_set_self h

theorem sops_nil : SOps P [] K ⟨ts, hp⟩ ↔ K ⟨ts, hp⟩ := Iff.rfl

theorem sops_op {d : Nat} {o : SOp} {v : AV} {hp' : List Blk} (h : astep ts hp o = some (v, hp')) : SOps P (⟨some d, none, .op o⟩ :: r) K ⟨ts, hp⟩ ↔ SOps P r K ⟨ts.set d v, hp'⟩ := by
  simp only [SOps, SStep, awant, if_true, h, aput]

/-- One operation that is not guarded: what it gives. -/
theorem run_op {d : Option Nat} {o : SOp} (v : AV) (hp' : List Blk) (h : astep ts hp o = some (v, hp')) (k : SOps P r K ⟨aput ts d v, hp'⟩) : SOps P (⟨d, none, .op o⟩ :: r) K ⟨ts, hp⟩ := by
  simp only [SOps, SStep, awant, if_true, h]
  exact k

/-- Calls. -/
theorem run_call {d : Option Nat} {f : FuncId} {args : List Opd} (h : CallOk P f (args.map (ev ts)) hp fun v hp' => SOps P r K ⟨aput ts d v, hp'⟩) : SOps P (⟨d, none, .call f args⟩ :: r) K ⟨ts, hp⟩ := by
  simp only [SOps, SStep, awant, if_true]
  exact h

/-- A row of operations without calls, run. -/
def runOps : List SOper → St → Option St
  | [], s => some s
  | o :: r, s => if awant o.guard s.ts = true then
      match o.ins with
      | .op i => match astep s.ts s.hp i with
        | some (v, hp') => runOps r ⟨aput s.ts o.dst v, hp'⟩
        | none => none
      | _ => none
    else runOps r ⟨aput s.ts o.dst undefA, s.hp⟩

theorem sops_run {l : List SOper} : ∀ {s s' : St}, runOps l s = some s' → K s' → SOps P l K s := by
  induction l with
  | nil => intro s s' h k; cases h; exact k
  | cons o r ih =>
    intro s s' h k
    simp only [runOps] at h
    simp only [SOps]
    unfold SStep
    split at h
    · rename_i hw
      rw [if_pos hw]
      cases hi : o.ins with
      | op i =>
        rw [hi] at h
        simp only at h ⊢
        cases h1 : astep s.ts s.hp i with
        | none => rw [h1] at h; cases h
        | some v =>
          obtain ⟨v, hp'⟩ := v
          rw [h1] at h
          exact ih h k
      | _ => rw [hi] at h; cases h
    · rename_i hw
      rw [if_neg hw]
      exact ih h k

theorem tri_region_run (hm : P.follows .mixedOrders = true) {l : List SOper} {Q : Exit → St → Prop} {s s' : St} (h : runOps l s = some s') (k : Q .normal s') : Tri P (.region l) Q s :=
  Tri.region hm (sops_run h k)

/-- What a step gives, handed on. -/
def withV (x : Option (AV × List Blk)) (F : AV → List Blk → Prop) : Prop := ∃ v hp', x = some (v, hp') ∧ F v hp'

theorem withV_some {v : AV} {hp' : List Blk} {F : AV → List Blk → Prop} : withV (some (v, hp')) F = F v hp' := by
  apply propext
  constructor
  · rintro ⟨v', hp2, h, k⟩; cases h; exact k
  · intro k; exact ⟨v, hp', rfl, k⟩

def SRun (P : Program) : List SOper → (St → Prop) → List AV → List Blk → Prop
  | [], K, ts, hp => K ⟨ts, hp⟩
  | ⟨d, g, i⟩ :: r, K, ts, hp =>
    if awant g ts = true then
      match i with
      | .op o => withV (astep ts hp o) fun v hp' => SRun P r K (aput ts d v) hp'
      | .call f args => CallOk P f (args.map (ev ts)) hp fun v hp' => SRun P r K (aput ts d v) hp'
      | .callv x args => CallV P (ev ts x) (args.map (ev ts)) hp fun v hp' => SRun P r K (aput ts d v) hp'
      | .pcall f args => ∃ bs r', ImpCs (args.map (ev ts)) bs ∧ PureSpec P f bs r' ∧ SRun P r K (aput ts d r') hp
    else SRun P r K (aput ts d undefA) hp

theorem srun_ok : ∀ {l : List SOper} {ts : List AV} {hp : List Blk}, SRun P l K ts hp → SOps P l K ⟨ts, hp⟩
  | [], ts, hp, h => h
  | ⟨d, g, i⟩ :: r, ts, hp, h => by
    unfold SRun at h
    simp only [SOps]
    unfold SStep
    split at h
    · rename_i hw
      rw [if_pos hw]
      cases i with
      | op o =>
        obtain ⟨v, hp', h1, h2⟩ := h
        simp only
        rw [h1]
        exact srun_ok h2
      | call f args => exact CallOk.mono h fun v hp' k => srun_ok k
      | callv x args => exact CallV.mono h fun v hp' k => srun_ok k
      | pcall f args =>
        obtain ⟨bs, r', h1, h2, h3⟩ := h
        exact ⟨bs, r', h1, h2, srun_ok h3⟩
    · rename_i hw
      rw [if_neg hw]
      exact srun_ok h

theorem tri_region {dn : Option Nat} (hm : P.follows .mixedOrders = true) {l : List SOper} {Q : Exit → St → Prop} (h : SRun P l (fun s' => Q .normal s') ts hp) : TriD P dn (.region l) Q ⟨ts, hp⟩ := Tri.region hm (srun_ok h)

/-! Numbers of one kind. -/
section
variable (k : IntKind) (a b : Int)
theorem abin_add : abin .add (.v (.int k a)) (.v (.int k b)) = some (.v (.int k (k.wrap (a + b)))) := by simp [abin, ibin]
theorem abin_sub : abin .sub (.v (.int k a)) (.v (.int k b)) = some (.v (.int k (k.wrap (a - b)))) := by simp [abin, ibin]
theorem abin_mul : abin .mul (.v (.int k a)) (.v (.int k b)) = some (.v (.int k (k.wrap (a * b)))) := by simp [abin, ibin]
theorem abin_eql : abin .eql (.v (.int k a)) (.v (.int k b)) = some (.v (.bool (a == b))) := by simp [abin, ibin]
theorem abin_neq : abin .neq (.v (.int k a)) (.v (.int k b)) = some (.v (.bool (a != b))) := by simp [abin, ibin]
theorem abin_lss : abin .lss (.v (.int k a)) (.v (.int k b)) = some (.v (.bool (decide (a < b)))) := by simp [abin, ibin]
theorem abin_leq : abin .leq (.v (.int k a)) (.v (.int k b)) = some (.v (.bool (decide (a ≤ b)))) := by simp [abin, ibin]
theorem abin_gtr : abin .gtr (.v (.int k a)) (.v (.int k b)) = some (.v (.bool (decide (b < a)))) := by simp [abin, ibin]
theorem abin_geq : abin .geq (.v (.int k a)) (.v (.int k b)) = some (.v (.bool (decide (b ≤ a)))) := by simp [abin, ibin]
theorem abin_quo (h : b ≠ 0) : abin .quo (.v (.int k a)) (.v (.int k b)) = some (.v (.int k (k.wrap (a.tdiv b)))) := by simp [abin, ibin, h]
theorem abin_rem (h : b ≠ 0) : abin .rem (.v (.int k a)) (.v (.int k b)) = some (.v (.int k (a.tmod b))) := by simp [abin, ibin, h]
theorem abin_shl (k' : IntKind) (h : ¬ b < 0) : abin .shl (.v (.int k a)) (.v (.int k' b)) = some (.v (.int k (k.wrap (a * 2 ^ (min b.toNat k.bits))))) := by simp [abin, ibin, h]
theorem abin_shr (k' : IntKind) (h : ¬ b < 0) : abin .shr (.v (.int k a)) (.v (.int k' b)) = some (.v (.int k (a.fdiv (2 ^ (min b.toNat k.bits))))) := by simp [abin, ibin, h]
theorem abin_and : abin .and (.v (.int k a)) (.v (.int k b)) = some (.v (bitsOp k a b (· &&& ·))) := by simp [abin, ibin]
theorem abin_or : abin .or (.v (.int k a)) (.v (.int k b)) = some (.v (bitsOp k a b (· ||| ·))) := by simp [abin, ibin]
theorem abin_xor : abin .xor (.v (.int k a)) (.v (.int k b)) = some (.v (bitsOp k a b (· ^^^ ·))) := by simp [abin, ibin]
theorem abin_andNot : abin .andNot (.v (.int k a)) (.v (.int k b)) = some (.v (bitsOp k a b (fun x y => x &&& ~~~y))) := by simp [abin, ibin]
end

theorem absl_one (x : Value) : absl 1 [.v x] = some (.sl [.v x] .exact) := by simp [absl, okElems, AV.cells, AV.one]

theorem alen_sl (xs : List AV) (t : Tail) : alen (.sl xs t) = some (.v (goInt xs.length)) := rfl
theorem alen_nsl : alen .nsl = some (.v (goInt 0)) := rfl
theorem aia_sl {n : Nat} {xs : List AV} {t : Tail} {i : Nat} {k : IntKind} {x : AV} (h : xs[i]? = some x) (hn : x.cells.length = n) : aia n (.sl xs t) (.v (.int k (i : Int))) = some (.fp x.cells 0) := by simp [aia, h, hn]

theorem aload_fp {ag : Bool} {n off : Nat} {cs : List AV} {c : AV} (hp : List Blk) (h : pick1 ag n cs off = some c) : aload hp ag n (.fp cs off) = some c := h
theorem aload_mp {ag fz : Bool} {n off k : Nat} {cs : List AV} {c : AV} {hp : List Blk} (hk : hp[k]? = some (.cells cs fz)) (h : pick1 ag n cs off = some c) : aload hp ag n (.mp k off) = some c := by simp only [aload, hk, h]

theorem absl_2 (a b : Value) : absl 1 [.v a, .v b] = some (.sl [.v a, .v b] .exact) := by simp [absl, okElems, AV.cells, AV.one]
theorem absl_3 (a b c : Value) : absl 1 [.v a, .v b, .v c] = some (.sl [.v a, .v b, .v c] .exact) := by simp [absl, okElems, AV.cells, AV.one]
theorem absl_4 (a b c d : Value) : absl 1 [.v a, .v b, .v c, .v d] = some (.sl [.v a, .v b, .v c, .v d] .exact) := by simp [absl, okElems, AV.cells, AV.one]
theorem absl_8 (a b c d e f g h : Value) : absl 1 [.v a, .v b, .v c, .v d, .v e, .v f, .v g, .v h] = some (.sl [.v a, .v b, .v c, .v d, .v e, .v f, .v g, .v h] .exact) := by simp [absl, okElems, AV.cells, AV.one]
theorem afa_fp (off o : Nat) (cs : List AV) : afa off (.fp cs o) = some (.fp cs (o + off)) := rfl
theorem afa_mp (off o k : Nat) : afa off (.mp k o) = some (.mp k (o + off)) := rfl

/-- A slice to read. -/
def Slc (v : AV) (xs : List AV) : Prop := v = .sl xs .no ∨ (v = .nsl ∧ xs = [])

theorem Slc.len {v : AV} {xs : List AV} (h : Slc v xs) : alen v = some (.v (goInt xs.length)) := by
  rcases h with rfl | ⟨rfl, rfl⟩ <;> rfl
theorem Slc.ia {v : AV} {xs : List AV} (h : Slc v xs) {n i : Nat} {k : IntKind} {x : AV} (hx : xs[i]? = some x) (hn : x.cells.length = n) : aia n v (.v (.int k (i : Int))) = some (.fp x.cells 0) := by
  rcases h with rfl | ⟨rfl, rfl⟩
  · exact aia_sl hx hn
  · simp at hx
theorem Slc.ns {v : AV} {xs : List AV} (h : Slc v xs) : ∀ s, v ≠ .v (.string s) := by
  rcases h with rfl | ⟨rfl, rfl⟩ <;> (intro s e; cases e)
/-- The length as a step. -/
def lenStep (v : AV) (hp : List Blk) : Option (AV × List Blk) := match v with
  | .v (.string _) => none
  | x' => (alen x').map fun r => (r, hp)
theorem astep_len (ts : List AV) (hp : List Blk) (x : Opd) : astep ts hp (.len x) = lenStep (ev ts x) hp := rfl
theorem Slc.lenStep {v : AV} {xs : List AV} (h : Slc v xs) (hp : List Blk) : lenStep v hp = some (.v (goInt xs.length), hp) := by
  rcases h with rfl | ⟨rfl, rfl⟩ <;> rfl
theorem lenStep_sl (xs : List AV) (t : Tail) (hp : List Blk) : lenStep (.sl xs t) hp = some (.v (goInt xs.length), hp) := rfl

section
variable (ts : List AV) (hp : List Blk)
theorem astep_pick (c a b : Opd) (h : Bool) (hc : ev ts c = .v (.bool h)) : astep ts hp (.pick c a b) = some (if h then ev ts a else ev ts b, hp) := by simp only [astep, hc]
theorem astep_mv (x : Opd) : astep ts hp (.mv x) = some (ev ts x, hp) := rfl
theorem astep_alloc (z : List AV) : astep ts hp (.alloc z) = some (.mp hp.length 0, hp ++ [.cells z false]) := rfl
theorem astep_box (x : Opd) : astep ts hp (.box x) = some (.mp hp.length 0, hp ++ [.cells (ev ts x).cells false]) := rfl
theorem astep_build (z : List AV) (ps : List (Nat × Nat × Opd)) : astep ts hp (.build z ps) = (afill z (ps.map fun p => (p.1, p.2.1, ev ts p.2.2))).map fun r => (.agg r, hp) := rfl
theorem astep_bsl (n : Nat) (vs : List Opd) : astep ts hp (.bsl n vs) = (absl n (vs.map (ev ts))).map fun r => (r, hp) := rfl
theorem astep_ld (ag : Bool) (n : Nat) (x : Opd) : astep ts hp (.ld ag n x) = (aload hp ag n (ev ts x)).map fun r => (r, hp) := rfl
theorem astep_st (n : Nat) (p x : Opd) : astep ts hp (.st n p x) = (astore hp n (ev ts p) (ev ts x)).map fun hp' => (undefA, hp') := rfl
theorem astep_nilc (x : Opd) : astep ts hp (.nilc x) = (anil (ev ts x)).map fun r => (r, hp) := rfl
theorem astep_bin (op : BinOp) (x y : Opd) : astep ts hp (.bin op x y) = (abin op (ev ts x) (ev ts y)).map fun r => (r, hp) := rfl
theorem astep_un (op : UnOp) (x : Opd) : astep ts hp (.un op x) = (aun op (ev ts x)).map fun r => (r, hp) := rfl
theorem astep_cv (k : IntKind) (x : Opd) : astep ts hp (.cv k x) = (acv k (ev ts x)).map fun r => (r, hp) := rfl
theorem astep_fa (off : Nat) (x : Opd) : astep ts hp (.fa off x) = (afa off (ev ts x)).map fun r => (r, hp) := rfl
theorem astep_ia (n : Nat) (x i : Opd) : astep ts hp (.ia n x i) = (aia n (ev ts x) (ev ts i)).map fun r => (r, hp) := rfl
theorem astep_aa (len n : Nat) (x i : Opd) : astep ts hp (.aa len n x i) = (aaa len n (ev ts x) (ev ts i)).map fun r => (r, hp) := rfl
theorem astep_fld (ag : Bool) (n off : Nat) (x : Opd) : astep ts hp (.fld ag n off x) = (afld ag n off (ev ts x)).map fun r => (r, hp) := rfl
theorem astep_idx (ag : Bool) (n len : Nat) (x i : Opd) : astep ts hp (.idx ag n len x i) = (aidx ag n len (ev ts x) (ev ts i)).map fun r => (r, hp) := rfl
theorem astep_chr (x i : Opd) : astep ts hp (.chr x i) = (achr (ev ts x) (ev ts i)).map fun r => (r, hp) := rfl
theorem astep_ext (i : Nat) (x : Opd) : astep ts hp (.ext i x) = (aext i (ev ts x)).map fun r => (r, hp) := rfl
theorem astep_app (n byt : Nat) (s x : Opd) : astep ts hp (.app n byt s x) = aapp hp n byt (ev ts s) (ev ts x) := rfl
theorem astep_eqb (neg : Bool) (x y : Opd) : astep ts hp (.eqb neg x y) = (aeqb neg (ev ts x) (ev ts y)).map fun r => (r, hp) := rfl
theorem astep_mkf (f : Fn) (a b : List Opd) : astep ts hp (.mkf f a b) = some (.fn f (a.map (ev ts)) (b.map (ev ts)), hp) := rfl
theorem anil_mp (k o : Nat) : anil (.mp k o) = some (.mp k o) := rfl
theorem anil_fp (cs : List AV) (o : Nat) : anil (.fp cs o) = some (.fp cs o) := rfl
end

theorem acv_int (k k' : IntKind) (n : Int) : acv k (.v (.int k' n)) = some (.v (.int k (k.wrap n))) := rfl

theorem wrap_u64 (n : Int) : IntKind.u64.wrap n = n % 18446744073709551616 := by simp [IntKind.wrap, IntKind.bits, IntKind.signed]
theorem wrap_u8 (n : Int) : IntKind.u8.wrap n = n % 256 := by simp [IntKind.wrap, IntKind.bits, IntKind.signed]
theorem wrap_u16 (n : Int) : IntKind.u16.wrap n = n % 65536 := by simp [IntKind.wrap, IntKind.bits, IntKind.signed]
theorem wrap_i64 {n : Int} (h0 : -9223372036854775808 ≤ n) (h1 : n ≤ 9223372036854775807) : IntKind.i64.wrap n = n := by
  simp [IntKind.wrap, IntKind.bits, IntKind.signed]
  split <;> omega
theorem wrap_i32 {n : Int} (h0 : -2147483648 ≤ n) (h1 : n ≤ 2147483647) : IntKind.i32.wrap n = n := by
  simp [IntKind.wrap, IntKind.bits, IntKind.signed]
  split <;> omega

/-! Slices that are appended to. -/

/-- A value that holds these elements and may be appended to. -/
def Appd (hp : List Blk) (v : AV) (xs : List AV) (n : Nat) : Prop := (v = .nsl ∧ xs = []) ∨ ∃ id, v = .sl xs (.tok id) ∧ hp[id]? = some (.tok xs.length n)

/-- What an append leaves of the heap: all mutable blocks; and tokens but one. -/
structure AppRel (hp hp' : List Blk) (v : AV) : Prop where
  len : hp.length ≤ hp'.length
  cells : ∀ (k : Nat) cs fz, hp[k]? = some (.cells cs fz) → hp'[k]? = some (.cells cs fz)
  toks : ∀ (k : Nat) n s, hp[k]? = some (.tok n s) → (∀ xs, v ≠ .sl xs (.tok k)) → hp'[k]? = some (.tok n s)
  objs : ∀ (k : Nat) b, b.isObj = true → hp[k]? = some b → hp'[k]? = some b

theorem Appd.nil (hp : List Blk) (n : Nat) : Appd hp .nsl [] n := Or.inl ⟨rfl, rfl⟩

theorem Appd.run {v : AV} {xs ys : List AV} {n byt : Nat} {t : Tail} {F : AV → List Blk → Prop} (hA : Appd hp v xs n) (hx : okElems n xs = true) (hy : okElems n ys = true) (hne : ys ≠ []) (hn : 0 < n) (hb : 0 < byt)
    (hfit : (xs.length + ys.length) * byt ≤ 140737488355328) (k : ∀ v' hp', Appd hp' v' (xs ++ ys) n → AppRel hp hp' v → (∃ id, v' = .sl (xs ++ ys) (.tok id)) → F v' hp') : withV (aapp hp n byt v (.sl ys t)) F := by
  rcases hA with ⟨rfl, rfl⟩ | ⟨id, rfl, hid⟩
  · refine ⟨.sl ys (.tok hp.length), hp ++ [.tok ys.length n], ?_, ?_⟩
    · simp only [List.length_nil, Nat.zero_add] at hfit
      simp [aapp, contents, hne, hy, hn, hb, hfit]
    · refine k _ _ (Or.inr ⟨hp.length, rfl, by simp⟩) ⟨by simp, fun j cs fz h => ?_, fun j n s h _ => ?_, fun j b _ h => by rw [List.getElem?_append_left (List.getElem?_eq_some_iff.1 h).1]; exact h⟩ ⟨_, rfl⟩
      · rw [List.getElem?_append_left (List.getElem?_eq_some_iff.1 h).1]; exact h
      · rw [List.getElem?_append_left (List.getElem?_eq_some_iff.1 h).1]; exact h
  · have hl : id < hp.length := (List.getElem?_eq_some_iff.1 hid).1
    refine ⟨.sl (xs ++ ys) (.tok id), hp.set id (.tok (xs.length + ys.length) n), ?_, ?_⟩
    · simp [aapp, contents, hne, hy, hn, hb, hfit, hx, hid]
    · refine k _ _ (Or.inr ⟨id, rfl, by rw [List.getElem?_set_self hl, List.length_append]⟩) ⟨by simp, fun j cs fz h => ?_, fun j n' s h hne' => ?_, fun j b hb h => by rw [List.getElem?_set_ne (by intro e; subst e; rw [hid] at h; cases h; cases hb)]; exact h⟩ ⟨_, rfl⟩
      · rw [List.getElem?_set_ne]
        · exact h
        · intro e; subst e; rw [hid] at h; cases h
      · rw [List.getElem?_set_ne]
        · exact h
        · intro e; subst e; exact hne' xs rfl


theorem Appd.at {xs ys : List AV} {id n : Nat} (h : Appd hp (.sl xs (.tok id)) ys n) : hp[id]? = some (.tok ys.length n) := by
  rcases h with ⟨h, _⟩ | ⟨id', h, h2⟩
  · cases h
  · cases h; exact h2

theorem get_ext {hp l : List Blk} {k : Nat} {b : Blk} (h : hp[k]? = some b) : (hp ++ l)[k]? = some b := by
  rw [List.getElem?_append_left (List.getElem?_eq_some_iff.1 h).1]; exact h

theorem Appd.ext {v : AV} {xs : List AV} {n : Nat} {l : List Blk} (h : Appd hp v xs n) : Appd (hp ++ l) v xs n :=
  h.imp id fun ⟨id, e, h⟩ => ⟨id, e, get_ext h⟩

theorem Appd.new {xs : List AV} {n : Nat} : Appd (hp ++ [.tok xs.length n]) (.sl xs (.tok hp.length)) xs n := Or.inr ⟨_, rfl, by simp⟩

theorem resV_s {k : Nat} {x : AV} (h : ts[k]? = some x) : resV ⟨ts, hp⟩ [.s k] = some x := by simp [resV, resAs, resA, h]

/-! Rules with a middle. -/
variable {Q : Exit → St → Prop} {s : St}

theorem Tri.mid {x y : SCode} (mid : List AV → List Blk → Prop) (h1 : Tri P x (fun e s' => e = .normal ∧ mid s'.ts s'.hp) s) (h2 : ∀ ts hp, mid ts hp → Tri P y Q ⟨ts, hp⟩) : Tri P (.seq x y) Q s :=
  Tri.seq (Tri.mono h1 fun e s' ⟨he, hm⟩ => by subst he; exact h2 s'.ts s'.hp hm)

/-- A loop that is left when it has run n times. -/
theorem Tri.count {x : SCode} (I : Nat → List AV → List Blk → Prop) (n : Nat) (h0 : I 0 s.ts s.hp) (round : ∀ i ts hp, i < n → I i ts hp → Tri P x (thenE (fun s' => I (i + 1) s'.ts s'.hp) Q) ⟨ts, hp⟩) (last : ∀ ts hp, I n ts hp → Tri P x (thenE (fun _ => False) Q) ⟨ts, hp⟩) : Tri P (.loop x) Q s :=
  Tri.loopI (fun k s => ∃ i, k = n - i ∧ i ≤ n ∧ I i s.ts s.hp) ⟨0, rfl, Nat.zero_le _, h0⟩ fun k s ⟨i, hk, hi, hI⟩ => by
    rcases Nat.lt_or_ge i n with hl | hl
    · exact Tri.mono (round i s.ts s.hp hl hI) fun e s' h => by
        cases e with
        | normal => exact ⟨n - (i + 1), by omega, i + 1, rfl, hl, h⟩
        | _ => exact h
    · have e : i = n := by omega
      subst e
      exact Tri.mono (last s.ts s.hp hI) fun e s' h => by
        cases e with
        | normal => exact h.elim
        | _ => exact h

/-- A loop with a measure. -/
theorem Tri.while {x : SCode} (I : Nat → List AV → List Blk → Prop) {n : Nat} (h0 : I n s.ts s.hp) (round : ∀ n ts hp, I n ts hp → Tri P x (thenE (fun s' => ∃ m, m < n ∧ I m s'.ts s'.hp) Q) ⟨ts, hp⟩) : Tri P (.loop x) Q s :=
  Tri.loopI (fun k s => I k s.ts s.hp) h0 fun n s h => round n s.ts s.hp h

end

@[congr] theorem withV_congr {x y : Option (AV × List Blk)} {F : AV → List Blk → Prop} (h : x = y) : withV x F = withV y F := by rw [h]
@[congr] theorem CallOk_congr {P : Program} {f : FuncId} {args args' : List AV} {hp hp' : List Blk} {K : AV → List Blk → Prop} (h : args = args') (h' : hp = hp') : CallOk P f args hp K = CallOk P f args' hp' K := by rw [h, h']

section
variable {P : Program} {K : St → Prop} {ts : List AV} {hp : List Blk} {r : List SOper} {d : Option Nat}
theorem srun_nil : SRun P [] K ts hp = K ⟨ts, hp⟩ := rfl
theorem srun_op (o : SOp) : SRun P (⟨d, none, .op o⟩ :: r) K ts hp = withV (astep ts hp o) fun v hp' => SRun P r K (aput ts d v) hp' := by simp only [SRun, awant, if_true]
theorem srun_mv (x : Opd) : SRun P (⟨d, none, .op (.mv x)⟩ :: r) K ts hp = SRun P r K (aput ts d (ev ts x)) hp := by simp only [SRun, awant, if_true, astep, withV_some]
theorem srun_call (f : FuncId) (args : List Opd) : SRun P (⟨d, none, .call f args⟩ :: r) K ts hp = CallOk P f (args.map (ev ts)) hp fun v hp' => SRun P r K (aput ts d v) hp' := by simp only [SRun, awant, if_true]
/-- A call of a function value. -/
def callF (P : Program) (f : AV) (args : List AV) (hp : List Blk) (F : AV → List Blk → Prop) : Prop := CallV P f args hp F
theorem srun_callv (x : Opd) (args : List Opd) : SRun P (⟨d, none, .callv x args⟩ :: r) K ts hp = callF P (ev ts x) (args.map (ev ts)) hp fun v hp' => SRun P r K (aput ts d v) hp' := by
  simp only [SRun, awant, if_true, callF]
theorem callF_fn {f : FuncId} {args : List AV} {F : AV → List Blk → Prop} : callF P (.fn (.func f) [] []) args hp F = CallOk P f args hp F := by simp [callF, CallV]
def pcallF (P : Program) (f : FuncId) (args : List AV) (F : AV → Prop) : Prop := ∃ bs r', ImpCs args bs ∧ PureSpec P f bs r' ∧ F r'
theorem srun_pcall (f : FuncId) (args : List Opd) : SRun P (⟨d, none, .pcall f args⟩ :: r) K ts hp = pcallF P f (args.map (ev ts)) fun v => SRun P r K (aput ts d v) hp := by simp only [SRun, awant, if_true, pcallF]
theorem srun_yes {g : Nat × Bool} {i : SInstr} (h : awant (some g) ts = true) : SRun P (⟨d, some g, i⟩ :: r) K ts hp = SRun P (⟨d, none, i⟩ :: r) K ts hp := by
  have h' : awant none ts = true := rfl
  simp only [SRun, h, h', if_true]
theorem srun_no {g : Nat × Bool} {i : SInstr} (h : awant (some g) ts = false) : SRun P (⟨d, some g, i⟩ :: r) K ts hp = SRun P r K (aput ts d undefA) hp := by simp only [SRun, h, Bool.false_eq_true, if_false]
end

theorem thenE_normal {next : St → Prop} {Q : Exit → St → Prop} {s : St} : thenE next Q .normal s = next s := rfl
theorem thenE_exit {next : St → Prop} {Q : Exit → St → Prop} {s : St} {id : Nat} : thenE next Q (.exit id) s = Q (.exit id) s := rfl
theorem thenE_ret {next : St → Prop} {Q : Exit → St → Prop} {s : St} : thenE next Q .ret s = Q .ret s := rfl
theorem inBlk_normal {Q : Exit → St → Prop} {s : St} {id : Nat} : inBlk id Q .normal s = Q .normal s := rfl
theorem inBlk_same {Q : Exit → St → Prop} {s : St} {id : Nat} : inBlk id Q (.exit id) s = Q .normal s := by simp [inBlk]
theorem inBlk_ne {Q : Exit → St → Prop} {s : St} {id id' : Nat} (h : id' ≠ id) : inBlk id Q (.exit id') s = Q (.exit id') s := by simp [inBlk, h]
theorem inBlk_ret {Q : Exit → St → Prop} {s : St} {id : Nat} : inBlk id Q .ret s = Q .ret s := rfl

@[congr] theorem callF_congr {P : Program} {f f' : AV} {args args' : List AV} {hp hp' : List Blk} {K : AV → List Blk → Prop} (h0 : f = f') (h : args = args') (h' : hp = hp') : callF P f args hp K = callF P f' args' hp' K := by rw [h0, h, h']
@[congr] theorem pcallF_congr {P : Program} {f : FuncId} {args args' : List AV} {K : AV → Prop} (h : args = args') : pcallF P f args K = pcallF P f args' K := by rw [h]
@[congr] theorem SRun_congr {P : Program} {l : List SOper} {K : St → Prop} {ts ts' : List AV} {hp hp' : List Blk} (h : ts = ts') (h' : hp = hp') : SRun P l K ts hp = SRun P l K ts' hp' := by rw [h, h']


end Go.Abs
