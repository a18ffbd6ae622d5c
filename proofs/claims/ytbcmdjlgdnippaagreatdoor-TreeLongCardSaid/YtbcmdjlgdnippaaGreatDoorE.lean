/- Slim code run over environments: what is known of the slots that are still wanted. No condition. -/
import Derived.Test.YtbcmdjlgdnippaaGreatDoorB3
set_option linter.unusedVariables false
set_option linter.unusedSimpArgs false
namespace Go.Abs
open Go.RowKit

section
variable {P : Program} {K : St → Prop} {ts : List AV} {hp : List Blk} {r : List SOper}

/-- What a step gives, handed on. -/
def withV (x : Option (AV × List Blk)) (F : AV → List Blk → Prop) : Prop := ∃ v hp', x = some (v, hp') ∧ F v hp'

theorem withV_some {v : AV} {hp' : List Blk} {F : AV → List Blk → Prop} : withV (some (v, hp')) F = F v hp' := by
  apply propext
  constructor
  · rintro ⟨v', hp2, h, k⟩; cases h; exact k
  · intro k; exact ⟨v, hp', rfl, k⟩

/-! Numbers of one kind. -/
section
variable (k : IntKind) (a b : Int)
theorem abin_add : abin .add (.v (.int k a)) (.v (.int k b)) = some (.v (.int k (k.wrap (a + b)))) := by simp [abin, ibin]
theorem abin_sub : abin .sub (.v (.int k a)) (.v (.int k b)) = some (.v (.int k (k.wrap (a - b)))) := by simp [abin, ibin]
theorem abin_mul : abin .mul (.v (.int k a)) (.v (.int k b)) = some (.v (.int k (k.wrap (a * b)))) := by simp [abin, ibin]
theorem abin_eql : abin .eql (.v (.int k a)) (.v (.int k b)) = some (.v (.bool (a == b))) := by simp [abin, ibin]
theorem abin_neq : abin .neq (.v (.int k a)) (.v (.int k b)) = some (.v (.bool (a != b))) := by simp [abin, ibin]
theorem abin_lss : abin .lss (.v (.int k a)) (.v (.int k b)) = some (.v (.bool (decide (a < b)))) := by simp [abin, ibin]
theorem abin_leq : abin .leq (.v (.int k a)) (.v (.int k b)) = some (.v (.bool (decide (a ≤ b)))) := by simp [abin, ibin]
theorem abin_gtr : abin .gtr (.v (.int k a)) (.v (.int k b)) = some (.v (.bool (decide (b < a)))) := by simp [abin, ibin]
theorem abin_geq : abin .geq (.v (.int k a)) (.v (.int k b)) = some (.v (.bool (decide (b ≤ a)))) := by simp [abin, ibin]
theorem abin_quo (h : b ≠ 0) : abin .quo (.v (.int k a)) (.v (.int k b)) = some (.v (.int k (k.wrap (a.tdiv b)))) := by simp [abin, ibin, h]
theorem abin_rem (h : b ≠ 0) : abin .rem (.v (.int k a)) (.v (.int k b)) = some (.v (.int k (a.tmod b))) := by simp [abin, ibin, h]
theorem abin_shl (k' : IntKind) (h : ¬ b < 0) : abin .shl (.v (.int k a)) (.v (.int k' b)) = some (.v (.int k (k.wrap (a * 2 ^ (min b.toNat k.bits))))) := by simp [abin, ibin, h]
theorem abin_shr (k' : IntKind) (h : ¬ b < 0) : abin .shr (.v (.int k a)) (.v (.int k' b)) = some (.v (.int k (a.fdiv (2 ^ (min b.toNat k.bits))))) := by simp [abin, ibin, h]
theorem abin_and : abin .and (.v (.int k a)) (.v (.int k b)) = some (.v (bitsOp k a b (· &&& ·))) := by simp [abin, ibin]
theorem abin_or : abin .or (.v (.int k a)) (.v (.int k b)) = some (.v (bitsOp k a b (· ||| ·))) := by simp [abin, ibin]
theorem abin_xor : abin .xor (.v (.int k a)) (.v (.int k b)) = some (.v (bitsOp k a b (· ^^^ ·))) := by simp [abin, ibin]
theorem abin_andNot : abin .andNot (.v (.int k a)) (.v (.int k b)) = some (.v (bitsOp k a b (fun x y => x &&& ~~~y))) := by simp [abin, ibin]
end

theorem absl_one (x : Value) : absl 1 [.v x] = some (.sl [.v x] .exact) := by simp [absl, okElems, AV.cells, AV.one]

theorem alen_sl (xs : List AV) (t : Tail) : alen (.sl xs t) = some (.v (goInt xs.length)) := rfl
theorem alen_nsl : alen .nsl = some (.v (goInt 0)) := rfl
theorem aia_sl {n : Nat} {xs : List AV} {t : Tail} {i : Nat} {k : IntKind} {x : AV} (h : xs[i]? = some x) (hn : x.cells.length = n) : aia n (.sl xs t) (.v (.int k (i : Int))) = some (.fp x.cells 0) := by simp [aia, h, hn]

theorem aload_fp {ag : Bool} {n off : Nat} {cs : List AV} {c : AV} (hp : List Blk) (h : pick1 ag n cs off = some c) : aload hp ag n (.fp cs off) = some c := h
theorem aload_mp {ag : Bool} {n off k : Nat} {cs : List AV} {c : AV} {hp : List Blk} (hk : hp[k]? = some (.cells cs false)) (h : pick1 ag n cs off = some c) : aload hp ag n (.mp k off) = some c := by simp only [aload, hk, h]

theorem absl_2 (a b : Value) : absl 1 [.v a, .v b] = some (.sl [.v a, .v b] .exact) := by simp [absl, okElems, AV.cells, AV.one]
theorem absl_3 (a b c : Value) : absl 1 [.v a, .v b, .v c] = some (.sl [.v a, .v b, .v c] .exact) := by simp [absl, okElems, AV.cells, AV.one]
theorem absl_4 (a b c d : Value) : absl 1 [.v a, .v b, .v c, .v d] = some (.sl [.v a, .v b, .v c, .v d] .exact) := by simp [absl, okElems, AV.cells, AV.one]
theorem absl_8 (a b c d e f g h : Value) : absl 1 [.v a, .v b, .v c, .v d, .v e, .v f, .v g, .v h] = some (.sl [.v a, .v b, .v c, .v d, .v e, .v f, .v g, .v h] .exact) := by simp [absl, okElems, AV.cells, AV.one]
theorem afa_fp (off o : Nat) (cs : List AV) : afa off (.fp cs o) = some (.fp cs (o + off)) := rfl
theorem afa_mp (off o k : Nat) : afa off (.mp k o) = some (.mp k (o + off)) := rfl

/-- A slice to read. -/
def Slc (v : AV) (xs : List AV) : Prop := v = .sl xs .no ∨ (v = .nsl ∧ xs = [])

theorem Slc.len {v : AV} {xs : List AV} (h : Slc v xs) : alen v = some (.v (goInt xs.length)) := by
  rcases h with rfl | ⟨rfl, rfl⟩ <;> rfl
theorem Slc.ia {v : AV} {xs : List AV} (h : Slc v xs) {n i : Nat} {k : IntKind} {x : AV} (hx : xs[i]? = some x) (hn : x.cells.length = n) : aia n v (.v (.int k (i : Int))) = some (.fp x.cells 0) := by
  rcases h with rfl | ⟨rfl, rfl⟩
  · exact aia_sl hx hn
  · simp at hx
theorem Slc.ns {v : AV} {xs : List AV} (h : Slc v xs) : ∀ s, v ≠ .v (.string s) := by
  rcases h with rfl | ⟨rfl, rfl⟩ <;> (intro s e; cases e)
/-- The length as a step. -/
def lenStep (v : AV) (hp : List Blk) : Option (AV × List Blk) := match v with
  | .v (.string _) => none
  | x' => (alen x').map fun r => (r, hp)
theorem astep_len (ts : List AV) (hp : List Blk) (x : Opd) : astep ts hp (.len x) = lenStep (ev ts x) hp := rfl
theorem Slc.lenStep {v : AV} {xs : List AV} (h : Slc v xs) (hp : List Blk) : lenStep v hp = some (.v (goInt xs.length), hp) := by
  rcases h with rfl | ⟨rfl, rfl⟩ <;> rfl
theorem lenStep_sl (xs : List AV) (t : Tail) (hp : List Blk) : lenStep (.sl xs t) hp = some (.v (goInt xs.length), hp) := rfl

section
variable (ts : List AV) (hp : List Blk)
theorem anil_mp (k o : Nat) : anil (.mp k o) = some (.mp k o) := rfl
theorem anil_fp (cs : List AV) (o : Nat) : anil (.fp cs o) = some (.fp cs o) := rfl
end

theorem acv_int (k k' : IntKind) (n : Int) : acv k (.v (.int k' n)) = some (.v (.int k (k.wrap n))) := rfl

theorem wrap_u64 (n : Int) : IntKind.u64.wrap n = n % 18446744073709551616 := by simp [IntKind.wrap, IntKind.bits, IntKind.signed]
theorem wrap_u8 (n : Int) : IntKind.u8.wrap n = n % 256 := by simp [IntKind.wrap, IntKind.bits, IntKind.signed]
theorem wrap_u16 (n : Int) : IntKind.u16.wrap n = n % 65536 := by simp [IntKind.wrap, IntKind.bits, IntKind.signed]
theorem wrap_i64 {n : Int} (h0 : -9223372036854775808 ≤ n) (h1 : n ≤ 9223372036854775807) : IntKind.i64.wrap n = n := by
  simp [IntKind.wrap, IntKind.bits, IntKind.signed]
  split <;> omega
theorem wrap_i32 {n : Int} (h0 : -2147483648 ≤ n) (h1 : n ≤ 2147483647) : IntKind.i32.wrap n = n := by
  simp [IntKind.wrap, IntKind.bits, IntKind.signed]
  split <;> omega

/-! Slices that are appended to. -/

/-- A value that holds these elements and may be appended to. -/
def Appd (hp : List Blk) (v : AV) (xs : List AV) (n : Nat) (e : TypeId) : Prop := (v = .nsl ∧ xs = []) ∨ ∃ id, v = .sl xs (.tok id) ∧ hp[id]? = some (.tok xs.length n e)

/-- What an append leaves of the heap: all mutable blocks; and tokens but one. -/
structure AppRel (hp hp' : List Blk) (v : AV) : Prop where
  len : hp.length ≤ hp'.length
  cells : ∀ (k : Nat) cs fz, hp[k]? = some (.cells cs fz) → hp'[k]? = some (.cells cs fz)
  toks : ∀ (k : Nat) n s e, hp[k]? = some (.tok n s e) → (∀ xs, v ≠ .sl xs (.tok k)) → hp'[k]? = some (.tok n s e)
  objs : ∀ (k : Nat) b, b.isObj = true → hp[k]? = some b → hp'[k]? = some b

theorem Appd.nil (hp : List Blk) (n : Nat) (e : TypeId) : Appd hp .nsl [] n e := Or.inl ⟨rfl, rfl⟩

theorem Appd.run {v : AV} {xs ys : List AV} {n byt : Nat} {e : TypeId} {t : Tail} {F : AV → List Blk → Prop} (hA : Appd hp v xs n e) (hx : okElems n xs = true) (hy : okElems n ys = true) (hne : ys ≠ []) (hn : 0 < n) (hb : 0 < byt)
    (hfit : (xs.length + ys.length) * byt ≤ 140737488355328) (k : ∀ v' hp', Appd hp' v' (xs ++ ys) n e → AppRel hp hp' v → (∃ id, v' = .sl (xs ++ ys) (.tok id)) → F v' hp') : withV (aappN hp n byt e v (.sl ys t)) F := by
  rcases hA with ⟨rfl, rfl⟩ | ⟨id, rfl, hid⟩
  · refine ⟨.sl ys (.tok hp.length), hp ++ [.tok ys.length n e], ?_, ?_⟩
    · simp only [List.length_nil, Nat.zero_add] at hfit
      simp [aappN, aapp, aappC, contents, hne, hy, hn, hb, hfit]
    · refine k _ _ (Or.inr ⟨hp.length, rfl, by simp⟩) ⟨by simp, fun j cs fz h => ?_, fun j n s e' h _ => ?_, fun j b _ h => by rw [List.getElem?_append_left (List.getElem?_eq_some_iff.1 h).1]; exact h⟩ ⟨_, rfl⟩
      · rw [List.getElem?_append_left (List.getElem?_eq_some_iff.1 h).1]; exact h
      · rw [List.getElem?_append_left (List.getElem?_eq_some_iff.1 h).1]; exact h
  · have hl : id < hp.length := (List.getElem?_eq_some_iff.1 hid).1
    refine ⟨.sl (xs ++ ys) (.tok id), hp.set id (.tok (xs.length + ys.length) n e), ?_, ?_⟩
    · simp [aappN, aapp, aappC, contents, hne, hy, hn, hb, hfit, hx, hid]
    · refine k _ _ (Or.inr ⟨id, rfl, by rw [List.getElem?_set_self hl, List.length_append]⟩) ⟨by simp, fun j cs fz h => ?_, fun j n' s e' h hne' => ?_, fun j b hb h => by rw [List.getElem?_set_ne (by intro e; subst e; rw [hid] at h; cases h; cases hb)]; exact h⟩ ⟨_, rfl⟩
      · rw [List.getElem?_set_ne]
        · exact h
        · intro e; subst e; rw [hid] at h; cases h
      · rw [List.getElem?_set_ne]
        · exact h
        · intro e; subst e; exact hne' xs rfl


theorem Appd.at {xs ys : List AV} {id n : Nat} {e : TypeId} (h : Appd hp (.sl xs (.tok id)) ys n e) : hp[id]? = some (.tok ys.length n e) := by
  rcases h with ⟨h, _⟩ | ⟨id', h, h2⟩
  · cases h
  · cases h; exact h2

theorem get_ext {hp l : List Blk} {k : Nat} {b : Blk} (h : hp[k]? = some b) : (hp ++ l)[k]? = some b := by
  rw [List.getElem?_append_left (List.getElem?_eq_some_iff.1 h).1]; exact h

theorem Appd.ext {v : AV} {xs : List AV} {n : Nat} {e : TypeId} {l : List Blk} (h : Appd hp v xs n e) : Appd (hp ++ l) v xs n e :=
  h.imp id fun ⟨id, q, h⟩ => ⟨id, q, get_ext h⟩

theorem Appd.new {xs : List AV} {n : Nat} {e : TypeId} : Appd (hp ++ [.tok xs.length n e]) (.sl xs (.tok hp.length)) xs n e := Or.inr ⟨_, rfl, by simp⟩

theorem resV_s {k : Nat} {x : AV} (h : ts[k]? = some x) : resV ⟨ts, hp⟩ [.s k] = some x := by simp [resV, resAs, resA, h]

end

abbrev Env := List (Nat × AV)

def elook : Env → Nat → Option AV
  | [], _ => none
  | (j, v) :: r, k => if j = k then some v else elook r k

def econs (k : Nat) (o : Option AV) (e : Env) : Env :=
  match o with
  | some v => (k, v) :: e
  | none => e

/-- What is known of these slots. -/
def eonly : List Nat → Env → Env
  | [], _ => []
  | k :: L, e => econs k (elook e k) (eonly L e)

def evE (e : Env) : Opd → Option AV
  | .t k => elook e k
  | .c a => some a

def evsE (e : Env) : List Opd → Option (List AV)
  | [] => some []
  | x :: r => (evE e x).bind fun a => (evsE e r).map fun l => a :: l

def evoE (e : Env) : Option Opd → Option (Option AV)
  | none => some none
  | some x => (evE e x).map some

def evpE (e : Env) : List (Nat × Nat × Opd) → Option (List (Nat × Nat × AV))
  | [] => some []
  | (i, n, x) :: r => (evE e x).bind fun a => (evpE e r).map fun l => (i, n, a) :: l

def lenS (v : AV) (hp : List Blk) : Option (AV × List Blk) := match v with
  | .v (.string s) => some (.v (goInt s.size), hp)
  | _ => none
def slcStep (n : Nat) (v : AV) (lo hi mx : Option AV) (hp : List Blk) : Option (AV × List Blk) := match v with
  | .v (.string _) => none
  | x' => (asl n x' lo hi mx).map fun r => (r, hp)
def slsStep (v : AV) (lo hi : Option AV) (hp : List Blk) : Option (AV × List Blk) := match v with
  | .v (.string s) => (asl 0 (.v (.string s)) lo hi none).map fun r => (r, hp)
  | _ => none
def pickE (c : AV) (x y : Option AV) : Option AV := match c with
  | .v (.bool b) => if b then x else y
  | _ => none

def iterStep (v : AV) (hp : List Blk) : Option (AV × List Blk) := match v with
  | .v (.string s) => some (.ob hp.length, hp ++ [.obj (.stringIter s 0)])
  | _ => none
def astepE (e : Env) (hp : List Blk) : SOp → Option (AV × List Blk)
  | .mv x => (evE e x).map fun r => (r, hp)
  | .pick c a b => (evE e c).bind fun c => (pickE c (evE e a) (evE e b)).map fun r => (r, hp)
  | .alloc z => some (.mp hp.length 0, hp ++ [.cells z false])
  | .alb t z => some (.mp hp.length 0, hp ++ [.cells (.bt hp.length t :: z) false])
  | .aps byt ty s x => (evE e s).bind fun s => (evE e x).bind fun x => aappS hp byt ty s x
  | .box x => (evE e x).map fun r => (.mp hp.length 0, hp ++ [.cells r.cells false])
  | .build z ps => (evpE e ps).bind fun l => (afill z l).map fun r => (.agg r, hp)
  | .bsl n vs => (evsE e vs).bind fun l => (absl n l).map fun r => (r, hp)
  | .ld ag n x => (evE e x).bind fun x => (aload hp ag n x).map fun r => (r, hp)
  | .st n p x => (evE e p).bind fun p => (evE e x).bind fun x => (astore hp n p x).map fun hp' => (undefA, hp')
  | .nilc x => (evE e x).bind fun x => (anil x).map fun r => (r, hp)
  | .bin op x y => (evE e x).bind fun x => (evE e y).bind fun y => (abin op x y).map fun r => (r, hp)
  | .eqb neg x y => (evE e x).bind fun x => (evE e y).bind fun y => (aeqb neg x y).map fun r => (r, hp)
  | .eqn K neg x y => (evE e x).bind fun x => (evE e y).bind fun y => (aeqn K neg x y).map fun r => (r, hp)
  | .eqf ks neg x y => (evE e x).bind fun x => (evE e y).bind fun y => (aeqf ks neg x y).map fun r => (r, hp)
  | .un op x => (evE e x).bind fun x => (aun op x).map fun r => (r, hp)
  | .cv k x => (evE e x).bind fun x => (acv k x).map fun r => (r, hp)
  | .s2s x => (evE e x).bind fun x => (astr x).map fun r => (r, hp)
  | .b2s x => (evE e x).bind fun x => (ab2s x).map fun r => (r, hp)
  | .slc n x lo hi mx => (evE e x).bind fun x => (evoE e lo).bind fun lo => (evoE e hi).bind fun hi => (evoE e mx).bind fun mx => slcStep n x lo hi mx hp
  | .sls x lo hi => (evE e x).bind fun x => (evoE e lo).bind fun lo => (evoE e hi).bind fun hi => slsStep x lo hi hp
  | .fa off x => (evE e x).bind fun x => (afa off x).map fun r => (r, hp)
  | .ia n x i => (evE e x).bind fun x => (evE e i).bind fun i => (aia n x i).map fun r => (r, hp)
  | .aa len n x i => (evE e x).bind fun x => (evE e i).bind fun i => (aaa len n x i).map fun r => (r, hp)
  | .fld ag n off x => (evE e x).bind fun x => (afld ag n off x).map fun r => (r, hp)
  | .idx ag n len x i => (evE e x).bind fun x => (evE e i).bind fun i => (aidx ag n len x i).map fun r => (r, hp)
  | .chr x i => (evE e x).bind fun x => (evE e i).bind fun i => (achr x i).map fun r => (r, hp)
  | .ext i x => (evE e x).bind fun x => (aext i x).map fun r => (r, hp)
  | .lenS x => (evE e x).bind fun x => lenS x hp
  | .len x => (evE e x).bind fun x => lenStep x hp
  | .app n byt ty s x => (evE e s).bind fun s => (evE e x).bind fun x => aappN hp n byt ty s x
  | .mkf f a b => (evsE e a).bind fun a => (evsE e b).map fun b => (.fn f a b, hp)
  | .bslR n vs => (evsE e vs).bind fun l => abslR hp n l
  | .appR n byt ty s x => (evE e s).bind fun s => (evE e x).bind fun x => aappR hp n byt ty s x
  | .mks n byt _ z l c => (evE e l).bind fun l => (evE e c).bind fun c => amks hp n byt z l c
  | .mkt n byt ty z l c => (evE e l).bind fun l => (evE e c).bind fun c => amkt hp n byt ty z l c
  | .mif t x => (evE e x).map fun x => (.ifc t x, hp)
  | .tas t z ok x => (evE e x).bind fun x => (atas t z ok x).map fun r => (r, hp)
  | .mm mx xs => (evsE e xs).bind fun l => (amm mx l).map fun r => (r, hp)
  | .iter x => (evE e x).bind fun x => iterStep x hp
  | .next x => (evE e x).bind fun x => anext hp x
  | .mkm => some (.mapv hp.length, hp ++ [.mapb [] 0])
  | .lkp ag ks z ok m k => (evE e m).bind fun m => (evE e k).bind fun k => (alkp hp ag ks z ok m k).map fun r => (r, hp)
  | .mput ag ks m k x => (evE e m).bind fun m => (evE e k).bind fun k => (evE e x).bind fun x => (amput hp ag ks m k x).map fun hp' => (undefA, hp')
  | .ment ag ks z m k => (evE e m).bind fun m => (evE e k).bind fun k => ament hp ag ks z m k
  | .est m st x => (evE e m).bind fun m => (evE e st).bind fun st => (evE e x).bind fun x => (aest hp m st x).map fun hp' => (undefA, hp')

/-- The slots are what the environment has. -/
def Has (n : Nat) (ts : List AV) (e : Env) : Prop := ts.length = n ∧ ∀ k v, elook e k = some v → ts[k]? = some v

theorem evE_ok {n : Nat} {ts : List AV} {e : Env} (h : Has n ts e) {x : Opd} {a : AV} (hx : evE e x = some a) : ev ts x = a := by
  cases x with
  | t k =>
    have := h.2 k a hx
    simp [ev, this]
  | c b => cases hx; rfl

theorem evsE_ok {n : Nat} {ts : List AV} {e : Env} (h : Has n ts e) : ∀ {xs : List Opd} {az : List AV}, evsE e xs = some az → xs.map (ev ts) = az
  | [], az, hx => by cases hx; rfl
  | x :: r, az, hx => by
    simp only [evsE, Option.bind_eq_some_iff, Option.map_eq_some_iff] at hx
    obtain ⟨a, h1, l, h2, rfl⟩ := hx
    rw [List.map_cons, evE_ok h h1, evsE_ok h h2]

theorem evpE_ok {n : Nat} {ts : List AV} {e : Env} (h : Has n ts e) : ∀ {xs : List (Nat × Nat × Opd)} {az : List (Nat × Nat × AV)}, evpE e xs = some az → xs.map (fun p => (p.1, p.2.1, ev ts p.2.2)) = az
  | [], az, hx => by cases hx; rfl
  | (i, n, x) :: r, az, hx => by
    simp only [evpE, Option.bind_eq_some_iff, Option.map_eq_some_iff] at hx
    obtain ⟨a, h1, l, h2, rfl⟩ := hx
    rw [List.map_cons, evE_ok h h1, evpE_ok h h2]

theorem evoE_ok {n : Nat} {ts : List AV} {e : Env} (h : Has n ts e) {x : Option Opd} {a : Option AV} (hx : evoE e x = some a) : x.map (ev ts) = a := by
  cases x with
  | none => cases hx; rfl
  | some x =>
    simp only [evoE, Option.map_eq_some_iff] at hx
    obtain ⟨b, h1, rfl⟩ := hx
    rw [Option.map_some, evE_ok h h1]

theorem astepE_ok {n : Nat} {ts : List AV} {e : Env} (h : Has n ts e) {hp : List Blk} {o : SOp} {r : AV × List Blk} (ho : astepE e hp o = some r) : astep ts hp o = some r := by
  cases o
  case pick c a b =>
    simp only [astepE, Option.bind_eq_some_iff, Option.map_eq_some_iff] at ho
    obtain ⟨c', h1, v, h2, rfl⟩ := ho
    have e1 := evE_ok h h1
    unfold pickE at h2
    split at h2
    · rename_i b'
      simp only [astep, e1]
      cases b' with
      | true => simp only [if_true] at h2 ⊢; rw [evE_ok h h2]
      | false => simp only [Bool.false_eq_true, if_false] at h2 ⊢; rw [evE_ok h h2]
    · cases h2
  case slc m x lo hi mx =>
    simp only [astepE, Option.bind_eq_some_iff] at ho
    obtain ⟨x', h1, lo', h2, hi', h3, mx', h4, h5⟩ := ho
    simp only [astep, evE_ok h h1, evoE_ok h h2, evoE_ok h h3, evoE_ok h h4]
    exact h5
  case sls x lo hi =>
    simp only [astepE, Option.bind_eq_some_iff] at ho
    obtain ⟨x', h1, lo', h2, hi', h3, h5⟩ := ho
    simp only [astep, evE_ok h h1, evoE_ok h h2, evoE_ok h h3]
    exact h5
  case lenS x =>
    simp only [astepE, Option.bind_eq_some_iff] at ho
    obtain ⟨x', h1, h5⟩ := ho
    simp only [astep, evE_ok h h1]
    exact h5
  case len x =>
    simp only [astepE, Option.bind_eq_some_iff] at ho
    obtain ⟨x', h1, h5⟩ := ho
    simp only [astep, evE_ok h h1]
    exact h5
  case build z ps =>
    simp only [astepE, Option.bind_eq_some_iff] at ho
    obtain ⟨x', h1, h5⟩ := ho
    simp only [astep, evpE_ok h h1]
    exact h5
  case bsl z ps =>
    simp only [astepE, Option.bind_eq_some_iff] at ho
    obtain ⟨x', h1, h5⟩ := ho
    simp only [astep, evsE_ok h h1]
    exact h5
  case bslR z ps =>
    simp only [astepE, Option.bind_eq_some_iff] at ho
    obtain ⟨x', h1, h5⟩ := ho
    simp only [astep, evsE_ok h h1]
    exact h5
  case mm z ps =>
    simp only [astepE, Option.bind_eq_some_iff] at ho
    obtain ⟨x', h1, h5⟩ := ho
    simp only [astep, evsE_ok h h1]
    exact h5
  case mkm => exact ho
  case mif t x =>
    simp only [astepE, Option.map_eq_some_iff] at ho
    obtain ⟨x', h1, rfl⟩ := ho
    simp only [astep, evE_ok h h1]
  case mput ag ks m k x =>
    simp only [astepE, Option.bind_eq_some_iff] at ho
    obtain ⟨m', h1, k', h2, x', h3, h5⟩ := ho
    simp only [astep, evE_ok h h1, evE_ok h h2, evE_ok h h3]
    exact h5
  case est m k x =>
    simp only [astepE, Option.bind_eq_some_iff] at ho
    obtain ⟨m', h1, k', h2, x', h3, h5⟩ := ho
    simp only [astep, evE_ok h h1, evE_ok h h2, evE_ok h h3]
    exact h5
  case mkf f a b =>
    simp only [astepE, Option.bind_eq_some_iff, Option.map_eq_some_iff] at ho
    obtain ⟨x', h1, y', h2, h5⟩ := ho
    simp only [astep, evsE_ok h h1, evsE_ok h h2]
    rw [h5]
  case alloc z => exact ho
  case alb t z => exact ho
  case aps byt ty s x =>
    simp only [astepE, Option.bind_eq_some_iff] at ho
    obtain ⟨x', h1, y', h2, h5⟩ := ho
    simp only [astep, evE_ok h h1, evE_ok h h2]
    rw [h5]
  case mv x =>
    simp only [astepE, Option.map_eq_some_iff] at ho
    obtain ⟨x', h1, rfl⟩ := ho
    simp only [astep, evE_ok h h1]
  case box x =>
    simp only [astepE, Option.map_eq_some_iff] at ho
    obtain ⟨x', h1, rfl⟩ := ho
    simp only [astep, evE_ok h h1]
  all_goals first
    | (simp only [astepE, Option.bind_eq_some_iff] at ho
       obtain ⟨x', h1, y', h2, h5⟩ := ho
       simp only [astep, evE_ok h h1, evE_ok h h2]
       exact h5)
    | (simp only [astepE, Option.bind_eq_some_iff] at ho
       obtain ⟨x', h1, h5⟩ := ho
       simp only [astep, evE_ok h h1]
       exact h5)

/-- What simp does not look into. -/
class Hid (α : Type) where
  v : α
theorem hid_v {α : Type} (a : α) : (Hid.mk a).v = a := rfl

def withA {α : Type} (x : Option α) [F : Hid (α → Prop)] : Prop := ∃ a, x = some a ∧ F.v a
theorem withA_some {α : Type} {a : α} {F : Hid (α → Prop)} : @withA α (some a) F = F.v a := by
  apply propext
  constructor
  · rintro ⟨b, h, k⟩; cases h; exact k
  · intro k; exact ⟨a, rfl, k⟩

/-- A turn of the road. -/
def BoolCase (b : Bool) [A : Hid Prop] [B : Hid Prop] : Prop := (b = true → A.v) ∧ (b = false → B.v)
theorem BoolCase_true {A B : Hid Prop} : @BoolCase true A B = A.v := by simp [BoolCase]
theorem BoolCase_false {A B : Hid Prop} : @BoolCase false A B = B.v := by simp [BoolCase]
theorem BoolCase.mk {b : Bool} {A B : Hid Prop} (h1 : b = true → A.v) (h2 : b = false → B.v) : @BoolCase b A B := ⟨h1, h2⟩

def boolE (v : AV) [A : Hid Prop] [B : Hid Prop] : Prop := match v with
  | .v (.bool b) => @BoolCase b A B
  | _ => False
theorem boolE_bool {b : Bool} {A B : Hid Prop} : @boolE (.v (.bool b)) A B = @BoolCase b A B := rfl

/-- A guard: what is done if it holds, and else. -/
def guardE (w : Bool) (v : AV) [A : Hid Prop] [B : Hid Prop] : Prop := match v with
  | .v (.bool b) => if w then @BoolCase b A B else @BoolCase b B A
  | .tup [] => B.v
  | _ => False
theorem guardE_yes {b : Bool} {A B : Hid Prop} : @guardE true (.v (.bool b)) A B = @BoolCase b A B := rfl
theorem guardE_no {b : Bool} {A B : Hid Prop} : @guardE false (.v (.bool b)) A B = @BoolCase b B A := rfl
theorem guardE_undef {w : Bool} {A B : Hid Prop} : @guardE w undefA A B = B.v := rfl

abbrev PanT := List PanicEntry → List Blk → Prop
def CallH (G : Cells) (P : Program) (f : FuncId) (args : List AV) (hp : List Blk) [F : Hid (AV → List Blk → Prop)] : Prop := CallOk G P f args hp F.v
def callvH (G : Cells) (P : Program) (f : AV) (args : List AV) (hp : List Blk) [F : Hid (AV → List Blk → Prop)] : Prop := CallV G P f args hp F.v
def CallPH (G : Cells) (P : Program) (f : FuncId) (args : List AV) (hp : List Blk) [F : Hid (AV → List Blk → Prop)] [E : Hid PanT] : Prop := CallP G P f args hp F.v E.v
def callvPH (G : Cells) (P : Program) (f : AV) (args : List AV) (hp : List Blk) [F : Hid (AV → List Blk → Prop)] [E : Hid PanT] : Prop := CallVP G P f args hp F.v E.v
section
variable {G : Cells} {P : Program} {f : FuncId} {args fs cs : List AV} {hp : List Blk} {F : Hid (AV → List Blk → Prop)} {E : Hid PanT}
theorem callvH_fn : @callvH G P (.fn (.func f) fs cs) args hp F = @CallH G P f (fs ++ args ++ cs) hp F := by simp [callvH, CallV, CallH]
theorem callvPH_fn : @callvPH G P (.fn (.func f) fs cs) args hp F E = @CallPH G P f (fs ++ args ++ cs) hp F E := by simp [callvPH, CallVP, CallPH]
end
def pcallH (G : Cells) (P : Program) (f : FuncId) (args : List AV) [F : Hid (AV → Prop)] : Prop := ∃ bs r', ImpCs args bs ∧ PureSpec G P f bs r' ∧ F.v r'

def instrE (G : Cells) (P : Program) (i : SInstr) [F : Hid (AV → List Blk → Prop)] [E : Hid PanT] (e : Env) (hp : List Blk) : Prop := match i with
  | .op o => @withA _ (astepE e hp o) ⟨fun r => F.v r.1 r.2⟩
  | .call f args => @withA _ (evsE e args) ⟨fun az => @CallH G P f az hp F⟩
  | .callv x args => @withA _ (evE e x) ⟨fun x => @withA _ (evsE e args) ⟨fun az => @callvH G P x az hp F⟩⟩
  | .pcall f args => @withA _ (evsE e args) ⟨fun az => @pcallH G P f az ⟨fun v => F.v v hp⟩⟩
  | .pcallr f args r => @withA _ (evsE e args) ⟨fun az => ∃ bs, ImpCs az bs ∧ PureSpec G P f bs r ∧ F.v r hp⟩
  | .callp f args => @withA _ (evsE e args) ⟨fun az => @CallPH G P f az hp F E⟩
  | .callvp x args => @withA _ (evE e x) ⟨fun x => @withA _ (evsE e args) ⟨fun az => @callvPH G P x az hp F E⟩⟩
  | .pan x => @withA _ ((evE e x).bind concI) ⟨fun v => E.v [{ v := v, recovered := false }] hp⟩

def putE (d : Option Nat) (v : AV) (e : Env) : Env := match d with
  | some d => (d, v) :: e
  | none => e

def RunE (G : Cells) (P : Program) (l : List SOper) [K : Hid (Env → List Blk → Prop)] [E : Hid PanT] (e : Env) (hp : List Blk) : Prop := match l with
  | [] => K.v e hp
  | ⟨d, none, i⟩ :: r => @instrE G P i ⟨fun v hp' => @RunE G P r K E (putE d v e) hp'⟩ E e hp
  | ⟨d, some (k, w), i⟩ :: r => @withA _ (elook e k) ⟨fun g => @guardE w g ⟨@instrE G P i ⟨fun v hp' => @RunE G P r K E (putE d v e) hp'⟩ E e hp⟩ ⟨@RunE G P r K E (putE d undefA e) hp⟩⟩

section
variable {G : Cells} {P : Program} {K : Hid (Env → List Blk → Prop)} {E : Hid PanT} {e : Env} {hp : List Blk} {d : Option Nat} {k : Nat} {i : SInstr} {r : List SOper}
theorem RunE_nil : @RunE G P [] K E e hp = K.v e hp := by simp only [RunE]
theorem RunE_op : @RunE G P (⟨d, none, i⟩ :: r) K E e hp = @instrE G P i ⟨fun v hp' => @RunE G P r K E (putE d v e) hp'⟩ E e hp := by simp only [RunE]
theorem RunE_gd {w : Bool} : @RunE G P (⟨d, some (k, w), i⟩ :: r) K E e hp = @withA _ (elook e k) ⟨fun g => @guardE w g ⟨@instrE G P i ⟨fun v hp' => @RunE G P r K E (putE d v e) hp'⟩ E e hp⟩ ⟨@RunE G P r K E (putE d undefA e) hp⟩⟩ := by simp only [RunE]
end

def dstsOk (n : Nat) : List SOper → Bool
  | [] => true
  | o :: r => (match o.dst with | some d => decide (d < n) | none => true) && dstsOk n r

theorem dstsOk_tell {n : Nat} {ρ : Nat → AV} : ∀ {l : List SOper}, dstsOk n (l.map (tell ρ)) = dstsOk n l
  | [] => rfl
  | o :: r => by simp only [List.map_cons, dstsOk, tell_dst, dstsOk_tell]

theorem has_put {n : Nat} {ts : List AV} {e : Env} (h : Has n ts e) {d : Option Nat} {v : AV} (hd : (match d with | some d => decide (d < n) | none => true) = true) : Has n (aput ts d v) (putE d v e) := by
  cases d with
  | none => exact h
  | some d =>
    simp only [decide_eq_true_eq] at hd
    refine ⟨by simp [aput, h.1], fun k w hk => ?_⟩
    simp only [putE, elook] at hk
    simp only [aput]
    split at hk
    · rename_i e1
      subst e1
      cases hk
      exact List.getElem?_set_self (by rw [h.1]; exact hd)
    · rename_i e1
      rw [List.getElem?_set_ne e1]
      exact h.2 k w hk

section
variable {G : Cells} {P : Program}

theorem instrE_ok {n : Nat} {i : SInstr} {F : Hid (AV → List Blk → Prop)} {E : Hid PanT} {e : Env} {hp : List Blk} {ts : List AV} {d : Option Nat} {r : List SOper} {K : St → Prop} (h : Has n ts e) (hi : @instrE G P i F E e hp) (hF : ∀ v hp', F.v v hp' → SOps G E.v P r K ⟨aput ts d v, hp'⟩) :
    SOps G E.v P (⟨d, none, i⟩ :: r) K ⟨ts, hp⟩ := by
  simp only [SOps]
  unfold SStep
  rw [if_pos (by rfl)]
  cases i with
  | op o =>
    obtain ⟨⟨v, hp'⟩, h1, h2⟩ := hi
    simp only
    rw [astepE_ok h h1]
    exact hF _ _ h2
  | call f args =>
    obtain ⟨az, h1, h2⟩ := hi
    simp only
    rw [evsE_ok h h1]
    exact CallOk.mono h2 hF
  | callv x args =>
    obtain ⟨x', h0, az, h1, h2⟩ := hi
    dsimp only at h2
    simp only
    rw [evsE_ok h h1, evE_ok h h0]
    exact CallV.mono h2 hF
  | pcall f args =>
    obtain ⟨az, h1, bs, r', h2, h3, h4⟩ := hi
    simp only
    rw [evsE_ok h h1]
    exact ⟨bs, r', h2, h3, hF _ _ h4⟩
  | pcallr f args r =>
    obtain ⟨az, h1, bs, h2, h3, h4⟩ := hi
    simp only
    rw [evsE_ok h h1]
    exact ⟨bs, h2, h3, hF _ _ h4⟩
  | callp f args =>
    obtain ⟨az, h1, h2⟩ := hi
    simp only
    rw [evsE_ok h h1]
    exact CallP.mono h2 hF fun _ _ k => k
  | callvp x args =>
    obtain ⟨x', h0, az, h1, h2⟩ := hi
    dsimp only at h2
    simp only
    rw [evsE_ok h h1, evE_ok h h0]
    exact CallVP.mono h2 hF fun _ _ k => k
  | pan x =>
    obtain ⟨v, h1, h2⟩ := hi
    simp only [Option.bind_eq_some_iff] at h1
    obtain ⟨x', h3, h4⟩ := h1
    simp only
    rw [evE_ok h h3, h4]
    exact h2

theorem sops_gd {d : Option Nat} {g : Nat × Bool} {i : SInstr} {r : List SOper} {E : PanT} {K : St → Prop} {ts : List AV} {hp : List Blk} :
    (awant (some g) ts = true → SOps G E P (⟨d, none, i⟩ :: r) K ⟨ts, hp⟩) → (awant (some g) ts = false → SOps G E P r K ⟨aput ts d undefA, hp⟩) → SOps G E P (⟨d, some g, i⟩ :: r) K ⟨ts, hp⟩ := fun h1 h2 => by
  cases hw : awant (some g) ts with
  | true =>
    have := h1 hw
    simp only [SOps] at this ⊢
    unfold SStep at this ⊢
    rw [if_pos (by rfl)] at this
    simp only
    rw [if_pos hw]
    exact this
  | false =>
    have := h2 hw
    simp only [SOps]
    unfold SStep
    simp only
    rw [if_neg (by rw [hw]; simp)]
    exact this

theorem RunE_ok {n : Nat} : ∀ {l : List SOper} {K : Hid (Env → List Blk → Prop)} {E : Hid PanT} {K' : St → Prop} {e : Env} {hp : List Blk} {ts : List AV}, dstsOk n l = true → Has n ts e → @RunE G P l K E e hp → (∀ ts e hp, Has n ts e → K.v e hp → K' ⟨ts, hp⟩) → SOps G E.v P l K' ⟨ts, hp⟩
  | [], K, E, K', e, hp, ts, hd, h, hr, hk => hk _ _ _ h (by rw [RunE_nil] at hr; exact hr)
  | ⟨d, g, i⟩ :: r, K, E, K', e, hp, ts, hd, h, hr, hk => by
    simp only [dstsOk, Bool.and_eq_true] at hd
    obtain ⟨hd1, hd2⟩ := hd
    have yes : @instrE G P i ⟨fun v hp' => @RunE G P r K E (putE d v e) hp'⟩ E e hp → SOps G E.v P (⟨d, none, i⟩ :: r) K' ⟨ts, hp⟩ := fun q =>
      instrE_ok h q fun v hp' k => RunE_ok hd2 (has_put h hd1) k hk
    have no : @RunE G P r K E (putE d undefA e) hp → SOps G E.v P r K' ⟨aput ts d undefA, hp⟩ := fun k => RunE_ok hd2 (has_put h hd1) k hk
    rcases g with _ | ⟨k, w⟩
    · rw [RunE_op] at hr; exact yes hr
    · rw [RunE_gd] at hr
      obtain ⟨g, h1, h2⟩ := hr
      have hk1 := h.2 k _ h1
      dsimp only at h2
      unfold guardE at h2
      split at h2
      · rename_i b
        have hg : (b = w → @instrE G P i ⟨fun v hp' => @RunE G P r K E (putE d v e) hp'⟩ E e hp) ∧ (b ≠ w → @RunE G P r K E (putE d undefA e) hp) := by
          cases w with
          | true => exact ⟨fun q => h2.1 q, fun q => h2.2 (by simpa using q)⟩
          | false => exact ⟨fun q => h2.2 q, fun q => h2.1 (by simpa using q)⟩
        refine sops_gd (fun hw => yes (hg.1 ?_)) fun hw => no (hg.2 ?_)
        · simpa [awant, hk1] using hw
        · simpa [awant, hk1] using hw
      · exact sops_gd (fun hw => by simp [awant, hk1] at hw) fun _ => no h2
      · exact h2.elim

end

/-- A load that is looked at again. -/
def recE (c : SOper) (e : Env) (hp : List Blk) : Prop := match c.ins, c.dst with
  | .op o, some d => match c.guard with
    | none => @withA _ (elook e d) ⟨fun v => @withA _ (astepE e hp o) ⟨fun r => r.1 = v⟩⟩
    | some (k, w) => @withA _ (elook e k) ⟨fun g => @guardE w g ⟨@withA _ (elook e d) ⟨fun v => @withA _ (astepE e hp o) ⟨fun r => r.1 = v⟩⟩⟩ ⟨@withA _ (elook e d) ⟨fun v => v = undefA⟩⟩⟩
  | _, _ => False

def recsE (cs : List SOper) (e : Env) (hp : List Blk) : Prop := match cs with
  | [] => True
  | c :: r => recE c e hp ∧ recsE r e hp

def RunW (G : Cells) (P : Program) (l : List (SOper × List SOper)) [K : Hid (Env → List Blk → Prop)] [E : Hid PanT] (e : Env) (hp : List Blk) : Prop := match l with
  | [] => K.v e hp
  | (o, cs) :: r => @RunE G P [o] ⟨fun e' hp' => recsE cs e' hp' ∧ @RunW G P r K E e' hp'⟩ E e hp

section
variable {G : Cells} {P : Program} {K : Hid (Env → List Blk → Prop)} {E : Hid PanT} {e : Env} {hp : List Blk} {o : SOper} {cs : List SOper} {r : List (SOper × List SOper)}
theorem RunW_nil : @RunW G P [] K E e hp = K.v e hp := by simp only [RunW]
theorem RunW_op : @RunW G P ((o, cs) :: r) K E e hp = @RunE G P [o] ⟨fun e' hp' => recsE cs e' hp' ∧ @RunW G P r K E e' hp'⟩ E e hp := by simp only [RunW]

theorem recE_ok {n : Nat} {ts : List AV} (h : Has n ts e) {c : SOper} (hc : recE c e hp) : RC G P c ⟨ts, hp⟩ := by
  obtain ⟨d, g, i⟩ := c
  unfold recE at hc
  split at hc
  · rename_i o dd hi hd
    dsimp only at hi hd
    subst hi hd
    have yes : (awant g ts = true) → @withA _ (elook e dd) ⟨fun v => @withA _ (astepE e hp o) ⟨fun r => r.1 = v⟩⟩ → RC G P ⟨some dd, g, .op o⟩ ⟨ts, hp⟩ := by
      rintro hw ⟨v, h1, r, h2, h3⟩
      dsimp only at h3
      refine ⟨dd, v, rfl, h.2 _ _ h1, ?_⟩
      unfold NV
      rw [if_pos hw]
      simp only
      rw [astepE_ok h h2, Option.map_some, h3]
    have no : (awant g ts = false) → @withA _ (elook e dd) ⟨fun v => v = undefA⟩ → RC G P ⟨some dd, g, .op o⟩ ⟨ts, hp⟩ := by
      rintro hw ⟨v, h1, h2⟩
      dsimp only at h2
      refine ⟨dd, v, rfl, h.2 _ _ h1, ?_⟩
      unfold NV
      rw [if_neg (by rw [hw]; simp)]
      exact h2
    cases g with
    | none => exact yes rfl hc
    | some g =>
      obtain ⟨k, w⟩ := g
      obtain ⟨g, h1, h2⟩ := hc
      have hk1 := h.2 k _ h1
      dsimp only at h2
      unfold guardE at h2
      split at h2
      · rename_i b
        cases w with
        | true =>
          cases b with
          | true => exact yes (by simp [awant, hk1]) (h2.1 rfl)
          | false => exact no (by simp [awant, hk1]) (h2.2 rfl)
        | false =>
          cases b with
          | true => exact no (by simp [awant, hk1]) (h2.1 rfl)
          | false => exact yes (by simp [awant, hk1]) (h2.2 rfl)
      · exact no (by simp [awant, hk1]) h2
      · exact h2.elim
  · exact hc.elim

theorem recsE_ok {n : Nat} {ts : List AV} (h : Has n ts e) : ∀ {cs : List SOper}, recsE cs e hp → ∀ c ∈ cs, RC G P c ⟨ts, hp⟩
  | [], _, c, hc => by simp at hc
  | c :: r, hr, c', hc => by
    rcases List.mem_cons.1 hc with rfl | hc
    · exact recE_ok h hr.1
    · exact recsE_ok h hr.2 c' hc

theorem RunW_ok {n : Nat} : ∀ {l : List (SOper × List SOper)} {K : Hid (Env → List Blk → Prop)} {E : Hid PanT} {K' : St → Prop} {e : Env} {hp : List Blk} {ts : List AV}, dstsOk n (l.map (·.1)) = true → Has n ts e → @RunW G P l K E e hp → (∀ ts e hp, Has n ts e → K.v e hp → K' ⟨ts, hp⟩) → SOpsW G E.v P l K' ⟨ts, hp⟩
  | [], K, E, K', e, hp, ts, hd, h, hr, hk => hk _ _ _ h (by rw [RunW_nil] at hr; exact hr)
  | (o, cs) :: r, K, E, K', e, hp, ts, hd, h, hr, hk => by
    simp only [List.map_cons, dstsOk, Bool.and_eq_true] at hd
    rw [RunW_op] at hr
    have := RunE_ok (n := n) (K' := fun s' => (∀ c ∈ cs, RC G P c s') ∧ SOpsW G E.v P r K' s') (by simp only [dstsOk, Bool.and_eq_true]; exact ⟨hd.1, trivial⟩) h hr fun ts e hp h' k => ⟨recsE_ok h' k.1, RunW_ok hd.2 h' k.2 hk⟩
    exact this

end

/-- Slim code that tells which slots are still wanted. -/
inductive TC where
  | skip (L : List Nat)
  | region (ops : List SOper) (L : List Nat)
  | seq (a b : TC)
  | cond (c : Opd) (a b : TC)
  | block (id : Nat) (a : TC)
  | loop (a : TC)
  | exit (id : Nat) (L : List Nat)
  | ret (L : List Nat)
  | rangeF (x : Opd) (ps : List Nat) (a b : TC) (L : List Nat)
  | region2 (ls : List (List SOper)) (L : List Nat)
  | regionW (l : List (SOper × List SOper)) (L : List Nat)
  | scope (a : TC)
  | lab (L : List Nat)
  | bad

def TC.er : TC → SCode
  | .skip _ => .skip
  | .region ops _ => .region ops
  | .seq a b => .seq a.er b.er
  | .cond c a b => .cond c a.er b.er
  | .block id a => .block id a.er
  | .loop a => .loop a.er
  | .exit id _ => .exit id
  | .ret _ => .ret
  | .rangeF x ps a b _ => .rangeF x ps a.er b.er
  | .region2 ls _ => .region2 ls
  | .regionW l _ => .regionW l
  | .scope a => .scope a.er
  | .lab _ => .lab
  | .bad => .bad

/-- Every slot lies in the frame; loops over functions where they may be. -/
def TC.fitsD (n : Nat) : TC → Bool → Bool
  | .region ops _, _ => dstsOk n ops
  | .region2 ls _, _ => ls.all (dstsOk n)
  | .regionW l _, _ => dstsOk n (l.map (·.1))
  | .seq a b, m => a.fitsD n m && b.fitsD n m
  | .cond _ a b, m => a.fitsD n m && b.fitsD n m
  | .block _ a, m => a.fitsD n m
  | .loop a, m => a.fitsD n m
  | .scope a, m => a.fitsD n m
  | .rangeF _ ps a b _, m => m && (ps.all fun p => decide (p < n)) && a.fitsD n false && b.fitsD n true
  | _, _ => true

def TC.fits (n : Nat) (c : TC) : Bool := c.fitsD n false

/-- What is known of the slots that a region does not write. -/
def eout (ops : List SOper) : Env → Env
  | [] => []
  | (k, v) :: e => if ops.any (fun o => o.dst == some k) then eout ops e else (k, v) :: eout ops e

theorem elook_eout {ops : List SOper} {k : Nat} : ∀ {e : Env} {v : AV}, elook (eout ops e) k = some v → elook e k = some v ∧ ∀ so ∈ ops, so.dst ≠ some k
  | [], v, h => by cases h
  | (j, w) :: e, v, h => by
    simp only [eout] at h
    split at h
    · rename_i hj
      obtain ⟨h1, h2⟩ := elook_eout h
      refine ⟨?_, h2⟩
      simp only [elook]
      split
      · rename_i hkj
        subst hkj
        rw [List.any_eq_true] at hj
        obtain ⟨so, q1, q2⟩ := hj
        exact (h2 so q1 (by simpa using q2)).elim
      · exact h1
    · rename_i hj
      simp only [elook] at h ⊢
      by_cases hkj : j = k
      · rw [if_pos hkj] at h ⊢
        subst hkj
        refine ⟨h, fun so hso q => hj ?_⟩
        rw [List.any_eq_true]
        exact ⟨so, hso, by simp [q]⟩
      · rw [if_neg hkj] at h ⊢
        exact elook_eout h

theorem has_eout {n : Nat} {ts ts' : List AV} {e : Env} {ops : List SOper} (h : Has n ts e) (ha : Agr ops ts ts') : Has n ts' (eout ops e) := by
  refine ⟨ha.1.trans h.1, fun k v hk => ?_⟩
  obtain ⟨h1, h2⟩ := elook_eout hk
  rw [ha.2 k h2]
  exact h.2 k v h1

abbrev Post := Exit → Env → List Blk → Prop

def thenQ [next : Hid (Env → List Blk → Prop)] [Q : Hid Post] : Post
  | .normal, e, hp => next.v e hp
  | x, e, hp => Q.v x e hp

def blkQ (id : Nat) [Q : Hid Post] : Post
  | .exit id', e, hp => if id' = id then Q.v .normal e hp else Q.v (.exit id') e hp
  | x, e, hp => Q.v x e hp

/-- No jump to a label. -/
def scpQ [Q : Hid Post] : Post
  | .goto _, _, _ => False
  | x, e, hp => Q.v x e hp

section
variable {next : Hid (Env → List Blk → Prop)} {Q : Hid Post} {e : Env} {hp : List Blk} {id : Nat}
theorem scpQ_normal : @scpQ Q .normal e hp = Q.v .normal e hp := rfl
theorem scpQ_exit : @scpQ Q (.exit id) e hp = Q.v (.exit id) e hp := rfl
theorem scpQ_ret : @scpQ Q .ret e hp = Q.v .ret e hp := rfl
theorem scpQ_pan {ch : List PanicEntry} : @scpQ Q (.panic ch) e hp = Q.v (.panic ch) e hp := rfl
theorem thenQ_normal : @thenQ next Q .normal e hp = next.v e hp := rfl
theorem thenQ_exit : @thenQ next Q (.exit id) e hp = Q.v (.exit id) e hp := rfl
theorem thenQ_ret : @thenQ next Q .ret e hp = Q.v .ret e hp := rfl
theorem thenQ_pan {ch : List PanicEntry} : @thenQ next Q (.panic ch) e hp = Q.v (.panic ch) e hp := rfl
theorem blkQ_pan {ch : List PanicEntry} : @blkQ id Q (.panic ch) e hp = Q.v (.panic ch) e hp := rfl
theorem blkQ_normal : @blkQ id Q .normal e hp = Q.v .normal e hp := rfl
theorem blkQ_ret : @blkQ id Q .ret e hp = Q.v .ret e hp := rfl
theorem blkQ_same : @blkQ id Q (.exit id) e hp = Q.v .normal e hp := by simp [blkQ]
theorem blkQ_ne {id' : Nat} (h : id' ≠ id) : @blkQ id Q (.exit id') e hp = Q.v (.exit id') e hp := by simp [blkQ, h]
end

/-- A jump out of a loop over a function. -/
def jumpE [Q : Hid Post] : Option Code → Env → List Blk → Prop
  | none, e, hp => Q.v .normal e hp
  | some .ret, e, hp => Q.v .ret e hp
  | some (.exit id), e, hp => Q.v (.exit id) e hp
  | _, _, _ => False

/-- A round's end. -/
def roundE (k : Nat) (ats : List AV) (ps : Array Tmp) (ok : Code → Code → Prop) (K : AV → List Blk → Prop) : Post
  | .normal, _, hp => (∃ st pd, hp[k]? = some (.loopb st pd ats ps ok)) ∧ K (.v (.bool true)) (hp.set k (.loopb .ready none ats ps ok))
  | .ret, _, hp => (∃ st pd, hp[k]? = some (.loopb st pd ats ps ok)) ∧ K (.v (.bool false)) (hp.set k (.loopb .done (some .ret) ats ps ok))
  | .exit id, _, hp => (∃ st pd, hp[k]? = some (.loopb st pd ats ps ok)) ∧ K (.v (.bool false)) (hp.set k (.loopb .done (some (.exit id)) ats ps ok))
  | _, _, _ => False

def setE : Env → List (Nat × AV) → Env
  | e, [] => e
  | e, (k, v) :: r => setE ((k, v) :: e) r

/-- What a call of yield needs. -/
def RoundOk (G : Cells) (P : Program) (k : Nat) (ats : List AV) (ps : List Nat) (ok : Code → Code → Prop) (wa : Post → Env → List Blk → Prop) (wb : Post → Env → List Blk → Prop) (e : Env) : Prop :=
  ∀ (args : List AV) (hp : List Blk) (K : AV → List Blk → Prop), args.length = ps.length → (∃ pd, hp[k]? = some (.loopb .ready pd ats ps.toArray ok)) →
    wa (@thenQ ⟨fun e1 hp1 => (∃ pd, hp1[k]? = some (.loopb .ready pd ats ps.toArray ok)) ∧ ∀ pd, wb (roundE k ats ps.toArray ok K) e1 (hp1.set k (.loopb .busy pd ats ps.toArray ok))⟩ ⟨fun _ _ _ => False⟩) (setE e (ps.zip args)) hp → CallV G P (.yd k) args hp K
/-- The blocks that come before a loop's own: a function's first loops have a mark. -/
def marks (nest : Bool) : List Blk := if nest then [] else [.obj (.deferred (some []))]
/-- A loop over a function; `nest`: in a round of another one. -/
def rangeE (G : Cells) (P : Program) (nest : Bool) (x : Option AV) (ps : List Nat) (L : List Nat) (wa : Post → Env → List Blk → Prop) (wb : Post → Env → List Blk → Prop) [Q : Hid Post] (e : Env) (hp : List Blk) : Prop :=
  ∃ g fs cs, x = some (.fn (.func g) fs cs) ∧ ∀ k, k = (hp ++ marks nest).length → ∀ ats ok, RoundOk G P k ats ps ok wa wb e →
    CallOk G P g (fs ++ [.yd k] ++ cs) (hp ++ marks nest ++ [.loopb .ready none ats ps.toArray ok])
      fun r hp' => ∃ st pd, hp'[k]? = some (.loopb st pd ats ps.toArray ok) ∧ st ≠ .busy ∧ jumpE pd (eonly L e) (hp'.set k (.loopb .exhausted pd ats ps.toArray ok))

def wpE (G : Cells) (P : Program) (nest : Bool) (c : TC) [Q : Hid Post] (e : Env) (hp : List Blk) : Prop := match c with
  | .skip L => Q.v .normal (eonly L e) hp
  | .region ops L => @RunE G P ops ⟨fun e' hp' => Q.v .normal (eonly L e') hp'⟩ ⟨fun ch hp' => Q.v (.panic ch) (eout ops e) hp'⟩ e hp
  | .region2 ls L => ∃ ρ : Nat → AV, ∀ l ∈ ls, @RunE G P (l.map (tell ρ)) ⟨fun e' hp' => Q.v .normal (eonly L e') hp'⟩ ⟨fun ch hp' => Q.v (.panic ch) (eout ls.flatten e) hp'⟩ e hp
  | .regionW l L => @RunW G P l ⟨fun e' hp' => Q.v .normal (eonly L e') hp'⟩ ⟨fun ch hp' => Q.v (.panic ch) (eout (l.map (·.1)) e) hp'⟩ e hp
  | .seq a b => @wpE G P nest a ⟨@thenQ ⟨fun e hp => @wpE G P nest b Q e hp⟩ Q⟩ e hp
  | .cond c a b => @withA _ (evE e c) ⟨fun c => @boolE c ⟨@wpE G P nest a Q e hp⟩ ⟨@wpE G P nest b Q e hp⟩⟩
  | .block id a => @wpE G P nest a ⟨@blkQ id Q⟩ e hp
  | .loop a => ∃ (I : Nat → Env → List Blk → Prop) (m : Nat), I m e hp ∧ ∀ m e hp, I m e hp → @wpE G P nest a ⟨@thenQ ⟨fun e' hp' => ∃ m', m' < m ∧ I m' e' hp'⟩ Q⟩ e hp
  | .exit id L => Q.v (.exit id) (eonly L e) hp
  | .scope a => @wpE G P nest a ⟨@scpQ Q⟩ e hp
  | .lab L => Q.v .normal (eonly L e) hp
  | .bad => False
  | .ret L => Q.v .ret (eonly L e) hp
  | .rangeF x ps a b L => rangeE G P nest (evE e x) ps L (fun Q e hp => @wpE G P true a ⟨Q⟩ e hp) (fun Q e hp => @wpE G P true b ⟨Q⟩ e hp) e hp

section
variable {G : Cells} {P : Program} {nest : Bool} {Q : Hid Post} {e : Env} {hp : List Blk}
theorem wpE_skip (L : List Nat) : @wpE G P nest (.skip L) Q e hp = Q.v .normal (eonly L e) hp := by simp only [wpE]
theorem wpE_region (ops : List SOper) (L : List Nat) : @wpE G P nest (.region ops L) Q e hp = @RunE G P ops ⟨fun e' hp' => Q.v .normal (eonly L e') hp'⟩ ⟨fun ch hp' => Q.v (.panic ch) (eout ops e) hp'⟩ e hp := by simp only [wpE]
theorem wpE_region2 (ls : List (List SOper)) (L : List Nat) : @wpE G P nest (.region2 ls L) Q e hp = ∃ ρ : Nat → AV, ∀ l ∈ ls, @RunE G P (l.map (tell ρ)) ⟨fun e' hp' => Q.v .normal (eonly L e') hp'⟩ ⟨fun ch hp' => Q.v (.panic ch) (eout ls.flatten e) hp'⟩ e hp := by simp only [wpE]
theorem wpE_seq (a b : TC) : @wpE G P nest (.seq a b) Q e hp = @wpE G P nest a ⟨@thenQ ⟨fun e hp => @wpE G P nest b Q e hp⟩ Q⟩ e hp := by simp only [wpE]
theorem wpE_cond (c : Opd) (a b : TC) : @wpE G P nest (.cond c a b) Q e hp = @withA _ (evE e c) ⟨fun c => @boolE c ⟨@wpE G P nest a Q e hp⟩ ⟨@wpE G P nest b Q e hp⟩⟩ := by simp only [wpE]
theorem wpE_block (id : Nat) (a : TC) : @wpE G P nest (.block id a) Q e hp = @wpE G P nest a ⟨@blkQ id Q⟩ e hp := by simp only [wpE]
theorem wpE_loop (a : TC) : @wpE G P nest (.loop a) Q e hp = ∃ (I : Nat → Env → List Blk → Prop) (m : Nat), I m e hp ∧ ∀ m e hp, I m e hp → @wpE G P nest a ⟨@thenQ ⟨fun e' hp' => ∃ m', m' < m ∧ I m' e' hp'⟩ Q⟩ e hp := by simp only [wpE]
theorem wpE_regionW (l : List (SOper × List SOper)) (L : List Nat) : @wpE G P nest (.regionW l L) Q e hp = @RunW G P l ⟨fun e' hp' => Q.v .normal (eonly L e') hp'⟩ ⟨fun ch hp' => Q.v (.panic ch) (eout (l.map (·.1)) e) hp'⟩ e hp := by simp only [wpE]
theorem wpE_scope (a : TC) : @wpE G P nest (.scope a) Q e hp = @wpE G P nest a ⟨@scpQ Q⟩ e hp := by simp only [wpE]
theorem wpE_lab (L : List Nat) : @wpE G P nest (.lab L) Q e hp = Q.v .normal (eonly L e) hp := by simp only [wpE]
theorem wpE_exit (id : Nat) (L : List Nat) : @wpE G P nest (.exit id L) Q e hp = Q.v (.exit id) (eonly L e) hp := by simp only [wpE]
theorem wpE_ret (L : List Nat) : @wpE G P nest (.ret L) Q e hp = Q.v .ret (eonly L e) hp := by simp only [wpE]
theorem wpE_range (x : Opd) (ps : List Nat) (a b : TC) (L : List Nat) : @wpE G P nest (.rangeF x ps a b L) Q e hp = rangeE G P nest (evE e x) ps L (fun Q e hp => @wpE G P true a ⟨Q⟩ e hp) (fun Q e hp => @wpE G P true b ⟨Q⟩ e hp) e hp := by simp only [wpE]
end

theorem sstep_monoE {G : Cells} {P : Program} {E E' : PanT} (hE : ∀ ch hp, E ch hp → E' ch hp) {so : SOper} {K : St → Prop} {s : St} (h : SStep G E P so K s) : SStep G E' P so K s := by
  unfold SStep at h ⊢
  split at h
  · rename_i hw
    rw [if_pos hw]
    split at h
    · exact h
    · exact h
    · exact h
    · exact h
    · exact h
    · exact CallP.mono h (fun _ _ k => k) hE
    · exact CallVP.mono h (fun _ _ k => k) hE
    · split at h
      · exact hE _ _ h
      · exact h
  · rename_i hw
    rw [if_neg hw]
    exact h
theorem sops_mono {G : Cells} {P : Program} {E E' : PanT} (hE : ∀ ch hp, E ch hp → E' ch hp) : ∀ {l : List SOper} {K : St → Prop} {s : St}, SOps G E P l K s → SOps G E' P l K s
  | [], _, _, h => h
  | _ :: _, _, _, h => sstep_monoE hE (SStep.mono h fun _ k => sops_mono hE k)

theorem sopsW_mono {G : Cells} {P : Program} {E E' : PanT} (hE : ∀ ch hp, E ch hp → E' ch hp) : ∀ {l : List (SOper × List SOper)} {K : St → Prop} {s : St}, SOpsW G E P l K s → SOpsW G E' P l K s
  | [], _, _, h => h
  | (o, cs) :: _, _, _, h => sstep_monoE hE (SStep.mono h fun _ k => ⟨k.1, sopsW_mono hE k.2⟩)

theorem has_only {n : Nat} {ts : List AV} {e : Env} (h : Has n ts e) (L : List Nat) : Has n ts (eonly L e) := by
  refine ⟨h.1, ?_⟩
  induction L with
  | nil => intro k v hk; cases hk
  | cons j L ih =>
    intro k v hk
    simp only [eonly] at hk
    cases hj : elook e j with
    | none => rw [hj] at hk; exact ih k v hk
    | some w =>
      rw [hj] at hk
      simp only [econs, elook] at hk
      split at hk
      · rename_i e1; subst e1; cases hk; exact h.2 j _ hj
      · exact ih k v hk

theorem has_setPs {n : Nat} {ps : List Nat} : ∀ {ts : List AV} {e : Env} (_ : Has n ts e) (_ : (ps.all fun p => decide (p < n)) = true) (args : List AV), Has n (setPs ts (ps.toArray.toList.zip args)) (setE e (ps.zip args)) := by
  induction ps with
  | nil => intro ts e h _ args; simpa [setPs, setE] using h
  | cons p r ih =>
    intro ts e h hp args
    simp only [List.all_cons, Bool.and_eq_true] at hp
    cases args with
    | nil => simpa [setPs, setE] using h
    | cons v vs =>
      have := ih (ts := ts.set p v) (e := (p, v) :: e) (has_put (d := some p) h hp.1) hp.2 vs
      simpa [setPs, setE] using this

/-- Is a frame one in which loops are nested? -/
def DN.nest : DN → Bool
  | .rnd _ => true
  | _ => false
def DN.loops : DN → Bool
  | .plain | .dfr _ _ => false
  | _ => true

theorem wpE_ok {G : Cells} {P : Program} (hm : P.follows .mixedOrders = true) {n : Nat} : ∀ {c : TC} {dn : DN} {nest : Bool} {Q : Hid Post} {Q' : Exit → St → Prop} {e : Env} {hp : List Blk} {ts : List AV}, c.fitsD n dn.loops = true → (dn.loops = true → nest = dn.nest) → Has n ts e → @wpE G P nest c Q e hp →
    (∀ x ts e hp, Has n ts e → Q.v x e hp → Q' x ⟨ts, hp⟩) → TriD G P dn c.er Q' ⟨ts, hp⟩ := by
  intro c
  induction c with
  | skip L => intro dn nest Q Q' e hp ts hf hnn h hw hk; rw [wpE_skip] at hw; exact Tri.skip (hk _ _ _ _ (has_only h L) hw)
  | exit id L => intro dn nest Q Q' e hp ts hf hnn h hw hk; rw [wpE_exit] at hw; exact Tri.exit (hk _ _ _ _ (has_only h L) hw)
  | lab L => intro dn nest Q Q' e hp ts hf hnn h hw hk; rw [wpE_lab] at hw; exact Tri.lab (hk _ _ _ _ (has_only h L) hw)
  | bad => intro dn nest Q Q' e hp ts hf hnn h hw hk; unfold wpE at hw; exact hw.elim
  | scope a iha =>
    intro dn nest Q Q' e hp ts hf hnn h hw hk
    rw [wpE_scope] at hw
    refine Tri.scope (iha hf hnn h hw fun x ts' e' hp' h' k => ?_)
    cases x with
    | goto l => exact k.elim
    | _ => exact hk _ _ _ _ h' k
  | ret L => intro dn nest Q Q' e hp ts hf hnn h hw hk; rw [wpE_ret] at hw; exact Tri.ret (hk _ _ _ _ (has_only h L) hw)
  | region ops L =>
    intro dn nest Q Q' e hp ts hf hnn h hw hk
    rw [wpE_region] at hw
    refine Tri.region hm ?_
    refine sops_mono (E := fun ch hp' => Q.v (.panic ch) (eout ops e) hp') (fun ch hp k ts hag => hk _ _ _ _ (has_eout h hag) k) ?_
    exact RunE_ok (E := ⟨fun ch hp' => Q.v (.panic ch) (eout ops e) hp'⟩) hf h hw fun ts' e' hp' h' k => hk _ _ _ _ (has_only h' L) k
  | regionW l L =>
    intro dn nest Q Q' e hp ts hf hnn h hw hk
    rw [wpE_regionW] at hw
    refine Tri.regionW hm ?_
    refine sopsW_mono (E := fun ch hp' => Q.v (.panic ch) (eout (l.map (·.1)) e) hp') (fun ch hp k ts hag => hk _ _ _ _ (has_eout h hag) k) ?_
    exact RunW_ok (E := ⟨fun ch hp' => Q.v (.panic ch) (eout (l.map (·.1)) e) hp'⟩) hf h hw fun ts' e' hp' h' k => hk _ _ _ _ (has_only h' L) k
  | seq a b iha ihb =>
    intro dn nest Q Q' e hp ts hf hnn h hw hk
    simp only [TC.fitsD, Bool.and_eq_true] at hf
    rw [wpE_seq] at hw
    refine Tri.seq (iha hf.1 hnn h hw fun x ts' e' hp' h' k => ?_)
    cases x with
    | normal => exact ihb hf.2 hnn h' k hk
    | _ => exact hk _ _ _ _ h' k
  | cond o a b iha ihb =>
    intro dn nest Q Q' e hp ts hf hnn h hw hk
    simp only [TC.fitsD, Bool.and_eq_true] at hf
    rw [wpE_cond] at hw
    obtain ⟨v, h1, h2⟩ := hw
    have hv := evE_ok h h1
    dsimp only at h2
    unfold boolE at h2
    split at h2
    · rename_i b'
      refine Tri.cond hv ?_
      cases b' with
      | true => exact iha hf.1 hnn h (h2.1 rfl) hk
      | false => exact ihb hf.2 hnn h (h2.2 rfl) hk
    · exact h2.elim
  | block id a iha =>
    intro dn nest Q Q' e hp ts hf hnn h hw hk
    rw [wpE_block] at hw
    refine Tri.block (iha hf hnn h hw fun x ts' e' hp' h' k => ?_)
    cases x with
    | exit id' =>
      simp only [blkQ] at k
      simp only [inBlk]
      split
      · rename_i e1; rw [if_pos e1] at k; exact hk _ _ _ _ h' k
      · rename_i e1; rw [if_neg e1] at k; exact hk _ _ _ _ h' k
    | _ => exact hk _ _ _ _ h' k
  | loop a iha =>
    intro dn nest Q Q' e hp ts hf hnn h hw hk
    rw [wpE_loop] at hw
    obtain ⟨I, m, h0, hr⟩ := hw
    refine Tri.loopI (fun m s => ∃ e, Has n s.ts e ∧ I m e s.hp) ⟨e, h, h0⟩ fun m s ⟨e', h', hI⟩ => ?_
    refine iha hf hnn h' (hr m e' s.hp hI) fun x ts2 e2 hp2 h2 k => ?_
    cases x with
    | normal =>
      obtain ⟨m', hlt, hI'⟩ := k
      exact ⟨m', hlt, e2, h2, hI'⟩
    | _ => exact hk _ _ _ _ h2 k
  | region2 ls L =>
    intro dn nest Q Q' e hp ts hf hnn h hw hk
    simp only [TC.fitsD, List.all_eq_true] at hf
    rw [wpE_region2] at hw
    obtain ⟨ρ, hw⟩ := hw
    refine Tri.region2 hm ρ fun l hl => ?_
    refine sops_mono (E := fun ch hp' => Q.v (.panic ch) (eout ls.flatten e) hp') (fun ch hp k ts hag => hk _ _ _ _ (has_eout h hag) k) ?_
    exact RunE_ok (E := ⟨fun ch hp' => Q.v (.panic ch) (eout ls.flatten e) hp'⟩) (by rw [dstsOk_tell]; exact hf l hl) h (hw l hl) fun ts' e' hp' h' k => hk _ _ _ _ (has_only h' L) k
  | rangeF x ps a b L iha ihb =>
    intro dn nest Q Q' e hp ts hf hnn h hw hk
    simp only [TC.fitsD, Bool.and_eq_true] at hf
    obtain ⟨⟨⟨hm1, hps⟩, hfa⟩, hfb⟩ := hf
    rw [wpE_range] at hw
    obtain ⟨g, fs, cs, hx, hr⟩ := hw
    have hfin : ∀ {pd : Option Code} {hp' : List Blk}, @jumpE Q pd (eonly L e) hp' → jumpQ Q' pd ⟨ts, hp'⟩ := fun {pd hp'} h3 => by
      cases pd with
      | none => exact hk _ _ _ _ (has_only h L) h3
      | some c =>
        cases c with
        | ret => exact hk _ _ _ _ (has_only h L) h3
        | exit id => exact hk _ _ _ _ (has_only h L) h3
        | _ => exact h3.elim
    have hround : ∀ k, RoundOk G P k ts ps (roundOk P a.er b.er) (fun Q e hp => @wpE G P true a ⟨Q⟩ e hp) (fun Q e hp => @wpE G P true b ⟨Q⟩ e hp) e := fun kk args hp' K hlen ⟨pd, hk'⟩ hwa => by
      refine ⟨⟨_, _, _, _, _, hk'⟩, yield_ok hk' (by simpa using hlen) ?_⟩
      refine iha (dn := .plain) hfa (fun q => (by cases q)) (has_setPs h hps args) hwa fun x ts1 e1 hp1 h1 k => ?_
      cases x with
      | normal =>
        obtain ⟨k1, k2⟩ := k
        refine ⟨k1, fun pd => ihb (dn := .rnd kk) hfb (fun _ => rfl) h1 (k2 pd) fun x ts2 e2 hp2 h2 k => ?_⟩
        cases x with
        | normal => exact k
        | ret => exact k
        | exit id => exact k
        | _ => exact k.elim
      | _ => exact k.elim
    cases dn with
    | plain => cases hm1
    | dfr g ks => cases hm1
    | fn n0 =>
      have : nest = false := hnn rfl
      subst this
      have hr' := hr (hp.length + 1) (by simp [marks]) ts (roundOk P a.er b.er) (hround _)
      simp only [marks, Bool.false_eq_true, if_false] at hr'
      exact Tri.range (evE_ok h hx) (CallOk.mono hr' fun r hp' ⟨st, pd, h1, h2, h3⟩ => ⟨st, pd, h1, h2, hfin h3⟩)
    | rnd k =>
      have : nest = true := hnn rfl
      subst this
      have hr' := hr hp.length (by simp [marks]) ts (roundOk P a.er b.er) (hround _)
      simp only [marks, if_true, List.append_nil] at hr'
      exact Tri.rangeN (evE_ok h hx) (CallOk.mono hr' fun r hp' ⟨st, pd, h1, h2, h3⟩ => ⟨st, pd, h1, h2, hfin h3⟩)

/-! Functions. -/

def rE (e : Env) (hp : List Blk) : RV → Option AV
  | .s t => elook e t
  | .c t ag n => (elook e t).bind fun p => aload hp ag n p

def rsE (e : Env) (hp : List Blk) : List RV → Option (List AV)
  | [] => some []
  | x :: r => (rE e hp x).bind fun a => (rsE e hp r).map fun l => a :: l

def resE (e : Env) (hp : List Blk) (rs : List RV) : Option AV := (rsE e hp rs).map fun l => match l with
  | [x] => x
  | l => .tup l

def retQ (rs : List RV) [K : Hid (AV → List Blk → Prop)] [E : Hid PanT] : Post
  | .normal, e, hp => @withA _ (resE e hp rs) ⟨fun r => K.v r hp⟩
  | .ret, e, hp => @withA _ (resE e hp rs) ⟨fun r => K.v r hp⟩
  | .panic ch, _, hp => E.v ch hp
  | _, _, _ => False
section
variable {rs : List RV} {K : Hid (AV → List Blk → Prop)} {E : Hid PanT} {e : Env} {hp : List Blk}
theorem retQ_normal : @retQ rs K E .normal e hp = @withA _ (resE e hp rs) ⟨fun r => K.v r hp⟩ := rfl
theorem retQ_ret : @retQ rs K E .ret e hp = @withA _ (resE e hp rs) ⟨fun r => K.v r hp⟩ := rfl
theorem retQ_pan {ch : List PanicEntry} : @retQ rs K E (.panic ch) e hp = E.v ch hp := rfl
end

def argE : Nat → List AV → Env
  | _, [] => []
  | i, a :: r => (i, a) :: argE (i + 1) r

theorem argE_get : ∀ {l : List AV} {i k : Nat} {v : AV}, elook (argE i l) k = some v → i ≤ k ∧ l[k - i]? = some v
  | [], i, k, v, h => by cases h
  | a :: r, i, k, v, h => by
    simp only [argE, elook] at h
    split at h
    · rename_i e; subst e; cases h; exact ⟨Nat.le_refl _, by simp⟩
    · rename_i e
      obtain ⟨h1, h2⟩ := argE_get h
      refine ⟨by omega, ?_⟩
      rw [show k - i = (k - (i + 1)) + 1 by omega, List.getElem?_cons_succ]
      exact h2

theorem has_args {args : List AV} {n : Nat} (h : args.length ≤ n) : Has n (enterS args n) (argE 0 args) := by
  refine ⟨by simp [enterS]; omega, fun k v hk => ?_⟩
  obtain ⟨_, h2⟩ := argE_get hk
  rw [Nat.sub_zero] at h2
  unfold enterS
  rw [List.getElem?_append_left (List.getElem?_eq_some_iff.1 h2).1]
  exact h2

theorem resE_ok {n : Nat} {ts : List AV} {e : Env} (h : Has n ts e) {hp : List Blk} {rs : List RV} {r : AV} (hr : resE e hp rs = some r) : resV ⟨ts, hp⟩ rs = some r := by
  have key : ∀ {rs : List RV} {l : List AV}, rsE e hp rs = some l → resAs ⟨ts, hp⟩ rs = some l := by
    intro rs
    induction rs with
    | nil => intro l hl; cases hl; rfl
    | cons x r ih =>
      intro l hl
      simp only [rsE, Option.bind_eq_some_iff, Option.map_eq_some_iff] at hl
      obtain ⟨a, h1, l', h2, rfl⟩ := hl
      have hx : resA ⟨ts, hp⟩ x = some a := by
        cases x with
        | s t => simp only [resA, h.2 _ _ h1, Option.getD_some]
        | c t ag m =>
          simp only [rE, Option.bind_eq_some_iff] at h1
          obtain ⟨p, q1, q2⟩ := h1
          simp only [resA, h.2 _ _ q1, Option.getD_some, q2]
      simp only [resAs, hx, ih h2]
  simp only [resE, Option.map_eq_some_iff] at hr
  obtain ⟨l, h1, h2⟩ := hr
  unfold resV
  rw [key h1]
  split at h2
  · subst h2; rfl
  · rename_i hne
    subst h2
    split
    · rename_i e1; cases e1; exact (hne _ rfl).elim
    · rename_i e1; cases e1; rfl
    · rename_i e1; cases e1

/-- A function, by its body over environments. -/
theorem fnEP {G : Cells} {P : Program} (hm : P.follows .mixedOrders = true) {pu : Opts} {f : FuncId} {n : Nat} {rs : List RV} {c : TC} (F : slimFn P pu f = some ⟨n, rs, c.er⟩) (hf : c.fits n = true) {args : List AV} (hn : args.length ≤ n) {hp : List Blk} {K : AV → List Blk → Prop} {E : PanT}
    (h : @wpE G P false c ⟨@retQ rs ⟨K⟩ ⟨E⟩⟩ (argE 0 args) hp) : CallP G P f args hp K E := by
  refine fn_okP F (wpE_ok (dn := .plain) hm hf (fun q => (by cases q)) (has_args hn) h fun x ts e hp' h' k => ?_)
  cases x with
  | normal =>
    obtain ⟨r, h1, h2⟩ := k
    exact ⟨r, resE_ok h' h1, h2⟩
  | ret =>
    obtain ⟨r, h1, h2⟩ := k
    exact ⟨r, resE_ok h' h1, h2⟩
  | panic ch => exact k
  | _ => exact k.elim

theorem fnE {G : Cells} {P : Program} (hm : P.follows .mixedOrders = true) {pu : Opts} {f : FuncId} {n : Nat} {rs : List RV} {c : TC} (F : slimFn P pu f = some ⟨n, rs, c.er⟩) (hf : c.fits n = true) {args : List AV} (hn : args.length ≤ n) {hp : List Blk} {K : AV → List Blk → Prop}
    (h : @wpE G P false c ⟨@retQ rs ⟨K⟩ ⟨fun _ _ => False⟩⟩ (argE 0 args) hp) : CallOk G P f args hp K := (fnEP hm F hf hn h).ok

/-- The end of a function with loops over functions. -/
def retM (n0 : Nat) (rs : List RV) [K : Hid (AV → List Blk → Prop)] [E : Hid PanT] : Post
  | .normal, e, hp => ∀ hp', EndRel n0 hp hp' → @withA _ (resE e hp' rs) ⟨fun r => K.v r hp'⟩
  | .ret, e, hp => ∀ hp', EndRel n0 hp hp' → @withA _ (resE e hp' rs) ⟨fun r => K.v r hp'⟩
  | .panic ch, _, hp => ∀ hp', EndRel n0 hp hp' → E.v ch hp'
  | _, _, _ => False
section
variable {n0 : Nat} {rs : List RV} {K : Hid (AV → List Blk → Prop)} {E : Hid PanT} {e : Env} {hp : List Blk}
theorem retM_normal : @retM n0 rs K E .normal e hp = ∀ hp', EndRel n0 hp hp' → @withA _ (resE e hp' rs) ⟨fun r => K.v r hp'⟩ := rfl
theorem retM_ret : @retM n0 rs K E .ret e hp = ∀ hp', EndRel n0 hp hp' → @withA _ (resE e hp' rs) ⟨fun r => K.v r hp'⟩ := rfl
theorem retM_pan {ch : List PanicEntry} : @retM n0 rs K E (.panic ch) e hp = ∀ hp', EndRel n0 hp hp' → E.v ch hp' := rfl
end

/-- A function with loops over functions, by its body over environments. -/
theorem fnEPM {G : Cells} {P : Program} (hm : P.follows .mixedOrders = true) {pu : Opts} {f : FuncId} {n : Nat} {rs : List RV} {c : TC} (F : slimFn P pu f = some ⟨n, rs, c.er⟩) (hf : c.fitsD n true = true) {args : List AV} (hn : args.length ≤ n) {hp : List Blk} {K : AV → List Blk → Prop} {E : PanT}
    (h : @wpE G P false c ⟨@retM hp.length rs ⟨K⟩ ⟨E⟩⟩ (argE 0 args) hp) : CallP G P f args hp K E := by
  refine fn_okPM F (wpE_ok (dn := .fn hp.length) hm hf (fun _ => rfl) (has_args hn) h fun x ts e hp' h' k => ?_)
  cases x with
  | normal =>
    refine fun hp2 he => ?_
    obtain ⟨r, h1, h2⟩ := k hp2 he
    exact ⟨r, resE_ok h' h1, h2⟩
  | ret =>
    refine fun hp2 he => ?_
    obtain ⟨r, h1, h2⟩ := k hp2 he
    exact ⟨r, resE_ok h' h1, h2⟩
  | panic ch => exact k
  | _ => exact k.elim

theorem fnEM {G : Cells} {P : Program} (hm : P.follows .mixedOrders = true) {pu : Opts} {f : FuncId} {n : Nat} {rs : List RV} {c : TC} (F : slimFn P pu f = some ⟨n, rs, c.er⟩) (hf : c.fitsD n true = true) {args : List AV} (hn : args.length ≤ n) {hp : List Blk} {K : AV → List Blk → Prop}
    (h : @wpE G P false c ⟨@retM hp.length rs ⟨K⟩ ⟨fun _ _ => False⟩⟩ (argE 0 args) hp) : CallOk G P f args hp K := (fnEPM hm F hf hn h).ok

/-- The end of a deferred closure. -/
def retR [K : Hid (List Blk → Prop)] : Post
  | .normal, _, hp => K.v hp
  | .ret, _, hp => K.v hp
  | _, _, _ => False
section
variable {K : Hid (List Blk → Prop)} {e : Env} {hp : List Blk}
theorem retR_normal : @retR K .normal e hp = K.v hp := rfl
theorem retR_ret : @retR K .ret e hp = K.v hp := rfl
end

/-- A deferred closure, by its body over environments. -/
theorem dcallE {G : Cells} {P : Program} (hm : P.follows .mixedOrders = true) {O : Opts} {g : FuncId} {n d0 d1 : Nat} {c : TC} (F : slimRec P O g = some ⟨n, d0, d1, c.er⟩) (hf : c.fits n = true) (hd : d0 < n ∧ d1 < n) {args : List AV} (hn : args.length ≤ n) {hp : List Blk} {x : Option AV} {v : Option Value} {K : List Blk → Prop}
    (hx : match x, v with | none, none => True | some x, some v => plainI x = true ∧ concI x = some v | _, _ => False)
    (h : @wpE G P false c ⟨@retR ⟨K⟩⟩ ((d1, recV x) :: (d0, recV x) :: argE 0 args) hp) : DCall G P g args hp v K := by
  refine dcall_of F hx (wpE_ok (dn := .plain) hm hf (fun q => (by cases q)) ?_ h fun x ts e hp' h' k => ?_)
  · have := has_put (d := some d1) (v := recV x) (has_put (d := some d0) (v := recV x) (has_args hn) (by simpa using hd.1)) (by simpa using hd.2)
    exact this
  · cases x with
    | normal => exact ⟨Or.inl rfl, k⟩
    | ret => exact ⟨Or.inr rfl, k⟩
    | _ => exact k.elim

theorem DCall.mono {G : Cells} {P : Program} {g : FuncId} {args : List AV} {hp : List Blk} {x : Option Value} {K K' : List Blk → Prop} (h : DCall G P g args hp x K) (hk : ∀ hp, K hp → K' hp) : DCall G P g args hp x K' :=
  ⟨h.1, fun base w0 C M w args' hs hr => CallsDIn.mono (h.2 base w0 C M w args' hs hr) fun e u' w' ⟨C', M', hp', v, k, rest⟩ => ⟨C', M', hp', v, hk _ k, rest⟩⟩

/-- The end of a function that defers such a closure. -/
def retD (G : Cells) (P : Program) (g : FuncId) (ks : List Nat) (rs : List RV) [K : Hid (AV → List Blk → Prop)] : Post
  | .normal, e, hp => DCall G P g (ks.map fun k => .mp k 0) hp none fun hp' => @withA _ (resE e hp' rs) ⟨fun r => K.v r hp'⟩
  | .ret, e, hp => DCall G P g (ks.map fun k => .mp k 0) hp none fun hp' => @withA _ (resE e hp' rs) ⟨fun r => K.v r hp'⟩
  | .panic ch, e, hp => ∃ v, ch = [{ v := v, recovered := false }] ∧ DCall G P g (ks.map fun k => .mp k 0) hp (some v) fun hp' => @withA _ (resE e hp' rs) ⟨fun r => K.v r hp'⟩
  | _, _, _ => False

/-- A function that defers such a closure, by its body over environments. -/
theorem fnED {G : Cells} {P : Program} (hm : P.follows .mixedOrders = true) {O : Opts} {f : FuncId} {n t : Nat} {rs : List RV} {g : FuncId} {caps : List Opd} {a b : TC} (F : slimDef P O f = some ⟨n, rs, a.er, t, g, caps, b.er⟩) (hfa : a.fits n = true) (hfb : b.fits n = true) (ht : t < n) {args : List AV} (hn : args.length ≤ n) {hp : List Blk} {K : AV → List Blk → Prop}
    (h : @wpE G P false a ⟨@thenQ ⟨fun e hp => ∃ ks : List Nat, evsE e caps = some (ks.map fun k => .mp k 0) ∧ @wpE G P false b ⟨@retD G P g ks rs ⟨K⟩⟩ ((t, .fn (.func g) [] (ks.map fun k => .mp k 0)) :: e) hp⟩ ⟨fun _ _ _ => False⟩⟩ (argE 0 args) hp) : CallOk G P f args hp K := by
  refine fn_okD F (wpE_ok (dn := .plain) hm hfa (fun q => (by cases q)) (has_args hn) h fun x ts e hp' h' k => ?_)
  cases x with
  | normal =>
    obtain ⟨ks, h1, h2⟩ := k
    refine ⟨rfl, by rw [h'.1]; exact ht, ks, evsE_ok h' h1, wpE_ok (dn := .dfr g ks) hm hfb (fun q => (by cases q)) ?_ h2 fun x ts2 e2 hp2 h3 k => ?_⟩
    · exact has_put (d := some t) h' (by simpa using ht)
    · have res : ∀ hp', @withA _ (resE e2 hp' rs) ⟨fun r => K r hp'⟩ → ∃ r, resV ⟨ts2, hp'⟩ rs = some r ∧ K r hp' := fun hp' ⟨r, q1, q2⟩ => ⟨r, resE_ok h3 q1, q2⟩
      cases x with
      | normal =>
        have k' : DCall G P g (ks.map fun k => .mp k 0) hp2 none fun hp' => @withA _ (resE e2 hp' rs) ⟨fun r => K r hp'⟩ := k
        exact DCall.mono k' res
      | ret =>
        have k' : DCall G P g (ks.map fun k => .mp k 0) hp2 none fun hp' => @withA _ (resE e2 hp' rs) ⟨fun r => K r hp'⟩ := k
        exact DCall.mono k' res
      | panic ch =>
        obtain ⟨v, q1, q2⟩ := k
        exact ⟨v, q1, DCall.mono q2 res⟩
      | _ => exact k.elim
  | _ => exact k.elim

/-! Rules. -/

theorem wpE_mono {G : Cells} {P : Program} {nest : Bool} : ∀ {c : TC} {Q Q' : Hid Post} {e : Env} {hp : List Blk}, @wpE G P nest c Q e hp → (∀ x e hp, Q.v x e hp → Q'.v x e hp) → @wpE G P nest c Q' e hp := by
  have instr : ∀ {i : SInstr} {F F' : Hid (AV → List Blk → Prop)} {E E' : Hid PanT} {e : Env} {hp : List Blk}, @instrE G P i F E e hp → (∀ v hp, F.v v hp → F'.v v hp) → (∀ ch hp, E.v ch hp → E'.v ch hp) → @instrE G P i F' E' e hp := by
    intro i F F' E E' e hp h hF hE
    cases i with
    | op o => obtain ⟨v, h1, h2⟩ := h; exact ⟨v, h1, hF _ _ h2⟩
    | call f args => obtain ⟨az, h1, h2⟩ := h; exact ⟨az, h1, CallOk.mono h2 hF⟩
    | callv x args =>
      obtain ⟨x', h0, az, h1, h2⟩ := h
      exact ⟨x', h0, az, h1, CallV.mono h2 hF⟩
    | pcall f args => obtain ⟨az, h1, bs, r', h2, h3, h4⟩ := h; exact ⟨az, h1, bs, r', h2, h3, hF _ _ h4⟩
    | pcallr f args r => obtain ⟨az, h1, bs, h2, h3, h4⟩ := h; exact ⟨az, h1, bs, h2, h3, hF _ _ h4⟩
    | callp f args => obtain ⟨az, h1, h2⟩ := h; exact ⟨az, h1, CallP.mono h2 hF hE⟩
    | callvp x args =>
      obtain ⟨x', h0, az, h1, h2⟩ := h
      exact ⟨x', h0, az, h1, CallVP.mono h2 hF hE⟩
    | pan x => obtain ⟨v, h1, h2⟩ := h; exact ⟨v, h1, hE _ _ h2⟩
  have boole : ∀ {v : AV} {A B A' B' : Hid Prop}, @boolE v A B → (A.v → A'.v) → (B.v → B'.v) → @boolE v A' B' := by
    intro v A B A' B' h h1 h2
    unfold boolE at h ⊢
    split at h
    · exact ⟨fun q => h1 (h.1 q), fun q => h2 (h.2 q)⟩
    · exact h.elim
  have guard : ∀ {w : Bool} {v : AV} {A B A' B' : Hid Prop}, @guardE w v A B → (A.v → A'.v) → (B.v → B'.v) → @guardE w v A' B' := by
    intro w v A B A' B' h h1 h2
    unfold guardE at h ⊢
    split at h
    · cases w with
      | true => exact ⟨fun q => h1 (h.1 q), fun q => h2 (h.2 q)⟩
      | false => exact ⟨fun q => h2 (h.1 q), fun q => h1 (h.2 q)⟩
    · exact h2 h
    · exact h.elim
  have run : ∀ {l : List SOper} {K K' : Hid (Env → List Blk → Prop)} {E E' : Hid PanT} {e : Env} {hp : List Blk}, @RunE G P l K E e hp → (∀ e hp, K.v e hp → K'.v e hp) → (∀ ch hp, E.v ch hp → E'.v ch hp) → @RunE G P l K' E' e hp := by
    intro l
    induction l with
    | nil => intro K K' E E' e hp h hk hE; rw [RunE_nil] at h ⊢; exact hk _ _ h
    | cons o r ih =>
      intro K K' E E' e hp h hk hE
      obtain ⟨d, g, i⟩ := o
      rcases g with _ | ⟨k, w⟩
      · rw [RunE_op] at h ⊢; exact instr h (fun v hp' q => ih q hk hE) hE
      · rw [RunE_gd] at h ⊢; obtain ⟨g, h1, h2⟩ := h; exact ⟨g, h1, guard h2 (fun q => instr q (fun v hp' q => ih q hk hE) hE) fun q => ih q hk hE⟩
  have runW : ∀ {l : List (SOper × List SOper)} {K K' : Hid (Env → List Blk → Prop)} {E E' : Hid PanT} {e : Env} {hp : List Blk}, @RunW G P l K E e hp → (∀ e hp, K.v e hp → K'.v e hp) → (∀ ch hp, E.v ch hp → E'.v ch hp) → @RunW G P l K' E' e hp := by
    intro l
    induction l with
    | nil => intro K K' E E' e hp h hk hE; rw [RunW_nil] at h ⊢; exact hk _ _ h
    | cons o r ih =>
      intro K K' E E' e hp h hk hE
      obtain ⟨o, cs⟩ := o
      rw [RunW_op] at h ⊢
      exact run h (fun e hp k => ⟨k.1, ih k.2 hk hE⟩) hE
  intro c
  induction c with
  | skip L => intro Q Q' e hp h hq; rw [wpE_skip] at h ⊢; exact hq _ _ _ h
  | exit id L => intro Q Q' e hp h hq; rw [wpE_exit] at h ⊢; exact hq _ _ _ h
  | lab L => intro Q Q' e hp h hq; rw [wpE_lab] at h ⊢; exact hq _ _ _ h
  | bad => intro Q Q' e hp h hq; unfold wpE at h; exact h.elim
  | scope a iha =>
    intro Q Q' e hp h hq
    rw [wpE_scope] at h ⊢
    refine iha h fun x e' hp' k => ?_
    cases x with
    | goto l => exact k.elim
    | _ => exact hq _ _ _ k
  | ret L => intro Q Q' e hp h hq; rw [wpE_ret] at h ⊢; exact hq _ _ _ h
  | region ops L => intro Q Q' e hp h hq; rw [wpE_region] at h ⊢; exact run h (fun e' hp' k => hq _ _ _ k) fun ch hp' k => hq _ _ _ k
  | regionW l L => intro Q Q' e hp h hq; rw [wpE_regionW] at h ⊢; exact runW h (fun e' hp' k => hq _ _ _ k) fun ch hp' k => hq _ _ _ k
  | seq a b iha ihb =>
    intro Q Q' e hp h hq
    rw [wpE_seq] at h ⊢
    refine iha h fun x e' hp' k => ?_
    cases x with
    | normal => exact ihb k hq
    | _ => exact hq _ _ _ k
  | cond o a b iha ihb => intro Q Q' e hp h hq; rw [wpE_cond] at h ⊢; obtain ⟨v, h1, h2⟩ := h; exact ⟨v, h1, boole h2 (fun q => iha q hq) (fun q => ihb q hq)⟩
  | block id a iha =>
    intro Q Q' e hp h hq
    rw [wpE_block] at h ⊢
    refine iha h fun x e' hp' k => ?_
    cases x with
    | exit id' =>
      simp only [blkQ] at k ⊢
      split at k
      · rename_i e1; rw [if_pos e1]; exact hq _ _ _ k
      · rename_i e1; rw [if_neg e1]; exact hq _ _ _ k
    | _ => exact hq _ _ _ k
  | loop a iha =>
    intro Q Q' e hp h hq
    rw [wpE_loop] at h ⊢
    obtain ⟨I, m, h0, hr⟩ := h
    refine ⟨I, m, h0, fun m e hp hI => iha (hr m e hp hI) fun x e' hp' k => ?_⟩
    cases x with
    | normal => exact k
    | _ => exact hq _ _ _ k
  | region2 ls L => intro Q Q' e hp h hq; rw [wpE_region2] at h ⊢; obtain ⟨ρ, h⟩ := h; exact ⟨ρ, fun l hl => run (h l hl) (fun e' hp' k => hq _ _ _ k) fun ch hp' k => hq _ _ _ k⟩
  | rangeF x ps a b L iha ihb =>
    intro Q Q' e hp h hq
    rw [wpE_range] at h ⊢
    obtain ⟨g, fs, cs, hx, hr⟩ := h
    refine ⟨g, fs, cs, hx, fun k hk ats ok hR => CallOk.mono (hr k hk ats ok hR) fun r hp' ⟨st, pd, h1, h2, h3⟩ => ⟨st, pd, h1, h2, ?_⟩⟩
    cases pd with
    | none => exact hq _ _ _ h3
    | some c =>
      cases c with
      | ret => exact hq _ _ _ h3
      | exit id => exact hq _ _ _ h3
      | _ => exact h3.elim

section
variable {G : Cells} {P : Program} {nest : Bool} {Q : Hid Post} {e : Env} {hp : List Blk}

/-- Code with a middle. -/
theorem wpE_mid {a b : TC} (M : Env → List Blk → Prop) (h1 : @wpE G P nest a ⟨@thenQ ⟨M⟩ ⟨fun _ _ _ => False⟩⟩ e hp) (h2 : ∀ e hp, M e hp → @wpE G P nest b Q e hp) : @wpE G P nest (.seq a b) Q e hp := by
  rw [wpE_seq]
  refine wpE_mono (c := a) h1 fun x e hp k => ?_
  cases x with
  | normal => exact h2 _ _ k
  | _ => exact k.elim

/-- The same, where the first part may return. -/
theorem wpE_midR {a b : TC} (M : Env → List Blk → Prop) (h1 : @wpE G P nest a ⟨@thenQ ⟨M⟩ Q⟩ e hp) (h2 : ∀ e hp, M e hp → @wpE G P nest b Q e hp) : @wpE G P nest (.seq a b) Q e hp := by
  rw [wpE_seq]
  refine wpE_mono (c := a) h1 fun x e hp k => ?_
  cases x with
  | normal => exact h2 _ _ k
  | _ => exact k

/-- A loop that is left when it has run n times. -/
theorem wpE_count {x : TC} (I : Nat → Env → List Blk → Prop) (n : Nat) (h0 : I 0 e hp) (round : ∀ i e hp, i < n → I i e hp → @wpE G P nest x ⟨@thenQ ⟨I (i + 1)⟩ Q⟩ e hp) (last : ∀ e hp, I n e hp → @wpE G P nest x ⟨@thenQ ⟨fun _ _ => False⟩ Q⟩ e hp) : @wpE G P nest (.loop x) Q e hp := by
  rw [wpE_loop]
  refine ⟨fun k e hp => ∃ i, k = n - i ∧ i ≤ n ∧ I i e hp, _, ⟨0, rfl, Nat.zero_le _, h0⟩, fun k e hp ⟨i, hk, hi, hI⟩ => ?_⟩
  rcases Nat.lt_or_ge i n with hl | hl
  · refine wpE_mono (round i e hp hl hI) fun x e' hp' q => ?_
    cases x with
    | normal => exact ⟨n - (i + 1), by omega, i + 1, rfl, hl, q⟩
    | _ => exact q
  · have e1 : i = n := by omega
    subst e1
    refine wpE_mono (last e hp hI) fun x e' hp' q => ?_
    cases x with
    | normal => exact q.elim
    | _ => exact q

/-- A loop with a measure. -/
theorem wpE_while {x : TC} (I : Nat → Env → List Blk → Prop) {n : Nat} (h0 : I n e hp) (round : ∀ n e hp, I n e hp → @wpE G P nest x ⟨@thenQ ⟨fun e' hp' => ∃ m, m < n ∧ I m e' hp'⟩ Q⟩ e hp) : @wpE G P nest (.loop x) Q e hp := by
  rw [wpE_loop]
  exact ⟨I, n, h0, round⟩

end


/-- What wk rewrites by. -/
theorem wkA : type_of% @wpE_skip ∧ type_of% @wpE_region ∧ type_of% @wpE_region2 ∧ type_of% @wpE_seq ∧ type_of% @wpE_cond ∧ type_of% @wpE_block ∧ type_of% @wpE_exit ∧ type_of% @wpE_ret ∧ type_of% @RunE_nil ∧ type_of% @RunE_op ∧ type_of% @RunE_gd ∧ type_of% @guardE_yes ∧ type_of% @guardE_no ∧ type_of% @guardE_undef ∧ type_of% @hid_v ∧ type_of% @withA_some ∧ type_of% @withV_some ∧ type_of% @BoolCase_true ∧ type_of% @BoolCase_false ∧ type_of% @boolE_bool ∧ type_of% @thenQ_normal ∧ type_of% @thenQ_exit ∧ type_of% @thenQ_ret ∧ type_of% @blkQ_normal ∧ type_of% @blkQ_ret ∧ type_of% @blkQ_same ∧ type_of% @blkQ_ne ∧ type_of% @retQ_normal ∧ type_of% @retQ_ret ∧ type_of% @callvH_fn ∧ type_of% @lenStep_sl ∧ type_of% @absl_one ∧ type_of% @absl_2 ∧ type_of% @absl_3 ∧ type_of% @absl_4 ∧ type_of% @absl_8 ∧ type_of% @afa_fp ∧ type_of% @afa_mp ∧ type_of% @anil_mp ∧ type_of% @anil_fp ∧ type_of% @acv_int ∧ type_of% @abin_add ∧ type_of% @abin_sub ∧ type_of% @abin_mul ∧ type_of% @abin_eql ∧ type_of% @abin_neq ∧ type_of% @abin_lss ∧ type_of% @abin_leq ∧ type_of% @abin_gtr ∧ type_of% @abin_geq ∧ type_of% @abin_quo ∧ type_of% @abin_rem ∧ type_of% @thenQ_pan ∧ type_of% @blkQ_pan ∧ type_of% @retQ_pan ∧ type_of% @callvPH_fn ∧ type_of% @wpE_regionW ∧ type_of% @RunW_nil ∧ type_of% @RunW_op ∧ type_of% @wpE_scope ∧ type_of% @wpE_lab ∧ type_of% @scpQ_normal ∧ type_of% @scpQ_exit ∧ type_of% @scpQ_ret ∧ type_of% @scpQ_pan :=
  ⟨@wpE_skip, @wpE_region, @wpE_region2, @wpE_seq, @wpE_cond, @wpE_block, @wpE_exit, @wpE_ret, @RunE_nil, @RunE_op, @RunE_gd, @guardE_yes, @guardE_no, @guardE_undef, @hid_v, @withA_some, @withV_some, @BoolCase_true, @BoolCase_false, @boolE_bool, @thenQ_normal, @thenQ_exit, @thenQ_ret, @blkQ_normal, @blkQ_ret, @blkQ_same, @blkQ_ne, @retQ_normal, @retQ_ret, @callvH_fn, @lenStep_sl, @absl_one, @absl_2, @absl_3, @absl_4, @absl_8, @afa_fp, @afa_mp, @anil_mp, @anil_fp, @acv_int, @abin_add, @abin_sub, @abin_mul, @abin_eql, @abin_neq, @abin_lss, @abin_leq, @abin_gtr, @abin_geq, @abin_quo, @abin_rem, @thenQ_pan, @blkQ_pan, @retQ_pan, @callvPH_fn, @wpE_regionW, @RunW_nil, @RunW_op, @wpE_scope, @wpE_lab, @scpQ_normal, @scpQ_exit, @scpQ_ret, @scpQ_pan⟩

end Go.Abs
