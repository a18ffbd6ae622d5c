/- Slim code run over environments: what is known of the slots that are still wanted. No condition. -/
import Derived.Test.YtllgfmijocgniaaC2
import Derived.Test.YtllgfmijocgniaaB
set_option linter.unusedVariables false
namespace Go.Abs
open Go.RowKit

abbrev Env := List (Nat × AV)

def elook : Env → Nat → Option AV
  | [], _ => none
  | (j, v) :: r, k => if j = k then some v else elook r k

def econs (k : Nat) (o : Option AV) (e : Env) : Env :=
  match o with
  | some v => (k, v) :: e
  | none => e

/-- What is known of these slots. -/
def eonly : List Nat → Env → Env
  | [], _ => []
  | k :: L, e => econs k (elook e k) (eonly L e)

def evE (e : Env) : Opd → Option AV
  | .t k => elook e k
  | .c a => some a

def evsE (e : Env) : List Opd → Option (List AV)
  | [] => some []
  | x :: r => (evE e x).bind fun a => (evsE e r).map fun l => a :: l

def evoE (e : Env) : Option Opd → Option (Option AV)
  | none => some none
  | some x => (evE e x).map some

def evpE (e : Env) : List (Nat × Nat × Opd) → Option (List (Nat × Nat × AV))
  | [] => some []
  | (i, n, x) :: r => (evE e x).bind fun a => (evpE e r).map fun l => (i, n, a) :: l

def lenS (v : AV) (hp : List Blk) : Option (AV × List Blk) := match v with
  | .v (.string s) => some (.v (goInt s.size), hp)
  | _ => none
def slcStep (n : Nat) (v : AV) (lo hi mx : Option AV) (hp : List Blk) : Option (AV × List Blk) := match v with
  | .v (.string _) => none
  | x' => (asl n x' lo hi mx).map fun r => (r, hp)
def slsStep (v : AV) (lo hi : Option AV) (hp : List Blk) : Option (AV × List Blk) := match v with
  | .v (.string s) => (asl 0 (.v (.string s)) lo hi none).map fun r => (r, hp)
  | _ => none
def pickE (c : AV) (x y : Option AV) : Option AV := match c with
  | .v (.bool b) => if b then x else y
  | _ => none

def astepE (e : Env) (hp : List Blk) : SOp → Option (AV × List Blk)
  | .mv x => (evE e x).map fun r => (r, hp)
  | .pick c a b => (evE e c).bind fun c => (pickE c (evE e a) (evE e b)).map fun r => (r, hp)
  | .alloc z => some (.mp hp.length 0, hp ++ [.cells z false])
  | .box x => (evE e x).map fun r => (.mp hp.length 0, hp ++ [.cells r.cells false])
  | .build z ps => (evpE e ps).bind fun l => (afill z l).map fun r => (.agg r, hp)
  | .bsl n vs => (evsE e vs).bind fun l => (absl n l).map fun r => (r, hp)
  | .ld ag n x => (evE e x).bind fun x => (aload hp ag n x).map fun r => (r, hp)
  | .st n p x => (evE e p).bind fun p => (evE e x).bind fun x => (astore hp n p x).map fun hp' => (undefA, hp')
  | .nilc x => (evE e x).bind fun x => (anil x).map fun r => (r, hp)
  | .bin op x y => (evE e x).bind fun x => (evE e y).bind fun y => (abin op x y).map fun r => (r, hp)
  | .eqb neg x y => (evE e x).bind fun x => (evE e y).bind fun y => (aeqb neg x y).map fun r => (r, hp)
  | .eqn K neg x y => (evE e x).bind fun x => (evE e y).bind fun y => (aeqn K neg x y).map fun r => (r, hp)
  | .eqf ks neg x y => (evE e x).bind fun x => (evE e y).bind fun y => (aeqf ks neg x y).map fun r => (r, hp)
  | .un op x => (evE e x).bind fun x => (aun op x).map fun r => (r, hp)
  | .cv k x => (evE e x).bind fun x => (acv k x).map fun r => (r, hp)
  | .s2s x => (evE e x).bind fun x => (astr x).map fun r => (r, hp)
  | .b2s x => (evE e x).bind fun x => (ab2s x).map fun r => (r, hp)
  | .slc n x lo hi mx => (evE e x).bind fun x => (evoE e lo).bind fun lo => (evoE e hi).bind fun hi => (evoE e mx).bind fun mx => slcStep n x lo hi mx hp
  | .sls x lo hi => (evE e x).bind fun x => (evoE e lo).bind fun lo => (evoE e hi).bind fun hi => slsStep x lo hi hp
  | .fa off x => (evE e x).bind fun x => (afa off x).map fun r => (r, hp)
  | .ia n x i => (evE e x).bind fun x => (evE e i).bind fun i => (aia n x i).map fun r => (r, hp)
  | .aa len n x i => (evE e x).bind fun x => (evE e i).bind fun i => (aaa len n x i).map fun r => (r, hp)
  | .fld ag n off x => (evE e x).bind fun x => (afld ag n off x).map fun r => (r, hp)
  | .idx ag n len x i => (evE e x).bind fun x => (evE e i).bind fun i => (aidx ag n len x i).map fun r => (r, hp)
  | .chr x i => (evE e x).bind fun x => (evE e i).bind fun i => (achr x i).map fun r => (r, hp)
  | .ext i x => (evE e x).bind fun x => (aext i x).map fun r => (r, hp)
  | .lenS x => (evE e x).bind fun x => lenS x hp
  | .len x => (evE e x).bind fun x => lenStep x hp
  | .app n byt s x => (evE e s).bind fun s => (evE e x).bind fun x => aapp hp n byt s x
  | .mkf f a b => (evsE e a).bind fun a => (evsE e b).map fun b => (.fn f a b, hp)

/-- The slots are what the environment has. -/
def Has (n : Nat) (ts : List AV) (e : Env) : Prop := ts.length = n ∧ ∀ k v, elook e k = some v → ts[k]? = some v

theorem evE_ok {n : Nat} {ts : List AV} {e : Env} (h : Has n ts e) {x : Opd} {a : AV} (hx : evE e x = some a) : ev ts x = a := by
  cases x with
  | t k =>
    have := h.2 k a hx
    simp [ev, this]
  | c b => cases hx; rfl

theorem evsE_ok {n : Nat} {ts : List AV} {e : Env} (h : Has n ts e) : ∀ {xs : List Opd} {az : List AV}, evsE e xs = some az → xs.map (ev ts) = az
  | [], az, hx => by cases hx; rfl
  | x :: r, az, hx => by
    simp only [evsE, Option.bind_eq_some_iff, Option.map_eq_some_iff] at hx
    obtain ⟨a, h1, l, h2, rfl⟩ := hx
    rw [List.map_cons, evE_ok h h1, evsE_ok h h2]

theorem evpE_ok {n : Nat} {ts : List AV} {e : Env} (h : Has n ts e) : ∀ {xs : List (Nat × Nat × Opd)} {az : List (Nat × Nat × AV)}, evpE e xs = some az → xs.map (fun p => (p.1, p.2.1, ev ts p.2.2)) = az
  | [], az, hx => by cases hx; rfl
  | (i, n, x) :: r, az, hx => by
    simp only [evpE, Option.bind_eq_some_iff, Option.map_eq_some_iff] at hx
    obtain ⟨a, h1, l, h2, rfl⟩ := hx
    rw [List.map_cons, evE_ok h h1, evpE_ok h h2]

theorem evoE_ok {n : Nat} {ts : List AV} {e : Env} (h : Has n ts e) {x : Option Opd} {a : Option AV} (hx : evoE e x = some a) : x.map (ev ts) = a := by
  cases x with
  | none => cases hx; rfl
  | some x =>
    simp only [evoE, Option.map_eq_some_iff] at hx
    obtain ⟨b, h1, rfl⟩ := hx
    rw [Option.map_some, evE_ok h h1]

theorem astepE_ok {n : Nat} {ts : List AV} {e : Env} (h : Has n ts e) {hp : List Blk} {o : SOp} {r : AV × List Blk} (ho : astepE e hp o = some r) : astep ts hp o = some r := by
  cases o
  case pick c a b =>
    simp only [astepE, Option.bind_eq_some_iff, Option.map_eq_some_iff] at ho
    obtain ⟨c', h1, v, h2, rfl⟩ := ho
    have e1 := evE_ok h h1
    unfold pickE at h2
    split at h2
    · rename_i b'
      simp only [astep, e1]
      cases b' with
      | true => simp only [if_true] at h2 ⊢; rw [evE_ok h h2]
      | false => simp only [Bool.false_eq_true, if_false] at h2 ⊢; rw [evE_ok h h2]
    · cases h2
  case slc m x lo hi mx =>
    simp only [astepE, Option.bind_eq_some_iff] at ho
    obtain ⟨x', h1, lo', h2, hi', h3, mx', h4, h5⟩ := ho
    simp only [astep, evE_ok h h1, evoE_ok h h2, evoE_ok h h3, evoE_ok h h4]
    exact h5
  case sls x lo hi =>
    simp only [astepE, Option.bind_eq_some_iff] at ho
    obtain ⟨x', h1, lo', h2, hi', h3, h5⟩ := ho
    simp only [astep, evE_ok h h1, evoE_ok h h2, evoE_ok h h3]
    exact h5
  case lenS x =>
    simp only [astepE, Option.bind_eq_some_iff] at ho
    obtain ⟨x', h1, h5⟩ := ho
    simp only [astep, evE_ok h h1]
    exact h5
  case len x =>
    simp only [astepE, Option.bind_eq_some_iff] at ho
    obtain ⟨x', h1, h5⟩ := ho
    simp only [astep, evE_ok h h1]
    exact h5
  case build z ps =>
    simp only [astepE, Option.bind_eq_some_iff] at ho
    obtain ⟨x', h1, h5⟩ := ho
    simp only [astep, evpE_ok h h1]
    exact h5
  case bsl z ps =>
    simp only [astepE, Option.bind_eq_some_iff] at ho
    obtain ⟨x', h1, h5⟩ := ho
    simp only [astep, evsE_ok h h1]
    exact h5
  case mkf f a b =>
    simp only [astepE, Option.bind_eq_some_iff, Option.map_eq_some_iff] at ho
    obtain ⟨x', h1, y', h2, h5⟩ := ho
    simp only [astep, evsE_ok h h1, evsE_ok h h2]
    rw [h5]
  case alloc z => exact ho
  case mv x =>
    simp only [astepE, Option.map_eq_some_iff] at ho
    obtain ⟨x', h1, rfl⟩ := ho
    simp only [astep, evE_ok h h1]
  case box x =>
    simp only [astepE, Option.map_eq_some_iff] at ho
    obtain ⟨x', h1, rfl⟩ := ho
    simp only [astep, evE_ok h h1]
  all_goals first
    | (simp only [astepE, Option.bind_eq_some_iff] at ho
       obtain ⟨x', h1, y', h2, h5⟩ := ho
       simp only [astep, evE_ok h h1, evE_ok h h2]
       exact h5)
    | (simp only [astepE, Option.bind_eq_some_iff] at ho
       obtain ⟨x', h1, h5⟩ := ho
       simp only [astep, evE_ok h h1]
       exact h5)

/-- What simp does not look into. -/
class Hid (α : Type) where
  v : α
theorem hid_v {α : Type} (a : α) : (Hid.mk a).v = a := rfl

def withA {α : Type} (x : Option α) [F : Hid (α → Prop)] : Prop := ∃ a, x = some a ∧ F.v a
theorem withA_some {α : Type} {a : α} {F : Hid (α → Prop)} : @withA α (some a) F = F.v a := by
  apply propext
  constructor
  · rintro ⟨b, h, k⟩; cases h; exact k
  · intro k; exact ⟨a, rfl, k⟩

/-- A turn of the road. -/
def BoolCase (b : Bool) [A : Hid Prop] [B : Hid Prop] : Prop := (b = true → A.v) ∧ (b = false → B.v)
theorem BoolCase_true {A B : Hid Prop} : @BoolCase true A B = A.v := by simp [BoolCase]
theorem BoolCase_false {A B : Hid Prop} : @BoolCase false A B = B.v := by simp [BoolCase]
theorem BoolCase.mk {b : Bool} {A B : Hid Prop} (h1 : b = true → A.v) (h2 : b = false → B.v) : @BoolCase b A B := ⟨h1, h2⟩

def boolE (v : AV) [A : Hid Prop] [B : Hid Prop] : Prop := match v with
  | .v (.bool b) => @BoolCase b A B
  | _ => False
theorem boolE_bool {b : Bool} {A B : Hid Prop} : @boolE (.v (.bool b)) A B = @BoolCase b A B := rfl

/-- A guard: what is done if it holds, and else. -/
def guardE (w : Bool) (v : AV) [A : Hid Prop] [B : Hid Prop] : Prop := match v with
  | .v (.bool b) => if w then @BoolCase b A B else @BoolCase b B A
  | .tup [] => B.v
  | _ => False
theorem guardE_yes {b : Bool} {A B : Hid Prop} : @guardE true (.v (.bool b)) A B = @BoolCase b A B := rfl
theorem guardE_no {b : Bool} {A B : Hid Prop} : @guardE false (.v (.bool b)) A B = @BoolCase b B A := rfl
theorem guardE_undef {w : Bool} {A B : Hid Prop} : @guardE w undefA A B = B.v := rfl

def CallH (P : Program) (f : FuncId) (args : List AV) (hp : List Blk) [F : Hid (AV → List Blk → Prop)] : Prop := CallOk P f args hp F.v
def callvH (P : Program) (f : AV) (args : List AV) (hp : List Blk) [F : Hid (AV → List Blk → Prop)] : Prop := CallV P f args hp F.v
theorem callvH_fn {P : Program} {f : FuncId} {args : List AV} {hp : List Blk} {F : Hid (AV → List Blk → Prop)} : @callvH P (.fn (.func f) [] []) args hp F = @CallH P f args hp F := by simp [callvH, CallV, CallH]
theorem callvH_cap {P : Program} {f : FuncId} {args cs : List AV} {hp : List Blk} {F : Hid (AV → List Blk → Prop)} : @callvH P (.fn (.func f) [] cs) args hp F = @CallH P f (args ++ cs) hp F := by simp [callvH, CallV, CallH]
def pcallH (P : Program) (f : FuncId) (args : List AV) [F : Hid (AV → Prop)] : Prop := ∃ bs r', ImpCs args bs ∧ PureSpec P f bs r' ∧ F.v r'

def instrE (P : Program) (i : SInstr) [F : Hid (AV → List Blk → Prop)] (e : Env) (hp : List Blk) : Prop := match i with
  | .op o => @withA _ (astepE e hp o) ⟨fun r => F.v r.1 r.2⟩
  | .call f args => @withA _ (evsE e args) ⟨fun az => @CallH P f az hp F⟩
  | .callv x args => @withA _ (evE e x) ⟨fun x => @withA _ (evsE e args) ⟨fun az => @callvH P x az hp F⟩⟩
  | .pcall f args => @withA _ (evsE e args) ⟨fun az => @pcallH P f az ⟨fun v => F.v v hp⟩⟩

def putE (d : Option Nat) (v : AV) (e : Env) : Env := match d with
  | some d => (d, v) :: e
  | none => e

def RunE (P : Program) (l : List SOper) [K : Hid (Env → List Blk → Prop)] (e : Env) (hp : List Blk) : Prop := match l with
  | [] => K.v e hp
  | ⟨d, none, i⟩ :: r => @instrE P i ⟨fun v hp' => @RunE P r K (putE d v e) hp'⟩ e hp
  | ⟨d, some (k, w), i⟩ :: r => @withA _ (elook e k) ⟨fun g => @guardE w g ⟨@instrE P i ⟨fun v hp' => @RunE P r K (putE d v e) hp'⟩ e hp⟩ ⟨@RunE P r K (putE d undefA e) hp⟩⟩

section
variable {P : Program} {K : Hid (Env → List Blk → Prop)} {e : Env} {hp : List Blk} {d : Option Nat} {k : Nat} {i : SInstr} {r : List SOper}
theorem RunE_nil : @RunE P [] K e hp = K.v e hp := by simp only [RunE]
theorem RunE_op : @RunE P (⟨d, none, i⟩ :: r) K e hp = @instrE P i ⟨fun v hp' => @RunE P r K (putE d v e) hp'⟩ e hp := by simp only [RunE]
theorem RunE_gd {w : Bool} : @RunE P (⟨d, some (k, w), i⟩ :: r) K e hp = @withA _ (elook e k) ⟨fun g => @guardE w g ⟨@instrE P i ⟨fun v hp' => @RunE P r K (putE d v e) hp'⟩ e hp⟩ ⟨@RunE P r K (putE d undefA e) hp⟩⟩ := by simp only [RunE]
end

def dstsOk (n : Nat) : List SOper → Bool
  | [] => true
  | o :: r => (match o.dst with | some d => decide (d < n) | none => true) && dstsOk n r

theorem has_put {n : Nat} {ts : List AV} {e : Env} (h : Has n ts e) {d : Option Nat} {v : AV} (hd : (match d with | some d => decide (d < n) | none => true) = true) : Has n (aput ts d v) (putE d v e) := by
  cases d with
  | none => exact h
  | some d =>
    simp only [decide_eq_true_eq] at hd
    refine ⟨by simp [aput, h.1], fun k w hk => ?_⟩
    simp only [putE, elook] at hk
    simp only [aput]
    split at hk
    · rename_i e1
      subst e1
      cases hk
      exact List.getElem?_set_self (by rw [h.1]; exact hd)
    · rename_i e1
      rw [List.getElem?_set_ne e1]
      exact h.2 k w hk

section
variable {P : Program}

theorem instrE_ok {n : Nat} {i : SInstr} {F : Hid (AV → List Blk → Prop)} {e : Env} {hp : List Blk} {ts : List AV} {d : Option Nat} {r : List SOper} {K : St → Prop} (h : Has n ts e) (hi : @instrE P i F e hp) (hF : ∀ v hp', F.v v hp' → SRun P r K (aput ts d v) hp') :
    SRun P (⟨d, none, i⟩ :: r) K ts hp := by
  unfold SRun
  rw [if_pos (by rfl)]
  cases i with
  | op o =>
    obtain ⟨⟨v, hp'⟩, h1, h2⟩ := hi
    exact ⟨v, hp', astepE_ok h h1, hF _ _ h2⟩
  | call f args =>
    obtain ⟨az, h1, h2⟩ := hi
    simp only
    rw [evsE_ok h h1]
    exact CallOk.mono h2 hF
  | callv x args =>
    obtain ⟨x', h0, az, h1, h2⟩ := hi
    dsimp only at h2
    simp only
    rw [evsE_ok h h1, evE_ok h h0]
    exact CallV.mono h2 hF
  | pcall f args =>
    obtain ⟨az, h1, bs, r', h2, h3, h4⟩ := hi
    simp only
    rw [evsE_ok h h1]
    exact ⟨bs, r', h2, h3, hF _ _ h4⟩

theorem RunE_ok {n : Nat} : ∀ {l : List SOper} {K : Hid (Env → List Blk → Prop)} {K' : St → Prop} {e : Env} {hp : List Blk} {ts : List AV}, dstsOk n l = true → Has n ts e → @RunE P l K e hp → (∀ ts e hp, Has n ts e → K.v e hp → K' ⟨ts, hp⟩) → SRun P l K' ts hp
  | [], K, K', e, hp, ts, hd, h, hr, hk => hk _ _ _ h (by rw [RunE_nil] at hr; exact hr)
  | ⟨d, g, i⟩ :: r, K, K', e, hp, ts, hd, h, hr, hk => by
    simp only [dstsOk, Bool.and_eq_true] at hd
    obtain ⟨hd1, hd2⟩ := hd
    have yes : @instrE P i ⟨fun v hp' => @RunE P r K (putE d v e) hp'⟩ e hp → SRun P (⟨d, none, i⟩ :: r) K' ts hp := fun q =>
      instrE_ok h q fun v hp' k => RunE_ok hd2 (has_put h hd1) k hk
    have no : @RunE P r K (putE d undefA e) hp → SRun P r K' (aput ts d undefA) hp := fun k => RunE_ok hd2 (has_put h hd1) k hk
    rcases g with _ | ⟨k, w⟩
    · rw [RunE_op] at hr; exact yes hr
    · rw [RunE_gd] at hr
      obtain ⟨g, h1, h2⟩ := hr
      have hk1 := h.2 k _ h1
      dsimp only at h2
      unfold guardE at h2
      split at h2
      · rename_i b
        have hg : (b = w → @instrE P i ⟨fun v hp' => @RunE P r K (putE d v e) hp'⟩ e hp) ∧ (b ≠ w → @RunE P r K (putE d undefA e) hp) := by
          cases w with
          | true => exact ⟨fun q => h2.1 q, fun q => h2.2 (by simpa using q)⟩
          | false => exact ⟨fun q => h2.2 q, fun q => h2.1 (by simpa using q)⟩
        by_cases hbw : b = w
        · rw [srun_yes (by simp [awant, hk1, hbw])]
          exact yes (hg.1 hbw)
        · rw [srun_no (by simp [awant, hk1]; simpa using hbw)]
          exact no (hg.2 hbw)
      · rw [srun_no (by simp [awant, hk1])]
        exact no h2
      · exact h2.elim

end

/-- Slim code that tells which slots are still wanted. -/
inductive TC where
  | skip (L : List Nat)
  | region (ops : List SOper) (L : List Nat)
  | seq (a b : TC)
  | cond (c : Opd) (a b : TC)
  | block (id : Nat) (a : TC)
  | loop (a : TC)
  | exit (id : Nat) (L : List Nat)
  | ret (L : List Nat)
  | rangeF (x : Opd) (ps : List Nat) (a b : TC) (L : List Nat)
  | region2 (ops ops2 : List SOper) (L : List Nat)

def TC.er : TC → SCode
  | .skip _ => .skip
  | .region ops _ => .region ops
  | .seq a b => .seq a.er b.er
  | .cond c a b => .cond c a.er b.er
  | .block id a => .block id a.er
  | .loop a => .loop a.er
  | .exit id _ => .exit id
  | .ret _ => .ret
  | .rangeF x ps a b _ => .rangeF x ps a.er b.er
  | .region2 l l2 _ => .region2 l l2

/-- Every slot lies in the frame; loops over functions where they may be. -/
def TC.fitsD (n : Nat) : TC → Bool → Bool
  | .region ops _, _ => dstsOk n ops
  | .region2 ops ops2 _, _ => dstsOk n ops && dstsOk n ops2
  | .seq a b, m => a.fitsD n m && b.fitsD n m
  | .cond _ a b, m => a.fitsD n m && b.fitsD n m
  | .block _ a, m => a.fitsD n m
  | .loop a, m => a.fitsD n m
  | .rangeF _ ps a b _, m => m && (ps.all fun p => decide (p < n)) && a.fitsD n false && b.fitsD n false
  | _, _ => true

def TC.fits (n : Nat) (c : TC) : Bool := c.fitsD n false

abbrev Post := Exit → Env → List Blk → Prop

def thenQ [next : Hid (Env → List Blk → Prop)] [Q : Hid Post] : Post
  | .normal, e, hp => next.v e hp
  | x, e, hp => Q.v x e hp

def blkQ (id : Nat) [Q : Hid Post] : Post
  | .exit id', e, hp => if id' = id then Q.v .normal e hp else Q.v (.exit id') e hp
  | x, e, hp => Q.v x e hp

section
variable {next : Hid (Env → List Blk → Prop)} {Q : Hid Post} {e : Env} {hp : List Blk} {id : Nat}
theorem thenQ_normal : @thenQ next Q .normal e hp = next.v e hp := rfl
theorem thenQ_exit : @thenQ next Q (.exit id) e hp = Q.v (.exit id) e hp := rfl
theorem thenQ_ret : @thenQ next Q .ret e hp = Q.v .ret e hp := rfl
theorem blkQ_normal : @blkQ id Q .normal e hp = Q.v .normal e hp := rfl
theorem blkQ_ret : @blkQ id Q .ret e hp = Q.v .ret e hp := rfl
theorem blkQ_same : @blkQ id Q (.exit id) e hp = Q.v .normal e hp := by simp [blkQ]
theorem blkQ_ne {id' : Nat} (h : id' ≠ id) : @blkQ id Q (.exit id') e hp = Q.v (.exit id') e hp := by simp [blkQ, h]
end

/-- A jump out of a loop over a function. -/
def jumpE [Q : Hid Post] : Option Code → Env → List Blk → Prop
  | none, e, hp => Q.v .normal e hp
  | some .ret, e, hp => Q.v .ret e hp
  | some (.exit id), e, hp => Q.v (.exit id) e hp
  | _, _, _ => False

/-- A round's end. -/
def roundE (k : Nat) (ats : List AV) (ps : Array Tmp) (ok : Code → Code → Prop) (K : AV → List Blk → Prop) : Post
  | .normal, _, hp => (∃ st pd, hp[k]? = some (.loopb st pd ats ps ok)) ∧ K (.v (.bool true)) (hp.set k (.loopb .ready none ats ps ok))
  | .ret, _, hp => (∃ st pd, hp[k]? = some (.loopb st pd ats ps ok)) ∧ K (.v (.bool false)) (hp.set k (.loopb .done (some .ret) ats ps ok))
  | .exit id, _, hp => (∃ st pd, hp[k]? = some (.loopb st pd ats ps ok)) ∧ K (.v (.bool false)) (hp.set k (.loopb .done (some (.exit id)) ats ps ok))
  | _, _, _ => False

def setE : Env → List (Nat × AV) → Env
  | e, [] => e
  | e, (k, v) :: r => setE ((k, v) :: e) r

/-- What a call of yield needs. -/
def RoundOk (P : Program) (k : Nat) (ats : List AV) (ps : List Nat) (ok : Code → Code → Prop) (wa : Post → Env → List Blk → Prop) (wb : Post → Env → List Blk → Prop) (e : Env) : Prop :=
  ∀ (args : List AV) (hp : List Blk) (K : AV → List Blk → Prop), args.length = ps.length → (∃ pd, hp[k]? = some (.loopb .ready pd ats ps.toArray ok)) →
    wa (@thenQ ⟨fun e1 hp1 => (∃ pd, hp1[k]? = some (.loopb .ready pd ats ps.toArray ok)) ∧ ∀ pd, wb (roundE k ats ps.toArray ok K) e1 (hp1.set k (.loopb .busy pd ats ps.toArray ok))⟩ ⟨fun _ _ _ => False⟩) (setE e (ps.zip args)) hp → CallV P (.yd k) args hp K

/-- A loop over a function. -/
def rangeE (P : Program) (x : Option AV) (ps : List Nat) (L : List Nat) (wa : Post → Env → List Blk → Prop) (wb : Post → Env → List Blk → Prop) [Q : Hid Post] (e : Env) (hp : List Blk) : Prop :=
  ∃ g fs cs, x = some (.fn (.func g) fs cs) ∧ ∀ ats ok, RoundOk P (hp.length + 1) ats ps ok wa wb e →
    CallOk P g (fs ++ [.yd (hp.length + 1)] ++ cs) (hp ++ [.obj (.deferred (some []))] ++ [.loopb .ready none ats ps.toArray ok])
      fun r hp' => ∃ st pd, hp'[hp.length + 1]? = some (.loopb st pd ats ps.toArray ok) ∧ st ≠ .busy ∧ jumpE pd (eonly L e) (hp'.set (hp.length + 1) (.loopb .exhausted pd ats ps.toArray ok))

def wpE (P : Program) (c : TC) [Q : Hid Post] (e : Env) (hp : List Blk) : Prop := match c with
  | .skip L => Q.v .normal (eonly L e) hp
  | .region ops L => @RunE P ops ⟨fun e' hp' => Q.v .normal (eonly L e') hp'⟩ e hp
  | .region2 ops ops2 L => @RunE P ops ⟨fun e' hp' => Q.v .normal (eonly L e') hp'⟩ e hp ∧ @RunE P ops2 ⟨fun e' hp' => Q.v .normal (eonly L e') hp'⟩ e hp
  | .seq a b => @wpE P a ⟨@thenQ ⟨fun e hp => @wpE P b Q e hp⟩ Q⟩ e hp
  | .cond c a b => @withA _ (evE e c) ⟨fun c => @boolE c ⟨@wpE P a Q e hp⟩ ⟨@wpE P b Q e hp⟩⟩
  | .block id a => @wpE P a ⟨@blkQ id Q⟩ e hp
  | .loop a => ∃ (I : Nat → Env → List Blk → Prop) (m : Nat), I m e hp ∧ ∀ m e hp, I m e hp → @wpE P a ⟨@thenQ ⟨fun e' hp' => ∃ m', m' < m ∧ I m' e' hp'⟩ Q⟩ e hp
  | .exit id L => Q.v (.exit id) (eonly L e) hp
  | .ret L => Q.v .ret (eonly L e) hp
  | .rangeF x ps a b L => rangeE P (evE e x) ps L (fun Q e hp => @wpE P a ⟨Q⟩ e hp) (fun Q e hp => @wpE P b ⟨Q⟩ e hp) e hp

section
variable {P : Program} {Q : Hid Post} {e : Env} {hp : List Blk}
theorem wpE_skip (L : List Nat) : @wpE P (.skip L) Q e hp = Q.v .normal (eonly L e) hp := by simp only [wpE]
theorem wpE_region (ops : List SOper) (L : List Nat) : @wpE P (.region ops L) Q e hp = @RunE P ops ⟨fun e' hp' => Q.v .normal (eonly L e') hp'⟩ e hp := by simp only [wpE]
theorem wpE_region2 (ops ops2 : List SOper) (L : List Nat) : @wpE P (.region2 ops ops2 L) Q e hp = (@RunE P ops ⟨fun e' hp' => Q.v .normal (eonly L e') hp'⟩ e hp ∧ @RunE P ops2 ⟨fun e' hp' => Q.v .normal (eonly L e') hp'⟩ e hp) := by simp only [wpE]
theorem wpE_seq (a b : TC) : @wpE P (.seq a b) Q e hp = @wpE P a ⟨@thenQ ⟨fun e hp => @wpE P b Q e hp⟩ Q⟩ e hp := by simp only [wpE]
theorem wpE_cond (c : Opd) (a b : TC) : @wpE P (.cond c a b) Q e hp = @withA _ (evE e c) ⟨fun c => @boolE c ⟨@wpE P a Q e hp⟩ ⟨@wpE P b Q e hp⟩⟩ := by simp only [wpE]
theorem wpE_block (id : Nat) (a : TC) : @wpE P (.block id a) Q e hp = @wpE P a ⟨@blkQ id Q⟩ e hp := by simp only [wpE]
theorem wpE_loop (a : TC) : @wpE P (.loop a) Q e hp = ∃ (I : Nat → Env → List Blk → Prop) (m : Nat), I m e hp ∧ ∀ m e hp, I m e hp → @wpE P a ⟨@thenQ ⟨fun e' hp' => ∃ m', m' < m ∧ I m' e' hp'⟩ Q⟩ e hp := by simp only [wpE]
theorem wpE_exit (id : Nat) (L : List Nat) : @wpE P (.exit id L) Q e hp = Q.v (.exit id) (eonly L e) hp := by simp only [wpE]
theorem wpE_ret (L : List Nat) : @wpE P (.ret L) Q e hp = Q.v .ret (eonly L e) hp := by simp only [wpE]
theorem wpE_range (x : Opd) (ps : List Nat) (a b : TC) (L : List Nat) : @wpE P (.rangeF x ps a b L) Q e hp = rangeE P (evE e x) ps L (fun Q e hp => @wpE P a ⟨Q⟩ e hp) (fun Q e hp => @wpE P b ⟨Q⟩ e hp) e hp := by simp only [wpE]
end

theorem has_only {n : Nat} {ts : List AV} {e : Env} (h : Has n ts e) (L : List Nat) : Has n ts (eonly L e) := by
  refine ⟨h.1, ?_⟩
  induction L with
  | nil => intro k v hk; cases hk
  | cons j L ih =>
    intro k v hk
    simp only [eonly] at hk
    cases hj : elook e j with
    | none => rw [hj] at hk; exact ih k v hk
    | some w =>
      rw [hj] at hk
      simp only [econs, elook] at hk
      split at hk
      · rename_i e1; subst e1; cases hk; exact h.2 j _ hj
      · exact ih k v hk

theorem has_setPs {n : Nat} {ps : List Nat} : ∀ {ts : List AV} {e : Env} (_ : Has n ts e) (_ : (ps.all fun p => decide (p < n)) = true) (args : List AV), Has n (setPs ts (ps.toArray.toList.zip args)) (setE e (ps.zip args)) := by
  induction ps with
  | nil => intro ts e h _ args; simpa [setPs, setE] using h
  | cons p r ih =>
    intro ts e h hp args
    simp only [List.all_cons, Bool.and_eq_true] at hp
    cases args with
    | nil => simpa [setPs, setE] using h
    | cons v vs =>
      have := ih (ts := ts.set p v) (e := (p, v) :: e) (has_put (d := some p) h hp.1) hp.2 vs
      simpa [setPs, setE] using this

theorem wpE_ok {P : Program} (hm : P.follows .mixedOrders = true) {n : Nat} : ∀ {c : TC} {dn : Option Nat} {Q : Hid Post} {Q' : Exit → St → Prop} {e : Env} {hp : List Blk} {ts : List AV}, c.fitsD n dn.isSome = true → Has n ts e → @wpE P c Q e hp →
    (∀ x ts e hp, Has n ts e → Q.v x e hp → Q' x ⟨ts, hp⟩) → TriD P dn c.er Q' ⟨ts, hp⟩ := by
  intro c
  induction c with
  | skip L => intro dn Q Q' e hp ts hf h hw hk; rw [wpE_skip] at hw; exact Tri.skip (hk _ _ _ _ (has_only h L) hw)
  | exit id L => intro dn Q Q' e hp ts hf h hw hk; rw [wpE_exit] at hw; exact Tri.exit (hk _ _ _ _ (has_only h L) hw)
  | ret L => intro dn Q Q' e hp ts hf h hw hk; rw [wpE_ret] at hw; exact Tri.ret (hk _ _ _ _ (has_only h L) hw)
  | region ops L => intro dn Q Q' e hp ts hf h hw hk; rw [wpE_region] at hw; exact tri_region hm (RunE_ok hf h hw fun ts' e' hp' h' k => hk _ _ _ _ (has_only h' L) k)
  | seq a b iha ihb =>
    intro dn Q Q' e hp ts hf h hw hk
    simp only [TC.fitsD, Bool.and_eq_true] at hf
    rw [wpE_seq] at hw
    refine Tri.seq (iha hf.1 h hw fun x ts' e' hp' h' k => ?_)
    cases x with
    | normal => exact ihb hf.2 h' k hk
    | _ => exact hk _ _ _ _ h' k
  | cond o a b iha ihb =>
    intro dn Q Q' e hp ts hf h hw hk
    simp only [TC.fitsD, Bool.and_eq_true] at hf
    rw [wpE_cond] at hw
    obtain ⟨v, h1, h2⟩ := hw
    have hv := evE_ok h h1
    dsimp only at h2
    unfold boolE at h2
    split at h2
    · rename_i b'
      refine Tri.cond hv ?_
      cases b' with
      | true => exact iha hf.1 h (h2.1 rfl) hk
      | false => exact ihb hf.2 h (h2.2 rfl) hk
    · exact h2.elim
  | block id a iha =>
    intro dn Q Q' e hp ts hf h hw hk
    rw [wpE_block] at hw
    refine Tri.block (iha hf h hw fun x ts' e' hp' h' k => ?_)
    cases x with
    | exit id' =>
      simp only [blkQ] at k
      simp only [inBlk]
      split
      · rename_i e1; rw [if_pos e1] at k; exact hk _ _ _ _ h' k
      · rename_i e1; rw [if_neg e1] at k; exact hk _ _ _ _ h' k
    | _ => exact hk _ _ _ _ h' k
  | loop a iha =>
    intro dn Q Q' e hp ts hf h hw hk
    rw [wpE_loop] at hw
    obtain ⟨I, m, h0, hr⟩ := hw
    refine Tri.loopI (fun m s => ∃ e, Has n s.ts e ∧ I m e s.hp) ⟨e, h, h0⟩ fun m s ⟨e', h', hI⟩ => ?_
    refine iha hf h' (hr m e' s.hp hI) fun x ts2 e2 hp2 h2 k => ?_
    cases x with
    | normal =>
      obtain ⟨m', hlt, hI'⟩ := k
      exact ⟨m', hlt, e2, h2, hI'⟩
    | _ => exact hk _ _ _ _ h2 k
  | region2 ops ops2 L =>
    intro dn Q Q' e hp ts hf h hw hk
    simp only [TC.fitsD, Bool.and_eq_true] at hf
    rw [wpE_region2] at hw
    exact Tri.region2 hm (srun_ok (RunE_ok hf.1 h hw.1 fun ts' e' hp' h' k => hk _ _ _ _ (has_only h' L) k)) (srun_ok (RunE_ok hf.2 h hw.2 fun ts' e' hp' h' k => hk _ _ _ _ (has_only h' L) k))
  | rangeF x ps a b L iha ihb =>
    intro dn Q Q' e hp ts hf h hw hk
    simp only [TC.fitsD, Bool.and_eq_true] at hf
    obtain ⟨⟨⟨hm1, hps⟩, hfa⟩, hfb⟩ := hf
    obtain ⟨n0, rfl⟩ := Option.isSome_iff_exists.1 hm1
    rw [wpE_range] at hw
    obtain ⟨g, fs, cs, hx, hr⟩ := hw
    refine Tri.range (evE_ok h hx) (CallOk.mono (hr ts (roundOk P a.er b.er) fun args hp' K hlen ⟨pd, hk'⟩ hwa => ?_) fun r hp' ⟨st, pd, h1, h2, h3⟩ => ⟨st, pd, h1, h2, ?_⟩)
    · refine ⟨⟨_, _, _, _, _, hk'⟩, yield_ok hk' (by simpa using hlen) ?_⟩
      refine iha (dn := none) hfa (has_setPs h hps args) hwa fun x ts1 e1 hp1 h1 k => ?_
      cases x with
      | normal =>
        obtain ⟨k1, k2⟩ := k
        refine ⟨k1, fun pd => ihb (dn := none) hfb h1 (k2 pd) fun x ts2 e2 hp2 h2 k => ?_⟩
        cases x with
        | normal => exact k
        | ret => exact k
        | exit id => exact k
        | _ => exact k.elim
      | _ => exact k.elim
    · cases pd with
      | none => exact hk _ _ _ _ (has_only h L) h3
      | some c =>
        cases c with
        | ret => exact hk _ _ _ _ (has_only h L) h3
        | exit id => exact hk _ _ _ _ (has_only h L) h3
        | _ => exact h3.elim

/-! Functions. -/

def rE (e : Env) (hp : List Blk) : RV → Option AV
  | .s t => elook e t
  | .c t ag n => (elook e t).bind fun p => aload hp ag n p

def rsE (e : Env) (hp : List Blk) : List RV → Option (List AV)
  | [] => some []
  | x :: r => (rE e hp x).bind fun a => (rsE e hp r).map fun l => a :: l

def resE (e : Env) (hp : List Blk) (rs : List RV) : Option AV := (rsE e hp rs).map fun l => match l with
  | [x] => x
  | l => .tup l

def retQ (rs : List RV) [K : Hid (AV → List Blk → Prop)] : Post
  | .normal, e, hp => @withA _ (resE e hp rs) ⟨fun r => K.v r hp⟩
  | .ret, e, hp => @withA _ (resE e hp rs) ⟨fun r => K.v r hp⟩
  | _, _, _ => False
theorem retQ_normal {rs : List RV} {K : Hid (AV → List Blk → Prop)} {e : Env} {hp : List Blk} : @retQ rs K .normal e hp = @withA _ (resE e hp rs) ⟨fun r => K.v r hp⟩ := rfl
theorem retQ_ret {rs : List RV} {K : Hid (AV → List Blk → Prop)} {e : Env} {hp : List Blk} : @retQ rs K .ret e hp = @withA _ (resE e hp rs) ⟨fun r => K.v r hp⟩ := rfl

def argE : Nat → List AV → Env
  | _, [] => []
  | i, a :: r => (i, a) :: argE (i + 1) r

theorem argE_get : ∀ {l : List AV} {i k : Nat} {v : AV}, elook (argE i l) k = some v → i ≤ k ∧ l[k - i]? = some v
  | [], i, k, v, h => by cases h
  | a :: r, i, k, v, h => by
    simp only [argE, elook] at h
    split at h
    · rename_i e; subst e; cases h; exact ⟨Nat.le_refl _, by simp⟩
    · rename_i e
      obtain ⟨h1, h2⟩ := argE_get h
      refine ⟨by omega, ?_⟩
      rw [show k - i = (k - (i + 1)) + 1 by omega, List.getElem?_cons_succ]
      exact h2

theorem has_args {args : List AV} {n : Nat} (h : args.length ≤ n) : Has n (enterS args n) (argE 0 args) := by
  refine ⟨by simp [enterS]; omega, fun k v hk => ?_⟩
  obtain ⟨_, h2⟩ := argE_get hk
  rw [Nat.sub_zero] at h2
  unfold enterS
  rw [List.getElem?_append_left (List.getElem?_eq_some_iff.1 h2).1]
  exact h2

theorem resE_ok {n : Nat} {ts : List AV} {e : Env} (h : Has n ts e) {hp : List Blk} {rs : List RV} {r : AV} (hr : resE e hp rs = some r) : resV ⟨ts, hp⟩ rs = some r := by
  have key : ∀ {rs : List RV} {l : List AV}, rsE e hp rs = some l → resAs ⟨ts, hp⟩ rs = some l := by
    intro rs
    induction rs with
    | nil => intro l hl; cases hl; rfl
    | cons x r ih =>
      intro l hl
      simp only [rsE, Option.bind_eq_some_iff, Option.map_eq_some_iff] at hl
      obtain ⟨a, h1, l', h2, rfl⟩ := hl
      have hx : resA ⟨ts, hp⟩ x = some a := by
        cases x with
        | s t => simp only [resA, h.2 _ _ h1, Option.getD_some]
        | c t ag m =>
          simp only [rE, Option.bind_eq_some_iff] at h1
          obtain ⟨p, q1, q2⟩ := h1
          simp only [resA, h.2 _ _ q1, Option.getD_some, q2]
      simp only [resAs, hx, ih h2]
  simp only [resE, Option.map_eq_some_iff] at hr
  obtain ⟨l, h1, h2⟩ := hr
  unfold resV
  rw [key h1]
  split at h2
  · subst h2; rfl
  · rename_i hne
    subst h2
    split
    · rename_i e1; cases e1; exact (hne _ rfl).elim
    · rename_i e1; cases e1; rfl
    · rename_i e1; cases e1

/-- A function, by its body over environments. -/
theorem fnE {P : Program} (hm : P.follows .mixedOrders = true) {pu : List FuncId} {f : FuncId} {n : Nat} {rs : List RV} {c : TC} (F : slimFn P pu f = some ⟨n, rs, c.er⟩) (hf : c.fits n = true) {args : List AV} (hn : args.length ≤ n) {hp : List Blk} {K : AV → List Blk → Prop}
    (h : @wpE P c ⟨@retQ rs ⟨K⟩⟩ (argE 0 args) hp) : CallOk P f args hp K := by
  refine fn_ok F (wpE_ok (dn := none) hm hf (has_args hn) h fun x ts e hp' h' k => ?_)
  cases x with
  | normal =>
    obtain ⟨r, h1, h2⟩ := k
    exact ⟨Or.inl rfl, r, resE_ok h' h1, h2⟩
  | ret =>
    obtain ⟨r, h1, h2⟩ := k
    exact ⟨Or.inr rfl, r, resE_ok h' h1, h2⟩
  | _ => exact k.elim

/-- The end of a function with loops over functions. -/
def retM (n0 : Nat) (rs : List RV) [K : Hid (AV → List Blk → Prop)] : Post
  | .normal, e, hp => ∀ hp', EndRel n0 hp hp' → @withA _ (resE e hp' rs) ⟨fun r => K.v r hp'⟩
  | .ret, e, hp => ∀ hp', EndRel n0 hp hp' → @withA _ (resE e hp' rs) ⟨fun r => K.v r hp'⟩
  | _, _, _ => False
theorem retM_normal {n0 : Nat} {rs : List RV} {K : Hid (AV → List Blk → Prop)} {e : Env} {hp : List Blk} : @retM n0 rs K .normal e hp = ∀ hp', EndRel n0 hp hp' → @withA _ (resE e hp' rs) ⟨fun r => K.v r hp'⟩ := rfl
theorem retM_ret {n0 : Nat} {rs : List RV} {K : Hid (AV → List Blk → Prop)} {e : Env} {hp : List Blk} : @retM n0 rs K .ret e hp = ∀ hp', EndRel n0 hp hp' → @withA _ (resE e hp' rs) ⟨fun r => K.v r hp'⟩ := rfl

/-- A function with loops over functions, by its body over environments. -/
theorem fnEM {P : Program} (hm : P.follows .mixedOrders = true) {pu : List FuncId} {f : FuncId} {n : Nat} {rs : List RV} {c : TC} (F : slimFn P pu f = some ⟨n, rs, c.er⟩) (hf : c.fitsD n true = true) {args : List AV} (hn : args.length ≤ n) {hp : List Blk} {K : AV → List Blk → Prop}
    (h : @wpE P c ⟨@retM hp.length rs ⟨K⟩⟩ (argE 0 args) hp) : CallOk P f args hp K := by
  refine fn_okM F (wpE_ok (dn := some hp.length) hm hf (has_args hn) h fun x ts e hp' h' k => ?_)
  cases x with
  | normal =>
    refine ⟨Or.inl rfl, fun hp2 he => ?_⟩
    obtain ⟨r, h1, h2⟩ := k hp2 he
    exact ⟨r, resE_ok h' h1, h2⟩
  | ret =>
    refine ⟨Or.inr rfl, fun hp2 he => ?_⟩
    obtain ⟨r, h1, h2⟩ := k hp2 he
    exact ⟨r, resE_ok h' h1, h2⟩
  | _ => exact k.elim

/-! Rules. -/

theorem wpE_mono {P : Program} : ∀ {c : TC} {Q Q' : Hid Post} {e : Env} {hp : List Blk}, @wpE P c Q e hp → (∀ x e hp, Q.v x e hp → Q'.v x e hp) → @wpE P c Q' e hp := by
  have instr : ∀ {i : SInstr} {F F' : Hid (AV → List Blk → Prop)} {e : Env} {hp : List Blk}, @instrE P i F e hp → (∀ v hp, F.v v hp → F'.v v hp) → @instrE P i F' e hp := by
    intro i F F' e hp h hF
    cases i with
    | op o => obtain ⟨v, h1, h2⟩ := h; exact ⟨v, h1, hF _ _ h2⟩
    | call f args => obtain ⟨az, h1, h2⟩ := h; exact ⟨az, h1, CallOk.mono h2 hF⟩
    | callv x args =>
      obtain ⟨x', h0, az, h1, h2⟩ := h
      exact ⟨x', h0, az, h1, CallV.mono h2 hF⟩
    | pcall f args => obtain ⟨az, h1, bs, r', h2, h3, h4⟩ := h; exact ⟨az, h1, bs, r', h2, h3, hF _ _ h4⟩
  have boole : ∀ {v : AV} {A B A' B' : Hid Prop}, @boolE v A B → (A.v → A'.v) → (B.v → B'.v) → @boolE v A' B' := by
    intro v A B A' B' h h1 h2
    unfold boolE at h ⊢
    split at h
    · exact ⟨fun q => h1 (h.1 q), fun q => h2 (h.2 q)⟩
    · exact h.elim
  have guard : ∀ {w : Bool} {v : AV} {A B A' B' : Hid Prop}, @guardE w v A B → (A.v → A'.v) → (B.v → B'.v) → @guardE w v A' B' := by
    intro w v A B A' B' h h1 h2
    unfold guardE at h ⊢
    split at h
    · cases w with
      | true => exact ⟨fun q => h1 (h.1 q), fun q => h2 (h.2 q)⟩
      | false => exact ⟨fun q => h2 (h.1 q), fun q => h1 (h.2 q)⟩
    · exact h2 h
    · exact h.elim
  have run : ∀ {l : List SOper} {K K' : Hid (Env → List Blk → Prop)} {e : Env} {hp : List Blk}, @RunE P l K e hp → (∀ e hp, K.v e hp → K'.v e hp) → @RunE P l K' e hp := by
    intro l
    induction l with
    | nil => intro K K' e hp h hk; rw [RunE_nil] at h ⊢; exact hk _ _ h
    | cons o r ih =>
      intro K K' e hp h hk
      obtain ⟨d, g, i⟩ := o
      rcases g with _ | ⟨k, w⟩
      · rw [RunE_op] at h ⊢; exact instr h fun v hp' q => ih q hk
      · rw [RunE_gd] at h ⊢; obtain ⟨g, h1, h2⟩ := h; exact ⟨g, h1, guard h2 (fun q => instr q fun v hp' q => ih q hk) fun q => ih q hk⟩
  intro c
  induction c with
  | skip L => intro Q Q' e hp h hq; rw [wpE_skip] at h ⊢; exact hq _ _ _ h
  | exit id L => intro Q Q' e hp h hq; rw [wpE_exit] at h ⊢; exact hq _ _ _ h
  | ret L => intro Q Q' e hp h hq; rw [wpE_ret] at h ⊢; exact hq _ _ _ h
  | region ops L => intro Q Q' e hp h hq; rw [wpE_region] at h ⊢; exact run h fun e' hp' k => hq _ _ _ k
  | seq a b iha ihb =>
    intro Q Q' e hp h hq
    rw [wpE_seq] at h ⊢
    refine iha h fun x e' hp' k => ?_
    cases x with
    | normal => exact ihb k hq
    | _ => exact hq _ _ _ k
  | cond o a b iha ihb => intro Q Q' e hp h hq; rw [wpE_cond] at h ⊢; obtain ⟨v, h1, h2⟩ := h; exact ⟨v, h1, boole h2 (fun q => iha q hq) (fun q => ihb q hq)⟩
  | block id a iha =>
    intro Q Q' e hp h hq
    rw [wpE_block] at h ⊢
    refine iha h fun x e' hp' k => ?_
    cases x with
    | exit id' =>
      simp only [blkQ] at k ⊢
      split at k
      · rename_i e1; rw [if_pos e1]; exact hq _ _ _ k
      · rename_i e1; rw [if_neg e1]; exact hq _ _ _ k
    | _ => exact hq _ _ _ k
  | loop a iha =>
    intro Q Q' e hp h hq
    rw [wpE_loop] at h ⊢
    obtain ⟨I, m, h0, hr⟩ := h
    refine ⟨I, m, h0, fun m e hp hI => iha (hr m e hp hI) fun x e' hp' k => ?_⟩
    cases x with
    | normal => exact k
    | _ => exact hq _ _ _ k
  | region2 ops ops2 L => intro Q Q' e hp h hq; rw [wpE_region2] at h ⊢; exact ⟨run h.1 fun e' hp' k => hq _ _ _ k, run h.2 fun e' hp' k => hq _ _ _ k⟩
  | rangeF x ps a b L iha ihb =>
    intro Q Q' e hp h hq
    rw [wpE_range] at h ⊢
    obtain ⟨g, fs, cs, hx, hr⟩ := h
    refine ⟨g, fs, cs, hx, fun ats ok hR => CallOk.mono (hr ats ok hR) fun r hp' ⟨st, pd, h1, h2, h3⟩ => ⟨st, pd, h1, h2, ?_⟩⟩
    cases pd with
    | none => exact hq _ _ _ h3
    | some c =>
      cases c with
      | ret => exact hq _ _ _ h3
      | exit id => exact hq _ _ _ h3
      | _ => exact h3.elim

section
variable {P : Program} {Q : Hid Post} {e : Env} {hp : List Blk}

/-- Code with a middle. -/
theorem wpE_mid {a b : TC} (M : Env → List Blk → Prop) (h1 : @wpE P a ⟨@thenQ ⟨M⟩ ⟨fun _ _ _ => False⟩⟩ e hp) (h2 : ∀ e hp, M e hp → @wpE P b Q e hp) : @wpE P (.seq a b) Q e hp := by
  rw [wpE_seq]
  refine wpE_mono (c := a) h1 fun x e hp k => ?_
  cases x with
  | normal => exact h2 _ _ k
  | _ => exact k.elim

/-- The same, where the first part may return. -/
theorem wpE_midR {a b : TC} (M : Env → List Blk → Prop) (h1 : @wpE P a ⟨@thenQ ⟨M⟩ Q⟩ e hp) (h2 : ∀ e hp, M e hp → @wpE P b Q e hp) : @wpE P (.seq a b) Q e hp := by
  rw [wpE_seq]
  refine wpE_mono (c := a) h1 fun x e hp k => ?_
  cases x with
  | normal => exact h2 _ _ k
  | _ => exact k

/-- A loop that is left when it has run n times. -/
theorem wpE_count {x : TC} (I : Nat → Env → List Blk → Prop) (n : Nat) (h0 : I 0 e hp) (round : ∀ i e hp, i < n → I i e hp → @wpE P x ⟨@thenQ ⟨I (i + 1)⟩ Q⟩ e hp) (last : ∀ e hp, I n e hp → @wpE P x ⟨@thenQ ⟨fun _ _ => False⟩ Q⟩ e hp) : @wpE P (.loop x) Q e hp := by
  rw [wpE_loop]
  refine ⟨fun k e hp => ∃ i, k = n - i ∧ i ≤ n ∧ I i e hp, _, ⟨0, rfl, Nat.zero_le _, h0⟩, fun k e hp ⟨i, hk, hi, hI⟩ => ?_⟩
  rcases Nat.lt_or_ge i n with hl | hl
  · refine wpE_mono (round i e hp hl hI) fun x e' hp' q => ?_
    cases x with
    | normal => exact ⟨n - (i + 1), by omega, i + 1, rfl, hl, q⟩
    | _ => exact q
  · have e1 : i = n := by omega
    subst e1
    refine wpE_mono (last e hp hI) fun x e' hp' q => ?_
    cases x with
    | normal => exact q.elim
    | _ => exact q

/-- A loop with a measure. -/
theorem wpE_while {x : TC} (I : Nat → Env → List Blk → Prop) {n : Nat} (h0 : I n e hp) (round : ∀ n e hp, I n e hp → @wpE P x ⟨@thenQ ⟨fun e' hp' => ∃ m, m < n ∧ I m e' hp'⟩ Q⟩ e hp) : @wpE P (.loop x) Q e hp := by
  rw [wpE_loop]
  exact ⟨I, n, h0, round⟩

end


/-- What wk rewrites by. -/
theorem wkA : type_of% @wpE_skip ∧ type_of% @wpE_region ∧ type_of% @wpE_seq ∧ type_of% @wpE_cond ∧ type_of% @wpE_block ∧ type_of% @wpE_exit ∧ type_of% @wpE_ret ∧ type_of% @RunE_nil ∧ type_of% @RunE_op ∧ type_of% @RunE_gd ∧ type_of% @guardE_yes ∧ type_of% @guardE_no ∧ type_of% @guardE_undef ∧ type_of% @hid_v ∧ type_of% @withA_some ∧ type_of% @withV_some ∧ type_of% @BoolCase_true ∧ type_of% @BoolCase_false ∧ type_of% @boolE_bool ∧ type_of% @thenQ_normal ∧ type_of% @thenQ_exit ∧ type_of% @thenQ_ret ∧ type_of% @blkQ_normal ∧ type_of% @blkQ_ret ∧ type_of% @blkQ_same ∧ type_of% @blkQ_ne ∧ type_of% @retQ_normal ∧ type_of% @retQ_ret ∧ type_of% @callvH_fn ∧ type_of% @lenStep_sl ∧ type_of% @absl_one ∧ type_of% @absl_2 ∧ type_of% @absl_3 ∧ type_of% @absl_4 ∧ type_of% @absl_8 ∧ type_of% @afa_fp ∧ type_of% @afa_mp ∧ type_of% @anil_mp ∧ type_of% @anil_fp ∧ type_of% @acv_int ∧ type_of% @abin_add ∧ type_of% @abin_sub ∧ type_of% @abin_mul ∧ type_of% @abin_eql ∧ type_of% @abin_neq ∧ type_of% @abin_lss ∧ type_of% @abin_leq ∧ type_of% @abin_gtr ∧ type_of% @abin_geq ∧ type_of% @abin_quo ∧ type_of% @abin_rem :=
  ⟨@wpE_skip, @wpE_region, @wpE_seq, @wpE_cond, @wpE_block, @wpE_exit, @wpE_ret, @RunE_nil, @RunE_op, @RunE_gd, @guardE_yes, @guardE_no, @guardE_undef, @hid_v, @withA_some, @withV_some, @BoolCase_true, @BoolCase_false, @boolE_bool, @thenQ_normal, @thenQ_exit, @thenQ_ret, @blkQ_normal, @blkQ_ret, @blkQ_same, @blkQ_ne, @retQ_normal, @retQ_ret, @callvH_fn, @lenStep_sl, @absl_one, @absl_2, @absl_3, @absl_4, @absl_8, @afa_fp, @afa_mp, @anil_mp, @anil_fp, @acv_int, @abin_add, @abin_sub, @abin_mul, @abin_eql, @abin_neq, @abin_lss, @abin_leq, @abin_gtr, @abin_geq, @abin_quo, @abin_rem⟩

end Go.Abs
