/- More operations on abstract values: nil, unary, conversions, lengths, slices, parts. No condition. -/
import Derived.Test.YtllgfmijocgniaaA5
namespace Go.Abs
open Go.RowKit

section
variable {base : Nat} {w0 : Root} {w : World} {C : Cells} {M : List Loc} {hp : List Blk} {P : Program}

/-- '==' where one side is nil. -/
def aeqn (K : NilK) (neg : Bool) (x y : AV) : Option AV :=
  if kindOf x = some K ∧ kindOf y = some K ∧ (nilOf x = true ∨ nilOf y = true) then some (.v (.bool (neg != (nilOf x && nilOf y)))) else none

/-- What a value of a kind that may be nil looks like. -/
def kindShape (K : NilK) (nil : Bool) (x' : Value) : Prop :=
  match K with
  | .ptr => if nil then x' = .pointer none else ∃ a, x' = .pointer (some a)
  | .slc => if nil then x' = .slice none 0 0 else ∃ a n c, x' = .slice (some a) n c
  | .fnc => if nil then x' = .nilFunc else ∃ f a b, x' = .func f a b
  | .ifc => if nil then x' = .nilIface else ∃ t v, x' = .iface t v

theorem kind_shape {K : NilK} {x : AV} {x' : Value} (hx : Rep C M hp x x') (kx : kindOf x = some K) : kindShape K (nilOf x) x' := by
  cases hx with
  | v h =>
    cases x' with
    | pointer a => cases a with
      | none => cases kx; exact rfl
      | some a => simp [plain] at h
    | nilFunc => cases kx; exact rfl
    | nilIface => cases kx; exact rfl
    | _ => first | (cases kx; done) | (simp [plain] at h; done)
  | nsl => cases kx; exact rfl
  | agg _ _ => cases kx
  | tup _ _ => cases kx
  | sl _ _ _ _ _ _ _ => cases kx; exact ⟨_, _, _, rfl⟩
  | fp _ _ _ => cases kx; exact ⟨_, rfl⟩
  | mp _ _ => cases kx; exact ⟨_, rfl⟩
  | ms _ _ => cases kx; exact ⟨_, _, _, rfl⟩
  | fn _ _ _ _ => cases kx; exact ⟨_, _, _, rfl⟩
  | ifc _ => cases kx; exact ⟨_, _, rfl⟩

theorem run_equal_nil {K : NilK} {t : TypeId} (ht : nilKind P t = some K) {x' y' : Value} {a b : Bool} (hx : kindShape K a x') (hy : kindShape K b y') (hn : a = true ∨ b = true) (d : Nat) (w : World) :
    (Op.equalIn (d + 1) t x' y').run P w = .ok (a && b) w := by
  unfold nilKind at ht
  cases hd : P.underlying t with
  | none => rw [hd] at ht; cases ht
  | some dd =>
    rw [hd] at ht
    have hu := fun w' => run_underlying (P := P) hd w'
    cases K <;> cases dd <;> simp only [reduceCtorEq, Option.some.injEq] at ht <;> cases a <;> cases b <;>
      simp only [kindShape, if_true, Bool.false_eq_true, if_false, or_self, or_true, true_or] at hx hy hn
    all_goals first
      | (subst hx; subst hy; rw [Op.equalIn]; simp only [Sem.run_bind, hu, Result.andThen_ok]; rfl)
      | (obtain ⟨_, rfl⟩ := hx; subst hy; rw [Op.equalIn]; simp only [Sem.run_bind, hu, Result.andThen_ok]; rfl)
      | (obtain ⟨_, rfl⟩ := hy; subst hx; rw [Op.equalIn]; simp only [Sem.run_bind, hu, Result.andThen_ok]; rfl)
      | (obtain ⟨_, _, rfl⟩ := hx; subst hy; rw [Op.equalIn]; simp only [Sem.run_bind, hu, Result.andThen_ok]; rfl)
      | (obtain ⟨_, _, rfl⟩ := hy; subst hx; rw [Op.equalIn]; simp only [Sem.run_bind, hu, Result.andThen_ok]; rfl)
      | (obtain ⟨_, _, _, rfl⟩ := hx; subst hy; rw [Op.equalIn]; simp only [Sem.run_bind, hu, Result.andThen_ok]; rfl)
      | (obtain ⟨_, _, _, rfl⟩ := hy; subst hx; rw [Op.equalIn]; simp only [Sem.run_bind, hu, Result.andThen_ok]; rfl)

theorem binOp_eql_shape {K : NilK} {x' y' : Value} {a b : Bool} (neg : Bool) (t : TypeId) (hx : kindShape K a x') (hy : kindShape K b y') :
    binOp (eqOp neg) t x' y' = (Op.equal t x' y' >>= fun r => pure (.bool (neg != r))) := by
  have key : ∀ (x' y' : Value), (∀ k n, x' ≠ .int k n) → (∀ s, x' ≠ .string s) → (∀ k n, x' ≠ .float k n) → (∀ k n m, x' ≠ .complex k n m) → binOp (eqOp neg) t x' y' = (Op.equal t x' y' >>= fun r => pure (.bool (neg != r))) := by
    intro x' y' h1 h2 h3 h4
    cases neg <;> simp only [eqOp, Bool.false_eq_true, if_false, if_true] <;> unfold binOp <;> split <;> first
      | (exact (h1 _ _ rfl).elim) | (exact (h2 _ rfl).elim) | (exact (h3 _ _ rfl).elim) | (exact (h4 _ _ _ rfl).elim) | (simp; done) | (simp_all; done)
  apply key <;> intros <;> intro e <;> subst e <;> cases K <;> cases a <;> simp [kindShape] at hx

theorem eqGuard_other (op : BinOp) (t : TypeId) (ox oy : Operand) {x' y' : Value} (h1 : x' = .nilIface → y' = .nilIface → isConstO ox = true ∨ isConstO oy = true) (h2 : ∀ cs, x' ≠ .agg cs) : eqGuard op t ox oy x' y' = pure () := by
  have key : ∀ op : BinOp, (op = .eql ∨ op = .neq) → eqGuard op t ox oy x' y' = pure () := by
    intro op hop
    rcases hop with rfl | rfl
    all_goals
      unfold eqGuard
      simp only [Bool.not_true, Bool.false_eq_true, if_false]
      split
      · rcases h1 rfl rfl with h | h
        · cases ox <;> simp [isConstO] at h; rfl
        · cases oy <;> simp [isConstO] at h
          cases ox <;> rfl
      · exact (h2 _ rfl).elim
      · rfl
  cases op <;> first | exact key _ (Or.inl rfl) | exact key _ (Or.inr rfl) | rfl

theorem eqGuard_shape {K : NilK} {x' y' : Value} {a b : Bool} (op : BinOp) (t : TypeId) (ox oy : Operand) (hx : kindShape K a x') (hy : kindShape K b y')
    (hc : K = .ifc → isConstO ox = true ∨ isConstO oy = true) : eqGuard op t ox oy x' y' = pure () := by
  refine eqGuard_other op t ox oy (fun e _ => hc ?_) (fun cs e => ?_)
  · subst e; cases K <;> cases a <;> simp [kindShape] at hx <;> rfl
  · subst e; cases K <;> cases a <;> simp [kindShape] at hx

theorem gives_eqn {K : NilK} {neg : Bool} {t : TypeId} {ox oy : Operand} (ht : nilKind P t = some K) (hc : K = .ifc → isConstO ox = true ∨ isConstO oy = true) (h : Sim base w0 C M hp w) {x y r : AV} {x' y' : Value}
    (hx : Rep C M hp x x') (hy : Rep C M hp y y') (hr : aeqn K neg x y = some r) : Gives base w0 C M hp P (do eqGuard (eqOp neg) t ox oy x' y'; binOp (eqOp neg) t x' y') w r hp := by
  unfold aeqn at hr
  split at hr
  · rename_i hk
    obtain ⟨k1, k2, k3⟩ := hk
    cases hr
    have s1 := kind_shape hx k1
    have s2 := kind_shape hy k2
    refine .same h ?_ (.v rfl)
    rw [eqGuard_shape _ t ox oy s1 s2 hc, binOp_eql_shape neg t s1 s2]
    have := run_equal_nil (P := P) ht s1 s2 k3 9999 w
    simp only [Sem.run_bind, Sem.run_pure, Result.andThen_ok, Op.equal, Op.maxDepth]
    rw [this]
    rfl
  · cases hr

end
end Go.Abs
