/- Equality of two structs of numbers and bools. No condition. -/
import Derived.Test.YtacpnjlijjgbmaaGreatDoorVecOps
namespace Go.SL
open Go
/-- Two values of a struct's type, and whether they are equal. -/
class EqC (P : Program) (t : TypeId) (as bs : List Value) (z : outParam Bool) : Prop where
  run : ∀ w, (Op.equal t (.agg ⟨as⟩) (.agg ⟨bs⟩)).run P w = .ok z w
class EqT (P : Program) (t : TypeId) : Prop where
  h : P.eqGuardType P.depth t = false
section
variable {P : Program} {W : World} {T : Tab}
theorem eqAt_int {t : TypeId} {k k1 : IntKind} (h : P.underlying t = some (.int k1)) (d : Nat) (a b : Int) (w : World) : (Op.equalIn (d + 1) t (.int k a) (.int k b)).run P w = .ok (decide (a = b)) w := by
  simp [Op.equalIn, run_underlying h, BEq.beq]
theorem eqAt_bool {t : TypeId} (h : P.underlying t = some .bool) (d : Nat) (a b : Bool) (w : World) : (Op.equalIn (d + 1) t (.bool a) (.bool b)).run P w = .ok (a == b) w := by
  simp [Op.equalIn, run_underlying h]
theorem eqGuard_agg {t : TypeId} [g : EqT P t] (op : BinOp) (x y : Operand) (as bs : Array Value) (w : World) : (eqGuard op t x y (.agg as) (.agg bs)).run P w = .ok () w := by
  cases op <;> first | rfl | (simp [eqGuard, g.h])
theorem OpQ.eqs {t : TypeId} {x y : Operand} {k : TypeId} {ty : TypeId} {ev : Operand → Option Value} {H : HProp} {K : Value → Prop} {as bs : List Value} {z : Bool} [g : EqT P t] [e : EqC P t as bs z]
    (hx : ev x = some (.agg ⟨as⟩)) (hy : ev y = some (.agg ⟨bs⟩)) (hk : K (.bool z)) : OpQ P W (.binOp .eql t x y k) ty ev H K := by
  refine ⟨_, fun w ρ hw he o' ho hty => ?_, hk⟩
  obtain ⟨dst, op, ty', pos, after, guard⟩ := o'
  simp only at ho hty
  subst ho hty
  simp [execOp, he _ _ hx, he _ _ hy, eqGuard_agg, binOp, e.run]
/-- min(x, y) of two numbers. -/
theorem OpQ.min2 {x y : Operand} {tys : Array TypeId} {ty : TypeId} {ev : Operand → Option Value} {H : HProp} {K : Value → Prop} {k k' : IntKind} {a b : Int}
    (hx : ev x = some (.int k a)) (hy : ev y = some (.int k' b)) (hk : K (.int k (min a b))) : OpQ P W (.call ⟨.builtin .min, ⟨[x, y]⟩, tys⟩) ty ev H K := by
  refine ⟨_, fun w ρ hw he o' ho hty => ?_, hk⟩
  obtain ⟨dst, op, ty', pos, after, guard⟩ := o'
  simp only at ho hty
  subst ho hty
  have : (if b < a then b else a) = min a b := by split <;> omega
  simp [execOp, resolve, invoke, builtin, Builtin.min_, Builtin.min2, he _ _ hx, he _ _ hy, this]
theorem OpQ.nes {t : TypeId} {x y : Operand} {k : TypeId} {ty : TypeId} {ev : Operand → Option Value} {H : HProp} {K : Value → Prop} {as bs : List Value} {z : Bool} [g : EqT P t] [e : EqC P t as bs z]
    (hx : ev x = some (.agg ⟨as⟩)) (hy : ev y = some (.agg ⟨bs⟩)) (hk : K (.bool (!z))) : OpQ P W (.binOp .neq t x y k) ty ev H K := by
  refine ⟨_, fun w ρ hw he o' ho hty => ?_, hk⟩
  obtain ⟨dst, op, ty', pos, after, guard⟩ := o'
  simp only at ho hty
  subst ho hty
  simp [execOp, he _ _ hx, he _ _ hy, eqGuard_agg, binOp, e.run]
end
end Go.SL
