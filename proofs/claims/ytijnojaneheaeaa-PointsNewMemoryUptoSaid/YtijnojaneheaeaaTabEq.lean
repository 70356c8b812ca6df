/- Equality of the structs that the functions compare: written by a program (tools/gen.py). No condition. -/
import Derived.Test.YtijnojaneheaeaaEqs
import Derived.Test.YtijnojaneheaeaaTab
namespace Go.Proofs.Ytijnojaneheaeaa
open Go Go.SL
set_option linter.unusedSimpArgs false
theorem eqr3 (d : Nat) (a b : Int) (w : World) : (Op.equalIn (d + 1) 3 (.int .i64 a) (.int .i64 b)).run prog w = .ok (decide (a = b)) w := eqAt_int Go.Proofs.Try.underlying3 d a b w
theorem eqr40 (n : Nat) (a0 b0 a1 b1 : Int) (w : World) : (Op.equalIn (n + 2) 40 (.agg ⟨[.int .i64 a0, .int .i64 a1]⟩) (.agg ⟨[.int .i64 b0, .int .i64 b1]⟩)).run prog w = .ok (decide (a0 = b0) && decide (a1 = b1)) w := by
  have hs : prog.stoodInHeld 40 = false := by kernel_rfl
  rw [Op.equalIn]
  simp [hs, part, run_underlying Go.Proofs.Try.underlying40, Go.Proofs.Try.isAgg3, Go.Proofs.Try.sizeOf3, eqr3]
  repeat' split
  all_goals simp_all
instance : EqT prog 40 := ⟨by kernel_rfl⟩
instance {a0 b0 a1 b1 : Int} : EqC prog 40 [.int .i64 a0, .int .i64 a1] [.int .i64 b0, .int .i64 b1] (decide (a0 = b0) && decide (a1 = b1)) := ⟨fun w => eqr40 9998 a0 b0 a1 b1 w⟩
theorem eqr50 (n : Nat) (a0 b0 a1 b1 : Int) (w : World) : (Op.equalIn (n + 2) 50 (.agg ⟨[.int .i64 a0, .int .i64 a1]⟩) (.agg ⟨[.int .i64 b0, .int .i64 b1]⟩)).run prog w = .ok (decide (a0 = b0) && decide (a1 = b1)) w := by
  have hs : prog.stoodInHeld 50 = false := by kernel_rfl
  rw [Op.equalIn]
  simp [hs, part, run_underlying Go.Proofs.Try.underlying50, Go.Proofs.Try.isAgg3, Go.Proofs.Try.sizeOf3, eqr3]
  repeat' split
  all_goals simp_all
instance : EqT prog 50 := ⟨by kernel_rfl⟩
instance {a0 b0 a1 b1 : Int} : EqC prog 50 [.int .i64 a0, .int .i64 a1] [.int .i64 b0, .int .i64 b1] (decide (a0 = b0) && decide (a1 = b1)) := ⟨fun w => eqr50 9998 a0 b0 a1 b1 w⟩
theorem eqr2 (d : Nat) (a b : Int) (w : World) : (Op.equalIn (d + 1) 2 (.int .i64 a) (.int .i64 b)).run prog w = .ok (decide (a = b)) w := eqAt_int Go.Proofs.Try.underlying2 d a b w
theorem eqr52 (n : Nat) (a0 b0 a1 b1 : Int) (w : World) : (Op.equalIn (n + 2) 52 (.agg ⟨[.int .i64 a0, .int .i64 a1]⟩) (.agg ⟨[.int .i64 b0, .int .i64 b1]⟩)).run prog w = .ok (decide (a0 = b0) && decide (a1 = b1)) w := by
  have hs : prog.stoodInHeld 52 = false := by kernel_rfl
  rw [Op.equalIn]
  simp [hs, part, run_underlying Go.Proofs.Try.underlying52, Go.Proofs.Try.isAgg2, Go.Proofs.Try.sizeOf2, eqr2]
  repeat' split
  all_goals simp_all
theorem eqr54 (n : Nat) (a0 b0 a1 b1 a2 b2 a3 b3 a4 b4 : Int) (w : World) : (Op.equalIn (n + 3) 54 (.agg ⟨[.int .i64 a0, .int .i64 a1, .int .i64 a2, .int .i64 a3, .int .i64 a4]⟩) (.agg ⟨[.int .i64 b0, .int .i64 b1, .int .i64 b2, .int .i64 b3, .int .i64 b4]⟩)).run prog w = .ok (decide (a0 = b0) && decide (a1 = b1) && decide (a2 = b2) && decide (a3 = b3) && decide (a4 = b4)) w := by
  have hs : prog.stoodInHeld 54 = false := by kernel_rfl
  rw [Op.equalIn]
  simp [hs, part, run_underlying Go.Proofs.Try.underlying54, Go.Proofs.Try.isAgg2, Go.Proofs.Try.isAgg3, Go.Proofs.Try.isAgg52, Go.Proofs.Try.sizeOf2, Go.Proofs.Try.sizeOf3, Go.Proofs.Try.sizeOf52, eqr2, eqr3, eqr52]
  repeat' split
  all_goals simp_all
instance : EqT prog 54 := ⟨by kernel_rfl⟩
instance {a0 b0 a1 b1 a2 b2 a3 b3 a4 b4 : Int} : EqC prog 54 [.int .i64 a0, .int .i64 a1, .int .i64 a2, .int .i64 a3, .int .i64 a4] [.int .i64 b0, .int .i64 b1, .int .i64 b2, .int .i64 b3, .int .i64 b4] (decide (a0 = b0) && decide (a1 = b1) && decide (a2 = b2) && decide (a3 = b3) && decide (a4 = b4)) := ⟨fun w => eqr54 9997 a0 b0 a1 b1 a2 b2 a3 b3 a4 b4 w⟩
theorem eqr4 (d : Nat) (a b : Bool) (w : World) : (Op.equalIn (d + 1) 4 (.bool a) (.bool b)).run prog w = .ok (a == b) w := eqAt_bool Go.Proofs.Try.underlying4 d a b w
theorem eqr59 (n : Nat) (a0 b0 a1 b1 : Int) (a2 b2 a3 b3 : Bool) (w : World) : (Op.equalIn (n + 2) 59 (.agg ⟨[.int .i64 a0, .int .i64 a1, .bool a2, .bool a3]⟩) (.agg ⟨[.int .i64 b0, .int .i64 b1, .bool b2, .bool b3]⟩)).run prog w = .ok (decide (a0 = b0) && decide (a1 = b1) && (a2 == b2) && (a3 == b3)) w := by
  have hs : prog.stoodInHeld 59 = false := by kernel_rfl
  rw [Op.equalIn]
  simp [hs, part, run_underlying Go.Proofs.Try.underlying59, Go.Proofs.Try.isAgg3, Go.Proofs.Try.isAgg4, Go.Proofs.Try.sizeOf3, Go.Proofs.Try.sizeOf4, eqr3, eqr4]
  repeat' split
  all_goals simp_all
instance : EqT prog 59 := ⟨by kernel_rfl⟩
instance {a0 b0 a1 b1 : Int} {a2 b2 a3 b3 : Bool} : EqC prog 59 [.int .i64 a0, .int .i64 a1, .bool a2, .bool a3] [.int .i64 b0, .int .i64 b1, .bool b2, .bool b3] (decide (a0 = b0) && decide (a1 = b1) && (a2 == b2) && (a3 == b3)) := ⟨fun w => eqr59 9998 a0 b0 a1 b1 a2 b2 a3 b3 w⟩
end Go.Proofs.Ytijnojaneheaeaa
