/- Equality of the structs that the functions compare: written by a program (tools/gen.py). No condition. -/
import Derived.Test.YtacpnjlijjgbmaaGreatDoorEqs
import Derived.Test.YtacpnjlijjgbmaaGreatDoorTab
namespace Go.Proofs.YtacpnjlijjgbmaaGreatDoor
open Go Go.SL
set_option linter.unusedSimpArgs false
theorem eqr3 (d : Nat) (a b : Int) (w : World) : (Op.equalIn (d + 1) 3 (.int .i64 a) (.int .i64 b)).run prog w = .ok (decide (a = b)) w := eqAt_int Go.Proofs.Tryz.underlying3 d a b w
theorem eqr43 (n : Nat) (a0 b0 a1 b1 : Int) (w : World) : (Op.equalIn (n + 2) 43 (.agg ⟨[.int .i64 a0, .int .i64 a1]⟩) (.agg ⟨[.int .i64 b0, .int .i64 b1]⟩)).run prog w = .ok (decide (a0 = b0) && decide (a1 = b1)) w := by
  have hs : prog.stoodInHeld 43 = false := by kernel_rfl
  rw [Op.equalIn]
  simp [hs, part, run_underlying Go.Proofs.Tryz.underlying43, Go.Proofs.Tryz.isAgg3, Go.Proofs.Tryz.sizeOf3, eqr3]
  repeat' split
  all_goals simp_all
instance : EqT prog 43 := ⟨by kernel_rfl⟩
instance {a0 b0 a1 b1 : Int} : EqC prog 43 [.int .i64 a0, .int .i64 a1] [.int .i64 b0, .int .i64 b1] (decide (a0 = b0) && decide (a1 = b1)) := ⟨fun w => eqr43 9998 a0 b0 a1 b1 w⟩
theorem eqr2 (d : Nat) (a b : Int) (w : World) : (Op.equalIn (d + 1) 2 (.int .i64 a) (.int .i64 b)).run prog w = .ok (decide (a = b)) w := eqAt_int Go.Proofs.Tryz.underlying2 d a b w
theorem eqr45 (n : Nat) (a0 b0 a1 b1 : Int) (w : World) : (Op.equalIn (n + 2) 45 (.agg ⟨[.int .i64 a0, .int .i64 a1]⟩) (.agg ⟨[.int .i64 b0, .int .i64 b1]⟩)).run prog w = .ok (decide (a0 = b0) && decide (a1 = b1)) w := by
  have hs : prog.stoodInHeld 45 = false := by kernel_rfl
  rw [Op.equalIn]
  simp [hs, part, run_underlying Go.Proofs.Tryz.underlying45, Go.Proofs.Tryz.isAgg2, Go.Proofs.Tryz.sizeOf2, eqr2]
  repeat' split
  all_goals simp_all
theorem eqr47 (n : Nat) (a0 b0 a1 b1 a2 b2 a3 b3 a4 b4 : Int) (w : World) : (Op.equalIn (n + 3) 47 (.agg ⟨[.int .i64 a0, .int .i64 a1, .int .i64 a2, .int .i64 a3, .int .i64 a4]⟩) (.agg ⟨[.int .i64 b0, .int .i64 b1, .int .i64 b2, .int .i64 b3, .int .i64 b4]⟩)).run prog w = .ok (decide (a0 = b0) && decide (a1 = b1) && decide (a2 = b2) && decide (a3 = b3) && decide (a4 = b4)) w := by
  have hs : prog.stoodInHeld 47 = false := by kernel_rfl
  rw [Op.equalIn]
  simp [hs, part, run_underlying Go.Proofs.Tryz.underlying47, Go.Proofs.Tryz.isAgg2, Go.Proofs.Tryz.isAgg3, Go.Proofs.Tryz.isAgg45, Go.Proofs.Tryz.sizeOf2, Go.Proofs.Tryz.sizeOf3, Go.Proofs.Tryz.sizeOf45, eqr2, eqr3, eqr45]
  repeat' split
  all_goals simp_all
instance : EqT prog 47 := ⟨by kernel_rfl⟩
instance {a0 b0 a1 b1 a2 b2 a3 b3 a4 b4 : Int} : EqC prog 47 [.int .i64 a0, .int .i64 a1, .int .i64 a2, .int .i64 a3, .int .i64 a4] [.int .i64 b0, .int .i64 b1, .int .i64 b2, .int .i64 b3, .int .i64 b4] (decide (a0 = b0) && decide (a1 = b1) && decide (a2 = b2) && decide (a3 = b3) && decide (a4 = b4)) := ⟨fun w => eqr47 9997 a0 b0 a1 b1 a2 b2 a3 b3 a4 b4 w⟩
end Go.Proofs.YtacpnjlijjgbmaaGreatDoor
