/- PointsNewMemory answers true, and nothing that was there turns, where what it reads is of bulk at most 1048576 (the bound is not used). -/
import Derived.Test.YtijnojaneheaeaaPointsNewMemory
import Derived.ProofKit
import Derived.OpenShut
import Derived.JoinedCond
namespace Go.Proofs.Ytijnojaneheaeaa.pointsNewMemory
open Go Go.SL Go.SL.Pts Go.ChangeShapes Go.WideShapes Go.ChangeAt Go.RowKit
set_option maxRecDepth 100000 in
theorem lifted (os : Os) (started : os.Started) (H : Type) (enc : TypeId × Value → H) (F : Stop.Interp) :
    ReturnsInHanded {} Try.checked os 6 .any ((Rows.OpenSpec.upto Rows.pointsNewMemorySpec).pre6 enc Try.prog Try.f6 Rows.pointsNewMemoryUptoRow.domain false) (((Rows.OpenSpec.upto Rows.pointsNewMemorySpec).at F).post enc Try.prog Try.f6 false true false false) := by
  refine returnsInHanded_of_cond (C := Try.checked) (s := Rows.OpenSpec.upto Rows.pointsNewMemorySpec) (k := Rows.uptoSmall) rfl (by kernel_rfl) started (by kernel_rfl) Try.func6
    (OpenSpec.witness (enc := enc) (C := Try.checked) (s := Rows.OpenSpec.upto Rows.pointsNewMemorySpec) (k := Rows.uptoSmall) rfl false ⟨#[], #[.slice none 0 0, .slice none 0 0], []⟩ 8 (by kernel_rfl) (by kernel_rfl) (by kernel_rfl)
      (x := ([.nil, .nil], [], [])) (by kernel_rfl) rfl (by kernel_rfl)) ?_
  intro W base args ds gs before hval0 hW _ _ _
  have hval : ∀ (j : Nat) t v, Try.f6.params[j]? = some t → args[j]? = some v → Value.okWide Try.prog W .any base t v := hval0
  have hW' := hW
  obtain ⟨p, q, hA0, hV, rfl, _, _⟩ := hW'
  have hA : DataW.TrodAll enc Try.prog W 0 (fun _ => true) true Try.f6.params.toList args.toList ds p := hA0
  rw [Try.params6] at hA hval
  obtain ⟨v0, v1, d0, d1, q0, q1, rfl, rfl, rfl, h0, h1⟩ := trodAll_two hA
  obtain ⟨rfl, rfl⟩ := trodVars_none hV
  obtain ⟨a0, n0, c0, x0, rfl, o0, _⟩ := arg_slice Try.underlying24 (hval 0 24 v0 rfl rfl) h0 dirty_bd (fun _ => by show 2 = _; kernel_rfl) (of_decide_eq_true (by kernel_rfl))
  obtain ⟨a1, n1, c1, x1, rfl, o1, _⟩ := arg_slice Try.underlying24 (hval 1 24 v1 rfl rfl) h1 dirty_bd (fun _ => by show 2 = _; kernel_rfl) (of_decide_eq_true (by kernel_rfl))
  exact (Does.law (walk o0 o1)).mono fun e W' ⟨he, hb⟩ => ⟨_, he, law_post hW rfl laid (by kernel_rfl) rfl Try.underlying4 rfl hb⟩
theorem over : Rows.pointsNewMemoryUptoRow.holds Try.pinned (Rows.OpenSpec.upto Rows.pointsNewMemorySpec) :=
  OpenClaim.holds_of_cond 6 Try.f6 rfl rfl rfl rfl rfl rfl rfl ⟨rfl, rfl, rfl, rfl, rfl⟩ rfl rfl rfl rfl rfl (by kernel_rfl) Try.func6 (by kernel_rfl)
    (of_decide_eq_true (by kernel_rfl)) (by unfold Func.isWrapper; first | (rw [if_pos (by decide +kernel)]; kernel_rfl) | (rw [if_neg (by decide +kernel)]; exact ⟨rfl, rfl⟩))
    (fun os started H enc _ F => lifted os started H enc F)
theorem proved : Rows.PointsNewMemoryUptoSaid := over
end Go.Proofs.Ytijnojaneheaeaa.pointsNewMemory
