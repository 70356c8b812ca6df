/- PointsNames answers true, and nothing that was there turns. No condition. -/
import Derived.Test.YtijnojaneheaeaaRows
import Derived.Test.YtijnojaneheaeaaPtsAwake
namespace Go.Proofs.Ytijnojaneheaeaa.pointsNames
open Go Go.SL Go.ChangeShapes Go.WideShapes Go.ChangeAt Go.RowKit
theorem laid : laidOutB Try.prog = true := by kernel_rfl

theorem walk {W : World} : Does prog W f_quotalaw16_PointsNames ⟨[]⟩ (old W • emp) (Ret fun v G => v = .bool true ∧ G = (old W • emp)) := by
  refine f_quotalaw16_PointsNames.does ?_
  conv => whnf
  repeat' (first
    | (refine Ld.i ?_; conv => whnf)
    | (refine LdN.i ?_; conv => whnf)
    | (refine St.i ⟨rfl, rfl⟩ (List.cons_ne_nil _ _) ?_; conv => whnf)
    | (refine Ar.i64 (by omega) ?_; conv => whnf)
    | (intro blk hblk; conv => whnf)
    | (refine spl_dec (fun hd => ?_) (fun hd => ?_) <;> first | (exfalso; omega) | (conv => whnf))
    | (refine spl_ndec (fun hd => ?_) (fun hd => ?_) <;> first | (exfalso; omega) | (conv => whnf))
    | (refine spl_intro (fun hd => ?_) (fun hd => ?_) <;> conv => whnf)
    | (refine CallK.ret f_quotalaw16_awake.ok (awake_spec) ?_; rintro v G ⟨rfl, rfl⟩; conv => whnf)
    | fail)
  exact Ret.eq rfl (Imp.refl _)

set_option maxRecDepth 100000 in
theorem lifted (os : Os) (started : os.Started) (H : Type) (enc : TypeId × Value → H) :
    ReturnsInHanded {} Try.checked os 3 .any (Rows.pointsNamesSpec.pre6 enc Try.prog Try.f3 Rows.pointsNamesRow.domain false) (Rows.pointsNamesSpec.post enc Try.prog Try.f3 false true false false) := by
  refine returnsInHanded_of_change (C := Try.checked) (by kernel_rfl) started (by kernel_rfl) Try.func3
    (ChangeSpec.witness6 (enc := enc) (C := Try.checked) false ⟨#[], #[], []⟩ 8 (by kernel_rfl) (by kernel_rfl) (by kernel_rfl) (by kernel_rfl)) ?_
  intro W base args ds gs before _ hW _ _
  have hW' := hW
  obtain ⟨p, q, hA0, hV, rfl, _, _⟩ := hW'
  have hA : DataW.TrodAll enc Try.prog W 0 (fun _ => true) true Try.f3.params.toList args.toList ds p := hA0
  rw [Try.params3] at hA
  obtain ⟨rfl, rfl, rfl⟩ := trodAll_none hA
  obtain ⟨rfl, rfl⟩ := trodVars_none hV
  exact (Does.law walk).mono fun e W' ⟨he, hb⟩ => ⟨_, he, law_post hW rfl laid (by kernel_rfl) rfl Try.underlying4 rfl hb⟩

theorem proved : Rows.PointsNamesSaid :=
  OpenClaim.holds_of_wide 3 Try.f3 rfl rfl rfl rfl rfl rfl rfl ⟨rfl, rfl, rfl, rfl, rfl⟩ rfl rfl rfl rfl rfl (by kernel_rfl) Try.func3 (by kernel_rfl)
    (of_decide_eq_true (by kernel_rfl)) (by unfold Func.isWrapper; first | (rw [if_pos (by decide +kernel)]; kernel_rfl) | (rw [if_neg (by decide +kernel)]; exact ⟨rfl, rfl⟩))
    (fun os started H enc _ => lifted os started H enc)
end Go.Proofs.Ytijnojaneheaeaa.pointsNames
