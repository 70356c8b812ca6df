/- PoolNames answers true, and nothing that was there turns. No condition. -/
import Derived.Test.YtgcknlpkhhpkjaaGreatDoorPart32
import Derived.Test.YtgcknlpkhhpkjaaGreatDoorTie
import Derived.Test.YtgcknlpkhhpkjaaGreatDoorCards
import Derived.SevenTiedAt
namespace Go.Proofs.YtgcknlpkhhpkjaaGreatDoor.poolNames
open Go Go.SL Go.ChangeShapes Go.WideShapes Go.ChangeAt Go.RowKit
theorem walk {W : World} [le : LaidE W] [lc : LaidC W] [lp : LaidP W] : Does prog W f_quotalaw09_PoolNames ⟨[]⟩ (old W • emp) (Ret fun v G => v = .bool true ∧ G = (old W • emp)) := by
  refine f_quotalaw09_PoolNames.does ?_
  conv => whnf
  skip
  refine CallK.ret f_quotalaw09_awake.ok awake_spec ?_
  rintro v G ⟨rfl, rfl⟩
  conv => whnf
  skip
  refine Ret.eq rfl ?_
  first | exact Imp.refl _ | exact Imp.drop | exact Imp.fin | ((repeat (refine Imp.pick ?_)); first | exact Imp.refl _ | exact Imp.emp _ | exact Imp.fin)

set_option maxRecDepth 100000 in
theorem lifted (os : Os) (started : os.Started) (H : Type) (enc : TypeId × Value → H) :
    ReturnsInHanded {} Tryz.checked os 3 .any (fun w args => (Rows.poolNamesSpec.pre enc Tryz.prog Tryz.f3 [] false w args ∧ laidMetH Tryz.prog Rows.poolNamesRow.laid w) ∧ sizedMet enc Tryz.prog Tryz.f3 (OpenSpec.ofChange Rows.poolNamesSpec) false w args)
      (Rows.poolNamesSpec.post enc Tryz.prog Tryz.f3 false true false false) := by
  refine returnsInHanded_of_change_and (C := Tryz.checked) (X := fun w _ => laidMetH Tryz.prog Rows.poolNamesRow.laid w) (fun _ _ _ hh h => h.of_heap hh) own_knob started (by kernel_rfl) Tryz.func3
    (ChangeSpec.witness_shaped (enc := enc) (C := Tryz.checked) (os := os) (X := fun w _ => laidMetH Tryz.prog Rows.poolNamesRow.laid w) false (World.doorLaid Tryz.prog 600 os) #[] 8 rfl (World.shaped_of_RefB (by kernel_rfl) (by kernel_rfl)) (by kernel_rfl) (by kernel_rfl) (by kernel_rfl) (door_met os _)) ?_
  intro W base args ds gs before hval0 hW _ hbig0 hL _
  have hW' := hW
  obtain ⟨p, q, hA0, hV, rfl, _, _⟩ := hW'
  have hA : DataW.TrodAll enc Tryz.prog W 0 (fun _ => true) true Tryz.f3.params.toList args.toList ds p := hA0
  rw [Tryz.params3] at hA
  obtain ⟨rfl, rfl, rfl⟩ := trodAll_none hA
  obtain ⟨rfl, rfl⟩ := trodVars_none hV
  have hL' : laidMetH prog laidL W := hL
  haveI := laid_err hL'
  haveI := laid_nib hL'
  obtain ⟨lp⟩ := laid_pg hL'
  exact (Does.law walk).mono fun e W' ⟨he, hb⟩ => ⟨_, he, law_post hW rfl laid_out (by kernel_rfl) rfl Tryz.underlying4 rfl hb⟩

theorem row_holds : Rows.PoolNamesSaid :=
  OpenClaim.holds_of_wide 3 Tryz.f3 rfl rfl rfl rfl rfl rfl rfl ⟨rfl, rfl, rfl, rfl, rfl⟩ rfl rfl rfl rfl rfl (by kernel_rfl) Tryz.func3 facts
    (of_decide_eq_true (by kernel_rfl)) (by unfold Func.isWrapper; first | (rw [if_pos (by decide +kernel)]; kernel_rfl) | (rw [if_neg (by decide +kernel)]; exact ⟨rfl, rfl⟩))
    (fun os started H enc _ => lifted os started H enc)
theorem proved : Rows.PoolNamesCardSaid :=
  Claim7.holds_tied_plain_at .later [] Rows.poolNamesCard.laidKinds true Rows.poolNamesCard.stood.harness true
    row_holds (fun _ h => by cases h) c_wf (fun _ h => by cases h) poolNames_row_tie rfl ⟨rfl, rfl⟩ c_main rfl
    (fun f fn hf hfn => by
      obtain rfl : f = 3 := Option.some.inj ((show Tryz.prog.funcNamed "quota/quotalaw09.PoolNames" = some 3 by kernel_rfl).symm.trans hf) |>.symm
      obtain rfl : fn = Tryz.f3 := (Option.some.inj (Tryz.func3.symm.trans hfn)).symm
      exact ⟨c_looks, fun j t ht => by
        rw [Tryz.params3] at ht
        simp at ht⟩)
    c_goes
end Go.Proofs.YtgcknlpkhhpkjaaGreatDoor.poolNames
