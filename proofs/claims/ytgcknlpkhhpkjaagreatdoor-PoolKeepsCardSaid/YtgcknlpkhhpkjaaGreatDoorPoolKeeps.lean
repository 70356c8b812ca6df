/- PoolKeeps answers true, and nothing that was there turns. No condition. -/
import Derived.Test.YtgcknlpkhhpkjaaGreatDoorPart34
import Derived.Test.YtgcknlpkhhpkjaaGreatDoorTie
import Derived.Test.YtgcknlpkhhpkjaaGreatDoorCards
import Derived.SevenTiedAt
namespace Go.Proofs.YtgcknlpkhhpkjaaGreatDoor.poolKeeps
open Go Go.SL Go.SL.Pool Go.ChangeShapes Go.WideShapes Go.ChangeAt Go.RowKit
theorem shape_dec {HT : Type} {enc : TypeId × Value → HT} {W : World} {cs : List Value} {d : DataW HT} (h : DecR enc prog W t_api_Shape cs d) : ∃ a b c, cs = [.int .i64 a, .int .i64 b, .int .i64 c] := by
 obtain ⟨hl, hf⟩ := DecR.struct u_api_Shape h
 have hl : cs.length = 3 := hl.trans (by kernel_rfl)
 obtain ⟨a0, a1, a2, rfl⟩ := len3 hl
 obtain ⟨y0, h0, _⟩ := hf 0 _ rfl
 obtain ⟨y1, h1, _⟩ := hf 1 _ rfl
 obtain ⟨y2, h2, _⟩ := hf 2 _ rfl
 obtain ⟨z0, e0, _⟩ := int_dec u_int h0
 obtain ⟨z1, e1, _⟩ := int_dec u_int h1
 obtain ⟨z2, e2, _⟩ := int_dec u_int h2
 simp [d_int] at e0 e1 e2
 exact ⟨z0, z1, z2, by rw [e0, e1, e2]⟩
set_option maxRecDepth 100000 in
theorem lifted (os : Os) (started : os.Started) (H : Type) (enc : TypeId × Value → H) :
  ReturnsInHanded {} Tryz.checked os 4 .any (fun w args => (Rows.poolKeepsSpec.pre enc Tryz.prog Tryz.f4 [] false w args ∧ laidMetH Tryz.prog Rows.poolKeepsRow.laid w) ∧ sizedMet enc Tryz.prog Tryz.f4 (OpenSpec.ofChange Rows.poolKeepsSpec) false w args)
   (Rows.poolKeepsSpec.post enc Tryz.prog Tryz.f4 false true false false) := by
 refine returnsInHanded_of_change_and (C := Tryz.checked) (X := fun w _ => laidMetH Tryz.prog Rows.poolKeepsRow.laid w) (fun _ _ _ hh h => h.of_heap hh) own_knob started (by kernel_rfl) Tryz.func4
  (ChangeSpec.witness_shaped (enc := enc) (C := Tryz.checked) (os := os) (X := fun w _ => laidMetH Tryz.prog Rows.poolKeepsRow.laid w) false (World.doorLaid Tryz.prog 600 os) #[.agg #[.int .i64 0, .int .i64 0, .int .i64 0], .slice none 0 0] 8 rfl (World.shaped_of_RefB (by kernel_rfl) (by kernel_rfl)) (by kernel_rfl) (by kernel_rfl) (by kernel_rfl) (door_met os _)) ?_
 intro W base args ds gs before hval0 hW _ hbig0 hL _
 have hval : ∀ (j : Nat) t v, Tryz.f4.params[j]? = some t → args[j]? = some v → Value.okWide Tryz.prog W .any base t v := hval0
 have hW' := hW
 obtain ⟨p, q, hA0, hV, rfl, _, _⟩ := hW'
 have hA : DataW.TrodAll enc Tryz.prog W 0 (fun _ => true) true Tryz.f4.params.toList args.toList ds p := hA0
 have hbig : (DataW.weightsEach Tryz.prog (Tryz.f4.params.toList ++ Rows.poolKeepsSpec.plain.varTypes Tryz.prog) (ds ++ gs)).all (· ≤ reachBytes) = true := hbig0
 rw [Tryz.params4] at hA hval hbig
 obtain ⟨v0, v1, d0, d1, q0, q1, rfl, rfl, rfl, h0, h1⟩ := trodAll_two hA
 obtain ⟨rfl, rfl⟩ := trodVars_none hV
 have hL' : laidMetH prog laidL W := hL
 haveI := laid_err hL'
 haveI := laid_nib hL'
 obtain ⟨lp⟩ := laid_pg hL'
 obtain ⟨cs0, rfl, hs0⟩ := DecR.agg u_api_Shape (hval 0 24 v0 rfl rfl) h0
 obtain ⟨a1, n1, k1, rfl, hs1⟩ := DecR.slc u_S_quotalaw09_Op (hval 1 25 v1 rfl rfl) h1
 have f1 : Fits Tryz.prog 25 d1 := Fits.of_each hbig (j := 1) rfl rfl
 obtain ⟨zp, zl, zf, rfl⟩ := shape_dec hs0
 obtain ⟨a1', n1', k1', L, e1, o1, w1, _⟩ := DecR.slice u_S_quotalaw09_Op op_dec (fun _ => d_op.symm) (by show 0 < prog.cellsOf t_z3w; rw [d_op]; decide) hs1 f1
 simp at e1
 obtain ⟨rfl, rfl, rfl⟩ := e1
 have o2 : OldVec W 11 opl a1 n1 k1 L := by rw [← d_op]; exact o1
 have hl1 := o2.hlen
 have hc1 := o2.hcap
 have hm : (maxLen : Int) ≤ 9223372036854775807 := by decide
 subst hl1
 exact (Does.law (keeps_walk (rp := zp) (rl := zl) (rf := zf) o2.r (by omega) w1)).mono fun e W' ⟨he, hb⟩ => ⟨_, he, law_post hW rfl laid_out (by kernel_rfl) rfl Tryz.underlying4 rfl hb⟩
theorem row_holds : Rows.PoolKeepsSaid :=
 OpenClaim.holds_of_wide 4 Tryz.f4 rfl rfl rfl rfl rfl rfl rfl ⟨rfl, rfl, rfl, rfl, rfl⟩ rfl rfl rfl rfl rfl (by kernel_rfl) Tryz.func4 facts
  (of_decide_eq_true (by kernel_rfl)) (by unfold Func.isWrapper; first | (rw [if_pos (by decide +kernel)]; kernel_rfl) | (rw [if_neg (by decide +kernel)]; exact ⟨rfl, rfl⟩))
  (fun os started H enc _ => lifted os started H enc)
theorem proved : Rows.PoolKeepsCardSaid :=
 Claim7.holds_tied_plain_at .later [] Rows.poolKeepsCard.laidKinds true Rows.poolKeepsCard.stood.harness true
  row_holds (fun _ h => by cases h) c_wf (fun _ h => by cases h) poolKeeps_row_tie rfl ⟨rfl, rfl⟩ c_main rfl
  (fun f fn hf hfn => by
   obtain rfl : f = 4 := Option.some.inj ((show Tryz.prog.funcNamed "quota/quotalaw09.PoolKeeps" = some 4 by kernel_rfl).symm.trans hf) |>.symm
   obtain rfl : fn = Tryz.f4 := (Option.some.inj (Tryz.func4.symm.trans hfn)).symm
   exact ⟨c_looks, fun j t ht => by
    rw [Tryz.params4] at ht
    have hm : t ∈ [24, 25] := by simpa using Array.mem_of_getElem? ht
    have hall : ([24, 25].all fun u => !Tryz.prog.wantsStandIn u) = true := by kernel_rfl
    exact (show Tryz.prog.wantsStandIn t = false by simpa using List.all_eq_true.1 hall t hm)⟩)
  c_goes
end Go.Proofs.YtgcknlpkhhpkjaaGreatDoor.poolKeeps
