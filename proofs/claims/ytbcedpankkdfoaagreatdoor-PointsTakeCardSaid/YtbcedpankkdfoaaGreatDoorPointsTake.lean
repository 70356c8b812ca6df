/- PointsTake answers true, and nothing that was there turns. No condition. -/
import Derived.Test.YtbcedpankkdfoaaGreatDoorPart33
import Derived.Test.YtbcedpankkdfoaaGreatDoorPart34
import Derived.Test.YtbcedpankkdfoaaGreatDoorTie
import Derived.Test.YtbcedpankkdfoaaGreatDoorCards
import Derived.SevenTiedAt
set_option linter.unusedVariables false
set_option linter.unusedSimpArgs false
namespace Go.Proofs.YtbcedpankkdfoaaGreatDoor.pointsTake
open Go Go.SL Go.SL.Pts Go.SL.Rec Go.SL.Pool Go.ChangeShapes Go.WideShapes Go.ChangeAt Go.RowKit
theorem d_step:prog.cellsOf t_quotalaw16_Op = 2:=by kernel_rfl
theorem step_dec {HT:Type} {enc:TypeId × Value → HT} {W:World}:∀ cs d,DecR enc prog W t_quotalaw16_Op cs d → Fits prog t_quotalaw16_Op d → ∃ x:DirtyV,True ∧ cs = dirtyv x:=by
 intro cs d h _
 obtain ⟨hl,hf⟩:=DecR.struct u_quotalaw16_Op h
 rw [d_step] at hl
 obtain ⟨a0,a1,rfl⟩:=len2 hl
 obtain ⟨y0,h0,_⟩:=hf 0 _ rfl
 obtain ⟨y1,h1,_⟩:=hf 1 _ rfl
 obtain ⟨z0,e0,_⟩:=int_dec u_int h0
 obtain ⟨z1,e1,_⟩:=int_dec u_int h1
 simp [d_int] at e0 e1
 exact ⟨(z0,z1),trivial,by rw [e0,e1];rfl⟩
set_option maxRecDepth 100000 in
theorem lifted (os:Os) (started:os.Started) (H:Type) (enc:TypeId × Value → H) :
  ReturnsInHanded {} Tryz.checked os 14 .any (fun w args=>(Rows.pointsTakeSpec.pre enc Tryz.prog Tryz.f14 [] false w args ∧ laidMetH Tryz.prog Rows.pointsTakeRow.laid w) ∧ sizedMet enc Tryz.prog Tryz.f14 (OpenSpec.ofChange Rows.pointsTakeSpec) false w args)
   (Rows.pointsTakeSpec.post enc Tryz.prog Tryz.f14 false true false false):=by
 refine returnsInHanded_of_change_and (C:=Tryz.checked) (X:=fun w _=>laidMetH Tryz.prog Rows.pointsTakeRow.laid w) (fun _ _ _ hh h=>h.of_heap hh) own_knob started (by kernel_rfl) Tryz.func14
  (ChangeSpec.witness_shaped (enc:=enc) (C:=Tryz.checked) (os:=os) (X:=fun w _=>laidMetH Tryz.prog Rows.pointsTakeRow.laid w) false (World.doorLaid Tryz.prog 600 os) #[.int .i64 0,.slice none 0 0] 8 rfl (World.shaped_of_RefB (by kernel_rfl) (by kernel_rfl)) (by kernel_rfl) (by kernel_rfl) (by kernel_rfl) (door_met os _)) ?_
 intro W base args ds gs before hval0 hW _ hbig0 hL _
 have hval:∀ (j:Nat) t v,Tryz.f14.params[j]? = some t → args[j]? = some v → Value.okWide Tryz.prog W .any base t v:=hval0
 have hW':=hW
 obtain ⟨p,q,hA0,hV,rfl,_,_⟩:=hW'
 have hA:DataW.TrodAll enc Tryz.prog W 0 (fun _=>true) true Tryz.f14.params.toList args.toList ds p:=hA0
 have hbig:(DataW.weightsEach Tryz.prog (Tryz.f14.params.toList ++ Rows.pointsTakeSpec.plain.varTypes Tryz.prog) (ds ++ gs)).all (· ≤ reachBytes) = true:=hbig0
 rw [Tryz.params14] at hA hval hbig
 obtain ⟨v0,v1,d0,d1,q0,q1,rfl,rfl,rfl,h0,h1⟩:=trodAll_two hA
 obtain ⟨rfl,rfl⟩:=trodVars_none hV
 have hL':laidMetH prog laidL W:=hL
 haveI:=laid_err hL'
 haveI:=laid_nib hL'
 obtain ⟨lp⟩:=laid_pg hL'
 obtain ⟨zs,rfl,_⟩:=DecR.num u_int (hval 0 3 v0 rfl rfl) h0
 obtain ⟨a1,n1,k1,rfl,hs1⟩:=DecR.slc u_S_quotalaw16_Op (hval 1 141 v1 rfl rfl) h1
 have f1:Fits Tryz.prog 141 d1:=Fits.of_each hbig (j:=1) rfl rfl
 obtain ⟨a1',n1',k1',L,e1,o1,w1,_⟩:=DecR.slice u_S_quotalaw16_Op step_dec (fun _=>d_step.symm) (by show 0 < prog.cellsOf t_quotalaw16_Op;rw [d_step];decide) hs1 f1
 simp at e1
 obtain ⟨rfl,rfl,rfl⟩:=e1
 have o2:OldVec W 2 dirtyv a1 n1 k1 L:=by rw [← d_step];exact o1
 have hl1:=o2.hlen
 have hc1:=o2.hcap
 have hm:(maxLen:Int) ≤ 9223372036854775807:=by decide
 subst hl1
 exact (Does.law (take_walk (z:=zs) o2.r (by omega))).mono fun e W' ⟨he,hb⟩=>⟨_,he,law_post hW rfl laid_out (by kernel_rfl) rfl Tryz.underlying4 rfl hb⟩
theorem row_holds:Rows.PointsTakeSaid :=
 OpenClaim.holds_of_wide 14 Tryz.f14 rfl rfl rfl rfl rfl rfl rfl ⟨rfl,rfl,rfl,rfl,rfl⟩ rfl rfl rfl rfl rfl (by kernel_rfl) Tryz.func14 facts
  (of_decide_eq_true (by kernel_rfl)) (by unfold Func.isWrapper;first|(rw [if_pos (by decide +kernel)];kernel_rfl)|(rw [if_neg (by decide +kernel)];exact ⟨rfl,rfl⟩))
  (fun os started H enc _=>lifted os started H enc)
theorem proved:Rows.PointsTakeCardSaid :=
 Claim7.holds_tied_plain_at .later [] Rows.pointsTakeCard.laidKinds true Rows.pointsTakeCard.stood.harness true
  row_holds (fun _ h=>by cases h) c_wf (fun _ h=>by cases h) pointsTake_row_tie rfl ⟨rfl,rfl⟩ c_main rfl
  (fun f fn hf hfn=>by
   obtain rfl : f = 14 := Option.some.inj ((show Tryz.prog.funcNamed "quota/quotalaw16.PointsTake" = some 14 by kernel_rfl).symm.trans hf) |>.symm
   obtain rfl:fn = Tryz.f14:=(Option.some.inj (Tryz.func14.symm.trans hfn)).symm
   exact ⟨c_looks,fun j t ht=>by
    rw [Tryz.params14] at ht
    have hm:t ∈ [3,141]:=by simpa using Array.mem_of_getElem? ht
    have hall:([3,141].all fun u=>!Tryz.prog.wantsStandIn u) = true:=by kernel_rfl
    exact (show Tryz.prog.wantsStandIn t = false by simpa using List.all_eq_true.1 hall t hm)⟩)
  c_goes
end Go.Proofs.YtbcedpankkdfoaaGreatDoor.pointsTake
