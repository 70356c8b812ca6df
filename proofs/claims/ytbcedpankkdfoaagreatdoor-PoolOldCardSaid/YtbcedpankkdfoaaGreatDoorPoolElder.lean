/- PoolOld answers true, and nothing that was there turns. No condition. -/
import Derived.Test.YtbcedpankkdfoaaGreatDoorPart35
import Derived.Test.YtbcedpankkdfoaaGreatDoorPart36
import Derived.Test.YtbcedpankkdfoaaGreatDoorTie
import Derived.Test.YtbcedpankkdfoaaGreatDoorCards
import Derived.SevenTiedAt
namespace Go.Proofs.YtbcedpankkdfoaaGreatDoor.poolOld
open Go Go.SL Go.SL.Sec Go.SL.Pool Go.ChangeShapes Go.WideShapes Go.ChangeAt Go.RowKit
theorem shape_dec {HT:Type} {enc:TypeId × Value → HT} {W:World} {cs:List Value} {d:DataW HT} (h:DecR enc prog W t_api_Shape cs d):∃ a b c,cs = [.int .i64 a,.int .i64 b,.int .i64 c]:=by
 obtain ⟨hl,hf⟩:=DecR.struct u_api_Shape h
 have hl:cs.length = 3:=hl.trans (by kernel_rfl)
 obtain ⟨a0,a1,a2,rfl⟩:=len3 hl
 obtain ⟨y0,h0,_⟩:=hf 0 _ rfl
 obtain ⟨y1,h1,_⟩:=hf 1 _ rfl
 obtain ⟨y2,h2,_⟩:=hf 2 _ rfl
 obtain ⟨z0,e0,_⟩:=int_dec u_int h0
 obtain ⟨z1,e1,_⟩:=int_dec u_int h1
 obtain ⟨z2,e2,_⟩:=int_dec u_int h2
 simp [d_int] at e0 e1 e2
 exact ⟨z0,z1,z2,by rw [e0,e1,e2]⟩
structure OkFall (W:World) (f:FallV):Prop where
 row:OldR W 1 u64s f.l.ka f.l.K
 len:f.l.K.length ≤ 17592186044416
theorem d_fall:prog.cellsOf t_z45 = 4:=by kernel_rfl
theorem b_word:prog.bytesOf t_uint64 = 8:=by kernel_rfl
theorem fall_dec {HT:Type} {enc:TypeId × Value → HT} {W:World}:∀ cs d,DecR enc prog W t_z45 cs d → Fits prog t_z45 d → ∃ f:FallV,OkFall W f ∧ cs = falll f:=by
 intro cs d h hF
 obtain ⟨hl,hf⟩:=DecR.struct u_quotalaw09_Fall h
 rw [d_fall] at hl
 obtain ⟨y0,h0,_⟩:=hf 0 _ rfl
 obtain ⟨y1,h1,f1⟩:=hf 1 _ rfl
 obtain ⟨z0,e0,_⟩:=int_dec u_int h0
 obtain ⟨_,hg⟩:=DecR.struct u_api_Loss h1
 obtain ⟨x0,g0,k0⟩:=hg 0 _ rfl
 obtain ⟨x1,g1,_⟩:=hg 1 _ rfl
 obtain ⟨x2,g2,_⟩:=hg 2 _ rfl
 obtain ⟨a,n,c,xs,q0,o0,_,wb⟩:=DecR.slice u_S_uint64 word_dec (fun _=>d_uint64.symm) (by rw [d_uint64];decide) g0 (k0 (f1 hF))
 obtain ⟨z1,q1,_⟩:=int_dec u_int g1
 obtain ⟨z2,q2,_⟩:=int_dec u_int g2
 have hn:=o0.hlen
 have hc:=o0.hcap.1
 subst hn
 rw [d_uint64] at o0
 rw [b_word] at wb
 clear h0 h1 g0 g1 g2 hf hg h f1 k0
 obtain ⟨a0,a1,a2,a3,rfl⟩:=len4 hl
 simp [d_int,d_S_uint64,d_api_Loss] at e0 q0 q1 q2
 have hr:reachBytes = 140737488351232:=rfl
 exact ⟨⟨z0,⟨a,c,xs,z1,z2⟩⟩,⟨o0.r,by show xs.length ≤ 17592186044416;omega⟩,by simp [falll,e0,q0,q1,q2]⟩
set_option maxRecDepth 100000 in
theorem lifted (os:Os) (started:os.Started) (H:Type) (enc:TypeId × Value → H) :
  ReturnsInHanded {} Tryz.checked os 7 .any (fun w args=>(Rows.poolOldSpec.pre enc Tryz.prog Tryz.f7 [] false w args ∧ laidMetH Tryz.prog Rows.poolOldRow.laid w) ∧ sizedMet enc Tryz.prog Tryz.f7 (OpenSpec.ofChange Rows.poolOldSpec) false w args)
   (Rows.poolOldSpec.post enc Tryz.prog Tryz.f7 false true false false):=by
 refine returnsInHanded_of_change_and (C:=Tryz.checked) (X:=fun w _=>laidMetH Tryz.prog Rows.poolOldRow.laid w) (fun _ _ _ hh h=>h.of_heap hh) own_knob started (by kernel_rfl) Tryz.func7
  (ChangeSpec.witness_shaped (enc:=enc) (C:=Tryz.checked) (os:=os) (X:=fun w _=>laidMetH Tryz.prog Rows.poolOldRow.laid w) false (World.doorLaid Tryz.prog 600 os) #[.agg #[.int .i64 0,.int .i64 0,.int .i64 0],.slice none 0 0,.agg #[.int .i64 0,.slice none 0 0,.int .i64 0,.int .i64 0],.slice none 0 0] 8 rfl (World.shaped_of_RefB (by kernel_rfl) (by kernel_rfl)) (by kernel_rfl) (by kernel_rfl) (by kernel_rfl) (door_met os _)) ?_
 intro W base args ds gs before hval0 hW _ hbig0 hL _
 have hval:∀ (j:Nat) t v,Tryz.f7.params[j]? = some t → args[j]? = some v → Value.okWide Tryz.prog W .any base t v:=hval0
 have hW':=hW
 obtain ⟨p,q,hA0,hV,rfl,_,_⟩:=hW'
 have hA:DataW.TrodAll enc Tryz.prog W 0 (fun _=>true) true Tryz.f7.params.toList args.toList ds p:=hA0
 have hbig:(DataW.weightsEach Tryz.prog (Tryz.f7.params.toList ++ Rows.poolOldSpec.plain.varTypes Tryz.prog) (ds ++ gs)).all (· ≤ reachBytes) = true:=hbig0
 rw [Tryz.params7] at hA hval hbig
 obtain ⟨v0,v1,v2,v3,d0,d1,d2,d3,q0,q1,q2,q3,rfl,rfl,rfl,h0,h1,h2,h3⟩:=trodAll_four hA
 obtain ⟨rfl,rfl⟩:=trodVars_none hV
 have hL':laidMetH prog laidL W:=hL
 haveI:=laid_err hL'
 haveI:=laid_nib hL'
 obtain ⟨lp⟩:=laid_pg hL'
 obtain ⟨cs0,rfl,hs0⟩:=DecR.agg u_api_Shape (hval 0 24 v0 rfl rfl) h0
 obtain ⟨a1,n1,k1,rfl,hs1⟩:=DecR.slc u_S_quotalaw09_Op (hval 1 25 v1 rfl rfl) h1
 obtain ⟨cs2,rfl,hs2⟩:=DecR.agg u_quotalaw09_Fall (hval 2 88 v2 rfl rfl) h2
 obtain ⟨a3,n3,k3,rfl,hs3⟩:=DecR.slc u_S_quotalaw09_Fall (hval 3 89 v3 rfl rfl) h3
 have f1:Fits Tryz.prog 25 d1:=Fits.of_each hbig (j:=1) rfl rfl
 have f2:Fits Tryz.prog 88 d2:=Fits.of_each hbig (j:=2) rfl rfl
 have f3:Fits Tryz.prog 89 d3:=Fits.of_each hbig (j:=3) rfl rfl
 obtain ⟨zp,zl,zf,rfl⟩:=shape_dec hs0
 obtain ⟨a1',n1',k1',L,e1,o1,w1,_⟩:=DecR.slice u_S_quotalaw09_Op op_dec (fun _=>d_op.symm) (by show 0 < prog.cellsOf t_z42;rw [d_op];decide) hs1 f1
 obtain ⟨fl,hfl,rfl⟩:=fall_dec _ _ hs2 f2
 obtain ⟨a3',n3',k3',Fs,e3,o3,w3,_⟩:=DecR.slice u_S_quotalaw09_Fall fall_dec (fun _=>d_fall.symm) (by show 0 < prog.cellsOf t_z45;rw [d_fall];decide) hs3 f3
 simp at e1 e3
 obtain ⟨rfl,rfl,rfl⟩:=e1
 obtain ⟨rfl,rfl,rfl⟩:=e3
 have o2:OldVec W 11 opl a1 n1 k1 L:=by rw [← d_op];exact o1
 have o4:OldVec W 4 falll a3 n3 k3 Fs:=by rw [← d_fall];exact o3
 have hl1:=o2.hlen
 have hc1:=o2.hcap
 have hl3:=o4.hlen
 have hc3:=o4.hcap
 have hm:(maxLen:Int) ≤ 9223372036854775807:=by decide
 subst hl1 hl3
 exact (Does.law (old_walk (rp:=zp) (rl:=zl) (rf0:=zf) o2.r (by omega) w1 hfl.row hfl.len o4.r (by omega) (fun f h=>⟨(w3 f h).row,(w3 f h).len⟩))).mono fun e W' ⟨he,hb⟩=>⟨_,he,law_post hW rfl laid_out (by kernel_rfl) rfl Tryz.underlying4 rfl hb⟩
theorem row_holds:Rows.PoolOldSaid :=
 OpenClaim.holds_of_wide 7 Tryz.f7 rfl rfl rfl rfl rfl rfl rfl ⟨rfl,rfl,rfl,rfl,rfl⟩ rfl rfl rfl rfl rfl (by kernel_rfl) Tryz.func7 facts
  (of_decide_eq_true (by kernel_rfl)) (by unfold Func.isWrapper;first|(rw [if_pos (by decide +kernel)];kernel_rfl)|(rw [if_neg (by decide +kernel)];exact ⟨rfl,rfl⟩))
  (fun os started H enc _=>lifted os started H enc)
theorem proved:Rows.PoolOldCardSaid :=
 Claim7.holds_tied_plain_at .later [] Rows.poolOldCard.laidKinds true Rows.poolOldCard.stood.harness true
  row_holds (fun _ h=>by cases h) c_wf (fun _ h=>by cases h) poolOld_row_tie rfl ⟨rfl,rfl⟩ c_main rfl
  (fun f fn hf hfn=>by
   obtain rfl : f = 7 := Option.some.inj ((show Tryz.prog.funcNamed "quota/quotalaw09.PoolOld" = some 7 by kernel_rfl).symm.trans hf) |>.symm
   obtain rfl:fn = Tryz.f7:=(Option.some.inj (Tryz.func7.symm.trans hfn)).symm
   exact ⟨c_looks,fun j t ht=>by
    rw [Tryz.params7] at ht
    have hm:t ∈ [24,25,88,89]:=by simpa using Array.mem_of_getElem? ht
    have hall:([24,25,88,89].all fun u=>!Tryz.prog.wantsStandIn u) = true:=by kernel_rfl
    exact (show Tryz.prog.wantsStandIn t = false by simpa using List.all_eq_true.1 hall t hm)⟩)
  c_goes
end Go.Proofs.YtbcedpankkdfoaaGreatDoor.poolOld
