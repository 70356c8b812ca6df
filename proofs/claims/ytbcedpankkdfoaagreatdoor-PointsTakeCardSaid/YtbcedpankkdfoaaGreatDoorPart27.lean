/- The shelf's contracts on maps.Keys, slices.Sorted, slices.Sort at ints, laid at this program. No condition. -/
import Derived.Test.YtbcedpankkdfoaaGreatDoorPart6
import Derived.Test.YtbcedpankkdfoaaGreatDoorPart9
import Derived.Test.YtbcedpankkdfoaaGreatDoorPart26
import Derived.Test.YtbcedpankkdfoaaGreatDoorPart20
import Derived.Test.YtbcedpankkdfoaaGreatDoorPart19
set_option linter.unusedVariables false
set_option linter.unusedSimpArgs false
namespace Go.Proofs.YtbcedpankkdfoaaGreatDoor
open Go.Proofs Go.RowKit Go.Maps Go.Sort Go.Shelf
def laySorted_ren:Go.Shelf.Ren:=⟨fun|6=>107|8=>206|9=>207|11=>281|13=>283|12=>282|23=>344|24=>345|14=>335|15=>336|16=>337|17=>338|18=>339|19=>340|20=>341|21=>342|22=>343|25=>371|26=>372|27=>373|28=>374|29=>375|30=>376|31=>381|n=>n,fun|26=>3|28=>200|24=>42|0=>0|3=>3|37=>398|48=>194|50=>191|4=>4|40=>445|39=>444|45=>303|5=>5|9=>9|51=>477|55=>374|57=>489|58=>203|33=>301|n=>n,fun|n=>n⟩
theorem laySorted:Go.Proofs.SlLaysZI.n6 Tryz.prog laySorted_ren where
 mixed:=by kernel_rfl
 f6:=⟨Tryz.f107.name,by decide,Tryz.func107.trans (congrArg some (by kernel_rfl))⟩
 f8:=⟨Tryz.f206.name,by decide,Tryz.func206.trans (congrArg some (by kernel_rfl))⟩
 f11:=⟨Tryz.f281.name,by decide,Tryz.func281.trans (congrArg some (by kernel_rfl))⟩
 t0:=Tryz.underlying0
 a0:=Tryz.isAgg0
 z0:=Tryz.sizeOf0
 v0:=Tryz.zeroValue0
 t24:=Tryz.underlying42
 a24:=Tryz.isAgg42
 z24:=Tryz.sizeOf42
 v24:=Tryz.zeroValue42
 t26:=Tryz.underlying3
 a26:=Tryz.isAgg3
 z26:=Tryz.sizeOf3
 v26:=Tryz.zeroValue3
 t28:=Tryz.underlying200
 a28:=Tryz.isAgg200
 z28:=Tryz.sizeOf200
 v28:=Tryz.zeroValue200
 i26:=by kernel_rfl
def laySort_ren:Go.Shelf.Ren:=⟨fun|5=>207|8=>283|7=>282|19=>344|20=>345|10=>335|11=>336|12=>337|13=>338|14=>339|15=>340|16=>341|17=>342|18=>343|30=>371|31=>372|32=>373|33=>374|34=>375|35=>376|40=>381|n=>n,fun|23=>42|25=>3|3=>3|32=>398|22=>42|0=>0|44=>194|46=>191|4=>4|36=>445|35=>444|41=>303|5=>5|9=>9|53=>477|57=>374|63=>489|64=>203|n=>n,fun|n=>n⟩
theorem laySort:Go.Proofs.SlLaysM.n5 Tryz.prog laySort_ren where
 mixed:=by kernel_rfl
 f5:=⟨Tryz.f207.name,by decide,Tryz.func207.trans (congrArg some (by kernel_rfl))⟩
 f7:=⟨Tryz.f282.name,by decide,Tryz.func282.trans (congrArg some (by kernel_rfl))⟩
 f8:=Tryz.func283.trans (congrArg some (by kernel_rfl))
 f10:=⟨Tryz.f335.name,by decide,Tryz.func335.trans (congrArg some (by kernel_rfl))⟩
 f11:=⟨Tryz.f336.name,by decide,Tryz.func336.trans (congrArg some (by kernel_rfl))⟩
 f12:=⟨Tryz.f337.name,by decide,Tryz.func337.trans (congrArg some (by kernel_rfl))⟩
 f13:=⟨Tryz.f338.name,by decide,Tryz.func338.trans (congrArg some (by kernel_rfl))⟩
 f14:=⟨Tryz.f339.name,by decide,Tryz.func339.trans (congrArg some (by kernel_rfl))⟩
 f15:=⟨Tryz.f340.name,by decide,Tryz.func340.trans (congrArg some (by kernel_rfl))⟩
 f16:=⟨Tryz.f341.name,by decide,Tryz.func341.trans (congrArg some (by kernel_rfl))⟩
 f17:=⟨Tryz.f342.name,by decide,Tryz.func342.trans (congrArg some (by kernel_rfl))⟩
 f18:=⟨Tryz.f343.name,by decide,Tryz.func343.trans (congrArg some (by kernel_rfl))⟩
 f19:=Tryz.func344.trans (congrArg some (by kernel_rfl))
 f20:=Tryz.func345.trans (congrArg some (by kernel_rfl))
 f30:=⟨Tryz.f371.name,by decide,Tryz.func371.trans (congrArg some (by kernel_rfl))⟩
 f31:=Tryz.func372.trans (congrArg some (by kernel_rfl))
 f32:=Tryz.func373.trans (congrArg some (by kernel_rfl))
 f33:=⟨Tryz.f374.name,by decide,Tryz.func374.trans (congrArg some (by kernel_rfl))⟩
 f34:=⟨Tryz.f375.name,by decide,Tryz.func375.trans (congrArg some (by kernel_rfl))⟩
 f35:=⟨Tryz.f376.name,by decide,Tryz.func376.trans (congrArg some (by kernel_rfl))⟩
 f40:=⟨Tryz.f381.name,by decide,Tryz.func381.trans (congrArg some (by kernel_rfl))⟩
 t0:=Tryz.underlying0
 a0:=Tryz.isAgg0
 z0:=Tryz.sizeOf0
 v0:=Tryz.zeroValue0
 t3:=Tryz.underlying3
 a3:=Tryz.isAgg3
 z3:=Tryz.sizeOf3
 v3:=Tryz.zeroValue3
 t4:=Tryz.underlying4
 a4:=Tryz.isAgg4
 z4:=Tryz.sizeOf4
 v4:=Tryz.zeroValue4
 t5:=Tryz.underlying5
 a5:=Tryz.isAgg5
 z5:=Tryz.sizeOf5
 v5:=Tryz.zeroValue5
 t9:=Tryz.underlying9
 a9:=Tryz.isAgg9
 z9:=Tryz.sizeOf9
 v9:=Tryz.zeroValue9
 t22:=Tryz.underlying42
 a22:=Tryz.isAgg42
 z22:=Tryz.sizeOf42
 v22:=Tryz.zeroValue42
 t23:=Tryz.underlying42
 a23:=Tryz.isAgg42
 z23:=Tryz.sizeOf42
 v23:=Tryz.zeroValue42
 t25:=Tryz.underlying3
 a25:=Tryz.isAgg3
 z25:=Tryz.sizeOf3
 v25:=Tryz.zeroValue3
 t32:=Tryz.underlying398
 a32:=Tryz.isAgg398
 z32:=Tryz.sizeOf398
 v32:=Tryz.zeroValue398
 t35:=Tryz.underlying444
 a35:=Tryz.isAgg444
 z35:=Tryz.sizeOf444
 v35:=Tryz.zeroValue444
 t36:=Tryz.underlying445
 a36:=Tryz.isAgg445
 z36:=Tryz.sizeOf445
 v36:=Tryz.zeroValue445
 t41:=Tryz.underlying303
 a41:=Tryz.isAgg303
 z41:=Tryz.sizeOf303
 v41:=Tryz.zeroValue303
 t44:=Tryz.underlying194
 a44:=Tryz.isAgg194
 z44:=Tryz.sizeOf194
 v44:=Tryz.zeroValue194
 t46:=Tryz.underlying191
 a46:=Tryz.isAgg191
 z46:=Tryz.sizeOf191
 v46:=Tryz.zeroValue191
 t53:=Tryz.underlying477
 a53:=Tryz.isAgg477
 z53:=Tryz.sizeOf477
 v53:=Tryz.zeroValue477
 t57:=Tryz.underlying374
 a57:=Tryz.isAgg374
 z57:=Tryz.sizeOf374
 v57:=Tryz.zeroValue374
 t63:=Tryz.underlying489
 a63:=Tryz.isAgg489
 z63:=Tryz.sizeOf489
 v63:=Tryz.zeroValue489
 t64:=Tryz.underlying203
 a64:=Tryz.isAgg203
 z64:=Tryz.sizeOf203
 v64:=Tryz.zeroValue203
def layKeys_pool_frame_ren:Go.Shelf.Ren:=⟨fun|7=>108|10=>208|n=>n,fun|23=>172|26=>3|3=>171|28=>200|0=>0|27=>199|33=>301|4=>4|n=>n,fun|n=>n⟩
theorem layKeys_pool_frame:Go.Proofs.SlLaysZI.n7 Tryz.prog layKeys_pool_frame_ren where
 mixed:=by kernel_rfl
 f7:=⟨Tryz.f108.name,by decide,Tryz.func108.trans (congrArg some (by kernel_rfl))⟩
 f10:=⟨Tryz.f208.name,by decide,Tryz.func208.trans (congrArg some (by kernel_rfl))⟩
 t0:=Tryz.underlying0
 a0:=Tryz.isAgg0
 z0:=Tryz.sizeOf0
 v0:=Tryz.zeroValue0
 t4:=Tryz.underlying4
 a4:=Tryz.isAgg4
 z4:=Tryz.sizeOf4
 v4:=Tryz.zeroValue4
 t23:=Tryz.underlying172
 a23:=Tryz.isAgg172
 z23:=Tryz.sizeOf172
 v23:=Tryz.zeroValue172
 t26:=Tryz.underlying3
 a26:=Tryz.isAgg3
 z26:=Tryz.sizeOf3
 v26:=Tryz.zeroValue3
 t27:=Tryz.underlying199
 a27:=Tryz.isAgg199
 z27:=Tryz.sizeOf199
 v27:=Tryz.zeroValue199
 t28:=Tryz.underlying200
 a28:=Tryz.isAgg200
 z28:=Tryz.sizeOf200
 v28:=Tryz.zeroValue200
 t33:=Tryz.underlying301
 a33:=Tryz.isAgg301
 z33:=Tryz.sizeOf301
 v33:=Tryz.zeroValue301
def layKeys_int_ren:Go.Shelf.Ren:=⟨fun|7=>252|10=>313|n=>n,fun|23=>345|26=>3|3=>3|28=>200|0=>0|27=>199|33=>301|4=>4|n=>n,fun|n=>n⟩
theorem layKeys_int:Go.Proofs.SlLaysZI.n7 Tryz.prog layKeys_int_ren where
 mixed:=by kernel_rfl
 f7:=⟨Tryz.f252.name,by decide,Tryz.func252.trans (congrArg some (by kernel_rfl))⟩
 f10:=⟨Tryz.f313.name,by decide,Tryz.func313.trans (congrArg some (by kernel_rfl))⟩
 t0:=Tryz.underlying0
 a0:=Tryz.isAgg0
 z0:=Tryz.sizeOf0
 v0:=Tryz.zeroValue0
 t4:=Tryz.underlying4
 a4:=Tryz.isAgg4
 z4:=Tryz.sizeOf4
 v4:=Tryz.zeroValue4
 t23:=Tryz.underlying345
 a23:=Tryz.isAgg345
 z23:=Tryz.sizeOf345
 v23:=Tryz.zeroValue345
 t26:=Tryz.underlying3
 a26:=Tryz.isAgg3
 z26:=Tryz.sizeOf3
 v26:=Tryz.zeroValue3
 t27:=Tryz.underlying199
 a27:=Tryz.isAgg199
 z27:=Tryz.sizeOf199
 v27:=Tryz.zeroValue199
 t28:=Tryz.underlying200
 a28:=Tryz.isAgg200
 z28:=Tryz.sizeOf200
 v28:=Tryz.zeroValue200
 t33:=Tryz.underlying301
 a33:=Tryz.isAgg301
 z33:=Tryz.sizeOf301
 v33:=Tryz.zeroValue301
def layKeys_api_Live_ren:Go.Shelf.Ren:=⟨fun|7=>254|10=>320|n=>n,fun|23=>265|26=>3|3=>158|28=>200|0=>0|27=>199|33=>301|4=>4|n=>n,fun|n=>n⟩
theorem layKeys_api_Live:Go.Proofs.SlLaysZI.n7 Tryz.prog layKeys_api_Live_ren where
 mixed:=by kernel_rfl
 f7:=⟨Tryz.f254.name,by decide,Tryz.func254.trans (congrArg some (by kernel_rfl))⟩
 f10:=⟨Tryz.f320.name,by decide,Tryz.func320.trans (congrArg some (by kernel_rfl))⟩
 t0:=Tryz.underlying0
 a0:=Tryz.isAgg0
 z0:=Tryz.sizeOf0
 v0:=Tryz.zeroValue0
 t4:=Tryz.underlying4
 a4:=Tryz.isAgg4
 z4:=Tryz.sizeOf4
 v4:=Tryz.zeroValue4
 t23:=Tryz.underlying265
 a23:=Tryz.isAgg265
 z23:=Tryz.sizeOf265
 v23:=Tryz.zeroValue265
 t26:=Tryz.underlying3
 a26:=Tryz.isAgg3
 z26:=Tryz.sizeOf3
 v26:=Tryz.zeroValue3
 t27:=Tryz.underlying199
 a27:=Tryz.isAgg199
 z27:=Tryz.sizeOf199
 v27:=Tryz.zeroValue199
 t28:=Tryz.underlying200
 a28:=Tryz.isAgg200
 z28:=Tryz.sizeOf200
 v28:=Tryz.zeroValue200
 t33:=Tryz.underlying301
 a33:=Tryz.isAgg301
 z33:=Tryz.sizeOf301
 v33:=Tryz.zeroValue301
end Go.Proofs.YtbcedpankkdfoaaGreatDoor
/- The program's pool: what is held, what is dirty; walked. Conditions: in each statement. -/
namespace Go.Proofs.YtbcedpankkdfoaaGreatDoor
open Go Go.SL Go.SL.Sec Go.SL.Fld Go.SL.Pts Go.SL.Rec Go.SL.Twn Go.SL.Pg Go.SL.Mst Go.SL.Pool
theorem pkeys_spec {W:World} {H:HProp} {r:Nat}:Does prog W f_z3u ⟨[.map (some r)]⟩ H (Ret fun v G=>∃ B,v = .func (.func f_z4d) ⟨[]⟩ ⟨[ptr B]⟩ ∧ G = (pts B (.cells ⟨[.map (some r)]⟩ t_M_int_P_pool_frame)•H)):=by
 refine f_z3u.does _ ?_
 conv=>whnf
 repeat' (first
  | (intro blk hblk;conv=>whnf))
 exact ⟨_,_,rfl,Imp.refl _,_,rfl,rfl⟩
theorem pheld_spec {W:World} {R:HProp} {p:Nat} {X:PoolX} (hl:X.held.length ≤ 1000000) (hk:∀ x ∈ X.held,0 ≤ x.1 ∧ x.1 ≤ 1000000) :
  Does prog W f_z2j ⟨[ptr p]⟩ (poolo p X•R) (Ret fun v G=>∃ a c,v = .slice a X.held.length c ∧ G = (vec t_int 1 ints a c (sortI (X.held.map (·.1)))•poolo p X•R)):=by
 rw [poolo_eq]
 refine f_z2j.does _ ?_
 conv=>whnf
 repeat' (first
  | (refine Ld.i ?_;conv=>whnf))
 refine CallK.ret f_z3u.ok pkeys_spec ?_
 rintro v G ⟨B,rfl,rfl⟩
 conv=>whnf
 skip
 refine CallK.ret f_z3t.ok (Does.sorted laySorted layKeys_pool_frame laySort rfl rfl rfl rfl (l:=mapv fptr X.held) (by rw [mapv_length];omega) (fun z hz=>by obtain ⟨q,hq,rfl⟩:=List.mem_map.1 hz;have:=hk q hq;dsimp only;omega)) ?_
 rintro v G ⟨ka,kc,rfl,rfl⟩
 rw [mapv_keys,mapv_length,show laySorted_ren.t 26 = t_int from rfl]
 conv=>whnf
 skip
 exact ⟨_,_,rfl,(by first|exact .refl _|exact .drop|exact .fin|((repeat refine .pick ?_);first|exact .refl _|exact .emp _|exact .fin)),ka,kc,rfl,rfl⟩
set_option maxHeartbeats 1000000 in
theorem pdirty_spec {W:World} {R:HProp} {p:Nat} {X:PoolX} (hnd:(X.held.map (·.1)).Nodup) (hl:X.held.length ≤ 1000000) (hk:∀ x ∈ X.held,0 ≤ x.1 ∧ x.1 ≤ 1000000) :
  Does prog W f_z1o ⟨[ptr p]⟩ (poolo p X•R) (Ret fun v G=>∃ a c,v = .slice a (X.val.dirtyL (sortI (X.held.map (·.1)))).length c ∧ G = (vec t_z1l 2 dirtyv a c (X.val.dirtyL (sortI (X.held.map (·.1))))•poolo p X•R)):=by
 refine f_z1o.does _ ?_
 conv=>whnf
 skip
 refine CallK.ret f_z2j.ok (pheld_spec hl hk) ?_
 obtain ⟨K,hK⟩:∃ K,K = sortI (X.held.map (·.1)):=⟨_,rfl⟩
 have hKl:K.length = X.held.length:=by rw [hK,sortI_length,List.length_map]
 rw [← hK,← hKl]
 rintro v G ⟨ka,kc,rfl,rfl⟩
 have hKm:∀ k ∈ K,∃ f,X.held.lookup k = some f:=fun k hk'=>by
  obtain ⟨q,hq,rfl⟩:=List.mem_map.1 (sortI_mem.1 (hK ▸ hk'))
  exact ⟨_,lookup_of_mem q.1 q.2 _ hnd hq⟩
 conv=>whnf
 skip
 refine LoopK.at tab_ok (L:=f_z1o.live) (ι:=Nat × Option Addr × Nat) (fun i=>i.1 ≤ K.length)
  (fun i=>[(10,.int .i64 i.1),(3,.slice i.2.1 (X.val.dirtyL (K.take i.1)).length i.2.2)]) (fun i=>vec t_z1l 2 dirtyv i.2.1 i.2.2 (X.val.dirtyL (K.take i.1))) (fun i=>K.length - i.1) (0,none,0) (by simp) (fun t v h=>h) (Imp.vnil (Imp.refl _)) ?_
 rintro ⟨i,oa,oc⟩ hi
 dsimp only at hi ⊢
 conv=>whnf
 by_cases h1:i < K.length
 ·obtain ⟨x,hx⟩:∃ x,K[i]? = some x:=⟨_,List.getElem?_eq_getElem h1⟩
  obtain ⟨f,hlk⟩:=hKm x (List.mem_of_getElem? hx)
  haveI rf:∀ (Q:HProp) (k:Nat) (v:Value) [LAt (frv f) k v],RdC W (poolo p X•Q) ⟨f.b,k,none⟩ v:=fun Q k v _=>rd_frame hnd hlk
  have hT:X.val.dirtyL (K.take (i + 1)) = X.val.dirtyL (K.take i) ++ (if f.dirty then [(x,f.since)] else []):=by
   rw [List.take_add_one,hx]
   unfold PoolM.dirtyL
   rw [List.filterMap_append]
   congr 1
   simp only [Option.toList,List.filterMap_cons,List.filterMap_nil,look_val hlk]
   rw [show f.val.dirty = f.dirty from rfl,show f.val.since = f.since from rfl]
   cases f.dirty with
   | true=>rfl
   | false=>rfl
  have hlen:(X.val.dirtyL (K.take i)).length ≤ i:=by
   unfold PoolM.dirtyL
   refine Nat.le_trans (List.length_filterMap_le _ _) ?_
   rw [List.length_take];omega
  cases hfd:f.dirty with
  | false =>
   rw [hfd,if_neg (by decide),List.append_nil] at hT
   repeat' (first
    | (refine spl_f hfd ?_;conv=>whnf)
    | (refine spl_dec (fun hd=>?_) (fun hd=>?_) <;> first|(exfalso;omega)|(conv=>whnf))
    | ((first|refine Ld.i ?_|refine Ar.i64 (by omega) ?_);conv=>whnf)
    | (refine IxS.r (i:=i) rfl rfl h1 (fun ab off ha=>?_);subst ha;conv=>whnf)
    | ((first|refine Ld.r0 hx rfl ?_|refine OpX.lks tab_ok hlk rfl rfl rfl rfl rfl ?_);conv=>whnf))
   refine ⟨rfl,(i + 1,oa,oc),h1,by rw [← hT];exact fun t v h=>h,?_,by dsimp only;omega⟩
   dsimp only
   rw [hT]
   first|exact .refl _|exact .drop|exact .fin|((repeat refine .pick ?_);first|exact .refl _|exact .emp _|exact .fin)
  | true =>
   rw [hfd,if_pos rfl] at hT
   repeat' (first
    | (refine spl_t hfd ?_;conv=>whnf)
    | (refine spl_dec (fun hd=>?_) (fun hd=>?_) <;> first|(exfalso;omega)|(conv=>whnf))
    | (refine Ld.i ?_;conv=>whnf)
    | (intro blk hblk;conv=>whnf)
    | (refine IxS.r (i:=i) rfl rfl h1 (fun ab off ha=>?_);subst ha;conv=>whnf)
    | ((first|refine Ld.r0 hx rfl ?_|refine OpX.lks tab_ok hlk rfl rfl rfl rfl rfl ?_);conv=>whnf))
   refine OpX.app1 tab_ok rfl rfl rfl rfl (x,f.since) rfl rfl (by omega) ⟨rfl,OneC.h⟩ (fun a' c'=>?_)
   rw [← hT]
   repeat' (first
    | (refine Ar.i64 (by omega) ?_;conv=>whnf))
   refine ⟨rfl,(i + 1,a',c'),h1,by rw [hT,List.length_append];exact fun t v h=>h,?_,by dsimp only;omega⟩
   first|exact .refl _|exact .drop|exact .fin|((repeat refine .pick ?_);first|exact .refl _|exact .emp _|exact .fin)
 ·have hi':i = K.length:=by omega
  subst hi'
  repeat' (first
   | (refine spl_dec (fun hd=>?_) (fun hd=>?_) <;> first|(exfalso;omega)|(conv=>whnf)))
  rw [List.take_length]
  refine ⟨_,_,rfl,?_,oa,oc,rfl,rfl⟩
  first|exact .refl _|exact .drop|exact .fin|((repeat refine .pick ?_);first|exact .refl _|exact .emp _|exact .fin)
end Go.Proofs.YtbcedpankkdfoaaGreatDoor
/- The program's pool.New, walked. Conditions: in each statement. -/
namespace Go.Proofs.YtbcedpankkdfoaaGreatDoor
open Go Go.SL Go.SL.Sec Go.SL.Fld Go.SL.Pts Go.SL.Rec Go.SL.Twn Go.SL.Pg Go.SL.Mst Go.SL.Pool
abbrev pool0 (d l:Nat) (p lg f:Int) (r:Nat):PoolX:=⟨d,l,p,lg,f,r,[],0,false⟩
theorem pnew_nil {W:World} {R:HProp} {l:Nat} {p lg f:Int} :
  Does prog W f_z27 ⟨[.pointer none,ptr l,.agg ⟨[.int .i64 p,.int .i64 lg,.int .i64 f]⟩]⟩ R (Ret fun v G=>v = .tuple ⟨[.pointer none,.int .i64 3]⟩ ∧ G = R):=by
 refine f_z27.does _ _ _ ?_
 conv=>whnf
 repeat' (first
  | (intro blk hblk;conv=>whnf))
 refine Ret.eq rfl ?_
 first|exact .refl _|exact .drop|exact .fin|((repeat refine .pick ?_);first|exact .refl _|exact .emp _|exact .fin)
theorem pnew_spec {W:World} {R:HProp} {d l:Nat} {p lg f:Int} {X:DevX} (hX:X.Ok) (hm:MayP p lg f) (hs:X.val.secs = 5 + 2 * p + lg) :
  Does prog W f_z27 ⟨[ptr d,ptr l,.agg ⟨[.int .i64 p,.int .i64 lg,.int .i64 f]⟩]⟩ (devo d X•R) (Ret fun v G=>∃ q r,v = .tuple ⟨[ptr q,i0]⟩ ∧ G = (poolo q (pool0 d l p lg f r)•devo d X•R)):=by
 refine f_z27.does _ _ _ ?_
 conv=>whnf
 repeat' (first
  | (refine CallK.ret f_z3q.ok (need_yes hm) ?_;rintro v G ⟨rfl,rfl⟩;conv=>whnf)
  | (refine CallK.ret f_z1h.ok (sectors_spec (X:=X) hX) ?_;rw [hs];rintro v G ⟨rfl,rfl⟩;conv=>whnf)
  | ((first|refine spl_f (by with_reducible exact ndec_self _) ?_|refine LdN.i ?_);conv=>whnf)
  | (intro blk hblk;conv=>whnf)
  | (refine OpX.makeMap .i64 (fun r hr=>?_);conv=>whnf))
 refine ⟨_,_,rfl,?_,blk,r,rfl,rfl⟩
 rw [poolo_eq]
 show Imp _ (pts blk (.cells ⟨[ptr d,ptr l,.int .i64 p,.int .i64 lg,.int .i64 f,.map (some r),i0,.bool false]⟩ t_pool_Pool)•mapc r .i64 []•emp•devo d X•R)
 rw [emp_star]
 first|exact .refl _|exact .drop|exact .fin|((repeat refine .pick ?_);first|exact .refl _|exact .emp _|exact .fin)
end Go.Proofs.YtbcedpankkdfoaaGreatDoor
/- A pool over a new disk; a log that grows; plain words. Conditions: in each statement. -/
namespace Go.Proofs.YtbcedpankkdfoaaGreatDoor
open Go Go.SL Go.SL.Sec Go.SL.Fld Go.SL.Pts Go.SL.Rec Go.SL.Twn Go.SL.Pg Go.SL.Mst Go.SL.Pool
def zeroD (n:Int):Dev:=(freshX none 0 (List.replicate (n * 512).toNat 0)).val
theorem zeroD_secs {n:Int} (h:0 ≤ n):(zeroD n).secs = n:=by
 unfold Dev.secs zeroD
 show ((List.replicate (n * 512).toNat (0:Int)).length:Int) / 512 = n
 rw [List.length_replicate];omega
theorem zeroD_ok {n:Int} (h:1 ≤ n ∧ n ≤ 8192):(zeroD n).Ok:=by
 refine (fresh_ok (a:=none) (c:=(n * 512).toNat) (img:=List.replicate (n * 512).toNat 0) ?_ ?_ (Byt.rep _) ?_).val
 ·rw [List.length_replicate];omega
 ·rw [List.length_replicate];omega
 ·rw [List.length_replicate];exact Nat.le_refl _
theorem zeroD_at {n i:Int} (h:0 ≤ i ∧ i < n):(zeroD n).at i = z512:=by
 show secOf (List.replicate (n * 512).toNat (0:Int)) i = z512
 unfold secOf
 rw [List.drop_replicate,List.take_replicate,z512_eq]
 congr 1
 omega
theorem secsL_zero {n first:Int}:∀ {k:Nat},(∀ i:Nat,i < k → (0 ≤ first + (i:Nat) ∧ first + (i:Nat) < n)) → secsL (zeroD n) first k = List.replicate k z512
 | 0,_=>rfl
 | k + 1,h=>by rw [secsL_succ,secsL_zero fun i hi=>h i (by omega),zeroD_at (h k (by omega)),List.replicate_succ']
theorem foundG_zero:∀ k:Nat,foundG 0 (List.replicate k z512) = []
 | 0=>rfl
 | k + 1=>by
  rw [List.replicate_succ,foundG]
  have:okS 0 z512 = none:=by
   unfold okS
   refine if_pos (.inl ?_)
   show ¬ (List.replicate 512 (0:Int))[0]? = some 108
   rw [List.getElem?_replicate,if_pos (by decide)]
   decide
  rw [this]
theorem wipG_zero (first:Int) (D:Dev):∀ k i:Nat,wipG first i (List.replicate k z512) false D = (0,D)
 | 0,_=>rfl
 | k + 1,i=>by
  rw [List.replicate_succ,wipG]
  have:zerosB z512 = true:=by unfold zerosB;rw [z512_eq];exact List.all_eq_true.2 fun x hx=>by rw [List.mem_replicate] at hx;simpa using hx.2
  rw [if_pos this]
  exact wipG_zero first D k (i + 1)
theorem openF_zero {n first:Int} {k:Nat} (h:∀ i:Nat,i < k → (0 ≤ first + (i:Nat) ∧ first + (i:Nat) < n)):openF (zeroD n) first k = ((0,0),⟨first,k,[],[],0,none⟩,zeroD n):=by
 unfold openF
 rw [secsL_zero h,foundG_zero]
 show (if (0:Int) ≠ 0 then _ else _) = _
 rw [if_neg (by decide)]
 show ((0,(wipG first 0 (List.replicate k z512) false (zeroD n)).1),(⟨first,k,[],[],0,none⟩:LogM),(wipG first 0 (List.replicate k z512) false (zeroD n)).2) = _
 rw [wipG_zero]
end Go.Proofs.YtbcedpankkdfoaaGreatDoor
namespace Go.SL.Pool
open Go Go.SL Go.SL.Sec Go.SL.Fld Go.SL.Rec Go.SL.Twn Go.SL.Pg Go.SL.Mst
open Go.Proofs.YtbcedpankkdfoaaGreatDoor (zeroD zeroD_ok zeroD_at zeroD_secs)
def sto0 (p lg f:Int):Sto:=⟨⟨p,lg,f,[],0,false⟩,⟨5 + 2 * p,lg,[],[],0,none⟩,zeroD (5 + 2 * p + lg)⟩
def last0 (n:Int):PgM:=⟨n,0,[],[]⟩
theorem last0_fault {n:Int} (h:0 ≤ n ∧ n ≤ 63):(last0 n).fault = 0:=by
 unfold PgM.fault last0
 dsimp only
 rw [if_neg (fun k=>k h),if_neg (by simp),if_neg (by simp),if_neg (by simp)]
 rfl
theorem last0_in {n:Int} (h:0 ≤ n ∧ n ≤ 63):(last0 n).In:=⟨by unfold In64 last0;dsimp only;omega,by unfold In64 last0;dsimp only;omega,fun c hc=>(by cases hc),fun c hc=>(by cases hc)⟩
theorem enc_last0 (n:Int):encP (last0 n) = z1024:=if_pos rfl
theorem ok0 {p lg f:Int} (h:MayP p lg f):(sto0 p lg f).Ok:=by
 have h':=h
 unfold MayP at h'
 exact ⟨h,zeroD_ok (by omega),rfl,zeroD_secs (by omega),rfl,rfl,rfl,by show (0:Int) ≤ lg;omega,fun b hb=>(by cases hb),List.nodup_nil,fun n f hf=>(by cases hf),fun n m f g hf=>(by cases hf)⟩
theorem keeps0 {p lg f:Int} (h:MayP p lg f):Keeps (sto0 p lg f) last0:=by
 have h':=h
 unfold MayP at h'
 refine ⟨rfl,h'.1,⟨rfl,rfl⟩,zeroD_ok (by omega),zeroD_secs (by omega),rfl,rfl,rfl,by show (0:Int) ≤ lg;omega,fun b hb=>(by cases hb),List.nodup_nil,fun n f hf=>(by cases hf),fun n hn _=>?_,fun n hn=>?_⟩
 ·have hn':0 ≤ n ∧ n < p:=hn
  rw [enc_last0]
  show (zeroD (5 + 2 * p + lg)).at (5 + 2 * n) ++ (zeroD (5 + 2 * p + lg)).at (5 + 2 * n + 1) = z1024
  rw [zeroD_at (by omega),zeroD_at (by omega),z512_eq,z1024_eq,List.replicate_append_replicate]
 ·have hn':0 ≤ n ∧ n < p:=hn
  exact ⟨rfl,last0_fault (by omega),last0_in (by omega),Int.le_refl _⟩
def Sto.app (S:Sto) (r:RecM) (b:List Int):Sto:={ S with L:={ S.L with recs:=S.L.recs ++ [r],bys:=S.L.bys ++ [b] } }
theorem Keeps.app {S:Sto} {last:Int → PgM} (K:Keeps S last) {r:RecM} {b:List Int} (hc:(S.L.recs.length:Int) + 1 ≤ S.L.count) (hb:Byt b ∧ b.length ≤ 505):Keeps (S.app r b) last:=by
 have hl:(S.L.recs ++ [r]).length = S.L.recs.length + 1:=by simp
 refine ⟨K.run,K.pages,K.calm,K.dok,K.secs,K.first,K.err,?_,?_,?_,K.nd,K.key,K.home,fun n hn=>?_⟩
 ·show S.L.forced + (S.L.bys ++ [b]).length = (S.L.recs ++ [r]).length
  rw [hl,List.length_append,List.length_singleton];have:=K.forced;omega
 ·show ((S.L.recs ++ [r]).length:Int) ≤ S.L.count
  rw [hl];omega
 ·intro x hx
  rcases List.mem_append.1 hx with h|h
  ·exact K.bys x h
  ·cases List.mem_singleton.1 h;exact hb
 ·obtain ⟨h1,h2,h3,h4⟩:=K.good n hn
  refine ⟨h1,h2,h3,?_⟩
  show (last n).lsn ≤ ((S.L.recs ++ [r]).length:Int)
  rw [hl];omega
theorem Sto.Ok.app {S:Sto} (h:S.Ok) {r:RecM} {b:List Int} (hc:(S.L.recs.length:Int) + 1 ≤ S.L.count) (hb:Byt b ∧ b.length ≤ 505):(S.app r b).Ok:=by
 have hl:(S.L.recs ++ [r]).length = S.L.recs.length + 1:=by simp
 refine ⟨h.may,h.dok,h.q,h.secs,h.first,h.cnt,?_,?_,?_,h.nd,fun n f hf=>?_,h.us⟩
 ·show S.L.forced + (S.L.bys ++ [b]).length = (S.L.recs ++ [r]).length
  rw [hl,List.length_append,List.length_singleton];have:=h.forced;omega
 ·show ((S.L.recs ++ [r]).length:Int) ≤ S.L.count
  rw [hl];omega
 ·intro x hx
  rcases List.mem_append.1 hx with k|k
  ·exact h.bys x k
  ·cases List.mem_singleton.1 k;exact hb
 ·have k:=h.fr n f hf
  refine ⟨k.num,k.pin,k.C,k.G,k.lsn,k.key,fun hd=>?_,k.used⟩
  obtain ⟨k1,k2⟩:=k.dirty hd
  refine ⟨k1,?_⟩
  show f.pg.lsn ≤ ((S.L.recs ++ [r]).length:Int)
  rw [hl];omega
def Sto.force (S:Sto) (n:Int):Int × Sto:=((S.L.force S.D n).1,⟨S.P,(S.L.force S.D n).2.1,(S.L.force S.D n).2.2⟩)
theorem Keeps.force {S:Sto} {last:Int → PgM} (K:Keeps S last) {n:Int} (hn:0 ≤ n ∧ n ≤ S.L.recs.length):(S.force n).1 = 0 ∧ Keeps (S.force n).2 last ∧ (S.force n).2.L.recs = S.L.recs ∧ (S.force n).2.L.count = S.L.count ∧ n ≤ (S.force n).2.L.forced:=by
 obtain ⟨a1,a2,a3,a4,a5,a6,a7,a8',F,a8,a9⟩:=force_calm K.calm K.dok K.err (by rw [K.first];have:=K.pages;omega) (by rw [K.first,K.secs];omega) K.forced K.recs K.bys hn
 have hat:∀ m,0 ≤ m ∧ m < S.P.pages → pageOf (S.L.force S.D n).2.2 m = pageOf S.D m:=fun m hm=>by
  have e1:=K.first
  unfold pageOf
  rw [a8.sec _ (by omega),a8.sec _ (by omega),a9 _ (by omega),a9 _ (by omega)]
  rfl
 refine ⟨a1,⟨K.run,K.pages,a8.calm,a8.ok,?_,?_,a2,?_,?_,a7,K.nd,fun m f hm=>?_,fun m hm hno=>?_,fun m hm=>?_⟩,a5,a4,a8'⟩
 ·show (S.L.force S.D n).2.2.secs = 5 + 2 * S.P.pages + (S.L.force S.D n).2.1.count
  rw [a8.secs,a4];exact K.secs
 ·show (S.L.force S.D n).2.1.first = _
  rw [a3];exact K.first
 ·show (S.L.force S.D n).2.1.forced + (S.L.force S.D n).2.1.bys.length = (S.L.force S.D n).2.1.recs.length
  rw [a5];exact a6
 ·show ((S.L.force S.D n).2.1.recs.length:Int) ≤ (S.L.force S.D n).2.1.count
  rw [a5,a4];exact K.recs
 ·obtain ⟨k1,k2,k3⟩:=K.key m f hm
  exact ⟨k1,k2,fun hd=>by show pageOf (S.L.force S.D n).2.2 m = _;rw [hat m k1];exact k3 hd⟩
 ·show pageOf (S.L.force S.D n).2.2 m = _
  rw [hat m hm];exact K.home m hm hno
 ·have:=K.good m hm
  show _ ∧ _ ∧ _ ∧ (last m).lsn ≤ ((S.L.force S.D n).2.1.recs.length:Int)
  rw [a5];exact this
end Go.SL.Pool
/- The log under the pool: a record more, Force; walked. Conditions: in each statement. -/
namespace Go.SL.Pool
open Go Go.SL Go.SL.Sec Go.SL.Fld Go.SL.Rec Go.SL.Twn Go.SL.Pg Go.SL.Mst
open Go.SL.Und (RecV recv fits)
def begR (t:Int):RecV:={ Rec.recZ with kind:=1,tx:=t }
def begN (n:Nat) (t:Int):RecV:={ begR t with lsn:=(n:Int) + 1 }
theorem begN_chk {n:Nat} {t:Int} (hn:n ≤ 1000000) (ht:1 ≤ t ∧ t ≤ 1000000):chkF (begN n t) [] [] = 0:=by
 unfold chkF
 rw [if_neg (show ¬ ((begN n t).kind < 1 ∨ (begN n t).kind > 8) by show ¬ ((1:Int) < 1 ∨ (1:Int) > 8);decide)]
 rw [if_pos ((FieldsP.one (show (begN n t).kind = 1 from rfl)).2 ⟨?_,?_,?_⟩)]
 ·show 0 ≤ (n:Int) + 1 ∧ (n:Int) + 1 ≤ 2147483647
  omega
 ·show 1 ≤ t ∧ t ≤ 2147483647
  omega
 ·unfold BlankP begN begR Rec.recZ
  simp
theorem begN_enc (n:Nat) {t:Int} (ht:1 ≤ t ∧ t ≤ 1000000):Byt (encR (begN n t) [] []) ∧ (encR (begN n t) [] []).length ≤ 505:=by
 have e:encR (begN n t) [] [] = encN 1 ++ (encN t.toNat ++ []) ++ [] ++ []:=rfl
 rw [e]
 have h1:=encN_len10 (n:=1) (by decide)
 have h2:=encN_len10 (n:=t.toNat) (by omega)
 refine ⟨((((encN_byt 1).append ((encN_byt _).append Byt.nil)).append Byt.nil).append Byt.nil),?_⟩
 simp only [List.length_append,List.length_nil]
 omega
def Sto.beg (S:Sto) (t:Int):Int × Sto:=if S.L.count - S.L.recs.length = 0 then (6,S) else (0,S.app ⟨begN S.L.recs.length t,[],[]⟩ (encR (begN S.L.recs.length t) [] []))
end Go.SL.Pool
namespace Go.Proofs.YtbcedpankkdfoaaGreatDoor
open Go Go.SL Go.SL.Sec Go.SL.Fld Go.SL.Pts Go.SL.Rec Go.SL.Twn Go.SL.Pg Go.SL.Mst Go.SL.Pool
theorem logok_val {X:LogX} {M:LogM} (h:X.val = M) (h1:0 ≤ M.count ∧ M.count ≤ 4096) (h2:∀ m ∈ M.recs,m.L.length ≤ 32 ∧ m.D.length ≤ 16 ∧ bare m.r = m.r) (h3:(M.recs.length:Int) ≤ M.count) (h4:M.forced + M.bys.length = M.recs.length) (h5:∀ b ∈ M.bys,Byt b ∧ b.length ≤ 505):X.Ok:=by
 subst h
 have e1:X.val.recs.length = X.recs.length:=List.length_map ..
 have e2:X.val.bys.length = X.bys.length:=List.length_map ..
 rw [e1] at h3 h4
 rw [e2] at h4
 exact ⟨h1,fun x hx=>h2 x.m (List.mem_map.2 ⟨x,hx,rfl⟩),h3,h4,fun x hx=>h5 x.b (List.mem_map.2 ⟨x,hx,rfl⟩)⟩
theorem pbeg_spec {W:World} {R:HProp} {p:Nat} {S:StoX} {t:Int} (hS:S.Ok) (he:S.L.err = none) (ht:1 ≤ t ∧ t ≤ 1000000) :
  Does prog W f_za ⟨[ptr S.P.l,recA (begR t)]⟩ (stoo p S•R) (Ret fun v G=>∃ S':StoX,S'.Ok ∧ S.Same S' ∧ S'.val = (S.val.beg t).2 ∧ v = .tuple ⟨[.int .i64 (if (S.val.beg t).1 = 0 then (S.L.recs.length:Int) + 1 else 0),.int .i64 (S.val.beg t).1]⟩ ∧ G = (stoo p S'•R)):=by
 have hcnt:=hS.L.cnt
 have hlen:=hS.L.len
 have hc:=begN_chk (n:=S.L.recs.length) (t:=t) (by omega) ht
 have erl:S.val.L.recs.length = S.L.recs.length:=List.length_map ..
 have hz:∀ (α:Type) (Q:HProp) (sz:Nat) (enc:α → List Value),RowC W Q none sz enc []:=fun α Q sz enc=>⟨fun w hs i x hx=>by cases hx⟩
 haveI rl:∀ Q:HProp,RowN W Q (begR t).lv.1 (begR t).lv.2.1 4 livev []:=fun Q=>⟨hz _ _ _ _,rfl⟩
 haveI rd:∀ Q:HProp,RowN W Q (begR t).dt.1 (begR t).dt.2.1 2 dirtyv []:=fun Q=>⟨hz _ _ _ _,rfl⟩
 unfold Sto.beg
 rw [erl,show S.val.L.count = S.L.count from rfl,stoo_eq,star_left_comm (poolo p S.P)]
 by_cases c:S.L.count - S.L.recs.length = 0
 ·rw [if_pos c]
  refine (append_no (X:=S.L) (r:=begR t) (L:=[]) (D:=[]) (e:=6) hS.L he (.inr ⟨hc,c,rfl⟩)).post fun en w H' hs hQ=>?_
  obtain ⟨v,G,h1,h2,rfl,rfl⟩:=hQ
  exact ⟨H',hs,_,_,h1,h2,S,hS,.refl S,rfl,rfl,((stoo_eq p S R).trans (star_left_comm _ _ _)).symm⟩
 ·rw [if_neg c]
  refine (append_yes (X:=S.L) (r:=begR t) (L:=[]) (D:=[]) hS.L he (fun o ho=>by cases ho) hc c).post fun en w H' hs hQ=>?_
  obtain ⟨v,G,h1,h2,X',hd,hv,rfl,rfl⟩:=hQ
  have hok:=hS.val.app (r:=⟨begN S.L.recs.length t,[],[]⟩) (b:=encR (begN S.L.recs.length t) [] []) (by rw [erl];have:S.val.L.count = S.L.count:=rfl;omega) (begN_enc _ ht)
  have hval:(⟨S.P,X',S.D⟩:StoX).val = S.val.app ⟨begN S.L.recs.length t,[],[]⟩ (encR (begN S.L.recs.length t) [] []):=by
   show (⟨S.P.val,X'.val,S.D.val⟩:Sto) = _
   rw [hv];rfl
  refine ⟨H',hs,_,_,h1,h2,⟨S.P,X',S.D⟩,⟨by rw [hval];exact hok,?_,hS.D,hd.trans hS.ld⟩,⟨rfl,rfl⟩,hval,rfl,((stoo_eq p ⟨S.P,X',S.D⟩ R).trans (star_left_comm _ _ _)).symm⟩
  refine logok_val hv hcnt (fun m hm=>?_) ?_ ?_ ?_
  ·rcases List.mem_append.1 hm with k|k
   ·obtain ⟨x,hx,rfl⟩:=List.mem_map.1 k
    exact hS.L.recs x hx
   ·cases List.mem_singleton.1 k
    exact ⟨Nat.zero_le _,Nat.zero_le _,rfl⟩
  ·exact hok.recs
  ·exact hok.forced
  ·exact hok.bys
def StoF (p:Nat) (S:StoX) (T:Int × Sto) (R:HProp) (v:Value) (G:HProp):Prop:=∃ (S':StoX) (J:HProp),S'.Ok ∧ S.Same S' ∧ S'.val = T.2 ∧ (J = R ∨ ∃ b e,J = (fltc b wForce 0 e•R)) ∧ ErrV T.1 v G ∧ G = (stoo p S'•J)
end Go.Proofs.YtbcedpankkdfoaaGreatDoor
/- A pool whose disk runs: exact states; the run of the law's first line; plain words. Conditions: in each statement. -/
namespace Go.SL.Pool
open Go Go.SL Go.SL.Sec Go.SL.Fld Go.SL.Rec Go.SL.Twn Go.SL.Pg Go.SL.Mst
theorem Keeps.place {S:Sto} {last:Int → PgM} (K:Keeps S last) {n:Int} (hn:0 ≤ n ∧ n < S.P.pages):S.P.place n = 0:=by
 unfold PoolM.place;rw [if_neg (by rw [K.run];decide),if_neg (by omega)]
theorem Keeps.load_eq {S:Sto} {last:Int → PgM} (K:Keeps S last) {n:Int} (hn:0 ≤ n ∧ n < S.P.pages) (h:S.P.held.lookup n = none):S.load n = (0,{ S with P:=S.P.use n ⟨last n,0,false,0,0⟩ }):=by
 obtain ⟨g1,g2,g3,g4⟩:=K.good n hn
 have hd:decP (S.D.at (5 + 2 * n) ++ S.D.at (5 + 2 * n + 1)) n = (0,last n):=by
  have e:=K.home n hn h
  unfold pageOf at e
  rw [e]
  have:=dec_enc g2 g3
  rw [g1] at this
  exact this
 unfold Sto.load
 rw [if_neg (by rw [K.calm.down];decide)]
 dsimp only
 rw [hd,if_neg (fun k=>k rfl)]
theorem Keeps.get_load {S:Sto} {last:Int → PgM} (K:Keeps S last) {n:Int} (hn:0 ≤ n ∧ n < S.P.pages) (h:S.P.held.lookup n = none) (hl:(S.P.held.length:Int) < S.P.frames):S.get n = (0,{ S with P:=S.P.use n ⟨last n,0,false,0,0⟩ }):=by
 unfold Sto.get
 rw [K.place hn,if_neg (fun k=>k rfl),h]
 dsimp only
 rw [if_neg (by omega)]
 exact K.load_eq hn h
theorem Keeps.leave_L {S:Sto} {last:Int → PgM} (K:Keeps S last) {n:Int} {f:FrM} (h:S.P.held.lookup n = some f):(f.dirty = true → f.pg.lsn ≤ (S.leave n f).2.L.forced):=by
 intro hd
 obtain ⟨hn,hp,_⟩:=K.key n f h
 obtain ⟨g1,g2,g3,g4⟩:=K.good n hn
 have g5:=(PgM.fault_ok g2).2.2.2.1
 have h1:=(K.write h).1
 have e:(S.leave n f).2.L = (S.write n f).2.L:=by unfold Sto.leave;rw [if_neg (fun k=>k h1)]
 rw [e]
 obtain ⟨a1,a2,a3,a4,a5,a6,a7,a8,F,a9⟩:=force_calm K.calm K.dok K.err (by rw [K.first];have:=K.pages;omega) (by rw [K.first,K.secs];omega) K.forced K.recs K.bys (lsn:=f.pg.lsn) ⟨by rw [hp];omega,by rw [hp];exact g4⟩
 unfold Sto.write at h1 ⊢
 rw [hd,if_neg (by decide)] at h1 ⊢
 dsimp only at h1 ⊢
 rw [if_neg (fun k=>k a1)] at h1 ⊢
 split at h1
 ·rename_i k;exact absurd h1 k
 ·rename_i k
  rw [if_neg k]
  exact a8
theorem Keeps.get_swap {S:Sto} {last:Int → PgM} (K:Keeps S last) {n:Int} (hn:0 ≤ n ∧ n < S.P.pages) (h:S.P.held.lookup n = none) (hl:(S.P.held.length:Int) ≥ S.P.frames) {o:Int × FrM} (ho:oldest S.P.held = some o) :
  ∃ L D,S.get n = (0,⟨(S.P.del o.1).use n ⟨last n,0,false,0,0⟩,L,D⟩) ∧ L.recs = S.L.recs ∧ (o.2.dirty = true → o.2.pg.lsn ≤ L.forced):=by
 have hm:=lookup_of_mem o.1 o.2 _ K.nd (oldest_mem ho)
 obtain ⟨h1,K',h2,h3,h4⟩:=K.leave hm
 have hf:=K.leave_L hm
 have hno:(S.leave o.1 o.2).2.P.held.lookup n = none:=by
  rw [h2]
  show (delKV o.1 S.P.held).lookup n = none
  rw [delKV_lookup]
  split
  ·rfl
  ·exact h
 refine ⟨(S.leave o.1 o.2).2.L,(S.leave o.1 o.2).2.D,?_,h3,hf⟩
 unfold Sto.get
 rw [K.place hn,if_neg (fun k=>k rfl),h]
 dsimp only
 rw [if_pos hl,ho]
 dsimp only
 rw [if_neg (fun k=>k h1),K'.load_eq (by rw [h2];exact hn) hno,h2]
/-! ### The law's first line -/
def xA:PgM:=⟨0,1,[],[⟨5,-3⟩]⟩
def lastA (m:Int):PgM:=if m = 0 then xA else last0 m
def pA1:PoolM:=⟨3,4,2,[(0,⟨last0 0,0,false,0,1⟩)],1,false⟩
def pA2:PoolM:=⟨3,4,2,[(0,⟨xA,0,true,1,2⟩)],2,false⟩
def pA3:PoolM:=⟨3,4,2,[(0,⟨xA,0,true,1,2⟩),(1,⟨last0 1,0,false,0,3⟩)],3,false⟩
def pA4:PoolM:=⟨3,4,2,[(1,⟨last0 1,0,false,0,3⟩),(2,⟨last0 2,0,false,0,4⟩)],4,false⟩
def pA5:PoolM:=⟨3,4,2,[(2,⟨last0 2,0,false,0,4⟩),(0,⟨xA,0,false,0,5⟩)],5,false⟩
theorem awake_run:∃ S1 S2 S3 S4 S5 S6:Sto,(sto0 3 4 2).beg 1 = (0,S1) ∧ S1.P = ⟨3,4,2,[],0,false⟩ ∧ S1.get 0 = (0,S2) ∧ S2.P = pA1 ∧ S2.put xA = (0,S3) ∧ S3.P = pA2 ∧ S3.get 1 = (0,S4) ∧ S4.P = pA3 ∧ S4.get 2 = (0,S5) ∧ S5.P = pA4 ∧ S5.L.forced = 1 ∧ S5.get 0 = (0,S6) ∧ S6.P = pA5 ∧ S6.unpin 0 = (101,S6):=by
 have hm:MayP 3 4 2:=by unfold MayP;decide
 have K0:=keeps0 hm
 obtain ⟨S1,hS1⟩:∃ S1,S1 = (sto0 3 4 2).app ⟨begN 0 1,[],[]⟩ (encR (begN 0 1) [] []):=⟨_,rfl⟩
 have K1:Keeps S1 last0:=by rw [hS1];exact K0.app (by show (0:Int) + 1 ≤ 4;decide) (begN_enc 0 (by decide))
 have hP1:S1.P = ⟨3,4,2,[],0,false⟩:=by rw [hS1];rfl
 have hR1:S1.L.recs.length = 1:=by rw [hS1];rfl
 have e0:(sto0 3 4 2).beg 1 = (0,S1):=by
  unfold Sto.beg
  rw [if_neg (by show ¬ (4:Int) - 0 = 0;decide),hS1]
  rfl
 have e1:=K1.get_load (n:=0) (by rw [hP1];decide) (by rw [hP1];rfl) (by rw [hP1];decide)
 have k1:=(K1.get (n:=0) (by rw [hP1];decide)).2.1
 rw [e1] at k1
 obtain ⟨S2,hS2⟩:∃ S2,S2 = ({ S1 with P:=S1.P.use 0 ⟨last0 0,0,false,0,0⟩ }:Sto):=⟨_,rfl⟩
 rw [← hS2] at e1 k1
 have hP2:S2.P = pA1:=by rw [hS2];dsimp only;rw [hP1];rfl
 have hR2:S2.L.recs.length = 1:=by rw [hS2];exact hR1
 have K2:Keeps S2 last0:=k1
 have hp:=K2.puts (x:=xA) (f:=⟨last0 0,0,false,0,1⟩) (by rw [hP2];decide) (by rw [hP2];rfl) (by decide) ⟨by unfold In64;decide,by unfold In64;decide,fun c hc=>(by cases hc),fun c hc=>by cases List.mem_singleton.1 hc;unfold GrpIn In64;decide⟩ (by decide)
 rw [if_neg (by rw [hR2];decide)] at hp
 have ep:S2.put xA = (0,{ S2 with P:=pA2 }):=by
  unfold Sto.put
  rw [K2.place (n:=xA.num) (by rw [hP2];decide),if_neg (fun k=>k rfl),if_neg (by decide),hP2]
  show (if xA.lsn ≤ (0:Int) ∨ xA.lsn > (S2.L.recs.length:Int) then _ else _) = _
  rw [hR2,if_neg (by decide)]
  rfl
 rw [ep] at hp
 obtain ⟨S3,hS3⟩:∃ S3,S3 = ({ S2 with P:=pA2 }:Sto):=⟨_,rfl⟩
 rw [← hS3] at hp ep
 have hP3:S3.P = pA2:=by rw [hS3]
 have K3:Keeps S3 lastA:=hp.2.1
 have hR3:S3.L.recs.length = 1:=by rw [hS3];exact hR2
 have e3:=K3.get_load (n:=1) (by rw [hP3];decide) (by rw [hP3];rfl) (by rw [hP3];decide)
 have k3:=(K3.get (n:=1) (by rw [hP3];decide)).2.1
 rw [e3] at k3
 obtain ⟨S4,hS4⟩:∃ S4,S4 = ({ S3 with P:=S3.P.use 1 ⟨lastA 1,0,false,0,0⟩ }:Sto):=⟨_,rfl⟩
 rw [← hS4] at e3 k3
 have hP4:S4.P = pA3:=by rw [hS4];dsimp only;rw [hP3];rfl
 have hR4:S4.L.recs.length = 1:=by rw [hS4];exact hR3
 have K4:Keeps S4 lastA:=k3
 obtain ⟨L5,D5,e4,r5,f5⟩:=K4.get_swap (n:=2) (by rw [hP4];decide) (by rw [hP4];rfl) (by rw [hP4];decide) (o:=(0,⟨xA,0,true,1,2⟩)) (by rw [hP4];rfl)
 have k4:=(K4.get (n:=2) (by rw [hP4];decide)).2.1
 rw [e4] at k4
 have hP5:(S4.P.del 0).use 2 ⟨lastA 2,0,false,0,0⟩ = pA4:=by rw [hP4];rfl
 have hf5:=f5 rfl
 have hf5':(1:Int) ≤ L5.forced:=hf5
 have K5:Keeps ⟨(S4.P.del 0).use 2 ⟨lastA 2,0,false,0,0⟩,L5,D5⟩ lastA:=k4
 have hfo:=K5.forced
 dsimp only at hfo
 rw [r5,hR4] at hfo
 obtain ⟨S5,hS5⟩:∃ S5,S5 = (⟨(S4.P.del 0).use 2 ⟨lastA 2,0,false,0,0⟩,L5,D5⟩:Sto):=⟨_,rfl⟩
 have e4':S4.get 2 = (0,S5):=by rw [hS5];exact e4
 rw [← hS5] at K5
 have hP5':S5.P = pA4:=by rw [hS5];exact hP5
 have hF:S5.L.forced = 1:=by rw [hS5];dsimp only;omega
 obtain ⟨L6,D6,e5,r6,_⟩:=K5.get_swap (n:=0) (by rw [hP5'];decide) (by rw [hP5'];rfl) (by rw [hP5'];decide) (o:=(1,⟨last0 1,0,false,0,3⟩)) (by rw [hP5'];rfl)
 have k5:=(K5.get (n:=0) (by rw [hP5'];decide)).2.1
 rw [e5] at k5
 obtain ⟨S6,hS6⟩:∃ S6,S6 = (⟨(S5.P.del 1).use 0 ⟨lastA 0,0,false,0,0⟩,L6,D6⟩:Sto):=⟨_,rfl⟩
 have e5':S5.get 0 = (0,S6):=by rw [hS6];exact e5
 have hP6:S6.P = pA5:=by rw [hS6];dsimp only;rw [hP5'];rfl
 refine ⟨S1,S2,S3,S4,S5,S6,e0,hP1,e1,hP2,ep,hP3,e3,hP4,e4',hP5',hF,e5',hP6,?_⟩
 unfold Sto.unpin
 rw [hP6]
 rfl
end Go.SL.Pool
/- The pool's calls wherever the store lies. Conditions: in each statement. -/
namespace Go.Proofs.YtbcedpankkdfoaaGreatDoor
open Go Go.SL Go.SL.Sec Go.SL.Fld Go.SL.Pts Go.SL.Rec Go.SL.Twn Go.SL.Pg Go.SL.Mst Go.SL.Pool
theorem nodup_bd:∀ (N:Nat) (l:List Int),l.Nodup → (∀ x ∈ l,0 ≤ x ∧ x < (N:Int)) → l.length ≤ N
 | 0,[],_,_=>Nat.le_refl _
 | 0,x :: l,_,h=>by have:=h x List.mem_cons_self;omega
 | N + 1,l,hn,h=>by
  have h1:l.length ≤ (l.erase (N:Int)).length + 1:=by rw [List.length_erase];split <;> omega
  have h2:=nodup_bd N (l.erase (N:Int)) (hn.erase _) fun x hx=>by
   obtain ⟨k1,k2⟩:=hn.mem_erase_iff.1 hx
   have:=h x k2
   omega
  omega
section
variable {W:World} {H R:HProp} {p:Nat} {S:StoX}
theorem StoX.Ok.held {S:StoX} (h:S.Ok):S.P.held.length ≤ 1000000 ∧ ∀ x ∈ S.P.held,0 ≤ x.1 ∧ x.1 ≤ 1000000:=by
 have hm:=h.val.may
 unfold MayP at hm
 have hk:∀ x ∈ S.P.held,0 ≤ x.1 ∧ x.1 < S.P.pages:=fun x hx=>(h.val.fr x.1 x.2.val (look_val (lookup_of_mem x.1 x.2 _ h.nd hx))).key
 have hp:S.val.P.pages = S.P.pages:=rfl
 refine ⟨?_,fun x hx=>?_⟩
 ·have h1:=nodup_bd 64 (S.P.held.map (·.1)) h.nd fun z hz=>by
   obtain ⟨x,hx,rfl⟩:=List.mem_map.1 hz
   have:=hk x hx
   omega
  rw [List.length_map] at h1
  omega
 ·have:=hk x hx
  omega
theorem sget_spec {n:Int} [le:LaidE W] [lc:LaidC W] [lp:LaidP W] [t:ObjC stoo H p S R] [oc:OldC W R] (hS:S.Ok) (hc:0 ≤ S.P.clock ∧ S.P.clock ≤ 1000000000) :
  Does prog W f_z1v ⟨[ptr p,.int .i64 n]⟩ H (Ret (GetE p n S (S.val.get n) R)):=by rw [t.h.eq];exact pget_spec hS hc
theorem sput_spec {num lsn:Int} {ca ga:Option Addr} {nC cc nG gc:Nat} {C:List CntV} {G:List GrpV} [le:LaidE W] [lc:LaidC W] [lp:LaidP W] [t:ObjC stoo H p S R] [oc:OldC W R] [rc:RowN W R ca nC 5 cntv C] [rg:RowN W R ga nG 2 grpv G] (hC:C.length ≤ 1000000000) (hG:G.length ≤ 1000000000) (hS:S.Ok) (hi:PgM.In ⟨num,lsn,C,G⟩) (hc:0 ≤ S.P.clock ∧ S.P.clock ≤ 1000000000) :
  Does prog W f_z1p ⟨[ptr p,.agg ⟨[.int .i64 num,.int .i64 lsn,.slice ca nC cc,.slice ga nG gc]⟩]⟩ H (Ret (StoE p S wPut num (S.val.put ⟨num,lsn,C,G⟩) R)):=by rw [t.h.eq];exact pput_spec hC hG hS hi hc
theorem sunpin_spec {n:Int} [t:ObjC stoo H p S R] (hS:S.Ok) (hp:∀ f,S.P.held.lookup n = some f → -1000000000 ≤ f.pins ∧ f.pins ≤ 1000000000) :
  Does prog W f_z32 ⟨[ptr p,.int .i64 n]⟩ H (Ret (StoQ p S (S.val.unpin n) R)):=by rw [t.h.eq];exact punpin_spec hS hp
theorem sheld_spec [t:ObjC stoo H p S R] (hS:S.Ok) :
  Does prog W f_z2j ⟨[ptr p]⟩ H (Ret fun v G=>∃ a c,v = .slice a S.P.held.length c ∧ G = (vec t_int 1 ints a c (sortI (S.P.held.map (·.1)))•stoo p S•R)):=by
 rw [t.h.eq,stoo_eq]
 exact pheld_spec hS.held.1 hS.held.2
theorem sdirty_spec [t:ObjC stoo H p S R] (hS:S.Ok) :
  Does prog W f_z1o ⟨[ptr p]⟩ H (Ret fun v G=>∃ a c,v = .slice a (S.val.P.dirtyL (sortI (S.P.held.map (·.1)))).length c ∧ G = (vec t_z1l 2 dirtyv a c (S.val.P.dirtyL (sortI (S.P.held.map (·.1))))•stoo p S•R)):=by
 rw [t.h.eq,stoo_eq]
 exact pdirty_spec hS.nd hS.held.1 hS.held.2
theorem sbeg_spec {l:Nat} {b:Int} [t:ObjC stoo H p S R] (hl:S.P.l = l) (hS:S.Ok) (he:S.L.err = none) (hb:1 ≤ b ∧ b ≤ 1000000) :
  Does prog W f_za ⟨[ptr l,recA (begR b)]⟩ H (Ret fun v G=>∃ S':StoX,S'.Ok ∧ S.Same S' ∧ S'.val = (S.val.beg b).2 ∧ v = .tuple ⟨[.int .i64 (if (S.val.beg b).1 = 0 then (S.L.recs.length:Int) + 1 else 0),.int .i64 (S.val.beg b).1]⟩ ∧ G = (stoo p S'•R)):=by
 subst hl
 rw [t.h.eq]
 exact pbeg_spec hS he hb
theorem sforced_spec {l:Nat} [t:ObjC stoo H p S R] (hl:S.P.l = l):Does prog W f_z35 ⟨[ptr l]⟩ H (Ret fun v G=>v = .int .i64 S.L.forced ∧ G = (stoo p S•R)):=by
 subst hl
 rw [t.h.eq,stoo_eq]
 refine (forced_spec (X:=S.L) (l:=S.P.l)).post fun en w H' hs hQ=>?_
 obtain ⟨v,G,h1,h2,rfl,rfl⟩:=hQ
 exact ⟨H',hs,_,_,h1,h2,rfl,(star_left_comm _ _ _).symm⟩
theorem slast_spec {l:Nat} [t:ObjC stoo H p S R] (hl:S.P.l = l):Does prog W f_z1w ⟨[ptr l]⟩ H (Ret fun v G=>v = .int .i64 S.L.recs.length ∧ G = (stoo p S•R)):=by
 subst hl
 rw [t.h.eq,stoo_eq]
 refine (last_spec (X:=S.L) (l:=S.P.l)).post fun en w H' hs hQ=>?_
 obtain ⟨v,G,h1,h2,rfl,rfl⟩:=hQ
 exact ⟨H',hs,_,_,h1,h2,rfl,(star_left_comm _ _ _).symm⟩
end
end Go.Proofs.YtbcedpankkdfoaaGreatDoor
