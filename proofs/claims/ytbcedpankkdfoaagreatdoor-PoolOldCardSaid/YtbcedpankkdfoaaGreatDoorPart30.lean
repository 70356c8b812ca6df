/- The pool's calls wherever the store lies. Conditions: in each statement. -/
import Derived.Test.YtbcedpankkdfoaaGreatDoorPart29
import Derived.Test.YtbcedpankkdfoaaGreatDoorPart27
import Derived.Test.YtbcedpankkdfoaaGreatDoorPart10
namespace Go.Proofs.YtbcedpankkdfoaaGreatDoor
open Go Go.SL Go.SL.Sec Go.SL.Fld Go.SL.Pts Go.SL.Rec Go.SL.Twn Go.SL.Pg Go.SL.Mst Go.SL.Pool
theorem nodup_bd:∀ (N:Nat) (l:List Int),l.Nodup → (∀ x ∈ l,0 ≤ x ∧ x < (N:Int)) → l.length ≤ N
 | 0,[],_,_=>Nat.le_refl _
 | 0,x :: l,_,h=>by have:=h x List.mem_cons_self;omega
 | N + 1,l,hn,h=>by
  have h1:l.length ≤ (l.erase (N:Int)).length + 1:=by rw [List.length_erase];split <;> omega
  have h2:=nodup_bd N (l.erase (N:Int)) (hn.erase _) fun x hx=>by
   obtain ⟨k1,k2⟩:=hn.mem_erase_iff.1 hx
   have:=h x k2
   omega
  omega
section
variable {W:World} {H R:HProp} {p:Nat} {S:StoX}
theorem StoX.Ok.held {S:StoX} (h:S.Ok):S.P.held.length ≤ 1000000 ∧ ∀ x ∈ S.P.held,0 ≤ x.1 ∧ x.1 ≤ 1000000:=by
 have hm:=h.val.may
 unfold MayP at hm
 have hk:∀ x ∈ S.P.held,0 ≤ x.1 ∧ x.1 < S.P.pages:=fun x hx=>(h.val.fr x.1 x.2.val (look_val (lookup_of_mem x.1 x.2 _ h.nd hx))).key
 have hp:S.val.P.pages = S.P.pages:=rfl
 refine ⟨?_,fun x hx=>?_⟩
 ·have h1:=nodup_bd 64 (S.P.held.map (·.1)) h.nd fun z hz=>by
   obtain ⟨x,hx,rfl⟩:=List.mem_map.1 hz
   have:=hk x hx
   omega
  rw [List.length_map] at h1
  omega
 ·have:=hk x hx
  omega
theorem sget_spec {n:Int} [le:LaidE W] [lc:LaidC W] [lp:LaidP W] [t:ObjC stoo H p S R] [oc:OldC W R] (hS:S.Ok) (hc:0 ≤ S.P.clock ∧ S.P.clock ≤ 1000000000) :
  Does prog W f_z1t ⟨[ptr p,.int .i64 n]⟩ H (Ret (GetE p n S (S.val.get n) R)):=by rw [t.h.eq];exact pget_spec hS hc
theorem sput_spec {num lsn:Int} {ca ga:Option Addr} {nC cc nG gc:Nat} {C:List CntV} {G:List GrpV} [le:LaidE W] [lc:LaidC W] [lp:LaidP W] [t:ObjC stoo H p S R] [oc:OldC W R] [rc:RowN W R ca nC 5 cntv C] [rg:RowN W R ga nG 2 grpv G] (hC:C.length ≤ 1000000000) (hG:G.length ≤ 1000000000) (hS:S.Ok) (hi:PgM.In ⟨num,lsn,C,G⟩) (hc:0 ≤ S.P.clock ∧ S.P.clock ≤ 1000000000) :
  Does prog W f_z1k ⟨[ptr p,.agg ⟨[.int .i64 num,.int .i64 lsn,.slice ca nC cc,.slice ga nG gc]⟩]⟩ H (Ret (StoE p S wPut num (S.val.put ⟨num,lsn,C,G⟩) R)):=by rw [t.h.eq];exact pput_spec hC hG hS hi hc
theorem spin_spec {n:Int} [le:LaidE W] [lc:LaidC W] [lp:LaidP W] [t:ObjC stoo H p S R] [oc:OldC W R] (hS:S.Ok) (hc:0 ≤ S.P.clock ∧ S.P.clock ≤ 1000000000) (hp:∀ f,(S.val.get n).2.P.held.lookup n = some f → -1000000000 ≤ f.pins ∧ f.pins ≤ 1000000000) :
  Does prog W f_z3b ⟨[ptr p,.int .i64 n]⟩ H (Ret (StoE p S wPin n (S.val.pin n) R)):=by rw [t.h.eq];exact ppin_spec hS hc hp
theorem sunpin_spec {n:Int} [t:ObjC stoo H p S R] (hS:S.Ok) (hp:∀ f,S.P.held.lookup n = some f → -1000000000 ≤ f.pins ∧ f.pins ≤ 1000000000) :
  Does prog W f_z2r ⟨[ptr p,.int .i64 n]⟩ H (Ret (StoQ p S (S.val.unpin n) R)):=by rw [t.h.eq];exact punpin_spec hS hp
theorem sevict_spec {n:Int} [le:LaidE W] [lc:LaidC W] [lp:LaidP W] [t:ObjC stoo H p S R] [oc:OldC W R] (hS:S.Ok) :
  Does prog W f_z33 ⟨[ptr p,.int .i64 n]⟩ H (Ret (StoE p S wEvict n (S.val.evict n) R)):=by rw [t.h.eq];exact pevict_spec hS
theorem sflush_spec {n:Int} [le:LaidE W] [lc:LaidC W] [lp:LaidP W] [t:ObjC stoo H p S R] [oc:OldC W R] (hS:S.Ok) :
  Does prog W f_z3c ⟨[ptr p,.int .i64 n]⟩ H (Ret (StoE p S wFlush n (S.val.flush n) R)):=by rw [t.h.eq];exact pflush_spec hS
theorem sheld_spec [t:ObjC stoo H p S R] (hS:S.Ok) :
  Does prog W f_z2j ⟨[ptr p]⟩ H (Ret fun v G=>∃ a c,v = .slice a S.P.held.length c ∧ G = (vec t_int 1 ints a c (sortI (S.P.held.map (·.1)))•stoo p S•R)):=by
 rw [t.h.eq,stoo_eq]
 exact pheld_spec hS.held.1 hS.held.2
theorem sdirty_spec [t:ObjC stoo H p S R] (hS:S.Ok) :
  Does prog W f_z2k ⟨[ptr p]⟩ H (Ret fun v G=>∃ a c,v = .slice a (S.val.P.dirtyL (sortI (S.P.held.map (·.1)))).length c ∧ G = (vec t_api_Dirty 2 dirtyv a c (S.val.P.dirtyL (sortI (S.P.held.map (·.1))))•stoo p S•R)):=by
 rw [t.h.eq,stoo_eq]
 exact pdirty_spec hS.nd hS.held.1 hS.held.2
theorem sbeg_spec {l:Nat} {b:Int} [t:ObjC stoo H p S R] (hl:S.P.l = l) (hS:S.Ok) (he:S.L.err = none) (hb:1 ≤ b ∧ b ≤ 1000000) :
  Does prog W f_zo ⟨[ptr l,recA (begR b)]⟩ H (Ret fun v G=>∃ S':StoX,S'.Ok ∧ S.Same S' ∧ S'.val = (S.val.beg b).2 ∧ v = .tuple ⟨[.int .i64 (if (S.val.beg b).1 = 0 then (S.L.recs.length:Int) + 1 else 0),.int .i64 (S.val.beg b).1]⟩ ∧ G = (stoo p S'•R)):=by
 subst hl
 rw [t.h.eq]
 exact pbeg_spec hS he hb
theorem sforced_spec {l:Nat} [t:ObjC stoo H p S R] (hl:S.P.l = l):Does prog W f_z39 ⟨[ptr l]⟩ H (Ret fun v G=>v = .int .i64 S.L.forced ∧ G = (stoo p S•R)):=by
 subst hl
 rw [t.h.eq,stoo_eq]
 refine (forced_spec (X:=S.L) (l:=S.P.l)).post fun en w H' hs hQ=>?_
 obtain ⟨v,G,h1,h2,rfl,rfl⟩:=hQ
 exact ⟨H',hs,_,_,h1,h2,rfl,(star_left_comm _ _ _).symm⟩
theorem slast_spec {l:Nat} [t:ObjC stoo H p S R] (hl:S.P.l = l):Does prog W f_zs ⟨[ptr l]⟩ H (Ret fun v G=>v = .int .i64 S.L.recs.length ∧ G = (stoo p S•R)):=by
 subst hl
 rw [t.h.eq,stoo_eq]
 refine (last_spec (X:=S.L) (l:=S.P.l)).post fun en w H' hs hQ=>?_
 obtain ⟨v,G,h1,h2,rfl,rfl⟩:=hQ
 exact ⟨H',hs,_,_,h1,h2,rfl,(star_left_comm _ _ _).symm⟩
theorem sdown_spec {d:Nat} [t:ObjC stoo H p S R] (hd:S.P.d = d):Does prog W f_zz ⟨[ptr d]⟩ H (Ret fun v G=>v = .bool S.D.down ∧ G = (stoo p S•R)):=by
 subst hd
 rw [t.h.eq,stoo_eq]
 refine (down_spec (X:=S.D) (d:=S.P.d)).post fun en w H' hs hQ=>?_
 obtain ⟨v,G,h1,h2,rfl,rfl⟩:=hQ
 exact ⟨H',hs,_,_,h1,h2,rfl,(by rw [star_left_comm (devo _ _) (poolo _ _),star_left_comm (devo _ _) (logo _ _)])⟩
end
end Go.Proofs.YtbcedpankkdfoaaGreatDoor
/- The law's first line, walked. Conditions: in each statement. -/
namespace Go.Proofs.YtbcedpankkdfoaaGreatDoor
open Go Go.SL Go.SL.Sec Go.SL.Fld Go.SL.Pts Go.SL.Rec Go.SL.Twn Go.SL.Pg Go.SL.Mst Go.SL.Pool
theorem sortI_of {l:List Int} (h:l.Pairwise fun a b=>leI a b = true):sortI l = l:=List.mergeSort_of_pairwise h
theorem StoX.keys {S:StoX} {T:Sto} {P:PoolM} (h:S.val = T) (k:T.P = P):S.P.held.map (·.1) = P.held.map (·.1):=by
 rw [← k,← h]
 exact (mapv_keys _ _).symm
theorem qnum_spec {W:World} {H:HProp} {e:Int}:Does prog W f_ze ⟨[.int .i64 e]⟩ H (Ret fun v G=>v = .int .i64 e ∧ G = H):=by
 refine f_ze.does _ ?_
 conv=>whnf
 skip
 refine Ret.eq rfl ?_
 first|exact .refl _|exact .drop|exact .fin|((repeat refine .pick ?_);first|exact .refl _|exact .emp _|exact .fin)
theorem StoX.errn {S:StoX} {T:Sto} (h:S.val = T) (k:T.L.err = none):S.L.err = none:=by
 have e:S.val.L.err = S.L.err.map (·.2):=rfl
 rw [h,k] at e
 exact Option.map_eq_none_iff.1 e.symm
set_option maxHeartbeats 4000000 in
theorem awake_spec {W:World} {R:HProp} [le:LaidE W] [lc:LaidC W] [lp:LaidP W] [oc:OldC W R]:Does prog W f_z3r ⟨[]⟩ R (Ret fun v G=>v = .bool true ∧ G = R):=by
 have hm:MayP 3 4 2:=by unfold MayP;decide
 obtain ⟨T1,T2,T3,T4,T5,T6,e1,p1,e2,p2,e3,p3,e4,p4,e5,p5,f5',e6,p6,e7⟩:=awake_run
 refine f_z3r.does ?_
 conv=>whnf
 repeat' (first
  | (refine St.i ⟨rfl,rfl⟩ (List.cons_ne_nil _ _) ?_;conv=>whnf)
  | (intro blk hblk;conv=>whnf))
 refine CallK.ret f_z38.ok (new_yes (n:=15) (by decide)) ?_
 rintro v G ⟨d,a,c,hc,rfl,rfl⟩
 obtain ⟨t1,ht1⟩:∃ t1,t1 = blk:=⟨_,rfl⟩
 rw [← ht1]
 have hXok:(freshX a c (List.replicate ((15:Int) * 512).toNat 0)).Ok:=fresh_ok (by rw [List.length_replicate];decide) (by rw [List.length_replicate];decide) (Byt.rep _) hc
 obtain ⟨X,hX⟩:∃ X,X = freshX a c (List.replicate ((15:Int) * 512).toNat 0):=⟨_,rfl⟩
 have hXv:X.val = zeroD 15:=by rw [hX];rfl
 have hXd:X.down = false:=by rw [hX];rfl
 have hXp:X.ps = []:=by rw [hX];rfl
 rw [← hX] at hXok ⊢
 have hop:openF X.val 11 4 = ((0,0),⟨11,4,[],[],0,none⟩,zeroD 15):=by rw [hXv];exact openF_zero (fun i hi=>by omega)
 conv=>whnf
 repeat' (first
  | (refine CallK.ret f_ze.ok qnum_spec ?_;rintro v G ⟨rfl,rfl⟩;conv=>whnf))
 refine CallK.ret f_log_Open.ok (open_spec (X:=X) (first:=11) (n:=4) hXok hXd hXp (by decide) (by decide) (by rw [hXv,zeroD_secs (by decide)];decide)) ?_
 rw [hop]
 rintro v G ⟨L,Y,hLd,hY,hLv,hLok,hYv,hYp,⟨h0,l,rfl,rfl⟩|⟨h0,_⟩⟩
 rotate_left
 ·exact absurd rfl h0
 conv=>whnf
 repeat' (first
  | (refine LdN.i ?_;conv=>whnf))
 refine CallK.imp (H':=devo d Y•logo l L•pts t1 (.cells ⟨[.int .i64 3,.int .i64 4,.int .i64 2]⟩ t_api_Shape)•R) (by first|exact .refl _|exact .drop|exact .fin|((repeat refine .pick ?_);first|exact .refl _|exact .emp _|exact .fin)) ?_
 refine CallK.ret f_z2a.ok (pnew_spec (X:=Y) (p:=3) (lg:=4) (f:=2) hY hm (by rw [hYv];exact zeroD_secs (by decide))) ?_
 rintro v G ⟨p,r,rfl,rfl⟩
 obtain ⟨S,hS⟩:∃ S:StoX,S = ⟨pool0 d l 3 4 2 r,L,Y⟩:=⟨_,rfl⟩
 have hSv:S.val = sto0 3 4 2:=by rw [hS];show (⟨_,L.val,Y.val⟩:Sto) = _;rw [hLv,hYv];rfl
 have hSl:S.P.l = l:=by rw [hS]
 have hSok:S.Ok:=by rw [hS] at hSv ⊢;exact ⟨by rw [hSv];exact ok0 hm,hLok rfl,hY,hLd⟩
 conv=>whnf
 repeat' (first
  | (refine CallK.ret f_z2a.ok pnew_nil ?_;rintro v G ⟨rfl,rfl⟩;conv=>whnf)
  | (refine LdN.i ?_;conv=>whnf)
  | (refine CallK.ret f_ze.ok qnum_spec ?_;rintro v G ⟨rfl,rfl⟩;conv=>whnf))
 refine CallK.imp (H':=stoo p S•R) ?_ ?_
 ·refine Imp.stoo (l:=l) (d:=d) hSl (by rw [hS]) ?_
  rw [hS]
  first|exact .refl _|exact .drop|exact .fin|((repeat refine .pick ?_);first|exact .refl _|exact .emp _|exact .fin)
 have hb1:(S.val.beg 1).1 = 0:=by rw [hSv,e1]
 have hb2:(S.val.beg 1).2 = T1:=by rw [hSv,e1]
 have hr0:(S.L.recs.length:Int) = 0:=by
  have h1:S.L.val.recs.length = S.L.recs.length:=List.length_map ..
  have h2:S.L.val = (sto0 3 4 2).L:=congrArg Sto.L hSv
  rw [h2] at h1
  exact_mod_cast h1.symm
 refine CallK.ret f_zo.ok (sbeg_spec (p:=p) (b:=1) hSl hSok (StoX.errn hSv rfl) (by decide)) ?_
 rw [hb1,hb2,if_pos rfl,hr0]
 rintro v G ⟨S1,k1,m1,v1,rfl,rfl⟩
 conv=>whnf
 skip
 have c1:S1.P.clock = 0:=by have:=congrArg (fun T:Sto=>T.P.clock) v1;rw [p1] at this;exact this
 refine CallK.ret f_z1t.ok (sget_spec (S:=S1) k1 (by rw [c1];decide)) ?_
 rw [v1,e2]
 rintro v G ⟨S2,k2,m2,v2,⟨_,f2,⟨x2,ca2,cc2,ga2,gc2⟩,hl2,hx2,rfl,rfl⟩|⟨h0,_⟩⟩
 rotate_left
 ·exact absurd rfl h0
 have hf2:f2.pg.m = last0 0:=by
  have h1:=look_val hl2
  have h2:S2.P.val = pA1:=by have:=congrArg Sto.P v2;rw [← p2];exact this
  rw [h2] at h1
  exact (congrArg FrM.pg (Option.some.inj h1)).symm
 dsimp only at hx2
 rw [hf2] at hx2
 subst hx2
 have c2:S2.P.clock = 1:=by have:=congrArg (fun T:Sto=>T.P.clock) v2;rw [p2] at this;exact this
 haveI rg:∀ (b:Nat) (Q:HProp),RowN W (pts b (.cells ⟨[.int .i64 5,.int .i64 (-3)]⟩ t_zq)•Q) (some ⟨b,0,none⟩) 1 2 grpv [⟨5,-3⟩]:=fun b Q=>⟨RowC.pts SizedC.h _ rfl,rfl⟩
 have hz:∀ (Q:HProp),RowN W Q none 0 5 cntv []:=fun Q=>⟨⟨fun w hs i x hx=>by cases hx⟩,rfl⟩
 conv=>whnf
 repeat' (first
  | (refine CallK.ret f_ze.ok qnum_spec ?_;rintro v G ⟨rfl,rfl⟩;conv=>whnf)
  | ((first|refine Ld.i ?_|refine St.i ⟨rfl,rfl⟩ (List.cons_ne_nil _ _) ?_);conv=>whnf)
  | (intro blk hblk;conv=>whnf))
 have v2':S2.val = T2:=v2
 refine CallK.ret f_z1k.ok (sput_spec (S:=S2) (num:=0) (lsn:=1) (C:=[]) (G:=[⟨5,-3⟩]) (by decide) (by decide) k2 ⟨by unfold In64;decide,by unfold In64;decide,fun c hc=>(by cases hc),fun c hc=>by cases List.mem_singleton.1 hc;unfold GrpIn In64;decide⟩ (by rw [c2];decide)) ?_
 rw [v2',show (⟨0,1,[],[⟨5,-3⟩]⟩:PgM) = xA from rfl,e3]
 rintro v G ⟨S3,k3,m3,v3,⟨_,rfl,rfl⟩|⟨h0,_⟩⟩
 rotate_left
 ·exact absurd rfl h0
 have v3':S3.val = T3:=v3
 conv=>whnf
 skip
 have d3:S3.val.P.dirtyL (sortI (S3.P.held.map (·.1))) = [(0,1)]:=by
  rw [StoX.keys v3' p3,v3',p3]
  show PoolM.dirtyL pA2 (sortI [0]) = _
  rw [sortI_of (by decide)]
  rfl
 refine CallK.ret f_z2k.ok (sdirty_spec (S:=S3) k3) ?_
 rw [d3]
 rintro v G ⟨da,dc,rfl,rfl⟩
 conv=>whnf
 skip
 have c3:S3.P.clock = 2:=by have:=congrArg (fun T:Sto=>T.P.clock) v3';rw [p3] at this;exact this
 refine CallK.ret f_z1t.ok (sget_spec (S:=S3) k3 (by rw [c3];decide)) ?_
 rw [v3',e4]
 rintro v G ⟨S4,k4,m4,v4,⟨_,f4,x4,hl4,hx4,rfl,rfl⟩|⟨h0,_⟩⟩
 rotate_left
 ·exact absurd rfl h0
 have v4':S4.val = T4:=v4
 conv=>whnf
 skip
 have c4:S4.P.clock = 3:=by have:=congrArg (fun T:Sto=>T.P.clock) v4';rw [p4] at this;exact this
 refine CallK.ret f_z1t.ok (sget_spec (S:=S4) k4 (by rw [c4];decide)) ?_
 rw [v4',e5]
 rintro v G ⟨S5,k5,m5,v5,⟨_,f5,x5,hl5,hx5,rfl,rfl⟩|⟨h0,_⟩⟩
 rotate_left
 ·exact absurd rfl h0
 have v5':S5.val = T5:=v5
 have hk5:S5.P.held.map (·.1) = [1,2]:=StoX.keys v5' p5
 have hn5:S5.P.held.length = 2:=by have:=congrArg List.length hk5;simpa using this
 have hs5:sortI [1,2] = [1,2]:=sortI_of (by decide)
 conv=>whnf
 repeat' (first
  | (refine St.i ⟨rfl,rfl⟩ (List.cons_ne_nil _ _) ?_;conv=>whnf)
  | (intro blk hblk;conv=>whnf))
 refine CallK.ret f_z2j.ok (sheld_spec (S:=S5) k5) ?_
 rw [hk5,hn5,hs5]
 rintro v G ⟨ha,hcc,rfl,rfl⟩
 conv=>whnf
 skip
 refine CallK.ret f_z2j.ok (sheld_spec (S:=S5) k5) ?_
 rw [hk5,hn5,hs5]
 rintro v G ⟨hb,hcb,rfl,rfl⟩
 conv=>whnf
 repeat' (first
  | (refine IxS.r (xs:=([1,2]:List Int)) (i:=0) rfl rfl (by decide) (fun ab off ha=>?_);subst ha;conv=>whnf)
  | (refine Ld.r0 (xs:=([1,2]:List Int)) (i:=0) (x:=1) rfl rfl ?_;conv=>whnf))
 have d5:S5.val.P.dirtyL (sortI (S5.P.held.map (·.1))) = []:=by
  rw [hk5,hs5,v5',p5]
  rfl
 refine CallK.ret f_z2k.ok (sdirty_spec (S:=S5) k5) ?_
 rw [d5]
 rintro v G ⟨db,dcb,rfl,rfl⟩
 conv=>whnf
 skip
 have hF:S5.L.forced = 1:=by have:=congrArg (fun T:Sto=>T.L.forced) v5';rw [f5'] at this;exact this
 have hl5':S5.P.l = l:=by rw [m5.l,m4.l,m3.l,m2.l,m1.l];exact hSl
 refine CallK.ret f_z39.ok (sforced_spec (p:=p) (S:=S5) hl5') ?_
 rw [hF]
 rintro v G ⟨rfl,rfl⟩
 conv=>whnf
 skip
 have c5:S5.P.clock = 4:=by have:=congrArg (fun T:Sto=>T.P.clock) v5';rw [p5] at this;exact this
 refine CallK.ret f_z1t.ok (sget_spec (S:=S5) k5 (by rw [c5];decide)) ?_
 rw [v5',e6]
 rintro v G ⟨S6,k6,m6,v6,⟨_,f6,⟨x6,ca6,cc6,ga6,gc6⟩,hl6,hx6,rfl,rfl⟩|⟨h0,_⟩⟩
 rotate_left
 ·exact absurd rfl h0
 have v6':S6.val = T6:=v6
 have hf6:f6.val = ⟨xA,0,false,0,5⟩:=by
  have h1:=look_val hl6
  have h2:S6.P.val = pA5:=by have:=congrArg Sto.P v6';rw [← p6];exact this
  rw [h2] at h1
  exact (Option.some.inj h1).symm
 have hm6:f6.pg.m = xA:=congrArg FrM.pg hf6
 have hp6:f6.pins = 0:=congrArg FrM.pins hf6
 dsimp only at hx6
 rw [hm6] at hx6
 subst hx6
 rw [pgc_eq]
 have hg0:([⟨5,-3⟩]:List GrpV)[0]? = some ⟨5,-3⟩:=rfl
 haveI rg6:∀ (R':HProp),RowC W (vec t_zq 2 grpv ga6 gc6 xA.G•R') ga6 2 grpv [⟨5,-3⟩]:=fun R'=>inferInstanceAs (RowC W (vec t_zq 2 grpv ga6 gc6 [⟨5,-3⟩]•R') ga6 2 grpv [⟨5,-3⟩])
 conv=>whnf
 repeat' (first
  | ((first|refine Ld.i ?_|refine St.i ⟨rfl,rfl⟩ (List.cons_ne_nil _ _) ?_);conv=>whnf)
  | (refine IxS.r (xs:=([⟨5,-3⟩]:List GrpV)) (i:=0) rfl rfl (by decide) (fun ab off ha=>?_);cases ha;conv=>whnf)
  | (refine Ld.r hg0 rfl ?_;conv=>whnf))
 refine CallK.ret f_z2r.ok (sunpin_spec (S:=S6) k6 (fun f hf=>by rw [hl6] at hf;cases hf;rw [hp6];decide)) ?_
 rw [v6',e7]
 rintro v G ⟨S7,k7,m7,v7,rfl,rfl⟩
 conv=>whnf
 repeat' (first
  | (refine CallK.ret f_ze.ok qnum_spec ?_;rintro v G ⟨rfl,rfl⟩;conv=>whnf))
 exact ⟨_,_,rfl,(by first|exact .refl _|exact .drop|exact .fin|((repeat refine .pick ?_);first|exact .refl _|exact .emp _|exact .fin)),rfl,rfl⟩
end Go.Proofs.YtbcedpankkdfoaaGreatDoor
/- Pages side by side; an error's number, place and call; small helpers of the law: walked. Conditions: in each statement. -/
namespace Go.Proofs.YtbcedpankkdfoaaGreatDoor
open Go Go.SL Go.SL.Sec Go.SL.Fld Go.SL.Pts Go.SL.Rec Go.SL.Twn Go.SL.Pg Go.SL.Mst Go.SL.Pool
theorem RowC.oldC {W:World} {R:HProp} {α:Type} {sz:Nat} {enc:α → List Value} {a:Option Addr} {xs:List α} (o:OldR W sz enc a xs) (oc:OldC W R):RowC W R a sz enc xs:=⟨fun w hs i x hx=>by
 obtain ⟨b,off,ha,h⟩:=o.at' i x hx
 exact ⟨b,off,ha,fun j v hj=>oc.h _ _ (h j v hj)⟩⟩
theorem qbrought_spec {W:World} {R:HProp} {x n:Int} (hn:1 ≤ n ∧ n ≤ 9223372036854775807):Does prog W f_zf ⟨[.int .i64 x,.int .i64 n]⟩ R (Ret fun v G=>v = .int .i64 (x % n) ∧ G = R):=by
 have h1:=Int.tmod_lt_of_pos x (show 0 < n by omega)
 have h2:-n < x.tmod n:=by
  have:=Int.tmod_lt_of_pos (-x) (show 0 < n by omega)
  rw [Int.neg_tmod] at this;omega
 have h5:x % n = if x.tmod n < 0 then x.tmod n + n else x.tmod n:=by
  have h3:=Int.emod_nonneg x (show n ≠ 0 by omega)
  have h4:=Int.emod_lt_of_pos x (show 0 < n by omega)
  have e1:=Int.tmod_eq_emod (a:=x) (b:=n)
  by_cases h:0 ≤ x ∨ n ∣ x
  ·rw [if_pos h] at e1
   rw [if_neg (by omega)];omega
  ·rw [if_neg h] at e1
   rw [if_pos (by omega)];omega
 refine f_zf.does _ _ ?_
 conv=>whnf
 repeat' (first
  | (refine spl_dec (fun hd=>?_) (fun hd=>?_) <;> first|(exfalso;omega)|(conv=>whnf))
  | ((first|refine Ar.i64 (by omega) ?_|refine Req.mk (by omega) ?_);conv=>whnf))
 ·rw [h5,if_pos (by omega)]
  refine Ret.eq rfl ?_
  first|exact .refl _|exact .drop|exact .fin|((repeat refine .pick ?_);first|exact .refl _|exact .emp _|exact .fin)
 ·rw [h5,if_neg (by omega)]
  refine Ret.eq rfl ?_
  first|exact .refl _|exact .drop|exact .fin|((repeat refine .pick ?_);first|exact .refl _|exact .emp _|exact .fin)
theorem qshape_spec {W:World} {R:HProp} {p l f:Int} :
  Does prog W f_z2b ⟨[.agg ⟨[.int .i64 p,.int .i64 l,.int .i64 f]⟩]⟩ R (Ret fun v G=>v = .agg ⟨[.int .i64 (2 + p % 6),.int .i64 (4 + l % 20),.int .i64 (2 + f % 4)]⟩ ∧ G = R):=by
 refine f_z2b.does _ ?_
 conv=>whnf
 repeat' (first
  | ((first|refine Ld.i ?_|refine LdN.i ?_|refine St.i ⟨rfl,rfl⟩ (List.cons_ne_nil _ _) ?_|refine Ar.i64 (by omega) ?_);conv=>whnf)
  | (intro blk hblk;conv=>whnf)
  | (refine Sub.on (by first|exact .refl _|exact .drop|exact .fin|((repeat refine .pick ?_);first|exact .refl _|exact .emp _|exact .fin)) ?_;conv=>whnf)
  | (refine DrawK.introH tab_ok mixed 3 f_z2b.last1 f_z2b.plan1 _ rfl (by kernel_rfl) (Sub.of (by first|exact .refl _|exact .drop|exact .fin|((repeat refine .pick ?_);first|exact .refl _|exact .emp _|exact .fin))) ?_;conv=>whnf)
  | (refine CallK.ret f_zf.ok (qbrought_spec (by first|rfl|assumption|omega|decide|(simp;done)|(simp;omega)|(simp at *;omega))) ?_;rintro v G ⟨rfl,rfl⟩;conv=>whnf))
 refine Ret.eq rfl ?_
 first|exact .refl _|exact .drop|exact .fin|((repeat refine .pick ?_);first|exact .refl _|exact .emp _|exact .fin)
theorem qout_spec {W:World} {R:HProp} {a b:Int} {x y:Option Addr} {n c m d:Nat}:Does prog W f_z3f ⟨[.agg ⟨[.int .i64 a,.int .i64 b,.slice x n c,.slice y m d]⟩]⟩ R (Ret fun v G=>v = .agg ⟨[.int .i64 a,.int .i64 b,.slice x n c,.slice y m d]⟩ ∧ G = R):=by
 refine f_z3f.does _ ?_
 conv=>whnf
 repeat' (first
  | ((first|refine Ld.i ?_|refine LdN.i ?_|refine St.i ⟨rfl,rfl⟩ (List.cons_ne_nil _ _) ?_);conv=>whnf)
  | (intro blk hblk;conv=>whnf))
 refine Ret.eq rfl ?_
 first|exact .refl _|exact .drop|exact .fin|((repeat refine .pick ?_);first|exact .refl _|exact .emp _|exact .fin)
theorem qback_spec {W:World} {R:HProp} {a b:Int} {x y:Option Addr} {n c m d:Nat}:Does prog W f_z35 ⟨[.agg ⟨[.int .i64 a,.int .i64 b,.slice x n c,.slice y m d]⟩]⟩ R (Ret fun v G=>v = .agg ⟨[.int .i64 a,.int .i64 b,.slice x n c,.slice y m d]⟩ ∧ G = R):=by
 refine f_z35.does _ ?_
 conv=>whnf
 repeat' (first
  | ((first|refine Ld.i ?_|refine LdN.i ?_|refine St.i ⟨rfl,rfl⟩ (List.cons_ne_nil _ _) ?_);conv=>whnf)
  | (intro blk hblk;conv=>whnf))
 refine Ret.eq rfl ?_
 first|exact .refl _|exact .drop|exact .fin|((repeat refine .pick ?_);first|exact .refl _|exact .emp _|exact .fin)
theorem qis_nil {W:World} {R:HProp} {w:ByteArray} {z code:Int} (hc:code ≠ 0):Does prog W f_z1g ⟨[.nilIface,.string w,.int .i64 z,.int .i64 code]⟩ R (Ret fun v G=>v = .bool false ∧ G = R):=by
 refine f_z1g.does _ _ _ _ ?_
 conv=>whnf
 repeat' (first
  | (refine spl_dec (fun hd=>?_) (fun hd=>?_) <;> first|(exfalso;omega)|(conv=>whnf)))
 refine Ret.eq rfl ?_
 first|exact .refl _|exact .drop|exact .fin|((repeat refine .pick ?_);first|exact .refl _|exact .emp _|exact .fin)
theorem qis_flt {W:World} {R:HProp} {b:Nat} {w:ByteArray} {z e code:Int} (hc:code ≠ 0):Does prog W f_z1g ⟨[.iface t_z5 (ptr b),.string w,.int .i64 z,.int .i64 code]⟩ (fltc b w z e•R) (Ret fun v G=>v = .bool (decide (e = code)) ∧ G = (fltc b w z e•R)):=by
 unfold fltc
 refine f_z1g.does _ _ _ _ ?_
 conv=>whnf
 repeat' (first
  | ((first|refine spl_f (by with_reducible exact ndec_self _) ?_|refine spl_f (by with_reducible exact nbeq_self _) ?_);conv=>whnf)
  | (refine spl_dec (fun hd=>?_) (fun hd=>?_) <;> first|(exfalso;omega)|(conv=>whnf))
  | (refine Ld.i ?_;conv=>whnf)
  | (refine CallK.ret f_ze.ok (qnum_spec) ?_;rintro v G ⟨rfl,rfl⟩;conv=>whnf))
 all_goals
  refine Ret.eq rfl ?_
  first|exact .refl _|exact .drop|exact .fin|((repeat refine .pick ?_);first|exact .refl _|exact .emp _|exact .fin)
theorem sameC_spec {W:World} {R:HProp} {a b:Option Addr} {n m cap cap':Nat} {xs ys:List CntV} (c:RowN W R a n 5 cntv xs) (d:RowN W R b m 5 cntv ys) (hb:xs.length ≤ 9223372036854775807) :
  Does prog W f_z1i ⟨[.slice a n cap,.slice b m cap']⟩ R (Ret fun v G=>v = .bool (decide (xs = ys)) ∧ G = R):=by
 have hn:=c.len
 have hm:=d.len
 have c1:=c.row
 have d1:=d.row
 subst hn hm
 refine f_z1i.does _ _ ?_
 conv=>whnf
 by_cases hl:xs.length = ys.length
 rotate_left
 ·rw [show decide (xs = ys) = false from decide_eq_false fun e=>hl (by rw [e])]
  repeat' (first
   | (rw [decide_eq_false (show ¬ ((xs.length:Int) = ys.length) by omega)];conv=>whnf))
  refine Ret.eq rfl ?_
  first|exact .refl _|exact .drop|exact .fin|((repeat refine .pick ?_);first|exact .refl _|exact .emp _|exact .fin)
 repeat' (first
  | (rw [decide_eq_true (show ((xs.length:Int) = ys.length) by omega)];conv=>whnf))
 refine LoopK.keep tab_ok (L:=f_z1i.live) (ι:=Nat) (fun i=>i ≤ xs.length ∧ xs.take i = ys.take i) (fun i=>[(5,.int .i64 i)]) (fun i=>xs.length - i) 0 (by simp) (fun t v h=>h) ?_
 rintro i ⟨hi,ht⟩
 conv=>whnf
 by_cases h1:i < xs.length
 ·obtain ⟨x,hx⟩:∃ x,xs[i]? = some x:=⟨_,List.getElem?_eq_getElem h1⟩
  obtain ⟨y,hy⟩:∃ y,ys[i]? = some y:=⟨_,List.getElem?_eq_getElem (by omega)⟩
  by_cases hxy:x = y
  ·subst hxy
   repeat' (first
    | (refine spl_dec (fun hd=>?_) (fun hd=>?_) <;> first|(exfalso;omega)|(conv=>whnf))
    | (refine spl_intro (fun hd=>?_) (fun hd=>?_) <;> (conv=>whnf))
    | (refine Ar.i64 (by omega) ?_;conv=>whnf)
    | (refine IxS.r (a:=a) (c:=c1) (i:=i) rfl rfl h1 (fun ab off ha=>?_);cases ha;conv=>whnf)
    | (refine IxS.r (a:=b) (c:=d1) (i:=i) rfl rfl (by omega) (fun ab off ha=>?_);cases ha;conv=>whnf)
    | ((first|refine LdN.r (c:=c1) hx rfl ?_|refine LdN.r (c:=d1) hy rfl ?_);conv=>whnf)
    | (refine OpX.of_quiet (OpQ.nes rfl rfl ?_);conv=>whnf)
    | (refine DrawK.introH tab_ok mixed 17 f_z1i.last6 f_z1i.plan6 _ rfl (by kernel_rfl) (Sub.of (by first|exact .refl _|exact .drop|exact .fin|((repeat refine .pick ?_);first|exact .refl _|exact .emp _|exact .fin))) ?_;conv=>whnf))
   ·exfalso;simp at hd
   ·refine ⟨rfl,i + 1,⟨h1,?_⟩,fun t v h=>h,?_,by omega⟩
    ·rw [List.take_add_one,List.take_add_one,ht,hx,hy]
    ·first|exact .refl _|exact .drop|exact .fin|((repeat refine .pick ?_);first|exact .refl _|exact .emp _|exact .fin)
  ·repeat' (first
    | (refine spl_dec (fun hd=>?_) (fun hd=>?_) <;> first|(exfalso;omega)|(conv=>whnf))
    | (refine spl_intro (fun hd=>?_) (fun hd=>?_) <;> (conv=>whnf))
    | (refine Ar.i64 (by omega) ?_;conv=>whnf)
    | (refine IxS.r (a:=a) (c:=c1) (i:=i) rfl rfl h1 (fun ab off ha=>?_);cases ha;conv=>whnf)
    | (refine IxS.r (a:=b) (c:=d1) (i:=i) rfl rfl (by omega) (fun ab off ha=>?_);cases ha;conv=>whnf)
    | ((first|refine LdN.r (c:=c1) hx rfl ?_|refine LdN.r (c:=d1) hy rfl ?_);conv=>whnf)
    | (refine OpX.of_quiet (OpQ.nes rfl rfl ?_);conv=>whnf)
    | (refine DrawK.introH tab_ok mixed 17 f_z1i.last6 f_z1i.plan6 _ rfl (by kernel_rfl) (Sub.of (by first|exact .refl _|exact .drop|exact .fin|((repeat refine .pick ?_);first|exact .refl _|exact .emp _|exact .fin))) ?_;conv=>whnf))
   ·rw [show decide (xs = ys) = false from decide_eq_false fun e=>hxy (by rw [e,hy] at hx;exact (Option.some.inj hx).symm)]
    refine Ret.eq rfl ?_
    first|exact .refl _|exact .drop|exact .fin|((repeat refine .pick ?_);first|exact .refl _|exact .emp _|exact .fin)
   ·refine absurd ?_ hxy
    cases x
    cases y
    simp at hd
    simp [hd]
 ·rw [List.take_of_length_le (by omega),List.take_of_length_le (by omega)] at ht
  rw [decide_eq_true ht]
  repeat' (first
   | (refine spl_dec (fun hd=>?_) (fun hd=>?_) <;> first|(exfalso;omega)|(conv=>whnf)))
  refine Ret.eq rfl ?_
  first|exact .refl _|exact .drop|exact .fin|((repeat refine .pick ?_);first|exact .refl _|exact .emp _|exact .fin)
theorem sameG_spec {W:World} {R:HProp} {a b:Option Addr} {n m cap cap':Nat} {xs ys:List GrpV} (c:RowN W R a n 2 grpv xs) (d:RowN W R b m 2 grpv ys) (hb:xs.length ≤ 9223372036854775807) :
  Does prog W f_z1m ⟨[.slice a n cap,.slice b m cap']⟩ R (Ret fun v G=>v = .bool (decide (xs = ys)) ∧ G = R):=by
 have hn:=c.len
 have hm:=d.len
 have c1:=c.row
 have d1:=d.row
 subst hn hm
 refine f_z1m.does _ _ ?_
 conv=>whnf
 by_cases hl:xs.length = ys.length
 rotate_left
 ·rw [show decide (xs = ys) = false from decide_eq_false fun e=>hl (by rw [e])]
  repeat' (first
   | (rw [decide_eq_false (show ¬ ((xs.length:Int) = ys.length) by omega)];conv=>whnf))
  refine Ret.eq rfl ?_
  first|exact .refl _|exact .drop|exact .fin|((repeat refine .pick ?_);first|exact .refl _|exact .emp _|exact .fin)
 repeat' (first
  | (rw [decide_eq_true (show ((xs.length:Int) = ys.length) by omega)];conv=>whnf))
 refine LoopK.keep tab_ok (L:=f_z1m.live) (ι:=Nat) (fun i=>i ≤ xs.length ∧ xs.take i = ys.take i) (fun i=>[(5,.int .i64 i)]) (fun i=>xs.length - i) 0 (by simp) (fun t v h=>h) ?_
 rintro i ⟨hi,ht⟩
 conv=>whnf
 by_cases h1:i < xs.length
 ·obtain ⟨x,hx⟩:∃ x,xs[i]? = some x:=⟨_,List.getElem?_eq_getElem h1⟩
  obtain ⟨y,hy⟩:∃ y,ys[i]? = some y:=⟨_,List.getElem?_eq_getElem (by omega)⟩
  by_cases hxy:x = y
  ·subst hxy
   repeat' (first
    | (refine spl_dec (fun hd=>?_) (fun hd=>?_) <;> first|(exfalso;omega)|(conv=>whnf))
    | (refine spl_intro (fun hd=>?_) (fun hd=>?_) <;> (conv=>whnf))
    | (refine Ar.i64 (by omega) ?_;conv=>whnf)
    | (refine IxS.r (a:=a) (c:=c1) (i:=i) rfl rfl h1 (fun ab off ha=>?_);cases ha;conv=>whnf)
    | (refine IxS.r (a:=b) (c:=d1) (i:=i) rfl rfl (by omega) (fun ab off ha=>?_);cases ha;conv=>whnf)
    | ((first|refine LdN.r (c:=c1) hx rfl ?_|refine LdN.r (c:=d1) hy rfl ?_);conv=>whnf)
    | (refine OpX.of_quiet (OpQ.nes rfl rfl ?_);conv=>whnf)
    | (refine DrawK.introH tab_ok mixed 17 f_z1m.last6 f_z1m.plan6 _ rfl (by kernel_rfl) (Sub.of (by first|exact .refl _|exact .drop|exact .fin|((repeat refine .pick ?_);first|exact .refl _|exact .emp _|exact .fin))) ?_;conv=>whnf))
   ·exfalso;simp at hd
   ·refine ⟨rfl,i + 1,⟨h1,?_⟩,fun t v h=>h,?_,by omega⟩
    ·rw [List.take_add_one,List.take_add_one,ht,hx,hy]
    ·first|exact .refl _|exact .drop|exact .fin|((repeat refine .pick ?_);first|exact .refl _|exact .emp _|exact .fin)
  ·repeat' (first
    | (refine spl_dec (fun hd=>?_) (fun hd=>?_) <;> first|(exfalso;omega)|(conv=>whnf))
    | (refine spl_intro (fun hd=>?_) (fun hd=>?_) <;> (conv=>whnf))
    | (refine Ar.i64 (by omega) ?_;conv=>whnf)
    | (refine IxS.r (a:=a) (c:=c1) (i:=i) rfl rfl h1 (fun ab off ha=>?_);cases ha;conv=>whnf)
    | (refine IxS.r (a:=b) (c:=d1) (i:=i) rfl rfl (by omega) (fun ab off ha=>?_);cases ha;conv=>whnf)
    | ((first|refine LdN.r (c:=c1) hx rfl ?_|refine LdN.r (c:=d1) hy rfl ?_);conv=>whnf)
    | (refine OpX.of_quiet (OpQ.nes rfl rfl ?_);conv=>whnf)
    | (refine DrawK.introH tab_ok mixed 17 f_z1m.last6 f_z1m.plan6 _ rfl (by kernel_rfl) (Sub.of (by first|exact .refl _|exact .drop|exact .fin|((repeat refine .pick ?_);first|exact .refl _|exact .emp _|exact .fin))) ?_;conv=>whnf))
   ·rw [show decide (xs = ys) = false from decide_eq_false fun e=>hxy (by rw [e,hy] at hx;exact (Option.some.inj hx).symm)]
    refine Ret.eq rfl ?_
    first|exact .refl _|exact .drop|exact .fin|((repeat refine .pick ?_);first|exact .refl _|exact .emp _|exact .fin)
   ·refine absurd ?_ hxy
    cases x
    cases y
    simp at hd
    simp [hd]
 ·rw [List.take_of_length_le (by omega),List.take_of_length_le (by omega)] at ht
  rw [decide_eq_true ht]
  repeat' (first
   | (refine spl_dec (fun hd=>?_) (fun hd=>?_) <;> first|(exfalso;omega)|(conv=>whnf)))
  refine Ret.eq rfl ?_
  first|exact .refl _|exact .drop|exact .fin|((repeat refine .pick ?_);first|exact .refl _|exact .emp _|exact .fin)
theorem same_spec {W:World} {R:HProp} {n1 l1 n2 l2:Int} {ca ga cb gb:Option Addr} {kca kga kcb kgb c1 c2 c3 c4:Nat} {C C':List CntV} {G G':List GrpV} (rc:RowN W R ca kca 5 cntv C) (rg:RowN W R ga kga 2 grpv G) (rc':RowN W R cb kcb 5 cntv C') (rg':RowN W R gb kgb 2 grpv G') (hC:C.length ≤ 9223372036854775807) (hG:G.length ≤ 9223372036854775807) :
  Does prog W f_z34 ⟨[.agg ⟨[.int .i64 n1,.int .i64 l1,.slice ca kca c1,.slice ga kga c2]⟩,.agg ⟨[.int .i64 n2,.int .i64 l2,.slice cb kcb c3,.slice gb kgb c4]⟩]⟩ R (Ret fun v Q=>v = .bool (decide ((⟨n1,l1,C,G⟩:PgM) = ⟨n2,l2,C',G'⟩)) ∧ Q = R):=by
 have hd:decide ((⟨n1,l1,C,G⟩:PgM) = ⟨n2,l2,C',G'⟩) = (decide (n1 = n2) && (decide (l1 = l2) && (decide (C = C') && decide (G = G')))):=by
  rw [Bool.eq_iff_iff];simp [PgM.mk.injEq]
 rw [hd]
 haveI:=rc
 haveI:=rg
 haveI:=rc'
 haveI:=rg'
 refine f_z34.does _ _ ?_
 conv=>whnf
 by_cases h1:n1 = n2
 rotate_left
 ·rw [decide_eq_false h1]
  repeat' (first
   | (rw [decide_eq_false h1];conv=>whnf)
   | (refine Ld.i ?_;conv=>whnf)
   | (intro blk hblk;conv=>whnf))
  refine Ret.eq rfl ?_
  first|exact .refl _|exact .drop|exact .fin|((repeat refine .pick ?_);first|exact .refl _|exact .emp _|exact .fin)
 by_cases h2:l1 = l2
 rotate_left
 ·rw [decide_eq_true h1,decide_eq_false h2]
  repeat' (first
   | (rw [decide_eq_true h1];conv=>whnf)
   | (rw [decide_eq_false h2];conv=>whnf)
   | (refine Ld.i ?_;conv=>whnf)
   | (intro blk hblk;conv=>whnf))
  refine Ret.eq rfl ?_
  first|exact .refl _|exact .drop|exact .fin|((repeat refine .pick ?_);first|exact .refl _|exact .emp _|exact .fin)
 by_cases h3:C = C'
 rotate_left
 ·rw [decide_eq_true h1,decide_eq_true h2,decide_eq_false h3]
  repeat' (first
   | (rw [decide_eq_true h1];conv=>whnf)
   | (rw [decide_eq_true h2];conv=>whnf)
   | (refine CallK.ret f_z1i.ok (sameC_spec (xs:=C) (ys:=C') (by infer_instance) (by infer_instance) hC) ?_;rw [decide_eq_false h3];rintro v G ⟨rfl,rfl⟩;conv=>whnf)
   | (refine Ld.i ?_;conv=>whnf)
   | (intro blk hblk;conv=>whnf))
  refine Ret.eq rfl ?_
  first|exact .refl _|exact .drop|exact .fin|((repeat refine .pick ?_);first|exact .refl _|exact .emp _|exact .fin)
 rw [decide_eq_true h1,decide_eq_true h2,decide_eq_true h3]
 repeat' (first
  | (rw [decide_eq_true h1];conv=>whnf)
  | (rw [decide_eq_true h2];conv=>whnf)
  | (refine CallK.ret f_z1i.ok (sameC_spec (xs:=C) (ys:=C') (by infer_instance) (by infer_instance) hC) ?_;rw [decide_eq_true h3];rintro v G ⟨rfl,rfl⟩;conv=>whnf)
  | (refine CallK.ret f_z1m.ok (sameG_spec (xs:=G) (ys:=G') (by infer_instance) (by infer_instance) hG) ?_;rintro v G ⟨rfl,rfl⟩;conv=>whnf)
  | (refine Ld.i ?_;conv=>whnf)
  | (intro blk hblk;conv=>whnf))
 refine Ret.eq rfl ?_
 first|exact .refl _|exact .drop|exact .fin|((repeat refine .pick ?_);first|exact .refl _|exact .emp _|exact .fin)
theorem qown_spec {W:World} {R:HProp} {num lsn:Int} {ca ga:Option Addr} {nC cc nG gc:Nat} {C:List CntV} {G:List GrpV} [rc:RowN W R ca nC 5 cntv C] [rg:RowN W R ga nG 2 grpv G] (hC:C.length ≤ 1000000000) (hG:G.length ≤ 1000000000) :
  Does prog W f_z36 ⟨[.agg ⟨[.int .i64 num,.int .i64 lsn,.slice ca nC cc,.slice ga nG gc]⟩]⟩ R (Ret fun v Q=>∃ x:PgX,x.m = ⟨num,lsn,C,G⟩ ∧ v = pgv x ∧ Q = (pgc x•R)):=by
 have hn:=rc.len
 have hm:=rg.len
 haveI:=rc.row
 haveI:=rg.row
 subst hn hm
 refine f_z36.does _ ?_
 conv=>whnf
 repeat' (first
  | (refine Ld.i ?_;conv=>whnf)
  | (intro blk hblk;conv=>whnf))
 refine OpX.appN (ys:=C) tab_ok rfl rfl rfl rfl rfl (by omega) ⟨rfl,OneC.h⟩ (fun a1 c1=>?_)
 repeat' (first
  | ((first|refine Ld.i ?_|refine St.i ⟨rfl,rfl⟩ (List.cons_ne_nil _ _) ?_);conv=>whnf))
 refine OpX.appN (ys:=G) tab_ok rfl rfl rfl rfl rfl (by omega) ⟨rfl,OneC.h⟩ (fun a2 c2=>?_)
 repeat' (first
  | ((first|refine LdN.i ?_|refine St.i ⟨rfl,rfl⟩ (List.cons_ne_nil _ _) ?_);conv=>whnf))
 refine ⟨_,_,rfl,?_,⟨⟨num,lsn,C,G⟩,a1,c1,a2,c2⟩,rfl,rfl,rfl⟩
 rw [pgc_eq]
 first|exact .refl _|exact .drop|exact .fin|((repeat refine .pick ?_);first|exact .refl _|exact .emp _|exact .fin)
end Go.Proofs.YtbcedpankkdfoaaGreatDoor
/- The law's store: where it lies; reading its rows. Conditions: in each statement. -/
namespace Go.Proofs.YtbcedpankkdfoaaGreatDoor
open Go Go.SL Go.SL.Sec Go.SL.Fld Go.SL.Pts Go.SL.Rec Go.SL.Twn Go.SL.Pg Go.SL.Mst Go.SL.Pool
instance:SizedC 4 PgX.cells:=⟨fun _=>rfl⟩
instance {x:PgX}:LitL x.cells [.int .i64 x.m.num,.int .i64 x.m.lsn,.slice x.ca x.m.C.length x.cc,.slice x.ga x.m.G.length x.gc]:=⟨rfl⟩
theorem pgx_one:∀ ys:List PgX,∀ v ∈ ys.flatMap PgX.cells,v.oneCell' = true:=by
 intro ys v hv
 obtain ⟨d,_,hv⟩:=List.mem_flatMap.1 hv
 simp only [PgX.cells,List.mem_cons,List.not_mem_nil,or_false] at hv
 rcases hv with rfl|rfl|rfl|rfl <;> rfl
structure RowX where
 a:Option Addr
 cap:Nat
 xs:List PgX
def rowxv (r:RowX):List Value:=[.slice r.a r.xs.length r.cap]
instance:SizedC 1 rowxv:=⟨fun _=>rfl⟩
instance {r:RowX}:LitL (rowxv r) [.slice r.a r.xs.length r.cap]:=⟨rfl⟩
theorem rowx_one:∀ ys:List RowX,∀ v ∈ ys.flatMap rowxv,v.oneCell' = true:=by
 intro ys v hv
 obtain ⟨d,_,hv⟩:=List.mem_flatMap.1 hv
 simp only [rowxv,List.mem_cons,List.not_mem_nil,or_false] at hv
 subst hv;rfl
def rowxc (r:RowX):HProp:=vec t_z1d 4 PgX.cells r.a r.cap r.xs•bigL pgc r.xs
def RowX.m (r:RowX):List PgM:=r.xs.map (·.m)
structure StX where
 p:Int
 lg:Int
 f:Int
 d:Nat
 l:Nat
 q:Nat
 ha:Option Addr
 hc:Nat
 H:List RowX
 da:Option Addr
 dc:Nat
 E:List Int
def StX.had (X:StX):List (List PgM):=X.H.map RowX.m
abbrev storev (X:StX):List Value:=[.int .i64 X.p,.int .i64 X.lg,.int .i64 X.f,ptr X.d,ptr X.l,ptr X.q,.slice X.ha X.H.length X.hc,.slice X.da X.E.length X.dc]
def storec (b:Nat) (X:StX):HProp:=pts b (.cells ⟨storev X⟩ t_z43)•vec t_z44 1 rowxv X.ha X.hc X.H•vec t_int 1 ints X.da X.dc X.E•bigL rowxc X.H
theorem storec_eq (b:Nat) (X:StX) (R:HProp):(storec b X•R) = (pts b (.cells ⟨storev X⟩ t_z43)•vec t_z44 1 rowxv X.ha X.hc X.H•vec t_int 1 ints X.da X.dc X.E•bigL rowxc X.H•R):=by
 unfold storec;simp only [star_assoc]
section
variable {W:World} {R:HProp} {b:Nat} {X:StX}
instance (priority:=100) RdC.storec {k:Nat} {v:Value} [LAt (storev X) k v]:RdC W (storec b X•R) ⟨b,k,none⟩ v:=by rw [storec_eq];infer_instance
instance (priority:=100) RdLC.storec {k n:Nat} {vs:List Value} [LSub (storev X) k n vs]:RdLC W (storec b X•R) b k n vs:=by rw [storec_eq];infer_instance
theorem rowH:RowC W (storec b X•R) X.ha 1 rowxv X.H:=by rw [storec_eq];infer_instance
theorem rowE:RowC W (storec b X•R) X.da 1 ints X.E:=by rw [storec_eq];infer_instance
theorem rowP {r:RowX} (h:r ∈ X.H):RowC W (storec b X•R) r.a 4 PgX.cells r.xs:=by
 obtain ⟨R',e⟩:=bigL_mem rowxc h
 rw [storec_eq,e]
 unfold rowxc
 simp only [star_assoc]
 infer_instance
theorem rowPC {r:RowX} {x:PgX} (h:r ∈ X.H) (k:x ∈ r.xs):RowC W (storec b X•R) x.ca 5 cntv x.m.C ∧ RowC W (storec b X•R) x.ga 2 grpv x.m.G:=by
 obtain ⟨R',e⟩:=bigL_mem rowxc h
 obtain ⟨R2,e2⟩:=bigL_mem pgc k
 have e3:(storec b X•R) = (pts b (.cells ⟨storev X⟩ t_z43)•vec t_z44 1 rowxv X.ha X.hc X.H•vec t_int 1 ints X.da X.dc X.E•vec t_z1d 4 PgX.cells r.a r.cap r.xs•vec t_z17 5 cntv x.ca x.cc x.m.C•vec t_zq 2 grpv x.ga x.gc x.m.G•R2•R'•R):=by
  rw [storec_eq,e]
  unfold rowxc
  rw [e2]
  unfold pgc
  simp only [star_assoc]
 rw [e3]
 exact ⟨inferInstance,inferInstance⟩
end
structure StX.Ok (X:StX) (S:StoX):Prop where
 sto:S.Ok
 d:S.P.d = X.d
 l:S.P.l = X.l
 p:X.p = S.P.pages
 had:HadOk X.p X.had
 el:(X.E.length:Int) = X.p
theorem StX.Ok.pages {X:StX} {S:StoX} (h:X.Ok S):2 ≤ X.p ∧ X.p ≤ 64:=by
 have:=h.sto.val.may
 unfold MayP at this
 rw [h.p];exact this.1
theorem StX.Ok.last {X:StX} {S:StoX} (h:X.Ok S) {n:Int} (hn:0 ≤ n ∧ n < X.p):∃ (r:RowX) (i:Nat) (x:PgX),X.H[n.toNat]? = some r ∧ r.xs.length = i + 1 ∧ r.xs[i]? = some x ∧ lastP X.had n = x.m ∧ 0 ≤ x.m.lsn ∧ x.m.lsn ≤ 10000:=by
 obtain ⟨l,hl,i,q,h1,h2,h3,h4,h5,h6⟩:=h.had.get hn
 unfold StX.had at hl
 rw [List.getElem?_map] at hl
 obtain ⟨r,hr,rfl⟩:=Option.map_eq_some_iff.1 hl
 unfold RowX.m at h1 h2
 rw [List.length_map] at h1
 rw [List.getElem?_map] at h2
 obtain ⟨x,hx,rfl⟩:=Option.map_eq_some_iff.1 h2
 exact ⟨r,i,x,hr,h1,hx,h3,h5,h6⟩
theorem qlast_spec {W:World} {R:HProp} {b:Nat} {X:StX} {n:Int} {r:RowX} {i:Nat} {x:PgX} (hn:0 ≤ n) (hr:X.H[n.toNat]? = some r) (hi:r.xs.length = i + 1) (hx:r.xs[i]? = some x) (hl:r.xs.length ≤ 1000000000) :
  Does prog W f_z1f ⟨[ptr b,.int .i64 n]⟩ (storec b X•R) (Ret fun v G=>v = pgv x ∧ G = (storec b X•R)):=by
 have hlt:n.toNat < X.H.length:=by
  rcases Nat.lt_or_ge n.toNat X.H.length with h|h
  ·exact h
  ·rw [List.getElem?_eq_none h] at hr;cases hr
 have hm:=List.mem_of_getElem? hr
 haveI c1:RowC W (storec b X•R) X.ha 1 rowxv X.H:=rowH
 haveI c2:RowC W (storec b X•R) r.a 4 PgX.cells r.xs:=rowP hm
 obtain ⟨xp,xlg,xf,xd,xl,xq,xa,xc,xH,ya,yc,xE⟩:=X
 obtain ⟨ra,rcap,rxs⟩:=r
 dsimp only at hr hi hx hl hlt hm c1 c2
 refine f_z1f.does _ _ ?_
 conv=>whnf
 repeat' (first
  | ((first|refine Ld.i ?_|refine LdN.i ?_|refine St.i ⟨rfl,rfl⟩ (List.cons_ne_nil _ _) ?_);conv=>whnf)
  | (intro blk hblk;conv=>whnf)
  | (refine IxS.r (xs:=xH) (i:=n.toNat) (by omega) rfl hlt (fun ab off ha=>?_);cases ha;conv=>whnf)
  | (refine Ld.r0 (xs:=xH) hr rfl ?_;conv=>whnf)
  | (refine Ar.i64 (by dsimp only;omega) ?_;conv=>whnf)
  | (refine IxS.r (xs:=rxs) (i:=i) (by dsimp only;omega) rfl (by omega) (fun ab off ha=>?_);cases ha;conv=>whnf)
  | (refine LdN.r (xs:=rxs) hx rfl ?_;conv=>whnf)
  | (refine DrawK.introH tab_ok mixed 5 f_z1f.last1 f_z1f.plan1 _ rfl (by kernel_rfl) (Sub.of (by first|exact .refl _|exact .drop|exact .fin|((repeat refine .pick ?_);first|exact .refl _|exact .emp _|exact .fin))) ?_;conv=>whnf))
 refine Ret.eq rfl ?_
 first|exact .refl _|exact .drop|exact .fin|((repeat refine .pick ?_);first|exact .refl _|exact .emp _|exact .fin)
theorem ends_nil {W:World} {R:HProp} {b:Nat} {X:StX}:Does prog W f_zr ⟨[ptr b,.nilIface]⟩ (storec b X•R) (Ret fun v G=>v = .bool false ∧ G = (storec b X•R)):=by
 refine f_zr.does _ _ ?_
 conv=>whnf
 skip
 refine Ret.eq rfl ?_
 first|exact .refl _|exact .drop|exact .fin|((repeat refine .pick ?_);first|exact .refl _|exact .emp _|exact .fin)
theorem ends_flt {W:World} {R:HProp} {b k:Nat} {X:StX} {S:StoX} {w:ByteArray} {z e:Int} [le:LaidE W] [oc:OldC W R] (he:e ≠ 0) (hd:S.P.d = X.d) :
  Does prog W f_zr ⟨[ptr b,.iface t_z5 (ptr k)]⟩ (fltc k w z e•stoo X.q S•storec b X•R) (Ret fun v G=>v = .bool (downE e S.val) ∧ G = (fltc k w z e•stoo X.q S•storec b X•R)):=by
 unfold downE
 refine f_zr.does _ _ ?_
 conv=>whnf
 by_cases c:e = 40
 ·subst c
  repeat' (first
   | (refine CallK.ret f_zx.ok (code_fault (e:=40)) ?_;rintro v G ⟨rfl,rfl⟩;conv=>whnf)
   | (refine CallK.ret f_ze.ok qnum_spec ?_;rintro v G ⟨rfl,rfl⟩;conv=>whnf)
   | (refine Ld.i ?_;conv=>whnf))
  refine CallK.ret f_zz.ok (sdown_spec (p:=X.q) (S:=S) hd) ?_
  rintro v G ⟨rfl,rfl⟩
  conv=>whnf
  skip
  refine ⟨_,_,rfl,?_,?_,rfl⟩
  ·first|exact .refl _|exact .drop|exact .fin|((repeat refine .pick ?_);first|exact .refl _|exact .emp _|exact .fin)
  ·rfl
 ·rw [decide_eq_false c]
  repeat' (first
   | (refine CallK.ret f_zx.ok (code_fault (e:=e)) ?_;rintro v G ⟨rfl,rfl⟩;conv=>whnf)
   | (refine CallK.ret f_ze.ok qnum_spec ?_;rintro v G ⟨rfl,rfl⟩;conv=>whnf)
   | (rw [decide_eq_false c];conv=>whnf))
  refine Ret.eq rfl ?_
  first|exact .refl _|exact .drop|exact .fin|((repeat refine .pick ?_);first|exact .refl _|exact .emp _|exact .fin)
end Go.Proofs.YtbcedpankkdfoaaGreatDoor
/- The log under the law's store, whatever has ended it: Append of a Begin, Force; walked. Conditions: in each statement. -/
namespace Go.Proofs.YtbcedpankkdfoaaGreatDoor
open Go Go.SL Go.SL.Sec Go.SL.Fld Go.SL.Pts Go.SL.Rec Go.SL.Twn Go.SL.Pg Go.SL.Mst Go.SL.Pool
theorem sbegE_spec {W:World} {R:HProp} {p l:Nat} {S:StoX} {t:Int} (hl:S.P.l = l) (hS:S.Ok) (ht:1 ≤ t ∧ t ≤ 1000000) :
  Does prog W f_zo ⟨[ptr l,recA (begR t)]⟩ (stoo p S•R) (Ret fun v G=>∃ S':StoX,S'.Ok ∧ S.Same S' ∧ S'.val = S.val.begE t ∧ G = (stoo p S'•R)):=by
 subst hl
 have ev:S.val.L.err = S.L.err.map (·.2):=rfl
 cases he:S.L.err with
 | none =>
  have h0:S.val.begE t = (S.val.beg t).2:=by
   unfold Sto.begE
   rw [ev,he];rfl
  rw [h0]
  refine (pbeg_spec hS he ht).post fun en w H' hs hQ=>?_
  obtain ⟨v,G,h1,h2,S',k1,k2,k3,_,rfl⟩:=hQ
  exact ⟨H',hs,v,_,h1,h2,S',k1,k2,k3,rfl⟩
 | some o =>
  obtain ⟨b,z,e⟩:=o
  have h0:S.val.begE t = S.val:=by
   unfold Sto.begE
   rw [ev,he];rfl
  rw [h0,stoo_eq,star_left_comm (poolo p S.P)]
  refine (append_down (X:=S.L) he).post fun en w H' hs hQ=>?_
  obtain ⟨v,G,h1,h2,_,rfl⟩:=hQ
  exact ⟨H',hs,v,_,h1,h2,S,hS,.refl S,rfl,((stoo_eq p S R).trans (star_left_comm _ _ _)).symm⟩
theorem sforce_spec {W:World} {R:HProp} {p l:Nat} {S:StoX} {n:Int} (hl:S.P.l = l) (hS:S.Ok) :
  Does prog W f_z4 ⟨[ptr l,.int .i64 n]⟩ (stoo p S•R) (Ret fun v G=>∃ S':StoX,S'.Ok ∧ S.Same S' ∧ S'.val = (S.val.force n).2 ∧ G = (stoo p S'•R)):=by
 subst hl
 have hmay:=hS.val.may
 unfold MayP at hmay
 have hfi:=hS.val.first
 have hcn:=hS.val.cnt
 have hse:=hS.val.secs
 have hpp:S.val.P.pages = S.P.pages:=rfl
 have hff:S.val.L.first = S.L.first:=rfl
 have r1:=force_ok (L:=S.val.L) (D:=S.val.D) n hS.val.dok hS.val.q (by rw [hfi];omega) (by omega) hS.val.log
 refine Does.imp (H':=logo S.P.l S.L•devo S.P.d S.D•poolo p S.P•R) (by rw [stoo_eq,star_left_comm (poolo p S.P)];exact Imp.right (by rw [star_left_comm (poolo p S.P)];exact Imp.refl _)) ?_
 refine (pforce_spec hS.L hS.D (by rw [hS.ps];omega) hS.ld (by omega) n).post fun en w H' hs hQ=>?_
 obtain ⟨v,G,h1,h2,L1,D1,J,hL1d,hL1,hD1,hL1v,hD1v,hJ,hEr,rfl⟩:=hQ
 have hov:=hS.val.over r1.first r1.count r1.recs r1.log r1.dok r1.q r1.len
 have hv:(⟨S.P,L1,D1⟩:StoX).val = (S.val.force n).2:=by
  show (⟨S.P.val,L1.val,D1.val⟩:Sto) = _
  rw [hL1v,hD1v];rfl
 refine ⟨H',hs,v,_,h1,Imp.trans h2 ?_,⟨S.P,L1,D1⟩,⟨by rw [hv];exact hov,hL1,hD1,hL1d.trans hS.ld⟩,⟨rfl,rfl⟩,hv,rfl⟩
 rw [stoo_eq]
 have hJ':Imp J (poolo p S.P•R):=by
  rcases hJ with rfl|⟨_,_,rfl⟩
  ·exact Imp.refl _
  ·exact Imp.drop
 refine Imp.trans (Q:=logo S.P.l L1•devo S.P.d D1•poolo p S.P•R) (Imp.right (Imp.right hJ')) ?_
 first|exact .refl _|exact .drop|exact .fin|((repeat refine .pick ?_);first|exact .refl _|exact .emp _|exact .fin)
end Go.Proofs.YtbcedpankkdfoaaGreatDoor
