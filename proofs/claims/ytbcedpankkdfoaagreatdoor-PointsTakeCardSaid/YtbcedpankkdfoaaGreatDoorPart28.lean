/- The law's first line, walked. Conditions: in each statement. -/
import Derived.Test.YtbcedpankkdfoaaGreatDoorPart27
import Derived.Test.YtbcedpankkdfoaaGreatDoorPart26
import Derived.Test.YtbcedpankkdfoaaGreatDoorPart10
set_option linter.unusedVariables false
set_option linter.unusedSimpArgs false
namespace Go.Proofs.YtbcedpankkdfoaaGreatDoor
open Go Go.SL Go.SL.Sec Go.SL.Fld Go.SL.Pts Go.SL.Rec Go.SL.Twn Go.SL.Pg Go.SL.Mst Go.SL.Pool
theorem sortI_of {l:List Int} (h:l.Pairwise fun a b=>leI a b = true):sortI l = l:=List.mergeSort_of_pairwise h
theorem StoX.keys {S:StoX} {T:Sto} {P:PoolM} (h:S.val = T) (k:T.P = P):S.P.held.map (·.1) = P.held.map (·.1):=by
 rw [← k,← h]
 exact (mapv_keys _ _).symm
theorem qnum_spec {W:World} {H:HProp} {e:Int}:Does prog W f_z2i ⟨[.int .i64 e]⟩ H (Ret fun v G=>v = .int .i64 e ∧ G = H):=by
 refine f_z2i.does _ ?_
 conv=>whnf
 skip
 refine Ret.eq rfl ?_
 first|exact .refl _|exact .drop|exact .fin|((repeat refine .pick ?_);first|exact .refl _|exact .emp _|exact .fin)
theorem StoX.errn {S:StoX} {T:Sto} (h:S.val = T) (k:T.L.err = none):S.L.err = none:=by
 have e:S.val.L.err = S.L.err.map (·.2):=rfl
 rw [h,k] at e
 exact Option.map_eq_none_iff.1 e.symm
set_option maxHeartbeats 4000000 in
theorem awake_spec {W:World} {R:HProp} [le:LaidE W] [lc:LaidC W] [lp:LaidP W] [oc:OldC W R]:Does prog W f_z46 ⟨[]⟩ R (Ret fun v G=>v = .bool true ∧ G = R):=by
 have hm:MayP 3 4 2:=by unfold MayP;decide
 obtain ⟨T1,T2,T3,T4,T5,T6,e1,p1,e2,p2,e3,p3,e4,p4,e5,p5,f5',e6,p6,e7⟩:=awake_run
 refine f_z46.does ?_
 conv=>whnf
 repeat' (first
  | (refine St.i ⟨rfl,rfl⟩ (List.cons_ne_nil _ _) ?_;conv=>whnf)
  | (intro blk hblk;conv=>whnf))
 refine CallK.ret f_z34.ok (new_yes (n:=15) (by decide)) ?_
 rintro v G ⟨d,a,c,hc,rfl,rfl⟩
 obtain ⟨t1,ht1⟩:∃ t1,t1 = blk:=⟨_,rfl⟩
 rw [← ht1]
 have hXok:(freshX a c (List.replicate ((15:Int) * 512).toNat 0)).Ok:=fresh_ok (by rw [List.length_replicate];decide) (by rw [List.length_replicate];decide) (Byt.rep _) hc
 obtain ⟨X,hX⟩:∃ X,X = freshX a c (List.replicate ((15:Int) * 512).toNat 0):=⟨_,rfl⟩
 have hXv:X.val = zeroD 15:=by rw [hX];rfl
 have hXd:X.down = false:=by rw [hX];rfl
 have hXp:X.ps = []:=by rw [hX];rfl
 rw [← hX] at hXok ⊢
 have hop:openF X.val 11 4 = ((0,0),⟨11,4,[],[],0,none⟩,zeroD 15):=by rw [hXv];exact openF_zero (fun i hi=>by omega)
 conv=>whnf
 repeat' (first
  | (refine CallK.ret f_z2i.ok qnum_spec ?_;rintro v G ⟨rfl,rfl⟩;conv=>whnf))
 refine CallK.ret f_log_Open.ok (open_spec (X:=X) (first:=11) (n:=4) hXok hXd hXp (by decide) (by decide) (by rw [hXv,zeroD_secs (by decide)];decide)) ?_
 rw [hop]
 rintro v G ⟨L,Y,hLd,hY,hLv,hLok,hYv,hYp,⟨h0,l,rfl,rfl⟩|⟨h0,_⟩⟩
 rotate_left
 ·exact absurd rfl h0
 conv=>whnf
 repeat' (first
  | (refine LdN.i ?_;conv=>whnf))
 refine CallK.imp (H':=devo d Y•logo l L•pts t1 (.cells ⟨[.int .i64 3,.int .i64 4,.int .i64 2]⟩ t_api_Shape)•R) (by first|exact .refl _|exact .drop|exact .fin|((repeat refine .pick ?_);first|exact .refl _|exact .emp _|exact .fin)) ?_
 refine CallK.ret f_z27.ok (pnew_spec (X:=Y) (p:=3) (lg:=4) (f:=2) hY hm (by rw [hYv];exact zeroD_secs (by decide))) ?_
 rintro v G ⟨p,r,rfl,rfl⟩
 obtain ⟨S,hS⟩:∃ S:StoX,S = ⟨pool0 d l 3 4 2 r,L,Y⟩:=⟨_,rfl⟩
 have hSv:S.val = sto0 3 4 2:=by rw [hS];show (⟨_,L.val,Y.val⟩:Sto) = _;rw [hLv,hYv];rfl
 have hSl:S.P.l = l:=by rw [hS]
 have hSok:S.Ok:=by rw [hS] at hSv ⊢;exact ⟨by rw [hSv];exact ok0 hm,hLok rfl,hY,hLd⟩
 conv=>whnf
 repeat' (first
  | (refine CallK.ret f_z27.ok pnew_nil ?_;rintro v G ⟨rfl,rfl⟩;conv=>whnf)
  | (refine LdN.i ?_;conv=>whnf)
  | (refine CallK.ret f_z2i.ok qnum_spec ?_;rintro v G ⟨rfl,rfl⟩;conv=>whnf))
 refine CallK.imp (H':=stoo p S•R) ?_ ?_
 ·refine Imp.stoo (l:=l) (d:=d) hSl (by rw [hS]) ?_
  rw [hS]
  first|exact .refl _|exact .drop|exact .fin|((repeat refine .pick ?_);first|exact .refl _|exact .emp _|exact .fin)
 have hb1:(S.val.beg 1).1 = 0:=by rw [hSv,e1]
 have hb2:(S.val.beg 1).2 = T1:=by rw [hSv,e1]
 have hr0:(S.L.recs.length:Int) = 0:=by
  have h1:S.L.val.recs.length = S.L.recs.length:=List.length_map ..
  have h2:S.L.val = (sto0 3 4 2).L:=congrArg Sto.L hSv
  rw [h2] at h1
  exact_mod_cast h1.symm
 refine CallK.ret f_za.ok (sbeg_spec (p:=p) (b:=1) hSl hSok (StoX.errn hSv rfl) (by decide)) ?_
 rw [hb1,hb2,if_pos rfl,hr0]
 rintro v G ⟨S1,k1,m1,v1,rfl,rfl⟩
 conv=>whnf
 skip
 have c1:S1.P.clock = 0:=by have:=congrArg (fun T:Sto=>T.P.clock) v1;rw [p1] at this;exact this
 refine CallK.ret f_z1v.ok (sget_spec (S:=S1) k1 (by rw [c1];decide)) ?_
 rw [v1,e2]
 rintro v G ⟨S2,k2,m2,v2,⟨_,f2,⟨x2,ca2,cc2,ga2,gc2⟩,hl2,hx2,rfl,rfl⟩|⟨h0,_⟩⟩
 rotate_left
 ·exact absurd rfl h0
 have hf2:f2.pg.m = last0 0:=by
  have h1:=look_val hl2
  have h2:S2.P.val = pA1:=by have:=congrArg Sto.P v2;rw [← p2];exact this
  rw [h2] at h1
  exact (congrArg FrM.pg (Option.some.inj h1)).symm
 dsimp only at hx2
 rw [hf2] at hx2
 subst hx2
 have c2:S2.P.clock = 1:=by have:=congrArg (fun T:Sto=>T.P.clock) v2;rw [p2] at this;exact this
 haveI rg:∀ (b:Nat) (Q:HProp),RowN W (pts b (.cells ⟨[.int .i64 5,.int .i64 (-3)]⟩ t_api_Group)•Q) (some ⟨b,0,none⟩) 1 2 grpv [⟨5,-3⟩]:=fun b Q=>⟨RowC.pts SizedC.h _ rfl,rfl⟩
 have hz:∀ (Q:HProp),RowN W Q none 0 5 cntv []:=fun Q=>⟨⟨fun w hs i x hx=>by cases hx⟩,rfl⟩
 conv=>whnf
 repeat' (first
  | (refine CallK.ret f_z2i.ok qnum_spec ?_;rintro v G ⟨rfl,rfl⟩;conv=>whnf)
  | ((first|refine Ld.i ?_|refine St.i ⟨rfl,rfl⟩ (List.cons_ne_nil _ _) ?_);conv=>whnf)
  | (intro blk hblk;conv=>whnf))
 have v2':S2.val = T2:=v2
 refine CallK.ret f_z1p.ok (sput_spec (S:=S2) (num:=0) (lsn:=1) (C:=[]) (G:=[⟨5,-3⟩]) (by decide) (by decide) k2 ⟨by unfold In64;decide,by unfold In64;decide,fun c hc=>(by cases hc),fun c hc=>by cases List.mem_singleton.1 hc;unfold GrpIn In64;decide⟩ (by rw [c2];decide)) ?_
 rw [v2',show (⟨0,1,[],[⟨5,-3⟩]⟩:PgM) = xA from rfl,e3]
 rintro v G ⟨S3,k3,m3,v3,⟨_,rfl,rfl⟩|⟨h0,_⟩⟩
 rotate_left
 ·exact absurd rfl h0
 have v3':S3.val = T3:=v3
 conv=>whnf
 skip
 have d3:S3.val.P.dirtyL (sortI (S3.P.held.map (·.1))) = [(0,1)]:=by
  rw [StoX.keys v3' p3,v3',p3]
  show PoolM.dirtyL pA2 (sortI [0]) = _
  rw [sortI_of (by decide)]
  rfl
 refine CallK.ret f_z1o.ok (sdirty_spec (S:=S3) k3) ?_
 rw [d3]
 rintro v G ⟨da,dc,rfl,rfl⟩
 conv=>whnf
 skip
 have c3:S3.P.clock = 2:=by have:=congrArg (fun T:Sto=>T.P.clock) v3';rw [p3] at this;exact this
 refine CallK.ret f_z1v.ok (sget_spec (S:=S3) k3 (by rw [c3];decide)) ?_
 rw [v3',e4]
 rintro v G ⟨S4,k4,m4,v4,⟨_,f4,x4,hl4,hx4,rfl,rfl⟩|⟨h0,_⟩⟩
 rotate_left
 ·exact absurd rfl h0
 have v4':S4.val = T4:=v4
 conv=>whnf
 skip
 have c4:S4.P.clock = 3:=by have:=congrArg (fun T:Sto=>T.P.clock) v4';rw [p4] at this;exact this
 refine CallK.ret f_z1v.ok (sget_spec (S:=S4) k4 (by rw [c4];decide)) ?_
 rw [v4',e5]
 rintro v G ⟨S5,k5,m5,v5,⟨_,f5,x5,hl5,hx5,rfl,rfl⟩|⟨h0,_⟩⟩
 rotate_left
 ·exact absurd rfl h0
 have v5':S5.val = T5:=v5
 have hk5:S5.P.held.map (·.1) = [1,2]:=StoX.keys v5' p5
 have hn5:S5.P.held.length = 2:=by have:=congrArg List.length hk5;simpa using this
 have hs5:sortI [1,2] = [1,2]:=sortI_of (by decide)
 conv=>whnf
 repeat' (first
  | (refine St.i ⟨rfl,rfl⟩ (List.cons_ne_nil _ _) ?_;conv=>whnf)
  | (intro blk hblk;conv=>whnf))
 refine CallK.ret f_z2j.ok (sheld_spec (S:=S5) k5) ?_
 rw [hk5,hn5,hs5]
 rintro v G ⟨ha,hcc,rfl,rfl⟩
 conv=>whnf
 skip
 refine CallK.ret f_z2j.ok (sheld_spec (S:=S5) k5) ?_
 rw [hk5,hn5,hs5]
 rintro v G ⟨hb,hcb,rfl,rfl⟩
 conv=>whnf
 repeat' (first
  | (refine IxS.r (xs:=([1,2]:List Int)) (i:=0) rfl rfl (by decide) (fun ab off ha=>?_);subst ha;conv=>whnf)
  | (refine Ld.r0 (xs:=([1,2]:List Int)) (i:=0) (x:=1) rfl rfl ?_;conv=>whnf))
 have d5:S5.val.P.dirtyL (sortI (S5.P.held.map (·.1))) = []:=by
  rw [hk5,hs5,v5',p5]
  rfl
 refine CallK.ret f_z1o.ok (sdirty_spec (S:=S5) k5) ?_
 rw [d5]
 rintro v G ⟨db,dcb,rfl,rfl⟩
 conv=>whnf
 skip
 have hF:S5.L.forced = 1:=by have:=congrArg (fun T:Sto=>T.L.forced) v5';rw [f5'] at this;exact this
 have hl5':S5.P.l = l:=by rw [m5.l,m4.l,m3.l,m2.l,m1.l];exact hSl
 refine CallK.ret f_z35.ok (sforced_spec (p:=p) (S:=S5) hl5') ?_
 rw [hF]
 rintro v G ⟨rfl,rfl⟩
 conv=>whnf
 skip
 have c5:S5.P.clock = 4:=by have:=congrArg (fun T:Sto=>T.P.clock) v5';rw [p5] at this;exact this
 refine CallK.ret f_z1v.ok (sget_spec (S:=S5) k5 (by rw [c5];decide)) ?_
 rw [v5',e6]
 rintro v G ⟨S6,k6,m6,v6,⟨_,f6,⟨x6,ca6,cc6,ga6,gc6⟩,hl6,hx6,rfl,rfl⟩|⟨h0,_⟩⟩
 rotate_left
 ·exact absurd rfl h0
 have v6':S6.val = T6:=v6
 have hf6:f6.val = ⟨xA,0,false,0,5⟩:=by
  have h1:=look_val hl6
  have h2:S6.P.val = pA5:=by have:=congrArg Sto.P v6';rw [← p6];exact this
  rw [h2] at h1
  exact (Option.some.inj h1).symm
 have hm6:f6.pg.m = xA:=congrArg FrM.pg hf6
 have hp6:f6.pins = 0:=congrArg FrM.pins hf6
 dsimp only at hx6
 rw [hm6] at hx6
 subst hx6
 rw [pgc_eq]
 have hg0:([⟨5,-3⟩]:List GrpV)[0]? = some ⟨5,-3⟩:=rfl
 haveI rg6:∀ (R':HProp),RowC W (vec t_api_Group 2 grpv ga6 gc6 xA.G•R') ga6 2 grpv [⟨5,-3⟩]:=fun R'=>inferInstanceAs (RowC W (vec t_api_Group 2 grpv ga6 gc6 [⟨5,-3⟩]•R') ga6 2 grpv [⟨5,-3⟩])
 conv=>whnf
 repeat' (first
  | ((first|refine Ld.i ?_|refine St.i ⟨rfl,rfl⟩ (List.cons_ne_nil _ _) ?_);conv=>whnf)
  | (refine IxS.r (xs:=([⟨5,-3⟩]:List GrpV)) (i:=0) rfl rfl (by decide) (fun ab off ha=>?_);cases ha;conv=>whnf)
  | (refine Ld.r hg0 rfl ?_;conv=>whnf))
 refine CallK.ret f_z32.ok (sunpin_spec (S:=S6) k6 (fun f hf=>by rw [hl6] at hf;cases hf;rw [hp6];decide)) ?_
 rw [v6',e7]
 rintro v G ⟨S7,k7,m7,v7,rfl,rfl⟩
 conv=>whnf
 repeat' (first
  | (refine CallK.ret f_z2i.ok qnum_spec ?_;rintro v G ⟨rfl,rfl⟩;conv=>whnf))
 exact ⟨_,_,rfl,(by first|exact .refl _|exact .drop|exact .fin|((repeat refine .pick ?_);first|exact .refl _|exact .emp _|exact .fin)),rfl,rfl⟩
end Go.Proofs.YtbcedpankkdfoaaGreatDoor
/- The law's store in plain words: right pages made of any, each call; bounds that all calls keep. Conditions: in each statement. -/
namespace Go.SL.Pool
open Go Go.SL Go.SL.Sec Go.SL.Fld Go.SL.Rec Go.SL.Twn Go.SL.Pg Go.SL.Mst
def pickI (n lo hi:Int):Int:=lo + n % (hi - lo + 1)
def madeC (c:CntV):CntV:=⟨pickI c.id 1 1048576,pickI c.grp 1 1048576,if c.lo > c.hi then c.hi else c.lo,if c.lo > c.hi then c.lo else c.hi,c.val⟩
def madeG (g:GrpV):GrpV:=⟨pickI g.id 1 1048576,g.sum⟩
def madeP (p:PgM):PgM :=
 let C:=(p.C.take 31).map madeC
 let G:=if C.length = 0 then (p.G.take 84).map madeG else []
 ⟨pickI p.num 0 63,if C.length + G.length > 0 then pickI p.lsn 1 2147483647 else 0,C,G⟩
structure OpM where
 kind:Int
 n:Int
 a:Int
 pg:PgM
def putP (o:OpM) (n:Int) (last:PgM):PgM :=
 ⟨n,last.lsn + 1 + o.a % 3,(madeP o.pg).C,if (madeP o.pg).C.length + (madeP o.pg).G.length = 0 then [⟨1,o.a⟩] else (madeP o.pg).G⟩
structure StM where
 S:Sto
 had:List (List PgM)
 done:List Int
def lastP (h:List (List PgM)) (n:Int):PgM:=match h[n.toNat]? with
 | some l=>l.getLastD (last0 n)
 | none=>last0 n
def downE (e:Int) (S:Sto):Bool:=decide (e = 40) && S.D.down
def StM.puts (X:StM) (o:OpM):Bool × StM :=
 let n:=o.n % X.S.P.pages
 let g:=X.S.get n
 if g.1 ≠ 0 then (downE g.1 g.2 || decide (g.1 = 6),{ X with S:=g.2 }) else
 let p:=putP o n (lastP X.had n)
 let r:=g.2.put p
 if p.lsn > r.2.L.recs.length then (decide (r.1 = 4) || downE r.1 r.2,{ X with S:=r.2 }) else
 if r.1 ≠ 0 then (false,{ X with S:=r.2 }) else (true,{ X with S:=r.2,had:=X.had.set n.toNat ((X.had[n.toNat]?).getD [] ++ [p]) })
def StM.gets (X:StM) (o:OpM):Bool × StM :=
 let n:=o.n % X.S.P.pages
 let g:=X.S.get n
 if g.1 ≠ 0 then (downE g.1 g.2 || decide (g.1 = 6),{ X with S:=g.2 }) else
 (decide ((g.2.P.held.lookup n).map (·.pg) = some (lastP X.had n)),{ X with S:=g.2 })
def StM.pins (X:StM) (o:OpM):Bool × StM :=
 let r:=X.S.pin (o.n % X.S.P.pages)
 (decide (r.1 = 0) || downE r.1 r.2 || decide (r.1 = 6),{ X with S:=r.2 })
def StM.outs (X:StM) (n:Int) (r:Int × Sto):Bool × StM :=
 (decide (r.1 = 0) || downE r.1 r.2 || decide (r.1 = 100) || decide (r.1 = 101),{ X with S:=r.2,done:=if r.1 = 0 then X.done.set n.toNat (lastP X.had n).lsn else X.done })
def Sto.begE (S:Sto) (t:Int):Sto:=if S.L.err.isSome then S else (S.beg t).2
def StM.play (X:StM) (o:OpM):Bool × StM :=
 if o.kind = 1 then X.gets o else if o.kind = 3 then X.pins o else if o.kind = 2 then X.puts o else
 if o.kind = 4 then (true,{ X with S:=(X.S.unpin (o.n % X.S.P.pages)).2 }) else
 if o.kind = 5 then X.outs (o.n % X.S.P.pages) (X.S.evict (o.n % X.S.P.pages)) else
 if o.kind = 6 then X.outs (o.n % X.S.P.pages) (X.S.flush (o.n % X.S.P.pages)) else
 if o.kind = 8 then (true,{ X with S:=X.S.begE (1 + o.a % 1000) }) else
 if o.kind = 9 then (true,{ X with S:=(X.S.force (o.a % (X.S.L.recs.length + 1))).2 }) else (true,X)
/-! ### What Made makes -/
theorem pick_bd {n lo hi:Int} (h:lo ≤ hi):lo ≤ pickI n lo hi ∧ pickI n lo hi ≤ hi:=by
 unfold pickI
 have h1:=Int.emod_nonneg n (show hi - lo + 1 ≠ 0 by omega)
 have h2:=Int.emod_lt_of_pos n (show 0 < hi - lo + 1 by omega)
 omega
theorem firstF_zero {α:Type} {f:α → Int}:∀ {l:List α},(∀ x ∈ l,f x = 0) → firstF f l = 0
 | [],_=>rfl
 | x :: l,h=>by
  unfold firstF
  rw [if_neg (fun k=>k (h x List.mem_cons_self))]
  exact firstF_zero fun y hy=>h y (List.mem_cons_of_mem _ hy)
theorem madeC_ok (c:CntV):cntF (madeC c) = 0:=by
 unfold cntF madeC
 have h1:=pick_bd (n:=c.id) (show (1:Int) ≤ 1048576 by decide)
 have h2:=pick_bd (n:=c.grp) (show (1:Int) ≤ 1048576 by decide)
 dsimp only
 rw [if_neg (fun k=>k ⟨h1,h2⟩),if_neg]
 by_cases c':c.lo > c.hi
 ·rw [if_pos c',if_pos c'];omega
 ·rw [if_neg c',if_neg c'];omega
theorem madeG_ok (g:GrpV):grpF (madeG g) = 0:=by
 unfold grpF madeG
 exact if_neg (fun k=>k (pick_bd (by decide)))
theorem cont_zero {C:List CntV} {G:List GrpV} (h:∀ c ∈ C,cntF c = 0) (k:∀ g ∈ G,grpF g = 0):contF C G = 0:=by
 unfold contF
 rw [firstF_zero h,if_neg (fun k=>k rfl),firstF_zero k]
theorem madeP_C (p:PgM):(madeP p).C = (p.C.take 31).map madeC:=rfl
theorem madeP_G (p:PgM):(madeP p).G = if (madeP p).C.length = 0 then (p.G.take 84).map madeG else []:=rfl
theorem madeC_in {c:CntV} (h:CntIn c):CntIn (madeC c):=by
 obtain ⟨h1,h2,h3,h4,h5⟩:=h
 have k1:=pick_bd (n:=c.id) (show (1:Int) ≤ 1048576 by decide)
 have k2:=pick_bd (n:=c.grp) (show (1:Int) ≤ 1048576 by decide)
 unfold madeC
 refine ⟨by unfold In64;dsimp only;omega,by unfold In64;dsimp only;omega,?_,?_,h5⟩
 ·dsimp only;split
  ·exact h4
  ·exact h3
 ·dsimp only;split
  ·exact h3
  ·exact h4
theorem madeG_in {g:GrpV} (h:GrpIn g):GrpIn (madeG g):=by
 have k1:=pick_bd (n:=g.id) (show (1:Int) ≤ 1048576 by decide)
 unfold madeG
 exact ⟨by unfold In64;dsimp only;omega,h.2⟩
theorem madeP_len (p:PgM):(madeP p).C.length ≤ 31 ∧ (madeP p).G.length ≤ 84 ∧ ((madeP p).C.length = 0 ∨ (madeP p).G.length = 0):=by
 have h1:(madeP p).C.length ≤ 31:=by rw [madeP_C,List.length_map,List.length_take];omega
 rw [madeP_G]
 refine ⟨h1,?_,?_⟩
 ·split
  ·rw [List.length_map,List.length_take];omega
  ·exact Nat.zero_le _
 ·split
  ·rename_i c;exact .inl c
  ·exact .inr rfl
theorem putP_G (o:OpM) (n:Int) (l:PgM):(putP o n l).G = if (madeP o.pg).C.length + (madeP o.pg).G.length = 0 then [⟨1,o.a⟩] else (madeP o.pg).G:=rfl
theorem putP_bd (o:OpM) (n:Int) (l:PgM):(putP o n l).C.length ≤ 31 ∧ (putP o n l).G.length ≤ 84 ∧ ((putP o n l).C.length = 0 ∨ (putP o n l).G.length = 0) ∧ (putP o n l).C.length + (putP o n l).G.length ≠ 0 ∧ l.lsn < (putP o n l).lsn ∧ (putP o n l).lsn ≤ l.lsn + 3:=by
 obtain ⟨h1,h2,h3⟩:=madeP_len o.pg
 have e1:(putP o n l).C = (madeP o.pg).C:=rfl
 have e2:(putP o n l).lsn = l.lsn + 1 + o.a % 3:=rfl
 rw [putP_G,e1,e2]
 refine ⟨h1,?_,?_,?_,by omega,by omega⟩
 ·split
  ·simp
  ·exact h2
 ·split
  ·left;omega
  ·exact h3
 ·split
  ·simp
  ·omega
theorem putP_fault (o:OpM) {n:Int} {l:PgM} (hn:0 ≤ n ∧ n ≤ 63) (hl:0 ≤ l.lsn ∧ l.lsn ≤ 10000):(putP o n l).fault = 0:=by
 obtain ⟨h1,h2,h3,h4,h5,h6⟩:=putP_bd o n l
 have e0:(putP o n l).num = n:=rfl
 have hc:contF (putP o n l).C (putP o n l).G = 0:=by
  refine cont_zero (fun c hc=>?_) fun g hg=>?_
  ·obtain ⟨x,_,rfl⟩:=List.mem_map.1 (show c ∈ (o.pg.C.take 31).map madeC from hc)
   exact madeC_ok x
  ·rw [putP_G] at hg
   split at hg
   ·cases List.mem_singleton.1 hg;rfl
   ·rw [madeP_G] at hg
    split at hg
    ·obtain ⟨x,_,rfl⟩:=List.mem_map.1 hg
     exact madeG_ok x
    ·cases hg
 unfold PgM.fault
 rw [if_neg (fun k=>k (by rw [e0];exact hn)),if_neg (by omega),if_neg (by omega),if_neg (by omega)]
 exact hc
theorem putP_in {o:OpM} {n:Int} {l:PgM} (hi:o.pg.In) (ha:In64 o.a) (hn:0 ≤ n ∧ n ≤ 63) (hl:0 ≤ l.lsn ∧ l.lsn ≤ 10000):(putP o n l).In:=by
 have e2:(putP o n l).lsn = l.lsn + 1 + o.a % 3:=rfl
 refine ⟨by show In64 n;unfold In64;omega,by rw [e2];unfold In64;omega,fun c hc=>?_,fun g hg=>?_⟩
 ·obtain ⟨x,hx,rfl⟩:=List.mem_map.1 (show c ∈ (o.pg.C.take 31).map madeC from hc)
  exact madeC_in (hi.C x (List.mem_of_mem_take hx))
 ·rw [putP_G] at hg
  split at hg
  ·cases List.mem_singleton.1 hg
   exact ⟨show In64 (1:Int) by unfold In64;decide,ha⟩
  ·rw [madeP_G] at hg
   split at hg
   ·obtain ⟨x,hx,rfl⟩:=List.mem_map.1 hg
    exact madeG_in (hi.G x (List.mem_of_mem_take hx))
   ·cases hg
/-! ### Bounds -/
structure Bd (p k c:Int) (S:Sto):Prop where
 pages:S.P.pages = p
 clock:0 ≤ S.P.clock ∧ S.P.clock ≤ c
 pins:∀ n f,S.P.held.lookup n = some f → 0 ≤ f.pins ∧ f.pins ≤ k
theorem Bd.up {p k c k' c':Int} {S:Sto} (h:Bd p k c S) (hk:k ≤ k') (hc:c ≤ c'):Bd p k' c' S :=
 ⟨h.pages,⟨h.clock.1,by have:=h.clock;omega⟩,fun n f hf=>by have:=h.pins n f hf;omega⟩
theorem Bd.lg {p k c:Int} {S:Sto} (h:Bd p k c S) (L:LogM) (D:Dev):Bd p k c ⟨S.P,L,D⟩:=⟨h.pages,h.clock,h.pins⟩
theorem Bd.ends {p k c:Int} {S:Sto} (h:Bd p k c S):Bd p k c S.ends:=⟨h.pages,h.clock,fun n f hf=>by cases hf⟩
theorem Bd.seen {p k c:Int} {S:Sto} (h:Bd p k c S) (e:Int):Bd p k c (S.seen e):=by unfold Sto.seen;split;exact h.ends;exact h
theorem Bd.fr {p k c:Int} {S:Sto} (h:Bd p k c S) {n:Int} {f:FrM} (hf:0 ≤ f.pins ∧ f.pins ≤ k):Bd p k c { S with P:=S.P.put n f } :=
 ⟨h.pages,h.clock,fun m g hg=>by
  have hg':(updKV n f S.P.held).lookup m = some g:=hg
  rw [updKV_lookup] at hg'
  split at hg'
  ·cases hg';exact hf
  ·exact h.pins m g hg'⟩
theorem Bd.us {p k c:Int} {S:Sto} (h:Bd p k c S) {n:Int} {f:FrM} (hf:0 ≤ f.pins ∧ f.pins ≤ k):Bd p k (c + 1) { S with P:=S.P.use n f } :=
 ⟨h.pages,by have:=h.clock;show 0 ≤ S.P.clock + 1 ∧ S.P.clock + 1 ≤ c + 1;omega,fun m g hg=>by
  have hg':(updKV n { f with used:=S.P.clock + 1 } S.P.held).lookup m = some g:=hg
  rw [updKV_lookup] at hg'
  split at hg'
  ·cases hg';exact hf
  ·exact h.pins m g hg'⟩
theorem Bd.del {p k c:Int} {S:Sto} (h:Bd p k c S) (n:Int):Bd p k c { S with P:=S.P.del n } :=
 ⟨h.pages,h.clock,fun m g hg=>by
  have hg':(delKV n S.P.held).lookup m = some g:=hg
  rw [delKV_lookup] at hg'
  split at hg'
  ·cases hg'
  ·exact h.pins m g hg'⟩
theorem Bd.write {p k c:Int} {S:Sto} (h:Bd p k c S) {n:Int} {f:FrM} (hf:0 ≤ f.pins ∧ f.pins ≤ k):Bd p k c (S.write n f).2:=by
 unfold Sto.write
 split
 ·exact h
 dsimp only
 split
 ·exact (h.lg _ _).seen _
 split
 ·exact (h.lg _ _).seen _
 ·exact (h.fr (n:=n) (f:={ f with dirty:=false,since:=0 }) hf).lg _ _
theorem Bd.leave {p k c:Int} {S:Sto} (h:Bd p k c S) {n:Int} {f:FrM} (hf:0 ≤ f.pins ∧ f.pins ≤ k):Bd p k c (S.leave n f).2:=by
 unfold Sto.leave
 split
 ·exact h.write hf
 ·exact (h.write hf).del n
theorem Bd.load {p k c:Int} {S:Sto} (h:Bd p k c S) (hk:0 ≤ k) (n:Int):Bd p k (c + 1) (S.load n).2:=by
 have h':=h.up (Int.le_refl k) (show c ≤ c + 1 by omega)
 unfold Sto.load
 split
 ·exact h'.ends
 dsimp only
 split
 ·exact h'
 ·exact h.us (f:=⟨_,0,false,0,0⟩) ⟨Int.le_refl _,hk⟩
theorem Bd.get {p k c:Int} {S:Sto} (h:Bd p k c S) (hk:0 ≤ k) (nd:(S.P.held.map (·.1)).Nodup) (n:Int):Bd p k (c + 1) (S.get n).2:=by
 have h':=h.up (Int.le_refl k) (show c ≤ c + 1 by omega)
 unfold Sto.get
 split
 ·exact h'
 cases hl:S.P.held.lookup n with
 | some f=>exact h.us (h.pins n f hl)
 | none =>
  dsimp only
  split
  ·cases ho:oldest S.P.held with
   | none=>exact h'
   | some o =>
    dsimp only
    have hp:=h.pins o.1 o.2 (lookup_of_mem o.1 o.2 _ nd (oldest_mem ho))
    split
    ·exact (h.leave hp).up (Int.le_refl _) (by omega)
    ·exact (h.leave hp).load hk n
  ·exact h.load hk n
theorem Bd.sput {p k c:Int} {S:Sto} (h:Bd p k c S) (x:PgM):Bd p k (c + 1) (S.put x).2:=by
 have h':=h.up (Int.le_refl k) (show c ≤ c + 1 by omega)
 unfold Sto.put
 split
 ·exact h'
 split
 ·exact h'
 cases hl:S.P.held.lookup x.num with
 | none=>exact h'
 | some f =>
  dsimp only
  split
  ·exact h'
  ·exact h.us (f:={ f with pg:=x,dirty:=true,since:=_ }) (h.pins _ f hl)
theorem Bd.pin {p k c:Int} {S:Sto} (h:Bd p k c S) (hk:0 ≤ k) (nd:(S.P.held.map (·.1)).Nodup) (n:Int):Bd p (k + 1) (c + 1) (S.pin n).2:=by
 have hg:=h.get hk nd n
 have hg':=hg.up (show k ≤ k + 1 by omega) (Int.le_refl (c + 1))
 unfold Sto.pin
 dsimp only
 split
 ·exact hg'
 cases hl:(S.get n).2.P.held.lookup n with
 | none=>exact hg'
 | some f =>
  have:=hg.pins n f hl
  exact hg'.fr (f:={ f with pins:=f.pins + 1 }) (by dsimp only;omega)
theorem Bd.unpin {p k c:Int} {S:Sto} (h:Bd p k c S) (n:Int):Bd p k c (S.unpin n).2:=by
 unfold Sto.unpin
 split
 ·exact h
 cases hl:S.P.held.lookup n with
 | none=>exact h
 | some f =>
  dsimp only
  split
  ·exact h
  ·have:=h.pins n f hl
   exact h.fr (f:={ f with pins:=f.pins - 1 }) (by dsimp only;omega)
theorem Bd.evict {p k c:Int} {S:Sto} (h:Bd p k c S) (n:Int):Bd p k c (S.evict n).2:=by
 unfold Sto.evict
 split
 ·exact h
 cases hl:S.P.held.lookup n with
 | none=>exact h
 | some f =>
  dsimp only
  split
  ·exact h
  ·exact h.leave (h.pins n f hl)
theorem Bd.flush {p k c:Int} {S:Sto} (h:Bd p k c S) (n:Int):Bd p k c (S.flush n).2:=by
 unfold Sto.flush
 split
 ·exact h
 cases hl:S.P.held.lookup n with
 | none=>exact h
 | some f=>exact h.write (h.pins n f hl)
theorem Bd.begE {p k c:Int} {S:Sto} (h:Bd p k c S) (t:Int):Bd p k c (S.begE t):=by
 unfold Sto.begE
 split
 ·exact h
 unfold Sto.beg
 split
 ·exact h
 ·exact ⟨h.pages,h.clock,h.pins⟩
theorem Bd.force {p k c:Int} {S:Sto} (h:Bd p k c S) (n:Int):Bd p k c (S.force n).2:=h.lg _ _
end Go.SL.Pool
/- The law's store over a disk that runs: every call is answered as it must be; plain words. Conditions: in each statement. -/
namespace Go.SL.Pool
open Go Go.SL Go.SL.Sec Go.SL.Fld Go.SL.Rec Go.SL.Twn Go.SL.Pg Go.SL.Mst
theorem Keeps.congr {S:Sto} {last last':Int → PgM} (K:Keeps S last) (h:∀ m,0 ≤ m ∧ m < S.P.pages → last m = last' m):Keeps S last' :=
 ⟨K.run,K.pages,K.calm,K.dok,K.secs,K.first,K.err,K.forced,K.recs,K.bys,K.nd,fun n f hf=>by
  obtain ⟨k1,k2,k3⟩:=K.key n f hf
  exact ⟨k1,k2.trans (h n k1),fun hd=>by rw [← h n k1];exact k3 hd⟩,fun n hn hno=>by rw [← h n hn];exact K.home n hn hno,fun n hn=>by rw [← h n hn];exact K.good n hn⟩
structure HadOk (p:Int) (had:List (List PgM)):Prop where
 len:(had.length:Int) = p
 row:∀ (i:Nat) l,had[i]? = some l → l ≠ [] ∧ ∀ q ∈ l,0 ≤ q.lsn ∧ q.lsn ≤ 10000
theorem HadOk.get {p:Int} {had:List (List PgM)} (h:HadOk p had) {n:Int} (hn:0 ≤ n ∧ n < p):∃ l,had[n.toNat]? = some l ∧ ∃ (i:Nat) (q:PgM),l.length = i + 1 ∧ l[i]? = some q ∧ lastP had n = q ∧ q ∈ l ∧ 0 ≤ q.lsn ∧ q.lsn ≤ 10000:=by
 have hlt:n.toNat < had.length:=by have:=h.len;omega
 refine ⟨had[n.toNat],List.getElem?_eq_getElem hlt,?_⟩
 obtain ⟨h1,h2⟩:=h.row n.toNat _ (List.getElem?_eq_getElem hlt)
 obtain ⟨l,hl⟩:∃ l,l = had[n.toNat]:=⟨_,rfl⟩
 rw [← hl] at h1 h2 ⊢
 have hm:=List.getLast_mem h1
 have hlen:0 < l.length:=List.length_pos_iff.2 h1
 refine ⟨l.length - 1,l.getLast h1,by omega,?_,?_,hm,h2 _ hm⟩
 ·rw [List.getLast_eq_getElem]
  exact List.getElem?_eq_getElem (by omega)
 ·unfold lastP
  rw [List.getElem?_eq_getElem hlt,← hl]
  dsimp only
  rw [List.getLastD_eq_getLast?,List.getLast?_eq_some_getLast h1]
  rfl
theorem HadOk.set {p:Int} {had:List (List PgM)} (h:HadOk p had) {n:Int} {q:PgM} (hq:0 ≤ q.lsn ∧ q.lsn ≤ 10000):HadOk p (had.set n.toNat ((had[n.toNat]?).getD [] ++ [q])):=by
 refine ⟨by rw [List.length_set];exact h.len,fun i l hl=>?_⟩
 rw [List.getElem?_set] at hl
 split at hl
 ·rename_i e
  split at hl
  ·rename_i hlt
   cases hl
   refine ⟨by simp,fun x hx=>?_⟩
   rcases List.mem_append.1 hx with k|k
   ·rw [List.getElem?_eq_getElem hlt] at k
    exact (h.row _ _ (List.getElem?_eq_getElem hlt)).2 x k
   ·cases List.mem_singleton.1 k;exact hq
  ·cases hl
 ·exact h.row i l hl
theorem lastP_set {p:Int} {had:List (List PgM)} (h:HadOk p had) {n m:Int} (hn:0 ≤ n ∧ n < p) (hm:0 ≤ m ∧ m < p) (q:PgM) :
  lastP (had.set n.toNat ((had[n.toNat]?).getD [] ++ [q])) m = if m = n then q else lastP had m:=by
 have hlt:n.toNat < had.length:=by have:=h.len;omega
 unfold lastP
 rw [List.getElem?_set]
 by_cases e:m = n
 ·subst e
  rw [if_pos rfl,if_pos hlt,if_pos rfl]
  dsimp only
  rw [List.getLastD_eq_getLast?,List.getLast?_append]
  rfl
 ·rw [if_neg (by omega),if_neg e]
structure KeepsO (X:StM):Prop where
 keeps:Keeps X.S (lastP X.had)
 had:HadOk X.S.P.pages X.had
 cnt:X.S.L.count ≤ 4096
theorem mod_bd {a p:Int} (h:0 < p):0 ≤ a % p ∧ a % p < p:=⟨Int.emod_nonneg a (by omega),Int.emod_lt_of_pos a h⟩
theorem KeepsO.gets {X:StM} (K:KeepsO X) (o:OpM):(X.gets o).1 = true ∧ KeepsO (X.gets o).2:=by
 have hp:=K.keeps.pages
 have hn:=mod_bd (a:=o.n) (show 0 < X.S.P.pages by omega)
 obtain ⟨h1,h2,h3,h4,h5⟩:=K.keeps.get hn
 unfold StM.gets
 dsimp only
 rcases h1 with h1|⟨h1,f,hf⟩
 ·rw [if_pos (by omega)]
  exact ⟨by dsimp only;rw [h1];simp,⟨h2,by dsimp only;rw [h5];exact K.had,by dsimp only;rw [h4];exact K.cnt⟩⟩
 ·rw [if_neg (by omega)]
  refine ⟨?_,⟨h2,by dsimp only;rw [h5];exact K.had,by dsimp only;rw [h4];exact K.cnt⟩⟩
  dsimp only
  rw [hf,decide_eq_true_eq]
  exact congrArg some (h2.key _ f hf).2.1
theorem KeepsO.puts {X:StM} (K:KeepsO X) {o:OpM} (hi:o.pg.In) (ha:In64 o.a):(X.puts o).1 = true ∧ KeepsO (X.puts o).2:=by
 have hp:=K.keeps.pages
 have hn:=mod_bd (a:=o.n) (show 0 < X.S.P.pages by omega)
 obtain ⟨h1,h2,h3,h4,h5⟩:=K.keeps.get hn
 unfold StM.puts
 dsimp only
 rcases h1 with h1|⟨h1,f,hf⟩
 ·rw [if_pos (by omega)]
  exact ⟨by dsimp only;rw [h1];simp,⟨h2,by dsimp only;rw [h5];exact K.had,by dsimp only;rw [h4];exact K.cnt⟩⟩
 ·rw [if_neg (by omega)]
  obtain ⟨l,_,i,q,_,_,hlast,_,hq1,hq2⟩:=K.had.get hn
  obtain ⟨b1,b2,b3,b4,b5,b6⟩:=putP_bd o (o.n % X.S.P.pages) (lastP X.had (o.n % X.S.P.pages))
  have hl0:0 ≤ (lastP X.had (o.n % X.S.P.pages)).lsn ∧ (lastP X.had (o.n % X.S.P.pages)).lsn ≤ 10000:=by rw [hlast];exact ⟨hq1,hq2⟩
  have hpu:=h2.puts (x:=putP o (o.n % X.S.P.pages) (lastP X.had (o.n % X.S.P.pages))) (f:=f) (by rw [h5];exact hn) hf (putP_fault o (by omega) hl0) (putP_in hi ha (by omega) hl0) b5
  by_cases c:(putP o (o.n % X.S.P.pages) (lastP X.had (o.n % X.S.P.pages))).lsn > (X.S.get (o.n % X.S.P.pages)).2.L.recs.length
  ·rw [if_pos c] at hpu
   rw [hpu,if_pos c]
   exact ⟨by simp,⟨h2,by dsimp only;rw [h5];exact K.had,by dsimp only;rw [h4];exact K.cnt⟩⟩
  ·rw [if_neg c] at hpu
   obtain ⟨p1,p2,p3,p4⟩:=hpu
   rw [if_neg (by rw [p3];exact c),if_neg (fun k=>k p1)]
   have hlsn:(putP o (o.n % X.S.P.pages) (lastP X.had (o.n % X.S.P.pages))).lsn ≤ 10000:=by
    have r1:=K.keeps.recs
    have r2:=K.cnt
    rw [h3] at c
    omega
   refine ⟨rfl,⟨p2.congr fun m hm=>?_,?_,?_⟩⟩
   ·rw [p4,h5] at hm
    exact (lastP_set K.had hn hm _).symm
   ·dsimp only
    rw [p4,h5]
    exact K.had.set ⟨by omega,hlsn⟩
   ·dsimp only
    rw [p3,h4];exact K.cnt
theorem KeepsO.pins {X:StM} (K:KeepsO X) (o:OpM):(X.pins o).1 = true ∧ KeepsO (X.pins o).2:=by
 have hp:=K.keeps.pages
 have hn:=mod_bd (a:=o.n) (show 0 < X.S.P.pages by omega)
 obtain ⟨h1,h2,h3,h4,h5⟩:=K.keeps.get hn
 unfold StM.pins Sto.pin
 dsimp only
 rcases h1 with h1|⟨h1,f,hf⟩
 ·rw [if_pos (by omega)]
  exact ⟨by rw [h1];simp,⟨h2,by dsimp only;rw [h5];exact K.had,by dsimp only;rw [h4];exact K.cnt⟩⟩
 ·rw [if_neg (by omega),hf]
  obtain ⟨k1,k2,k3⟩:=h2.key _ f hf
  exact ⟨rfl,⟨h2.put k1 k2 k3,by show HadOk (X.S.get (o.n % X.S.P.pages)).2.P.pages X.had;rw [h5];exact K.had,by show (X.S.get (o.n % X.S.P.pages)).2.L.count ≤ 4096;rw [h4];exact K.cnt⟩⟩
theorem Keeps.unpin {S:Sto} {last:Int → PgM} (K:Keeps S last) (n:Int):Keeps (S.unpin n).2 last ∧ (S.unpin n).2.L = S.L ∧ (S.unpin n).2.P.pages = S.P.pages:=by
 unfold Sto.unpin
 split
 ·exact ⟨K,rfl,rfl⟩
 cases hl:S.P.held.lookup n with
 | none=>exact ⟨K,rfl,rfl⟩
 | some f =>
  dsimp only
  split
  ·exact ⟨K,rfl,rfl⟩
  ·obtain ⟨k1,k2,k3⟩:=K.key _ f hl
   exact ⟨K.put (f:={ f with pins:=f.pins - 1 }) k1 k2 k3,rfl,rfl⟩
theorem Keeps.evict {S:Sto} {last:Int → PgM} (K:Keeps S last) {n:Int} (hn:0 ≤ n ∧ n < S.P.pages):((S.evict n).1 = 0 ∨ (S.evict n).1 = 100 ∨ (S.evict n).1 = 101) ∧ Keeps (S.evict n).2 last ∧ (S.evict n).2.L.count = S.L.count ∧ (S.evict n).2.P.pages = S.P.pages ∧ ((S.evict n).1 ≠ 100 → (S.evict n).2.P = S.P.del n):=by
 unfold Sto.evict
 rw [K.place hn,if_neg (fun k=>k rfl)]
 cases hl:S.P.held.lookup n with
 | none =>
  refine ⟨.inr (.inr rfl),K,rfl,rfl,fun _=>?_⟩
  show S.P = S.P.del n
  unfold PoolM.del
  rw [filter_ne n S.P.held ((lookup_none n _).1 hl)]
 | some f =>
  dsimp only
  split
  ·exact ⟨.inr (.inl rfl),K,rfl,rfl,fun h=>absurd rfl h⟩
  ·obtain ⟨h1,h2,h3,h4,h5⟩:=K.leave hl
   exact ⟨.inl h1,h2,h5,by rw [h3];rfl,fun _=>h3⟩
theorem Keeps.flush {S:Sto} {last:Int → PgM} (K:Keeps S last) {n:Int} (hn:0 ≤ n ∧ n < S.P.pages):((S.flush n).1 = 0 ∨ (S.flush n).1 = 101) ∧ Keeps (S.flush n).2 last ∧ (S.flush n).2.L.count = S.L.count ∧ (S.flush n).2.P.pages = S.P.pages:=by
 unfold Sto.flush
 rw [K.place hn,if_neg (fun k=>k rfl)]
 cases hl:S.P.held.lookup n with
 | none=>exact ⟨.inr rfl,K,rfl,rfl⟩
 | some f =>
  obtain ⟨h1,h2,h3,h4,h5,h6⟩:=K.write hl
  refine ⟨.inl h1,h2,h5,?_⟩
  show (S.write n f).2.P.pages = _
  rw [h3];split <;> rfl
theorem KeepsO.play {X:StM} (K:KeepsO X) {o:OpM} (hi:o.pg.In) (ha:In64 o.a):(X.play o).1 = true ∧ KeepsO (X.play o).2:=by
 have hp:=K.keeps.pages
 have hn:=mod_bd (a:=o.n) (show 0 < X.S.P.pages by omega)
 unfold StM.play
 split
 ·exact K.gets o
 split
 ·exact K.pins o
 split
 ·exact K.puts hi ha
 split
 ·obtain ⟨h1,h2,h3⟩:=K.keeps.unpin (o.n % X.S.P.pages)
  exact ⟨rfl,⟨h1,by dsimp only;rw [h3];exact K.had,by dsimp only;rw [h2];exact K.cnt⟩⟩
 split
 ·obtain ⟨h1,h2,h3,h4,_⟩:=K.keeps.evict hn
  unfold StM.outs
  refine ⟨?_,⟨h2,by dsimp only;rw [h4];exact K.had,by dsimp only;rw [h3];exact K.cnt⟩⟩
  rcases h1 with h1|h1|h1 <;> rw [h1] <;> simp
 split
 ·obtain ⟨h1,h2,h3,h4⟩:=K.keeps.flush hn
  unfold StM.outs
  refine ⟨?_,⟨h2,by dsimp only;rw [h4];exact K.had,by dsimp only;rw [h3];exact K.cnt⟩⟩
  rcases h1 with h1|h1 <;> rw [h1] <;> simp
 split
 ·unfold Sto.begE Sto.beg
  rw [show X.S.L.err.isSome = false by rw [K.keeps.err];rfl,if_neg (by decide)]
  split
  ·exact ⟨rfl,K⟩
  ·have:=K.keeps.recs
   have ht:=mod_bd (a:=o.a) (show (0:Int) < 1000 by decide)
   exact ⟨rfl,⟨K.keeps.app (by omega) (begN_enc _ (by omega)),K.had,K.cnt⟩⟩
 split
 ·have hm:=mod_bd (a:=o.a) (show (0:Int) < X.S.L.recs.length + 1 by omega)
  obtain ⟨h1,h2,h3,h4,h5⟩:=K.keeps.force (n:=o.a % (X.S.L.recs.length + 1)) (by omega)
  exact ⟨rfl,⟨h2,K.had,by dsimp only;rw [h4];exact K.cnt⟩⟩
 ·exact ⟨rfl,K⟩
def stm0 (p lg f:Int):StM:=⟨sto0 p lg f,(List.range p.toNat).map fun i=>[last0 (i:Nat)],List.replicate p.toNat 0⟩
end Go.SL.Pool
/- Pages side by side; an error's number, place and call; small helpers of the law: walked. Conditions: in each statement. -/
namespace Go.Proofs.YtbcedpankkdfoaaGreatDoor
open Go Go.SL Go.SL.Sec Go.SL.Fld Go.SL.Pts Go.SL.Rec Go.SL.Twn Go.SL.Pg Go.SL.Mst Go.SL.Pool
theorem RowC.oldC {W:World} {R:HProp} {α:Type} {sz:Nat} {enc:α → List Value} {a:Option Addr} {xs:List α} (o:OldR W sz enc a xs) (oc:OldC W R):RowC W R a sz enc xs:=⟨fun w hs i x hx=>by
 obtain ⟨b,off,ha,h⟩:=o.at' i x hx
 exact ⟨b,off,ha,fun j v hj=>oc.h _ _ (h j v hj)⟩⟩
theorem sameC_spec {W:World} {R:HProp} {a b:Option Addr} {n m cap cap':Nat} {xs ys:List CntV} (c:RowN W R a n 5 cntv xs) (d:RowN W R b m 5 cntv ys) (hb:xs.length ≤ 9223372036854775807) :
  Does prog W f_z16 ⟨[.slice a n cap,.slice b m cap']⟩ R (Ret fun v G=>v = .bool (decide (xs = ys)) ∧ G = R):=by
 have hn:=c.len
 have hm:=d.len
 have c1:=c.row
 have d1:=d.row
 subst hn hm
 refine f_z16.does _ _ ?_
 conv=>whnf
 by_cases hl:xs.length = ys.length
 rotate_left
 ·rw [show decide (xs = ys) = false from decide_eq_false fun e=>hl (by rw [e])]
  repeat' (first
   | (rw [decide_eq_false (show ¬ ((xs.length:Int) = ys.length) by omega)];conv=>whnf))
  refine Ret.eq rfl ?_
  first|exact .refl _|exact .drop|exact .fin|((repeat refine .pick ?_);first|exact .refl _|exact .emp _|exact .fin)
 repeat' (first
  | (rw [decide_eq_true (show ((xs.length:Int) = ys.length) by omega)];conv=>whnf))
 refine LoopK.keep tab_ok (L:=f_z16.live) (ι:=Nat) (fun i=>i ≤ xs.length ∧ xs.take i = ys.take i) (fun i=>[(5,.int .i64 i)]) (fun i=>xs.length - i) 0 (by simp) (fun t v h=>h) ?_
 rintro i ⟨hi,ht⟩
 conv=>whnf
 by_cases h1:i < xs.length
 ·obtain ⟨x,hx⟩:∃ x,xs[i]? = some x:=⟨_,List.getElem?_eq_getElem h1⟩
  obtain ⟨y,hy⟩:∃ y,ys[i]? = some y:=⟨_,List.getElem?_eq_getElem (by omega)⟩
  by_cases hxy:x = y
  ·subst hxy
   repeat' (first
    | (refine spl_dec (fun hd=>?_) (fun hd=>?_) <;> first|(exfalso;omega)|(conv=>whnf))
    | (refine spl_intro (fun hd=>?_) (fun hd=>?_) <;> (conv=>whnf))
    | (refine Ar.i64 (by omega) ?_;conv=>whnf)
    | (refine IxS.r (a:=a) (c:=c1) (i:=i) rfl rfl h1 (fun ab off ha=>?_);cases ha;conv=>whnf)
    | (refine IxS.r (a:=b) (c:=d1) (i:=i) rfl rfl (by omega) (fun ab off ha=>?_);cases ha;conv=>whnf)
    | ((first|refine LdN.r (c:=c1) hx rfl ?_|refine LdN.r (c:=d1) hy rfl ?_);conv=>whnf)
    | (refine OpX.of_quiet (OpQ.nes rfl rfl ?_);conv=>whnf)
    | (refine DrawK.introH tab_ok mixed 17 f_z16.last6 f_z16.plan6 _ rfl (by kernel_rfl) (Sub.of (by first|exact .refl _|exact .drop|exact .fin|((repeat refine .pick ?_);first|exact .refl _|exact .emp _|exact .fin))) ?_;conv=>whnf))
   ·exfalso;simp at hd
   ·refine ⟨rfl,i + 1,⟨h1,?_⟩,fun t v h=>h,?_,by omega⟩
    ·rw [List.take_add_one,List.take_add_one,ht,hx,hy]
    ·first|exact .refl _|exact .drop|exact .fin|((repeat refine .pick ?_);first|exact .refl _|exact .emp _|exact .fin)
  ·repeat' (first
    | (refine spl_dec (fun hd=>?_) (fun hd=>?_) <;> first|(exfalso;omega)|(conv=>whnf))
    | (refine spl_intro (fun hd=>?_) (fun hd=>?_) <;> (conv=>whnf))
    | (refine Ar.i64 (by omega) ?_;conv=>whnf)
    | (refine IxS.r (a:=a) (c:=c1) (i:=i) rfl rfl h1 (fun ab off ha=>?_);cases ha;conv=>whnf)
    | (refine IxS.r (a:=b) (c:=d1) (i:=i) rfl rfl (by omega) (fun ab off ha=>?_);cases ha;conv=>whnf)
    | ((first|refine LdN.r (c:=c1) hx rfl ?_|refine LdN.r (c:=d1) hy rfl ?_);conv=>whnf)
    | (refine OpX.of_quiet (OpQ.nes rfl rfl ?_);conv=>whnf)
    | (refine DrawK.introH tab_ok mixed 17 f_z16.last6 f_z16.plan6 _ rfl (by kernel_rfl) (Sub.of (by first|exact .refl _|exact .drop|exact .fin|((repeat refine .pick ?_);first|exact .refl _|exact .emp _|exact .fin))) ?_;conv=>whnf))
   ·rw [show decide (xs = ys) = false from decide_eq_false fun e=>hxy (by rw [e,hy] at hx;exact (Option.some.inj hx).symm)]
    refine Ret.eq rfl ?_
    first|exact .refl _|exact .drop|exact .fin|((repeat refine .pick ?_);first|exact .refl _|exact .emp _|exact .fin)
   ·refine absurd ?_ hxy
    cases x
    cases y
    simp at hd
    simp [hd]
 ·rw [List.take_of_length_le (by omega),List.take_of_length_le (by omega)] at ht
  rw [decide_eq_true ht]
  repeat' (first
   | (refine spl_dec (fun hd=>?_) (fun hd=>?_) <;> first|(exfalso;omega)|(conv=>whnf)))
  refine Ret.eq rfl ?_
  first|exact .refl _|exact .drop|exact .fin|((repeat refine .pick ?_);first|exact .refl _|exact .emp _|exact .fin)
theorem sameG_spec {W:World} {R:HProp} {a b:Option Addr} {n m cap cap':Nat} {xs ys:List GrpV} (c:RowN W R a n 2 grpv xs) (d:RowN W R b m 2 grpv ys) (hb:xs.length ≤ 9223372036854775807) :
  Does prog W f_z1f ⟨[.slice a n cap,.slice b m cap']⟩ R (Ret fun v G=>v = .bool (decide (xs = ys)) ∧ G = R):=by
 have hn:=c.len
 have hm:=d.len
 have c1:=c.row
 have d1:=d.row
 subst hn hm
 refine f_z1f.does _ _ ?_
 conv=>whnf
 by_cases hl:xs.length = ys.length
 rotate_left
 ·rw [show decide (xs = ys) = false from decide_eq_false fun e=>hl (by rw [e])]
  repeat' (first
   | (rw [decide_eq_false (show ¬ ((xs.length:Int) = ys.length) by omega)];conv=>whnf))
  refine Ret.eq rfl ?_
  first|exact .refl _|exact .drop|exact .fin|((repeat refine .pick ?_);first|exact .refl _|exact .emp _|exact .fin)
 repeat' (first
  | (rw [decide_eq_true (show ((xs.length:Int) = ys.length) by omega)];conv=>whnf))
 refine LoopK.keep tab_ok (L:=f_z1f.live) (ι:=Nat) (fun i=>i ≤ xs.length ∧ xs.take i = ys.take i) (fun i=>[(5,.int .i64 i)]) (fun i=>xs.length - i) 0 (by simp) (fun t v h=>h) ?_
 rintro i ⟨hi,ht⟩
 conv=>whnf
 by_cases h1:i < xs.length
 ·obtain ⟨x,hx⟩:∃ x,xs[i]? = some x:=⟨_,List.getElem?_eq_getElem h1⟩
  obtain ⟨y,hy⟩:∃ y,ys[i]? = some y:=⟨_,List.getElem?_eq_getElem (by omega)⟩
  by_cases hxy:x = y
  ·subst hxy
   repeat' (first
    | (refine spl_dec (fun hd=>?_) (fun hd=>?_) <;> first|(exfalso;omega)|(conv=>whnf))
    | (refine spl_intro (fun hd=>?_) (fun hd=>?_) <;> (conv=>whnf))
    | (refine Ar.i64 (by omega) ?_;conv=>whnf)
    | (refine IxS.r (a:=a) (c:=c1) (i:=i) rfl rfl h1 (fun ab off ha=>?_);cases ha;conv=>whnf)
    | (refine IxS.r (a:=b) (c:=d1) (i:=i) rfl rfl (by omega) (fun ab off ha=>?_);cases ha;conv=>whnf)
    | ((first|refine LdN.r (c:=c1) hx rfl ?_|refine LdN.r (c:=d1) hy rfl ?_);conv=>whnf)
    | (refine OpX.of_quiet (OpQ.nes rfl rfl ?_);conv=>whnf)
    | (refine DrawK.introH tab_ok mixed 17 f_z1f.last6 f_z1f.plan6 _ rfl (by kernel_rfl) (Sub.of (by first|exact .refl _|exact .drop|exact .fin|((repeat refine .pick ?_);first|exact .refl _|exact .emp _|exact .fin))) ?_;conv=>whnf))
   ·exfalso;simp at hd
   ·refine ⟨rfl,i + 1,⟨h1,?_⟩,fun t v h=>h,?_,by omega⟩
    ·rw [List.take_add_one,List.take_add_one,ht,hx,hy]
    ·first|exact .refl _|exact .drop|exact .fin|((repeat refine .pick ?_);first|exact .refl _|exact .emp _|exact .fin)
  ·repeat' (first
    | (refine spl_dec (fun hd=>?_) (fun hd=>?_) <;> first|(exfalso;omega)|(conv=>whnf))
    | (refine spl_intro (fun hd=>?_) (fun hd=>?_) <;> (conv=>whnf))
    | (refine Ar.i64 (by omega) ?_;conv=>whnf)
    | (refine IxS.r (a:=a) (c:=c1) (i:=i) rfl rfl h1 (fun ab off ha=>?_);cases ha;conv=>whnf)
    | (refine IxS.r (a:=b) (c:=d1) (i:=i) rfl rfl (by omega) (fun ab off ha=>?_);cases ha;conv=>whnf)
    | ((first|refine LdN.r (c:=c1) hx rfl ?_|refine LdN.r (c:=d1) hy rfl ?_);conv=>whnf)
    | (refine OpX.of_quiet (OpQ.nes rfl rfl ?_);conv=>whnf)
    | (refine DrawK.introH tab_ok mixed 17 f_z1f.last6 f_z1f.plan6 _ rfl (by kernel_rfl) (Sub.of (by first|exact .refl _|exact .drop|exact .fin|((repeat refine .pick ?_);first|exact .refl _|exact .emp _|exact .fin))) ?_;conv=>whnf))
   ·rw [show decide (xs = ys) = false from decide_eq_false fun e=>hxy (by rw [e,hy] at hx;exact (Option.some.inj hx).symm)]
    refine Ret.eq rfl ?_
    first|exact .refl _|exact .drop|exact .fin|((repeat refine .pick ?_);first|exact .refl _|exact .emp _|exact .fin)
   ·refine absurd ?_ hxy
    cases x
    cases y
    simp at hd
    simp [hd]
 ·rw [List.take_of_length_le (by omega),List.take_of_length_le (by omega)] at ht
  rw [decide_eq_true ht]
  repeat' (first
   | (refine spl_dec (fun hd=>?_) (fun hd=>?_) <;> first|(exfalso;omega)|(conv=>whnf)))
  refine Ret.eq rfl ?_
  first|exact .refl _|exact .drop|exact .fin|((repeat refine .pick ?_);first|exact .refl _|exact .emp _|exact .fin)
theorem same_spec {W:World} {R:HProp} {n1 l1 n2 l2:Int} {ca ga cb gb:Option Addr} {kca kga kcb kgb c1 c2 c3 c4:Nat} {C C':List CntV} {G G':List GrpV} (rc:RowN W R ca kca 5 cntv C) (rg:RowN W R ga kga 2 grpv G) (rc':RowN W R cb kcb 5 cntv C') (rg':RowN W R gb kgb 2 grpv G') (hC:C.length ≤ 9223372036854775807) (hG:G.length ≤ 9223372036854775807) :
  Does prog W f_z47 ⟨[.agg ⟨[.int .i64 n1,.int .i64 l1,.slice ca kca c1,.slice ga kga c2]⟩,.agg ⟨[.int .i64 n2,.int .i64 l2,.slice cb kcb c3,.slice gb kgb c4]⟩]⟩ R (Ret fun v Q=>v = .bool (decide ((⟨n1,l1,C,G⟩:PgM) = ⟨n2,l2,C',G'⟩)) ∧ Q = R):=by
 have hd:decide ((⟨n1,l1,C,G⟩:PgM) = ⟨n2,l2,C',G'⟩) = (decide (n1 = n2) && (decide (l1 = l2) && (decide (C = C') && decide (G = G')))):=by
  rw [Bool.eq_iff_iff];simp [PgM.mk.injEq]
 rw [hd]
 haveI:=rc
 haveI:=rg
 haveI:=rc'
 haveI:=rg'
 refine f_z47.does _ _ ?_
 conv=>whnf
 by_cases h1:n1 = n2
 rotate_left
 ·rw [decide_eq_false h1]
  repeat' (first
   | (rw [decide_eq_false h1];conv=>whnf)
   | (refine Ld.i ?_;conv=>whnf)
   | (intro blk hblk;conv=>whnf))
  refine Ret.eq rfl ?_
  first|exact .refl _|exact .drop|exact .fin|((repeat refine .pick ?_);first|exact .refl _|exact .emp _|exact .fin)
 by_cases h2:l1 = l2
 rotate_left
 ·rw [decide_eq_true h1,decide_eq_false h2]
  repeat' (first
   | (rw [decide_eq_true h1];conv=>whnf)
   | (rw [decide_eq_false h2];conv=>whnf)
   | (refine Ld.i ?_;conv=>whnf)
   | (intro blk hblk;conv=>whnf))
  refine Ret.eq rfl ?_
  first|exact .refl _|exact .drop|exact .fin|((repeat refine .pick ?_);first|exact .refl _|exact .emp _|exact .fin)
 by_cases h3:C = C'
 rotate_left
 ·rw [decide_eq_true h1,decide_eq_true h2,decide_eq_false h3]
  repeat' (first
   | (rw [decide_eq_true h1];conv=>whnf)
   | (rw [decide_eq_true h2];conv=>whnf)
   | (refine CallK.ret f_z16.ok (sameC_spec (xs:=C) (ys:=C') (by infer_instance) (by infer_instance) hC) ?_;rw [decide_eq_false h3];rintro v G ⟨rfl,rfl⟩;conv=>whnf)
   | (refine Ld.i ?_;conv=>whnf)
   | (intro blk hblk;conv=>whnf))
  refine Ret.eq rfl ?_
  first|exact .refl _|exact .drop|exact .fin|((repeat refine .pick ?_);first|exact .refl _|exact .emp _|exact .fin)
 rw [decide_eq_true h1,decide_eq_true h2,decide_eq_true h3]
 repeat' (first
  | (rw [decide_eq_true h1];conv=>whnf)
  | (rw [decide_eq_true h2];conv=>whnf)
  | (refine CallK.ret f_z16.ok (sameC_spec (xs:=C) (ys:=C') (by infer_instance) (by infer_instance) hC) ?_;rw [decide_eq_true h3];rintro v G ⟨rfl,rfl⟩;conv=>whnf)
  | (refine CallK.ret f_z1f.ok (sameG_spec (xs:=G) (ys:=G') (by infer_instance) (by infer_instance) hG) ?_;rintro v G ⟨rfl,rfl⟩;conv=>whnf)
  | (refine Ld.i ?_;conv=>whnf)
  | (intro blk hblk;conv=>whnf))
 refine Ret.eq rfl ?_
 first|exact .refl _|exact .drop|exact .fin|((repeat refine .pick ?_);first|exact .refl _|exact .emp _|exact .fin)
end Go.Proofs.YtbcedpankkdfoaaGreatDoor
