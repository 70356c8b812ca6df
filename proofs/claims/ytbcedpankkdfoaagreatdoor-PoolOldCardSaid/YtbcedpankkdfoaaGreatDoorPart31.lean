/- The law's store at its beginning: opened, walked. Conditions: in each statement. -/
import Derived.Test.YtbcedpankkdfoaaGreatDoorPart30
namespace Go.Proofs.YtbcedpankkdfoaaGreatDoor
open Go Go.SL Go.SL.Sec Go.SL.Fld Go.SL.Pts Go.SL.Rec Go.SL.Twn Go.SL.Pg Go.SL.Mst Go.SL.Pool
def stmOf (X:StX) (S:StoX):StM:=⟨S.val,X.had,X.E⟩
theorem imp_rowx {H R G:HProp} {b:Nat} {n:Int} [c:PtsC H b (.cells ⟨[.int .i64 n,i0,.slice none 0 0,.slice none 0 0]⟩ t_z1d) R] (h:Imp R G):Imp H (rowxc ⟨some ⟨b,0,none⟩,1,[pg0 n 0]⟩•G):=by
 unfold rowxc
 rw [star_assoc]
 refine Imp.vnew (sz:=4) (enc:=PgX.cells) [pg0 n 0] rfl ?_
 show Imp R ((pgc (pg0 n 0)•emp)•G)
 rw [star_assoc,emp_star]
 exact Imp.pg0 h
theorem int_one:∀ ys:List Int,∀ v ∈ ys.flatMap ints,v.oneCell' = true:=by
 intro ys v hv
 obtain ⟨d,_,hv⟩:=List.mem_flatMap.1 hv
 cases List.mem_singleton.1 hv
 rfl
set_option maxHeartbeats 4000000 in
theorem opened_spec {W:World} {R:HProp} {rp rl rf:Int} :
  Does prog W f_z32 ⟨[.agg ⟨[.int .i64 rp,.int .i64 rl,.int .i64 rf]⟩]⟩ R (Ret fun v G=>∃ (b:Nat) (X:StX) (S:StoX),X.Ok S ∧ X.lg = 4 + rl % 20 ∧ X.f = 2 + rf % 4 ∧ stmOf X S = stm0 (2 + rp % 6) (4 + rl % 20) (2 + rf % 4) ∧ v = ptr b ∧ G = (storec b X•stoo X.q S•R)):=by
 obtain ⟨p,hp⟩:∃ p,p = 2 + rp % 6:=⟨_,rfl⟩
 obtain ⟨lg,hlg⟩:∃ l,l = 4 + rl % 20:=⟨_,rfl⟩
 obtain ⟨f,hf⟩:∃ f,f = 2 + rf % 4:=⟨_,rfl⟩
 have hp2:2 ≤ p ∧ p ≤ 7:=by omega
 have hl2:4 ≤ lg ∧ lg ≤ 23:=by omega
 have hf2:2 ≤ f ∧ f ≤ 5:=by omega
 have hm:MayP p lg f:=by unfold MayP;omega
 have hsh:∀ Q:HProp,_:=fun Q=>qshape_spec (W:=W) (R:=Q) (p:=rp) (l:=rl) (f:=rf)
 rw [← hp,← hlg,← hf] at hsh ⊢
 refine f_z32.does _ ?_
 conv=>whnf
 repeat' (first
  | (refine CallK.ret f_z2b.ok (hsh _) ?_;rintro v G ⟨rfl,rfl⟩;conv=>whnf)
  | (refine CallK.ret f_z3a.ok (need_yes hm) ?_;rintro v G ⟨rfl,rfl⟩;conv=>whnf)
  | ((first|refine LdN.i ?_|refine St.i ⟨rfl,rfl⟩ (List.cons_ne_nil _ _) ?_);conv=>whnf)
  | (intro blk hblk;conv=>whnf))
 refine CallK.imp (H':=pts blk (.cells ⟨[.int .i64 p,.int .i64 lg,.int .i64 f]⟩ t_api_Shape)•R) (by first|exact .refl _|exact .drop|exact .fin|((repeat refine .pick ?_);first|exact .refl _|exact .emp _|exact .fin)) ?_
 refine CallK.ret f_z38.ok (new_yes (n:=5 + 2 * p + lg) (by omega)) ?_
 rintro v G ⟨d,a,c,hc,rfl,rfl⟩
 have hXok:(freshX a c (List.replicate ((5 + 2 * p + lg) * 512).toNat 0)).Ok:=fresh_ok (by rw [List.length_replicate];omega) (by rw [List.length_replicate];omega) (Byt.rep _) hc
 obtain ⟨X,hX⟩:∃ X,X = freshX a c (List.replicate ((5 + 2 * p + lg) * 512).toNat 0):=⟨_,rfl⟩
 have hXv:X.val = zeroD (5 + 2 * p + lg):=by rw [hX];rfl
 have hXd:X.down = false:=by rw [hX];rfl
 have hXp:X.ps = []:=by rw [hX];rfl
 rw [← hX] at hXok ⊢
 have hk:((lg.toNat:Nat):Int) = lg:=by omega
 have hop:openF X.val (5 + 2 * p) lg.toNat = ((0,0),⟨5 + 2 * p,lg.toNat,[],[],0,none⟩,zeroD (5 + 2 * p + lg)):=by rw [hXv];exact openF_zero (fun i hi=>by omega)
 conv=>whnf
 repeat' (first
  | (refine CallK.ret f_ze.ok qnum_spec ?_;rintro v G ⟨rfl,rfl⟩;conv=>whnf)
  | (refine CallK.ret f_z3s.ok (mlog_yes hm) ?_;rintro v G ⟨rfl,rfl⟩;conv=>whnf)
  | ((first|refine Ld.i ?_|refine LdN.i ?_);conv=>whnf))
 have hopen:=open_spec (W:=W) (R:=pts blk (.cells ⟨[.int .i64 p,.int .i64 lg,.int .i64 f]⟩ t_api_Shape)•R) (d:=d) (X:=X) (first:=5 + 2 * p) (n:=lg.toNat) hXok hXd hXp (by omega) (by omega) (by rw [hXv,zeroD_secs (by omega)];omega)
 rw [hop,hk] at hopen
 refine CallK.ret f_log_Open.ok hopen ?_
 rintro v G ⟨L,Y,hLd,hY,hLv,hLok,hYv,hYp,⟨h0,l,rfl,rfl⟩|⟨h0,_⟩⟩
 rotate_left
 ·exact absurd rfl h0
 conv=>whnf
 repeat' (first
  | (refine CallK.ret f_ze.ok qnum_spec ?_;rintro v G ⟨rfl,rfl⟩;conv=>whnf)
  | (refine LdN.i ?_;conv=>whnf))
 refine CallK.imp (H':=devo d Y•logo l L•pts blk (.cells ⟨[.int .i64 p,.int .i64 lg,.int .i64 f]⟩ t_api_Shape)•R) (by first|exact .refl _|exact .drop|exact .fin|((repeat refine .pick ?_);first|exact .refl _|exact .emp _|exact .fin)) ?_
 refine CallK.ret f_z2a.ok (pnew_spec (X:=Y) (p:=p) (lg:=lg) (f:=f) hY hm (by rw [hYv];exact zeroD_secs (by omega))) ?_
 rintro v G ⟨q,r,rfl,rfl⟩
 obtain ⟨S,hS⟩:∃ S:StoX,S = ⟨pool0 d l p lg f r,L,Y⟩:=⟨_,rfl⟩
 have hSv:S.val = sto0 p lg f:=by
  rw [hS]
  show (⟨_,L.val,Y.val⟩:Sto) = _
  rw [hLv,hYv]
  rfl
 have hSl:S.P.l = l:=by rw [hS]
 have hSd:S.P.d = d:=by rw [hS]
 have hSok:S.Ok:=by rw [hS] at hSv ⊢;exact ⟨by rw [hSv];exact ok0 hm,hLok rfl,hY,hLd⟩
 conv=>whnf
 repeat' (first
  | (refine CallK.ret f_ze.ok qnum_spec ?_;rintro v G ⟨rfl,rfl⟩;conv=>whnf)
  | (refine LdN.i ?_;conv=>whnf)
  | (intro blk hblk;conv=>whnf))
 obtain ⟨bx,hbx⟩:∃ bx,bx = blk:=⟨_,rfl⟩
 rw [← hbx]
 refine LoopK.at tab_ok (L:=f_z32.live) (ι:=Nat × Option Addr × Nat × List RowX × Option Addr × Nat) (fun i=>(i.1:Int) ≤ p ∧ i.2.2.2.1.map RowX.m = (List.range i.1).map (fun k=>[last0 (k:Nat)])) (fun i=>[(15,.int .i64 i.1)])
  (fun i=>storec bx ⟨p,lg,f,d,l,q,i.2.1,i.2.2.1,i.2.2.2.1,i.2.2.2.2.1,i.2.2.2.2.2,List.replicate i.1 0⟩) (fun i=>p.toNat - i.1) (0,none,0,[],none,0) ⟨by show (0:Int) ≤ p;omega,rfl⟩ (fun t v h=>h)
  (by
   rw [storec_eq]
   show Imp _ (pts bx (.cells ⟨[.int .i64 p,.int .i64 lg,.int .i64 f,ptr d,ptr l,ptr q,.slice none 0 0,.slice none 0 0]⟩ t_z43)•vec t_z44 1 rowxv none 0 []•vec t_int 1 ints none 0 []•emp•_)
   exact Imp.pick (Imp.vnil (Imp.vnil (Imp.empi (Imp.refl _))))) ?_
 rintro ⟨i,ha,hc,H,da,dc⟩ ⟨hi,hH⟩
 dsimp only at hi hH ⊢
 have hHl:H.length = i:=by simpa using congrArg List.length hH
 conv=>whnf
 by_cases h1:(i:Int) < p
 ·rw [storec_eq]
  repeat' (first
   | (refine spl_dec (fun hd=>?_) (fun hd=>?_) <;> first|(exfalso;omega)|(conv=>whnf))
   | (refine Ld.i ?_;conv=>whnf)
   | (intro blk hblk;conv=>whnf))
  rename_i b1 _
  refine OpX.app1 (xs:=H) tab_ok rfl rfl rfl rfl (⟨some ⟨b1,0,none⟩,1,[pg0 i 0]⟩:RowX) rfl rfl (by omega) ⟨rfl,rowx_one⟩ (fun ha' hc'=>?_)
  repeat' (first
   | ((first|refine Ld.i ?_|refine St.i ⟨rfl,rfl⟩ (List.cons_ne_nil _ _) ?_);conv=>whnf)
   | (intro blk hblk;conv=>whnf))
  refine OpX.app1 (xs:=List.replicate i (0:Int)) tab_ok rfl rfl rfl rfl (0:Int) rfl rfl (by rw [List.length_replicate];omega) ⟨rfl,int_one⟩ (fun da' dc'=>?_)
  repeat' (first
   | ((first|refine St.i ⟨rfl,rfl⟩ (List.cons_ne_nil _ _) ?_|refine Ar.i64 (by omega) ?_);conv=>whnf))
  refine ⟨rfl,(i + 1,ha',hc',H ++ [⟨some ⟨b1,0,none⟩,1,[pg0 i 0]⟩],da',dc'),⟨by dsimp only;omega,?_⟩,fun t v h=>h,?_,by dsimp only;omega⟩
  ·dsimp only
   rw [List.map_append,hH,List.range_succ,List.map_append]
   rfl
  ·dsimp only
   rw [storec_eq]
   dsimp only [storev]
   rw [bigL_snoc,List.length_append,List.length_singleton,List.replicate_succ',List.length_append,List.length_singleton,star_assoc]
   refine Imp.pick (Imp.pick (Imp.pick (imp_rowx ?_)))
   first|exact .refl _|exact .drop|exact .fin|((repeat refine .pick ?_);first|exact .refl _|exact .emp _|exact .fin)
 ·have hi':(i:Int) = p:=by omega
  have hin:i = p.toNat:=by omega
  repeat' (first
   | (refine spl_dec (fun hd=>?_) (fun hd=>?_) <;> first|(exfalso;omega)|(conv=>whnf))
   | (refine Ld.i ?_;conv=>whnf))
  refine ⟨_,_,rfl,?_,bx,⟨p,lg,f,d,l,q,ha,hc,H,da,dc,List.replicate i 0⟩,S,⟨hSok,hSd,hSl,by rw [hS],⟨?_,?_⟩,?_⟩,rfl,rfl,?_,rfl,rfl⟩
  ·dsimp only
   refine Imp.pick (Imp.stoo (l:=l) (d:=d) hSl hSd ?_)
   rw [hS]
   first|exact .refl _|exact .drop|exact .fin|((repeat refine .pick ?_);first|exact .refl _|exact .emp _|exact .fin)
  ·show (((H.map RowX.m).length:Nat):Int) = p
   rw [List.length_map,hHl];exact hi'
  ·have h0:=(had0 (p:=p) (by omega)).row
   rw [← hin,← hH] at h0
   exact h0
  ·show ((List.replicate i (0:Int)).length:Int) = p
   rw [List.length_replicate];exact hi'
  ·show (⟨S.val,H.map RowX.m,List.replicate i 0⟩:StM) = stm0 p lg f
   rw [hSv,hH,hin]
   rfl
end Go.Proofs.YtbcedpankkdfoaaGreatDoor
/- The law's store: a call played, but for Put; walked. Conditions: in each statement. -/
namespace Go.Proofs.YtbcedpankkdfoaaGreatDoor
open Go Go.SL Go.SL.Sec Go.SL.Fld Go.SL.Pts Go.SL.Rec Go.SL.Twn Go.SL.Pg Go.SL.Mst Go.SL.Pool
structure OpV where
 m:OpM
 ca:Option Addr
 cc:Nat
 ga:Option Addr
 gc:Nat
 raw:Bool
 ka:Option Addr
 kn:Nat
 kc:Nat
 torn:Int
 off:Int
abbrev opl (o:OpV):List Value:=[.int .i64 o.m.kind,.int .i64 o.m.n,.int .i64 o.m.a,.int .i64 o.m.pg.num,.int .i64 o.m.pg.lsn,.slice o.ca o.m.pg.C.length o.cc,.slice o.ga o.m.pg.G.length o.gc,.bool o.raw,.slice o.ka o.kn o.kc,.int .i64 o.torn,.int .i64 o.off]
structure StX.Same (X X':StX):Prop where
 p:X'.p = X.p
 lg:X'.lg = X.lg
 f:X'.f = X.f
 d:X'.d = X.d
 l:X'.l = X.l
 q:X'.q = X.q
theorem StX.Same.refl (X:StX):X.Same X:=⟨rfl,rfl,rfl,rfl,rfl,rfl⟩
theorem StX.Same.trans {A B C:StX} (h:A.Same B) (k:B.Same C):A.Same C:=⟨k.p.trans h.p,k.lg.trans h.lg,k.f.trans h.f,k.d.trans h.d,k.l.trans h.l,k.q.trans h.q⟩
def PlayQ (b:Nat) (X:StX) (T:Bool × StM) (R:HProp) (v:Value) (G:HProp):Prop:=∃ (X':StX) (S':StoX),X'.Ok S' ∧ X.Same X' ∧ stmOf X' S' = T.2 ∧ v = .bool T.1 ∧ G = (storec b X'•stoo X'.q S'•R)
theorem StX.Ok.next {X:StX} {S S':StoX} (h:X.Ok S) (hS:S'.Ok) (hs:S.Same S') (hp:S'.val.P.pages = S.val.P.pages):X.Ok S' :=
 ⟨hS,hs.d.trans h.d,hs.l.trans h.l,h.p.trans hp.symm,h.had,h.el⟩
section
variable {W:World} {R:HProp} {b:Nat} {X:StX} {S:StoX} {o:OpV}
structure SmallX (X:StX) (S:StoX):Prop where
 bd:Bd S.P.pages 1000000 1000000 S.val
 rl:∀ l ∈ X.had,l.length ≤ 1000000
theorem SmallX.clock (h:SmallX X S):0 ≤ S.P.clock ∧ S.P.clock ≤ 1000000000:=by
 have:=h.bd.clock
 have e:S.val.P.clock = S.P.clock:=rfl
 omega
theorem SmallX.row (h:SmallX X S) {r:RowX} (hr:r ∈ X.H):r.xs.length ≤ 1000000:=by
 have:=h.rl r.m (List.mem_map.2 ⟨r,hr,rfl⟩)
 unfold RowX.m at this
 rwa [List.length_map] at this
theorem St.done {Q:HProp} {ab off n:Nat} {z y:Int} {K:HProp → Prop} (ha:X.da = some ⟨ab,off,none⟩) (hz:X.E[n]? = some z) (k:K (storec b { X with E:=X.E.set n y }•Q)) :
  Req ([Value.int .i64 y].length = 1 ∧ ([Value.int .i64 y].all fun x=>x.oneCell') = true) (St prog W (storec b X•Q) ⟨ab,off + n * 1,none⟩ [.int .i64 y] K):=by
 have e1:∀ l:List Int,vec t_int 1 ints X.da X.dc l = vec t_int 1 ints (some ⟨ab,off,none⟩) X.dc l:=fun l=>by rw [ha]
 have e2:storev { X with E:=X.E.set n y } = storev X:=by simp [storev]
 refine Req.conv (H':=vec t_int 1 ints (some ⟨ab,off,none⟩) X.dc X.E•pts b (.cells ⟨storev X⟩ t_z43)•vec t_z44 1 rowxv X.ha X.hc X.H•bigL rowxc X.H•Q) ?_ (St.v0 (xs:=X.E) hz y rfl (Nat.le_refl 1) ⟨rfl,rfl⟩ ?_) k
 ·rw [storec_eq,e1]
  first|exact .refl _|exact .drop|exact .fin|((repeat refine .pick ?_);first|exact .refl _|exact .emp _|exact .fin)
 ·rw [storec_eq,e2]
  dsimp only
  rw [e1]
  first|exact .refl _|exact .drop|exact .fin|((repeat refine .pick ?_);first|exact .refl _|exact .emp _|exact .fin)
theorem plays_get [le:LaidE W] [lc:LaidC W] [lp:LaidP W] [oc:OldC W R] (hX:X.Ok S) (hb:SmallX X S) (hk:o.m.kind = 1) :
  Does prog W f_z0 ⟨[ptr b,.agg ⟨opl o⟩]⟩ (storec b X•stoo X.q S•R) (Ret (PlayQ b X ((stmOf X S).play o.m) R)):=by
 have hpg:=hX.pages
 have hpp:S.val.P.pages = X.p:=hX.p.symm
 have hn:=mod_bd (a:=o.m.n) (show 0 < X.p by omega)
 obtain ⟨n,hnn⟩:∃ n,n = o.m.n % X.p:=⟨_,rfl⟩
 obtain ⟨T,hT⟩:∃ T,T = S.val.get n:=⟨_,rfl⟩
 have hTp:T.2.P.pages = S.val.P.pages:=by
  rw [hT];exact (Bd.get hb.bd (by decide) hX.sto.val.nd n).pages.trans rfl
 obtain ⟨r,i,x,hr,hi,hx,hlp,hx1,hx2⟩:=hX.last (n:=n) (by rw [hnn];exact hn)
 have e:(stmOf X S).play o.m = if T.1 ≠ 0 then (downE T.1 T.2 || decide (T.1 = 6),⟨T.2,X.had,X.E⟩) else (decide ((T.2.P.held.lookup n).map (·.pg) = some x.m),⟨T.2,X.had,X.E⟩):=by
  unfold StM.play
  rw [if_pos hk,hT,← hlp,hnn,← hpp]
  rfl
 rw [e]
 refine f_z0.does _ _ ?_
 conv=>whnf
 repeat' (first
  | (refine spl_dec (fun hd=>?_) (fun hd=>?_) <;> first|(exfalso;omega)|(conv=>whnf))
  | (refine Ld.i ?_;conv=>whnf)
  | (intro blk hblk;conv=>whnf)
  | (refine DrawK.introH tab_ok mixed 10 f_z0.last1 f_z0.plan1 _ rfl (by kernel_rfl) (Sub.of (by first|exact .refl _|exact .drop|exact .fin|((repeat refine .pick ?_);first|exact .refl _|exact .emp _|exact .fin))) ?_;conv=>whnf)
  | (refine CallK.ret f_zf.ok (qbrought_spec (by first|rfl|assumption|omega|decide|(simp;done)|(simp;omega)|(simp at *;omega))) ?_;rintro v G ⟨rfl,rfl⟩;conv=>whnf))
 rw [← hnn]
 refine CallK.ret f_z1t.ok (sget_spec (S:=S) hX.sto hb.clock) ?_
 rw [← hT]
 rintro v G ⟨S',hS',hs',hv',⟨h0,f,y,hlk,hy,rfl,rfl⟩|⟨h0,k,rfl,rfl⟩⟩
 ·have hm:=List.mem_of_getElem? hr
  have hxm:=List.mem_of_getElem? hx
  haveI c1:∀ Q:HProp,RowC W (storec b X•Q) x.ca 5 cntv x.m.C:=fun Q=>(rowPC hm hxm).1
  haveI c2:∀ Q:HProp,RowC W (storec b X•Q) x.ga 2 grpv x.m.G:=fun Q=>(rowPC hm hxm).2
  have hfr:=hS'.val.fr n f.val (look_val hlk)
  have hC:y.m.C.length ≤ 31:=by rw [hy];exact hfr.C
  have hG:y.m.G.length ≤ 84:=by rw [hy];exact hfr.G
  conv=>whnf
  repeat' (first
   | ((first|refine LdN.i ?_|refine St.i ⟨rfl,rfl⟩ (List.cons_ne_nil _ _) ?_);conv=>whnf)
   | (intro blk hblk;conv=>whnf)
   | (refine CallK.ret f_z35.ok (qback_spec) ?_;rintro v G ⟨rfl,rfl⟩;conv=>whnf))
  refine CallK.imp (H':=storec b X•pgc y•stoo X.q S'•R) (by first|exact .refl _|exact .drop|exact .fin|((repeat refine .pick ?_);first|exact .refl _|exact .emp _|exact .fin)) ?_
  have hrl:=hb.row hm
  refine CallK.ret f_z1f.ok (qlast_spec (by omega) hr hi hx (by omega)) ?_
  rintro v G ⟨rfl,rfl⟩
  rw [pgc_eq y]
  conv=>whnf
  skip
  refine CallK.ret f_z34.ok (same_spec (C:=y.m.C) (G:=y.m.G) (C':=x.m.C) (G':=x.m.G) (by infer_instance) (by infer_instance) (by infer_instance) (by infer_instance) (by omega) (by omega)) ?_
  rintro v G ⟨rfl,rfl⟩
  conv=>whnf
  skip
  rw [if_neg (fun k=>k h0)]
  refine ⟨_,_,rfl,?_,X,S',hX.next hS' hs' (by rw [hv'];exact hTp),.refl X,?_,?_,rfl⟩
  ·first|exact .refl _|exact .drop|exact .fin|((repeat refine .pick ?_);first|exact .refl _|exact .emp _|exact .fin)
  ·show (⟨S'.val,X.had,X.E⟩:StM) = _
   rw [hv']
  ·have e9:S'.val.P.held.lookup n = some f.val:=look_val hlk
   rw [← hv',e9]
   show Value.bool (decide (y.m = x.m)) = Value.bool (decide (some f.pg.m = some x.m))
   rw [hy]
   simp
 ·conv=>whnf
  repeat' (first
   | (refine St.i ⟨rfl,rfl⟩ (List.cons_ne_nil _ _) ?_;conv=>whnf)
   | (intro blk hblk;conv=>whnf))
  refine CallK.imp (H':=fltc k wGet n T.1•stoo X.q S'•storec b X•R) (by first|exact .refl _|exact .drop|exact .fin|((repeat refine .pick ?_);first|exact .refl _|exact .emp _|exact .fin)) ?_
  refine CallK.ret f_zr.ok (ends_flt h0 (hs'.d.trans hX.d)) ?_
  rintro v G ⟨rfl,rfl⟩
  rw [if_pos h0,hv']
  cases hde:downE T.1 T.2 with
  | true =>
   conv=>whnf
   skip
   refine ⟨_,_,rfl,?_,X,S',hX.next hS' hs' (by rw [hv'];exact hTp),.refl X,?_,rfl,rfl⟩
   ·first|exact .refl _|exact .drop|exact .fin|((repeat refine .pick ?_);first|exact .refl _|exact .emp _|exact .fin)
   ·show (⟨S'.val,X.had,X.E⟩:StM) = _
    rw [hv']
  | false =>
   conv=>whnf
   skip
   refine CallK.ret f_z1g.ok (qis_flt (by decide)) ?_
   rintro v G ⟨rfl,rfl⟩
   conv=>whnf
   skip
   refine ⟨_,_,rfl,?_,X,S',hX.next hS' hs' (by rw [hv'];exact hTp),.refl X,?_,rfl,rfl⟩
   ·first|exact .refl _|exact .drop|exact .fin|((repeat refine .pick ?_);first|exact .refl _|exact .emp _|exact .fin)
   ·show (⟨S'.val,X.had,X.E⟩:StM) = _
    rw [hv']
theorem plays_pin [le:LaidE W] [lc:LaidC W] [lp:LaidP W] [oc:OldC W R] (hX:X.Ok S) (hb:SmallX X S) (hk:o.m.kind = 3) :
  Does prog W f_z0 ⟨[ptr b,.agg ⟨opl o⟩]⟩ (storec b X•stoo X.q S•R) (Ret (PlayQ b X ((stmOf X S).play o.m) R)):=by
 have hpg:=hX.pages
 have hpp:S.val.P.pages = X.p:=hX.p.symm
 have hn:=mod_bd (a:=o.m.n) (show 0 < X.p by omega)
 obtain ⟨n,hnn⟩:∃ n,n = o.m.n % X.p:=⟨_,rfl⟩
 obtain ⟨T,hT⟩:∃ T,T = S.val.pin n:=⟨_,rfl⟩
 have hTp:T.2.P.pages = S.val.P.pages:=by
  rw [hT];exact (Bd.pin hb.bd (by decide) hX.sto.val.nd n).pages.trans rfl
 have e:(stmOf X S).play o.m = (decide (T.1 = 0) || downE T.1 T.2 || decide (T.1 = 6),⟨T.2,X.had,X.E⟩):=by
  unfold StM.play
  rw [if_neg (by omega),if_pos hk,hT,hnn,← hpp]
  rfl
 rw [e]
 have hpi:∀ f,(S.val.get n).2.P.held.lookup n = some f → -1000000000 ≤ f.pins ∧ f.pins ≤ 1000000000:=fun f hf=>by
  have:=(Bd.get hb.bd (by decide) hX.sto.val.nd n).pins n f hf
  omega
 refine f_z0.does _ _ ?_
 conv=>whnf
 repeat' (first
  | (refine spl_dec (fun hd=>?_) (fun hd=>?_) <;> first|(exfalso;omega)|(conv=>whnf))
  | (refine Ld.i ?_;conv=>whnf)
  | (intro blk hblk;conv=>whnf)
  | (refine DrawK.introH tab_ok mixed 10 f_z0.last1 f_z0.plan1 _ rfl (by kernel_rfl) (Sub.of (by first|exact .refl _|exact .drop|exact .fin|((repeat refine .pick ?_);first|exact .refl _|exact .emp _|exact .fin))) ?_;conv=>whnf)
  | (refine CallK.ret f_zf.ok (qbrought_spec (by first|rfl|assumption|omega|decide|(simp;done)|(simp;omega)|(simp at *;omega))) ?_;rintro v G ⟨rfl,rfl⟩;conv=>whnf))
 rw [← hnn]
 refine CallK.ret f_z3b.ok (spin_spec (S:=S) hX.sto hb.clock hpi) ?_
 rw [← hT]
 rintro v G ⟨S',hS',hs',hv',⟨h0,rfl,rfl⟩|⟨h0,k,rfl,rfl⟩⟩
 ·conv=>whnf
  skip
  rw [h0]
  refine ⟨_,_,rfl,?_,X,S',hX.next hS' hs' (by rw [hv'];exact hTp),.refl X,?_,rfl,rfl⟩
  ·first|exact .refl _|exact .drop|exact .fin|((repeat refine .pick ?_);first|exact .refl _|exact .emp _|exact .fin)
  ·show (⟨S'.val,X.had,X.E⟩:StM) = _
   rw [hv']
 ·conv=>whnf
  skip
  refine CallK.imp (H':=fltc k wPin n T.1•stoo X.q S'•storec b X•R) (by first|exact .refl _|exact .drop|exact .fin|((repeat refine .pick ?_);first|exact .refl _|exact .emp _|exact .fin)) ?_
  refine CallK.ret f_zr.ok (ends_flt h0 (hs'.d.trans hX.d)) ?_
  rintro v G ⟨rfl,rfl⟩
  rw [decide_eq_false h0,hv',Bool.false_or]
  cases hde:downE T.1 T.2 with
  | true =>
   conv=>whnf
   skip
   refine ⟨_,_,rfl,?_,X,S',hX.next hS' hs' (by rw [hv'];exact hTp),.refl X,?_,rfl,rfl⟩
   ·first|exact .refl _|exact .drop|exact .fin|((repeat refine .pick ?_);first|exact .refl _|exact .emp _|exact .fin)
   ·show (⟨S'.val,X.had,X.E⟩:StM) = _
    rw [hv']
  | false =>
   conv=>whnf
   skip
   refine CallK.ret f_z1g.ok (qis_flt (by decide)) ?_
   rintro v G ⟨rfl,rfl⟩
   conv=>whnf
   skip
   refine ⟨_,_,rfl,?_,X,S',hX.next hS' hs' (by rw [hv'];exact hTp),.refl X,?_,rfl,rfl⟩
   ·first|exact .refl _|exact .drop|exact .fin|((repeat refine .pick ?_);first|exact .refl _|exact .emp _|exact .fin)
   ·show (⟨S'.val,X.had,X.E⟩:StM) = _
    rw [hv']
theorem plays_unpin (hX:X.Ok S) (hb:SmallX X S) (hk:o.m.kind = 4) :
  Does prog W f_z0 ⟨[ptr b,.agg ⟨opl o⟩]⟩ (storec b X•stoo X.q S•R) (Ret (PlayQ b X ((stmOf X S).play o.m) R)):=by
 have hpg:=hX.pages
 have hpp:S.val.P.pages = X.p:=hX.p.symm
 have hn:=mod_bd (a:=o.m.n) (show 0 < X.p by omega)
 obtain ⟨n,hnn⟩:∃ n,n = o.m.n % X.p:=⟨_,rfl⟩
 obtain ⟨T,hT⟩:∃ T,T = S.val.unpin n:=⟨_,rfl⟩
 have hTp:T.2.P.pages = S.val.P.pages:=by
  rw [hT];exact (Bd.unpin hb.bd n).pages.trans rfl
 have e:(stmOf X S).play o.m = (true,⟨T.2,X.had,X.E⟩):=by
  unfold StM.play
  rw [if_neg (by omega),if_neg (by omega),if_neg (by omega),if_pos hk,hT,hnn,← hpp]
  rfl
 rw [e]
 have hpi:∀ f,S.P.held.lookup n = some f → -1000000000 ≤ f.pins ∧ f.pins ≤ 1000000000:=fun f hf=>by
  have:=hb.bd.pins n f.val (look_val hf)
  have e:f.val.pins = f.pins:=rfl
  omega
 refine f_z0.does _ _ ?_
 conv=>whnf
 repeat' (first
  | (refine spl_dec (fun hd=>?_) (fun hd=>?_) <;> first|(exfalso;omega)|(conv=>whnf))
  | (refine Ld.i ?_;conv=>whnf)
  | (intro blk hblk;conv=>whnf)
  | (refine DrawK.introH tab_ok mixed 10 f_z0.last1 f_z0.plan1 _ rfl (by kernel_rfl) (Sub.of (by first|exact .refl _|exact .drop|exact .fin|((repeat refine .pick ?_);first|exact .refl _|exact .emp _|exact .fin))) ?_;conv=>whnf)
  | (refine CallK.ret f_zf.ok (qbrought_spec (by first|rfl|assumption|omega|decide|(simp;done)|(simp;omega)|(simp at *;omega))) ?_;rintro v G ⟨rfl,rfl⟩;conv=>whnf))
 rw [← hnn]
 refine CallK.ret f_z2r.ok (sunpin_spec (S:=S) hX.sto hpi) ?_
 rw [← hT]
 rintro v G ⟨S',hS',hs',hv',rfl,rfl⟩
 conv=>whnf
 skip
 refine ⟨_,_,rfl,?_,X,S',hX.next hS' hs' (by rw [hv'];exact hTp),.refl X,?_,rfl,rfl⟩
 ·first|exact .refl _|exact .drop|exact .fin|((repeat refine .pick ?_);first|exact .refl _|exact .emp _|exact .fin)
 ·show (⟨S'.val,X.had,X.E⟩:StM) = _
  rw [hv']
theorem plays_app (hX:X.Ok S) (hb:SmallX X S) (hk:o.m.kind = 8) :
  Does prog W f_z0 ⟨[ptr b,.agg ⟨opl o⟩]⟩ (storec b X•stoo X.q S•R) (Ret (PlayQ b X ((stmOf X S).play o.m) R)):=by
 have hpg:=hX.pages
 have hpp:S.val.P.pages = X.p:=hX.p.symm
 have hn:=mod_bd (a:=o.m.n) (show 0 < X.p by omega)
 have ht:=mod_bd (a:=o.m.a) (show (0:Int) < 1000 by decide)
 obtain ⟨T,hT⟩:∃ T,T = S.val.begE (1 + o.m.a % 1000):=⟨_,rfl⟩
 have hTp:T.P.pages = S.val.P.pages:=by
  rw [hT];exact (Bd.begE hb.bd _).pages.trans rfl
 have e:(stmOf X S).play o.m = (true,⟨T,X.had,X.E⟩):=by
  unfold StM.play
  rw [if_neg (by omega),if_neg (by omega),if_neg (by omega),if_neg (by omega),if_neg (by omega),if_neg (by omega),if_pos hk,hT]
  rfl
 rw [e]
 refine f_z0.does _ _ ?_
 conv=>whnf
 repeat' (first
  | (refine spl_dec (fun hd=>?_) (fun hd=>?_) <;> first|(exfalso;omega)|(conv=>whnf))
  | ((first|refine Ld.i ?_|refine Ar.i64 (by omega) ?_);conv=>whnf)
  | (intro blk hblk;conv=>whnf)
  | (refine Sub.on (by first|exact .refl _|exact .drop|exact .fin|((repeat refine .pick ?_);first|exact .refl _|exact .emp _|exact .fin)) ?_;conv=>whnf)
  | (refine DrawK.introH tab_ok mixed 10 f_z0.last1 f_z0.plan1 _ rfl (by kernel_rfl) (Sub.of (by first|exact .refl _|exact .drop|exact .fin|((repeat refine .pick ?_);first|exact .refl _|exact .emp _|exact .fin))) ?_;conv=>whnf)
  | (refine CallK.ret f_zf.ok (qbrought_spec (by first|rfl|assumption|omega|decide|(simp;done)|(simp;omega)|(simp at *;omega))) ?_;rintro v G ⟨rfl,rfl⟩;conv=>whnf)
  | (refine DrawK.introH tab_ok mixed 133 f_z0.last26 f_z0.plan26 _ rfl (by kernel_rfl) (Sub.of (by first|exact .refl _|exact .drop|exact .fin|((repeat refine .pick ?_);first|exact .refl _|exact .emp _|exact .fin))) ?_;conv=>whnf))
 refine CallK.imp (H':=stoo X.q S•pts blk (.cells ⟨opl o⟩ t_z42)•storec b X•R) (by first|exact .refl _|exact .drop|exact .fin|((repeat refine .pick ?_);first|exact .refl _|exact .emp _|exact .fin)) ?_
 refine CallK.ret f_zo.ok (sbegE_spec (p:=X.q) (S:=S) (t:=1 + o.m.a % 1000) hX.l hX.sto (by omega)) ?_
 rw [← hT]
 rintro v G ⟨S',hS',hs',hv',rfl⟩
 conv=>whnf
 skip
 refine ⟨_,_,rfl,?_,X,S',hX.next hS' hs' (by rw [hv'];exact hTp),.refl X,?_,rfl,rfl⟩
 ·first|exact .refl _|exact .drop|exact .fin|((repeat refine .pick ?_);first|exact .refl _|exact .emp _|exact .fin)
 ·show (⟨S'.val,X.had,X.E⟩:StM) = _
  rw [hv']
theorem plays_force (hX:X.Ok S) (hb:SmallX X S) (hk:o.m.kind = 9) :
  Does prog W f_z0 ⟨[ptr b,.agg ⟨opl o⟩]⟩ (storec b X•stoo X.q S•R) (Ret (PlayQ b X ((stmOf X S).play o.m) R)):=by
 have hpg:=hX.pages
 have hpp:S.val.P.pages = X.p:=hX.p.symm
 have hn:=mod_bd (a:=o.m.n) (show 0 < X.p by omega)
 have hlen:=hX.sto.L.len
 have hcnt:=hX.sto.L.cnt
 have erl:S.val.L.recs.length = S.L.recs.length:=List.length_map ..
 obtain ⟨T,hT⟩:∃ T,T = S.val.force (o.m.a % (S.L.recs.length + 1)):=⟨_,rfl⟩
 have hTp:T.2.P.pages = S.val.P.pages:=by
  rw [hT];exact (Bd.force hb.bd _).pages.trans rfl
 have e:(stmOf X S).play o.m = (true,⟨T.2,X.had,X.E⟩):=by
  unfold StM.play
  rw [if_neg (by omega),if_neg (by omega),if_neg (by omega),if_neg (by omega),if_neg (by omega),if_neg (by omega),if_neg (by omega),if_pos hk,hT,← erl]
  rfl
 rw [e]
 refine f_z0.does _ _ ?_
 conv=>whnf
 repeat' (first
  | (refine CallK.ret f_zf.ok (qbrought_spec (x:=o.m.n) (n:=X.p) (by omega)) ?_;rintro v G ⟨rfl,rfl⟩;conv=>whnf)
  | (refine CallK.ret f_zf.ok (qbrought_spec (x:=o.m.a) (n:=S.L.recs.length + 1) (by omega)) ?_;rintro v G ⟨rfl,rfl⟩;conv=>whnf)
  | (refine CallK.ret f_zs.ok (slast_spec (p:=X.q) (S:=S) hX.l) ?_;rintro v G ⟨rfl,rfl⟩;conv=>whnf)
  | (refine spl_dec (fun hd=>?_) (fun hd=>?_) <;> first|(exfalso;omega)|(conv=>whnf))
  | ((first|refine Ld.i ?_|refine Ar.i64 (by omega) ?_);conv=>whnf)
  | (intro blk hblk;conv=>whnf)
  | (refine Sub.on (by first|exact .refl _|exact .drop|exact .fin|((repeat refine .pick ?_);first|exact .refl _|exact .emp _|exact .fin)) ?_;conv=>whnf)
  | (refine DrawK.introH tab_ok mixed 10 f_z0.last1 f_z0.plan1 _ rfl (by kernel_rfl) (Sub.of (by first|exact .refl _|exact .drop|exact .fin|((repeat refine .pick ?_);first|exact .refl _|exact .emp _|exact .fin))) ?_;conv=>whnf)
  | (refine DrawK.introH tab_ok mixed 145 f_z0.last28 f_z0.plan28 _ rfl (by kernel_rfl) (Sub.of (by first|exact .refl _|exact .drop|exact .fin|((repeat refine .pick ?_);first|exact .refl _|exact .emp _|exact .fin))) ?_;conv=>whnf))
 refine CallK.imp (H':=stoo X.q S•pts blk (.cells ⟨opl o⟩ t_z42)•storec b X•R) (by first|exact .refl _|exact .drop|exact .fin|((repeat refine .pick ?_);first|exact .refl _|exact .emp _|exact .fin)) ?_
 refine CallK.ret f_z4.ok (sforce_spec (p:=X.q) (S:=S) hX.l hX.sto) ?_
 rw [← hT]
 rintro v G ⟨S',hS',hs',hv',rfl⟩
 conv=>whnf
 skip
 refine ⟨_,_,rfl,?_,X,S',hX.next hS' hs' (by rw [hv'];exact hTp),.refl X,?_,rfl,rfl⟩
 ·first|exact .refl _|exact .drop|exact .fin|((repeat refine .pick ?_);first|exact .refl _|exact .emp _|exact .fin)
 ·show (⟨S'.val,X.had,X.E⟩:StM) = _
  rw [hv']
theorem plays_else (hX:X.Ok S) (hk:o.m.kind ≠ 1 ∧ o.m.kind ≠ 2 ∧ o.m.kind ≠ 3 ∧ o.m.kind ≠ 4 ∧ o.m.kind ≠ 5 ∧ o.m.kind ≠ 6 ∧ o.m.kind ≠ 8 ∧ o.m.kind ≠ 9) :
  Does prog W f_z0 ⟨[ptr b,.agg ⟨opl o⟩]⟩ (storec b X•stoo X.q S•R) (Ret (PlayQ b X ((stmOf X S).play o.m) R)):=by
 have hpg:=hX.pages
 have hn:=mod_bd (a:=o.m.n) (show 0 < X.p by omega)
 have e:(stmOf X S).play o.m = (true,⟨S.val,X.had,X.E⟩):=by
  unfold StM.play
  rw [if_neg (by omega),if_neg (by omega),if_neg (by omega),if_neg (by omega),if_neg (by omega),if_neg (by omega),if_neg (by omega),if_neg (by omega)]
  rfl
 rw [e]
 refine f_z0.does _ _ ?_
 conv=>whnf
 repeat' (first
  | (refine spl_dec (fun hd=>?_) (fun hd=>?_) <;> first|(exfalso;omega)|(conv=>whnf))
  | (refine Ld.i ?_;conv=>whnf)
  | (intro blk hblk;conv=>whnf)
  | (refine DrawK.introH tab_ok mixed 10 f_z0.last1 f_z0.plan1 _ rfl (by kernel_rfl) (Sub.of (by first|exact .refl _|exact .drop|exact .fin|((repeat refine .pick ?_);first|exact .refl _|exact .emp _|exact .fin))) ?_;conv=>whnf)
  | (refine CallK.ret f_zf.ok (qbrought_spec (by first|rfl|assumption|omega|decide|(simp;done)|(simp;omega)|(simp at *;omega))) ?_;rintro v G ⟨rfl,rfl⟩;conv=>whnf))
 refine ⟨_,_,rfl,?_,X,S,hX,.refl X,rfl,rfl,rfl⟩
 first|exact .refl _|exact .drop|exact .fin|((repeat refine .pick ?_);first|exact .refl _|exact .emp _|exact .fin)
theorem plays_evict [le:LaidE W] [lc:LaidC W] [lp:LaidP W] [oc:OldC W R] (hX:X.Ok S) (hb:SmallX X S) (hk:o.m.kind = 5) :
  Does prog W f_z0 ⟨[ptr b,.agg ⟨opl o⟩]⟩ (storec b X•stoo X.q S•R) (Ret (PlayQ b X ((stmOf X S).play o.m) R)):=by
 have hpg:=hX.pages
 have hpp:S.val.P.pages = X.p:=hX.p.symm
 have hn:=mod_bd (a:=o.m.n) (show 0 < X.p by omega)
 obtain ⟨n,hnn⟩:∃ n,n = o.m.n % X.p:=⟨_,rfl⟩
 obtain ⟨T,hT⟩:∃ T,T = S.val.evict n:=⟨_,rfl⟩
 have hTp:T.2.P.pages = S.val.P.pages:=by
  rw [hT];exact (Bd.evict hb.bd n).pages.trans rfl
 obtain ⟨r,i,x,hr,hi,hx,hlp,hx1,hx2⟩:=hX.last (n:=n) (by rw [hnn];exact hn)
 have e:(stmOf X S).play o.m = (decide (T.1 = 0) || downE T.1 T.2 || decide (T.1 = 100) || decide (T.1 = 101),⟨T.2,X.had,if T.1 = 0 then X.E.set n.toNat x.m.lsn else X.E⟩):=by
  unfold StM.play
  rw [if_neg (by omega),if_neg (by omega),if_neg (by omega),if_neg (by omega),if_pos hk,hT,← hlp,hnn,← hpp]
  rfl
 rw [e]
 have hm:=List.mem_of_getElem? hr
 have hrl:=hb.row hm
 refine f_z0.does _ _ ?_
 conv=>whnf
 repeat' (first
  | (refine spl_dec (fun hd=>?_) (fun hd=>?_) <;> first|(exfalso;omega)|(conv=>whnf))
  | (refine Ld.i ?_;conv=>whnf)
  | (intro blk hblk;conv=>whnf)
  | (refine DrawK.introH tab_ok mixed 10 f_z0.last1 f_z0.plan1 _ rfl (by kernel_rfl) (Sub.of (by first|exact .refl _|exact .drop|exact .fin|((repeat refine .pick ?_);first|exact .refl _|exact .emp _|exact .fin))) ?_;conv=>whnf)
  | (refine CallK.ret f_zf.ok (qbrought_spec (by first|rfl|assumption|omega|decide|(simp;done)|(simp;omega)|(simp at *;omega))) ?_;rintro v G ⟨rfl,rfl⟩;conv=>whnf))
 rw [← hnn]
 refine CallK.ret f_z33.ok (sevict_spec (S:=S) hX.sto) ?_
 rw [← hT]
 rintro v G ⟨S',hS',hs',hv',⟨h0,rfl,rfl⟩|⟨h0,k,rfl,rfl⟩⟩
 ·have hlt:n.toNat < X.E.length:=by have:=hX.el;omega
  obtain ⟨z,hz⟩:∃ z,X.E[n.toNat]? = some z:=⟨_,List.getElem?_eq_getElem hlt⟩
  haveI cE:∀ Q:HProp,RowC W (storec b X•Q) X.da 1 ints X.E:=fun Q=>rowE
  rw [if_pos h0,h0]
  conv=>whnf
  repeat' (first
   | (refine Ld.i ?_;conv=>whnf)
   | (refine DrawK.introH tab_ok mixed 102 f_z0.last23 f_z0.plan23 _ rfl (by kernel_rfl) (Sub.of (by first|exact .refl _|exact .drop|exact .fin|((repeat refine .pick ?_);first|exact .refl _|exact .emp _|exact .fin))) ?_;conv=>whnf))
  refine CallK.imp (H':=storec b X•pts blk (.cells ⟨opl o⟩ t_z42)•stoo X.q S'•R) (by first|exact .refl _|exact .drop|exact .fin|((repeat refine .pick ?_);first|exact .refl _|exact .emp _|exact .fin)) ?_
  refine CallK.ret f_z1f.ok (qlast_spec (by omega) hr hi hx (by omega)) ?_
  rintro v G ⟨rfl,rfl⟩
  conv=>whnf
  repeat' (first
   | (refine IxS.r (xs:=X.E) (i:=n.toNat) (by omega) rfl hlt (fun ab off ha=>?_);conv=>whnf)
   | (refine Sub.on (by first|exact .refl _|exact .drop|exact .fin|((repeat refine .pick ?_);first|exact .refl _|exact .emp _|exact .fin)) ?_;conv=>whnf))
  have hSp:S'.P.pages = S.P.pages:=by have h9:=hTp;rw [← hv'] at h9;exact h9
  refine St.done ha hz ?_
  conv=>whnf
  skip
  refine ⟨_,_,rfl,?_,{ X with E:=X.E.set n.toNat x.m.lsn },S',⟨hS',hs'.d.trans hX.d,hs'.l.trans hX.l,hX.p.trans hSp.symm,hX.had,by show ((X.E.set n.toNat x.m.lsn).length:Int) = X.p;rw [List.length_set];exact hX.el⟩,⟨rfl,rfl,rfl,rfl,rfl,rfl⟩,?_,?_,rfl⟩
  ·first|exact .refl _|exact .drop|exact .fin|((repeat refine .pick ?_);first|exact .refl _|exact .emp _|exact .fin)
  ·show (⟨S'.val,X.had,X.E.set n.toNat x.m.lsn⟩:StM) = _
   rw [hv']
  ·simp
 ·conv=>whnf
  skip
  refine CallK.imp (H':=fltc k wEvict n T.1•stoo X.q S'•storec b X•R) (by first|exact .refl _|exact .drop|exact .fin|((repeat refine .pick ?_);first|exact .refl _|exact .emp _|exact .fin)) ?_
  refine CallK.ret f_zr.ok (ends_flt h0 (hs'.d.trans hX.d)) ?_
  rintro v G ⟨rfl,rfl⟩
  rw [if_neg h0,decide_eq_false h0,hv',Bool.false_or]
  have hfin:∀ v:Bool,v = (downE T.1 T.2 || decide (T.1 = 100) || decide (T.1 = 101)) → Ret (PlayQ b X (downE T.1 T.2 || decide (T.1 = 100) || decide (T.1 = 101),⟨T.2,X.had,X.E⟩) R) (.returned (.bool v)) (fltc k wEvict n T.1•stoo X.q S'•storec b X•R):=fun v hv=>by
   refine ⟨_,_,rfl,?_,X,S',hX.next hS' hs' (by rw [hv'];exact hTp),.refl X,?_,by rw [hv],rfl⟩
   ·first|exact .refl _|exact .drop|exact .fin|((repeat refine .pick ?_);first|exact .refl _|exact .emp _|exact .fin)
   ·show (⟨S'.val,X.had,X.E⟩:StM) = _
    rw [hv']
  cases hde:downE T.1 T.2 with
  | true =>
   rw [hde] at hfin
   conv=>whnf
   skip
   exact hfin true rfl
  | false =>
   rw [hde] at hfin
   by_cases c100:T.1 = 100
   ·conv=>whnf
    repeat' (first
     | (refine CallK.ret f_zx.ok (code_fault (e:=T.1)) ?_;rintro v G ⟨rfl,rfl⟩;conv=>whnf)
     | (refine CallK.ret f_ze.ok qnum_spec ?_;rintro v G ⟨rfl,rfl⟩;conv=>whnf)
     | (refine spl_dec (fun hd=>?_) (fun hd=>?_) <;> first|(exfalso;omega)|(conv=>whnf)))
    exact hfin true (by simp [c100])
   ·conv=>whnf
    repeat' (first
     | (refine CallK.ret f_zx.ok (code_fault (e:=T.1)) ?_;rintro v G ⟨rfl,rfl⟩;conv=>whnf)
     | (refine CallK.ret f_ze.ok qnum_spec ?_;rintro v G ⟨rfl,rfl⟩;conv=>whnf)
     | (refine spl_dec (fun hd=>?_) (fun hd=>?_) <;> first|(exfalso;omega)|(conv=>whnf)))
    exact hfin _ (by simp [c100])
theorem plays_flush [le:LaidE W] [lc:LaidC W] [lp:LaidP W] [oc:OldC W R] (hX:X.Ok S) (hb:SmallX X S) (hk:o.m.kind = 6) :
  Does prog W f_z0 ⟨[ptr b,.agg ⟨opl o⟩]⟩ (storec b X•stoo X.q S•R) (Ret (PlayQ b X ((stmOf X S).play o.m) R)):=by
 have hpg:=hX.pages
 have hpp:S.val.P.pages = X.p:=hX.p.symm
 have hn:=mod_bd (a:=o.m.n) (show 0 < X.p by omega)
 obtain ⟨n,hnn⟩:∃ n,n = o.m.n % X.p:=⟨_,rfl⟩
 obtain ⟨T,hT⟩:∃ T,T = S.val.flush n:=⟨_,rfl⟩
 have hTp:T.2.P.pages = S.val.P.pages:=by
  rw [hT];exact (Bd.flush hb.bd n).pages.trans rfl
 obtain ⟨r,i,x,hr,hi,hx,hlp,hx1,hx2⟩:=hX.last (n:=n) (by rw [hnn];exact hn)
 have e:(stmOf X S).play o.m = (decide (T.1 = 0) || downE T.1 T.2 || decide (T.1 = 100) || decide (T.1 = 101),⟨T.2,X.had,if T.1 = 0 then X.E.set n.toNat x.m.lsn else X.E⟩):=by
  unfold StM.play
  rw [if_neg (by omega),if_neg (by omega),if_neg (by omega),if_neg (by omega),if_neg (by omega),if_pos hk,hT,← hlp,hnn,← hpp]
  rfl
 rw [e]
 have hm:=List.mem_of_getElem? hr
 have hrl:=hb.row hm
 refine f_z0.does _ _ ?_
 conv=>whnf
 repeat' (first
  | (refine spl_dec (fun hd=>?_) (fun hd=>?_) <;> first|(exfalso;omega)|(conv=>whnf))
  | (refine Ld.i ?_;conv=>whnf)
  | (intro blk hblk;conv=>whnf)
  | (refine DrawK.introH tab_ok mixed 10 f_z0.last1 f_z0.plan1 _ rfl (by kernel_rfl) (Sub.of (by first|exact .refl _|exact .drop|exact .fin|((repeat refine .pick ?_);first|exact .refl _|exact .emp _|exact .fin))) ?_;conv=>whnf)
  | (refine CallK.ret f_zf.ok (qbrought_spec (by first|rfl|assumption|omega|decide|(simp;done)|(simp;omega)|(simp at *;omega))) ?_;rintro v G ⟨rfl,rfl⟩;conv=>whnf))
 rw [← hnn]
 refine CallK.ret f_z3c.ok (sflush_spec (S:=S) hX.sto) ?_
 rw [← hT]
 rintro v G ⟨S',hS',hs',hv',⟨h0,rfl,rfl⟩|⟨h0,k,rfl,rfl⟩⟩
 ·have hlt:n.toNat < X.E.length:=by have:=hX.el;omega
  obtain ⟨z,hz⟩:∃ z,X.E[n.toNat]? = some z:=⟨_,List.getElem?_eq_getElem hlt⟩
  haveI cE:∀ Q:HProp,RowC W (storec b X•Q) X.da 1 ints X.E:=fun Q=>rowE
  rw [if_pos h0,h0]
  conv=>whnf
  repeat' (first
   | (refine Ld.i ?_;conv=>whnf)
   | (refine DrawK.introH tab_ok mixed 102 f_z0.last23 f_z0.plan23 _ rfl (by kernel_rfl) (Sub.of (by first|exact .refl _|exact .drop|exact .fin|((repeat refine .pick ?_);first|exact .refl _|exact .emp _|exact .fin))) ?_;conv=>whnf))
  refine CallK.imp (H':=storec b X•pts blk (.cells ⟨opl o⟩ t_z42)•stoo X.q S'•R) (by first|exact .refl _|exact .drop|exact .fin|((repeat refine .pick ?_);first|exact .refl _|exact .emp _|exact .fin)) ?_
  refine CallK.ret f_z1f.ok (qlast_spec (by omega) hr hi hx (by omega)) ?_
  rintro v G ⟨rfl,rfl⟩
  conv=>whnf
  repeat' (first
   | (refine IxS.r (xs:=X.E) (i:=n.toNat) (by omega) rfl hlt (fun ab off ha=>?_);conv=>whnf)
   | (refine Sub.on (by first|exact .refl _|exact .drop|exact .fin|((repeat refine .pick ?_);first|exact .refl _|exact .emp _|exact .fin)) ?_;conv=>whnf))
  have hSp:S'.P.pages = S.P.pages:=by have h9:=hTp;rw [← hv'] at h9;exact h9
  refine St.done ha hz ?_
  conv=>whnf
  skip
  refine ⟨_,_,rfl,?_,{ X with E:=X.E.set n.toNat x.m.lsn },S',⟨hS',hs'.d.trans hX.d,hs'.l.trans hX.l,hX.p.trans hSp.symm,hX.had,by show ((X.E.set n.toNat x.m.lsn).length:Int) = X.p;rw [List.length_set];exact hX.el⟩,⟨rfl,rfl,rfl,rfl,rfl,rfl⟩,?_,?_,rfl⟩
  ·first|exact .refl _|exact .drop|exact .fin|((repeat refine .pick ?_);first|exact .refl _|exact .emp _|exact .fin)
  ·show (⟨S'.val,X.had,X.E.set n.toNat x.m.lsn⟩:StM) = _
   rw [hv']
  ·simp
 ·conv=>whnf
  skip
  refine CallK.imp (H':=fltc k wFlush n T.1•stoo X.q S'•storec b X•R) (by first|exact .refl _|exact .drop|exact .fin|((repeat refine .pick ?_);first|exact .refl _|exact .emp _|exact .fin)) ?_
  refine CallK.ret f_zr.ok (ends_flt h0 (hs'.d.trans hX.d)) ?_
  rintro v G ⟨rfl,rfl⟩
  rw [if_neg h0,decide_eq_false h0,hv',Bool.false_or]
  have hfin:∀ v:Bool,v = (downE T.1 T.2 || decide (T.1 = 100) || decide (T.1 = 101)) → Ret (PlayQ b X (downE T.1 T.2 || decide (T.1 = 100) || decide (T.1 = 101),⟨T.2,X.had,X.E⟩) R) (.returned (.bool v)) (fltc k wFlush n T.1•stoo X.q S'•storec b X•R):=fun v hv=>by
   refine ⟨_,_,rfl,?_,X,S',hX.next hS' hs' (by rw [hv'];exact hTp),.refl X,?_,by rw [hv],rfl⟩
   ·first|exact .refl _|exact .drop|exact .fin|((repeat refine .pick ?_);first|exact .refl _|exact .emp _|exact .fin)
   ·show (⟨S'.val,X.had,X.E⟩:StM) = _
    rw [hv']
  cases hde:downE T.1 T.2 with
  | true =>
   rw [hde] at hfin
   conv=>whnf
   skip
   exact hfin true rfl
  | false =>
   rw [hde] at hfin
   by_cases c100:T.1 = 100
   ·conv=>whnf
    repeat' (first
     | (refine CallK.ret f_zx.ok (code_fault (e:=T.1)) ?_;rintro v G ⟨rfl,rfl⟩;conv=>whnf)
     | (refine CallK.ret f_ze.ok qnum_spec ?_;rintro v G ⟨rfl,rfl⟩;conv=>whnf)
     | (refine spl_dec (fun hd=>?_) (fun hd=>?_) <;> first|(exfalso;omega)|(conv=>whnf)))
    exact hfin true (by simp [c100])
   ·conv=>whnf
    repeat' (first
     | (refine CallK.ret f_zx.ok (code_fault (e:=T.1)) ?_;rintro v G ⟨rfl,rfl⟩;conv=>whnf)
     | (refine CallK.ret f_ze.ok qnum_spec ?_;rintro v G ⟨rfl,rfl⟩;conv=>whnf)
     | (refine spl_dec (fun hd=>?_) (fun hd=>?_) <;> first|(exfalso;omega)|(conv=>whnf)))
    exact hfin _ (by simp [c100])
end
end Go.Proofs.YtbcedpankkdfoaaGreatDoor
