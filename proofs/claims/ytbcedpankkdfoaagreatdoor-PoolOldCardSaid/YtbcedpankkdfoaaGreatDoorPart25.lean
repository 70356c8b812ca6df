/- A pool, its log, its disk, and where they lie; the calls between layers in one piece. Conditions: in each statement. -/
import Derived.Test.YtbcedpankkdfoaaGreatDoorPart23
import Derived.Test.YtbcedpankkdfoaaGreatDoorPart24
import Derived.Test.YtbcedpankkdfoaaGreatDoorPart19
import Derived.Test.YtbcedpankkdfoaaGreatDoorPart17
namespace Go.SL.Pool
open Go Go.SL Go.SL.Sec Go.SL.Fld Go.SL.Rec Go.SL.Twn Go.SL.Pg Go.SL.Mst
structure FrX where
 b:Nat
 pg:PgX
 pins:Int
 dirty:Bool
 since:Int
 used:Int
def FrX.val (f:FrX):FrM:=⟨f.pg.m,f.pins,f.dirty,f.since,f.used⟩
structure PoolX where
 d:Nat
 l:Nat
 pages:Int
 log:Int
 frames:Int
 r:Nat
 held:List (Int × FrX)
 clock:Int
 ended:Bool
def PoolX.val (X:PoolX):PoolM:=⟨X.pages,X.log,X.frames,mapv FrX.val X.held,X.clock,X.ended⟩
def PoolX.gone (X:PoolX):PoolX:={ X with held:=[],ended:=true }
def PoolX.put (X:PoolX) (n:Int) (f:FrX):PoolX:={ X with held:=updKV n f X.held }
def PoolX.use (X:PoolX) (n:Int) (f:FrX):PoolX:={ X with held:=updKV n { f with used:=X.clock + 1 } X.held,clock:=X.clock + 1 }
def PoolX.del (X:PoolX) (n:Int):PoolX:={ X with held:=delKV n X.held }
theorem put_val (X:PoolX) (n:Int) (f:FrX):(X.put n f).val = X.val.put n f.val:=by unfold PoolX.put PoolX.val PoolM.put;dsimp only;rw [mapv_upd]
theorem use_val (X:PoolX) (n:Int) (f:FrX):(X.use n f).val = X.val.use n f.val:=by unfold PoolX.use PoolX.val PoolM.use;dsimp only;rw [mapv_upd];rfl
theorem del_val (X:PoolX) (n:Int):(X.del n).val = X.val.del n:=by unfold PoolX.del PoolX.val PoolM.del;dsimp only;rw [mapv_del]
theorem look_val {X:PoolX} {n:Int} {f:FrX} (h:X.held.lookup n = some f):X.val.held.lookup n = some f.val:=by
 show (mapv FrX.val X.held).lookup n = _
 rw [mapv_lookup,h];rfl
theorem look_none {X:PoolX} {n:Int} (h:X.held.lookup n = none):X.val.held.lookup n = none:=by
 show (mapv FrX.val X.held).lookup n = _
 rw [mapv_lookup,h];rfl
end Go.SL.Pool
namespace Go.Proofs.YtbcedpankkdfoaaGreatDoor
open Go Go.SL Go.SL.Sec Go.SL.Fld Go.SL.Pts Go.SL.Rec Go.SL.Twn Go.SL.Pg Go.SL.Mst Go.SL.Pool
structure StoX where
 P:PoolX
 L:LogX
 D:DevX
def StoX.val (S:StoX):Sto:=⟨S.P.val,S.L.val,S.D.val⟩
structure StoX.Ok (S:StoX):Prop where
 val:S.val.Ok
 L:S.L.Ok
 D:S.D.Ok
 ld:S.L.d = S.P.d
structure StoX.Same (S S':StoX):Prop where
 l:S'.P.l = S.P.l
 d:S'.P.d = S.P.d
theorem StoX.Same.refl (S:StoX):S.Same S:=⟨rfl,rfl⟩
theorem StoX.Same.trans {A B C:StoX} (h:A.Same B) (k:B.Same C):A.Same C:=⟨k.l.trans h.l,k.d.trans h.d⟩
theorem StoX.Ok.ps {S:StoX} (h:S.Ok):S.D.ps.length = 0:=by
 have:=h.val.q
 have e:S.val.D.q = S.D.ps.map fun p=>(p.sec,p.b):=rfl
 rw [e] at this
 simpa using congrArg List.length this
theorem StoX.Ok.nd {S:StoX} (h:S.Ok):(S.P.held.map (·.1)).Nodup:=by
 have:=h.val.nd
 have e:S.val.P.held.map (·.1) = S.P.held.map (·.1):=mapv_keys _ _
 rwa [e] at this
abbrev frv (f:FrX):List Value:=[.int .i64 f.pg.m.num,.int .i64 f.pg.m.lsn,.slice f.pg.ca f.pg.m.C.length f.pg.cc,.slice f.pg.ga f.pg.m.G.length f.pg.gc,.int .i64 f.pins,.bool f.dirty,.int .i64 f.since,.int .i64 f.used]
def frc (f:FrX):HProp:=pts f.b (.cells ⟨frv f⟩ t_pool_frame)•pgc f.pg
theorem frc_eq (f:FrX) (R:HProp):(frc f•R) = (pts f.b (.cells ⟨frv f⟩ t_pool_frame)•pgc f.pg•R):=by unfold frc;rw [star_assoc]
abbrev poolv (X:PoolX):List Value:=[ptr X.d,ptr X.l,.int .i64 X.pages,.int .i64 X.log,.int .i64 X.frames,.map (some X.r),.int .i64 X.clock,.bool X.ended]
def fptr (f:FrX):Value:=ptr f.b
def poolo (p:Nat) (X:PoolX):HProp:=pts p (.cells ⟨poolv X⟩ t_pool_Pool)•mapc X.r .i64 (mapv fptr X.held)•bigM (fun _ f=>frc f) X.held
theorem poolo_eq (p:Nat) (X:PoolX) (R:HProp):(poolo p X•R) = (pts p (.cells ⟨poolv X⟩ t_pool_Pool)•mapc X.r .i64 (mapv fptr X.held)•bigM (fun _ f=>frc f) X.held•R):=by
 unfold poolo;simp only [star_assoc]
def stoo (p:Nat) (S:StoX):HProp:=poolo p S.P•logo S.P.l S.L•devo S.P.d S.D
theorem stoo_eq (p:Nat) (S:StoX) (R:HProp):(stoo p S•R) = (poolo p S.P•logo S.P.l S.L•devo S.P.d S.D•R):=by
 unfold stoo;simp only [star_assoc]
section
variable {W:World} {R:HProp} {p:Nat} {X:PoolX}
instance (priority:=100) RdC.poolo {k:Nat} {v:Value} [LAt (poolv X) k v]:RdC W (poolo p X•R) ⟨p,k,none⟩ v:=by rw [poolo_eq];infer_instance
instance (priority:=100) RdLC.poolo {k n:Nat} {vs:List Value} [LSub (poolv X) k n vs]:RdLC W (poolo p X•R) p k n vs:=by rw [poolo_eq];infer_instance
instance (priority:=100) PtsC.poolo:PtsC (poolo p X•R) p (.cells ⟨poolv X⟩ t_pool_Pool) (mapc X.r .i64 (mapv fptr X.held)•bigM (fun _ f=>frc f) X.held•R):=⟨⟨by rw [poolo_eq]⟩⟩
instance (priority:=100) MapC.poolo:MapC (poolo p X•R) X.r .i64 (mapv fptr X.held) (pts p (.cells ⟨poolv X⟩ t_pool_Pool)•bigM (fun _ f=>frc f) X.held•R):=⟨⟨by rw [poolo_eq,star_left_comm (pts p _)]⟩⟩
theorem bigM_at {n:Int} {f:FrX} (hnd:(X.held.map (·.1)).Nodup) (h:X.held.lookup n = some f):(bigM (fun _ f=>frc f) X.held•R) = (pts f.b (.cells ⟨frv f⟩ t_pool_frame)•pgc f.pg•bigM (fun _ f=>frc f) (delKV n X.held)•R):=by
 rw [bigM_take _ n f X.held hnd h,star_assoc,frc_eq]
theorem rd_frame {n:Int} {f:FrX} (hnd:(X.held.map (·.1)).Nodup) (h:X.held.lookup n = some f) {k:Nat} {v:Value} [LAt (frv f) k v]:RdC W (poolo p X•R) ⟨f.b,k,none⟩ v:=by rw [poolo_eq,bigM_at hnd h];infer_instance
theorem rdl_frame {n:Int} {f:FrX} (hnd:(X.held.map (·.1)).Nodup) (h:X.held.lookup n = some f) {k m:Nat} {vs:List Value} [LSub (frv f) k m vs]:RdLC W (poolo p X•R) f.b k m vs:=by rw [poolo_eq,bigM_at hnd h];infer_instance
theorem rowC_frame {n:Int} {f:FrX} (hnd:(X.held.map (·.1)).Nodup) (h:X.held.lookup n = some f):RowC W (poolo p X•R) f.pg.ca 5 cntv f.pg.m.C:=by rw [poolo_eq,bigM_at hnd h,pgc_eq];infer_instance
theorem rowG_frame {n:Int} {f:FrX} (hnd:(X.held.map (·.1)).Nodup) (h:X.held.lookup n = some f):RowC W (poolo p X•R) f.pg.ga 2 grpv f.pg.m.G:=by rw [poolo_eq,bigM_at hnd h,pgc_eq];infer_instance
end
theorem pplace_spec {W:World} {H R:HProp} {p:Nat} {X:PoolX} {n:Int} [t:ObjC poolo H p X R]:Does prog W f_zg ⟨[ptr p,.int .i64 n]⟩ H (Ret fun v G=>v = .int .i64 (X.val.place n) ∧ G = H):=by
 rw [t.h.eq]
 unfold PoolM.place
 have e1:X.val.ended = X.ended:=rfl
 have e2:X.val.pages = X.pages:=rfl
 rw [e1,e2]
 refine f_zg.does _ _ ?_
 conv=>whnf
 cases he:X.ended with
 | true =>
  rw [if_pos rfl]
  repeat' (first
   | ((first|refine spl_t he ?_|refine Ld.i ?_);conv=>whnf))
  refine Ret.eq rfl ?_
  first|exact .refl _|exact .drop|exact .fin|((repeat refine .pick ?_);first|exact .refl _|exact .emp _|exact .fin)
 | false =>
  rw [if_neg (by decide)]
  by_cases c:n < 0 ∨ n ≥ X.pages
  ·rw [if_pos c]
   repeat' (first
    | (refine spl_f he ?_;conv=>whnf)
    | (refine spl_dec (fun hd=>?_) (fun hd=>?_) <;> first|(exfalso;omega)|(conv=>whnf))
    | (refine Ld.i ?_;conv=>whnf))
   all_goals
    refine Ret.eq rfl ?_
    first|exact .refl _|exact .drop|exact .fin|((repeat refine .pick ?_);first|exact .refl _|exact .emp _|exact .fin)
  ·rw [if_neg c]
   repeat' (first
    | (refine spl_f he ?_;conv=>whnf)
    | (refine spl_dec (fun hd=>?_) (fun hd=>?_) <;> first|(exfalso;omega)|(conv=>whnf))
    | (refine Ld.i ?_;conv=>whnf))
   refine Ret.eq rfl ?_
   first|exact .refl _|exact .drop|exact .fin|((repeat refine .pick ?_);first|exact .refl _|exact .emp _|exact .fin)
theorem pseen_spec {W:World} {H R:HProp} {p:Nat} {X:PoolX} {e:Int} {v:Value} [le:LaidE W] [oc:OldC W H] [t:ObjC poolo H p X R] (h:ErrV e v H) :
  Does prog W f_z1x ⟨[ptr p,v]⟩ H (Ret fun u G=>u = .int .i64 e ∧ G = (poolo p (if e = 40 then X.gone else X)•R)):=by
 have hc:=code_any (W:=W) h
 rw [t.h.eq] at hc ⊢
 refine f_z1x.does _ _ ?_
 conv=>whnf
 by_cases c:e = 40
 ·subst c
  rw [if_pos rfl]
  repeat' (first
   | (refine CallK.ret f_zx.ok hc ?_;rintro v G ⟨rfl,rfl⟩;conv=>whnf)
   | ((first|refine Ld.i ?_|refine St.i ⟨rfl,rfl⟩ (List.cons_ne_nil _ _) ?_|refine OpX.clr tab_ok rfl rfl ?_);conv=>whnf))
  refine ⟨_,_,rfl,?_,rfl,rfl⟩
  rw [poolo_eq]
  unfold PoolX.gone mapv
  show Imp _ (_•mapc X.r .i64 []•emp•R)
  rw [emp_star]
  first|exact .refl _|exact .drop|exact .fin|((repeat refine .pick ?_);first|exact .refl _|exact .emp _|exact .fin)
 ·rw [if_neg c]
  repeat' (first
   | (refine CallK.ret f_zx.ok hc ?_;rintro v G ⟨rfl,rfl⟩;conv=>whnf)
   | (rw [decide_eq_false c];conv=>whnf))
  refine Ret.eq rfl ?_
  first|exact .refl _|exact .drop|exact .fin|((repeat refine .pick ?_);first|exact .refl _|exact .emp _|exact .fin)
theorem puse_spec {W:World} {R:HProp} {p:Nat} {X:PoolX} {n:Int} {f:FrX} (hnd:(X.held.map (·.1)).Nodup) (hf:X.held.lookup n = some f) (hc:0 ≤ X.clock ∧ X.clock ≤ 4000000000000) :
  Does prog W f_z2e ⟨[ptr p,ptr f.b]⟩ (poolo p X•R) (Ret fun u G=>u = .tuple ⟨[]⟩ ∧ G = (poolo p (X.use n f)•R)):=by
 have e1:mapv fptr (updKV n { f with used:=X.clock + 1 } X.held) = mapv fptr X.held:=by
  rw [mapv_upd]
  refine upd_same n _ _ ?_
  rw [mapv_lookup,hf];rfl
 rw [poolo_eq,bigM_at hnd hf]
 refine f_z2e.does _ _ ?_
 conv=>whnf
 repeat' (first
  | ((first|refine Ld.i ?_|refine St.i ⟨rfl,rfl⟩ (List.cons_ne_nil _ _) ?_|refine Ar.i64 (by omega) ?_);conv=>whnf))
 refine ⟨_,_,rfl,?_,rfl,rfl⟩
 rw [poolo_eq]
 unfold PoolX.use
 dsimp only
 rw [e1,bigM_upd _ n _ _ hnd,star_assoc,frc_eq]
 first|exact .refl _|exact .drop|exact .fin|((repeat refine .pick ?_);first|exact .refl _|exact .emp _|exact .fin)
end Go.Proofs.YtbcedpankkdfoaaGreatDoor
/- The log's Force and the twin's Write and Read in one piece, as the pool calls them. Conditions: in each statement. -/
namespace Go.Proofs.YtbcedpankkdfoaaGreatDoor
open Go Go.SL Go.SL.Sec Go.SL.Fld Go.SL.Pts Go.SL.Rec Go.SL.Twn Go.SL.Pg Go.SL.Mst Go.SL.Pool
theorem star_move5 (a b c d e f g:HProp):(a•b•c•d•e•f•g) = (f•a•b•c•d•e•g):=by
 rw [star_left_comm e f,star_left_comm d f,star_left_comm c f,star_left_comm b f,star_left_comm a f]
def ForceQ (l d:Nat) (L:LogX) (T:Int × LogM × Dev) (R:HProp) (v:Value) (G:HProp):Prop :=
 ∃ (L':LogX) (D':DevX) (J:HProp),L'.d = L.d ∧ L'.Ok ∧ D'.Ok ∧ L'.val = T.2.1 ∧ D'.val = T.2.2 ∧ (J = R ∨ ∃ b e,J = (fltc b wForce 0 e•R)) ∧ ErrV T.1 v G ∧ G = (logo l L'•devo d D'•J)
theorem pforce_spec {W:World} {R:HProp} {l d:Nat} {L:LogX} {D:DevX} (hL:L.Ok) (hD:D.Ok) (hq:D.ps.length ≤ 400000) (hd:L.d = d) (hf:0 ≤ L.first ∧ L.first ≤ 8192) (lsn:Int) :
  Does prog W f_z4 ⟨[ptr l,.int .i64 lsn]⟩ (logo l L•devo d D•R) (Ret (ForceQ l d L (L.val.force D.val lsn) R)):=by
 obtain ⟨T,hT⟩:∃ T,T = L.val.force D.val lsn:=⟨_,rfl⟩
 rw [← hT]
 unfold LogM.force at hT
 have er:L.val.err = L.err.map (·.2):=rfl
 have rl:L.val.recs.length = L.recs.length:=List.length_map ..
 have bl:L.val.bys.length = L.bys.length:=List.length_map ..
 have hbl:=hL.bl
 rw [er,rl,show L.val.forced = L.forced from rfl] at hT
 cases he:L.err with
 | some x =>
  obtain ⟨b,z,e⟩:=x
  rw [he,if_pos (show (Option.map (fun x:Nat × Int × Int=>x.2) (some (b,z,e))).isSome = true from rfl)] at hT
  subst hT
  refine (force_down (l:=l) (n:=lsn) he).post fun en w H' hs hQ=>?_
  obtain ⟨v,G,h1,h2,b',h3,h4⟩:=hQ
  refine ⟨H',hs,v,_,h1,h2,L,D,_,rfl,hL,hD,rfl,rfl,.inr ⟨b',40,rfl⟩,.inr ⟨(show (40:Int) ≠ 0 by decide),b',wForce,0,_,h3,h4⟩,?_⟩
  rw [h4,star_left_comm (fltc b' wForce 0 40),star_left_comm (fltc b' wForce 0 40)]
 | none =>
 rw [he,if_neg (by decide)] at hT
 by_cases c1:lsn < 0 ∨ lsn > L.recs.length
 ·rw [if_pos c1] at hT
  subst hT
  refine (force_place (l:=l) he c1).post fun en w H' hs hQ=>?_
  obtain ⟨v,G,h1,h2,b',h3,h4⟩:=hQ
  refine ⟨H',hs,v,_,h1,h2,L,D,_,rfl,hL,hD,rfl,rfl,.inr ⟨b',4,rfl⟩,.inr ⟨(show (4:Int) ≠ 0 by decide),b',wForce,0,_,h3,h4⟩,?_⟩
  rw [h4,star_left_comm (fltc b' wForce 0 4),star_left_comm (fltc b' wForce 0 4)]
 rw [if_neg c1] at hT
 by_cases c2:lsn ≤ L.forced
 ·rw [if_pos c2] at hT
  subst hT
  refine (force_idle (l:=l) he ⟨by omega,c2,by omega⟩).post fun en w H' hs hQ=>?_
  obtain ⟨v,G,h1,h2,h3,h4⟩:=hQ
  exact ⟨H',hs,v,_,h1,h2,L,D,_,rfl,hL,hD,rfl,rfl,.inl rfl,.inl ⟨rfl,h3⟩,h4⟩
 rw [if_neg c2] at hT
 dsimp only at hT
 obtain ⟨m,hm⟩:∃ m:Nat,lsn = ((L.forced + m:Nat):Int):=⟨lsn.toNat - L.forced,by omega⟩
 subst hm
 rw [show ((L.forced + m:Nat):Int).toNat - L.forced = m by omega] at hT
 refine (force_go (l:=l) (d:=d) (m:=m) rfl hL hD (by omega) hd hf he ⟨by omega,by omega⟩).post fun en w H' hs hQ=>?_
 obtain ⟨v,G,h1,h2,X',Y',hx1,hx2,hx3,_,hx5,hx6,hx7⟩:=hQ
 refine ⟨H',hs,v,_,h1,h2,X',Y',_,hx1,hx2,hx3,?_,?_,.inl rfl,?_,hx6⟩
 ·rcases hx7 with ⟨h0,_,h8⟩|⟨h0,b,_,h8⟩
  ·have h0':(wrs L.val.first (L.forced + 1) (L.val.bys.take m) D.val).1 = 0:=h0
   rw [if_pos h0'] at hT
   rw [hT,h8]
   simp [LogX.val,he]
   omega
  ·have h0':¬ (wrs L.val.first (L.forced + 1) (L.val.bys.take m) D.val).1 = 0:=h0
   rw [if_neg h0'] at hT
   rw [hT,h8]
   simp [LogX.val]
 ·rw [hx5,hT]
  split <;> rfl
 ·rcases hx7 with ⟨h0,h8,_⟩|⟨h0,b,h8,h9⟩
  ·have h0':(wrs L.val.first (L.forced + 1) (L.val.bys.take m) D.val).1 = 0:=h0
   rw [if_pos h0'] at hT
   rw [hT]
   exact .inl ⟨rfl,h8⟩
  ·have h0':¬ (wrs L.val.first (L.forced + 1) (L.val.bys.take m) D.val).1 = 0:=h0
   rw [if_neg h0'] at hT
   rw [hT]
   have hG:=hx6
   rw [h9,logo_eq] at hG
   exact .inr ⟨h0',b,wForce,0,_,h8,hG.trans (star_move5 _ _ _ _ _ _ _)⟩
theorem pwr_spec {W:World} {R:HProp} {d:Nat} {D:DevX} {h:Int} {a:Option Addr} {c:Nat} {b:List Int} (ro:RowC W R a 1 bytv b) (hD:D.Ok) (hq:D.ps.length ≤ 300000) (hb:b.length = 1024) (hc:1024 ≤ c) (hy:Byt b) (hh:5 ≤ h ∧ h + 2 ≤ D.val.secs) :
  Does prog W f_z2f ⟨[ptr d,.int .i64 2,.int .i64 h,.slice a 1024 c]⟩ (devo d D•R) (Ret fun v G=>∃ (D':DevX) (J:HProp),D'.Ok ∧ D'.val = (twW D.val 2 h b).2 ∧ (J = R ∨ ∃ b e,J = (fltc b wWrite 0 e•R)) ∧ ErrV (twW D.val 2 h b).1 v G ∧ G = (devo d D'•J)):=by
 have h3:ThereP D.val.secs 2 3:=⟨by omega,by omega,by omega⟩
 have hm:TmayP D.val.secs 2 h:=⟨⟨by omega,by omega,by omega⟩,by omega⟩
 haveI rn:RowN W R a 1024 1 bytv b:=⟨ro,hb.symm⟩
 cases hd:D.down with
 | true =>
  have e:twW D.val 2 h b = (40,D.val):=by unfold twW;rw [if_pos (show D.val.down = true from hd)]
  refine (twwrite_no (X:=D) (b:=b) (z:=2) (h:=h) (c:=c) hD (by omega) (.inl hd)).post fun en w H' hs hQ=>?_
  obtain ⟨v,G,h1,h2,k,h4,h5⟩:=hQ
  rw [e] at h5 ⊢
  refine ⟨H',hs,v,_,h1,h2,D,_,hD,rfl,.inr ⟨k,40,rfl⟩,.inr ⟨(show (40:Int) ≠ 0 by decide),k,wWrite,0,_,h4,h5⟩,?_⟩
  rw [h5,star_left_comm]
 | false =>
  refine (twwrite_go (X:=D) (b:=b) (z:=2) (h:=h) (c:=c) hD (by omega) hb hc hy hd h3 hm).post fun en w H' hs hQ=>?_
  obtain ⟨v,G,h1,h2,⟨h4,h5,X',x1,x2,_,x4⟩|⟨h4,k,G0,h5,h6,X',x1,x2,_,x4⟩⟩:=hQ
  ·exact ⟨H',hs,v,_,h1,h2,X',_,x1,x2,.inl rfl,.inl ⟨h4,h5⟩,x4⟩
  ·refine ⟨H',hs,v,_,h1,h2,X',_,x1,x2,.inr ⟨k,(twW D.val 2 h b).1,rfl⟩,.inr ⟨h4,k,wWrite,0,_,h5,h6⟩,?_⟩
   rw [h6,x4,star_left_comm]
theorem prd_spec {W:World} {R:HProp} {d:Nat} {D:DevX} {h:Int} (hD:D.Ok) (hq:D.ps.length ≤ 300000) (hh:0 ≤ h ∧ h + 2 ≤ D.val.secs) :
  Does prog W f_z1e ⟨[ptr d,.int .i64 h]⟩ (devo d D•R) (Ret fun v G=>(D.down = true ∧ ∃ b,v = .tuple ⟨[.slice none 0 0,.iface t_z5 (ptr b)]⟩ ∧ G = (fltc b wRead 0 40•devo d D•R)) ∨
   (D.down = false ∧ ∃ a c,v = .tuple ⟨[.slice a 1024 c,.nilIface]⟩ ∧ G = (vec t_uint8 1 bytv a c (D.val.at h ++ D.val.at (h + 1))•devo d D•R))):=by
 cases hd:D.down with
 | true =>
  refine (twread_no (X:=D) (z:=h) hD (.inl hd)).post fun en w H' hs hQ=>?_
  obtain ⟨v,G,h1,h2,k,h4,h5⟩:=hQ
  rw [hd,if_pos rfl] at h5
  exact ⟨H',hs,v,G,h1,h2,.inl ⟨rfl,k,h4,h5⟩⟩
 | false =>
  refine (twread_yes (X:=D) (z:=h) hD (by omega) hd ⟨by omega,by omega,by omega⟩).post fun en w H' hs hQ=>?_
  obtain ⟨v,G,h1,h2,a,c,h4,h5⟩:=hQ
  exact ⟨H',hs,v,G,h1,h2,.inr ⟨rfl,a,c,h4,h5⟩⟩
/-! ### The page that was used longest ago -/
theorem oldG_spec:∀ (l:List (Int × FrM)) (o:Option (Int × FrM)),(∀ q,o = some q → q.2.pins = 0) → match oldG l o with
  | none=>o = none ∧ ∀ p ∈ l,p.2.pins ≠ 0
  | some q=>q.2.pins = 0 ∧ (q ∈ l ∨ o = some q) ∧ (∀ p ∈ l,p.2.pins = 0 → q.2.used ≤ p.2.used) ∧ ∀ r,o = some r → q.2.used ≤ r.2.used
 | [],none,_=>⟨rfl,fun p hp=>(by cases hp)⟩
 | [],some q,h=>⟨h q rfl,.inr rfl,fun p hp=>(by cases hp),fun r hr=>by cases hr;exact Int.le_refl _⟩
 | p :: l,o,h=>by
  unfold oldG
  by_cases c:p.2.pins = 0
  ·rw [if_pos c]
   cases o with
   | none =>
    dsimp only
    have:=oldG_spec l (some p) (fun q hq=>by cases hq;exact c)
    cases hx:oldG l (some p) with
    | none=>rw [hx] at this;exact absurd this.1 (by simp)
    | some q =>
     rw [hx] at this
     obtain ⟨k1,k2,k3,k4⟩:=this
     refine ⟨k1,.inl (k2.elim (List.mem_cons_of_mem _) fun e=>by cases e;exact List.mem_cons_self),fun x hx hp=>?_,fun r hr=>(by cases hr)⟩
     rcases List.mem_cons.1 hx with rfl|hx
     ·exact k4 _ rfl
     ·exact k3 x hx hp
   | some q0 =>
    dsimp only
    have key:∀ q1,(q1 = p ∧ p.2.used < q0.2.used ∨ q1 = q0 ∧ ¬ p.2.used < q0.2.used) → match oldG l (some q1) with
      | none=>some q0 = none ∧ ∀ x ∈ p :: l,x.2.pins ≠ 0
      | some q=>q.2.pins = 0 ∧ (q ∈ p :: l ∨ some q0 = some q) ∧ (∀ x ∈ p :: l,x.2.pins = 0 → q.2.used ≤ x.2.used) ∧ ∀ r,some q0 = some r → q.2.used ≤ r.2.used:=fun q1 hq1=>by
     have hpin:q1.2.pins = 0:=by rcases hq1 with ⟨rfl,_⟩|⟨rfl,_⟩;exact c;exact h _ rfl
     have:=oldG_spec l (some q1) (fun q hq=>by cases hq;exact hpin)
     cases hx:oldG l (some q1) with
     | none=>rw [hx] at this;exact absurd this.1 (by simp)
     | some q =>
      rw [hx] at this
      obtain ⟨k1,k2,k3,k4⟩:=this
      have k5:=k4 q1 rfl
      have hle:q1.2.used ≤ p.2.used ∧ q1.2.used ≤ q0.2.used:=by rcases hq1 with ⟨rfl,h2⟩|⟨rfl,h2⟩ <;> omega
      refine ⟨k1,?_,fun x hx hp=>?_,fun r hr=>by cases hr;omega⟩
      ·rcases k2 with k2|k2
       ·exact .inl (List.mem_cons_of_mem _ k2)
       ·cases k2
        rcases hq1 with ⟨rfl,_⟩|⟨rfl,_⟩
        ·exact .inl List.mem_cons_self
        ·exact .inr rfl
      ·rcases List.mem_cons.1 hx with rfl|hx
       ·omega
       ·exact k3 x hx hp
    by_cases hlt:p.2.used < q0.2.used
    ·rw [if_pos hlt];exact key p (.inl ⟨rfl,hlt⟩)
    ·rw [if_neg hlt];exact key q0 (.inr ⟨rfl,hlt⟩)
  ·rw [if_neg c]
   have:=oldG_spec l o h
   cases hx:oldG l o with
   | none =>
    rw [hx] at this
    refine ⟨this.1,fun x hx=>?_⟩
    rcases List.mem_cons.1 hx with rfl|hx
    ·exact c
    ·exact this.2 x hx
   | some q =>
    rw [hx] at this
    obtain ⟨k1,k2,k3,k4⟩:=this
    refine ⟨k1,k2.imp_left (List.mem_cons_of_mem _),fun x hx hp=>?_,k4⟩
    rcases List.mem_cons.1 hx with rfl|hx
    ·exact absurd hp c
    ·exact k3 x hx hp
end Go.Proofs.YtbcedpankkdfoaaGreatDoor
/- The program's pool: the page that was used longest ago; walked. Conditions: in each statement. -/
namespace Go.SL
open Go
section
variable {P:Program} {W:World} {T:Tab} {H R:HProp}
theorem OpQ.lkA (hT:T.ok P) {t kt et:TypeId} {k0 kk:IntKind} {mo key:Operand} {ty:TypeId} {ev:Operand → Option Value} {K:Value → Prop} {r:Nat} {k:Int} {l:List (Int × Value)} {c1 c2:List Value} {a1 a2:Bool} {s1 s2 b1 b2:Nat} {r3:TRow} {v:Value}
  (a:MapAt W H r kk l) (hl:l.lookup k = some v) (h1:T t = some ⟨.map kt et,c1,a1,s1,b1⟩) (h2:T kt = some ⟨.int k0,c2,a2,s2,b2⟩) (h3:T et = some r3)
  (hm:ev mo = some (.map (some r))) (hk:ev key = some (.int kk k)) (hv:K v):OpQ P W (.lookup t mo key false) ty ev H K:=by
 obtain ⟨z,hz⟩:=zero_ex hT h3
 exact OpQ.lookup hT h1 rfl h2 rfl hz hm hk a (fun v' hv'=>by rw [hl] at hv';cases hv';exact hv) (fun e=>by rw [hl] at e;cases e)
theorem OpQ.lkZ (hT:T.ok P) {t kt et:TypeId} {k0 kk:IntKind} {mo key:Operand} {ty:TypeId} {ev:Operand → Option Value} {K:Value → Prop} {r:Nat} {k:Int} {l:List (Int × Value)} {c1 c2:List Value} {a1 a2:Bool} {s1 s2 b1 b2:Nat} {r3:TRow}
  (a:MapAt W H r kk l) (hl:l.lookup k = none) (h1:T t = some ⟨.map kt et,c1,a1,s1,b1⟩) (h2:T kt = some ⟨.int k0,c2,a2,s2,b2⟩) (h3:T et = some r3)
  (hm:ev mo = some (.map (some r))) (hk:ev key = some (.int kk k)) (hv:zK r3 K):OpQ P W (.lookup t mo key false) ty ev H K:=by
 obtain ⟨z,hz,hz'⟩:=zK_elim hT h3 hv
 exact OpQ.lookup hT h1 rfl h2 rfl hz hm hk a (fun v' hv'=>by rw [hl] at hv';cases hv') fun _=>hz'
theorem MapAt.iter {b r:Nat} {kk:IntKind} {l todo:List (Int × Value)} {cur:Option (Int × Value)}:MapAt W (iterc b r kk l todo cur•R) r kk l:=fun _ hs=>MapAt.here _ (iterc_map hs)
end
theorem mem_erase_iff {α:Type} {l:List (Int × α)} (hnd:(l.map (·.1)).Nodup):∀ {todo:List (Int × α)} {j:Nat} {x:Int × α},(todo.map (·.1)).Nodup → todo[j]? = some x → ∀ y,y ∉ todo.eraseIdx j ↔ y = x ∨ y ∉ todo
 | [],j,x,_,h,y=>by simp at h
 | z :: todo,0,x,hn,h,y=>by
  simp at h;subst h
  simp only [List.map_cons,List.nodup_cons] at hn
  simp only [List.eraseIdx_cons_zero,List.mem_cons,not_or]
  refine ⟨fun k=>?_,fun k=>?_⟩
  ·by_cases e:y = z
   ·exact .inl e
   ·exact .inr ⟨e,k⟩
  ·rcases k with rfl|k
   ·exact fun hm=>hn.1 (List.mem_map.2 ⟨_,hm,rfl⟩)
   ·exact k.2
 | z :: todo,j + 1,x,hn,h,y=>by
  simp only [List.map_cons,List.nodup_cons] at hn
  have hx:todo[j]? = some x:=by simpa using h
  have ih:=mem_erase_iff hnd hn.2 hx y
  simp only [List.eraseIdx_cons_succ,List.mem_cons,not_or]
  rw [ih]
  refine ⟨fun k=>?_,fun k=>?_⟩
  ·rcases k.2 with e|e
   ·exact .inl e
   ·exact .inr ⟨k.1,e⟩
  ·rcases k with rfl|k
   ·exact ⟨fun e=>hn.1 (e ▸ List.mem_map.2 ⟨_,List.mem_of_getElem? hx,rfl⟩),.inl rfl⟩
   ·exact ⟨k.1,.inr k.2⟩
end Go.SL
namespace Go.Proofs.YtbcedpankkdfoaaGreatDoor
open Go Go.SL Go.SL.Sec Go.SL.Fld Go.SL.Pts Go.SL.Rec Go.SL.Twn Go.SL.Pg Go.SL.Mst Go.SL.Pool
def BestP (held todo:List (Int × FrX)) (best:Int) (found:Bool):Prop :=
 (found = false → best = 0 ∧ ∀ n f,(n,f) ∈ held → (n,f) ∉ todo → f.pins ≠ 0) ∧
 (found = true → ∃ f,(best,f) ∈ held ∧ f.pins = 0 ∧ ∀ n g,(n,g) ∈ held → (n,g) ∉ todo → g.pins = 0 → f.used ≤ g.used)
theorem best_end {X:PoolX} (hnd:(X.held.map (·.1)).Nodup) (hus:∀ n m f g,X.held.lookup n = some f → X.held.lookup m = some g → f.used = g.used → n = m) {best:Int} {found:Bool} (h:BestP X.held [] best found) :
  match oldest X.val.held with
  | none=>found = false ∧ best = 0
  | some o=>found = true ∧ best = o.1:=by
 have hs:=oldG_spec X.val.held none (fun q hq=>by cases hq)
 unfold oldest
 have hmem:∀ n f,(n,f) ∈ X.held → (n,f.val) ∈ X.val.held:=fun n f hm=>List.mem_map.2 ⟨(n,f),hm,rfl⟩
 have hmem2:∀ p,p ∈ X.val.held → ∃ f,(p.1,f) ∈ X.held ∧ p.2 = f.val:=fun p hp=>by
  obtain ⟨q,hq,rfl⟩:=List.mem_map.1 hp
  exact ⟨q.2,hq,rfl⟩
 cases ho:oldG X.val.held none with
 | none =>
  rw [ho] at hs
  cases found with
  | false=>exact ⟨rfl,(h.1 rfl).1⟩
  | true =>
   obtain ⟨f,hf,hp,_⟩:=h.2 rfl
   exact absurd hp (hs.2 _ (hmem _ _ hf))
 | some o =>
  rw [ho] at hs
  obtain ⟨k1,k2,k3,_⟩:=hs
  obtain ⟨g,hg,hg2⟩:=hmem2 o (k2.resolve_right (by simp))
  have hgp:g.pins = 0:=by rw [hg2] at k1;exact k1
  cases found with
  | false=>exact absurd hgp ((h.1 rfl).2 _ _ hg (by simp))
  | true =>
   obtain ⟨f,hf,hp,hl⟩:=h.2 rfl
   have h1:=hl _ _ hg (by simp) hgp
   have h2:=k3 _ (hmem _ _ hf) hp
   rw [hg2] at h2
   have h3:f.used = g.used:=Int.le_antisymm h1 h2
   exact ⟨rfl,hus _ _ f g (lookup_of_mem _ _ _ hnd hf) (lookup_of_mem _ _ _ hnd hg) h3⟩
set_option maxHeartbeats 1000000 in
theorem poldest_spec {W:World} {R:HProp} {p:Nat} {X:PoolX} (hnd:(X.held.map (·.1)).Nodup) (hus:∀ n m f g,X.held.lookup n = some f → X.held.lookup m = some g → f.used = g.used → n = m) :
  Does prog W f_zp ⟨[ptr p]⟩ (poolo p X•R) (Ret fun v G=>v = (match oldest X.val.held with|none=>.tuple ⟨[i0,.bool false]⟩|some o=>.tuple ⟨[.int .i64 o.1,.bool true]⟩) ∧ G = (poolo p X•R)):=by
 rw [poolo_eq]
 refine f_zp.does _ ?_
 conv=>whnf
 repeat' (first
  | (refine Ld.i ?_;conv=>whnf))
 refine OpX.rng tab_ok rfl rfl (fun it hit=>?_)
 conv=>whnf
 refine LoopK.at tab_ok (L:=f_zp.live) (ι:=Int × Bool × List (Int × FrX) × Option (Int × Value)) (fun i=>BestP X.held i.2.2.1 i.1 i.2.1 ∧ (i.2.2.1.map (·.1)).Nodup ∧ ∀ x ∈ i.2.2.1,x ∈ X.held) (fun i=>[(4,.int .i64 i.1),(5,.bool i.2.1)])
  (fun i=>iterc it X.r .i64 (mapv fptr X.held) (mapv fptr i.2.2.1) i.2.2.2) (fun i=>i.2.2.1.length) (0,false,X.held,none) ⟨⟨fun _=>⟨rfl,fun n f h k=>absurd h k⟩,fun e=>(by cases e)⟩,hnd,fun x h=>h⟩ (fun t v h=>h) (Imp.refl _) ?_
 rintro ⟨best,found,todo,cur⟩ ⟨hB,htd,hsub⟩
 dsimp only at hB htd hsub ⊢
 conv=>whnf
 refine OpX.nxt rfl (fun h0=>?_) (fun j pv hp=>?_)
 ·have h0':todo = []:=by simpa [mapv] using h0
  subst h0'
  have hend:=best_end hnd hus hB
  conv=>whnf
  skip
  refine ⟨_,_,rfl,?_,?_,rfl⟩
  ·first|exact .refl _|exact .drop|exact .fin|((repeat refine .pick ?_);first|exact .refl _|exact .emp _|exact .fin)
  ·cases ho:oldest X.val.held with
   | none=>rw [ho] at hend;rw [hend.1,hend.2]
   | some o=>rw [ho] at hend;rw [hend.1,hend.2]
 ·obtain ⟨x,hx,rfl⟩:∃ x,todo[j]? = some x ∧ (x.1,fptr x.2) = pv:=by
   simp only [mapv,List.getElem?_map] at hp
   exact Option.map_eq_some_iff.1 hp
  obtain ⟨n,f⟩:=x
  have hmem:=hsub _ (List.mem_of_getElem? hx)
  have hlk:=lookup_of_mem n f _ hnd hmem
  haveI rf:∀ (A B:HProp) (k:Nat) (v:Value) [LAt (frv f) k v],RdC W (A•B•bigM (fun _ f=>frc f) X.held•R) ⟨f.b,k,none⟩ v:=fun A B k v _=>by rw [bigM_at hnd hlk];infer_instance
  have hlen2:(todo.eraseIdx j).length < todo.length:=by
   have:j < todo.length:=(List.getElem?_eq_some_iff.1 hx).1
   rw [List.length_eraseIdx];simp [this];omega
  have htd2:((todo.eraseIdx j).map (·.1)).Nodup:=by rw [map_eraseIdx'];exact htd.eraseIdx j
  have her:=mem_erase_iff (l:=X.held) hnd htd hx
  have hsub2:∀ x ∈ todo.eraseIdx j,x ∈ X.held:=fun x hx=>hsub x (List.mem_of_mem_eraseIdx hx)
  conv=>whnf
  refine OpX.ent rfl ?_
  conv=>whnf
  by_cases c1:f.pins = 0
  rotate_left
  ·repeat' (first
    | (rw [decide_eq_false c1];conv=>whnf)
    | (refine Ld.i ?_;conv=>whnf)
    | (refine DrawK.introH tab_ok mixed 18 f_zp.last5 f_zp.plan5 _ rfl (by kernel_rfl) (Sub.of (by first|exact .refl _|exact .drop|exact .fin|((repeat refine .pick ?_);first|exact .refl _|exact .emp _|exact .fin))) ?_;conv=>whnf))
   refine ⟨rfl,(best,found,todo.eraseIdx j,some (n,fptr f)),⟨⟨fun e=>⟨(hB.1 e).1,fun m g hg hn=>((her (m,g)).1 hn).elim (fun e=>by cases e;exact c1) ((hB.1 e).2 m g hg)⟩,fun e=>let ⟨fb,h1,h2,h3⟩:=hB.2 e;⟨fb,h1,h2,fun m g hg hn hp=>((her (m,g)).1 hn).elim (fun e=>by cases e;exact absurd hp c1) fun k=>h3 m g hg k hp⟩⟩,htd2,hsub2⟩,Fr.inn_sub ⟨rfl,rfl,rfl,rfl,trivial⟩,?_,hlen2⟩
   dsimp only
   rw [show mapv fptr (todo.eraseIdx j) = (mapv fptr todo).eraseIdx j from map_eraseIdx' ..]
   first|exact .refl _|exact .drop|exact .fin|((repeat refine .pick ?_);first|exact .refl _|exact .emp _|exact .fin)
  cases found with
  | false =>
   repeat' (first
    | (rw [decide_eq_true c1];conv=>whnf)
    | (refine Ld.i ?_;conv=>whnf)
    | (refine DrawK.introH tab_ok mixed 18 f_zp.last5 f_zp.plan5 _ rfl (by kernel_rfl) (Sub.of (by first|exact .refl _|exact .drop|exact .fin|((repeat refine .pick ?_);first|exact .refl _|exact .emp _|exact .fin))) ?_;conv=>whnf))
   refine ⟨rfl,(n,true,todo.eraseIdx j,some (n,fptr f)),⟨⟨fun e=>(by cases e),fun _=>⟨f,hmem,c1,fun m g hg hn hp=>((her (m,g)).1 hn).elim (fun e=>by cases e;exact Int.le_refl _) fun k=>absurd hp ((hB.1 rfl).2 m g hg k)⟩⟩,htd2,hsub2⟩,Fr.inn_sub ⟨rfl,rfl,rfl,rfl,trivial⟩,?_,hlen2⟩
   dsimp only
   rw [show mapv fptr (todo.eraseIdx j) = (mapv fptr todo).eraseIdx j from map_eraseIdx' ..]
   first|exact .refl _|exact .drop|exact .fin|((repeat refine .pick ?_);first|exact .refl _|exact .emp _|exact .fin)
  | true =>
   obtain ⟨fb,hb1,hb2,hb3⟩:=hB.2 rfl
   have hlb:=lookup_of_mem best fb _ hnd hb1
   have hlv:(mapv fptr X.held).lookup best = some (fptr fb):=by rw [mapv_lookup,hlb];rfl
   haveI rb:∀ (A B:HProp) (k:Nat) (v:Value) [LAt (frv fb) k v],RdC W (A•B•bigM (fun _ f=>frc f) X.held•R) ⟨fb.b,k,none⟩ v:=fun A B k v _=>by rw [bigM_at hnd hlb];infer_instance
   by_cases c2:f.used < fb.used
   ·repeat' (first
     | (rw [decide_eq_true c1];conv=>whnf)
     | (refine spl_dec (fun hd=>?_) (fun hd=>?_) <;> first|(exfalso;omega)|(conv=>whnf))
     | ((first|refine Ld.i ?_|refine OpQ.lkA tab_ok MapAt.iter hlv rfl rfl rfl rfl rfl ?_);conv=>whnf)
     | (refine DrawK.introH tab_ok mixed 18 f_zp.last5 f_zp.plan5 _ rfl (by kernel_rfl) (Sub.of (by first|exact .refl _|exact .drop|exact .fin|((repeat refine .pick ?_);first|exact .refl _|exact .emp _|exact .fin))) ?_;conv=>whnf))
    refine ⟨rfl,(n,true,todo.eraseIdx j,some (n,fptr f)),⟨⟨fun e=>(by cases e),fun _=>⟨f,hmem,c1,fun m g hg hn hp=>((her (m,g)).1 hn).elim (fun e=>by cases e;exact Int.le_refl _) fun k=>by have:=hb3 m g hg k hp;omega⟩⟩,htd2,hsub2⟩,Fr.inn_sub ⟨rfl,rfl,rfl,rfl,trivial⟩,?_,hlen2⟩
    dsimp only
    rw [show mapv fptr (todo.eraseIdx j) = (mapv fptr todo).eraseIdx j from map_eraseIdx' ..]
    first|exact .refl _|exact .drop|exact .fin|((repeat refine .pick ?_);first|exact .refl _|exact .emp _|exact .fin)
   ·repeat' (first
     | (rw [decide_eq_true c1];conv=>whnf)
     | (refine spl_dec (fun hd=>?_) (fun hd=>?_) <;> first|(exfalso;omega)|(conv=>whnf))
     | ((first|refine Ld.i ?_|refine OpQ.lkA tab_ok MapAt.iter hlv rfl rfl rfl rfl rfl ?_);conv=>whnf)
     | (refine DrawK.introH tab_ok mixed 18 f_zp.last5 f_zp.plan5 _ rfl (by kernel_rfl) (Sub.of (by first|exact .refl _|exact .drop|exact .fin|((repeat refine .pick ?_);first|exact .refl _|exact .emp _|exact .fin))) ?_;conv=>whnf))
    refine ⟨rfl,(best,true,todo.eraseIdx j,some (n,fptr f)),⟨⟨fun e=>(by cases e),fun _=>⟨fb,hb1,hb2,fun m g hg hn hp=>((her (m,g)).1 hn).elim (fun e=>by cases e;omega) fun k=>hb3 m g hg k hp⟩⟩,htd2,hsub2⟩,Fr.inn_sub ⟨rfl,rfl,rfl,rfl,trivial⟩,?_,hlen2⟩
    dsimp only
    rw [show mapv fptr (todo.eraseIdx j) = (mapv fptr todo).eraseIdx j from map_eraseIdx' ..]
    first|exact .refl _|exact .drop|exact .fin|((repeat refine .pick ?_);first|exact .refl _|exact .emp _|exact .fin)
end Go.Proofs.YtbcedpankkdfoaaGreatDoor
/- The program's pool: a page goes home; walked. Conditions: in each statement. -/
namespace Go.Proofs.YtbcedpankkdfoaaGreatDoor
open Go Go.SL Go.SL.Sec Go.SL.Fld Go.SL.Pts Go.SL.Rec Go.SL.Twn Go.SL.Pg Go.SL.Mst Go.SL.Pool
instance (priority:=130) keepc_logo {R A:HProp} {l:Nat} {X:LogX} [k:KeepC R A]:KeepC (logo l X•R) A:=⟨Imp.trans Imp.drop k.h⟩
instance (priority:=130) keepc_devo {R A:HProp} {d:Nat} {X:DevX} [k:KeepC R A]:KeepC (devo d X•R) A:=⟨Imp.trans Imp.drop k.h⟩
def StoQ (p:Nat) (S:StoX) (T:Int × Sto) (R:HProp) (v:Value) (G:HProp):Prop:=∃ S':StoX,S'.Ok ∧ S.Same S' ∧ S'.val = T.2 ∧ v = .int .i64 T.1 ∧ G = (stoo p S'•R)
theorem pseen2_spec {W:World} {A J R R':HProp} {p:Nat} {X:PoolX} {e:Int} {v:Value} [le:LaidE W] [oc:OldC W R] [t:ObjC poolo R p X R'] (hJ:J = R ∨ ∃ b w z e,J = (fltc b w z e•R)) (h:ErrV e v (A•J)) :
  Does prog W f_z1x ⟨[ptr p,v]⟩ (A•J) (Ret fun u G=>u = .int .i64 e ∧ G = (poolo p (if e = 40 then X.gone else X)•A•R')):=by
 rcases hJ with rfl|⟨b,w,z,k,rfl⟩
 ·exact pseen_spec h
 ·refine (pseen_spec h).post fun en w' H' hs hQ=>?_
  obtain ⟨u,G,h1,h2,h3,h4⟩:=hQ
  refine ⟨H',hs,u,_,h1,Imp.trans h2 ?_,h3,rfl⟩
  rw [h4]
  exact Imp.right (Imp.right Imp.drop)
def StoX.seen (S:StoX) (L:LogX) (D:DevX) (e:Int):StoX:=⟨if e = 40 then S.P.gone else S.P,L,D⟩
theorem seen_val (S:StoX) (L:LogX) (D:DevX) (e:Int):(S.seen L D e).val = Sto.seen ⟨S.P.val,L.val,D.val⟩ e:=by
 unfold StoX.seen Sto.seen StoX.val
 by_cases c:e = 40
 ·rw [if_pos c,if_pos c];rfl
 ·rw [if_neg c,if_neg c]
theorem seen_same (S:StoX) (L:LogX) (D:DevX) (e:Int):S.Same (S.seen L D e):=by
 unfold StoX.seen
 by_cases c:e = 40
 ·rw [if_pos c];exact ⟨rfl,rfl⟩
 ·rw [if_neg c];exact ⟨rfl,rfl⟩
set_option maxHeartbeats 1000000 in
theorem pwrite_spec {W:World} {R:HProp} {p:Nat} {S:StoX} {n:Int} {f:FrX} [le:LaidE W] [lc:LaidC W] [lp:LaidP W] [oc:OldC W R] (hS:S.Ok) (hf:S.P.held.lookup n = some f) :
  Does prog W f_z28 ⟨[ptr p,.int .i64 n]⟩ (stoo p S•R) (Ret (StoQ p S (S.val.write n f.val) R)):=by
 have hnd:=hS.nd
 have hok:=(hS.val.write (look_val hf)).1
 have fk:=hS.val.fr n f.val (look_val hf)
 obtain ⟨T,hT⟩:∃ T,T = S.val.write n f.val:=⟨_,rfl⟩
 rw [← hT] at hok ⊢
 unfold Sto.write at hT
 rw [show f.val.dirty = f.dirty from rfl,show f.val.pg = f.pg.m from rfl,show S.val.L = S.L.val from rfl,show S.val.D = S.D.val from rfl,show S.val.P = S.P.val from rfl] at hT
 haveI rf:∀ (Q:HProp) (k:Nat) (v:Value) [LAt (frv f) k v],RdC W (poolo p S.P•Q) ⟨f.b,k,none⟩ v:=fun Q k v _=>rd_frame hnd hf
 haveI rl:∀ (Q:HProp) (k m:Nat) (vs:List Value) [LSub (frv f) k m vs],RdLC W (poolo p S.P•Q) f.b k m vs:=fun Q k m vs _=>rdl_frame hnd hf
 haveI rC:∀ Q:HProp,RowC W (poolo p S.P•Q) f.pg.ca 5 cntv f.pg.m.C:=fun Q=>rowC_frame hnd hf
 haveI rG:∀ Q:HProp,RowC W (poolo p S.P•Q) f.pg.ga 2 grpv f.pg.m.G:=fun Q=>rowG_frame hnd hf
 rw [stoo_eq]
 refine f_z28.does _ _ ?_
 conv=>whnf
 cases hd:f.dirty with
 | false =>
  rw [hd,if_pos rfl] at hT
  subst hT
  repeat' (first
   | (rw [hd];conv=>whnf)
   | ((first|refine Ld.i ?_|refine OpX.lks tab_ok hf rfl rfl rfl rfl rfl ?_);conv=>whnf))
  refine ⟨_,_,rfl,Imp.refl _,S,hS,.refl S,rfl,rfl,?_⟩
  rw [stoo_eq]
 | true =>
 rw [hd,if_neg (by decide)] at hT
 dsimp only at hT
 obtain ⟨hfault,hlsn⟩:=fk.dirty hd
 have hpg:=hS.val.page fk.key
 have hmay:=hS.val.may
 have hmay':=hmay
 unfold MayP at hmay'
 have hfi:=hS.val.first
 obtain ⟨T1,hT1⟩:∃ T1,T1 = S.L.val.force S.D.val f.pg.m.lsn:=⟨_,rfl⟩
 have r1:=force_ok (L:=S.L.val) (D:=S.D.val) f.pg.m.lsn hS.val.dok hS.val.q (by rw [show S.L.val.first = 5 + 2 * S.P.pages from hfi];have:S.val.P.pages = S.P.pages:=rfl;omega) (by have h1:=hS.val.secs;have h2:=hS.val.cnt;have h3:S.val.L = S.L.val:=rfl;have h4:S.val.D = S.D.val:=rfl;rw [h3] at h2 hfi;rw [h4] at h1;omega) hS.val.log
 rw [← hT1] at hT r1
 repeat' (first
  | (rw [hd];conv=>whnf)
  | ((first|refine DrawK.introK tab_ok mixed 22 f_z28.last4 f_z28.plan4 rfl (by kernel_rfl) ?_|refine Ld.i ?_|refine OpX.lks tab_ok hf rfl rfl rfl rfl rfl ?_);conv=>whnf))
 refine CallK.imp (H':=logo S.P.l S.L•devo S.P.d S.D•poolo p S.P•R) (by first|exact .refl _|exact .drop|exact .fin|((repeat refine .pick ?_);first|exact .refl _|exact .emp _|exact .fin)) ?_
 refine CallK.ret f_z4.ok (pforce_spec hS.L hS.D (by rw [hS.ps];omega) hS.ld (by have:S.L.first = 5 + 2 * S.P.pages:=hfi;have:S.val.P.pages = S.P.pages:=rfl;omega) f.pg.m.lsn) ?_
 rintro v G ⟨L1,D1,J,hL1d,hL1,hD1,hL1v,hD1v,hJ,hEr,rfl⟩
 rw [← hT1] at hL1v hD1v hEr
 rw [← star_assoc] at hEr ⊢
 have hJ':J = (poolo p S.P•R) ∨ ∃ b w z e,J = (fltc b w z e•poolo p S.P•R):=hJ.imp_right fun ⟨b,e,h⟩=>⟨b,wForce,0,e,h⟩
 have hSub:Imp ((logo S.P.l L1•devo S.P.d D1)•J) (poolo p S.P•R):=by
  refine Imp.trans Imp.drop ?_
  rcases hJ' with rfl|⟨_,_,_,_,rfl⟩
  ·exact Imp.refl _
  ·exact Imp.drop
 conv=>whnf
 refine Sub.on hSub ?_
 conv=>whnf
 refine CallK.ret f_z1x.ok (pseen2_spec hJ' hEr) ?_
 rintro u G ⟨rfl,rfl⟩
 rw [star_assoc]
 have e1v:S.val.P = S.P.val:=rfl
 by_cases e0:T1.1 = 0
 rotate_left
 ·rw [if_pos e0] at hT
  have hv:(S.seen L1 D1 T1.1).val = T.2:=by rw [seen_val,hL1v,hD1v,hT]
  repeat' (first
   | (refine spl_ndec (fun hd=>?_) (fun hd=>?_) <;> first|(exfalso;omega)|(conv=>whnf)))
  refine ⟨_,_,rfl,Imp.refl _,S.seen L1 D1 T1.1,⟨by rw [hv];exact hok,hL1,hD1,?_⟩,seen_same _ _ _ _,hv,?_,?_⟩
  ·exact (hL1d.trans hS.ld).trans (seen_same S L1 D1 T1.1).d.symm
  ·rw [hT]
  ·rw [stoo_eq,(seen_same S L1 D1 T1.1).l,(seen_same S L1 D1 T1.1).d]
   rfl
 rw [if_neg (fun k=>k e0)] at hT
 rw [if_neg (by omega)]
 rw [e0]
 have hD1q:D1.ps.length = 0:=by
  have h1:=r1.q
  rw [← hD1v] at h1
  have h2:D1.val.q = D1.ps.map fun p=>(p.sec,p.b):=rfl
  rw [h2] at h1
  simpa using congrArg List.length h1
 have hD1s:D1.val.secs = S.val.D.secs:=by rw [hD1v];unfold Dev.secs;rw [r1.len];rfl
 have hEl:(encP f.pg.m).length = 1024:=encP_len hfault
 have hEb:Byt (encP f.pg.m):=encP_byt hfault
 obtain ⟨E,hE⟩:∃ E,E = encP f.pg.m:=⟨_,rfl⟩
 rw [← hE] at hT hEl hEb
 have hin:PgM.In ⟨f.pg.m.num,f.pg.m.lsn,f.pg.m.C,f.pg.m.G⟩:=fk.pin
 have hmP:MayP S.P.pages S.P.log S.P.frames:=hmay
 conv=>whnf
 repeat' (first
  | (refine CallK.ret f_zi.ok (pencode_yes (num:=f.pg.m.num) (lsn:=f.pg.m.lsn) (C:=f.pg.m.C) (G:=f.pg.m.G) (rc:=⟨inferInstance,rfl⟩) (rg:=⟨inferInstance,rfl⟩) hfault) ?_;rw [show encP ⟨f.pg.m.num,f.pg.m.lsn,f.pg.m.C,f.pg.m.G⟩ = E from hE.symm];rintro v G ⟨ba,bc,hbc,rfl,rfl⟩;conv=>whnf)
  | (refine CallK.ret f_z1z.ok (home_yes hmP fk.key) ?_;rintro v G ⟨rfl,rfl⟩;conv=>whnf)
  | ((first|refine Ld.i ?_|refine LdN.i ?_);conv=>whnf))
 obtain ⟨T2,hT2⟩:∃ T2,T2 = twW T1.2.2 2 (5 + 2 * n) E:=⟨_,rfl⟩
 rw [← hT2] at hT
 refine CallK.imp (H':=devo S.P.d D1•vec t_uint8 1 bytv ba bc E•poolo p S.P•logo S.P.l L1•R) (by first|exact .refl _|exact .drop|exact .fin|((repeat refine .pick ?_);first|exact .refl _|exact .emp _|exact .fin)) ?_
 refine CallK.ret f_z2f.ok (pwr_spec (D:=D1) (b:=E) (h:=5 + 2 * n) (c:=bc) inferInstance hD1 (by omega) hEl hbc hEb (by rw [hD1s];exact hpg)) ?_
 rw [hD1v,← hT2]
 rintro v2 G ⟨D2,J2,hD2,hD2v,hJ2,hEr2,rfl⟩
 have hJ2':J2 = (vec t_uint8 1 bytv ba bc E•poolo p S.P•logo S.P.l L1•R) ∨ ∃ b w z e,J2 = (fltc b w z e•vec t_uint8 1 bytv ba bc E•poolo p S.P•logo S.P.l L1•R):=hJ2.imp_right fun ⟨b,e,h⟩=>⟨b,wWrite,0,e,h⟩
 conv=>whnf
 refine CallK.ret f_z1x.ok (pseen2_spec hJ2' hEr2) ?_
 rintro u G ⟨rfl,rfl⟩
 have hL1d':L1.d = S.P.d:=hL1d.trans hS.ld
 by_cases e2:T2.1 = 0
 rotate_left
 ·rw [if_pos e2] at hT
  have hv:(S.seen L1 D2 T2.1).val = T.2:=by rw [seen_val,hL1v,hD2v,hT]
  conv=>whnf
  repeat' (first
   | (refine spl_ndec (fun hd=>?_) (fun hd=>?_) <;> first|(exfalso;omega)|(conv=>whnf)))
  refine ⟨_,_,rfl,?_,S.seen L1 D2 T2.1,⟨by rw [hv];exact hok,hL1,hD2,?_⟩,seen_same _ _ _ _,hv,?_,rfl⟩
  ·rw [stoo_eq,(seen_same S L1 D2 T2.1).l,(seen_same S L1 D2 T2.1).d]
   unfold StoX.seen
   first|exact .refl _|exact .drop|exact .fin|((repeat refine .pick ?_);first|exact .refl _|exact .emp _|exact .fin)
  ·exact hL1d'.trans (seen_same S L1 D2 T2.1).d.symm
  ·rw [hT]
 rw [if_neg (fun k=>k e2)] at hT
 rw [if_neg (by omega),e2]
 have hdl:(S.P.held.map (·.1)).Nodup:=hnd
 rw [poolo_eq,bigM_at hnd hf]
 conv=>whnf
 repeat' (first
  | (refine St.i ⟨rfl,rfl⟩ (List.cons_ne_nil _ _) ?_;conv=>whnf))
 have hv:(⟨S.P.put n { f with dirty:=false,since:=0 },L1,D2⟩:StoX).val = T.2:=by
  unfold StoX.val
  dsimp only
  rw [put_val,hL1v,hD2v,hT]
  rfl
 have e1:mapv fptr (updKV n { f with dirty:=false,since:=0 } S.P.held) = mapv fptr S.P.held:=by
  rw [mapv_upd]
  refine upd_same n _ _ ?_
  rw [mapv_lookup,hf];rfl
 refine ⟨_,_,rfl,?_,⟨S.P.put n { f with dirty:=false,since:=0 },L1,D2⟩,⟨by rw [hv];exact hok,hL1,hD2,hL1d'⟩,⟨rfl,rfl⟩,hv,?_,rfl⟩
 ·rw [stoo_eq,poolo_eq]
  unfold PoolX.put
  dsimp only
  rw [e1,bigM_upd _ n _ _ hnd,star_assoc,frc_eq]
  first|exact .refl _|exact .drop|exact .fin|((repeat refine .pick ?_);first|exact .refl _|exact .emp _|exact .fin)
 ·rw [hT]
end Go.Proofs.YtbcedpankkdfoaaGreatDoor
/- The program's pool: a page leaves; walked. Conditions: in each statement. -/
namespace Go.SL
theorem upd_upd {α:Type} (k:Int) (u v:α):∀ l:List (Int × α),updKV k v (updKV k u l) = updKV k v l
 | []=>by simp [updKV]
 | p :: l=>by
  unfold updKV
  by_cases c:k = p.1
  ·simp [c,updKV]
  ·simp [c,updKV,upd_upd k u v l]
end Go.SL
namespace Go.Proofs.YtbcedpankkdfoaaGreatDoor
open Go Go.SL Go.SL.Sec Go.SL.Fld Go.SL.Pts Go.SL.Rec Go.SL.Twn Go.SL.Pg Go.SL.Mst Go.SL.Pool
theorem Imp.stoo {p l d:Nat} {S:StoX} {H R:HProp} (hl:S.P.l = l) (hd:S.P.d = d) (h:Imp H (poolo p S.P•logo l S.L•devo d S.D•R)):Imp H (stoo p S•R):=by rw [stoo_eq,hl,hd];exact h
theorem bigM_del {α:Type} (f:Int → α → HProp) (n:Int) {l:List (Int × α)} (hnd:(l.map (·.1)).Nodup):Imp (bigM f l) (bigM f (delKV n l)):=by
 cases h:l.lookup n with
 | none=>rw [filter_ne n l ((lookup_none n l).1 h)];exact Imp.refl _
 | some v=>rw [bigM_take f n v l hnd h];exact Imp.drop
theorem pleave_spec {W:World} {R:HProp} {p:Nat} {S:StoX} {n:Int} {f:FrX} [le:LaidE W] [lc:LaidC W] [lp:LaidP W] [oc:OldC W R] (hS:S.Ok) (hf:S.P.held.lookup n = some f) :
  Does prog W f_z3e ⟨[ptr p,.int .i64 n]⟩ (stoo p S•R) (Ret (StoQ p S (S.val.leave n f.val) R)):=by
 have hok:=(hS.val.leave (look_val hf)).1
 obtain ⟨T,hT⟩:∃ T,T = S.val.leave n f.val:=⟨_,rfl⟩
 rw [← hT] at hok ⊢
 unfold Sto.leave at hT
 obtain ⟨T1,hT1⟩:∃ T1,T1 = S.val.write n f.val:=⟨_,rfl⟩
 rw [← hT1] at hT
 refine f_z3e.does _ _ ?_
 conv=>whnf
 skip
 refine CallK.ret f_z28.ok (pwrite_spec hS hf) ?_
 rw [← hT1]
 rintro v G ⟨S1,hS1,hs1,hv1,rfl,rfl⟩
 by_cases e0:T1.1 = 0
 rotate_left
 ·rw [if_pos e0] at hT
  subst hT
  conv=>whnf
  repeat' (first
   | (refine spl_ndec (fun hd=>?_) (fun hd=>?_) <;> first|(exfalso;omega)|(conv=>whnf)))
  exact ⟨_,_,rfl,Imp.refl _,S1,hS1,hs1,hv1,rfl,rfl⟩
 rw [if_neg (fun k=>k e0)] at hT
 subst hT
 rw [e0,stoo_eq]
 conv=>whnf
 repeat' (first
  | ((first|refine Ld.i ?_|refine OpX.delv tab_ok rfl rfl rfl rfl ?_);conv=>whnf))
 have hv:(⟨S1.P.del n,S1.L,S1.D⟩:StoX).val = { T1.2 with P:=T1.2.P.del n }:=by
  rw [← hv1]
  unfold StoX.val
  dsimp only
  rw [del_val]
 refine ⟨_,_,rfl,?_,⟨S1.P.del n,S1.L,S1.D⟩,⟨by rw [hv];exact hok,hS1.L,hS1.D,hS1.ld⟩,⟨hs1.l,hs1.d⟩,hv,rfl,rfl⟩
 rw [stoo_eq,poolo_eq]
 unfold PoolX.del
 dsimp only
 refine Imp.trans (Q:=pts p (.cells ⟨poolv S1.P⟩ t_pool_Pool)•mapc S1.P.r .i64 (mapv fptr (delKV n S1.P.held))•bigM (fun _ f=>frc f) S1.P.held•logo S1.P.l S1.L•devo S1.P.d S1.D•R) (by first|exact .refl _|exact .drop|exact .fin|((repeat refine .pick ?_);first|exact .refl _|exact .emp _|exact .fin)) ?_
 exact Imp.right (Imp.right (Imp.left (bigM_del _ n hS1.nd)))
end Go.Proofs.YtbcedpankkdfoaaGreatDoor
