/- PointsTake, walked: it answers true. Conditions: in each statement. -/
import Derived.Test.YtbcedpankkdfoaaGreatDoorPart32
import Derived.Test.YtbcedpankkdfoaaGreatDoorPart28
set_option linter.unusedVariables false
set_option linter.unusedSimpArgs false
namespace Go.Proofs.YtbcedpankkdfoaaGreatDoor
open Go Go.SL Go.SL.Sec Go.SL.Fld Go.SL.Pts Go.SL.Rec Go.SL.Twn Go.SL.Pg Go.SL.Mst Go.SL.Pool
open Go.SL.Und (RecV recv)
section
variable {W:World} {H R:HProp}
theorem tkplays_spec {q t l o k:Nat} {X:TkX} {kind n:Int} [le:LaidE W] [lc:LaidC W] [lp:LaidP W] [oc:OldC W R] (hX:TkOk X l k) (hk:k < 50) :
  Does prog W f_z9 ⟨[.agg ⟨[.int .i64 kind,.int .i64 n]⟩,ptr l,ptr q,ptr t,ptr o]⟩ (owno o X.la X.lc X.L X.next•stoo q X.S•tabo t X.T•R) (Ret (TkQ o q t l k R)):=by
 by_cases c0:kind % 4 = 0
 ·exact tkplays0 hX hk c0
 by_cases c1:kind % 4 = 1
 ·exact tkplays1 hX hk c1
 exact tkplays2 hX hk c0 c1
theorem take_nil1 {v:Value}:Does prog W f_zn ⟨[.pointer none,v]⟩ R (Ret fun v G=>v = .tuple ⟨[.agg ⟨[.slice none 0 0,.slice none 0 0,i0]⟩,.int .i64 3]⟩ ∧ G = R):=by
 refine f_zn.does _ _ ?_
 conv=>whnf
 repeat' (first
  | ((first|refine spl_f (by with_reducible exact ndec_self _) ?_|refine spl_f (by with_reducible exact nbeq_self _) ?_|refine spl_t (by with_reducible exact beq_self _) ?_);conv=>whnf)
  | (refine spl_dec (fun hd=>?_) (fun hd=>?_) <;> first|(exfalso;omega)|(conv=>whnf))
  | (refine spl_ndec (fun hd=>?_) (fun hd=>?_) <;> first|(exfalso;omega)|(conv=>whnf))
  | (refine spl_intro (fun hd=>?_) (fun hd=>?_) <;> (conv=>whnf))
  | ((first|refine Ld.i ?_|refine LdN.i ?_|refine St.i ⟨rfl,rfl⟩ (List.cons_ne_nil _ _) ?_|refine Ar.i64 (by omega) ?_|refine Ar.u64 (by omega) ?_|refine Ar.i64d (by omega) (by omega) ?_|refine Shr.i (by rfl) (by decide) ?_|refine Shl.i (by rfl) (by decide) ?_|refine Req.mk (by omega) ?_);conv=>whnf)
  | (intro blk hblk;conv=>whnf))
 refine Ret.eq rfl ?_
 first|exact .refl _|exact .drop|exact .fin|((repeat refine .pick ?_);first|exact .refl _|exact .emp _|exact .fin)
theorem take_nil2 {t:Nat}:Does prog W f_zn ⟨[ptr t,.pointer none]⟩ R (Ret fun v G=>v = .tuple ⟨[.agg ⟨[.slice none 0 0,.slice none 0 0,i0]⟩,.int .i64 3]⟩ ∧ G = R):=by
 refine f_zn.does _ _ ?_
 conv=>whnf
 repeat' (first
  | ((first|refine spl_f (by with_reducible exact ndec_self _) ?_|refine spl_f (by with_reducible exact nbeq_self _) ?_|refine spl_t (by with_reducible exact beq_self _) ?_);conv=>whnf)
  | (refine spl_dec (fun hd=>?_) (fun hd=>?_) <;> first|(exfalso;omega)|(conv=>whnf))
  | (refine spl_ndec (fun hd=>?_) (fun hd=>?_) <;> first|(exfalso;omega)|(conv=>whnf))
  | (refine spl_intro (fun hd=>?_) (fun hd=>?_) <;> (conv=>whnf))
  | ((first|refine Ld.i ?_|refine LdN.i ?_|refine St.i ⟨rfl,rfl⟩ (List.cons_ne_nil _ _) ?_|refine Ar.i64 (by omega) ?_|refine Ar.u64 (by omega) ?_|refine Ar.i64d (by omega) (by omega) ?_|refine Shr.i (by rfl) (by decide) ?_|refine Shl.i (by rfl) (by decide) ?_|refine Req.mk (by omega) ?_);conv=>whnf)
  | (intro blk hblk;conv=>whnf))
 refine Ret.eq rfl ?_
 first|exact .refl _|exact .drop|exact .fin|((repeat refine .pick ?_);first|exact .refl _|exact .emp _|exact .fin)
theorem take_spec {q t:Nat} {S:StoX} {T:TabX} {D:List DirtyV} (hS:S.Ok) (hD:D = S.val.P.dirtyL (sortI (S.P.held.map (·.1)))) (hs:T.L.Pairwise fun a b=>a.tx < b.tx) (hL:T.L.length ≤ 32) (hk:∀ x ∈ T.L,1 ≤ x.tx ∧ x.tx ≤ 2147483647) :
  Does prog W f_zn ⟨[ptr t,ptr q]⟩ (tabo t T•stoo q S•R) (Ret fun v G=>∃ a c a' c',v = .tuple ⟨[.agg ⟨[.slice a T.L.length c,.slice a' D.length c',.int .i64 T.next]⟩,i0]⟩ ∧ G = (vec t_z23 4 livev a c T.L•vec t_z1l 2 dirtyv a' c' D•tabo t T•stoo q S•R)):=by
 subst hD
 refine f_zn.does _ _ ?_
 conv=>whnf
 repeat' (first
  | ((first|refine spl_f (by with_reducible exact ndec_self _) ?_|refine spl_f (by with_reducible exact nbeq_self _) ?_|refine spl_t (by with_reducible exact beq_self _) ?_);conv=>whnf)
  | (refine spl_dec (fun hd=>?_) (fun hd=>?_) <;> first|(exfalso;omega)|(conv=>whnf))
  | (refine spl_ndec (fun hd=>?_) (fun hd=>?_) <;> first|(exfalso;omega)|(conv=>whnf))
  | (refine spl_intro (fun hd=>?_) (fun hd=>?_) <;> (conv=>whnf))
  | ((first|refine Ld.i ?_|refine LdN.i ?_|refine St.i ⟨rfl,rfl⟩ (List.cons_ne_nil _ _) ?_|refine Ar.i64 (by omega) ?_|refine Ar.u64 (by omega) ?_|refine Ar.i64d (by omega) (by omega) ?_|refine Shr.i (by rfl) (by decide) ?_|refine Shl.i (by rfl) (by decide) ?_|refine Req.mk (by omega) ?_);conv=>whnf)
  | (intro blk hblk;conv=>whnf))
 refine CallK.imp (H':=tabo t T•pts blk (.cells ⟨[.slice none 0 0,.slice none 0 0,i0]⟩ t_api_Points)•stoo q S•R) (by first|exact .refl _|exact .drop|exact .fin|((repeat refine .pick ?_);first|exact .refl _|exact .emp _|exact .fin)) ?_
 refine CallK.ret f_z3a.ok (tlive_spec (X:=T) hs hL hk) ?_
 rintro v G ⟨a,c,rfl,rfl⟩
 conv=>whnf
 repeat' (first
  | ((first|refine spl_f (by with_reducible exact ndec_self _) ?_|refine spl_f (by with_reducible exact nbeq_self _) ?_|refine spl_t (by with_reducible exact beq_self _) ?_);conv=>whnf)
  | (refine spl_dec (fun hd=>?_) (fun hd=>?_) <;> first|(exfalso;omega)|(conv=>whnf))
  | (refine spl_ndec (fun hd=>?_) (fun hd=>?_) <;> first|(exfalso;omega)|(conv=>whnf))
  | (refine spl_intro (fun hd=>?_) (fun hd=>?_) <;> (conv=>whnf))
  | ((first|refine Ld.i ?_|refine LdN.i ?_|refine St.i ⟨rfl,rfl⟩ (List.cons_ne_nil _ _) ?_|refine Ar.i64 (by omega) ?_|refine Ar.u64 (by omega) ?_|refine Ar.i64d (by omega) (by omega) ?_|refine Shr.i (by rfl) (by decide) ?_|refine Shl.i (by rfl) (by decide) ?_|refine Req.mk (by omega) ?_);conv=>whnf)
  | (intro blk hblk;conv=>whnf))
 refine CallK.ret f_z1o.ok (sdirty_spec (S:=S) hS) ?_
 rintro v G ⟨a',c',rfl,rfl⟩
 conv=>whnf
 repeat' (first
  | ((first|refine spl_f (by with_reducible exact ndec_self _) ?_|refine spl_f (by with_reducible exact nbeq_self _) ?_|refine spl_t (by with_reducible exact beq_self _) ?_);conv=>whnf)
  | (refine spl_dec (fun hd=>?_) (fun hd=>?_) <;> first|(exfalso;omega)|(conv=>whnf))
  | (refine spl_ndec (fun hd=>?_) (fun hd=>?_) <;> first|(exfalso;omega)|(conv=>whnf))
  | (refine spl_intro (fun hd=>?_) (fun hd=>?_) <;> (conv=>whnf))
  | ((first|refine Ld.i ?_|refine LdN.i ?_|refine St.i ⟨rfl,rfl⟩ (List.cons_ne_nil _ _) ?_|refine Ar.i64 (by omega) ?_|refine Ar.u64 (by omega) ?_|refine Ar.i64d (by omega) (by omega) ?_|refine Shr.i (by rfl) (by decide) ?_|refine Shl.i (by rfl) (by decide) ?_|refine Req.mk (by omega) ?_);conv=>whnf)
  | (intro blk hblk;conv=>whnf))
 refine CallK.ret f_z2q.ok (tnext_spec (X:=T)) ?_
 rintro v G ⟨rfl,rfl⟩
 conv=>whnf
 repeat' (first
  | ((first|refine spl_f (by with_reducible exact ndec_self _) ?_|refine spl_f (by with_reducible exact nbeq_self _) ?_|refine spl_t (by with_reducible exact beq_self _) ?_);conv=>whnf)
  | (refine spl_dec (fun hd=>?_) (fun hd=>?_) <;> first|(exfalso;omega)|(conv=>whnf))
  | (refine spl_ndec (fun hd=>?_) (fun hd=>?_) <;> first|(exfalso;omega)|(conv=>whnf))
  | (refine spl_intro (fun hd=>?_) (fun hd=>?_) <;> (conv=>whnf))
  | ((first|refine Ld.i ?_|refine LdN.i ?_|refine St.i ⟨rfl,rfl⟩ (List.cons_ne_nil _ _) ?_|refine Ar.i64 (by omega) ?_|refine Ar.u64 (by omega) ?_|refine Ar.i64d (by omega) (by omega) ?_|refine Shr.i (by rfl) (by decide) ?_|refine Shl.i (by rfl) (by decide) ?_|refine Req.mk (by omega) ?_);conv=>whnf)
  | (intro blk hblk;conv=>whnf))
 refine ⟨_,_,rfl,?_,a,c,a',c',rfl,rfl⟩
 first|exact .refl _|exact .drop|exact .fin|((repeat refine .pick ?_);first|exact .refl _|exact .emp _|exact .fin)
set_option maxHeartbeats 8000000 in
theorem take_walk {z:Int} {sa:Option Addr} {sc:Nat} {L:List DirtyV} [le:LaidE W] [lc:LaidC W] [lp:LaidP W] [oc:OldC W R] (ro:OldR W 2 dirtyv sa L) (hL:L.length ≤ 9223372036854775807) :
  Does prog W f_z15 ⟨[.int .i64 z,.slice sa L.length sc]⟩ R (Ret fun v G=>v = .bool true ∧ G = R):=by
 haveI rS:∀ (Q:HProp) [OldC W Q],RowC W Q sa 2 dirtyv L:=fun Q _=>RowC.oldC ro inferInstance
 refine f_z15.does _ _ ?_
 conv=>whnf
 repeat' (first
  | ((first|refine spl_f (by with_reducible exact ndec_self _) ?_|refine spl_f (by with_reducible exact nbeq_self _) ?_|refine spl_t (by with_reducible exact beq_self _) ?_);conv=>whnf)
  | (refine spl_dec (fun hd=>?_) (fun hd=>?_) <;> first|(exfalso;omega)|(conv=>whnf))
  | (refine spl_ndec (fun hd=>?_) (fun hd=>?_) <;> first|(exfalso;omega)|(conv=>whnf))
  | (refine spl_intro (fun hd=>?_) (fun hd=>?_) <;> (conv=>whnf))
  | ((first|refine Ld.i ?_|refine LdN.i ?_|refine St.i ⟨rfl,rfl⟩ (List.cons_ne_nil _ _) ?_|refine Ar.i64 (by omega) ?_|refine Ar.u64 (by omega) ?_|refine Ar.i64d (by omega) (by omega) ?_|refine Shr.i (by rfl) (by decide) ?_|refine Shl.i (by rfl) (by decide) ?_|refine Req.mk (by omega) ?_);conv=>whnf)
  | (intro blk hblk;conv=>whnf))
 refine CallK.ret f_z3p.ok store_spec ?_
 rintro v G ⟨q,t,l,X0,hX0,hn0,hL0,rfl,rfl⟩
 conv=>whnf
 repeat' (first
  | (refine CallK.ret f_z2p.ok awake16_spec ?_;rintro v G ⟨rfl,rfl⟩;conv=>whnf)
  | ((first|refine spl_f (by with_reducible exact ndec_self _) ?_|refine spl_f (by with_reducible exact nbeq_self _) ?_|refine spl_t (by with_reducible exact beq_self _) ?_);conv=>whnf)
  | (refine spl_dec (fun hd=>?_) (fun hd=>?_) <;> first|(exfalso;omega)|(conv=>whnf))
  | (refine spl_ndec (fun hd=>?_) (fun hd=>?_) <;> first|(exfalso;omega)|(conv=>whnf))
  | (refine spl_intro (fun hd=>?_) (fun hd=>?_) <;> (conv=>whnf))
  | ((first|refine Ld.i ?_|refine LdN.i ?_|refine St.i ⟨rfl,rfl⟩ (List.cons_ne_nil _ _) ?_|refine Ar.i64 (by omega) ?_|refine Ar.u64 (by omega) ?_|refine Ar.i64d (by omega) (by omega) ?_|refine Shr.i (by rfl) (by decide) ?_|refine Shl.i (by rfl) (by decide) ?_|refine Req.mk (by omega) ?_);conv=>whnf)
  | (intro blk hblk;conv=>whnf))
 refine CallK.ret f_z2q.ok (tnext_spec (X:=X0.T)) ?_
 rintro v G ⟨rfl,rfl⟩
 conv=>whnf
 repeat' (first
  | ((first|refine spl_f (by with_reducible exact ndec_self _) ?_|refine spl_f (by with_reducible exact nbeq_self _) ?_|refine spl_t (by with_reducible exact beq_self _) ?_);conv=>whnf)
  | (refine spl_dec (fun hd=>?_) (fun hd=>?_) <;> first|(exfalso;omega)|(conv=>whnf))
  | (refine spl_ndec (fun hd=>?_) (fun hd=>?_) <;> first|(exfalso;omega)|(conv=>whnf))
  | (refine spl_intro (fun hd=>?_) (fun hd=>?_) <;> (conv=>whnf))
  | ((first|refine Ld.i ?_|refine LdN.i ?_|refine St.i ⟨rfl,rfl⟩ (List.cons_ne_nil _ _) ?_|refine Ar.i64 (by omega) ?_|refine Ar.u64 (by omega) ?_|refine Ar.i64d (by omega) (by omega) ?_|refine Shr.i (by rfl) (by decide) ?_|refine Shl.i (by rfl) (by decide) ?_|refine Req.mk (by omega) ?_);conv=>whnf)
  | (intro blk hblk;conv=>whnf))
 obtain ⟨ob,hob⟩:∃ ob,ob = blk:=⟨_,rfl⟩
 rw [← hob]
 obtain ⟨S0,r0,L0,n0,la0,lc0⟩:=X0
 dsimp only [TkX.T] at *
 subst hL0
 refine LoopK.atH tab_ok (L:=f_z15.live) (ι:=Int × TkX) (fun i=>(0 ≤ i.1 ∧ i.1 ≤ L.length ∧ i.1 ≤ 50) ∧ TkOk i.2 l i.1.toNat) (fun i=>[(9,.int .i64 i.1)])
  (fun i=>owno ob i.2.la i.2.lc i.2.L i.2.next•stoo q i.2.S•tabo t i.2.T•R) (fun i=>L.length - i.1.toNat) (0,⟨S0,r0,[],n0,none,0⟩) ⟨⟨Int.le_refl 0,by show (0:Int) ≤ L.length;omega,by show (0:Int) ≤ 50;omega⟩,⟨hX0.ok,hX0.l,hX0.inv⟩⟩ (fun t v h=>h) ?_ ?_
 ·dsimp only [TkX.T]
  rw [owno_eq]
  refine Imp.pick (Imp.vnil ?_)
  first|exact .refl _|exact .drop|exact .fin|((repeat refine .pick ?_);first|exact .refl _|exact .emp _|exact .fin)
 rintro ⟨i,X⟩ ⟨⟨hi0,hi1,hi2⟩,hX⟩
 dsimp only at hi0 hi1 hi2 hX ⊢
 conv=>whnf
 by_cases h3:i < L.length ∧ i < 50
 ·have h31:=h3.1
  have h32:=h3.2
  obtain ⟨o,ho⟩:∃ o,L[i.toNat]? = some o:=⟨_,List.getElem?_eq_getElem (by omega)⟩
  repeat' (first
   | (refine spl_t (by simp;omega) ?_;conv=>whnf)
   | ((first|refine spl_f (by with_reducible exact ndec_self _) ?_|refine spl_f (by with_reducible exact nbeq_self _) ?_|refine spl_t (by with_reducible exact beq_self _) ?_);conv=>whnf)
   | (refine spl_dec (fun hd=>?_) (fun hd=>?_) <;> first|(exfalso;omega)|(conv=>whnf))
   | (refine spl_ndec (fun hd=>?_) (fun hd=>?_) <;> first|(exfalso;omega)|(conv=>whnf))
   | (refine spl_intro (fun hd=>?_) (fun hd=>?_) <;> (conv=>whnf))
   | ((first|refine Ld.i ?_|refine LdN.i ?_|refine St.i ⟨rfl,rfl⟩ (List.cons_ne_nil _ _) ?_|refine Ar.i64 (by omega) ?_|refine Ar.u64 (by omega) ?_|refine Ar.i64d (by omega) (by omega) ?_|refine Shr.i (by rfl) (by decide) ?_|refine Shl.i (by rfl) (by decide) ?_|refine Req.mk (by omega) ?_);conv=>whnf)
   | (intro blk hblk;conv=>whnf)
   | (refine IxS.r (xs:=L) (i:=i.toNat) (by omega) rfl (by omega) (fun ab off ha=>?_);cases ha;conv=>whnf)
   | ((first|refine LdN.r ho rfl ?_|refine Ld.r ho rfl ?_|refine Ld.r0 ho rfl ?_|refine LdN.rp ho ?_);conv=>whnf))
  refine CallK.ret f_z9.ok (tkplays_spec hX (by omega)) ?_
  rintro v G ⟨X',hX',rfl,rfl⟩
  conv=>whnf
  repeat' (first
   | ((first|refine spl_f (by with_reducible exact ndec_self _) ?_|refine spl_f (by with_reducible exact nbeq_self _) ?_|refine spl_t (by with_reducible exact beq_self _) ?_);conv=>whnf)
   | (refine spl_dec (fun hd=>?_) (fun hd=>?_) <;> first|(exfalso;omega)|(conv=>whnf))
   | (refine spl_ndec (fun hd=>?_) (fun hd=>?_) <;> first|(exfalso;omega)|(conv=>whnf))
   | (refine spl_intro (fun hd=>?_) (fun hd=>?_) <;> (conv=>whnf))
   | ((first|refine Ld.i ?_|refine LdN.i ?_|refine St.i ⟨rfl,rfl⟩ (List.cons_ne_nil _ _) ?_|refine Ar.i64 (by omega) ?_|refine Ar.u64 (by omega) ?_|refine Ar.i64d (by omega) (by omega) ?_|refine Shr.i (by rfl) (by decide) ?_|refine Shl.i (by rfl) (by decide) ?_|refine Req.mk (by omega) ?_);conv=>whnf)
   | (intro blk hblk;conv=>whnf))
  exact ⟨rfl,(i + 1,X'),⟨⟨by dsimp only;omega,by dsimp only;omega,by dsimp only;omega⟩,by dsimp only;rw [show (i + 1).toNat = i.toNat + 1 by omega];exact hX'⟩,fun t v h=>h,(by first|exact .refl _|exact .drop|exact .fin|((repeat refine .pick ?_);first|exact .refl _|exact .emp _|exact .fin)),by dsimp only;omega⟩
 obtain ⟨hS,hSl,last,hI⟩:=hX
 obtain ⟨S,r,M,next,la,lcc⟩:=X
 dsimp only [TkX.T] at *
 obtain ⟨D,hD⟩:∃ D,D = S.val.P.dirtyL (sortI (S.P.held.map (·.1))):=⟨_,rfl⟩
 have ek:S.val.P.held.map (·.1) = S.P.held.map (·.1):=mapv_keys _ _
 have hcp:=hI.cp (by omega)
 have hdi:=hI.dirty
 rw [ek,← hD] at hcp hdi
 obtain ⟨hd1,hd2,hd3⟩:=hdi
 have erl:S.val.L.recs.length = S.L.recs.length:=List.length_map ..
 have hlv:=hI.live
 have hnn:=hI.n
 have hnx:=hI.nx
 rw [erl] at hlv hnn hd2
 have hMl:=hlv.len
 have hlk:∀ x ∈ M,1 ≤ x.tx ∧ x.tx ≤ 2147483647:=fun x hx=>by have:=(hlv.one x hx).1;omega
 have hnx1:=hlv.nx
 have hls:lstF 0 D = leastD D:=lstF_least fun d hd=>(hd2 d hd).2.1
 repeat' (first
  | (refine spl_f (by simp;omega) ?_;conv=>whnf)
  | ((first|refine spl_f (by with_reducible exact ndec_self _) ?_|refine spl_f (by with_reducible exact nbeq_self _) ?_|refine spl_t (by with_reducible exact beq_self _) ?_);conv=>whnf)
  | (refine spl_dec (fun hd=>?_) (fun hd=>?_) <;> first|(exfalso;omega)|(conv=>whnf))
  | (refine spl_ndec (fun hd=>?_) (fun hd=>?_) <;> first|(exfalso;omega)|(conv=>whnf))
  | (refine spl_intro (fun hd=>?_) (fun hd=>?_) <;> (conv=>whnf))
  | ((first|refine Ld.i ?_|refine LdN.i ?_|refine St.i ⟨rfl,rfl⟩ (List.cons_ne_nil _ _) ?_|refine Ar.i64 (by omega) ?_|refine Ar.u64 (by omega) ?_|refine Ar.i64d (by omega) (by omega) ?_|refine Shr.i (by rfl) (by decide) ?_|refine Shl.i (by rfl) (by decide) ?_|refine Req.mk (by omega) ?_);conv=>whnf)
  | (intro blk hblk;conv=>whnf))
 all_goals
  refine CallK.ret f_z1o.ok (sdirty_spec (S:=S) hS) ?_
  rw [← hD]
  rintro v G ⟨da,dc,rfl,rfl⟩
  conv=>whnf
  repeat' (first
   | ((first|refine spl_f (by with_reducible exact ndec_self _) ?_|refine spl_f (by with_reducible exact nbeq_self _) ?_|refine spl_t (by with_reducible exact beq_self _) ?_);conv=>whnf)
   | (refine spl_dec (fun hd=>?_) (fun hd=>?_) <;> first|(exfalso;omega)|(conv=>whnf))
   | (refine spl_ndec (fun hd=>?_) (fun hd=>?_) <;> first|(exfalso;omega)|(conv=>whnf))
   | (refine spl_intro (fun hd=>?_) (fun hd=>?_) <;> (conv=>whnf))
   | ((first|refine Ld.i ?_|refine LdN.i ?_|refine St.i ⟨rfl,rfl⟩ (List.cons_ne_nil _ _) ?_|refine Ar.i64 (by omega) ?_|refine Ar.u64 (by omega) ?_|refine Ar.i64d (by omega) (by omega) ?_|refine Shr.i (by rfl) (by decide) ?_|refine Shl.i (by rfl) (by decide) ?_|refine Req.mk (by omega) ?_);conv=>whnf)
   | (intro blk hblk;conv=>whnf)
   | (refine OpX.appN (ys:=D) tab_ok rfl rfl rfl rfl rfl (by omega) ⟨rfl,OneC.h⟩ (fun ba bc=>?_);conv=>whnf))
  refine LoopK.atH tab_ok (L:=f_z15.live) (ι:=Nat) (fun i=>i ≤ 2) (fun i=>[(12,.int .i64 i)]) (fun _=>tabo t ⟨r,M,next⟩•stoo q S•vec t_z1l 2 dirtyv ba bc D•owno ob la lcc M next•R) (fun i=>2 - i) 0 (by decide) (fun t v h=>h) (by first|exact .refl _|exact .drop|exact .fin|((repeat refine .pick ?_);first|exact .refl _|exact .emp _|exact .fin)) ?_
  intro u hu
  dsimp only
  rw [owno_eq]
  conv=>whnf
  by_cases hu2:u < 2
  ·repeat' (first
    | ((first|refine spl_f (by with_reducible exact ndec_self _) ?_|refine spl_f (by with_reducible exact nbeq_self _) ?_|refine spl_t (by with_reducible exact beq_self _) ?_);conv=>whnf)
    | (refine spl_dec (fun hd=>?_) (fun hd=>?_) <;> first|(exfalso;omega)|(conv=>whnf))
    | (refine spl_ndec (fun hd=>?_) (fun hd=>?_) <;> first|(exfalso;omega)|(conv=>whnf))
    | (refine spl_intro (fun hd=>?_) (fun hd=>?_) <;> (conv=>whnf))
    | ((first|refine Ld.i ?_|refine LdN.i ?_|refine St.i ⟨rfl,rfl⟩ (List.cons_ne_nil _ _) ?_|refine Ar.i64 (by omega) ?_|refine Ar.u64 (by omega) ?_|refine Ar.i64d (by omega) (by omega) ?_|refine Shr.i (by rfl) (by decide) ?_|refine Shl.i (by rfl) (by decide) ?_|refine Req.mk (by omega) ?_);conv=>whnf)
    | (intro blk hblk;conv=>whnf))
   refine CallK.ret f_zn.ok (take_spec (T:=⟨r,M,next⟩) hS hD hlv.sort hMl hlk) ?_
   rintro v G ⟨xa,xc,ya,yc,rfl,rfl⟩
   conv=>whnf
   repeat (first
    | ((first|refine Ld.i ?_|refine LdN.i ?_|refine St.i ⟨rfl,rfl⟩ (List.cons_ne_nil _ _) ?_|refine Ar.i64 (by omega) ?_|refine Ar.u64 (by omega) ?_|refine Ar.i64d (by omega) (by omega) ?_|refine Shr.i (by rfl) (by decide) ?_|refine Shl.i (by rfl) (by decide) ?_|refine Req.mk (by omega) ?_);conv=>whnf)
    | (intro blk hblk;conv=>whnf))
   obtain ⟨b13,hb13⟩:∃ b13,b13 = blk:=⟨_,rfl⟩
   rw [← hb13]
   repeat' (first
    | (refine CallK.ret f_z3.ok num16_spec ?_;rintro v G ⟨rfl,rfl⟩;conv=>whnf)
    | (refine CallK.ret f_z1b.ok (sameLive_spec (xs:=M) (ys:=M) rfl rfl (by omega)) ?_;rw [decide_eq_true (rfl:M = M)];rintro v G ⟨rfl,rfl⟩;conv=>whnf)
    | (refine CallK.ret f_z1c.ok (same16_spec (xs:=D) (ys:=D) rfl rfl (by omega)) ?_;rw [decide_eq_true (rfl:D = D)];rintro v G ⟨rfl,rfl⟩;conv=>whnf)
    | ((first|refine spl_f (by with_reducible exact ndec_self _) ?_|refine spl_f (by with_reducible exact nbeq_self _) ?_|refine spl_t (by with_reducible exact beq_self _) ?_);conv=>whnf)
    | (refine spl_dec (fun hd=>?_) (fun hd=>?_) <;> first|(exfalso;omega)|(conv=>whnf))
    | (refine spl_ndec (fun hd=>?_) (fun hd=>?_) <;> first|(exfalso;omega)|(conv=>whnf))
    | (refine spl_intro (fun hd=>?_) (fun hd=>?_) <;> (conv=>whnf))
    | ((first|refine Ld.i ?_|refine LdN.i ?_|refine St.i ⟨rfl,rfl⟩ (List.cons_ne_nil _ _) ?_|refine Ar.i64 (by omega) ?_|refine Ar.u64 (by omega) ?_|refine Ar.i64d (by omega) (by omega) ?_|refine Shr.i (by rfl) (by decide) ?_|refine Shl.i (by rfl) (by decide) ?_|refine Req.mk (by omega) ?_);conv=>whnf)
    | (intro blk hblk;conv=>whnf))
   repeat' (first
    | (refine CallK.ret f_z3.ok num16_spec ?_;rintro v G ⟨rfl,rfl⟩;conv=>whnf)
    | (refine CallK.ret f_z1d.ok (pcheckT_spec (lv:=M) (dv:=D) rfl rfl) ?_;rw [if_pos hcp];rintro v G ⟨rfl,rfl⟩;conv=>whnf)
    | (refine CallK.ret f_z2.ok (rchk_cp (lsn:=0) (lv:=M) (dv:=D) rfl rfl (by decide)) ?_;rw [if_pos hcp];rintro v G ⟨rfl,rfl⟩;conv=>whnf)
    | (refine CallK.ret f_z1w.ok (slast_spec (p:=q) (S:=S) hSl) ?_;rintro v G ⟨rfl,rfl⟩;conv=>whnf)
    | (refine CallK.ret f_z33.ok (r5cp_spec (lv:=M) (dv:=D) rfl rfl hcp (by omega) (fun x hx=>by have:=(hlv.one x hx).2.1;omega) (fun x hx=>by have:=hd2 x hx;omega)) ?_;rintro v G ⟨rfl,rfl⟩;conv=>whnf)
    | ((first|refine spl_f (by with_reducible exact ndec_self _) ?_|refine spl_f (by with_reducible exact nbeq_self _) ?_|refine spl_t (by with_reducible exact beq_self _) ?_);conv=>whnf)
    | (refine spl_dec (fun hd=>?_) (fun hd=>?_) <;> first|(exfalso;omega)|(conv=>whnf))
    | (refine spl_ndec (fun hd=>?_) (fun hd=>?_) <;> first|(exfalso;omega)|(conv=>whnf))
    | (refine spl_intro (fun hd=>?_) (fun hd=>?_) <;> (conv=>whnf))
    | ((first|refine Ld.i ?_|refine LdN.i ?_|refine St.i ⟨rfl,rfl⟩ (List.cons_ne_nil _ _) ?_|refine Ar.i64 (by omega) ?_|refine Ar.u64 (by omega) ?_|refine Ar.i64d (by omega) (by omega) ?_|refine Shr.i (by rfl) (by decide) ?_|refine Shl.i (by rfl) (by decide) ?_|refine Req.mk (by omega) ?_);conv=>whnf)
    | (intro blk hblk;conv=>whnf)
    | (refine Sub.on (by first|exact .refl _|exact .drop|exact .fin|((repeat refine .pick ?_);first|exact .refl _|exact .emp _|exact .fin)) ?_;conv=>whnf)
    | (refine Sub.on (Imp.trans KeepC.h (by first|exact .refl _|exact .drop|exact .fin|((repeat refine .pick ?_);first|exact .refl _|exact .emp _|exact .fin))) ?_;conv=>whnf)
    | (refine CallK.ret f_z2p.ok (awake_spec) ?_;rintro v G ⟨rfl,rfl⟩;conv=>whnf)
    | (refine CallK.ret f_z2p.ok (awake16_spec) ?_;rintro v G ⟨rfl,rfl⟩;conv=>whnf)
    | (refine CallK.ret f_z2q.ok (tnext_spec) ?_;rintro v G ⟨rfl,rfl⟩;conv=>whnf)
    | (refine CallK.ret f_z1o.ok (sdirty_spec (by first|rfl|assumption|omega|decide|(simp;done)|(simp;omega)|(simp at *;omega))) ?_;rintro v G ⟨e_a,e_c,rfl,rfl⟩;conv=>whnf)
    | (refine CallK.ret f_zn.ok (take_nil) ?_;rintro v G ⟨rfl,rfl⟩;conv=>whnf)
    | (refine CallK.ret f_zn.ok (take_nil) ?_;rintro v G ⟨rfl,rfl⟩;conv=>whnf)
    | (refine CallK.ret f_z3.ok (num_spec) ?_;rintro v G ⟨rfl,rfl⟩;conv=>whnf)
    | (refine CallK.ret f_z3.ok (num16_spec) ?_;rintro v G ⟨rfl,rfl⟩;conv=>whnf)
    | (refine CallK.ret f_z1b.ok (sameLive_spec (by first|rfl|assumption|omega|decide|(simp;done)|(simp;omega)|(simp at *;omega)) (by first|rfl|assumption|omega|decide|(simp;done)|(simp;omega)|(simp at *;omega)) (by first|rfl|assumption|omega|decide|(simp;done)|(simp;omega)|(simp at *;omega))) ?_;rintro v G ⟨rfl,rfl⟩;conv=>whnf)
    | (refine CallK.ret f_z1b.ok (sameLive_spec (by first|rfl|assumption|omega|decide|(simp;done)|(simp;omega)|(simp at *;omega)) (by first|rfl|assumption|omega|decide|(simp;done)|(simp;omega)|(simp at *;omega)) (by first|rfl|assumption|omega|decide|(simp;done)|(simp;omega)|(simp at *;omega))) ?_;rintro v G ⟨rfl,rfl⟩;conv=>whnf)
    | (refine CallK.ret f_z1c.ok (same_spec (by first|rfl|assumption|omega|decide|(simp;done)|(simp;omega)|(simp at *;omega)) (by first|rfl|assumption|omega|decide|(simp;done)|(simp;omega)|(simp at *;omega)) (by first|rfl|assumption|omega|decide|(simp;done)|(simp;omega)|(simp at *;omega))) ?_;rintro v G ⟨rfl,rfl⟩;conv=>whnf)
    | (refine CallK.ret f_z1c.ok (same16_spec (by first|rfl|assumption|omega|decide|(simp;done)|(simp;omega)|(simp at *;omega)) (by first|rfl|assumption|omega|decide|(simp;done)|(simp;omega)|(simp at *;omega)) (by first|rfl|assumption|omega|decide|(simp;done)|(simp;omega)|(simp at *;omega))) ?_;rintro v G ⟨rfl,rfl⟩;conv=>whnf)
    | (refine DrawK.introH tab_ok mixed 96 f_z15.last18 f_z15.plan18 _ rfl (by kernel_rfl) (Sub.of (by first|exact .refl _|exact .drop|exact .fin|((repeat refine .pick ?_);first|exact .refl _|exact .emp _|exact .fin))) ?_;conv=>whnf)
    | (refine CallK.ret f_z1d.ok (pcheck_as (by first|rfl|assumption|omega|decide|(simp;done)|(simp;omega)|(simp at *;omega)) (by first|rfl|assumption|omega|decide|(simp;done)|(simp;omega)|(simp at *;omega)) (by first|rfl|assumption|omega|decide|(simp;done)|(simp;omega)|(simp at *;omega)) (by first|rfl|assumption|omega|decide|(simp;done)|(simp;omega)|(simp at *;omega)) (by first|rfl|assumption|omega|decide|(simp;done)|(simp;omega)|(simp at *;omega))) ?_;rintro v G ⟨rfl,rfl⟩;conv=>whnf)
    | (refine CallK.ret f_z1d.ok (pcheck_spec (by first|rfl|assumption|omega|decide|(simp;done)|(simp;omega)|(simp at *;omega)) (by first|rfl|assumption|omega|decide|(simp;done)|(simp;omega)|(simp at *;omega))) ?_;rintro v G ⟨rfl,rfl⟩;conv=>whnf)
    | (refine CallK.ret f_z1d.ok (pcheckT_spec (by first|rfl|assumption|omega|decide|(simp;done)|(simp;omega)|(simp at *;omega)) (by first|rfl|assumption|omega|decide|(simp;done)|(simp;omega)|(simp at *;omega))) ?_;rintro v G ⟨rfl,rfl⟩;conv=>whnf)
    | (refine CallK.ret f_z1d.ok (pcheck_as (by first|rfl|assumption|omega|decide|(simp;done)|(simp;omega)|(simp at *;omega)) (by first|rfl|assumption|omega|decide|(simp;done)|(simp;omega)|(simp at *;omega)) (by first|rfl|assumption|omega|decide|(simp;done)|(simp;omega)|(simp at *;omega)) (by first|rfl|assumption|omega|decide|(simp;done)|(simp;omega)|(simp at *;omega)) (by first|rfl|assumption|omega|decide|(simp;done)|(simp;omega)|(simp at *;omega))) ?_;rintro v G ⟨rfl,rfl⟩;conv=>whnf)
    | (refine CallK.ret f_z2.ok (rcheck_spec (by first|rfl|assumption|omega|decide|(simp;done)|(simp;omega)|(simp at *;omega)) (by first|rfl|assumption|omega|decide|(simp;done)|(simp;omega)|(simp at *;omega))) ?_;rintro v G ⟨rfl,rfl⟩;conv=>whnf)
    | (refine CallK.ret f_z2.ok (check_spec) ?_;rintro v G ⟨rfl,rfl⟩;conv=>whnf)
    | (refine CallK.ret f_z1w.ok (last_spec) ?_;rintro v G ⟨rfl,rfl⟩;conv=>whnf)
    | (refine CallK.ret f_z1w.ok (slast_spec (by first|rfl|assumption|omega|decide|(simp;done)|(simp;omega)|(simp at *;omega))) ?_;rintro v G ⟨rfl,rfl⟩;conv=>whnf)
    | (refine CallK.ret f_z33.ok (r5check_spec (by first|rfl|assumption|omega|decide|(simp;done)|(simp;omega)|(simp at *;omega)) (by first|rfl|assumption|omega|decide|(simp;done)|(simp;omega)|(simp at *;omega))) ?_;rintro v G ⟨rfl,rfl⟩;conv=>whnf)
    | (refine CallK.ret f_z26.ok (from_spec (by first|rfl|assumption|omega|decide|(simp;done)|(simp;omega)|(simp at *;omega)) (by first|rfl|assumption|omega|decide|(simp;done)|(simp;omega)|(simp at *;omega))) ?_;rintro v G ⟨rfl,rfl⟩;conv=>whnf)
    | (refine CallK.ret f_z26.ok (from_spec (by first|rfl|assumption|omega|decide|(simp;done)|(simp;omega)|(simp at *;omega)) (by first|rfl|assumption|omega|decide|(simp;done)|(simp;omega)|(simp at *;omega))) ?_;rintro v G ⟨rfl,rfl⟩;conv=>whnf))
   refine LoopK.keep tab_ok (L:=f_z15.live) (ι:=Nat × Int) (fun i=>i.1 ≤ D.length ∧ lstF i.2 (D.drop i.1) = leastD D) (fun i=>[(16,.int .i64 i.1),(15,.int .i64 i.2)]) (fun i=>D.length - i.1) (0,0) ⟨by simp,hls⟩ (fun t v h=>h) ?_
   rintro ⟨k,m⟩ ⟨hk,hm⟩
   dsimp only at hk hm ⊢
   conv=>whnf
   by_cases k1:k < D.length
   ·obtain ⟨x,hx⟩:∃ x,D[k]? = some x:=⟨_,List.getElem?_eq_getElem k1⟩
    rw [drop_of hx,lstF] at hm
    repeat' (first
     | ((first|refine spl_f (by with_reducible exact ndec_self _) ?_|refine spl_f (by with_reducible exact nbeq_self _) ?_|refine spl_t (by with_reducible exact beq_self _) ?_);conv=>whnf)
     | (refine spl_dec (fun hd=>?_) (fun hd=>?_) <;> first|(exfalso;omega)|(conv=>whnf))
     | (refine spl_ndec (fun hd=>?_) (fun hd=>?_) <;> first|(exfalso;omega)|(conv=>whnf))
     | (refine spl_intro (fun hd=>?_) (fun hd=>?_) <;> (conv=>whnf))
     | ((first|refine Ld.i ?_|refine LdN.i ?_|refine St.i ⟨rfl,rfl⟩ (List.cons_ne_nil _ _) ?_|refine Ar.i64 (by omega) ?_|refine Ar.u64 (by omega) ?_|refine Ar.i64d (by omega) (by omega) ?_|refine Shr.i (by rfl) (by decide) ?_|refine Shl.i (by rfl) (by decide) ?_|refine Req.mk (by omega) ?_);conv=>whnf)
     | (intro blk hblk;conv=>whnf)
     | (refine IxS.r (i:=k) rfl rfl k1 (fun ab off ha=>?_);cases ha;conv=>whnf)
     | ((first|refine LdN.r hx rfl ?_|refine Ld.r hx rfl ?_|refine Ld.r0 hx rfl ?_|refine LdN.rp hx ?_);conv=>whnf))
    ·rw [if_pos (.inl (by assumption))] at hm
     exact ⟨rfl,(k + 1,x.2),⟨k1,hm⟩,fun t v h=>h,Imp.refl _,by dsimp only;omega⟩
    ·rw [if_pos (.inr (by assumption))] at hm
     exact ⟨rfl,(k + 1,x.2),⟨k1,hm⟩,fun t v h=>h,Imp.refl _,by dsimp only;omega⟩
    ·rw [if_neg (by omega)] at hm
     exact ⟨rfl,(k + 1,m),⟨k1,hm⟩,fun t v h=>h,Imp.refl _,by dsimp only;omega⟩
   rw [drop_all k1,lstF] at hm
   subst hm
   repeat' (first
    | (refine CallK.ret f_z26.ok (from_spec (xs:=D) rfl (by omega)) ?_;rintro v G ⟨rfl,rfl⟩;conv=>whnf)
    | ((first|refine spl_f (by with_reducible exact ndec_self _) ?_|refine spl_f (by with_reducible exact nbeq_self _) ?_|refine spl_t (by with_reducible exact beq_self _) ?_);conv=>whnf)
    | (refine spl_dec (fun hd=>?_) (fun hd=>?_) <;> first|(exfalso;omega)|(conv=>whnf))
    | (refine spl_ndec (fun hd=>?_) (fun hd=>?_) <;> first|(exfalso;omega)|(conv=>whnf))
    | (refine spl_intro (fun hd=>?_) (fun hd=>?_) <;> (conv=>whnf))
    | ((first|refine Ld.i ?_|refine LdN.i ?_|refine St.i ⟨rfl,rfl⟩ (List.cons_ne_nil _ _) ?_|refine Ar.i64 (by omega) ?_|refine Ar.u64 (by omega) ?_|refine Ar.i64d (by omega) (by omega) ?_|refine Shr.i (by rfl) (by decide) ?_|refine Shl.i (by rfl) (by decide) ?_|refine Req.mk (by omega) ?_);conv=>whnf)
    | (intro blk hblk;conv=>whnf))
   refine LoopK.atH tab_ok (L:=f_z15.live) (ι:=Nat × List LiveV) (fun i=>i.1 ≤ M.length ∧ i.2.length = M.length) (fun i=>[(17,.int .i64 i.1)])
    (fun i=>vec t_z23 4 livev xa xc i.2•pts b13 (.cells ⟨[.slice xa M.length xc,.slice ya D.length yc,.int .i64 next]⟩ t_api_Points)•vec t_z1l 2 dirtyv ya yc D•tabo t ⟨r,M,next⟩•stoo q S•vec t_z1l 2 dirtyv ba bc D•owno ob la lcc M next•R) (fun i=>M.length - i.1) (0,M) ⟨Nat.zero_le _,rfl⟩ (fun t v h=>h) (by rw [owno_eq];((repeat (refine Imp.pick ?_));first|exact Imp.refl _|exact Imp.emp _|exact Imp.fin)) ?_
   rintro ⟨k,l'⟩ ⟨hk,hl'⟩
   dsimp only at hk hl' ⊢
   conv=>whnf
   by_cases k1:k < M.length
   ·obtain ⟨y,hy⟩:∃ y,l'[k]? = some y:=⟨_,List.getElem?_eq_getElem (by omega)⟩
    repeat' (first
     | ((first|refine spl_f (by with_reducible exact ndec_self _) ?_|refine spl_f (by with_reducible exact nbeq_self _) ?_|refine spl_t (by with_reducible exact beq_self _) ?_);conv=>whnf)
     | (refine spl_dec (fun hd=>?_) (fun hd=>?_) <;> first|(exfalso;omega)|(conv=>whnf))
     | (refine spl_ndec (fun hd=>?_) (fun hd=>?_) <;> first|(exfalso;omega)|(conv=>whnf))
     | (refine spl_intro (fun hd=>?_) (fun hd=>?_) <;> (conv=>whnf))
     | ((first|refine Ld.i ?_|refine LdN.i ?_|refine St.i ⟨rfl,rfl⟩ (List.cons_ne_nil _ _) ?_|refine Ar.i64 (by omega) ?_|refine Ar.u64 (by omega) ?_|refine Ar.i64d (by omega) (by omega) ?_|refine Shr.i (by rfl) (by decide) ?_|refine Shl.i (by rfl) (by decide) ?_|refine Req.mk (by omega) ?_);conv=>whnf)
     | (intro blk hblk;conv=>whnf)
     | (refine IxS.v (xs:=l') (i:=k) rfl hl'.symm (by omega) (fun ab off ha=>?_);cases ha;conv=>whnf)
     | (refine St.v0 hy (⟨-1,0,false,false⟩:LiveV) rfl (Nat.le_refl _) ⟨rfl,rfl⟩ ?_;conv=>whnf))
    exact ⟨rfl,(k + 1,l'.set k ⟨-1,0,false,false⟩),⟨k1,by rw [List.length_set];exact hl'⟩,fun t v h=>h,(by first|exact .refl _|exact .drop|exact .fin|((repeat refine .pick ?_);first|exact .refl _|exact .emp _|exact .fin)),by dsimp only;omega⟩
   repeat' (first
    | ((first|refine spl_f (by with_reducible exact ndec_self _) ?_|refine spl_f (by with_reducible exact nbeq_self _) ?_|refine spl_t (by with_reducible exact beq_self _) ?_);conv=>whnf)
    | (refine spl_dec (fun hd=>?_) (fun hd=>?_) <;> first|(exfalso;omega)|(conv=>whnf))
    | (refine spl_ndec (fun hd=>?_) (fun hd=>?_) <;> first|(exfalso;omega)|(conv=>whnf))
    | (refine spl_intro (fun hd=>?_) (fun hd=>?_) <;> (conv=>whnf))
    | ((first|refine Ld.i ?_|refine LdN.i ?_|refine St.i ⟨rfl,rfl⟩ (List.cons_ne_nil _ _) ?_|refine Ar.i64 (by omega) ?_|refine Ar.u64 (by omega) ?_|refine Ar.i64d (by omega) (by omega) ?_|refine Shr.i (by rfl) (by decide) ?_|refine Shl.i (by rfl) (by decide) ?_|refine Req.mk (by omega) ?_);conv=>whnf)
    | (intro blk hblk;conv=>whnf))
   refine LoopK.atH tab_ok (L:=f_z15.live) (ι:=Nat × List DirtyV) (fun i=>i.1 ≤ D.length ∧ i.2.length = D.length) (fun i=>[(18,.int .i64 i.1)])
    (fun i=>vec t_z1l 2 dirtyv ya yc i.2•pts b13 (.cells ⟨[.slice xa M.length xc,.slice ya D.length yc,.int .i64 next]⟩ t_api_Points)•tabo t ⟨r,M,next⟩•stoo q S•vec t_z1l 2 dirtyv ba bc D•owno ob la lcc M next•R) (fun i=>D.length - i.1) (0,D) ⟨Nat.zero_le _,rfl⟩ (fun t v h=>h) (by first|exact .refl _|exact .drop|exact .fin|((repeat refine .pick ?_);first|exact .refl _|exact .emp _|exact .fin)) ?_
   rintro ⟨k,l2⟩ ⟨hk2,hl2⟩
   dsimp only at hk2 hl2 ⊢
   conv=>whnf
   by_cases k2:k < D.length
   ·obtain ⟨y,hy⟩:∃ y,l2[k]? = some y:=⟨_,List.getElem?_eq_getElem (by omega)⟩
    repeat' (first
     | ((first|refine spl_f (by with_reducible exact ndec_self _) ?_|refine spl_f (by with_reducible exact nbeq_self _) ?_|refine spl_t (by with_reducible exact beq_self _) ?_);conv=>whnf)
     | (refine spl_dec (fun hd=>?_) (fun hd=>?_) <;> first|(exfalso;omega)|(conv=>whnf))
     | (refine spl_ndec (fun hd=>?_) (fun hd=>?_) <;> first|(exfalso;omega)|(conv=>whnf))
     | (refine spl_intro (fun hd=>?_) (fun hd=>?_) <;> (conv=>whnf))
     | ((first|refine Ld.i ?_|refine LdN.i ?_|refine St.i ⟨rfl,rfl⟩ (List.cons_ne_nil _ _) ?_|refine Ar.i64 (by omega) ?_|refine Ar.u64 (by omega) ?_|refine Ar.i64d (by omega) (by omega) ?_|refine Shr.i (by rfl) (by decide) ?_|refine Shl.i (by rfl) (by decide) ?_|refine Req.mk (by omega) ?_);conv=>whnf)
     | (intro blk hblk;conv=>whnf)
     | (refine IxS.v (xs:=l2) (i:=k) rfl hl2.symm (by omega) (fun ab off ha=>?_);cases ha;conv=>whnf)
     | (refine St.v0 hy ((-1,0):DirtyV) rfl (Nat.le_refl _) ⟨rfl,rfl⟩ ?_;conv=>whnf))
    exact ⟨rfl,(k + 1,l2.set k (-1,0)),⟨k2,by rw [List.length_set];exact hl2⟩,fun t v h=>h,(by first|exact .refl _|exact .drop|exact .fin|((repeat refine .pick ?_);first|exact .refl _|exact .emp _|exact .fin)),by dsimp only;omega⟩
   repeat' (first
    | ((first|refine spl_f (by with_reducible exact ndec_self _) ?_|refine spl_f (by with_reducible exact nbeq_self _) ?_|refine spl_t (by with_reducible exact beq_self _) ?_);conv=>whnf)
    | (refine spl_dec (fun hd=>?_) (fun hd=>?_) <;> first|(exfalso;omega)|(conv=>whnf))
    | (refine spl_ndec (fun hd=>?_) (fun hd=>?_) <;> first|(exfalso;omega)|(conv=>whnf))
    | (refine spl_intro (fun hd=>?_) (fun hd=>?_) <;> (conv=>whnf))
    | ((first|refine Ld.i ?_|refine LdN.i ?_|refine St.i ⟨rfl,rfl⟩ (List.cons_ne_nil _ _) ?_|refine Ar.i64 (by omega) ?_|refine Ar.u64 (by omega) ?_|refine Ar.i64d (by omega) (by omega) ?_|refine Shr.i (by rfl) (by decide) ?_|refine Shl.i (by rfl) (by decide) ?_|refine Req.mk (by omega) ?_);conv=>whnf)
    | (intro blk hblk;conv=>whnf))
   exact ⟨rfl,u + 1,by omega,fun t v h=>h,by rw [owno_eq];exact Imp.trans Imp.drop Imp.drop,by omega⟩
  ·repeat' (first
    | ((first|refine spl_f (by with_reducible exact ndec_self _) ?_|refine spl_f (by with_reducible exact nbeq_self _) ?_|refine spl_t (by with_reducible exact beq_self _) ?_);conv=>whnf)
    | (refine spl_dec (fun hd=>?_) (fun hd=>?_) <;> first|(exfalso;omega)|(conv=>whnf))
    | (refine spl_ndec (fun hd=>?_) (fun hd=>?_) <;> first|(exfalso;omega)|(conv=>whnf))
    | (refine spl_intro (fun hd=>?_) (fun hd=>?_) <;> (conv=>whnf))
    | ((first|refine Ld.i ?_|refine LdN.i ?_|refine St.i ⟨rfl,rfl⟩ (List.cons_ne_nil _ _) ?_|refine Ar.i64 (by omega) ?_|refine Ar.u64 (by omega) ?_|refine Ar.i64d (by omega) (by omega) ?_|refine Shr.i (by rfl) (by decide) ?_|refine Shl.i (by rfl) (by decide) ?_|refine Req.mk (by omega) ?_);conv=>whnf)
    | (intro blk hblk;conv=>whnf))
   refine CallK.ret f_zn.ok take_nil1 ?_
   rintro v G ⟨rfl,rfl⟩
   conv=>whnf
   repeat' (first
    | ((first|refine spl_f (by with_reducible exact ndec_self _) ?_|refine spl_f (by with_reducible exact nbeq_self _) ?_|refine spl_t (by with_reducible exact beq_self _) ?_);conv=>whnf)
    | (refine spl_dec (fun hd=>?_) (fun hd=>?_) <;> first|(exfalso;omega)|(conv=>whnf))
    | (refine spl_ndec (fun hd=>?_) (fun hd=>?_) <;> first|(exfalso;omega)|(conv=>whnf))
    | (refine spl_intro (fun hd=>?_) (fun hd=>?_) <;> (conv=>whnf))
    | ((first|refine Ld.i ?_|refine LdN.i ?_|refine St.i ⟨rfl,rfl⟩ (List.cons_ne_nil _ _) ?_|refine Ar.i64 (by omega) ?_|refine Ar.u64 (by omega) ?_|refine Ar.i64d (by omega) (by omega) ?_|refine Shr.i (by rfl) (by decide) ?_|refine Shl.i (by rfl) (by decide) ?_|refine Req.mk (by omega) ?_);conv=>whnf)
    | (intro blk hblk;conv=>whnf))
   refine CallK.ret f_zn.ok take_nil2 ?_
   rintro v G ⟨rfl,rfl⟩
   conv=>whnf
   repeat' (first
    | (refine CallK.ret f_z3.ok num16_spec ?_;rintro v G ⟨rfl,rfl⟩;conv=>whnf)
    | ((first|refine spl_f (by with_reducible exact ndec_self _) ?_|refine spl_f (by with_reducible exact nbeq_self _) ?_|refine spl_t (by with_reducible exact beq_self _) ?_);conv=>whnf)
    | (refine spl_dec (fun hd=>?_) (fun hd=>?_) <;> first|(exfalso;omega)|(conv=>whnf))
    | (refine spl_ndec (fun hd=>?_) (fun hd=>?_) <;> first|(exfalso;omega)|(conv=>whnf))
    | (refine spl_intro (fun hd=>?_) (fun hd=>?_) <;> (conv=>whnf))
    | ((first|refine Ld.i ?_|refine LdN.i ?_|refine St.i ⟨rfl,rfl⟩ (List.cons_ne_nil _ _) ?_|refine Ar.i64 (by omega) ?_|refine Ar.u64 (by omega) ?_|refine Ar.i64d (by omega) (by omega) ?_|refine Shr.i (by rfl) (by decide) ?_|refine Shl.i (by rfl) (by decide) ?_|refine Req.mk (by omega) ?_);conv=>whnf)
    | (intro blk hblk;conv=>whnf))
   exact ⟨_,_,rfl,(by first|exact .refl _|exact .drop|exact .fin|((repeat refine .pick ?_);first|exact .refl _|exact .emp _|exact .fin)),rfl,rfl⟩
end
end Go.Proofs.YtbcedpankkdfoaaGreatDoor
/- The law's store: where it lies; reading its rows. Conditions: in each statement. -/
namespace Go.Proofs.YtbcedpankkdfoaaGreatDoor
open Go Go.SL Go.SL.Sec Go.SL.Fld Go.SL.Pts Go.SL.Rec Go.SL.Twn Go.SL.Pg Go.SL.Mst Go.SL.Pool
instance:SizedC 4 PgX.cells:=⟨fun _=>rfl⟩
instance {x:PgX}:LitL x.cells [.int .i64 x.m.num,.int .i64 x.m.lsn,.slice x.ca x.m.C.length x.cc,.slice x.ga x.m.G.length x.gc]:=⟨rfl⟩
structure RowX where
 a:Option Addr
 cap:Nat
 xs:List PgX
def rowxv (r:RowX):List Value:=[.slice r.a r.xs.length r.cap]
instance:SizedC 1 rowxv:=⟨fun _=>rfl⟩
instance {r:RowX}:LitL (rowxv r) [.slice r.a r.xs.length r.cap]:=⟨rfl⟩
def rowxc (r:RowX):HProp:=vec t_quotaref07_Page 4 PgX.cells r.a r.cap r.xs•bigL pgc r.xs
def RowX.m (r:RowX):List PgM:=r.xs.map (·.m)
structure StX where
 p:Int
 lg:Int
 f:Int
 d:Nat
 l:Nat
 q:Nat
 ha:Option Addr
 hc:Nat
 H:List RowX
 da:Option Addr
 dc:Nat
 E:List Int
def StX.had (X:StX):List (List PgM):=X.H.map RowX.m
abbrev storev (X:StX):List Value:=[.int .i64 X.p,.int .i64 X.lg,.int .i64 X.f,ptr X.d,ptr X.l,ptr X.q,.slice X.ha X.H.length X.hc,.slice X.da X.E.length X.dc]
def storec (b:Nat) (X:StX):HProp:=pts b (.cells ⟨storev X⟩ t_quotalaw09_Store)•vec t_S_quotaref07_Page 1 rowxv X.ha X.hc X.H•vec t_int 1 ints X.da X.dc X.E•bigL rowxc X.H
theorem storec_eq (b:Nat) (X:StX) (R:HProp):(storec b X•R) = (pts b (.cells ⟨storev X⟩ t_quotalaw09_Store)•vec t_S_quotaref07_Page 1 rowxv X.ha X.hc X.H•vec t_int 1 ints X.da X.dc X.E•bigL rowxc X.H•R):=by
 unfold storec;simp only [star_assoc]
section
variable {W:World} {R:HProp} {b:Nat} {X:StX}
instance (priority:=100) RdC.storec {k:Nat} {v:Value} [LAt (storev X) k v]:RdC W (storec b X•R) ⟨b,k,none⟩ v:=by rw [storec_eq];infer_instance
instance (priority:=100) RdLC.storec {k n:Nat} {vs:List Value} [LSub (storev X) k n vs]:RdLC W (storec b X•R) b k n vs:=by rw [storec_eq];infer_instance
end
structure StX.Ok (X:StX) (S:StoX):Prop where
 sto:S.Ok
 d:S.P.d = X.d
 l:S.P.l = X.l
 p:X.p = S.P.pages
 had:HadOk X.p X.had
 el:(X.E.length:Int) = X.p
theorem StX.Ok.pages {X:StX} {S:StoX} (h:X.Ok S):2 ≤ X.p ∧ X.p ≤ 64:=by
 have:=h.sto.val.may
 unfold MayP at this
 rw [h.p];exact this.1
theorem StX.Ok.last {X:StX} {S:StoX} (h:X.Ok S) {n:Int} (hn:0 ≤ n ∧ n < X.p):∃ (r:RowX) (i:Nat) (x:PgX),X.H[n.toNat]? = some r ∧ r.xs.length = i + 1 ∧ r.xs[i]? = some x ∧ lastP X.had n = x.m ∧ 0 ≤ x.m.lsn ∧ x.m.lsn ≤ 10000:=by
 obtain ⟨l,hl,i,q,h1,h2,h3,h4,h5,h6⟩:=h.had.get hn
 unfold StX.had at hl
 rw [List.getElem?_map] at hl
 obtain ⟨r,hr,rfl⟩:=Option.map_eq_some_iff.1 hl
 unfold RowX.m at h1 h2
 rw [List.length_map] at h1
 rw [List.getElem?_map] at h2
 obtain ⟨x,hx,rfl⟩:=Option.map_eq_some_iff.1 h2
 exact ⟨r,i,x,hr,h1,hx,h3,h5,h6⟩
end Go.Proofs.YtbcedpankkdfoaaGreatDoor
/- The log under the law's store, whatever has ended it: Append of a Begin, Force; walked. Conditions: in each statement. -/
namespace Go.Proofs.YtbcedpankkdfoaaGreatDoor
open Go Go.SL Go.SL.Sec Go.SL.Fld Go.SL.Pts Go.SL.Rec Go.SL.Twn Go.SL.Pg Go.SL.Mst Go.SL.Pool
end Go.Proofs.YtbcedpankkdfoaaGreatDoor
/- The law's store at its beginning: opened, walked. Conditions: in each statement. -/
namespace Go.Proofs.YtbcedpankkdfoaaGreatDoor
open Go Go.SL Go.SL.Sec Go.SL.Fld Go.SL.Pts Go.SL.Rec Go.SL.Twn Go.SL.Pg Go.SL.Mst Go.SL.Pool
def stmOf (X:StX) (S:StoX):StM:=⟨S.val,X.had,X.E⟩
end Go.Proofs.YtbcedpankkdfoaaGreatDoor
/- The law's store: a call played, but for Put; walked. Conditions: in each statement. -/
namespace Go.Proofs.YtbcedpankkdfoaaGreatDoor
open Go Go.SL Go.SL.Sec Go.SL.Fld Go.SL.Pts Go.SL.Rec Go.SL.Twn Go.SL.Pg Go.SL.Mst Go.SL.Pool
structure OpV where
 m:OpM
 ca:Option Addr
 cc:Nat
 ga:Option Addr
 gc:Nat
 raw:Bool
 ka:Option Addr
 kn:Nat
 kc:Nat
 torn:Int
 off:Int
abbrev opl (o:OpV):List Value:=[.int .i64 o.m.kind,.int .i64 o.m.n,.int .i64 o.m.a,.int .i64 o.m.pg.num,.int .i64 o.m.pg.lsn,.slice o.ca o.m.pg.C.length o.cc,.slice o.ga o.m.pg.G.length o.gc,.bool o.raw,.slice o.ka o.kn o.kc,.int .i64 o.torn,.int .i64 o.off]
structure StX.Same (X X':StX):Prop where
 p:X'.p = X.p
 lg:X'.lg = X.lg
 f:X'.f = X.f
 d:X'.d = X.d
 l:X'.l = X.l
 q:X'.q = X.q
theorem StX.Same.refl (X:StX):X.Same X:=⟨rfl,rfl,rfl,rfl,rfl,rfl⟩
theorem StX.Same.trans {A B C:StX} (h:A.Same B) (k:B.Same C):A.Same C:=⟨k.p.trans h.p,k.lg.trans h.lg,k.f.trans h.f,k.d.trans h.d,k.l.trans h.l,k.q.trans h.q⟩
def PlayQ (b:Nat) (X:StX) (T:Bool × StM) (R:HProp) (v:Value) (G:HProp):Prop:=∃ (X':StX) (S':StoX),X'.Ok S' ∧ X.Same X' ∧ stmOf X' S' = T.2 ∧ v = .bool T.1 ∧ G = (storec b X'•stoo X'.q S'•R)
theorem StX.Ok.next {X:StX} {S S':StoX} (h:X.Ok S) (hS:S'.Ok) (hs:S.Same S') (hp:S'.val.P.pages = S.val.P.pages):X.Ok S' :=
 ⟨hS,hs.d.trans h.d,hs.l.trans h.l,h.p.trans hp.symm,h.had,h.el⟩
section
variable {W:World} {R:HProp} {b:Nat} {X:StX} {S:StoX} {o:OpV}
structure SmallX (X:StX) (S:StoX):Prop where
 bd:Bd S.P.pages 1000000 1000000 S.val
 rl:∀ l ∈ X.had,l.length ≤ 1000000
theorem SmallX.clock (h:SmallX X S):0 ≤ S.P.clock ∧ S.P.clock ≤ 1000000000:=by
 have:=h.bd.clock
 have e:S.val.P.clock = S.P.clock:=rfl
 omega
theorem SmallX.row (h:SmallX X S) {r:RowX} (hr:r ∈ X.H):r.xs.length ≤ 1000000:=by
 have:=h.rl r.m (List.mem_map.2 ⟨r,hr,rfl⟩)
 unfold RowX.m at this
 rwa [List.length_map] at this
theorem St.done {Q:HProp} {ab off n:Nat} {z y:Int} {K:HProp → Prop} (ha:X.da = some ⟨ab,off,none⟩) (hz:X.E[n]? = some z) (k:K (storec b { X with E:=X.E.set n y }•Q)) :
  Req ([Value.int .i64 y].length = 1 ∧ ([Value.int .i64 y].all fun x=>x.oneCell') = true) (St prog W (storec b X•Q) ⟨ab,off + n * 1,none⟩ [.int .i64 y] K):=by
 have e1:∀ l:List Int,vec t_int 1 ints X.da X.dc l = vec t_int 1 ints (some ⟨ab,off,none⟩) X.dc l:=fun l=>by rw [ha]
 have e2:storev { X with E:=X.E.set n y } = storev X:=by simp [storev]
 refine Req.conv (H':=vec t_int 1 ints (some ⟨ab,off,none⟩) X.dc X.E•pts b (.cells ⟨storev X⟩ t_quotalaw09_Store)•vec t_S_quotaref07_Page 1 rowxv X.ha X.hc X.H•bigL rowxc X.H•Q) ?_ (St.v0 (xs:=X.E) hz y rfl (Nat.le_refl 1) ⟨rfl,rfl⟩ ?_) k
 ·rw [storec_eq,e1]
  first|exact .refl _|exact .drop|exact .fin|((repeat refine .pick ?_);first|exact .refl _|exact .emp _|exact .fin)
 ·rw [storec_eq,e2]
  dsimp only
  rw [e1]
  first|exact .refl _|exact .drop|exact .fin|((repeat refine .pick ?_);first|exact .refl _|exact .emp _|exact .fin)
end
end Go.Proofs.YtbcedpankkdfoaaGreatDoor
