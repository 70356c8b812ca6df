/- PointsTake's store and its steps, walked. Conditions: in each statement. -/
import Derived.Test.YtbcedpankkdfoaaGreatDoorPart31
import Derived.Test.YtbcedpankkdfoaaGreatDoorPart28
import Derived.Test.YtbcedpankkdfoaaGreatDoorPart7
import Derived.Test.YtbcedpankkdfoaaGreatDoorPart16
set_option linter.unusedVariables false
set_option linter.unusedSimpArgs false
namespace Go.Proofs.YtbcedpankkdfoaaGreatDoor
open Go Go.SL Go.SL.Sec Go.SL.Fld Go.SL.Pts Go.SL.Rec Go.SL.Twn Go.SL.Pg Go.SL.Mst Go.SL.Pool
open Go.SL.Und (RecV recv)
structure TkX where
 S:StoX
 r:Nat
 L:List LiveV
 next:Int
 la:Option Addr
 lc:Nat
def TkX.T (X:TkX):TabX:=⟨X.r,X.L,X.next⟩
def owno (o:Nat) (la:Option Addr) (lc:Nat) (L:List LiveV) (next:Int):HProp:=pts o (.cells ⟨[.slice la L.length lc,.slice none 0 0,.int .i64 next]⟩ t_api_Points)•vec t_z23 4 livev la lc L
theorem owno_eq (o:Nat) (la:Option Addr) (lc:Nat) (L:List LiveV) (next:Int) (R:HProp):(owno o la lc L next•R) = (pts o (.cells ⟨[.slice la L.length lc,.slice none 0 0,.int .i64 next]⟩ t_api_Points)•vec t_z23 4 livev la lc L•R):=by unfold owno;rw [star_assoc]
structure TkOk (X:TkX) (l k:Nat):Prop where
 ok:X.S.Ok
 l:X.S.P.l = l
 inv:∃ last,TkI X.S.val X.L X.next k (2 * k) last
section
variable {W:World} {R:HProp}
theorem store_spec {z:Int} [le:LaidE W] [lc:LaidC W] [lp:LaidP W] [oc:OldC W R] :
  Does prog W f_z3p ⟨[.int .i64 z]⟩ R (Ret fun v G=>∃ (q t l:Nat) (X:TkX),TkOk X l 0 ∧ X.next = 1 + z % 1048576 ∧ X.L = [] ∧ v = .tuple ⟨[ptr l,ptr q,ptr t]⟩ ∧ G = (stoo q X.S•tabo t X.T•R)):=by
 have hm:MayP 6 60 4:=by unfold MayP;decide
 have hz:0 ≤ z % 1048576 ∧ z % 1048576 < 1048576:=by omega
 refine f_z3p.does _ ?_
 conv=>whnf
 repeat' (first
  | ((first|refine spl_f (by with_reducible exact ndec_self _) ?_|refine spl_f (by with_reducible exact nbeq_self _) ?_|refine spl_t (by with_reducible exact beq_self _) ?_);conv=>whnf)
  | (refine spl_dec (fun hd=>?_) (fun hd=>?_) <;> first|(exfalso;omega)|(conv=>whnf))
  | (refine spl_ndec (fun hd=>?_) (fun hd=>?_) <;> first|(exfalso;omega)|(conv=>whnf))
  | (refine spl_intro (fun hd=>?_) (fun hd=>?_) <;> (conv=>whnf))
  | ((first|refine Ld.i ?_|refine LdN.i ?_|refine St.i ⟨rfl,rfl⟩ (List.cons_ne_nil _ _) ?_|refine Ar.i64 (by omega) ?_|refine Ar.u64 (by omega) ?_|refine Ar.i64d (by omega) (by omega) ?_|refine Shr.i (by rfl) (by decide) ?_|refine Shl.i (by rfl) (by decide) ?_|refine Req.mk (by omega) ?_);conv=>whnf)
  | (intro blk hblk;conv=>whnf))
 refine CallK.ret f_z34.ok (new_yes (n:=77) (by decide)) ?_
 rintro v G ⟨d,a,c,hc,rfl,rfl⟩
 obtain ⟨t1,ht1⟩:∃ t1,t1 = blk:=⟨_,rfl⟩
 rw [← ht1]
 have hXok:(freshX a c (List.replicate ((77:Int) * 512).toNat 0)).Ok:=fresh_ok (by rw [List.length_replicate];decide) (by rw [List.length_replicate];decide) (Byt.rep _) hc
 obtain ⟨X,hX⟩:∃ X,X = freshX a c (List.replicate ((77:Int) * 512).toNat 0):=⟨_,rfl⟩
 have hXv:X.val = zeroD 77:=by rw [hX];rfl
 have hXd:X.down = false:=by rw [hX];rfl
 have hXp:X.ps = []:=by rw [hX];rfl
 rw [← hX] at hXok ⊢
 have hop:openF X.val 17 60 = ((0,0),⟨17,60,[],[],0,none⟩,zeroD 77):=by rw [hXv];exact openF_zero (fun i hi=>by omega)
 conv=>whnf
 repeat' (first
  | (refine CallK.ret f_z3.ok num16_spec ?_;rintro v G ⟨rfl,rfl⟩;conv=>whnf)
  | ((first|refine spl_f (by with_reducible exact ndec_self _) ?_|refine spl_f (by with_reducible exact nbeq_self _) ?_|refine spl_t (by with_reducible exact beq_self _) ?_);conv=>whnf)
  | (refine spl_dec (fun hd=>?_) (fun hd=>?_) <;> first|(exfalso;omega)|(conv=>whnf))
  | (refine spl_ndec (fun hd=>?_) (fun hd=>?_) <;> first|(exfalso;omega)|(conv=>whnf))
  | (refine spl_intro (fun hd=>?_) (fun hd=>?_) <;> (conv=>whnf))
  | ((first|refine Ld.i ?_|refine LdN.i ?_|refine St.i ⟨rfl,rfl⟩ (List.cons_ne_nil _ _) ?_|refine Ar.i64 (by omega) ?_|refine Ar.u64 (by omega) ?_|refine Ar.i64d (by omega) (by omega) ?_|refine Shr.i (by rfl) (by decide) ?_|refine Shl.i (by rfl) (by decide) ?_|refine Req.mk (by omega) ?_);conv=>whnf)
  | (intro blk hblk;conv=>whnf))
 refine CallK.ret f_log_Open.ok (open_spec (X:=X) (first:=17) (n:=60) hXok hXd hXp (by decide) (by decide) (by rw [hXv,zeroD_secs (by decide)];decide)) ?_
 rw [hop]
 rintro v G ⟨L,Y,hLd,hY,hLv,hLok,hYv,hYp,⟨h0,l,rfl,rfl⟩|⟨h0,_⟩⟩
 rotate_left
 ·exact absurd rfl h0
 conv=>whnf
 repeat' (first
  | ((first|refine spl_f (by with_reducible exact ndec_self _) ?_|refine spl_f (by with_reducible exact nbeq_self _) ?_|refine spl_t (by with_reducible exact beq_self _) ?_);conv=>whnf)
  | (refine spl_dec (fun hd=>?_) (fun hd=>?_) <;> first|(exfalso;omega)|(conv=>whnf))
  | (refine spl_ndec (fun hd=>?_) (fun hd=>?_) <;> first|(exfalso;omega)|(conv=>whnf))
  | (refine spl_intro (fun hd=>?_) (fun hd=>?_) <;> (conv=>whnf))
  | ((first|refine Ld.i ?_|refine LdN.i ?_|refine St.i ⟨rfl,rfl⟩ (List.cons_ne_nil _ _) ?_|refine Ar.i64 (by omega) ?_|refine Ar.u64 (by omega) ?_|refine Ar.i64d (by omega) (by omega) ?_|refine Shr.i (by rfl) (by decide) ?_|refine Shl.i (by rfl) (by decide) ?_|refine Req.mk (by omega) ?_);conv=>whnf)
  | (intro blk hblk;conv=>whnf))
 refine CallK.imp (H':=devo d Y•logo l L•pts t1 (.cells ⟨[.int .i64 6,.int .i64 60,.int .i64 4]⟩ t_api_Shape)•R) (by first|exact .refl _|exact .drop|exact .fin|((repeat refine .pick ?_);first|exact .refl _|exact .emp _|exact .fin)) ?_
 refine CallK.ret f_z27.ok (pnew_spec (X:=Y) (p:=6) (lg:=60) (f:=4) hY hm (by rw [hYv];exact zeroD_secs (by decide))) ?_
 rintro v G ⟨p,r,rfl,rfl⟩
 obtain ⟨S,hS⟩:∃ S:StoX,S = ⟨pool0 d l 6 60 4 r,L,Y⟩:=⟨_,rfl⟩
 have hSv:S.val = sto0 6 60 4:=by rw [hS];show (⟨_,L.val,Y.val⟩:Sto) = _;rw [hLv,hYv];rfl
 have hSl:S.P.l = l:=by rw [hS]
 have hSok:S.Ok:=by rw [hS] at hSv ⊢;exact ⟨by rw [hSv];exact ok0 hm,hLok rfl,hY,hLd⟩
 conv=>whnf
 repeat' (first
  | (refine CallK.ret f_zb.ok (brought16_spec (x:=z) (n:=1048576) (by decide)) ?_;rintro v G ⟨rfl,rfl⟩;conv=>whnf)
  | (refine CallK.ret f_txns_New.ok (tnew_spec (next:=1 + z % 1048576) (by omega)) ?_;rintro v G ⟨tb,tr,rfl,rfl⟩;conv=>whnf)
  | (refine CallK.ret f_z3.ok num16_spec ?_;rintro v G ⟨rfl,rfl⟩;conv=>whnf)
  | ((first|refine spl_f (by with_reducible exact ndec_self _) ?_|refine spl_f (by with_reducible exact nbeq_self _) ?_|refine spl_t (by with_reducible exact beq_self _) ?_);conv=>whnf)
  | (refine spl_dec (fun hd=>?_) (fun hd=>?_) <;> first|(exfalso;omega)|(conv=>whnf))
  | (refine spl_ndec (fun hd=>?_) (fun hd=>?_) <;> first|(exfalso;omega)|(conv=>whnf))
  | (refine spl_intro (fun hd=>?_) (fun hd=>?_) <;> (conv=>whnf))
  | ((first|refine Ld.i ?_|refine LdN.i ?_|refine St.i ⟨rfl,rfl⟩ (List.cons_ne_nil _ _) ?_|refine Ar.i64 (by omega) ?_|refine Ar.u64 (by omega) ?_|refine Ar.i64d (by omega) (by omega) ?_|refine Shr.i (by rfl) (by decide) ?_|refine Shl.i (by rfl) (by decide) ?_|refine Req.mk (by omega) ?_);conv=>whnf)
  | (intro blk hblk;conv=>whnf))
 refine ⟨_,_,rfl,?_,p,tb,l,⟨S,tr,[],1 + z % 1048576,none,0⟩,⟨hSok,hSl,last0,by dsimp only;rw [hSv];exact TkI.zero (by omega)⟩,rfl,rfl,rfl,rfl⟩
 refine Imp.stoo (l:=l) (d:=d) hSl (by rw [hS]) ?_
 rw [hS]
 dsimp only [TkX.T]
 first|exact .refl _|exact .drop|exact .fin|((repeat refine .pick ?_);first|exact .refl _|exact .emp _|exact .fin)
def TkQ (o q t l k:Nat) (R:HProp) (v:Value) (G:HProp):Prop:=∃ X':TkX,TkOk X' l (k + 1) ∧ v = .bool true ∧ G = (owno o X'.la X'.lc X'.L X'.next•stoo q X'.S•tabo t X'.T•R)
end
end Go.Proofs.YtbcedpankkdfoaaGreatDoor
/- A step of PointsTake's store, walked: part 0. Conditions: in each statement. -/
namespace Go.Proofs.YtbcedpankkdfoaaGreatDoor
open Go Go.SL Go.SL.Sec Go.SL.Fld Go.SL.Pts Go.SL.Rec Go.SL.Twn Go.SL.Pg Go.SL.Mst Go.SL.Pool
open Go.SL.Und (RecV recv)
section
variable {W:World} {R:HProp}
set_option maxHeartbeats 2000000 in
theorem tkplays0 {q t l o k:Nat} {X:TkX} {kind n:Int} [le:LaidE W] [lc:LaidC W] [lp:LaidP W] [oc:OldC W R] (hX:TkOk X l k) (hk:k < 50) (c0:kind % 4 = 0) :
  Does prog W f_z9 ⟨[.agg ⟨[.int .i64 kind,.int .i64 n]⟩,ptr l,ptr q,ptr t,ptr o]⟩ (owno o X.la X.lc X.L X.next•stoo q X.S•tabo t X.T•R) (Ret (TkQ o q t l k R)):=by
 obtain ⟨hS,hl,last,hI⟩:=hX
 obtain ⟨S,r,L,next,la,lcc⟩:=X
 dsimp only [TkX.T] at *
 have hkn:=hI.n
 have hnx:=hI.nx
 have hlv:=hI.live
 have erl:S.val.L.recs.length = S.L.recs.length:=List.length_map ..
 rw [erl] at hkn hlv
 have herr:S.L.err = none:=StoX.errn rfl hI.keeps.err
 have hmd:=mod_bd (a:=n) (show (0:Int) < 1000 by decide)
 have hmk:=mod_bd (a:=kind) (show (0:Int) < 4 by decide)
 obtain ⟨b,hb⟩:∃ b,b = 1 + n % 1000:=⟨_,rfl⟩
 have ht:1 ≤ b ∧ b ≤ 1000000:=by omega
 obtain ⟨m,hm⟩:∃ m:Int,m = (S.L.recs.length:Int) + 1:=⟨_,rfl⟩
 have hm1:1 ≤ m ∧ m ≤ 1000:=by omega
 have hnx1:=hlv.nx
 have hll:=hlv.len
 obtain ⟨u1,u2,u3,u4⟩:=hI.beg (by omega) ht (by rw [erl];exact hlv.up (Nat.le_succ _)) (by omega)
 refine f_z9.does _ _ _ _ _ ?_
 conv=>whnf
 repeat' (first
  | (refine CallK.ret f_zb.ok (brought16_spec (by omega)) ?_;rintro v G ⟨rfl,rfl⟩;conv=>whnf)
  | (refine CallK.ret f_z3.ok num16_spec ?_;rintro v G ⟨rfl,rfl⟩;conv=>whnf)
  | ((first|refine spl_f (by with_reducible exact ndec_self _) ?_|refine spl_f (by with_reducible exact nbeq_self _) ?_|refine spl_t (by with_reducible exact beq_self _) ?_);conv=>whnf)
  | (refine spl_dec (fun hd=>?_) (fun hd=>?_) <;> first|(exfalso;omega)|(conv=>whnf))
  | (refine spl_ndec (fun hd=>?_) (fun hd=>?_) <;> first|(exfalso;omega)|(conv=>whnf))
  | (refine spl_intro (fun hd=>?_) (fun hd=>?_) <;> (conv=>whnf))
  | ((first|refine Ld.i ?_|refine LdN.i ?_|refine St.i ⟨rfl,rfl⟩ (List.cons_ne_nil _ _) ?_|refine Ar.i64 (by omega) ?_|refine Ar.u64 (by omega) ?_|refine Ar.i64d (by omega) (by omega) ?_|refine Shr.i (by rfl) (by decide) ?_|refine Shl.i (by rfl) (by decide) ?_|refine Req.mk (by omega) ?_);conv=>whnf)
  | (intro blk hblk;conv=>whnf))
 rw [← hb]
 refine CallK.ret f_za.ok (sbeg_spec (p:=q) (b:=b) hl hS herr ht) ?_
 rw [u1,if_pos rfl,← hm]
 rintro v G ⟨S1,k1,m1,v1,rfl,rfl⟩
 have hS1l:S1.P.l = l:=m1.l.trans hl
 conv=>whnf
 repeat' (first
  | (refine CallK.ret f_zb.ok (brought16_spec (by omega)) ?_;rintro v G ⟨rfl,rfl⟩;conv=>whnf)
  | (refine CallK.ret f_z3.ok num16_spec ?_;rintro v G ⟨rfl,rfl⟩;conv=>whnf)
  | ((first|refine spl_f (by with_reducible exact ndec_self _) ?_|refine spl_f (by with_reducible exact nbeq_self _) ?_|refine spl_t (by with_reducible exact beq_self _) ?_);conv=>whnf)
  | (refine spl_dec (fun hd=>?_) (fun hd=>?_) <;> first|(exfalso;omega)|(conv=>whnf))
  | (refine spl_ndec (fun hd=>?_) (fun hd=>?_) <;> first|(exfalso;omega)|(conv=>whnf))
  | (refine spl_intro (fun hd=>?_) (fun hd=>?_) <;> (conv=>whnf))
  | ((first|refine Ld.i ?_|refine LdN.i ?_|refine St.i ⟨rfl,rfl⟩ (List.cons_ne_nil _ _) ?_|refine Ar.i64 (by omega) ?_|refine Ar.u64 (by omega) ?_|refine Ar.i64d (by omega) (by omega) ?_|refine Shr.i (by rfl) (by decide) ?_|refine Shl.i (by rfl) (by decide) ?_|refine Req.mk (by omega) ?_);conv=>whnf)
  | (intro blk hblk;conv=>whnf))
 refine CallK.ret f_z3v.ok (tbeg_spec (X:=⟨r,L,next⟩) (by omega) ⟨hnx1,by dsimp only;omega⟩ hll (fun x hx=>(hlv.one x hx).1.2)) ?_
 rintro v G (⟨hfull,rfl,rfl⟩|⟨hfew,rfl,rfl⟩)
 ·conv=>whnf
  repeat' (first
   | (refine CallK.ret f_zb.ok (brought16_spec (by omega)) ?_;rintro v G ⟨rfl,rfl⟩;conv=>whnf)
   | (refine CallK.ret f_z3.ok num16_spec ?_;rintro v G ⟨rfl,rfl⟩;conv=>whnf)
   | ((first|refine spl_f (by with_reducible exact ndec_self _) ?_|refine spl_f (by with_reducible exact nbeq_self _) ?_|refine spl_t (by with_reducible exact beq_self _) ?_);conv=>whnf)
   | (refine spl_dec (fun hd=>?_) (fun hd=>?_) <;> first|(exfalso;omega)|(conv=>whnf))
   | (refine spl_ndec (fun hd=>?_) (fun hd=>?_) <;> first|(exfalso;omega)|(conv=>whnf))
   | (refine spl_intro (fun hd=>?_) (fun hd=>?_) <;> (conv=>whnf))
   | ((first|refine Ld.i ?_|refine LdN.i ?_|refine St.i ⟨rfl,rfl⟩ (List.cons_ne_nil _ _) ?_|refine Ar.i64 (by omega) ?_|refine Ar.u64 (by omega) ?_|refine Ar.i64d (by omega) (by omega) ?_|refine Shr.i (by rfl) (by decide) ?_|refine Shl.i (by rfl) (by decide) ?_|refine Req.mk (by omega) ?_);conv=>whnf)
   | (intro blk hblk;conv=>whnf))
  refine ⟨_,_,rfl,?_,⟨S1,r,L,next,la,lcc⟩,⟨k1,hS1l,last,?_⟩,rfl,rfl⟩
  ·try dsimp only [TkX.T]
   first|exact .refl _|exact .drop|exact .fin|((repeat refine .pick ?_);first|exact .refl _|exact .emp _|exact .fin)
  ·dsimp only
   rw [v1]
   exact u2.up (Nat.le_refl _) (by omega)
 ·dsimp only at hfew ⊢
  rw [owno_eq]
  conv=>whnf
  repeat' (first
   | (refine CallK.ret f_zb.ok (brought16_spec (by omega)) ?_;rintro v G ⟨rfl,rfl⟩;conv=>whnf)
   | (refine CallK.ret f_z3.ok num16_spec ?_;rintro v G ⟨rfl,rfl⟩;conv=>whnf)
   | ((first|refine spl_f (by with_reducible exact ndec_self _) ?_|refine spl_f (by with_reducible exact nbeq_self _) ?_|refine spl_t (by with_reducible exact beq_self _) ?_);conv=>whnf)
   | (refine spl_dec (fun hd=>?_) (fun hd=>?_) <;> first|(exfalso;omega)|(conv=>whnf))
   | (refine spl_ndec (fun hd=>?_) (fun hd=>?_) <;> first|(exfalso;omega)|(conv=>whnf))
   | (refine spl_intro (fun hd=>?_) (fun hd=>?_) <;> (conv=>whnf))
   | ((first|refine Ld.i ?_|refine LdN.i ?_|refine St.i ⟨rfl,rfl⟩ (List.cons_ne_nil _ _) ?_|refine Ar.i64 (by omega) ?_|refine Ar.u64 (by omega) ?_|refine Ar.i64d (by omega) (by omega) ?_|refine Shr.i (by rfl) (by decide) ?_|refine Shl.i (by rfl) (by decide) ?_|refine Req.mk (by omega) ?_);conv=>whnf)
   | (intro blk hblk;conv=>whnf))
  refine OpX.app1 (xs:=L) tab_ok rfl rfl rfl rfl (⟨next,m,false,false⟩:LiveV) rfl rfl (by omega) ⟨rfl,OneC.h⟩ (fun a' c'=>?_)
  repeat' (first
   | ((first|refine spl_f (by with_reducible exact ndec_self _) ?_|refine spl_f (by with_reducible exact nbeq_self _) ?_|refine spl_t (by with_reducible exact beq_self _) ?_);conv=>whnf)
   | (refine spl_dec (fun hd=>?_) (fun hd=>?_) <;> first|(exfalso;omega)|(conv=>whnf))
   | (refine spl_ndec (fun hd=>?_) (fun hd=>?_) <;> first|(exfalso;omega)|(conv=>whnf))
   | (refine spl_intro (fun hd=>?_) (fun hd=>?_) <;> (conv=>whnf))
   | ((first|refine Ld.i ?_|refine LdN.i ?_|refine St.i ⟨rfl,rfl⟩ (List.cons_ne_nil _ _) ?_|refine Ar.i64 (by omega) ?_|refine Ar.u64 (by omega) ?_|refine Ar.i64d (by omega) (by omega) ?_|refine Shr.i (by rfl) (by decide) ?_|refine Shl.i (by rfl) (by decide) ?_|refine Req.mk (by omega) ?_);conv=>whnf)
   | (intro blk hblk;conv=>whnf))
  refine ⟨_,_,rfl,?_,⟨S1,r,L ++ [⟨next,m,false,false⟩],next + 1,a',c'⟩,⟨k1,hS1l,last,?_⟩,rfl,rfl⟩
  ·rw [owno_eq]
   dsimp only
   rw [List.length_append,List.length_singleton]
   try dsimp only [TkX.T]
   first|exact .refl _|exact .drop|exact .fin|((repeat refine .pick ?_);first|exact .refl _|exact .emp _|exact .fin)
  ·dsimp only
   rw [v1]
   have:=(hI.beg (by omega) ht (L':=L ++ [⟨next,m,false,false⟩]) (next':=next + 1) (by rw [erl,hm];exact hlv.beg hfew) (by omega)).2.1
   exact this.up (Nat.le_refl _) (by omega)
end
end Go.Proofs.YtbcedpankkdfoaaGreatDoor
/- A step of PointsTake's store, walked: part 1. Conditions: in each statement. -/
namespace Go.Proofs.YtbcedpankkdfoaaGreatDoor
open Go Go.SL Go.SL.Sec Go.SL.Fld Go.SL.Pts Go.SL.Rec Go.SL.Twn Go.SL.Pg Go.SL.Mst Go.SL.Pool
open Go.SL.Und (RecV recv)
section
variable {W:World} {R:HProp}
set_option maxHeartbeats 2000000 in
theorem tkplays1 {q t l o k:Nat} {X:TkX} {kind n:Int} [le:LaidE W] [lc:LaidC W] [lp:LaidP W] [oc:OldC W R] (hX:TkOk X l k) (hk:k < 50) (c1:kind % 4 = 1) :
  Does prog W f_z9 ⟨[.agg ⟨[.int .i64 kind,.int .i64 n]⟩,ptr l,ptr q,ptr t,ptr o]⟩ (owno o X.la X.lc X.L X.next•stoo q X.S•tabo t X.T•R) (Ret (TkQ o q t l k R)):=by
 obtain ⟨hS,hl,last,hI⟩:=hX
 obtain ⟨S,r,L,next,la,lcc⟩:=X
 dsimp only [TkX.T] at *
 have hkn:=hI.n
 have hnx:=hI.nx
 have hlv:=hI.live
 have erl:S.val.L.recs.length = S.L.recs.length:=List.length_map ..
 rw [erl] at hkn hlv
 have herr:S.L.err = none:=StoX.errn rfl hI.keeps.err
 have hmd:=mod_bd (a:=n) (show (0:Int) < 1000 by decide)
 have hmk:=mod_bd (a:=kind) (show (0:Int) < 4 by decide)
 obtain ⟨b,hb⟩:∃ b,b = 1 + n % 1000:=⟨_,rfl⟩
 have ht:1 ≤ b ∧ b ≤ 1000000:=by omega
 obtain ⟨m,hm⟩:∃ m:Int,m = (S.L.recs.length:Int) + 1:=⟨_,rfl⟩
 have hm1:1 ≤ m ∧ m ≤ 1000:=by omega
 have hnx1:=hlv.nx
 have hll:=hlv.len
 obtain ⟨u1,u2,u3,u4⟩:=hI.beg (by omega) ht (by rw [erl];exact hlv.up (Nat.le_succ _)) (by omega)
 refine f_z9.does _ _ _ _ _ ?_
 conv=>whnf
 repeat' (first
  | (refine CallK.ret f_zb.ok (brought16_spec (by omega)) ?_;rintro v G ⟨rfl,rfl⟩;conv=>whnf)
  | (refine CallK.ret f_z3.ok num16_spec ?_;rintro v G ⟨rfl,rfl⟩;conv=>whnf)
  | ((first|refine spl_f (by with_reducible exact ndec_self _) ?_|refine spl_f (by with_reducible exact nbeq_self _) ?_|refine spl_t (by with_reducible exact beq_self _) ?_);conv=>whnf)
  | (refine spl_dec (fun hd=>?_) (fun hd=>?_) <;> first|(exfalso;omega)|(conv=>whnf))
  | (refine spl_ndec (fun hd=>?_) (fun hd=>?_) <;> first|(exfalso;omega)|(conv=>whnf))
  | (refine spl_intro (fun hd=>?_) (fun hd=>?_) <;> (conv=>whnf))
  | ((first|refine Ld.i ?_|refine LdN.i ?_|refine St.i ⟨rfl,rfl⟩ (List.cons_ne_nil _ _) ?_|refine Ar.i64 (by omega) ?_|refine Ar.u64 (by omega) ?_|refine Ar.i64d (by omega) (by omega) ?_|refine Shr.i (by rfl) (by decide) ?_|refine Shl.i (by rfl) (by decide) ?_|refine Req.mk (by omega) ?_);conv=>whnf)
  | (intro blk hblk;conv=>whnf))
 rw [← hb]
 refine CallK.ret f_za.ok (sbeg_spec (p:=q) (b:=b) hl hS herr ht) ?_
 rw [u1,if_pos rfl,← hm]
 rintro v G ⟨S1,k1,m1,v1,rfl,rfl⟩
 have hS1l:S1.P.l = l:=m1.l.trans hl
 conv=>whnf
 by_cases hL0:L.length = 0
 ·rw [owno_eq]
  repeat' (first
   | (refine CallK.ret f_zb.ok (brought16_spec (by omega)) ?_;rintro v G ⟨rfl,rfl⟩;conv=>whnf)
   | (refine CallK.ret f_z3.ok num16_spec ?_;rintro v G ⟨rfl,rfl⟩;conv=>whnf)
   | ((first|refine spl_f (by with_reducible exact ndec_self _) ?_|refine spl_f (by with_reducible exact nbeq_self _) ?_|refine spl_t (by with_reducible exact beq_self _) ?_);conv=>whnf)
   | (refine spl_dec (fun hd=>?_) (fun hd=>?_) <;> first|(exfalso;omega)|(conv=>whnf))
   | (refine spl_ndec (fun hd=>?_) (fun hd=>?_) <;> first|(exfalso;omega)|(conv=>whnf))
   | (refine spl_intro (fun hd=>?_) (fun hd=>?_) <;> (conv=>whnf))
   | ((first|refine Ld.i ?_|refine LdN.i ?_|refine St.i ⟨rfl,rfl⟩ (List.cons_ne_nil _ _) ?_|refine Ar.i64 (by omega) ?_|refine Ar.u64 (by omega) ?_|refine Ar.i64d (by omega) (by omega) ?_|refine Shr.i (by rfl) (by decide) ?_|refine Shl.i (by rfl) (by decide) ?_|refine Req.mk (by omega) ?_);conv=>whnf)
   | (intro blk hblk;conv=>whnf))
  refine ⟨_,_,rfl,?_,⟨S1,r,L,next,la,lcc⟩,⟨k1,hS1l,last,?_⟩,rfl,rfl⟩
  ·rw [owno_eq]
   try dsimp only [TkX.T]
   first|exact .refl _|exact .drop|exact .fin|((repeat refine .pick ?_);first|exact .refl _|exact .emp _|exact .fin)
  ·dsimp only
   rw [v1]
   exact u2.up (Nat.le_refl _) (by omega)
 have hj:=mod_bd (a:=n) (show (0:Int) < (L.length:Int) by omega)
 obtain ⟨j,hjj⟩:∃ j:Nat,n % (L.length:Int) = j:=⟨(n % (L.length:Int)).toNat,by omega⟩
 have hjl:j < L.length:=by omega
 obtain ⟨x,hx⟩:∃ x,L[j]? = some x:=⟨_,List.getElem?_eq_getElem hjl⟩
 have hxo:=hlv.one x (List.mem_of_getElem? hx)
 have hxm:x.last < m ∧ 1 ≤ m ∧ m ≤ 2147483647:=by omega
 rw [owno_eq]
 obtain ⟨xt,xl,xc,xu⟩:=x
 dsimp only at hxo hxm
 repeat' (first
  | (refine CallK.ret f_zb.ok (brought16_spec (by omega)) ?_;rintro v G ⟨rfl,rfl⟩;conv=>whnf)
  | (refine CallK.ret f_z3.ok num16_spec ?_;rintro v G ⟨rfl,rfl⟩;conv=>whnf)
  | ((first|refine spl_f (by with_reducible exact ndec_self _) ?_|refine spl_f (by with_reducible exact nbeq_self _) ?_|refine spl_t (by with_reducible exact beq_self _) ?_);conv=>whnf)
  | (refine spl_dec (fun hd=>?_) (fun hd=>?_) <;> first|(exfalso;omega)|(conv=>whnf))
  | (refine spl_ndec (fun hd=>?_) (fun hd=>?_) <;> first|(exfalso;omega)|(conv=>whnf))
  | (refine spl_intro (fun hd=>?_) (fun hd=>?_) <;> (conv=>whnf))
  | ((first|refine Ld.i ?_|refine LdN.i ?_|refine St.i ⟨rfl,rfl⟩ (List.cons_ne_nil _ _) ?_|refine Ar.i64 (by omega) ?_|refine Ar.u64 (by omega) ?_|refine Ar.i64d (by omega) (by omega) ?_|refine Shr.i (by rfl) (by decide) ?_|refine Shl.i (by rfl) (by decide) ?_|refine Req.mk (by omega) ?_);conv=>whnf)
  | (intro blk hblk;conv=>whnf)
  | (refine IxS.r (xs:=L) (i:=j) hjj rfl hjl (fun ab off ha=>?_);cases ha;conv=>whnf)
  | ((first|refine LdN.r hx rfl ?_|refine Ld.r hx rfl ?_|refine Ld.r0 hx rfl ?_|refine LdN.rp hx ?_);conv=>whnf)
  | (refine Sub.on (by first|exact .refl _|exact .drop|exact .fin|((repeat refine .pick ?_);first|exact .refl _|exact .emp _|exact .fin)) ?_;conv=>whnf)
  | (refine Sub.on (Imp.trans KeepC.h (by first|exact .refl _|exact .drop|exact .fin|((repeat refine .pick ?_);first|exact .refl _|exact .emp _|exact .fin))) ?_;conv=>whnf)
  | (refine CallK.ret f_zb.ok (brought_spec (by first|rfl|assumption|omega|decide|(simp;done)|(simp;omega)|(simp at *;omega))) ?_;rintro v G ⟨rfl,rfl⟩;conv=>whnf)
  | (refine CallK.ret f_zb.ok (brought16_spec (by first|rfl|assumption|omega|decide|(simp;done)|(simp;omega)|(simp at *;omega))) ?_;rintro v G ⟨rfl,rfl⟩;conv=>whnf)
  | (refine CallK.ret f_za.ok (append_down (by first|rfl|assumption|omega|decide|(simp;done)|(simp;omega)|(simp at *;omega))) ?_;rintro v G ⟨rfl,rfl⟩;conv=>whnf)
  | (refine CallK.ret f_za.ok (sbeg_spec (by first|rfl|assumption|omega|decide|(simp;done)|(simp;omega)|(simp at *;omega)) (by first|rfl|assumption|omega|decide|(simp;done)|(simp;omega)|(simp at *;omega)) (by first|rfl|assumption|omega|decide|(simp;done)|(simp;omega)|(simp at *;omega)) (by first|rfl|assumption|omega|decide|(simp;done)|(simp;omega)|(simp at *;omega))) ?_;rintro v G ⟨e_S',e_h1,e_h2,e_h3,rfl,rfl⟩;conv=>whnf)
  | (refine CallK.ret f_z3.ok (num_spec) ?_;rintro v G ⟨rfl,rfl⟩;conv=>whnf)
  | (refine CallK.ret f_z3.ok (num16_spec) ?_;rintro v G ⟨rfl,rfl⟩;conv=>whnf)
  | (refine DrawK.introH tab_ok mixed 101 f_z9.last20 f_z9.plan20 _ rfl (by kernel_rfl) (Sub.of (by first|exact .refl _|exact .drop|exact .fin|((repeat refine .pick ?_);first|exact .refl _|exact .emp _|exact .fin))) ?_;conv=>whnf)
  | (refine DrawK.introH tab_ok mixed 138 f_z9.last27 f_z9.plan27 _ rfl (by kernel_rfl) (Sub.of (by first|exact .refl _|exact .drop|exact .fin|((repeat refine .pick ?_);first|exact .refl _|exact .emp _|exact .fin))) ?_;conv=>whnf))
 ·refine CallK.ret f_z0.ok (note5_spec (X:=⟨r,L,next⟩) hxm hlv.nd hx) ?_
  rintro v G (⟨hc,rfl,rfl⟩|⟨hc1,hc2,rfl,rfl⟩)
  ·dsimp only at hc
   rcases xc with _|_ <;> rcases xu with _|_
   ·simp at hc
   all_goals
    conv=>whnf
    repeat' (first
     | (refine CallK.ret f_zb.ok (brought16_spec (by omega)) ?_;rintro v G ⟨rfl,rfl⟩;conv=>whnf)
     | (refine CallK.ret f_z3.ok num16_spec ?_;rintro v G ⟨rfl,rfl⟩;conv=>whnf)
     | ((first|refine spl_f (by with_reducible exact ndec_self _) ?_|refine spl_f (by with_reducible exact nbeq_self _) ?_|refine spl_t (by with_reducible exact beq_self _) ?_);conv=>whnf)
     | (refine spl_dec (fun hd=>?_) (fun hd=>?_) <;> first|(exfalso;omega)|(conv=>whnf))
     | (refine spl_ndec (fun hd=>?_) (fun hd=>?_) <;> first|(exfalso;omega)|(conv=>whnf))
     | (refine spl_intro (fun hd=>?_) (fun hd=>?_) <;> (conv=>whnf))
     | ((first|refine Ld.i ?_|refine LdN.i ?_|refine St.i ⟨rfl,rfl⟩ (List.cons_ne_nil _ _) ?_|refine Ar.i64 (by omega) ?_|refine Ar.u64 (by omega) ?_|refine Ar.i64d (by omega) (by omega) ?_|refine Shr.i (by rfl) (by decide) ?_|refine Shl.i (by rfl) (by decide) ?_|refine Req.mk (by omega) ?_);conv=>whnf)
     | (intro blk hblk;conv=>whnf))
    refine ⟨_,_,rfl,?_,⟨S1,r,L,next,some ⟨ab,off,none⟩,lcc⟩,⟨k1,hS1l,last,?_⟩,rfl,rfl⟩
    ·try dsimp only [TkX.T]
     rw [owno_eq]
     first|exact .refl _|exact .drop|exact .fin|((repeat refine .pick ?_);first|exact .refl _|exact .emp _|exact .fin)
    ·dsimp only
     rw [v1]
     exact u2.up (Nat.le_refl _) (by omega)
  ·conv=>whnf
   repeat' (first
    | (refine CallK.ret f_zb.ok (brought16_spec (by omega)) ?_;rintro v G ⟨rfl,rfl⟩;conv=>whnf)
    | (refine CallK.ret f_z3.ok num16_spec ?_;rintro v G ⟨rfl,rfl⟩;conv=>whnf)
    | ((first|refine spl_f (by with_reducible exact ndec_self _) ?_|refine spl_f (by with_reducible exact nbeq_self _) ?_|refine spl_t (by with_reducible exact beq_self _) ?_);conv=>whnf)
    | (refine spl_dec (fun hd=>?_) (fun hd=>?_) <;> first|(exfalso;omega)|(conv=>whnf))
    | (refine spl_ndec (fun hd=>?_) (fun hd=>?_) <;> first|(exfalso;omega)|(conv=>whnf))
    | (refine spl_intro (fun hd=>?_) (fun hd=>?_) <;> (conv=>whnf))
    | ((first|refine Ld.i ?_|refine LdN.i ?_|refine St.i ⟨rfl,rfl⟩ (List.cons_ne_nil _ _) ?_|refine Ar.i64 (by omega) ?_|refine Ar.u64 (by omega) ?_|refine Ar.i64d (by omega) (by omega) ?_|refine Shr.i (by rfl) (by decide) ?_|refine Shl.i (by rfl) (by decide) ?_|refine Req.mk (by omega) ?_);conv=>whnf)
    | (intro blk hblk;conv=>whnf)
    | (refine IxS.v (xs:=L) (i:=j) hjj rfl hjl (fun ab off ha=>?_);cases ha;conv=>whnf)
    | (refine St.v0 hx (⟨xt,m,true,false⟩:LiveV) rfl (Nat.le_refl _) ⟨rfl,rfl⟩ ?_;conv=>whnf)
    | (refine Sub.on (by first|exact .refl _|exact .drop|exact .fin|((repeat refine .pick ?_);first|exact .refl _|exact .emp _|exact .fin)) ?_;conv=>whnf)
    | (refine Sub.on (Imp.trans KeepC.h (by first|exact .refl _|exact .drop|exact .fin|((repeat refine .pick ?_);first|exact .refl _|exact .emp _|exact .fin))) ?_;conv=>whnf)
    | (refine CallK.ret f_zb.ok (brought_spec (by first|rfl|assumption|omega|decide|(simp;done)|(simp;omega)|(simp at *;omega))) ?_;rintro v G ⟨rfl,rfl⟩;conv=>whnf)
    | (refine CallK.ret f_zb.ok (brought16_spec (by first|rfl|assumption|omega|decide|(simp;done)|(simp;omega)|(simp at *;omega))) ?_;rintro v G ⟨rfl,rfl⟩;conv=>whnf)
    | (refine CallK.ret f_za.ok (append_down (by first|rfl|assumption|omega|decide|(simp;done)|(simp;omega)|(simp at *;omega))) ?_;rintro v G ⟨rfl,rfl⟩;conv=>whnf)
    | (refine CallK.ret f_za.ok (sbeg_spec (by first|rfl|assumption|omega|decide|(simp;done)|(simp;omega)|(simp at *;omega)) (by first|rfl|assumption|omega|decide|(simp;done)|(simp;omega)|(simp at *;omega)) (by first|rfl|assumption|omega|decide|(simp;done)|(simp;omega)|(simp at *;omega)) (by first|rfl|assumption|omega|decide|(simp;done)|(simp;omega)|(simp at *;omega))) ?_;rintro v G ⟨e_S',e_h1,e_h2,e_h3,rfl,rfl⟩;conv=>whnf)
    | (refine CallK.ret f_z3.ok (num_spec) ?_;rintro v G ⟨rfl,rfl⟩;conv=>whnf)
    | (refine CallK.ret f_z3.ok (num16_spec) ?_;rintro v G ⟨rfl,rfl⟩;conv=>whnf)
    | (refine DrawK.introH tab_ok mixed 101 f_z9.last20 f_z9.plan20 _ rfl (by kernel_rfl) (Sub.of (by first|exact .refl _|exact .drop|exact .fin|((repeat refine .pick ?_);first|exact .refl _|exact .emp _|exact .fin))) ?_;conv=>whnf)
    | (refine DrawK.introH tab_ok mixed 138 f_z9.last27 f_z9.plan27 _ rfl (by kernel_rfl) (Sub.of (by first|exact .refl _|exact .drop|exact .fin|((repeat refine .pick ?_);first|exact .refl _|exact .emp _|exact .fin))) ?_;conv=>whnf))
   refine ⟨_,_,rfl,?_,⟨S1,r,L.set j ⟨xt,m,true,false⟩,next,some ⟨ab,off,none⟩,lcc⟩,⟨k1,hS1l,last,?_⟩,rfl,rfl⟩
   ·rw [owno_eq]
    dsimp only
    rw [List.length_set]
    try dsimp only [TkX.T]
    first|exact .refl _|exact .drop|exact .fin|((repeat refine .pick ?_);first|exact .refl _|exact .emp _|exact .fin)
   ·dsimp only
    rw [v1]
    have:=(hI.beg (by omega) ht (L':=L.set j ⟨xt,m,true,false⟩) (next':=next) (by rw [erl,hm];exact hlv.set hx (by simp)) (by omega)).2.1
    exact this.up (Nat.le_refl _) (by omega)
 ·refine CallK.ret f_z0.ok (note6_spec (X:=⟨r,L,next⟩) hxm hlv.nd hx) ?_
  rintro v G (⟨hc,rfl,rfl⟩|⟨hc1,hc2,rfl,rfl⟩)
  ·dsimp only at hc
   rcases xc with _|_ <;> rcases xu with _|_
   ·simp at hc
   all_goals
    conv=>whnf
    repeat' (first
     | (refine CallK.ret f_zb.ok (brought16_spec (by omega)) ?_;rintro v G ⟨rfl,rfl⟩;conv=>whnf)
     | (refine CallK.ret f_z3.ok num16_spec ?_;rintro v G ⟨rfl,rfl⟩;conv=>whnf)
     | ((first|refine spl_f (by with_reducible exact ndec_self _) ?_|refine spl_f (by with_reducible exact nbeq_self _) ?_|refine spl_t (by with_reducible exact beq_self _) ?_);conv=>whnf)
     | (refine spl_dec (fun hd=>?_) (fun hd=>?_) <;> first|(exfalso;omega)|(conv=>whnf))
     | (refine spl_ndec (fun hd=>?_) (fun hd=>?_) <;> first|(exfalso;omega)|(conv=>whnf))
     | (refine spl_intro (fun hd=>?_) (fun hd=>?_) <;> (conv=>whnf))
     | ((first|refine Ld.i ?_|refine LdN.i ?_|refine St.i ⟨rfl,rfl⟩ (List.cons_ne_nil _ _) ?_|refine Ar.i64 (by omega) ?_|refine Ar.u64 (by omega) ?_|refine Ar.i64d (by omega) (by omega) ?_|refine Shr.i (by rfl) (by decide) ?_|refine Shl.i (by rfl) (by decide) ?_|refine Req.mk (by omega) ?_);conv=>whnf)
     | (intro blk hblk;conv=>whnf))
    refine ⟨_,_,rfl,?_,⟨S1,r,L,next,some ⟨ab,off,none⟩,lcc⟩,⟨k1,hS1l,last,?_⟩,rfl,rfl⟩
    ·try dsimp only [TkX.T]
     rw [owno_eq]
     first|exact .refl _|exact .drop|exact .fin|((repeat refine .pick ?_);first|exact .refl _|exact .emp _|exact .fin)
    ·dsimp only
     rw [v1]
     exact u2.up (Nat.le_refl _) (by omega)
  ·conv=>whnf
   repeat' (first
    | (refine CallK.ret f_zb.ok (brought16_spec (by omega)) ?_;rintro v G ⟨rfl,rfl⟩;conv=>whnf)
    | (refine CallK.ret f_z3.ok num16_spec ?_;rintro v G ⟨rfl,rfl⟩;conv=>whnf)
    | ((first|refine spl_f (by with_reducible exact ndec_self _) ?_|refine spl_f (by with_reducible exact nbeq_self _) ?_|refine spl_t (by with_reducible exact beq_self _) ?_);conv=>whnf)
    | (refine spl_dec (fun hd=>?_) (fun hd=>?_) <;> first|(exfalso;omega)|(conv=>whnf))
    | (refine spl_ndec (fun hd=>?_) (fun hd=>?_) <;> first|(exfalso;omega)|(conv=>whnf))
    | (refine spl_intro (fun hd=>?_) (fun hd=>?_) <;> (conv=>whnf))
    | ((first|refine Ld.i ?_|refine LdN.i ?_|refine St.i ⟨rfl,rfl⟩ (List.cons_ne_nil _ _) ?_|refine Ar.i64 (by omega) ?_|refine Ar.u64 (by omega) ?_|refine Ar.i64d (by omega) (by omega) ?_|refine Shr.i (by rfl) (by decide) ?_|refine Shl.i (by rfl) (by decide) ?_|refine Req.mk (by omega) ?_);conv=>whnf)
    | (intro blk hblk;conv=>whnf)
    | (refine IxS.v (xs:=L) (i:=j) hjj rfl hjl (fun ab off ha=>?_);cases ha;conv=>whnf)
    | (refine St.v0 hx (⟨xt,m,false,true⟩:LiveV) rfl (Nat.le_refl _) ⟨rfl,rfl⟩ ?_;conv=>whnf)
    | (refine Sub.on (by first|exact .refl _|exact .drop|exact .fin|((repeat refine .pick ?_);first|exact .refl _|exact .emp _|exact .fin)) ?_;conv=>whnf)
    | (refine Sub.on (Imp.trans KeepC.h (by first|exact .refl _|exact .drop|exact .fin|((repeat refine .pick ?_);first|exact .refl _|exact .emp _|exact .fin))) ?_;conv=>whnf)
    | (refine CallK.ret f_zb.ok (brought_spec (by first|rfl|assumption|omega|decide|(simp;done)|(simp;omega)|(simp at *;omega))) ?_;rintro v G ⟨rfl,rfl⟩;conv=>whnf)
    | (refine CallK.ret f_zb.ok (brought16_spec (by first|rfl|assumption|omega|decide|(simp;done)|(simp;omega)|(simp at *;omega))) ?_;rintro v G ⟨rfl,rfl⟩;conv=>whnf)
    | (refine CallK.ret f_za.ok (append_down (by first|rfl|assumption|omega|decide|(simp;done)|(simp;omega)|(simp at *;omega))) ?_;rintro v G ⟨rfl,rfl⟩;conv=>whnf)
    | (refine CallK.ret f_za.ok (sbeg_spec (by first|rfl|assumption|omega|decide|(simp;done)|(simp;omega)|(simp at *;omega)) (by first|rfl|assumption|omega|decide|(simp;done)|(simp;omega)|(simp at *;omega)) (by first|rfl|assumption|omega|decide|(simp;done)|(simp;omega)|(simp at *;omega)) (by first|rfl|assumption|omega|decide|(simp;done)|(simp;omega)|(simp at *;omega))) ?_;rintro v G ⟨e_S',e_h1,e_h2,e_h3,rfl,rfl⟩;conv=>whnf)
    | (refine CallK.ret f_z3.ok (num_spec) ?_;rintro v G ⟨rfl,rfl⟩;conv=>whnf)
    | (refine CallK.ret f_z3.ok (num16_spec) ?_;rintro v G ⟨rfl,rfl⟩;conv=>whnf)
    | (refine DrawK.introH tab_ok mixed 101 f_z9.last20 f_z9.plan20 _ rfl (by kernel_rfl) (Sub.of (by first|exact .refl _|exact .drop|exact .fin|((repeat refine .pick ?_);first|exact .refl _|exact .emp _|exact .fin))) ?_;conv=>whnf)
    | (refine DrawK.introH tab_ok mixed 138 f_z9.last27 f_z9.plan27 _ rfl (by kernel_rfl) (Sub.of (by first|exact .refl _|exact .drop|exact .fin|((repeat refine .pick ?_);first|exact .refl _|exact .emp _|exact .fin))) ?_;conv=>whnf))
   refine ⟨_,_,rfl,?_,⟨S1,r,L.set j ⟨xt,m,false,true⟩,next,some ⟨ab,off,none⟩,lcc⟩,⟨k1,hS1l,last,?_⟩,rfl,rfl⟩
   ·rw [owno_eq]
    dsimp only
    rw [List.length_set]
    try dsimp only [TkX.T]
    first|exact .refl _|exact .drop|exact .fin|((repeat refine .pick ?_);first|exact .refl _|exact .emp _|exact .fin)
   ·dsimp only
    rw [v1]
    have:=(hI.beg (by omega) ht (L':=L.set j ⟨xt,m,false,true⟩) (next':=next) (by rw [erl,hm];exact hlv.set hx (by simp)) (by omega)).2.1
    exact this.up (Nat.le_refl _) (by omega)
end
end Go.Proofs.YtbcedpankkdfoaaGreatDoor
/- A step of PointsTake's store, walked: part 2. Conditions: in each statement. -/
namespace Go.Proofs.YtbcedpankkdfoaaGreatDoor
open Go Go.SL Go.SL.Sec Go.SL.Fld Go.SL.Pts Go.SL.Rec Go.SL.Twn Go.SL.Pg Go.SL.Mst Go.SL.Pool
open Go.SL.Und (RecV recv)
section
variable {W:World} {R:HProp}
set_option maxHeartbeats 2000000 in
theorem tkplays2 {q t l o k:Nat} {X:TkX} {kind n:Int} [le:LaidE W] [lc:LaidC W] [lp:LaidP W] [oc:OldC W R] (hX:TkOk X l k) (hk:k < 50) (c0:¬ kind % 4 = 0) (c1:¬ kind % 4 = 1) :
  Does prog W f_z9 ⟨[.agg ⟨[.int .i64 kind,.int .i64 n]⟩,ptr l,ptr q,ptr t,ptr o]⟩ (owno o X.la X.lc X.L X.next•stoo q X.S•tabo t X.T•R) (Ret (TkQ o q t l k R)):=by
 obtain ⟨hS,hl,last,hI⟩:=hX
 obtain ⟨S,r,L,next,la,lcc⟩:=X
 dsimp only [TkX.T] at *
 have hkn:=hI.n
 have hnx:=hI.nx
 have hlv:=hI.live
 have erl:S.val.L.recs.length = S.L.recs.length:=List.length_map ..
 rw [erl] at hkn hlv
 have herr:S.L.err = none:=StoX.errn rfl hI.keeps.err
 have hmd:=mod_bd (a:=n) (show (0:Int) < 1000 by decide)
 have hmk:=mod_bd (a:=kind) (show (0:Int) < 4 by decide)
 obtain ⟨b,hb⟩:∃ b,b = 1 + n % 1000:=⟨_,rfl⟩
 have ht:1 ≤ b ∧ b ≤ 1000000:=by omega
 obtain ⟨m,hm⟩:∃ m:Int,m = (S.L.recs.length:Int) + 1:=⟨_,rfl⟩
 have hm1:1 ≤ m ∧ m ≤ 1000:=by omega
 have hnx1:=hlv.nx
 have hll:=hlv.len
 obtain ⟨u1,u2,u3,u4⟩:=hI.beg (by omega) ht (by rw [erl];exact hlv.up (Nat.le_succ _)) (by omega)
 refine f_z9.does _ _ _ _ _ ?_
 conv=>whnf
 repeat' (first
  | (refine CallK.ret f_zb.ok (brought16_spec (by omega)) ?_;rintro v G ⟨rfl,rfl⟩;conv=>whnf)
  | (refine CallK.ret f_z3.ok num16_spec ?_;rintro v G ⟨rfl,rfl⟩;conv=>whnf)
  | ((first|refine spl_f (by with_reducible exact ndec_self _) ?_|refine spl_f (by with_reducible exact nbeq_self _) ?_|refine spl_t (by with_reducible exact beq_self _) ?_);conv=>whnf)
  | (refine spl_dec (fun hd=>?_) (fun hd=>?_) <;> first|(exfalso;omega)|(conv=>whnf))
  | (refine spl_ndec (fun hd=>?_) (fun hd=>?_) <;> first|(exfalso;omega)|(conv=>whnf))
  | (refine spl_intro (fun hd=>?_) (fun hd=>?_) <;> (conv=>whnf))
  | ((first|refine Ld.i ?_|refine LdN.i ?_|refine St.i ⟨rfl,rfl⟩ (List.cons_ne_nil _ _) ?_|refine Ar.i64 (by omega) ?_|refine Ar.u64 (by omega) ?_|refine Ar.i64d (by omega) (by omega) ?_|refine Shr.i (by rfl) (by decide) ?_|refine Shl.i (by rfl) (by decide) ?_|refine Req.mk (by omega) ?_);conv=>whnf)
  | (intro blk hblk;conv=>whnf))
 rw [← hb]
 refine CallK.ret f_za.ok (sbeg_spec (p:=q) (b:=b) hl hS herr ht) ?_
 rw [u1,if_pos rfl,← hm]
 rintro v G ⟨S1,k1,m1,v1,rfl,rfl⟩
 have hS1l:S1.P.l = l:=m1.l.trans hl
 conv=>whnf
 obtain ⟨pn,hpn⟩:∃ pn,pn = n % 6:=⟨_,rfl⟩
 have hpn6:0 ≤ pn ∧ pn < 6:=by omega
 obtain ⟨w1,w2,w3,w4,w5,w6,last',w7⟩:=hI.step (by omega) ht hpn6
 rw [erl,← hm] at w5 w6 w7
 repeat' (first
  | (refine CallK.ret f_zb.ok (brought16_spec (by omega)) ?_;rintro v G ⟨rfl,rfl⟩;conv=>whnf)
  | (refine CallK.ret f_z3.ok num16_spec ?_;rintro v G ⟨rfl,rfl⟩;conv=>whnf)
  | ((first|refine spl_f (by with_reducible exact ndec_self _) ?_|refine spl_f (by with_reducible exact nbeq_self _) ?_|refine spl_t (by with_reducible exact beq_self _) ?_);conv=>whnf)
  | (refine spl_dec (fun hd=>?_) (fun hd=>?_) <;> first|(exfalso;omega)|(conv=>whnf))
  | (refine spl_ndec (fun hd=>?_) (fun hd=>?_) <;> first|(exfalso;omega)|(conv=>whnf))
  | (refine spl_intro (fun hd=>?_) (fun hd=>?_) <;> (conv=>whnf))
  | ((first|refine Ld.i ?_|refine LdN.i ?_|refine St.i ⟨rfl,rfl⟩ (List.cons_ne_nil _ _) ?_|refine Ar.i64 (by omega) ?_|refine Ar.u64 (by omega) ?_|refine Ar.i64d (by omega) (by omega) ?_|refine Shr.i (by rfl) (by decide) ?_|refine Shl.i (by rfl) (by decide) ?_|refine Req.mk (by omega) ?_);conv=>whnf)
  | (intro blk hblk;conv=>whnf))
 rw [← hpn]
 have e1:S1.val.P.clock = S1.P.clock:=rfl
 refine CallK.ret f_z1v.ok (sget_spec (S:=S1) k1 (by rw [← e1,v1];omega)) ?_
 rw [v1]
 rintro v G ⟨S2,k2,m2,v2,⟨_,f,⟨x,ca,cc,ga,gc⟩,hlk,hx,rfl,rfl⟩|⟨g0,_⟩⟩
 rotate_left
 ·exact absurd w2 g0
 have hx5:x.lsn < m:=by
  have h1:=look_val hlk
  have e9:S2.val.P = S2.P.val:=rfl
  rw [← e9,v2] at h1
  have:=w5 _ h1
  have e8:f.val.pg = f.pg.m:=rfl
  rw [e8] at this
  dsimp only at hx
  rw [hx]
  exact this
 have e2:S2.val.P.clock = S2.P.clock:=rfl
 rw [v2] at e2
 haveI rg:∀ (bb:Nat) (Q:HProp),RowN W (pts bb (.cells ⟨[.int .i64 1,.int .i64 m]⟩ t_api_Group)•Q) (some ⟨bb,0,none⟩) 1 2 grpv [⟨1,m⟩]:=fun bb Q=>⟨RowC.pts SizedC.h _ rfl,rfl⟩
 have hz:∀ (Q:HProp),RowN W Q none 0 5 cntv []:=fun Q=>⟨⟨fun w hs i x hx=>by cases hx⟩,rfl⟩
 conv=>whnf
 repeat' (first
  | ((first|refine spl_t (decide_eq_true hx5) ?_|refine spl_f (by with_reducible exact ndec_self _) ?_|refine spl_f (by with_reducible exact nbeq_self _) ?_|refine spl_t (by with_reducible exact beq_self _) ?_);conv=>whnf)
  | (refine spl_dec (fun hd=>?_) (fun hd=>?_) <;> first|(exfalso;omega)|(conv=>whnf))
  | (refine spl_ndec (fun hd=>?_) (fun hd=>?_) <;> first|(exfalso;omega)|(conv=>whnf))
  | (refine spl_intro (fun hd=>?_) (fun hd=>?_) <;> (conv=>whnf))
  | ((first|refine Ld.i ?_|refine LdN.i ?_|refine St.i ⟨rfl,rfl⟩ (List.cons_ne_nil _ _) ?_|refine Ar.i64 (by omega) ?_|refine Ar.u64 (by omega) ?_|refine Ar.i64d (by omega) (by omega) ?_|refine Shr.i (by rfl) (by decide) ?_|refine Shl.i (by rfl) (by decide) ?_|refine Req.mk (by omega) ?_);conv=>whnf)
  | (intro blk hblk;conv=>whnf))
 refine CallK.ret f_z1p.ok (sput_spec (S:=S2) (num:=pn) (lsn:=m) (C:=[]) (G:=[⟨1,m⟩]) (by decide) (by simp) k2 (pgT_ok (k:=pn) (n:=m) hpn6 (by omega)).2 (by omega)) ?_
 rw [v2,show (⟨pn,m,[],[⟨1,m⟩]⟩:PgM) = pgT pn m from rfl]
 rintro v G ⟨S3,k3,m3,v3,⟨_,rfl,rfl⟩|⟨g0,_⟩⟩
 rotate_left
 ·exact absurd w6 g0
 conv=>whnf
 repeat' (first
  | ((first|refine spl_f (by with_reducible exact ndec_self _) ?_|refine spl_f (by with_reducible exact nbeq_self _) ?_|refine spl_t (by with_reducible exact beq_self _) ?_);conv=>whnf)
  | (refine spl_dec (fun hd=>?_) (fun hd=>?_) <;> first|(exfalso;omega)|(conv=>whnf))
  | (refine spl_ndec (fun hd=>?_) (fun hd=>?_) <;> first|(exfalso;omega)|(conv=>whnf))
  | (refine spl_intro (fun hd=>?_) (fun hd=>?_) <;> (conv=>whnf))
  | ((first|refine Ld.i ?_|refine LdN.i ?_|refine St.i ⟨rfl,rfl⟩ (List.cons_ne_nil _ _) ?_|refine Ar.i64 (by omega) ?_|refine Ar.u64 (by omega) ?_|refine Ar.i64d (by omega) (by omega) ?_|refine Shr.i (by rfl) (by decide) ?_|refine Shl.i (by rfl) (by decide) ?_|refine Req.mk (by omega) ?_);conv=>whnf)
  | (intro blk hblk;conv=>whnf))
 refine ⟨_,_,rfl,?_,⟨S3,r,L,next,la,lcc⟩,⟨k3,(m3.l.trans m2.l).trans hS1l,last',?_⟩,rfl,rfl⟩
 ·try dsimp only [TkX.T]
  first|exact .refl _|exact .drop|exact .fin|((repeat refine .pick ?_);first|exact .refl _|exact .emp _|exact .fin)
 ·dsimp only
  rw [v3]
  exact w7.up (Nat.le_refl _) (by omega)
end
end Go.Proofs.YtbcedpankkdfoaaGreatDoor
/- append, in place where there is room; the old row stays where there is none. Conditions: in each statement. -/
namespace Go.SL
open Go
section
variable {P:Program} {W:World} {T:Tab} {α:Type} {t:TypeId} {sz:Nat} {enc:α → List Value} {a:Option Addr} {cap:Nat} {xs:List α} {H R:HProp}
end
end Go.SL
/- Rows of rows: slices whose elements are slices; one more at a row's end, in place or not. Conditions: in each statement. -/
namespace Go.SL
open Go
theorem LoopK.atH {P:Program} {W:World} {T:Tab} (hT:T.ok P) {N:Nat} {L:Nat → Option (List Nat)} {c:Code} {fr:Fr} {ds:List Deferred} {H:HProp} {Q:PostC}
  {ι:Type} (I:ι → Prop) (sl:ι → List (Nat × Value)) (Hs:ι → HProp) (μ:ι → Nat) (i:ι) (hI:I i) (hF:∀ t v,(putF (sl i) fr).get t = some v → fr.get t = some v) (hH:Imp H (Hs i))
  (round:∀ i,I i → exec P W T N L c (fun e fr' ds' H'=>match e with
   | .normal=>ds' = ds ∧ ∃ j,I j ∧ (∀ t v,(putF (sl j) fr).get t = some v → fr'.get t = some v) ∧ Imp H' (Hs j) ∧ μ j < μ i
   | e=>Q e fr' ds' H') (putF (sl i) fr) ds (Hs i)):LoopK P W N c fr ds H Q :=
 LoopK.intro hT I (fun j=>putF (sl j) fr) Hs μ i hI hF hH round
structure Rw (α:Type) where
 a:Option Addr
 cap:Nat
 xs:List α
section
variable {α:Type} {P:Program} {W:World} {T:Tab} {H R G:HProp} {t ts:TypeId} {sz:Nat} {enc:α → List Value}
def rwv (r:Rw α):List Value:=[.slice r.a r.xs.length r.cap]
instance:SizedC 1 (rwv (α:=α)):=⟨fun _=>rfl⟩
instance {r:Rw α}:LitL (rwv r) [.slice r.a r.xs.length r.cap]:=⟨rfl⟩
theorem rwv_one:∀ ys:List (Rw α),∀ v ∈ ys.flatMap rwv,v.oneCell' = true:=by
 intro ys v hv
 obtain ⟨d,_,hv⟩:=List.mem_flatMap.1 hv
 simp only [rwv,List.mem_cons,List.not_mem_nil,or_false] at hv
 subst hv;rfl
instance:OneC (rwv (α:=α)):=⟨rwv_one⟩
def rws (ts t:TypeId) (sz:Nat) (enc:α → List Value) (a:Option Addr) (c:Nat) (l:List (Rw α)):HProp:=SL.vec ts 1 rwv a c l•bigL (fun r=>SL.vec t sz enc r.a r.cap r.xs) l
theorem rws_eq (a:Option Addr) (c:Nat) (l:List (Rw α)) (R:HProp):(rws ts t sz enc a c l•R) = (SL.vec ts 1 rwv a c l•bigL (fun r=>SL.vec t sz enc r.a r.cap r.xs) l•R):=by unfold rws;rw [star_assoc]
instance (priority:=100) RowC.rws {a:Option Addr} {c:Nat} {l:List (Rw α)}:RowC W (SL.rws ts t sz enc a c l•R) a 1 rwv l:=by rw [rws_eq];infer_instance
structure Tw (α:Type) where
 a:Option Addr
 cap:Nat
 xs:List α
 x:α
 a2:Option Addr
 cap2:Nat
 sh:Bool
def twc (t:TypeId) (sz:Nat) (enc:α → List Value) (y:Tw α):HProp:=if y.sh then SL.vec t sz enc y.a2 y.cap2 (y.xs ++ [y.x]) else SL.vec t sz enc y.a y.cap y.xs•SL.vec t sz enc y.a2 y.cap2 (y.xs ++ [y.x])
end
end Go.SL
