/- The program's package twin, walked: Write. Conditions: in each statement. -/
import Derived.Test.YtbcedpankkdfoaaGreatDoorPart18
import Derived.Test.YtbcedpankkdfoaaGreatDoorPart17
import Derived.Test.YtbcedpankkdfoaaGreatDoorPart16
namespace Go.SL.Twn
open Go Go.SL Go.SL.Sec Go.SL.Fld Go.SL.Pts Go.SL.Rec
def t512:List Int:=List.replicate 512 0
theorem t512_eq:t512 = List.replicate 512 0:=rfl
theorem t512_len:t512.length = 512:=List.length_replicate
theorem t512_byt:Byt t512:=Byt.rep 512
def mark4 (home:Int):List Int:=putB t512 0 4 home
theorem mark4_byt {h:Int}:Byt (mark4 h):=by unfold mark4;exact putB_byt t512_byt
def mark (home st:Int):List Int:=(mark4 home).set 511 st
def twW (D:Dev) (z h:Int) (b:List Int):Int × Dev :=
 if D.down then (40,D) else if ¬ (ThereP D.secs z 3 ∧ TmayP D.secs z h) then (4,D) else if b.length ≠ 1024 then (42,D) else
 let r1:=pws (z + 1) b 2 0 D
 if r1.1 ≠ 0 then r1 else
 let r2:=pws z (mark h 165) 1 0 r1.2
 if r2.1 ≠ 0 then r2 else
 let r3:=pws h b 2 0 r2.2
 if r3.1 ≠ 0 then r3 else pws z (mark h 0) 1 0 r3.2
end Go.SL.Twn
namespace Go.Proofs.YtbcedpankkdfoaaGreatDoor
open Go Go.SL Go.SL.Sec Go.SL.Fld Go.SL.Pts Go.SL.Rec Go.SL.Twn
theorem twwrite_no {W:World} {H R:HProp} {d:Nat} {X:DevX} {z h:Int} {a:Option Addr} {n c:Nat} {b:List Int} [t:DevC H d X R] [ro:RowN W R a n 1 bytv b] (hX:X.Ok) (hb:b.length ≤ 16777216) (hn:X.down = true ∨ ¬ (ThereP X.val.secs z 3 ∧ TmayP X.val.secs z h) ∨ b.length ≠ 1024) :
  Does prog W f_z2f ⟨[ptr d,.int .i64 z,.int .i64 h,.slice a n c]⟩ H (Ret fun v G=>∃ k,v = .iface t_z5 (ptr k) ∧ G = (fltc k wWrite 0 (twW X.val z h b).1•devo d X•R)):=by
 rw [t.h.eq]
 have hl:=ro.len
 subst hl
 have hsec:0 ≤ X.val.secs ∧ X.val.secs ≤ 8192:=by
  have:=hX.len
  unfold Dev.secs DevX.val
  dsimp only
  omega
 have hdv:X.val.down = X.down:=rfl
 unfold twW
 rw [hdv]
 refine f_z2f.does _ _ _ _ ?_
 conv=>whnf
 cases hd:X.down with
 | true =>
  rw [if_pos rfl]
  repeat' (first
   | (refine CallK.thr f_zj.ok (running_no (X:=X) hd) ?_;rintro c G ⟨rfl,rfl⟩;conv=>whnf)
   | (intro blk hblk;conv=>whnf))
  all_goals
   refine LeaveD.ret tab_ok (by simp) f_zc.ok (DDoes.imp (by first|exact .refl _|exact .drop|exact .fin|((repeat refine .pick ?_);first|exact .refl _|exact .emp _|exact .fin)) (write1_no (v:=.nilIface) (e:=40) (R:=devo d X•R) (older:=[]))) ?_
   rintro _ _ G ⟨b,rfl,rfl⟩
   conv=>whnf
   repeat' (first
    | (refine Ld.i ?_;conv=>whnf))
   refine ⟨_,_,rfl,?_,b,rfl,rfl⟩
   first|exact .refl _|exact .drop|exact .fin|((repeat refine .pick ?_);first|exact .refl _|exact .emp _|exact .fin)
 | false =>
  rw [if_neg (by decide)]
  have hn':=hn.resolve_left (by rw [hd];decide)
  by_cases h3:ThereP X.val.secs z 3
  ·have h3':=h3
   unfold ThereP at h3'
   by_cases hm:TmayP X.val.secs z h
   ·have hbl:b.length ≠ 1024:=hn'.resolve_left fun k=>k ⟨h3,hm⟩
    rw [if_neg (fun k=>k ⟨h3,hm⟩),if_pos hbl]
    repeat' (first
     | (refine CallK.ret f_zj.ok (running_ok (X:=X) hd) ?_;rintro v G ⟨rfl,rfl⟩;conv=>whnf)
     | (refine CallK.ret f_z11.ok (there_spec (X:=X) hX (by omega)) ?_;rw [decide_eq_true h3];rintro v G ⟨rfl,rfl⟩;conv=>whnf)
     | (refine CallK.ret f_z2c.ok (tmay_spec (X:=X) hX (by omega)) ?_;rw [decide_eq_true hm];rintro v G ⟨rfl,rfl⟩;conv=>whnf)
     | (rw [show decide ((b.length:Int) = 1024) = false from decide_eq_false (by omega)];conv=>whnf)
     | (intro blk hblk;conv=>whnf)
     | (refine CallK.ret f_z9.ok (tneed_ok) ?_;rintro v G ⟨rfl,rfl⟩;conv=>whnf)
     | (refine CallK.thr f_z9.ok (tneed_no) ?_;rintro c G ⟨rfl,rfl⟩;conv=>whnf))
    all_goals
     refine LeaveD.ret tab_ok (by simp) f_zc.ok (DDoes.imp (by first|exact .refl _|exact .drop|exact .fin|((repeat refine .pick ?_);first|exact .refl _|exact .emp _|exact .fin)) (write1_no (v:=.nilIface) (e:=42) (R:=devo d X•R) (older:=[]))) ?_
     rintro _ _ G ⟨b,rfl,rfl⟩
     conv=>whnf
     repeat' (first
      | (refine Ld.i ?_;conv=>whnf))
     refine ⟨_,_,rfl,?_,b,rfl,rfl⟩
     first|exact .refl _|exact .drop|exact .fin|((repeat refine .pick ?_);first|exact .refl _|exact .emp _|exact .fin)
   ·rw [if_pos (fun k=>hm k.2)]
    repeat' (first
     | (refine CallK.ret f_zj.ok (running_ok (X:=X) hd) ?_;rintro v G ⟨rfl,rfl⟩;conv=>whnf)
     | (refine CallK.ret f_z11.ok (there_spec (X:=X) hX (by omega)) ?_;rw [decide_eq_true h3];rintro v G ⟨rfl,rfl⟩;conv=>whnf)
     | (refine CallK.ret f_z2c.ok (tmay_spec (X:=X) hX (by omega)) ?_;rw [decide_eq_false hm];rintro v G ⟨rfl,rfl⟩;conv=>whnf)
     | (intro blk hblk;conv=>whnf)
     | (refine CallK.thr f_z9.ok (tneed_no) ?_;rintro c G ⟨rfl,rfl⟩;conv=>whnf))
    all_goals
     refine LeaveD.ret tab_ok (by simp) f_zc.ok (DDoes.imp (by first|exact .refl _|exact .drop|exact .fin|((repeat refine .pick ?_);first|exact .refl _|exact .emp _|exact .fin)) (write1_no (v:=.nilIface) (e:=4) (R:=devo d X•R) (older:=[]))) ?_
     rintro _ _ G ⟨b,rfl,rfl⟩
     conv=>whnf
     repeat' (first
      | (refine Ld.i ?_;conv=>whnf))
     refine ⟨_,_,rfl,?_,b,rfl,rfl⟩
     first|exact .refl _|exact .drop|exact .fin|((repeat refine .pick ?_);first|exact .refl _|exact .emp _|exact .fin)
  ·rw [if_pos (fun k=>h3 k.1)]
   repeat' (first
    | (refine CallK.ret f_zj.ok (running_ok (X:=X) hd) ?_;rintro v G ⟨rfl,rfl⟩;conv=>whnf)
    | (refine CallK.ret f_z11.ok (there_spec (X:=X) hX (by omega)) ?_;rw [decide_eq_false h3];rintro v G ⟨rfl,rfl⟩;conv=>whnf)
    | (intro blk hblk;conv=>whnf)
    | (refine CallK.thr f_z9.ok (tneed_no) ?_;rintro c G ⟨rfl,rfl⟩;conv=>whnf))
   all_goals
    refine LeaveD.ret tab_ok (by simp) f_zc.ok (DDoes.imp (by first|exact .refl _|exact .drop|exact .fin|((repeat refine .pick ?_);first|exact .refl _|exact .emp _|exact .fin)) (write1_no (v:=.nilIface) (e:=4) (R:=devo d X•R) (older:=[]))) ?_
    rintro _ _ G ⟨b,rfl,rfl⟩
    conv=>whnf
    repeat' (first
     | (refine Ld.i ?_;conv=>whnf))
    refine ⟨_,_,rfl,?_,b,rfl,rfl⟩
    first|exact .refl _|exact .drop|exact .fin|((repeat refine .pick ?_);first|exact .refl _|exact .emp _|exact .fin)
end Go.Proofs.YtbcedpankkdfoaaGreatDoor
/- The program's package twin, walked: Write, its good way. Conditions: in each statement. -/
namespace Go.Proofs.YtbcedpankkdfoaaGreatDoor
open Go Go.SL Go.SL.Sec Go.SL.Fld Go.SL.Pts Go.SL.Rec Go.SL.Twn
def TwrQ (e:Int) (P:HProp → Prop) (v:Value) (G:HProp):Prop:=(e = 0 ∧ v = .nilIface ∧ P G) ∨ (e ≠ 0 ∧ ∃ k G0,v = .iface t_z5 (ptr k) ∧ G = (fltc k wWrite 0 e•G0) ∧ P G0)
set_option maxHeartbeats 1000000 in
theorem twwrite_go {W:World} {H R:HProp} {d:Nat} {X:DevX} {z h:Int} {a:Option Addr} {n c:Nat} {b:List Int} [t:DevC H d X R] [ro:RowN W R a n 1 bytv b] (hX:X.Ok) (hq:X.ps.length ≤ 400000) (hb:b.length = 1024) (hc:1024 ≤ c) (hby:Byt b) (hd:X.down = false) (h3:ThereP X.val.secs z 3) (hm:TmayP X.val.secs z h) :
  Does prog W f_z2f ⟨[ptr d,.int .i64 z,.int .i64 h,.slice a n c]⟩ H (Ret (TwrQ (twW X.val z h b).1 fun G=>∃ X':DevX,X'.Ok ∧ X'.val = (twW X.val z h b).2 ∧ X'.ps.length ≤ X.ps.length + 6 ∧ G = (devo d X'•R))):=by
 rw [t.h.eq]
 have hl:=ro.len
 subst hl
 haveI r':=ro.row
 have hsec:0 ≤ X.val.secs ∧ X.val.secs ≤ 8192:=by
  have:=hX.len
  unfold Dev.secs DevX.val
  dsimp only
  omega
 have h3':=h3
 unfold ThereP at h3'
 have hm':=hm.1
 unfold ThereP at hm'
 obtain ⟨T,hT⟩:∃ T,T = twW X.val z h b:=⟨_,rfl⟩
 rw [← hT]
 have hdv:X.val.down = X.down:=rfl
 unfold twW at hT
 rw [hdv,if_neg (by rw [hd];decide),if_neg (fun k=>k ⟨h3,hm⟩),if_neg (fun k=>k hb)] at hT
 dsimp only at hT
 refine f_z2f.does _ _ _ _ ?_
 conv=>whnf
 repeat' (first
  | (refine CallK.ret f_zj.ok (running_ok (X:=X) hd) ?_;rintro v G ⟨rfl,rfl⟩;conv=>whnf)
  | (refine CallK.ret f_z11.ok (there_spec (X:=X) hX (by omega)) ?_;rw [decide_eq_true h3];rintro v G ⟨rfl,rfl⟩;conv=>whnf)
  | (refine CallK.ret f_z2c.ok (tmay_spec (X:=X) hX (by omega)) ?_;rw [decide_eq_true hm];rintro v G ⟨rfl,rfl⟩;conv=>whnf)
  | (rw [show decide ((b.length:Int) = 1024) = true from decide_eq_true (by omega)];conv=>whnf)
  | (refine Ar.i64 (by omega) ?_;conv=>whnf)
  | (intro blk hblk;conv=>whnf)
  | (refine CallK.ret f_z9.ok (tneed_ok) ?_;rintro v G ⟨rfl,rfl⟩;conv=>whnf))
 obtain ⟨P1,hP1⟩:∃ P,P = pws (z + 1) b 2 0 X.val:=⟨_,rfl⟩
 rw [← hP1] at hT
 refine CallK.any f_z1u.ok (put_go (X:=X) (b:=b) (n:=2) (R:=pts _ (.cells ⟨[.nilIface]⟩ t_error)•R) inferInstance hX (by omega) (by omega) (by omega) (by omega) (by omega) hby rfl) ?_
 rw [← hP1]
 rintro en G ⟨⟨h0,rfl⟩|⟨h0,rfl⟩,X1,hX1,hv1,hq1,rfl⟩
 rotate_left
 ·rw [if_pos h0] at hT
  subst hT
  skip
  refine LeaveD.ret tab_ok (by simp) f_zc.ok (DDoes.imp (by first|exact .refl _|exact .drop|exact .fin|((repeat refine .pick ?_);first|exact .refl _|exact .emp _|exact .fin)) (write1_no (v:=.nilIface) (e:=T.1) (R:=devo d X1•R) (older:=[]))) ?_
  rintro _ _ G ⟨b,rfl,rfl⟩
  conv=>whnf
  repeat' (first
   | (refine Ld.i ?_;conv=>whnf))
  refine ⟨_,_,rfl,?_,.inr ⟨h0,b,_,rfl,rfl,X1,hX1,hv1,by omega,rfl⟩⟩
  first|exact .refl _|exact .drop|exact .fin|((repeat refine .pick ?_);first|exact .refl _|exact .emp _|exact .fin)
 rw [if_neg (fun k=>k h0),← hv1] at hT
 repeat' (first
  | (refine OpX.make tab_ok bytv 0 rfl rfl rfl rfl rfl rfl (by omega) (fun s hs=>?_);rw [show (Int.toNat 512) = 512 from rfl,← t512_eq];conv=>whnf))
 refine LoopK.at tab_ok (L:=f_z2f.live) (ι:=Nat) (fun k=>k ≤ 4) (fun k=>[(34,.int .i64 k)]) (fun k=>vec t_uint8 1 bytv (some ⟨s,0,none⟩) 512 (putB t512 0 k h)) (fun k=>4 - k) 0 (by simp) (fun t v h=>h) (by rw [putB_zero];exact Imp.pick (Imp.refl _)) ?_
 rintro k hk
 conv=>whnf
 have hlen:(putB t512 0 k h).length = 512:=by rw [putB_len (by rw [t512_len];omega),t512_len]
 by_cases h2:k < 4
 ·have hzk:0 + k < t512.length:=by rw [t512_len];omega
  repeat' (first
   | (refine Shr.v (8 * k) (by omega) (by simp [IntKind.bits];omega) ?_;rw [p256];conv=>whnf)
   | (refine spl_dec (fun hd=>?_) (fun hd=>?_) <;> first|(exfalso;omega)|(conv=>whnf))
   | (refine Ar.i64 (by omega) ?_;conv=>whnf)
   | (refine IxS.v (i:=0 + k) (xs:=putB t512 0 k h) (by omega) hlen.symm (by omega) (fun ab off' ha=>?_);cases ha;conv=>whnf)
   | ((first|refine Ar.u8w ?_|refine St.v0 (putB_get hzk) (h / 256 ^ k % 256) rfl (Nat.le_refl _) ⟨rfl,rfl⟩ ?_);conv=>whnf))
  rw [putB_succ hzk]
  exact ⟨rfl,k + 1,by omega,fun t v h=>h,Imp.refl _,by omega⟩
 have hmk:putB t512 0 k h = mark4 h:=by rw [show k = 4 by omega];rfl
 rw [hmk] at hlen ⊢
 have hbm:Byt (mark4 h):=mark4_byt
 have hms:∀ st,(mark4 h).set 511 st = Twn.mark h st:=fun st=>rfl
 clear hmk
 obtain ⟨M4,hM4⟩:∃ M,M = mark4 h:=⟨_,rfl⟩
 rw [← hM4] at hlen hbm hms ⊢
 clear hM4
 obtain ⟨y,hy⟩:∃ y,M4[511]? = some y:=⟨_,List.getElem?_eq_getElem (by omega)⟩
 have lmk:∀ st,(Twn.mark h st).length = 512:=fun st=>by rw [← hms,List.length_set];exact hlen
 have bmk:∀ st,0 ≤ st ∧ st < 256 → Byt (Twn.mark h st):=fun st k=>hms st ▸ Byt.set hbm k
 repeat' (first
  | (refine spl_dec (fun hd=>?_) (fun hd=>?_) <;> first|(exfalso;omega)|(conv=>whnf))
  | (refine IxS.v (i:=511) (xs:=M4) rfl hlen.symm (by omega) (fun ab off' ha=>?_);cases ha;conv=>whnf)
  | (refine St.v0 (i:=511) hy 165 rfl (by decide) ⟨rfl,rfl⟩ ?_;conv=>whnf))
 rw [hms]
 obtain ⟨P2,hP2⟩:∃ P,P = pws z (Twn.mark h 165) 1 0 X1.val:=⟨_,rfl⟩
 rw [← hP2] at hT
 refine CallK.imp (H':=(devo d X1•vec t_uint8 1 bytv (some ⟨s,0,none⟩) 512 (Twn.mark h 165)•pts _ (.cells ⟨[.nilIface]⟩ t_error)•R)) (by first|exact .refl _|exact .drop|exact .fin|((repeat refine .pick ?_);first|exact .refl _|exact .emp _|exact .fin)) ?_
 refine CallK.any f_z1u.ok (put_go (nn:=512) (X:=X1) (b:=Twn.mark h 165) (n:=1) inferInstance hX1 (by omega) (by omega) (by rw [lmk]) (by omega) (by rw [lmk];exact Nat.le_refl _) (bmk _ (by omega)) (lmk _).symm) ?_
 rw [← hP2]
 clear h0
 rintro en G ⟨⟨h0,rfl⟩|⟨h0,rfl⟩,X2,hX2,hv2,hq2,rfl⟩
 rotate_left
 ·rw [if_pos h0] at hT
  subst hT
  skip
  refine LeaveD.ret tab_ok (by simp) f_zc.ok (DDoes.imp (by first|exact .refl _|exact .drop|exact .fin|((repeat refine .pick ?_);first|exact .refl _|exact .emp _|exact .fin)) (write1_no (v:=.nilIface) (e:=T.1) (R:=devo d X2•R) (older:=[]))) ?_
  rintro _ _ G ⟨b,rfl,rfl⟩
  conv=>whnf
  repeat' (first
   | (refine Ld.i ?_;conv=>whnf))
  refine ⟨_,_,rfl,?_,.inr ⟨h0,b,_,rfl,rfl,X2,hX2,hv2,by omega,rfl⟩⟩
  first|exact .refl _|exact .drop|exact .fin|((repeat refine .pick ?_);first|exact .refl _|exact .emp _|exact .fin)
 rw [if_neg (fun k=>k h0),← hv2] at hT
 skip
 obtain ⟨P3,hP3⟩:∃ P,P = pws h b 2 0 X2.val:=⟨_,rfl⟩
 rw [← hP3] at hT
 refine CallK.any f_z1u.ok (put_go (X:=X2) (b:=b) (n:=2) (R:=vec t_uint8 1 bytv (some ⟨s,0,none⟩) 512 (Twn.mark h 165)•pts _ (.cells ⟨[.nilIface]⟩ t_error)•R) inferInstance hX2 (by omega) (by omega) (by omega) (by omega) (by omega) hby rfl) ?_
 rw [← hP3]
 clear h0
 rintro en G ⟨⟨h0,rfl⟩|⟨h0,rfl⟩,X3,hX3,hv3,hq3,rfl⟩
 rotate_left
 ·rw [if_pos h0] at hT
  subst hT
  skip
  refine LeaveD.ret tab_ok (by simp) f_zc.ok (DDoes.imp (by first|exact .refl _|exact .drop|exact .fin|((repeat refine .pick ?_);first|exact .refl _|exact .emp _|exact .fin)) (write1_no (v:=.nilIface) (e:=T.1) (R:=devo d X3•R) (older:=[]))) ?_
  rintro _ _ G ⟨b,rfl,rfl⟩
  conv=>whnf
  repeat' (first
   | (refine Ld.i ?_;conv=>whnf))
  refine ⟨_,_,rfl,?_,.inr ⟨h0,b,_,rfl,rfl,X3,hX3,hv3,by omega,rfl⟩⟩
  first|exact .refl _|exact .drop|exact .fin|((repeat refine .pick ?_);first|exact .refl _|exact .emp _|exact .fin)
 rw [if_neg (fun k=>k h0),← hv3] at hT
 obtain ⟨y2,hy2⟩:∃ y,(Twn.mark h 165)[511]? = some y:=⟨_,List.getElem?_eq_getElem (Nat.lt_of_lt_of_eq (by decide:511 < 512) (lmk _).symm)⟩
 repeat' (first
  | (refine IxS.v (i:=511) (xs:=Twn.mark h 165) rfl (lmk _).symm (Nat.lt_of_lt_of_eq (by decide:511 < 512) (lmk _).symm) (fun ab off' ha=>?_);cases ha;conv=>whnf)
  | (refine St.v0 (i:=511) hy2 0 rfl (by decide) ⟨rfl,rfl⟩ ?_;conv=>whnf))
 rw [show (Twn.mark h 165).set 511 0 = Twn.mark h 0 by rw [← hms,← hms,List.set_set]]
 obtain ⟨P4,hP4⟩:∃ P,P = pws z (Twn.mark h 0) 1 0 X3.val:=⟨_,rfl⟩
 rw [← hP4] at hT
 refine CallK.imp (H':=(devo d X3•vec t_uint8 1 bytv (some ⟨s,0,none⟩) 512 (Twn.mark h 0)•pts _ (.cells ⟨[.nilIface]⟩ t_error)•R)) (by first|exact .refl _|exact .drop|exact .fin|((repeat refine .pick ?_);first|exact .refl _|exact .emp _|exact .fin)) ?_
 refine CallK.any f_z1u.ok (put_go (nn:=512) (X:=X3) (b:=Twn.mark h 0) (n:=1) inferInstance hX3 (by omega) (by omega) (by rw [lmk]) (by omega) (by rw [lmk];exact Nat.le_refl _) (bmk _ (by omega)) (lmk _).symm) ?_
 rw [← hP4]
 clear h0
 rintro en G ⟨⟨h0,rfl⟩|⟨h0,rfl⟩,X4,hX4,hv4,hq4,rfl⟩
 rotate_left
 ·subst hT
  skip
  refine LeaveD.ret tab_ok (by simp) f_zc.ok (DDoes.imp (by first|exact .refl _|exact .drop|exact .fin|((repeat refine .pick ?_);first|exact .refl _|exact .emp _|exact .fin)) (write1_no (v:=.nilIface) (e:=T.1) (R:=devo d X4•R) (older:=[]))) ?_
  rintro _ _ G ⟨b,rfl,rfl⟩
  conv=>whnf
  repeat' (first
   | (refine Ld.i ?_;conv=>whnf))
  refine ⟨_,_,rfl,?_,.inr ⟨h0,b,_,rfl,rfl,X4,hX4,hv4,by omega,rfl⟩⟩
  first|exact .refl _|exact .drop|exact .fin|((repeat refine .pick ?_);first|exact .refl _|exact .emp _|exact .fin)
 subst hT
 repeat' (first
  | (refine St.i ⟨rfl,rfl⟩ (List.cons_ne_nil _ _) ?_;conv=>whnf))
 refine LeaveD.ret tab_ok (by simp) f_zc.ok (DDoes.imp (by first|exact .refl _|exact .drop|exact .fin|((repeat refine .pick ?_);first|exact .refl _|exact .emp _|exact .fin)) (write1_ok (v:=.nilIface) (R:=devo d X4•R))) ?_
 rintro _ _ G ⟨rfl,rfl⟩
 conv=>whnf
 repeat' (first
  | (refine Ld.i ?_;conv=>whnf))
 refine ⟨_,_,rfl,?_,.inl ⟨h0,rfl,X4,hX4,hv4,by omega,rfl⟩⟩
 first|exact .refl _|exact .drop|exact .fin|((repeat refine .pick ?_);first|exact .refl _|exact .emp _|exact .fin)
end Go.Proofs.YtbcedpankkdfoaaGreatDoor
/- The program's package twin, walked: Finish. Conditions: in each statement. -/
namespace Go.SL
open Go
theorem bits_or_addI {n y:Int} (i:Nat) (h0:0 ≤ n) (h1:n < 2 ^ i) (hy:0 ≤ y) (hb:n + y * 2 ^ i < 9223372036854775808):bits .or .i64 n (y * 2 ^ i) = n + y * 2 ^ i:=by
 obtain ⟨n',rfl⟩:=Int.eq_ofNat_of_zero_le h0
 obtain ⟨y',rfl⟩:=Int.eq_ofNat_of_zero_le hy
 have h1':n' < 2 ^ i:=by exact_mod_cast h1
 have e1:((y':Int) * 2 ^ i) = ((y' * 2 ^ i:Nat):Int):=by simp
 have hor:n' ||| (y' * 2 ^ i) = n' + y' * 2 ^ i:=by
  have:=Nat.two_pow_add_eq_or_of_lt h1' y'
  rw [Nat.mul_comm (2 ^ i) y'] at this
  rw [Nat.or_comm,← this,Nat.add_comm]
 rw [e1] at hb ⊢
 obtain ⟨Y,hY⟩:∃ Y,Y = y' * 2 ^ i:=⟨_,rfl⟩
 rw [← hY] at hb hor ⊢
 have hb':n' + Y < 9223372036854775808:=by omega
 have b1:(BitVec.ofInt IntKind.i64.bits (n':Int)).toNat = n':=by rw [BitVec.ofInt_natCast,BitVec.toNat_ofNat,Nat.mod_eq_of_lt (Nat.lt_trans (show n' < 9223372036854775808 by omega) (by decide))]
 have b2:(BitVec.ofInt IntKind.i64.bits (Y:Int)).toNat = Y:=by rw [BitVec.ofInt_natCast,BitVec.toNat_ofNat,Nat.mod_eq_of_lt (Nat.lt_trans (show Y < 9223372036854775808 by omega) (by decide))]
 simp only [bits,BitVec.toNat_or,b1,b2,hor]
 rw [IntWalk.i64_in _ (by omega)]
 omega
theorem Bt.orAddI {n m y:Int} {K:Int → Prop} (i:Nat) (hm:m = y * 2 ^ i) (h0:0 ≤ n) (h1:n < 2 ^ i) (hy:0 ≤ y) (hb:n + y * 2 ^ i < 9223372036854775808) (hk:K (n + y * 2 ^ i)):Bt .or .i64 n m K:=by
 subst hm
 exact ⟨by rw [bits_or_addI i h0 h1 hy hb];exact hk⟩
theorem CallK.have {P:Program} {W:World} {H:HProp} {p:Prop} {f:FuncId} {args:List Value} {K:Value → HProp → Prop} {Kp:List PanicEntry → HProp → Prop} (h:∀ w,Sat W H w → p) (k:p → CallK P W f args H K Kp):CallK P W f args H K Kp:=by
 by_cases hp:p
 ·exact k hp
 ·exact ⟨.inr fun w hs=>absurd (h w hs) hp⟩
end Go.SL
namespace Go.SL.Twn
open Go Go.SL Go.SL.Sec Go.SL.Fld Go.SL.Pts Go.SL.Rec
open Go.Proofs.YtbcedpankkdfoaaGreatDoor (zerosB)
def fin (D:Dev) (z:Int):Int × Bool × Dev :=
 if D.down then (40,false,D) else if ¬ ThereP D.secs z 3 then (4,false,D) else
 if (D.at z)[511]? = some 0 then (0,false,D) else
 let h:=getB (D.at z) 0 4
 if ¬ ((D.at z)[511]? = some 165 ∧ zerosB (((D.at z).drop 4).take 507) = true ∧ TmayP D.secs z h) then (84,false,D) else
 let r1:=pws h (D.at (z + 1) ++ D.at (z + 2)) 2 0 D
 if r1.1 ≠ 0 then (r1.1,false,r1.2) else
 let r2:=pws z ((D.at z).set 511 0) 1 0 r1.2
 if r2.1 ≠ 0 then (r2.1,false,r2.2) else (0,true,r2.2)
theorem Dev.at_byt {D:Dev} {i:Int} (h:D.Ok):Byt (D.at i):=by
 unfold Dev.at
 cases hl:lastOf i D.q with
 | none=>exact (h.byt.drop _).take _
 | some b =>
  obtain ⟨p,hp,rfl⟩:=lastOf_mem hl
  exact (h.q p hp).2.2.2
end Go.SL.Twn
namespace Go.Proofs.YtbcedpankkdfoaaGreatDoor
open Go Go.SL Go.SL.Sec Go.SL.Fld Go.SL.Pts Go.SL.Rec Go.SL.Twn
abbrev wFinish:ByteArray:=⟨#[70,105,110,105,115,104]⟩
theorem finish1_ok {W:World} {R:HProp} {be:Nat} {v:Value}:DDoes prog W f_zb ⟨[ptr be]⟩ .returning (pts be (.cells ⟨[v]⟩ t_error)•R) (RetD fun _ u G=>u = .returning ∧ G = (pts be (.cells ⟨[.nilIface]⟩ t_error)•R)):=by
 refine DDoes.of_exec tab_ok f_zb.live f_zb.fn rfl rfl rfl (by simp) ?_
 repeat' (first
  | (refine CallK.ret f_z1l.ok told_nil ?_;rintro v G ⟨rfl,rfl⟩;conv=>whnf)
  | (refine St.i ⟨rfl,rfl⟩ (List.cons_ne_nil _ _) ?_;conv=>whnf))
 exact ⟨_,_,rfl,Imp.refl _,rfl,rfl⟩
theorem finish1_no {W:World} {R:HProp} {be:Nat} {v:Value} {e:Int} {older:List PanicEntry}:DDoes prog W f_zb ⟨[ptr be]⟩ (.panicking (⟨tref e,false,false⟩ :: older)) (pts be (.cells ⟨[v]⟩ t_error)•R)
  (RetD fun _ u G=>∃ b,u = .panicking (⟨tref e,true,false⟩ :: older) ∧ G = (pts be (.cells ⟨[.iface t_z5 (ptr b)]⟩ t_error)•fltc b wFinish 0 e•R)):=by
 refine DDoes.of_exec tab_ok f_zb.live f_zb.fn rfl rfl rfl (by simp) ?_
 repeat' (first
  | (refine CallK.ret f_z1l.ok told_ref ?_;rintro v G ⟨b,rfl,rfl⟩;conv=>whnf)
  | (refine St.i ⟨rfl,rfl⟩ (List.cons_ne_nil _ _) ?_;conv=>whnf))
 exact ⟨_,_,rfl,Imp.refl _,b,rfl,rfl⟩
theorem finish2_spec {W:World} {R:HProp} {b:Int}:Does prog W f_z2m ⟨[.int .u8 b]⟩ R (Ret fun v G=>v = .bool (!decide (b = 0)) ∧ G = R):=by
 refine f_z2m.does _ ?_
 conv=>whnf
 skip
 refine Ret.eq rfl ?_
 first|exact .refl _|exact .drop|exact .fin|((repeat refine .pick ?_);first|exact .refl _|exact .emp _|exact .fin)
def FinQ (e:Int) (done:Bool) (P:HProp → Prop) (v:Value) (G:HProp):Prop:=(e = 0 ∧ v = .tuple ⟨[.bool done,.nilIface]⟩ ∧ P G) ∨ (e ≠ 0 ∧ ∃ k G0,v = .tuple ⟨[.bool false,.iface t_z5 (ptr k)]⟩ ∧ G = (fltc k wFinish 0 e•G0) ∧ P G0)
set_option maxHeartbeats 2000000 in
theorem twfin_spec {W:World} {H R:HProp} {d:Nat} {X:DevX} {z:Int} [t:DevC H d X R] (hX:X.Ok) (hq:X.ps.length ≤ 400000) (hz:0 ≤ z ∧ z ≤ 8192) :
  Does prog W f_z2l ⟨[ptr d,.int .i64 z]⟩ H (Ret (FinQ (fin X.val z).1 (fin X.val z).2.1 fun G=>∃ X':DevX,X'.Ok ∧ X'.val = (fin X.val z).2.2 ∧ X'.ps.length ≤ X.ps.length + 3 ∧ G = (devo d X'•R))):=by
 rw [t.h.eq]
 have hsec:0 ≤ X.val.secs ∧ X.val.secs ≤ 8192:=by
  have:=hX.len
  unfold Dev.secs DevX.val
  dsimp only
  omega
 have hdv:X.val.down = X.down:=rfl
 obtain ⟨T,hT⟩:∃ T,T = fin X.val z:=⟨_,rfl⟩
 rw [← hT]
 unfold fin at hT
 rw [hdv] at hT
 refine f_z2l.does _ _ ?_
 conv=>whnf
 cases hd:X.down with
 | true =>
  rw [hd,if_pos rfl] at hT
  subst hT
  repeat' (first
   | (refine CallK.thr f_zj.ok (running_no (X:=X) hd) ?_;rintro c G ⟨rfl,rfl⟩;conv=>whnf)
   | (intro blk hblk;conv=>whnf))
  all_goals
   refine LeaveD.ret tab_ok (by simp) f_zb.ok (DDoes.imp (by first|exact .refl _|exact .drop|exact .fin|((repeat refine .pick ?_);first|exact .refl _|exact .emp _|exact .fin)) (finish1_no (v:=.nilIface) (e:=40) (R:=devo d X•R) (older:=[]))) ?_
   rintro _ _ G ⟨b,rfl,rfl⟩
   conv=>whnf
   repeat' (first
    | (refine Ld.i ?_;conv=>whnf))
   refine ⟨_,_,rfl,?_,.inr ⟨by dsimp only;omega,b,_,rfl,rfl,X,hX,rfl,by omega,rfl⟩⟩
   first|exact .refl _|exact .drop|exact .fin|((repeat refine .pick ?_);first|exact .refl _|exact .emp _|exact .fin)
 | false =>
 rw [hd,if_neg (by decide)] at hT
 by_cases h3:ThereP X.val.secs z 3
 rotate_left
 ·rw [if_pos h3] at hT
  subst hT
  repeat' (first
   | (refine CallK.ret f_zj.ok (running_ok (X:=X) hd) ?_;rintro v G ⟨rfl,rfl⟩;conv=>whnf)
   | (refine CallK.ret f_z11.ok (there_spec (X:=X) hX (by omega)) ?_;rw [decide_eq_false h3];rintro v G ⟨rfl,rfl⟩;conv=>whnf)
   | (intro blk hblk;conv=>whnf)
   | (refine CallK.thr f_z9.ok (tneed_no) ?_;rintro c G ⟨rfl,rfl⟩;conv=>whnf))
  all_goals
   refine LeaveD.ret tab_ok (by simp) f_zb.ok (DDoes.imp (by first|exact .refl _|exact .drop|exact .fin|((repeat refine .pick ?_);first|exact .refl _|exact .emp _|exact .fin)) (finish1_no (v:=.nilIface) (e:=4) (R:=devo d X•R) (older:=[]))) ?_
   rintro _ _ G ⟨b,rfl,rfl⟩
   conv=>whnf
   repeat' (first
    | (refine Ld.i ?_;conv=>whnf))
   refine ⟨_,_,rfl,?_,.inr ⟨by dsimp only;omega,b,_,rfl,rfl,X,hX,rfl,by omega,rfl⟩⟩
   first|exact .refl _|exact .drop|exact .fin|((repeat refine .pick ?_);first|exact .refl _|exact .emp _|exact .fin)
 rw [if_neg (fun k=>k h3)] at hT
 have h3':=h3
 unfold ThereP at h3'
 have rd:∀ i,0 ≤ i ∧ i < X.val.secs → (X.val.read i).1 = 0 ∧ (X.val.read i).2 = X.val.at i ∧ (X.val.at i).length = 512:=fun i hi=>by
  have e1:=read_of (D:=X.val) (i:=i) hd hi
  have l1:=(Dev.read_len (i:=i) hX.val (by rw [e1])).1
  rw [e1] at l1 ⊢
  exact ⟨rfl,rfl,l1⟩
 obtain ⟨f0,g0,l0⟩:=rd z (by omega)
 obtain ⟨f1,g1,l1⟩:=rd (z + 1) (by omega)
 obtain ⟨f2,g2,l2⟩:=rd (z + 2) (by omega)
 obtain ⟨M,hM⟩:∃ M,M = X.val.at z:=⟨_,rfl⟩
 have hMb:Byt M:=hM ▸ Dev.at_byt hX.val
 rw [← hM] at hT l0 g0
 obtain ⟨m,hm⟩:∃ m,M[511]? = some m:=⟨_,List.getElem?_eq_getElem (by omega)⟩
 have hmb:=hMb m (List.mem_of_getElem? hm)
 haveI rM:∀ (a:Option Addr) (c:Nat) (Q:HProp),RowN W (vec t_uint8 1 bytv a c M•Q) a 512 1 bytv M:=fun a c Q=>⟨inferInstance,l0.symm⟩
 by_cases hm0:m = 0
 ·subst hm0
  rw [hm,if_pos rfl] at hT
  subst hT
  repeat' (first
   | (refine CallK.ret f_zj.ok (running_ok (X:=X) hd) ?_;rintro v G ⟨rfl,rfl⟩;conv=>whnf)
   | (refine CallK.ret f_z11.ok (there_spec (X:=X) hX (by omega)) ?_;rw [decide_eq_true h3];rintro v G ⟨rfl,rfl⟩;conv=>whnf)
   | (refine CallK.ret f_z20.ok (tget_ok (X:=X) (i:=z) hX (by omega) f0) ?_;rw [g0];rintro v G ⟨a1,c1,hc1,rfl,rfl⟩;conv=>whnf)
   | (refine St.i ⟨rfl,rfl⟩ (List.cons_ne_nil _ _) ?_;conv=>whnf)
   | (intro blk hblk;conv=>whnf)
   | (refine CallK.ret f_z9.ok (tneed_ok) ?_;rintro v G ⟨rfl,rfl⟩;conv=>whnf)
   | (refine IxS.r (xs:=M) (i:=511) rfl l0.symm (by omega) (fun ab off ha=>?_);cases ha;conv=>whnf)
   | (refine Ld.r0 hm rfl ?_;conv=>whnf))
  all_goals
   refine LeaveD.ret tab_ok (by simp) f_zb.ok (DDoes.imp (by first|exact .refl _|exact .drop|exact .fin|((repeat refine .pick ?_);first|exact .refl _|exact .emp _|exact .fin)) (finish1_ok (v:=.nilIface) (R:=devo d X•R))) ?_
   rintro _ _ G ⟨rfl,rfl⟩
   conv=>whnf
   repeat' (first
    | (refine Ld.i ?_;conv=>whnf))
   refine ⟨_,_,rfl,?_,.inl ⟨rfl,rfl,X,hX,rfl,by omega,rfl⟩⟩
   first|exact .refl _|exact .drop|exact .fin|((repeat refine .pick ?_);first|exact .refl _|exact .emp _|exact .fin)
 rw [if_neg (by rw [hm];simp;exact hm0)] at hT
 dsimp only at hT
 repeat' (first
  | (refine CallK.ret f_zj.ok (running_ok (X:=X) hd) ?_;rintro v G ⟨rfl,rfl⟩;conv=>whnf)
  | (refine CallK.ret f_z11.ok (there_spec (X:=X) hX (by omega)) ?_;rw [decide_eq_true h3];rintro v G ⟨rfl,rfl⟩;conv=>whnf)
  | (refine CallK.ret f_z20.ok (tget_ok (X:=X) (i:=z) hX (by omega) f0) ?_;rw [g0];rintro v G ⟨a1,c1,hc1,rfl,rfl⟩;conv=>whnf)
  | (refine spl_dec (fun hd=>?_) (fun hd=>?_) <;> first|(exfalso;omega)|(conv=>whnf))
  | (intro blk hblk;conv=>whnf)
  | (refine CallK.ret f_z9.ok (tneed_ok) ?_;rintro v G ⟨rfl,rfl⟩;conv=>whnf)
  | (refine IxS.r (xs:=M) (i:=511) rfl l0.symm (by omega) (fun ab off ha=>?_);cases ha;conv=>whnf)
  | (refine Ld.r0 hm rfl ?_;conv=>whnf))
 obtain ⟨h,hh⟩:∃ h,h = getB M 0 4:=⟨_,rfl⟩
 have hhb:=getB_bd hMb 0 4
 rw [show (256:Int) ^ 4 = 4294967296 from by decide,← hh] at hhb
 rw [← hh] at hT
 refine LoopK.at tab_ok (L:=f_z2l.live) (ι:=Nat) (fun k=>k ≤ 4) (fun k=>[(24,.int .i64 k),(7,.int .i64 (getB M 0 k))]) (fun _=>emp) (fun k=>4 - k) 0 (by simp) (fun t v h=>h) (by rw [emp_star];exact Imp.refl _) ?_
 rintro k hk
 rw [emp_star]
 conv=>whnf
 by_cases k4:k < 4
 ·obtain ⟨b,hlb⟩:∃ b,M[0 + k]? = some b:=⟨_,List.getElem?_eq_getElem (by omega)⟩
  have hbb:=hMb b (List.mem_of_getElem? hlb)
  have hg:=getB_bd hMb 0 k
  have hgs:=getB_succ hlb
  have hg1:=getB_bd hMb 0 (k + 1)
  have hp8:(256:Int) ^ (k + 1) ≤ 4294967296:=by
   have h3:=Int.ofNat_le.2 (Nat.pow_le_pow_right (show 0 < 256 by decide) (show k + 1 ≤ 4 by omega))
   rwa [Int.natCast_pow,Int.natCast_pow] at h3
  have hmp:0 ≤ b * 256 ^ k:=Int.mul_nonneg hbb.1 (Int.le_of_lt (Int.pow_pos (by decide)))
  rw [Nat.zero_add] at hlb
  repeat' (first
   | (refine spl_dec (fun hd=>?_) (fun hd=>?_) <;> first|(exfalso;omega)|(conv=>whnf))
   | (refine Ar.i64 (by omega) ?_;conv=>whnf)
   | (refine IxS.r (i:=k) (xs:=M) rfl l0.symm (by omega) (fun ab off' ha=>?_);cases ha;conv=>whnf)
   | (refine Ld.r0 hlb rfl ?_;conv=>whnf)
   | (refine Shl.v (8 * k) (by omega) (by simp [IntKind.bits];omega) ?_;rw [p256];conv=>whnf)
   | (refine Bt.orAddI (8 * k) (y:=b) (by rw [p256]) hg.1 (by rw [p256];exact hg.2) hbb.1 (by rw [p256];omega) ?_;rw [p256];conv=>whnf))
  refine ⟨rfl,k + 1,by omega,fun t v h=>?_,Imp.refl _,by omega⟩
  rw [hgs] at h
  exact h
 have:k = 4:=by omega
 subst this
 rw [← hh]
 obtain ⟨pad,hpad⟩:∃ p,p = (M.drop 4).take 507:=⟨_,rfl⟩
 have hpl:pad.length = 507:=by rw [hpad,List.length_take,List.length_drop];omega
 haveI rp:∀ Q:HProp,RowN W (vec t_uint8 1 bytv (some ⟨ab,off,none⟩) c1 M•Q) (dropA (some ⟨ab,off,none⟩) 4 c1 1) 507 1 bytv pad:=fun Q=>⟨by rw [hpad];exact RowC.take _ (RowC.drop 4 c1 (by omega) inferInstance),hpl.symm⟩
 rw [← hpad] at hT
 obtain ⟨od,hod⟩:∃ od,od = zerosB pad:=⟨_,rfl⟩
 rw [← hod] at hT
 by_cases hm5:m = 165
 rotate_left
 ·rw [if_pos (by rw [hm];intro k;exact hm5 (Option.some.inj k.1))] at hT
  subst hT
  repeat' (first
   | (refine CallK.ret f_z24.ok (contains_spec (l:=pad) f_z2m.ok (fun b=>finish2_spec) (by omega)) ?_;rw [← hod];rintro v G ⟨rfl,rfl⟩;conv=>whnf)
   | (refine spl_dec (fun hd=>?_) (fun hd=>?_) <;> first|(exfalso;omega)|(conv=>whnf))
   | (refine OpX.of_quiet (OpQ.sly tab_ok 4 507 1 rfl rfl rfl rfl rfl rfl (by omega) (by omega) (by omega) ?_);conv=>whnf)
   | (refine IxS.r (xs:=M) (i:=511) rfl l0.symm (by omega) (fun ab off ha=>?_);cases ha;conv=>whnf)
   | (refine Ld.r0 hm rfl ?_;conv=>whnf)
   | (refine CallK.thr f_z9.ok (tneed_no) ?_;rintro c G ⟨rfl,rfl⟩;conv=>whnf))
  all_goals
   refine LeaveD.ret tab_ok (by simp) f_zb.ok (DDoes.imp (by first|exact .refl _|exact .drop|exact .fin|((repeat refine .pick ?_);first|exact .refl _|exact .emp _|exact .fin)) (finish1_no (v:=.nilIface) (e:=84) (R:=devo d X•R) (older:=[]))) ?_
   rintro _ _ G ⟨b,rfl,rfl⟩
   conv=>whnf
   repeat' (first
    | (refine Ld.i ?_;conv=>whnf))
   refine ⟨_,_,rfl,?_,.inr ⟨by dsimp only;omega,b,_,rfl,rfl,X,hX,rfl,by omega,rfl⟩⟩
   first|exact .refl _|exact .drop|exact .fin|((repeat refine .pick ?_);first|exact .refl _|exact .emp _|exact .fin)
 subst hm5
 cases od with
 | false =>
  rw [if_pos (by intro k;exact absurd k.2.1 (by decide))] at hT
  subst hT
  repeat' (first
   | (refine CallK.ret f_z24.ok (contains_spec (l:=pad) f_z2m.ok (fun b=>finish2_spec) (by omega)) ?_;rw [← hod];rintro v G ⟨rfl,rfl⟩;conv=>whnf)
   | (refine OpX.of_quiet (OpQ.sly tab_ok 4 507 1 rfl rfl rfl rfl rfl rfl (by omega) (by omega) (by omega) ?_);conv=>whnf)
   | (refine IxS.r (xs:=M) (i:=511) rfl l0.symm (by omega) (fun ab off ha=>?_);cases ha;conv=>whnf)
   | (refine Ld.r0 hm rfl ?_;conv=>whnf)
   | (refine CallK.thr f_z9.ok (tneed_no) ?_;rintro c G ⟨rfl,rfl⟩;conv=>whnf))
  all_goals
   refine LeaveD.ret tab_ok (by simp) f_zb.ok (DDoes.imp (by first|exact .refl _|exact .drop|exact .fin|((repeat refine .pick ?_);first|exact .refl _|exact .emp _|exact .fin)) (finish1_no (v:=.nilIface) (e:=84) (R:=devo d X•R) (older:=[]))) ?_
   rintro _ _ G ⟨b,rfl,rfl⟩
   conv=>whnf
   repeat' (first
    | (refine Ld.i ?_;conv=>whnf))
   refine ⟨_,_,rfl,?_,.inr ⟨by dsimp only;omega,b,_,rfl,rfl,X,hX,rfl,by omega,rfl⟩⟩
   first|exact .refl _|exact .drop|exact .fin|((repeat refine .pick ?_);first|exact .refl _|exact .emp _|exact .fin)
 | true =>
 by_cases hmy:TmayP X.val.secs z h
 rotate_left
 ·rw [if_pos (fun k=>hmy k.2.2)] at hT
  subst hT
  repeat' (first
   | (refine CallK.ret f_z24.ok (contains_spec (l:=pad) f_z2m.ok (fun b=>finish2_spec) (by omega)) ?_;rw [← hod];rintro v G ⟨rfl,rfl⟩;conv=>whnf)
   | (refine CallK.ret f_z2c.ok (tmay_spec (X:=X) hX (by omega)) ?_;rw [decide_eq_false hmy];rintro v G ⟨rfl,rfl⟩;conv=>whnf)
   | (refine OpX.of_quiet (OpQ.sly tab_ok 4 507 1 rfl rfl rfl rfl rfl rfl (by omega) (by omega) (by omega) ?_);conv=>whnf)
   | (refine IxS.r (xs:=M) (i:=511) rfl l0.symm (by omega) (fun ab off ha=>?_);cases ha;conv=>whnf)
   | (refine Ld.r0 hm rfl ?_;conv=>whnf)
   | (refine CallK.thr f_z9.ok (tneed_no) ?_;rintro c G ⟨rfl,rfl⟩;conv=>whnf))
  all_goals
   refine LeaveD.ret tab_ok (by simp) f_zb.ok (DDoes.imp (by first|exact .refl _|exact .drop|exact .fin|((repeat refine .pick ?_);first|exact .refl _|exact .emp _|exact .fin)) (finish1_no (v:=.nilIface) (e:=84) (R:=devo d X•R) (older:=[]))) ?_
   rintro _ _ G ⟨b,rfl,rfl⟩
   conv=>whnf
   repeat' (first
    | (refine Ld.i ?_;conv=>whnf))
   refine ⟨_,_,rfl,?_,.inr ⟨by dsimp only;omega,b,_,rfl,rfl,X,hX,rfl,by omega,rfl⟩⟩
   first|exact .refl _|exact .drop|exact .fin|((repeat refine .pick ?_);first|exact .refl _|exact .emp _|exact .fin)
 rw [if_neg (fun k=>k ⟨hm,rfl,hmy⟩)] at hT
 obtain ⟨B,hB⟩:∃ B,B = X.val.at (z + 1) ++ X.val.at (z + 2):=⟨_,rfl⟩
 have hBl:B.length = 1024:=by rw [hB,List.length_append];omega
 have hBb:Byt B:=by rw [hB];exact (Dev.at_byt hX.val).append (Dev.at_byt hX.val)
 rw [← hB] at hT
 have hmy':=hmy.1
 unfold ThereP at hmy'
 have e21:z + 1 + 1 = z + 2:=by omega
 repeat' (first
  | (refine CallK.ret f_z24.ok (contains_spec (l:=pad) f_z2m.ok (fun b=>finish2_spec) (by omega)) ?_;rw [← hod];rintro v G ⟨rfl,rfl⟩;conv=>whnf)
  | (refine CallK.ret f_z2c.ok (tmay_spec (X:=X) hX (by omega)) ?_;rw [decide_eq_true hmy];rintro v G ⟨rfl,rfl⟩;conv=>whnf)
  | (refine CallK.ret f_z20.ok (tget_ok (X:=X) (i:=z + 1) hX (by omega) f1) ?_;rw [g1];rintro v G ⟨a2,c2,hc2,rfl,rfl⟩;conv=>whnf)
  | (refine CallK.ret f_z20.ok (tget_ok (X:=X) (i:=z + 2) hX (by omega) f2) ?_;rw [g2];rintro v G ⟨a3,c3,hc3,rfl,rfl⟩;conv=>whnf)
  | (refine Ar.i64 (by omega) ?_;conv=>whnf)
  | (refine OpX.of_quiet (OpQ.sly tab_ok 4 507 1 rfl rfl rfl rfl rfl rfl (by omega) (by omega) (by omega) ?_);conv=>whnf)
  | (refine IxS.r (xs:=M) (i:=511) rfl l0.symm (by omega) (fun ab off ha=>?_);cases ha;conv=>whnf)
  | (refine Ld.r0 hm rfl ?_;conv=>whnf)
  | (refine CallK.ret f_z9.ok (tneed_ok) ?_;rintro v G ⟨rfl,rfl⟩;conv=>whnf)
  | (refine OpX.appRg (xs:=X.val.at (z + 1)) (ys:=X.val.at (z + 2)) tab_ok rfl rfl rfl rfl rfl l1.symm l2.symm (by omega) (fun a' c'=>?_);rw [← hB,hBl];conv=>whnf))
 refine CallK.have (p:=1024 ≤ c') (fun w hs=>by have:=vec_len hs;omega) (fun hc'=>?_)
 obtain ⟨P1,hP1⟩:∃ P,P = pws h B 2 0 X.val:=⟨_,rfl⟩
 rw [← hP1] at hT
 refine CallK.imp (H':=devo d X•vec t_uint8 1 bytv a' c' B•vec t_uint8 1 bytv (some ⟨ab,off,none⟩) c1 M•pts blk (.cells ⟨[.nilIface]⟩ t_error)•R) (by first|exact .refl _|exact .drop|exact .fin|((repeat refine .pick ?_);first|exact .refl _|exact .emp _|exact .fin)) ?_
 refine CallK.any f_z1u.ok (put_go (X:=X) (b:=B) (n:=2) inferInstance hX (by omega) (by omega) (by omega) (by omega) (by omega) hBb hBl.symm) ?_
 rw [← hP1]
 rintro en G ⟨⟨h0,rfl⟩|⟨h0,rfl⟩,X1,hX1,hv1,hq1,rfl⟩
 rotate_left
 ·rw [if_pos h0] at hT
  subst hT
  skip
  refine LeaveD.ret tab_ok (by simp) f_zb.ok (DDoes.imp (by first|exact .refl _|exact .drop|exact .fin|((repeat refine .pick ?_);first|exact .refl _|exact .emp _|exact .fin)) (finish1_no (v:=.nilIface) (e:=P1.1) (R:=devo d X1•R) (older:=[]))) ?_
  rintro _ _ G ⟨b,rfl,rfl⟩
  conv=>whnf
  repeat' (first
   | (refine Ld.i ?_;conv=>whnf))
  refine ⟨_,_,rfl,?_,.inr ⟨h0,b,_,rfl,rfl,X1,hX1,hv1,by omega,rfl⟩⟩
  first|exact .refl _|exact .drop|exact .fin|((repeat refine .pick ?_);first|exact .refl _|exact .emp _|exact .fin)
 rw [if_neg (fun k=>k h0),← hv1] at hT
 have lM':(M.set 511 0).length = 512:=by rw [List.length_set];exact l0
 have bM':Byt (M.set 511 0):=Byt.set hMb (by decide)
 repeat' (first
  | (refine IxS.v (i:=511) (xs:=M) rfl l0.symm (by omega) (fun ab off' ha=>?_);cases ha;conv=>whnf)
  | (refine St.v0 (i:=511) hm 0 rfl (by decide) ⟨rfl,rfl⟩ ?_;conv=>whnf))
 obtain ⟨M2,hM2⟩:∃ M2,M2 = M.set 511 0:=⟨_,rfl⟩
 rw [← hM2] at hT lM' bM' ⊢
 obtain ⟨P2,hP2⟩:∃ P,P = pws z M2 1 0 X1.val:=⟨_,rfl⟩
 rw [← hP2] at hT
 refine CallK.imp (H':=devo d X1•vec t_uint8 1 bytv (some ⟨ab,off,none⟩) c1 M2•pts blk (.cells ⟨[.nilIface]⟩ t_error)•R) (by first|exact .refl _|exact .drop|exact .fin|((repeat refine .pick ?_);first|exact .refl _|exact .emp _|exact .fin)) ?_
 refine CallK.any f_z1u.ok (put_go (nn:=512) (X:=X1) (b:=M2) (n:=1) inferInstance hX1 (by omega) (by omega) (by omega) (by omega) (by omega) bM' lM'.symm) ?_
 rw [← hP2]
 clear h0
 rintro en G ⟨⟨h0,rfl⟩|⟨h0,rfl⟩,X2,hX2,hv2,hq2,rfl⟩
 rotate_left
 ·rw [if_pos h0] at hT
  subst hT
  skip
  refine LeaveD.ret tab_ok (by simp) f_zb.ok (DDoes.imp (by first|exact .refl _|exact .drop|exact .fin|((repeat refine .pick ?_);first|exact .refl _|exact .emp _|exact .fin)) (finish1_no (v:=.nilIface) (e:=P2.1) (R:=devo d X2•R) (older:=[]))) ?_
  rintro _ _ G ⟨b,rfl,rfl⟩
  conv=>whnf
  repeat' (first
   | (refine Ld.i ?_;conv=>whnf))
  refine ⟨_,_,rfl,?_,.inr ⟨h0,b,_,rfl,rfl,X2,hX2,hv2,by omega,rfl⟩⟩
  first|exact .refl _|exact .drop|exact .fin|((repeat refine .pick ?_);first|exact .refl _|exact .emp _|exact .fin)
 rw [if_neg (fun k=>k h0)] at hT
 subst hT
 repeat' (first
  | (refine St.i ⟨rfl,rfl⟩ (List.cons_ne_nil _ _) ?_;conv=>whnf))
 refine LeaveD.ret tab_ok (by simp) f_zb.ok (DDoes.imp (by first|exact .refl _|exact .drop|exact .fin|((repeat refine .pick ?_);first|exact .refl _|exact .emp _|exact .fin)) (finish1_ok (v:=.nilIface) (R:=devo d X2•R))) ?_
 rintro _ _ G ⟨rfl,rfl⟩
 conv=>whnf
 repeat' (first
  | (refine Ld.i ?_;conv=>whnf))
 refine ⟨_,_,rfl,?_,.inl ⟨rfl,rfl,X2,hX2,hv2,by omega,rfl⟩⟩
 first|exact .refl _|exact .drop|exact .fin|((repeat refine .pick ?_);first|exact .refl _|exact .emp _|exact .fin)
end Go.Proofs.YtbcedpankkdfoaaGreatDoor
