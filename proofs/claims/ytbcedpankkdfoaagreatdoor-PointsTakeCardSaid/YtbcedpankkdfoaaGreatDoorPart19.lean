/- The program's package twin, walked: Write. Conditions: in each statement. -/
import Derived.Test.YtbcedpankkdfoaaGreatDoorPart18
import Derived.Test.YtbcedpankkdfoaaGreatDoorPart17
import Derived.Test.YtbcedpankkdfoaaGreatDoorPart16
set_option linter.unusedVariables false
set_option linter.unusedSimpArgs false
namespace Go.SL.Twn
open Go Go.SL Go.SL.Sec Go.SL.Fld Go.SL.Pts Go.SL.Rec
def t512:List Int:=List.replicate 512 0
theorem t512_eq:t512 = List.replicate 512 0:=rfl
theorem t512_len:t512.length = 512:=List.length_replicate
theorem t512_byt:Byt t512:=Byt.rep 512
def mark4 (home:Int):List Int:=putB t512 0 4 home
theorem mark4_byt {h:Int}:Byt (mark4 h):=by unfold mark4;exact putB_byt t512_byt
def mark (home st:Int):List Int:=(mark4 home).set 511 st
def twW (D:Dev) (z h:Int) (b:List Int):Int × Dev :=
 if D.down then (40,D) else if ¬ (ThereP D.secs z 3 ∧ TmayP D.secs z h) then (4,D) else if b.length ≠ 1024 then (42,D) else
 let r1:=pws (z + 1) b 2 0 D
 if r1.1 ≠ 0 then r1 else
 let r2:=pws z (mark h 165) 1 0 r1.2
 if r2.1 ≠ 0 then r2 else
 let r3:=pws h b 2 0 r2.2
 if r3.1 ≠ 0 then r3 else pws z (mark h 0) 1 0 r3.2
end Go.SL.Twn
namespace Go.Proofs.YtbcedpankkdfoaaGreatDoor
open Go Go.SL Go.SL.Sec Go.SL.Fld Go.SL.Pts Go.SL.Rec Go.SL.Twn
theorem twwrite_no {W:World} {H R:HProp} {d:Nat} {X:DevX} {z h:Int} {a:Option Addr} {n c:Nat} {b:List Int} [t:DevC H d X R] [ro:RowN W R a n 1 bytv b] (hX:X.Ok) (hb:b.length ≤ 16777216) (hn:X.down = true ∨ ¬ (ThereP X.val.secs z 3 ∧ TmayP X.val.secs z h) ∨ b.length ≠ 1024) :
  Does prog W f_z2e ⟨[ptr d,.int .i64 z,.int .i64 h,.slice a n c]⟩ H (Ret fun v G=>∃ k,v = .iface t_z8 (ptr k) ∧ G = (fltc k wWrite 0 (twW X.val z h b).1•devo d X•R)):=by
 rw [t.h.eq]
 have hl:=ro.len
 subst hl
 have hsec:0 ≤ X.val.secs ∧ X.val.secs ≤ 8192:=by
  have:=hX.len
  unfold Dev.secs DevX.val
  dsimp only
  omega
 have hdv:X.val.down = X.down:=rfl
 unfold twW
 rw [hdv]
 refine f_z2e.does _ _ _ _ ?_
 conv=>whnf
 cases hd:X.down with
 | true =>
  rw [if_pos rfl]
  repeat' (first
   | (refine CallK.thr f_zz.ok (running_no (X:=X) hd) ?_;rintro c G ⟨rfl,rfl⟩;conv=>whnf)
   | (intro blk hblk;conv=>whnf))
  all_goals
   refine LeaveD.ret tab_ok (by simp) f_zd.ok (DDoes.imp (by first|exact .refl _|exact .drop|exact .fin|((repeat refine .pick ?_);first|exact .refl _|exact .emp _|exact .fin)) (write1_no (v:=.nilIface) (e:=40) (R:=devo d X•R) (older:=[]))) ?_
   rintro _ _ G ⟨b,rfl,rfl⟩
   conv=>whnf
   repeat' (first
    | (refine Ld.i ?_;conv=>whnf))
   refine ⟨_,_,rfl,?_,b,rfl,rfl⟩
   first|exact .refl _|exact .drop|exact .fin|((repeat refine .pick ?_);first|exact .refl _|exact .emp _|exact .fin)
 | false =>
  rw [if_neg (by decide)]
  have hn':=hn.resolve_left (by rw [hd];decide)
  by_cases h3:ThereP X.val.secs z 3
  ·have h3':=h3
   unfold ThereP at h3'
   by_cases hm:TmayP X.val.secs z h
   ·have hbl:b.length ≠ 1024:=hn'.resolve_left fun k=>k ⟨h3,hm⟩
    rw [if_neg (fun k=>k ⟨h3,hm⟩),if_pos hbl]
    repeat' (first
     | (refine CallK.ret f_zz.ok (running_ok (X:=X) hd) ?_;rintro v G ⟨rfl,rfl⟩;conv=>whnf)
     | (refine CallK.ret f_z1e.ok (there_spec (X:=X) hX (by omega)) ?_;rw [decide_eq_true h3];rintro v G ⟨rfl,rfl⟩;conv=>whnf)
     | (refine CallK.ret f_z2r.ok (tmay_spec (X:=X) hX (by omega)) ?_;rw [decide_eq_true hm];rintro v G ⟨rfl,rfl⟩;conv=>whnf)
     | (rw [show decide ((b.length:Int) = 1024) = false from decide_eq_false (by omega)];conv=>whnf)
     | (intro blk hblk;conv=>whnf)
     | (refine CallK.ret f_zh.ok (tneed_ok) ?_;rintro v G ⟨rfl,rfl⟩;conv=>whnf)
     | (refine CallK.thr f_zh.ok (tneed_no) ?_;rintro c G ⟨rfl,rfl⟩;conv=>whnf))
    all_goals
     refine LeaveD.ret tab_ok (by simp) f_zd.ok (DDoes.imp (by first|exact .refl _|exact .drop|exact .fin|((repeat refine .pick ?_);first|exact .refl _|exact .emp _|exact .fin)) (write1_no (v:=.nilIface) (e:=42) (R:=devo d X•R) (older:=[]))) ?_
     rintro _ _ G ⟨b,rfl,rfl⟩
     conv=>whnf
     repeat' (first
      | (refine Ld.i ?_;conv=>whnf))
     refine ⟨_,_,rfl,?_,b,rfl,rfl⟩
     first|exact .refl _|exact .drop|exact .fin|((repeat refine .pick ?_);first|exact .refl _|exact .emp _|exact .fin)
   ·rw [if_pos (fun k=>hm k.2)]
    repeat' (first
     | (refine CallK.ret f_zz.ok (running_ok (X:=X) hd) ?_;rintro v G ⟨rfl,rfl⟩;conv=>whnf)
     | (refine CallK.ret f_z1e.ok (there_spec (X:=X) hX (by omega)) ?_;rw [decide_eq_true h3];rintro v G ⟨rfl,rfl⟩;conv=>whnf)
     | (refine CallK.ret f_z2r.ok (tmay_spec (X:=X) hX (by omega)) ?_;rw [decide_eq_false hm];rintro v G ⟨rfl,rfl⟩;conv=>whnf)
     | (intro blk hblk;conv=>whnf)
     | (refine CallK.thr f_zh.ok (tneed_no) ?_;rintro c G ⟨rfl,rfl⟩;conv=>whnf))
    all_goals
     refine LeaveD.ret tab_ok (by simp) f_zd.ok (DDoes.imp (by first|exact .refl _|exact .drop|exact .fin|((repeat refine .pick ?_);first|exact .refl _|exact .emp _|exact .fin)) (write1_no (v:=.nilIface) (e:=4) (R:=devo d X•R) (older:=[]))) ?_
     rintro _ _ G ⟨b,rfl,rfl⟩
     conv=>whnf
     repeat' (first
      | (refine Ld.i ?_;conv=>whnf))
     refine ⟨_,_,rfl,?_,b,rfl,rfl⟩
     first|exact .refl _|exact .drop|exact .fin|((repeat refine .pick ?_);first|exact .refl _|exact .emp _|exact .fin)
  ·rw [if_pos (fun k=>h3 k.1)]
   repeat' (first
    | (refine CallK.ret f_zz.ok (running_ok (X:=X) hd) ?_;rintro v G ⟨rfl,rfl⟩;conv=>whnf)
    | (refine CallK.ret f_z1e.ok (there_spec (X:=X) hX (by omega)) ?_;rw [decide_eq_false h3];rintro v G ⟨rfl,rfl⟩;conv=>whnf)
    | (intro blk hblk;conv=>whnf)
    | (refine CallK.thr f_zh.ok (tneed_no) ?_;rintro c G ⟨rfl,rfl⟩;conv=>whnf))
   all_goals
    refine LeaveD.ret tab_ok (by simp) f_zd.ok (DDoes.imp (by first|exact .refl _|exact .drop|exact .fin|((repeat refine .pick ?_);first|exact .refl _|exact .emp _|exact .fin)) (write1_no (v:=.nilIface) (e:=4) (R:=devo d X•R) (older:=[]))) ?_
    rintro _ _ G ⟨b,rfl,rfl⟩
    conv=>whnf
    repeat' (first
     | (refine Ld.i ?_;conv=>whnf))
    refine ⟨_,_,rfl,?_,b,rfl,rfl⟩
    first|exact .refl _|exact .drop|exact .fin|((repeat refine .pick ?_);first|exact .refl _|exact .emp _|exact .fin)
end Go.Proofs.YtbcedpankkdfoaaGreatDoor
/- The program's package twin, walked: Write, its good way. Conditions: in each statement. -/
namespace Go.Proofs.YtbcedpankkdfoaaGreatDoor
open Go Go.SL Go.SL.Sec Go.SL.Fld Go.SL.Pts Go.SL.Rec Go.SL.Twn
def TwrQ (e:Int) (P:HProp → Prop) (v:Value) (G:HProp):Prop:=(e = 0 ∧ v = .nilIface ∧ P G) ∨ (e ≠ 0 ∧ ∃ k G0,v = .iface t_z8 (ptr k) ∧ G = (fltc k wWrite 0 e•G0) ∧ P G0)
set_option maxHeartbeats 1000000 in
theorem twwrite_go {W:World} {H R:HProp} {d:Nat} {X:DevX} {z h:Int} {a:Option Addr} {n c:Nat} {b:List Int} [t:DevC H d X R] [ro:RowN W R a n 1 bytv b] (hX:X.Ok) (hq:X.ps.length ≤ 400000) (hb:b.length = 1024) (hc:1024 ≤ c) (hby:Byt b) (hd:X.down = false) (h3:ThereP X.val.secs z 3) (hm:TmayP X.val.secs z h) :
  Does prog W f_z2e ⟨[ptr d,.int .i64 z,.int .i64 h,.slice a n c]⟩ H (Ret (TwrQ (twW X.val z h b).1 fun G=>∃ X':DevX,X'.Ok ∧ X'.val = (twW X.val z h b).2 ∧ X'.ps.length ≤ X.ps.length + 6 ∧ G = (devo d X'•R))):=by
 rw [t.h.eq]
 have hl:=ro.len
 subst hl
 haveI r':=ro.row
 have hsec:0 ≤ X.val.secs ∧ X.val.secs ≤ 8192:=by
  have:=hX.len
  unfold Dev.secs DevX.val
  dsimp only
  omega
 have h3':=h3
 unfold ThereP at h3'
 have hm':=hm.1
 unfold ThereP at hm'
 obtain ⟨T,hT⟩:∃ T,T = twW X.val z h b:=⟨_,rfl⟩
 rw [← hT]
 have hdv:X.val.down = X.down:=rfl
 unfold twW at hT
 rw [hdv,if_neg (by rw [hd];decide),if_neg (fun k=>k ⟨h3,hm⟩),if_neg (fun k=>k hb)] at hT
 dsimp only at hT
 refine f_z2e.does _ _ _ _ ?_
 conv=>whnf
 repeat' (first
  | (refine CallK.ret f_zz.ok (running_ok (X:=X) hd) ?_;rintro v G ⟨rfl,rfl⟩;conv=>whnf)
  | (refine CallK.ret f_z1e.ok (there_spec (X:=X) hX (by omega)) ?_;rw [decide_eq_true h3];rintro v G ⟨rfl,rfl⟩;conv=>whnf)
  | (refine CallK.ret f_z2r.ok (tmay_spec (X:=X) hX (by omega)) ?_;rw [decide_eq_true hm];rintro v G ⟨rfl,rfl⟩;conv=>whnf)
  | (rw [show decide ((b.length:Int) = 1024) = true from decide_eq_true (by omega)];conv=>whnf)
  | (refine Ar.i64 (by omega) ?_;conv=>whnf)
  | (intro blk hblk;conv=>whnf)
  | (refine CallK.ret f_zh.ok (tneed_ok) ?_;rintro v G ⟨rfl,rfl⟩;conv=>whnf))
 obtain ⟨P1,hP1⟩:∃ P,P = pws (z + 1) b 2 0 X.val:=⟨_,rfl⟩
 rw [← hP1] at hT
 refine CallK.any f_z28.ok (put_go (X:=X) (b:=b) (n:=2) (R:=pts _ (.cells ⟨[.nilIface]⟩ t_error)•R) inferInstance hX (by omega) (by omega) (by omega) (by omega) (by omega) hby rfl) ?_
 rw [← hP1]
 rintro en G ⟨⟨h0,rfl⟩|⟨h0,rfl⟩,X1,hX1,hv1,hq1,rfl⟩
 rotate_left
 ·rw [if_pos h0] at hT
  subst hT
  skip
  refine LeaveD.ret tab_ok (by simp) f_zd.ok (DDoes.imp (by first|exact .refl _|exact .drop|exact .fin|((repeat refine .pick ?_);first|exact .refl _|exact .emp _|exact .fin)) (write1_no (v:=.nilIface) (e:=T.1) (R:=devo d X1•R) (older:=[]))) ?_
  rintro _ _ G ⟨b,rfl,rfl⟩
  conv=>whnf
  repeat' (first
   | (refine Ld.i ?_;conv=>whnf))
  refine ⟨_,_,rfl,?_,.inr ⟨h0,b,_,rfl,rfl,X1,hX1,hv1,by omega,rfl⟩⟩
  first|exact .refl _|exact .drop|exact .fin|((repeat refine .pick ?_);first|exact .refl _|exact .emp _|exact .fin)
 rw [if_neg (fun k=>k h0),← hv1] at hT
 repeat' (first
  | (refine OpX.make tab_ok bytv 0 rfl rfl rfl rfl rfl rfl (by omega) (fun s hs=>?_);rw [show (Int.toNat 512) = 512 from rfl,← t512_eq];conv=>whnf))
 refine LoopK.at tab_ok (L:=f_z2e.live) (ι:=Nat) (fun k=>k ≤ 4) (fun k=>[(34,.int .i64 k)]) (fun k=>vec t_uint8 1 bytv (some ⟨s,0,none⟩) 512 (putB t512 0 k h)) (fun k=>4 - k) 0 (by simp) (fun t v h=>h) (by rw [putB_zero];exact Imp.pick (Imp.refl _)) ?_
 rintro k hk
 conv=>whnf
 have hlen:(putB t512 0 k h).length = 512:=by rw [putB_len (by rw [t512_len];omega),t512_len]
 by_cases h2:k < 4
 ·have hzk:0 + k < t512.length:=by rw [t512_len];omega
  repeat' (first
   | (refine Shr.v (8 * k) (by omega) (by simp [IntKind.bits];omega) ?_;rw [p256];conv=>whnf)
   | (refine spl_dec (fun hd=>?_) (fun hd=>?_) <;> first|(exfalso;omega)|(conv=>whnf))
   | (refine Ar.i64 (by omega) ?_;conv=>whnf)
   | (refine IxS.v (i:=0 + k) (xs:=putB t512 0 k h) (by omega) hlen.symm (by omega) (fun ab off' ha=>?_);cases ha;conv=>whnf)
   | ((first|refine Ar.u8w ?_|refine St.v0 (putB_get hzk) (h / 256 ^ k % 256) rfl (Nat.le_refl _) ⟨rfl,rfl⟩ ?_);conv=>whnf))
  rw [putB_succ hzk]
  exact ⟨rfl,k + 1,by omega,fun t v h=>h,Imp.refl _,by omega⟩
 have hmk:putB t512 0 k h = mark4 h:=by rw [show k = 4 by omega];rfl
 rw [hmk] at hlen ⊢
 have hbm:Byt (mark4 h):=mark4_byt
 have hms:∀ st,(mark4 h).set 511 st = Twn.mark h st:=fun st=>rfl
 clear hmk
 obtain ⟨M4,hM4⟩:∃ M,M = mark4 h:=⟨_,rfl⟩
 rw [← hM4] at hlen hbm hms ⊢
 clear hM4
 obtain ⟨y,hy⟩:∃ y,M4[511]? = some y:=⟨_,List.getElem?_eq_getElem (by omega)⟩
 have lmk:∀ st,(Twn.mark h st).length = 512:=fun st=>by rw [← hms,List.length_set];exact hlen
 have bmk:∀ st,0 ≤ st ∧ st < 256 → Byt (Twn.mark h st):=fun st k=>hms st ▸ Byt.set hbm k
 repeat' (first
  | (refine spl_dec (fun hd=>?_) (fun hd=>?_) <;> first|(exfalso;omega)|(conv=>whnf))
  | (refine IxS.v (i:=511) (xs:=M4) rfl hlen.symm (by omega) (fun ab off' ha=>?_);cases ha;conv=>whnf)
  | (refine St.v0 (i:=511) hy 165 rfl (by decide) ⟨rfl,rfl⟩ ?_;conv=>whnf))
 rw [hms]
 obtain ⟨P2,hP2⟩:∃ P,P = pws z (Twn.mark h 165) 1 0 X1.val:=⟨_,rfl⟩
 rw [← hP2] at hT
 refine CallK.imp (H':=(devo d X1•vec t_uint8 1 bytv (some ⟨s,0,none⟩) 512 (Twn.mark h 165)•pts _ (.cells ⟨[.nilIface]⟩ t_error)•R)) (by first|exact .refl _|exact .drop|exact .fin|((repeat refine .pick ?_);first|exact .refl _|exact .emp _|exact .fin)) ?_
 refine CallK.any f_z28.ok (put_go (nn:=512) (X:=X1) (b:=Twn.mark h 165) (n:=1) inferInstance hX1 (by omega) (by omega) (by rw [lmk]) (by omega) (by rw [lmk];exact Nat.le_refl _) (bmk _ (by omega)) (lmk _).symm) ?_
 rw [← hP2]
 clear h0
 rintro en G ⟨⟨h0,rfl⟩|⟨h0,rfl⟩,X2,hX2,hv2,hq2,rfl⟩
 rotate_left
 ·rw [if_pos h0] at hT
  subst hT
  skip
  refine LeaveD.ret tab_ok (by simp) f_zd.ok (DDoes.imp (by first|exact .refl _|exact .drop|exact .fin|((repeat refine .pick ?_);first|exact .refl _|exact .emp _|exact .fin)) (write1_no (v:=.nilIface) (e:=T.1) (R:=devo d X2•R) (older:=[]))) ?_
  rintro _ _ G ⟨b,rfl,rfl⟩
  conv=>whnf
  repeat' (first
   | (refine Ld.i ?_;conv=>whnf))
  refine ⟨_,_,rfl,?_,.inr ⟨h0,b,_,rfl,rfl,X2,hX2,hv2,by omega,rfl⟩⟩
  first|exact .refl _|exact .drop|exact .fin|((repeat refine .pick ?_);first|exact .refl _|exact .emp _|exact .fin)
 rw [if_neg (fun k=>k h0),← hv2] at hT
 skip
 obtain ⟨P3,hP3⟩:∃ P,P = pws h b 2 0 X2.val:=⟨_,rfl⟩
 rw [← hP3] at hT
 refine CallK.any f_z28.ok (put_go (X:=X2) (b:=b) (n:=2) (R:=vec t_uint8 1 bytv (some ⟨s,0,none⟩) 512 (Twn.mark h 165)•pts _ (.cells ⟨[.nilIface]⟩ t_error)•R) inferInstance hX2 (by omega) (by omega) (by omega) (by omega) (by omega) hby rfl) ?_
 rw [← hP3]
 clear h0
 rintro en G ⟨⟨h0,rfl⟩|⟨h0,rfl⟩,X3,hX3,hv3,hq3,rfl⟩
 rotate_left
 ·rw [if_pos h0] at hT
  subst hT
  skip
  refine LeaveD.ret tab_ok (by simp) f_zd.ok (DDoes.imp (by first|exact .refl _|exact .drop|exact .fin|((repeat refine .pick ?_);first|exact .refl _|exact .emp _|exact .fin)) (write1_no (v:=.nilIface) (e:=T.1) (R:=devo d X3•R) (older:=[]))) ?_
  rintro _ _ G ⟨b,rfl,rfl⟩
  conv=>whnf
  repeat' (first
   | (refine Ld.i ?_;conv=>whnf))
  refine ⟨_,_,rfl,?_,.inr ⟨h0,b,_,rfl,rfl,X3,hX3,hv3,by omega,rfl⟩⟩
  first|exact .refl _|exact .drop|exact .fin|((repeat refine .pick ?_);first|exact .refl _|exact .emp _|exact .fin)
 rw [if_neg (fun k=>k h0),← hv3] at hT
 obtain ⟨y2,hy2⟩:∃ y,(Twn.mark h 165)[511]? = some y:=⟨_,List.getElem?_eq_getElem (Nat.lt_of_lt_of_eq (by decide:511 < 512) (lmk _).symm)⟩
 repeat' (first
  | (refine IxS.v (i:=511) (xs:=Twn.mark h 165) rfl (lmk _).symm (Nat.lt_of_lt_of_eq (by decide:511 < 512) (lmk _).symm) (fun ab off' ha=>?_);cases ha;conv=>whnf)
  | (refine St.v0 (i:=511) hy2 0 rfl (by decide) ⟨rfl,rfl⟩ ?_;conv=>whnf))
 rw [show (Twn.mark h 165).set 511 0 = Twn.mark h 0 by rw [← hms,← hms,List.set_set]]
 obtain ⟨P4,hP4⟩:∃ P,P = pws z (Twn.mark h 0) 1 0 X3.val:=⟨_,rfl⟩
 rw [← hP4] at hT
 refine CallK.imp (H':=(devo d X3•vec t_uint8 1 bytv (some ⟨s,0,none⟩) 512 (Twn.mark h 0)•pts _ (.cells ⟨[.nilIface]⟩ t_error)•R)) (by first|exact .refl _|exact .drop|exact .fin|((repeat refine .pick ?_);first|exact .refl _|exact .emp _|exact .fin)) ?_
 refine CallK.any f_z28.ok (put_go (nn:=512) (X:=X3) (b:=Twn.mark h 0) (n:=1) inferInstance hX3 (by omega) (by omega) (by rw [lmk]) (by omega) (by rw [lmk];exact Nat.le_refl _) (bmk _ (by omega)) (lmk _).symm) ?_
 rw [← hP4]
 clear h0
 rintro en G ⟨⟨h0,rfl⟩|⟨h0,rfl⟩,X4,hX4,hv4,hq4,rfl⟩
 rotate_left
 ·subst hT
  skip
  refine LeaveD.ret tab_ok (by simp) f_zd.ok (DDoes.imp (by first|exact .refl _|exact .drop|exact .fin|((repeat refine .pick ?_);first|exact .refl _|exact .emp _|exact .fin)) (write1_no (v:=.nilIface) (e:=T.1) (R:=devo d X4•R) (older:=[]))) ?_
  rintro _ _ G ⟨b,rfl,rfl⟩
  conv=>whnf
  repeat' (first
   | (refine Ld.i ?_;conv=>whnf))
  refine ⟨_,_,rfl,?_,.inr ⟨h0,b,_,rfl,rfl,X4,hX4,hv4,by omega,rfl⟩⟩
  first|exact .refl _|exact .drop|exact .fin|((repeat refine .pick ?_);first|exact .refl _|exact .emp _|exact .fin)
 subst hT
 repeat' (first
  | (refine St.i ⟨rfl,rfl⟩ (List.cons_ne_nil _ _) ?_;conv=>whnf))
 refine LeaveD.ret tab_ok (by simp) f_zd.ok (DDoes.imp (by first|exact .refl _|exact .drop|exact .fin|((repeat refine .pick ?_);first|exact .refl _|exact .emp _|exact .fin)) (write1_ok (v:=.nilIface) (R:=devo d X4•R))) ?_
 rintro _ _ G ⟨rfl,rfl⟩
 conv=>whnf
 repeat' (first
  | (refine Ld.i ?_;conv=>whnf))
 refine ⟨_,_,rfl,?_,.inl ⟨h0,rfl,X4,hX4,hv4,by omega,rfl⟩⟩
 first|exact .refl _|exact .drop|exact .fin|((repeat refine .pick ?_);first|exact .refl _|exact .emp _|exact .fin)
end Go.Proofs.YtbcedpankkdfoaaGreatDoor
/- The program's package twin, walked: Finish. Conditions: in each statement. -/
namespace Go.SL
open Go
theorem CallK.have {P:Program} {W:World} {H:HProp} {p:Prop} {f:FuncId} {args:List Value} {K:Value → HProp → Prop} {Kp:List PanicEntry → HProp → Prop} (h:∀ w,Sat W H w → p) (k:p → CallK P W f args H K Kp):CallK P W f args H K Kp:=by
 by_cases hp:p
 ·exact k hp
 ·exact ⟨.inr fun w hs=>absurd (h w hs) hp⟩
end Go.SL
namespace Go.SL.Twn
open Go Go.SL Go.SL.Sec Go.SL.Fld Go.SL.Pts Go.SL.Rec
open Go.Proofs.YtbcedpankkdfoaaGreatDoor (zerosB)
def fin (D:Dev) (z:Int):Int × Bool × Dev :=
 if D.down then (40,false,D) else if ¬ ThereP D.secs z 3 then (4,false,D) else
 if (D.at z)[511]? = some 0 then (0,false,D) else
 let h:=getB (D.at z) 0 4
 if ¬ ((D.at z)[511]? = some 165 ∧ zerosB (((D.at z).drop 4).take 507) = true ∧ TmayP D.secs z h) then (84,false,D) else
 let r1:=pws h (D.at (z + 1) ++ D.at (z + 2)) 2 0 D
 if r1.1 ≠ 0 then (r1.1,false,r1.2) else
 let r2:=pws z ((D.at z).set 511 0) 1 0 r1.2
 if r2.1 ≠ 0 then (r2.1,false,r2.2) else (0,true,r2.2)
theorem Dev.at_byt {D:Dev} {i:Int} (h:D.Ok):Byt (D.at i):=by
 unfold Dev.at
 cases hl:lastOf i D.q with
 | none=>exact (h.byt.drop _).take _
 | some b =>
  obtain ⟨p,hp,rfl⟩:=lastOf_mem hl
  exact (h.q p hp).2.2.2
end Go.SL.Twn
namespace Go.Proofs.YtbcedpankkdfoaaGreatDoor
open Go Go.SL Go.SL.Sec Go.SL.Fld Go.SL.Pts Go.SL.Rec Go.SL.Twn
abbrev wFinish:ByteArray:=⟨#[70,105,110,105,115,104]⟩
def FinQ (e:Int) (done:Bool) (P:HProp → Prop) (v:Value) (G:HProp):Prop:=(e = 0 ∧ v = .tuple ⟨[.bool done,.nilIface]⟩ ∧ P G) ∨ (e ≠ 0 ∧ ∃ k G0,v = .tuple ⟨[.bool false,.iface t_z8 (ptr k)]⟩ ∧ G = (fltc k wFinish 0 e•G0) ∧ P G0)
end Go.Proofs.YtbcedpankkdfoaaGreatDoor
/- The program's log.Open over a disk without unsynced writes; walked. Conditions: in each statement. -/
namespace Go.SL.Rec
open Go Go.SL Go.SL.Sec Go.SL.Fld Go.SL.Pts
def secsL (D:Dev) (first:Int) (n:Nat):List (List Int):=(List.range n).map fun i=>D.at (first + (i:Nat))
theorem secsL_succ (D:Dev) (first:Int) (n:Nat):secsL D first (n + 1) = secsL D first n ++ [D.at (first + (n:Nat))]:=by unfold secsL;rw [List.range_succ,List.map_append];rfl
theorem secsL_len (D:Dev) (first:Int) (n:Nat):(secsL D first n).length = n:=by unfold secsL;simp
end Go.SL.Rec
namespace Go.Proofs.YtbcedpankkdfoaaGreatDoor
open Go Go.SL Go.SL.Sec Go.SL.Fld Go.SL.Pts Go.SL.Rec Go.SL.Twn
open Go.SL.Und (RecV recv fits)
theorem foundG_len:∀ (l:List (List Int)) (i:Nat),(foundG i l).length ≤ l.length
 | [],_=>Nat.le_refl _
 | s :: l,i=>by
  unfold foundG
  split
  ·rw [List.length_cons,List.length_cons];have:=foundG_len l (i + 1);omega
  ·exact Nat.zero_le _
theorem readG_len:∀ (l:List (List Int)) (i:Nat),(readG i l).2.length ≤ l.length
 | [],_=>Nat.le_refl _
 | s :: l,i=>by
  unfold readG
  split
  ·rw [List.length_cons,List.length_cons];have:=readG_len l (i + 1);omega
  ·exact Nat.zero_le _
def openF (D:Dev) (first:Int) (n:Nat):(Int × Int) × LogM × Dev :=
 let r:=readG 0 (foundG 0 (secsL D first n))
 if r.1 ≠ 0 then ((r.1,60),⟨first,n,r.2,[],0,none⟩,D) else
 let w:=wipG first r.2.length ((secsL D first n).drop r.2.length) false D
 ((0,w.1),⟨first,n,r.2,[],r.2.length,none⟩,w.2)
set_option maxHeartbeats 2000000 in
theorem open1_spec {W:World} {R:HProp} {b1 b2 b3 b4 d l:Nat} {first:Int} {n:Nat} {X:DevX} (hX:X.Ok) (hdn:X.down = false) (hq:X.ps = []) (hf:0 ≤ first ∧ first ≤ 8192) (hn:1 ≤ n ∧ n ≤ 4096) (hs:first + n ≤ X.val.secs) :
  Does prog W f_z10 ⟨[ptr b1,ptr b2,ptr b3,ptr b4]⟩ (logo l (logB d first n none 0 [] 0)•devo d X•pts b1 (.cells ⟨[ptr d]⟩ t_z50)•pts b2 (.cells ⟨[.int .i64 first]⟩ t_int)•pts b3 (.cells ⟨[.int .i64 n]⟩ t_int)•pts b4 (.cells ⟨[ptr l]⟩ t_z2h)•R)
   (fun en G=>∃ G',Imp G G' ∧ AskN (openF X.val first n).1.1 (openF X.val first n).1.2 (fun G=>∃ (L:LogX) (Y:DevX),L.d = d ∧ Y.Ok ∧ L.val = (openF X.val first n).2.1 ∧ ((openF X.val first n).1.2 = 0 → L.Ok) ∧ Y.val = (openF X.val first n).2.2 ∧ Y.ps.length ≤ n ∧
    G = (logo l L•devo d Y•pts b4 (.cells ⟨[ptr l]⟩ t_z2h)•R)) en G'):=by
 obtain ⟨T,hT⟩:∃ T,T = openF X.val first n:=⟨_,rfl⟩
 rw [← hT]
 unfold openF at hT
 have hdv:X.val.down = false:=hdn
 have hl:=hX.len
 have hsz:X.val.secs = (X.img.length:Int) / 512:=rfl
 refine f_z10.does _ _ _ _ ?_
 conv=>whnf
 repeat' (first
  | (refine DrawK.introK tab_ok mixed 13 f_z10.last2 f_z10.plan2 rfl (by kernel_rfl) ?_;conv=>whnf)
  | (refine CallK.ret f_z1h.ok (sectors_spec (X:=X) hX) ?_;rintro v G ⟨rfl,rfl⟩;conv=>whnf)
  | (refine spl_f hdn ?_;conv=>whnf)
  | (refine spl_dec (fun hd=>?_) (fun hd=>?_) <;> first|(exfalso;omega)|(conv=>whnf))
  | ((first|refine Ld.i ?_|refine Ar.i64 (by omega) ?_);conv=>whnf)
  | (refine Sub.on (by first|exact .refl _|exact .drop|exact .fin|((repeat refine .pick ?_);first|exact .refl _|exact .emp _|exact .fin)) ?_;conv=>whnf)
  | (refine CallK.ret f_z2o.ok (down_spec) ?_;rintro v G ⟨rfl,rfl⟩;conv=>whnf))
 refine CallK.ret f_z1z.ok (cache_spec (X:=X) hX (by rw [hq];exact Nat.zero_le _)) ?_
 rintro v G ⟨qa,qc,qs,hqs,rfl,rfl⟩
 have hqs0:qs = []:=by
  have:X.val.q = []:=by show X.ps.map _ = [];rw [hq];rfl
  rw [this] at hqs
  exact List.map_eq_nil_iff.1 hqs
 subst hqs0
 conv=>whnf
 repeat' (first
  | (refine Ld.i ?_;conv=>whnf))
 refine LoopK.at (R:=devo d X•logo l (logB d first n none 0 [] 0)•pts b1 (.cells ⟨[ptr d]⟩ t_z50)•pts b2 (.cells ⟨[.int .i64 first]⟩ t_int)•pts b3 (.cells ⟨[.int .i64 n]⟩ t_int)•pts b4 (.cells ⟨[ptr l]⟩ t_z2h)•R) tab_ok (L:=f_z10.live) (ι:=Nat × List BytX × Option Addr × Nat) (fun i=>i.1 ≤ n ∧ i.2.1.length = i.1 ∧ i.2.1.map (·.b) = secsL X.val first i.1 ∧ ∀ s ∈ i.2.1,s.b.length = 512 ∧ s.b.length ≤ s.c ∧ Byt s.b)
  (fun i=>[(46,.int .i64 i.1),(4,.slice i.2.2.1 i.2.1.length i.2.2.2)]) (fun i=>vec t_S_uint8 1 bytx i.2.2.1 i.2.2.2 i.2.1•bigL bytc i.2.1) (fun i=>n - i.1) (0,[],none,0) ⟨by simp,rfl,rfl,fun x hx=>by cases hx⟩ (fun t v h=>h) ?_ ?_
 ·refine Imp.trans (Imp.trans Imp.drop Imp.drop) ?_
  rw [star_assoc]
  refine Imp.vnil ?_
  show Imp _ (emp•_)
  rw [emp_star]
  exact Imp.refl _
 rintro ⟨i,all,aa,ac⟩ ⟨hi,hal,hall,hsx⟩
 dsimp only at hi hal hall hsx ⊢
 rw [star_assoc]
 conv=>whnf
 by_cases h1:i < n
 ·have hrd:X.val.read (first + (i:Nat)) = (0,X.val.at (first + (i:Nat))):=by
   unfold Dev.read
   rw [if_neg (by rw [hdv];decide),if_neg (by omega)]
  have hrl:=(Dev.read_len (i:=first + (i:Nat)) hX.val (by rw [hrd])).1
  have hr1:(X.val.read (first + (i:Nat))).1 = 0:=by rw [hrd]
  have hr2:(X.val.read (first + (i:Nat))).2 = X.val.at (first + (i:Nat)):=by rw [hrd]
  rw [hr2] at hrl
  repeat' (first
   | (refine CallK.ret f_zy.ok (read_spec (X:=X) (i:=first + (i:Nat)) hX (by rw [hq];exact Nat.zero_le _)) ?_;rw [hr1,hr2];rintro v G ⟨sa,sc,hsc,rfl,rfl⟩;conv=>whnf)
   | (refine CallK.ret f_zw.ok asked_ok ?_;rintro v G ⟨rfl,rfl⟩;conv=>whnf)
   | (refine spl_dec (fun hd=>?_) (fun hd=>?_) <;> first|(exfalso;omega)|(conv=>whnf))
   | ((first|refine Ld.i ?_|refine Ar.i64 (by omega) ?_);conv=>whnf)
   | (intro blk hblk;conv=>whnf)
   | (refine OpX.app1 (xs:=all) tab_ok rfl rfl rfl rfl (⟨sa,sc,X.val.at (first + (i:Nat))⟩:BytX) rfl rfl (by omega) ⟨rfl,OneC.h⟩ (fun aa' ac'=>?_);conv=>whnf))
  obtain ⟨y,hy⟩:∃ y:BytX,y = ⟨sa,sc,X.val.at (first + (i:Nat))⟩:=⟨_,rfl⟩
  have hyc:bytc y = vec t_uint8 1 bytv sa sc (X.val.at (first + (i:Nat))):=by rw [hy];rfl
  rw [← hy]
  refine ⟨rfl,(i + 1,all ++ [y],aa',ac'),⟨h1,by simp [hal],?_,fun x hx=>?_⟩,by rw [show (all ++ [y]).length = all.length + 1 by simp];exact fun t v h=>h,?_,by dsimp only;omega⟩
  ·rw [secsL_succ,List.map_append,hall,hy];rfl
  ·rcases List.mem_append.1 hx with h|h
   ·exact hsx x h
   ·cases List.mem_singleton.1 h
    rw [hy]
    exact ⟨hrl,hsc,Dev.at_byt hX.val⟩
  ·dsimp only
   rw [bigL_snoc,hyc]
   simp only [star_assoc]
   first|exact .refl _|exact .drop|exact .fin|((repeat refine .pick ?_);first|exact .refl _|exact .emp _|exact .fin)
 ·have hin:i = n:=by omega
  subst hin
  repeat' (first
   | (refine DrawK.introK tab_ok mixed 64 f_z10.last16 f_z10.plan16 rfl (by kernel_rfl) ?_;conv=>whnf)
   | (refine spl_dec (fun hd=>?_) (fun hd=>?_) <;> first|(exfalso;omega)|(conv=>whnf))
   | (refine Ld.i ?_;conv=>whnf))
  have hsec:∀ (A Q:HProp),∀ s ∈ all,SecX W (A•bigL bytc all•Q) s:=fun A Q s hs=>by
   obtain ⟨k1,k2,k3⟩:=hsx s hs
   refine ⟨?_,k1,k2,k3⟩
   obtain ⟨R',e⟩:=bigL_mem bytc hs
   rw [e,star_assoc]
   unfold bytc
   infer_instance
  refine CallK.ret f_z2u.ok (found_spec (all:=all) (hsec _ _) (by omega)) ?_
  rintro v G ⟨oa,oc,outs,ho1,ho2,rfl,rfl⟩
  rw [hall] at ho1
  have hol:outs.length ≤ i:=by
   have h1:=congrArg List.length ho1
   rw [List.length_map] at h1
   have h2:=foundG_len (secsL X.val first i) 0
   rw [secsL_len] at h2
   omega
  conv=>whnf
  repeat' (first
   | (refine Sub.on (by first|exact .refl _|exact .drop|exact .fin|((repeat refine .pick ?_);first|exact .refl _|exact .emp _|exact .fin)) ?_;conv=>whnf))
  refine CallK.imp (H':=logo l (logB d first i none 0 [] 0)•vec t_S_uint8 1 bytx oa oc outs•vec t_S_uint8 1 bytx aa ac all•bigL bytc all•devo d X•pts b4 (.cells ⟨[ptr l]⟩ t_z2h)•R) (by first|exact .refl _|exact .drop|exact .fin|((repeat refine .pick ?_);first|exact .refl _|exact .emp _|exact .fin)) ?_
  refine CallK.any f_z21.ok (lread_spec (outs:=outs) (fun x hx=>?_) (by omega)) ?_
  ·obtain ⟨j,hj⟩:=List.getElem?_of_mem hx
   obtain ⟨s,hs1,hs2⟩:=ho2 j x hj
   have k:=(hsec (vec t_S_uint8 1 bytx aa ac all) (devo d X•pts b4 (.cells ⟨[ptr l]⟩ t_z2h)•R) s (List.mem_of_getElem? hs1)).there (Y:=vec t_S_uint8 1 bytx oa oc outs)
   refine ⟨k.sub hs2,?_,?_⟩
   ·rw [hs2.2];exact (k.byt.drop _).take _
   ·rw [hs2.2,List.length_take,List.length_drop,k.len];omega
  obtain ⟨r,hr⟩:∃ r,r = readG 0 (foundG 0 (secsL X.val first i)):=⟨_,rfl⟩
  rw [ho1,← hr]
  rw [← hr] at hT
  dsimp only at hT
  by_cases c0:r.1 = 0
  rotate_left
  ·rw [if_pos c0] at hT
   rw [if_neg c0]
   rintro en G ⟨⟨h0,_⟩|⟨h0,rfl⟩,ra,rc,recs,k1,k2,rfl⟩
   ·cases h0
   conv=>whnf
   rw [if_neg c0]
   refine ⟨_,?_,.inr ⟨?_,?_⟩,logB d first i ra rc recs 0,X,rfl,hX,?_,fun h=>?_,?_,?_,rfl⟩
   ·first|exact .refl _|exact .drop|exact .fin|((repeat refine .pick ?_);first|exact .refl _|exact .emp _|exact .fin)
   ·rw [hT];exact h0
   ·rw [hT]
   ·rw [hT,← k1];rfl
   ·rw [hT] at h;cases h
   ·rw [hT]
   ·rw [hq];exact Nat.zero_le _
  rw [if_neg (fun k=>k c0)] at hT
  rw [if_pos c0]
  rintro en G ⟨⟨h0,rfl⟩|⟨h0,_⟩,ra,rc,recs,k1,k2,rfl⟩
  rotate_left
  ·exact absurd rfl h0
  rw [if_pos c0]
  have hrl:recs.length = r.2.length:=by rw [← k1,List.length_map]
  have hrn:r.2.length ≤ i:=by
   have h1:=readG_len (foundG 0 (secsL X.val first i)) 0
   have h2:=foundG_len (secsL X.val first i) 0
   rw [secsL_len] at h2
   rw [← hr] at h1
   omega
  obtain ⟨w,hw⟩:∃ w,w = wipG first r.2.length ((secsL X.val first i).drop r.2.length) false X.val:=⟨_,rfl⟩
  rw [← hw] at hT
  have hLok:(logB d first i ra rc recs recs.length).Ok:=⟨⟨by show (0:Int) ≤ i;omega,by show (i:Int) ≤ 4096;omega⟩,k2,by show (recs.length:Int) ≤ i;omega,by dsimp only;rfl,fun x hx=>by cases hx⟩
  conv=>whnf
  repeat' (first
   | (refine Ld.i ?_;conv=>whnf))
  refine CallK.imp (H':=logo l (logB d first i ra rc recs recs.length)•devo d X•vec t_S_uint8 1 bytx aa ac all•bigL bytc all•pts b4 (.cells ⟨[ptr l]⟩ t_z2h)•R) (by first|exact .refl _|exact .drop|exact .fin|((repeat refine .pick ?_);first|exact .refl _|exact .emp _|exact .fin)) ?_
  refine CallK.any f_z1i.ok (wipe_spec (all:=all) (X:=logB d first i ra rc recs recs.length) (Y:=X) (hsec _ _) hLok hX (by rw [hq];exact Nat.zero_le _) rfl hf (by rw [hal])) ?_
  rw [hall,show wipG (logB d first i ra rc recs recs.length).first (logB d first i ra rc recs recs.length).recs.length ((secsL X.val first i).drop (logB d first i ra rc recs recs.length).recs.length) false X.val = w by rw [hw,← hrl]]
  rintro en G ⟨⟨h0,rfl⟩|⟨h0,rfl⟩,Y,y1,y2,y3,rfl⟩
  ·conv=>whnf
   refine ⟨_,?_,.inl ⟨?_,rfl⟩,logB d first i ra rc recs recs.length,Y,rfl,y1,?_,fun _=>hLok,?_,?_,rfl⟩
   ·first|exact .refl _|exact .drop|exact .fin|((repeat refine .pick ?_);first|exact .refl _|exact .emp _|exact .fin)
   ·rw [hT];exact h0
   ·rw [hT,← k1];unfold LogX.val;dsimp only;rw [List.length_map];rfl
   ·rw [hT];exact y2
   ·rw [hq] at y3;simp at y3;omega
  ·conv=>whnf
   refine ⟨_,?_,.inr ⟨?_,?_⟩,logB d first i ra rc recs recs.length,Y,rfl,y1,?_,fun _=>hLok,?_,?_,rfl⟩
   ·first|exact .refl _|exact .drop|exact .fin|((repeat refine .pick ?_);first|exact .refl _|exact .emp _|exact .fin)
   ·rw [hT];exact h0
   ·rw [hT]
   ·rw [hT,← k1];unfold LogX.val;dsimp only;rw [List.length_map];rfl
   ·rw [hT];exact y2
   ·rw [hq] at y3;simp at y3;omega
end Go.Proofs.YtbcedpankkdfoaaGreatDoor
/- The program's log.Open, walked. Conditions: in each statement. -/
namespace Go.Proofs.YtbcedpankkdfoaaGreatDoor
open Go Go.SL Go.SL.Sec Go.SL.Fld Go.SL.Pts Go.SL.Rec Go.SL.Twn
open Go.SL.Und (RecV recv fits)
theorem Does.askN {W:World} {g:FuncId} {args:Array Value} {H:HProp} {z e:Int} {P P':HProp → Prop} (h:Does prog W g args H (fun en G=>∃ G',Imp G G' ∧ AskN z e P en G')) (k:∀ G,P G → ∃ G',Imp G G' ∧ P' G'):Does prog W g args H (fun en G=>∃ G',Imp G G' ∧ AskN z e P' en G') :=
 ⟨fun w hs=>(h.run w hs).mono fun _ _ ⟨X,hx,G,hi,ha,hp⟩=>let ⟨G',hi',hp'⟩:=k G hp;⟨X,hx,G',hi.trans hi',ha,hp'⟩⟩
abbrev wOpen:ByteArray:=⟨#[79,112,101,110]⟩
theorem open_spec {W : World} {R : HProp} {d : Nat} {first : Int} {n : Nat} {X : DevX} (hX : X.Ok) (hdn : X.down = false) (hq : X.ps = []) (hf : 0 ≤ first ∧ first ≤ 8192) (hn : 1 ≤ n ∧ n ≤ 4096) (hs : first + n ≤ X.val.secs) :
    Does prog W f_log_Open ⟨[ptr d,.int .i64 first,.int .i64 n]⟩ (devo d X•R) (Ret fun v G=>∃ (L:LogX) (Y:DevX),L.d = d ∧ Y.Ok ∧ L.val = (openF X.val first n).2.1 ∧ ((openF X.val first n).1.2 = 0 → L.Ok) ∧ Y.val = (openF X.val first n).2.2 ∧ Y.ps.length ≤ n ∧
      (((openF X.val first n).1.2 = 0 ∧ ∃ l,v = .tuple ⟨[ptr l,.nilIface]⟩ ∧ G = (logo l L•devo d Y•R)) ∨ ((openF X.val first n).1.2 ≠ 0 ∧ ∃ b,v = .tuple ⟨[.pointer none,.iface t_z8 (ptr b)]⟩ ∧ G = (fltc b wOpen (openF X.val first n).1.1 (openF X.val first n).1.2•devo d Y•R)))):=by
  obtain ⟨T,hT⟩:∃ T,T = openF X.val first n:=⟨_,rfl⟩
  rw [← hT]
  refine f_log_Open.does _ _ _ ?_
  conv=>whnf
  repeat' (first
    | ((first|refine Ld.i ?_|refine St.i ⟨rfl,rfl⟩ (List.cons_ne_nil _ _) ?_);conv=>whnf)
    | (intro blk hblk;conv=>whnf))
  rename_i b1 _ b2 _ b3 _ l _
  obtain ⟨b4,hb4⟩:∃ b4,b4 = blk:=⟨_,rfl⟩
  rw [← hb4]
  refine CallK.imp (H':=logo l (logB d first n none 0 [] 0)•devo d X•pts b1 (.cells ⟨[ptr d]⟩ t_z50)•pts b2 (.cells ⟨[.int .i64 first]⟩ t_int)•pts b3 (.cells ⟨[.int .i64 n]⟩ t_int)•pts b4 (.cells ⟨[ptr l]⟩ t_z2h)•R) ?_ ?_
  · rw [logo_eq]
    refine Imp.trans (Q:=pts l (.cells ⟨[ptr d,.int .i64 first,.int .i64 n,.slice none 0 0,.slice none 0 0,i0,.nilIface]⟩ t_log_Log)•devo d X•pts b1 (.cells ⟨[ptr d]⟩ t_z50)•pts b2 (.cells ⟨[.int .i64 first]⟩ t_int)•pts b3 (.cells ⟨[.int .i64 n]⟩ t_int)•pts b4 (.cells ⟨[ptr l]⟩ t_z2h)•R) (by first|exact .refl _|exact .drop|exact .fin|((repeat refine .pick ?_);first|exact .refl _|exact .emp _|exact .fin)) (Imp.right (Imp.vnil ?_))
    show Imp _ (emp•_)
    rw [emp_star]
    refine Imp.vnil ?_
    show Imp _ (emp•emp•_)
    rw [emp_star,emp_star]
    exact Imp.refl _
  refine CallK.ret f_z2l.ok (caughtN_spec (w := wOpen) (z := T.1.1) (e := T.1.2) (P := fun G => ∃ (L : LogX) (Y : DevX), L.d = d ∧ Y.Ok ∧ L.val = T.2.1 ∧ (T.1.2 = 0 → L.Ok) ∧ Y.val = T.2.2 ∧ Y.ps.length ≤ n ∧
        G = (logo l L•devo d Y•pts b4 (.cells ⟨[ptr l]⟩ t_z2h)•R)) f_z10.ok (fun bc be=>?_)) ?_
  · refine Does.imp (H':=logo l (logB d first n none 0 [] 0)•devo d X•pts b1 (.cells ⟨[ptr d]⟩ t_z50)•pts b2 (.cells ⟨[.int .i64 first]⟩ t_int)•pts b3 (.cells ⟨[.int .i64 n]⟩ t_int)•pts b4 (.cells ⟨[ptr l]⟩ t_z2h)•pts be (.cells ⟨[.nilIface]⟩ t_error)•pts bc (.cells ⟨[.string wOpen]⟩ t_string)•R) (by first|exact .refl _|exact .drop|exact .fin|((repeat refine .pick ?_);first|exact .refl _|exact .emp _|exact .fin)) ?_
    have h:=open1_spec (W:=W) (R:=pts be (.cells ⟨[.nilIface]⟩ t_error)•pts bc (.cells ⟨[.string wOpen]⟩ t_string)•R) (b1:=b1) (b2:=b2) (b3:=b3) (b4:=b4) (d:=d) (l:=l) hX hdn hq hf hn hs
    rw [← hT] at h
    refine Does.askN h ?_
    rintro G ⟨L,Y,h1,h2,h3,h4,h5,h6,rfl⟩
    refine ⟨_,?_,_,⟨L,Y,h1,h2,h3,h4,h5,h6,rfl⟩,rfl⟩
    first|exact .refl _|exact .drop|exact .fin|((repeat refine .pick ?_);first|exact .refl _|exact .emp _|exact .fin)
  rintro v G ⟨G0,⟨L,Y,h1,h2,h3,h4,h5,h6,rfl⟩,⟨h0,rfl,rfl⟩|⟨h0,b,rfl,rfl⟩⟩
  · conv=>whnf
    repeat' (first
      | (refine Ld.i ?_;conv=>whnf))
    exact ⟨_,_,rfl,(by first|exact .refl _|exact .drop|exact .fin|((repeat refine .pick ?_);first|exact .refl _|exact .emp _|exact .fin)),L,Y,h1,h2,h3,h4,h5,h6,.inl ⟨h0,l,rfl,rfl⟩⟩
  · conv=>whnf
    skip
    exact ⟨_,_,rfl,(by first|exact .refl _|exact .drop|exact .fin|((repeat refine .pick ?_);first|exact .refl _|exact .emp _|exact .fin)),L,Y,h1,h2,h3,h4,h5,h6,.inr ⟨h0,b,rfl,rfl⟩⟩
end Go.Proofs.YtbcedpankkdfoaaGreatDoor
/- A page as bytes, in plain words: laying it down, reading it back. No condition. -/
namespace Go.SL.Pg
open Go Go.SL Go.SL.Sec Go.SL.Fld Go.SL.Rec
open Go.Proofs.YtbcedpankkdfoaaGreatDoor (zerosB)
structure PgM where
 num:Int
 lsn:Int
 C:List CntV
 G:List GrpV
 deriving DecidableEq
def PgM.no:PgM:=⟨0,0,[],[]⟩
def cntF (c:CntV):Int:=if ¬ ((1 ≤ c.id ∧ c.id ≤ 1048576) ∧ (1 ≤ c.grp ∧ c.grp ≤ 1048576)) then 23 else if c.lo > c.hi then 11 else 0
def grpF (g:GrpV):Int:=if ¬ (1 ≤ g.id ∧ g.id ≤ 1048576) then 23 else 0
def firstF {α:Type} (f:α → Int):List α → Int
 | []=>0
 | c :: l=>if f c ≠ 0 then f c else firstF f l
def contF (C:List CntV) (G:List GrpV):Int:=if firstF cntF C ≠ 0 then firstF cntF C else firstF grpF G
def PgM.fault (p:PgM):Int :=
 if ¬ (0 ≤ p.num ∧ p.num ≤ 63) then 4 else if p.C.length > 0 ∧ p.G.length > 0 then 70 else if p.C.length > 31 ∨ p.G.length > 84 then 6 else
 if ¬ (0 ≤ p.lsn ∧ p.lsn ≤ 2147483647) ∨ ¬ (p.lsn = 0 ↔ p.C.length + p.G.length = 0) then 23 else contF p.C p.G
def u64 (z:Int):Int:=z % 18446744073709551616
def s64 (z:Int):Int:=if z < 9223372036854775808 then z else z - 18446744073709551616
def In64 (z:Int):Prop:=-9223372036854775808 ≤ z ∧ z ≤ 9223372036854775807
theorem s64_u64 {z:Int} (h:In64 z):s64 (u64 z) = z:=by unfold s64 u64;unfold In64 at h;split <;> omega
theorem u64_bd (z:Int):0 ≤ u64 z ∧ u64 z < 18446744073709551616:=by unfold u64;omega
theorem s64_bd {z:Int} (h:0 ≤ z ∧ z < 18446744073709551616):In64 (s64 z):=by unfold s64 In64;split <;> omega
def CntIn (c:CntV):Prop:=In64 c.id ∧ In64 c.grp ∧ In64 c.lo ∧ In64 c.hi ∧ In64 c.val
def GrpIn (g:GrpV):Prop:=In64 g.id ∧ In64 g.sum
structure PgM.In (p:PgM):Prop where
 num:In64 p.num
 lsn:In64 p.lsn
 C:∀ c ∈ p.C,CntIn c
 G:∀ g ∈ p.G,GrpIn g
def lays:List (Nat × Int) → List Int
 | []=>[]
 | p :: l=>Fld.leB p.1 p.2 ++ lays l
def laysN:List (Nat × Int) → Nat
 | []=>0
 | p :: l=>p.1 + laysN l
theorem lays_len:∀ l:List (Nat × Int),(lays l).length = laysN l
 | []=>rfl
 | p :: l=>by rw [lays,laysN,List.length_append,leB_len,lays_len l]
theorem lays_byt:∀ l:List (Nat × Int),Byt (lays l)
 | []=>Byt.nil
 | _ :: l=>(leB_byt _ _).append (lays_byt l)
def over (b:List Int) (at_:Nat) (x:List Int):List Int:=b.take at_ ++ x ++ b.drop (at_ + x.length)
theorem over_len {b x:List Int} {at_:Nat} (h:at_ + x.length ≤ b.length):(over b at_ x).length = b.length:=by
 unfold over;rw [List.length_append,List.length_append,List.length_take,List.length_drop];omega
theorem over_nil (b:List Int) (at_:Nat):over b at_ [] = b:=by simp [over]
theorem over_over {b x y:List Int} {at_:Nat} (h:at_ + x.length ≤ b.length):over (over b at_ x) (at_ + x.length) y = over b at_ (x ++ y):=by
 unfold over
 have h1:(b.take at_ ++ x).length = at_ + x.length:=by rw [List.length_append,List.length_take];omega
 have e1:(b.take at_ ++ x ++ b.drop (at_ + x.length)).take (at_ + x.length) = b.take at_ ++ x:=by
  rw [← h1];exact List.take_left
 have e2:(b.take at_ ++ x ++ b.drop (at_ + x.length)).drop (at_ + x.length + y.length) = b.drop (at_ + (x ++ y).length):=by
  rw [← List.drop_drop,show (b.take at_ ++ x ++ b.drop (at_ + x.length)).drop (at_ + x.length) = b.drop (at_ + x.length) by rw [← h1];exact List.drop_left,List.drop_drop,List.length_append,Nat.add_assoc]
 rw [e1,e2,List.append_assoc,List.append_assoc,List.append_assoc,List.append_assoc]
theorem putB_over (b:List Int) (at_ size:Nat) (n:Int):putB b at_ size n = over b at_ (Fld.leB size n):=by
 unfold putB over;rw [leB_len]
theorem over_byt {b x:List Int} {at_:Nat} (h:Byt b) (k:Byt x):Byt (over b at_ x):=((h.take _).append k).append (h.drop _)
def cntL (c:CntV):List (Nat × Int):=[(4,u64 c.id),(4,u64 c.grp),(8,u64 c.lo),(8,u64 c.hi),(8,u64 c.val)]
def grpL (g:GrpV):List (Nat × Int):=[(4,u64 g.id),(8,u64 g.sum)]
def PgM.headL (p:PgM):List (Nat × Int):=[(1,113),(1,if p.G.length > 0 then 2 else 1),(2,u64 p.num),(2,((p.C.length + p.G.length:Nat):Int)),(2,0),(4,u64 p.lsn)]
def PgM.body (p:PgM):List Int:=(p.C.flatMap fun c=>lays (cntL c)) ++ p.G.flatMap fun g=>lays (grpL g)
def z1024:List Int:=List.replicate 1024 0
theorem z1024_eq:z1024 = List.replicate 1024 0:=rfl
theorem z1024_len:z1024.length = 1024:=List.length_replicate
theorem z1024_byt:Byt z1024:=Byt.rep 1024
def PgM.bare (p:PgM):List Int:=over (over z1024 0 (lays p.headL)) 16 p.body
def sumP (b:List Int):Int:=crcV (b.take 12 ++ [0,0,0,0] ++ b.drop 16)
def encP (p:PgM):List Int:=if p.C.length + p.G.length = 0 then z1024 else over p.bare 12 (Fld.leB 4 (sumP p.bare))
theorem flat_len {α:Type} {f:α → List Int} {m:Nat} (h:∀ x,(f x).length = m):∀ l:List α,(l.flatMap f).length = l.length * m
 | []=>by simp
 | x :: l=>by rw [List.flatMap_cons,List.length_append,h,flat_len h l,List.length_cons,Nat.succ_mul];omega
theorem flat_drop {α:Type} {f:α → List Int} {m:Nat} (h:∀ x,(f x).length = m):∀ (l:List α) (i:Nat),(l.flatMap f).drop (i * m) = (l.drop i).flatMap f
 | l,0=>by simp
 | [],i + 1=>by simp
 | x :: l,i + 1=>by
  rw [List.flatMap_cons,List.drop_succ_cons,← flat_drop h l i,show (i + 1) * m = (f x).length + i * m by rw [h,Nat.succ_mul];omega,← List.drop_drop,List.drop_left]
theorem cntL_len (c:CntV):(lays (cntL c)).length = 32:=by rw [lays_len];rfl
theorem grpL_len (g:GrpV):(lays (grpL g)).length = 12:=by rw [lays_len];rfl
theorem headL_len (p:PgM):(lays p.headL).length = 12:=by rw [lays_len];rfl
theorem flat_byt {α:Type} {f:α → List Int} (h:∀ x,Byt (f x)):∀ l:List α,Byt (l.flatMap f)
 | []=>Byt.nil
 | x :: l=>by rw [List.flatMap_cons];exact (h x).append (flat_byt h l)
theorem body_byt (p:PgM):Byt p.body:=(flat_byt (fun _=>lays_byt _) _).append (flat_byt (fun _=>lays_byt _) _)
theorem body_len (p:PgM):p.body.length = p.C.length * 32 + p.G.length * 12:=by
 unfold PgM.body;rw [List.length_append,flat_len cntL_len,flat_len grpL_len]
def cntD (b:List Int) (i:Nat):CntV:=⟨getB b (16 + i * 32) 4,getB b (16 + i * 32 + 4) 4,s64 (getB b (16 + i * 32 + 8) 8),s64 (getB b (16 + i * 32 + 16) 8),s64 (getB b (16 + i * 32 + 24) 8)⟩
def grpD (b:List Int) (i:Nat):GrpV:=⟨getB b (16 + i * 12) 4,s64 (getB b (16 + i * 12 + 4) 8)⟩
def cntsD (b:List Int) (n:Nat):List CntV:=(List.range n).map (cntD b)
def grpsD (b:List Int) (n:Nat):List GrpV:=(List.range n).map (grpD b)
def pgD (b:List Int) (number:Int):PgM :=
 if getB b 1 1 = 2 then ⟨number,getB b 8 4,[],grpsD b (getB b 4 2).toNat⟩ else ⟨number,getB b 8 4,cntsD b (getB b 4 2).toNat,[]⟩
def szD (b:List Int):Nat:=if getB b 1 1 = 2 then 12 else 32
def decP (b:List Int) (number:Int):Int × PgM :=
 if ¬ (0 ≤ number ∧ number ≤ 63) then (4,.no) else if b.length ≠ 1024 then (42,.no) else if zerosB b = true then (0,⟨number,0,[],[]⟩) else
 if getB b 0 1 ≠ 113 then (80,.no) else if getB b 1 1 ≠ 1 ∧ getB b 1 1 ≠ 2 then (70,.no) else
 if getB b 12 4 ≠ sumP b then (81,.no) else if getB b 2 2 ≠ number then (82,.no) else
 if ¬ (1 ≤ getB b 4 2 ∧ getB b 4 2 ≤ if getB b 1 1 = 2 then 84 else 31) ∨ ¬ (1 ≤ getB b 8 4 ∧ getB b 8 4 ≤ 2147483647) then (23,.no) else
 if contF (pgD b number).C (pgD b number).G ≠ 0 then (contF (pgD b number).C (pgD b number).G,.no) else
 if getB b 6 2 ≠ 0 ∨ zerosB (b.drop (16 + (getB b 4 2).toNat * szD b)) = false then (23,.no) else (0,pgD b number)
end Go.SL.Pg
