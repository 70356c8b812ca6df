/- The program's page.Decode, walked: behind the mark. Conditions: in each statement. -/
import Derived.Test.YtbcedpankkdfoaaGreatDoorPart25
import Derived.Test.YtbcedpankkdfoaaGreatDoorPart24
set_option linter.unusedVariables false
set_option linter.unusedSimpArgs false
namespace Go.Proofs.YtbcedpankkdfoaaGreatDoor
open Go Go.SL Go.SL.Sec Go.SL.Fld Go.SL.Pts Go.SL.Rec Go.SL.Pg
section
variable {W:World} {R:HProp} {a:Option Addr} {nn cap:Nat} {b:List Int} {number:Int}
set_option maxHeartbeats 4000000 in
theorem pdecode_cnt [lc:LaidC W] [lp:LaidP W] [oc:OldC W R] [ro:RowN W R a nn 1 bytv b] (hc:b.length ≤ cap) (hb:Byt b)
  (c1:0 ≤ number ∧ number ≤ 63) (c2:b.length = 1024) (hz:zerosB b = false) (c4:getB b 0 1 = 113) (kd:Int) (c5:getB b 1 1 = kd) (hkd:kd = 1) :
  Does prog W f_zc ⟨[.slice a nn cap,.int .i64 number]⟩ R (Ret fun v G=>∃ x:PgX,x.m = (decP b number).2 ∧ v = .tuple ⟨[pgv x,.int .i64 (decP b number).1]⟩ ∧ G = (pgc x•R)):=by
 have hn:=ro.len
 subst hn
 haveI:=ro.row
 haveI:=lp.h1
 haveI:=lp.c1
 haveI:=lp.gr1
 obtain ⟨T,hT⟩:∃ T,T = decP b number:=⟨_,rfl⟩
 rw [← hT]
 unfold decP at hT
 rw [if_neg (fun k=>k c1),if_neg (fun k=>k c2),if_neg (by rw [hz];decide),if_neg (fun k=>k c4),if_neg (by rw [c5,hkd];decide),c5] at hT
 obtain ⟨x0,hb0⟩:∃ x,b[0]? = some x:=⟨_,List.getElem?_eq_getElem (by omega)⟩
 obtain ⟨x1,hb1⟩:∃ x,b[1]? = some x:=⟨_,List.getElem?_eq_getElem (by omega)⟩
 rw [getB_one hb0] at c4
 have c5':=c5
 rw [getB_one hb1,hkd] at c5
 subst c4 c5
 have B2:=getB_bd hb 2 2
 have B4:=getB_bd hb 4 2
 have B6:=getB_bd hb 6 2
 have B8:=getB_bd hb 8 4
 have B12:=getB_bd hb 12 4
 have BS:0 ≤ sumP b ∧ sumP b < 4294967296:=crc_bd _
 rw [show (256:Int) ^ 2 = 65536 from by decide] at B2 B4 B6
 rw [show (256:Int) ^ 4 = 4294967296 from by decide] at B8 B12
 obtain ⟨g2,hg2⟩:∃ g,g = getB b 2 2:=⟨_,rfl⟩
 obtain ⟨g4,hg4⟩:∃ g,g = getB b 4 2:=⟨_,rfl⟩
 obtain ⟨g6,hg6⟩:∃ g,g = getB b 6 2:=⟨_,rfl⟩
 obtain ⟨g8,hg8⟩:∃ g,g = getB b 8 4:=⟨_,rfl⟩
 obtain ⟨g12,hg12⟩:∃ g,g = getB b 12 4:=⟨_,rfl⟩
 obtain ⟨sm,hsm⟩:∃ g,g = sumP b:=⟨_,rfl⟩
 have hHL:takes b 0 [1,1,2,2,2,4] = [113,1,g2,g4,g6,g8]:=by
  unfold takes takes takes takes takes takes takes
  rw [getB_one hb0,show 0 + 1 = 1 from rfl,getB_one hb1,show 1 + 1 = 2 from rfl,show 2 + 2 = 4 from rfl,show 4 + 2 = 6 from rfl,show 6 + 2 = 8 from rfl,← hg2,← hg4,← hg6,← hg8]
 rw [← hg2,← hg4,← hg6,← hg8,← hg12,← hsm] at hT
 rw [← hg2] at B2
 rw [← hg4] at B4
 rw [← hg6] at B6
 rw [← hg8] at B8
 rw [← hg12] at B12
 rw [← hsm] at BS
 have hx2:[113,1,g2,g4,g6,g8][2]? = some g2:=rfl
 have hx3:[113,1,g2,g4,g6,g8][3]? = some g4:=rfl
 have hx4:[113,1,g2,g4,g6,g8][4]? = some g6:=rfl
 have hx5:[113,1,g2,g4,g6,g8][5]? = some g8:=rfl
 refine f_zc.does _ _ ?_
 conv=>whnf
 by_cases d1:g12 = sm
 rotate_left
 ·rw [if_pos d1] at hT
  subst hT
  repeat' (first
   | (refine CallK.ret f_page_in.ok pin_spec ?_;rintro v G ⟨rfl,rfl⟩;conv=>whnf)
   | (refine CallK.ret f_zf.ok (pzeros_spec (l:=b) (by omega)) ?_;rw [hz];rintro v G ⟨rfl,rfl⟩;conv=>whnf)
   | (refine CallK.ret f_zu.ok (ptaken_spec (l:=b) (z:=0) [1,1,2,2,2,4] (rs:=⟨inferInstance,rfl⟩) rfl ⟨by omega,by simp [sumN];omega⟩ (by omega) hb hsz_ok (by decide)) ?_;rw [show Int.toNat 0 = 0 from rfl,hHL];rintro v G ⟨ta,tc,rfl,rfl⟩;conv=>whnf)
   | (refine CallK.ret f_zv.ok (get_spec (l:=b) (z:=12) (s:=4) (by omega) (by omega) (by omega) hb) ?_;rw [show Int.toNat 12 = 12 from rfl,show Int.toNat 4 = 4 from rfl,← hg12];rintro v G ⟨rfl,rfl⟩;conv=>whnf)
   | (refine CallK.ret f_zi.ok (psum_spec (l:=b) rfl c2 (by omega) hb) ?_;rw [← hsm];rintro v G ⟨rfl,rfl⟩;conv=>whnf)
   | (refine spl_ndec (fun hd=>?_) (fun hd=>?_) <;> first|(exfalso;omega)|(conv=>whnf))
   | ((first|refine Ld.i ?_|refine LdN.i ?_|refine St.i ⟨rfl,rfl⟩ (List.cons_ne_nil _ _) ?_|refine Ar.i64 (by omega) ?_|refine Ar.u64 (by omega) ?_);conv=>whnf)
   | (intro blk hblk;conv=>whnf)
   | (refine IxS.r (xs:=b) (i:=0) rfl rfl (by omega) (fun ab off ha=>?_);cases ha;conv=>whnf)
   | (refine IxS.r (xs:=b) (i:=1) rfl rfl (by omega) (fun ab off ha=>?_);cases ha;conv=>whnf)
   | ((first|refine Ld.r0 hb0 rfl ?_|refine Ld.r0 hb1 rfl ?_);conv=>whnf)
   | (refine IxS.r (xs:=[113,1,g2,g4,g6,g8]) (i:=3) rfl rfl (by simp) (fun ab off ha=>?_);cases ha;conv=>whnf)
   | (refine Ld.r0 hx3 rfl ?_;conv=>whnf))
  refine ⟨_,_,rfl,?_,pg0 0 0,rfl,rfl,rfl⟩
  refine Imp.pg0 ?_
  first|exact .refl _|exact .drop|exact .fin|((repeat refine .pick ?_);first|exact .refl _|exact .emp _|exact .fin)
 rw [if_neg (fun k=>k d1)] at hT
 by_cases d2:g2 = number
 rotate_left
 ·rw [if_pos d2] at hT
  subst hT
  repeat' (first
   | (refine CallK.ret f_page_in.ok pin_spec ?_;rintro v G ⟨rfl,rfl⟩;conv=>whnf)
   | (refine CallK.ret f_zf.ok (pzeros_spec (l:=b) (by omega)) ?_;rw [hz];rintro v G ⟨rfl,rfl⟩;conv=>whnf)
   | (refine CallK.ret f_zu.ok (ptaken_spec (l:=b) (z:=0) [1,1,2,2,2,4] (rs:=⟨inferInstance,rfl⟩) rfl ⟨by omega,by simp [sumN];omega⟩ (by omega) hb hsz_ok (by decide)) ?_;rw [show Int.toNat 0 = 0 from rfl,hHL];rintro v G ⟨ta,tc,rfl,rfl⟩;conv=>whnf)
   | (refine CallK.ret f_zv.ok (get_spec (l:=b) (z:=12) (s:=4) (by omega) (by omega) (by omega) hb) ?_;rw [show Int.toNat 12 = 12 from rfl,show Int.toNat 4 = 4 from rfl,← hg12];rintro v G ⟨rfl,rfl⟩;conv=>whnf)
   | (refine CallK.ret f_zi.ok (psum_spec (l:=b) rfl c2 (by omega) hb) ?_;rw [← hsm];rintro v G ⟨rfl,rfl⟩;conv=>whnf)
   | (refine spl_ndec (fun hd=>?_) (fun hd=>?_) <;> first|(exfalso;omega)|(conv=>whnf))
   | ((first|refine Ld.i ?_|refine LdN.i ?_|refine St.i ⟨rfl,rfl⟩ (List.cons_ne_nil _ _) ?_|refine Ar.i64 (by omega) ?_|refine Ar.u64 (by omega) ?_);conv=>whnf)
   | (intro blk hblk;conv=>whnf)
   | (refine IxS.r (xs:=b) (i:=0) rfl rfl (by omega) (fun ab off ha=>?_);cases ha;conv=>whnf)
   | (refine IxS.r (xs:=b) (i:=1) rfl rfl (by omega) (fun ab off ha=>?_);cases ha;conv=>whnf)
   | ((first|refine Ld.r0 hb0 rfl ?_|refine Ld.r0 hb1 rfl ?_);conv=>whnf)
   | (refine IxS.r (xs:=[113,1,g2,g4,g6,g8]) (i:=3) rfl rfl (by simp) (fun ab off ha=>?_);cases ha;conv=>whnf)
   | (refine IxS.r (xs:=[113,1,g2,g4,g6,g8]) (i:=2) rfl rfl (by simp) (fun ab off ha=>?_);cases ha;conv=>whnf)
   | ((first|refine Ld.r0 hx3 rfl ?_|refine Ld.r0 hx2 rfl ?_);conv=>whnf))
  refine ⟨_,_,rfl,?_,pg0 0 0,rfl,rfl,rfl⟩
  refine Imp.pg0 ?_
  first|exact .refl _|exact .drop|exact .fin|((repeat refine .pick ?_);first|exact .refl _|exact .emp _|exact .fin)
 rw [if_neg (fun k=>k d2)] at hT
 rw [hkd,show (if (1:Int) = 2 then (84:Int) else 31) = 31 from rfl] at hT
 by_cases d3:¬ (1 ≤ g4 ∧ g4 ≤ 31) ∨ ¬ (1 ≤ g8 ∧ g8 ≤ 2147483647)
 ·rw [if_pos d3] at hT
  subst hT
  repeat' (first
   | (refine CallK.ret f_page_in.ok pin_spec ?_;rintro v G ⟨rfl,rfl⟩;conv=>whnf)
   | (refine CallK.ret f_zf.ok (pzeros_spec (l:=b) (by omega)) ?_;rw [hz];rintro v G ⟨rfl,rfl⟩;conv=>whnf)
   | (refine CallK.ret f_zu.ok (ptaken_spec (l:=b) (z:=0) [1,1,2,2,2,4] (rs:=⟨inferInstance,rfl⟩) rfl ⟨by omega,by simp [sumN];omega⟩ (by omega) hb hsz_ok (by decide)) ?_;rw [show Int.toNat 0 = 0 from rfl,hHL];rintro v G ⟨ta,tc,rfl,rfl⟩;conv=>whnf)
   | (refine CallK.ret f_zv.ok (get_spec (l:=b) (z:=12) (s:=4) (by omega) (by omega) (by omega) hb) ?_;rw [show Int.toNat 12 = 12 from rfl,show Int.toNat 4 = 4 from rfl,← hg12];rintro v G ⟨rfl,rfl⟩;conv=>whnf)
   | (refine CallK.ret f_zi.ok (psum_spec (l:=b) rfl c2 (by omega) hb) ?_;rw [← hsm];rintro v G ⟨rfl,rfl⟩;conv=>whnf)
   | (refine spl_ndec (fun hd=>?_) (fun hd=>?_) <;> first|(exfalso;omega)|(conv=>whnf))
   | ((first|refine Ld.i ?_|refine LdN.i ?_|refine St.i ⟨rfl,rfl⟩ (List.cons_ne_nil _ _) ?_|refine Ar.i64 (by omega) ?_|refine Ar.u64 (by omega) ?_);conv=>whnf)
   | (intro blk hblk;conv=>whnf)
   | (refine IxS.r (xs:=b) (i:=0) rfl rfl (by omega) (fun ab off ha=>?_);cases ha;conv=>whnf)
   | (refine IxS.r (xs:=b) (i:=1) rfl rfl (by omega) (fun ab off ha=>?_);cases ha;conv=>whnf)
   | ((first|refine Ld.r0 hb0 rfl ?_|refine Ld.r0 hb1 rfl ?_);conv=>whnf)
   | (refine IxS.r (xs:=[113,1,g2,g4,g6,g8]) (i:=3) rfl rfl (by simp) (fun ab off ha=>?_);cases ha;conv=>whnf)
   | (refine IxS.r (xs:=[113,1,g2,g4,g6,g8]) (i:=2) rfl rfl (by simp) (fun ab off ha=>?_);cases ha;conv=>whnf)
   | (refine IxS.r (xs:=[113,1,g2,g4,g6,g8]) (i:=5) rfl rfl (by simp) (fun ab off ha=>?_);cases ha;conv=>whnf)
   | ((first|refine Ld.r0 hx3 rfl ?_|refine Ld.r0 hx2 rfl ?_|refine Ld.r0 hx5 rfl ?_);conv=>whnf))
  all_goals
   refine ⟨_,_,rfl,?_,pg0 0 0,rfl,rfl,rfl⟩
   refine Imp.pg0 ?_
   first|exact .refl _|exact .drop|exact .fin|((repeat refine .pick ?_);first|exact .refl _|exact .emp _|exact .fin)
 rw [if_neg d3] at hT
 repeat' (first
  | (refine CallK.ret f_page_in.ok pin_spec ?_;rintro v G ⟨rfl,rfl⟩;conv=>whnf)
  | (refine CallK.ret f_zf.ok (pzeros_spec (l:=b) (by omega)) ?_;rw [hz];rintro v G ⟨rfl,rfl⟩;conv=>whnf)
  | (refine CallK.ret f_zu.ok (ptaken_spec (l:=b) (z:=0) [1,1,2,2,2,4] (rs:=⟨inferInstance,rfl⟩) rfl ⟨by omega,by simp [sumN];omega⟩ (by omega) hb hsz_ok (by decide)) ?_;rw [show Int.toNat 0 = 0 from rfl,hHL];rintro v G ⟨ta,tc,rfl,rfl⟩;conv=>whnf)
  | (refine CallK.ret f_zv.ok (get_spec (l:=b) (z:=12) (s:=4) (by omega) (by omega) (by omega) hb) ?_;rw [show Int.toNat 12 = 12 from rfl,show Int.toNat 4 = 4 from rfl,← hg12];rintro v G ⟨rfl,rfl⟩;conv=>whnf)
  | (refine CallK.ret f_zi.ok (psum_spec (l:=b) rfl c2 (by omega) hb) ?_;rw [← hsm];rintro v G ⟨rfl,rfl⟩;conv=>whnf)
  | (refine spl_ndec (fun hd=>?_) (fun hd=>?_) <;> first|(exfalso;omega)|(conv=>whnf))
  | ((first|refine Ld.i ?_|refine St.i ⟨rfl,rfl⟩ (List.cons_ne_nil _ _) ?_|refine Ar.i64 (by omega) ?_|refine Ar.u64 (by omega) ?_);conv=>whnf)
  | (intro blk hblk;conv=>whnf)
  | (refine IxS.r (xs:=b) (i:=0) rfl rfl (by omega) (fun ab off ha=>?_);cases ha;conv=>whnf)
  | (refine IxS.r (xs:=b) (i:=1) rfl rfl (by omega) (fun ab off ha=>?_);cases ha;conv=>whnf)
  | ((first|refine Ld.r0 hb0 rfl ?_|refine Ld.r0 hb1 rfl ?_);conv=>whnf)
  | (refine IxS.r (xs:=[113,1,g2,g4,g6,g8]) (i:=3) rfl rfl (by simp) (fun ab off ha=>?_);cases ha;conv=>whnf)
  | (refine IxS.r (xs:=[113,1,g2,g4,g6,g8]) (i:=2) rfl rfl (by simp) (fun ab off ha=>?_);cases ha;conv=>whnf)
  | (refine IxS.r (xs:=[113,1,g2,g4,g6,g8]) (i:=5) rfl rfl (by simp) (fun ab off ha=>?_);cases ha;conv=>whnf)
  | ((first|refine Ld.r0 hx3 rfl ?_|refine Ld.r0 hx2 rfl ?_|refine Ld.r0 hx5 rfl ?_);conv=>whnf))
 obtain ⟨n,hn4⟩:∃ n:Nat,g4 = n:=⟨g4.toNat,by omega⟩
 subst hn4
 have hns:n ≤ 31 ∧ 16 + n * 32 ≤ 1024:=by omega
 refine LoopK.at tab_ok (L:=f_zc.live) (ι:=Nat × Option Addr × Nat) (fun i=>i.1 ≤ n) (fun i=>[(102,.int .i64 i.1)]) (fun i=>pts blk (.cells ⟨[.int .i64 number,.int .i64 g8,.slice i.2.1 (cntsD b i.1).length i.2.2,.slice none 0 0]⟩ t_page_Page)•vec t_api_Counter 5 cntv i.2.1 i.2.2 (cntsD b i.1)) (fun i=>n - i.1) (0,none,0) (Nat.zero_le _) (fun t v h=>h) (by show Imp _ ((pts blk (.cells ⟨[.int .i64 number,.int .i64 g8,.slice none 0 0,.slice none 0 0]⟩ t_page_Page)•vec t_api_Counter 5 cntv none 0 [])•_);rw [star_assoc];exact Imp.pick (Imp.vnil (Imp.refl _))) ?_
 rintro ⟨i,oa,oc⟩ hi
 dsimp only at hi ⊢
 rw [star_assoc]
 conv=>whnf
 have hil:=cntsD_len b i
 by_cases k1:i < n
 ·have y0b:=getB_bd hb (16 + i * 32) 4
  have y1b:=getB_bd hb (16 + i * 32 + 4) 4
  have y2b:=getB_bd hb (16 + i * 32 + 8) 8
  have y3b:=getB_bd hb (16 + i * 32 + 16) 8
  have y4b:=getB_bd hb (16 + i * 32 + 24) 8
  rw [show (256:Int) ^ 4 = 4294967296 from by decide] at y0b y1b
  rw [show (256:Int) ^ 8 = 18446744073709551616 from by decide] at y2b y3b y4b
  have hgd:cntsD b (i + 1) = cntsD b i ++ [⟨getB b (16 + i * 32) 4,getB b (16 + i * 32 + 4) 4,s64 (getB b (16 + i * 32 + 8) 8),s64 (getB b (16 + i * 32 + 16) 8),s64 (getB b (16 + i * 32 + 24) 8)⟩]:=cntsD_succ b i
  obtain ⟨y0,hy0⟩:∃ y,y = getB b (16 + i * 32) 4:=⟨_,rfl⟩
  obtain ⟨y1,hy1⟩:∃ y,y = getB b (16 + i * 32 + 4) 4:=⟨_,rfl⟩
  obtain ⟨y2,hy2⟩:∃ y,y = getB b (16 + i * 32 + 8) 8:=⟨_,rfl⟩
  obtain ⟨y3,hy3⟩:∃ y,y = getB b (16 + i * 32 + 16) 8:=⟨_,rfl⟩
  obtain ⟨y4,hy4⟩:∃ y,y = getB b (16 + i * 32 + 24) 8:=⟨_,rfl⟩
  have hTK:takes b (16 + (i:Int) * 32).toNat [4,4,8,8,8] = [y0,y1,y2,y3,y4]:=by
   rw [show (16 + (i:Int) * 32).toNat = 16 + i * 32 by omega]
   unfold takes takes takes takes takes takes
   rw [hy0,hy1,hy2,hy3,hy4]
  rw [← hy0,← hy1,← hy2,← hy3,← hy4,← s64_wrap (by rw [hy2];exact y2b),← s64_wrap (by rw [hy3];exact y3b),← s64_wrap (by rw [hy4];exact y4b)] at hgd
  rw [← hy0] at y0b
  rw [← hy1] at y1b
  clear y2b y3b y4b
  have hw0:[y0,y1,y2,y3,y4][0]? = some y0:=rfl
  have hw1:[y0,y1,y2,y3,y4][1]? = some y1:=rfl
  have hw2:[y0,y1,y2,y3,y4][2]? = some y2:=rfl
  have hw3:[y0,y1,y2,y3,y4][3]? = some y3:=rfl
  have hw4:[y0,y1,y2,y3,y4][4]? = some y4:=rfl
  repeat' (first
   | (refine CallK.ret f_zu.ok (ptaken_spec (l:=b) (z:=16 + (i:Int) * 32) [4,4,8,8,8] (rs:=⟨inferInstance,rfl⟩) rfl ⟨by omega,by simp [sumN];omega⟩ (by omega) hb csz_ok (by decide)) ?_;rw [hTK];rintro v G ⟨ua,uc,rfl,rfl⟩;conv=>whnf)
   | (refine Ar.i64 (by omega) ?_;conv=>whnf)
   | (refine spl_dec (fun hd=>?_) (fun hd=>?_) <;> first|(exfalso;omega)|(conv=>whnf))
   | ((first|refine Ld.i ?_|refine St.i ⟨rfl,rfl⟩ (List.cons_ne_nil _ _) ?_);conv=>whnf)
   | (intro blk hblk;conv=>whnf)
   | (refine IxS.r (xs:=b) (i:=1) rfl rfl (by omega) (fun ab off ha=>?_);cases ha;conv=>whnf)
   | (refine Ld.r0 hb1 rfl ?_;conv=>whnf)
   | (refine IxS.r (xs:=[y0,y1,y2,y3,y4]) (i:=0) rfl rfl (by simp) (fun ab off ha=>?_);cases ha;conv=>whnf)
   | (refine IxS.r (xs:=[y0,y1,y2,y3,y4]) (i:=1) rfl rfl (by simp) (fun ab off ha=>?_);cases ha;conv=>whnf)
   | (refine IxS.r (xs:=[y0,y1,y2,y3,y4]) (i:=2) rfl rfl (by simp) (fun ab off ha=>?_);cases ha;conv=>whnf)
   | (refine IxS.r (xs:=[y0,y1,y2,y3,y4]) (i:=3) rfl rfl (by simp) (fun ab off ha=>?_);cases ha;conv=>whnf)
   | (refine IxS.r (xs:=[y0,y1,y2,y3,y4]) (i:=4) rfl rfl (by simp) (fun ab off ha=>?_);cases ha;conv=>whnf)
   | ((first|refine Ld.r0 hw0 rfl ?_|refine Ld.r0 hw1 rfl ?_|refine Ld.r0 hw2 rfl ?_|refine Ld.r0 hw3 rfl ?_|refine Ld.r0 hw4 rfl ?_|refine Ar.i64w ?_);conv=>whnf)
   | (refine OpX.app1g (xs:=cntsD b i) tab_ok rfl rfl rfl rfl rfl rfl (by omega) (fun a' c'=>?_);conv=>whnf)
   | (refine Sub.on (by first|exact .refl _|exact .drop|exact .fin|((repeat refine .pick ?_);first|exact .refl _|exact .emp _|exact .fin)) ?_;conv=>whnf)
   | (refine DrawK.introH tab_ok mixed 137 f_zc.last31 f_zc.plan31 _ rfl (by kernel_rfl) (Sub.of (by first|exact .refl _|exact .drop|exact .fin|((repeat refine .pick ?_);first|exact .refl _|exact .emp _|exact .fin))) ?_;conv=>whnf))
  refine ⟨rfl,(i + 1,a',c'),k1,fun t v h=>h,?_,by dsimp only;omega⟩
  dsimp only
  rw [star_assoc,hgd]
  first|exact .refl _|exact .drop|exact .fin|((repeat refine .pick ?_);first|exact .refl _|exact .emp _|exact .fin)
 ·have hin:i = n:=by omega
  subst hin
  obtain ⟨GL,hGL⟩:∃ G,G = cntsD b i:=⟨_,rfl⟩
  have hpg:pgD b number = ⟨number,g8,GL,[]⟩:=by unfold pgD;rw [c5',hkd,if_neg (by decide),← hg8,← hg4,Int.toNat_natCast,hGL]
  have hsz:szD b = 32:=by unfold szD;rw [c5',hkd];rfl
  rw [hpg,hsz,Int.toNat_natCast] at hT
  dsimp only at hT
  rw [← hGL] at hil ⊢
  obtain ⟨cf,hcf⟩:∃ c,c = contF GL []:=⟨_,rfl⟩
  obtain ⟨zz,hzz⟩:∃ z,z = zerosB (b.drop (16 + i * 32)):=⟨_,rfl⟩
  rw [← hcf,← hzz] at hT
  by_cases e1:cf = 0
  rotate_left
  ·rw [if_pos e1] at hT
   subst hT
   repeat' (first
    | (refine CallK.ret f_zp.ok (contents_spec (C:=GL) (G:=[]) (rg:=⟨RowC.nil,rfl⟩) (by omega) (by simp)) ?_;rw [← hcf];rintro v G ⟨rfl,rfl⟩;conv=>whnf)
    | (refine spl_dec (fun hd=>?_) (fun hd=>?_) <;> first|(exfalso;omega)|(conv=>whnf))
    | (refine spl_ndec (fun hd=>?_) (fun hd=>?_) <;> first|(exfalso;omega)|(conv=>whnf))
    | ((first|refine LdN.i ?_|refine St.i ⟨rfl,rfl⟩ (List.cons_ne_nil _ _) ?_);conv=>whnf))
   refine ⟨_,_,rfl,?_,pg0 0 0,rfl,rfl,rfl⟩
   refine Imp.pg0 ?_
   first|exact .refl _|exact .drop|exact .fin|((repeat refine .pick ?_);first|exact .refl _|exact .emp _|exact .fin)
  rw [if_neg (fun k=>k e1)] at hT
  by_cases e2:g6 = 0
  rotate_left
  ·rw [if_pos (.inl e2)] at hT
   subst hT
   repeat' (first
    | (refine CallK.ret f_zp.ok (contents_spec (C:=GL) (G:=[]) (rg:=⟨RowC.nil,rfl⟩) (by omega) (by simp)) ?_;rw [← hcf];rintro v G ⟨rfl,rfl⟩;conv=>whnf)
    | (refine spl_dec (fun hd=>?_) (fun hd=>?_) <;> first|(exfalso;omega)|(conv=>whnf))
    | (refine spl_ndec (fun hd=>?_) (fun hd=>?_) <;> first|(exfalso;omega)|(conv=>whnf))
    | ((first|refine LdN.i ?_|refine St.i ⟨rfl,rfl⟩ (List.cons_ne_nil _ _) ?_);conv=>whnf)
    | (refine IxS.r (xs:=[113,1,g2,(i:Int),g6,g8]) (i:=4) rfl rfl (by simp) (fun ab off ha=>?_);cases ha;conv=>whnf)
    | (refine Ld.r0 hx4 rfl ?_;conv=>whnf))
   refine ⟨_,_,rfl,?_,pg0 0 0,rfl,rfl,rfl⟩
   refine Imp.pg0 ?_
   first|exact .refl _|exact .drop|exact .fin|((repeat refine .pick ?_);first|exact .refl _|exact .emp _|exact .fin)
  cases zz with
  | false =>
   rw [if_pos (.inr rfl)] at hT
   subst hT
   repeat' (first
    | (refine CallK.ret f_zp.ok (contents_spec (C:=GL) (G:=[]) (rg:=⟨RowC.nil,rfl⟩) (by omega) (by simp)) ?_;rw [← hcf];rintro v G ⟨rfl,rfl⟩;conv=>whnf)
    | (refine CallK.ret f_zf.ok (pzeros_spec (l:=b.drop (16 + i * 32)) (ro:=⟨RowC.drop (16 + i * 32) cap hc inferInstance,by rw [List.length_drop]⟩) (by rw [List.length_drop];omega)) ?_;rw [← hzz];rintro v G ⟨rfl,rfl⟩;conv=>whnf)
    | (refine spl_dec (fun hd=>?_) (fun hd=>?_) <;> first|(exfalso;omega)|(conv=>whnf))
    | (refine spl_ndec (fun hd=>?_) (fun hd=>?_) <;> first|(exfalso;omega)|(conv=>whnf))
    | ((first|refine LdN.i ?_|refine St.i ⟨rfl,rfl⟩ (List.cons_ne_nil _ _) ?_|refine Ar.i64 (by omega) ?_);conv=>whnf)
    | (refine IxS.r (xs:=[113,1,g2,(i:Int),g6,g8]) (i:=4) rfl rfl (by simp) (fun ab off ha=>?_);cases ha;conv=>whnf)
    | (refine Ld.r0 hx4 rfl ?_;conv=>whnf)
    | (refine OpX.of_quiet (OpQ.slr tab_ok (16 + i * 32) rfl rfl rfl rfl (by omega) (by omega) ?_);conv=>whnf))
   refine ⟨_,_,rfl,?_,pg0 0 0,rfl,rfl,rfl⟩
   refine Imp.pg0 ?_
   first|exact .refl _|exact .drop|exact .fin|((repeat refine .pick ?_);first|exact .refl _|exact .emp _|exact .fin)
  | true =>
   rw [if_neg (by rw [e2];decide)] at hT
   subst hT
   repeat' (first
    | (refine CallK.ret f_zp.ok (contents_spec (C:=GL) (G:=[]) (rg:=⟨RowC.nil,rfl⟩) (by omega) (by simp)) ?_;rw [← hcf];rintro v G ⟨rfl,rfl⟩;conv=>whnf)
    | (refine CallK.ret f_zf.ok (pzeros_spec (l:=b.drop (16 + i * 32)) (ro:=⟨RowC.drop (16 + i * 32) cap hc inferInstance,by rw [List.length_drop]⟩) (by rw [List.length_drop];omega)) ?_;rw [← hzz];rintro v G ⟨rfl,rfl⟩;conv=>whnf)
    | (refine spl_dec (fun hd=>?_) (fun hd=>?_) <;> first|(exfalso;omega)|(conv=>whnf))
    | (refine spl_ndec (fun hd=>?_) (fun hd=>?_) <;> first|(exfalso;omega)|(conv=>whnf))
    | ((first|refine LdN.i ?_|refine St.i ⟨rfl,rfl⟩ (List.cons_ne_nil _ _) ?_|refine Ar.i64 (by omega) ?_);conv=>whnf)
    | (refine IxS.r (xs:=[113,1,g2,(i:Int),g6,g8]) (i:=4) rfl rfl (by simp) (fun ab off ha=>?_);cases ha;conv=>whnf)
    | (refine Ld.r0 hx4 rfl ?_;conv=>whnf)
    | (refine OpX.of_quiet (OpQ.slr tab_ok (16 + i * 32) rfl rfl rfl rfl (by omega) (by omega) ?_);conv=>whnf))
   refine ⟨_,_,rfl,?_,⟨⟨number,g8,GL,[]⟩,oa,oc,none,0⟩,rfl,rfl,rfl⟩
   refine Imp.trans (Q:=vec t_api_Counter 5 cntv oa oc GL•R) (by first|exact .refl _|exact .drop|exact .fin|((repeat refine .pick ?_);first|exact .refl _|exact .emp _|exact .fin)) ?_
   rw [pgc_eq]
   exact Imp.right (Imp.vnil (Imp.refl _))
end
end Go.Proofs.YtbcedpankkdfoaaGreatDoor
/- The program's page.Decode in one piece. Conditions: in each statement. -/
namespace Go.Proofs.YtbcedpankkdfoaaGreatDoor
open Go Go.SL Go.SL.Sec Go.SL.Fld Go.SL.Pts Go.SL.Rec Go.SL.Pg
theorem pdecode_spec {W:World} {R:HProp} {a:Option Addr} {nn cap:Nat} {b:List Int} {number:Int} [lc:LaidC W] [lp:LaidP W] [oc:OldC W R] (ro:RowN W R a nn 1 bytv b) (hc:b.length ≤ cap) (hl:b.length ≤ 16777216) (hb:Byt b) :
  Does prog W f_zc ⟨[.slice a nn cap,.int .i64 number]⟩ R (Ret fun v G=>∃ x:PgX,x.m = (decP b number).2 ∧ v = .tuple ⟨[pgv x,.int .i64 (decP b number).1]⟩ ∧ G = (pgc x•R)):=by
 by_cases c1:0 ≤ number ∧ number ≤ 63
 rotate_left
 ·exact pdecode_early hc hl hb (.inl c1)
 by_cases c2:b.length = 1024
 rotate_left
 ·exact pdecode_early hc hl hb (.inr (.inl c2))
 by_cases c3:zerosB b = true
 ·exact pdecode_early hc hl hb (.inr (.inr (.inl c3)))
 have c3':zerosB b = false:=by simpa using c3
 by_cases c4:getB b 0 1 = 113
 rotate_left
 ·exact pdecode_early hc hl hb (.inr (.inr (.inr (.inl c4))))
 by_cases c5:getB b 1 1 = 1
 ·exact pdecode_cnt hc hb c1 c2 c3' c4 1 c5 rfl
 by_cases c6:getB b 1 1 = 2
 ·exact pdecode_late hc hb c1 c2 c3' c4 2 c6 rfl
 exact pdecode_early hc hl hb (.inr (.inr (.inr (.inr ⟨c5,c6⟩))))
end Go.Proofs.YtbcedpankkdfoaaGreatDoor
/- The program's pool: a page's frame; walked. Conditions: in each statement. -/
namespace Go.SL.Pool
open Go Go.SL Go.SL.Sec Go.SL.Fld Go.SL.Rec Go.SL.Twn Go.SL.Pg Go.SL.Mst
theorem write_P (S:Sto) (n:Int) (f:FrM):(S.write n f).2.P = S.P ∨ (S.write n f).2.P = S.P.gone ∨ (S.write n f).2.P = S.P.put n { f with dirty:=false,since:=0 }:=by
 unfold Sto.write
 split
 ·exact .inl rfl
 dsimp only
 split
 ·unfold Sto.seen
  split
  ·exact .inr (.inl rfl)
  ·exact .inl rfl
 split
 ·unfold Sto.seen
  split
  ·exact .inr (.inl rfl)
  ·exact .inl rfl
 ·exact .inr (.inr rfl)
theorem leave_P {S:Sto} {o n:Int} {f:FrM} (hf:S.P.held.lookup o = some f) (hn:S.P.held.lookup n = none):(S.leave o f).2.P.held.lookup n = none ∧ (S.leave o f).2.P.pages = S.P.pages:=by
 have hne:n ≠ o:=fun e=>by rw [e,hf] at hn;cases hn
 have hw:(S.write o f).2.P.held.lookup n = none ∧ (S.write o f).2.P.pages = S.P.pages:=by
  rcases write_P S o f with h|h|h
  ·rw [h];exact ⟨hn,rfl⟩
  ·rw [h];exact ⟨rfl,rfl⟩
  ·rw [h]
   refine ⟨?_,rfl⟩
   show (updKV o _ S.P.held).lookup n = none
   rw [updKV_lookup,if_neg hne];exact hn
 unfold Sto.leave
 split
 ·exact hw
 ·refine ⟨?_,hw.2⟩
  show (delKV o _).lookup n = none
  rw [delKV_lookup,if_neg hne];exact hw.1
end Go.SL.Pool
namespace Go.Proofs.YtbcedpankkdfoaaGreatDoor
open Go Go.SL Go.SL.Sec Go.SL.Fld Go.SL.Pts Go.SL.Rec Go.SL.Twn Go.SL.Pg Go.SL.Mst Go.SL.Pool
def GetQ (p:Nat) (n:Int) (S:StoX) (T:Int × Sto) (R:HProp) (v:Value) (G:HProp):Prop:=∃ S':StoX,S'.Ok ∧ S.Same S' ∧ S'.val = T.2 ∧ G = (stoo p S'•R) ∧
 ((T.1 = 0 ∧ ∃ f,S'.P.held.lookup n = some f ∧ v = .tuple ⟨[ptr f.b,i0]⟩) ∨ (T.1 ≠ 0 ∧ v = .tuple ⟨[.pointer none,.int .i64 T.1]⟩))
set_option maxHeartbeats 2000000 in
theorem pget0_spec {W:World} {R:HProp} {p:Nat} {S:StoX} {n:Int} [le:LaidE W] [lc:LaidC W] [lp:LaidP W] [oc:OldC W R] (hS:S.Ok) (hc:0 ≤ S.P.clock ∧ S.P.clock ≤ 1000000000) :
  Does prog W f_z17 ⟨[ptr p,.int .i64 n]⟩ (stoo p S•R) (Ret (GetQ p n S (S.val.get n) R)):=by
 have hnd:=hS.nd
 have hok:=(hS.val.get n).1
 obtain ⟨T,hT⟩:∃ T,T = S.val.get n:=⟨_,rfl⟩
 rw [← hT] at hok ⊢
 unfold Sto.get at hT
 have epl:S.val.P = S.P.val:=rfl
 rw [epl] at hT
 obtain ⟨pl,hpl⟩:∃ e,e = S.P.val.place n:=⟨_,rfl⟩
 rw [← hpl] at hT
 rw [stoo_eq]
 refine f_z17.does _ _ ?_
 conv=>whnf
 by_cases c1:pl = 0
 rotate_left
 ·rw [if_pos c1] at hT
  subst hT
  repeat' (first
   | (refine CallK.ret f_zo.ok (pplace_spec (X:=S.P)) ?_;rw [← hpl];rintro v G ⟨rfl,rfl⟩;conv=>whnf)
   | (rw [decide_eq_false c1];conv=>whnf))
  exact ⟨_,_,rfl,Imp.refl _,S,hS,.refl S,rfl,(stoo_eq p S R).symm,.inr ⟨c1,rfl⟩⟩
 rw [if_neg (fun k=>k c1)] at hT
 have hn:0 ≤ n ∧ n < S.P.pages:=by
  rw [c1] at hpl
  unfold PoolM.place at hpl
  split at hpl
  ·cases hpl
  ·split at hpl
   ·cases hpl
   ·rename_i k
    have:S.P.val.pages = S.P.pages:=rfl
    omega
 cases hlk:S.P.held.lookup n with
 | some f =>
  rw [look_val hlk] at hT
  dsimp only at hT
  subst hT
  repeat' (first
   | (refine CallK.ret f_zo.ok (pplace_spec (X:=S.P)) ?_;rw [← hpl,c1];rintro v G ⟨rfl,rfl⟩;conv=>whnf)
   | (refine CallK.ret f_z2c.ok (puse_spec hnd hlk (by omega)) ?_;rintro v G ⟨rfl,rfl⟩;conv=>whnf)
   | ((first|refine Ld.i ?_|refine OpX.lks tab_ok hlk rfl rfl rfl rfl rfl ?_);conv=>whnf))
  have hv:(⟨S.P.use n f,S.L,S.D⟩:StoX).val = { S.val with P:=S.P.val.use n f.val }:=by unfold StoX.val;dsimp only;rw [use_val]
  exact ⟨_,_,rfl,Imp.refl _,⟨S.P.use n f,S.L,S.D⟩,⟨by rw [hv];exact hok,hS.L,hS.D,hS.ld⟩,⟨rfl,rfl⟩,hv,(stoo_eq p ⟨S.P.use n f,S.L,S.D⟩ R).symm,.inl ⟨rfl,_,(updKV_lookup n _ n S.P.held).trans (if_pos rfl),rfl⟩⟩
 | none =>
 rw [look_none hlk] at hT
 dsimp only at hT
 have hfr:S.P.val.frames = S.P.frames:=rfl
 have hhl:S.P.val.held.length = S.P.held.length:=mapv_length _ _
 rw [hfr,hhl] at hT
 have hus:∀ n m f g,S.P.held.lookup n = some f → S.P.held.lookup m = some g → f.used = g.used → n = m:=fun n m f g h1 h2 h3=>hS.val.us n m f.val g.val (look_val h1) (look_val h2) h3
 by_cases c2:(S.P.held.length:Int) ≥ S.P.frames
 ·rw [if_pos c2] at hT
  cases ho:oldest S.P.val.held with
  | none =>
   rw [ho] at hT
   dsimp only at hT
   subst hT
   repeat' (first
    | (refine CallK.ret f_zo.ok (pplace_spec (X:=S.P)) ?_;rw [← hpl,c1];rintro v G ⟨rfl,rfl⟩;conv=>whnf)
    | (refine CallK.ret f_zm.ok (poldest_spec hnd hus) ?_;rw [ho];rintro v G ⟨rfl,rfl⟩;conv=>whnf)
    | (refine spl_dec (fun hd=>?_) (fun hd=>?_) <;> first|(exfalso;omega)|(conv=>whnf))
    | (refine Ld.i ?_;conv=>whnf)
    | (refine OpX.of_quiet (OpQ.lkZ tab_ok (MapC.at' (inferInstance:MapC _ S.P.r .i64 (mapv fptr S.P.held) _)) ((mapv_lookup fptr n S.P.held).trans (by rw [hlk];rfl)) rfl rfl rfl rfl rfl ?_);conv=>whnf)
    | (refine OpQ.lm tab_ok rfl rfl ?_;rw [mapv_length];conv=>whnf)
    | (refine DrawK.introH tab_ok mixed 36 f_z17.last8 f_z17.plan8 _ rfl (by kernel_rfl) (Sub.of (by first|exact .refl _|exact .drop|exact .fin|((repeat refine .pick ?_);first|exact .refl _|exact .emp _|exact .fin))) ?_;conv=>whnf))
   exact ⟨_,_,rfl,Imp.refl _,S,hS,.refl S,rfl,(stoo_eq p S R).symm,.inr ⟨(show (6:Int) ≠ 0 by decide),rfl⟩⟩
  | some o =>
   rw [ho] at hT
   dsimp only at hT
   have hom:S.P.val.held.lookup o.1 = some o.2:=lookup_of_mem o.1 o.2 _ hS.val.nd (oldest_mem ho)
   obtain ⟨fo,hfo,hfv⟩:∃ fo,S.P.held.lookup o.1 = some fo ∧ fo.val = o.2:=by
    have h1:(mapv FrX.val S.P.held).lookup o.1 = some o.2:=hom
    rw [mapv_lookup] at h1
    exact Option.map_eq_some_iff.1 h1
   have hlv:=hS.val.leave hom
   rw [← hfv] at hT hlv
   obtain ⟨T1,hT1⟩:∃ T1,T1 = S.val.leave o.1 fo.val:=⟨_,rfl⟩
   rw [← hT1] at hT hlv
   repeat' (first
    | (refine CallK.ret f_zo.ok (pplace_spec (X:=S.P)) ?_;rw [← hpl,c1];rintro v G ⟨rfl,rfl⟩;conv=>whnf)
    | (refine CallK.ret f_zm.ok (poldest_spec hnd hus) ?_;rw [ho];rintro v G ⟨rfl,rfl⟩;conv=>whnf)
    | (refine spl_dec (fun hd=>?_) (fun hd=>?_) <;> first|(exfalso;omega)|(conv=>whnf))
    | (refine Ld.i ?_;conv=>whnf)
    | (refine OpX.of_quiet (OpQ.lkZ tab_ok (MapC.at' (inferInstance:MapC _ S.P.r .i64 (mapv fptr S.P.held) _)) ((mapv_lookup fptr n S.P.held).trans (by rw [hlk];rfl)) rfl rfl rfl rfl rfl ?_);conv=>whnf)
    | (refine OpQ.lm tab_ok rfl rfl ?_;rw [mapv_length];conv=>whnf)
    | (refine DrawK.introH tab_ok mixed 36 f_z17.last8 f_z17.plan8 _ rfl (by kernel_rfl) (Sub.of (by first|exact .refl _|exact .drop|exact .fin|((repeat refine .pick ?_);first|exact .refl _|exact .emp _|exact .fin))) ?_;conv=>whnf))
   rw [← stoo_eq]
   refine CallK.ret f_z3r.ok (pleave_spec hS hfo) ?_
   rw [← hT1]
   rintro v G ⟨S1,hS1,hs1,hv1,rfl,rfl⟩
   by_cases e0:T1.1 = 0
   rotate_left
   ·rw [if_pos e0] at hT
    subst hT
    conv=>whnf
    repeat' (first
     | (refine spl_ndec (fun hd=>?_) (fun hd=>?_) <;> first|(exfalso;omega)|(conv=>whnf)))
    exact ⟨_,_,rfl,Imp.refl _,S1,hS1,hs1,hv1,rfl,.inr ⟨e0,rfl⟩⟩
   rw [if_neg (fun k=>k e0)] at hT
   rw [e0,stoo_eq]
   have hlp:=leave_P (S:=S.val) (n:=n) (look_val hfo) (look_none hlk)
   have hT1':S.val.leave o.1 fo.val = T1:=hT1.symm
   rw [hT1',← hv1] at hlp
   have hno:S1.P.held.lookup n = none:=by
    have h1:(mapv FrX.val S1.P.held).lookup n = none:=hlp.1
    rw [mapv_lookup] at h1
    exact Option.map_eq_none_iff.1 h1
   have hc1:0 ≤ S1.P.clock ∧ S1.P.clock ≤ 1000000000:=by
    have h1:=hlv.2.2
    rw [← hv1] at h1
    have h2:S1.val.P.clock = S1.P.clock:=rfl
    have h3:S.val.P.clock = S.P.clock:=rfl
    omega
   have hp1:S1.P.pages = S.P.pages:=hlp.2
   rw [← hv1] at hT
   have hn1:0 ≤ n ∧ n < S1.P.pages:=by rw [hp1];exact hn
   conv=>whnf
   have hmP:MayP S1.P.pages S1.P.log S1.P.frames:=hS1.val.may
   have hpg:=hS1.val.page (n:=n) hn1
   have hpg':0 ≤ 5 + 2 * n ∧ 5 + 2 * n + 2 ≤ S1.D.val.secs:=by have:S1.val.D = S1.D.val:=rfl;rw [this] at hpg;omega
   unfold Sto.load at hT
   rw [show S1.val.D.down = S1.D.down from rfl] at hT
   cases hdn:S1.D.down with
   | true =>
    rw [hdn,if_pos rfl] at hT
    subst hT
    repeat' (first
     | (refine CallK.ret f_z25.ok (home_yes hmP hn1) ?_;rintro v G ⟨rfl,rfl⟩;conv=>whnf)
     | ((first|refine Ld.i ?_|refine LdN.i ?_);conv=>whnf))
    refine CallK.imp (H':=devo S1.P.d S1.D•poolo p S1.P•logo S1.P.l S1.L•R) (by first|exact .refl _|exact .drop|exact .fin|((repeat refine .pick ?_);first|exact .refl _|exact .emp _|exact .fin)) ?_
    refine CallK.ret f_z1n.ok (prd_spec hS1.D (by rw [hS1.ps];omega) hpg') ?_
    rintro v G (⟨hd2,b,rfl,rfl⟩|⟨hd2,_⟩)
    rotate_left
    ·rw [hdn] at hd2;cases hd2
    conv=>whnf
    repeat' (first
     | (refine CallK.ret f_z1s.ok (pseen_spec (e:=40) (X:=S1.P) (.inr ⟨by decide,b,wRead,0,_,rfl,rfl⟩)) ?_;rw [if_pos rfl];rintro v G ⟨rfl,rfl⟩;conv=>whnf))
    have hv:(S1.seen S1.L S1.D 40).val = S1.val.ends:=by rw [seen_val];rfl
    refine ⟨_,_,rfl,?_,S1.seen S1.L S1.D 40,⟨by rw [hv];exact hok,hS1.L,hS1.D,hS1.ld⟩,hs1.trans (seen_same _ _ _ _),hv,rfl,.inr ⟨(show (40:Int) ≠ 0 by decide),rfl⟩⟩
    refine Imp.stoo (l:=S1.P.l) (d:=S1.P.d) (by rfl) (by rfl) ?_
    unfold StoX.seen
    rw [if_pos rfl]
    dsimp only
    first|exact .refl _|exact .drop|exact .fin|((repeat refine .pick ?_);first|exact .refl _|exact .emp _|exact .fin)
   | false =>
   rw [hdn,if_neg (by decide)] at hT
   dsimp only at hT
   rw [show S1.val.D = S1.D.val from rfl] at hT
   have hBy:Byt (S1.D.val.at (5 + 2 * n) ++ S1.D.val.at (5 + 2 * n + 1)):=(Dev.at_byt hS1.D.val).append (Dev.at_byt hS1.D.val)
   have hBl:(S1.D.val.at (5 + 2 * n) ++ S1.D.val.at (5 + 2 * n + 1)).length = 1024:=by
    have l1:=(Dev.read_len (i:=5 + 2 * n) hS1.D.val (by rw [read_of hdn (by omega)])).1
    have l2:=(Dev.read_len (i:=5 + 2 * n + 1) hS1.D.val (by rw [read_of hdn (by omega)])).1
    rw [read_of hdn (by omega)] at l1 l2
    rw [List.length_append]
    dsimp only at l1 l2
    omega
   obtain ⟨B,hB⟩:∃ B,B = S1.D.val.at (5 + 2 * n) ++ S1.D.val.at (5 + 2 * n + 1):=⟨_,rfl⟩
   rw [← hB] at hT hBy hBl
   obtain ⟨d,hd⟩:∃ d,d = decP B n:=⟨_,rfl⟩
   rw [← hd] at hT
   repeat' (first
    | (refine CallK.ret f_z25.ok (home_yes hmP hn1) ?_;rintro v G ⟨rfl,rfl⟩;conv=>whnf)
    | ((first|refine Ld.i ?_|refine LdN.i ?_);conv=>whnf))
   refine CallK.imp (H':=devo S1.P.d S1.D•poolo p S1.P•logo S1.P.l S1.L•R) (by first|exact .refl _|exact .drop|exact .fin|((repeat refine .pick ?_);first|exact .refl _|exact .emp _|exact .fin)) ?_
   refine CallK.ret f_z1n.ok (prd_spec hS1.D (by rw [hS1.ps];omega) hpg') ?_
   rw [← hB]
   rintro v G (⟨hd2,_⟩|⟨_,ra,rc,rfl,rfl⟩)
   ·rw [hdn] at hd2;cases hd2
   conv=>whnf
   repeat' (first
    | (refine CallK.ret f_z1s.ok (pseen_spec (e:=0) (X:=S1.P) (.inl ⟨rfl,rfl⟩)) ?_;rw [if_neg (by decide)];rintro v G ⟨rfl,rfl⟩;conv=>whnf))
   refine CallK.have (p:=1024 ≤ rc) (fun w hs=>by have:=vec_len hs.right;omega) (fun hrc=>?_)
   refine CallK.ret f_zc.ok (pdecode_spec (b:=B) ⟨inferInstance,hBl.symm⟩ (by omega) (by omega) hBy) ?_
   rw [← hd]
   rintro v G ⟨x,hx,rfl,rfl⟩
   by_cases e1:d.1 = 0
   rotate_left
   ·rw [if_pos e1] at hT
    subst hT
    conv=>whnf
    repeat' (first
     | (refine spl_ndec (fun hd=>?_) (fun hd=>?_) <;> first|(exfalso;omega)|(conv=>whnf))
     | (refine St.i ⟨rfl,rfl⟩ (List.cons_ne_nil _ _) ?_;conv=>whnf)
     | (intro blk hblk;conv=>whnf))
    refine ⟨_,_,rfl,?_,S1,hS1,hs1,rfl,rfl,.inr ⟨e1,rfl⟩⟩
    rw [stoo_eq]
    first|exact .refl _|exact .drop|exact .fin|((repeat refine .pick ?_);first|exact .refl _|exact .emp _|exact .fin)
   rw [if_neg (fun k=>k e1)] at hT
   rw [e1]
   conv=>whnf
   repeat' (first
    | ((first|refine Ld.i ?_|refine LdN.i ?_|refine St.i ⟨rfl,rfl⟩ (List.cons_ne_nil _ _) ?_);conv=>whnf)
    | (intro blk hblk;conv=>whnf)
    | (refine OpX.upv (f:=fptr) (m:=S1.P.held) tab_ok ⟨blk,x,0,false,0,0⟩ rfl rfl rfl rfl rfl rfl ?_;conv=>whnf))
   refine CallK.imp (H':=poolo p (S1.P.put n ⟨blk,x,0,false,0,0⟩)•devo S1.P.d S1.D•logo S1.P.l S1.L•R) ?_ ?_
   ·rw [poolo_eq]
    unfold PoolX.put
    dsimp only
    rw [bigM_ins _ n _ _ hno,star_assoc,frc_eq]
    first|exact .refl _|exact .drop|exact .fin|((repeat refine .pick ?_);first|exact .refl _|exact .emp _|exact .fin)
   refine CallK.ret f_z2c.ok (puse_spec (X:=S1.P.put n ⟨blk,x,0,false,0,0⟩) (n:=n) (f:=⟨blk,x,0,false,0,0⟩) (upd_nodup n _ _ hS1.nd) ((updKV_lookup n _ n S1.P.held).trans (if_pos rfl)) (show 0 ≤ S1.P.clock ∧ S1.P.clock ≤ 4000000000000 by omega)) ?_
   rintro v G ⟨rfl,rfl⟩
   conv=>whnf
   skip
   have hv:(⟨(S1.P.put n ⟨blk,x,0,false,0,0⟩).use n ⟨blk,x,0,false,0,0⟩,S1.L,S1.D⟩:StoX).val = T.2:=by
    rw [hT]
    unfold StoX.val
    dsimp only
    rw [use_val,put_val,← hx]
    unfold PoolM.use PoolM.put
    dsimp only
    rw [upd_upd]
    rfl
   refine ⟨_,_,rfl,?_,⟨(S1.P.put n ⟨blk,x,0,false,0,0⟩).use n ⟨blk,x,0,false,0,0⟩,S1.L,S1.D⟩,⟨by rw [hv];exact hok,hS1.L,hS1.D,hS1.ld⟩,hs1.trans ⟨rfl,rfl⟩,hv,rfl,.inl ⟨by rw [hT],_,(updKV_lookup n _ n _).trans (if_pos rfl),rfl⟩⟩
   refine Imp.stoo (l:=S1.P.l) (d:=S1.P.d) (by rfl) (by rfl) ?_
   dsimp only
   first|exact .refl _|exact .drop|exact .fin|((repeat refine .pick ?_);first|exact .refl _|exact .emp _|exact .fin)
 ·rw [if_neg c2] at hT
  have hn1:=hn
  repeat' (first
   | (refine CallK.ret f_zo.ok (pplace_spec (X:=S.P)) ?_;rw [← hpl,c1];rintro v G ⟨rfl,rfl⟩;conv=>whnf)
   | (refine spl_dec (fun hd=>?_) (fun hd=>?_) <;> first|(exfalso;omega)|(conv=>whnf))
   | ((first|refine Ld.i ?_|refine LdN.i ?_);conv=>whnf)
   | (refine OpX.of_quiet (OpQ.lkZ tab_ok (MapC.at' (inferInstance:MapC _ S.P.r .i64 (mapv fptr S.P.held) _)) ((mapv_lookup fptr n S.P.held).trans (by rw [hlk];rfl)) rfl rfl rfl rfl rfl ?_);conv=>whnf)
   | (refine OpQ.lm tab_ok rfl rfl ?_;rw [mapv_length];conv=>whnf)
   | (refine DrawK.introH tab_ok mixed 36 f_z17.last8 f_z17.plan8 _ rfl (by kernel_rfl) (Sub.of (by first|exact .refl _|exact .drop|exact .fin|((repeat refine .pick ?_);first|exact .refl _|exact .emp _|exact .fin))) ?_;conv=>whnf))
  have hmP:MayP S.P.pages S.P.log S.P.frames:=hS.val.may
  have hpg:=hS.val.page (n:=n) hn1
  have hpg':0 ≤ 5 + 2 * n ∧ 5 + 2 * n + 2 ≤ S.D.val.secs:=by have:S.val.D = S.D.val:=rfl;rw [this] at hpg;omega
  unfold Sto.load at hT
  rw [show S.val.D.down = S.D.down from rfl] at hT
  cases hdn:S.D.down with
  | true =>
   rw [hdn,if_pos rfl] at hT
   subst hT
   repeat' (first
    | (refine CallK.ret f_z25.ok (home_yes hmP hn1) ?_;rintro v G ⟨rfl,rfl⟩;conv=>whnf)
    | (refine Ld.i ?_;conv=>whnf))
   refine CallK.imp (H':=devo S.P.d S.D•poolo p S.P•logo S.P.l S.L•R) (by first|exact .refl _|exact .drop|exact .fin|((repeat refine .pick ?_);first|exact .refl _|exact .emp _|exact .fin)) ?_
   refine CallK.ret f_z1n.ok (prd_spec hS.D (by rw [hS.ps];omega) hpg') ?_
   rintro v G (⟨hd2,b,rfl,rfl⟩|⟨hd2,_⟩)
   rotate_left
   ·rw [hdn] at hd2;cases hd2
   conv=>whnf
   repeat' (first
    | (refine CallK.ret f_z1s.ok (pseen_spec (e:=40) (X:=S.P) (.inr ⟨by decide,b,wRead,0,_,rfl,rfl⟩)) ?_;rw [if_pos rfl];rintro v G ⟨rfl,rfl⟩;conv=>whnf))
   have hv:(S.seen S.L S.D 40).val = S.val.ends:=by rw [seen_val];rfl
   refine ⟨_,_,rfl,?_,S.seen S.L S.D 40,⟨by rw [hv];exact hok,hS.L,hS.D,hS.ld⟩,(StoX.Same.refl S).trans (seen_same _ _ _ _),hv,rfl,.inr ⟨(show (40:Int) ≠ 0 by decide),rfl⟩⟩
   refine Imp.stoo (l:=S.P.l) (d:=S.P.d) (by rfl) (by rfl) ?_
   unfold StoX.seen
   rw [if_pos rfl]
   dsimp only
   first|exact .refl _|exact .drop|exact .fin|((repeat refine .pick ?_);first|exact .refl _|exact .emp _|exact .fin)
  | false =>
  rw [hdn,if_neg (by decide)] at hT
  dsimp only at hT
  rw [show S.val.D = S.D.val from rfl] at hT
  have hBy:Byt (S.D.val.at (5 + 2 * n) ++ S.D.val.at (5 + 2 * n + 1)):=(Dev.at_byt hS.D.val).append (Dev.at_byt hS.D.val)
  have hBl:(S.D.val.at (5 + 2 * n) ++ S.D.val.at (5 + 2 * n + 1)).length = 1024:=by
   have l1:=(Dev.read_len (i:=5 + 2 * n) hS.D.val (by rw [read_of hdn (by omega)])).1
   have l2:=(Dev.read_len (i:=5 + 2 * n + 1) hS.D.val (by rw [read_of hdn (by omega)])).1
   rw [read_of hdn (by omega)] at l1 l2
   rw [List.length_append]
   dsimp only at l1 l2
   omega
  obtain ⟨B,hB⟩:∃ B,B = S.D.val.at (5 + 2 * n) ++ S.D.val.at (5 + 2 * n + 1):=⟨_,rfl⟩
  rw [← hB] at hT hBy hBl
  obtain ⟨d,hd⟩:∃ d,d = decP B n:=⟨_,rfl⟩
  rw [← hd] at hT
  repeat' (first
   | (refine CallK.ret f_z25.ok (home_yes hmP hn1) ?_;rintro v G ⟨rfl,rfl⟩;conv=>whnf)
   | (refine Ld.i ?_;conv=>whnf))
  refine CallK.imp (H':=devo S.P.d S.D•poolo p S.P•logo S.P.l S.L•R) (by first|exact .refl _|exact .drop|exact .fin|((repeat refine .pick ?_);first|exact .refl _|exact .emp _|exact .fin)) ?_
  refine CallK.ret f_z1n.ok (prd_spec hS.D (by rw [hS.ps];omega) hpg') ?_
  rw [← hB]
  rintro v G (⟨hd2,_⟩|⟨_,ra,rc,rfl,rfl⟩)
  ·rw [hdn] at hd2;cases hd2
  conv=>whnf
  repeat' (first
   | (refine CallK.ret f_z1s.ok (pseen_spec (e:=0) (X:=S.P) (.inl ⟨rfl,rfl⟩)) ?_;rw [if_neg (by decide)];rintro v G ⟨rfl,rfl⟩;conv=>whnf))
  refine CallK.have (p:=1024 ≤ rc) (fun w hs=>by have:=vec_len hs.right;omega) (fun hrc=>?_)
  refine CallK.ret f_zc.ok (pdecode_spec (b:=B) ⟨inferInstance,hBl.symm⟩ (by omega) (by omega) hBy) ?_
  rw [← hd]
  rintro v G ⟨x,hx,rfl,rfl⟩
  by_cases e1:d.1 = 0
  rotate_left
  ·rw [if_pos e1] at hT
   subst hT
   conv=>whnf
   repeat' (first
    | (refine spl_ndec (fun hd=>?_) (fun hd=>?_) <;> first|(exfalso;omega)|(conv=>whnf))
    | (refine St.i ⟨rfl,rfl⟩ (List.cons_ne_nil _ _) ?_;conv=>whnf)
    | (intro blk hblk;conv=>whnf))
   refine ⟨_,_,rfl,?_,S,hS,(StoX.Same.refl S),rfl,rfl,.inr ⟨e1,rfl⟩⟩
   rw [stoo_eq]
   first|exact .refl _|exact .drop|exact .fin|((repeat refine .pick ?_);first|exact .refl _|exact .emp _|exact .fin)
  rw [if_neg (fun k=>k e1)] at hT
  rw [e1]
  conv=>whnf
  repeat' (first
   | ((first|refine Ld.i ?_|refine LdN.i ?_|refine St.i ⟨rfl,rfl⟩ (List.cons_ne_nil _ _) ?_);conv=>whnf)
   | (intro blk hblk;conv=>whnf)
   | (refine OpX.upv (f:=fptr) (m:=S.P.held) tab_ok ⟨blk,x,0,false,0,0⟩ rfl rfl rfl rfl rfl rfl ?_;conv=>whnf))
  refine CallK.imp (H':=poolo p (S.P.put n ⟨blk,x,0,false,0,0⟩)•devo S.P.d S.D•logo S.P.l S.L•R) ?_ ?_
  ·rw [poolo_eq]
   unfold PoolX.put
   dsimp only
   rw [bigM_ins _ n _ _ hlk,star_assoc,frc_eq]
   first|exact .refl _|exact .drop|exact .fin|((repeat refine .pick ?_);first|exact .refl _|exact .emp _|exact .fin)
  refine CallK.ret f_z2c.ok (puse_spec (X:=S.P.put n ⟨blk,x,0,false,0,0⟩) (n:=n) (f:=⟨blk,x,0,false,0,0⟩) (upd_nodup n _ _ hS.nd) ((updKV_lookup n _ n S.P.held).trans (if_pos rfl)) (show 0 ≤ S.P.clock ∧ S.P.clock ≤ 4000000000000 by omega)) ?_
  rintro v G ⟨rfl,rfl⟩
  conv=>whnf
  skip
  have hv:(⟨(S.P.put n ⟨blk,x,0,false,0,0⟩).use n ⟨blk,x,0,false,0,0⟩,S.L,S.D⟩:StoX).val = T.2:=by
   rw [hT]
   unfold StoX.val
   dsimp only
   rw [use_val,put_val,← hx]
   unfold PoolM.use PoolM.put
   dsimp only
   rw [upd_upd]
   rfl
  refine ⟨_,_,rfl,?_,⟨(S.P.put n ⟨blk,x,0,false,0,0⟩).use n ⟨blk,x,0,false,0,0⟩,S.L,S.D⟩,⟨by rw [hv];exact hok,hS.L,hS.D,hS.ld⟩,(StoX.Same.refl S).trans ⟨rfl,rfl⟩,hv,rfl,.inl ⟨by rw [hT],_,(updKV_lookup n _ n _).trans (if_pos rfl),rfl⟩⟩
  refine Imp.stoo (l:=S.P.l) (d:=S.P.d) (by rfl) (by rfl) ?_
  dsimp only
  first|exact .refl _|exact .drop|exact .fin|((repeat refine .pick ?_);first|exact .refl _|exact .emp _|exact .fin)
end Go.Proofs.YtbcedpankkdfoaaGreatDoor
/- The program's pool: Get and Pin; walked. Conditions: in each statement. -/
namespace Go.SL.Pool
open Go Go.SL Go.SL.Sec Go.SL.Fld Go.SL.Rec Go.SL.Twn Go.SL.Pg
theorem Sto.Ok.pin {S:Sto} (h:S.Ok) (n:Int):(S.pin n).2.Ok:=by
 have hg:=(h.get n).1
 unfold Sto.pin
 dsimp only
 split
 ·exact hg
 cases hl:(S.get n).2.P.held.lookup n with
 | none=>exact hg
 | some f =>
  dsimp only
  have k:=hg.fr n f hl
  refine Sto.Ok.put hg ⟨k.num,k.pin,k.C,k.G,k.lsn,k.key,k.dirty,k.used⟩ fun m g hm hu=>?_
  exact hg.us m n g f hm hl hu
end Go.SL.Pool
namespace Go.Proofs.YtbcedpankkdfoaaGreatDoor
open Go Go.SL Go.SL.Sec Go.SL.Fld Go.SL.Pts Go.SL.Rec Go.SL.Twn Go.SL.Pg Go.SL.Mst Go.SL.Pool
def GetE (p:Nat) (n:Int) (S:StoX) (T:Int × Sto) (R:HProp) (v:Value) (G:HProp):Prop:=∃ S':StoX,S'.Ok ∧ S.Same S' ∧ S'.val = T.2 ∧
  ((T.1 = 0 ∧ ∃ f x,S'.P.held.lookup n = some f ∧ x.m = f.pg.m ∧ v = .tuple ⟨[pgv x,.nilIface]⟩ ∧ G = (stoo p S'•pgc x•R)) ∨
   (T.1 ≠ 0 ∧ ∃ b,v = .tuple ⟨[pgv (pg0 0 0),.iface t_z8 (ptr b)]⟩ ∧ G = (fltc b wGet n T.1•stoo p S'•R)))
theorem pget_spec {W:World} {R:HProp} {p:Nat} {S:StoX} {n:Int} [le:LaidE W] [lc:LaidC W] [lp:LaidP W] [oc:OldC W R] (hS:S.Ok) (hc:0 ≤ S.P.clock ∧ S.P.clock ≤ 1000000000) :
  Does prog W f_z1v ⟨[ptr p,.int .i64 n]⟩ (stoo p S•R) (Ret (GetE p n S (S.val.get n) R)):=by
 obtain ⟨T,hT⟩:∃ T,T = S.val.get n:=⟨_,rfl⟩
 rw [← hT]
 refine f_z1v.does _ _ ?_
 conv=>whnf
 repeat' (first
  | (intro blk hblk;conv=>whnf))
 refine CallK.imp (H':=stoo p S•pts blk (.cells ⟨[i0,i0,.slice none 0 0,.slice none 0 0]⟩ t_page_Page)•R) (by first|exact .refl _|exact .drop|exact .fin|((repeat refine .pick ?_);first|exact .refl _|exact .emp _|exact .fin)) ?_
 refine CallK.ret f_z17.ok (pget0_spec hS hc) ?_
 rw [← hT]
 rintro v G ⟨S1,hS1,hs1,hv1,rfl,⟨h0,f,hlk,rfl⟩|⟨h0,rfl⟩⟩
 ·have hnd:=hS1.nd
  have fk:=hS1.val.fr n f.val (look_val hlk)
  haveI rf:∀ (Q:HProp) (k:Nat) (v:Value) [LAt (frv f) k v],RdC W (poolo p S1.P•Q) ⟨f.b,k,none⟩ v:=fun Q k v _=>rd_frame hnd hlk
  haveI rl:∀ (Q:HProp) (k m:Nat) (vs:List Value) [LSub (frv f) k m vs],RdLC W (poolo p S1.P•Q) f.b k m vs:=fun Q k m vs _=>rdl_frame hnd hlk
  haveI rC:∀ Q:HProp,RowC W (poolo p S1.P•Q) f.pg.ca 5 cntv f.pg.m.C:=fun Q=>rowC_frame hnd hlk
  haveI rG:∀ Q:HProp,RowC W (poolo p S1.P•Q) f.pg.ga 2 grpv f.pg.m.G:=fun Q=>rowG_frame hnd hlk
  have hC:f.pg.m.C.length ≤ 31:=fk.C
  have hG:f.pg.m.G.length ≤ 84:=fk.G
  rw [stoo_eq]
  conv=>whnf
  repeat' (first
   | (refine CallK.ret f_z1y.ok (pcopy_spec (num:=f.pg.m.num) (lsn:=f.pg.m.lsn) (C:=f.pg.m.C) (G:=f.pg.m.G) (rc:=⟨inferInstance,rfl⟩) (rg:=⟨inferInstance,rfl⟩) (by omega) (by omega)) ?_;rintro v G ⟨x,hx,rfl,rfl⟩;conv=>whnf)
   | ((first|refine LdN.i ?_|refine St.i ⟨rfl,rfl⟩ (List.cons_ne_nil _ _) ?_);conv=>whnf))
  refine ⟨_,_,rfl,?_,S1,hS1,hs1,hv1,.inl ⟨h0,f,x,hlk,hx,rfl,rfl⟩⟩
  rw [stoo_eq]
  first|exact .refl _|exact .drop|exact .fin|((repeat refine .pick ?_);first|exact .refl _|exact .emp _|exact .fin)
 ·conv=>whnf
  repeat' (first
   | (rw [decide_eq_false h0];conv=>whnf))
  refine CallK.ret f_z36.ok (presult_spec (w:=wGet)) ?_
  rintro v G' (⟨h1,rfl,rfl⟩|⟨h1,b,rfl,rfl⟩)
  ·exact absurd h1 h0
  ·conv=>whnf
   repeat' (first
    | ((first|refine LdN.i ?_|refine St.i ⟨rfl,rfl⟩ (List.cons_ne_nil _ _) ?_);conv=>whnf))
   exact ⟨_,_,rfl,(by first|exact .refl _|exact .drop|exact .fin|((repeat refine .pick ?_);first|exact .refl _|exact .emp _|exact .fin)),S1,hS1,hs1,hv1,.inr ⟨h1,_,rfl,rfl⟩⟩
end Go.Proofs.YtbcedpankkdfoaaGreatDoor
