/- The program's page.Decode, walked: behind the mark. Conditions: in each statement. -/
import Derived.Test.YtbcedpankkdfoaaGreatDoorPart26
namespace Go.Proofs.YtbcedpankkdfoaaGreatDoor
open Go Go.SL Go.SL.Sec Go.SL.Fld Go.SL.Pts Go.SL.Rec Go.SL.Pg
section
variable {W:World} {R:HProp} {a:Option Addr} {nn cap:Nat} {b:List Int} {number:Int}
set_option maxHeartbeats 4000000 in
theorem pdecode_late [lc:LaidC W] [lp:LaidP W] [oc:OldC W R] [ro:RowN W R a nn 1 bytv b] (hc:b.length ≤ cap) (hb:Byt b)
  (c1:0 ≤ number ∧ number ≤ 63) (c2:b.length = 1024) (hz:zerosB b = false) (c4:getB b 0 1 = 113) (kd:Int) (c5:getB b 1 1 = kd) (hkd:kd = 2) :
  Does prog W f_za ⟨[.slice a nn cap,.int .i64 number]⟩ R (Ret fun v G=>∃ x:PgX,x.m = (decP b number).2 ∧ v = .tuple ⟨[pgv x,.int .i64 (decP b number).1]⟩ ∧ G = (pgc x•R)):=by
 have hn:=ro.len
 subst hn
 haveI:=ro.row
 haveI:=lp.h1
 haveI:=lp.c1
 haveI:=lp.gr1
 obtain ⟨T,hT⟩:∃ T,T = decP b number:=⟨_,rfl⟩
 rw [← hT]
 unfold decP at hT
 rw [if_neg (fun k=>k c1),if_neg (fun k=>k c2),if_neg (by rw [hz];decide),if_neg (fun k=>k c4),if_neg (by rw [c5,hkd];decide),c5] at hT
 obtain ⟨x0,hb0⟩:∃ x,b[0]? = some x:=⟨_,List.getElem?_eq_getElem (by omega)⟩
 obtain ⟨x1,hb1⟩:∃ x,b[1]? = some x:=⟨_,List.getElem?_eq_getElem (by omega)⟩
 rw [getB_one hb0] at c4
 have c5':=c5
 rw [getB_one hb1,hkd] at c5
 subst c4 c5
 have B2:=getB_bd hb 2 2
 have B4:=getB_bd hb 4 2
 have B6:=getB_bd hb 6 2
 have B8:=getB_bd hb 8 4
 have B12:=getB_bd hb 12 4
 have BS:0 ≤ sumP b ∧ sumP b < 4294967296:=crc_bd _
 rw [show (256:Int) ^ 2 = 65536 from by decide] at B2 B4 B6
 rw [show (256:Int) ^ 4 = 4294967296 from by decide] at B8 B12
 obtain ⟨g2,hg2⟩:∃ g,g = getB b 2 2:=⟨_,rfl⟩
 obtain ⟨g4,hg4⟩:∃ g,g = getB b 4 2:=⟨_,rfl⟩
 obtain ⟨g6,hg6⟩:∃ g,g = getB b 6 2:=⟨_,rfl⟩
 obtain ⟨g8,hg8⟩:∃ g,g = getB b 8 4:=⟨_,rfl⟩
 obtain ⟨g12,hg12⟩:∃ g,g = getB b 12 4:=⟨_,rfl⟩
 obtain ⟨sm,hsm⟩:∃ g,g = sumP b:=⟨_,rfl⟩
 have hHL:takes b 0 [1,1,2,2,2,4] = [113,2,g2,g4,g6,g8]:=by
  unfold takes takes takes takes takes takes takes
  rw [getB_one hb0,show 0 + 1 = 1 from rfl,getB_one hb1,show 1 + 1 = 2 from rfl,show 2 + 2 = 4 from rfl,show 4 + 2 = 6 from rfl,show 6 + 2 = 8 from rfl,← hg2,← hg4,← hg6,← hg8]
 rw [← hg2,← hg4,← hg6,← hg8,← hg12,← hsm] at hT
 rw [← hg2] at B2
 rw [← hg4] at B4
 rw [← hg6] at B6
 rw [← hg8] at B8
 rw [← hg12] at B12
 rw [← hsm] at BS
 have hx2:[113,2,g2,g4,g6,g8][2]? = some g2:=rfl
 have hx3:[113,2,g2,g4,g6,g8][3]? = some g4:=rfl
 have hx4:[113,2,g2,g4,g6,g8][4]? = some g6:=rfl
 have hx5:[113,2,g2,g4,g6,g8][5]? = some g8:=rfl
 refine f_za.does _ _ ?_
 conv=>whnf
 by_cases d1:g12 = sm
 rotate_left
 ·rw [if_pos d1] at hT
  subst hT
  repeat' (first
   | (refine CallK.ret f_page_in.ok pin_spec ?_;rintro v G ⟨rfl,rfl⟩;conv=>whnf)
   | (refine CallK.ret f_zh.ok (pzeros_spec (l:=b) (by omega)) ?_;rw [hz];rintro v G ⟨rfl,rfl⟩;conv=>whnf)
   | (refine CallK.ret f_z12.ok (ptaken_spec (l:=b) (z:=0) [1,1,2,2,2,4] (rs:=⟨inferInstance,rfl⟩) rfl ⟨by omega,by simp [sumN];omega⟩ (by omega) hb hsz_ok (by decide)) ?_;rw [show Int.toNat 0 = 0 from rfl,hHL];rintro v G ⟨ta,tc,rfl,rfl⟩;conv=>whnf)
   | (refine CallK.ret f_z13.ok (get_spec (l:=b) (z:=12) (s:=4) (by omega) (by omega) (by omega) hb) ?_;rw [show Int.toNat 12 = 12 from rfl,show Int.toNat 4 = 4 from rfl,← hg12];rintro v G ⟨rfl,rfl⟩;conv=>whnf)
   | (refine CallK.ret f_zk.ok (psum_spec (l:=b) rfl c2 (by omega) hb) ?_;rw [← hsm];rintro v G ⟨rfl,rfl⟩;conv=>whnf)
   | (refine spl_ndec (fun hd=>?_) (fun hd=>?_) <;> first|(exfalso;omega)|(conv=>whnf))
   | ((first|refine Ld.i ?_|refine LdN.i ?_|refine St.i ⟨rfl,rfl⟩ (List.cons_ne_nil _ _) ?_|refine Ar.i64 (by omega) ?_|refine Ar.u64 (by omega) ?_);conv=>whnf)
   | (intro blk hblk;conv=>whnf)
   | (refine IxS.r (xs:=b) (i:=0) rfl rfl (by omega) (fun ab off ha=>?_);cases ha;conv=>whnf)
   | (refine IxS.r (xs:=b) (i:=1) rfl rfl (by omega) (fun ab off ha=>?_);cases ha;conv=>whnf)
   | ((first|refine Ld.r0 hb0 rfl ?_|refine Ld.r0 hb1 rfl ?_);conv=>whnf)
   | (refine IxS.r (xs:=[113,2,g2,g4,g6,g8]) (i:=3) rfl rfl (by simp) (fun ab off ha=>?_);cases ha;conv=>whnf)
   | (refine Ld.r0 hx3 rfl ?_;conv=>whnf))
  refine ⟨_,_,rfl,?_,pg0 0 0,rfl,rfl,rfl⟩
  refine Imp.pg0 ?_
  first|exact .refl _|exact .drop|exact .fin|((repeat refine .pick ?_);first|exact .refl _|exact .emp _|exact .fin)
 rw [if_neg (fun k=>k d1)] at hT
 by_cases d2:g2 = number
 rotate_left
 ·rw [if_pos d2] at hT
  subst hT
  repeat' (first
   | (refine CallK.ret f_page_in.ok pin_spec ?_;rintro v G ⟨rfl,rfl⟩;conv=>whnf)
   | (refine CallK.ret f_zh.ok (pzeros_spec (l:=b) (by omega)) ?_;rw [hz];rintro v G ⟨rfl,rfl⟩;conv=>whnf)
   | (refine CallK.ret f_z12.ok (ptaken_spec (l:=b) (z:=0) [1,1,2,2,2,4] (rs:=⟨inferInstance,rfl⟩) rfl ⟨by omega,by simp [sumN];omega⟩ (by omega) hb hsz_ok (by decide)) ?_;rw [show Int.toNat 0 = 0 from rfl,hHL];rintro v G ⟨ta,tc,rfl,rfl⟩;conv=>whnf)
   | (refine CallK.ret f_z13.ok (get_spec (l:=b) (z:=12) (s:=4) (by omega) (by omega) (by omega) hb) ?_;rw [show Int.toNat 12 = 12 from rfl,show Int.toNat 4 = 4 from rfl,← hg12];rintro v G ⟨rfl,rfl⟩;conv=>whnf)
   | (refine CallK.ret f_zk.ok (psum_spec (l:=b) rfl c2 (by omega) hb) ?_;rw [← hsm];rintro v G ⟨rfl,rfl⟩;conv=>whnf)
   | (refine spl_ndec (fun hd=>?_) (fun hd=>?_) <;> first|(exfalso;omega)|(conv=>whnf))
   | ((first|refine Ld.i ?_|refine LdN.i ?_|refine St.i ⟨rfl,rfl⟩ (List.cons_ne_nil _ _) ?_|refine Ar.i64 (by omega) ?_|refine Ar.u64 (by omega) ?_);conv=>whnf)
   | (intro blk hblk;conv=>whnf)
   | (refine IxS.r (xs:=b) (i:=0) rfl rfl (by omega) (fun ab off ha=>?_);cases ha;conv=>whnf)
   | (refine IxS.r (xs:=b) (i:=1) rfl rfl (by omega) (fun ab off ha=>?_);cases ha;conv=>whnf)
   | ((first|refine Ld.r0 hb0 rfl ?_|refine Ld.r0 hb1 rfl ?_);conv=>whnf)
   | (refine IxS.r (xs:=[113,2,g2,g4,g6,g8]) (i:=3) rfl rfl (by simp) (fun ab off ha=>?_);cases ha;conv=>whnf)
   | (refine IxS.r (xs:=[113,2,g2,g4,g6,g8]) (i:=2) rfl rfl (by simp) (fun ab off ha=>?_);cases ha;conv=>whnf)
   | ((first|refine Ld.r0 hx3 rfl ?_|refine Ld.r0 hx2 rfl ?_);conv=>whnf))
  refine ⟨_,_,rfl,?_,pg0 0 0,rfl,rfl,rfl⟩
  refine Imp.pg0 ?_
  first|exact .refl _|exact .drop|exact .fin|((repeat refine .pick ?_);first|exact .refl _|exact .emp _|exact .fin)
 rw [if_neg (fun k=>k d2)] at hT
 rw [hkd,show (if (2:Int) = 2 then (84:Int) else 31) = 84 from rfl] at hT
 by_cases d3:¬ (1 ≤ g4 ∧ g4 ≤ 84) ∨ ¬ (1 ≤ g8 ∧ g8 ≤ 2147483647)
 ·rw [if_pos d3] at hT
  subst hT
  repeat' (first
   | (refine CallK.ret f_page_in.ok pin_spec ?_;rintro v G ⟨rfl,rfl⟩;conv=>whnf)
   | (refine CallK.ret f_zh.ok (pzeros_spec (l:=b) (by omega)) ?_;rw [hz];rintro v G ⟨rfl,rfl⟩;conv=>whnf)
   | (refine CallK.ret f_z12.ok (ptaken_spec (l:=b) (z:=0) [1,1,2,2,2,4] (rs:=⟨inferInstance,rfl⟩) rfl ⟨by omega,by simp [sumN];omega⟩ (by omega) hb hsz_ok (by decide)) ?_;rw [show Int.toNat 0 = 0 from rfl,hHL];rintro v G ⟨ta,tc,rfl,rfl⟩;conv=>whnf)
   | (refine CallK.ret f_z13.ok (get_spec (l:=b) (z:=12) (s:=4) (by omega) (by omega) (by omega) hb) ?_;rw [show Int.toNat 12 = 12 from rfl,show Int.toNat 4 = 4 from rfl,← hg12];rintro v G ⟨rfl,rfl⟩;conv=>whnf)
   | (refine CallK.ret f_zk.ok (psum_spec (l:=b) rfl c2 (by omega) hb) ?_;rw [← hsm];rintro v G ⟨rfl,rfl⟩;conv=>whnf)
   | (refine spl_ndec (fun hd=>?_) (fun hd=>?_) <;> first|(exfalso;omega)|(conv=>whnf))
   | ((first|refine Ld.i ?_|refine LdN.i ?_|refine St.i ⟨rfl,rfl⟩ (List.cons_ne_nil _ _) ?_|refine Ar.i64 (by omega) ?_|refine Ar.u64 (by omega) ?_);conv=>whnf)
   | (intro blk hblk;conv=>whnf)
   | (refine IxS.r (xs:=b) (i:=0) rfl rfl (by omega) (fun ab off ha=>?_);cases ha;conv=>whnf)
   | (refine IxS.r (xs:=b) (i:=1) rfl rfl (by omega) (fun ab off ha=>?_);cases ha;conv=>whnf)
   | ((first|refine Ld.r0 hb0 rfl ?_|refine Ld.r0 hb1 rfl ?_);conv=>whnf)
   | (refine IxS.r (xs:=[113,2,g2,g4,g6,g8]) (i:=3) rfl rfl (by simp) (fun ab off ha=>?_);cases ha;conv=>whnf)
   | (refine IxS.r (xs:=[113,2,g2,g4,g6,g8]) (i:=2) rfl rfl (by simp) (fun ab off ha=>?_);cases ha;conv=>whnf)
   | (refine IxS.r (xs:=[113,2,g2,g4,g6,g8]) (i:=5) rfl rfl (by simp) (fun ab off ha=>?_);cases ha;conv=>whnf)
   | ((first|refine Ld.r0 hx3 rfl ?_|refine Ld.r0 hx2 rfl ?_|refine Ld.r0 hx5 rfl ?_);conv=>whnf))
  all_goals
   refine ⟨_,_,rfl,?_,pg0 0 0,rfl,rfl,rfl⟩
   refine Imp.pg0 ?_
   first|exact .refl _|exact .drop|exact .fin|((repeat refine .pick ?_);first|exact .refl _|exact .emp _|exact .fin)
 rw [if_neg d3] at hT
 repeat' (first
  | (refine CallK.ret f_page_in.ok pin_spec ?_;rintro v G ⟨rfl,rfl⟩;conv=>whnf)
  | (refine CallK.ret f_zh.ok (pzeros_spec (l:=b) (by omega)) ?_;rw [hz];rintro v G ⟨rfl,rfl⟩;conv=>whnf)
  | (refine CallK.ret f_z12.ok (ptaken_spec (l:=b) (z:=0) [1,1,2,2,2,4] (rs:=⟨inferInstance,rfl⟩) rfl ⟨by omega,by simp [sumN];omega⟩ (by omega) hb hsz_ok (by decide)) ?_;rw [show Int.toNat 0 = 0 from rfl,hHL];rintro v G ⟨ta,tc,rfl,rfl⟩;conv=>whnf)
  | (refine CallK.ret f_z13.ok (get_spec (l:=b) (z:=12) (s:=4) (by omega) (by omega) (by omega) hb) ?_;rw [show Int.toNat 12 = 12 from rfl,show Int.toNat 4 = 4 from rfl,← hg12];rintro v G ⟨rfl,rfl⟩;conv=>whnf)
  | (refine CallK.ret f_zk.ok (psum_spec (l:=b) rfl c2 (by omega) hb) ?_;rw [← hsm];rintro v G ⟨rfl,rfl⟩;conv=>whnf)
  | (refine spl_ndec (fun hd=>?_) (fun hd=>?_) <;> first|(exfalso;omega)|(conv=>whnf))
  | ((first|refine Ld.i ?_|refine St.i ⟨rfl,rfl⟩ (List.cons_ne_nil _ _) ?_|refine Ar.i64 (by omega) ?_|refine Ar.u64 (by omega) ?_);conv=>whnf)
  | (intro blk hblk;conv=>whnf)
  | (refine IxS.r (xs:=b) (i:=0) rfl rfl (by omega) (fun ab off ha=>?_);cases ha;conv=>whnf)
  | (refine IxS.r (xs:=b) (i:=1) rfl rfl (by omega) (fun ab off ha=>?_);cases ha;conv=>whnf)
  | ((first|refine Ld.r0 hb0 rfl ?_|refine Ld.r0 hb1 rfl ?_);conv=>whnf)
  | (refine IxS.r (xs:=[113,2,g2,g4,g6,g8]) (i:=3) rfl rfl (by simp) (fun ab off ha=>?_);cases ha;conv=>whnf)
  | (refine IxS.r (xs:=[113,2,g2,g4,g6,g8]) (i:=2) rfl rfl (by simp) (fun ab off ha=>?_);cases ha;conv=>whnf)
  | (refine IxS.r (xs:=[113,2,g2,g4,g6,g8]) (i:=5) rfl rfl (by simp) (fun ab off ha=>?_);cases ha;conv=>whnf)
  | ((first|refine Ld.r0 hx3 rfl ?_|refine Ld.r0 hx2 rfl ?_|refine Ld.r0 hx5 rfl ?_);conv=>whnf))
 obtain ⟨n,hn4⟩:∃ n:Nat,g4 = n:=⟨g4.toNat,by omega⟩
 subst hn4
 have hns:n ≤ 84 ∧ 16 + n * 12 ≤ 1024:=by omega
 refine LoopK.at tab_ok (L:=f_za.live) (ι:=Nat × Option Addr × Nat) (fun i=>i.1 ≤ n) (fun i=>[(102,.int .i64 i.1)]) (fun i=>pts blk (.cells ⟨[.int .i64 number,.int .i64 g8,.slice none 0 0,.slice i.2.1 (grpsD b i.1).length i.2.2]⟩ t_page_Page)•vec t_zq 2 grpv i.2.1 i.2.2 (grpsD b i.1)) (fun i=>n - i.1) (0,none,0) (Nat.zero_le _) (fun t v h=>h) (by show Imp _ ((pts blk (.cells ⟨[.int .i64 number,.int .i64 g8,.slice none 0 0,.slice none 0 0]⟩ t_page_Page)•vec t_zq 2 grpv none 0 [])•_);rw [star_assoc];exact Imp.pick (Imp.vnil (Imp.refl _))) ?_
 rintro ⟨i,oa,oc⟩ hi
 dsimp only at hi ⊢
 rw [star_assoc]
 conv=>whnf
 have hil:=grpsD_len b i
 by_cases k1:i < n
 ·have y0b:=getB_bd hb (16 + i * 12) 4
  have y1b:=getB_bd hb (16 + i * 12 + 4) 8
  rw [show (256:Int) ^ 4 = 4294967296 from by decide] at y0b
  rw [show (256:Int) ^ 8 = 18446744073709551616 from by decide] at y1b
  have hgd:grpsD b (i + 1) = grpsD b i ++ [⟨getB b (16 + i * 12) 4,s64 (getB b (16 + i * 12 + 4) 8)⟩]:=grpsD_succ b i
  obtain ⟨y0,hy0⟩:∃ y,y = getB b (16 + i * 12) 4:=⟨_,rfl⟩
  obtain ⟨y1,hy1⟩:∃ y,y = getB b (16 + i * 12 + 4) 8:=⟨_,rfl⟩
  have hTK:takes b (16 + (i:Int) * 12).toNat [4,8] = [y0,y1]:=by
   rw [show (16 + (i:Int) * 12).toNat = 16 + i * 12 by omega]
   unfold takes takes takes
   rw [← hy0,← hy1]
  rw [← hy0,← hy1,← s64_wrap (by rw [hy1];exact y1b)] at hgd
  rw [← hy0] at y0b
  have hw0:[y0,y1][0]? = some y0:=rfl
  have hw1:[y0,y1][1]? = some y1:=rfl
  repeat' (first
   | (refine CallK.ret f_z12.ok (ptaken_spec (l:=b) (z:=16 + (i:Int) * 12) [4,8] (rs:=⟨inferInstance,rfl⟩) rfl ⟨by omega,by simp [sumN];omega⟩ (by omega) hb gsz_ok (by decide)) ?_;rw [hTK];rintro v G ⟨ua,uc,rfl,rfl⟩;conv=>whnf)
   | (refine Ar.i64 (by omega) ?_;conv=>whnf)
   | (refine spl_dec (fun hd=>?_) (fun hd=>?_) <;> first|(exfalso;omega)|(conv=>whnf))
   | ((first|refine Ld.i ?_|refine St.i ⟨rfl,rfl⟩ (List.cons_ne_nil _ _) ?_);conv=>whnf)
   | (intro blk hblk;conv=>whnf)
   | (refine IxS.r (xs:=b) (i:=1) rfl rfl (by omega) (fun ab off ha=>?_);cases ha;conv=>whnf)
   | (refine Ld.r0 hb1 rfl ?_;conv=>whnf)
   | (refine IxS.r (xs:=[y0,y1]) (i:=0) rfl rfl (by simp) (fun ab off ha=>?_);cases ha;conv=>whnf)
   | (refine IxS.r (xs:=[y0,y1]) (i:=1) rfl rfl (by simp) (fun ab off ha=>?_);cases ha;conv=>whnf)
   | ((first|refine Ld.r0 hw0 rfl ?_|refine Ld.r0 hw1 rfl ?_|refine Ar.i64w ?_);conv=>whnf)
   | (refine OpX.app1g (xs:=grpsD b i) tab_ok rfl rfl rfl rfl rfl rfl (by omega) (fun a' c'=>?_);conv=>whnf)
   | (refine Sub.on (by first|exact .refl _|exact .drop|exact .fin|((repeat refine .pick ?_);first|exact .refl _|exact .emp _|exact .fin)) ?_;conv=>whnf)
   | (refine DrawK.introH tab_ok mixed 116 f_za.last29 f_za.plan29 _ rfl (by kernel_rfl) (Sub.of (by first|exact .refl _|exact .drop|exact .fin|((repeat refine .pick ?_);first|exact .refl _|exact .emp _|exact .fin))) ?_;conv=>whnf))
  refine ⟨rfl,(i + 1,a',c'),k1,fun t v h=>h,?_,by dsimp only;omega⟩
  dsimp only
  rw [star_assoc,hgd]
  first|exact .refl _|exact .drop|exact .fin|((repeat refine .pick ?_);first|exact .refl _|exact .emp _|exact .fin)
 ·have hin:i = n:=by omega
  subst hin
  obtain ⟨GL,hGL⟩:∃ G,G = grpsD b i:=⟨_,rfl⟩
  have hpg:pgD b number = ⟨number,g8,[],GL⟩:=by unfold pgD;rw [c5',hkd,if_pos rfl,← hg8,← hg4,Int.toNat_natCast,hGL]
  have hsz:szD b = 12:=by unfold szD;rw [c5',hkd];rfl
  rw [hpg,hsz,Int.toNat_natCast] at hT
  dsimp only at hT
  rw [← hGL] at hil ⊢
  obtain ⟨cf,hcf⟩:∃ c,c = contF [] GL:=⟨_,rfl⟩
  obtain ⟨zz,hzz⟩:∃ z,z = zerosB (b.drop (16 + i * 12)):=⟨_,rfl⟩
  rw [← hcf,← hzz] at hT
  by_cases e1:cf = 0
  rotate_left
  ·rw [if_pos e1] at hT
   subst hT
   repeat' (first
    | (refine CallK.ret f_zt.ok (contents_spec (C:=[]) (G:=GL) (rc:=⟨RowC.nil,rfl⟩) (by simp) (by omega)) ?_;rw [← hcf];rintro v G ⟨rfl,rfl⟩;conv=>whnf)
    | (refine spl_dec (fun hd=>?_) (fun hd=>?_) <;> first|(exfalso;omega)|(conv=>whnf))
    | (refine spl_ndec (fun hd=>?_) (fun hd=>?_) <;> first|(exfalso;omega)|(conv=>whnf))
    | ((first|refine LdN.i ?_|refine St.i ⟨rfl,rfl⟩ (List.cons_ne_nil _ _) ?_);conv=>whnf))
   refine ⟨_,_,rfl,?_,pg0 0 0,rfl,rfl,rfl⟩
   refine Imp.pg0 ?_
   first|exact .refl _|exact .drop|exact .fin|((repeat refine .pick ?_);first|exact .refl _|exact .emp _|exact .fin)
  rw [if_neg (fun k=>k e1)] at hT
  by_cases e2:g6 = 0
  rotate_left
  ·rw [if_pos (.inl e2)] at hT
   subst hT
   repeat' (first
    | (refine CallK.ret f_zt.ok (contents_spec (C:=[]) (G:=GL) (rc:=⟨RowC.nil,rfl⟩) (by simp) (by omega)) ?_;rw [← hcf];rintro v G ⟨rfl,rfl⟩;conv=>whnf)
    | (refine spl_dec (fun hd=>?_) (fun hd=>?_) <;> first|(exfalso;omega)|(conv=>whnf))
    | (refine spl_ndec (fun hd=>?_) (fun hd=>?_) <;> first|(exfalso;omega)|(conv=>whnf))
    | ((first|refine LdN.i ?_|refine St.i ⟨rfl,rfl⟩ (List.cons_ne_nil _ _) ?_);conv=>whnf)
    | (refine IxS.r (xs:=[113,2,g2,(i:Int),g6,g8]) (i:=4) rfl rfl (by simp) (fun ab off ha=>?_);cases ha;conv=>whnf)
    | (refine Ld.r0 hx4 rfl ?_;conv=>whnf))
   refine ⟨_,_,rfl,?_,pg0 0 0,rfl,rfl,rfl⟩
   refine Imp.pg0 ?_
   first|exact .refl _|exact .drop|exact .fin|((repeat refine .pick ?_);first|exact .refl _|exact .emp _|exact .fin)
  cases zz with
  | false =>
   rw [if_pos (.inr rfl)] at hT
   subst hT
   repeat' (first
    | (refine CallK.ret f_zt.ok (contents_spec (C:=[]) (G:=GL) (rc:=⟨RowC.nil,rfl⟩) (by simp) (by omega)) ?_;rw [← hcf];rintro v G ⟨rfl,rfl⟩;conv=>whnf)
    | (refine CallK.ret f_zh.ok (pzeros_spec (l:=b.drop (16 + i * 12)) (ro:=⟨RowC.drop (16 + i * 12) cap hc inferInstance,by rw [List.length_drop]⟩) (by rw [List.length_drop];omega)) ?_;rw [← hzz];rintro v G ⟨rfl,rfl⟩;conv=>whnf)
    | (refine spl_dec (fun hd=>?_) (fun hd=>?_) <;> first|(exfalso;omega)|(conv=>whnf))
    | (refine spl_ndec (fun hd=>?_) (fun hd=>?_) <;> first|(exfalso;omega)|(conv=>whnf))
    | ((first|refine LdN.i ?_|refine St.i ⟨rfl,rfl⟩ (List.cons_ne_nil _ _) ?_|refine Ar.i64 (by omega) ?_);conv=>whnf)
    | (refine IxS.r (xs:=[113,2,g2,(i:Int),g6,g8]) (i:=4) rfl rfl (by simp) (fun ab off ha=>?_);cases ha;conv=>whnf)
    | (refine Ld.r0 hx4 rfl ?_;conv=>whnf)
    | (refine OpX.of_quiet (OpQ.slr tab_ok (16 + i * 12) rfl rfl rfl rfl (by omega) (by omega) ?_);conv=>whnf))
   refine ⟨_,_,rfl,?_,pg0 0 0,rfl,rfl,rfl⟩
   refine Imp.pg0 ?_
   first|exact .refl _|exact .drop|exact .fin|((repeat refine .pick ?_);first|exact .refl _|exact .emp _|exact .fin)
  | true =>
   rw [if_neg (by rw [e2];decide)] at hT
   subst hT
   repeat' (first
    | (refine CallK.ret f_zt.ok (contents_spec (C:=[]) (G:=GL) (rc:=⟨RowC.nil,rfl⟩) (by simp) (by omega)) ?_;rw [← hcf];rintro v G ⟨rfl,rfl⟩;conv=>whnf)
    | (refine CallK.ret f_zh.ok (pzeros_spec (l:=b.drop (16 + i * 12)) (ro:=⟨RowC.drop (16 + i * 12) cap hc inferInstance,by rw [List.length_drop]⟩) (by rw [List.length_drop];omega)) ?_;rw [← hzz];rintro v G ⟨rfl,rfl⟩;conv=>whnf)
    | (refine spl_dec (fun hd=>?_) (fun hd=>?_) <;> first|(exfalso;omega)|(conv=>whnf))
    | (refine spl_ndec (fun hd=>?_) (fun hd=>?_) <;> first|(exfalso;omega)|(conv=>whnf))
    | ((first|refine LdN.i ?_|refine St.i ⟨rfl,rfl⟩ (List.cons_ne_nil _ _) ?_|refine Ar.i64 (by omega) ?_);conv=>whnf)
    | (refine IxS.r (xs:=[113,2,g2,(i:Int),g6,g8]) (i:=4) rfl rfl (by simp) (fun ab off ha=>?_);cases ha;conv=>whnf)
    | (refine Ld.r0 hx4 rfl ?_;conv=>whnf)
    | (refine OpX.of_quiet (OpQ.slr tab_ok (16 + i * 12) rfl rfl rfl rfl (by omega) (by omega) ?_);conv=>whnf))
   refine ⟨_,_,rfl,?_,⟨⟨number,g8,[],GL⟩,none,0,oa,oc⟩,rfl,rfl,rfl⟩
   rw [pgc_eq]
   refine Imp.vnil ?_
   first|exact .refl _|exact .drop|exact .fin|((repeat refine .pick ?_);first|exact .refl _|exact .emp _|exact .fin)
end
end Go.Proofs.YtbcedpankkdfoaaGreatDoor
/- The program's page.Decode, walked: behind the mark. Conditions: in each statement. -/
namespace Go.Proofs.YtbcedpankkdfoaaGreatDoor
open Go Go.SL Go.SL.Sec Go.SL.Fld Go.SL.Pts Go.SL.Rec Go.SL.Pg
section
variable {W:World} {R:HProp} {a:Option Addr} {nn cap:Nat} {b:List Int} {number:Int}
set_option maxHeartbeats 4000000 in
theorem pdecode_cnt [lc:LaidC W] [lp:LaidP W] [oc:OldC W R] [ro:RowN W R a nn 1 bytv b] (hc:b.length ≤ cap) (hb:Byt b)
  (c1:0 ≤ number ∧ number ≤ 63) (c2:b.length = 1024) (hz:zerosB b = false) (c4:getB b 0 1 = 113) (kd:Int) (c5:getB b 1 1 = kd) (hkd:kd = 1) :
  Does prog W f_za ⟨[.slice a nn cap,.int .i64 number]⟩ R (Ret fun v G=>∃ x:PgX,x.m = (decP b number).2 ∧ v = .tuple ⟨[pgv x,.int .i64 (decP b number).1]⟩ ∧ G = (pgc x•R)):=by
 have hn:=ro.len
 subst hn
 haveI:=ro.row
 haveI:=lp.h1
 haveI:=lp.c1
 haveI:=lp.gr1
 obtain ⟨T,hT⟩:∃ T,T = decP b number:=⟨_,rfl⟩
 rw [← hT]
 unfold decP at hT
 rw [if_neg (fun k=>k c1),if_neg (fun k=>k c2),if_neg (by rw [hz];decide),if_neg (fun k=>k c4),if_neg (by rw [c5,hkd];decide),c5] at hT
 obtain ⟨x0,hb0⟩:∃ x,b[0]? = some x:=⟨_,List.getElem?_eq_getElem (by omega)⟩
 obtain ⟨x1,hb1⟩:∃ x,b[1]? = some x:=⟨_,List.getElem?_eq_getElem (by omega)⟩
 rw [getB_one hb0] at c4
 have c5':=c5
 rw [getB_one hb1,hkd] at c5
 subst c4 c5
 have B2:=getB_bd hb 2 2
 have B4:=getB_bd hb 4 2
 have B6:=getB_bd hb 6 2
 have B8:=getB_bd hb 8 4
 have B12:=getB_bd hb 12 4
 have BS:0 ≤ sumP b ∧ sumP b < 4294967296:=crc_bd _
 rw [show (256:Int) ^ 2 = 65536 from by decide] at B2 B4 B6
 rw [show (256:Int) ^ 4 = 4294967296 from by decide] at B8 B12
 obtain ⟨g2,hg2⟩:∃ g,g = getB b 2 2:=⟨_,rfl⟩
 obtain ⟨g4,hg4⟩:∃ g,g = getB b 4 2:=⟨_,rfl⟩
 obtain ⟨g6,hg6⟩:∃ g,g = getB b 6 2:=⟨_,rfl⟩
 obtain ⟨g8,hg8⟩:∃ g,g = getB b 8 4:=⟨_,rfl⟩
 obtain ⟨g12,hg12⟩:∃ g,g = getB b 12 4:=⟨_,rfl⟩
 obtain ⟨sm,hsm⟩:∃ g,g = sumP b:=⟨_,rfl⟩
 have hHL:takes b 0 [1,1,2,2,2,4] = [113,1,g2,g4,g6,g8]:=by
  unfold takes takes takes takes takes takes takes
  rw [getB_one hb0,show 0 + 1 = 1 from rfl,getB_one hb1,show 1 + 1 = 2 from rfl,show 2 + 2 = 4 from rfl,show 4 + 2 = 6 from rfl,show 6 + 2 = 8 from rfl,← hg2,← hg4,← hg6,← hg8]
 rw [← hg2,← hg4,← hg6,← hg8,← hg12,← hsm] at hT
 rw [← hg2] at B2
 rw [← hg4] at B4
 rw [← hg6] at B6
 rw [← hg8] at B8
 rw [← hg12] at B12
 rw [← hsm] at BS
 have hx2:[113,1,g2,g4,g6,g8][2]? = some g2:=rfl
 have hx3:[113,1,g2,g4,g6,g8][3]? = some g4:=rfl
 have hx4:[113,1,g2,g4,g6,g8][4]? = some g6:=rfl
 have hx5:[113,1,g2,g4,g6,g8][5]? = some g8:=rfl
 refine f_za.does _ _ ?_
 conv=>whnf
 by_cases d1:g12 = sm
 rotate_left
 ·rw [if_pos d1] at hT
  subst hT
  repeat' (first
   | (refine CallK.ret f_page_in.ok pin_spec ?_;rintro v G ⟨rfl,rfl⟩;conv=>whnf)
   | (refine CallK.ret f_zh.ok (pzeros_spec (l:=b) (by omega)) ?_;rw [hz];rintro v G ⟨rfl,rfl⟩;conv=>whnf)
   | (refine CallK.ret f_z12.ok (ptaken_spec (l:=b) (z:=0) [1,1,2,2,2,4] (rs:=⟨inferInstance,rfl⟩) rfl ⟨by omega,by simp [sumN];omega⟩ (by omega) hb hsz_ok (by decide)) ?_;rw [show Int.toNat 0 = 0 from rfl,hHL];rintro v G ⟨ta,tc,rfl,rfl⟩;conv=>whnf)
   | (refine CallK.ret f_z13.ok (get_spec (l:=b) (z:=12) (s:=4) (by omega) (by omega) (by omega) hb) ?_;rw [show Int.toNat 12 = 12 from rfl,show Int.toNat 4 = 4 from rfl,← hg12];rintro v G ⟨rfl,rfl⟩;conv=>whnf)
   | (refine CallK.ret f_zk.ok (psum_spec (l:=b) rfl c2 (by omega) hb) ?_;rw [← hsm];rintro v G ⟨rfl,rfl⟩;conv=>whnf)
   | (refine spl_ndec (fun hd=>?_) (fun hd=>?_) <;> first|(exfalso;omega)|(conv=>whnf))
   | ((first|refine Ld.i ?_|refine LdN.i ?_|refine St.i ⟨rfl,rfl⟩ (List.cons_ne_nil _ _) ?_|refine Ar.i64 (by omega) ?_|refine Ar.u64 (by omega) ?_);conv=>whnf)
   | (intro blk hblk;conv=>whnf)
   | (refine IxS.r (xs:=b) (i:=0) rfl rfl (by omega) (fun ab off ha=>?_);cases ha;conv=>whnf)
   | (refine IxS.r (xs:=b) (i:=1) rfl rfl (by omega) (fun ab off ha=>?_);cases ha;conv=>whnf)
   | ((first|refine Ld.r0 hb0 rfl ?_|refine Ld.r0 hb1 rfl ?_);conv=>whnf)
   | (refine IxS.r (xs:=[113,1,g2,g4,g6,g8]) (i:=3) rfl rfl (by simp) (fun ab off ha=>?_);cases ha;conv=>whnf)
   | (refine Ld.r0 hx3 rfl ?_;conv=>whnf))
  refine ⟨_,_,rfl,?_,pg0 0 0,rfl,rfl,rfl⟩
  refine Imp.pg0 ?_
  first|exact .refl _|exact .drop|exact .fin|((repeat refine .pick ?_);first|exact .refl _|exact .emp _|exact .fin)
 rw [if_neg (fun k=>k d1)] at hT
 by_cases d2:g2 = number
 rotate_left
 ·rw [if_pos d2] at hT
  subst hT
  repeat' (first
   | (refine CallK.ret f_page_in.ok pin_spec ?_;rintro v G ⟨rfl,rfl⟩;conv=>whnf)
   | (refine CallK.ret f_zh.ok (pzeros_spec (l:=b) (by omega)) ?_;rw [hz];rintro v G ⟨rfl,rfl⟩;conv=>whnf)
   | (refine CallK.ret f_z12.ok (ptaken_spec (l:=b) (z:=0) [1,1,2,2,2,4] (rs:=⟨inferInstance,rfl⟩) rfl ⟨by omega,by simp [sumN];omega⟩ (by omega) hb hsz_ok (by decide)) ?_;rw [show Int.toNat 0 = 0 from rfl,hHL];rintro v G ⟨ta,tc,rfl,rfl⟩;conv=>whnf)
   | (refine CallK.ret f_z13.ok (get_spec (l:=b) (z:=12) (s:=4) (by omega) (by omega) (by omega) hb) ?_;rw [show Int.toNat 12 = 12 from rfl,show Int.toNat 4 = 4 from rfl,← hg12];rintro v G ⟨rfl,rfl⟩;conv=>whnf)
   | (refine CallK.ret f_zk.ok (psum_spec (l:=b) rfl c2 (by omega) hb) ?_;rw [← hsm];rintro v G ⟨rfl,rfl⟩;conv=>whnf)
   | (refine spl_ndec (fun hd=>?_) (fun hd=>?_) <;> first|(exfalso;omega)|(conv=>whnf))
   | ((first|refine Ld.i ?_|refine LdN.i ?_|refine St.i ⟨rfl,rfl⟩ (List.cons_ne_nil _ _) ?_|refine Ar.i64 (by omega) ?_|refine Ar.u64 (by omega) ?_);conv=>whnf)
   | (intro blk hblk;conv=>whnf)
   | (refine IxS.r (xs:=b) (i:=0) rfl rfl (by omega) (fun ab off ha=>?_);cases ha;conv=>whnf)
   | (refine IxS.r (xs:=b) (i:=1) rfl rfl (by omega) (fun ab off ha=>?_);cases ha;conv=>whnf)
   | ((first|refine Ld.r0 hb0 rfl ?_|refine Ld.r0 hb1 rfl ?_);conv=>whnf)
   | (refine IxS.r (xs:=[113,1,g2,g4,g6,g8]) (i:=3) rfl rfl (by simp) (fun ab off ha=>?_);cases ha;conv=>whnf)
   | (refine IxS.r (xs:=[113,1,g2,g4,g6,g8]) (i:=2) rfl rfl (by simp) (fun ab off ha=>?_);cases ha;conv=>whnf)
   | ((first|refine Ld.r0 hx3 rfl ?_|refine Ld.r0 hx2 rfl ?_);conv=>whnf))
  refine ⟨_,_,rfl,?_,pg0 0 0,rfl,rfl,rfl⟩
  refine Imp.pg0 ?_
  first|exact .refl _|exact .drop|exact .fin|((repeat refine .pick ?_);first|exact .refl _|exact .emp _|exact .fin)
 rw [if_neg (fun k=>k d2)] at hT
 rw [hkd,show (if (1:Int) = 2 then (84:Int) else 31) = 31 from rfl] at hT
 by_cases d3:¬ (1 ≤ g4 ∧ g4 ≤ 31) ∨ ¬ (1 ≤ g8 ∧ g8 ≤ 2147483647)
 ·rw [if_pos d3] at hT
  subst hT
  repeat' (first
   | (refine CallK.ret f_page_in.ok pin_spec ?_;rintro v G ⟨rfl,rfl⟩;conv=>whnf)
   | (refine CallK.ret f_zh.ok (pzeros_spec (l:=b) (by omega)) ?_;rw [hz];rintro v G ⟨rfl,rfl⟩;conv=>whnf)
   | (refine CallK.ret f_z12.ok (ptaken_spec (l:=b) (z:=0) [1,1,2,2,2,4] (rs:=⟨inferInstance,rfl⟩) rfl ⟨by omega,by simp [sumN];omega⟩ (by omega) hb hsz_ok (by decide)) ?_;rw [show Int.toNat 0 = 0 from rfl,hHL];rintro v G ⟨ta,tc,rfl,rfl⟩;conv=>whnf)
   | (refine CallK.ret f_z13.ok (get_spec (l:=b) (z:=12) (s:=4) (by omega) (by omega) (by omega) hb) ?_;rw [show Int.toNat 12 = 12 from rfl,show Int.toNat 4 = 4 from rfl,← hg12];rintro v G ⟨rfl,rfl⟩;conv=>whnf)
   | (refine CallK.ret f_zk.ok (psum_spec (l:=b) rfl c2 (by omega) hb) ?_;rw [← hsm];rintro v G ⟨rfl,rfl⟩;conv=>whnf)
   | (refine spl_ndec (fun hd=>?_) (fun hd=>?_) <;> first|(exfalso;omega)|(conv=>whnf))
   | ((first|refine Ld.i ?_|refine LdN.i ?_|refine St.i ⟨rfl,rfl⟩ (List.cons_ne_nil _ _) ?_|refine Ar.i64 (by omega) ?_|refine Ar.u64 (by omega) ?_);conv=>whnf)
   | (intro blk hblk;conv=>whnf)
   | (refine IxS.r (xs:=b) (i:=0) rfl rfl (by omega) (fun ab off ha=>?_);cases ha;conv=>whnf)
   | (refine IxS.r (xs:=b) (i:=1) rfl rfl (by omega) (fun ab off ha=>?_);cases ha;conv=>whnf)
   | ((first|refine Ld.r0 hb0 rfl ?_|refine Ld.r0 hb1 rfl ?_);conv=>whnf)
   | (refine IxS.r (xs:=[113,1,g2,g4,g6,g8]) (i:=3) rfl rfl (by simp) (fun ab off ha=>?_);cases ha;conv=>whnf)
   | (refine IxS.r (xs:=[113,1,g2,g4,g6,g8]) (i:=2) rfl rfl (by simp) (fun ab off ha=>?_);cases ha;conv=>whnf)
   | (refine IxS.r (xs:=[113,1,g2,g4,g6,g8]) (i:=5) rfl rfl (by simp) (fun ab off ha=>?_);cases ha;conv=>whnf)
   | ((first|refine Ld.r0 hx3 rfl ?_|refine Ld.r0 hx2 rfl ?_|refine Ld.r0 hx5 rfl ?_);conv=>whnf))
  all_goals
   refine ⟨_,_,rfl,?_,pg0 0 0,rfl,rfl,rfl⟩
   refine Imp.pg0 ?_
   first|exact .refl _|exact .drop|exact .fin|((repeat refine .pick ?_);first|exact .refl _|exact .emp _|exact .fin)
 rw [if_neg d3] at hT
 repeat' (first
  | (refine CallK.ret f_page_in.ok pin_spec ?_;rintro v G ⟨rfl,rfl⟩;conv=>whnf)
  | (refine CallK.ret f_zh.ok (pzeros_spec (l:=b) (by omega)) ?_;rw [hz];rintro v G ⟨rfl,rfl⟩;conv=>whnf)
  | (refine CallK.ret f_z12.ok (ptaken_spec (l:=b) (z:=0) [1,1,2,2,2,4] (rs:=⟨inferInstance,rfl⟩) rfl ⟨by omega,by simp [sumN];omega⟩ (by omega) hb hsz_ok (by decide)) ?_;rw [show Int.toNat 0 = 0 from rfl,hHL];rintro v G ⟨ta,tc,rfl,rfl⟩;conv=>whnf)
  | (refine CallK.ret f_z13.ok (get_spec (l:=b) (z:=12) (s:=4) (by omega) (by omega) (by omega) hb) ?_;rw [show Int.toNat 12 = 12 from rfl,show Int.toNat 4 = 4 from rfl,← hg12];rintro v G ⟨rfl,rfl⟩;conv=>whnf)
  | (refine CallK.ret f_zk.ok (psum_spec (l:=b) rfl c2 (by omega) hb) ?_;rw [← hsm];rintro v G ⟨rfl,rfl⟩;conv=>whnf)
  | (refine spl_ndec (fun hd=>?_) (fun hd=>?_) <;> first|(exfalso;omega)|(conv=>whnf))
  | ((first|refine Ld.i ?_|refine St.i ⟨rfl,rfl⟩ (List.cons_ne_nil _ _) ?_|refine Ar.i64 (by omega) ?_|refine Ar.u64 (by omega) ?_);conv=>whnf)
  | (intro blk hblk;conv=>whnf)
  | (refine IxS.r (xs:=b) (i:=0) rfl rfl (by omega) (fun ab off ha=>?_);cases ha;conv=>whnf)
  | (refine IxS.r (xs:=b) (i:=1) rfl rfl (by omega) (fun ab off ha=>?_);cases ha;conv=>whnf)
  | ((first|refine Ld.r0 hb0 rfl ?_|refine Ld.r0 hb1 rfl ?_);conv=>whnf)
  | (refine IxS.r (xs:=[113,1,g2,g4,g6,g8]) (i:=3) rfl rfl (by simp) (fun ab off ha=>?_);cases ha;conv=>whnf)
  | (refine IxS.r (xs:=[113,1,g2,g4,g6,g8]) (i:=2) rfl rfl (by simp) (fun ab off ha=>?_);cases ha;conv=>whnf)
  | (refine IxS.r (xs:=[113,1,g2,g4,g6,g8]) (i:=5) rfl rfl (by simp) (fun ab off ha=>?_);cases ha;conv=>whnf)
  | ((first|refine Ld.r0 hx3 rfl ?_|refine Ld.r0 hx2 rfl ?_|refine Ld.r0 hx5 rfl ?_);conv=>whnf))
 obtain ⟨n,hn4⟩:∃ n:Nat,g4 = n:=⟨g4.toNat,by omega⟩
 subst hn4
 have hns:n ≤ 31 ∧ 16 + n * 32 ≤ 1024:=by omega
 refine LoopK.at tab_ok (L:=f_za.live) (ι:=Nat × Option Addr × Nat) (fun i=>i.1 ≤ n) (fun i=>[(102,.int .i64 i.1)]) (fun i=>pts blk (.cells ⟨[.int .i64 number,.int .i64 g8,.slice i.2.1 (cntsD b i.1).length i.2.2,.slice none 0 0]⟩ t_page_Page)•vec t_z17 5 cntv i.2.1 i.2.2 (cntsD b i.1)) (fun i=>n - i.1) (0,none,0) (Nat.zero_le _) (fun t v h=>h) (by show Imp _ ((pts blk (.cells ⟨[.int .i64 number,.int .i64 g8,.slice none 0 0,.slice none 0 0]⟩ t_page_Page)•vec t_z17 5 cntv none 0 [])•_);rw [star_assoc];exact Imp.pick (Imp.vnil (Imp.refl _))) ?_
 rintro ⟨i,oa,oc⟩ hi
 dsimp only at hi ⊢
 rw [star_assoc]
 conv=>whnf
 have hil:=cntsD_len b i
 by_cases k1:i < n
 ·have y0b:=getB_bd hb (16 + i * 32) 4
  have y1b:=getB_bd hb (16 + i * 32 + 4) 4
  have y2b:=getB_bd hb (16 + i * 32 + 8) 8
  have y3b:=getB_bd hb (16 + i * 32 + 16) 8
  have y4b:=getB_bd hb (16 + i * 32 + 24) 8
  rw [show (256:Int) ^ 4 = 4294967296 from by decide] at y0b y1b
  rw [show (256:Int) ^ 8 = 18446744073709551616 from by decide] at y2b y3b y4b
  have hgd:cntsD b (i + 1) = cntsD b i ++ [⟨getB b (16 + i * 32) 4,getB b (16 + i * 32 + 4) 4,s64 (getB b (16 + i * 32 + 8) 8),s64 (getB b (16 + i * 32 + 16) 8),s64 (getB b (16 + i * 32 + 24) 8)⟩]:=cntsD_succ b i
  obtain ⟨y0,hy0⟩:∃ y,y = getB b (16 + i * 32) 4:=⟨_,rfl⟩
  obtain ⟨y1,hy1⟩:∃ y,y = getB b (16 + i * 32 + 4) 4:=⟨_,rfl⟩
  obtain ⟨y2,hy2⟩:∃ y,y = getB b (16 + i * 32 + 8) 8:=⟨_,rfl⟩
  obtain ⟨y3,hy3⟩:∃ y,y = getB b (16 + i * 32 + 16) 8:=⟨_,rfl⟩
  obtain ⟨y4,hy4⟩:∃ y,y = getB b (16 + i * 32 + 24) 8:=⟨_,rfl⟩
  have hTK:takes b (16 + (i:Int) * 32).toNat [4,4,8,8,8] = [y0,y1,y2,y3,y4]:=by
   rw [show (16 + (i:Int) * 32).toNat = 16 + i * 32 by omega]
   unfold takes takes takes takes takes takes
   rw [hy0,hy1,hy2,hy3,hy4]
  rw [← hy0,← hy1,← hy2,← hy3,← hy4,← s64_wrap (by rw [hy2];exact y2b),← s64_wrap (by rw [hy3];exact y3b),← s64_wrap (by rw [hy4];exact y4b)] at hgd
  rw [← hy0] at y0b
  rw [← hy1] at y1b
  clear y2b y3b y4b
  have hw0:[y0,y1,y2,y3,y4][0]? = some y0:=rfl
  have hw1:[y0,y1,y2,y3,y4][1]? = some y1:=rfl
  have hw2:[y0,y1,y2,y3,y4][2]? = some y2:=rfl
  have hw3:[y0,y1,y2,y3,y4][3]? = some y3:=rfl
  have hw4:[y0,y1,y2,y3,y4][4]? = some y4:=rfl
  repeat' (first
   | (refine CallK.ret f_z12.ok (ptaken_spec (l:=b) (z:=16 + (i:Int) * 32) [4,4,8,8,8] (rs:=⟨inferInstance,rfl⟩) rfl ⟨by omega,by simp [sumN];omega⟩ (by omega) hb csz_ok (by decide)) ?_;rw [hTK];rintro v G ⟨ua,uc,rfl,rfl⟩;conv=>whnf)
   | (refine Ar.i64 (by omega) ?_;conv=>whnf)
   | (refine spl_dec (fun hd=>?_) (fun hd=>?_) <;> first|(exfalso;omega)|(conv=>whnf))
   | ((first|refine Ld.i ?_|refine St.i ⟨rfl,rfl⟩ (List.cons_ne_nil _ _) ?_);conv=>whnf)
   | (intro blk hblk;conv=>whnf)
   | (refine IxS.r (xs:=b) (i:=1) rfl rfl (by omega) (fun ab off ha=>?_);cases ha;conv=>whnf)
   | (refine Ld.r0 hb1 rfl ?_;conv=>whnf)
   | (refine IxS.r (xs:=[y0,y1,y2,y3,y4]) (i:=0) rfl rfl (by simp) (fun ab off ha=>?_);cases ha;conv=>whnf)
   | (refine IxS.r (xs:=[y0,y1,y2,y3,y4]) (i:=1) rfl rfl (by simp) (fun ab off ha=>?_);cases ha;conv=>whnf)
   | (refine IxS.r (xs:=[y0,y1,y2,y3,y4]) (i:=2) rfl rfl (by simp) (fun ab off ha=>?_);cases ha;conv=>whnf)
   | (refine IxS.r (xs:=[y0,y1,y2,y3,y4]) (i:=3) rfl rfl (by simp) (fun ab off ha=>?_);cases ha;conv=>whnf)
   | (refine IxS.r (xs:=[y0,y1,y2,y3,y4]) (i:=4) rfl rfl (by simp) (fun ab off ha=>?_);cases ha;conv=>whnf)
   | ((first|refine Ld.r0 hw0 rfl ?_|refine Ld.r0 hw1 rfl ?_|refine Ld.r0 hw2 rfl ?_|refine Ld.r0 hw3 rfl ?_|refine Ld.r0 hw4 rfl ?_|refine Ar.i64w ?_);conv=>whnf)
   | (refine OpX.app1g (xs:=cntsD b i) tab_ok rfl rfl rfl rfl rfl rfl (by omega) (fun a' c'=>?_);conv=>whnf)
   | (refine Sub.on (by first|exact .refl _|exact .drop|exact .fin|((repeat refine .pick ?_);first|exact .refl _|exact .emp _|exact .fin)) ?_;conv=>whnf)
   | (refine DrawK.introH tab_ok mixed 137 f_za.last31 f_za.plan31 _ rfl (by kernel_rfl) (Sub.of (by first|exact .refl _|exact .drop|exact .fin|((repeat refine .pick ?_);first|exact .refl _|exact .emp _|exact .fin))) ?_;conv=>whnf))
  refine ⟨rfl,(i + 1,a',c'),k1,fun t v h=>h,?_,by dsimp only;omega⟩
  dsimp only
  rw [star_assoc,hgd]
  first|exact .refl _|exact .drop|exact .fin|((repeat refine .pick ?_);first|exact .refl _|exact .emp _|exact .fin)
 ·have hin:i = n:=by omega
  subst hin
  obtain ⟨GL,hGL⟩:∃ G,G = cntsD b i:=⟨_,rfl⟩
  have hpg:pgD b number = ⟨number,g8,GL,[]⟩:=by unfold pgD;rw [c5',hkd,if_neg (by decide),← hg8,← hg4,Int.toNat_natCast,hGL]
  have hsz:szD b = 32:=by unfold szD;rw [c5',hkd];rfl
  rw [hpg,hsz,Int.toNat_natCast] at hT
  dsimp only at hT
  rw [← hGL] at hil ⊢
  obtain ⟨cf,hcf⟩:∃ c,c = contF GL []:=⟨_,rfl⟩
  obtain ⟨zz,hzz⟩:∃ z,z = zerosB (b.drop (16 + i * 32)):=⟨_,rfl⟩
  rw [← hcf,← hzz] at hT
  by_cases e1:cf = 0
  rotate_left
  ·rw [if_pos e1] at hT
   subst hT
   repeat' (first
    | (refine CallK.ret f_zt.ok (contents_spec (C:=GL) (G:=[]) (rg:=⟨RowC.nil,rfl⟩) (by omega) (by simp)) ?_;rw [← hcf];rintro v G ⟨rfl,rfl⟩;conv=>whnf)
    | (refine spl_dec (fun hd=>?_) (fun hd=>?_) <;> first|(exfalso;omega)|(conv=>whnf))
    | (refine spl_ndec (fun hd=>?_) (fun hd=>?_) <;> first|(exfalso;omega)|(conv=>whnf))
    | ((first|refine LdN.i ?_|refine St.i ⟨rfl,rfl⟩ (List.cons_ne_nil _ _) ?_);conv=>whnf))
   refine ⟨_,_,rfl,?_,pg0 0 0,rfl,rfl,rfl⟩
   refine Imp.pg0 ?_
   first|exact .refl _|exact .drop|exact .fin|((repeat refine .pick ?_);first|exact .refl _|exact .emp _|exact .fin)
  rw [if_neg (fun k=>k e1)] at hT
  by_cases e2:g6 = 0
  rotate_left
  ·rw [if_pos (.inl e2)] at hT
   subst hT
   repeat' (first
    | (refine CallK.ret f_zt.ok (contents_spec (C:=GL) (G:=[]) (rg:=⟨RowC.nil,rfl⟩) (by omega) (by simp)) ?_;rw [← hcf];rintro v G ⟨rfl,rfl⟩;conv=>whnf)
    | (refine spl_dec (fun hd=>?_) (fun hd=>?_) <;> first|(exfalso;omega)|(conv=>whnf))
    | (refine spl_ndec (fun hd=>?_) (fun hd=>?_) <;> first|(exfalso;omega)|(conv=>whnf))
    | ((first|refine LdN.i ?_|refine St.i ⟨rfl,rfl⟩ (List.cons_ne_nil _ _) ?_);conv=>whnf)
    | (refine IxS.r (xs:=[113,1,g2,(i:Int),g6,g8]) (i:=4) rfl rfl (by simp) (fun ab off ha=>?_);cases ha;conv=>whnf)
    | (refine Ld.r0 hx4 rfl ?_;conv=>whnf))
   refine ⟨_,_,rfl,?_,pg0 0 0,rfl,rfl,rfl⟩
   refine Imp.pg0 ?_
   first|exact .refl _|exact .drop|exact .fin|((repeat refine .pick ?_);first|exact .refl _|exact .emp _|exact .fin)
  cases zz with
  | false =>
   rw [if_pos (.inr rfl)] at hT
   subst hT
   repeat' (first
    | (refine CallK.ret f_zt.ok (contents_spec (C:=GL) (G:=[]) (rg:=⟨RowC.nil,rfl⟩) (by omega) (by simp)) ?_;rw [← hcf];rintro v G ⟨rfl,rfl⟩;conv=>whnf)
    | (refine CallK.ret f_zh.ok (pzeros_spec (l:=b.drop (16 + i * 32)) (ro:=⟨RowC.drop (16 + i * 32) cap hc inferInstance,by rw [List.length_drop]⟩) (by rw [List.length_drop];omega)) ?_;rw [← hzz];rintro v G ⟨rfl,rfl⟩;conv=>whnf)
    | (refine spl_dec (fun hd=>?_) (fun hd=>?_) <;> first|(exfalso;omega)|(conv=>whnf))
    | (refine spl_ndec (fun hd=>?_) (fun hd=>?_) <;> first|(exfalso;omega)|(conv=>whnf))
    | ((first|refine LdN.i ?_|refine St.i ⟨rfl,rfl⟩ (List.cons_ne_nil _ _) ?_|refine Ar.i64 (by omega) ?_);conv=>whnf)
    | (refine IxS.r (xs:=[113,1,g2,(i:Int),g6,g8]) (i:=4) rfl rfl (by simp) (fun ab off ha=>?_);cases ha;conv=>whnf)
    | (refine Ld.r0 hx4 rfl ?_;conv=>whnf)
    | (refine OpX.of_quiet (OpQ.slr tab_ok (16 + i * 32) rfl rfl rfl rfl (by omega) (by omega) ?_);conv=>whnf))
   refine ⟨_,_,rfl,?_,pg0 0 0,rfl,rfl,rfl⟩
   refine Imp.pg0 ?_
   first|exact .refl _|exact .drop|exact .fin|((repeat refine .pick ?_);first|exact .refl _|exact .emp _|exact .fin)
  | true =>
   rw [if_neg (by rw [e2];decide)] at hT
   subst hT
   repeat' (first
    | (refine CallK.ret f_zt.ok (contents_spec (C:=GL) (G:=[]) (rg:=⟨RowC.nil,rfl⟩) (by omega) (by simp)) ?_;rw [← hcf];rintro v G ⟨rfl,rfl⟩;conv=>whnf)
    | (refine CallK.ret f_zh.ok (pzeros_spec (l:=b.drop (16 + i * 32)) (ro:=⟨RowC.drop (16 + i * 32) cap hc inferInstance,by rw [List.length_drop]⟩) (by rw [List.length_drop];omega)) ?_;rw [← hzz];rintro v G ⟨rfl,rfl⟩;conv=>whnf)
    | (refine spl_dec (fun hd=>?_) (fun hd=>?_) <;> first|(exfalso;omega)|(conv=>whnf))
    | (refine spl_ndec (fun hd=>?_) (fun hd=>?_) <;> first|(exfalso;omega)|(conv=>whnf))
    | ((first|refine LdN.i ?_|refine St.i ⟨rfl,rfl⟩ (List.cons_ne_nil _ _) ?_|refine Ar.i64 (by omega) ?_);conv=>whnf)
    | (refine IxS.r (xs:=[113,1,g2,(i:Int),g6,g8]) (i:=4) rfl rfl (by simp) (fun ab off ha=>?_);cases ha;conv=>whnf)
    | (refine Ld.r0 hx4 rfl ?_;conv=>whnf)
    | (refine OpX.of_quiet (OpQ.slr tab_ok (16 + i * 32) rfl rfl rfl rfl (by omega) (by omega) ?_);conv=>whnf))
   refine ⟨_,_,rfl,?_,⟨⟨number,g8,GL,[]⟩,oa,oc,none,0⟩,rfl,rfl,rfl⟩
   refine Imp.trans (Q:=vec t_z17 5 cntv oa oc GL•R) (by first|exact .refl _|exact .drop|exact .fin|((repeat refine .pick ?_);first|exact .refl _|exact .emp _|exact .fin)) ?_
   rw [pgc_eq]
   exact Imp.right (Imp.vnil (Imp.refl _))
end
end Go.Proofs.YtbcedpankkdfoaaGreatDoor
/- The program's page.Decode in one piece. Conditions: in each statement. -/
namespace Go.Proofs.YtbcedpankkdfoaaGreatDoor
open Go Go.SL Go.SL.Sec Go.SL.Fld Go.SL.Pts Go.SL.Rec Go.SL.Pg
theorem pdecode_spec {W:World} {R:HProp} {a:Option Addr} {nn cap:Nat} {b:List Int} {number:Int} [lc:LaidC W] [lp:LaidP W] [oc:OldC W R] (ro:RowN W R a nn 1 bytv b) (hc:b.length ≤ cap) (hl:b.length ≤ 16777216) (hb:Byt b) :
  Does prog W f_za ⟨[.slice a nn cap,.int .i64 number]⟩ R (Ret fun v G=>∃ x:PgX,x.m = (decP b number).2 ∧ v = .tuple ⟨[pgv x,.int .i64 (decP b number).1]⟩ ∧ G = (pgc x•R)):=by
 by_cases c1:0 ≤ number ∧ number ≤ 63
 rotate_left
 ·exact pdecode_early hc hl hb (.inl c1)
 by_cases c2:b.length = 1024
 rotate_left
 ·exact pdecode_early hc hl hb (.inr (.inl c2))
 by_cases c3:zerosB b = true
 ·exact pdecode_early hc hl hb (.inr (.inr (.inl c3)))
 have c3':zerosB b = false:=by simpa using c3
 by_cases c4:getB b 0 1 = 113
 rotate_left
 ·exact pdecode_early hc hl hb (.inr (.inr (.inr (.inl c4))))
 by_cases c5:getB b 1 1 = 1
 ·exact pdecode_cnt hc hb c1 c2 c3' c4 1 c5 rfl
 by_cases c6:getB b 1 1 = 2
 ·exact pdecode_late hc hb c1 c2 c3' c4 2 c6 rfl
 exact pdecode_early hc hl hb (.inr (.inr (.inr (.inr ⟨c5,c6⟩))))
end Go.Proofs.YtbcedpankkdfoaaGreatDoor
