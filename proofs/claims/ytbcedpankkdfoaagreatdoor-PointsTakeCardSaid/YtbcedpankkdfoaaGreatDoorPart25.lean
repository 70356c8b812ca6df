/- The program's page.Decode, Copy, walked. Conditions: in each statement. -/
import Derived.Test.YtbcedpankkdfoaaGreatDoorPart21
set_option linter.unusedVariables false
set_option linter.unusedSimpArgs false
namespace Go.Proofs.YtbcedpankkdfoaaGreatDoor
open Go Go.SL Go.SL.Sec Go.SL.Fld Go.SL.Pts Go.SL.Rec Go.SL.Pg
def takes (l:List Int):Nat → List Nat → List Int
 | _,[]=>[]
 | z,s :: r=>getB l z s :: takes l (z + s) r
def sumN:List Nat → Nat
 | []=>0
 | s :: r=>s + sumN r
theorem takes_snoc (l:List Int):∀ (r:List Nat) (z s:Nat),takes l z (r ++ [s]) = takes l z r ++ [getB l (z + sumN r) s]
 | [],z,s=>by simp [takes,sumN]
 | q :: r,z,s=>by rw [List.cons_append,takes,takes_snoc l r,takes,sumN,List.cons_append,Nat.add_assoc]
theorem sumN_snoc:∀ (r:List Nat) (s:Nat),sumN (r ++ [s]) = sumN r + s
 | [],s=>by simp [sumN]
 | q :: r,s=>by rw [List.cons_append,sumN,sumN_snoc r,sumN,Nat.add_assoc]
theorem sumN_take_le:∀ (r:List Nat) (i:Nat),sumN (r.take i) ≤ sumN r
 | [],i=>by simp
 | q :: r,0=>by simp [sumN]
 | q :: r,i + 1=>by rw [List.take_succ_cons,sumN,sumN];have:=sumN_take_le r i;omega
theorem takes_len (l:List Int):∀ (r:List Nat) (z:Nat),(takes l z r).length = r.length
 | [],z=>rfl
 | q :: r,z=>by rw [takes,List.length_cons,takes_len l r,List.length_cons]
theorem ptaken_spec {W:World} {R:HProp} {a sa:Option Addr} {nn cap sn sc:Nat} {l:List Int} {z:Int} {sizes:List Int} (r:List Nat) [ro:RowN W R a nn 1 bytv l] (rs:RowN W R sa sn 1 ints sizes) (e1:sizes = r.map fun p:Nat=>(p:Int)) (hz:0 ≤ z ∧ z.toNat + sumN r ≤ l.length) (hl:l.length ≤ 16777216) (hb:Byt l) (hr:∀ p ∈ r,1 ≤ p ∧ p ≤ 8) (hrl:r.length ≤ 1000) :
  Does prog W f_zu ⟨[.slice a nn cap,.int .i64 z,.slice sa sn sc]⟩ R (Ret fun v G=>∃ a' c',v = .slice a' r.length c' ∧ G = (vec t_uint64 1 u64s a' c' (takes l z.toNat r)•R)):=by
 have h1:=rs.len
 have h2:=ro.len
 subst h1 h2
 haveI:=rs.row
 haveI:=ro.row
 have hsl:sizes.length = r.length:=by rw [e1,List.length_map]
 obtain ⟨zn,rfl⟩:=Int.eq_ofNat_of_zero_le hz.1
 rw [Int.toNat_natCast] at hz ⊢
 refine f_zu.does _ _ _ ?_
 conv=>whnf
 skip
 refine LoopK.at tab_ok (L:=f_zu.live) (ι:=Nat × Option Addr × Nat) (fun i=>i.1 ≤ r.length) (fun i=>[(14,.int .i64 i.1),(1,.int .i64 ((zn + sumN (r.take i.1):Nat):Int)),(7,.slice i.2.1 (takes l zn (r.take i.1)).length i.2.2)]) (fun i=>vec t_uint64 1 u64s i.2.1 i.2.2 (takes l zn (r.take i.1))) (fun i=>r.length - i.1) (0,none,0) (Nat.zero_le _) (fun t v h=>h) (Imp.vnil (Imp.refl _)) ?_
 rintro ⟨i,oa,oc⟩ hi
 dsimp only at hi ⊢
 conv=>whnf
 have hm:=sumN_take_le r i
 by_cases k1:i < r.length
 ·obtain ⟨p,hp⟩:∃ p,r[i]? = some p:=⟨_,List.getElem?_eq_getElem k1⟩
  have hp1:=hr p (List.mem_of_getElem? hp)
  have hs1:sizes[i]? = some (p:Int):=by rw [e1,List.getElem?_map,hp];rfl
  have ht:r.take (i + 1) = r.take i ++ [p]:=by rw [List.take_add_one,hp];rfl
  have hm2:=sumN_take_le r (i + 1)
  rw [ht,sumN_snoc] at hm2
  obtain ⟨Z,hZ⟩:∃ Z:Nat,Z = zn + sumN (r.take i):=⟨_,rfl⟩
  have htl:=takes_len l (r.take i) zn
  rw [List.length_take] at htl
  rw [← hZ]
  repeat' (first
   | (refine CallK.ret f_zv.ok (get_spec (l:=l) (z:=(Z:Int)) (s:=(p:Int)) (by omega) (by omega) hl hb) ?_;rw [Int.toNat_natCast,Int.toNat_natCast];rintro v G ⟨rfl,rfl⟩;conv=>whnf)
   | (refine spl_dec (fun hd=>?_) (fun hd=>?_) <;> first|(exfalso;omega)|(conv=>whnf))
   | (refine Ar.i64 (by omega) ?_;conv=>whnf)
   | (intro blk hblk;conv=>whnf)
   | (refine IxS.r (xs:=sizes) (i:=i) rfl rfl (by omega) (fun ab off ha=>?_);cases ha;conv=>whnf)
   | (refine Ld.r0 hs1 rfl ?_;conv=>whnf)
   | (refine OpX.app1g (xs:=takes l zn (r.take i)) tab_ok rfl rfl rfl rfl rfl rfl (by omega) (fun a' c'=>?_);conv=>whnf))
  refine ⟨rfl,(i + 1,a',c'),k1,fun t v h=>?_,?_,by dsimp only;omega⟩
  ·dsimp only at h
   rw [ht,takes_snoc,← hZ,sumN_snoc,show zn + (sumN (r.take i) + p) = Z + p by omega,Int.natCast_add] at h
   exact h
  ·dsimp only
   rw [ht,takes_snoc,← hZ]
   first|exact .refl _|exact .drop|exact .fin|((repeat refine .pick ?_);first|exact .refl _|exact .emp _|exact .fin)
 ·have hil:r.take i = r:=List.take_of_length_le (by omega)
  rw [hil,takes_len]
  repeat' (first
   | (refine spl_dec (fun hd=>?_) (fun hd=>?_) <;> first|(exfalso;omega)|(conv=>whnf)))
  refine ⟨_,_,rfl,?_,oa,oc,rfl,rfl⟩
  first|exact .refl _|exact .drop|exact .fin|((repeat refine .pick ?_);first|exact .refl _|exact .emp _|exact .fin)
theorem hsz_ok:∀ p ∈ [1,1,2,2,2,4],1 ≤ p ∧ p ≤ 8:=by decide
theorem csz_ok:∀ p ∈ [4,4,8,8,8],1 ≤ p ∧ p ≤ 8:=by decide
theorem gsz_ok:∀ p ∈ [4,8],1 ≤ p ∧ p ≤ 8:=by decide
section
variable {W:World} {R:HProp} {a:Option Addr} {nn cap:Nat} {b:List Int} {number:Int}
set_option maxHeartbeats 2000000 in
theorem pdecode_early [ro:RowN W R a nn 1 bytv b] (hc:b.length ≤ cap) (hl:b.length ≤ 16777216) (hb:Byt b)
  (he:¬ (0 ≤ number ∧ number ≤ 63) ∨ b.length ≠ 1024 ∨ zerosB b = true ∨ getB b 0 1 ≠ 113 ∨ (getB b 1 1 ≠ 1 ∧ getB b 1 1 ≠ 2)) :
  Does prog W f_zc ⟨[.slice a nn cap,.int .i64 number]⟩ R (Ret fun v G=>∃ x:PgX,x.m = (decP b number).2 ∧ v = .tuple ⟨[pgv x,.int .i64 (decP b number).1]⟩ ∧ G = (pgc x•R)):=by
 have hn:=ro.len
 subst hn
 haveI:=ro.row
 obtain ⟨T,hT⟩:∃ T,T = decP b number:=⟨_,rfl⟩
 rw [← hT]
 unfold decP at hT
 refine f_zc.does _ _ ?_
 conv=>whnf
 by_cases c1:0 ≤ number ∧ number ≤ 63
 rotate_left
 ·rw [if_pos c1] at hT
  subst hT
  repeat' (first
   | (refine CallK.ret f_page_in.ok pin_spec ?_;rintro v G ⟨rfl,rfl⟩;conv=>whnf)
   | (refine spl_ndec (fun hd=>?_) (fun hd=>?_) <;> first|(exfalso;omega)|(conv=>whnf))
   | ((first|refine LdN.i ?_|refine St.i ⟨rfl,rfl⟩ (List.cons_ne_nil _ _) ?_);conv=>whnf)
   | (intro blk hblk;conv=>whnf))
  refine ⟨_,_,rfl,?_,pg0 0 0,rfl,rfl,rfl⟩
  refine Imp.pg0 ?_
  first|exact .refl _|exact .drop|exact .fin|((repeat refine .pick ?_);first|exact .refl _|exact .emp _|exact .fin)
 rw [if_neg (fun k=>k c1)] at hT
 by_cases c2:b.length = 1024
 rotate_left
 ·rw [if_pos c2] at hT
  subst hT
  repeat' (first
   | (refine CallK.ret f_page_in.ok pin_spec ?_;rintro v G ⟨rfl,rfl⟩;conv=>whnf)
   | (refine spl_ndec (fun hd=>?_) (fun hd=>?_) <;> first|(exfalso;omega)|(conv=>whnf))
   | ((first|refine LdN.i ?_|refine St.i ⟨rfl,rfl⟩ (List.cons_ne_nil _ _) ?_);conv=>whnf)
   | (intro blk hblk;conv=>whnf))
  refine ⟨_,_,rfl,?_,pg0 0 0,rfl,rfl,rfl⟩
  refine Imp.pg0 ?_
  first|exact .refl _|exact .drop|exact .fin|((repeat refine .pick ?_);first|exact .refl _|exact .emp _|exact .fin)
 rw [if_neg (fun k=>k c2)] at hT
 obtain ⟨x0,hb0⟩:∃ x,b[0]? = some x:=⟨_,List.getElem?_eq_getElem (by omega)⟩
 obtain ⟨x1,hb1⟩:∃ x,b[1]? = some x:=⟨_,List.getElem?_eq_getElem (by omega)⟩
 rw [getB_one hb0,getB_one hb1] at hT he
 cases hz:zerosB b with
 | true =>
  rw [if_pos hz] at hT
  subst hT
  repeat' (first
   | (refine CallK.ret f_page_in.ok pin_spec ?_;rintro v G ⟨rfl,rfl⟩;conv=>whnf)
   | (refine CallK.ret f_zf.ok (pzeros_spec (l:=b) (by omega)) ?_;rw [hz];rintro v G ⟨rfl,rfl⟩;conv=>whnf)
   | (refine spl_ndec (fun hd=>?_) (fun hd=>?_) <;> first|(exfalso;omega)|(conv=>whnf))
   | ((first|refine LdN.i ?_|refine St.i ⟨rfl,rfl⟩ (List.cons_ne_nil _ _) ?_);conv=>whnf)
   | (intro blk hblk;conv=>whnf))
  refine ⟨_,_,rfl,?_,pg0 number 0,rfl,rfl,rfl⟩
  refine Imp.pg0 ?_
  first|exact .refl _|exact .drop|exact .fin|((repeat refine .pick ?_);first|exact .refl _|exact .emp _|exact .fin)
 | false =>
 rw [hz] at he
 rw [if_neg (by rw [hz];decide)] at hT
 by_cases c4:x0 = 113
 rotate_left
 ·rw [if_pos c4] at hT
  subst hT
  repeat' (first
   | (refine CallK.ret f_page_in.ok pin_spec ?_;rintro v G ⟨rfl,rfl⟩;conv=>whnf)
   | (refine CallK.ret f_zf.ok (pzeros_spec (l:=b) (by omega)) ?_;rw [hz];rintro v G ⟨rfl,rfl⟩;conv=>whnf)
   | (refine spl_ndec (fun hd=>?_) (fun hd=>?_) <;> first|(exfalso;omega)|(conv=>whnf))
   | ((first|refine LdN.i ?_|refine St.i ⟨rfl,rfl⟩ (List.cons_ne_nil _ _) ?_);conv=>whnf)
   | (intro blk hblk;conv=>whnf)
   | (refine IxS.r (xs:=b) (i:=0) rfl rfl (by omega) (fun ab off ha=>?_);cases ha;conv=>whnf)
   | (refine Ld.r0 hb0 rfl ?_;conv=>whnf))
  refine ⟨_,_,rfl,?_,pg0 0 0,rfl,rfl,rfl⟩
  refine Imp.pg0 ?_
  first|exact .refl _|exact .drop|exact .fin|((repeat refine .pick ?_);first|exact .refl _|exact .emp _|exact .fin)
 rw [if_neg (fun k=>k c4)] at hT
 have c5:x1 ≠ 1 ∧ x1 ≠ 2:=(((he.resolve_left (fun k=>k c1)).resolve_left (fun k=>k c2)).resolve_left (by decide)).resolve_left (fun k=>k c4)
 rw [if_pos c5] at hT
 subst hT
 repeat' (first
  | (refine CallK.ret f_page_in.ok pin_spec ?_;rintro v G ⟨rfl,rfl⟩;conv=>whnf)
  | (refine CallK.ret f_zf.ok (pzeros_spec (l:=b) (by omega)) ?_;rw [hz];rintro v G ⟨rfl,rfl⟩;conv=>whnf)
  | (refine spl_ndec (fun hd=>?_) (fun hd=>?_) <;> first|(exfalso;omega)|(conv=>whnf))
  | ((first|refine LdN.i ?_|refine St.i ⟨rfl,rfl⟩ (List.cons_ne_nil _ _) ?_);conv=>whnf)
  | (intro blk hblk;conv=>whnf)
  | (refine IxS.r (xs:=b) (i:=0) rfl rfl (by omega) (fun ab off ha=>?_);cases ha;conv=>whnf)
  | (refine IxS.r (xs:=b) (i:=1) rfl rfl (by omega) (fun ab off ha=>?_);cases ha;conv=>whnf)
  | ((first|refine Ld.r0 hb0 rfl ?_|refine Ld.r0 hb1 rfl ?_);conv=>whnf))
 refine ⟨_,_,rfl,?_,pg0 0 0,rfl,rfl,rfl⟩
 refine Imp.pg0 ?_
 first|exact .refl _|exact .drop|exact .fin|((repeat refine .pick ?_);first|exact .refl _|exact .emp _|exact .fin)
end
end Go.Proofs.YtbcedpankkdfoaaGreatDoor
/- The program's page.Decode, walked: behind the mark. Conditions: in each statement. -/
namespace Go.Proofs.YtbcedpankkdfoaaGreatDoor
open Go Go.SL Go.SL.Sec Go.SL.Fld Go.SL.Pts Go.SL.Rec Go.SL.Pg
section
variable {W:World} {R:HProp} {a:Option Addr} {nn cap:Nat} {b:List Int} {number:Int}
set_option maxHeartbeats 4000000 in
theorem pdecode_late [lc:LaidC W] [lp:LaidP W] [oc:OldC W R] [ro:RowN W R a nn 1 bytv b] (hc:b.length ≤ cap) (hb:Byt b)
  (c1:0 ≤ number ∧ number ≤ 63) (c2:b.length = 1024) (hz:zerosB b = false) (c4:getB b 0 1 = 113) (kd:Int) (c5:getB b 1 1 = kd) (hkd:kd = 2) :
  Does prog W f_zc ⟨[.slice a nn cap,.int .i64 number]⟩ R (Ret fun v G=>∃ x:PgX,x.m = (decP b number).2 ∧ v = .tuple ⟨[pgv x,.int .i64 (decP b number).1]⟩ ∧ G = (pgc x•R)):=by
 have hn:=ro.len
 subst hn
 haveI:=ro.row
 haveI:=lp.h1
 haveI:=lp.c1
 haveI:=lp.gr1
 obtain ⟨T,hT⟩:∃ T,T = decP b number:=⟨_,rfl⟩
 rw [← hT]
 unfold decP at hT
 rw [if_neg (fun k=>k c1),if_neg (fun k=>k c2),if_neg (by rw [hz];decide),if_neg (fun k=>k c4),if_neg (by rw [c5,hkd];decide),c5] at hT
 obtain ⟨x0,hb0⟩:∃ x,b[0]? = some x:=⟨_,List.getElem?_eq_getElem (by omega)⟩
 obtain ⟨x1,hb1⟩:∃ x,b[1]? = some x:=⟨_,List.getElem?_eq_getElem (by omega)⟩
 rw [getB_one hb0] at c4
 have c5':=c5
 rw [getB_one hb1,hkd] at c5
 subst c4 c5
 have B2:=getB_bd hb 2 2
 have B4:=getB_bd hb 4 2
 have B6:=getB_bd hb 6 2
 have B8:=getB_bd hb 8 4
 have B12:=getB_bd hb 12 4
 have BS:0 ≤ sumP b ∧ sumP b < 4294967296:=crc_bd _
 rw [show (256:Int) ^ 2 = 65536 from by decide] at B2 B4 B6
 rw [show (256:Int) ^ 4 = 4294967296 from by decide] at B8 B12
 obtain ⟨g2,hg2⟩:∃ g,g = getB b 2 2:=⟨_,rfl⟩
 obtain ⟨g4,hg4⟩:∃ g,g = getB b 4 2:=⟨_,rfl⟩
 obtain ⟨g6,hg6⟩:∃ g,g = getB b 6 2:=⟨_,rfl⟩
 obtain ⟨g8,hg8⟩:∃ g,g = getB b 8 4:=⟨_,rfl⟩
 obtain ⟨g12,hg12⟩:∃ g,g = getB b 12 4:=⟨_,rfl⟩
 obtain ⟨sm,hsm⟩:∃ g,g = sumP b:=⟨_,rfl⟩
 have hHL:takes b 0 [1,1,2,2,2,4] = [113,2,g2,g4,g6,g8]:=by
  unfold takes takes takes takes takes takes takes
  rw [getB_one hb0,show 0 + 1 = 1 from rfl,getB_one hb1,show 1 + 1 = 2 from rfl,show 2 + 2 = 4 from rfl,show 4 + 2 = 6 from rfl,show 6 + 2 = 8 from rfl,← hg2,← hg4,← hg6,← hg8]
 rw [← hg2,← hg4,← hg6,← hg8,← hg12,← hsm] at hT
 rw [← hg2] at B2
 rw [← hg4] at B4
 rw [← hg6] at B6
 rw [← hg8] at B8
 rw [← hg12] at B12
 rw [← hsm] at BS
 have hx2:[113,2,g2,g4,g6,g8][2]? = some g2:=rfl
 have hx3:[113,2,g2,g4,g6,g8][3]? = some g4:=rfl
 have hx4:[113,2,g2,g4,g6,g8][4]? = some g6:=rfl
 have hx5:[113,2,g2,g4,g6,g8][5]? = some g8:=rfl
 refine f_zc.does _ _ ?_
 conv=>whnf
 by_cases d1:g12 = sm
 rotate_left
 ·rw [if_pos d1] at hT
  subst hT
  repeat' (first
   | (refine CallK.ret f_page_in.ok pin_spec ?_;rintro v G ⟨rfl,rfl⟩;conv=>whnf)
   | (refine CallK.ret f_zf.ok (pzeros_spec (l:=b) (by omega)) ?_;rw [hz];rintro v G ⟨rfl,rfl⟩;conv=>whnf)
   | (refine CallK.ret f_zu.ok (ptaken_spec (l:=b) (z:=0) [1,1,2,2,2,4] (rs:=⟨inferInstance,rfl⟩) rfl ⟨by omega,by simp [sumN];omega⟩ (by omega) hb hsz_ok (by decide)) ?_;rw [show Int.toNat 0 = 0 from rfl,hHL];rintro v G ⟨ta,tc,rfl,rfl⟩;conv=>whnf)
   | (refine CallK.ret f_zv.ok (get_spec (l:=b) (z:=12) (s:=4) (by omega) (by omega) (by omega) hb) ?_;rw [show Int.toNat 12 = 12 from rfl,show Int.toNat 4 = 4 from rfl,← hg12];rintro v G ⟨rfl,rfl⟩;conv=>whnf)
   | (refine CallK.ret f_zi.ok (psum_spec (l:=b) rfl c2 (by omega) hb) ?_;rw [← hsm];rintro v G ⟨rfl,rfl⟩;conv=>whnf)
   | (refine spl_ndec (fun hd=>?_) (fun hd=>?_) <;> first|(exfalso;omega)|(conv=>whnf))
   | ((first|refine Ld.i ?_|refine LdN.i ?_|refine St.i ⟨rfl,rfl⟩ (List.cons_ne_nil _ _) ?_|refine Ar.i64 (by omega) ?_|refine Ar.u64 (by omega) ?_);conv=>whnf)
   | (intro blk hblk;conv=>whnf)
   | (refine IxS.r (xs:=b) (i:=0) rfl rfl (by omega) (fun ab off ha=>?_);cases ha;conv=>whnf)
   | (refine IxS.r (xs:=b) (i:=1) rfl rfl (by omega) (fun ab off ha=>?_);cases ha;conv=>whnf)
   | ((first|refine Ld.r0 hb0 rfl ?_|refine Ld.r0 hb1 rfl ?_);conv=>whnf)
   | (refine IxS.r (xs:=[113,2,g2,g4,g6,g8]) (i:=3) rfl rfl (by simp) (fun ab off ha=>?_);cases ha;conv=>whnf)
   | (refine Ld.r0 hx3 rfl ?_;conv=>whnf))
  refine ⟨_,_,rfl,?_,pg0 0 0,rfl,rfl,rfl⟩
  refine Imp.pg0 ?_
  first|exact .refl _|exact .drop|exact .fin|((repeat refine .pick ?_);first|exact .refl _|exact .emp _|exact .fin)
 rw [if_neg (fun k=>k d1)] at hT
 by_cases d2:g2 = number
 rotate_left
 ·rw [if_pos d2] at hT
  subst hT
  repeat' (first
   | (refine CallK.ret f_page_in.ok pin_spec ?_;rintro v G ⟨rfl,rfl⟩;conv=>whnf)
   | (refine CallK.ret f_zf.ok (pzeros_spec (l:=b) (by omega)) ?_;rw [hz];rintro v G ⟨rfl,rfl⟩;conv=>whnf)
   | (refine CallK.ret f_zu.ok (ptaken_spec (l:=b) (z:=0) [1,1,2,2,2,4] (rs:=⟨inferInstance,rfl⟩) rfl ⟨by omega,by simp [sumN];omega⟩ (by omega) hb hsz_ok (by decide)) ?_;rw [show Int.toNat 0 = 0 from rfl,hHL];rintro v G ⟨ta,tc,rfl,rfl⟩;conv=>whnf)
   | (refine CallK.ret f_zv.ok (get_spec (l:=b) (z:=12) (s:=4) (by omega) (by omega) (by omega) hb) ?_;rw [show Int.toNat 12 = 12 from rfl,show Int.toNat 4 = 4 from rfl,← hg12];rintro v G ⟨rfl,rfl⟩;conv=>whnf)
   | (refine CallK.ret f_zi.ok (psum_spec (l:=b) rfl c2 (by omega) hb) ?_;rw [← hsm];rintro v G ⟨rfl,rfl⟩;conv=>whnf)
   | (refine spl_ndec (fun hd=>?_) (fun hd=>?_) <;> first|(exfalso;omega)|(conv=>whnf))
   | ((first|refine Ld.i ?_|refine LdN.i ?_|refine St.i ⟨rfl,rfl⟩ (List.cons_ne_nil _ _) ?_|refine Ar.i64 (by omega) ?_|refine Ar.u64 (by omega) ?_);conv=>whnf)
   | (intro blk hblk;conv=>whnf)
   | (refine IxS.r (xs:=b) (i:=0) rfl rfl (by omega) (fun ab off ha=>?_);cases ha;conv=>whnf)
   | (refine IxS.r (xs:=b) (i:=1) rfl rfl (by omega) (fun ab off ha=>?_);cases ha;conv=>whnf)
   | ((first|refine Ld.r0 hb0 rfl ?_|refine Ld.r0 hb1 rfl ?_);conv=>whnf)
   | (refine IxS.r (xs:=[113,2,g2,g4,g6,g8]) (i:=3) rfl rfl (by simp) (fun ab off ha=>?_);cases ha;conv=>whnf)
   | (refine IxS.r (xs:=[113,2,g2,g4,g6,g8]) (i:=2) rfl rfl (by simp) (fun ab off ha=>?_);cases ha;conv=>whnf)
   | ((first|refine Ld.r0 hx3 rfl ?_|refine Ld.r0 hx2 rfl ?_);conv=>whnf))
  refine ⟨_,_,rfl,?_,pg0 0 0,rfl,rfl,rfl⟩
  refine Imp.pg0 ?_
  first|exact .refl _|exact .drop|exact .fin|((repeat refine .pick ?_);first|exact .refl _|exact .emp _|exact .fin)
 rw [if_neg (fun k=>k d2)] at hT
 rw [hkd,show (if (2:Int) = 2 then (84:Int) else 31) = 84 from rfl] at hT
 by_cases d3:¬ (1 ≤ g4 ∧ g4 ≤ 84) ∨ ¬ (1 ≤ g8 ∧ g8 ≤ 2147483647)
 ·rw [if_pos d3] at hT
  subst hT
  repeat' (first
   | (refine CallK.ret f_page_in.ok pin_spec ?_;rintro v G ⟨rfl,rfl⟩;conv=>whnf)
   | (refine CallK.ret f_zf.ok (pzeros_spec (l:=b) (by omega)) ?_;rw [hz];rintro v G ⟨rfl,rfl⟩;conv=>whnf)
   | (refine CallK.ret f_zu.ok (ptaken_spec (l:=b) (z:=0) [1,1,2,2,2,4] (rs:=⟨inferInstance,rfl⟩) rfl ⟨by omega,by simp [sumN];omega⟩ (by omega) hb hsz_ok (by decide)) ?_;rw [show Int.toNat 0 = 0 from rfl,hHL];rintro v G ⟨ta,tc,rfl,rfl⟩;conv=>whnf)
   | (refine CallK.ret f_zv.ok (get_spec (l:=b) (z:=12) (s:=4) (by omega) (by omega) (by omega) hb) ?_;rw [show Int.toNat 12 = 12 from rfl,show Int.toNat 4 = 4 from rfl,← hg12];rintro v G ⟨rfl,rfl⟩;conv=>whnf)
   | (refine CallK.ret f_zi.ok (psum_spec (l:=b) rfl c2 (by omega) hb) ?_;rw [← hsm];rintro v G ⟨rfl,rfl⟩;conv=>whnf)
   | (refine spl_ndec (fun hd=>?_) (fun hd=>?_) <;> first|(exfalso;omega)|(conv=>whnf))
   | ((first|refine Ld.i ?_|refine LdN.i ?_|refine St.i ⟨rfl,rfl⟩ (List.cons_ne_nil _ _) ?_|refine Ar.i64 (by omega) ?_|refine Ar.u64 (by omega) ?_);conv=>whnf)
   | (intro blk hblk;conv=>whnf)
   | (refine IxS.r (xs:=b) (i:=0) rfl rfl (by omega) (fun ab off ha=>?_);cases ha;conv=>whnf)
   | (refine IxS.r (xs:=b) (i:=1) rfl rfl (by omega) (fun ab off ha=>?_);cases ha;conv=>whnf)
   | ((first|refine Ld.r0 hb0 rfl ?_|refine Ld.r0 hb1 rfl ?_);conv=>whnf)
   | (refine IxS.r (xs:=[113,2,g2,g4,g6,g8]) (i:=3) rfl rfl (by simp) (fun ab off ha=>?_);cases ha;conv=>whnf)
   | (refine IxS.r (xs:=[113,2,g2,g4,g6,g8]) (i:=2) rfl rfl (by simp) (fun ab off ha=>?_);cases ha;conv=>whnf)
   | (refine IxS.r (xs:=[113,2,g2,g4,g6,g8]) (i:=5) rfl rfl (by simp) (fun ab off ha=>?_);cases ha;conv=>whnf)
   | ((first|refine Ld.r0 hx3 rfl ?_|refine Ld.r0 hx2 rfl ?_|refine Ld.r0 hx5 rfl ?_);conv=>whnf))
  all_goals
   refine ⟨_,_,rfl,?_,pg0 0 0,rfl,rfl,rfl⟩
   refine Imp.pg0 ?_
   first|exact .refl _|exact .drop|exact .fin|((repeat refine .pick ?_);first|exact .refl _|exact .emp _|exact .fin)
 rw [if_neg d3] at hT
 repeat' (first
  | (refine CallK.ret f_page_in.ok pin_spec ?_;rintro v G ⟨rfl,rfl⟩;conv=>whnf)
  | (refine CallK.ret f_zf.ok (pzeros_spec (l:=b) (by omega)) ?_;rw [hz];rintro v G ⟨rfl,rfl⟩;conv=>whnf)
  | (refine CallK.ret f_zu.ok (ptaken_spec (l:=b) (z:=0) [1,1,2,2,2,4] (rs:=⟨inferInstance,rfl⟩) rfl ⟨by omega,by simp [sumN];omega⟩ (by omega) hb hsz_ok (by decide)) ?_;rw [show Int.toNat 0 = 0 from rfl,hHL];rintro v G ⟨ta,tc,rfl,rfl⟩;conv=>whnf)
  | (refine CallK.ret f_zv.ok (get_spec (l:=b) (z:=12) (s:=4) (by omega) (by omega) (by omega) hb) ?_;rw [show Int.toNat 12 = 12 from rfl,show Int.toNat 4 = 4 from rfl,← hg12];rintro v G ⟨rfl,rfl⟩;conv=>whnf)
  | (refine CallK.ret f_zi.ok (psum_spec (l:=b) rfl c2 (by omega) hb) ?_;rw [← hsm];rintro v G ⟨rfl,rfl⟩;conv=>whnf)
  | (refine spl_ndec (fun hd=>?_) (fun hd=>?_) <;> first|(exfalso;omega)|(conv=>whnf))
  | ((first|refine Ld.i ?_|refine St.i ⟨rfl,rfl⟩ (List.cons_ne_nil _ _) ?_|refine Ar.i64 (by omega) ?_|refine Ar.u64 (by omega) ?_);conv=>whnf)
  | (intro blk hblk;conv=>whnf)
  | (refine IxS.r (xs:=b) (i:=0) rfl rfl (by omega) (fun ab off ha=>?_);cases ha;conv=>whnf)
  | (refine IxS.r (xs:=b) (i:=1) rfl rfl (by omega) (fun ab off ha=>?_);cases ha;conv=>whnf)
  | ((first|refine Ld.r0 hb0 rfl ?_|refine Ld.r0 hb1 rfl ?_);conv=>whnf)
  | (refine IxS.r (xs:=[113,2,g2,g4,g6,g8]) (i:=3) rfl rfl (by simp) (fun ab off ha=>?_);cases ha;conv=>whnf)
  | (refine IxS.r (xs:=[113,2,g2,g4,g6,g8]) (i:=2) rfl rfl (by simp) (fun ab off ha=>?_);cases ha;conv=>whnf)
  | (refine IxS.r (xs:=[113,2,g2,g4,g6,g8]) (i:=5) rfl rfl (by simp) (fun ab off ha=>?_);cases ha;conv=>whnf)
  | ((first|refine Ld.r0 hx3 rfl ?_|refine Ld.r0 hx2 rfl ?_|refine Ld.r0 hx5 rfl ?_);conv=>whnf))
 obtain ⟨n,hn4⟩:∃ n:Nat,g4 = n:=⟨g4.toNat,by omega⟩
 subst hn4
 have hns:n ≤ 84 ∧ 16 + n * 12 ≤ 1024:=by omega
 refine LoopK.at tab_ok (L:=f_zc.live) (ι:=Nat × Option Addr × Nat) (fun i=>i.1 ≤ n) (fun i=>[(102,.int .i64 i.1)]) (fun i=>pts blk (.cells ⟨[.int .i64 number,.int .i64 g8,.slice none 0 0,.slice i.2.1 (grpsD b i.1).length i.2.2]⟩ t_page_Page)•vec t_api_Group 2 grpv i.2.1 i.2.2 (grpsD b i.1)) (fun i=>n - i.1) (0,none,0) (Nat.zero_le _) (fun t v h=>h) (by show Imp _ ((pts blk (.cells ⟨[.int .i64 number,.int .i64 g8,.slice none 0 0,.slice none 0 0]⟩ t_page_Page)•vec t_api_Group 2 grpv none 0 [])•_);rw [star_assoc];exact Imp.pick (Imp.vnil (Imp.refl _))) ?_
 rintro ⟨i,oa,oc⟩ hi
 dsimp only at hi ⊢
 rw [star_assoc]
 conv=>whnf
 have hil:=grpsD_len b i
 by_cases k1:i < n
 ·have y0b:=getB_bd hb (16 + i * 12) 4
  have y1b:=getB_bd hb (16 + i * 12 + 4) 8
  rw [show (256:Int) ^ 4 = 4294967296 from by decide] at y0b
  rw [show (256:Int) ^ 8 = 18446744073709551616 from by decide] at y1b
  have hgd:grpsD b (i + 1) = grpsD b i ++ [⟨getB b (16 + i * 12) 4,s64 (getB b (16 + i * 12 + 4) 8)⟩]:=grpsD_succ b i
  obtain ⟨y0,hy0⟩:∃ y,y = getB b (16 + i * 12) 4:=⟨_,rfl⟩
  obtain ⟨y1,hy1⟩:∃ y,y = getB b (16 + i * 12 + 4) 8:=⟨_,rfl⟩
  have hTK:takes b (16 + (i:Int) * 12).toNat [4,8] = [y0,y1]:=by
   rw [show (16 + (i:Int) * 12).toNat = 16 + i * 12 by omega]
   unfold takes takes takes
   rw [← hy0,← hy1]
  rw [← hy0,← hy1,← s64_wrap (by rw [hy1];exact y1b)] at hgd
  rw [← hy0] at y0b
  have hw0:[y0,y1][0]? = some y0:=rfl
  have hw1:[y0,y1][1]? = some y1:=rfl
  repeat' (first
   | (refine CallK.ret f_zu.ok (ptaken_spec (l:=b) (z:=16 + (i:Int) * 12) [4,8] (rs:=⟨inferInstance,rfl⟩) rfl ⟨by omega,by simp [sumN];omega⟩ (by omega) hb gsz_ok (by decide)) ?_;rw [hTK];rintro v G ⟨ua,uc,rfl,rfl⟩;conv=>whnf)
   | (refine Ar.i64 (by omega) ?_;conv=>whnf)
   | (refine spl_dec (fun hd=>?_) (fun hd=>?_) <;> first|(exfalso;omega)|(conv=>whnf))
   | ((first|refine Ld.i ?_|refine St.i ⟨rfl,rfl⟩ (List.cons_ne_nil _ _) ?_);conv=>whnf)
   | (intro blk hblk;conv=>whnf)
   | (refine IxS.r (xs:=b) (i:=1) rfl rfl (by omega) (fun ab off ha=>?_);cases ha;conv=>whnf)
   | (refine Ld.r0 hb1 rfl ?_;conv=>whnf)
   | (refine IxS.r (xs:=[y0,y1]) (i:=0) rfl rfl (by simp) (fun ab off ha=>?_);cases ha;conv=>whnf)
   | (refine IxS.r (xs:=[y0,y1]) (i:=1) rfl rfl (by simp) (fun ab off ha=>?_);cases ha;conv=>whnf)
   | ((first|refine Ld.r0 hw0 rfl ?_|refine Ld.r0 hw1 rfl ?_|refine Ar.i64w ?_);conv=>whnf)
   | (refine OpX.app1g (xs:=grpsD b i) tab_ok rfl rfl rfl rfl rfl rfl (by omega) (fun a' c'=>?_);conv=>whnf)
   | (refine Sub.on (by first|exact .refl _|exact .drop|exact .fin|((repeat refine .pick ?_);first|exact .refl _|exact .emp _|exact .fin)) ?_;conv=>whnf)
   | (refine DrawK.introH tab_ok mixed 116 f_zc.last29 f_zc.plan29 _ rfl (by kernel_rfl) (Sub.of (by first|exact .refl _|exact .drop|exact .fin|((repeat refine .pick ?_);first|exact .refl _|exact .emp _|exact .fin))) ?_;conv=>whnf))
  refine ⟨rfl,(i + 1,a',c'),k1,fun t v h=>h,?_,by dsimp only;omega⟩
  dsimp only
  rw [star_assoc,hgd]
  first|exact .refl _|exact .drop|exact .fin|((repeat refine .pick ?_);first|exact .refl _|exact .emp _|exact .fin)
 ·have hin:i = n:=by omega
  subst hin
  obtain ⟨GL,hGL⟩:∃ G,G = grpsD b i:=⟨_,rfl⟩
  have hpg:pgD b number = ⟨number,g8,[],GL⟩:=by unfold pgD;rw [c5',hkd,if_pos rfl,← hg8,← hg4,Int.toNat_natCast,hGL]
  have hsz:szD b = 12:=by unfold szD;rw [c5',hkd];rfl
  rw [hpg,hsz,Int.toNat_natCast] at hT
  dsimp only at hT
  rw [← hGL] at hil ⊢
  obtain ⟨cf,hcf⟩:∃ c,c = contF [] GL:=⟨_,rfl⟩
  obtain ⟨zz,hzz⟩:∃ z,z = zerosB (b.drop (16 + i * 12)):=⟨_,rfl⟩
  rw [← hcf,← hzz] at hT
  by_cases e1:cf = 0
  rotate_left
  ·rw [if_pos e1] at hT
   subst hT
   repeat' (first
    | (refine CallK.ret f_zp.ok (contents_spec (C:=[]) (G:=GL) (rc:=⟨RowC.nil,rfl⟩) (by simp) (by omega)) ?_;rw [← hcf];rintro v G ⟨rfl,rfl⟩;conv=>whnf)
    | (refine spl_dec (fun hd=>?_) (fun hd=>?_) <;> first|(exfalso;omega)|(conv=>whnf))
    | (refine spl_ndec (fun hd=>?_) (fun hd=>?_) <;> first|(exfalso;omega)|(conv=>whnf))
    | ((first|refine LdN.i ?_|refine St.i ⟨rfl,rfl⟩ (List.cons_ne_nil _ _) ?_);conv=>whnf))
   refine ⟨_,_,rfl,?_,pg0 0 0,rfl,rfl,rfl⟩
   refine Imp.pg0 ?_
   first|exact .refl _|exact .drop|exact .fin|((repeat refine .pick ?_);first|exact .refl _|exact .emp _|exact .fin)
  rw [if_neg (fun k=>k e1)] at hT
  by_cases e2:g6 = 0
  rotate_left
  ·rw [if_pos (.inl e2)] at hT
   subst hT
   repeat' (first
    | (refine CallK.ret f_zp.ok (contents_spec (C:=[]) (G:=GL) (rc:=⟨RowC.nil,rfl⟩) (by simp) (by omega)) ?_;rw [← hcf];rintro v G ⟨rfl,rfl⟩;conv=>whnf)
    | (refine spl_dec (fun hd=>?_) (fun hd=>?_) <;> first|(exfalso;omega)|(conv=>whnf))
    | (refine spl_ndec (fun hd=>?_) (fun hd=>?_) <;> first|(exfalso;omega)|(conv=>whnf))
    | ((first|refine LdN.i ?_|refine St.i ⟨rfl,rfl⟩ (List.cons_ne_nil _ _) ?_);conv=>whnf)
    | (refine IxS.r (xs:=[113,2,g2,(i:Int),g6,g8]) (i:=4) rfl rfl (by simp) (fun ab off ha=>?_);cases ha;conv=>whnf)
    | (refine Ld.r0 hx4 rfl ?_;conv=>whnf))
   refine ⟨_,_,rfl,?_,pg0 0 0,rfl,rfl,rfl⟩
   refine Imp.pg0 ?_
   first|exact .refl _|exact .drop|exact .fin|((repeat refine .pick ?_);first|exact .refl _|exact .emp _|exact .fin)
  cases zz with
  | false =>
   rw [if_pos (.inr rfl)] at hT
   subst hT
   repeat' (first
    | (refine CallK.ret f_zp.ok (contents_spec (C:=[]) (G:=GL) (rc:=⟨RowC.nil,rfl⟩) (by simp) (by omega)) ?_;rw [← hcf];rintro v G ⟨rfl,rfl⟩;conv=>whnf)
    | (refine CallK.ret f_zf.ok (pzeros_spec (l:=b.drop (16 + i * 12)) (ro:=⟨RowC.drop (16 + i * 12) cap hc inferInstance,by rw [List.length_drop]⟩) (by rw [List.length_drop];omega)) ?_;rw [← hzz];rintro v G ⟨rfl,rfl⟩;conv=>whnf)
    | (refine spl_dec (fun hd=>?_) (fun hd=>?_) <;> first|(exfalso;omega)|(conv=>whnf))
    | (refine spl_ndec (fun hd=>?_) (fun hd=>?_) <;> first|(exfalso;omega)|(conv=>whnf))
    | ((first|refine LdN.i ?_|refine St.i ⟨rfl,rfl⟩ (List.cons_ne_nil _ _) ?_|refine Ar.i64 (by omega) ?_);conv=>whnf)
    | (refine IxS.r (xs:=[113,2,g2,(i:Int),g6,g8]) (i:=4) rfl rfl (by simp) (fun ab off ha=>?_);cases ha;conv=>whnf)
    | (refine Ld.r0 hx4 rfl ?_;conv=>whnf)
    | (refine OpX.of_quiet (OpQ.slr tab_ok (16 + i * 12) rfl rfl rfl rfl (by omega) (by omega) ?_);conv=>whnf))
   refine ⟨_,_,rfl,?_,pg0 0 0,rfl,rfl,rfl⟩
   refine Imp.pg0 ?_
   first|exact .refl _|exact .drop|exact .fin|((repeat refine .pick ?_);first|exact .refl _|exact .emp _|exact .fin)
  | true =>
   rw [if_neg (by rw [e2];decide)] at hT
   subst hT
   repeat' (first
    | (refine CallK.ret f_zp.ok (contents_spec (C:=[]) (G:=GL) (rc:=⟨RowC.nil,rfl⟩) (by simp) (by omega)) ?_;rw [← hcf];rintro v G ⟨rfl,rfl⟩;conv=>whnf)
    | (refine CallK.ret f_zf.ok (pzeros_spec (l:=b.drop (16 + i * 12)) (ro:=⟨RowC.drop (16 + i * 12) cap hc inferInstance,by rw [List.length_drop]⟩) (by rw [List.length_drop];omega)) ?_;rw [← hzz];rintro v G ⟨rfl,rfl⟩;conv=>whnf)
    | (refine spl_dec (fun hd=>?_) (fun hd=>?_) <;> first|(exfalso;omega)|(conv=>whnf))
    | (refine spl_ndec (fun hd=>?_) (fun hd=>?_) <;> first|(exfalso;omega)|(conv=>whnf))
    | ((first|refine LdN.i ?_|refine St.i ⟨rfl,rfl⟩ (List.cons_ne_nil _ _) ?_|refine Ar.i64 (by omega) ?_);conv=>whnf)
    | (refine IxS.r (xs:=[113,2,g2,(i:Int),g6,g8]) (i:=4) rfl rfl (by simp) (fun ab off ha=>?_);cases ha;conv=>whnf)
    | (refine Ld.r0 hx4 rfl ?_;conv=>whnf)
    | (refine OpX.of_quiet (OpQ.slr tab_ok (16 + i * 12) rfl rfl rfl rfl (by omega) (by omega) ?_);conv=>whnf))
   refine ⟨_,_,rfl,?_,⟨⟨number,g8,[],GL⟩,none,0,oa,oc⟩,rfl,rfl,rfl⟩
   rw [pgc_eq]
   refine Imp.vnil ?_
   first|exact .refl _|exact .drop|exact .fin|((repeat refine .pick ?_);first|exact .refl _|exact .emp _|exact .fin)
end
end Go.Proofs.YtbcedpankkdfoaaGreatDoor
