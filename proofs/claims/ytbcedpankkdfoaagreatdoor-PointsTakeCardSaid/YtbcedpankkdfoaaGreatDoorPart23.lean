/- The program's page.Encode, walked. Conditions: in each statement. -/
import Derived.Test.YtbcedpankkdfoaaGreatDoorPart21
import Derived.Test.YtbcedpankkdfoaaGreatDoorPart22
import Derived.Test.YtbcedpankkdfoaaGreatDoorPart19
import Derived.Test.YtbcedpankkdfoaaGreatDoorPart17
set_option linter.unusedVariables false
set_option linter.unusedSimpArgs false
namespace Go.SL.Pg
open Go Go.SL Go.SL.Sec Go.SL.Fld Go.SL.Rec
theorem cntL_ok {c:CntV} (h:cntF c = 0):∀ p ∈ cntL c,(1 ≤ p.1 ∧ p.1 ≤ 8) ∧ 0 ≤ p.2 ∧ p.2 < 256 ^ p.1:=by
 obtain ⟨h1,h2,h3⟩:=cntF_ok h
 have b3:=u64_bd c.lo
 have b4:=u64_bd c.hi
 have b5:=u64_bd c.val
 have e1:=u64_small (z:=c.id) (by omega)
 have e2:=u64_small (z:=c.grp) (by omega)
 intro p hp
 simp only [cntL,List.mem_cons,List.not_mem_nil,or_false] at hp
 rcases hp with rfl|rfl|rfl|rfl|rfl
 ·exact ⟨by simp,by rw [e1,p4];omega⟩
 ·exact ⟨by simp,by rw [e2,p4];omega⟩
 ·exact ⟨by simp,by rw [p8];exact b3⟩
 ·exact ⟨by simp,by rw [p8];exact b4⟩
 ·exact ⟨by simp,by rw [p8];exact b5⟩
theorem grpL_ok {g:GrpV} (h:grpF g = 0):∀ p ∈ grpL g,(1 ≤ p.1 ∧ p.1 ≤ 8) ∧ 0 ≤ p.2 ∧ p.2 < 256 ^ p.1:=by
 have h1:=grpF_ok h
 have b2:=u64_bd g.sum
 have e1:=u64_small (z:=g.id) (by omega)
 intro p hp
 simp only [grpL,List.mem_cons,List.not_mem_nil,or_false] at hp
 rcases hp with rfl|rfl
 ·exact ⟨by simp,by rw [e1,p4];omega⟩
 ·exact ⟨by simp,by rw [p8];exact b2⟩
theorem headL_ok {p:PgM} (h:p.fault = 0):∀ q ∈ p.headL,(1 ≤ q.1 ∧ q.1 ≤ 8) ∧ 0 ≤ q.2 ∧ q.2 < 256 ^ q.1:=by
 obtain ⟨h1,h2,h3,h4,h5,h6⟩:=PgM.fault_ok h
 have e1:=u64_small (z:=p.num) (by omega)
 have e2:=u64_small (z:=p.lsn) (by omega)
 intro q hq
 simp only [PgM.headL,List.mem_cons,List.not_mem_nil,or_false] at hq
 rcases hq with rfl|rfl|rfl|rfl|rfl|rfl
 ·exact ⟨by simp,by decide⟩
 ·refine ⟨by simp,?_⟩
  dsimp only
  rw [p1]
  split <;> omega
 ·exact ⟨by simp,by rw [e1,p2];omega⟩
 ·exact ⟨by simp,by rw [p2];dsimp only;omega⟩
 ·exact ⟨by simp,by decide⟩
 ·exact ⟨by simp,by rw [e2,p4];omega⟩
theorem flat_take1 {α:Type} {f:α → List Int} {l:List α} {i:Nat} {x:α} (h:l[i]? = some x):(l.take (i + 1)).flatMap f = (l.take i).flatMap f ++ f x:=by
 rw [List.take_add_one,h,List.flatMap_append];simp
end Go.SL.Pg
namespace Go.Proofs.YtbcedpankkdfoaaGreatDoor
open Go Go.SL Go.SL.Sec Go.SL.Fld Go.SL.Pts Go.SL.Rec Go.SL.Pg
section
variable {W:World} {R:HProp} {num lsn:Int} {ca ga:Option Addr} {nC cc nG gc:Nat} {C:List CntV} {G:List GrpV}
theorem pencode_no [rc:RowN W R ca nC 5 cntv C] [rg:RowN W R ga nG 2 grpv G] (hC:C.length ≤ 1000000000) (hG:G.length ≤ 1000000000) (hf:PgM.fault ⟨num,lsn,C,G⟩ ≠ 0) :
  Does prog W f_zg ⟨[.agg ⟨[.int .i64 num,.int .i64 lsn,.slice ca nC cc,.slice ga nG gc]⟩]⟩ R (Ret fun v Q=>v = .tuple ⟨[.slice none 0 0,.int .i64 (PgM.fault ⟨num,lsn,C,G⟩)]⟩ ∧ Q = R):=by
 obtain ⟨F,hF⟩:∃ F,F = PgM.fault ⟨num,lsn,C,G⟩:=⟨_,rfl⟩
 rw [← hF] at hf ⊢
 refine f_zg.does _ ?_
 conv=>whnf
 repeat' (first
  | (refine CallK.ret f_z13.ok (refused_spec hC hG) ?_;rw [← hF];rintro v G ⟨rfl,rfl⟩;conv=>whnf)
  | (rw [decide_eq_false hf];conv=>whnf)
  | (refine LdN.i ?_;conv=>whnf)
  | (intro blk hblk;conv=>whnf))
 refine Ret.eq rfl ?_
 first|exact .refl _|exact .drop|exact .fin|((repeat refine .pick ?_);first|exact .refl _|exact .emp _|exact .fin)
set_option maxHeartbeats 2000000 in
theorem pencode_yes [lc:LaidC W] [lp:LaidP W] [oc:OldC W R] [rc:RowN W R ca nC 5 cntv C] [rg:RowN W R ga nG 2 grpv G] (hf:PgM.fault ⟨num,lsn,C,G⟩ = 0) :
  Does prog W f_zg ⟨[.agg ⟨[.int .i64 num,.int .i64 lsn,.slice ca nC cc,.slice ga nG gc]⟩]⟩ R (Ret fun v Q=>∃ a c,1024 ≤ c ∧ v = .tuple ⟨[.slice a 1024 c,i0]⟩ ∧ Q = (vec t_uint8 1 bytv a c (encP ⟨num,lsn,C,G⟩)•R)):=by
 have h1:=rc.len
 have h2:=rg.len
 subst h1 h2
 haveI rC:=rc.row
 haveI rG:=rg.row
 obtain ⟨f1,f2,f3,f4,f5,f6⟩:=PgM.fault_ok hf
 dsimp only at f1 f2 f3 f4 f5 f6
 obtain ⟨cC,cG⟩:=contF_mem f6
 haveI:=lp.h1
 haveI:=lp.c1
 haveI:=lp.gr1
 refine f_zg.does _ ?_
 conv=>whnf
 by_cases hn:C.length + G.length = 0
 ·have e:encP ⟨num,lsn,C,G⟩ = z1024:=by unfold encP;rw [if_pos hn]
  rw [e]
  repeat' (first
   | (refine CallK.ret f_z13.ok (refused_spec (C:=C) (G:=G) (by omega) (by omega)) ?_;rw [hf];rintro v G ⟨rfl,rfl⟩;conv=>whnf)
   | (refine CallK.ret f_z2g.ok (size_spec (by omega) (by omega)) ?_;rw [hn];rintro v G ⟨rfl,rfl⟩;conv=>whnf)
   | (refine LdN.i ?_;conv=>whnf)
   | (intro blk hblk;conv=>whnf)
   | (refine OpX.make tab_ok bytv 0 rfl rfl rfl rfl rfl rfl (by omega) (fun s hs=>?_);rw [show List.replicate (Int.toNat 1024) (0:Int) = z1024 from rfl,show Int.toNat 1024 = 1024 from rfl];conv=>whnf))
  refine ⟨_,_,rfl,?_,some ⟨s,0,none⟩,1024,Nat.le_refl _,rfl,rfl⟩
  first|exact .refl _|exact .drop|exact .fin|((repeat refine .pick ?_);first|exact .refl _|exact .emp _|exact .fin)
 obtain ⟨z,hz⟩:∃ z:Nat,z = C.length + G.length:=⟨_,rfl⟩
 have hz0:¬ ((z:Nat):Int) = 0:=by omega
 have hH:∀ kd:Int,kd = (if G.length > 0 then 2 else 1) → [(1,113),(1,kd),(2,num),(2,(z:Int)),(2,0),(4,lsn)] = PgM.headL ⟨num,lsn,C,G⟩:=fun kd hk=>by
  unfold PgM.headL
  dsimp only
  rw [hk,hz,u64_small (z:=num) (by omega),u64_small (z:=lsn) (by omega)]
 obtain ⟨hd12,hhd⟩:∃ h,h = over z1024 0 (lays (PgM.headL ⟨num,lsn,C,G⟩)):=⟨_,rfl⟩
 have hhl:hd12.length = 1024:=by rw [hhd,over_len (by rw [headL_len,z1024_len];omega),z1024_len]
 have hcf:∀ i,((C.take i).flatMap fun c=>lays (cntL c)).length = min i C.length * 32:=fun i=>by rw [flat_len cntL_len,List.length_take]
 have hgf:∀ i,((G.take i).flatMap fun g=>lays (grpL g)).length = min i G.length * 12:=fun i=>by rw [flat_len grpL_len,List.length_take]
 by_cases hg:G.length > 0
 ·repeat' (first
   | (refine CallK.ret f_z13.ok (refused_spec (C:=C) (G:=G) (by omega) (by omega)) ?_;rw [hf];rintro v G ⟨rfl,rfl⟩;conv=>whnf)
   | (refine OpX.make tab_ok bytv 0 rfl rfl rfl rfl rfl rfl (by omega) (fun s hs=>?_);rw [show List.replicate (Int.toNat 1024) (0:Int) = z1024 from rfl,show Int.toNat 1024 = 1024 from rfl];conv=>whnf)
   | (refine CallK.ret f_z2g.ok (size_spec (by omega) (by omega)) ?_;rw [← hz];rintro v G ⟨rfl,rfl⟩;conv=>whnf)
   | (rw [decide_eq_false hz0];conv=>whnf)
   | (refine spl_dec (fun hd=>?_) (fun hd=>?_) <;> first|(exfalso;omega)|(conv=>whnf))
   | ((first|refine Ld.i ?_|refine LdN.i ?_|refine Ar.u64 (by omega) ?_);conv=>whnf)
   | (intro blk hblk;conv=>whnf)
   | (refine Sub.on (by first|exact .refl _|exact .drop|exact .fin|((repeat refine .pick ?_);first|exact .refl _|exact .emp _|exact .fin)) ?_;conv=>whnf)
   | (refine DrawK.introH tab_ok mixed 25 f_zg.last10 f_zg.plan10 _ rfl (by kernel_rfl) (Sub.of (by first|exact .refl _|exact .drop|exact .fin|((repeat refine .pick ?_);first|exact .refl _|exact .emp _|exact .fin))) ?_;conv=>whnf))
  refine CallK.ret f_z1t.ok (plaid_spec (l:=z1024) (z:=0) (PgM.headL ⟨num,lsn,C,G⟩) (rs:=⟨inferInstance,rfl⟩) (rn:=⟨inferInstance,rfl⟩) z1024_len.symm rfl (by rw [← hH 2 (by rw [if_pos hg])];rfl) ⟨by omega,by rw [z1024_len];simp [PgM.headL,laysN]⟩ (by rw [z1024_len];decide) (headL_ok hf) (by simp [PgM.headL])) ?_
  rw [show Int.toNat 0 = 0 from rfl,← hhd]
  rintro v Q ⟨rfl,rfl⟩
  conv=>whnf
  repeat' (first
   | (refine Ld.i ?_;conv=>whnf))
  refine LoopK.at tab_ok (L:=f_zg.live) (ι:=Nat) (fun i=>i ≤ C.length) (fun i=>[(42,.int .i64 i)]) (fun i=>vec t_uint8 1 bytv (some ⟨s,0,none⟩) 1024 (over hd12 16 ((C.take i).flatMap fun c=>lays (cntL c)))) (fun i=>C.length - i) 0 (Nat.zero_le _) (fun t v h=>h) (by rw [List.take_zero,List.flatMap_nil,over_nil];exact Imp.refl _) ?_
  rintro i hi
  conv=>whnf
  have hfl:=hcf i
  have hol:(over hd12 16 ((C.take i).flatMap fun c=>lays (cntL c))).length = 1024:=by rw [over_len (by rw [hfl];omega),hhl]
  by_cases k1:i < C.length
  ·exact absurd k1 (by omega)
  ·rw [List.take_of_length_le (by omega)]
   have hcl:(C.flatMap fun c=>lays (cntL c)).length = C.length * 32:=flat_len cntL_len C
   repeat' (first
    | (refine spl_dec (fun hd=>?_) (fun hd=>?_) <;> first|(exfalso;omega)|(conv=>whnf))
    | (refine Ld.i ?_;conv=>whnf))
   refine LoopK.at tab_ok (L:=f_zg.live) (ι:=Nat) (fun i=>i ≤ G.length) (fun i=>[(75,.int .i64 i)]) (fun i=>vec t_uint8 1 bytv (some ⟨s,0,none⟩) 1024 (over hd12 16 ((C.flatMap fun c=>lays (cntL c)) ++ (G.take i).flatMap fun g=>lays (grpL g)))) (fun i=>G.length - i) 0 (Nat.zero_le _) (fun t v h=>h) (by rw [List.take_zero,List.flatMap_nil,List.append_nil];exact Imp.refl _) ?_
   rintro j hj
   conv=>whnf
   have hgl:=hgf j
   have hol2:(over hd12 16 ((C.flatMap fun c=>lays (cntL c)) ++ (G.take j).flatMap fun g=>lays (grpL g))).length = 1024:=by rw [over_len (by rw [List.length_append,hcl,hgl,hhl];omega),hhl]
   by_cases k2:j < G.length
   ·obtain ⟨x,hx⟩:∃ x,G[j]? = some x:=⟨_,List.getElem?_eq_getElem k2⟩
    have cf:=cG x (List.mem_of_getElem? hx)
    have hxb:=grpF_ok cf
    repeat' (first
     | (refine spl_dec (fun hd=>?_) (fun hd=>?_) <;> first|(exfalso;omega)|(conv=>whnf))
     | ((first|refine Ld.i ?_|refine St.i ⟨rfl,rfl⟩ (List.cons_ne_nil _ _) ?_|refine Ar.i64 (by omega) ?_|refine Ar.u64 (by omega) ?_);conv=>whnf)
     | (intro blk hblk;conv=>whnf)
     | (refine IxS.r (i:=j) rfl rfl k2 (fun ab off ha=>?_);cases ha;conv=>whnf)
     | ((first|refine LdN.r hx rfl ?_|refine Ar.u64w ?_);conv=>whnf))
    refine CallK.ret f_z1t.ok (plaid_spec (l:=over hd12 16 ((C.flatMap fun c=>lays (cntL c)) ++ (G.take j).flatMap fun g=>lays (grpL g))) (z:=16 + (j:Int) * 12) (grpL x) (rs:=⟨inferInstance,rfl⟩) (rn:=⟨inferInstance,rfl⟩) hol2.symm rfl (by simp only [grpL,List.map_cons,List.map_nil];rw [u64_small (z:=x.id) (by omega)];rfl) ⟨by omega,by rw [hol2];simp only [grpL,laysN];omega⟩ (by rw [hol2];decide) (grpL_ok cf) (by simp [grpL])) ?_
    rintro v Q ⟨rfl,rfl⟩
    conv=>whnf
    have e:over (over hd12 16 ((C.flatMap fun c=>lays (cntL c)) ++ (G.take j).flatMap fun g=>lays (grpL g))) (16 + (j:Int) * 12).toNat (lays (grpL x)) = over hd12 16 ((C.flatMap fun c=>lays (cntL c)) ++ (G.take (j + 1)).flatMap fun g=>lays (grpL g)):=by
     rw [flat_take1 hx,← List.append_assoc,show (16 + (j:Int) * 12).toNat = 16 + ((C.flatMap fun c=>lays (cntL c)) ++ (G.take j).flatMap fun g=>lays (grpL g)).length by rw [List.length_append,hcl,hgl];omega]
     exact over_over (by rw [List.length_append,hcl,hgl,hhl];omega)
    rw [e]
    repeat' (first
     | (refine Ar.i64 (by omega) ?_;conv=>whnf))
    all_goals
     refine ⟨rfl,j + 1,k2,fun t v h=>h,?_,by omega⟩
     first|exact .refl _|exact .drop|exact .fin|((repeat refine .pick ?_);first|exact .refl _|exact .emp _|exact .fin)
   ·rw [List.take_of_length_le (l:=G) (by omega)] at hol2 ⊢
    obtain ⟨B,hB⟩:∃ B,B = over hd12 16 ((C.flatMap fun c=>lays (cntL c)) ++ G.flatMap fun g=>lays (grpL g)):=⟨_,rfl⟩
    have hBb:B = PgM.bare ⟨num,lsn,C,G⟩:=by rw [hB,hhd];rfl
    have hBy:Byt B:=by rw [hBb];exact over_byt (over_byt z1024_byt (lays_byt _)) (body_byt _)
    rw [← hB] at hol2 ⊢
    have hsb:=crc_bd (B.take 12 ++ [0,0,0,0] ++ B.drop 16)
    obtain ⟨cs,hcs⟩:∃ c,c = sumP B:=⟨_,rfl⟩
    rw [show crcV (B.take 12 ++ [0,0,0,0] ++ B.drop 16) = sumP B from rfl,← hcs] at hsb
    repeat' (first
     | (refine CallK.ret f_zi.ok (psum_spec (l:=B) hol2.symm hol2 (Nat.le_refl _) hBy) ?_;rw [← hcs];rintro v Q ⟨rfl,rfl⟩;conv=>whnf)
     | (refine spl_dec (fun hd=>?_) (fun hd=>?_) <;> first|(exfalso;omega)|(conv=>whnf))
     | (refine Ar.u64 (by omega) ?_;conv=>whnf)
     | (intro blk hblk;conv=>whnf))
    refine CallK.ret f_z1t.ok (plaid_spec (l:=B) (z:=12) [(4,cs)] (rs:=⟨inferInstance,rfl⟩) (rn:=⟨inferInstance,rfl⟩) hol2.symm rfl rfl ⟨by omega,by rw [hol2];simp [laysN]⟩ (by rw [hol2];decide) (by simp only [List.mem_cons,List.not_mem_nil,or_false];rintro p rfl;exact ⟨by simp,by rw [p4];exact hsb⟩) (by simp)) ?_
    rintro v Q ⟨rfl,rfl⟩
    have e:over B (Int.toNat 12) (lays [(4,cs)]) = encP ⟨num,lsn,C,G⟩:=by
     unfold encP
     rw [if_neg hn,← hBb,hcs]
     show over B 12 (Fld.leB 4 _ ++ []) = _
     rw [List.append_nil]
    rw [e]
    conv=>whnf
    skip
    refine ⟨_,_,rfl,?_,some ⟨s,0,none⟩,1024,Nat.le_refl _,rfl,rfl⟩
    first|exact .refl _|exact .drop|exact .fin|((repeat refine .pick ?_);first|exact .refl _|exact .emp _|exact .fin)
 ·repeat' (first
   | (refine CallK.ret f_z13.ok (refused_spec (C:=C) (G:=G) (by omega) (by omega)) ?_;rw [hf];rintro v G ⟨rfl,rfl⟩;conv=>whnf)
   | (refine OpX.make tab_ok bytv 0 rfl rfl rfl rfl rfl rfl (by omega) (fun s hs=>?_);rw [show List.replicate (Int.toNat 1024) (0:Int) = z1024 from rfl,show Int.toNat 1024 = 1024 from rfl];conv=>whnf)
   | (refine CallK.ret f_z2g.ok (size_spec (by omega) (by omega)) ?_;rw [← hz];rintro v G ⟨rfl,rfl⟩;conv=>whnf)
   | (rw [decide_eq_false hz0];conv=>whnf)
   | (refine spl_dec (fun hd=>?_) (fun hd=>?_) <;> first|(exfalso;omega)|(conv=>whnf))
   | ((first|refine Ld.i ?_|refine LdN.i ?_|refine Ar.u64 (by omega) ?_);conv=>whnf)
   | (intro blk hblk;conv=>whnf)
   | (refine Sub.on (by first|exact .refl _|exact .drop|exact .fin|((repeat refine .pick ?_);first|exact .refl _|exact .emp _|exact .fin)) ?_;conv=>whnf)
   | (refine DrawK.introH tab_ok mixed 25 f_zg.last10 f_zg.plan10 _ rfl (by kernel_rfl) (Sub.of (by first|exact .refl _|exact .drop|exact .fin|((repeat refine .pick ?_);first|exact .refl _|exact .emp _|exact .fin))) ?_;conv=>whnf))
  refine CallK.ret f_z1t.ok (plaid_spec (l:=z1024) (z:=0) (PgM.headL ⟨num,lsn,C,G⟩) (rs:=⟨inferInstance,rfl⟩) (rn:=⟨inferInstance,rfl⟩) z1024_len.symm rfl (by rw [← hH 1 (by rw [if_neg hg])];rfl) ⟨by omega,by rw [z1024_len];simp [PgM.headL,laysN]⟩ (by rw [z1024_len];decide) (headL_ok hf) (by simp [PgM.headL])) ?_
  rw [show Int.toNat 0 = 0 from rfl,← hhd]
  rintro v Q ⟨rfl,rfl⟩
  conv=>whnf
  repeat' (first
   | (refine Ld.i ?_;conv=>whnf))
  refine LoopK.at tab_ok (L:=f_zg.live) (ι:=Nat) (fun i=>i ≤ C.length) (fun i=>[(42,.int .i64 i)]) (fun i=>vec t_uint8 1 bytv (some ⟨s,0,none⟩) 1024 (over hd12 16 ((C.take i).flatMap fun c=>lays (cntL c)))) (fun i=>C.length - i) 0 (Nat.zero_le _) (fun t v h=>h) (by rw [List.take_zero,List.flatMap_nil,over_nil];exact Imp.refl _) ?_
  rintro i hi
  conv=>whnf
  have hfl:=hcf i
  have hol:(over hd12 16 ((C.take i).flatMap fun c=>lays (cntL c))).length = 1024:=by rw [over_len (by rw [hfl];omega),hhl]
  by_cases k1:i < C.length
  ·obtain ⟨x,hx⟩:∃ x,C[i]? = some x:=⟨_,List.getElem?_eq_getElem k1⟩
   have cf:=cC x (List.mem_of_getElem? hx)
   have hxb:=cntF_ok cf
   repeat' (first
    | (refine spl_dec (fun hd=>?_) (fun hd=>?_) <;> first|(exfalso;omega)|(conv=>whnf))
    | ((first|refine Ld.i ?_|refine St.i ⟨rfl,rfl⟩ (List.cons_ne_nil _ _) ?_|refine Ar.i64 (by omega) ?_|refine Ar.u64 (by omega) ?_);conv=>whnf)
    | (intro blk hblk;conv=>whnf)
    | (refine IxS.r (i:=i) rfl rfl k1 (fun ab off ha=>?_);cases ha;conv=>whnf)
    | ((first|refine LdN.r hx rfl ?_|refine Ar.u64w ?_);conv=>whnf))
   refine CallK.ret f_z1t.ok (plaid_spec (l:=over hd12 16 ((C.take i).flatMap fun c=>lays (cntL c))) (z:=16 + (i:Int) * 32) (cntL x) (rs:=⟨inferInstance,rfl⟩) (rn:=⟨inferInstance,rfl⟩) hol.symm rfl (by simp only [cntL,List.map_cons,List.map_nil];rw [u64_small (z:=x.id) (by omega),u64_small (z:=x.grp) (by omega)];rfl) ⟨by omega,by rw [hol];simp only [cntL,laysN];omega⟩ (by rw [hol];decide) (cntL_ok cf) (by simp [cntL])) ?_
   rintro v Q ⟨rfl,rfl⟩
   conv=>whnf
   have e:over (over hd12 16 ((C.take i).flatMap fun c=>lays (cntL c))) (16 + (i:Int) * 32).toNat (lays (cntL x)) = over hd12 16 ((C.take (i + 1)).flatMap fun c=>lays (cntL c)):=by
    rw [flat_take1 hx,show (16 + (i:Int) * 32).toNat = 16 + ((C.take i).flatMap fun c=>lays (cntL c)).length by rw [hfl];omega]
    exact over_over (by rw [hfl,hhl];omega)
   rw [e]
   repeat' (first
    | (refine Ar.i64 (by omega) ?_;conv=>whnf))
   all_goals
    refine ⟨rfl,i + 1,k1,fun t v h=>h,?_,by omega⟩
    first|exact .refl _|exact .drop|exact .fin|((repeat refine .pick ?_);first|exact .refl _|exact .emp _|exact .fin)
  ·rw [List.take_of_length_le (by omega)]
   have hcl:(C.flatMap fun c=>lays (cntL c)).length = C.length * 32:=flat_len cntL_len C
   repeat' (first
    | (refine spl_dec (fun hd=>?_) (fun hd=>?_) <;> first|(exfalso;omega)|(conv=>whnf))
    | (refine Ld.i ?_;conv=>whnf))
   refine LoopK.at tab_ok (L:=f_zg.live) (ι:=Nat) (fun i=>i ≤ G.length) (fun i=>[(75,.int .i64 i)]) (fun i=>vec t_uint8 1 bytv (some ⟨s,0,none⟩) 1024 (over hd12 16 ((C.flatMap fun c=>lays (cntL c)) ++ (G.take i).flatMap fun g=>lays (grpL g)))) (fun i=>G.length - i) 0 (Nat.zero_le _) (fun t v h=>h) (by rw [List.take_zero,List.flatMap_nil,List.append_nil];exact Imp.refl _) ?_
   rintro j hj
   conv=>whnf
   have hgl:=hgf j
   have hol2:(over hd12 16 ((C.flatMap fun c=>lays (cntL c)) ++ (G.take j).flatMap fun g=>lays (grpL g))).length = 1024:=by rw [over_len (by rw [List.length_append,hcl,hgl,hhl];omega),hhl]
   by_cases k2:j < G.length
   ·exact absurd k2 (by omega)
   ·rw [List.take_of_length_le (l:=G) (by omega)] at hol2 ⊢
    obtain ⟨B,hB⟩:∃ B,B = over hd12 16 ((C.flatMap fun c=>lays (cntL c)) ++ G.flatMap fun g=>lays (grpL g)):=⟨_,rfl⟩
    have hBb:B = PgM.bare ⟨num,lsn,C,G⟩:=by rw [hB,hhd];rfl
    have hBy:Byt B:=by rw [hBb];exact over_byt (over_byt z1024_byt (lays_byt _)) (body_byt _)
    rw [← hB] at hol2 ⊢
    have hsb:=crc_bd (B.take 12 ++ [0,0,0,0] ++ B.drop 16)
    obtain ⟨cs,hcs⟩:∃ c,c = sumP B:=⟨_,rfl⟩
    rw [show crcV (B.take 12 ++ [0,0,0,0] ++ B.drop 16) = sumP B from rfl,← hcs] at hsb
    repeat' (first
     | (refine CallK.ret f_zi.ok (psum_spec (l:=B) hol2.symm hol2 (Nat.le_refl _) hBy) ?_;rw [← hcs];rintro v Q ⟨rfl,rfl⟩;conv=>whnf)
     | (refine spl_dec (fun hd=>?_) (fun hd=>?_) <;> first|(exfalso;omega)|(conv=>whnf))
     | (refine Ar.u64 (by omega) ?_;conv=>whnf)
     | (intro blk hblk;conv=>whnf))
    refine CallK.ret f_z1t.ok (plaid_spec (l:=B) (z:=12) [(4,cs)] (rs:=⟨inferInstance,rfl⟩) (rn:=⟨inferInstance,rfl⟩) hol2.symm rfl rfl ⟨by omega,by rw [hol2];simp [laysN]⟩ (by rw [hol2];decide) (by simp only [List.mem_cons,List.not_mem_nil,or_false];rintro p rfl;exact ⟨by simp,by rw [p4];exact hsb⟩) (by simp)) ?_
    rintro v Q ⟨rfl,rfl⟩
    have e:over B (Int.toNat 12) (lays [(4,cs)]) = encP ⟨num,lsn,C,G⟩:=by
     unfold encP
     rw [if_neg hn,← hBb,hcs]
     show over B 12 (Fld.leB 4 _ ++ []) = _
     rw [List.append_nil]
    rw [e]
    conv=>whnf
    skip
    refine ⟨_,_,rfl,?_,some ⟨s,0,none⟩,1024,Nat.le_refl _,rfl,rfl⟩
    first|exact .refl _|exact .drop|exact .fin|((repeat refine .pick ?_);first|exact .refl _|exact .emp _|exact .fin)
end
end Go.Proofs.YtbcedpankkdfoaaGreatDoor
/- The program's page.Copy, walked. Conditions: in each statement. -/
namespace Go.Proofs.YtbcedpankkdfoaaGreatDoor
open Go Go.SL Go.SL.Sec Go.SL.Fld Go.SL.Pts Go.SL.Rec Go.SL.Pg
theorem pcopy_spec {W:World} {R:HProp} {num lsn:Int} {ca ga:Option Addr} {nC cc nG gc:Nat} {C:List CntV} {G:List GrpV} [rc:RowN W R ca nC 5 cntv C] [rg:RowN W R ga nG 2 grpv G] (hC:C.length ≤ 1000000000) (hG:G.length ≤ 1000000000) :
  Does prog W f_z1y ⟨[.agg ⟨[.int .i64 num,.int .i64 lsn,.slice ca nC cc,.slice ga nG gc]⟩]⟩ R (Ret fun v Q=>∃ x:PgX,x.m = ⟨num,lsn,C,G⟩ ∧ v = pgv x ∧ Q = (pgc x•R)):=by
 refine f_z1y.does _ ?_
 conv=>whnf
 repeat' (first
  | (refine CallK.ret f_z3d.ok (cloneC_spec (l:=C) (by omega)) ?_;rintro v Q ⟨ka,kc,hka,rfl,rfl⟩;conv=>whnf)
  | (refine CallK.ret f_z3e.ok (cloneP_spec (l:=G) (by omega)) ?_;rintro v Q ⟨ja,jc,hja,rfl,rfl⟩;conv=>whnf)
  | ((first|refine Ld.i ?_|refine LdN.i ?_|refine St.i ⟨rfl,rfl⟩ (List.cons_ne_nil _ _) ?_);conv=>whnf)
  | (intro blk hblk;conv=>whnf)
  | (refine Sub.on (by first|exact .refl _|exact .drop|exact .fin|((repeat refine .pick ?_);first|exact .refl _|exact .emp _|exact .fin)) ?_;conv=>whnf)
  | (refine DrawK.introH tab_ok mixed 5 f_z1y.last2 f_z1y.plan2 _ rfl (by kernel_rfl) (Sub.of (by first|exact .refl _|exact .drop|exact .fin|((repeat refine .pick ?_);first|exact .refl _|exact .emp _|exact .fin))) ?_;conv=>whnf))
 refine ⟨_,_,rfl,?_,⟨⟨num,lsn,C,G⟩,ka,kc,ja,jc⟩,rfl,rfl,rfl⟩
 rw [pgc_eq]
 first|exact .refl _|exact .drop|exact .fin|((repeat refine .pick ?_);first|exact .refl _|exact .emp _|exact .fin)
end Go.Proofs.YtbcedpankkdfoaaGreatDoor
/- A pool, its log, its disk, and where they lie; the calls between layers in one piece. Conditions: in each statement. -/
namespace Go.SL.Pool
open Go Go.SL Go.SL.Sec Go.SL.Fld Go.SL.Rec Go.SL.Twn Go.SL.Pg Go.SL.Mst
structure FrX where
 b:Nat
 pg:PgX
 pins:Int
 dirty:Bool
 since:Int
 used:Int
def FrX.val (f:FrX):FrM:=⟨f.pg.m,f.pins,f.dirty,f.since,f.used⟩
structure PoolX where
 d:Nat
 l:Nat
 pages:Int
 log:Int
 frames:Int
 r:Nat
 held:List (Int × FrX)
 clock:Int
 ended:Bool
def PoolX.val (X:PoolX):PoolM:=⟨X.pages,X.log,X.frames,mapv FrX.val X.held,X.clock,X.ended⟩
def PoolX.gone (X:PoolX):PoolX:={ X with held:=[],ended:=true }
def PoolX.put (X:PoolX) (n:Int) (f:FrX):PoolX:={ X with held:=updKV n f X.held }
def PoolX.use (X:PoolX) (n:Int) (f:FrX):PoolX:={ X with held:=updKV n { f with used:=X.clock + 1 } X.held,clock:=X.clock + 1 }
def PoolX.del (X:PoolX) (n:Int):PoolX:={ X with held:=delKV n X.held }
theorem put_val (X:PoolX) (n:Int) (f:FrX):(X.put n f).val = X.val.put n f.val:=by unfold PoolX.put PoolX.val PoolM.put;dsimp only;rw [mapv_upd]
theorem use_val (X:PoolX) (n:Int) (f:FrX):(X.use n f).val = X.val.use n f.val:=by unfold PoolX.use PoolX.val PoolM.use;dsimp only;rw [mapv_upd];rfl
theorem del_val (X:PoolX) (n:Int):(X.del n).val = X.val.del n:=by unfold PoolX.del PoolX.val PoolM.del;dsimp only;rw [mapv_del]
theorem look_val {X:PoolX} {n:Int} {f:FrX} (h:X.held.lookup n = some f):X.val.held.lookup n = some f.val:=by
 show (mapv FrX.val X.held).lookup n = _
 rw [mapv_lookup,h];rfl
theorem look_none {X:PoolX} {n:Int} (h:X.held.lookup n = none):X.val.held.lookup n = none:=by
 show (mapv FrX.val X.held).lookup n = _
 rw [mapv_lookup,h];rfl
end Go.SL.Pool
namespace Go.Proofs.YtbcedpankkdfoaaGreatDoor
open Go Go.SL Go.SL.Sec Go.SL.Fld Go.SL.Pts Go.SL.Rec Go.SL.Twn Go.SL.Pg Go.SL.Mst Go.SL.Pool
structure StoX where
 P:PoolX
 L:LogX
 D:DevX
def StoX.val (S:StoX):Sto:=⟨S.P.val,S.L.val,S.D.val⟩
structure StoX.Ok (S:StoX):Prop where
 val:S.val.Ok
 L:S.L.Ok
 D:S.D.Ok
 ld:S.L.d = S.P.d
structure StoX.Same (S S':StoX):Prop where
 l:S'.P.l = S.P.l
 d:S'.P.d = S.P.d
theorem StoX.Same.refl (S:StoX):S.Same S:=⟨rfl,rfl⟩
theorem StoX.Same.trans {A B C:StoX} (h:A.Same B) (k:B.Same C):A.Same C:=⟨k.l.trans h.l,k.d.trans h.d⟩
theorem StoX.Ok.ps {S:StoX} (h:S.Ok):S.D.ps.length = 0:=by
 have:=h.val.q
 have e:S.val.D.q = S.D.ps.map fun p=>(p.sec,p.b):=rfl
 rw [e] at this
 simpa using congrArg List.length this
theorem StoX.Ok.nd {S:StoX} (h:S.Ok):(S.P.held.map (·.1)).Nodup:=by
 have:=h.val.nd
 have e:S.val.P.held.map (·.1) = S.P.held.map (·.1):=mapv_keys _ _
 rwa [e] at this
abbrev frv (f:FrX):List Value:=[.int .i64 f.pg.m.num,.int .i64 f.pg.m.lsn,.slice f.pg.ca f.pg.m.C.length f.pg.cc,.slice f.pg.ga f.pg.m.G.length f.pg.gc,.int .i64 f.pins,.bool f.dirty,.int .i64 f.since,.int .i64 f.used]
def frc (f:FrX):HProp:=pts f.b (.cells ⟨frv f⟩ t_pool_frame)•pgc f.pg
theorem frc_eq (f:FrX) (R:HProp):(frc f•R) = (pts f.b (.cells ⟨frv f⟩ t_pool_frame)•pgc f.pg•R):=by unfold frc;rw [star_assoc]
abbrev poolv (X:PoolX):List Value:=[ptr X.d,ptr X.l,.int .i64 X.pages,.int .i64 X.log,.int .i64 X.frames,.map (some X.r),.int .i64 X.clock,.bool X.ended]
def fptr (f:FrX):Value:=ptr f.b
def poolo (p:Nat) (X:PoolX):HProp:=pts p (.cells ⟨poolv X⟩ t_pool_Pool)•mapc X.r .i64 (mapv fptr X.held)•bigM (fun _ f=>frc f) X.held
theorem poolo_eq (p:Nat) (X:PoolX) (R:HProp):(poolo p X•R) = (pts p (.cells ⟨poolv X⟩ t_pool_Pool)•mapc X.r .i64 (mapv fptr X.held)•bigM (fun _ f=>frc f) X.held•R):=by
 unfold poolo;simp only [star_assoc]
def stoo (p:Nat) (S:StoX):HProp:=poolo p S.P•logo S.P.l S.L•devo S.P.d S.D
theorem stoo_eq (p:Nat) (S:StoX) (R:HProp):(stoo p S•R) = (poolo p S.P•logo S.P.l S.L•devo S.P.d S.D•R):=by
 unfold stoo;simp only [star_assoc]
section
variable {W:World} {R:HProp} {p:Nat} {X:PoolX}
instance (priority:=100) RdC.poolo {k:Nat} {v:Value} [LAt (poolv X) k v]:RdC W (poolo p X•R) ⟨p,k,none⟩ v:=by rw [poolo_eq];infer_instance
instance (priority:=100) RdLC.poolo {k n:Nat} {vs:List Value} [LSub (poolv X) k n vs]:RdLC W (poolo p X•R) p k n vs:=by rw [poolo_eq];infer_instance
instance (priority:=100) PtsC.poolo:PtsC (poolo p X•R) p (.cells ⟨poolv X⟩ t_pool_Pool) (mapc X.r .i64 (mapv fptr X.held)•bigM (fun _ f=>frc f) X.held•R):=⟨⟨by rw [poolo_eq]⟩⟩
instance (priority:=100) MapC.poolo:MapC (poolo p X•R) X.r .i64 (mapv fptr X.held) (pts p (.cells ⟨poolv X⟩ t_pool_Pool)•bigM (fun _ f=>frc f) X.held•R):=⟨⟨by rw [poolo_eq,star_left_comm (pts p _)]⟩⟩
theorem bigM_at {n:Int} {f:FrX} (hnd:(X.held.map (·.1)).Nodup) (h:X.held.lookup n = some f):(bigM (fun _ f=>frc f) X.held•R) = (pts f.b (.cells ⟨frv f⟩ t_pool_frame)•pgc f.pg•bigM (fun _ f=>frc f) (delKV n X.held)•R):=by
 rw [bigM_take _ n f X.held hnd h,star_assoc,frc_eq]
theorem rd_frame {n:Int} {f:FrX} (hnd:(X.held.map (·.1)).Nodup) (h:X.held.lookup n = some f) {k:Nat} {v:Value} [LAt (frv f) k v]:RdC W (poolo p X•R) ⟨f.b,k,none⟩ v:=by rw [poolo_eq,bigM_at hnd h];infer_instance
theorem rdl_frame {n:Int} {f:FrX} (hnd:(X.held.map (·.1)).Nodup) (h:X.held.lookup n = some f) {k m:Nat} {vs:List Value} [LSub (frv f) k m vs]:RdLC W (poolo p X•R) f.b k m vs:=by rw [poolo_eq,bigM_at hnd h];infer_instance
theorem rowC_frame {n:Int} {f:FrX} (hnd:(X.held.map (·.1)).Nodup) (h:X.held.lookup n = some f):RowC W (poolo p X•R) f.pg.ca 5 cntv f.pg.m.C:=by rw [poolo_eq,bigM_at hnd h,pgc_eq];infer_instance
theorem rowG_frame {n:Int} {f:FrX} (hnd:(X.held.map (·.1)).Nodup) (h:X.held.lookup n = some f):RowC W (poolo p X•R) f.pg.ga 2 grpv f.pg.m.G:=by rw [poolo_eq,bigM_at hnd h,pgc_eq];infer_instance
end
theorem pplace_spec {W:World} {H R:HProp} {p:Nat} {X:PoolX} {n:Int} [t:ObjC poolo H p X R]:Does prog W f_zo ⟨[ptr p,.int .i64 n]⟩ H (Ret fun v G=>v = .int .i64 (X.val.place n) ∧ G = H):=by
 rw [t.h.eq]
 unfold PoolM.place
 have e1:X.val.ended = X.ended:=rfl
 have e2:X.val.pages = X.pages:=rfl
 rw [e1,e2]
 refine f_zo.does _ _ ?_
 conv=>whnf
 cases he:X.ended with
 | true =>
  rw [if_pos rfl]
  repeat' (first
   | ((first|refine spl_t he ?_|refine Ld.i ?_);conv=>whnf))
  refine Ret.eq rfl ?_
  first|exact .refl _|exact .drop|exact .fin|((repeat refine .pick ?_);first|exact .refl _|exact .emp _|exact .fin)
 | false =>
  rw [if_neg (by decide)]
  by_cases c:n < 0 ∨ n ≥ X.pages
  ·rw [if_pos c]
   repeat' (first
    | (refine spl_f he ?_;conv=>whnf)
    | (refine spl_dec (fun hd=>?_) (fun hd=>?_) <;> first|(exfalso;omega)|(conv=>whnf))
    | (refine Ld.i ?_;conv=>whnf))
   all_goals
    refine Ret.eq rfl ?_
    first|exact .refl _|exact .drop|exact .fin|((repeat refine .pick ?_);first|exact .refl _|exact .emp _|exact .fin)
  ·rw [if_neg c]
   repeat' (first
    | (refine spl_f he ?_;conv=>whnf)
    | (refine spl_dec (fun hd=>?_) (fun hd=>?_) <;> first|(exfalso;omega)|(conv=>whnf))
    | (refine Ld.i ?_;conv=>whnf))
   refine Ret.eq rfl ?_
   first|exact .refl _|exact .drop|exact .fin|((repeat refine .pick ?_);first|exact .refl _|exact .emp _|exact .fin)
theorem pseen_spec {W:World} {H R:HProp} {p:Nat} {X:PoolX} {e:Int} {v:Value} [le:LaidE W] [oc:OldC W H] [t:ObjC poolo H p X R] (h:ErrV e v H) :
  Does prog W f_z1s ⟨[ptr p,v]⟩ H (Ret fun u G=>u = .int .i64 e ∧ G = (poolo p (if e = 40 then X.gone else X)•R)):=by
 have hc:=code_any (W:=W) h
 rw [t.h.eq] at hc ⊢
 refine f_z1s.does _ _ ?_
 conv=>whnf
 by_cases c:e = 40
 ·subst c
  rw [if_pos rfl]
  repeat' (first
   | (refine CallK.ret f_z24.ok hc ?_;rintro v G ⟨rfl,rfl⟩;conv=>whnf)
   | ((first|refine Ld.i ?_|refine St.i ⟨rfl,rfl⟩ (List.cons_ne_nil _ _) ?_|refine OpX.clr tab_ok rfl rfl ?_);conv=>whnf))
  refine ⟨_,_,rfl,?_,rfl,rfl⟩
  rw [poolo_eq]
  unfold PoolX.gone mapv
  show Imp _ (_•mapc X.r .i64 []•emp•R)
  rw [emp_star]
  first|exact .refl _|exact .drop|exact .fin|((repeat refine .pick ?_);first|exact .refl _|exact .emp _|exact .fin)
 ·rw [if_neg c]
  repeat' (first
   | (refine CallK.ret f_z24.ok hc ?_;rintro v G ⟨rfl,rfl⟩;conv=>whnf)
   | (rw [decide_eq_false c];conv=>whnf))
  refine Ret.eq rfl ?_
  first|exact .refl _|exact .drop|exact .fin|((repeat refine .pick ?_);first|exact .refl _|exact .emp _|exact .fin)
theorem puse_spec {W:World} {R:HProp} {p:Nat} {X:PoolX} {n:Int} {f:FrX} (hnd:(X.held.map (·.1)).Nodup) (hf:X.held.lookup n = some f) (hc:0 ≤ X.clock ∧ X.clock ≤ 4000000000000) :
  Does prog W f_z2c ⟨[ptr p,ptr f.b]⟩ (poolo p X•R) (Ret fun u G=>u = .tuple ⟨[]⟩ ∧ G = (poolo p (X.use n f)•R)):=by
 have e1:mapv fptr (updKV n { f with used:=X.clock + 1 } X.held) = mapv fptr X.held:=by
  rw [mapv_upd]
  refine upd_same n _ _ ?_
  rw [mapv_lookup,hf];rfl
 rw [poolo_eq,bigM_at hnd hf]
 refine f_z2c.does _ _ ?_
 conv=>whnf
 repeat' (first
  | ((first|refine Ld.i ?_|refine St.i ⟨rfl,rfl⟩ (List.cons_ne_nil _ _) ?_|refine Ar.i64 (by omega) ?_);conv=>whnf))
 refine ⟨_,_,rfl,?_,rfl,rfl⟩
 rw [poolo_eq]
 unfold PoolX.use
 dsimp only
 rw [e1,bigM_upd _ n _ _ hnd,star_assoc,frc_eq]
 first|exact .refl _|exact .drop|exact .fin|((repeat refine .pick ?_);first|exact .refl _|exact .emp _|exact .fin)
end Go.Proofs.YtbcedpankkdfoaaGreatDoor
/- The log's Force and the twin's Write and Read in one piece, as the pool calls them. Conditions: in each statement. -/
namespace Go.Proofs.YtbcedpankkdfoaaGreatDoor
open Go Go.SL Go.SL.Sec Go.SL.Fld Go.SL.Pts Go.SL.Rec Go.SL.Twn Go.SL.Pg Go.SL.Mst Go.SL.Pool
theorem star_move5 (a b c d e f g:HProp):(a•b•c•d•e•f•g) = (f•a•b•c•d•e•g):=by
 rw [star_left_comm e f,star_left_comm d f,star_left_comm c f,star_left_comm b f,star_left_comm a f]
def ForceQ (l d:Nat) (L:LogX) (T:Int × LogM × Dev) (R:HProp) (v:Value) (G:HProp):Prop :=
 ∃ (L':LogX) (D':DevX) (J:HProp),L'.d = L.d ∧ L'.Ok ∧ D'.Ok ∧ L'.val = T.2.1 ∧ D'.val = T.2.2 ∧ (J = R ∨ ∃ b e,J = (fltc b wForce 0 e•R)) ∧ ErrV T.1 v G ∧ G = (logo l L'•devo d D'•J)
theorem pforce_spec {W:World} {R:HProp} {l d:Nat} {L:LogX} {D:DevX} (hL:L.Ok) (hD:D.Ok) (hq:D.ps.length ≤ 400000) (hd:L.d = d) (hf:0 ≤ L.first ∧ L.first ≤ 8192) (lsn:Int) :
  Does prog W f_z4 ⟨[ptr l,.int .i64 lsn]⟩ (logo l L•devo d D•R) (Ret (ForceQ l d L (L.val.force D.val lsn) R)):=by
 obtain ⟨T,hT⟩:∃ T,T = L.val.force D.val lsn:=⟨_,rfl⟩
 rw [← hT]
 unfold LogM.force at hT
 have er:L.val.err = L.err.map (·.2):=rfl
 have rl:L.val.recs.length = L.recs.length:=List.length_map ..
 have bl:L.val.bys.length = L.bys.length:=List.length_map ..
 have hbl:=hL.bl
 rw [er,rl,show L.val.forced = L.forced from rfl] at hT
 cases he:L.err with
 | some x =>
  obtain ⟨b,z,e⟩:=x
  rw [he,if_pos (show (Option.map (fun x:Nat × Int × Int=>x.2) (some (b,z,e))).isSome = true from rfl)] at hT
  subst hT
  refine (force_down (l:=l) (n:=lsn) he).post fun en w H' hs hQ=>?_
  obtain ⟨v,G,h1,h2,b',h3,h4⟩:=hQ
  refine ⟨H',hs,v,_,h1,h2,L,D,_,rfl,hL,hD,rfl,rfl,.inr ⟨b',40,rfl⟩,.inr ⟨(show (40:Int) ≠ 0 by decide),b',wForce,0,_,h3,h4⟩,?_⟩
  rw [h4,star_left_comm (fltc b' wForce 0 40),star_left_comm (fltc b' wForce 0 40)]
 | none =>
 rw [he,if_neg (by decide)] at hT
 by_cases c1:lsn < 0 ∨ lsn > L.recs.length
 ·rw [if_pos c1] at hT
  subst hT
  refine (force_place (l:=l) he c1).post fun en w H' hs hQ=>?_
  obtain ⟨v,G,h1,h2,b',h3,h4⟩:=hQ
  refine ⟨H',hs,v,_,h1,h2,L,D,_,rfl,hL,hD,rfl,rfl,.inr ⟨b',4,rfl⟩,.inr ⟨(show (4:Int) ≠ 0 by decide),b',wForce,0,_,h3,h4⟩,?_⟩
  rw [h4,star_left_comm (fltc b' wForce 0 4),star_left_comm (fltc b' wForce 0 4)]
 rw [if_neg c1] at hT
 by_cases c2:lsn ≤ L.forced
 ·rw [if_pos c2] at hT
  subst hT
  refine (force_idle (l:=l) he ⟨by omega,c2,by omega⟩).post fun en w H' hs hQ=>?_
  obtain ⟨v,G,h1,h2,h3,h4⟩:=hQ
  exact ⟨H',hs,v,_,h1,h2,L,D,_,rfl,hL,hD,rfl,rfl,.inl rfl,.inl ⟨rfl,h3⟩,h4⟩
 rw [if_neg c2] at hT
 dsimp only at hT
 obtain ⟨m,hm⟩:∃ m:Nat,lsn = ((L.forced + m:Nat):Int):=⟨lsn.toNat - L.forced,by omega⟩
 subst hm
 rw [show ((L.forced + m:Nat):Int).toNat - L.forced = m by omega] at hT
 refine (force_go (l:=l) (d:=d) (m:=m) rfl hL hD (by omega) hd hf he ⟨by omega,by omega⟩).post fun en w H' hs hQ=>?_
 obtain ⟨v,G,h1,h2,X',Y',hx1,hx2,hx3,_,hx5,hx6,hx7⟩:=hQ
 refine ⟨H',hs,v,_,h1,h2,X',Y',_,hx1,hx2,hx3,?_,?_,.inl rfl,?_,hx6⟩
 ·rcases hx7 with ⟨h0,_,h8⟩|⟨h0,b,_,h8⟩
  ·have h0':(wrs L.val.first (L.forced + 1) (L.val.bys.take m) D.val).1 = 0:=h0
   rw [if_pos h0'] at hT
   rw [hT,h8]
   simp [LogX.val,he]
   omega
  ·have h0':¬ (wrs L.val.first (L.forced + 1) (L.val.bys.take m) D.val).1 = 0:=h0
   rw [if_neg h0'] at hT
   rw [hT,h8]
   simp [LogX.val]
 ·rw [hx5,hT]
  split <;> rfl
 ·rcases hx7 with ⟨h0,h8,_⟩|⟨h0,b,h8,h9⟩
  ·have h0':(wrs L.val.first (L.forced + 1) (L.val.bys.take m) D.val).1 = 0:=h0
   rw [if_pos h0'] at hT
   rw [hT]
   exact .inl ⟨rfl,h8⟩
  ·have h0':¬ (wrs L.val.first (L.forced + 1) (L.val.bys.take m) D.val).1 = 0:=h0
   rw [if_neg h0'] at hT
   rw [hT]
   have hG:=hx6
   rw [h9,logo_eq] at hG
   exact .inr ⟨h0',b,wForce,0,_,h8,hG.trans (star_move5 _ _ _ _ _ _ _)⟩
theorem pwr_spec {W:World} {R:HProp} {d:Nat} {D:DevX} {h:Int} {a:Option Addr} {c:Nat} {b:List Int} (ro:RowC W R a 1 bytv b) (hD:D.Ok) (hq:D.ps.length ≤ 300000) (hb:b.length = 1024) (hc:1024 ≤ c) (hy:Byt b) (hh:5 ≤ h ∧ h + 2 ≤ D.val.secs) :
  Does prog W f_z2e ⟨[ptr d,.int .i64 2,.int .i64 h,.slice a 1024 c]⟩ (devo d D•R) (Ret fun v G=>∃ (D':DevX) (J:HProp),D'.Ok ∧ D'.val = (twW D.val 2 h b).2 ∧ (J = R ∨ ∃ b e,J = (fltc b wWrite 0 e•R)) ∧ ErrV (twW D.val 2 h b).1 v G ∧ G = (devo d D'•J)):=by
 have h3:ThereP D.val.secs 2 3:=⟨by omega,by omega,by omega⟩
 have hm:TmayP D.val.secs 2 h:=⟨⟨by omega,by omega,by omega⟩,by omega⟩
 haveI rn:RowN W R a 1024 1 bytv b:=⟨ro,hb.symm⟩
 cases hd:D.down with
 | true =>
  have e:twW D.val 2 h b = (40,D.val):=by unfold twW;rw [if_pos (show D.val.down = true from hd)]
  refine (twwrite_no (X:=D) (b:=b) (z:=2) (h:=h) (c:=c) hD (by omega) (.inl hd)).post fun en w H' hs hQ=>?_
  obtain ⟨v,G,h1,h2,k,h4,h5⟩:=hQ
  rw [e] at h5 ⊢
  refine ⟨H',hs,v,_,h1,h2,D,_,hD,rfl,.inr ⟨k,40,rfl⟩,.inr ⟨(show (40:Int) ≠ 0 by decide),k,wWrite,0,_,h4,h5⟩,?_⟩
  rw [h5,star_left_comm]
 | false =>
  refine (twwrite_go (X:=D) (b:=b) (z:=2) (h:=h) (c:=c) hD (by omega) hb hc hy hd h3 hm).post fun en w H' hs hQ=>?_
  obtain ⟨v,G,h1,h2,⟨h4,h5,X',x1,x2,_,x4⟩|⟨h4,k,G0,h5,h6,X',x1,x2,_,x4⟩⟩:=hQ
  ·exact ⟨H',hs,v,_,h1,h2,X',_,x1,x2,.inl rfl,.inl ⟨h4,h5⟩,x4⟩
  ·refine ⟨H',hs,v,_,h1,h2,X',_,x1,x2,.inr ⟨k,(twW D.val 2 h b).1,rfl⟩,.inr ⟨h4,k,wWrite,0,_,h5,h6⟩,?_⟩
   rw [h6,x4,star_left_comm]
theorem prd_spec {W:World} {R:HProp} {d:Nat} {D:DevX} {h:Int} (hD:D.Ok) (hq:D.ps.length ≤ 300000) (hh:0 ≤ h ∧ h + 2 ≤ D.val.secs) :
  Does prog W f_z1n ⟨[ptr d,.int .i64 h]⟩ (devo d D•R) (Ret fun v G=>(D.down = true ∧ ∃ b,v = .tuple ⟨[.slice none 0 0,.iface t_z8 (ptr b)]⟩ ∧ G = (fltc b wRead 0 40•devo d D•R)) ∨
   (D.down = false ∧ ∃ a c,v = .tuple ⟨[.slice a 1024 c,.nilIface]⟩ ∧ G = (vec t_uint8 1 bytv a c (D.val.at h ++ D.val.at (h + 1))•devo d D•R))):=by
 cases hd:D.down with
 | true =>
  refine (twread_no (X:=D) (z:=h) hD (.inl hd)).post fun en w H' hs hQ=>?_
  obtain ⟨v,G,h1,h2,k,h4,h5⟩:=hQ
  rw [hd,if_pos rfl] at h5
  exact ⟨H',hs,v,G,h1,h2,.inl ⟨rfl,k,h4,h5⟩⟩
 | false =>
  refine (twread_yes (X:=D) (z:=h) hD (by omega) hd ⟨by omega,by omega,by omega⟩).post fun en w H' hs hQ=>?_
  obtain ⟨v,G,h1,h2,a,c,h4,h5⟩:=hQ
  exact ⟨H',hs,v,G,h1,h2,.inr ⟨rfl,a,c,h4,h5⟩⟩
/-! ### The page that was used longest ago -/
theorem oldG_spec:∀ (l:List (Int × FrM)) (o:Option (Int × FrM)),(∀ q,o = some q → q.2.pins = 0) → match oldG l o with
  | none=>o = none ∧ ∀ p ∈ l,p.2.pins ≠ 0
  | some q=>q.2.pins = 0 ∧ (q ∈ l ∨ o = some q) ∧ (∀ p ∈ l,p.2.pins = 0 → q.2.used ≤ p.2.used) ∧ ∀ r,o = some r → q.2.used ≤ r.2.used
 | [],none,_=>⟨rfl,fun p hp=>(by cases hp)⟩
 | [],some q,h=>⟨h q rfl,.inr rfl,fun p hp=>(by cases hp),fun r hr=>by cases hr;exact Int.le_refl _⟩
 | p :: l,o,h=>by
  unfold oldG
  by_cases c:p.2.pins = 0
  ·rw [if_pos c]
   cases o with
   | none =>
    dsimp only
    have:=oldG_spec l (some p) (fun q hq=>by cases hq;exact c)
    cases hx:oldG l (some p) with
    | none=>rw [hx] at this;exact absurd this.1 (by simp)
    | some q =>
     rw [hx] at this
     obtain ⟨k1,k2,k3,k4⟩:=this
     refine ⟨k1,.inl (k2.elim (List.mem_cons_of_mem _) fun e=>by cases e;exact List.mem_cons_self),fun x hx hp=>?_,fun r hr=>(by cases hr)⟩
     rcases List.mem_cons.1 hx with rfl|hx
     ·exact k4 _ rfl
     ·exact k3 x hx hp
   | some q0 =>
    dsimp only
    have key:∀ q1,(q1 = p ∧ p.2.used < q0.2.used ∨ q1 = q0 ∧ ¬ p.2.used < q0.2.used) → match oldG l (some q1) with
      | none=>some q0 = none ∧ ∀ x ∈ p :: l,x.2.pins ≠ 0
      | some q=>q.2.pins = 0 ∧ (q ∈ p :: l ∨ some q0 = some q) ∧ (∀ x ∈ p :: l,x.2.pins = 0 → q.2.used ≤ x.2.used) ∧ ∀ r,some q0 = some r → q.2.used ≤ r.2.used:=fun q1 hq1=>by
     have hpin:q1.2.pins = 0:=by rcases hq1 with ⟨rfl,_⟩|⟨rfl,_⟩;exact c;exact h _ rfl
     have:=oldG_spec l (some q1) (fun q hq=>by cases hq;exact hpin)
     cases hx:oldG l (some q1) with
     | none=>rw [hx] at this;exact absurd this.1 (by simp)
     | some q =>
      rw [hx] at this
      obtain ⟨k1,k2,k3,k4⟩:=this
      have k5:=k4 q1 rfl
      have hle:q1.2.used ≤ p.2.used ∧ q1.2.used ≤ q0.2.used:=by rcases hq1 with ⟨rfl,h2⟩|⟨rfl,h2⟩ <;> omega
      refine ⟨k1,?_,fun x hx hp=>?_,fun r hr=>by cases hr;omega⟩
      ·rcases k2 with k2|k2
       ·exact .inl (List.mem_cons_of_mem _ k2)
       ·cases k2
        rcases hq1 with ⟨rfl,_⟩|⟨rfl,_⟩
        ·exact .inl List.mem_cons_self
        ·exact .inr rfl
      ·rcases List.mem_cons.1 hx with rfl|hx
       ·omega
       ·exact k3 x hx hp
    by_cases hlt:p.2.used < q0.2.used
    ·rw [if_pos hlt];exact key p (.inl ⟨rfl,hlt⟩)
    ·rw [if_neg hlt];exact key q0 (.inr ⟨rfl,hlt⟩)
  ·rw [if_neg c]
   have:=oldG_spec l o h
   cases hx:oldG l o with
   | none =>
    rw [hx] at this
    refine ⟨this.1,fun x hx=>?_⟩
    rcases List.mem_cons.1 hx with rfl|hx
    ·exact c
    ·exact this.2 x hx
   | some q =>
    rw [hx] at this
    obtain ⟨k1,k2,k3,k4⟩:=this
    refine ⟨k1,k2.imp_left (List.mem_cons_of_mem _),fun x hx hp=>?_,k4⟩
    rcases List.mem_cons.1 hx with rfl|hx
    ·exact absurd hp c
    ·exact k3 x hx hp
end Go.Proofs.YtbcedpankkdfoaaGreatDoor
