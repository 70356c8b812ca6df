/- The program's record.Decode, walked: checkpoints; all kinds. Conditions: in each statement. -/
import Derived.Test.YtbcedpankkdfoaaGreatDoorPart14
import Derived.Test.YtbcedpankkdfoaaGreatDoorPart11
set_option linter.unusedVariables false
set_option linter.unusedSimpArgs false
namespace Go.Proofs.YtbcedpankkdfoaaGreatDoor
open Go Go.SL Go.SL.Sec Go.SL.Fld Go.SL.Pts Go.SL.Rec
open Go.SL.Und (RecV recv fits)
instance (priority:=110) KeepC.reado {R A:HProp} {r:Nat} {X:RdX} [k:KeepC R A]:KeepC (reado r X•R) A:=⟨Imp.trans Imp.drop k.h⟩
set_option maxHeartbeats 4000000 in
theorem decode_cp {W:World} {R:HProp} {a:Option Addr} {n c:Nat} {l:List Int} [ro:RowN W R a n 1 bytv l] (hb:Byt l) (hl:l.length ≤ 16777216) (hk8:∀ a c,((⟨a,c,l,0,0⟩:RdX).u 18446744073709551615).2.err = 0 ∧ ((⟨a,c,l,0,0⟩:RdX).u 18446744073709551615).1 = 8) :
  Does prog W f_ze ⟨[.slice a n c]⟩ R (Ret (DecQ (decF l) R)):=by
 refine f_ze.does _ ?_
 conv=>whnf
 repeat' (first
  | (intro blk hblk;conv=>whnf)
  | (refine CallK.ret f_z3n.ok (newReader_spec (by first|rfl|assumption|omega|decide|(simp;done)|(simp;omega)|(simp at *;omega))) ?_;rintro v G ⟨e_r,e_a,e_c,e_h1,rfl,rfl⟩;conv=>whnf))
 have hdec:=decX_eq (a:=e_a) (c:=e_c) (l:=l)
 have hX0:(⟨e_a,e_c,l,0,0⟩:RdX).Ok:=⟨hb,hl,e_h1,Nat.zero_le _⟩
 obtain ⟨hY,hk0,hk1,_⟩:=hX0.u 18446744073709551615
 refine CallK.ret f_z1a.ok (ru_spec hX0) ?_
 rintro v G ⟨rfl,rfl⟩
 have hk8:=hk8 e_a e_c
 unfold decX at hdec
 dsimp only at hdec
 obtain ⟨k,hk⟩:∃ k,k = ((⟨e_a,e_c,l,0,0⟩:RdX).u 18446744073709551615).1:=⟨_,rfl⟩
 obtain ⟨Y,hYe⟩:∃ Y,Y = ((⟨e_a,e_c,l,0,0⟩:RdX).u 18446744073709551615).2:=⟨_,rfl⟩
 rw [← hk] at hk0 hk1 hk8 hdec ⊢
 rw [← hYe] at hY hk8 hdec ⊢
 clear hk hYe hX0
 rw [← hdec]
 clear hdec
 obtain ⟨he,rfl⟩:=hk8
 rw [if_neg (by simpa using he),if_neg (by omega),if_pos rfl]
 unfold decC
 dsimp only
 have hil:=intO_len 8
 have hsl:(sgnO 8).length = 0:=rfl
 conv=>whnf
 repeat' (first
  | (refine spl_ndec (fun hd=>?_) (fun hd=>?_) <;> first|(exfalso;omega)|(conv=>whnf))
  | ((first|refine Ld.i ?_|refine St.i ⟨rfl,rfl⟩ (List.cons_ne_nil _ _) ?_|refine Ar.i64 (by omega) ?_|refine Ar.u64 (by omega) ?_);conv=>whnf)
  | (intro blk hblk;conv=>whnf)
  | (refine CallK.ret f_zk.ok (rfault_spec (by first|rfl|assumption|omega|decide|(simp;done)|(simp;omega)|(simp at *;omega))) ?_;rintro v G ⟨rfl,rfl⟩;conv=>whnf)
  | (refine CallK.ret f_z6.ok (fields_spec (by first|rfl|assumption|omega|decide|(simp;done)|(simp;omega)|(simp at *;omega))) ?_;rintro v G ⟨e_a,e_c,e_b,e_d,rfl,rfl⟩;conv=>whnf))
 rw [show (2147483647:Int) + 1 = 2147483648 from rfl]
 obtain ⟨A,hA⟩:∃ A,A = decI 2147483648 (intO 8) (kindR 8) Y:=⟨_,rfl⟩
 rw [← hA]
 refine LoopK.at tab_ok (L:=f_ze.live) (ι:=Nat × RecV × RdX) (fun i=>i.1 ≤ (intO 8).length ∧ decI 2147483648 ((intO 8).drop i.1) i.2.1 i.2.2 = A ∧ i.2.2.Ok ∧ i.2.1.kind = 8 ∧ i.2.1.lsn = 0 ∧ i.2.1.lv = (none,0,0) ∧ i.2.1.dt = (none,0,0)) (fun i=>[(55,.int .i64 i.1)])
  (fun i=>reado e_r i.2.2•pts blk (.cells ⟨recv i.2.1⟩ t_z1m)) (fun i=>(intO 8).length - i.1) (0,kindR 8,Y) ⟨by simp,hA.symm,hY,rfl,rfl,rfl,rfl⟩ (fun t v h=>h) (by
   dsimp only [recv,kindR,recZ]
   exact Imp.assoc (Imp.pick (Imp.pick (Imp.refl _)))) ?_
 rintro ⟨i,r,X⟩ ⟨hi,hdi,hX,rk,rl,rv,rd⟩
 dsimp only at hi hdi hX rk rl rv rd ⊢
 simp only [star_assoc]
 conv=>whnf
 by_cases h1:i < (intO 8).length
 ·obtain ⟨o,ho⟩:∃ o,(intO 8)[i]? = some o:=⟨_,List.getElem?_eq_getElem h1⟩
  have hoi:=intO_in (List.mem_of_getElem? ho)
  have hol:o < (recv r).length:=by show o < 17;omega
  rw [decI_next ho] at hdi
  obtain ⟨hX1,hz0,_,hz1⟩:=hX.u 2147483648
  have hz1:=hz1 (by decide)
  have hsc:=setC_same (r:=r) (z:=(X.u 2147483648).1) hoi
  repeat' (first
   | (refine St.nth hol rfl rfl ?_;conv=>whnf)
   | (refine spl_dec (fun hd=>?_) (fun hd=>?_) <;> first|(exfalso;omega)|(conv=>whnf))
   | (refine Ar.i64 (by omega) ?_;conv=>whnf)
   | (refine IxS.v (i:=i) (xs:=intO 8) rfl rfl h1 (fun ab off' ha=>?_);subst ha;conv=>whnf)
   | (refine Ld.r0 ho rfl ?_;conv=>whnf)
   | (refine CallK.ret f_z1a.ok (ru_spec (by first|rfl|assumption|omega|decide|(simp;done)|(simp;omega)|(simp at *;omega))) ?_;rintro v G ⟨rfl,rfl⟩;conv=>whnf))
  refine ⟨rfl,(i + 1,setC r o (X.u 2147483648).1,(X.u 2147483648).2),⟨h1,hdi,hX1,hsc.1.trans rk,hsc.2.1.trans rl,hsc.2.2.1.trans rv,hsc.2.2.2.trans rd⟩,fun t v h=>h,?_,by dsimp only;omega⟩
  dsimp only
  rw [recv_set hoi]
  first|exact .refl _|exact .drop|exact .fin|((repeat refine .pick ?_);first|exact .refl _|exact .emp _|exact .fin)
 rw [List.drop_eq_nil_of_le (by omega),decI] at hdi
 rw [← hdi]
 clear hdi hA A
 dsimp only
 obtain ⟨r0,r1,r2,r3,r4,r5,r6,r7,r8,r9,r10,r11,r12,r13,r14,r15,r16⟩:=r
 dsimp only at rk rl rv rd
 subst rk rl rv rd
 unfold recv
 dsimp only
 repeat' (first
  | (refine spl_dec (fun hd=>?_) (fun hd=>?_) <;> first|(exfalso;omega)|(conv=>whnf)))
 refine LoopK.keep tab_ok (L:=f_ze.live) (ι:=Nat) (fun i=>i = 0) (fun i=>[(68,.int .i64 i)]) (fun i=>0) 0 rfl (fun t v h=>h) ?_
 rintro i0 rfl
 obtain ⟨hX1,hn0,_,hn1⟩:=hX.u 32
 have hn1:=hn1 (by decide)
 conv=>whnf
 repeat' (first
  | (refine Ld.i ?_;conv=>whnf)
  | (refine CallK.ret f_z1a.ok (ru_spec (by first|rfl|assumption|omega|decide|(simp;done)|(simp;omega)|(simp at *;omega))) ?_;rintro v G ⟨rfl,rfl⟩;conv=>whnf))
 obtain ⟨n,hn⟩:∃ n:Nat,n = (X.u 32).1.toNat:=⟨_,rfl⟩
 have hnn:(X.u 32).1 = (n:Int):=by omega
 obtain ⟨X1,hX1e⟩:∃ X1,X1 = (X.u 32).2:=⟨_,rfl⟩
 obtain ⟨B,hB⟩:∃ B,B = decLv n [] X1:=⟨_,rfl⟩
 rw [← hX1e] at hX1
 rw [← hX1e,← hn,← hB,hnn]
 refine LoopK.at tab_ok (L:=f_ze.live) (ι:=Nat × List LiveV × Option Addr × Nat × RdX) (fun i=>i.1 ≤ n ∧ decLv (n - i.1) i.2.1 i.2.2.2.2 = B ∧ i.2.2.2.2.Ok ∧ i.2.1.length = i.1) (fun i=>[(82,.int .u64 i.1)])
  (fun i=>reado e_r i.2.2.2.2•pts blk (.cells ⟨[.int .i64 0,.int .i64 8,.int .i64 r2,.int .i64 r3,.int .i64 r4,.int .i64 r5,.int .i64 r6,.int .i64 r7,.int .i64 r8,.int .i64 r9,.int .i64 r10,.int .i64 r11,.int .i64 r12,.int .i64 r13,.slice i.2.2.1 i.2.1.length i.2.2.2.1,.slice none 0 0,.int .i64 r16]⟩ t_z1m)•vec t_z23 4 livev i.2.2.1 i.2.2.2.1 i.2.1) (fun i=>n - i.1) (0,[],none,0,X1) ⟨by simp,hB.symm,hX1,rfl⟩ (fun t v h=>h) (by
   simp only [star_assoc]
   exact Imp.pick (Imp.pick (Imp.vnil (Imp.refl _)))) ?_
 rintro ⟨i,L,la,lc,Z⟩ ⟨hi2,hdL,hZ,hLl⟩
 dsimp only at hi2 hdL hZ hLl ⊢
 simp only [star_assoc]
 conv=>whnf
 by_cases h2:i < n
 ·rw [decLv_next h2] at hdL
  obtain ⟨hZ1,hz0,_,hz1⟩:=hZ.u 2147483647
  have hz1:=hz1 (by decide)
  obtain ⟨hZ2,hy0,_,hy1⟩:=hZ1.u 2147483647
  have hy1:=hy1 (by decide)
  obtain ⟨hZ3,_⟩:=hZ2.u 2
  repeat' (first
   | (refine spl_dec (fun hd=>?_) (fun hd=>?_) <;> first|(exfalso;omega)|(conv=>whnf))
   | ((first|refine Ld.i ?_|refine LdN.i ?_|refine St.i ⟨rfl,rfl⟩ (List.cons_ne_nil _ _) ?_|refine Ar.i64 (by omega) ?_|refine Ar.u64 (by omega) ?_);conv=>whnf)
   | (intro blk hblk;conv=>whnf)
   | (refine OpX.app1g (xs:=L) tab_ok rfl rfl rfl rfl rfl rfl (by first|rfl|assumption|omega|decide|(simp;done)|(simp;omega)|(simp at *;omega)) (fun a' c'=>?_);conv=>whnf)
   | (refine CallK.ret f_z1a.ok (ru_spec (by first|rfl|assumption|omega|decide|(simp;done)|(simp;omega)|(simp at *;omega))) ?_;rintro v G ⟨rfl,rfl⟩;conv=>whnf))
  refine ⟨rfl,(i + 1,L ++ [(liveF Z).1],a',c',(liveF Z).2),⟨h2,hdL,hZ3,by simp [hLl]⟩,fun t v h=>h,?_,by dsimp only;omega⟩
  dsimp only
  unfold liveF
  dsimp only
  first|exact .refl _|exact .drop|exact .fin|((repeat refine .pick ?_);first|exact .refl _|exact .emp _|exact .fin)
 rw [show n - i = 0 by omega,decLv] at hdL
 rw [← hdL]
 dsimp only
 obtain ⟨hZ1,hm0,_,hm1⟩:=hZ.u 16
 have hm1:=hm1 (by decide)
 repeat' (first
  | (refine spl_dec (fun hd=>?_) (fun hd=>?_) <;> first|(exfalso;omega)|(conv=>whnf))
  | (refine CallK.ret f_z1a.ok (ru_spec (by first|rfl|assumption|omega|decide|(simp;done)|(simp;omega)|(simp at *;omega))) ?_;rintro v G ⟨rfl,rfl⟩;conv=>whnf))
 obtain ⟨m,hm⟩:∃ m:Nat,m = (Z.u 16).1.toNat:=⟨_,rfl⟩
 have hmm:(Z.u 16).1 = (m:Int):=by omega
 obtain ⟨Z1,hZ1e⟩:∃ Z1,Z1 = (Z.u 16).2:=⟨_,rfl⟩
 obtain ⟨C,hC⟩:∃ C,C = decDt m [] Z1:=⟨_,rfl⟩
 rw [← hZ1e] at hZ1
 rw [← hZ1e,← hm,← hC,hmm]
 refine LoopK.at tab_ok (L:=f_ze.live) (ι:=Nat × List DirtyV × Option Addr × Nat × RdX) (fun i=>i.1 ≤ m ∧ decDt (m - i.1) i.2.1 i.2.2.2.2 = C ∧ i.2.2.2.2.Ok ∧ i.2.1.length = i.1) (fun i=>[(110,.int .u64 i.1)])
  (fun i=>reado e_r i.2.2.2.2•pts blk (.cells ⟨[.int .i64 0,.int .i64 8,.int .i64 r2,.int .i64 r3,.int .i64 r4,.int .i64 r5,.int .i64 r6,.int .i64 r7,.int .i64 r8,.int .i64 r9,.int .i64 r10,.int .i64 r11,.int .i64 r12,.int .i64 r13,.slice la L.length lc,.slice i.2.2.1 i.2.1.length i.2.2.2.1,.int .i64 r16]⟩ t_z1m)•vec t_z1l 2 dirtyv i.2.2.1 i.2.2.2.1 i.2.1) (fun i=>m - i.1) (0,[],none,0,Z1) ⟨by simp,hC.symm,hZ1,rfl⟩ (fun t v h=>h) (by
   simp only [star_assoc]
   exact Imp.pick (Imp.pick (Imp.vnil (Imp.refl _)))) ?_
 rintro ⟨j,D,da,dc,U⟩ ⟨hj2,hdD,hU,hDl⟩
 dsimp only at hj2 hdD hU hDl ⊢
 simp only [star_assoc]
 conv=>whnf
 by_cases h3:j < m
 ·rw [decDt_next h3] at hdD
  obtain ⟨hU1,hz0,_,hz1⟩:=hU.u 2147483647
  have hz1:=hz1 (by decide)
  obtain ⟨hU2,hy0,_,hy1⟩:=hU1.u 2147483647
  have hy1:=hy1 (by decide)
  repeat' (first
   | (refine DrawK.introK tab_ok mixed 112 f_ze.last33 f_ze.plan33 rfl (by kernel_rfl) ?_;conv=>whnf)
   | (refine spl_dec (fun hd=>?_) (fun hd=>?_) <;> first|(exfalso;omega)|(conv=>whnf))
   | ((first|refine Ld.i ?_|refine St.i ⟨rfl,rfl⟩ (List.cons_ne_nil _ _) ?_|refine Ar.i64 (by omega) ?_|refine Ar.u64 (by omega) ?_);conv=>whnf)
   | (intro blk hblk;conv=>whnf)
   | (refine OpX.app1g (xs:=D) tab_ok rfl rfl rfl rfl rfl rfl (by first|rfl|assumption|omega|decide|(simp;done)|(simp;omega)|(simp at *;omega)) (fun a' c'=>?_);conv=>whnf)
   | (refine Sub.on (by first|exact .refl _|exact .drop|exact .fin|((repeat refine .pick ?_);first|exact .refl _|exact .emp _|exact .fin)) ?_;conv=>whnf)
   | (refine CallK.ret f_z1a.ok (ru_spec (by first|rfl|assumption|omega|decide|(simp;done)|(simp;omega)|(simp at *;omega))) ?_;rintro v G ⟨rfl,rfl⟩;conv=>whnf))
  refine ⟨rfl,(j + 1,D ++ [(dirtyF U).1],a',c',(dirtyF U).2),⟨h3,hdD,hU2,by simp [hDl]⟩,fun t v h=>h,?_,by dsimp only;omega⟩
  dsimp only
  unfold dirtyF
  dsimp only
  first|exact .refl _|exact .drop|exact .fin|((repeat refine .pick ?_);first|exact .refl _|exact .emp _|exact .fin)
 rw [show m - j = 0 by omega,decDt] at hdD
 rw [← hdD]
 dsimp only
 have hUf:=hU.fin
 unfold finF
 by_cases hfe:U.fin.err = 0
 ·rw [if_neg (by simpa using hfe)]
  have hca:=chkF_addr (r:=⟨0,8,r2,r3,r4,r5,r6,r7,r8,r9,r10,r11,r12,r13,(none,0,0),(none,0,0),r16⟩) (L:=L) (D:=D) (a:=la) (b:=da) (c:=lc) (d:=dc)
  obtain ⟨E,hE⟩:∃ E,E = chkF (withL ⟨0,8,r2,r3,r4,r5,r6,r7,r8,r9,r10,r11,r12,r13,(none,0,0),(none,0,0),r16⟩ L D) L D:=⟨_,rfl⟩
  rw [← hE] at hca ⊢
  dsimp only at hca
  repeat' (first
   | (refine spl_dec (fun hd=>?_) (fun hd=>?_) <;> first|(exfalso;omega)|(conv=>whnf))
   | (refine spl_ndec (fun hd=>?_) (fun hd=>?_) <;> first|(exfalso;omega)|(conv=>whnf))
   | (refine LdN.i ?_;conv=>whnf)
   | (refine CallK.ret f_zk.ok (rfault_spec (by first|rfl|assumption|omega|decide|(simp;done)|(simp;omega)|(simp at *;omega))) ?_;rintro v G ⟨rfl,rfl⟩;conv=>whnf)
   | (refine CallK.ret f_zs.ok (rend_spec (by first|rfl|assumption|omega|decide|(simp;done)|(simp;omega)|(simp at *;omega))) ?_;rintro v G ⟨rfl,rfl⟩;conv=>whnf))
  refine CallK.ret f_z2.ok (check_spec (r:=⟨0,8,r2,r3,r4,r5,r6,r7,r8,r9,r10,r11,r12,r13,(la,L.length,lc),(da,D.length,dc),r16⟩) (L:=L) (D:=D) (rl:=inferInstance) (rd:=inferInstance)) ?_
  rintro v G ⟨rfl,rfl⟩
  rw [hca]
  by_cases hce:E = 0
  ·rw [if_neg (by simpa using hce)]
   conv=>whnf
   repeat' (first
    | (refine spl_ndec (fun hd=>?_) (fun hd=>?_) <;> first|(exfalso;omega)|(conv=>whnf))
    | ((first|refine LdN.i ?_|refine St.i ⟨rfl,rfl⟩ (List.cons_ne_nil _ _) ?_);conv=>whnf))
   refine ⟨_,_,rfl,?_,la,lc,da,dc,rfl,rfl⟩
   first|exact .refl _|exact .drop|exact .fin|((repeat refine .pick ?_);first|exact .refl _|exact .emp _|exact .fin)
  ·rw [if_pos hce]
   conv=>whnf
   repeat' (first
    | (refine spl_ndec (fun hd=>?_) (fun hd=>?_) <;> first|(exfalso;omega)|(conv=>whnf))
    | ((first|refine LdN.i ?_|refine St.i ⟨rfl,rfl⟩ (List.cons_ne_nil _ _) ?_);conv=>whnf))
   refine decQ_none ?_
   first|exact .refl _|exact .drop|exact .fin|((repeat refine .pick ?_);first|exact .refl _|exact .emp _|exact .fin)
 ·rw [if_pos hfe]
  repeat' (first
   | (refine spl_dec (fun hd=>?_) (fun hd=>?_) <;> first|(exfalso;omega)|(conv=>whnf))
   | (refine spl_ndec (fun hd=>?_) (fun hd=>?_) <;> first|(exfalso;omega)|(conv=>whnf))
   | ((first|refine LdN.i ?_|refine St.i ⟨rfl,rfl⟩ (List.cons_ne_nil _ _) ?_);conv=>whnf)
   | (refine CallK.ret f_zk.ok (rfault_spec (by first|rfl|assumption|omega|decide|(simp;done)|(simp;omega)|(simp at *;omega))) ?_;rintro v G ⟨rfl,rfl⟩;conv=>whnf)
   | (refine CallK.ret f_zs.ok (rend_spec (by first|rfl|assumption|omega|decide|(simp;done)|(simp;omega)|(simp at *;omega))) ?_;rintro v G ⟨rfl,rfl⟩;conv=>whnf))
  refine decQ_none ?_
  first|exact .refl _|exact .drop|exact .fin|((repeat refine .pick ?_);first|exact .refl _|exact .emp _|exact .fin)
theorem decode_spec {W:World} {R:HProp} {a:Option Addr} {n c:Nat} {l:List Int} [ro:RowN W R a n 1 bytv l] (hb:Byt l) (hl:l.length ≤ 16777216) :
  Does prog W f_ze ⟨[.slice a n c]⟩ R (Ret (DecQ (decF l) R)):=by
 have hm:∀ a c,((⟨a,c,l,0,0⟩:RdX).u 18446744073709551615).1 = ((⟨none,0,l,0,0⟩:RdX).u 18446744073709551615).1 ∧ ((⟨a,c,l,0,0⟩:RdX).u 18446744073709551615).2.err = ((⟨none,0,l,0,0⟩:RdX).u 18446744073709551615).2.err:=fun a c=>by
  have:=mv_u ⟨none,0,l,0,0⟩ a c 18446744073709551615
  exact ⟨this.1,by rw [show (⟨a,c,l,0,0⟩:RdX) = RdX.mv ⟨none,0,l,0,0⟩ a c from rfl,this.2];rfl⟩
 by_cases h:((⟨none,0,l,0,0⟩:RdX).u 18446744073709551615).2.err = 0 ∧ ((⟨none,0,l,0,0⟩:RdX).u 18446744073709551615).1 = 8
 ·exact decode_cp hb hl fun a c=>⟨(hm a c).2.trans h.1,(hm a c).1.trans h.2⟩
 ·exact decode_nc hb hl fun a c k=>h ⟨(hm a c).2.symm.trans k.1,(hm a c).1.symm.trans k.2⟩
end Go.Proofs.YtbcedpankkdfoaaGreatDoor
/- The program's disk: writes, syncs. Conditions: in each statement. -/
namespace Go.Proofs.YtbcedpankkdfoaaGreatDoor
open Go Go.SL Go.SL.Sec
section
variable {W:World} {R:HProp} {d:Nat} {X:DevX}
instance (priority:=100) RdC.devo {off:Nat} {v:Value} [i:LAt [.slice X.ia X.img.length X.ic,.slice X.qa X.ps.length X.qc,.int .i64 X.step,.slice X.ka X.keep.length X.kc,.int .i64 X.torn,.int .i64 X.off,.bool X.down,.int .i64 X.calls] off v]:RdC W (devo d X•R) ⟨d,off,none⟩ v:=by
 rw [devo_eq];exact RdC.here
instance (priority:=100) RdLC.devo {off n:Nat} {vs:List Value} [i:LSub [.slice X.ia X.img.length X.ic,.slice X.qa X.ps.length X.qc,.int .i64 X.step,.slice X.ka X.keep.length X.kc,.int .i64 X.torn,.int .i64 X.off,.bool X.down,.int .i64 X.calls] off n vs]:RdLC W (devo d X•R) d off n vs:=by
 rw [devo_eq];exact RdLC.here
instance (priority:=100) PtsC.devo:PtsC (devo d X•R) d (.cells ⟨[.slice X.ia X.img.length X.ic,.slice X.qa X.ps.length X.qc,.int .i64 X.step,.slice X.ka X.keep.length X.kc,.int .i64 X.torn,.int .i64 X.off,.bool X.down,.int .i64 X.calls]⟩ t_z4c)
  (vec t_uint8 1 bytv X.ia X.ic X.img•vec t_z4b 2 pendv X.qa X.qc X.ps•bigL pendc X.ps•vec t_uint64 1 u64s X.ka X.kc X.keep•R):=⟨⟨by rw [devo_eq]⟩⟩
instance (priority:=100) VecC.devq:VecC (devo d X•R) X.qa t_z4b 2 pendv X.qc X.ps
  (pts d (.cells ⟨[.slice X.ia X.img.length X.ic,.slice X.qa X.ps.length X.qc,.int .i64 X.step,.slice X.ka X.keep.length X.kc,.int .i64 X.torn,.int .i64 X.off,.bool X.down,.int .i64 X.calls]⟩ t_z4c)•vec t_uint8 1 bytv X.ia X.ic X.img•bigL pendc X.ps•vec t_uint64 1 u64s X.ka X.kc X.keep•R) :=
 ⟨⟨by rw [devo_eq,star_left_comm (vec t_uint8 1 bytv X.ia X.ic X.img),star_left_comm (pts d _)]⟩⟩
instance (priority:=100) RowC.devq:RowC W (devo d X•R) X.qa 2 pendv X.ps:=by rw [devo_eq];infer_instance
instance (priority:=100) RowC.devi:RowC W (devo d X•R) X.ia 1 bytv X.img:=by rw [devo_eq];infer_instance
instance (priority:=100) RowC.devk:RowC W (devo d X•R) X.ka 1 u64s X.keep:=by rw [devo_eq];infer_instance
instance (priority:=95) RowC.devp {p:PendX} [m:MemC X.ps p]:RowC W (devo d X•R) p.a 1 bytv p.b:=by rw [devo_eq];infer_instance
instance (priority:=100) KeepC.devo {A:HProp} [k:KeepC R A]:KeepC (devo d X•R) (pts d (.cells ⟨[.slice X.ia X.img.length X.ic,.slice X.qa X.ps.length X.qc,.int .i64 X.step,.slice X.ka X.keep.length X.kc,.int .i64 X.torn,.int .i64 X.off,.bool X.down,.int .i64 X.calls]⟩ t_z4c)•A) :=
 ⟨by rw [devo_eq];exact Imp.right (Imp.trans Imp.drop (Imp.trans Imp.drop (Imp.trans Imp.drop (Imp.trans Imp.drop k.h))))⟩
end
instance {s:Int} {a:Option Addr} {l:List Int} {c:Nat}:DecOf pendv [.int .i64 s,.slice a l.length c] ⟨s,a,c,l⟩:=⟨rfl⟩
instance:OneC pendv:=⟨pend_one⟩
def DevX.push (X:DevX) (qa:Option Addr) (qc:Nat) (p:PendX):DevX:={ X with calls:=wr (X.calls + 1),step:=if X.step = 0 then 0 else X.step - 1,qa:=qa,qc:=qc,ps:=X.ps ++ [p] }
theorem devo_push {d:Nat} {X:DevX} {qa:Option Addr} {qc:Nat} {p:PendX} {R:HProp} :
  (devo d (X.push qa qc p)•R) = (pts d (.cells ⟨[.slice X.ia X.img.length X.ic,.slice qa (X.ps ++ [p]).length qc,.int .i64 (if X.step = 0 then 0 else X.step - 1),.slice X.ka X.keep.length X.kc,.int .i64 X.torn,.int .i64 X.off,.bool X.down,.int .i64 (wr (X.calls + 1))]⟩ t_z4c) •
   vec t_uint8 1 bytv X.ia X.ic X.img•vec t_z4b 2 pendv qa qc (X.ps ++ [p])•vec t_uint8 1 bytv p.a p.cap p.b•bigL pendc X.ps•vec t_uint64 1 u64s X.ka X.kc X.keep•R):=by
 rw [devo_eq,DevX.push,bigL_snoc]
 simp only [star_assoc]
 rfl
theorem devo_dev0 (d:Nat) (X:DevX) (R:HProp):(devo d X•R) = (dev0 d X•vec t_uint64 1 u64s X.ka X.kc X.keep•R):=star_assoc _ _ _
theorem fallx_spec {W:World} {H R:HProp} {d:Nat} {X:DevX} {a:Option Addr} {n c:Nat} {keep:List Int} {torn off:Int} [t:DevC H d X R] [ro:RowN W R a n 1 u64s keep] (hX:X.Ok) (hq:X.ps.length ≤ 1000000) :
  Does prog W f_zj ⟨[ptr d,.agg ⟨[.slice a n c,.int .i64 torn,.int .i64 off]⟩]⟩ H (Ret fun v G=>v = .int .i64 40 ∧ G = (devo d (X.fell keep torn off)•R)):=by
 rw [t.h.eq,devo_dev0]
 exact Does.imp (Imp.right Imp.drop) (fall_spec hX hq ro)
theorem fallo_spec {W:World} {H R:HProp} {d:Nat} {X:DevX} {c:Nat} {torn off:Int} [t:DevC H d X R] (hX:X.Ok) (hq:X.ps.length ≤ 1000000) :
  Does prog W f_zj ⟨[ptr d,.agg ⟨[.slice X.ka X.keep.length c,.int .i64 torn,.int .i64 off]⟩]⟩ H (Ret fun v G=>v = .int .i64 40 ∧ G = (devo d (X.fell X.keep torn off)•R)):=by
 rw [t.h.eq,devo_dev0]
 have:=fall_spec (W:=W) (R:=vec t_uint64 1 u64s X.ka X.kc X.keep•R) (d:=d) (a:=X.ka) (n:=X.keep.length) (c:=c) (keep:=X.keep) (torn:=torn) (off:=off) hX hq ⟨RowC.here,rfl⟩
 refine this.post fun e w H' hs hq=>?_
 obtain ⟨v,G,h1,h2,h3,rfl⟩:=hq
 exact ⟨H',hs,v,_,h1,Imp.trans h2 (Imp.right Imp.drop),h3,rfl⟩
theorem push_val (X:DevX) (qa:Option Addr) (qc:Nat) (p:PendX):(X.push qa qc p).val = { X.val.counted with q:=X.val.q ++ [(p.sec,p.b)] }:=by
 simp [DevX.push,DevX.val,Dev.counted]
 rfl
theorem fell_ok {X:DevX} (h:X.Ok) (keep:List Int) (torn off:Int):(X.fell keep torn off).Ok :=
 ⟨h.val.fallen keep torn off,by
  show (fallG keep torn off 0 X.val.q X.img).length ≤ X.ic
  rw [(fallG_ok (keep:=keep) (torn:=torn) (off:=off) X.val.q 0 X.img h.val.q h.val.byt).1]
  exact h.ic,fun p hp=>(by cases hp)⟩
theorem write_spec {W:World} {H R:HProp} {d:Nat} {X:DevX} {i:Int} {ba:Option Addr} {bn bc:Nat} {b:List Int} [t:DevC H d X R] [ro:RowN W R ba bn 1 bytv b] (hX:X.Ok) (hq:X.ps.length + 1 ≤ 1000000) (hb:Byt b) (hbl:b.length ≤ 16777216) :
  Does prog W f_z11 ⟨[ptr d,.int .i64 i,.slice ba bn bc]⟩ H (Ret fun v G=>∃ X',X'.Ok ∧ X'.val = (X.val.write i b).2 ∧ X'.ps.length ≤ X.ps.length + 1 ∧ v = .int .i64 (X.val.write i b).1 ∧ G = (devo d X'•R)):=by
 rw [t.h.eq]
 have hn:=ro.len
 subst hn
 haveI r':=ro.row
 have hw:=hX.val.write (i:=i) hb
 unfold Dev.write at hw ⊢
 refine f_z11.does _ _ _ ?_
 conv=>whnf
 by_cases h1:X.down = true
 ·have h1':X.val.down = true:=h1
  rw [if_pos h1'] at hw ⊢
  repeat' (first
   | ((first|refine spl_t h1 ?_|refine Ld.i ?_);conv=>whnf))
  exact ⟨_,_,rfl,Imp.refl _,X,hX,rfl,by omega,rfl,rfl⟩
 have h1':¬ X.val.down = true:=h1
 have h1f:X.down = false:=by simpa using h1
 rw [if_neg h1'] at hw ⊢
 by_cases h2:i < 0 ∨ i ≥ X.val.secs
 ·rw [if_pos h2] at hw ⊢
  repeat' (first
   | (refine spl_f h1f ?_;conv=>whnf)
   | (refine spl_dec (fun hd=>?_) (fun hd=>?_) <;> first|(exfalso;omega)|(conv=>whnf))
   | (refine Ld.i ?_;conv=>whnf)
   | (refine CallK.ret f_z1h.ok (sectors_spec (by first|rfl|assumption|omega|decide|(simp;done)|(simp;omega)|(simp at *;omega))) ?_;rintro v G ⟨rfl,rfl⟩;conv=>whnf))
  all_goals exact ⟨_,_,rfl,Imp.refl _,X,hX,rfl,by omega,rfl,rfl⟩
 rw [if_neg h2] at hw ⊢
 by_cases h3:b.length ≠ 512
 ·rw [if_pos h3] at hw ⊢
  repeat' (first
   | (refine spl_f h1f ?_;conv=>whnf)
   | (refine spl_dec (fun hd=>?_) (fun hd=>?_) <;> first|(exfalso;omega)|(conv=>whnf))
   | (refine spl_ndec (fun hd=>?_) (fun hd=>?_) <;> first|(exfalso;omega)|(conv=>whnf))
   | (refine Ld.i ?_;conv=>whnf)
   | (refine CallK.ret f_z1h.ok (sectors_spec (by first|rfl|assumption|omega|decide|(simp;done)|(simp;omega)|(simp at *;omega))) ?_;rintro v G ⟨rfl,rfl⟩;conv=>whnf))
  all_goals exact ⟨_,_,rfl,Imp.refl _,X,hX,rfl,by omega,rfl,rfl⟩
 rw [if_neg h3] at hw ⊢
 repeat' (first
  | (refine spl_f h1f ?_;conv=>whnf)
  | (refine spl_dec (fun hd=>?_) (fun hd=>?_) <;> first|(exfalso;omega)|(conv=>whnf))
  | (refine spl_ndec (fun hd=>?_) (fun hd=>?_) <;> first|(exfalso;omega)|(conv=>whnf))
  | ((first|refine Ld.i ?_|refine LdN.i ?_|refine St.i ⟨rfl,rfl⟩ (List.cons_ne_nil _ _) ?_);conv=>whnf)
  | (intro blk hblk;conv=>whnf)
  | (refine OpX.app1g tab_ok rfl rfl rfl rfl rfl rfl (by dsimp only;omega) (fun a' c'=>?_);conv=>whnf)
  | (refine Sub.on (by first|exact .refl _|exact .drop|exact .fin|((repeat refine .pick ?_);first|exact .refl _|exact .emp _|exact .fin)) ?_;conv=>whnf)
  | (refine Sub.on (Imp.trans KeepC.h (by first|exact .refl _|exact .drop|exact .fin|((repeat refine .pick ?_);first|exact .refl _|exact .emp _|exact .fin))) ?_;conv=>whnf)
  | (refine CallK.ret f_z1h.ok (sectors_spec (by first|rfl|assumption|omega|decide|(simp;done)|(simp;omega)|(simp at *;omega))) ?_;rintro v G ⟨rfl,rfl⟩;conv=>whnf)
  | (refine CallK.ret f_z3h.ok (crashes_spec (by first|rfl|assumption|omega|decide|(simp;done)|(simp;omega)|(simp at *;omega))) ?_;rintro v G ⟨rfl,rfl⟩;conv=>whnf)
  | (refine DrawK.introK tab_ok mixed 28 f_z11.last8 f_z11.plan8 rfl (by kernel_rfl) ?_;conv=>whnf)
  | (refine CallK.ret f_z20.ok (clone_spec (by first|rfl|assumption|omega|decide|(simp;done)|(simp;omega)|(simp at *;omega))) ?_;rintro v G ⟨e_a',e_cap',e_h1,rfl,rfl⟩;conv=>whnf))
 all_goals
  have hcr:X.val.crashes = decide (X.step = 1):=rfl
  have hpo:({ X.val.counted with q:=X.val.q ++ [(i,b)] }:Dev).Ok:=Dev.Ok.pushed (D:=X.val.counted) hX.val.counted h2 (by omega) hb
  have hcap:∀ (a':Option Addr) (c':Nat) (e_a':Option Addr) (e_cap':Nat),b.length ≤ e_cap' → (X.push a' c' ⟨i,e_a',e_cap',b⟩).Ok:=fun a' c' e_a' e_cap' hc=>⟨by rw [push_val];exact hpo,hX.ic,fun p hp=>by
   rcases List.mem_append.1 hp with hp|hp
   ·exact hX.caps p hp
   ·obtain rfl:=List.mem_singleton.1 hp;exact hc⟩
 ·have hY:=hcap a' c' e_a' e_cap' e_h1
  refine CallK.ret f_zj.ok (Does.imp (H':=dev0 d (X.push a' c' ⟨i,e_a',e_cap',b⟩)•vec t_uint64 1 u64s X.ka X.kc X.keep•R) ?_ (fall_spec (a:=X.ka) (keep:=X.keep) hY (by simp [DevX.push];omega) ⟨RowC.here,rfl⟩)) ?_
  ·rw [show (dev0 d (X.push a' c' ⟨i,e_a',e_cap',b⟩)•vec t_uint64 1 u64s X.ka X.kc X.keep•R) = (devo d (X.push a' c' ⟨i,e_a',e_cap',b⟩)•R) from (star_assoc _ _ _).symm,devo_push]
   dsimp only
   first|exact .refl _|exact .drop|exact .fin|((repeat refine .pick ?_);first|exact .refl _|exact .emp _|exact .fin)
  ·rintro v G ⟨rfl,rfl⟩
   conv=>whnf
   skip
   have hc2:X.val.crashes = true:=by rw [hcr];exact decide_eq_true hd
   rw [if_pos hc2]
   refine ⟨_,_,rfl,Imp.right Imp.drop,_,fell_ok hY _ _ _,?_,?_,rfl,rfl⟩
   ·show Dev.fallen _ _ _ _ = _
    rw [push_val]
    rfl
   ·simp [DevX.fell]
 ·have hY:=hcap a' c' e_a' e_cap' e_h1
  have hc2:¬ X.val.crashes = true:=by rw [hcr];simpa using hd
  rw [if_neg hc2]
  refine ⟨_,_,rfl,?_,X.push a' c' ⟨i,e_a',e_cap',b⟩,hY,push_val _ _ _ _,by simp [DevX.push],rfl,rfl⟩
  rw [devo_push]
  dsimp only
  first|exact .refl _|exact .drop|exact .fin|((repeat refine .pick ?_);first|exact .refl _|exact .emp _|exact .fin)
end Go.Proofs.YtbcedpankkdfoaaGreatDoor
/- The program's disk: syncs, crashes, arming, new ones. Conditions: in each statement. -/
namespace Go.Proofs.YtbcedpankkdfoaaGreatDoor
open Go Go.SL Go.SL.Sec
def DevX.flushed (X:DevX):DevX:={ X with calls:=wr (X.calls + 1),step:=if X.step = 0 then 0 else X.step - 1,img:=flushG X.val.q X.img,qa:=none,qc:=0,ps:=[] }
theorem flushed_val (X:DevX):X.flushed.val = { X.val.counted with img:=flushG X.val.q X.val.img,q:=[] }:=by
 simp [DevX.flushed,DevX.val,Dev.counted]
 rfl
theorem sync_spec {W:World} {H R:HProp} {d:Nat} {X:DevX} [t:DevC H d X R] (hX:X.Ok) (hq:X.ps.length ≤ 1000000) :
  Does prog W f_zx ⟨[ptr d]⟩ H (Ret fun v G=>∃ X',X'.Ok ∧ X'.val = X.val.sync.2 ∧ X'.ps.length ≤ X.ps.length ∧ v = .int .i64 X.val.sync.1 ∧ G = (devo d X'•R)):=by
 rw [t.h.eq]
 have hw:=hX.val.sync
 unfold Dev.sync at hw ⊢
 have hl:=hX.len
 have hcnt:({ X with calls:=wr (X.calls + 1),step:=if X.step = 0 then 0 else X.step - 1 }:DevX).Ok:=⟨hX.val.counted,hX.ic,hX.caps⟩
 refine f_zx.does _ ?_
 conv=>whnf
 by_cases h1:X.down = true
 ·have h1':X.val.down = true:=h1
  rw [if_pos h1'] at hw ⊢
  repeat' (first
   | ((first|refine spl_t h1 ?_|refine Ld.i ?_);conv=>whnf))
  exact ⟨_,_,rfl,Imp.refl _,X,hX,rfl,by omega,rfl,rfl⟩
 have h1':¬ X.val.down = true:=h1
 have h1f:X.down = false:=by simpa using h1
 rw [if_neg h1'] at hw ⊢
 repeat' (first
  | (refine spl_f h1f ?_;conv=>whnf)
  | (refine spl_dec (fun hd=>?_) (fun hd=>?_) <;> first|(exfalso;omega)|(conv=>whnf))
  | ((first|refine Ld.i ?_|refine LdN.i ?_);conv=>whnf)
  | (refine CallK.ret f_z3h.ok (crashes_spec (by first|rfl|assumption|omega|decide|(simp;done)|(simp;omega)|(simp at *;omega))) ?_;rintro v G ⟨rfl,rfl⟩;conv=>whnf))
 ·have hc2:X.val.crashes = true:=decide_eq_true hd
  rw [if_pos hc2] at hw ⊢
  repeat' (first
   | (refine CallK.ret f_zj.ok ((fallo_spec hcnt hq)) ?_;rintro v G ⟨rfl,rfl⟩;conv=>whnf))
  exact ⟨_,_,rfl,Imp.refl _,_,fell_ok hcnt _ _ _,rfl,by simp [DevX.fell],rfl,rfl⟩
 ·have hc2:¬ X.val.crashes = true:=fun h=>hd (of_decide_eq_true h)
  rw [if_neg hc2] at hw ⊢
  have hqv:=hX.val.q
  have hfl:=flushG_ok X.val.q X.img hX.val.q hX.val.byt
  have hOk:X.flushed.Ok:=⟨by rw [flushed_val];exact hw,by show (flushG X.val.q X.img).length ≤ X.ic;rw [hfl.1];exact hX.ic,fun p hp=>(by cases hp)⟩
  have hgo:∀ (e:Ending) (H:HProp),Ret (fun v G=>v = i0 ∧ G = (devo d X.flushed•R)) e H → Ret (fun v G=>∃ X',X'.Ok ∧ X'.val = { X.val.counted with img:=flushG X.val.q X.val.img,q:=[] } ∧ X'.ps.length ≤ X.ps.length ∧ v = i0 ∧ G = (devo d X'•R)) e H :=
   fun e H ⟨v,G,h1,h2,h3,h4⟩=>⟨v,G,h1,h2,X.flushed,hOk,flushed_val X,by simp [DevX.flushed],h3,h4⟩
  rw [devo_eq]
  dsimp only
  obtain ⟨qa,hqa⟩:∃ qa,qa = X.qa:=⟨_,rfl⟩
  obtain ⟨Q,hQ⟩:∃ Q,Q = X.val.q:=⟨_,rfl⟩
  rw [← hqa]
  rw [← hQ] at hqv hfl
  have hQl:Q.length = X.ps.length:=by rw [hQ];simp [DevX.val]
  refine LoopK.at tab_ok (L:=f_zx.live) (ι:=Nat × List Int) (fun i=>i.1 ≤ X.ps.length ∧ i.2.length = X.img.length ∧ flushG (Q.drop i.1) i.2 = flushG Q X.img)
   (fun i=>[(22,.int .i64 i.1)]) (fun i=>vec t_uint8 1 bytv X.ia X.ic i.2) (fun i=>X.ps.length - i.1) (0,X.img) ⟨by simp,rfl,by simp⟩ (fun t v h=>h) (Imp.pick (Imp.refl _)) ?_
  rintro ⟨i,m⟩ ⟨hi,hm,hf⟩
  dsimp only at hi hm hf ⊢
  conv=>whnf
  by_cases h1:i < X.ps.length
  ·obtain ⟨p,hp⟩:∃ p,X.ps[i]? = some p:=⟨_,List.getElem?_eq_getElem h1⟩
   have hpq:Q[i]? = some (p.sec,p.b):=by rw [hQ];simp [DevX.val,hp]
   obtain ⟨q1,q2,q3,q4⟩:=hqv _ (List.mem_of_getElem? hpq)
   dsimp only at q1 q2 q3 q4
   have q2':p.sec.toNat * 512 + 512 ≤ X.img.length:=q2
   rw [drop_of hpq,flushG] at hf
   haveI mp:MemC X.ps p:=⟨List.mem_of_getElem? hp⟩
   have hic:=hX.ic
   repeat' (first
    | (refine spl_dec (fun hd=>?_) (fun hd=>?_) <;> first|(exfalso;omega)|(conv=>whnf))
    | ((first|refine Ld.i ?_|refine St.i ⟨rfl,rfl⟩ (List.cons_ne_nil _ _) ?_|refine Ar.i64 (by omega) ?_);conv=>whnf)
    | (intro blk hblk;conv=>whnf)
    | (refine IxS.r (i:=i) (xs:=X.ps) rfl rfl h1 (fun ab off' ha=>?_);subst ha;conv=>whnf)
    | ((first|refine LdN.r hp rfl ?_|refine OpX.cpyW (ys:=p.b) tab_ok inferInstance rfl rfl rfl rfl rfl (by omega) (by omega) ?_);conv=>whnf)
    | (refine Sub.on (by first|exact .refl _|exact .drop|exact .fin|((repeat refine .pick ?_);first|exact .refl _|exact .emp _|exact .fin)) ?_;conv=>whnf)
    | (refine DrawK.introH tab_ok mixed 26 f_zx.last8 f_zx.plan8 _ rfl (by kernel_rfl) (Sub.of (by first|exact .refl _|exact .drop|exact .fin|((repeat refine .pick ?_);first|exact .refl _|exact .emp _|exact .fin))) ?_;conv=>whnf)
    | (refine CallK.ret f_z2m.ok (sector_spec (by first|rfl|assumption|omega|decide|(simp;done)|(simp;omega)|(simp at *;omega)) (by first|rfl|assumption|omega|decide|(simp;done)|(simp;omega)|(simp at *;omega)) (by first|rfl|assumption|omega|decide|(simp;done)|(simp;omega)|(simp at *;omega))) ?_;rintro v G ⟨rfl,rfl⟩;conv=>whnf))
   refine ⟨rfl,(i + 1,layAt m p.sec p.b),⟨h1,?_,hf⟩,fun t v h=>h,?_,by dsimp only;omega⟩
   ·rw [layAt_len (by omega)];exact hm
   ·dsimp only
    unfold layAt
    first|exact .refl _|exact .drop|exact .fin|((repeat refine .pick ?_);first|exact .refl _|exact .emp _|exact .fin)
  ·have hdr:Q.drop i = []:=List.drop_eq_nil_of_le (by omega)
   rw [hdr,flushG] at hf
   repeat' (first
    | (refine spl_dec (fun hd=>?_) (fun hd=>?_) <;> first|(exfalso;omega)|(conv=>whnf))
    | (refine St.i ⟨rfl,rfl⟩ (List.cons_ne_nil _ _) ?_;conv=>whnf))
   refine hgo _ _ (Ret.eq rfl ?_)
   rw [devo_eq]
   simp only [DevX.flushed]
   rw [← hQ,← hf,hm]
   refine Imp.pick ?_
   refine Imp.pick ?_
   refine Imp.vnil ?_
   refine Imp.empi ?_
   first|exact .refl _|exact .drop|exact .fin|((repeat refine .pick ?_);first|exact .refl _|exact .emp _|exact .fin)
theorem crash_spec {W:World} {H R:HProp} {d:Nat} {X:DevX} {a:Option Addr} {n c:Nat} {keep:List Int} {torn off:Int} [t:DevC H d X R] [ro:RowN W R a n 1 u64s keep] (hX:X.Ok) (hq:X.ps.length ≤ 1000000) :
  Does prog W f_z49 ⟨[ptr d,.agg ⟨[.slice a n c,.int .i64 torn,.int .i64 off]⟩]⟩ H (Ret fun v G=>∃ X',X'.Ok ∧ X'.val = (X.val.crash keep torn off).2 ∧ X'.ps.length ≤ X.ps.length ∧ v = .int .i64 (X.val.crash keep torn off).1 ∧ G = (devo d X'•R)):=by
 rw [t.h.eq]
 haveI r':=ro.row
 unfold Dev.crash
 refine f_z49.does _ _ ?_
 conv=>whnf
 by_cases h1:X.down = true
 ·have h1':X.val.down = true:=h1
  rw [if_pos h1']
  repeat' (first
   | ((first|refine spl_t h1 ?_|refine Ld.i ?_);conv=>whnf)
   | (intro blk hblk;conv=>whnf))
  refine ⟨_,_,rfl,?_,X,hX,rfl,by omega,rfl,rfl⟩
  first|exact .refl _|exact .drop|exact .fin|((repeat refine .pick ?_);first|exact .refl _|exact .emp _|exact .fin)
 have h1':¬ X.val.down = true:=h1
 have h1f:X.down = false:=by simpa using h1
 rw [if_neg h1']
 repeat' (first
  | ((first|refine spl_f h1f ?_|refine Ld.i ?_|refine LdN.i ?_);conv=>whnf)
  | (intro blk hblk;conv=>whnf)
  | (refine CallK.ret f_zj.ok (fallx_spec (by first|rfl|assumption|omega|decide|(simp;done)|(simp;omega)|(simp at *;omega)) (by first|rfl|assumption|omega|decide|(simp;done)|(simp;omega)|(simp at *;omega))) ?_;rintro v G ⟨rfl,rfl⟩;conv=>whnf))
 refine ⟨_,_,rfl,?_,_,fell_ok hX keep torn off,rfl,by simp [DevX.fell],rfl,rfl⟩
 first|exact .refl _|exact .drop|exact .fin|((repeat refine .pick ?_);first|exact .refl _|exact .emp _|exact .fin)
theorem clone64_spec {W:World} {R:HProp} {a:Option Addr} {n cap:Nat} {l:List Int} [c:RowN W R a n 1 u64s l] (hb:l.length ≤ 8796093022208) :
  Does prog W f_z38 ⟨[.slice a n cap]⟩ R (Ret fun v G=>∃ a' cap',l.length ≤ cap' ∧ v = .slice a' l.length cap' ∧ G = (vec t_uint64 1 u64s a' cap' l•R)):=by
 refine Does.vlen (V:=fun a' cap'=>.slice a' l.length cap') ?_
 have hn:=c.len
 subst hn
 haveI c':=c.row
 cases a with
 | none =>
  refine Does.nil c' fun hl=>?_
  subst hl
  refine f_z38.does _ ?_
  conv=>whnf
  skip
  refine ⟨_,_,rfl,?_,none,0,rfl,rfl⟩
  refine Imp.vnil ?_
  first|exact .refl _|exact .drop|exact .fin|((repeat refine .pick ?_);first|exact .refl _|exact .emp _|exact .fin)
 | some x =>
  refine f_z38.does _ ?_
  conv=>whnf
  repeat' (first
   | (intro blk hblk;conv=>whnf)
   | (refine OpX.appE (ys:=l) tab_ok rfl rfl rfl rfl rfl rfl (by omega) (fun a' c'=>?_);conv=>whnf))
  refine ⟨_,_,rfl,?_,a',c',rfl,rfl⟩
  first|exact .refl _|exact .drop|exact .fin|((repeat refine .pick ?_);first|exact .refl _|exact .emp _|exact .fin)
theorem arm_spec {W:World} {H R:HProp} {d:Nat} {X:DevX} {a:Option Addr} {n c:Nat} {keep:List Int} {step torn off:Int} [t:DevC H d X R] [ro:RowN W R a n 1 u64s keep] (hX:X.Ok) (hk:keep.length ≤ 8796093022208) (hs:-9223372036854775808 ≤ step ∧ step ≤ 9223372036854775807) :
  Does prog W f_z2k ⟨[ptr d,.int .i64 step,.agg ⟨[.slice a n c,.int .i64 torn,.int .i64 off]⟩]⟩ H (Ret fun v G=>∃ X',X'.Ok ∧ X'.val = (X.val.arm step keep torn off).2 ∧ X'.ps.length ≤ X.ps.length ∧ v = .int .i64 (X.val.arm step keep torn off).1 ∧ G = (devo d X'•R)):=by
 rw [t.h.eq]
 haveI r':=ro.row
 unfold Dev.arm
 refine f_z2k.does _ _ _ ?_
 conv=>whnf
 by_cases h1:X.down = true
 ·have h1':X.val.down = true:=h1
  rw [if_pos h1']
  repeat' (first
   | ((first|refine spl_t h1 ?_|refine Ld.i ?_);conv=>whnf)
   | (intro blk hblk;conv=>whnf))
  refine ⟨_,_,rfl,?_,X,hX,rfl,by omega,rfl,rfl⟩
  first|exact .refl _|exact .drop|exact .fin|((repeat refine .pick ?_);first|exact .refl _|exact .emp _|exact .fin)
 have h1':¬ X.val.down = true:=h1
 have h1f:X.down = false:=by simpa using h1
 rw [if_neg h1']
 by_cases h2:step < 0
 ·rw [if_pos h2]
  repeat' (first
   | (refine spl_f h1f ?_;conv=>whnf)
   | (refine spl_dec (fun hd=>?_) (fun hd=>?_) <;> first|(exfalso;omega)|(conv=>whnf))
   | (refine Ld.i ?_;conv=>whnf)
   | (intro blk hblk;conv=>whnf))
  refine ⟨_,_,rfl,?_,X,hX,rfl,by omega,rfl,rfl⟩
  first|exact .refl _|exact .drop|exact .fin|((repeat refine .pick ?_);first|exact .refl _|exact .emp _|exact .fin)
 rw [if_neg h2]
 repeat' (first
  | (refine spl_f h1f ?_;conv=>whnf)
  | (refine spl_dec (fun hd=>?_) (fun hd=>?_) <;> first|(exfalso;omega)|(conv=>whnf))
  | ((first|refine Ld.i ?_|refine St.i ⟨rfl,rfl⟩ (List.cons_ne_nil _ _) ?_);conv=>whnf)
  | (intro blk hblk;conv=>whnf)
  | (refine Sub.on (by first|exact .refl _|exact .drop|exact .fin|((repeat refine .pick ?_);first|exact .refl _|exact .emp _|exact .fin)) ?_;conv=>whnf)
  | (refine DrawK.introH tab_ok mixed 19 f_z2k.last6 f_z2k.plan6 _ rfl (by kernel_rfl) (Sub.of (by first|exact .refl _|exact .drop|exact .fin|((repeat refine .pick ?_);first|exact .refl _|exact .emp _|exact .fin))) ?_;conv=>whnf)
  | (refine CallK.ret f_z38.ok (clone64_spec (by first|rfl|assumption|omega|decide|(simp;done)|(simp;omega)|(simp at *;omega))) ?_;rintro v G ⟨e_a',e_cap',e_h1,rfl,rfl⟩;conv=>whnf))
 refine ⟨_,_,rfl,?_,{ X with step:=step,ka:=e_a',kc:=e_cap',keep:=keep,torn:=torn,off:=off },⟨⟨hX.val.len,hX.val.pos,hX.val.byt,hX.val.q,⟨by show 0 ≤ step;omega,hs.2⟩,hX.val.calls⟩,hX.ic,hX.caps⟩,rfl,by simp,rfl,rfl⟩
 rw [devo_eq]
 dsimp only
 first|exact .refl _|exact .drop|exact .fin|((repeat refine .pick ?_);first|exact .refl _|exact .emp _|exact .fin)
def freshX (a:Option Addr) (c:Nat) (img:List Int):DevX:=⟨a,c,img,none,0,[],0,none,0,[],0,0,false,0⟩
theorem devo_fresh {d:Nat} {a:Option Addr} {c:Nat} {img:List Int} {H R:HProp} (h:Imp H (pts d (.cells ⟨[.slice a img.length c,.slice none 0 0,.int .i64 0,.slice none 0 0,.int .i64 0,.int .i64 0,.bool false,.int .i64 0]⟩ t_z4c)•vec t_uint8 1 bytv a c img•R)):Imp H (devo d (freshX a c img)•R):=by
 rw [devo_eq]
 refine Imp.trans h (Imp.right (Imp.right ?_))
 refine Imp.vnil ?_
 refine Imp.empi ?_
 refine Imp.vnil ?_
 exact Imp.refl _
theorem new_yes {W:World} {R:HProp} {n:Int} (h:1 ≤ n ∧ n ≤ 8192) :
  Does prog W f_z34 ⟨[.int .i64 n]⟩ R (Ret fun v G=>∃ d a c,(List.replicate (n * 512).toNat (0:Int)).length ≤ c ∧ v = .tuple ⟨[ptr d,i0]⟩ ∧ G = (devo d (freshX a c (List.replicate (n * 512).toNat 0))•R)):=by
 refine f_z34.does _ ?_
 conv=>whnf
 repeat' (first
  | (refine spl_dec (fun hd=>?_) (fun hd=>?_) <;> first|(exfalso;omega)|(conv=>whnf))
  | (refine Ar.i64 (by omega) ?_;conv=>whnf)
  | (intro blk hblk;conv=>whnf)
  | (refine OpX.make tab_ok bytv 0 rfl rfl rfl rfl rfl rfl (by omega) (fun b hb=>?_);conv=>whnf))
 refine ⟨_,_,rfl,?_,blk,some ⟨b,0,none⟩,(n * 512).toNat,?_,rfl,rfl⟩
 ·refine devo_fresh ?_
  rw [List.length_replicate]
  first|exact .refl _|exact .drop|exact .fin|((repeat refine .pick ?_);first|exact .refl _|exact .emp _|exact .fin)
 ·rw [List.length_replicate];exact Nat.le_refl _
theorem fresh_ok {a:Option Addr} {c:Nat} {img:List Int} (h1:512 ≤ img.length ∧ img.length ≤ 4194304) (h2:img.length % 512 = 0) (hb:Byt img) (hc:img.length ≤ c):(freshX a c img).Ok :=
 ⟨⟨h2,h1,hb,fun p hp=>(by cases hp),⟨Int.le_refl _,by show (0:Int) ≤ _;decide⟩,⟨by show _ ≤ (0:Int);decide,by show (0:Int) ≤ _;decide⟩⟩,hc,fun p hp=>(by cases hp)⟩
theorem cache_spec {W:World} {H R:HProp} {d:Nat} {X:DevX} [t:DevC H d X R] (hX:X.Ok) (hq:X.ps.length ≤ 1000000) :
  Does prog W f_z1z ⟨[ptr d]⟩ H (Ret fun v G=>∃ a c qs,qs.map (fun p:PendX=>(p.sec,p.b)) = X.val.q ∧ v = .slice a qs.length c ∧ G = (vec t_z4b 2 pendv a c qs•bigL pendc qs•devo d X•R)):=by
 rw [t.h.eq]
 have hqv:=hX.val.q
 refine f_z1z.does _ ?_
 conv=>whnf
 repeat' (first
  | (refine Ld.i ?_;conv=>whnf))
 obtain ⟨qa,hqa⟩:∃ qa,qa = X.qa:=⟨_,rfl⟩
 refine LoopK.at tab_ok (L:=f_z1z.live) (ι:=Nat × List PendX × Option Addr × Nat) (fun i=>i.1 ≤ X.ps.length ∧ i.2.1.map (fun p=>(p.sec,p.b)) = X.val.q.take i.1)
  (fun i=>[(11,.int .i64 i.1),(3,.slice i.2.2.1 i.2.1.length i.2.2.2)]) (fun i=>vec t_z4b 2 pendv i.2.2.1 i.2.2.2 i.2.1•bigL pendc i.2.1) (fun i=>X.ps.length - i.1) (0,[],none,0) ⟨by simp,by simp⟩ (fun t v h=>h) (Imp.assoc (Imp.vnil (Imp.empi (Imp.refl _)))) ?_
 rintro ⟨i,qs,oa,oc⟩ ⟨hi,hm⟩
 dsimp only at hi hm ⊢
 have hQl:X.val.q.length = X.ps.length:=by simp [DevX.val]
 have hqsl:qs.length = i:=by
  have:=congrArg List.length hm
  simp at this;omega
 simp only [star_assoc]
 conv=>whnf
 by_cases h1:i < X.ps.length
 ·obtain ⟨p,hp⟩:∃ p,X.ps[i]? = some p:=⟨_,List.getElem?_eq_getElem h1⟩
  have hpq:X.val.q[i]? = some (p.sec,p.b):=by simp [DevX.val,hp]
  obtain ⟨q1,q2,q3,q4⟩:=hqv _ (List.mem_of_getElem? hpq)
  dsimp only at q3
  haveI mp:MemC X.ps p:=⟨List.mem_of_getElem? hp⟩
  haveI cp:RowC W (devo d X•R) p.a 1 bytv p.b:=RowC.devp
  repeat' (first
   | (refine spl_dec (fun hd=>?_) (fun hd=>?_) <;> first|(exfalso;omega)|(conv=>whnf))
   | ((first|refine Ld.i ?_|refine St.i ⟨rfl,rfl⟩ (List.cons_ne_nil _ _) ?_|refine Ar.i64 (by omega) ?_);conv=>whnf)
   | (intro blk hblk;conv=>whnf)
   | (refine IxS.r (i:=i) (xs:=X.ps) rfl rfl h1 (fun ab off' ha=>?_);have rq:RowC W (devo d X•R) (some ⟨ab,off',none⟩) 2 pendv X.ps:=ha ▸ RowC.devq;rw [ha];conv=>whnf)
   | (refine LdN.r hp rfl ?_;conv=>whnf)
   | (refine OpX.app1g tab_ok rfl rfl rfl rfl rfl rfl (by omega) (fun a' c'=>?_);conv=>whnf)
   | (refine Sub.on (by first|exact .refl _|exact .drop|exact .fin|((repeat refine .pick ?_);first|exact .refl _|exact .emp _|exact .fin)) ?_;conv=>whnf)
   | (refine DrawK.introH tab_ok mixed 15 f_z1z.last5 f_z1z.plan5 _ rfl (by kernel_rfl) (Sub.of (by first|exact .refl _|exact .drop|exact .fin|((repeat refine .pick ?_);first|exact .refl _|exact .emp _|exact .fin))) ?_;conv=>whnf)
   | (refine CallK.ret f_z20.ok (clone_spec (by first|rfl|assumption|omega|decide|(simp;done)|(simp;omega)|(simp at *;omega))) ?_;rintro v G ⟨e_a',e_cap',e_h1,rfl,rfl⟩;conv=>whnf))
  refine ⟨rfl,(i + 1,qs ++ [(⟨p.sec,e_a',e_cap',p.b⟩:PendX)],a',c'),⟨h1,?_⟩,fun t v h=>h,?_,by dsimp only;omega⟩
  ·dsimp only
   rw [List.map_append,hm,List.take_add_one,hpq];rfl
  ·dsimp only
   rw [bigL_snoc]
   simp only [star_assoc]
   unfold pendc
   first|exact .refl _|exact .drop|exact .fin|((repeat refine .pick ?_);first|exact .refl _|exact .emp _|exact .fin)
 ·have:i = X.ps.length:=by omega
  subst this
  repeat' (first
   | (refine spl_dec (fun hd=>?_) (fun hd=>?_) <;> first|(exfalso;omega)|(conv=>whnf)))
  refine ⟨_,_,rfl,?_,oa,oc,qs,?_,rfl,rfl⟩
  ·first|exact .refl _|exact .drop|exact .fin|((repeat refine .pick ?_);first|exact .refl _|exact .emp _|exact .fin)
  ·rw [hm,← hQl,List.take_length]
theorem backward_iter {W:World} {B n c:Nat} {a:Option Addr} {ps:List PendX} {C:Nat} (hn:n = ps.length) (hb:ps.length ≤ 1000000) :
  IterSpec prog W f_z30 [ptr B] ps.length (fun k=>[.int .i64 ((ps.length:Int) - 1 - k),.agg ⟨(ps.reverse[k]?.map pendv).getD []⟩])
   (pts B (.cells ⟨[.slice a n c]⟩ t_S_api_Pending)•vec t_z4b 2 pendv a C ps):=by
 subst hn
 intro l J Jx hy
 simp only [star_assoc]
 refine f_z30.does _ _ ?_
 conv=>whnf
 repeat' (first
  | ((first|refine Ld.i ?_|refine Ar.i64 (by omega) ?_);conv=>whnf))
 refine LoopK.at tab_ok (L:=f_z30.live) (ι:=Nat) (fun k=>k ≤ ps.length) (fun k=>[(3,.int .i64 ((ps.length:Int) - 1 - k))]) (fun k=>J k) (fun k=>ps.length - k) 0 (by simp) (fun t v h=>by
   have h2:((ps.length:Int) - 1 - ((0:Nat):Int)) = (ps.length:Int) - 1:=by omega
   rw [h2] at h
   exact h) (Imp.pick (Imp.refl _)) ?_
 rintro k hk
 conv=>whnf
 by_cases h1:k < ps.length
 ·have hlt:ps.length - 1 - k < ps.length:=by omega
  obtain ⟨p,hp⟩:∃ p,ps[ps.length - 1 - k]? = some p:=⟨_,List.getElem?_eq_getElem hlt⟩
  have hr:ps.reverse[k]? = some p:=by rw [List.getElem?_reverse (by simpa using h1)];exact hp
  have hk2:=hy k h1
  dsimp only at hk2
  rw [hr] at hk2
  repeat' (first
   | (refine spl_dec (fun hd=>?_) (fun hd=>?_) <;> first|(exfalso;omega)|(conv=>whnf))
   | (refine Ld.i ?_;conv=>whnf)
   | (refine IxS.r (i:=ps.length - 1 - k) (xs:=ps) (by omega) rfl hlt (fun ab off' ha=>?_);subst ha;conv=>whnf)
   | (refine LdN.r hp rfl ?_;conv=>whnf))
  simp only [star_assoc] at hk2
  refine YieldK.use hk2 (by first|exact .refl _|exact .drop|exact .fin|((repeat refine .pick ?_);first|exact .refl _|exact .emp _|exact .fin)) ?_
  rintro v H' (⟨rfl,hi⟩|⟨rfl,hi⟩)
  ·refine ⟨_,hi,?_⟩
   conv=>whnf
   repeat' (first
    | (refine Ar.i64 (by omega) ?_;conv=>whnf))
   refine ⟨rfl,k + 1,by omega,fun t v h=>?_,?_,by omega⟩
   ·have h2:((ps.length:Int) - 1 - ((k + 1:Nat):Int)) = (ps.length:Int) - 1 - k - 1:=by omega
    rw [h2] at h
    exact h
   ·first|exact .refl _|exact .drop|exact .fin|((repeat refine .pick ?_);first|exact .refl _|exact .emp _|exact .fin)
  ·refine ⟨_,hi,?_⟩
   conv=>whnf
   skip
   exact ⟨_,_,rfl,Imp.refl _,.inr rfl⟩
 ·repeat' (first
   | (refine spl_dec (fun hd=>?_) (fun hd=>?_) <;> first|(exfalso;omega)|(conv=>whnf)))
  have:k = ps.length:=by omega
  subst this
  refine ⟨_,_,rfl,?_,.inl rfl⟩
  first|exact .refl _|exact .drop|exact .fin|((repeat refine .pick ?_);first|exact .refl _|exact .emp _|exact .fin)
end Go.Proofs.YtbcedpankkdfoaaGreatDoor
