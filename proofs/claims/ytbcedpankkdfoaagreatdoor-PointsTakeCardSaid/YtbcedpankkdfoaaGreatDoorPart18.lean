/- The program's log.Open: what the sectors hold. Conditions: in each statement. -/
import Derived.Test.YtbcedpankkdfoaaGreatDoorPart17
import Derived.Test.YtbcedpankkdfoaaGreatDoorPart15
import Derived.Test.YtbcedpankkdfoaaGreatDoorPart16
set_option linter.unusedVariables false
set_option linter.unusedSimpArgs false
namespace Go.Proofs.YtbcedpankkdfoaaGreatDoor
open Go Go.SL Go.SL.Sec Go.SL.Fld Go.SL.Pts Go.SL.Rec
open Go.SL.Und (RecV recv fits)
def okS (i:Nat) (s:List Int):Option (List Int) :=
 if s[0]? ≠ some 108 ∨ s[511]? ≠ some 165 ∨ getB s 1 4 ≠ (i:Int) + 1 ∨ getB s 5 2 < 1 ∨ getB s 5 2 > 502 then none else
 if zerosB ((s.drop (7 + (getB s 5 2).toNat)).take (504 - (getB s 5 2).toNat)) then some ((s.drop 7).take (getB s 5 2).toNat) else none
def foundG:Nat → List (List Int) → List (List Int)
 | _,[]=>[]
 | i,s :: l=>match okS i s with
  | some b=>b :: foundG (i + 1) l
  | none=>[]
structure SecX (W:World) (R:HProp) (s:BytX):Prop where
 row:RowC W R s.a 1 bytv s.b
 len:s.b.length = 512
 cap:s.b.length ≤ s.c
 byt:Byt s.b
theorem SecX.there {W:World} {R Y:HProp} {s:BytX} (h:SecX W R s):SecX W (Y•R) s:=⟨(by haveI:=h.row;infer_instance),h.len,h.cap,h.byt⟩
def Sub7 (s x:BytX):Prop:=x.a = dropA s.a 7 s.c 1 ∧ x.b = (s.b.drop 7).take x.b.length
theorem SecX.sub {W:World} {R:HProp} {s x:BytX} (h:SecX W R s) (k:Sub7 s x):RowC W R x.a 1 bytv x.b:=by
 rw [k.1,k.2]
 exact RowC.take _ (RowC.drop 7 s.c h.cap h.row)
set_option maxHeartbeats 1000000 in
theorem found_spec {W:World} {R:HProp} {a:Option Addr} {n c:Nat} {all:List BytX} [ro:RowN W R a n 1 bytx all] (hs:∀ s ∈ all,SecX W R s) (hl:all.length ≤ 10000) :
  Does prog W f_z2u ⟨[.slice a n c]⟩ R (Ret fun v G=>∃ oa oc outs,outs.map (·.b) = foundG 0 (all.map (·.b)) ∧ (∀ (i:Nat) (x:BytX),outs[i]? = some x → ∃ s,all[i]? = some s ∧ Sub7 s x) ∧ v = .slice oa outs.length oc ∧ G = (vec t_S_uint8 1 bytx oa oc outs•R)):=by
 have hn:=ro.len
 subst hn
 haveI r':=ro.row
 refine f_z2u.does _ ?_
 conv=>whnf
 skip
 refine LoopK.at tab_ok (L:=f_z2u.live) (ι:=Nat × List BytX × Option Addr × Nat) (fun i=>i.1 ≤ all.length ∧ i.2.1.length = i.1 ∧ i.2.1.map (·.b) ++ foundG i.1 ((all.drop i.1).map (·.b)) = foundG 0 (all.map (·.b)) ∧ ∀ (j:Nat) (x:BytX),i.2.1[j]? = some x → ∃ s,all[j]? = some s ∧ Sub7 s x)
  (fun i=>[(11,.int .i64 i.1),(3,.slice i.2.2.1 i.2.1.length i.2.2.2)]) (fun i=>vec t_S_uint8 1 bytx i.2.2.1 i.2.2.2 i.2.1) (fun i=>all.length - i.1) (0,[],none,0) ⟨by simp,rfl,rfl,fun j x h=>by simp at h⟩ (fun t v h=>h) (Imp.vnil (Imp.refl _)) ?_
 rintro ⟨i,outs,oa,oc⟩ ⟨hi,hol,hf,ho⟩
 dsimp only at hi hol hf ho ⊢
 conv=>whnf
 by_cases h1:i < all.length
 ·obtain ⟨s,hsx⟩:∃ s,all[i]? = some s:=⟨_,List.getElem?_eq_getElem h1⟩
  obtain ⟨sr,sl,scap,sb⟩:=hs s (List.mem_of_getElem? hsx)
  haveI:=sr
  obtain ⟨z0,hz0⟩:∃ z,s.b[0]? = some z:=⟨_,List.getElem?_eq_getElem (by omega)⟩
  obtain ⟨z1,hz1⟩:∃ z,s.b[511]? = some z:=⟨_,List.getElem?_eq_getElem (by omega)⟩
  rw [drop_of hsx,List.map_cons,foundG] at hf
  have hg1:=getB_bd sb 1 4
  have hg2:=getB_bd sb 5 2
  have hp1:(256:Int) ^ 4 = 4294967296:=by decide
  have hp2:(256:Int) ^ 2 = 65536:=by decide
  rw [hp1] at hg1
  rw [hp2] at hg2
  obtain ⟨N,hN⟩:∃ N,N = getB s.b 5 2:=⟨_,rfl⟩
  obtain ⟨M,hM⟩:∃ M,M = getB s.b 1 4:=⟨_,rfl⟩
  by_cases hbad:s.b[0]? ≠ some 108 ∨ s.b[511]? ≠ some 165 ∨ getB s.b 1 4 ≠ (i:Int) + 1 ∨ getB s.b 5 2 < 1 ∨ getB s.b 5 2 > 502
  ·have hk:okS i s.b = none:=by unfold okS;rw [if_pos hbad]
   rw [hk] at hf
   rw [hz0,hz1,← hN,← hM] at hbad
   simp only [ne_eq,Option.some.injEq] at hbad
   rw [← hN] at hg2
   rw [← hM] at hg1
   repeat' (first
    | (refine CallK.ret f_z2n.ok (number_spec (l:=s.b) (z:=5) (s:=2) (by omega) (by omega) (by omega) sb) ?_;rw [show getB s.b (Int.toNat 5) (Int.toNat 2) = N from hN.symm];rintro v G ⟨rfl,rfl⟩;conv=>whnf)
    | (refine CallK.ret f_z2n.ok (number_spec (l:=s.b) (z:=1) (s:=4) (by omega) (by omega) (by omega) sb) ?_;rw [show getB s.b (Int.toNat 1) (Int.toNat 4) = M from hM.symm];rintro v G ⟨rfl,rfl⟩;conv=>whnf)
    | (refine spl_dec (fun hd=>?_) (fun hd=>?_) <;> first|(exfalso;omega)|(conv=>whnf))
    | (refine spl_ndec (fun hd=>?_) (fun hd=>?_) <;> first|(exfalso;omega)|(conv=>whnf))
    | (refine Ar.i64 (by omega) ?_;conv=>whnf)
    | (refine IxS.r (xs:=all) (i:=i) rfl rfl h1 (fun ab off ha=>?_);have rv:RowC W R (some ⟨ab,off,none⟩) 1 bytx all:=ha ▸ inferInstance;conv=>whnf)
    | (refine Ld.r0 hsx rfl ?_;conv=>whnf)
    | (refine IxS.r (xs:=s.b) (i:=0) rfl rfl (by omega) (fun ab off ha=>?_);have rz:RowC W R (some ⟨ab,off,none⟩) 1 bytv s.b:=ha ▸ sr;conv=>whnf)
    | (refine Ld.r0 hz0 rfl ?_;conv=>whnf)
    | (refine IxS.r (xs:=s.b) (i:=511) rfl rfl (by omega) (fun ab off ha=>?_);have rz:RowC W R (some ⟨ab,off,none⟩) 1 bytv s.b:=ha ▸ sr;conv=>whnf)
    | (refine Ld.r0 hz1 rfl ?_;conv=>whnf))
   all_goals exact ⟨_,_,rfl,Imp.refl _,oa,oc,outs,by rw [← hf,List.append_nil],ho,rfl,rfl⟩
  ·have hg:s.b[0]? = some 108 ∧ s.b[511]? = some 165 ∧ getB s.b 1 4 = (i:Int) + 1 ∧ 1 ≤ getB s.b 5 2 ∧ getB s.b 5 2 ≤ 502 :=
    ⟨Classical.byContradiction fun h=>hbad (.inl h),Classical.byContradiction fun h=>hbad (.inr (.inl h)),Classical.byContradiction fun h=>hbad (.inr (.inr (.inl h))),by omega,by omega⟩
   have hk:okS i s.b = if zerosB ((s.b.drop (7 + N.toNat)).take (504 - N.toNat)) then some ((s.b.drop 7).take N.toNat) else none:=by unfold okS;rw [if_neg hbad,← hN]
   rw [hk] at hf
   obtain ⟨g0,g1,g2,g3,g4⟩:=hg
   rw [hz0,Option.some.injEq] at g0
   rw [hz1,Option.some.injEq] at g1
   rw [← hN] at g3 g4 hg2
   rw [← hM] at g2 hg1
   clear hk hbad
   subst g0 g1
   obtain ⟨n,hn⟩:∃ n:Nat,N = n:=⟨N.toNat,by omega⟩
   rw [show N.toNat = n by omega] at hf
   obtain ⟨pad,hpad⟩:∃ p,p = (s.b.drop (7 + n)).take (504 - n):=⟨_,rfl⟩
   have hpl:pad.length = 504 - n:=by rw [hpad,List.length_take,List.length_drop];omega
   haveI rp:RowC W R (dropA s.a (7 + n) s.c 1) 1 bytv pad:=by rw [hpad];exact RowC.take _ (RowC.drop (7 + n) s.c scap sr)
   rw [← hpad] at hf
   obtain ⟨tk,htk⟩:∃ p,p = (s.b.drop 7).take n:=⟨_,rfl⟩
   have htl:tk.length = n:=by rw [htk,List.length_take,List.length_drop];omega
   rw [← htk] at hf
   repeat' (first
    | (refine CallK.ret f_z2n.ok (number_spec (l:=s.b) (z:=5) (s:=2) (by omega) (by omega) (by omega) sb) ?_;rw [show getB s.b (Int.toNat 5) (Int.toNat 2) = N from hN.symm];rintro v G ⟨rfl,rfl⟩;conv=>whnf)
    | (refine CallK.ret f_z2n.ok (number_spec (l:=s.b) (z:=1) (s:=4) (by omega) (by omega) (by omega) sb) ?_;rw [show getB s.b (Int.toNat 1) (Int.toNat 4) = M from hM.symm];rintro v G ⟨rfl,rfl⟩;conv=>whnf)
    | (refine spl_dec (fun hd=>?_) (fun hd=>?_) <;> first|(exfalso;omega)|(conv=>whnf))
    | (refine spl_ndec (fun hd=>?_) (fun hd=>?_) <;> first|(exfalso;omega)|(conv=>whnf))
    | (refine Ar.i64 (by omega) ?_;conv=>whnf)
    | (refine OpX.of_quiet (OpQ.sly tab_ok (7 + n) (504 - n) 1 rfl rfl rfl rfl rfl rfl (by omega) (by omega) (by omega) ?_);rw [← hpl];conv=>whnf)
    | (refine IxS.r (xs:=all) (i:=i) rfl rfl h1 (fun ab off ha=>?_);have rv:RowC W R (some ⟨ab,off,none⟩) 1 bytx all:=ha ▸ inferInstance;conv=>whnf)
    | (refine Ld.r0 hsx rfl ?_;conv=>whnf)
    | (refine IxS.r (xs:=s.b) (i:=0) rfl rfl (by omega) (fun ab off ha=>?_);have rz:RowC W R (some ⟨ab,off,none⟩) 1 bytv s.b:=ha ▸ sr;conv=>whnf)
    | (refine Ld.r0 hz0 rfl ?_;conv=>whnf)
    | (refine IxS.r (xs:=s.b) (i:=511) rfl rfl (by omega) (fun ab off ha=>?_);have rz:RowC W R (some ⟨ab,off,none⟩) 1 bytv s.b:=ha ▸ sr;conv=>whnf)
    | (refine Ld.r0 hz1 rfl ?_;conv=>whnf))
   refine LoopK.keep tab_ok (L:=f_z2u.live) (ι:=Nat) (fun j=>j ≤ pad.length ∧ zerosB pad = zerosB (pad.drop j)) (fun j=>[(48,.int .i64 j)]) (fun j=>pad.length - j) 0 (by simp) (fun t v h=>h) ?_
   rintro j ⟨hj,hz⟩
   conv=>whnf
   by_cases h2:j < pad.length
   ·obtain ⟨b,hb⟩:∃ b,pad[j]? = some b:=⟨_,List.getElem?_eq_getElem h2⟩
    rw [show zerosB (pad.drop j) = (decide (b = 0) && zerosB (pad.drop (j + 1))) by rw [drop_of hb];simp [zerosB]] at hz
    by_cases hb0:b = 0
    ·rw [decide_eq_true hb0,Bool.true_and] at hz
     subst hb0
     repeat' (first
      | (refine spl_dec (fun hd=>?_) (fun hd=>?_) <;> first|(exfalso;omega)|(conv=>whnf))
      | (refine Ar.i64 (by omega) ?_;conv=>whnf)
      | (refine IxS.r (xs:=pad) (i:=j) rfl rfl h2 (fun ab off ha=>?_);have rz:RowC W R (some ⟨ab,off,none⟩) 1 bytv pad:=ha ▸ rp;conv=>whnf)
      | (refine Ld.r0 hb rfl ?_;conv=>whnf))
     exact ⟨rfl,j + 1,⟨h2,hz⟩,fun t v h=>h,Imp.refl _,by omega⟩
    ·rw [decide_eq_false hb0,Bool.false_and] at hz
     rw [hz] at hf
     repeat' (first
      | (refine spl_dec (fun hd=>?_) (fun hd=>?_) <;> first|(exfalso;omega)|(conv=>whnf))
      | (refine spl_ndec (fun hd=>?_) (fun hd=>?_) <;> first|(exfalso;omega)|(conv=>whnf))
      | (refine IxS.r (xs:=pad) (i:=j) rfl rfl h2 (fun ab off ha=>?_);have rz:RowC W R (some ⟨ab,off,none⟩) 1 bytv pad:=ha ▸ rp;conv=>whnf)
      | (refine Ld.r0 hb rfl ?_;conv=>whnf))
     exact ⟨_,_,rfl,Imp.refl _,oa,oc,outs,by rw [← hf];exact (List.append_nil _).symm,ho,rfl,rfl⟩
   ·rw [List.drop_eq_nil_of_le (by omega)] at hz
    rw [hz] at hf
    repeat' (first
     | (refine spl_dec (fun hd=>?_) (fun hd=>?_) <;> first|(exfalso;omega)|(conv=>whnf))
     | (refine Ar.i64 (by omega) ?_;conv=>whnf)
     | (intro blk hblk;conv=>whnf)
     | (refine OpX.of_quiet (OpQ.sly tab_ok 7 n 1 rfl rfl rfl rfl rfl rfl (by omega) (by omega) (by omega) ?_);conv=>whnf)
     | (refine OpX.app1g (xs:=outs) (x:=(⟨dropA s.a 7 s.c 1,s.c - 7,tk⟩:BytX)) (dx:=by exact ⟨by unfold bytx;dsimp only;rw [htl]⟩) tab_ok rfl rfl rfl rfl rfl rfl (by omega) (fun a' c'=>?_);conv=>whnf))
    refine ⟨rfl,(i + 1,outs ++ [(⟨dropA s.a 7 s.c 1,s.c - 7,tk⟩:BytX)],_,_),⟨h1,by simp;omega,?_,fun j x hx=>?_⟩,fun t v h=>h,?_,by dsimp only;omega⟩
    ·rw [← hf,List.map_append,List.append_assoc];rfl
    ·by_cases hj2:j < outs.length
     ·rw [List.getElem?_append_left hj2] at hx
      exact ho j x hx
     ·have hjl:j < (outs ++ [(⟨dropA s.a 7 s.c 1,s.c - 7,tk⟩:BytX)]).length:=(List.getElem?_eq_some_iff.1 hx).1
      rw [List.length_append] at hjl
      have hji:j = i:=by simp at hjl;omega
      subst hji
      rw [List.getElem?_append_right (by omega),show j - outs.length = 0 by omega] at hx
      cases hx
      exact ⟨s,hsx,rfl,by dsimp only;rw [htl,htk]⟩
    ·first|exact .refl _|exact .drop|exact .fin|((repeat refine .pick ?_);first|exact .refl _|exact .emp _|exact .fin)
 ·rw [List.drop_eq_nil_of_le (by omega),List.map_nil,foundG,List.append_nil] at hf
  repeat' (first
   | (refine spl_dec (fun hd=>?_) (fun hd=>?_) <;> first|(exfalso;omega)|(conv=>whnf)))
  exact ⟨_,_,rfl,Imp.refl _,oa,oc,outs,hf,ho,rfl,rfl⟩
end Go.Proofs.YtbcedpankkdfoaaGreatDoor
/- The program's log: zeros behind the end. Conditions: in each statement. -/
namespace Go.SL.Rec
open Go Go.SL Go.SL.Sec Go.SL.Fld Go.SL.Pts
def z512:List Int:=List.replicate 512 0
theorem z512_eq:z512 = List.replicate 512 0:=rfl
theorem z512_len:z512.length = 512:=List.length_replicate
def wipG (first:Int):Nat → List (List Int) → Bool → Dev → Int × Dev
 | _,[],wd,D=>if wd then D.sync else (0,D)
 | i,s :: l,wd,D=>if Go.Proofs.YtbcedpankkdfoaaGreatDoor.zerosB s then wipG first (i + 1) l wd D else
  if (D.write (first + i) z512).1 = 0 then wipG first (i + 1) l true (D.write (first + i) z512).2 else D.write (first + i) z512
end Go.SL.Rec
namespace Go.Proofs.YtbcedpankkdfoaaGreatDoor
open Go Go.SL Go.SL.Sec Go.SL.Fld Go.SL.Pts Go.SL.Rec
open Go.SL.Und (RecV recv fits)
set_option maxHeartbeats 1000000 in
theorem wipe_spec {W:World} {R:HProp} {l d:Nat} {X:LogX} {Y:DevX} {a:Option Addr} {n c:Nat} {all:List BytX} [ro:RowN W R a n 1 bytx all] (hs:∀ s ∈ all,SecX W R s) (hX:X.Ok) (hY:Y.Ok) (hq:Y.ps.length ≤ 500000) (hd:X.d = d) (hf:0 ≤ X.first ∧ X.first ≤ 8192) (hl:(all.length:Int) = X.count) :
  Does prog W f_z1i ⟨[ptr l,.slice a n c]⟩ (logo l X•devo d Y•R)
   (fun en G=>∃ G',Imp G G' ∧ AskQ (wipG X.first X.recs.length ((all.map (·.b)).drop X.recs.length) false Y.val).1 (fun G=>∃ Y':DevX,Y'.Ok ∧ Y'.val = (wipG X.first X.recs.length ((all.map (·.b)).drop X.recs.length) false Y.val).2 ∧ Y'.ps.length ≤ Y.ps.length + all.length ∧
    G = (devo d Y'•logo l X•R)) en G'):=by
 subst hd
 have hn:=ro.len
 subst hn
 haveI r':=ro.row
 have hlen:=hX.len
 have hcnt:=hX.cnt
 obtain ⟨B,hB⟩:∃ B,B = all.map (·.b):=⟨_,rfl⟩
 have hBi:∀ (i:Nat) (x:BytX),all[i]? = some x → B[i]? = some x.b:=fun i x hx=>by rw [hB,List.getElem?_map,hx];rfl
 have hBl:B.length = all.length:=by rw [hB,List.length_map]
 rw [← hB]
 obtain ⟨RR,hRR⟩:∃ RR,RR = wipG X.first X.recs.length (B.drop X.recs.length) false Y.val:=⟨_,rfl⟩
 rw [← hRR]
 have hZl:z512.length = 512:=z512_len
 have hZb:Byt z512:=z512_eq ▸ Byt.rep 512
 haveI r512:∀ (a:Option Addr) (c:Nat) (Q:HProp),RowN W (vec t_uint8 1 bytv a c z512•Q) a 512 1 bytv z512:=fun a c Q=>⟨inferInstance,hZl.symm⟩
 refine f_z1i.does _ _ ?_
 conv=>whnf
 repeat' (first
  | (refine Ld.i ?_;conv=>whnf))
 refine LoopK.at tab_ok (L:=f_z1i.live) (ι:=Nat × Bool × DevX) (fun i=>X.recs.length ≤ i.1 ∧ i.1 ≤ all.length ∧ wipG X.first i.1 (B.drop i.1) i.2.1 i.2.2.val = RR ∧ i.2.2.Ok ∧ i.2.2.ps.length ≤ Y.ps.length + i.1 - X.recs.length) (fun i=>[(4,.bool i.2.1),(5,.int .i64 i.1)])
  (fun i=>devo X.d i.2.2) (fun i=>all.length - i.1) (X.recs.length,false,Y) ⟨by simp,by dsimp only;omega,by rw [hRR],hY,by dsimp only;omega⟩ (fun t v h=>h) (Imp.pick (Imp.refl _)) ?_
 rintro ⟨k,wd,Z⟩ ⟨hk0,hk,hw,hZ,hZq⟩
 dsimp only at hk0 hk hw hZ hZq ⊢
 conv=>whnf
 by_cases h1:k < all.length
 ·obtain ⟨x,hx⟩:∃ x,all[k]? = some x:=⟨_,List.getElem?_eq_getElem h1⟩
  obtain ⟨sr,sl,scap,sb⟩:=hs x (List.mem_of_getElem? hx)
  haveI:=sr
  haveI rn:∀ Q:HProp,RowC W (Q•R) x.a 1 bytv x.b:=fun Q=>inferInstance
  rw [drop_of (hBi k x hx),wipG] at hw
  obtain ⟨bz,hbz⟩:∃ bz,bz = zerosB x.b:=⟨_,rfl⟩
  rw [← hbz] at hw
  cases bz with
  | true =>
   rw [if_pos rfl] at hw
   repeat' (first
    | (refine CallK.ret f_z2z.ok (lblank_spec (l:=x.b) (by omega)) ?_;rw [← hbz];rintro v G ⟨rfl,rfl⟩;conv=>whnf)
    | (refine spl_dec (fun hd=>?_) (fun hd=>?_) <;> first|(exfalso;omega)|(conv=>whnf))
    | ((first|refine Ld.i ?_|refine Ar.i64 (by omega) ?_);conv=>whnf)
    | (refine IxS.r (xs:=all) (i:=k) rfl rfl h1 (fun ab off ha=>?_);have rv:RowC W R (some ⟨ab,off,none⟩) 1 bytx all:=ha ▸ inferInstance;conv=>whnf)
    | (refine Ld.r0 hx rfl ?_;conv=>whnf))
   refine ⟨rfl,(k + 1,wd,Z),⟨by dsimp only;omega,h1,hw,hZ,by dsimp only;omega⟩,fun t v h=>h,Imp.refl _,by dsimp only;omega⟩
  | false =>
   rw [if_neg (by decide)] at hw
   obtain ⟨e,he⟩:∃ e,e = (Z.val.write (X.first + k) z512).1:=⟨_,rfl⟩
   rw [← he] at hw
   by_cases he0:e = 0
   ·rw [if_pos he0] at hw
    repeat' (first
     | (refine DrawK.introK tab_ok mixed 25 f_z1i.last5 f_z1i.plan5 rfl (by kernel_rfl) ?_;conv=>whnf)
     | (refine CallK.ret f_z2z.ok (lblank_spec (l:=x.b) (by omega)) ?_;rw [← hbz];rintro v G ⟨rfl,rfl⟩;conv=>whnf)
     | (refine CallK.ret f_z11.ok (write_spec (X:=Z) (b:=z512) hZ (by omega) hZb (by omega)) ?_;rintro v G ⟨Z',hZ',hZv,hZl',rfl,rfl⟩;rw [← he,he0];conv=>whnf)
     | (refine CallK.ret f_zw.ok asked_ok ?_;rintro v G ⟨rfl,rfl⟩;conv=>whnf)
     | (refine spl_dec (fun hd=>?_) (fun hd=>?_) <;> first|(exfalso;omega)|(conv=>whnf))
     | ((first|refine Ld.i ?_|refine Ar.i64 (by omega) ?_);conv=>whnf)
     | (refine IxS.r (xs:=all) (i:=k) rfl rfl h1 (fun ab off ha=>?_);have rv:RowC W R (some ⟨ab,off,none⟩) 1 bytx all:=ha ▸ inferInstance;conv=>whnf)
     | (refine Ld.r0 hx rfl ?_;conv=>whnf)
     | (refine OpX.make tab_ok bytv 0 rfl rfl rfl rfl rfl rfl (by omega) (fun s hs=>?_);rw [show (Int.toNat 512) = 512 from rfl,← z512_eq];conv=>whnf)
     | (refine Req.mk (Sub.of (Imp.trans Imp.drop Imp.drop)) ?_;conv=>whnf))
    refine ⟨rfl,(k + 1,true,Z'),⟨by dsimp only;omega,h1,by rw [hZv];exact hw,hZ',by dsimp only;omega⟩,fun t v h=>h,?_,by dsimp only;omega⟩
    first|exact .refl _|exact .drop|exact .fin|((repeat refine .pick ?_);first|exact .refl _|exact .emp _|exact .fin)
   ·rw [if_neg he0] at hw
    repeat' (first
     | (refine DrawK.introK tab_ok mixed 25 f_z1i.last5 f_z1i.plan5 rfl (by kernel_rfl) ?_;conv=>whnf)
     | (refine CallK.ret f_z2z.ok (lblank_spec (l:=x.b) (by omega)) ?_;rw [← hbz];rintro v G ⟨rfl,rfl⟩;conv=>whnf)
     | (refine CallK.ret f_z11.ok (write_spec (X:=Z) (b:=z512) hZ (by omega) hZb (by omega)) ?_;rintro v G ⟨Z',hZ',hZv,hZl',rfl,rfl⟩;rw [← he];conv=>whnf)
     | (refine CallK.thr f_zw.ok (asked_no he0) ?_;rintro c G ⟨rfl,rfl⟩;conv=>whnf)
     | (refine spl_dec (fun hd=>?_) (fun hd=>?_) <;> first|(exfalso;omega)|(conv=>whnf))
     | ((first|refine Ld.i ?_|refine Ar.i64 (by omega) ?_);conv=>whnf)
     | (refine IxS.r (xs:=all) (i:=k) rfl rfl h1 (fun ab off ha=>?_);have rv:RowC W R (some ⟨ab,off,none⟩) 1 bytx all:=ha ▸ inferInstance;conv=>whnf)
     | (refine Ld.r0 hx rfl ?_;conv=>whnf)
     | (refine OpX.make tab_ok bytv 0 rfl rfl rfl rfl rfl rfl (by omega) (fun s hs=>?_);rw [show (Int.toNat 512) = 512 from rfl,← z512_eq];conv=>whnf)
     | (refine Req.mk (Sub.of (Imp.trans Imp.drop Imp.drop)) ?_;conv=>whnf))
    refine ⟨_,?_,.inr ⟨?_,?_⟩,Z',hZ',?_,?_,rfl⟩
    ·first|exact .refl _|exact .drop|exact .fin|((repeat refine .pick ?_);first|exact .refl _|exact .emp _|exact .fin)
    ·rw [← hw,← he];exact he0
    ·rw [← hw,← he]
    ·rw [hZv,← hw]
    ·omega
 ·rw [List.drop_eq_nil_of_le (by omega),wipG] at hw
  cases wd with
  | false =>
   rw [if_neg (by decide)] at hw
   repeat' (first
    | (refine spl_dec (fun hd=>?_) (fun hd=>?_) <;> first|(exfalso;omega)|(conv=>whnf))
    | (refine Ld.i ?_;conv=>whnf))
   refine ⟨_,?_,.inl ⟨?_,rfl⟩,Z,hZ,?_,?_,rfl⟩
   ·first|exact .refl _|exact .drop|exact .fin|((repeat refine .pick ?_);first|exact .refl _|exact .emp _|exact .fin)
   ·rw [← hw]
   ·rw [← hw]
   ·omega
  | true =>
   rw [if_pos rfl] at hw
   obtain ⟨e,he⟩:∃ e,e = Z.val.sync.1:=⟨_,rfl⟩
   by_cases he0:e = 0
   ·repeat' (first
     | (refine CallK.ret f_zx.ok (sync_spec (X:=Z) hZ (by omega)) ?_;rintro v G ⟨Z',hZ',hZv,hZl,rfl,rfl⟩;rw [← he,he0];conv=>whnf)
     | (refine CallK.ret f_zw.ok asked_ok ?_;rintro v G ⟨rfl,rfl⟩;conv=>whnf)
     | (refine spl_dec (fun hd=>?_) (fun hd=>?_) <;> first|(exfalso;omega)|(conv=>whnf))
     | (refine Ld.i ?_;conv=>whnf))
    refine ⟨_,?_,.inl ⟨?_,rfl⟩,Z',hZ',?_,?_,rfl⟩
    ·first|exact .refl _|exact .drop|exact .fin|((repeat refine .pick ?_);first|exact .refl _|exact .emp _|exact .fin)
    ·rw [← hw,← he];exact he0
    ·rw [hZv,← hw]
    ·omega
   ·repeat' (first
     | (refine CallK.ret f_zx.ok (sync_spec (X:=Z) hZ (by omega)) ?_;rintro v G ⟨Z',hZ',hZv,hZl,rfl,rfl⟩;rw [← he];conv=>whnf)
     | (refine CallK.thr f_zw.ok (asked_no he0) ?_;rintro c G ⟨rfl,rfl⟩;conv=>whnf)
     | (refine spl_dec (fun hd=>?_) (fun hd=>?_) <;> first|(exfalso;omega)|(conv=>whnf))
     | (refine Ld.i ?_;conv=>whnf))
    refine ⟨_,?_,.inr ⟨?_,?_⟩,Z',hZ',?_,?_,rfl⟩
    ·first|exact .refl _|exact .drop|exact .fin|((repeat refine .pick ?_);first|exact .refl _|exact .emp _|exact .fin)
    ·rw [← hw,← he];exact he0
    ·rw [← hw,← he]
    ·rw [hZv,← hw]
    ·omega
end Go.Proofs.YtbcedpankkdfoaaGreatDoor
/- The program's log.Open: the records that the sectors hold; walked. Conditions: in each statement. -/
namespace Go.SL.Rec
open Go Go.SL Go.SL.Sec Go.SL.Fld Go.SL.Pts
abbrev logB (d:Nat) (first count:Int) (ra:Option Addr) (rc:Nat) (recs:List RecX) (forced:Nat):LogX:=⟨d,first,count,ra,rc,recs,none,0,[],forced,none⟩
end Go.SL.Rec
namespace Go.Proofs.YtbcedpankkdfoaaGreatDoor
open Go Go.SL Go.SL.Sec Go.SL.Fld Go.SL.Pts Go.SL.Rec
open Go.SL.Und (RecV recv fits)
def readR (i:Nat) (T:DecT):RecM:=⟨bare { T.2.1 with lsn:=(i:Int) + 1 },T.2.2.1,T.2.2.2⟩
def ReadP (i:Nat) (T:DecT):Prop:=T.1 = 0 ∧ chkF (withL { T.2.1 with lsn:=(i:Int) + 1 } T.2.2.1 T.2.2.2) T.2.2.1 T.2.2.2 = 0
instance (i:Nat) (T:DecT):Decidable (ReadP i T):=by unfold ReadP;infer_instance
def readG:Nat → List (List Int) → Int × List RecM
 | _,[]=>(0,[])
 | i,b :: l=>if ReadP i (decF b) then ((readG (i + 1) l).1,readR i (decF b) :: (readG (i + 1) l).2) else ((i:Int) + 1,[])
def AskN (z e:Int) (P:HProp → Prop) (en:Ending) (G:HProp):Prop:=((e = 0 ∧ en = .returned (.tuple ⟨[]⟩)) ∨ (e ≠ 0 ∧ en = .panicked (pan (refv z e)))) ∧ P G
theorem AskN.of {e:Int} {P:HProp → Prop} {en:Ending} {G:HProp} (h:AskQ e P en G):AskN 0 e P en G:=h
theorem caughtN_spec {W:World} {H:HProp} {w:ByteArray} {g:FuncId} {cap:List Value} {z e:Int} {P:HProp → Prop} (hg:Callable prog g)
  (h:∀ bc be:Nat,Does prog W g ⟨cap⟩ (pts be (.cells ⟨[.nilIface]⟩ t_error)•pts bc (.cells ⟨[.string w]⟩ t_string)•H) (fun en G=>∃ G',Imp G G' ∧ AskN z e (fun G=>∃ G0,P G0 ∧ G = (pts be (.cells ⟨[.nilIface]⟩ t_error)•pts bc (.cells ⟨[.string w]⟩ t_string)•G0)) en G')) :
  Does prog W f_z2l ⟨[.string w,.func (.func g) #[] ⟨cap⟩]⟩ H (Ret fun v G=>∃ G0,P G0 ∧ ((e = 0 ∧ v = .nilIface ∧ G = G0) ∨ (e ≠ 0 ∧ ∃ b,v = .iface t_z8 (ptr b) ∧ G = (fltc b w z e•G0)))):=by
 refine f_z2l.does _ _ ?_
 conv=>whnf
 repeat' (first
  | (intro blk hblk;conv=>whnf))
 refine CallK.any hg (h _ _) ?_
 rintro en G ⟨⟨h0,rfl⟩|⟨h0,rfl⟩,G0,hP,rfl⟩
 ·conv=>whnf
  repeat' (first
   | (refine St.i ⟨rfl,rfl⟩ (List.cons_ne_nil _ _) ?_;conv=>whnf))
  refine LeaveD.ret tab_ok (by simp) f_zr.ok caught1_ok ?_
  rintro _ _ G ⟨rfl,rfl⟩
  conv=>whnf
  repeat' (first
   | (refine Ld.i ?_;conv=>whnf))
  refine ⟨_,_,rfl,?_,G0,hP,.inl ⟨h0,rfl,rfl⟩⟩
  first|exact .refl _|exact .drop|exact .fin|((repeat refine .pick ?_);first|exact .refl _|exact .emp _|exact .fin)
 ·conv=>whnf
  skip
  refine LeaveD.ret tab_ok (by simp) f_zr.ok (DDoes.imp (by first|exact .refl _|exact .drop|exact .fin|((repeat refine .pick ?_);first|exact .refl _|exact .emp _|exact .fin)) (caught1_no (w:=w) (z:=z) (e:=e) (v:=.nilIface) (R:=G0) (older:=[]))) ?_
  rintro _ _ G ⟨b,rfl,rfl⟩
  conv=>whnf
  repeat' (first
   | (refine Ld.i ?_;conv=>whnf))
  refine ⟨_,_,rfl,?_,G0,hP,.inr ⟨h0,b,rfl,rfl⟩⟩
  first|exact .refl _|exact .drop|exact .fin|((repeat refine .pick ?_);first|exact .refl _|exact .emp _|exact .fin)
set_option maxHeartbeats 2000000 in
theorem lread_spec {W:World} {R:HProp} {l d:Nat} {first count:Int} {a:Option Addr} {n c:Nat} {outs:List BytX} [ro:RowN W R a n 1 bytx outs] (ho:∀ x ∈ outs,RowC W R x.a 1 bytv x.b ∧ Byt x.b ∧ x.b.length ≤ 512) (hl:outs.length ≤ 10000) :
  Does prog W f_z21 ⟨[ptr l,.slice a n c]⟩ (logo l (logB d first count none 0 [] 0)•R)
   (fun en G=>∃ G',Imp G G' ∧ AskN (readG 0 (outs.map (·.b))).1 (if (readG 0 (outs.map (·.b))).1 = 0 then 0 else 60) (fun G=>∃ ra rc recs,recs.map (·.m) = (readG 0 (outs.map (·.b))).2 ∧ (∀ x ∈ recs,x.m.L.length ≤ 32 ∧ x.m.D.length ≤ 16 ∧ bare x.m.r = x.m.r) ∧
    G = (logo l (logB d first count ra rc recs (if (readG 0 (outs.map (·.b))).1 = 0 then recs.length else 0))•R)) en G'):=by
 have hn:=ro.len
 subst hn
 haveI r':=ro.row
 obtain ⟨B,hB⟩:∃ B,B = outs.map (·.b):=⟨_,rfl⟩
 have hBi:∀ (i:Nat) (x:BytX),outs[i]? = some x → B[i]? = some x.b:=fun i x hx=>by rw [hB,List.getElem?_map,hx];rfl
 have hBl:B.length = outs.length:=by rw [hB,List.length_map]
 rw [← hB]
 obtain ⟨T,hT⟩:∃ T,T = readG 0 B:=⟨_,rfl⟩
 rw [← hT]
 refine f_z21.does _ _ ?_
 conv=>whnf
 skip
 refine LoopK.at tab_ok (L:=f_z21.live) (ι:=Nat × List RecX × Option Addr × Nat) (fun i=>i.1 ≤ outs.length ∧ i.2.1.length = i.1 ∧ T = ((readG i.1 (B.drop i.1)).1,i.2.1.map (·.m) ++ (readG i.1 (B.drop i.1)).2) ∧ ∀ x ∈ i.2.1,x.m.L.length ≤ 32 ∧ x.m.D.length ≤ 16 ∧ bare x.m.r = x.m.r)
  (fun i=>[(10,.int .i64 i.1)]) (fun i=>logo l (logB d first count i.2.2.1 i.2.2.2 i.2.1 0)) (fun i=>outs.length - i.1) (0,[],none,0) ⟨by simp,rfl,by rw [hT];rfl,fun x hx=>by cases hx⟩ (fun t v h=>h) (Imp.refl _) ?_
 rintro ⟨i,recs,ra,rc⟩ ⟨hi,hrl,hf,hok⟩
 dsimp only at hi hrl hf hok ⊢
 conv=>whnf
 by_cases h1:i < outs.length
 ·obtain ⟨x,hx⟩:∃ x,outs[i]? = some x:=⟨_,List.getElem?_eq_getElem h1⟩
  obtain ⟨rx,bx,lx⟩:=ho x (List.mem_of_getElem? hx)
  haveI:=rx
  rw [drop_of (hBi i x hx),readG] at hf
  obtain ⟨t,ht⟩:∃ t,t = decF x.b:=⟨_,rfl⟩
  rw [← ht] at hf
  obtain ⟨C,hC⟩:∃ C,C = chkF (withL { t.2.1 with lsn:=(i:Int) + 1 } t.2.2.1 t.2.2.2) t.2.2.1 t.2.2.2:=⟨_,rfl⟩
  by_cases c1:t.1 = 0
  rotate_left
  ·have hr:¬ ReadP i t:=fun k=>c1 k.1
   rw [if_neg hr] at hf
   have hz:¬ T.1 = 0:=by rw [hf];dsimp only;omega
   rw [if_neg hz,show T.1 = (i:Int) + 1 by rw [hf]]
   repeat' (first
    | (refine CallK.ret f_ze.ok (decode_spec (l:=x.b) bx (by omega)) ?_;rw [← ht];rintro v G ⟨la,lc,da,dc,rfl,rfl⟩;unfold recLA recA;conv=>whnf)
    | (rw [decide_eq_false c1];conv=>whnf)
    | (refine spl_dec (fun hd=>?_) (fun hd=>?_) <;> first|(exfalso;omega)|(conv=>whnf))
    | ((first|refine St.i ⟨rfl,rfl⟩ (List.cons_ne_nil _ _) ?_|refine Ar.i64 (by omega) ?_);conv=>whnf)
    | (intro blk hblk;conv=>whnf)
    | (refine IxS.r (xs:=outs) (i:=i) rfl rfl h1 (fun ab off ha=>?_);cases ha;conv=>whnf)
    | (refine Ld.r0 hx rfl ?_;conv=>whnf))
   refine ⟨_,?_,.inr ⟨by decide,rfl⟩,ra,rc,recs,by rw [hf];exact (List.append_nil _).symm,hok,rfl⟩
   rw [if_neg (show ¬ ((i:Int) + 1 = 0) by omega)]
   first|exact .refl _|exact .drop|exact .fin|((repeat refine .pick ?_);first|exact .refl _|exact .emp _|exact .fin)
  by_cases c2:C = 0
  rotate_left
  ·have hr:¬ ReadP i t:=fun k=>c2 (hC.trans k.2)
   rw [if_neg hr] at hf
   have hz:¬ T.1 = 0:=by rw [hf];dsimp only;omega
   rw [if_neg hz,show T.1 = (i:Int) + 1 by rw [hf]]
   repeat' (first
    | (refine CallK.ret f_ze.ok (decode_spec (l:=x.b) bx (by omega)) ?_;rw [← ht];rintro v G ⟨la,lc,da,dc,rfl,rfl⟩;unfold recLA recA;conv=>whnf)
    | (rw [decide_eq_true c1];conv=>whnf)
    | (rw [decide_eq_false c2];conv=>whnf)
    | (refine CallK.ret f_z2.ok (check_spec (r:={ t.2.1 with lsn:=(i:Int) + 1,lv:=(la,t.2.2.1.length,lc),dt:=(da,t.2.2.2.length,dc) }) (L:=t.2.2.1) (D:=t.2.2.2)) ?_;rw [chkF_addr (r:={ t.2.1 with lsn:=(i:Int) + 1 }),← hC];rintro v G ⟨rfl,rfl⟩;conv=>whnf)
    | (refine spl_dec (fun hd=>?_) (fun hd=>?_) <;> first|(exfalso;omega)|(conv=>whnf))
    | ((first|refine LdN.i ?_|refine St.i ⟨rfl,rfl⟩ (List.cons_ne_nil _ _) ?_|refine Ar.i64 (by omega) ?_);conv=>whnf)
    | (intro blk hblk;conv=>whnf)
    | (refine IxS.r (xs:=outs) (i:=i) rfl rfl h1 (fun ab off ha=>?_);cases ha;conv=>whnf)
    | (refine Ld.r0 hx rfl ?_;conv=>whnf))
   refine ⟨_,?_,.inr ⟨by decide,rfl⟩,ra,rc,recs,by rw [hf];exact (List.append_nil _).symm,hok,rfl⟩
   rw [if_neg (show ¬ ((i:Int) + 1 = 0) by omega)]
   first|exact .refl _|exact .drop|exact .fin|((repeat refine .pick ?_);first|exact .refl _|exact .emp _|exact .fin)
  rw [if_pos ⟨c1,hC.symm.trans c2⟩] at hf
  repeat' (first
   | (refine CallK.ret f_ze.ok (decode_spec (l:=x.b) bx (by omega)) ?_;rw [← ht];rintro v G ⟨la,lc,da,dc,rfl,rfl⟩;unfold recLA recA;conv=>whnf)
   | (rw [decide_eq_true c1];conv=>whnf)
   | (refine CallK.ret f_z2.ok (check_spec (r:={ t.2.1 with lsn:=(i:Int) + 1,lv:=(la,t.2.2.1.length,lc),dt:=(da,t.2.2.2.length,dc) }) (L:=t.2.2.1) (D:=t.2.2.2)) ?_;rw [chkF_addr (r:={ t.2.1 with lsn:=(i:Int) + 1 }),← hC];rintro v G ⟨rfl,rfl⟩;rw [logo_eq];conv=>whnf)
   | (rw [c2];conv=>whnf)
   | (refine DrawK.introK tab_ok mixed 33 f_z21.last9 f_z21.plan9 rfl (by kernel_rfl) ?_;conv=>whnf)
   | (refine spl_dec (fun hd=>?_) (fun hd=>?_) <;> first|(exfalso;omega)|(conv=>whnf))
   | ((first|refine Ld.i ?_|refine LdN.i ?_|refine St.i ⟨rfl,rfl⟩ (List.cons_ne_nil _ _) ?_|refine Ar.i64 (by omega) ?_);conv=>whnf)
   | (intro blk hblk;conv=>whnf)
   | (refine IxS.r (xs:=outs) (i:=i) rfl rfl h1 (fun ab off ha=>?_);cases ha;conv=>whnf)
   | (refine Ld.r0 hx rfl ?_;conv=>whnf)
   | (refine OpX.app1 (xs:=recs) tab_ok rfl rfl rfl rfl (⟨readR i t,la,lc,da,dc⟩:RecX) rfl rfl (by omega) ⟨rfl,OneC.h⟩ (fun ra' rc'=>?_);conv=>whnf)
   | (refine Sub.on (by first|exact .refl _|exact .drop|exact .fin|((repeat refine .pick ?_);first|exact .refl _|exact .emp _|exact .fin)) ?_;conv=>whnf))
  obtain ⟨y,hy⟩:∃ y:RecX,y = ⟨readR i t,la,lc,da,dc⟩:=⟨_,rfl⟩
  rw [← hy]
  have hyl:y.m.L.length ≤ 32 ∧ y.m.D.length ≤ 16:=by
   rw [hy]
   exact chk_lens (hC.symm.trans c2) rfl rfl
  have hyc:recc y = (vec t_z23 4 livev la lc t.2.2.1•vec t_z1l 2 dirtyv da dc t.2.2.2):=by rw [hy];rfl
  have l1:(recs ++ [y]).length = i + 1:=by simp [hrl]
  refine ⟨rfl,(i + 1,recs ++ [y],ra',rc'),⟨h1,l1,?_,fun x hx=>?_⟩,fun t v h=>h,?_,by dsimp only;omega⟩
  ·rw [hf,hy]
   simp
  ·rcases List.mem_append.1 hx with h|h
   ·exact hok x h
   ·cases List.mem_singleton.1 h
    exact ⟨hyl.1,hyl.2,by rw [hy];rfl⟩
  ·dsimp only
   rw [logo_eq]
   dsimp only
   rw [bigL_snoc,hyc,show (recs ++ [y]).length = recs.length + 1 by simp]
   simp only [star_assoc]
   first|exact .refl _|exact .drop|exact .fin|((repeat refine .pick ?_);first|exact .refl _|exact .emp _|exact .fin)
 ·have e0:i = outs.length:=by omega
  subst e0
  rw [List.drop_eq_nil_of_le (by omega),readG] at hf
  rw [show T.1 = 0 by rw [hf],if_pos rfl,logo_eq]
  repeat' (first
   | (refine spl_dec (fun hd=>?_) (fun hd=>?_) <;> first|(exfalso;omega)|(conv=>whnf))
   | ((first|refine Ld.i ?_|refine St.i ⟨rfl,rfl⟩ (List.cons_ne_nil _ _) ?_);conv=>whnf))
  refine ⟨_,?_,.inl ⟨rfl,rfl⟩,ra,rc,recs,by rw [hf];exact (List.append_nil _).symm,hok,rfl⟩
  rw [logo_eq]
  first|exact .refl _|exact .drop|exact .fin|((repeat refine .pick ?_);first|exact .refl _|exact .emp _|exact .fin)
end Go.Proofs.YtbcedpankkdfoaaGreatDoor
/- The program's package twin, walked: what a refusal becomes. Conditions: in each statement. -/
namespace Go.Proofs.YtbcedpankkdfoaaGreatDoor
open Go Go.SL Go.SL.Sec Go.SL.Fld Go.SL.Pts Go.SL.Rec Go.SL.Twn
theorem told_nil {W:World} {R:HProp} {w:ByteArray}:Does prog W f_z1x ⟨[.string w,.nilIface]⟩ R (Ret fun v G=>v = .nilIface ∧ G = R):=by
 refine f_z1x.does _ _ ?_
 conv=>whnf
 skip
 refine Ret.eq rfl ?_
 first|exact .refl _|exact .drop|exact .fin|((repeat refine .pick ?_);first|exact .refl _|exact .emp _|exact .fin)
theorem told_ref {W:World} {R:HProp} {w:ByteArray} {e:Int}:Does prog W f_z1x ⟨[.string w,tref e]⟩ R (Ret fun v G=>∃ b,v = .iface t_z8 (ptr b) ∧ G = (fltc b w 0 e•R)):=by
 refine f_z1x.does _ _ ?_
 conv=>whnf
 repeat' (first
  | ((first|refine Ld.i ?_|refine St.i ⟨rfl,rfl⟩ (List.cons_ne_nil _ _) ?_);conv=>whnf)
  | (intro blk hblk;conv=>whnf))
 refine ⟨_,_,rfl,?_,blk,rfl,rfl⟩
 unfold fltc
 first|exact .refl _|exact .drop|exact .fin|((repeat refine .pick ?_);first|exact .refl _|exact .emp _|exact .fin)
abbrev wRead:ByteArray:=⟨#[82,101,97,100]⟩
abbrev wWrite:ByteArray:=⟨#[87,114,105,116,101]⟩
theorem read1_ok {W:World} {R:HProp} {be:Nat} {v:Value}:DDoes prog W f_zt ⟨[ptr be]⟩ .returning (pts be (.cells ⟨[v]⟩ t_error)•R) (RetD fun _ u G=>u = .returning ∧ G = (pts be (.cells ⟨[.nilIface]⟩ t_error)•R)):=by
 refine DDoes.of_exec tab_ok f_zt.live f_zt.fn rfl rfl rfl (by simp) ?_
 repeat' (first
  | (refine CallK.ret f_z1x.ok told_nil ?_;rintro v G ⟨rfl,rfl⟩;conv=>whnf)
  | (refine St.i ⟨rfl,rfl⟩ (List.cons_ne_nil _ _) ?_;conv=>whnf))
 exact ⟨_,_,rfl,Imp.refl _,rfl,rfl⟩
theorem read1_no {W:World} {R:HProp} {be:Nat} {v:Value} {e:Int} {older:List PanicEntry}:DDoes prog W f_zt ⟨[ptr be]⟩ (.panicking (⟨tref e,false,false⟩ :: older)) (pts be (.cells ⟨[v]⟩ t_error)•R)
  (RetD fun _ u G=>∃ b,u = .panicking (⟨tref e,true,false⟩ :: older) ∧ G = (pts be (.cells ⟨[.iface t_z8 (ptr b)]⟩ t_error)•fltc b wRead 0 e•R)):=by
 refine DDoes.of_exec tab_ok f_zt.live f_zt.fn rfl rfl rfl (by simp) ?_
 repeat' (first
  | (refine CallK.ret f_z1x.ok told_ref ?_;rintro v G ⟨b,rfl,rfl⟩;conv=>whnf)
  | (refine St.i ⟨rfl,rfl⟩ (List.cons_ne_nil _ _) ?_;conv=>whnf))
 exact ⟨_,_,rfl,Imp.refl _,b,rfl,rfl⟩
theorem write1_ok {W:World} {R:HProp} {be:Nat} {v:Value}:DDoes prog W f_zd ⟨[ptr be]⟩ .returning (pts be (.cells ⟨[v]⟩ t_error)•R) (RetD fun _ u G=>u = .returning ∧ G = (pts be (.cells ⟨[.nilIface]⟩ t_error)•R)):=by
 refine DDoes.of_exec tab_ok f_zd.live f_zd.fn rfl rfl rfl (by simp) ?_
 repeat' (first
  | (refine CallK.ret f_z1x.ok told_nil ?_;rintro v G ⟨rfl,rfl⟩;conv=>whnf)
  | (refine St.i ⟨rfl,rfl⟩ (List.cons_ne_nil _ _) ?_;conv=>whnf))
 exact ⟨_,_,rfl,Imp.refl _,rfl,rfl⟩
theorem write1_no {W:World} {R:HProp} {be:Nat} {v:Value} {e:Int} {older:List PanicEntry}:DDoes prog W f_zd ⟨[ptr be]⟩ (.panicking (⟨tref e,false,false⟩ :: older)) (pts be (.cells ⟨[v]⟩ t_error)•R)
  (RetD fun _ u G=>∃ b,u = .panicking (⟨tref e,true,false⟩ :: older) ∧ G = (pts be (.cells ⟨[.iface t_z8 (ptr b)]⟩ t_error)•fltc b wWrite 0 e•R)):=by
 refine DDoes.of_exec tab_ok f_zd.live f_zd.fn rfl rfl rfl (by simp) ?_
 repeat' (first
  | (refine CallK.ret f_z1x.ok told_ref ?_;rintro v G ⟨b,rfl,rfl⟩;conv=>whnf)
  | (refine St.i ⟨rfl,rfl⟩ (List.cons_ne_nil _ _) ?_;conv=>whnf))
 exact ⟨_,_,rfl,Imp.refl _,b,rfl,rfl⟩
end Go.Proofs.YtbcedpankkdfoaaGreatDoor
/- The program's package twin, walked: Read. Conditions: in each statement. -/
namespace Go.Proofs.YtbcedpankkdfoaaGreatDoor
open Go Go.SL Go.SL.Sec Go.SL.Fld Go.SL.Pts Go.SL.Rec Go.SL.Twn
theorem read_of {D:Dev} {i:Int} (hd:D.down = false) (h:0 ≤ i ∧ i < D.secs):D.read i = (0,D.at i):=by
 unfold Dev.read
 rw [if_neg (by rw [hd];decide),if_neg (by omega)]
set_option maxHeartbeats 1000000 in
theorem twread_yes {W:World} {H R:HProp} {d:Nat} {X:DevX} {z:Int} [t:DevC H d X R] (hX:X.Ok) (hq:X.ps.length ≤ 1000000) (hd:X.down = false) (ht:ThereP X.val.secs z 2) :
  Does prog W f_z1n ⟨[ptr d,.int .i64 z]⟩ H (Ret fun v G=>∃ a c,v = .tuple ⟨[.slice a 1024 c,.nilIface]⟩ ∧ G = (vec t_uint8 1 bytv a c (X.val.at z ++ X.val.at (z + 1))•devo d X•R)):=by
 rw [t.h.eq]
 have hts:=ht
 unfold ThereP at hts
 have hsec:0 ≤ X.val.secs ∧ X.val.secs ≤ 8192:=by
  have:=hX.len
  unfold Dev.secs DevX.val
  dsimp only
  omega
 have e1:=read_of (D:=X.val) (i:=z) hd (by omega)
 have e2:=read_of (D:=X.val) (i:=z + 1) hd (by omega)
 have l1:=(Dev.read_len (i:=z) hX.val (by rw [e1])).1
 have l2:=(Dev.read_len (i:=z + 1) hX.val (by rw [e2])).1
 have f1:(X.val.read z).1 = 0:=by rw [e1]
 have f2:(X.val.read (z + 1)).1 = 0:=by rw [e2]
 have g1:(X.val.read z).2 = X.val.at z:=by rw [e1]
 have g2:(X.val.read (z + 1)).2 = X.val.at (z + 1):=by rw [e2]
 rw [g1] at l1
 rw [g2] at l2
 clear e1 e2
 have l3:(X.val.at z ++ X.val.at (z + 1)).length = 1024:=by rw [List.length_append];omega
 refine f_z1n.does _ _ ?_
 conv=>whnf
 repeat' (first
  | (refine CallK.ret f_zz.ok (running_ok (X:=X) hd) ?_;rintro v G ⟨rfl,rfl⟩;conv=>whnf)
  | (refine CallK.ret f_z1e.ok (there_spec (X:=X) hX (by omega)) ?_;rw [decide_eq_true ht];rintro v G ⟨rfl,rfl⟩;conv=>whnf)
  | (refine CallK.ret f_twin_get.ok (tget_ok (X:=X) (i:=z) hX hq f1) ?_;rw [g1];rintro v G ⟨a1,c1,hc1,rfl,rfl⟩;conv=>whnf)
  | (refine CallK.ret f_twin_get.ok (tget_ok (X:=X) (i:=z + 1) hX hq f2) ?_;rw [g2];rintro v G ⟨a2,c2,hc2,rfl,rfl⟩;conv=>whnf)
  | ((first|refine St.i ⟨rfl,rfl⟩ (List.cons_ne_nil _ _) ?_|refine Ar.i64 (by omega) ?_);conv=>whnf)
  | (intro blk hblk;conv=>whnf)
  | (refine CallK.ret f_zh.ok (tneed_ok) ?_;rintro v G ⟨rfl,rfl⟩;conv=>whnf)
  | (refine OpX.appRg (xs:=X.val.at z) (ys:=X.val.at (z + 1)) tab_ok rfl rfl rfl rfl rfl l1.symm l2.symm (by omega) (fun a' c'=>?_);rw [l3];conv=>whnf))
 all_goals
  refine LeaveD.ret tab_ok (by simp) f_zt.ok (DDoes.imp (by first|exact .refl _|exact .drop|exact .fin|((repeat refine .pick ?_);first|exact .refl _|exact .emp _|exact .fin)) (read1_ok (v:=.nilIface) (R:=vec t_uint8 1 bytv a' c' (X.val.at z ++ X.val.at (z + 1))•devo d X•R))) ?_
  rintro _ _ G ⟨rfl,rfl⟩
  conv=>whnf
  repeat' (first
   | (refine Ld.i ?_;conv=>whnf))
  refine ⟨_,_,rfl,?_,a',c',rfl,rfl⟩
  first|exact .refl _|exact .drop|exact .fin|((repeat refine .pick ?_);first|exact .refl _|exact .emp _|exact .fin)
theorem twread_no {W:World} {H R:HProp} {d:Nat} {X:DevX} {z:Int} [t:DevC H d X R] (hX:X.Ok) (hn:X.down = true ∨ ¬ ThereP X.val.secs z 2) :
  Does prog W f_z1n ⟨[ptr d,.int .i64 z]⟩ H (Ret fun v G=>∃ b,v = .tuple ⟨[.slice none 0 0,.iface t_z8 (ptr b)]⟩ ∧ G = (fltc b wRead 0 (if X.down then 40 else 4)•devo d X•R)):=by
 rw [t.h.eq]
 refine f_z1n.does _ _ ?_
 conv=>whnf
 cases hd:X.down with
 | true =>
  rw [if_pos rfl]
  repeat' (first
   | (refine CallK.thr f_zz.ok (running_no (X:=X) hd) ?_;rintro c G ⟨rfl,rfl⟩;conv=>whnf)
   | (intro blk hblk;conv=>whnf))
  all_goals
   refine LeaveD.ret tab_ok (by simp) f_zt.ok (DDoes.imp (by first|exact .refl _|exact .drop|exact .fin|((repeat refine .pick ?_);first|exact .refl _|exact .emp _|exact .fin)) (read1_no (v:=.nilIface) (e:=40) (R:=devo d X•R) (older:=[]))) ?_
   rintro _ _ G ⟨b,rfl,rfl⟩
   conv=>whnf
   repeat' (first
    | (refine Ld.i ?_;conv=>whnf))
   refine ⟨_,_,rfl,?_,b,rfl,rfl⟩
   first|exact .refl _|exact .drop|exact .fin|((repeat refine .pick ?_);first|exact .refl _|exact .emp _|exact .fin)
 | false =>
  rw [if_neg (by decide)]
  have ht:¬ ThereP X.val.secs z 2:=hn.resolve_left (by rw [hd];decide)
  repeat' (first
   | (refine CallK.ret f_zz.ok (running_ok (X:=X) hd) ?_;rintro v G ⟨rfl,rfl⟩;conv=>whnf)
   | (refine CallK.ret f_z1e.ok (there_spec (X:=X) hX (by omega)) ?_;rw [decide_eq_false ht];rintro v G ⟨rfl,rfl⟩;conv=>whnf)
   | (intro blk hblk;conv=>whnf)
   | (refine CallK.thr f_zh.ok (tneed_no) ?_;rintro c G ⟨rfl,rfl⟩;conv=>whnf))
  all_goals
   refine LeaveD.ret tab_ok (by simp) f_zt.ok (DDoes.imp (by first|exact .refl _|exact .drop|exact .fin|((repeat refine .pick ?_);first|exact .refl _|exact .emp _|exact .fin)) (read1_no (v:=.nilIface) (e:=4) (R:=devo d X•R) (older:=[]))) ?_
   rintro _ _ G ⟨b,rfl,rfl⟩
   conv=>whnf
   repeat' (first
    | (refine Ld.i ?_;conv=>whnf))
   refine ⟨_,_,rfl,?_,b,rfl,rfl⟩
   first|exact .refl _|exact .drop|exact .fin|((repeat refine .pick ?_);first|exact .refl _|exact .emp _|exact .fin)
end Go.Proofs.YtbcedpankkdfoaaGreatDoor
