/- The program's package page, walked: what is looked at; numbers one behind the other. Conditions: in each statement. -/
import Derived.Test.YtbcedpankkdfoaaGreatDoorPart20
import Derived.Test.YtbcedpankkdfoaaGreatDoorPart16
set_option linter.unusedVariables false
set_option linter.unusedSimpArgs false
namespace Go.SL
open Go
instance (priority:=70) RowC.oldc {α:Type} {W:World} {H:HProp} {sz:Nat} {enc:α → List Value} {a:Option Addr} {xs:List α} [oc:OldC W H] [o:OldR W sz enc a xs]:RowC W H a sz enc xs:=⟨fun w hs i x hx=>by
 obtain ⟨b,off,ha,h⟩:=o.at' i x hx
 exact ⟨b,off,ha,fun j v hj=>oc.h _ _ (h j v hj)⟩⟩
class DecL {α:Type} (enc:α → List Value) (l:List Value) (xs:outParam (List α)):Prop where h:l = xs.flatMap enc
instance DecL.nil {α:Type} {enc:α → List Value}:DecL enc [] []:=⟨rfl⟩
instance DecL.ints {l:List Value} {z:Int} {xs:List Int} [d:DecL ints l xs]:DecL ints (.int .i64 z :: l) (z :: xs):=⟨by rw [d.h];rfl⟩
instance DecL.u64s {l:List Value} {z:Int} {xs:List Int} [d:DecL Sec.u64s l xs]:DecL Sec.u64s (.int .u64 z :: l) (z :: xs):=⟨by rw [d.h];rfl⟩
section
variable {W:World} {R:HProp} {b:Nat} {l:List Value} {t:TypeId} {fz:Nat × Nat} {xs:List Int}
instance (priority:=60) RowC.ptsI [d:DecL ints l xs]:RowC W (SL.pts b (.cells ⟨l⟩ t fz)•R) (some ⟨b,0,none⟩) 1 ints xs:=RowC.pts SizedC.h xs d.h
instance (priority:=60) RowC.ptsU [d:DecL Sec.u64s l xs]:RowC W (SL.pts b (.cells ⟨l⟩ t fz)•R) (some ⟨b,0,none⟩) 1 Sec.u64s xs:=RowC.pts SizedC.h xs d.h
end
end Go.SL
namespace Go.Proofs.YtbcedpankkdfoaaGreatDoor
open Go Go.SL Go.SL.Sec Go.SL.Fld Go.SL.Pts Go.SL.Rec Go.SL.Pg
class LaidP (W:World) where
 ha:Option Addr
 hk:Nat
 ca:Option Addr
 ck:Nat
 ga:Option Addr
 gk:Nat
 h0:W.cell? ⟨g_page_headSizes,0,none⟩ = some (.slice ha 6 hk)
 c0:W.cell? ⟨g_page_counterSizes,0,none⟩ = some (.slice ca 5 ck)
 gr0:W.cell? ⟨g_page_groupSizes,0,none⟩ = some (.slice ga 2 gk)
 h1:OldR W 1 ints ha [1,1,2,2,2,4]
 c1:OldR W 1 ints ca [4,4,8,8,8]
 gr1:OldR W 1 ints ga [4,8]
section
variable {W:World} {H:HProp}
instance (priority:=70) RdC.hsz [l:LaidP W] [oc:OldC W H]:RdC W H ⟨g_page_headSizes,0,none⟩ (.slice l.ha 6 l.hk):=⟨oc.h _ _ l.h0⟩
instance (priority:=70) RdC.csz [l:LaidP W] [oc:OldC W H]:RdC W H ⟨g_page_counterSizes,0,none⟩ (.slice l.ca 5 l.ck):=⟨oc.h _ _ l.c0⟩
instance (priority:=70) RdC.gsz [l:LaidP W] [oc:OldC W H]:RdC W H ⟨g_page_groupSizes,0,none⟩ (.slice l.ga 2 l.gk):=⟨oc.h _ _ l.gr0⟩
end
def pgA (n l:Int) (ca:Option Addr) (cn cc:Nat) (ga:Option Addr) (gn gc:Nat):Value:=.agg ⟨[.int .i64 n,.int .i64 l,.slice ca cn cc,.slice ga gn gc]⟩
theorem pin_spec {W:World} {R:HProp} {n lo hi:Int}:Does prog W f_page_in ⟨[.int .i64 n,.int .i64 lo,.int .i64 hi]⟩ R (Ret fun v G=>v = .bool (decide (lo ≤ n ∧ n ≤ hi)) ∧ G = R):=by
 refine f_page_in.does _ _ _ ?_
 conv=>whnf
 repeat' (first
  | (refine spl_dec (fun hd=>?_) (fun hd=>?_) <;> first|(exfalso;omega)|(conv=>whnf)))
 ·refine Ret.eq (congrArg Value.bool (decide_eq_decide.2 (by omega))) (Imp.refl _)
 ·refine Ret.eq (congrArg Value.bool (decide_eq_false (by omega)).symm) (Imp.refl _)
theorem firstF_step {α:Type} {f:α → Int} {l:List α} {i:Nat} {x:α} (h:l[i]? = some x):firstF f (l.drop i) = if f x ≠ 0 then f x else firstF f (l.drop (i + 1)):=by rw [drop_of h,firstF]
section
variable {W:World} {R:HProp} {num lsn:Int} {ca ga:Option Addr} {nC cc nG gc:Nat} {C:List CntV} {G:List GrpV}
theorem contents_spec [rc:RowN W R ca nC 5 cntv C] [rg:RowN W R ga nG 2 grpv G] (hC:C.length ≤ 1000000000) (hG:G.length ≤ 1000000000) :
  Does prog W f_zp ⟨[.agg ⟨[.int .i64 num,.int .i64 lsn,.slice ca nC cc,.slice ga nG gc]⟩]⟩ R (Ret fun v Q=>v = .int .i64 (contF C G) ∧ Q = R):=by
 have h1:=rc.len
 have h2:=rg.len
 subst h1 h2
 haveI:=rc.row
 haveI:=rg.row
 obtain ⟨F,hF⟩:∃ F,F = contF C G:=⟨_,rfl⟩
 rw [← hF]
 unfold contF at hF
 refine f_zp.does _ ?_
 conv=>whnf
 repeat' (first
  | (refine Ld.i ?_;conv=>whnf)
  | (intro blk hblk;conv=>whnf))
 refine LoopK.keep tab_ok (L:=f_zp.live) (ι:=Nat) (fun i=>i ≤ C.length ∧ firstF cntF C = firstF cntF (C.drop i)) (fun i=>[(10,.int .i64 i)]) (fun i=>C.length - i) 0 (by simp) (fun t v h=>h) ?_
 rintro i ⟨hi,hm⟩
 conv=>whnf
 by_cases k1:i < C.length
 ·obtain ⟨x,hx⟩:∃ x,C[i]? = some x:=⟨_,List.getElem?_eq_getElem k1⟩
  rw [firstF_step hx] at hm
  repeat' (first
   | (refine spl_dec (fun hd=>?_) (fun hd=>?_) <;> first|(exfalso;omega)|(conv=>whnf))
   | (refine spl_ndec (fun hd=>?_) (fun hd=>?_) <;> first|(exfalso;omega)|(conv=>whnf))
   | ((first|refine Ld.i ?_|refine St.i ⟨rfl,rfl⟩ (List.cons_ne_nil _ _) ?_|refine Ar.i64 (by omega) ?_);conv=>whnf)
   | (intro blk hblk;conv=>whnf)
   | (refine IxS.r (i:=i) rfl rfl k1 (fun ab off ha=>?_);cases ha;conv=>whnf)
   | (refine LdN.r hx rfl ?_;conv=>whnf)
   | (refine CallK.ret f_page_in.ok (pin_spec) ?_;rintro v G ⟨rfl,rfl⟩;conv=>whnf))
  ·have e:cntF x = 23:=by unfold cntF;rw [if_pos (by omega)]
   rw [e,if_pos (by decide)] at hm
   rw [hm,if_pos (by decide)] at hF
   subst hF
   refine Ret.eq rfl ?_
   first|exact .refl _|exact .drop|exact .fin|((repeat refine .pick ?_);first|exact .refl _|exact .emp _|exact .fin)
  ·have e:cntF x = 23:=by unfold cntF;rw [if_pos (by omega)]
   rw [e,if_pos (by decide)] at hm
   rw [hm,if_pos (by decide)] at hF
   subst hF
   refine Ret.eq rfl ?_
   first|exact .refl _|exact .drop|exact .fin|((repeat refine .pick ?_);first|exact .refl _|exact .emp _|exact .fin)
  ·have e:cntF x = 11:=by unfold cntF;rw [if_neg (by omega),if_pos (by omega)]
   rw [e,if_pos (by decide)] at hm
   rw [hm,if_pos (by decide)] at hF
   subst hF
   refine Ret.eq rfl ?_
   first|exact .refl _|exact .drop|exact .fin|((repeat refine .pick ?_);first|exact .refl _|exact .emp _|exact .fin)
  ·have e:cntF x = 0:=by unfold cntF;rw [if_neg (by omega),if_neg (by omega)]
   rw [e,if_neg (by decide)] at hm
   refine ⟨rfl,i + 1,⟨k1,hm⟩,fun t v h=>h,?_,by omega⟩
   first|exact .refl _|exact .drop|exact .fin|((repeat refine .pick ?_);first|exact .refl _|exact .emp _|exact .fin)
 ·rw [drop_all k1,firstF] at hm
  rw [hm,if_neg (by decide)] at hF
  repeat' (first
   | (refine spl_dec (fun hd=>?_) (fun hd=>?_) <;> first|(exfalso;omega)|(conv=>whnf))
   | (refine Ld.i ?_;conv=>whnf))
  refine LoopK.keep tab_ok (L:=f_zp.live) (ι:=Nat) (fun i=>i ≤ G.length ∧ firstF grpF G = firstF grpF (G.drop i)) (fun i=>[(35,.int .i64 i)]) (fun i=>G.length - i) 0 (by simp) (fun t v h=>h) ?_
  rintro j ⟨hj,hm⟩
  conv=>whnf
  by_cases k2:j < G.length
  ·obtain ⟨x,hx⟩:∃ x,G[j]? = some x:=⟨_,List.getElem?_eq_getElem k2⟩
   rw [firstF_step hx] at hm
   repeat' (first
    | (refine spl_dec (fun hd=>?_) (fun hd=>?_) <;> first|(exfalso;omega)|(conv=>whnf))
    | (refine spl_ndec (fun hd=>?_) (fun hd=>?_) <;> first|(exfalso;omega)|(conv=>whnf))
    | ((first|refine Ld.i ?_|refine St.i ⟨rfl,rfl⟩ (List.cons_ne_nil _ _) ?_|refine Ar.i64 (by omega) ?_);conv=>whnf)
    | (intro blk hblk;conv=>whnf)
    | (refine IxS.r (i:=j) rfl rfl k2 (fun ab off ha=>?_);cases ha;conv=>whnf)
    | (refine LdN.r hx rfl ?_;conv=>whnf)
    | (refine CallK.ret f_page_in.ok (pin_spec) ?_;rintro v G ⟨rfl,rfl⟩;conv=>whnf))
   ·have e:grpF x = 23:=by unfold grpF;rw [if_pos (by omega)]
    rw [e,if_pos (by decide)] at hm
    rw [hm] at hF
    subst hF
    refine Ret.eq rfl ?_
    first|exact .refl _|exact .drop|exact .fin|((repeat refine .pick ?_);first|exact .refl _|exact .emp _|exact .fin)
   ·have e:grpF x = 0:=by unfold grpF;rw [if_neg (by omega)]
    rw [e,if_neg (by decide)] at hm
    refine ⟨rfl,j + 1,⟨k2,hm⟩,fun t v h=>h,?_,by omega⟩
    first|exact .refl _|exact .drop|exact .fin|((repeat refine .pick ?_);first|exact .refl _|exact .emp _|exact .fin)
  ·rw [drop_all k2,firstF] at hm
   rw [hm] at hF
   subst hF
   repeat' (first
    | (refine spl_dec (fun hd=>?_) (fun hd=>?_) <;> first|(exfalso;omega)|(conv=>whnf)))
   refine Ret.eq rfl ?_
   first|exact .refl _|exact .drop|exact .fin|((repeat refine .pick ?_);first|exact .refl _|exact .emp _|exact .fin)
theorem size_spec (hC:nC ≤ 1000000000) (hG:nG ≤ 1000000000) :
  Does prog W f_z2g ⟨[.agg ⟨[.int .i64 num,.int .i64 lsn,.slice ca nC cc,.slice ga nG gc]⟩]⟩ R (Ret fun v Q=>v = .int .i64 ((nC + nG:Nat):Int) ∧ Q = R):=by
 refine f_z2g.does _ ?_
 conv=>whnf
 repeat' (first
  | ((first|refine Ld.i ?_|refine Ar.i64 (by omega) ?_);conv=>whnf)
  | (intro blk hblk;conv=>whnf))
 refine Ret.eq (by rw [Int.natCast_add]) ?_
 first|exact .refl _|exact .drop|exact .fin|((repeat refine .pick ?_);first|exact .refl _|exact .emp _|exact .fin)
theorem refused_spec [rc:RowN W R ca nC 5 cntv C] [rg:RowN W R ga nG 2 grpv G] (hC:C.length ≤ 1000000000) (hG:G.length ≤ 1000000000) :
  Does prog W f_z13 ⟨[.agg ⟨[.int .i64 num,.int .i64 lsn,.slice ca nC cc,.slice ga nG gc]⟩]⟩ R (Ret fun v Q=>v = .int .i64 (PgM.fault ⟨num,lsn,C,G⟩) ∧ Q = R):=by
 have h1:=rc.len
 have h2:=rg.len
 subst h1 h2
 haveI:=rc.row
 haveI:=rg.row
 obtain ⟨F,hF⟩:∃ F,F = PgM.fault ⟨num,lsn,C,G⟩:=⟨_,rfl⟩
 rw [← hF]
 unfold PgM.fault at hF
 dsimp only at hF
 refine f_z13.does _ ?_
 conv=>whnf
 by_cases c1:0 ≤ num ∧ num ≤ 63
 rotate_left
 ·rw [if_pos c1] at hF
  subst hF
  repeat' (first
   | (refine spl_ndec (fun hd=>?_) (fun hd=>?_) <;> first|(exfalso;omega)|(conv=>whnf))
   | (refine Ld.i ?_;conv=>whnf)
   | (intro blk hblk;conv=>whnf)
   | (refine CallK.ret f_page_in.ok (pin_spec) ?_;rintro v G ⟨rfl,rfl⟩;conv=>whnf))
  refine Ret.eq rfl ?_
  first|exact .refl _|exact .drop|exact .fin|((repeat refine .pick ?_);first|exact .refl _|exact .emp _|exact .fin)
 rw [if_neg (fun k=>k c1)] at hF
 by_cases c2:C.length > 0 ∧ G.length > 0
 ·rw [if_pos c2] at hF
  subst hF
  repeat' (first
   | (refine spl_dec (fun hd=>?_) (fun hd=>?_) <;> first|(exfalso;omega)|(conv=>whnf))
   | (refine spl_ndec (fun hd=>?_) (fun hd=>?_) <;> first|(exfalso;omega)|(conv=>whnf))
   | (refine Ld.i ?_;conv=>whnf)
   | (intro blk hblk;conv=>whnf)
   | (refine CallK.ret f_page_in.ok (pin_spec) ?_;rintro v G ⟨rfl,rfl⟩;conv=>whnf))
  refine Ret.eq rfl ?_
  first|exact .refl _|exact .drop|exact .fin|((repeat refine .pick ?_);first|exact .refl _|exact .emp _|exact .fin)
 rw [if_neg c2] at hF
 by_cases c3:C.length > 31 ∨ G.length > 84
 ·rw [if_pos c3] at hF
  subst hF
  repeat' (first
   | (refine spl_dec (fun hd=>?_) (fun hd=>?_) <;> first|(exfalso;omega)|(conv=>whnf))
   | (refine spl_ndec (fun hd=>?_) (fun hd=>?_) <;> first|(exfalso;omega)|(conv=>whnf))
   | (refine Ld.i ?_;conv=>whnf)
   | (intro blk hblk;conv=>whnf)
   | (refine CallK.ret f_page_in.ok (pin_spec) ?_;rintro v G ⟨rfl,rfl⟩;conv=>whnf))
  all_goals
   refine Ret.eq rfl ?_
   first|exact .refl _|exact .drop|exact .fin|((repeat refine .pick ?_);first|exact .refl _|exact .emp _|exact .fin)
 rw [if_neg c3] at hF
 by_cases c4:¬ (0 ≤ lsn ∧ lsn ≤ 2147483647) ∨ ¬ (lsn = 0 ↔ C.length + G.length = 0)
 ·rw [if_pos c4] at hF
  subst hF
  repeat' (first
   | (refine spl_dec (fun hd=>?_) (fun hd=>?_) <;> first|(exfalso;omega)|(conv=>whnf))
   | (refine spl_ndec (fun hd=>?_) (fun hd=>?_) <;> first|(exfalso;omega)|(conv=>whnf))
   | ((first|refine Ld.i ?_|refine LdN.i ?_);conv=>whnf)
   | (intro blk hblk;conv=>whnf)
   | (refine CallK.ret f_page_in.ok (pin_spec) ?_;rintro v G ⟨rfl,rfl⟩;conv=>whnf)
   | (refine Sub.on (by first|exact .refl _|exact .drop|exact .fin|((repeat refine .pick ?_);first|exact .refl _|exact .emp _|exact .fin)) ?_;conv=>whnf)
   | (refine DrawK.introH tab_ok mixed 31 f_z13.last7 f_z13.plan7 _ rfl (by kernel_rfl) (Sub.of (by first|exact .refl _|exact .drop|exact .fin|((repeat refine .pick ?_);first|exact .refl _|exact .emp _|exact .fin))) ?_;conv=>whnf)
   | (refine CallK.ret f_z2g.ok (size_spec (by first|rfl|assumption|omega|decide|(simp;done)|(simp;omega)|(simp at *;omega)) (by first|rfl|assumption|omega|decide|(simp;done)|(simp;omega)|(simp at *;omega))) ?_;rintro v G ⟨rfl,rfl⟩;conv=>whnf)
   | (refine CallK.ret f_zp.ok (contents_spec (by first|rfl|assumption|omega|decide|(simp;done)|(simp;omega)|(simp at *;omega)) (by first|rfl|assumption|omega|decide|(simp;done)|(simp;omega)|(simp at *;omega))) ?_;rintro v G ⟨rfl,rfl⟩;conv=>whnf))
  all_goals first
   | exact ⟨_,_,rfl,(by first|exact .refl _|exact .drop|exact .fin|((repeat refine .pick ?_);first|exact .refl _|exact .emp _|exact .fin)),rfl,rfl⟩
   | (exfalso;simp only [bne_iff_ne,ne_eq,decide_eq_decide] at hd;omega)
 rw [if_neg c4] at hF
 subst hF
 repeat' (first
  | (refine spl_dec (fun hd=>?_) (fun hd=>?_) <;> first|(exfalso;omega)|(conv=>whnf))
  | (refine spl_ndec (fun hd=>?_) (fun hd=>?_) <;> first|(exfalso;omega)|(conv=>whnf))
  | ((first|refine Ld.i ?_|refine LdN.i ?_);conv=>whnf)
  | (intro blk hblk;conv=>whnf)
  | (refine CallK.ret f_page_in.ok (pin_spec) ?_;rintro v G ⟨rfl,rfl⟩;conv=>whnf)
  | (refine Sub.on (by first|exact .refl _|exact .drop|exact .fin|((repeat refine .pick ?_);first|exact .refl _|exact .emp _|exact .fin)) ?_;conv=>whnf)
  | (refine DrawK.introH tab_ok mixed 31 f_z13.last7 f_z13.plan7 _ rfl (by kernel_rfl) (Sub.of (by first|exact .refl _|exact .drop|exact .fin|((repeat refine .pick ?_);first|exact .refl _|exact .emp _|exact .fin))) ?_;conv=>whnf)
  | (refine CallK.ret f_z2g.ok (size_spec (by first|rfl|assumption|omega|decide|(simp;done)|(simp;omega)|(simp at *;omega)) (by first|rfl|assumption|omega|decide|(simp;done)|(simp;omega)|(simp at *;omega))) ?_;rintro v G ⟨rfl,rfl⟩;conv=>whnf)
  | (refine CallK.ret f_zp.ok (contents_spec (by first|rfl|assumption|omega|decide|(simp;done)|(simp;omega)|(simp at *;omega)) (by first|rfl|assumption|omega|decide|(simp;done)|(simp;omega)|(simp at *;omega))) ?_;rintro v G ⟨rfl,rfl⟩;conv=>whnf))
 all_goals first
  | exact ⟨_,_,rfl,(by first|exact .refl _|exact .drop|exact .fin|((repeat refine .pick ?_);first|exact .refl _|exact .emp _|exact .fin)),rfl,rfl⟩
  | (exfalso;simp only [bne_iff_ne,ne_eq,decide_eq_decide] at hd;omega)
end
theorem pzeros1_spec {W:World} {R:HProp} {b:Int}:Does prog W f_z3x ⟨[.int .u8 b]⟩ R (Ret fun v G=>v = .bool (!decide (b = 0)) ∧ G = R):=by
 refine f_z3x.does _ ?_
 conv=>whnf
 skip
 refine Ret.eq rfl ?_
 first|exact .refl _|exact .drop|exact .fin|((repeat refine .pick ?_);first|exact .refl _|exact .emp _|exact .fin)
theorem pzeros_spec {W:World} {R:HProp} {a:Option Addr} {n c:Nat} {l:List Int} [ro:RowN W R a n 1 bytv l] (hl:l.length ≤ 16777216) :
  Does prog W f_zf ⟨[.slice a n c]⟩ R (Ret fun v G=>v = .bool (zerosB l) ∧ G = R):=by
 refine f_zf.does _ ?_
 conv=>whnf
 repeat' (first
  | (refine CallK.ret f_z39.ok (contains_spec f_z3x.ok (fun b=>pzeros1_spec) hl) ?_;rintro v G ⟨rfl,rfl⟩;conv=>whnf))
 refine Ret.eq ?_ (Imp.refl _)
 rw [Bool.not_not]
end Go.Proofs.YtbcedpankkdfoaaGreatDoor
/- The program's package page, walked: numbers one behind the other; the checksum. Conditions: in each statement. -/
namespace Go.SL.Pg
open Go Go.SL Go.SL.Sec Go.SL.Fld Go.SL.Rec
theorem lays_snoc:∀ (l:List (Nat × Int)) (p:Nat × Int),lays (l ++ [p]) = lays l ++ Fld.leB p.1 p.2
 | [],p=>by simp [lays]
 | q :: l,p=>by rw [List.cons_append,lays,lays_snoc l p,lays,List.append_assoc]
theorem laysN_snoc:∀ (l:List (Nat × Int)) (p:Nat × Int),laysN (l ++ [p]) = laysN l + p.1
 | [],p=>by simp [laysN]
 | q :: l,p=>by rw [List.cons_append,laysN,laysN_snoc l p,laysN,Nat.add_assoc]
theorem laysN_take_le:∀ (l:List (Nat × Int)) (i:Nat),laysN (l.take i) ≤ laysN l
 | [],i=>by simp
 | q :: l,0=>by simp [laysN]
 | q :: l,i + 1=>by rw [List.take_succ_cons,laysN,laysN];have:=laysN_take_le l i;omega
end Go.SL.Pg
namespace Go.Proofs.YtbcedpankkdfoaaGreatDoor
open Go Go.SL Go.SL.Sec Go.SL.Fld Go.SL.Pts Go.SL.Rec Go.SL.Pg
theorem plaid_spec {W:World} {H R:HProp} {t:TypeId} {a sa na:Option Addr} {nn cap sn sc n2 nc:Nat} {l:List Int} {z:Int} {sizes nums:List Int} (ps:List (Nat × Int)) [c:VecC H a t 1 bytv cap l R] (rs:RowN W R sa sn 1 ints sizes) (rn:RowN W R na n2 1 u64s nums)
  (hnn:nn = l.length) (e1:sizes = ps.map fun p=>(p.1:Int)) (e2:nums = ps.map (·.2)) (hz:0 ≤ z ∧ z.toNat + laysN ps ≤ l.length) (hl:l.length ≤ 16777216) (hp:∀ p ∈ ps,(1 ≤ p.1 ∧ p.1 ≤ 8) ∧ 0 ≤ p.2 ∧ p.2 < 256 ^ p.1) (hps:ps.length ≤ 1000) :
  Does prog W f_z1t ⟨[.slice a nn cap,.int .i64 z,.slice sa sn sc,.slice na n2 nc]⟩ H (Ret fun v G=>v = .tuple ⟨[]⟩ ∧ G = (vec t 1 bytv a cap (over l z.toNat (lays ps))•R)):=by
 have h1:=rs.len
 have h2:=rn.len
 subst h1 h2 hnn
 haveI:=rs.row
 haveI:=rn.row
 rw [c.h.eq]
 have hsl:sizes.length = ps.length:=by rw [e1,List.length_map]
 have hnl:nums.length = ps.length:=by rw [e2,List.length_map]
 obtain ⟨zn,rfl⟩:=Int.eq_ofNat_of_zero_le hz.1
 rw [Int.toNat_natCast] at hz ⊢
 refine f_z1t.does _ _ _ _ ?_
 conv=>whnf
 skip
 refine LoopK.at tab_ok (L:=f_z1t.live) (ι:=Nat) (fun i=>i ≤ ps.length) (fun i=>[(12,.int .i64 i),(1,.int .i64 ((zn + laysN (ps.take i):Nat):Int))]) (fun i=>vec t 1 bytv a cap (over l zn (lays (ps.take i)))) (fun i=>ps.length - i) 0 (by simp) (fun t v h=>h) (by rw [List.take_zero,lays,over_nil];exact Imp.refl _) ?_
 rintro i hi
 conv=>whnf
 have hm:=laysN_take_le ps i
 have hol:(over l zn (lays (ps.take i))).length = l.length:=over_len (by rw [lays_len];omega)
 by_cases k1:i < ps.length
 ·obtain ⟨p,hpx⟩:∃ p,ps[i]? = some p:=⟨_,List.getElem?_eq_getElem k1⟩
  obtain ⟨hp1,hp2,hp3⟩:=hp p (List.mem_of_getElem? hpx)
  have hs1:sizes[i]? = some (p.1:Int):=by rw [e1,List.getElem?_map,hpx];rfl
  have hn1:nums[i]? = some p.2:=by rw [e2,List.getElem?_map,hpx];rfl
  have ht:ps.take (i + 1) = ps.take i ++ [p]:=by rw [List.take_add_one,hpx];rfl
  have hm2:=laysN_take_le ps (i + 1)
  rw [ht,laysN_snoc] at hm2
  obtain ⟨Z,hZ⟩:∃ Z:Nat,Z = zn + laysN (ps.take i):=⟨_,rfl⟩
  rw [← hZ]
  repeat' (first
   | (refine CallK.ret f_z2f.ok (putN_spec (l:=over l zn (lays (ps.take i))) (z:=(Z:Int)) (s:=(p.1:Int)) (n:=p.2) hol.symm (by omega) (by omega) (by omega) hp2 (by rw [Int.toNat_natCast];exact hp3)) ?_;rw [Int.toNat_natCast,Int.toNat_natCast];rintro v G ⟨rfl,rfl⟩;conv=>whnf)
   | (refine spl_dec (fun hd=>?_) (fun hd=>?_) <;> first|(exfalso;omega)|(conv=>whnf))
   | (refine Ar.i64 (by omega) ?_;conv=>whnf)
   | (refine IxS.r (xs:=nums) (i:=i) rfl rfl (by omega) (fun ab off ha=>?_);cases ha;conv=>whnf)
   | (refine Ld.r0 hn1 rfl ?_;conv=>whnf)
   | (refine IxS.r (xs:=sizes) (i:=i) rfl rfl (by omega) (fun ab off ha=>?_);cases ha;conv=>whnf)
   | (refine Ld.r0 hs1 rfl ?_;conv=>whnf))
  have e3:putB (over l zn (lays (ps.take i))) Z p.1 p.2 = over l zn (lays (ps.take (i + 1))):=by
   rw [putB_over,hZ,ht,lays_snoc]
   conv=>lhs;arg 2;rw [← lays_len]
   exact over_over (by rw [lays_len];omega)
  rw [e3]
  refine ⟨rfl,i + 1,k1,fun t v h=>?_,Imp.refl _,by omega⟩
  rw [ht,laysN_snoc,show zn + (laysN (ps.take i) + p.1) = Z + p.1 by omega,Int.natCast_add] at h
  exact h
 ·rw [List.take_of_length_le (by omega)]
  repeat' (first
   | (refine spl_dec (fun hd=>?_) (fun hd=>?_) <;> first|(exfalso;omega)|(conv=>whnf)))
  refine ⟨_,_,rfl,?_,rfl,rfl⟩
  first|exact .refl _|exact .drop|exact .fin|((repeat refine .pick ?_);first|exact .refl _|exact .emp _|exact .fin)
theorem z4_eq:List.replicate (Int.toNat 4) (0:Int) = [0,0,0,0]:=rfl
set_option maxHeartbeats 1000000 in
theorem psum_spec {W:World} {H:HProp} {a:Option Addr} {nn cap:Nat} {l:List Int} [ld:LaidC W] [oc:OldC W H] [ro:RowC W H a 1 bytv l] (hnn:nn = l.length) (hl:l.length = 1024) (hc:1024 ≤ cap) (hb:Byt l) :
  Does prog W f_zi ⟨[.slice a nn cap]⟩ H (Ret fun v G=>v = .int .u32 (sumP l) ∧ G = H):=by
 subst hnn
 have h12:(l.take 12).length = 12:=by rw [List.length_take];omega
 have h16:(l.drop 16).length = 1008:=by rw [List.length_drop];omega
 haveI r1:∀ Q:HProp,RowC W (Q•H) a 1 bytv l:=fun Q=>inferInstance
 refine f_zi.does _ ?_
 conv=>whnf
 repeat' (first
  | (refine DrawK.introK tab_ok mixed 3 f_zi.last1 f_zi.plan1 rfl (by kernel_rfl) ?_;conv=>whnf)
  | (intro blk hblk;conv=>whnf)
  | (refine OpQ.slh tab_ok rfl rfl rfl rfl ⟨by omega,by omega⟩ ?_;conv=>whnf)
  | (refine OpX.make tab_ok bytv 0 rfl rfl rfl rfl rfl rfl (by omega) (fun s hs=>?_);rw [z4_eq];conv=>whnf)
  | (refine OpQ.slr tab_ok 16 rfl rfl rfl rfl rfl (by omega) ?_;conv=>whnf)
  | (refine Sub.on (by first|exact .refl _|exact .drop|exact .fin|((repeat refine .pick ?_);first|exact .refl _|exact .emp _|exact .fin)) ?_;conv=>whnf))
 obtain ⟨PS,hPS⟩:∃ PS:List PartX,PS = [⟨a,cap,l.take 12⟩,⟨some ⟨s,0,none⟩,4,[0,0,0,0]⟩,⟨dropA a 16 cap 1,cap - 16,l.drop 16⟩]:=⟨_,rfl⟩
 have e1:[Value.slice a (Int.toNat 12) cap,Value.slice (some ⟨s,0,none⟩) (Int.toNat 4) (Int.toNat 4),Value.slice (dropA a 16 cap 1) (l.length - 16) (cap - 16)] = PS.flatMap partv:=by
  rw [hPS]
  simp only [partv,List.flatMap_cons,List.flatMap_nil,List.cons_append,List.nil_append,h12,h16,hl]
  rfl
 have e2:sumP l = crcV (PS.flatMap (·.l)):=by
  rw [hPS]
  unfold sumP
  simp only [List.flatMap_cons,List.flatMap_nil,List.append_nil,List.append_assoc]
 refine CallK.ret f_z2v.ok (sum_spec (ps:=PS) (ro:=⟨RowC.pts SizedC.h PS e1,by rw [hPS];rfl⟩) (fun p hp=>?_) (by rw [hPS];simp)) ?_
 ·rw [hPS] at hp
  simp only [List.mem_cons,List.not_mem_nil,or_false] at hp
  rcases hp with rfl|rfl|rfl
  ·exact ⟨RowC.take _ inferInstance,hb.take _,by dsimp only;omega⟩
  ·exact ⟨inferInstance,Byt.rep 4,by simp⟩
  ·exact ⟨RowC.drop 16 cap (by omega) inferInstance,hb.drop _,by dsimp only;omega⟩
 ·rintro v G ⟨rfl,rfl⟩
  conv=>whnf
  rw [← e2]
  skip
  refine Ret.eq rfl ?_
  first|exact .refl _|exact .drop|exact .fin|((repeat refine .pick ?_);first|exact .refl _|exact .emp _|exact .fin)
end Go.Proofs.YtbcedpankkdfoaaGreatDoor
/- A page, and where its lists lie. No condition. -/
namespace Go.SL.Pg
open Go Go.SL Go.SL.Sec Go.SL.Fld Go.SL.Rec
structure PgX where
 m:PgM
 ca:Option Addr
 cc:Nat
 ga:Option Addr
 gc:Nat
def PgX.cells (x:PgX):List Value:=[.int .i64 x.m.num,.int .i64 x.m.lsn,.slice x.ca x.m.C.length x.cc,.slice x.ga x.m.G.length x.gc]
theorem getB_one {b:List Int} {k:Nat} {x:Int} (h:b[k]? = some x):getB b k 1 = x:=by
 have:=getB_succ (l:=b) (at_:=k) (k:=0) h
 rw [this]
 unfold getB
 simp [leV]
theorem s64_wrap {z:Int} (h:0 ≤ z ∧ z < 18446744073709551616):(z + 9223372036854775808) % 18446744073709551616 - 9223372036854775808 = s64 z:=by
 unfold s64;split <;> omega
theorem cntsD_succ (b:List Int) (i:Nat):cntsD b (i + 1) = cntsD b i ++ [cntD b i]:=by unfold cntsD;rw [List.range_succ,List.map_append];rfl
theorem grpsD_succ (b:List Int) (i:Nat):grpsD b (i + 1) = grpsD b i ++ [grpD b i]:=by unfold grpsD;rw [List.range_succ,List.map_append];rfl
theorem cntsD_len (b:List Int) (i:Nat):(cntsD b i).length = i:=by unfold cntsD;rw [List.length_map,List.length_range]
theorem grpsD_len (b:List Int) (i:Nat):(grpsD b i).length = i:=by unfold grpsD;rw [List.length_map,List.length_range]
end Go.SL.Pg
namespace Go.Proofs.YtbcedpankkdfoaaGreatDoor
open Go Go.SL Go.SL.Sec Go.SL.Fld Go.SL.Pts Go.SL.Rec Go.SL.Pg
abbrev pgv (x:PgX):Value:=.agg ⟨[.int .i64 x.m.num,.int .i64 x.m.lsn,.slice x.ca x.m.C.length x.cc,.slice x.ga x.m.G.length x.gc]⟩
def pgc (x:PgX):HProp:=vec t_api_Counter 5 cntv x.ca x.cc x.m.C•vec t_api_Group 2 grpv x.ga x.gc x.m.G
theorem pgc_eq (x:PgX) (R:HProp):(pgc x•R) = (vec t_api_Counter 5 cntv x.ca x.cc x.m.C•vec t_api_Group 2 grpv x.ga x.gc x.m.G•R):=by unfold pgc;simp only [star_assoc]
def pg0 (n l:Int):PgX:=⟨⟨n,l,[],[]⟩,none,0,none,0⟩
theorem Imp.pg0 {n l:Int} {G H:HProp} (h:Imp H G):Imp H (pgc (pg0 n l)•G):=by
 rw [pgc_eq]
 exact Imp.vnil (Imp.vnil h)
end Go.Proofs.YtbcedpankkdfoaaGreatDoor
/- A disk that may give up at any call, in plain words: what its sectors may hold behind writes and a sync. Conditions: in each statement. -/
namespace Go.SL.Sec
open Go Go.SL
def mixB (o b:List Int) (t:Nat):List Int:=b.take t ++ o.drop t
def CrB:List (Int × List Int) → List Int → List Int → Prop
 | [],m,m'=>m' = m
 | p :: q,m,m'=>∃ t,t ≤ 512 ∧ CrB q (layAt m p.1 (p.2.take t)) m'
def WrOk (len:Nat) (q:List (Int × List Int)):Prop:=∀ p ∈ q,0 ≤ p.1 ∧ p.1.toNat * 512 + 512 ≤ len ∧ p.2.length = 512 ∧ Byt p.2
theorem layAt_nil (m:List Int) (i:Int):layAt m i [] = m:=by simp [layAt]
theorem fallG_cr {keep:List Int} {torn off:Int}:∀ (q:List (Int × List Int)) (k:Nat) (m:List Int),WrOk m.length q → CrB q m (fallG keep torn off k q m)
 | [],_,_,_=>rfl
 | p :: q,k,m,h=>by
  obtain ⟨h1,h2,h3,h4⟩:=h p List.mem_cons_self
  have key:∀ t,t ≤ 512 → CrB q (layAt m p.1 (p.2.take t)) (fallG keep torn off (k + 1) q (layAt m p.1 (p.2.take t))):=fun t ht =>
   fallG_cr q (k + 1) _ (fun x hx=>by
    rw [layAt_len (by rw [List.length_take];omega)]
    exact h x (List.mem_cons_of_mem _ hx))
  unfold fallG
  split
  ·refine ⟨512,Nat.le_refl _,?_⟩
   have:=key 512 (Nat.le_refl _)
   rwa [show p.2.take 512 = p.2 from List.take_of_length_le (by omega)] at this ⊢
  ·split
   ·exact ⟨_,by omega,key _ (by omega)⟩
   ·refine ⟨0,by omega,?_⟩
    have:=key 0 (by omega)
    rwa [List.take_zero,layAt_nil] at this ⊢
theorem secOf_mix {m b:List Int} {i:Int} {t:Nat} (h:i.toNat * 512 + 512 ≤ m.length) (hb:b.length = 512) (ht:t ≤ 512):secOf (layAt m i (b.take t)) i = mixB (secOf m i) b t:=by
 have htl:(b.take t).length = t:=by rw [List.length_take];omega
 apply List.ext_getElem?
 intro p
 rw [secOf_get]
 unfold mixB
 by_cases c:p < t
 ·rw [if_pos (by omega),layAt_get (by omega),if_neg (by omega),if_pos (by omega),List.getElem?_append_left (by omega)]
  congr 1;omega
 ·rw [List.getElem?_append_right (by omega),List.getElem?_drop,secOf_get,htl,show t + (p - t) = p by omega]
  by_cases c2:p < 512
  ·rw [if_pos c2,if_pos c2,layAt_get (by omega),if_neg (by omega),if_neg (by omega)]
  ·rw [if_neg c2,if_neg c2]
theorem CrB.len:∀ (q:List (Int × List Int)) (m m':List Int),WrOk m.length q → CrB q m m' → m'.length = m.length
 | [],m,m',_,h=>by rw [show m' = m from h]
 | p :: q,m,m',hq,⟨t,ht,h⟩=>by
  obtain ⟨h1,h2,h3,h4⟩:=hq p List.mem_cons_self
  have hl:(layAt m p.1 (p.2.take t)).length = m.length:=layAt_len (by rw [List.length_take];omega)
  rw [CrB.len q _ m' (fun x hx=>by rw [hl];exact hq x (List.mem_cons_of_mem _ hx)) h,hl]
theorem CrB.sec:∀ (q:List (Int × List Int)) (m m':List Int),WrOk m.length q → (q.map (·.1)).Nodup → CrB q m m' → ∀ j:Int,0 ≤ j →
  (j ∉ q.map (·.1) → secOf m' j = secOf m j) ∧ ∀ b,(j,b) ∈ q → ∃ t,t ≤ 512 ∧ secOf m' j = mixB (secOf m j) b t
 | [],m,m',_,_,h,j,_=>⟨fun _=>by rw [show m' = m from h],fun b hb=>(by cases hb)⟩
 | p :: q,m,m',hq,hn,⟨t,ht,h⟩,j,hj=>by
  obtain ⟨h1,h2,h3,h4⟩:=hq p List.mem_cons_self
  simp only [List.map_cons,List.nodup_cons] at hn
  have htl:(p.2.take t).length ≤ 512:=by rw [List.length_take];omega
  have hl:(layAt m p.1 (p.2.take t)).length = m.length:=layAt_len (by omega)
  obtain ⟨k1,k2⟩:=CrB.sec q _ m' (fun x hx=>by rw [hl];exact hq x (List.mem_cons_of_mem _ hx)) hn.2 h j hj
  refine ⟨fun hno=>?_,fun b hb=>?_⟩
  ·simp only [List.map_cons,List.mem_cons,not_or] at hno
   rw [k1 hno.2,secOf_other h1 hj (fun e=>hno.1 e.symm) h2 htl]
  ·rcases List.mem_cons.1 hb with e|hb
   ·subst e
    exact ⟨t,ht,by rw [k1 hn.1,secOf_mix h2 h3 ht]⟩
   ·obtain ⟨t',ht',e⟩:=k2 b hb
    refine ⟨t',ht',?_⟩
    rw [e,secOf_other h1 hj (fun e=>hn.1 (e ▸ List.mem_map.2 ⟨_,hb,rfl⟩)) h2 htl]
def wls:List (Int × List Int) → Dev → Int × Dev
 | [],D=>D.sync
 | p :: l,D=>if (D.write p.1 p.2).1 = 0 then wls l (D.write p.1 p.2).2 else D.write p.1 p.2
theorem wls_any:∀ (l:List (Int × List Int)) (D:Dev),D.down = false → D.Ok → WrOk D.img.length l →
  ((wls l D).1 = 0 ∧ (wls l D).2.down = false ∧ (wls l D).2.Ok ∧ (wls l D).2.q = [] ∧ (wls l D).2.img = flushG (D.q ++ l) D.img) ∨
  ((wls l D).1 = 40 ∧ (wls l D).2.down = true ∧ (wls l D).2.Ok ∧ (wls l D).2.q = [] ∧ ∃ l1 l2,l = l1 ++ l2 ∧ CrB (D.q ++ l1) D.img (wls l D).2.img)
 | [],D,hd,ho,_=>by
  have hs:=ho.sync
  unfold wls
  unfold Dev.sync at hs ⊢
  rw [if_neg (by rw [hd];decide)] at hs ⊢
  by_cases c:D.crashes = true
  ·rw [if_pos c] at hs ⊢
   refine .inr ⟨rfl,rfl,hs,rfl,[],[],rfl,?_⟩
   rw [List.append_nil]
   exact fallG_cr D.q 0 D.img ho.q
  ·rw [if_neg c] at hs ⊢
   exact .inl ⟨rfl,hd,hs,rfl,by rw [List.append_nil]⟩
 | p :: l,D,hd,ho,hl=>by
  obtain ⟨h1,h2,h3,h4⟩:=hl p List.mem_cons_self
  have hw:=ho.write (i:=p.1) h4
  have hsec:p.1 < D.secs:=by unfold Dev.secs;have:=ho.len;omega
  have hpo:({ D.counted with q:=D.q ++ [(p.1,p.2)] }:Dev).Ok:=Dev.Ok.pushed (D:=D.counted) ho.counted (by show ¬ (p.1 < 0 ∨ p.1 ≥ D.secs);omega) h3 h4
  unfold wls
  by_cases c:D.crashes = true
  ·have e:D.write p.1 p.2 = (40,{ D.counted with q:=D.q ++ [(p.1,p.2)] }.fallen D.keep D.torn D.off):=by
    unfold Dev.write
    rw [if_neg (by rw [hd];decide),if_neg (by omega),if_neg (by omega),if_pos c]
   rw [e] at hw ⊢
   rw [if_neg (show ¬ (40:Int) = 0 by decide)]
   refine .inr ⟨rfl,rfl,hw,rfl,[p],l,rfl,?_⟩
   exact fallG_cr (D.q ++ [(p.1,p.2)]) 0 D.img hpo.q
  ·have e:D.write p.1 p.2 = (0,{ D.counted with q:=D.q ++ [(p.1,p.2)] }):=by
    unfold Dev.write
    rw [if_neg (by rw [hd];decide),if_neg (by omega),if_neg (by omega),if_neg c]
   rw [e]
   rw [if_pos rfl]
   rcases wls_any l { D.counted with q:=D.q ++ [(p.1,p.2)] } hd hpo (fun x hx=>hl x (List.mem_cons_of_mem _ hx)) with ⟨k1,k2,k3,k4,k5⟩|⟨k1,k2,k3,k4,l1,l2,k5,k6⟩
   ·refine .inl ⟨k1,k2,k3,k4,?_⟩
    rw [k5]
    show flushG ((D.q ++ [(p.1,p.2)]) ++ l) D.img = flushG (D.q ++ p :: l) D.img
    rw [List.append_assoc];rfl
   ·refine .inr ⟨k1,k2,k3,k4,p :: l1,l2,by rw [k5];rfl,?_⟩
    have k7:CrB ((D.q ++ [(p.1,p.2)]) ++ l1) D.img (wls l { D.counted with q:=D.q ++ [(p.1,p.2)] }).2.img:=k6
    rw [List.append_assoc] at k7
    exact k7
structure Wrote (D D':Dev) (l:List (Int × List Int)) (e:Int):Prop where
 ok:D'.Ok
 q:D'.q = []
 len:D'.img.length = D.img.length
 away:∀ j:Int,0 ≤ j → j ∉ l.map (·.1) → secOf D'.img j = secOf D.img j
 res:(e = 0 ∧ D'.down = false ∧ ∀ (j:Int) (b:List Int),(j,b) ∈ l → secOf D'.img j = b) ∨
  (e = 40 ∧ D'.down = true ∧ ∀ (j:Int) (b:List Int),(j,b) ∈ l → ∃ t,t ≤ 512 ∧ secOf D'.img j = mixB (secOf D.img j) b t)
end Go.SL.Sec
namespace Go.SL.Twn
open Go Go.SL Go.SL.Sec
def blks (at_:Int) (b:List Int):Nat → Nat → List (Int × List Int)
 | 0,_=>[]
 | n + 1,i=>(at_ + i,(b.drop (512 * i)).take 512) :: blks at_ b n (i + 1)
theorem pws_wls (at_:Int) (b:List Int):∀ (n i:Nat) (D:Dev),pws at_ b n i D = wls (blks at_ b n i) D
 | 0,_,_=>rfl
 | n + 1,i,D=>by rw [pws,blks,wls,pws_wls at_ b n (i + 1)]
end Go.SL.Twn
namespace Go.SL.Rec
open Go Go.SL Go.SL.Sec
def recS (first:Int):Nat → List (List Int) → List (Int × List Int)
 | _,[]=>[]
 | n,b :: l=>(first + n - 1,laidB n b) :: recS first (n + 1) l
theorem wrs_wls (first:Int):∀ (l:List (List Int)) (n:Nat) (D:Dev),wrs first n l D = wls (recS first n l) D
 | [],_,_=>rfl
 | b :: l,n,D=>by rw [wrs,recS,wls,wrs_wls first l (n + 1)]
end Go.SL.Rec
/- The twin, where the disk may give up at any call: a page's bytes are the old ones or the new ones. Plain words. Conditions: in each statement. -/
namespace Go.SL.Twn
open Go Go.SL Go.SL.Sec Go.SL.Fld Go.SL.Rec Go.SL.Pg
theorem mark_len (h st:Int):(mark h st).length = 512:=by unfold mark mark4;rw [List.length_set,putB_len (by rw [t512_len];omega),t512_len]
theorem mark4_len (h:Int):(mark4 h).length = 512:=by unfold mark4;rw [putB_len (by rw [t512_len];omega),t512_len]
theorem mark_byt {h st:Int} (k:0 ≤ st ∧ st < 256):Byt (mark h st):=Byt.set mark4_byt k
theorem mark_last (h st:Int):(mark h st)[511]? = some st:=by
 unfold mark;rw [List.getElem?_set_self (by rw [mark4_len];decide)]
def Clean (m:List Int):Prop:=(secOf m 2)[511]? = some 0
def Stand (m:List Int) (h:Int):Prop:=secOf m 2 = mark h 165
instance {m:List Int} {h:Int}:Decidable (Stand m h):=inferInstanceAs (Decidable (_ = _))
theorem Clean.not {m:List Int} (h:Clean m) (k:Int):¬ Stand m k:=fun s=>by
 unfold Clean at h;unfold Stand at s
 rw [s,mark_last] at h
 exact absurd h (by decide)
def logi (m:List Int) (n:Int):List Int:=if Stand m (5 + 2 * n) then secOf m 3 ++ secOf m 4 else secOf m (5 + 2 * n) ++ secOf m (5 + 2 * n + 1)
structure TwOut (D D':Dev) (k:Int) (b:List Int) (e:Int):Prop where
 ok:D'.Ok
 q:D'.q = []
 len:D'.img.length = D.img.length
 away:∀ j:Int,5 ≤ j → j ≠ 5 + 2 * k → j ≠ 5 + 2 * k + 1 → secOf D'.img j = secOf D.img j
 res:(e = 0 ∧ D'.down = false ∧ Clean D'.img ∧ logi D'.img k = b ∧ ∀ n,0 ≤ n ∧ n < 1000 → n ≠ k → logi D'.img n = logi D.img n) ∨
  (e = 40 ∧ D'.down = true ∧ (Clean D'.img ∨ Stand D'.img (5 + 2 * k)) ∧ (logi D'.img k = logi D.img k ∨ logi D'.img k = b) ∧ ∀ n,0 ≤ n ∧ n < 1000 → n ≠ k → logi D'.img n = logi D.img n)
theorem two_ok {D:Dev} (ho:D.Ok) {z:Int} {b:List Int} (hz:0 ≤ z ∧ z + 2 ≤ D.secs) (hb:b.length = 1024) (hy:Byt b):WrOk D.img.length (blks z b 2 0):=by
 have hl:=ho.len
 unfold Dev.secs at hz
 intro p hp
 simp only [blks,List.mem_cons,List.not_mem_nil,or_false] at hp
 rcases hp with rfl|rfl
 ·exact ⟨by dsimp only;omega,by dsimp only;omega,by dsimp only;rw [List.length_take,List.length_drop];omega,(hy.drop _).take _⟩
 ·exact ⟨by dsimp only;omega,by dsimp only;omega,by dsimp only;rw [List.length_take,List.length_drop];omega,(hy.drop _).take _⟩
theorem one_ok {D:Dev} (ho:D.Ok) {z:Int} {b:List Int} (hz:0 ≤ z ∧ z + 1 ≤ D.secs) (hb:b.length = 512) (hy:Byt b):WrOk D.img.length (blks z b 1 0):=by
 have hl:=ho.len
 unfold Dev.secs at hz
 intro p hp
 simp only [blks,List.mem_cons,List.not_mem_nil,or_false] at hp
 subst hp
 exact ⟨by dsimp only;omega,by dsimp only;omega,by dsimp only;rw [List.length_take,List.length_drop];omega,(hy.drop _).take _⟩
theorem _root_.Go.SL.Sec.Wrote.secs {D D':Dev} {l:List (Int × List Int)} {e:Int} (h:Wrote D D' l e):D'.secs = D.secs:=by unfold Dev.secs;rw [h.len]
end Go.SL.Twn
/- What holds of every pool, its log and its disk: plain words. Conditions: in each statement. -/
namespace Go.SL.Pg
open Go Go.SL Go.SL.Sec Go.SL.Fld Go.SL.Rec
theorem ite_eq {c:Prop} [Decidable c] {e:Int} {p:PgM} {X:Int × PgM} (he:c → e ≠ 0) (h:(if c then (e,PgM.no) else X) = (0,p)):¬ c ∧ X = (0,p):=by
 split at h
 ·rename_i k;exact absurd (Prod.mk.inj h).1 (he k)
 ·rename_i k;exact ⟨k,h⟩
theorem cntD_in {b:List Int} (hb:Byt b) (i:Nat):CntIn (cntD b i):=by
 have y0:=getB_bd hb (16 + i * 32) 4
 have y1:=getB_bd hb (16 + i * 32 + 4) 4
 have y2:=getB_bd hb (16 + i * 32 + 8) 8
 have y3:=getB_bd hb (16 + i * 32 + 16) 8
 have y4:=getB_bd hb (16 + i * 32 + 24) 8
 rw [p4] at y0 y1
 rw [p8] at y2 y3 y4
 unfold cntD
 exact ⟨by unfold In64;dsimp only;omega,by unfold In64;dsimp only;omega,s64_bd y2,s64_bd y3,s64_bd y4⟩
theorem grpD_in {b:List Int} (hb:Byt b) (i:Nat):GrpIn (grpD b i):=by
 have y0:=getB_bd hb (16 + i * 12) 4
 have y1:=getB_bd hb (16 + i * 12 + 4) 8
 rw [p4] at y0
 rw [p8] at y1
 unfold grpD
 exact ⟨by unfold In64;dsimp only;omega,s64_bd y1⟩
theorem decP_ok {b:List Int} {n:Int} {p:PgM} (hb:Byt b) (h:decP b n = (0,p)):p.num = n ∧ p.In ∧ p.C.length ≤ 31 ∧ p.G.length ≤ 84 ∧ 0 ≤ p.lsn ∧ p.lsn ≤ 2147483647:=by
 unfold decP at h
 obtain ⟨h1,h⟩:=ite_eq (fun _=>by decide) h
 have h1:=Decidable.not_not.1 h1
 obtain ⟨_,h⟩:=ite_eq (fun _=>by decide) h
 by_cases hz:Go.Proofs.YtbcedpankkdfoaaGreatDoor.zerosB b = true
 ·rw [if_pos hz] at h
  cases h
  exact ⟨rfl,⟨by unfold In64;dsimp only;omega,by unfold In64;dsimp only;omega,fun c hc=>(by cases hc),fun c hc=>(by cases hc)⟩,Nat.zero_le _,Nat.zero_le _,Int.le_refl _,by dsimp only;omega⟩
 rw [if_neg hz] at h
 obtain ⟨_,h⟩:=ite_eq (fun _=>by decide) h
 obtain ⟨_,h⟩:=ite_eq (fun _=>by decide) h
 obtain ⟨_,h⟩:=ite_eq (fun _=>by decide) h
 obtain ⟨_,h⟩:=ite_eq (fun _=>by decide) h
 obtain ⟨h8,h⟩:=ite_eq (fun _=>by decide) h
 obtain ⟨_,h⟩:=ite_eq (fun k=>k) h
 obtain ⟨_,h⟩:=ite_eq (fun _=>by decide) h
 obtain rfl:=(Prod.mk.inj h).2
 have h8a:=Decidable.not_not.1 fun k=>h8 (.inl k)
 have h8b:=Decidable.not_not.1 fun k=>h8 (.inr k)
 unfold pgD
 split
 ·rename_i k
  rw [if_pos k] at h8a
  refine ⟨rfl,⟨by unfold In64;dsimp only;omega,by unfold In64;dsimp only;omega,fun c hc=>(by cases hc),fun c hc=>?_⟩,Nat.zero_le _,by dsimp only;rw [grpsD_len];omega,by dsimp only;omega,by dsimp only;omega⟩
  obtain ⟨i,_,rfl⟩:=List.mem_map.1 hc
  exact grpD_in hb i
 ·rename_i k
  rw [if_neg k] at h8a
  refine ⟨rfl,⟨by unfold In64;dsimp only;omega,by unfold In64;dsimp only;omega,fun c hc=>?_,fun c hc=>(by cases hc)⟩,by dsimp only;rw [cntsD_len];omega,Nat.zero_le _,by dsimp only;omega,by dsimp only;omega⟩
  obtain ⟨i,_,rfl⟩:=List.mem_map.1 hc
  exact cntD_in hb i
end Go.SL.Pg
namespace Go.SL.Pool
open Go Go.SL Go.SL.Sec Go.SL.Fld Go.SL.Rec Go.SL.Twn Go.SL.Pg Go.SL.Mst
structure FrOk (pages last:Int) (clock:Int) (n:Int) (f:FrM):Prop where
 num:f.pg.num = n
 pin:f.pg.In
 C:f.pg.C.length ≤ 31
 G:f.pg.G.length ≤ 84
 lsn:0 ≤ f.pg.lsn
 key:0 ≤ n ∧ n < pages
 dirty:f.dirty = true → f.pg.fault = 0 ∧ f.pg.lsn ≤ last
 used:f.used ≤ clock
structure Sto.Ok (S:Sto):Prop where
 may:MayP S.P.pages S.P.log S.P.frames
 dok:S.D.Ok
 q:S.D.q = []
 secs:S.D.secs = 5 + 2 * S.P.pages + S.P.log
 first:S.L.first = 5 + 2 * S.P.pages
 cnt:S.L.count = S.P.log
 forced:S.L.forced + S.L.bys.length = S.L.recs.length
 recs:(S.L.recs.length:Int) ≤ S.L.count
 bys:∀ b ∈ S.L.bys,Byt b ∧ b.length ≤ 505
 nd:(S.P.held.map (·.1)).Nodup
 fr:∀ n f,S.P.held.lookup n = some f → FrOk S.P.pages S.L.recs.length S.P.clock n f
 us:∀ n m f g,S.P.held.lookup n = some f → S.P.held.lookup m = some g → f.used = g.used → n = m
theorem wls_q {l:List (Int × List Int)} {D:Dev} (ho:D.Ok) (hq:D.q = []) (hl:WrOk D.img.length l) (hd:D.down = false):(wls l D).2.q = [] ∧ (wls l D).2.Ok ∧ (wls l D).2.img.length = D.img.length ∧ ((wls l D).1 = 0 ∨ (wls l D).1 = 40):=by
 rcases wls_any l D hd ho hl with ⟨k1,_,k3,k4,k5⟩|⟨k1,_,k3,k4,l1,l2,k5,k6⟩
 ·rw [hq,List.nil_append] at k5
  exact ⟨k4,k3,by rw [k5];exact (flushG_ok l D.img hl ho.byt).1,.inl k1⟩
 ·rw [hq,List.nil_append] at k6
  exact ⟨k4,k3,CrB.len l1 _ _ (fun p hp=>hl p (by rw [k5];exact List.mem_append_left _ hp)) k6,.inr k1⟩
end Go.SL.Pool
