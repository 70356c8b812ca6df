/- The document's Made: a right page out of any; walked. Conditions: in each statement. -/
import Derived.Test.YtbcedpankkdfoaaGreatDoorPart30
import Derived.Test.YtbcedpankkdfoaaGreatDoorPart31
namespace Go.Proofs.YtbcedpankkdfoaaGreatDoor
open Go Go.SL Go.SL.Sec Go.SL.Fld Go.SL.Pts Go.SL.Rec Go.SL.Twn Go.SL.Pg Go.SL.Mst Go.SL.Pool
theorem emod_tmod {x n:Int} (hn:0 < n):x % n = if x.tmod n < 0 then x.tmod n + n else x.tmod n:=by
 have h1:=Int.tmod_lt_of_pos x hn
 have h2:-n < x.tmod n:=by
  have:=Int.tmod_lt_of_pos (-x) hn
  rw [Int.neg_tmod] at this;omega
 have h3:=Int.emod_nonneg x (show n ≠ 0 by omega)
 have h4:=Int.emod_lt_of_pos x hn
 have e1:=Int.tmod_eq_emod (a:=x) (b:=n)
 by_cases h:0 ≤ x ∨ n ∣ x
 ·rw [if_pos h] at e1
  rw [if_neg (by omega)];omega
 ·rw [if_neg h] at e1
  rw [if_pos (by omega)];omega
theorem pick_spec {W:World} {R:HProp} {n lo hi:Int} (h:0 ≤ lo ∧ lo ≤ hi ∧ hi ≤ 4294967296):Does prog W f_z29 ⟨[.int .i64 n,.int .i64 lo,.int .i64 hi]⟩ R (Ret fun v G=>v = .int .i64 (pickI n lo hi) ∧ G = R):=by
 have h1:=Int.tmod_lt_of_pos n (show 0 < hi - lo + 1 by omega)
 have h2:-(hi - lo + 1) < n.tmod (hi - lo + 1):=by
  have:=Int.tmod_lt_of_pos (-n) (show 0 < hi - lo + 1 by omega)
  rw [Int.neg_tmod] at this;omega
 unfold pickI
 rw [emod_tmod (show 0 < hi - lo + 1 by omega)]
 refine f_z29.does _ _ _ ?_
 conv=>whnf
 repeat' (first
  | (refine spl_dec (fun hd=>?_) (fun hd=>?_) <;> first|(exfalso;omega)|(conv=>whnf))
  | ((first|refine Ar.i64 (by omega) ?_|refine Req.mk (by omega) ?_);conv=>whnf))
 ·rw [if_pos (by omega),show lo + (n.tmod (hi - lo + 1) + (hi - lo + 1)) = lo + (n.tmod (hi - lo + 1) + hi - lo + 1) by omega]
  refine Ret.eq rfl ?_
  first|exact .refl _|exact .drop|exact .fin|((repeat refine .pick ?_);first|exact .refl _|exact .emp _|exact .fin)
 ·rw [if_neg (by omega)]
  refine Ret.eq rfl ?_
  first|exact .refl _|exact .drop|exact .fin|((repeat refine .pick ?_);first|exact .refl _|exact .emp _|exact .fin)
set_option maxHeartbeats 4000000 in
theorem made_spec {W:World} {R:HProp} {num lsn:Int} {ca ga:Option Addr} {nC cc nG gc:Nat} {C:List CntV} {G:List GrpV} (rc:RowN W R ca nC 5 cntv C) (rg:RowN W R ga nG 2 grpv G) (hC:C.length ≤ 9223372036854775807) (hG:G.length ≤ 9223372036854775807) :
  Does prog W f_z2o ⟨[.agg ⟨[.int .i64 num,.int .i64 lsn,.slice ca nC cc,.slice ga nG gc]⟩]⟩ R (Ret fun v Q=>∃ x:PgX,x.m = madeP ⟨num,lsn,C,G⟩ ∧ v = pgv x ∧ Q = (pgc x•R)):=by
 have hn:=rc.len
 have hm:=rg.len
 haveI rC:=rc.row
 haveI rG:=rg.row
 subst hn hm
 refine f_z2o.does _ ?_
 conv=>whnf
 repeat' (first
  | ((first|refine Ld.i ?_|refine St.i ⟨rfl,rfl⟩ (List.cons_ne_nil _ _) ?_);conv=>whnf)
  | (intro blk hblk;conv=>whnf)
  | (refine CallK.ret f_z29.ok (pick_spec (by first|rfl|assumption|omega|decide|(simp;done)|(simp;omega)|(simp at *;omega))) ?_;rintro v G ⟨rfl,rfl⟩;conv=>whnf))
 refine LoopK.at tab_ok (L:=f_z2o.live) (ι:=Nat × Option Addr × Nat) (fun i=>i.1 ≤ C.length ∧ i.1 ≤ 31) (fun i=>[(4,.int .i64 i.1)])
  (fun i=>pts blk (.cells ⟨[.int .i64 (pickI num 0 63),i0,.slice i.2.1 i.1 i.2.2,.slice none 0 0]⟩ t_z1d)•vec t_z17 5 cntv i.2.1 i.2.2 ((C.take i.1).map madeC)) (fun i=>C.length - i.1) (0,none,0) ⟨by simp,by simp⟩ (fun t v h=>h)
  (Imp.assoc (Imp.pick (Imp.vnil (Imp.refl _)))) ?_
 rintro ⟨i,a,cap⟩ ⟨hi1,hi2⟩
 dsimp only at hi1 hi2 ⊢
 simp only [star_assoc]
 conv=>whnf
 by_cases h3:i < C.length ∧ i < 31
 ·obtain ⟨c,hc⟩:∃ c,C[i]? = some c:=⟨_,List.getElem?_eq_getElem h3.1⟩
  have h31:=h3.1
  have h32:=h3.2
  have hT:(C.take (i + 1)).map madeC = (C.take i).map madeC ++ [madeC c]:=by rw [List.take_add_one,hc,List.map_append];rfl
  have hL:((C.take i).map madeC).length = i:=by rw [List.length_map,List.length_take];omega
  by_cases hb:c.lo > c.hi
  ·have hM:madeC c = ⟨pickI c.id 1 1048576,pickI c.grp 1 1048576,c.hi,c.lo,c.val⟩:=by unfold madeC;rw [if_pos hb,if_pos hb]
   repeat' (first
    | (refine spl_t (by simp;omega) ?_;conv=>whnf)
    | ((first|refine Ld.i ?_|refine LdN.i ?_|refine St.i ⟨rfl,rfl⟩ (List.cons_ne_nil _ _) ?_);conv=>whnf)
    | (intro blk hblk;conv=>whnf)
    | (refine IxS.r (a:=ca) (xs:=C) (i:=i) rfl rfl h31 (fun ab off ha=>?_);cases ha;conv=>whnf)
    | (refine LdN.r hc rfl ?_;conv=>whnf)
    | (refine CallK.ret f_z29.ok (pick_spec (by first|rfl|assumption|omega|decide|(simp;done)|(simp;omega)|(simp at *;omega))) ?_;rintro v G ⟨rfl,rfl⟩;conv=>whnf))
   refine OpX.app1 (xs:=(C.take i).map madeC) tab_ok rfl rfl rfl rfl (madeC c) (by rw [hM];rfl) hL.symm (by omega) ⟨rfl,OneC.h⟩ (fun a' cap'=>?_)
   rw [← hT]
   repeat' (first
    | ((first|refine St.i ⟨rfl,rfl⟩ (List.cons_ne_nil _ _) ?_|refine Ar.i64 (by omega) ?_);conv=>whnf))
   refine ⟨rfl,(i + 1,a',cap'),⟨by dsimp only;omega,by dsimp only;omega⟩,fun t v h=>h,?_,by dsimp only;omega⟩
   first|exact .refl _|exact .drop|exact .fin|((repeat refine .pick ?_);first|exact .refl _|exact .emp _|exact .fin)
  ·have hM:madeC c = ⟨pickI c.id 1 1048576,pickI c.grp 1 1048576,c.lo,c.hi,c.val⟩:=by unfold madeC;rw [if_neg hb,if_neg hb]
   repeat' (first
    | (refine spl_t (by simp;omega) ?_;conv=>whnf)
    | (refine spl_dec (fun hd=>?_) (fun hd=>?_) <;> first|(exfalso;omega)|(conv=>whnf))
    | ((first|refine Ld.i ?_|refine LdN.i ?_|refine St.i ⟨rfl,rfl⟩ (List.cons_ne_nil _ _) ?_);conv=>whnf)
    | (intro blk hblk;conv=>whnf)
    | (refine IxS.r (a:=ca) (xs:=C) (i:=i) rfl rfl h31 (fun ab off ha=>?_);cases ha;conv=>whnf)
    | (refine LdN.r hc rfl ?_;conv=>whnf)
    | (refine CallK.ret f_z29.ok (pick_spec (by first|rfl|assumption|omega|decide|(simp;done)|(simp;omega)|(simp at *;omega))) ?_;rintro v G ⟨rfl,rfl⟩;conv=>whnf))
   refine OpX.app1 (xs:=(C.take i).map madeC) tab_ok rfl rfl rfl rfl (madeC c) (by rw [hM];rfl) hL.symm (by omega) ⟨rfl,OneC.h⟩ (fun a' cap'=>?_)
   rw [← hT]
   repeat' (first
    | ((first|refine St.i ⟨rfl,rfl⟩ (List.cons_ne_nil _ _) ?_|refine Ar.i64 (by omega) ?_);conv=>whnf))
   refine ⟨rfl,(i + 1,a',cap'),⟨by dsimp only;omega,by dsimp only;omega⟩,fun t v h=>h,?_,by dsimp only;omega⟩
   first|exact .refl _|exact .drop|exact .fin|((repeat refine .pick ?_);first|exact .refl _|exact .emp _|exact .fin)
 ·have hT:C.take i = C.take 31:=by
   by_cases c:i < C.length
   ·rw [show i = 31 by omega]
   ·rw [List.take_of_length_le (by omega),List.take_of_length_le (by omega)]
  obtain ⟨C',hC'⟩:∃ C',C' = (C.take 31).map madeC:=⟨_,rfl⟩
  have hl:C'.length = i:=by rw [hC',← hT,List.length_map,List.length_take];omega
  have hex:∀ {p q:Prop},q → spl (decide ((i:Int) < C.length) && decide ((i:Int) < 31)) p q:=fun k=>spl_f (by simp;omega) k
  have hP:madeP ⟨num,lsn,C,G⟩ = ⟨pickI num 0 63,if C'.length + (if C'.length = 0 then (G.take 84).map madeG else []).length > 0 then pickI lsn 1 2147483647 else 0,C',if C'.length = 0 then (G.take 84).map madeG else []⟩:=by rw [hC'];rfl
  rw [hT,← hC',hP]
  subst hl
  by_cases h0:C'.length = 0
  ·have hnil:C' = []:=List.length_eq_zero_iff.1 h0
   subst hnil
   rw [if_pos (show ([]:List CntV).length = 0 from rfl)]
   repeat' (first
    | (refine spl_dec (fun hd=>?_) (fun hd=>?_) <;> first|(exfalso;omega)|(conv=>whnf))
    | (refine Ld.i ?_;conv=>whnf))
   all_goals
    refine LoopK.at tab_ok (L:=f_z2o.live) (ι:=Nat × Option Addr × Nat) (fun j=>j.1 ≤ G.length ∧ j.1 ≤ 84) (fun j=>[(6,.int .i64 j.1)])
     (fun j=>pts blk (.cells ⟨[.int .i64 (pickI num 0 63),i0,.slice a 0 cap,.slice j.2.1 j.1 j.2.2]⟩ t_z1d)•vec t_zq 2 grpv j.2.1 j.2.2 ((G.take j.1).map madeG)) (fun j=>G.length - j.1) (0,none,0) ⟨by simp,by simp⟩ (fun t v h=>h)
     (Imp.assoc (Imp.pick (Imp.vnil (Imp.refl _)))) ?_
    rintro ⟨j,a2,cap2⟩ ⟨hj1,hj2⟩
    dsimp only at hj1 hj2 ⊢
    simp only [star_assoc]
    conv=>whnf
    by_cases h3:j < G.length ∧ j < 84
    ·obtain ⟨g,hg⟩:∃ g,G[j]? = some g:=⟨_,List.getElem?_eq_getElem h3.1⟩
     have h31:=h3.1
     have h32:=h3.2
     have hTG:(G.take (j + 1)).map madeG = (G.take j).map madeG ++ [madeG g]:=by rw [List.take_add_one,hg,List.map_append];rfl
     have hL:((G.take j).map madeG).length = j:=by rw [List.length_map,List.length_take];omega
     repeat' (first
      | (refine spl_t (by simp;omega) ?_;conv=>whnf)
      | ((first|refine Ld.i ?_|refine LdN.i ?_|refine St.i ⟨rfl,rfl⟩ (List.cons_ne_nil _ _) ?_);conv=>whnf)
      | (intro blk hblk;conv=>whnf)
      | (refine IxS.r (a:=ga) (xs:=G) (i:=j) rfl rfl h31 (fun ab off ha=>?_);cases ha;conv=>whnf)
      | (refine LdN.r hg rfl ?_;conv=>whnf)
      | (refine CallK.ret f_z29.ok (pick_spec (by first|rfl|assumption|omega|decide|(simp;done)|(simp;omega)|(simp at *;omega))) ?_;rintro v G ⟨rfl,rfl⟩;conv=>whnf))
     refine OpX.app1 (xs:=(G.take j).map madeG) tab_ok rfl rfl rfl rfl (madeG g) rfl hL.symm (by omega) ⟨rfl,OneC.h⟩ (fun a' cap'=>?_)
     rw [← hTG]
     repeat' (first
      | ((first|refine St.i ⟨rfl,rfl⟩ (List.cons_ne_nil _ _) ?_|refine Ar.i64 (by omega) ?_);conv=>whnf))
     refine ⟨rfl,(j + 1,a',cap'),⟨by dsimp only;omega,by dsimp only;omega⟩,fun t v h=>h,?_,by dsimp only;omega⟩
     first|exact .refl _|exact .drop|exact .fin|((repeat refine .pick ?_);first|exact .refl _|exact .emp _|exact .fin)
    ·have hTG:G.take j = G.take 84:=by
      by_cases c:j < G.length
      ·rw [show j = 84 by omega]
      ·rw [List.take_of_length_le (by omega),List.take_of_length_le (by omega)]
     obtain ⟨G',hG'⟩:∃ G',G' = (G.take 84).map madeG:=⟨_,rfl⟩
     have hl:G'.length = j:=by rw [hG',← hTG,List.length_map,List.length_take];omega
     rw [hTG,← hG']
     subst hl
     by_cases g0:G'.length = 0
     ·rw [if_neg (show ¬ (([]:List CntV).length + G'.length > 0) by simp only [List.length_nil];omega)]
      repeat' (first
       | (refine spl_f (by simp;omega) ?_;conv=>whnf)
       | (refine spl_dec (fun hd=>?_) (fun hd=>?_) <;> first|(exfalso;omega)|(conv=>whnf))
       | ((first|refine Ld.i ?_|refine LdN.i ?_|refine St.i ⟨rfl,rfl⟩ (List.cons_ne_nil _ _) ?_|refine Ar.i64 (by omega) ?_);conv=>whnf))
      all_goals
       refine ⟨_,_,rfl,?_,⟨⟨pickI num 0 63,0,[],G'⟩,a,cap,a2,cap2⟩,rfl,rfl,rfl⟩
       rw [pgc_eq]
       first|exact .refl _|exact .drop|exact .fin|((repeat refine .pick ?_);first|exact .refl _|exact .emp _|exact .fin)
     ·rw [if_pos (show ([]:List CntV).length + G'.length > 0 by simp only [List.length_nil];omega)]
      repeat' (first
       | (refine spl_f (by simp;omega) ?_;conv=>whnf)
       | (refine spl_dec (fun hd=>?_) (fun hd=>?_) <;> first|(exfalso;omega)|(conv=>whnf))
       | ((first|refine Ld.i ?_|refine LdN.i ?_|refine St.i ⟨rfl,rfl⟩ (List.cons_ne_nil _ _) ?_|refine Ar.i64 (by omega) ?_);conv=>whnf)
       | (refine CallK.ret f_z29.ok (pick_spec (by first|rfl|assumption|omega|decide|(simp;done)|(simp;omega)|(simp at *;omega))) ?_;rintro v G ⟨rfl,rfl⟩;conv=>whnf))
      all_goals
       refine ⟨_,_,rfl,?_,⟨⟨pickI num 0 63,pickI lsn 1 2147483647,[],G'⟩,a,cap,a2,cap2⟩,rfl,rfl,rfl⟩
       rw [pgc_eq]
       first|exact .refl _|exact .drop|exact .fin|((repeat refine .pick ?_);first|exact .refl _|exact .emp _|exact .fin)
  ·rw [if_neg h0,if_pos (by simp;omega)]
   repeat' (first
    | (refine spl_f (by simp;omega) ?_;conv=>whnf)
    | (refine spl_dec (fun hd=>?_) (fun hd=>?_) <;> first|(exfalso;omega)|(conv=>whnf))
    | (refine Ld.i ?_;conv=>whnf))
   all_goals
    refine LoopK.rounds tab_ok (L:=f_z2o.live) 1 ?_
    conv=>whnf
    repeat' (first
     | (refine spl_dec (fun hd=>?_) (fun hd=>?_) <;> first|(exfalso;omega)|(conv=>whnf))
     | ((first|refine Ld.i ?_|refine LdN.i ?_|refine St.i ⟨rfl,rfl⟩ (List.cons_ne_nil _ _) ?_|refine Ar.i64 (by omega) ?_);conv=>whnf)
     | (refine CallK.ret f_z29.ok (pick_spec (by first|rfl|assumption|omega|decide|(simp;done)|(simp;omega)|(simp at *;omega))) ?_;rintro v G ⟨rfl,rfl⟩;conv=>whnf))
    all_goals
     refine ⟨_,_,rfl,?_,⟨⟨pickI num 0 63,pickI lsn 1 2147483647,C',[]⟩,a,cap,none,0⟩,rfl,rfl,rfl⟩
     rw [pgc_eq]
     refine Imp.pick (Imp.vnil ?_)
     first|exact .refl _|exact .drop|exact .fin|((repeat refine .pick ?_);first|exact .refl _|exact .emp _|exact .fin)
end Go.Proofs.YtbcedpankkdfoaaGreatDoor
/- The law's store: a Put played; walked. Conditions: in each statement. -/
namespace Go.Proofs.YtbcedpankkdfoaaGreatDoor
open Go Go.SL Go.SL.Sec Go.SL.Fld Go.SL.Pts Go.SL.Rec Go.SL.Twn Go.SL.Pg Go.SL.Mst Go.SL.Pool
theorem DrawK.imp {P:Program} {W:World} {T:Tab} {N:Nat} {ops:List Oper} {fr:Fr} {ds:List Deferred} {H H':HProp} {K:ContK} {Kp:PanK} (h:Imp H H') (k:DrawK P W T N ops fr ds H' K Kp):DrawK P W T N ops fr ds H K Kp :=
 ⟨fun id a w h1 h2 h3 hs=>k.run id a w h1 h2 h3 (hs.imp h)⟩
section
variable {W:World} {R:HProp} {b:Nat} {X:StX} {S:StoX} {o:OpV}
theorem qlastO_spec {H:HProp} {n:Int} {r:RowX} {i:Nat} {x:PgX} [t:ObjC storec H b X R] (hn:0 ≤ n) (hr:X.H[n.toNat]? = some r) (hi:r.xs.length = i + 1) (hx:r.xs[i]? = some x) (hl:r.xs.length ≤ 1000000000) :
  Does prog W f_z1f ⟨[ptr b,.int .i64 n]⟩ H (Ret fun v G=>v = pgv x ∧ G = (storec b X•R)):=by rw [t.h.eq];exact qlast_spec hn hr hi hx hl
set_option maxHeartbeats 4000000 in
theorem puts_spec [le:LaidE W] [lc:LaidC W] [lp:LaidP W] [oc:OldC W R] (rc:OldR W 5 cntv o.ca o.m.pg.C) (rg:OldR W 2 grpv o.ga o.m.pg.G) (hC:o.m.pg.C.length ≤ 9223372036854775807) (hG:o.m.pg.G.length ≤ 9223372036854775807) (hpi:o.m.pg.In) (hai:In64 o.m.a) (hX:X.Ok S) (hb:SmallX X S) :
  Does prog W f_z1 ⟨[ptr b,.agg ⟨opl o⟩]⟩ (storec b X•stoo X.q S•R) (Ret (PlayQ b X ((stmOf X S).puts o.m) R)):=by
 have hpg:=hX.pages
 have hpp:S.val.P.pages = X.p:=hX.p.symm
 have hn:=mod_bd (a:=o.m.n) (show 0 < X.p by omega)
 obtain ⟨n,hnn⟩:∃ n,n = o.m.n % X.p:=⟨_,rfl⟩
 obtain ⟨T,hT⟩:∃ T,T = S.val.get n:=⟨_,rfl⟩
 have hBd:=Bd.get hb.bd (by decide) hX.sto.val.nd n
 rw [← hT] at hBd
 have hTp:T.2.P.pages = S.val.P.pages:=hBd.pages.trans rfl
 obtain ⟨r,i,x,hr,hi,hx,hlp,hx1,hx2⟩:=hX.last (n:=n) (by rw [hnn];exact hn)
 obtain ⟨pp,hpp2⟩:∃ pp,pp = putP o.m n x.m:=⟨_,rfl⟩
 obtain ⟨U,hU⟩:∃ U,U = T.2.put pp:=⟨_,rfl⟩
 have hUp:U.2.P.pages = S.val.P.pages:=by
  rw [hU];exact (Bd.sput hBd pp).pages.trans rfl
 have hrow:(X.had[n.toNat]?).getD [] = r.m:=by
  unfold StX.had
  rw [List.getElem?_map,hr];rfl
 have e:(stmOf X S).puts o.m = if T.1 ≠ 0 then (downE T.1 T.2 || decide (T.1 = 6),⟨T.2,X.had,X.E⟩) else
   if pp.lsn > U.2.L.recs.length then (decide (U.1 = 4) || downE U.1 U.2,⟨U.2,X.had,X.E⟩) else
   if U.1 ≠ 0 then (false,⟨U.2,X.had,X.E⟩) else (true,⟨U.2,X.had.set n.toNat (r.m ++ [pp]),X.E⟩):=by
  unfold StM.puts
  rw [hU,hT,← hrow,hpp2,← hlp,hnn,← hpp]
  rfl
 rw [e]
 have hm:=List.mem_of_getElem? hr
 have hrl:=hb.row hm
 refine f_z1.does _ _ ?_
 conv=>whnf
 repeat' (first
  | (intro blk hblk;conv=>whnf))
 obtain ⟨b3,hb3⟩:∃ b3,b3 = blk:=⟨_,rfl⟩
 rw [← hb3]
 repeat' (first
  | (refine Ld.i ?_;conv=>whnf)
  | (refine DrawK.introH tab_ok mixed 9 f_z1.last1 f_z1.plan1 _ rfl (by kernel_rfl) (Sub.of (by first|exact .refl _|exact .drop|exact .fin|((repeat refine .pick ?_);first|exact .refl _|exact .emp _|exact .fin))) ?_;conv=>whnf)
  | (refine CallK.ret f_zf.ok (qbrought_spec (by first|rfl|assumption|omega|decide|(simp;done)|(simp;omega)|(simp at *;omega))) ?_;rintro v G ⟨rfl,rfl⟩;conv=>whnf))
 rw [← hnn]
 refine CallK.ret f_z1t.ok (sget_spec (S:=S) hX.sto hb.clock) ?_
 rw [← hT]
 rintro v G ⟨S',hS',hs',hv',⟨h0,f,y,hlk,hy,rfl,rfl⟩|⟨h0,k,rfl,rfl⟩⟩
 rotate_left
 ·conv=>whnf
  repeat' (first
   | (refine St.i ⟨rfl,rfl⟩ (List.cons_ne_nil _ _) ?_;conv=>whnf)
   | (intro blk hblk;conv=>whnf))
  refine CallK.imp (H':=fltc k wGet n T.1•stoo X.q S'•storec b X•R) (by first|exact .refl _|exact .drop|exact .fin|((repeat refine .pick ?_);first|exact .refl _|exact .emp _|exact .fin)) ?_
  refine CallK.ret f_zr.ok (ends_flt h0 (hs'.d.trans hX.d)) ?_
  rintro v G ⟨rfl,rfl⟩
  rw [if_pos h0,hv']
  cases hde:downE T.1 T.2 with
  | true =>
   conv=>whnf
   skip
   refine ⟨_,_,rfl,?_,X,S',hX.next hS' hs' (by rw [hv'];exact hTp),.refl X,?_,rfl,rfl⟩
   ·first|exact .refl _|exact .drop|exact .fin|((repeat refine .pick ?_);first|exact .refl _|exact .emp _|exact .fin)
   ·show (⟨S'.val,X.had,X.E⟩:StM) = _
    rw [hv']
  | false =>
   conv=>whnf
   skip
   refine CallK.ret f_z1g.ok (qis_flt (by decide)) ?_
   rintro v G ⟨rfl,rfl⟩
   conv=>whnf
   skip
   refine ⟨_,_,rfl,?_,X,S',hX.next hS' hs' (by rw [hv'];exact hTp),.refl X,?_,rfl,rfl⟩
   ·first|exact .refl _|exact .drop|exact .fin|((repeat refine .pick ?_);first|exact .refl _|exact .emp _|exact .fin)
   ·show (⟨S'.val,X.had,X.E⟩:StM) = _
    rw [hv']
 rw [if_neg (fun k=>k h0)]
 conv=>whnf
 repeat' (first
  | ((first|refine LdN.i ?_|refine St.i ⟨rfl,rfl⟩ (List.cons_ne_nil _ _) ?_);conv=>whnf)
  | (intro blk hblk;conv=>whnf))
 refine CallK.imp (H':=stoo X.q S'•pts b3 (.cells ⟨opl o⟩ t_z42)•storec b X•R) (by first|exact .refl _|exact .drop|exact .fin|((repeat refine .pick ?_);first|exact .refl _|exact .emp _|exact .fin)) ?_
 refine CallK.ret f_z2o.ok (made_spec (C:=o.m.pg.C) (G:=o.m.pg.G) ⟨RowC.oldC rc inferInstance,rfl⟩ ⟨RowC.oldC rg inferInstance,rfl⟩ hC hG) ?_
 rintro v G ⟨m,hmm,rfl,rfl⟩
 have hmm':m.m = madeP o.m.pg:=hmm
 conv=>whnf
 repeat' (first
  | (refine St.i ⟨rfl,rfl⟩ (List.cons_ne_nil _ _) ?_;conv=>whnf)
  | (intro blk hblk;conv=>whnf))
 repeat' (first
  | (refine CallK.ret f_zf.ok (qbrought_spec (x:=o.m.a) (n:=3) (by omega)) ?_;rintro v G ⟨rfl,rfl⟩;conv=>whnf)
  | (refine CallK.ret f_z1f.ok (qlastO_spec (X:=X) (by omega) hr hi hx (by omega)) ?_;rintro v G ⟨rfl,rfl⟩;conv=>whnf)
  | ((first|refine Ld.i ?_|refine St.i ⟨rfl,rfl⟩ (List.cons_ne_nil _ _) ?_|refine Ar.i64 (by omega) ?_);conv=>whnf)
  | (refine Sub.on (by first|exact .refl _|exact .drop|exact .fin|((repeat refine .pick ?_);first|exact .refl _|exact .emp _|exact .fin)) ?_;conv=>whnf)
  | (refine DrawK.introH tab_ok mixed 41 f_z1.last7 f_z1.plan7 _ rfl (by kernel_rfl) (Sub.of (by first|exact .refl _|exact .drop|exact .fin|((repeat refine .pick ?_);first|exact .refl _|exact .emp _|exact .fin))) ?_;conv=>whnf))
 obtain ⟨ml1,ml2,ml3⟩:=madeP_len o.m.pg
 rw [← hmm'] at ml1 ml2 ml3
 obtain ⟨b8,hb8⟩:∃ b8,b8 = blk:=⟨_,rfl⟩
 rw [← hb8]
 rw [pgc_eq m]
 obtain ⟨pb1,pb2,pb3,pb4,pb5,pb6⟩:=putP_bd o.m n x.m
 rw [← hpp2] at pb1 pb2 pb3 pb4 pb5 pb6
 have hppi:pp.In:=by rw [hpp2];exact putP_in hpi hai (by omega) ⟨hx1,hx2⟩
 have hppC:pp = ⟨n,x.m.lsn + 1 + o.m.a % 3,m.m.C,if m.m.C.length + m.m.G.length = 0 then [⟨1,o.m.a⟩] else m.m.G⟩:=by rw [hpp2,hmm'];rfl
 repeat' (first
  | (refine spl_dec (fun hd=>?_) (fun hd=>?_) <;> first|(exfalso;omega)|(conv=>whnf))
  | ((first|refine Ld.i ?_|refine St.i ⟨rfl,rfl⟩ (List.cons_ne_nil _ _) ?_|refine Ar.i64 (by omega) ?_);conv=>whnf)
  | (intro blk hblk;conv=>whnf))
 ·rw [if_pos (by omega)] at hppC
  refine DrawK.imp (H':=pts b8 (.cells ⟨PgX.cells ⟨pp,m.ca,m.cc,some ⟨blk,0,none⟩,1⟩⟩ t_z1d)•pgc ⟨pp,m.ca,m.cc,some ⟨blk,0,none⟩,1⟩•stoo X.q S'•storec b X•R) ?_ ?_
  ·rw [pgc_eq,hppC]
   unfold PgX.cells
   dsimp only
   refine Imp.pick (Imp.pick (Imp.vnew (sz:=2) (enc:=grpv) [⟨1,o.m.a⟩] rfl ?_))
   first|exact .refl _|exact .drop|exact .fin|((repeat refine .pick ?_);first|exact .refl _|exact .emp _|exact .fin)
  obtain ⟨z,hz⟩:∃ z,z = (⟨pp,m.ca,m.cc,some ⟨blk,0,none⟩,1⟩:PgX):=⟨_,rfl⟩
  have hzm:z.m = pp:=by rw [hz]
  rw [← hz]
  clear hz hppC
  unfold PgX.cells
  refine DrawK.introH tab_ok mixed 64 f_z1.last10 f_z1.plan10 (storec b X•pts b8 (.cells ⟨[.int .i64 z.m.num,.int .i64 z.m.lsn,.slice z.ca z.m.C.length z.cc,.slice z.ga z.m.G.length z.gc]⟩ t_z1d)•emp) rfl (by kernel_rfl) (Sub.of (by first|exact .refl _|exact .drop|exact .fin|((repeat refine .pick ?_);first|exact .refl _|exact .emp _|exact .fin))) ?_
  rw [pgc_eq z]
  have zC:z.m.C.length ≤ 31:=by rw [hzm];exact pb1
  have zG:z.m.G.length ≤ 84:=by rw [hzm];exact pb2
  conv=>whnf
  repeat' (first
   | (refine CallK.ret f_z36.ok (qown_spec (C:=z.m.C) (G:=z.m.G) (by omega) (by omega)) ?_;rintro v G ⟨u,hu,rfl,rfl⟩;conv=>whnf)
   | (refine CallK.ret f_z3f.ok qout_spec ?_;rintro v G ⟨rfl,rfl⟩;conv=>whnf)
   | ((first|refine Ld.i ?_|refine LdN.i ?_);conv=>whnf)
   | (refine Sub.on (by first|exact .refl _|exact .drop|exact .fin|((repeat refine .pick ?_);first|exact .refl _|exact .emp _|exact .fin)) ?_;conv=>whnf))
  have hum:u.m = pp:=by rw [hu,← hzm]
  have hup:(⟨u.m.num,u.m.lsn,u.m.C,u.m.G⟩:PgM) = pp:=hum
  have hck:0 ≤ S'.P.clock ∧ S'.P.clock ≤ 1000000000:=by
   have h9:=hBd.clock
   rw [← hv'] at h9
   have:S'.val.P.clock = S'.P.clock:=rfl
   omega
  have hput:=fun Q:HProp=>fun (i1:OldC W Q) (i2:RowN W Q u.ca u.m.C.length 5 cntv u.m.C) (i3:RowN W Q u.ga u.m.G.length 2 grpv u.m.G)=>sput_spec (W:=W) (H:=stoo X.q S'•Q) (p:=X.q) (R:=Q) (S:=S') (num:=u.m.num) (lsn:=u.m.lsn) (ca:=u.ca) (ga:=u.ga) (nC:=u.m.C.length) (cc:=u.cc) (nG:=u.m.G.length) (gc:=u.gc) (C:=u.m.C) (G:=u.m.G) (by rw [hum];omega) (by rw [hum];omega) hS' (by rw [hup];exact hppi) hck
  have hun:u.m.num = n:=by rw [hum,hpp2];rfl
  rw [hup,hv',← hU,hun] at hput
  rw [pgc_eq u,hun]
  refine CallK.imp (H':=stoo X.q S'•vec t_z17 5 cntv u.ca u.cc u.m.C•vec t_zq 2 grpv u.ga u.gc u.m.G•storec b X•pts b8 (.cells ⟨[.int .i64 z.m.num,.int .i64 z.m.lsn,.slice z.ca z.m.C.length z.cc,.slice z.ga z.m.G.length z.gc]⟩ t_z1d)•vec t_z17 5 cntv z.ca z.cc z.m.C•vec t_zq 2 grpv z.ga z.gc z.m.G•R) (by first|exact .refl _|exact .drop|exact .fin|((repeat refine .pick ?_);first|exact .refl _|exact .emp _|exact .fin)) ?_
  refine CallK.ret f_z1k.ok (hput _ inferInstance inferInstance inferInstance) ?_
  rintro v G ⟨S2,hS2,hs2,hv2,⟨g0,rfl,rfl⟩|⟨g0,k2,rfl,rfl⟩⟩
  ·have hl2:S2.P.l = X.l:=hs2.l.trans (hs'.l.trans hX.l)
   have erl:U.2.L.recs.length = S2.L.recs.length:=by rw [← hv2];exact List.length_map ..
   have hSS:=hs'.trans hs2
   have hX2:X.Ok S2:=hX.next hS2 hSS (by rw [hv2];exact hUp)
   rw [erl,← hzm]
   by_cases c:z.m.lsn > S2.L.recs.length
   ·rw [if_pos c,g0]
    conv=>whnf
    repeat' (first
     | (refine DrawK.introH tab_ok mixed 72 f_z1.last11 f_z1.plan11 _ rfl (by kernel_rfl) (Sub.of (by first|exact .refl _|exact .drop|exact .fin|((repeat refine .pick ?_);first|exact .refl _|exact .emp _|exact .fin))) ?_;conv=>whnf)
     | (refine CallK.ret f_zs.ok (slast_spec (p:=X.q) (S:=S2) hl2) ?_;rintro v G ⟨rfl,rfl⟩;conv=>whnf)
     | (refine CallK.ret f_z1g.ok (qis_nil (by decide)) ?_;rintro v G ⟨rfl,rfl⟩;conv=>whnf)
     | (refine spl_dec (fun hd=>?_) (fun hd=>?_) <;> first|(exfalso;omega)|(conv=>whnf))
     | (refine Ld.i ?_;conv=>whnf)
     | (refine Sub.on (by first|exact .refl _|exact .drop|exact .fin|((repeat refine .pick ?_);first|exact .refl _|exact .emp _|exact .fin)) ?_;conv=>whnf))
    refine CallK.imp (H':=storec b X•stoo X.q S2•R) (by first|exact .refl _|exact .drop|exact .fin|((repeat refine .pick ?_);first|exact .refl _|exact .emp _|exact .fin)) ?_
    refine CallK.ret f_zr.ok ends_nil ?_
    rintro v G ⟨rfl,rfl⟩
    conv=>whnf
    skip
    refine ⟨_,_,rfl,Imp.refl _,X,S2,hX2,.refl X,?_,rfl,rfl⟩
    show (⟨S2.val,X.had,X.E⟩:StM) = _
    rw [hv2]
   ·rw [if_neg c,if_neg (fun k=>k g0)]
    conv=>whnf
    repeat' (first
     | (refine DrawK.introH tab_ok mixed 72 f_z1.last11 f_z1.plan11 _ rfl (by kernel_rfl) (Sub.of (by first|exact .refl _|exact .drop|exact .fin|((repeat refine .pick ?_);first|exact .refl _|exact .emp _|exact .fin))) ?_;conv=>whnf)
     | (refine CallK.ret f_zs.ok (slast_spec (p:=X.q) (S:=S2) hl2) ?_;rintro v G ⟨rfl,rfl⟩;conv=>whnf)
     | (refine spl_dec (fun hd=>?_) (fun hd=>?_) <;> first|(exfalso;omega)|(conv=>whnf))
     | (refine Ld.i ?_;conv=>whnf)
     | (refine Sub.on (by first|exact .refl _|exact .drop|exact .fin|((repeat refine .pick ?_);first|exact .refl _|exact .emp _|exact .fin)) ?_;conv=>whnf))
    have hltH:n.toNat < X.H.length:=by
     rcases Nat.lt_or_ge n.toNat X.H.length with h9|h9
     ·exact h9
     ·rw [List.getElem?_eq_none h9] at hr;cases hr
    refine DrawK.imp (H':=pts b (.cells ⟨[.int .i64 X.p,.int .i64 X.lg,.int .i64 X.f,ptr X.d,ptr X.l,ptr X.q,.slice X.ha X.H.length X.hc,.slice X.da X.E.length X.dc]⟩ t_z43)•vec t_z44 1 rowxv X.ha X.hc X.H•pts b8 (.cells ⟨[.int .i64 z.m.num,.int .i64 z.m.lsn,.slice z.ca z.m.C.length z.cc,.slice z.ga z.m.G.length z.gc]⟩ t_z1d)•vec t_z1d 4 PgX.cells r.a r.cap r.xs•bigL pgc r.xs•vec t_int 1 ints X.da X.dc X.E•bigL rowxc (X.H.eraseIdx n.toNat)•vec t_z17 5 cntv z.ca z.cc z.m.C•vec t_zq 2 grpv z.ga z.gc z.m.G•stoo X.q S2•R) ?_ ?_
    ·rw [storec_eq,bigL_take rowxc X.H n.toNat r hr]
     unfold rowxc
     simp only [star_assoc]
     first|exact .refl _|exact .drop|exact .fin|((repeat refine .pick ?_);first|exact .refl _|exact .emp _|exact .fin)
    obtain ⟨xa,hxa⟩:∃ a,a = X.ha:=⟨_,rfl⟩
    rw [← hxa]
    refine DrawK.introH tab_ok mixed 90 f_z1.last15 f_z1.plan15 (pts b (.cells ⟨[.int .i64 X.p,.int .i64 X.lg,.int .i64 X.f,ptr X.d,ptr X.l,ptr X.q,.slice xa X.H.length X.hc,.slice X.da X.E.length X.dc]⟩ t_z43)•vec t_z44 1 rowxv xa X.hc X.H•pts b8 (.cells ⟨[.int .i64 z.m.num,.int .i64 z.m.lsn,.slice z.ca z.m.C.length z.cc,.slice z.ga z.m.G.length z.gc]⟩ t_z1d)•emp) rfl (by kernel_rfl) (Sub.of (by first|exact .refl _|exact .drop|exact .fin|((repeat refine .pick ?_);first|exact .refl _|exact .emp _|exact .fin))) ?_
    conv=>whnf
    repeat' (first
     | ((first|refine Ld.i ?_|refine LdN.i ?_);conv=>whnf)
     | (intro blk hblk;conv=>whnf)
     | (refine Sub.on (by first|exact .refl _|exact .drop|exact .fin|((repeat refine .pick ?_);first|exact .refl _|exact .emp _|exact .fin)) ?_;conv=>whnf)
     | (refine IxS.r (xs:=X.H) (i:=n.toNat) (by omega) rfl hltH (fun ab off ha=>?_);cases ha;conv=>whnf)
     | (refine Ld.r0 (xs:=X.H) hr rfl ?_;conv=>whnf))
    refine OpX.app1 (xs:=r.xs) tab_ok rfl rfl rfl rfl z rfl rfl (by omega) ⟨rfl,pgx_one⟩ (fun a' cap'=>?_)
    conv=>whnf
    repeat' (first
     | (refine Sub.on (by first|exact .refl _|exact .drop|exact .fin|((repeat refine .pick ?_);first|exact .refl _|exact .emp _|exact .fin)) ?_;conv=>whnf)
     | (refine IxS.r (xs:=X.H) (i:=n.toNat) (by omega) rfl hltH (fun ab off ha=>?_);cases ha;conv=>whnf)
     | (refine St.v0 (xs:=X.H) hr (⟨a',cap',r.xs ++ [z]⟩:RowX) (by unfold rowxv;dsimp only;rw [List.length_append,List.length_singleton];rfl) (Nat.le_refl 1) ⟨rfl,rfl⟩ ?_;conv=>whnf))
    have hmset:(X.H.set n.toNat ⟨a',cap',r.xs ++ [z]⟩).map RowX.m = X.had.set n.toNat (r.m ++ [z.m]):=by
     unfold StX.had
     rw [List.map_set]
     congr 1
     unfold RowX.m
     rw [List.map_append];rfl
    refine ⟨_,_,rfl,?_,{ X with H:=X.H.set n.toNat ⟨a',cap',r.xs ++ [z]⟩ },S2,⟨hS2,hX2.d,hX2.l,hX2.p,?_,hX2.el⟩,⟨rfl,rfl,rfl,rfl,rfl,rfl⟩,?_,rfl,rfl⟩
    ·rw [storec_eq]
     dsimp only [storev]
     rw [List.length_set,bigL_set rowxc _ X.H n.toNat r hr]
     unfold rowxc
     dsimp only
     rw [bigL_snoc]
     simp only [star_assoc]
     rw [pgc_eq z,← hxa]
     first|exact .refl _|exact .drop|exact .fin|((repeat refine .pick ?_);first|exact .refl _|exact .emp _|exact .fin)
    ·show HadOk X.p ((X.H.set n.toNat ⟨a',cap',r.xs ++ [z]⟩).map RowX.m)
     have h8:=hX.had.set (n:=n) (q:=z.m) ⟨by rw [hzm];omega,by
      have q1:=hS2.L.len
      have q2:=hS2.L.cnt
      omega⟩
     rw [hrow] at h8
     rw [hmset];exact h8
    ·show (⟨S2.val,(X.H.set n.toNat ⟨a',cap',r.xs ++ [z]⟩).map RowX.m,X.E⟩:StM) = _
     rw [hmset,hv2]
  ·have hl2:S2.P.l = X.l:=hs2.l.trans (hs'.l.trans hX.l)
   have erl:U.2.L.recs.length = S2.L.recs.length:=by rw [← hv2];exact List.length_map ..
   have hSS:=hs'.trans hs2
   have hX2:X.Ok S2:=hX.next hS2 hSS (by rw [hv2];exact hUp)
   rw [erl,← hzm]
   by_cases c:z.m.lsn > S2.L.recs.length
   ·rw [if_pos c]
    conv=>whnf
    repeat' (first
     | (refine DrawK.introH tab_ok mixed 72 f_z1.last11 f_z1.plan11 _ rfl (by kernel_rfl) (Sub.of (by first|exact .refl _|exact .drop|exact .fin|((repeat refine .pick ?_);first|exact .refl _|exact .emp _|exact .fin))) ?_;conv=>whnf)
     | (refine CallK.ret f_zs.ok (slast_spec (p:=X.q) (S:=S2) hl2) ?_;rintro v G ⟨rfl,rfl⟩;conv=>whnf)
     | (refine spl_dec (fun hd=>?_) (fun hd=>?_) <;> first|(exfalso;omega)|(conv=>whnf))
     | (refine Ld.i ?_;conv=>whnf)
     | (refine Sub.on (by first|exact .refl _|exact .drop|exact .fin|((repeat refine .pick ?_);first|exact .refl _|exact .emp _|exact .fin)) ?_;conv=>whnf))
    refine CallK.imp (H':=fltc k2 wPut n U.1•stoo X.q S2•storec b X•R) (by first|exact .refl _|exact .drop|exact .fin|((repeat refine .pick ?_);first|exact .refl _|exact .emp _|exact .fin)) ?_
    refine CallK.ret f_z1g.ok (qis_flt (by decide)) ?_
    rintro v G ⟨rfl,rfl⟩
    by_cases c4:U.1 = 4
    ·rw [decide_eq_true c4,Bool.true_or]
     conv=>whnf
     skip
     refine ⟨_,_,rfl,?_,X,S2,hX2,.refl X,?_,rfl,rfl⟩
     ·first|exact .refl _|exact .drop|exact .fin|((repeat refine .pick ?_);first|exact .refl _|exact .emp _|exact .fin)
     ·show (⟨S2.val,X.had,X.E⟩:StM) = _
      rw [hv2]
    ·rw [decide_eq_false c4,Bool.false_or]
     conv=>whnf
     skip
     refine CallK.ret f_zr.ok (ends_flt g0 (hSS.d.trans hX.d)) ?_
     rintro v G ⟨rfl,rfl⟩
     rw [hv2]
     conv=>whnf
     skip
     refine ⟨_,_,rfl,?_,X,S2,hX2,.refl X,?_,rfl,rfl⟩
     ·first|exact .refl _|exact .drop|exact .fin|((repeat refine .pick ?_);first|exact .refl _|exact .emp _|exact .fin)
     ·show (⟨S2.val,X.had,X.E⟩:StM) = _
      rw [hv2]
   ·rw [if_neg c,if_pos g0]
    conv=>whnf
    repeat' (first
     | (refine DrawK.introH tab_ok mixed 72 f_z1.last11 f_z1.plan11 _ rfl (by kernel_rfl) (Sub.of (by first|exact .refl _|exact .drop|exact .fin|((repeat refine .pick ?_);first|exact .refl _|exact .emp _|exact .fin))) ?_;conv=>whnf)
     | (refine CallK.ret f_zs.ok (slast_spec (p:=X.q) (S:=S2) hl2) ?_;rintro v G ⟨rfl,rfl⟩;conv=>whnf)
     | (refine spl_dec (fun hd=>?_) (fun hd=>?_) <;> first|(exfalso;omega)|(conv=>whnf))
     | (refine Ld.i ?_;conv=>whnf)
     | (refine Sub.on (by first|exact .refl _|exact .drop|exact .fin|((repeat refine .pick ?_);first|exact .refl _|exact .emp _|exact .fin)) ?_;conv=>whnf))
    refine ⟨_,_,rfl,?_,X,S2,hX2,.refl X,?_,rfl,rfl⟩
    ·first|exact .refl _|exact .drop|exact .fin|((repeat refine .pick ?_);first|exact .refl _|exact .emp _|exact .fin)
    ·show (⟨S2.val,X.had,X.E⟩:StM) = _
     rw [hv2]
 ·rw [if_neg (by omega)] at hppC
  refine DrawK.imp (H':=pts b8 (.cells ⟨PgX.cells ⟨pp,m.ca,m.cc,m.ga,m.gc⟩⟩ t_z1d)•pgc ⟨pp,m.ca,m.cc,m.ga,m.gc⟩•stoo X.q S'•storec b X•R) ?_ ?_
  ·rw [pgc_eq,hppC]
   unfold PgX.cells
   dsimp only
   first|exact .refl _|exact .drop|exact .fin|((repeat refine .pick ?_);first|exact .refl _|exact .emp _|exact .fin)
  obtain ⟨z,hz⟩:∃ z,z = (⟨pp,m.ca,m.cc,m.ga,m.gc⟩:PgX):=⟨_,rfl⟩
  have hzm:z.m = pp:=by rw [hz]
  rw [← hz]
  clear hz hppC
  unfold PgX.cells
  refine DrawK.introH tab_ok mixed 64 f_z1.last10 f_z1.plan10 (storec b X•pts b8 (.cells ⟨[.int .i64 z.m.num,.int .i64 z.m.lsn,.slice z.ca z.m.C.length z.cc,.slice z.ga z.m.G.length z.gc]⟩ t_z1d)•emp) rfl (by kernel_rfl) (Sub.of (by first|exact .refl _|exact .drop|exact .fin|((repeat refine .pick ?_);first|exact .refl _|exact .emp _|exact .fin))) ?_
  rw [pgc_eq z]
  have zC:z.m.C.length ≤ 31:=by rw [hzm];exact pb1
  have zG:z.m.G.length ≤ 84:=by rw [hzm];exact pb2
  conv=>whnf
  repeat' (first
   | (refine CallK.ret f_z36.ok (qown_spec (C:=z.m.C) (G:=z.m.G) (by omega) (by omega)) ?_;rintro v G ⟨u,hu,rfl,rfl⟩;conv=>whnf)
   | (refine CallK.ret f_z3f.ok qout_spec ?_;rintro v G ⟨rfl,rfl⟩;conv=>whnf)
   | ((first|refine Ld.i ?_|refine LdN.i ?_);conv=>whnf)
   | (refine Sub.on (by first|exact .refl _|exact .drop|exact .fin|((repeat refine .pick ?_);first|exact .refl _|exact .emp _|exact .fin)) ?_;conv=>whnf))
  have hum:u.m = pp:=by rw [hu,← hzm]
  have hup:(⟨u.m.num,u.m.lsn,u.m.C,u.m.G⟩:PgM) = pp:=hum
  have hck:0 ≤ S'.P.clock ∧ S'.P.clock ≤ 1000000000:=by
   have h9:=hBd.clock
   rw [← hv'] at h9
   have:S'.val.P.clock = S'.P.clock:=rfl
   omega
  have hput:=fun Q:HProp=>fun (i1:OldC W Q) (i2:RowN W Q u.ca u.m.C.length 5 cntv u.m.C) (i3:RowN W Q u.ga u.m.G.length 2 grpv u.m.G)=>sput_spec (W:=W) (H:=stoo X.q S'•Q) (p:=X.q) (R:=Q) (S:=S') (num:=u.m.num) (lsn:=u.m.lsn) (ca:=u.ca) (ga:=u.ga) (nC:=u.m.C.length) (cc:=u.cc) (nG:=u.m.G.length) (gc:=u.gc) (C:=u.m.C) (G:=u.m.G) (by rw [hum];omega) (by rw [hum];omega) hS' (by rw [hup];exact hppi) hck
  have hun:u.m.num = n:=by rw [hum,hpp2];rfl
  rw [hup,hv',← hU,hun] at hput
  rw [pgc_eq u,hun]
  refine CallK.imp (H':=stoo X.q S'•vec t_z17 5 cntv u.ca u.cc u.m.C•vec t_zq 2 grpv u.ga u.gc u.m.G•storec b X•pts b8 (.cells ⟨[.int .i64 z.m.num,.int .i64 z.m.lsn,.slice z.ca z.m.C.length z.cc,.slice z.ga z.m.G.length z.gc]⟩ t_z1d)•vec t_z17 5 cntv z.ca z.cc z.m.C•vec t_zq 2 grpv z.ga z.gc z.m.G•R) (by first|exact .refl _|exact .drop|exact .fin|((repeat refine .pick ?_);first|exact .refl _|exact .emp _|exact .fin)) ?_
  refine CallK.ret f_z1k.ok (hput _ inferInstance inferInstance inferInstance) ?_
  rintro v G ⟨S2,hS2,hs2,hv2,⟨g0,rfl,rfl⟩|⟨g0,k2,rfl,rfl⟩⟩
  ·have hl2:S2.P.l = X.l:=hs2.l.trans (hs'.l.trans hX.l)
   have erl:U.2.L.recs.length = S2.L.recs.length:=by rw [← hv2];exact List.length_map ..
   have hSS:=hs'.trans hs2
   have hX2:X.Ok S2:=hX.next hS2 hSS (by rw [hv2];exact hUp)
   rw [erl,← hzm]
   by_cases c:z.m.lsn > S2.L.recs.length
   ·rw [if_pos c,g0]
    conv=>whnf
    repeat' (first
     | (refine DrawK.introH tab_ok mixed 72 f_z1.last11 f_z1.plan11 _ rfl (by kernel_rfl) (Sub.of (by first|exact .refl _|exact .drop|exact .fin|((repeat refine .pick ?_);first|exact .refl _|exact .emp _|exact .fin))) ?_;conv=>whnf)
     | (refine CallK.ret f_zs.ok (slast_spec (p:=X.q) (S:=S2) hl2) ?_;rintro v G ⟨rfl,rfl⟩;conv=>whnf)
     | (refine CallK.ret f_z1g.ok (qis_nil (by decide)) ?_;rintro v G ⟨rfl,rfl⟩;conv=>whnf)
     | (refine spl_dec (fun hd=>?_) (fun hd=>?_) <;> first|(exfalso;omega)|(conv=>whnf))
     | (refine Ld.i ?_;conv=>whnf)
     | (refine Sub.on (by first|exact .refl _|exact .drop|exact .fin|((repeat refine .pick ?_);first|exact .refl _|exact .emp _|exact .fin)) ?_;conv=>whnf))
    refine CallK.imp (H':=storec b X•stoo X.q S2•R) (by first|exact .refl _|exact .drop|exact .fin|((repeat refine .pick ?_);first|exact .refl _|exact .emp _|exact .fin)) ?_
    refine CallK.ret f_zr.ok ends_nil ?_
    rintro v G ⟨rfl,rfl⟩
    conv=>whnf
    skip
    refine ⟨_,_,rfl,Imp.refl _,X,S2,hX2,.refl X,?_,rfl,rfl⟩
    show (⟨S2.val,X.had,X.E⟩:StM) = _
    rw [hv2]
   ·rw [if_neg c,if_neg (fun k=>k g0)]
    conv=>whnf
    repeat' (first
     | (refine DrawK.introH tab_ok mixed 72 f_z1.last11 f_z1.plan11 _ rfl (by kernel_rfl) (Sub.of (by first|exact .refl _|exact .drop|exact .fin|((repeat refine .pick ?_);first|exact .refl _|exact .emp _|exact .fin))) ?_;conv=>whnf)
     | (refine CallK.ret f_zs.ok (slast_spec (p:=X.q) (S:=S2) hl2) ?_;rintro v G ⟨rfl,rfl⟩;conv=>whnf)
     | (refine spl_dec (fun hd=>?_) (fun hd=>?_) <;> first|(exfalso;omega)|(conv=>whnf))
     | (refine Ld.i ?_;conv=>whnf)
     | (refine Sub.on (by first|exact .refl _|exact .drop|exact .fin|((repeat refine .pick ?_);first|exact .refl _|exact .emp _|exact .fin)) ?_;conv=>whnf))
    have hltH:n.toNat < X.H.length:=by
     rcases Nat.lt_or_ge n.toNat X.H.length with h9|h9
     ·exact h9
     ·rw [List.getElem?_eq_none h9] at hr;cases hr
    refine DrawK.imp (H':=pts b (.cells ⟨[.int .i64 X.p,.int .i64 X.lg,.int .i64 X.f,ptr X.d,ptr X.l,ptr X.q,.slice X.ha X.H.length X.hc,.slice X.da X.E.length X.dc]⟩ t_z43)•vec t_z44 1 rowxv X.ha X.hc X.H•pts b8 (.cells ⟨[.int .i64 z.m.num,.int .i64 z.m.lsn,.slice z.ca z.m.C.length z.cc,.slice z.ga z.m.G.length z.gc]⟩ t_z1d)•vec t_z1d 4 PgX.cells r.a r.cap r.xs•bigL pgc r.xs•vec t_int 1 ints X.da X.dc X.E•bigL rowxc (X.H.eraseIdx n.toNat)•vec t_z17 5 cntv z.ca z.cc z.m.C•vec t_zq 2 grpv z.ga z.gc z.m.G•stoo X.q S2•R) ?_ ?_
    ·rw [storec_eq,bigL_take rowxc X.H n.toNat r hr]
     unfold rowxc
     simp only [star_assoc]
     first|exact .refl _|exact .drop|exact .fin|((repeat refine .pick ?_);first|exact .refl _|exact .emp _|exact .fin)
    obtain ⟨xa,hxa⟩:∃ a,a = X.ha:=⟨_,rfl⟩
    rw [← hxa]
    refine DrawK.introH tab_ok mixed 90 f_z1.last15 f_z1.plan15 (pts b (.cells ⟨[.int .i64 X.p,.int .i64 X.lg,.int .i64 X.f,ptr X.d,ptr X.l,ptr X.q,.slice xa X.H.length X.hc,.slice X.da X.E.length X.dc]⟩ t_z43)•vec t_z44 1 rowxv xa X.hc X.H•pts b8 (.cells ⟨[.int .i64 z.m.num,.int .i64 z.m.lsn,.slice z.ca z.m.C.length z.cc,.slice z.ga z.m.G.length z.gc]⟩ t_z1d)•emp) rfl (by kernel_rfl) (Sub.of (by first|exact .refl _|exact .drop|exact .fin|((repeat refine .pick ?_);first|exact .refl _|exact .emp _|exact .fin))) ?_
    conv=>whnf
    repeat' (first
     | ((first|refine Ld.i ?_|refine LdN.i ?_);conv=>whnf)
     | (intro blk hblk;conv=>whnf)
     | (refine Sub.on (by first|exact .refl _|exact .drop|exact .fin|((repeat refine .pick ?_);first|exact .refl _|exact .emp _|exact .fin)) ?_;conv=>whnf)
     | (refine IxS.r (xs:=X.H) (i:=n.toNat) (by omega) rfl hltH (fun ab off ha=>?_);cases ha;conv=>whnf)
     | (refine Ld.r0 (xs:=X.H) hr rfl ?_;conv=>whnf))
    refine OpX.app1 (xs:=r.xs) tab_ok rfl rfl rfl rfl z rfl rfl (by omega) ⟨rfl,pgx_one⟩ (fun a' cap'=>?_)
    conv=>whnf
    repeat' (first
     | (refine Sub.on (by first|exact .refl _|exact .drop|exact .fin|((repeat refine .pick ?_);first|exact .refl _|exact .emp _|exact .fin)) ?_;conv=>whnf)
     | (refine IxS.r (xs:=X.H) (i:=n.toNat) (by omega) rfl hltH (fun ab off ha=>?_);cases ha;conv=>whnf)
     | (refine St.v0 (xs:=X.H) hr (⟨a',cap',r.xs ++ [z]⟩:RowX) (by unfold rowxv;dsimp only;rw [List.length_append,List.length_singleton];rfl) (Nat.le_refl 1) ⟨rfl,rfl⟩ ?_;conv=>whnf))
    have hmset:(X.H.set n.toNat ⟨a',cap',r.xs ++ [z]⟩).map RowX.m = X.had.set n.toNat (r.m ++ [z.m]):=by
     unfold StX.had
     rw [List.map_set]
     congr 1
     unfold RowX.m
     rw [List.map_append];rfl
    refine ⟨_,_,rfl,?_,{ X with H:=X.H.set n.toNat ⟨a',cap',r.xs ++ [z]⟩ },S2,⟨hS2,hX2.d,hX2.l,hX2.p,?_,hX2.el⟩,⟨rfl,rfl,rfl,rfl,rfl,rfl⟩,?_,rfl,rfl⟩
    ·rw [storec_eq]
     dsimp only [storev]
     rw [List.length_set,bigL_set rowxc _ X.H n.toNat r hr]
     unfold rowxc
     dsimp only
     rw [bigL_snoc]
     simp only [star_assoc]
     rw [pgc_eq z,← hxa]
     first|exact .refl _|exact .drop|exact .fin|((repeat refine .pick ?_);first|exact .refl _|exact .emp _|exact .fin)
    ·show HadOk X.p ((X.H.set n.toNat ⟨a',cap',r.xs ++ [z]⟩).map RowX.m)
     have h8:=hX.had.set (n:=n) (q:=z.m) ⟨by rw [hzm];omega,by
      have q1:=hS2.L.len
      have q2:=hS2.L.cnt
      omega⟩
     rw [hrow] at h8
     rw [hmset];exact h8
    ·show (⟨S2.val,(X.H.set n.toNat ⟨a',cap',r.xs ++ [z]⟩).map RowX.m,X.E⟩:StM) = _
     rw [hmset,hv2]
  ·have hl2:S2.P.l = X.l:=hs2.l.trans (hs'.l.trans hX.l)
   have erl:U.2.L.recs.length = S2.L.recs.length:=by rw [← hv2];exact List.length_map ..
   have hSS:=hs'.trans hs2
   have hX2:X.Ok S2:=hX.next hS2 hSS (by rw [hv2];exact hUp)
   rw [erl,← hzm]
   by_cases c:z.m.lsn > S2.L.recs.length
   ·rw [if_pos c]
    conv=>whnf
    repeat' (first
     | (refine DrawK.introH tab_ok mixed 72 f_z1.last11 f_z1.plan11 _ rfl (by kernel_rfl) (Sub.of (by first|exact .refl _|exact .drop|exact .fin|((repeat refine .pick ?_);first|exact .refl _|exact .emp _|exact .fin))) ?_;conv=>whnf)
     | (refine CallK.ret f_zs.ok (slast_spec (p:=X.q) (S:=S2) hl2) ?_;rintro v G ⟨rfl,rfl⟩;conv=>whnf)
     | (refine spl_dec (fun hd=>?_) (fun hd=>?_) <;> first|(exfalso;omega)|(conv=>whnf))
     | (refine Ld.i ?_;conv=>whnf)
     | (refine Sub.on (by first|exact .refl _|exact .drop|exact .fin|((repeat refine .pick ?_);first|exact .refl _|exact .emp _|exact .fin)) ?_;conv=>whnf))
    refine CallK.imp (H':=fltc k2 wPut n U.1•stoo X.q S2•storec b X•R) (by first|exact .refl _|exact .drop|exact .fin|((repeat refine .pick ?_);first|exact .refl _|exact .emp _|exact .fin)) ?_
    refine CallK.ret f_z1g.ok (qis_flt (by decide)) ?_
    rintro v G ⟨rfl,rfl⟩
    by_cases c4:U.1 = 4
    ·rw [decide_eq_true c4,Bool.true_or]
     conv=>whnf
     skip
     refine ⟨_,_,rfl,?_,X,S2,hX2,.refl X,?_,rfl,rfl⟩
     ·first|exact .refl _|exact .drop|exact .fin|((repeat refine .pick ?_);first|exact .refl _|exact .emp _|exact .fin)
     ·show (⟨S2.val,X.had,X.E⟩:StM) = _
      rw [hv2]
    ·rw [decide_eq_false c4,Bool.false_or]
     conv=>whnf
     skip
     refine CallK.ret f_zr.ok (ends_flt g0 (hSS.d.trans hX.d)) ?_
     rintro v G ⟨rfl,rfl⟩
     rw [hv2]
     conv=>whnf
     skip
     refine ⟨_,_,rfl,?_,X,S2,hX2,.refl X,?_,rfl,rfl⟩
     ·first|exact .refl _|exact .drop|exact .fin|((repeat refine .pick ?_);first|exact .refl _|exact .emp _|exact .fin)
     ·show (⟨S2.val,X.had,X.E⟩:StM) = _
      rw [hv2]
   ·rw [if_neg c,if_pos g0]
    conv=>whnf
    repeat' (first
     | (refine DrawK.introH tab_ok mixed 72 f_z1.last11 f_z1.plan11 _ rfl (by kernel_rfl) (Sub.of (by first|exact .refl _|exact .drop|exact .fin|((repeat refine .pick ?_);first|exact .refl _|exact .emp _|exact .fin))) ?_;conv=>whnf)
     | (refine CallK.ret f_zs.ok (slast_spec (p:=X.q) (S:=S2) hl2) ?_;rintro v G ⟨rfl,rfl⟩;conv=>whnf)
     | (refine spl_dec (fun hd=>?_) (fun hd=>?_) <;> first|(exfalso;omega)|(conv=>whnf))
     | (refine Ld.i ?_;conv=>whnf)
     | (refine Sub.on (by first|exact .refl _|exact .drop|exact .fin|((repeat refine .pick ?_);first|exact .refl _|exact .emp _|exact .fin)) ?_;conv=>whnf))
    refine ⟨_,_,rfl,?_,X,S2,hX2,.refl X,?_,rfl,rfl⟩
    ·first|exact .refl _|exact .drop|exact .fin|((repeat refine .pick ?_);first|exact .refl _|exact .emp _|exact .fin)
    ·show (⟨S2.val,X.had,X.E⟩:StM) = _
     rw [hv2]
end
end Go.Proofs.YtbcedpankkdfoaaGreatDoor
