/- Copies of rows; whether a row is all zeros: walked. Conditions: in each statement. -/
import Derived.Test.YtbcedpankkdfoaaGreatDoorPart15
import Derived.Test.YtbcedpankkdfoaaGreatDoorPart11
import Derived.Test.YtbcedpankkdfoaaGreatDoorPart7
set_option linter.unusedVariables false
set_option linter.unusedSimpArgs false
namespace Go.SL.Rec
open Go Go.SL
structure CntV where
 id:Int
 grp:Int
 lo:Int
 hi:Int
 val:Int
 deriving DecidableEq
def cntv (c:CntV):List Value:=[.int .i64 c.id,.int .i64 c.grp,.int .i64 c.lo,.int .i64 c.hi,.int .i64 c.val]
instance:SizedC 5 cntv:=⟨fun _=>rfl⟩
instance {c:CntV}:LitL (cntv c) [.int .i64 c.id,.int .i64 c.grp,.int .i64 c.lo,.int .i64 c.hi,.int .i64 c.val]:=⟨rfl⟩
instance {a b c d e:Int}:DecOf cntv [.int .i64 a,.int .i64 b,.int .i64 c,.int .i64 d,.int .i64 e] ⟨a,b,c,d,e⟩:=⟨rfl⟩
instance:OneC cntv:=⟨fun ys v hv=>by
 obtain ⟨d,_,hv⟩:=List.mem_flatMap.1 hv
 simp only [cntv,List.mem_cons,List.not_mem_nil,or_false] at hv
 rcases hv with rfl|rfl|rfl|rfl|rfl <;> rfl⟩
structure GrpV where
 id:Int
 sum:Int
 deriving DecidableEq
def grpv (c:GrpV):List Value:=[.int .i64 c.id,.int .i64 c.sum]
instance:SizedC 2 grpv:=⟨fun _=>rfl⟩
instance {c:GrpV}:LitL (grpv c) [.int .i64 c.id,.int .i64 c.sum]:=⟨rfl⟩
instance {a b:Int}:DecOf grpv [.int .i64 a,.int .i64 b] ⟨a,b⟩:=⟨rfl⟩
instance:OneC grpv:=⟨fun ys v hv=>by
 obtain ⟨d,_,hv⟩:=List.mem_flatMap.1 hv
 simp only [grpv,List.mem_cons,List.not_mem_nil,or_false] at hv
 rcases hv with rfl|rfl <;> rfl⟩
end Go.SL.Rec
namespace Go.Proofs.YtbcedpankkdfoaaGreatDoor
open Go Go.SL Go.SL.Sec Go.SL.Fld Go.SL.Pts Go.SL.Rec
open Go.SL.Und (RecV recv fits)
theorem cloneL_spec {W:World} {R:HProp} {a:Option Addr} {n cap:Nat} {l:List LiveV} [c:RowN W R a n 4 livev l] (hb:l.length ≤ 1000000000) :
  Does prog W f_z3j ⟨[.slice a n cap]⟩ R (Ret fun v G=>∃ a' cap',l.length ≤ cap' ∧ v = .slice a' l.length cap' ∧ G = (vec t_z23 4 livev a' cap' l•R)):=by
 refine Does.vlen (V:=fun a' cap'=>.slice a' l.length cap') ?_
 have hn:=c.len
 subst hn
 haveI c':=c.row
 cases a with
 | none =>
  refine Does.nil c' fun hl=>?_
  subst hl
  refine f_z3j.does _ ?_
  conv=>whnf
  skip
  refine ⟨_,_,rfl,?_,none,0,rfl,rfl⟩
  refine Imp.vnil ?_
  first|exact .refl _|exact .drop|exact .fin|((repeat refine .pick ?_);first|exact .refl _|exact .emp _|exact .fin)
 | some x =>
  refine f_z3j.does _ ?_
  conv=>whnf
  repeat' (first
   | (intro blk hblk;conv=>whnf)
   | (refine OpX.appE (ys:=l) tab_ok rfl rfl rfl rfl rfl rfl (by omega) (fun a' c'=>?_);conv=>whnf))
  refine ⟨_,_,rfl,?_,a',c',rfl,rfl⟩
  first|exact .refl _|exact .drop|exact .fin|((repeat refine .pick ?_);first|exact .refl _|exact .emp _|exact .fin)
theorem cloneD_spec {W:World} {R:HProp} {a:Option Addr} {n cap:Nat} {l:List DirtyV} [c:RowN W R a n 2 dirtyv l] (hb:l.length ≤ 1000000000) :
  Does prog W f_z3k ⟨[.slice a n cap]⟩ R (Ret fun v G=>∃ a' cap',l.length ≤ cap' ∧ v = .slice a' l.length cap' ∧ G = (vec t_z1l 2 dirtyv a' cap' l•R)):=by
 refine Does.vlen (V:=fun a' cap'=>.slice a' l.length cap') ?_
 have hn:=c.len
 subst hn
 haveI c':=c.row
 cases a with
 | none =>
  refine Does.nil c' fun hl=>?_
  subst hl
  refine f_z3k.does _ ?_
  conv=>whnf
  skip
  refine ⟨_,_,rfl,?_,none,0,rfl,rfl⟩
  refine Imp.vnil ?_
  first|exact .refl _|exact .drop|exact .fin|((repeat refine .pick ?_);first|exact .refl _|exact .emp _|exact .fin)
 | some x =>
  refine f_z3k.does _ ?_
  conv=>whnf
  repeat' (first
   | (intro blk hblk;conv=>whnf)
   | (refine OpX.appE (ys:=l) tab_ok rfl rfl rfl rfl rfl rfl (by omega) (fun a' c'=>?_);conv=>whnf))
  refine ⟨_,_,rfl,?_,a',c',rfl,rfl⟩
  first|exact .refl _|exact .drop|exact .fin|((repeat refine .pick ?_);first|exact .refl _|exact .emp _|exact .fin)
theorem cloneC_spec {W:World} {R:HProp} {a:Option Addr} {n cap:Nat} {l:List CntV} [c:RowN W R a n 5 cntv l] (hb:l.length ≤ 1000000000) :
  Does prog W f_z3d ⟨[.slice a n cap]⟩ R (Ret fun v G=>∃ a' cap',l.length ≤ cap' ∧ v = .slice a' l.length cap' ∧ G = (vec t_api_Counter 5 cntv a' cap' l•R)):=by
 refine Does.vlen (V:=fun a' cap'=>.slice a' l.length cap') ?_
 have hn:=c.len
 subst hn
 haveI c':=c.row
 cases a with
 | none =>
  refine Does.nil c' fun hl=>?_
  subst hl
  refine f_z3d.does _ ?_
  conv=>whnf
  skip
  refine ⟨_,_,rfl,?_,none,0,rfl,rfl⟩
  refine Imp.vnil ?_
  first|exact .refl _|exact .drop|exact .fin|((repeat refine .pick ?_);first|exact .refl _|exact .emp _|exact .fin)
 | some x =>
  refine f_z3d.does _ ?_
  conv=>whnf
  repeat' (first
   | (intro blk hblk;conv=>whnf)
   | (refine OpX.appE (ys:=l) tab_ok rfl rfl rfl rfl rfl rfl (by omega) (fun a' c'=>?_);conv=>whnf))
  refine ⟨_,_,rfl,?_,a',c',rfl,rfl⟩
  first|exact .refl _|exact .drop|exact .fin|((repeat refine .pick ?_);first|exact .refl _|exact .emp _|exact .fin)
theorem cloneP_spec {W:World} {R:HProp} {a:Option Addr} {n cap:Nat} {l:List GrpV} [c:RowN W R a n 2 grpv l] (hb:l.length ≤ 1000000000) :
  Does prog W f_z3e ⟨[.slice a n cap]⟩ R (Ret fun v G=>∃ a' cap',l.length ≤ cap' ∧ v = .slice a' l.length cap' ∧ G = (vec t_api_Group 2 grpv a' cap' l•R)):=by
 refine Does.vlen (V:=fun a' cap'=>.slice a' l.length cap') ?_
 have hn:=c.len
 subst hn
 haveI c':=c.row
 cases a with
 | none =>
  refine Does.nil c' fun hl=>?_
  subst hl
  refine f_z3e.does _ ?_
  conv=>whnf
  skip
  refine ⟨_,_,rfl,?_,none,0,rfl,rfl⟩
  refine Imp.vnil ?_
  first|exact .refl _|exact .drop|exact .fin|((repeat refine .pick ?_);first|exact .refl _|exact .emp _|exact .fin)
 | some x =>
  refine f_z3e.does _ ?_
  conv=>whnf
  repeat' (first
   | (intro blk hblk;conv=>whnf)
   | (refine OpX.appE (ys:=l) tab_ok rfl rfl rfl rfl rfl rfl (by omega) (fun a' c'=>?_);conv=>whnf))
  refine ⟨_,_,rfl,?_,a',c',rfl,rfl⟩
  first|exact .refl _|exact .drop|exact .fin|((repeat refine .pick ?_);first|exact .refl _|exact .emp _|exact .fin)
def zerosB (l:List Int):Bool:=l.all fun b=>decide (b = 0)
theorem index_spec {W:World} {R:HProp} {a:Option Addr} {n c:Nat} {l:List Int} {g:FuncId} (hg:Callable prog g) (hpr:∀ b:Int,Does prog W g ⟨[.int .u8 b]⟩ R (Ret fun v G=>v = .bool (!decide (b = 0)) ∧ G = R)) [ro:RowN W R a n 1 bytv l] (hl:l.length ≤ 16777216) :
  Does prog W f_z3f ⟨[.slice a n c,.func (.func g) #[] #[]]⟩ R (Ret fun v G=>∃ z:Int,(z ≥ 0 ↔ zerosB l = false) ∧ v = .int .i64 z ∧ G = R):=by
 have hn:=ro.len
 subst hn
 haveI r':=ro.row
 refine f_z3f.does _ _ ?_
 conv=>whnf
 skip
 refine LoopK.keep tab_ok (L:=f_z3f.live) (ι:=Nat) (fun i=>i ≤ l.length ∧ zerosB l = zerosB (l.drop i)) (fun i=>[(8,.int .i64 i)]) (fun i=>l.length - i) 0 (by simp) (fun t v h=>h) ?_
 rintro i ⟨hi,hz⟩
 conv=>whnf
 by_cases h1:i < l.length
 ·obtain ⟨b,hb⟩:∃ b,l[i]? = some b:=⟨_,List.getElem?_eq_getElem h1⟩
  have hdr:zerosB (l.drop i) = (decide (b = 0) && zerosB (l.drop (i + 1))):=by
   rw [drop_of hb];simp [zerosB]
  rw [hdr] at hz
  repeat' (first
   | (refine spl_dec (fun hd=>?_) (fun hd=>?_) <;> first|(exfalso;omega)|(conv=>whnf))
   | (refine IxS.r (xs:=l) (i:=i) rfl rfl h1 (fun ab off ha=>?_);cases ha;conv=>whnf)
   | (refine Ld.r0 hb rfl ?_;conv=>whnf))
  refine CallK.ret hg (hpr _) ?_
  rintro v G ⟨rfl,rfl⟩
  conv=>whnf
  repeat' (first
   | (refine spl_ndec (fun hd=>?_) (fun hd=>?_) <;> first|(exfalso;omega)|(conv=>whnf))
   | (refine Ar.i64 (by omega) ?_;conv=>whnf))
  ·refine ⟨_,_,rfl,Imp.refl _,i,?_,rfl,rfl⟩
   rw [hz,decide_eq_false (by assumption)]
   simp
  ·refine ⟨rfl,i + 1,⟨h1,?_⟩,fun t v h=>h,Imp.refl _,by omega⟩
   have hb0:b = 0:=by assumption
   rw [hz,hb0];simp
 ·rw [List.drop_eq_nil_of_le (by omega)] at hz
  repeat' (first
   | (refine spl_dec (fun hd=>?_) (fun hd=>?_) <;> first|(exfalso;omega)|(conv=>whnf)))
  refine ⟨_,_,rfl,Imp.refl _,-1,?_,rfl,rfl⟩
  rw [hz]
  simp [zerosB]
theorem contains_spec {W:World} {R:HProp} {a:Option Addr} {n c:Nat} {l:List Int} {g:FuncId} (hg:Callable prog g) (hpr:∀ b:Int,Does prog W g ⟨[.int .u8 b]⟩ R (Ret fun v G=>v = .bool (!decide (b = 0)) ∧ G = R)) [ro:RowN W R a n 1 bytv l] (hl:l.length ≤ 16777216) :
  Does prog W f_z39 ⟨[.slice a n c,.func (.func g) #[] #[]]⟩ R (Ret fun v G=>v = .bool (!zerosB l) ∧ G = R):=by
 refine f_z39.does _ _ ?_
 conv=>whnf
 repeat' (first
  | (refine CallK.ret f_z3f.ok (index_spec hg hpr hl) ?_;rintro v G ⟨z,hz,rfl,rfl⟩;conv=>whnf))
 refine Ret.eq (congrArg Value.bool ?_) (Imp.refl _)
 by_cases h:z ≥ 0
 ·rw [decide_eq_true h,hz.1 h];rfl
 ·rw [decide_eq_false h]
  cases hz0:zerosB l with
  | true=>rfl
  | false=>exact absurd (hz.2 hz0) h
theorem lblank1_spec {W:World} {R:HProp} {b:Int}:Does prog W f_z45 ⟨[.int .u8 b]⟩ R (Ret fun v G=>v = .bool (!decide (b = 0)) ∧ G = R):=by
 refine f_z45.does _ ?_
 conv=>whnf
 skip
 refine Ret.eq rfl ?_
 first|exact .refl _|exact .drop|exact .fin|((repeat refine .pick ?_);first|exact .refl _|exact .emp _|exact .fin)
theorem lblank_spec {W:World} {R:HProp} {a:Option Addr} {n c:Nat} {l:List Int} [ro:RowN W R a n 1 bytv l] (hl:l.length ≤ 16777216) :
  Does prog W f_z2z ⟨[.slice a n c]⟩ R (Ret fun v G=>v = .bool (zerosB l) ∧ G = R):=by
 refine f_z2z.does _ ?_
 conv=>whnf
 repeat' (first
  | (refine CallK.ret f_z39.ok (contains_spec f_z45.ok (fun b=>lblank1_spec) hl) ?_;rintro v G ⟨rfl,rfl⟩;conv=>whnf))
 refine Ret.eq ?_ (Imp.refl _)
 rw [Bool.not_not]
end Go.Proofs.YtbcedpankkdfoaaGreatDoor
/- A region that draws its order, with forks, and with a forced end. No condition. -/
namespace Go.SL
open Go
def PT.some (F:List Nat):PT → Bool
 | .nil=>false
 | .op i t=>!F.contains i || t.some F
 | .two i t j s=>(!F.contains i || t.some F) || (!F.contains j || s.some F)
def ptOkF (ops:List Oper) (F:List Nat):PT → Array Bool → Bool
 | .nil,listed=>(Region.ready .any ⟨ops⟩ listed).isEmpty
 | .op i t,listed=>match ops[i]? with
  | none=>false
  | some o=>(match quietOp o.op && !F.contains i with
    | true=>(Region.ready .any ⟨ops⟩ listed).contains i && Region.free .any ⟨ops⟩ listed i
    | false=>Region.ready .any ⟨ops⟩ listed == [i]) && (!F.contains i || !t.some F) && ptOkF ops F t (listed.setIfInBounds i true)
 | .two i t j s,listed=>Region.ready .any ⟨ops⟩ listed == [i,j] && !F.contains i && !F.contains j && ptOkF ops F t (listed.setIfInBounds i true) && ptOkF ops F s (listed.setIfInBounds j true)
def treeOkF (ops:List Oper) (F:List Nat) (t:PT):Bool:=Region.noSelect ⟨ops⟩ && Nat.ble t.size ops.length && lastOk ops F && ptOkF ops F t (Array.replicate ops.length false)
def execTreeF (P:Program) (W:World) (T:Tab) (N:Nat) (A:HProp) (all:List Oper) (F:List Nat):PT → Fr → List Deferred → HProp → ContK → PanK → Prop
 | .nil,fr,ds,H,K,_=>K fr ds H
 | .op i t,fr,ds,H,K,Kp=>match all[i]? with
  | some o=>guarded all o fr
    (fun fr=>match quietOp o.op && !F.contains i with
     | true=>opK P W T o.op o.type fr.eval A (fun v _=>putK N fr v (fun fr=>execTreeF P W T N A all F t fr ds H K Kp) o.dst) (fun _ _=>False)
       (OpQ P W o.op o.type fr.eval A fun v=>putK N fr v (fun fr=>execTreeF P W T N A all F t fr ds H K Kp) o.dst)
     | false=>op1 P W T N o fr ds H (fun fr ds H=>match F.contains i with
      | true=>execTreeF P W T N A all F t fr ds H K Kp
      | false=>Req (Sub W H A) (execTreeF P W T N A all F t fr ds H K Kp)) fun c _ ds H=>Kp c [] ds H)
    (fun fr=>putK N fr undef (fun fr=>execTreeF P W T N A all F t fr ds H K Kp) o.dst)
  | none=>False
 | .two i t j s,fr,ds,H,K,Kp=>match all[i]?,all[j]? with
  | some o,some p =>
   guarded all o fr (fun fr=>loudK P W T N A o fr ds H (fun fr ds H=>execTreeF P W T N A all F t fr ds H K Kp) Kp) (fun fr=>putK N fr undef (fun fr=>execTreeF P W T N A all F t fr ds H K Kp) o.dst) ∧
   guarded all p fr (fun fr=>loudK P W T N A p fr ds H (fun fr ds H=>execTreeF P W T N A all F s fr ds H K Kp) Kp) (fun fr=>putK N fr undef (fun fr=>execTreeF P W T N A all F s fr ds H K Kp) p.dst)
  | _,_=>False
section
variable {P:Program} {W:World} {T:Tab} {N:Nat} {A:HProp}
end
end Go.SL
/- Parts of blocks that are read while others turn; stores into folded chunks. No condition. -/
namespace Go.SL
open Go
section
variable {P:Program} {W:World} {H H' G R:HProp}
def cellsAre (l:List Value):List (Nat × Value) → Prop
 | []=>True
 | p :: r=>l[p.1]? = some p.2 ∧ cellsAre l r
def rdcs (b:Nat) (L:List (Nat × Value)):HProp:=fun h=>∃ (l:List Value) (t:TypeId) (fz:Nat × Nat),pts b (.cells ⟨l⟩ t fz) h ∧ cellsAre l L
class LkC (L:List (Nat × Value)) (k:Nat) (v:outParam Value):Prop where h:∀ l,cellsAre l L → l[k]? = some v
instance (priority:=90) LkC.there {p:Nat × Value} {L:List (Nat × Value)} {k:Nat} {v:Value} [i:LkC L k v]:LkC (p :: L) k v:=⟨fun l h=>i.h l h.2⟩
instance (priority:=100) LkC.here {L:List (Nat × Value)} {k:Nat} {v:Value}:LkC ((k,v) :: L) k v:=⟨fun _ h=>h.1⟩
theorem Rd.rdcs {b k:Nat} {L:List (Nat × Value)} {v:Value} [i:LkC L k v]:Rd W (rdcs b L•R) ⟨b,k,none⟩ v:=by
 intro w hs
 obtain ⟨h1,a,h2,x,y,hd,rfl,⟨l,t,fz,hp,hc⟩,hy⟩:=hs
 exact Rd.pts (R:=R) (i.h l hc) w ⟨h1,_,h2,x,y,hd,rfl,hp,hy⟩
instance (priority:=100) RdC.rdcs {b k:Nat} {L:List (Nat × Value)} {v:Value} [i:LkC L k v]:RdC W (rdcs b L•R) ⟨b,k,none⟩ v:=⟨Rd.rdcs⟩
theorem Imp.rdcs {b:Nat} {l:List Value} {t:TypeId} {fz:Nat × Nat} {L:List (Nat × Value)} [p:PtsC H b (.cells ⟨l⟩ t fz) R] (h:cellsAre l L) (k:Imp R G):Imp H (rdcs b L•G):=by
 rw [p.h.eq]
 refine Imp.star ?_ k
 intro x hx
 exact ⟨x,Heap.sub_refl _,l,t,fz,hx,h⟩
theorem St.conv {a:Addr} {vs:List Value} {K:HProp → Prop} (h:Imp H H') (st:St P W H' a vs (fun X=>Imp X G)) (k:K G):St P W H a vs K:=by
 refine ⟨fun w hs hone=>?_⟩
 obtain ⟨w',X,h1,h2,h3⟩:=st.run w (hs.imp h) hone
 exact ⟨w',G,h1,h2.imp h3,k⟩
theorem Req.conv {p:Prop} {a:Addr} {vs:List Value} {K:HProp → Prop} (h:Imp H H') (st:Req p (St P W H' a vs (fun X=>Imp X G))) (k:K G):Req p (St P W H a vs K):=⟨st.p,St.conv h st.k k⟩
theorem CallK.imp {f:FuncId} {args:List Value} {K:Value → HProp → Prop} {Kp:List PanicEntry → HProp → Prop} (h:Imp H H') (c:CallK P W f args H' K Kp):CallK P W f args H K Kp:=by
 refine ⟨c.go.imp (fun ⟨a,b⟩=>⟨a,⟨fun w hs=>b.run w (hs.imp h)⟩⟩) fun k w hs=>k w (hs.imp h)⟩
theorem KeepC.cut {α:Type} {t:TypeId} {sz:Nat} {enc:α → List Value} {cap:Nat} {xs:List α} (a:Option Addr) [c:VecC H a t sz enc cap xs R]:KeepC H R:=⟨by rw [c.h.eq];exact Imp.drop⟩
theorem Imp.vdrop {α:Type} {t:TypeId} {sz:Nat} {enc:α → List Value} {a:Option Addr} {cap:Nat} {xs:List α} [s:SizedC sz enc] [c:VecC H a t sz enc cap xs R] (m:Nat) (hm:m ≤ xs.length) (k:Imp R G):Imp H (SL.vec t sz enc (dropA a m cap sz) (cap - m) (xs.drop m)•G):=by
 rw [c.h.eq]
 refine Imp.star (Ent.imp ?_) k
 intro h hh
 cases a with
 | none =>
  obtain ⟨⟨h1,h2⟩,h3⟩:=hh
  subst h2
  have h0:m = 0:=by simpa using hm
  subst h0
  unfold dropA
  split
  ·exact ⟨⟨by omega,rfl⟩,h3⟩
  ·exact ⟨⟨by omega,rfl⟩,h3⟩
 | some x =>
  obtain ⟨b,off,sp⟩:=x
  obtain ⟨pre,junk,hh⟩:=hh
  obtain ⟨⟨h1,h2,h3,h4⟩,h5⟩:=pure_star.1 hh
  subst h1
  unfold dropA
  by_cases e:cap = m
  ·rw [if_pos e]
   have hxl:xs.length = m:=by omega
   refine ⟨pre,xs.flatMap enc ++ junk,pure_star.2 ⟨⟨rfl,h2,by simp [hxl],by simp [e]⟩,?_⟩⟩
   rw [List.drop_eq_nil_of_le (by omega),List.flatMap_nil,List.append_nil,← List.append_assoc]
   exact h5
  ·rw [if_neg e]
   simp only [Option.map_some,Addr.add_eq]
   refine ⟨pre ++ (xs.take m).flatMap enc,junk,pure_star.2 ⟨⟨rfl,?_,by rw [List.length_drop];omega,?_⟩,?_⟩⟩
   ·rw [List.length_append,h2,s.h.flat,List.length_take,Nat.min_eq_left hm]
   ·rw [List.length_drop,show cap - m - (xs.length - m) = cap - xs.length by omega];exact h4
   ·have:pre ++ (xs.take m).flatMap enc ++ (xs.drop m).flatMap enc ++ junk = pre ++ xs.flatMap enc ++ junk:=by
     rw [List.append_assoc pre,← List.flatMap_append,List.take_append_drop]
    rw [this];exact h5
class GetC {α:Type} (l:List α) (i:outParam Nat) (x:α):Prop where h:l[i]? = some x
end
end Go.SL
/- The log, in plain words; where it lies; the functions that only tell. Conditions: in each statement. -/
namespace Go.SL.Rec
open Go Go.SL Go.SL.Sec Go.SL.Fld Go.SL.Pts
open Go.SL.Und (RecV recv fits)
structure RecM where
 r:RecV
 L:List LiveV
 D:List DirtyV
def bare (r:RecV):RecV:={ r with lv:=(none,0,0),dt:=(none,0,0) }
structure RecX where
 m:RecM
 la:Option Addr
 lc:Nat
 da:Option Addr
 dc:Nat
def RecX.full (x:RecX):RecV:={ x.m.r with lv:=(x.la,x.m.L.length,x.lc),dt:=(x.da,x.m.D.length,x.dc) }
def recx (x:RecX):List Value:=recv x.full
instance:SizedC 17 recx:=⟨fun _=>rfl⟩
instance:OneC recx:=⟨fun ys v hv=>by
 obtain ⟨d,h1,hv⟩:=List.mem_flatMap.1 hv
 exact Und.rec_one [d.full] v (by rw [List.flatMap_cons,List.flatMap_nil,List.append_nil];exact hv)⟩
structure BytX where
 a:Option Addr
 c:Nat
 b:List Int
def bytx (x:BytX):List Value:=[.slice x.a x.b.length x.c]
instance:SizedC 1 bytx:=⟨fun _=>rfl⟩
instance {x:BytX}:LitL (bytx x) [.slice x.a x.b.length x.c]:=⟨rfl⟩
instance:OneC bytx:=⟨fun ys v hv=>by
 obtain ⟨d,_,hv⟩:=List.mem_flatMap.1 hv
 simp only [bytx,List.mem_cons,List.not_mem_nil,or_false] at hv
 subst hv;rfl⟩
structure LogM where
 first:Int
 count:Int
 recs:List RecM
 bys:List (List Int)
 forced:Nat
 err:Option (Int × Int)
structure LogX where
 d:Nat
 first:Int
 count:Int
 ra:Option Addr
 rc:Nat
 recs:List RecX
 ba:Option Addr
 bc:Nat
 bys:List BytX
 forced:Nat
 err:Option (Nat × Int × Int)
def LogX.val (X:LogX):LogM:=⟨X.first,X.count,X.recs.map (·.m),X.bys.map (·.b),X.forced,X.err.map (·.2)⟩
def LogM.get (M:LogM) (n:Int):Int × RecM :=
 if M.err.isSome then (40,⟨recZ,[],[]⟩) else if n < 1 ∨ n > M.recs.length then (4,⟨recZ,[],[]⟩) else (0,(M.recs[(n - 1).toNat]?).getD ⟨recZ,[],[]⟩)
structure LogX.Ok (X:LogX):Prop where
 cnt:0 ≤ X.count ∧ X.count ≤ 4096
 recs:∀ x ∈ X.recs,x.m.L.length ≤ 32 ∧ x.m.D.length ≤ 16 ∧ bare x.m.r = x.m.r
 len:(X.recs.length:Int) ≤ X.count
 bl:X.forced + X.bys.length = X.recs.length
 byt:∀ x ∈ X.bys,Byt x.b ∧ x.b.length ≤ 505
end Go.SL.Rec
namespace Go.Proofs.YtbcedpankkdfoaaGreatDoor
open Go Go.SL Go.SL.Sec Go.SL.Fld Go.SL.Pts Go.SL.Rec
open Go.SL.Und (RecV recv fits)
def recc (x:RecX):HProp:=vec t_z23 4 livev x.la x.lc x.m.L•vec t_z1l 2 dirtyv x.da x.dc x.m.D
def bytc (x:BytX):HProp:=vec t_uint8 1 bytv x.a x.c x.b
abbrev wForce:ByteArray:=⟨#[70,111,114,99,101]⟩
def fltc (b:Nat) (w:ByteArray) (at_ e:Int):HProp:=pts b (.cells ⟨[.string w,.int .i64 at_,.iface t_z1 (.int .i64 e)]⟩ t_api_Fault)
def errv:Option (Nat × Int × Int) → Value
 | none=>.nilIface
 | some (b,_,_)=>.iface t_z8 (ptr b)
def errc:Option (Nat × Int × Int) → HProp
 | none=>emp
 | some (b,z,e)=>fltc b wForce z e
def logo (l:Nat) (X:LogX):HProp :=
 pts l (.cells ⟨[ptr X.d,.int .i64 X.first,.int .i64 X.count,.slice X.ra X.recs.length X.rc,.slice X.ba X.bys.length X.bc,.int .i64 X.forced,errv X.err]⟩ t_log_Log) •
 vec t_z1m 17 recx X.ra X.rc X.recs•bigL recc X.recs•vec t_S_uint8 1 bytx X.ba X.bc X.bys•bigL bytc X.bys•errc X.err
theorem logo_eq (l:Nat) (X:LogX) (R:HProp):(logo l X•R) = (pts l (.cells ⟨[ptr X.d,.int .i64 X.first,.int .i64 X.count,.slice X.ra X.recs.length X.rc,.slice X.ba X.bys.length X.bc,.int .i64 X.forced,errv X.err]⟩ t_log_Log) •
 vec t_z1m 17 recx X.ra X.rc X.recs•bigL recc X.recs•vec t_S_uint8 1 bytx X.ba X.bc X.bys•bigL bytc X.bys•errc X.err•R):=by
 unfold logo;simp only [star_assoc]
section
variable {W:World} {R:HProp} {l:Nat} {X:LogX}
instance (priority:=100) RdC.logo {k:Nat} {v:Value} [LAt [ptr X.d,.int .i64 X.first,.int .i64 X.count,.slice X.ra X.recs.length X.rc,.slice X.ba X.bys.length X.bc,.int .i64 X.forced,errv X.err] k v]:RdC W (logo l X•R) ⟨l,k,none⟩ v:=by rw [logo_eq];infer_instance
instance (priority:=100) RowC.logr:RowC W (logo l X•R) X.ra 17 recx X.recs:=by rw [logo_eq];infer_instance
instance (priority:=100) RowC.logb:RowC W (logo l X•R) X.ba 1 bytx X.bys:=by rw [logo_eq];infer_instance
theorem RowC.logB {i:Nat} {x:BytX} (h:X.bys[i]? = some x):RowC W (logo l X•R) x.a 1 bytv x.b:=by
 rw [logo_eq,bigL_take bytc X.bys i x h]
 unfold bytc
 simp only [star_assoc]
 infer_instance
end
theorem forced_spec {W:World} {H R:HProp} {l:Nat} {X:LogX} [t:ObjC logo H l X R]:Does prog W f_z35 ⟨[ptr l]⟩ H (Ret fun v G=>v = .int .i64 X.forced ∧ G = (logo l X•R)):=by
 rw [t.h.eq]
 refine f_z35.does _ ?_
 conv=>whnf
 repeat' (first
  | (refine Ld.i ?_;conv=>whnf))
 refine Ret.eq rfl ?_
 first|exact .refl _|exact .drop|exact .fin|((repeat refine .pick ?_);first|exact .refl _|exact .emp _|exact .fin)
theorem last_spec {W:World} {H R:HProp} {l:Nat} {X:LogX} [t:ObjC logo H l X R]:Does prog W f_z1w ⟨[ptr l]⟩ H (Ret fun v G=>v = .int .i64 X.recs.length ∧ G = (logo l X•R)):=by
 rw [t.h.eq]
 refine f_z1w.does _ ?_
 conv=>whnf
 repeat' (first
  | (refine Ld.i ?_;conv=>whnf))
 refine Ret.eq rfl ?_
 first|exact .refl _|exact .drop|exact .fin|((repeat refine .pick ?_);first|exact .refl _|exact .emp _|exact .fin)
theorem free_spec {W:World} {H R:HProp} {l:Nat} {X:LogX} [t:ObjC logo H l X R] (hc:0 ≤ X.count ∧ X.count ≤ 1000000000) (hr:X.recs.length ≤ 1000000000):Does prog W f_z22 ⟨[ptr l]⟩ H (Ret fun v G=>v = .int .i64 (X.count - X.recs.length) ∧ G = (logo l X•R)):=by
 rw [t.h.eq]
 refine f_z22.does _ ?_
 conv=>whnf
 repeat' (first
  | ((first|refine Ld.i ?_|refine Ar.i64 (by omega) ?_);conv=>whnf)
  | (refine DrawK.introH tab_ok mixed 3 f_z22.last1 f_z22.plan1 _ rfl (by kernel_rfl) (Sub.of (by first|exact .refl _|exact .drop|exact .fin|((repeat refine .pick ?_);first|exact .refl _|exact .emp _|exact .fin))) ?_;conv=>whnf))
 refine Ret.eq rfl ?_
 first|exact .refl _|exact .drop|exact .fin|((repeat refine .pick ?_);first|exact .refl _|exact .emp _|exact .fin)
theorem own_spec {W:World} {R:HProp} {r:RecV} {L:List LiveV} {D:List DirtyV} [rl:RowN W R r.lv.1 r.lv.2.1 4 livev L] [rd:RowN W R r.dt.1 r.dt.2.1 2 dirtyv D] (hl:L.length ≤ 1000000000) (hd:D.length ≤ 1000000000) :
  Does prog W f_log_own ⟨[recA r]⟩ R (Ret fun v G=>∃ x:RecX,x.m = ⟨bare r,L,D⟩ ∧ v = recA x.full ∧ G = (recc x•R)):=by
 unfold recA
 refine f_log_own.does _ ?_
 conv=>whnf
 repeat' (first
  | (refine CallK.ret f_z3j.ok (cloneL_spec (l:=L) hl) ?_;rintro v G ⟨la,lc,hla,rfl,rfl⟩;conv=>whnf)
  | (refine CallK.ret f_z3k.ok (cloneD_spec (l:=D) hd) ?_;rintro v G ⟨da,dc,hda,rfl,rfl⟩;conv=>whnf)
  | ((first|refine Ld.i ?_|refine LdN.i ?_|refine St.i ⟨rfl,rfl⟩ (List.cons_ne_nil _ _) ?_);conv=>whnf)
  | (intro blk hblk;conv=>whnf))
 refine ⟨_,_,rfl,?_,⟨⟨bare r,L,D⟩,la,lc,da,dc⟩,rfl,rfl,rfl⟩
 unfold recc
 dsimp only
 simp only [star_assoc]
 first|exact .refl _|exact .drop|exact .fin|((repeat refine .pick ?_);first|exact .refl _|exact .emp _|exact .fin)
end Go.Proofs.YtbcedpankkdfoaaGreatDoor
/- The program's package log, walked: sectors, Append. Conditions: in each statement. -/
namespace Go.SL.Rec
open Go Go.SL Go.SL.Sec Go.SL.Fld Go.SL.Pts
open Go.SL.Und (RecV recv fits)
def laid3 (lsn:Int) (n:Int):List Int:=putB (putB ((List.replicate 512 (0:Int)).set 0 108) 1 4 lsn) 5 2 n
def laidB (lsn:Int) (b:List Int):List Int:=((laid3 lsn b.length).take 7 ++ b ++ (laid3 lsn b.length).drop (7 + b.length)).set 511 165
theorem laid3_len (lsn n:Int):(laid3 lsn n).length = 512:=by
 unfold laid3
 have h0:((List.replicate 512 (0:Int)).set 0 108).length = 512:=by rw [List.length_set,List.length_replicate]
 have h1:(putB ((List.replicate 512 (0:Int)).set 0 108) 1 4 lsn).length = 512:=by rw [putB_len (by omega),h0]
 rw [putB_len (by omega),h1]
theorem laidB_len {lsn:Int} {b:List Int} (h:b.length ≤ 505):(laidB lsn b).length = 512:=by
 unfold laidB
 have:=laid3_len lsn b.length
 rw [List.length_set,List.length_append,List.length_append,List.length_take,List.length_drop];omega
theorem Byt.set {l:List Int} {i:Nat} {x:Int} (h:Byt l) (hx:0 ≤ x ∧ x < 256):Byt (l.set i x):=fun y hy=>by
 rcases List.mem_or_eq_of_mem_set hy with hy|rfl
 ·exact h y hy
 ·exact hx
theorem laid3_byt (lsn n:Int):Byt (laid3 lsn n):=putB_byt (putB_byt (Byt.set (Byt.rep 512) (by decide)))
theorem laidB_byt {lsn:Int} {b:List Int} (h:Byt b):Byt (laidB lsn b):=Byt.set ((((laid3_byt _ _).take _).append h).append ((laid3_byt _ _).drop _)) (by decide)
def LogM.append (M:LogM) (r:RecV) (L:List LiveV) (D:List DirtyV):Int × Int × LogM :=
 let r':RecV:={ r with lsn:=(M.recs.length:Int) + 1 }
 if M.err.isSome then (0,40,M) else if chkF r' L D ≠ 0 then (0,chkF r' L D,M) else if M.count - M.recs.length = 0 then (0,6,M) else
 ((M.recs.length:Int) + 1,0,{ M with recs:=M.recs ++ [⟨bare r',L,D⟩],bys:=M.bys ++ [encR r' L D] })
end Go.SL.Rec
namespace Go.Proofs.YtbcedpankkdfoaaGreatDoor
open Go Go.SL Go.SL.Sec Go.SL.Fld Go.SL.Pts Go.SL.Rec
open Go.SL.Und (RecV recv fits)
theorem putN_spec {W:World} {H R:HProp} {t:TypeId} {a:Option Addr} {nn cap:Nat} {l:List Int} {z s n:Int} [c:VecC H a t 1 bytv cap l R] (hn:nn = l.length) (hs:1 ≤ s ∧ s ≤ 8) (hz:0 ≤ z ∧ z + s ≤ l.length) (hl:l.length ≤ 16777216) (h0:0 ≤ n) (h1:n < 256 ^ s.toNat) :
  Does prog W f_z2f ⟨[.slice a nn cap,.int .i64 z,.int .i64 s,.int .u64 n]⟩ H (Ret fun v G=>v = i0 ∧ G = (vec t 1 bytv a cap (putB l z.toNat s.toNat n)•R)):=by
 subst hn
 exact put_spec hs hz hl h0 h1
theorem number_spec {W:World} {R:HProp} {a:Option Addr} {nn cap:Nat} {l:List Int} {z s:Int} [ro:RowN W R a nn 1 bytv l] (hs:1 ≤ s ∧ s ≤ 4) (hz:0 ≤ z ∧ z + s ≤ l.length) (hl:l.length ≤ 16777216) (hb:Byt l) :
  Does prog W f_z2n ⟨[.slice a nn cap,.int .i64 z,.int .i64 s]⟩ R (Ret fun v G=>v = .int .i64 (getB l z.toNat s.toNat) ∧ G = R):=by
 have h1:=getB_bd hb z.toNat s.toNat
 have h2:(256:Int) ^ s.toNat ≤ 4294967296:=by
  have:s = 1 ∨ s = 2 ∨ s = 3 ∨ s = 4:=by omega
  rcases this with rfl|rfl|rfl|rfl <;> decide
 refine f_z2n.does _ _ _ ?_
 conv=>whnf
 repeat' (first
  | (refine Ar.i64 (by omega) ?_;conv=>whnf)
  | (refine CallK.ret f_zv.ok ((get_spec (l:=l) (by omega) hz hl hb)) ?_;rintro v G ⟨rfl,rfl⟩;conv=>whnf))
 refine Ret.eq rfl ?_
 first|exact .refl _|exact .drop|exact .fin|((repeat refine .pick ?_);first|exact .refl _|exact .emp _|exact .fin)
theorem laid_spec {W:World} {R:HProp} {a:Option Addr} {n c:Nat} {b:List Int} {lsn:Int} [ro:RowN W R a n 1 bytv b] (hl:b.length ≤ 505) (hlsn:0 ≤ lsn ∧ lsn ≤ 2147483647) :
  Does prog W f_log_laid ⟨[.int .i64 lsn,.slice a n c]⟩ R (Ret fun v G=>∃ a' c',v = .slice a' 512 c' ∧ G = (vec t_uint8 1 bytv a' c' (laidB lsn b)•R)):=by
 have hn:=ro.len
 subst hn
 haveI r':=ro.row
 refine f_log_laid.does _ _ ?_
 conv=>whnf
 repeat' (first
  | (refine OpX.make tab_ok bytv 0 rfl rfl rfl rfl rfl rfl (by omega) (fun s hs=>?_);conv=>whnf))
 obtain ⟨Z,hZ⟩:∃ Z,Z = (List.replicate 512 (0:Int)):=⟨_,rfl⟩
 have hZl:Z.length = 512:=by rw [hZ,List.length_replicate]
 obtain ⟨z0,hz0⟩:∃ z,Z[0]? = some z:=⟨_,List.getElem?_eq_getElem (by omega)⟩
 rw [show (Int.toNat 512) = 512 from rfl,← hZ]
 have hl0:(Z.set 0 108).length = 512:=by rw [List.length_set];exact hZl
 obtain ⟨Z1,hZ1⟩:∃ Z1,Z1 = putB (Z.set 0 108) 1 4 lsn:=⟨_,rfl⟩
 have hl1:Z1.length = 512:=by rw [hZ1,putB_len (by omega),hl0]
 obtain ⟨Z2,hZ2⟩:∃ Z2,Z2 = putB Z1 5 2 b.length:=⟨_,rfl⟩
 have hl2:Z2.length = 512:=by rw [hZ2,putB_len (by omega),hl1]
 have h3:Z2 = laid3 lsn b.length:=by rw [hZ2,hZ1,hZ];rfl
 obtain ⟨Z3,hZ3⟩:∃ Z3,Z3 = Z2.take 7 ++ b ++ Z2.drop (7 + b.length):=⟨_,rfl⟩
 have hl3:Z3.length = 512:=by rw [hZ3,List.length_append,List.length_append,List.length_take,List.length_drop];omega
 obtain ⟨z5,hz5⟩:∃ z,Z3[511]? = some z:=⟨_,List.getElem?_eq_getElem (by omega)⟩
 repeat' (first
  | (refine CallK.ret f_z2f.ok (putN_spec (l:=Z.set 0 108) (z:=1) (s:=4) (n:=lsn) hl0.symm (by omega) (by omega) (by omega) (by omega) (by show lsn < 4294967296;omega)) ?_;rw [show putB (Z.set 0 108) (Int.toNat 1) (Int.toNat 4) lsn = Z1 from hZ1.symm];rintro v G ⟨rfl,rfl⟩;conv=>whnf)
  | (refine CallK.ret f_z2f.ok (putN_spec (l:=Z1) (z:=5) (s:=2) (n:=(b.length:Int)) hl1.symm (by omega) (by omega) (by omega) (by omega) (by show (b.length:Int) < 65536;omega)) ?_;rw [show putB Z1 (Int.toNat 5) (Int.toNat 2) (b.length:Int) = Z2 from hZ2.symm];rintro v G ⟨rfl,rfl⟩;conv=>whnf)
  | (refine Ar.u64 (by omega) ?_;conv=>whnf)
  | (refine IxS.v (i:=0) (xs:=Z) rfl hZl.symm (by omega) (fun ab off ha=>?_);cases ha;conv=>whnf)
  | (refine St.v0 (i:=0) hz0 108 rfl (by decide) ⟨rfl,rfl⟩ ?_;conv=>whnf)
  | (refine OpX.of_quiet (OpQ.slr tab_ok 7 rfl rfl rfl rfl rfl (by omega) ?_);conv=>whnf)
  | (refine OpX.cpyW (xs:=Z2) (z:=7) (cap:=512) (a:=some ⟨s,0,none⟩) (ys:=b) tab_ok inferInstance rfl rfl rfl rfl rfl (by omega) (by omega) ?_;rw [← hZ3];conv=>whnf)
  | (refine IxS.v (i:=511) (xs:=Z3) rfl hl3.symm (by omega) (fun ab off ha=>?_);cases ha;conv=>whnf)
  | (refine St.v0 (i:=511) hz5 165 rfl (by decide) ⟨rfl,rfl⟩ ?_;conv=>whnf))
 refine ⟨_,_,rfl,?_,some ⟨s,0,none⟩,512,rfl,rfl⟩
 unfold laidB
 rw [← h3,← hZ3]
 exact Imp.refl _
theorem asked_ok {W:World} {R:HProp}:Does prog W f_zw ⟨[.int .i64 0]⟩ R (Ret fun v G=>v = .tuple ⟨[]⟩ ∧ G = R):=by
 refine f_zw.does _ ?_
 conv=>whnf
 skip
 refine Ret.eq rfl ?_
 first|exact .refl _|exact .drop|exact .fin|((repeat refine .pick ?_);first|exact .refl _|exact .emp _|exact .fin)
theorem asked_no {W:World} {R:HProp} {e:Int} (he:e ≠ 0):Does prog W f_zw ⟨[.int .i64 e]⟩ R (Thr fun c G=>c = pan (.iface t_log_refusal (.agg ⟨[.int .i64 0,.int .i64 e]⟩)) ∧ G = R):=by
 refine f_zw.does _ ?_
 conv=>whnf
 repeat' (first
  | (refine spl_ndec (fun hd=>?_) (fun hd=>?_) <;> first|(exfalso;omega)|(conv=>whnf)))
 exact Thr.eq rfl (Imp.refl _)
theorem append_down {W:World} {H R:HProp} {l:Nat} {X:LogX} {r:RecV} [t:ObjC logo H l X R] {b:Nat} {z e:Int} (he:X.err = some (b,z,e)) :
  Does prog W f_za ⟨[ptr l,recA r]⟩ H (Ret fun v G=>v = .tuple ⟨[i0,.int .i64 40]⟩ ∧ G = (logo l X•R)):=by
 rw [t.h.eq]
 rw [logo_eq,he]
 unfold errv errc recA
 refine f_za.does _ _ ?_
 conv=>whnf
 repeat' (first
  | (refine Ld.i ?_;conv=>whnf)
  | (intro blk hblk;conv=>whnf))
 refine Ret.eq rfl ?_
 first|exact .refl _|exact .drop|exact .fin|((repeat refine .pick ?_);first|exact .refl _|exact .emp _|exact .fin)
theorem chk_lens {r:RecV} {L:List LiveV} {D:List DirtyV} (h:chkF r L D = 0) (hl:r.lv.2.1 = L.length) (hd:r.dt.2.1 = D.length):L.length ≤ 32 ∧ D.length ≤ 16:=by
 unfold chkF at h
 split at h
 ·cases h
 ·split at h
  ·rename_i hk hF
   by_cases h8:r.kind = 8
   ·have:=cpF_in ((FieldsP.cp h8).1 hF).2.1
    exact ⟨this.1,this.2.1⟩
   ·have hb:r.lv.2.1 = 0 ∧ r.dt.2.1 = 0:=by
     unfold FieldsP BlankP at hF
     have h2:=hF.2
     clear hF h
     have key:∀ r':RecV,r'.lv = r.lv → r'.dt = r.dt → (r'.tx = 0 ∧ r'.prev = 0 ∧ (r'.wp = 0 ∧ r'.wi = 0) ∧ (r'.sp = 0 ∧ r'.si = 0) ∧ r'.delta = 0 ∧ (r'.id = 0 ∧ r'.grp = 0 ∧ r'.lo = 0 ∧ r'.hi = 0 ∧ r'.val = 0) ∧ r'.nxt = 0 ∧ r'.lv.2.1 = 0 ∧ r'.dt.2.1 = 0) → r.lv.2.1 = 0 ∧ r.dt.2.1 = 0:=fun r' h1 h2 h=>by
      obtain ⟨_,_,_,_,_,_,_,h3,h4⟩:=h
      rw [h1] at h3;rw [h2] at h4
      exact ⟨h3,h4⟩
     split at h2
     ·refine key _ ?_ ?_ h2.2.2.2.2 <;> rfl
     ·split at h2
      ·refine key _ ?_ ?_ h2.2.2.2.2 <;> rfl
      ·split at h2
       ·refine key _ ?_ ?_ h2.2.2 <;> rfl
       ·refine key _ ?_ ?_ h2.2 <;> rfl
    omega
  ·cases h
theorem append_no {W:World} {H R:HProp} {l:Nat} {X:LogX} {r:RecV} {L:List LiveV} {D:List DirtyV} [t:ObjC logo H l X R] [rl:RowN W R r.lv.1 r.lv.2.1 4 livev L] [rd:RowN W R r.dt.1 r.dt.2.1 2 dirtyv D] (hX:X.Ok) (he:X.err = none) {e:Int}
  (hc:chkF { r with lsn:=(X.recs.length:Int) + 1 } L D ≠ 0 ∧ e = chkF { r with lsn:=(X.recs.length:Int) + 1 } L D ∨ chkF { r with lsn:=(X.recs.length:Int) + 1 } L D = 0 ∧ X.count - X.recs.length = 0 ∧ e = 6) :
  Does prog W f_za ⟨[ptr l,recA r]⟩ H (Ret fun v G=>v = .tuple ⟨[i0,.int .i64 e]⟩ ∧ G = (logo l X•R)):=by
 rw [t.h.eq]
 have hev:errv X.err = .nilIface:=by rw [he];rfl
 have hlen:=hX.len
 have hcnt:=hX.cnt
 obtain ⟨C,hC⟩:∃ C,C = chkF { r with lsn:=(X.recs.length:Int) + 1 } L D:=⟨_,rfl⟩
 rw [← hC] at hc
 unfold recA
 refine f_za.does _ _ ?_
 conv=>whnf
 repeat' (first
  | (refine CallK.ret f_z2.ok (check_spec (r:={ r with lsn:=(X.recs.length:Int) + 1 }) (L:=L) (D:=D)) ?_;rw [← hC];rintro v G ⟨rfl,rfl⟩;conv=>whnf)
  | (refine CallK.ret f_z22.ok (free_spec (X:=X) (by omega) (by omega)) ?_;rintro v G ⟨rfl,rfl⟩;conv=>whnf)
  | (refine spl_dec (fun hd=>?_) (fun hd=>?_) <;> first|(exfalso;omega)|(conv=>whnf))
  | (refine spl_ndec (fun hd=>?_) (fun hd=>?_) <;> first|(exfalso;omega)|(conv=>whnf))
  | ((first|refine Ld.i ?_|refine LdN.i ?_|refine St.i ⟨rfl,rfl⟩ (List.cons_ne_nil _ _) ?_|refine Ar.i64 (by omega) ?_);conv=>whnf)
  | (intro blk hblk;conv=>whnf)
  | (rw [hev];conv=>whnf))
 ·rcases hc with ⟨h1,rfl⟩|⟨h1,_⟩
  ·refine Ret.eq rfl ?_
   first|exact .refl _|exact .drop|exact .fin|((repeat refine .pick ?_);first|exact .refl _|exact .emp _|exact .fin)
  ·exact absurd h1 (by assumption)
 ·rcases hc with ⟨h1,_⟩|⟨_,_,rfl⟩
  ·exact absurd (by assumption) h1
  ·refine Ret.eq rfl ?_
   first|exact .refl _|exact .drop|exact .fin|((repeat refine .pick ?_);first|exact .refl _|exact .emp _|exact .fin)
theorem append_yes {W:World} {H R:HProp} {l:Nat} {X:LogX} {r:RecV} {L:List LiveV} {D:List DirtyV} [t:ObjC logo H l X R] [rl:RowN W R r.lv.1 r.lv.2.1 4 livev L] [rd:RowN W R r.dt.1 r.dt.2.1 2 dirtyv D] (hX:X.Ok) (he:X.err = none) (hf:∀ o ∈ sgnO r.kind,fits (cellAt r o))
  (hc:chkF { r with lsn:=(X.recs.length:Int) + 1 } L D = 0) (hr:X.count - X.recs.length ≠ 0) :
  Does prog W f_za ⟨[ptr l,recA r]⟩ H (Ret fun v G=>∃ X':LogX,X'.d = X.d ∧ X'.val = { X.val with recs:=X.val.recs ++ [⟨bare { r with lsn:=(X.recs.length:Int) + 1 },L,D⟩],bys:=X.val.bys ++ [encR { r with lsn:=(X.recs.length:Int) + 1 } L D] } ∧ v = .tuple ⟨[.int .i64 ((X.recs.length:Int) + 1),i0]⟩ ∧ G = (logo l X'•R)):=by
 rw [t.h.eq]
 have hev:errv X.err = .nilIface:=by rw [he];rfl
 have hlen:=hX.len
 have hcnt:=hX.cnt
 have hbl:=hX.bl
 have hll:=chk_lens hc rl.len rd.len
 have hf':∀ o ∈ sgnO ({ r with lsn:=(X.recs.length:Int) + 1 }:RecV).kind,fits (cellAt { r with lsn:=(X.recs.length:Int) + 1 } o):=hf
 unfold recA
 refine f_za.does _ _ ?_
 conv=>whnf
 repeat' (first
  | (refine CallK.ret f_z2.ok (check_spec (r:={ r with lsn:=(X.recs.length:Int) + 1 }) (L:=L) (D:=D)) ?_;rw [hc];rintro v G ⟨rfl,rfl⟩;conv=>whnf)
  | (refine CallK.ret f_z22.ok (free_spec (X:=X) (by omega) (by omega)) ?_;rintro v G ⟨rfl,rfl⟩;conv=>whnf)
  | (refine CallK.ret f_z2a.ok (encode_yes (r:={ r with lsn:=(X.recs.length:Int) + 1 }) (L:=L) (D:=D) hc hf') ?_;rintro v G ⟨ea,ec,hec,rfl,rfl⟩;rw [logo_eq];conv=>whnf)
  | (refine CallK.ret f_log_own.ok (own_spec (r:={ r with lsn:=(X.recs.length:Int) + 1 }) (L:=L) (D:=D) (by omega) (by omega)) ?_;rintro v G ⟨y,hy,rfl,rfl⟩;conv=>whnf)
  | (refine DrawK.introK tab_ok mixed 37 f_za.last12 f_za.plan12 rfl (by kernel_rfl) ?_;conv=>whnf)
  | (refine spl_dec (fun hd=>?_) (fun hd=>?_) <;> first|(exfalso;omega)|(conv=>whnf))
  | ((first|refine Ld.i ?_|refine LdN.i ?_|refine St.i ⟨rfl,rfl⟩ (List.cons_ne_nil _ _) ?_|refine Ar.i64 (by omega) ?_);conv=>whnf)
  | (intro blk hblk;conv=>whnf)
  | (rw [hev];conv=>whnf)
  | (refine OpX.app1 (xs:=X.recs) tab_ok rfl rfl rfl rfl y rfl rfl (by omega) ⟨rfl,OneC.h⟩ (fun ra' rc'=>?_);conv=>whnf)
  | (refine OpX.app1 (xs:=X.bys) tab_ok rfl rfl rfl rfl (⟨ea,ec,encR { r with lsn:=(X.recs.length:Int) + 1 } L D⟩:BytX) rfl rfl (by omega) ⟨rfl,OneC.h⟩ (fun ba' bc'=>?_);conv=>whnf)
  | (refine Sub.on (by first|exact .refl _|exact .drop|exact .fin|((repeat refine .pick ?_);first|exact .refl _|exact .emp _|exact .fin)) ?_;conv=>whnf))
 obtain ⟨bx,hbx⟩:∃ bx:BytX,bx = ⟨ea,ec,encR { r with lsn:=(X.recs.length:Int) + 1 } L D⟩:=⟨_,rfl⟩
 have hb1:bytc bx = vec t_uint8 1 bytv ea ec (encR { r with lsn:=(X.recs.length:Int) + 1 } L D):=by rw [hbx];rfl
 rw [← hbx,← hb1]
 have l1:(X.recs ++ [y]).length = X.recs.length + 1:=by simp
 have l2:(X.bys ++ [bx]).length = X.bys.length + 1:=by simp
 refine ⟨_,_,rfl,?_,{ X with ra:=ra',rc:=rc',recs:=X.recs ++ [y],ba:=ba',bc:=bc',bys:=X.bys ++ [bx] },rfl,?_,rfl,rfl⟩
 ·rw [logo_eq]
  dsimp only
  rw [bigL_snoc,bigL_snoc,l1,l2,hev]
  simp only [star_assoc]
  first|exact .refl _|exact .drop|exact .fin|((repeat refine .pick ?_);first|exact .refl _|exact .emp _|exact .fin)
 ·simp [LogX.val,hy,hbx]
end Go.Proofs.YtbcedpankkdfoaaGreatDoor
