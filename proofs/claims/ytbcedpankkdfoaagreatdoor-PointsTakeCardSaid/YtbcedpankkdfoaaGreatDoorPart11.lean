/- The program's disk (package sectors), walked. Conditions: in each statement. -/
import Derived.Test.YtbcedpankkdfoaaGreatDoorPart8
import Derived.Test.YtbcedpankkdfoaaGreatDoorPart10
import Derived.Test.YtbcedpankkdfoaaGreatDoorPart5
set_option linter.unusedVariables false
set_option linter.unusedSimpArgs false
namespace Go.Proofs.YtbcedpankkdfoaaGreatDoor
open Go Go.SL Go.SL.Sec
structure PendX where
 sec:Int
 a:Option Addr
 cap:Nat
 b:List Int
def pendv (p:PendX):List Value:=[.int .i64 p.sec,.slice p.a p.b.length p.cap]
instance:SizedC 2 pendv:=⟨fun _=>rfl⟩
instance {p:PendX}:LitL (pendv p) [.int .i64 p.sec,.slice p.a p.b.length p.cap]:=⟨rfl⟩
theorem pend_one:∀ ys:List PendX,∀ v ∈ ys.flatMap pendv,v.oneCell' = true:=by
 intro ys v hv
 obtain ⟨d,_,hv⟩:=List.mem_flatMap.1 hv
 simp only [pendv,List.mem_cons,List.not_mem_nil,or_false] at hv
 rcases hv with rfl|rfl <;> rfl
def pendc (p:PendX):HProp:=vec t_uint8 1 bytv p.a p.cap p.b
structure DevX where
 ia:Option Addr
 ic:Nat
 img:List Int
 qa:Option Addr
 qc:Nat
 ps:List PendX
 step:Int
 ka:Option Addr
 kc:Nat
 keep:List Int
 torn:Int
 off:Int
 down:Bool
 calls:Int
def DevX.val (X:DevX):Dev:=⟨X.img,X.ps.map fun p=>(p.sec,p.b),X.step,X.keep,X.torn,X.off,X.down,X.calls⟩
def dev0 (d:Nat) (X:DevX):HProp :=
 pts d (.cells ⟨[.slice X.ia X.img.length X.ic,.slice X.qa X.ps.length X.qc,.int .i64 X.step,.slice X.ka X.keep.length X.kc,.int .i64 X.torn,.int .i64 X.off,.bool X.down,.int .i64 X.calls]⟩ t_z4c) •
 vec t_uint8 1 bytv X.ia X.ic X.img•vec t_z4b 2 pendv X.qa X.qc X.ps•bigL pendc X.ps
def devo (d:Nat) (X:DevX):HProp:=dev0 d X•vec t_uint64 1 u64s X.ka X.kc X.keep
theorem devo_eq (d:Nat) (X:DevX) (R:HProp):(devo d X•R) = (pts d (.cells ⟨[.slice X.ia X.img.length X.ic,.slice X.qa X.ps.length X.qc,.int .i64 X.step,.slice X.ka X.keep.length X.kc,.int .i64 X.torn,.int .i64 X.off,.bool X.down,.int .i64 X.calls]⟩ t_z4c) •
 vec t_uint8 1 bytv X.ia X.ic X.img•vec t_z4b 2 pendv X.qa X.qc X.ps•bigL pendc X.ps•vec t_uint64 1 u64s X.ka X.kc X.keep•R):=by
 unfold devo dev0;simp only [star_assoc]
abbrev ptr (b:Nat):Value:=.pointer (some ⟨b,0,none⟩)
abbrev i0:Value:=.int .i64 0
class DevC (H:HProp) (d:Nat) (X:outParam DevX) (R:outParam HProp):Prop where h:Take H (devo d X) R
instance (priority:=90) DevC.there {H R Y:HProp} {d:Nat} {X:DevX} [i:DevC H d X R]:DevC (Y•H) d X (Y•R):=⟨i.h.there⟩
instance (priority:=100) DevC.here {R:HProp} {d:Nat} {X:DevX}:DevC (devo d X•R) d X R:=⟨.here⟩
structure DevX.Ok (X:DevX):Prop where
 val:X.val.Ok
 ic:X.img.length ≤ X.ic
 caps:∀ p ∈ X.ps,p.b.length ≤ p.cap
theorem DevX.Ok.len {X:DevX} (h:X.Ok):X.img.length ≤ 4194304 ∧ 512 ≤ X.img.length:=⟨h.val.pos.2,h.val.pos.1⟩
theorem DevX.Ok.stp {X:DevX} (h:X.Ok):0 ≤ X.step ∧ X.step ≤ 9223372036854775807:=h.val.step
theorem down_spec {W:World} {H R:HProp} {d:Nat} {X:DevX} [t:DevC H d X R]:Does prog W f_z2o ⟨[ptr d]⟩ H (Ret fun v G=>v = .bool X.down ∧ G = (devo d X•R)):=by
 rw [t.h.eq]
 rw [devo_eq]
 refine f_z2o.does _ ?_
 conv=>whnf
 repeat' (first
  | (refine Ld.i ?_;conv=>whnf))
 refine Ret.eq rfl ?_
 first|exact .refl _|exact .drop|exact .fin|((repeat refine .pick ?_);first|exact .refl _|exact .emp _|exact .fin)
theorem sectors_spec {W:World} {H R:HProp} {d:Nat} {X:DevX} [t:DevC H d X R] (hX:X.Ok):Does prog W f_z1h ⟨[ptr d]⟩ H (Ret fun v G=>v = .int .i64 X.val.secs ∧ G = (devo d X•R)):=by
 rw [t.h.eq]
 rw [devo_eq]
 have hl:=hX.len
 refine f_z1h.does _ ?_
 conv=>whnf
 repeat' (first
  | ((first|refine Ld.i ?_|refine Ar.i64d (by omega) (by omega) ?_|refine Req.mk (by omega) ?_);conv=>whnf))
 refine Ret.eq rfl ?_
 first|exact .refl _|exact .drop|exact .fin|((repeat refine .pick ?_);first|exact .refl _|exact .emp _|exact .fin)
theorem crashes_spec {W:World} {H R:HProp} {d:Nat} {X:DevX} [t:DevC H d X R] (hX:X.Ok) :
  Does prog W f_z3h ⟨[ptr d]⟩ H (Ret fun v G=>v = .bool (decide (X.step = 1)) ∧ G = (devo d { X with calls:=wr (X.calls + 1),step:=if X.step = 0 then 0 else X.step - 1 }•R)):=by
 rw [t.h.eq]
 rw [devo_eq,devo_eq]
 have hs:=hX.stp
 refine f_z3h.does _ ?_
 conv=>whnf
 repeat' (first
  | (refine spl_dec (fun hd=>?_) (fun hd=>?_) <;> first|(exfalso;omega)|(conv=>whnf))
  | ((first|refine Ld.i ?_|refine St.i ⟨rfl,rfl⟩ (List.cons_ne_nil _ _) ?_|refine Ar.i64 (by omega) ?_|refine Ar.i64w ?_);conv=>whnf))
 ·refine Ret.eq (by rw [hd];rfl) ?_
  rw [if_pos hd,hd]
  first|exact .refl _|exact .drop|exact .fin|((repeat refine .pick ?_);first|exact .refl _|exact .emp _|exact .fin)
 ·refine Ret.eq ?_ ?_
  ·congr 1
   exact decide_eq_decide.2 (by omega)
  ·rw [if_neg hd]
   first|exact .refl _|exact .drop|exact .fin|((repeat refine .pick ?_);first|exact .refl _|exact .emp _|exact .fin)
theorem sector_spec {W:World} {H R:HProp} {d:Nat} {a:Option Addr} {n c:Nat} {v1 v2 v3 v4 v5 v6 v7:Value} {fz:Nat × Nat} {i:Int} [p:PtsC H d (.cells ⟨[.slice a n c,v1,v2,v3,v4,v5,v6,v7]⟩ t_z4c fz) R] (hi:0 ≤ i ∧ i.toNat * 512 + 512 ≤ n) (hb:n ≤ 4194304) (hc:n ≤ c) :
  Does prog W f_z2m ⟨[ptr d,.int .i64 i]⟩ H (Ret fun v G=>v = .slice (dropA a (i.toNat * 512) c 1) 512 (c - i.toNat * 512) ∧ G = H):=by
 rw [p.h.eq]
 refine f_z2m.does _ _ ?_
 conv=>whnf
 repeat' (first
  | ((first|refine Ld.i ?_|refine Ar.i64 (by omega) ?_|refine OpX.slx tab_ok (i.toNat * 512) 512 rfl rfl rfl rfl rfl (by omega) (by omega) (by omega) ?_);conv=>whnf))
 refine Ret.eq rfl ?_
 first|exact .refl _|exact .drop|exact .fin|((repeat refine .pick ?_);first|exact .refl _|exact .emp _|exact .fin)
theorem Does.nil {α:Type} {sz:Nat} {enc:α → List Value} {W:World} {f:FuncId} {args:Array Value} {H:HProp} {Q:Ending → HProp → Prop} {l:List α} (c:RowC W H none sz enc l) (h:l = [] → Does prog W f args H Q):Does prog W f args H Q:=by
 refine Does.have (fun w hs=>?_) h
 cases l with
 | nil=>rfl
 | cons x l=>obtain ⟨b,off,e,_⟩:=c.h w hs 0 x rfl;cases e
theorem clone0_spec {W:World} {R:HProp} {a:Option Addr} {n cap:Nat} {l:List Int} [c:RowN W R a n 1 bytv l] (hb:l.length ≤ 16777216) :
  Does prog W f_z20 ⟨[.slice a n cap]⟩ R (Ret fun v G=>∃ a' cap',v = .slice a' l.length cap' ∧ G = (vec t_uint8 1 bytv a' cap' l•R)):=by
 have hn:=c.len
 subst hn
 haveI c':=c.row
 cases a with
 | none =>
  refine Does.nil c' fun hl=>?_
  subst hl
  refine f_z20.does _ ?_
  conv=>whnf
  skip
  refine ⟨_,_,rfl,?_,none,0,rfl,rfl⟩
  refine Imp.vnil ?_
  first|exact .refl _|exact .drop|exact .fin|((repeat refine .pick ?_);first|exact .refl _|exact .emp _|exact .fin)
 | some x =>
  refine f_z20.does _ ?_
  conv=>whnf
  repeat' (first
   | (intro blk hblk;conv=>whnf)
   | (refine OpX.appE (ys:=l) tab_ok rfl rfl rfl rfl rfl rfl (by omega) (fun a' c'=>?_);conv=>whnf))
  refine ⟨_,_,rfl,?_,a',c',rfl,rfl⟩
  first|exact .refl _|exact .drop|exact .fin|((repeat refine .pick ?_);first|exact .refl _|exact .emp _|exact .fin)
theorem clone_spec {W:World} {R:HProp} {a:Option Addr} {n cap:Nat} {l:List Int} [c:RowN W R a n 1 bytv l] (hb:l.length ≤ 16777216) :
  Does prog W f_z20 ⟨[.slice a n cap]⟩ R (Ret fun v G=>∃ a' cap',l.length ≤ cap' ∧ v = .slice a' l.length cap' ∧ G = (vec t_uint8 1 bytv a' cap' l•R)):=Does.vlen (clone0_spec hb)
instance (priority:=100) RowC.pend {W:World} {R:HProp} {l:List PendX} {p:PendX} [m:MemC l p]:RowC W (bigL pendc l•R) p.a 1 bytv p.b:=by
 obtain ⟨R',e⟩:=bigL_mem pendc m.h
 rw [e,star_assoc]
 exact RowC.here
theorem kept_spec {W:World} {R:HProp} {a:Option Addr} {n c:Nat} {keep:List Int} {torn off:Int} {k:Nat} [ro:RowN W R a n 1 u64s keep] (hk:k ≤ 9223372036854775807) :
  Does prog W f_z2w ⟨[.agg ⟨[.slice a n c,.int .i64 torn,.int .i64 off]⟩,.int .i64 k]⟩ R (Ret fun v G=>v = .bool (keptB keep k) ∧ G = R):=by
 have hn:=ro.len
 subst hn
 haveI r':=ro.row
 refine f_z2w.does _ _ ?_
 conv=>whnf
 have hd2:((k:Int) / 64) = ((k / 64:Nat):Int):=by omega
 have hm2:((k:Int).tmod 64) = ((k % 64:Nat):Int):=by rw [Int.tmod_eq_emod_of_nonneg (by omega)];omega
 have hb2:k % 64 ≤ IntKind.u64.bits:=Nat.le_of_lt (Nat.mod_lt _ (by decide))
 by_cases h:k / 64 < keep.length
 ·obtain ⟨x,hx⟩:∃ x,keep[k / 64]? = some x:=⟨_,List.getElem?_eq_getElem h⟩
  have e:keptB keep k = decide (x / 2 ^ (k % 64) % 2 = 1):=by unfold keptB;rw [hx]
  rw [e]
  repeat' (first
   | (refine spl_dec (fun hd=>?_) (fun hd=>?_) <;> first|(exfalso;omega)|(conv=>whnf))
   | ((first|refine Ld.i ?_|refine Ar.i64d (by omega) (by omega) ?_|refine Req.mk (by omega) ?_);conv=>whnf)
   | (intro blk hblk;conv=>whnf)
   | (refine IxS.r (i:=k / 64) hd2 rfl h (fun ab off' ha=>?_);cases ha;conv=>whnf)
   | (refine Ld.r0 hx rfl ?_;conv=>whnf))
  refine Shr.v (k % 64) hm2 hb2 ?_
  repeat' (first
   | (refine Bt.low 1 (c:=2) (by decide) (by decide) (by decide) ?_;conv=>whnf))
  refine Ret.eq rfl ?_
  first|exact .refl _|exact .drop|exact .fin|((repeat refine .pick ?_);first|exact .refl _|exact .emp _|exact .fin)
 ·have e:keptB keep k = false:=by unfold keptB;rw [List.getElem?_eq_none (by omega)]
  rw [e]
  repeat' (first
   | (refine spl_dec (fun hd=>?_) (fun hd=>?_) <;> first|(exfalso;omega)|(conv=>whnf))
   | ((first|refine Ld.i ?_|refine Ar.i64d (by omega) (by omega) ?_|refine Req.mk (by omega) ?_);conv=>whnf)
   | (intro blk hblk;conv=>whnf))
  refine Ret.eq rfl ?_
  first|exact .refl _|exact .drop|exact .fin|((repeat refine .pick ?_);first|exact .refl _|exact .emp _|exact .fin)
def DevX.fell (X:DevX) (keep:List Int) (torn off:Int):DevX:={ X with img:=fallG keep torn off 0 X.val.q X.img,qa:=none,qc:=0,ps:=[],step:=0,ka:=none,kc:=0,keep:=[],torn:=0,off:=0,down:=true }
theorem fall_spec {W:World} {R:HProp} {d:Nat} {X:DevX} {a:Option Addr} {n c:Nat} {keep:List Int} {torn off:Int} (hX:X.Ok) (hq:X.ps.length ≤ 1000000) (ro:RowN W R a n 1 u64s keep) :
  Does prog W f_zj ⟨[ptr d,.agg ⟨[.slice a n c,.int .i64 torn,.int .i64 off]⟩]⟩ (dev0 d X•R) (Ret fun v G=>v = .int .i64 40 ∧ G = (devo d (X.fell keep torn off)•R)):=by
 have hn:=ro.len
 subst hn
 haveI r':=ro.row
 have hl:=hX.len
 have hic:=hX.ic
 have hqv:=hX.val.q
 have hcp:=hX.caps
 rw [devo_eq]
 unfold dev0
 simp only [star_assoc]
 obtain ⟨ia,ic,img,qa,qc,ps,step,ka,kc,kp,tn,of,dn,cl⟩:=X
 obtain ⟨Q,hQ⟩:∃ Q,Q = ps.map fun p=>(p.sec,p.b):=⟨_,rfl⟩
 simp only [DevX.val,DevX.fell,← hQ] at hl hic hqv hq hcp ⊢
 refine f_zj.does _ _ ?_
 conv=>whnf
 repeat' (first
  | (refine Ld.i ?_;conv=>whnf)
  | (intro blk hblk;conv=>whnf))
 refine LoopK.at tab_ok (L:=f_zj.live) (ι:=Nat × List Int) (fun i=>i.1 ≤ ps.length ∧ i.2.length = img.length ∧ fallG keep torn off i.1 (Q.drop i.1) i.2 = fallG keep torn off 0 Q img)
  (fun i=>[(12,.int .i64 i.1)]) (fun i=>vec t_uint8 1 bytv ia ic i.2) (fun i=>ps.length - i.1) (0,img) ⟨by simp,rfl,by simp⟩ (fun t v h=>h) (Imp.pick (Imp.refl _)) ?_
 rintro ⟨i,m⟩ ⟨hi,hm,hf⟩
 dsimp only at hi hm hf ⊢
 have hQl:Q.length = ps.length:=by rw [hQ];simp
 conv=>whnf
 by_cases h1:i < ps.length
 ·obtain ⟨p,hp⟩:∃ p,ps[i]? = some p:=⟨_,List.getElem?_eq_getElem h1⟩
  have hpq:Q[i]? = some (p.sec,p.b):=by rw [hQ];simp [hp]
  obtain ⟨q1,q2,q3,q4⟩:=hqv _ (List.mem_of_getElem? hpq)
  dsimp only at q1 q2 q3 q4
  rw [drop_of hpq,fallG] at hf
  haveI mp:MemC ps p:=⟨List.mem_of_getElem? hp⟩
  by_cases k1:keptB keep i = true
  ·rw [if_pos k1] at hf
   repeat' (first
    | (refine spl_t k1 ?_;conv=>whnf)
    | (refine spl_dec (fun hd=>?_) (fun hd=>?_) <;> first|(exfalso;omega)|(conv=>whnf))
    | ((first|refine Ld.i ?_|refine LdN.i ?_|refine St.i ⟨rfl,rfl⟩ (List.cons_ne_nil _ _) ?_|refine Ar.i64 (by omega) ?_);conv=>whnf)
    | (intro blk hblk;conv=>whnf)
    | (refine IxS.r (i:=i) (xs:=ps) rfl rfl h1 (fun ab off' ha=>?_);subst ha;conv=>whnf)
    | ((first|refine LdN.r hp rfl ?_|refine OpX.cpyW (ys:=p.b) tab_ok inferInstance rfl rfl rfl rfl rfl (by omega) (by omega) ?_);conv=>whnf)
    | (refine Sub.on (by first|exact .refl _|exact .drop|exact .fin|((repeat refine .pick ?_);first|exact .refl _|exact .emp _|exact .fin)) ?_;conv=>whnf)
    | (refine CallK.ret f_z2w.ok (kept_spec (by first|rfl|assumption|omega|decide|(simp;done)|(simp;omega)|(simp at *;omega))) ?_;rintro v G ⟨rfl,rfl⟩;conv=>whnf)
    | (refine DrawK.introH tab_ok mixed 21 f_zj.last5 f_zj.plan5 _ rfl (by kernel_rfl) (Sub.of (by first|exact .refl _|exact .drop|exact .fin|((repeat refine .pick ?_);first|exact .refl _|exact .emp _|exact .fin))) ?_;conv=>whnf)
    | (refine CallK.ret f_z2m.ok (sector_spec (by first|rfl|assumption|omega|decide|(simp;done)|(simp;omega)|(simp at *;omega)) (by first|rfl|assumption|omega|decide|(simp;done)|(simp;omega)|(simp at *;omega)) (by first|rfl|assumption|omega|decide|(simp;done)|(simp;omega)|(simp at *;omega))) ?_;rintro v G ⟨rfl,rfl⟩;conv=>whnf))
   refine ⟨rfl,(i + 1,layAt m p.sec p.b),⟨h1,?_,hf⟩,fun t v h=>h,?_,by dsimp only;omega⟩
   ·rw [layAt_len (by omega)];exact hm
   ·dsimp only
    unfold layAt
    first|exact .refl _|exact .drop|exact .fin|((repeat refine .pick ?_);first|exact .refl _|exact .emp _|exact .fin)
  ·have k2:keptB keep i = false:=by simpa using k1
   rw [if_neg k1] at hf
   by_cases k3:(i:Int) = torn
   ·rw [if_pos k3] at hf
    have hz:(min (max off 0) 512).toNat ≤ 512:=by omega
    have hz2:(p.b.take (min (max off 0) 512).toNat).length = (min (max off 0) 512).toNat:=by simp;omega
    repeat' (first
     | (refine spl_f k2 ?_;conv=>whnf)
     | (refine spl_dec (fun hd=>?_) (fun hd=>?_) <;> first|(exfalso;omega)|(conv=>whnf))
     | ((first|refine Ld.i ?_|refine LdN.i ?_|refine St.i ⟨rfl,rfl⟩ (List.cons_ne_nil _ _) ?_|refine Ar.i64 (by omega) ?_);conv=>whnf)
     | (intro blk hblk;conv=>whnf)
     | (refine IxS.r (i:=i) (xs:=ps) rfl rfl h1 (fun ab off' ha=>?_);subst ha;conv=>whnf)
     | ((first|refine LdN.r hp rfl ?_|refine OpQ.maxB rfl rfl ?_|refine OpQ.minB rfl rfl ?_);conv=>whnf)
     | (refine OpQ.slh tab_ok rfl rfl rfl rfl ⟨by omega,by have:=hcp p (List.mem_of_getElem? hp);omega⟩ ?_;conv=>whnf)
     | (refine OpX.cpyW (ys:=p.b.take (min (max off 0) 512).toNat) tab_ok (RowC.take _ inferInstance) rfl rfl rfl rfl hz2.symm (by omega) (by omega) ?_;conv=>whnf)
     | (refine Sub.on (by first|exact .refl _|exact .drop|exact .fin|((repeat refine .pick ?_);first|exact .refl _|exact .emp _|exact .fin)) ?_;conv=>whnf)
     | (refine CallK.ret f_z2w.ok (kept_spec (by first|rfl|assumption|omega|decide|(simp;done)|(simp;omega)|(simp at *;omega))) ?_;rintro v G ⟨rfl,rfl⟩;conv=>whnf)
     | (refine CallK.ret f_z2m.ok (sector_spec (by first|rfl|assumption|omega|decide|(simp;done)|(simp;omega)|(simp at *;omega)) (by first|rfl|assumption|omega|decide|(simp;done)|(simp;omega)|(simp at *;omega)) (by first|rfl|assumption|omega|decide|(simp;done)|(simp;omega)|(simp at *;omega))) ?_;rintro v G ⟨rfl,rfl⟩;conv=>whnf)
     | (refine DrawK.introH tab_ok mixed 33 f_zj.last7 f_zj.plan7 _ rfl (by kernel_rfl) (Sub.of (by first|exact .refl _|exact .drop|exact .fin|((repeat refine .pick ?_);first|exact .refl _|exact .emp _|exact .fin))) ?_;conv=>whnf))
    refine ⟨rfl,(i + 1,layAt m p.sec (p.b.take (min (max off 0) 512).toNat)),⟨h1,?_,hf⟩,fun t v h=>h,?_,by dsimp only;omega⟩
    ·rw [layAt_len (by omega)];exact hm
    ·dsimp only
     unfold layAt
     first|exact .refl _|exact .drop|exact .fin|((repeat refine .pick ?_);first|exact .refl _|exact .emp _|exact .fin)
   ·rw [if_neg k3] at hf
    repeat' (first
     | (refine spl_f k2 ?_;conv=>whnf)
     | (refine spl_dec (fun hd=>?_) (fun hd=>?_) <;> first|(exfalso;omega)|(conv=>whnf))
     | ((first|refine Ld.i ?_|refine LdN.i ?_|refine St.i ⟨rfl,rfl⟩ (List.cons_ne_nil _ _) ?_|refine Ar.i64 (by omega) ?_);conv=>whnf)
     | (intro blk hblk;conv=>whnf)
     | (refine IxS.r (i:=i) (xs:=ps) rfl rfl h1 (fun ab off' ha=>?_);subst ha;conv=>whnf)
     | (refine LdN.r hp rfl ?_;conv=>whnf)
     | (refine CallK.ret f_z2w.ok (kept_spec (by first|rfl|assumption|omega|decide|(simp;done)|(simp;omega)|(simp at *;omega))) ?_;rintro v G ⟨rfl,rfl⟩;conv=>whnf))
    refine ⟨rfl,(i + 1,m),⟨h1,hm,hf⟩,fun t v h=>h,?_,by dsimp only;omega⟩
    first|exact .refl _|exact .drop|exact .fin|((repeat refine .pick ?_);first|exact .refl _|exact .emp _|exact .fin)
 ·have hdr:Q.drop i = []:=List.drop_eq_nil_of_le (by omega)
  rw [hdr,fallG] at hf
  subst hf
  repeat' (first
   | (refine spl_dec (fun hd=>?_) (fun hd=>?_) <;> first|(exfalso;omega)|(conv=>whnf))
   | (refine St.i ⟨rfl,rfl⟩ (List.cons_ne_nil _ _) ?_;conv=>whnf))
  refine Ret.eq rfl ?_
  rw [← hm]
  refine Imp.pick ?_
  refine Imp.pick ?_
  refine Imp.vnil ?_
  refine Imp.empi ?_
  refine Imp.vnil ?_
  first|exact .refl _|exact .drop|exact .fin|((repeat refine .pick ?_);first|exact .refl _|exact .emp _|exact .fin)
end Go.Proofs.YtbcedpankkdfoaaGreatDoor
/- The program's package field, walked. Conditions: in each statement. -/
namespace Go.Proofs.YtbcedpankkdfoaaGreatDoor
open Go Go.SL Go.SL.Sec Go.SL.Fld
theorem place_true {W:World} {R:HProp} {h a s:Int} (hs:1 ≤ s ∧ s ≤ 8) (ha:0 ≤ a) (hh:a + s ≤ h) (hb:h ≤ 9223372036854775807) :
  Does prog W f_z3c ⟨[.int .i64 h,.int .i64 a,.int .i64 s]⟩ R (Ret fun v G=>v = .bool true ∧ G = R):=by
 refine f_z3c.does _ _ _ ?_
 conv=>whnf
 repeat' (first
  | (refine spl_dec (fun hd=>?_) (fun hd=>?_) <;> first|(exfalso;omega)|(conv=>whnf))
  | (refine Ar.i64 (by omega) ?_;conv=>whnf))
 all_goals first|(refine Ret.eq (by simp;omega) ?_;exact Imp.refl _)|(exfalso;omega)
theorem put_spec {W:World} {H R:HProp} {t:TypeId} {a:Option Addr} {cap:Nat} {l:List Int} {z s n:Int} [c:VecC H a t 1 bytv cap l R] (hs:1 ≤ s ∧ s ≤ 8) (hz:0 ≤ z ∧ z + s ≤ l.length) (hl:l.length ≤ 16777216) (h0:0 ≤ n) (h1:n < 256 ^ s.toNat) :
  Does prog W f_z2f ⟨[.slice a l.length cap,.int .i64 z,.int .i64 s,.int .u64 n]⟩ H (Ret fun v G=>v = i0 ∧ G = (vec t 1 bytv a cap (putB l z.toNat s.toNat n)•R)):=by
 rw [c.h.eq]
 obtain ⟨zn,rfl⟩:=Int.eq_ofNat_of_zero_le hz.1
 obtain ⟨sn,rfl⟩:=Int.eq_ofNat_of_zero_le (show 0 ≤ s by omega)
 simp only [Int.toNat_natCast] at *
 refine f_z2f.does _ _ _ _ ?_
 conv=>whnf
 repeat' (first
  | (refine spl_dec (fun hd=>?_) (fun hd=>?_) <;> first|(exfalso;omega)|(conv=>whnf))
  | (refine spl_ndec (fun hd=>?_) (fun hd=>?_) <;> first|(exfalso;omega)|(conv=>whnf))
  | (refine Ar.i64 (by omega) ?_;conv=>whnf)
  | (refine CallK.ret f_z3c.ok ((place_true (by omega) (by omega) (by omega) (by omega))) ?_;rintro v G ⟨rfl,rfl⟩;conv=>whnf)
  | (refine Shr.v (8 * sn) (by omega) (by simp [IntKind.bits];omega) ?_;conv=>whnf))
 ·exfalso
  rw [p256] at hd
  exact hd (Int.ediv_eq_zero_of_lt h0 h1)
 all_goals
  refine LoopK.at tab_ok (L:=f_z2f.live) (ι:=Nat) (fun k=>k ≤ sn) (fun k=>[(26,.int .i64 k)]) (fun k=>vec t 1 bytv a cap (putB l zn k n)) (fun k=>sn - k) 0 (by simp) (fun t v h=>h) (by rw [putB_zero];exact Imp.refl _) ?_
  rintro k hk
  conv=>whnf
  have hlen:(putB l zn k n).length = l.length:=putB_len (by omega)
  by_cases h2:k < sn
  ·have hzk:zn + k < l.length:=by omega
   repeat' (first
    | (refine Shr.v (8 * k) (by omega) (by simp [IntKind.bits];omega) ?_;rw [p256];conv=>whnf)
    | (refine spl_dec (fun hd=>?_) (fun hd=>?_) <;> first|(exfalso;omega)|(conv=>whnf))
    | (refine Ar.i64 (by omega) ?_;conv=>whnf)
    | (refine IxS.v (i:=zn + k) (xs:=putB l zn k n) (by omega) hlen.symm (by omega) (fun ab off' ha=>?_);subst ha;conv=>whnf)
    | ((first|refine Ar.u8w ?_|refine St.v0 (putB_get hzk) (n / 256 ^ k % 256) rfl (Nat.le_refl _) ⟨rfl,rfl⟩ ?_);conv=>whnf))
   rw [putB_succ hzk]
   exact ⟨rfl,k + 1,by omega,fun t v h=>h,Imp.refl _,by omega⟩
  ·have:k = sn:=by omega
   subst this
   repeat' (first
    | (refine spl_dec (fun hd=>?_) (fun hd=>?_) <;> first|(exfalso;omega)|(conv=>whnf)))
   refine Ret.eq rfl ?_
   first|exact .refl _|exact .drop|exact .fin|((repeat refine .pick ?_);first|exact .refl _|exact .emp _|exact .fin)
theorem get_spec {W:World} {R:HProp} {a:Option Addr} {nn cap:Nat} {l:List Int} {z s:Int} [ro:RowN W R a nn 1 bytv l] (hs:1 ≤ s ∧ s ≤ 8) (hz:0 ≤ z ∧ z + s ≤ l.length) (hl:l.length ≤ 16777216) (hb:Byt l) :
  Does prog W f_zv ⟨[.slice a nn cap,.int .i64 z,.int .i64 s]⟩ R (Ret fun v G=>v = .tuple ⟨[.int .u64 (getB l z.toNat s.toNat),i0]⟩ ∧ G = R):=by
 have hn:=ro.len
 subst hn
 haveI r':=ro.row
 obtain ⟨zn,rfl⟩:=Int.eq_ofNat_of_zero_le hz.1
 obtain ⟨sn,rfl⟩:=Int.eq_ofNat_of_zero_le (show 0 ≤ s by omega)
 simp only [Int.toNat_natCast] at *
 refine f_zv.does _ _ _ ?_
 conv=>whnf
 repeat' (first
  | (refine CallK.ret f_z3c.ok ((place_true (by omega) (by omega) (by omega) (by omega))) ?_;rintro v G ⟨rfl,rfl⟩;conv=>whnf))
 refine LoopK.at tab_ok (L:=f_zv.live) (ι:=Nat) (fun k=>k ≤ sn) (fun k=>[(17,.int .i64 k),(8,.int .u64 (getB l zn k))]) (fun k=>emp) (fun k=>sn - k) 0 (by simp) (fun t v h=>h) (by rw [emp_star];exact Imp.refl _) ?_
 rintro k hk
 rw [emp_star]
 conv=>whnf
 by_cases h2:k < sn
 ·obtain ⟨b,hlb⟩:∃ b,l[zn + k]? = some b:=⟨_,List.getElem?_eq_getElem (by omega)⟩
  have hbb:=hb b (List.mem_of_getElem? hlb)
  have hg:=getB_bd hb zn k
  have hgs:=getB_succ hlb
  have hg1:=getB_bd hb zn (k + 1)
  have hp8:(256:Int) ^ (k + 1) ≤ 18446744073709551616:=by
   have h3:=Int.ofNat_le.2 (Nat.pow_le_pow_right (show 0 < 256 by decide) (show k + 1 ≤ 8 by omega))
   rwa [Int.natCast_pow,Int.natCast_pow] at h3
  have hmp:0 ≤ b * 256 ^ k:=Int.mul_nonneg hbb.1 (Int.le_of_lt (Int.pow_pos (by decide)))
  repeat' (first
   | (refine spl_dec (fun hd=>?_) (fun hd=>?_) <;> first|(exfalso;omega)|(conv=>whnf))
   | ((first|refine Ar.i64 (by omega) ?_|refine Ar.u64 (by omega) ?_);conv=>whnf)
   | (refine IxS.r (i:=zn + k) (xs:=l) (by omega) rfl (by omega) (fun ab off' ha=>?_);subst ha;conv=>whnf)
   | (refine Ld.r0 hlb rfl ?_;conv=>whnf)
   | (refine Shl.v (8 * k) (by omega) (by simp [IntKind.bits];omega) ?_;rw [p256];conv=>whnf)
   | (refine Bt.orAdd (8 * k) (y:=b) (by rw [p256]) hg.1 (by rw [p256];exact hg.2) hbb.1 rfl (by rw [p256];show _ < (2:Int) ^ 64;omega) ?_;rw [p256];conv=>whnf))
  refine ⟨rfl,k + 1,by omega,fun t v h=>?_,Imp.refl _,by omega⟩
  rw [hgs] at h
  exact h
 ·have:k = sn:=by omega
  subst this
  repeat' (first
   | (refine spl_dec (fun hd=>?_) (fun hd=>?_) <;> first|(exfalso;omega)|(conv=>whnf)))
  refine Ret.eq rfl ?_
  first|exact .refl _|exact .drop|exact .fin|((repeat refine .pick ?_);first|exact .refl _|exact .emp _|exact .fin)
end Go.Proofs.YtbcedpankkdfoaaGreatDoor
/- The program's checksum, walked; what the package-level tables hold. Conditions: in each statement. -/
namespace Go.Proofs.YtbcedpankkdfoaaGreatDoor
open Go Go.SL Go.SL.Sec Go.SL.Fld
class LaidC (W:World):Prop where
 nib:∀ j,j < 16 → W.cell? ⟨g_field_nibbles,j,none⟩ = some (.int .u32 (w32 (nib j)))
theorem Ld.nib {W:World} {H:HProp} {K:Value → Prop} [ld:LaidC W] [oc:OldC W H] {c:BitVec 32} (k:K (.int .u32 (w32 (nib (c.toNat % 16))))):Ld W H (Addr.add ⟨g_field_nibbles,0,none⟩ ((w32 c % 16).toNat * 1)) K:=by
 have:(w32 c % 16).toNat * 1 = c.toNat % 16:=by unfold w32;omega
 rw [this,Addr.add_eq,Nat.zero_add]
 exact Ld.intro (oc.h _ _ (ld.nib _ (Nat.mod_lt _ (by decide)))) k
theorem Shr.w4 {c:BitVec 32} {K:Int → Prop} (hk:K (w32 (c >>> 4))):Shr .u32 (w32 c) 4 K:=by
 refine Shr.v 4 rfl (by decide) ?_
 rw [show (2:Int) ^ 4 = 16 from rfl,shr4_w32]
 exact hk
theorem Bt.xor32w {c d:BitVec 32} {K:Int → Prop} (hk:K (w32 (c ^^^ d))):Bt .xor .u32 (w32 c) (w32 d) K:=by
 refine Bt.xor32 ?_
 rw [ofInt_w32];exact hk
structure PartX where
 a:Option Addr
 c:Nat
 l:List Int
def partv (p:PartX):List Value:=[.slice p.a p.l.length p.c]
instance:SizedC 1 partv:=⟨fun _=>rfl⟩
instance {p:PartX}:LitL (partv p) [.slice p.a p.l.length p.c]:=⟨rfl⟩
theorem sum_spec {W:World} {R:HProp} {a:Option Addr} {n c:Nat} {ps:List PartX} [ld:LaidC W] [oc:OldC W R] [ro:RowN W R a n 1 partv ps] (hp:∀ p ∈ ps,RowC W R p.a 1 bytv p.l ∧ Byt p.l ∧ p.l.length ≤ 16777216) (hb:ps.length ≤ 16777216) :
  Does prog W f_z2v ⟨[.slice a n c]⟩ R (Ret fun v G=>v = .int .u32 (crcV (ps.flatMap (·.l))) ∧ G = R):=by
 have hn:=ro.len
 subst hn
 haveI r':=ro.row
 refine f_z2v.does _ ?_
 conv=>whnf
 skip
 refine LoopK.at tab_ok (L:=f_z2v.live) (ι:=Nat) (fun k=>k ≤ ps.length) (fun k=>[(10,.int .i64 k),(3,.int .u32 (w32 (crcL (BitVec.allOnes 32) ((ps.take k).flatMap (·.l)))))]) (fun _=>emp) (fun k=>ps.length - k) 0 (by simp) (fun t v h=>h) (by rw [emp_star];exact Imp.refl _) ?_
 rintro k hk
 rw [emp_star]
 conv=>whnf
 obtain ⟨C,hC⟩:∃ C,C = crcL (BitVec.allOnes 32) ((ps.take k).flatMap (·.l)):=⟨_,rfl⟩
 rw [← hC]
 by_cases h1:k < ps.length
 ·obtain ⟨p,hpk⟩:∃ p,ps[k]? = some p:=⟨_,List.getElem?_eq_getElem h1⟩
  obtain ⟨hpr,hpb,hpl⟩:=hp p (List.mem_of_getElem? hpk)
  obtain ⟨pa,pc,pl⟩:=p
  dsimp only at hpr hpb hpl
  haveI:=hpr
  have hC':crcL (BitVec.allOnes 32) ((ps.take (k + 1)).flatMap (·.l)) = crcL C pl:=by
   rw [List.take_add_one,hpk,List.flatMap_append,crcL_append,hC];simp
  repeat' (first
   | (refine spl_dec (fun hd=>?_) (fun hd=>?_) <;> first|(exfalso;omega)|(conv=>whnf))
   | (refine IxS.r (i:=(k)) rfl rfl h1 (fun ab off ha=>?_);cases ha;conv=>whnf)
   | (refine Ld.r0 hpk rfl ?_;conv=>whnf))
  dsimp only
  refine LoopK.at tab_ok (L:=f_z2v.live) (ι:=Nat) (fun j=>j ≤ pl.length) (fun j=>[(16,.int .i64 j),(3,.int .u32 (w32 (crcL C (pl.take j))))]) (fun _=>emp) (fun j=>pl.length - j) 0 (by simp) (fun t v h=>h) (by rw [emp_star];exact Imp.refl _) ?_
  rintro j hj
  rw [emp_star]
  conv=>whnf
  obtain ⟨D,hD⟩:∃ D,D = crcL C (pl.take j):=⟨_,rfl⟩
  rw [← hD]
  by_cases h2:j < pl.length
  ·obtain ⟨b,hbj⟩:∃ b,pl[j]? = some b:=⟨_,List.getElem?_eq_getElem h2⟩
   have hbb:=hpb b (List.mem_of_getElem? hbj)
   have hD':crcL C (pl.take (j + 1)) = crcB D b:=by
    rw [List.take_add_one,hbj,crcL_append,hD];rfl
   repeat' (first
    | (refine Shr.w4 ?_;conv=>whnf)
    | (refine spl_dec (fun hd=>?_) (fun hd=>?_) <;> first|(exfalso;omega)|(conv=>whnf))
    | ((first|refine Ar.i64 (by omega) ?_|refine Req.mk (by omega) ?_);conv=>whnf)
    | (refine IxS.r (i:=(j)) rfl rfl h2 (fun ab off ha=>?_);cases ha;conv=>whnf)
    | ((first|refine Ld.r0 hbj rfl ?_|refine Ar.u32 (by omega) ?_|refine Bt.xor32w ?_|refine Bt.xor32 ?_|refine Bt.low 4 (c:=16) (by decide) (by decide) (by decide) ?_|refine Ld.nib ?_);conv=>whnf))
   refine ⟨rfl,j + 1,h2,fun t v h=>?_,Imp.refl _,by omega⟩
   rw [hD',crcB_eq] at h
   exact h
  ·have:j = pl.length:=by omega
   subst this
   repeat' (first
    | (refine spl_dec (fun hd=>?_) (fun hd=>?_) <;> first|(exfalso;omega)|(conv=>whnf))
    | (refine Ar.i64 (by omega) ?_;conv=>whnf))
   refine ⟨rfl,k + 1,h1,fun t v h=>?_,Imp.refl _,by omega⟩
   rw [hC'] at h
   rw [List.take_length] at hD
   subst hD
   exact h
 ·have:k = ps.length:=by omega
  subst this
  repeat' (first
   | (refine spl_dec (fun hd=>?_) (fun hd=>?_) <;> first|(exfalso;omega)|(conv=>whnf))
   | (refine OpX.not32 rfl ?_;conv=>whnf))
  rw [List.take_length] at hC
  subst hC
  refine Ret.eq rfl ?_
  first|exact .refl _|exact .drop|exact .fin|((repeat refine .pick ?_);first|exact .refl _|exact .emp _|exact .fin)
end Go.Proofs.YtbcedpankkdfoaaGreatDoor
