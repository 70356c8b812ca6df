/- Arm for a row of words as long as any argument's. Conditions: in each statement. -/
import Derived.Test.YtbcedpankkdfoaaGreatDoorPart15
import Derived.Test.YtbcedpankkdfoaaGreatDoorPart33
import Derived.Test.YtbcedpankkdfoaaGreatDoorPart34
namespace Go.Proofs.YtbcedpankkdfoaaGreatDoor
open Go Go.SL Go.SL.Sec
theorem clone64b_spec {W:World} {R:HProp} {a:Option Addr} {n cap:Nat} {l:List Int} [c:RowN W R a n 1 u64s l] (hb:l.length ≤ 17592186044416) :
  Does prog W f_z23 ⟨[.slice a n cap]⟩ R (Ret fun v G=>∃ a' cap',l.length ≤ cap' ∧ v = .slice a' l.length cap' ∧ G = (vec t_uint64 1 u64s a' cap' l•R)):=by
 refine Does.vlen (V:=fun a' cap'=>.slice a' l.length cap') ?_
 have hn:=c.len
 subst hn
 haveI c':=c.row
 cases a with
 | none =>
  refine Does.nil c' fun hl=>?_
  subst hl
  refine f_z23.does _ ?_
  conv=>whnf
  skip
  refine ⟨_,_,rfl,?_,none,0,rfl,rfl⟩
  refine Imp.vnil ?_
  first|exact .refl _|exact .drop|exact .fin|((repeat refine .pick ?_);first|exact .refl _|exact .emp _|exact .fin)
 | some x =>
  refine f_z23.does _ ?_
  conv=>whnf
  repeat' (first
   | (intro blk hblk;conv=>whnf)
   | (refine OpX.appE (ys:=l) tab_ok rfl rfl rfl rfl rfl rfl (by omega) (fun a' c'=>?_);conv=>whnf))
  refine ⟨_,_,rfl,?_,a',c',rfl,rfl⟩
  first|exact .refl _|exact .drop|exact .fin|((repeat refine .pick ?_);first|exact .refl _|exact .emp _|exact .fin)
theorem armb_spec {W:World} {H R:HProp} {d:Nat} {X:DevX} {a:Option Addr} {n c:Nat} {keep:List Int} {step torn off:Int} [t:DevC H d X R] [ro:RowN W R a n 1 u64s keep] (hX:X.Ok) (hk:keep.length ≤ 17592186044416) (hs:-9223372036854775808 ≤ step ∧ step ≤ 9223372036854775807) :
  Does prog W f_zy ⟨[ptr d,.int .i64 step,.agg ⟨[.slice a n c,.int .i64 torn,.int .i64 off]⟩]⟩ H (Ret fun v G=>∃ X',X'.Ok ∧ X'.val = (X.val.arm step keep torn off).2 ∧ X'.ps.length ≤ X.ps.length ∧ v = .int .i64 (X.val.arm step keep torn off).1 ∧ G = (devo d X'•R)):=by
 rw [t.h.eq]
 haveI r':=ro.row
 unfold Dev.arm
 refine f_zy.does _ _ _ ?_
 conv=>whnf
 by_cases h1:X.down = true
 ·have h1':X.val.down = true:=h1
  rw [if_pos h1']
  repeat' (first
   | ((first|refine spl_t h1 ?_|refine Ld.i ?_);conv=>whnf)
   | (intro blk hblk;conv=>whnf))
  refine ⟨_,_,rfl,?_,X,hX,rfl,by omega,rfl,rfl⟩
  first|exact .refl _|exact .drop|exact .fin|((repeat refine .pick ?_);first|exact .refl _|exact .emp _|exact .fin)
 have h1':¬ X.val.down = true:=h1
 have h1f:X.down = false:=by simpa using h1
 rw [if_neg h1']
 by_cases h2:step < 0
 ·rw [if_pos h2]
  repeat' (first
   | (refine spl_f h1f ?_;conv=>whnf)
   | (refine spl_dec (fun hd=>?_) (fun hd=>?_) <;> first|(exfalso;omega)|(conv=>whnf))
   | (refine Ld.i ?_;conv=>whnf)
   | (intro blk hblk;conv=>whnf))
  refine ⟨_,_,rfl,?_,X,hX,rfl,by omega,rfl,rfl⟩
  first|exact .refl _|exact .drop|exact .fin|((repeat refine .pick ?_);first|exact .refl _|exact .emp _|exact .fin)
 rw [if_neg h2]
 repeat' (first
  | (refine spl_f h1f ?_;conv=>whnf)
  | (refine CallK.ret f_z23.ok (clone64b_spec (l:=keep) (by omega)) ?_;rintro v G ⟨e_a',e_cap',e_h1,rfl,rfl⟩;conv=>whnf)
  | (refine spl_dec (fun hd=>?_) (fun hd=>?_) <;> first|(exfalso;omega)|(conv=>whnf))
  | ((first|refine Ld.i ?_|refine St.i ⟨rfl,rfl⟩ (List.cons_ne_nil _ _) ?_);conv=>whnf)
  | (intro blk hblk;conv=>whnf)
  | (refine Sub.on (by first|exact .refl _|exact .drop|exact .fin|((repeat refine .pick ?_);first|exact .refl _|exact .emp _|exact .fin)) ?_;conv=>whnf)
  | (refine DrawK.introH tab_ok mixed 19 f_zy.last6 f_zy.plan6 _ rfl (by kernel_rfl) (Sub.of (by first|exact .refl _|exact .drop|exact .fin|((repeat refine .pick ?_);first|exact .refl _|exact .emp _|exact .fin))) ?_;conv=>whnf))
 refine ⟨_,_,rfl,?_,{ X with step:=step,ka:=e_a',kc:=e_cap',keep:=keep,torn:=torn,off:=off },⟨⟨hX.val.len,hX.val.pos,hX.val.byt,hX.val.q,⟨by show 0 ≤ step;omega,hs.2⟩,hX.val.calls⟩,hX.ic,hX.caps⟩,rfl,by simp,rfl,rfl⟩
 rw [devo_eq]
 dsimp only
 first|exact .refl _|exact .drop|exact .fin|((repeat refine .pick ?_);first|exact .refl _|exact .emp _|exact .fin)
end Go.Proofs.YtbcedpankkdfoaaGreatDoor
/- The disk under the law's store: Arm, Crash, Up, Finish; walked. Conditions: in each statement. -/
namespace Go.Proofs.YtbcedpankkdfoaaGreatDoor
open Go Go.SL Go.SL.Sec Go.SL.Fld Go.SL.Pts Go.SL.Rec Go.SL.Twn Go.SL.Pg Go.SL.Mst Go.SL.Pool
section
variable {W:World} {R:HProp} {p:Nat} {S:StoX}
def DevQ (p:Nat) (S:StoX) (F:Dev) (Pv:Value → Prop) (R:HProp) (v:Value) (G:HProp):Prop:=∃ S':StoX,S'.Ok ∧ S.Same S' ∧ S'.P = S.P ∧ S'.val = ⟨S.val.P,S.val.L,F⟩ ∧ Pv v ∧ G = (stoo p S'•R)
theorem sto_dev {f:FuncId} {args:Array Value} {F:Dev} {Pv:Value → Prop} (hS:S.Ok) (hq:F.q = []) (hl:F.img.length = S.val.D.img.length)
  (h:Does prog W f args (devo S.P.d S.D•poolo p S.P•logo S.P.l S.L•R) (Ret fun v G=>∃ X':DevX,X'.Ok ∧ X'.val = F ∧ Pv v ∧ G = (devo S.P.d X'•poolo p S.P•logo S.P.l S.L•R))) :
  Does prog W f args (stoo p S•R) (Ret (DevQ p S F Pv R)):=by
 have e:∀ X:DevX,(devo S.P.d X•poolo p S.P•logo S.P.l S.L•R) = (stoo p ⟨S.P,S.L,X⟩•R):=fun X=>by
  rw [stoo_eq,star_left_comm (devo _ _) (poolo _ _),star_left_comm (devo _ _) (logo _ _)]
 rw [e] at h
 refine h.post fun en w H' hs hQ=>?_
 obtain ⟨v,G,h1,h2,X',hX',hv,hp,rfl⟩:=hQ
 have hok:(⟨S.val.P,S.val.L,F⟩:Sto).Ok:=hS.val.over rfl rfl rfl hS.val.log (by rw [← hv];exact hX'.val) hq hl
 exact ⟨H',hs,v,_,h1,h2,⟨S.P,S.L,X'⟩,⟨by show (⟨S.P.val,S.L.val,X'.val⟩:Sto).Ok;rw [hv];exact hok,hS.L,hX',hS.ld⟩,⟨rfl,rfl⟩,rfl,by show (⟨S.P.val,S.L.val,X'.val⟩:Sto) = _;rw [hv];rfl,hp,e X'⟩
theorem sarm_spec {d:Nat} {step:Int} {l:LossV} (hd:S.P.d = d) (hS:S.Ok) (hs:0 ≤ step ∧ step ≤ 9223372036854775807) (ro:OldR W 1 u64s l.ka l.K) (oc:OldC W R) (hk:l.K.length ≤ 17592186044416) (hdn:S.D.down = false) :
  Does prog W f_zy ⟨[ptr d,.int .i64 step,.agg ⟨lossl l⟩]⟩ (stoo p S•R) (Ret (DevQ p S { S.val.D with step:=step,keep:=l.K,torn:=l.torn,off:=l.off } (fun _=>True) R)):=by
 subst hd
 have hdn':S.D.val.down = false:=hdn
 have e:S.D.val.arm step l.K l.torn l.off = (0,{ S.D.val with step:=step,keep:=l.K,torn:=l.torn,off:=l.off }):=by
  unfold Dev.arm
  rw [if_neg (by rw [hdn'];decide),if_neg (by omega)]
 refine sto_dev hS hS.val.q rfl ?_
 haveI:RowC W (poolo p S.P•logo S.P.l S.L•R) l.ka 1 u64s l.K:=RowC.oldC ro inferInstance
 refine (armb_spec (X:=S.D) (d:=S.P.d) (a:=l.ka) (n:=l.K.length) (c:=l.kc) (keep:=l.K) (step:=step) (torn:=l.torn) (off:=l.off) hS.D hk (by omega)).post fun en w H' hs' hQ=>?_
 obtain ⟨v,G,h1,h2,X',a1,a2,_,_,rfl⟩:=hQ
 exact ⟨H',hs',v,_,h1,h2,X',a1,by rw [a2,e];rfl,trivial,rfl⟩
theorem scrash_spec {d:Nat} {l:LossV} (hd:S.P.d = d) (hS:S.Ok) (ro:OldR W 1 u64s l.ka l.K) (oc:OldC W R) (hdn:S.D.down = false) :
  Does prog W f_z2s ⟨[ptr d,.agg ⟨lossl l⟩]⟩ (stoo p S•R) (Ret (DevQ p S { S.val.D with step:=0,keep:=[],torn:=0,off:=0,down:=true } (fun _=>True) R)):=by
 subst hd
 have hdn':S.D.val.down = false:=hdn
 have hq:S.D.val.q = []:=hS.val.q
 have e:(S.D.val.crash l.K l.torn l.off).2 = { S.D.val with step:=0,keep:=[],torn:=0,off:=0,down:=true }:=by
  unfold Dev.crash
  rw [if_neg (by rw [hdn'];decide)]
  show Dev.fallen _ _ _ _ = _
  unfold Dev.fallen
  have e2:fallG l.K l.torn l.off 0 S.D.val.q S.D.val.img = S.D.val.img:=by rw [hq];rfl
  rw [e2,← hq]
 refine sto_dev hS hS.val.q rfl ?_
 haveI:RowC W (poolo p S.P•logo S.P.l S.L•R) l.ka 1 u64s l.K:=RowC.oldC ro inferInstance
 refine (crash_spec (X:=S.D) (d:=S.P.d) (a:=l.ka) (n:=l.K.length) (c:=l.kc) (keep:=l.K) (torn:=l.torn) (off:=l.off) hS.D (by rw [hS.ps];omega)).post fun en w H' hs' hQ=>?_
 obtain ⟨v,G,h1,h2,X',a1,a2,_,_,rfl⟩:=hQ
 exact ⟨H',hs',v,_,h1,h2,X',a1,by rw [a2,e];rfl,trivial,rfl⟩
theorem sup_spec {d:Nat} (hd:S.P.d = d) (hS:S.Ok) :
  Does prog W f_z37 ⟨[ptr d]⟩ (stoo p S•R) (Ret (DevQ p S { S.val.D with down:=false,step:=0 } (fun _=>True) R)):=by
 subst hd
 refine sto_dev hS hS.val.q rfl ?_
 refine (up_spec (X:=S.D) (d:=S.P.d)).post fun en w H' hs' hQ=>?_
 obtain ⟨v,G,h1,h2,_,rfl⟩:=hQ
 refine ⟨H',hs',v,_,h1,h2,{ S.D with down:=false,step:=0 },⟨?_,hS.D.ic,hS.D.caps⟩,rfl,trivial,rfl⟩
 have:=hS.D.val
 exact ⟨this.len,this.pos,this.byt,this.q,⟨Int.le_refl _,by show (0:Int) ≤ 9223372036854775807;decide⟩,this.calls⟩
theorem sfin_spec {d:Nat} {pg:Int} (hd:S.P.d = d) (hS:S.Ok) (hF:FinOut S.val.D (fin S.val.D 2).2.2 pg (fin S.val.D 2).1) :
  Does prog W f_z2l ⟨[ptr d,.int .i64 2]⟩ (stoo p S•R) (Ret fun v G=>∃ S':StoX,S'.Ok ∧ S.Same S' ∧ S'.P = S.P ∧ S'.val = ⟨S.val.P,S.val.L,(fin S.val.D 2).2.2⟩ ∧
   (((fin S.val.D 2).1 = 0 ∧ (∃ z,v = .tuple ⟨[.bool z,.nilIface]⟩) ∧ G = (stoo p S'•R)) ∨ ((fin S.val.D 2).1 ≠ 0 ∧ ∃ k,v = .tuple ⟨[.bool false,.iface t_z5 (ptr k)]⟩ ∧ G = (fltc k wFinish 0 (fin S.val.D 2).1•stoo p S'•R)))):=by
 subst hd
 have e:∀ X:DevX,(devo S.P.d X•poolo p S.P•logo S.P.l S.L•R) = (stoo p ⟨S.P,S.L,X⟩•R):=fun X=>by
  rw [stoo_eq,star_left_comm (devo _ _) (poolo _ _),star_left_comm (devo _ _) (logo _ _)]
 have h:=twfin_spec (W:=W) (H:=devo S.P.d S.D•poolo p S.P•logo S.P.l S.L•R) (X:=S.D) (d:=S.P.d) (z:=2) hS.D (by rw [hS.ps];omega) (by decide)
 rw [e] at h
 refine h.post fun en w H' hs hQ=>?_
 obtain ⟨v,G,h1,h2,hQ⟩:=hQ
 have hmk:∀ X':DevX,X'.Ok → X'.val = (fin S.val.D 2).2.2 → ∃ S':StoX,S'.Ok ∧ S.Same S' ∧ S'.P = S.P ∧ S'.val = ⟨S.val.P,S.val.L,(fin S.val.D 2).2.2⟩ ∧ (devo S.P.d X'•poolo p S.P•logo S.P.l S.L•R) = (stoo p S'•R):=fun X' hX' hv=>by
  have hok:=hS.val.over (L:=S.val.L) (D:=(fin S.val.D 2).2.2) rfl rfl rfl hS.val.log hF.ok hF.q hF.len
  exact ⟨⟨S.P,S.L,X'⟩,⟨by show (⟨S.P.val,S.L.val,X'.val⟩:Sto).Ok;rw [hv];exact hok,hS.L,hX',hS.ld⟩,⟨rfl,rfl⟩,rfl,by show (⟨S.P.val,S.L.val,X'.val⟩:Sto) = _;rw [hv];rfl,e X'⟩
 rcases hQ with ⟨e0,rfl,X',a1,a2,_,rfl⟩|⟨e0,k,G0,rfl,rfl,X',a1,a2,_,rfl⟩
 ·obtain ⟨S',b1,b2,b3,b4,b5⟩:=hmk X' a1 a2
  exact ⟨H',hs,_,_,h1,h2,S',b1,b2,b3,b4,.inl ⟨e0,⟨_,rfl⟩,b5⟩⟩
 ·obtain ⟨S',b1,b2,b3,b4,b5⟩:=hmk X' a1 a2
  exact ⟨H',hs,_,_,h1,h2,S',b1,b2,b3,b4,.inr ⟨e0,k,rfl,by rw [b5];rfl⟩⟩
end
end Go.Proofs.YtbcedpankkdfoaaGreatDoor
/- The law's disk behind a crash: finished, however often that is broken off; plain words. Conditions: in each statement. -/
namespace Go.SL.Pool
open Go Go.SL Go.SL.Sec Go.SL.Fld Go.SL.Rec Go.SL.Twn Go.SL.Pg Go.SL.Mst
structure Fin2 (p:Int) (D:Dev) (okb:Int → List Int → Prop):Prop where
 ok:D.Ok
 q:D.q = []
 secs:5 + 2 * p ≤ D.secs
 mark:MarkOk p D.img
 old:∀ n,0 ≤ n ∧ n < p → okb n (logi D.img n)
theorem Run.fin2 {S:Sto} {last:Int → PgM} {okb:Int → List Int → Prop} (K:Run S last okb):Fin2 S.P.pages S.D okb :=
 ⟨K.ok.dok,K.ok.q,by have h1:=K.ok.secs;have h2:=K.ok.may;unfold MayP at h2;omega,K.mark,K.old⟩
theorem Fin2.same {p:Int} {D D':Dev} {okb:Int → List Int → Prop} (h:Fin2 p D okb) (hi:D'.img = D.img) (hq:D'.q = []) (ok:D'.Ok):Fin2 p D' okb :=
 ⟨ok,hq,by have:=h.secs;unfold Dev.secs at *;rw [hi];exact this,by rw [hi];exact h.mark,by rw [hi];exact h.old⟩
theorem Fin2.fin {p:Int} {D:Dev} {okb:Int → List Int → Prop} (h:Fin2 p D okb) (hp:0 ≤ p ∧ p ≤ 64) (hd:D.down = false):FinOut D (fin D 2).2.2 p (fin D 2).1 ∧ Fin2 p (fin D 2).2.2 okb:=by
 have f:=fin_any hd h.ok h.q ⟨hp.1,by omega,h.secs⟩ h.mark
 refine ⟨f,⟨f.ok,f.q,?_,?_,fun n hn=>by rw [f.logi n (by omega)];exact h.old n hn⟩⟩
 ·have:=h.secs
  unfold Dev.secs at *
  rw [f.len];exact this
 ·rcases f.res with ⟨_,_,c⟩|⟨_,_,m⟩
  ·exact .inl c
  ·exact m
theorem Fin2.read {p:Int} {D:Dev} {okb:Int → List Int → Prop} (h:Fin2 p D okb) (hc:Twn.Clean D.img) {n:Int} (hn:0 ≤ n ∧ n < p):okb n (D.at (5 + 2 * n) ++ D.at (5 + 2 * n + 1)):=by
 rw [at_img h.q,at_img h.q,← logi_clean hc n]
 exact h.old n hn
theorem okOf_dec {had:List (List PgM)} {done:List Int} {n:Int} {b:List Int} (h:okOf had done n b):∃ q ∈ rowOf had n,decP b n = (0,q) ∧ doneAt done n ≤ q.lsn ∧ q.C.length ≤ 31 ∧ q.G.length ≤ 84:=by
 obtain ⟨q,h1,rfl,h3,h4,h5,h6⟩:=h
 have hd:=dec_enc h5 h6
 rw [h4] at hd
 obtain ⟨_,_,h7,_⟩:=PgM.fault_ok h5
 exact ⟨q,h1,hd,h3,h7⟩
end Go.SL.Pool
/- PoolOld, walked: it answers true. Conditions: in each statement. -/
namespace Go.Proofs.YtbcedpankkdfoaaGreatDoor
open Go Go.SL Go.SL.Sec Go.SL.Fld Go.SL.Pts Go.SL.Rec Go.SL.Twn Go.SL.Pg Go.SL.Mst Go.SL.Pool
structure FallV where
 step:Int
 l:LossV
abbrev falll (f:FallV):List Value:=[.int .i64 f.step,.slice f.l.ka f.l.K.length f.l.kc,.int .i64 f.l.torn,.int .i64 f.l.off]
instance:SizedC 4 falll:=⟨fun _=>rfl⟩
instance {f:FallV}:LitL (falll f) [.int .i64 f.step,.slice f.l.ka f.l.K.length f.l.kc,.int .i64 f.l.torn,.int .i64 f.l.off]:=⟨rfl⟩
structure OldI (X0 X:StX) (S:StoX) (i:Nat):Prop where
 ok:X.Ok S
 same:X0.Same X
 old:OldO (stmOf X S)
 bd:Bd S.P.pages i (2 * i) S.val
 rl:∀ l ∈ X.had,l.length ≤ i + 1
section
variable {W:World} {R:HProp} {b:Nat} {X:StX} {S:StoX} {o:OpV}
theorem OldI.small {X0:StX} {i:Nat} (h:OldI X0 X S i) (hi:i ≤ 1000):SmallX X S:=⟨h.bd.up (by omega) (by omega),fun l hl=>by have:=h.rl l hl;omega⟩
theorem OldI.next {X0 X':StX} {S':StoX} {i:Nat} (h:OldI X0 X S i) (ho:OkOp W o) (h1:X'.Ok S') (h2:X.Same X') (h3:stmOf X' S' = ((stmOf X S).play o.m).2):OldI X0 X' S' (i + 1):=by
 have k:=h.old.play ho.pin ho.a
 have hb:=play_bd (X:=stmOf X S) (p:=S.P.pages) (k:=i) (c:=2 * i) h.bd (by omega) h.ok.sto.val o.m
 have hr:=play_rl (X:=stmOf X S) (k:=i + 1) h.rl o.m
 rw [← h3] at k hb hr
 have hp:S'.P.pages = S.P.pages:=hb.pages
 refine ⟨h1,h.same.trans h2,k.2,?_,hr⟩
 rw [hp]
 have hb':Bd S.P.pages (i + 1) (2 * i + 2) S'.val:=hb
 exact hb'.up (by omega) (by omega)
structure FallI (X:StX) (S:StoX):Prop where
 ok:X.Ok S
 fin:Fin2 X.p S.val.D (okOf X.had X.E)
end
structure Hold (P:Prop):Prop where
 h:P
theorem byc2 {c G P:Prop} (f:Hold P → c → G) (g:Hold P → ¬ c → G) (h:P):G:=by
 by_cases k:c
 ·exact f ⟨h⟩ k
 ·exact g ⟨h⟩ k
set_option maxHeartbeats 8000000 in
theorem old_walk {W:World} {R:HProp} {rp rl rf0:Int} {sa fa:Option Addr} {sc fc:Nat} {L:List OpV} {fl:FallV} {Fs:List FallV} [le:LaidE W] [lc:LaidC W] [lp:LaidP W] [oc:OldC W R] (ro:OldR W 11 opl sa L) (hL:L.length ≤ 9223372036854775807) (hok:∀ o ∈ L,OkOp W o)
  (rfl0:OldR W 1 u64s fl.l.ka fl.l.K) (hfk:fl.l.K.length ≤ 17592186044416) (rf:OldR W 4 falll fa Fs) (hFs:Fs.length ≤ 9223372036854775807) (hfs:∀ f ∈ Fs,OldR W 1 u64s f.l.ka f.l.K ∧ f.l.K.length ≤ 17592186044416) :
  Does prog W f_z2 ⟨[.agg ⟨[.int .i64 rp,.int .i64 rl,.int .i64 rf0]⟩,.slice sa L.length sc,.agg ⟨falll fl⟩,.slice fa Fs.length fc]⟩ R (Ret fun v G=>v = .bool true ∧ G = R):=by
 haveI rS:∀ (Q:HProp) [OldC W Q],RowC W Q sa 11 opl L:=fun Q _=>RowC.oldC ro inferInstance
 haveI rF:∀ (Q:HProp) [OldC W Q],RowC W Q fa 4 falll Fs:=fun Q _=>RowC.oldC rf inferInstance
 refine f_z2.does _ _ _ _ ?_
 conv=>whnf
 repeat' (first
  | (refine LdN.i ?_;conv=>whnf)
  | (intro blk hblk;conv=>whnf))
 obtain ⟨b6,hb6⟩:∃ b6,b6 = blk:=⟨_,rfl⟩
 rw [← hb6]
 refine CallK.ret f_z32.ok opened_spec ?_
 rintro v G ⟨b,X0,S0,hX0,hlg,hf,hst,rfl,rfl⟩
 have hS0:S0.val = sto0 (2 + rp % 6) (4 + rl % 20) (2 + rf0 % 4):=congrArg StM.S hst
 have hH0:X0.had = (stm0 (2 + rp % 6) (4 + rl % 20) (2 + rf0 % 4)).had:=congrArg StM.had hst
 have hE0:X0.E = (stm0 (2 + rp % 6) (4 + rl % 20) (2 + rf0 % 4)).done:=congrArg StM.done hst
 have hm0:MayP (2 + rp % 6) (4 + rl % 20) (2 + rf0 % 4):=by unfold MayP;omega
 have hdn0:S0.D.down = false:=by
  show S0.val.D.down = false
  rw [hS0];rfl
 have hstep:=mod_bd (a:=fl.step) (show (0:Int) < 120 by decide)
 conv=>whnf
 repeat' (first
  | (refine CallK.ret f_z3r.ok awake_spec ?_;rintro v G ⟨rfl,rfl⟩;conv=>whnf))
 repeat' (first
  | ((first|refine Ld.i ?_|refine LdN.i ?_|refine Ar.i64 (by omega) ?_);conv=>whnf)
  | (refine Sub.on (by first|exact .refl _|exact .drop|exact .fin|((repeat refine .pick ?_);first|exact .refl _|exact .emp _|exact .fin)) ?_;conv=>whnf)
  | (refine DrawK.introH tab_ok mixed 32 f_z2.last4 f_z2.plan4 _ rfl (by kernel_rfl) (Sub.of (by first|exact .refl _|exact .drop|exact .fin|((repeat refine .pick ?_);first|exact .refl _|exact .emp _|exact .fin))) ?_;conv=>whnf)
  | (refine CallK.ret f_zf.ok (qbrought_spec (by first|rfl|assumption|omega|decide|(simp;done)|(simp;omega)|(simp at *;omega))) ?_;rintro v G ⟨rfl,rfl⟩;conv=>whnf))
 refine CallK.imp (H':=stoo X0.q S0•pts b6 (.cells ⟨falll fl⟩ t_z45)•storec b X0•R) (by first|exact .refl _|exact .drop|exact .fin|((repeat refine .pick ?_);first|exact .refl _|exact .emp _|exact .fin)) ?_
 refine CallK.ret f_zy.ok (sarm_spec (l:=fl.l) (step:=1 + fl.step % 120) hX0.d hX0.sto (by omega) rfl0 inferInstance hfk hdn0) ?_
 rintro v G ⟨S1,hS1,hs1,hP1,hv1,_,rfl⟩
 have hI0:OldI X0 X0 S1 0:=by
  refine ⟨hX0.next hS1 hs1 (by rw [hv1]),.refl X0,?_,?_,fun l hl=>?_⟩
  ·have e1:stmOf X0 S1 = { stm0 (2 + rp % 6) (4 + rl % 20) (2 + rf0 % 4) with S:={ sto0 (2 + rp % 6) (4 + rl % 20) (2 + rf0 % 4) with D:=S1.val.D } }:=by
    unfold stmOf
    rw [hH0,hE0]
    rw [hv1,hS0]
   rw [e1]
   refine oldO0 hm0 hS1.val.dok hS1.val.q ?_ ?_
   ·rw [hv1,hS0]
   ·rw [hv1,hS0];rfl
  ·rw [hP1,show S0.P.pages = S0.val.P.pages from rfl,hv1,hS0]
   exact ⟨rfl,⟨Int.le_refl _,Int.le_refl _⟩,fun n g hg=>by cases hg⟩
  ·rw [hH0] at hl
   obtain ⟨k,_,rfl⟩:=List.mem_map.1 hl
   exact Nat.le_refl 1
 clear hst hS0 hH0 hE0 hm0 hv1
 conv=>whnf
 skip
 refine LoopK.at tab_ok (L:=f_z2.live) (ι:=Int × StX × StoX) (fun i=>(0 ≤ i.1 ∧ i.1 ≤ L.length ∧ i.1 ≤ 100) ∧ OldI X0 i.2.1 i.2.2 i.1.toNat) (fun i=>[(10,.int .i64 i.1)])
  (fun i=>storec b i.2.1•stoo i.2.1.q i.2.2) (fun i=>L.length - i.1.toNat) (0,X0,S1) ⟨⟨Int.le_refl 0,by show (0:Int) ≤ L.length;omega,by show (0:Int) ≤ 100;omega⟩,hI0⟩ (fun t v h=>h) (show Imp _ ((storec b X0•stoo X0.q S1)•pts b6 (.cells ⟨falll fl⟩ t_z45)•R) from Imp.assoc (by first|exact .refl _|exact .drop|exact .fin|((repeat refine .pick ?_);first|exact .refl _|exact .emp _|exact .fin))) ?_
 rintro ⟨i,X,S⟩ ⟨⟨hi0,hi1,hi2⟩,hI⟩
 dsimp only at hi0 hi1 hi2 hI ⊢
 simp only [star_assoc]
 conv=>whnf
 by_cases h3:i < L.length ∧ i < 100
 ·have h31:=h3.1
  have h32:=h3.2
  obtain ⟨o,ho⟩:∃ o,L[i.toNat]? = some o:=⟨_,List.getElem?_eq_getElem (by omega)⟩
  have hoo:=hok o (List.mem_of_getElem? ho)
  have hpl:=hI.old.play hoo.pin hoo.a
  repeat' (first
   | (refine spl_t (by simp;omega) ?_;conv=>whnf)
   | (refine IxS.r (xs:=L) (i:=i.toNat) (by omega) rfl (by omega) (fun ab off ha=>?_);cases ha;conv=>whnf)
   | (refine LdN.r ho rfl ?_;conv=>whnf))
  refine CallK.ret f_z0.ok (plays_spec (X:=X) (S:=S) hoo hI.ok (hI.small (by omega))) ?_
  rintro v G ⟨X',S',hX',hs',hst',rfl,rfl⟩
  rw [hpl.1]
  conv=>whnf
  repeat' (first
   | (refine Ar.i64 (by omega) ?_;conv=>whnf))
  exact ⟨rfl,(i + 1,X',S'),⟨⟨by dsimp only;omega,by dsimp only;omega,by dsimp only;omega⟩,by dsimp only;rw [show (i + 1).toNat = i.toNat + 1 by omega];exact hI.next hoo hX' hs' hst'⟩,fun t v h=>h,(by first|exact .refl _|exact .drop|exact .fin|((repeat refine .pick ?_);first|exact .refl _|exact .emp _|exact .fin)),by dsimp only;omega⟩
 ·obtain ⟨M,hM1,hM2,hM3⟩:∃ M:Int,0 ≤ M ∧ (M ≤ Fs.length ∧ M ≤ 12) ∧ (M = Fs.length ∨ M = 12):=by
   by_cases c:(Fs.length:Int) ≤ 12
   ·exact ⟨Fs.length,by omega,by omega,.inl rfl⟩
   ·exact ⟨12,by omega,by omega,.inr rfl⟩
  have hpX:=hI.ok.pages
  have hmX:MayP X.p X.lg X.f:=by
   have e1:=hI.same.lg
   have e2:=hI.same.f
   unfold MayP
   omega
  have hrl:∀ r ∈ X.H,r.xs.length ≤ 1000000:=fun r hr=>(hI.small (by omega)).row hr
  have hF0:Fin2 X.p S.val.D (okOf X.had X.E):=by
   have h9:=hI.old.run.fin2
   have e9:(stmOf X S).S.P.pages = X.p:=hI.ok.p.symm
   rw [e9] at h9
   exact h9
  apply byc2 (c:=i < L.length)
  ·intro hK c1
   repeat' (first
    | (refine spl_f (by simp;omega) ?_;conv=>whnf)
    | (refine spl_dec (fun hd=>?_) (fun hd=>?_) <;> first|(exfalso;omega)|(conv=>whnf))
    | (refine Ld.i ?_;conv=>whnf))
   cases hdn:S.D.down with
   | true =>
    refine CallK.ret f_zz.ok (sdown_spec (p:=X.q) (S:=S) hI.ok.d) ?_
    rw [hdn]
    rintro v G ⟨rfl,rfl⟩
    conv=>whnf
    skip
    exact LoopK.intro tab_ok (L:=f_z2.live) (ι:=Int × StoX) (fun j=>(0 ≤ j.1 ∧ j.1 ≤ M + 1) ∧ FallI X j.2 ∧ (j.1 = M + 1 → j.2.val.D.down = false ∧ Twn.Clean j.2.val.D.img)) (fun j=>[(3,.slice fa Fs.length fc),(9,ptr b),(12,.int .i64 j.1)])
     (fun j=>stoo X.q j.2•storec b X•R) (fun j=>(M + 1 - j.1).toNat) (0,S) ⟨⟨Int.le_refl 0,by show (0:Int) ≤ M + 1;omega⟩,⟨hI.ok,hF0⟩,fun e9=>by have:(0:Int) = M + 1:=e9;omega⟩ (Fr.inn_sub ⟨rfl,rfl,rfl,trivial⟩) (by first|exact .refl _|exact .drop|exact .fin|((repeat refine .pick ?_);first|exact .refl _|exact .emp _|exact .fin)) hK.h
   | false =>
    refine CallK.ret f_zz.ok (sdown_spec (p:=X.q) (S:=S) hI.ok.d) ?_
    rw [hdn]
    rintro v G ⟨rfl,rfl⟩
    conv=>whnf
    repeat' (first
     | ((first|refine Ld.i ?_|refine LdN.i ?_);conv=>whnf)
     | (refine DrawK.introH tab_ok mixed 67 f_z2.last12 f_z2.plan12 _ rfl (by kernel_rfl) (Sub.of (by first|exact .refl _|exact .drop|exact .fin|((repeat refine .pick ?_);first|exact .refl _|exact .emp _|exact .fin))) ?_;conv=>whnf))
    refine CallK.imp (H':=stoo X.q S•pts b6 (.cells ⟨falll fl⟩ t_z45)•storec b X•R) (by first|exact .refl _|exact .drop|exact .fin|((repeat refine .pick ?_);first|exact .refl _|exact .emp _|exact .fin)) ?_
    refine CallK.ret f_z2s.ok (scrash_spec (l:=fl.l) hI.ok.d hI.ok.sto rfl0 inferInstance hdn) ?_
    rintro v G ⟨S2,hS2,hs2,hP2,hv2,_,rfl⟩
    have hF2:FallI X S2:=⟨hI.ok.next hS2 hs2 (by rw [hv2]),hF0.same (by rw [hv2]) hS2.val.q hS2.val.dok⟩
    clear hv2
    conv=>whnf
    skip
    exact LoopK.intro tab_ok (L:=f_z2.live) (ι:=Int × StoX) (fun j=>(0 ≤ j.1 ∧ j.1 ≤ M + 1) ∧ FallI X j.2 ∧ (j.1 = M + 1 → j.2.val.D.down = false ∧ Twn.Clean j.2.val.D.img)) (fun j=>[(3,.slice fa Fs.length fc),(9,ptr b),(12,.int .i64 j.1)])
     (fun j=>stoo X.q j.2•storec b X•R) (fun j=>(M + 1 - j.1).toNat) (0,S2) ⟨⟨Int.le_refl 0,by show (0:Int) ≤ M + 1;omega⟩,hF2,fun e9=>by have:(0:Int) = M + 1:=e9;omega⟩ (Fr.inn_sub ⟨rfl,rfl,rfl,trivial⟩) (by first|exact .refl _|exact .drop|exact .fin|((repeat refine .pick ?_);first|exact .refl _|exact .emp _|exact .fin)) hK.h
  ·intro hK c1
   repeat' (first
    | (refine spl_dec (fun hd=>?_) (fun hd=>?_) <;> first|(exfalso;omega)|(conv=>whnf))
    | (refine Ld.i ?_;conv=>whnf))
   cases hdn:S.D.down with
   | true =>
    refine CallK.ret f_zz.ok (sdown_spec (p:=X.q) (S:=S) hI.ok.d) ?_
    rw [hdn]
    rintro v G ⟨rfl,rfl⟩
    conv=>whnf
    skip
    exact LoopK.intro tab_ok (L:=f_z2.live) (ι:=Int × StoX) (fun j=>(0 ≤ j.1 ∧ j.1 ≤ M + 1) ∧ FallI X j.2 ∧ (j.1 = M + 1 → j.2.val.D.down = false ∧ Twn.Clean j.2.val.D.img)) (fun j=>[(3,.slice fa Fs.length fc),(9,ptr b),(12,.int .i64 j.1)])
     (fun j=>stoo X.q j.2•storec b X•R) (fun j=>(M + 1 - j.1).toNat) (0,S) ⟨⟨Int.le_refl 0,by show (0:Int) ≤ M + 1;omega⟩,⟨hI.ok,hF0⟩,fun e9=>by have:(0:Int) = M + 1:=e9;omega⟩ (Fr.inn_sub ⟨rfl,rfl,rfl,trivial⟩) (by first|exact .refl _|exact .drop|exact .fin|((repeat refine .pick ?_);first|exact .refl _|exact .emp _|exact .fin)) hK.h
   | false =>
    refine CallK.ret f_zz.ok (sdown_spec (p:=X.q) (S:=S) hI.ok.d) ?_
    rw [hdn]
    rintro v G ⟨rfl,rfl⟩
    conv=>whnf
    repeat' (first
     | ((first|refine Ld.i ?_|refine LdN.i ?_);conv=>whnf)
     | (refine DrawK.introH tab_ok mixed 67 f_z2.last12 f_z2.plan12 _ rfl (by kernel_rfl) (Sub.of (by first|exact .refl _|exact .drop|exact .fin|((repeat refine .pick ?_);first|exact .refl _|exact .emp _|exact .fin))) ?_;conv=>whnf))
    refine CallK.imp (H':=stoo X.q S•pts b6 (.cells ⟨falll fl⟩ t_z45)•storec b X•R) (by first|exact .refl _|exact .drop|exact .fin|((repeat refine .pick ?_);first|exact .refl _|exact .emp _|exact .fin)) ?_
    refine CallK.ret f_z2s.ok (scrash_spec (l:=fl.l) hI.ok.d hI.ok.sto rfl0 inferInstance hdn) ?_
    rintro v G ⟨S2,hS2,hs2,hP2,hv2,_,rfl⟩
    have hF2:FallI X S2:=⟨hI.ok.next hS2 hs2 (by rw [hv2]),hF0.same (by rw [hv2]) hS2.val.q hS2.val.dok⟩
    clear hv2
    conv=>whnf
    skip
    exact LoopK.intro tab_ok (L:=f_z2.live) (ι:=Int × StoX) (fun j=>(0 ≤ j.1 ∧ j.1 ≤ M + 1) ∧ FallI X j.2 ∧ (j.1 = M + 1 → j.2.val.D.down = false ∧ Twn.Clean j.2.val.D.img)) (fun j=>[(3,.slice fa Fs.length fc),(9,ptr b),(12,.int .i64 j.1)])
     (fun j=>stoo X.q j.2•storec b X•R) (fun j=>(M + 1 - j.1).toNat) (0,S2) ⟨⟨Int.le_refl 0,by show (0:Int) ≤ M + 1;omega⟩,hF2,fun e9=>by have:(0:Int) = M + 1:=e9;omega⟩ (Fr.inn_sub ⟨rfl,rfl,rfl,trivial⟩) (by first|exact .refl _|exact .drop|exact .fin|((repeat refine .pick ?_);first|exact .refl _|exact .emp _|exact .fin)) hK.h
  rintro ⟨j,S2⟩ ⟨⟨hj0,hj1⟩,hF,hfin⟩
  dsimp only at hj0 hj1 hF hfin ⊢
  conv=>whnf
  by_cases h4:j ≤ M
  ·repeat' (first
    | (refine spl_t (by simp;omega) ?_;conv=>whnf)
    | (refine Ld.i ?_;conv=>whnf))
   refine CallK.ret f_z37.ok (sup_spec (S:=S2) hF.ok.d hF.ok.sto) ?_
   rintro v G ⟨S3,hS3,hs3,hP3,hv3,_,rfl⟩
   have hF3:FallI X S3:=⟨hF.ok.next hS3 hs3 (by rw [hv3]),hF.fin.same (by rw [hv3]) hS3.val.q hS3.val.dok⟩
   have hd3:S3.val.D.down = false:=by rw [hv3]
   have hst3:S3.val.D.step = 0:=by rw [hv3]
   clear hv3
   by_cases h5:j < M
   ·obtain ⟨f,hf9⟩:∃ f,Fs[j.toNat]? = some f:=⟨_,List.getElem?_eq_getElem (by omega)⟩
    obtain ⟨hfr,hfk9⟩:=hfs f (List.mem_of_getElem? hf9)
    have hs6:=mod_bd (a:=f.step) (show (0:Int) < 6 by decide)
    conv=>whnf
    repeat' (first
     | (refine spl_t (by simp;omega) ?_;conv=>whnf)
     | ((first|refine Ld.i ?_|refine Ar.i64 (by omega) ?_);conv=>whnf)
     | (refine IxS.r (xs:=Fs) (i:=j.toNat) (by omega) rfl (by omega) (fun ab off ha=>?_);cases ha;conv=>whnf)
     | ((first|refine Ld.r0 hf9 rfl ?_|refine LdN.rp hf9 ?_);conv=>whnf)
     | (refine Sub.on (by first|exact .refl _|exact .drop|exact .fin|((repeat refine .pick ?_);first|exact .refl _|exact .emp _|exact .fin)) ?_;conv=>whnf)
     | (refine CallK.ret f_zf.ok (qbrought_spec (by first|rfl|assumption|omega|decide|(simp;done)|(simp;omega)|(simp at *;omega))) ?_;rintro v G ⟨rfl,rfl⟩;conv=>whnf)
     | (refine DrawK.introH tab_ok mixed 97 f_z2.last18 f_z2.plan18 _ rfl (by kernel_rfl) (Sub.of (by first|exact .refl _|exact .drop|exact .fin|((repeat refine .pick ?_);first|exact .refl _|exact .emp _|exact .fin))) ?_;conv=>whnf))
    refine CallK.imp (H':=stoo X.q S3•storec b X•R) (by first|exact .refl _|exact .drop|exact .fin|((repeat refine .pick ?_);first|exact .refl _|exact .emp _|exact .fin)) ?_
    refine CallK.ret f_zy.ok (sarm_spec (l:=f.l) (step:=1 + f.step % 6) hF3.ok.d hF3.ok.sto (by omega) hfr inferInstance hfk9 hd3) ?_
    rintro v G ⟨S4,hS4,hs4,hP4,hv4,_,rfl⟩
    have hF4:FallI X S4:=⟨hF3.ok.next hS4 hs4 (by rw [hv4]),hF3.fin.same (by rw [hv4]) hS4.val.q hS4.val.dok⟩
    have hd4:S4.val.D.down = false:=by rw [hv4];exact hd3
    clear hv4
    conv=>whnf
    repeat' (first
     | (refine Ld.i ?_;conv=>whnf))
    obtain ⟨hFo,hFn⟩:=hF4.fin.fin ⟨by omega,by omega⟩ hd4
    refine CallK.ret f_z2l.ok (sfin_spec hF4.ok.d hF4.ok.sto hFo) ?_
    rintro v G ⟨S5,hS5,hs5,hP5,hv5,hcase⟩
    have hF5:FallI X S5:=⟨hF4.ok.next hS5 hs5 (by rw [hv5]),by rw [hv5];exact hFn⟩
    have hD5:S5.val.D = (fin S4.val.D 2).2.2:=by rw [hv5]
    rcases hcase with ⟨e0,⟨z,rfl⟩,rfl⟩|⟨e0,k,rfl,rfl⟩
    ·have hcl:S5.val.D.down = false ∧ Twn.Clean S5.val.D.img:=by
      rw [hD5]
      rcases hFo.res with ⟨_,r1,r2⟩|⟨r0,_,_⟩
      ·exact ⟨r1,r2⟩
      ·rw [e0] at r0;cases r0
     clear hv5 hD5 hFn hFo e0
     conv=>whnf
     repeat' (first
      | (refine Ar.i64 (by omega) ?_;conv=>whnf))
     exact ⟨rfl,(j + 1,S5),⟨⟨by dsimp only;omega,by dsimp only;omega⟩,hF5,fun _=>hcl⟩,Fr.inn_sub ⟨rfl,rfl,rfl,trivial⟩,(by first|exact .refl _|exact .drop|exact .fin|((repeat refine .pick ?_);first|exact .refl _|exact .emp _|exact .fin)),by dsimp only;omega⟩
    ·obtain ⟨r0,r1⟩:(fin S4.val.D 2).1 = 40 ∧ S5.val.D.down = true:=by
      rw [hD5]
      rcases hFo.res with ⟨r0,_,_⟩|⟨r0,r1,_⟩
      ·exact absurd r0 e0
      ·exact ⟨r0,r1⟩
     refine CallK.imp (H':=fltc k wFinish 0 (fin S4.val.D 2).1•stoo X.q S5•storec b X•R) (by first|exact .refl _|exact .drop|exact .fin|((repeat refine .pick ?_);first|exact .refl _|exact .emp _|exact .fin)) ?_
     rw [r0]
     refine CallK.ret f_zr.ok (ends_flt (by decide) hF5.ok.d) ?_
     rw [show downE 40 S5.val = true by unfold downE;rw [r1];rfl]
     rintro v G ⟨rfl,rfl⟩
     clear hv5 hD5 hFn hFo e0 r0
     conv=>whnf
     repeat' (first
      | (refine Ar.i64 (by omega) ?_;conv=>whnf))
     exact ⟨rfl,(j + 1,S5),⟨⟨by dsimp only;omega,by dsimp only;omega⟩,hF5,fun e9=>by have:j + 1 = M + 1:=e9;omega⟩,Fr.inn_sub ⟨rfl,rfl,rfl,trivial⟩,(by first|exact .refl _|exact .drop|exact .fin|((repeat refine .pick ?_);first|exact .refl _|exact .emp _|exact .fin)),by dsimp only;omega⟩
   ·conv=>whnf
    repeat' (first
     | (refine spl_f (by simp;omega) ?_;conv=>whnf)
     | (refine spl_dec (fun hd=>?_) (fun hd=>?_) <;> first|(exfalso;omega)|(conv=>whnf))
     | (refine Ld.i ?_;conv=>whnf))
    all_goals
     obtain ⟨hFo,hFn⟩:=hF3.fin.fin ⟨by omega,by omega⟩ hd3
     refine CallK.ret f_z2l.ok (sfin_spec hF3.ok.d hF3.ok.sto hFo) ?_
     rintro v G ⟨S5,hS5,hs5,hP5,hv5,hcase⟩
     have hF5:FallI X S5:=⟨hF3.ok.next hS5 hs5 (by rw [hv5]),by rw [hv5];exact hFn⟩
     have hD5:S5.val.D = (fin S3.val.D 2).2.2:=by rw [hv5]
     rcases hcase with ⟨e0,⟨z,rfl⟩,rfl⟩|⟨e0,k,rfl,rfl⟩
     ·have hcl:S5.val.D.down = false ∧ Twn.Clean S5.val.D.img:=by
       rw [hD5]
       rcases hFo.res with ⟨_,r1,r2⟩|⟨r0,_,_⟩
       ·exact ⟨r1,r2⟩
       ·rw [e0] at r0;cases r0
      clear hv5 hD5 hFn hFo e0
      conv=>whnf
      repeat' (first
       | (refine Ar.i64 (by omega) ?_;conv=>whnf))
      exact ⟨rfl,(j + 1,S5),⟨⟨by dsimp only;omega,by dsimp only;omega⟩,hF5,fun _=>hcl⟩,Fr.inn_sub ⟨rfl,rfl,rfl,trivial⟩,(by first|exact .refl _|exact .drop|exact .fin|((repeat refine .pick ?_);first|exact .refl _|exact .emp _|exact .fin)),by dsimp only;omega⟩
     ·exact absurd (fin_calm (p:=X.p) ⟨hd3,hst3⟩ hF3.fin.ok hF3.fin.q ⟨by omega,by omega,hF3.fin.secs⟩ hF3.fin.mark) e0
  ·have hj:j = M + 1:=by omega
   obtain ⟨hdn2,hcl2⟩:=hfin hj
   have hdn2':S2.D.down = false:=hdn2
   apply byc2 (c:=j ≤ Fs.length)
   ·intro hK c1
    repeat' (first
     | (refine spl_f (by simp;omega) ?_;conv=>whnf)
     | (refine spl_dec (fun hd=>?_) (fun hd=>?_) <;> first|(exfalso;omega)|(conv=>whnf))
     | (refine Ld.i ?_;conv=>whnf))
    refine CallK.ret f_zz.ok (sdown_spec (p:=X.q) (S:=S2) hF.ok.d) ?_
    rw [hdn2']
    rintro v G ⟨rfl,rfl⟩
    conv=>whnf
    skip
    exact LoopK.intro tab_ok (L:=f_z2.live) (ι:=Nat) (fun n=>(n:Int) ≤ X.p) (fun n=>[(9,ptr b),(15,.int .i64 n)]) (fun _=>stoo X.q S2•storec b X•R) (fun n=>X.p.toNat - n) 0 (by show (0:Int) ≤ X.p;omega) (Fr.inn_sub ⟨rfl,rfl,trivial⟩) (by first|exact .refl _|exact .drop|exact .fin|((repeat refine .pick ?_);first|exact .refl _|exact .emp _|exact .fin)) hK.h
   ·intro hK c1
    repeat' (first
     | (refine spl_dec (fun hd=>?_) (fun hd=>?_) <;> first|(exfalso;omega)|(conv=>whnf))
     | (refine Ld.i ?_;conv=>whnf))
    refine CallK.ret f_zz.ok (sdown_spec (p:=X.q) (S:=S2) hF.ok.d) ?_
    rw [hdn2']
    rintro v G ⟨rfl,rfl⟩
    conv=>whnf
    skip
    exact LoopK.intro tab_ok (L:=f_z2.live) (ι:=Nat) (fun n=>(n:Int) ≤ X.p) (fun n=>[(9,ptr b),(15,.int .i64 n)]) (fun _=>stoo X.q S2•storec b X•R) (fun n=>X.p.toNat - n) 0 (by show (0:Int) ≤ X.p;omega) (Fr.inn_sub ⟨rfl,rfl,trivial⟩) (by first|exact .refl _|exact .drop|exact .fin|((repeat refine .pick ?_);first|exact .refl _|exact .emp _|exact .fin)) hK.h
   clear hfin hI hF0 hM1 hM2 hM3 h3
   rintro n hn1
   dsimp only at hn1 ⊢
   conv=>whnf
   by_cases h7:(n:Int) < X.p
   ·have hnX:0 ≤ (n:Int) ∧ (n:Int) < X.p:=by omega
    obtain ⟨r,i',x,hr,hi,hx,_,_,_⟩:=hF.ok.last hnX
    have hr:X.H[n]? = some r:=hr
    have hm:=List.mem_of_getElem? hr
    have hrl9:=hrl r hm
    have hltH:n < X.H.length:=by
     rcases Nat.lt_or_ge n X.H.length with h9|h9
     ·exact h9
     ·rw [List.getElem?_eq_none h9] at hr;cases hr
    have hltE:n < X.E.length:=by have:=hF.ok.el;omega
    obtain ⟨z,hz⟩:∃ z,X.E[n]? = some z:=⟨_,List.getElem?_eq_getElem hltE⟩
    have hn4:0 ≤ (n:Int) ∧ (n:Int) < S2.val.P.pages:=by
     have:S2.val.P.pages = X.p:=hF.ok.p.symm
     omega
    have hz4:0 ≤ 5 + 2 * (n:Int) ∧ 5 + 2 * (n:Int) + 2 ≤ S2.val.D.secs:=by have:=hF.ok.sto.val.page hn4;omega
    obtain ⟨hBy,hBl⟩:=StoX.bytes hF.ok.sto hdn2' hz4
    obtain ⟨q,hqm,hqd,hqe,hqC,hqG⟩:=okOf_dec (hF.fin.read hcl2 hnX)
    have hrow:rowOf X.had (n:Int) = r.m:=by
     unfold rowOf StX.had
     rw [List.getElem?_map,show ((n:Int)).toNat = n from rfl,hr];rfl
    have hzq:z ≤ q.lsn:=by
     unfold doneAt at hqe
     rw [show ((n:Int)).toNat = n from rfl,hz] at hqe
     exact hqe
    rw [hrow] at hqm
    haveI cE:∀ Q:HProp,RowC W (storec b X•Q) X.da 1 ints X.E:=fun Q=>rowE
    haveI cH:∀ Q:HProp,RowC W (storec b X•Q) X.ha 1 rowxv X.H:=fun Q=>rowH
    repeat' (first
     | (refine CallK.ret f_z1z.ok (home_yes hmX hnX) ?_;rintro v G ⟨rfl,rfl⟩;conv=>whnf)
     | (refine spl_dec (fun hd=>?_) (fun hd=>?_) <;> first|(exfalso;omega)|(conv=>whnf))
     | ((first|refine Ld.i ?_|refine LdN.i ?_);conv=>whnf))
    refine CallK.ret f_z1e.ok (sread_spec (S:=S2) hF.ok.d hF.ok.sto hdn2' hz4) ?_
    obtain ⟨B,hB⟩:∃ B,B = S2.val.D.at (5 + 2 * (n:Int)) ++ S2.val.D.at (5 + 2 * (n:Int) + 1):=⟨_,rfl⟩
    rw [← hB] at hBy hBl hqd ⊢
    rintro v G ⟨ra,rcc,hrc,rfl,rfl⟩
    conv=>whnf
    skip
    refine CallK.ret f_za.ok (pdecode_spec (b:=B) ⟨inferInstance,hBl.symm⟩ (by omega) (by omega) hBy) ?_
    rw [hqd]
    rintro v G ⟨y,hy,rfl,rfl⟩
    have hyq:y.m = q:=hy
    have hylt:¬ y.m.lsn < z:=by rw [hyq];omega
    rw [pgc_eq y]
    conv=>whnf
    repeat' (first
     | (refine CallK.ret f_ze.ok qnum_spec ?_;rintro v G ⟨rfl,rfl⟩;conv=>whnf)
     | (refine spl_dec (fun hd=>?_) (fun hd=>?_) <;> first|(exfalso;omega)|(conv=>whnf))
     | ((first|refine Ld.i ?_|refine St.i ⟨rfl,rfl⟩ (List.cons_ne_nil _ _) ?_);conv=>whnf)
     | (intro blk hblk;conv=>whnf)
     | (refine IxS.r (xs:=X.E) (i:=n) rfl rfl hltE (fun ab off ha=>?_);haveI:∀ Q:HProp,RowC W (storec b X•Q) (some ⟨ab,off,none⟩) 1 ints X.E:=(fun Q=>by rw [← ha];exact rowE);conv=>whnf)
     | (refine Ld.r0 (xs:=X.E) hz rfl ?_;conv=>whnf)
     | (refine Sub.on (by first|exact .refl _|exact .drop|exact .fin|((repeat refine .pick ?_);first|exact .refl _|exact .emp _|exact .fin)) ?_;conv=>whnf)
     | (refine DrawK.introH tab_ok mixed 168 f_z2.last30 f_z2.plan30 _ rfl (by kernel_rfl) (Sub.of (by first|exact .refl _|exact .drop|exact .fin|((repeat refine .pick ?_);first|exact .refl _|exact .emp _|exact .fin))) ?_;conv=>whnf))
    obtain ⟨b20,hb20⟩:∃ b20,b20 = blk:=⟨_,rfl⟩
    rw [← hb20]
    have hdec:∀ k (xk:PgX),r.xs[k]? = some xk → decide (q ∈ r.m.take (k + 1)) = (decide (q ∈ r.m.take k) || decide (q = xk.m)):=fun k xk hk=>by
     unfold RowX.m
     rw [List.take_add_one,List.getElem?_map,hk,Bool.eq_iff_iff]
     simp
    refine LoopK.intro tab_ok (L:=f_z2.live) (ι:=Nat) (fun k=>k ≤ r.xs.length) (fun k=>[(9,ptr b),(15,.int .i64 n),(20,ptr b20),(22,.bool (decide (q ∈ r.m.take k))),(23,.int .i64 k)])
     (fun _=>pts b20 (.cells ⟨[.int .i64 y.m.num,.int .i64 y.m.lsn,.slice y.ca y.m.C.length y.cc,.slice y.ga y.m.G.length y.gc]⟩ t_page_Page)•vec t_z17 5 cntv y.ca y.cc y.m.C•vec t_zq 2 grpv y.ga y.gc y.m.G•stoo X.q S2•storec b X•R) (fun k=>r.xs.length - k) 0 (Nat.zero_le _) (Fr.inn_sub ⟨rfl,rfl,rfl,by rw [List.take_zero];simp;rfl,rfl,trivial⟩) (by first|exact .refl _|exact .drop|exact .fin|((repeat refine .pick ?_);first|exact .refl _|exact .emp _|exact .fin)) ?_
    rintro k hk
    haveI cP:∀ Q:HProp,RowC W (storec b X•Q) r.a 4 PgX.cells r.xs:=fun Q=>rowP hm
    conv=>whnf
    by_cases hk1:k < r.xs.length
    ·obtain ⟨xk,hxk⟩:∃ xk,r.xs[k]? = some xk:=⟨_,List.getElem?_eq_getElem hk1⟩
     have hxkm:=List.mem_of_getElem? hxk
     haveI c1:∀ Q:HProp,RowC W (storec b X•Q) xk.ca 5 cntv xk.m.C:=fun Q=>(rowPC hm hxkm).1
     haveI c2:∀ Q:HProp,RowC W (storec b X•Q) xk.ga 2 grpv xk.m.G:=fun Q=>(rowPC hm hxkm).2
     have hd9:=hdec k xk hxk
     by_cases hone:q ∈ r.m.take k
     ·rw [decide_eq_true hone] at hd9 ⊢
      repeat' (first
       | (refine spl_dec (fun hd=>?_) (fun hd=>?_) <;> first|(exfalso;omega)|(conv=>whnf))
       | ((first|refine Ld.i ?_|refine Ar.i64 (by omega) ?_);conv=>whnf)
       | (refine IxS.r (xs:=X.H) (i:=n) rfl rfl hltH (fun ab off ha=>?_);haveI:∀ Q:HProp,RowC W (storec b X•Q) (some ⟨ab,off,none⟩) 1 rowxv X.H:=(fun Q=>by rw [← ha];exact rowH);conv=>whnf)
       | (refine Ld.r0 (xs:=X.H) hr rfl ?_;conv=>whnf)
       | (refine DrawK.introH tab_ok mixed 199 f_z2.last36 f_z2.plan36 _ rfl (by kernel_rfl) (Sub.of (by first|exact .refl _|exact .drop|exact .fin|((repeat refine .pick ?_);first|exact .refl _|exact .emp _|exact .fin))) ?_;conv=>whnf))
      exact ⟨rfl,k + 1,hk1,Fr.inn_sub ⟨rfl,rfl,rfl,by rw [hd9];rfl,rfl,trivial⟩,(by first|exact .refl _|exact .drop|exact .fin|((repeat refine .pick ?_);first|exact .refl _|exact .emp _|exact .fin)),by omega⟩
     ·rw [decide_eq_false hone] at hd9 ⊢
      have e9:decide ((⟨y.m.num,y.m.lsn,y.m.C,y.m.G⟩:PgM) = ⟨xk.m.num,xk.m.lsn,xk.m.C,xk.m.G⟩) = decide (q = xk.m):=by rw [← hyq]
      repeat' (first
       | (refine CallK.ret f_z34.ok (same_spec (C:=y.m.C) (G:=y.m.G) (C':=xk.m.C) (G':=xk.m.G) (by infer_instance) (by infer_instance) (by infer_instance) (by infer_instance) (by rw [hyq];omega) (by rw [hyq];omega)) ?_;rw [e9];rintro v G ⟨rfl,rfl⟩;conv=>whnf)
       | (refine spl_dec (fun hd=>?_) (fun hd=>?_) <;> first|(exfalso;omega)|(conv=>whnf))
       | ((first|refine Ld.i ?_|refine LdN.i ?_|refine Ar.i64 (by omega) ?_);conv=>whnf)
       | (refine IxS.r (xs:=X.H) (i:=n) rfl rfl hltH (fun ab off ha=>?_);haveI:∀ Q:HProp,RowC W (storec b X•Q) (some ⟨ab,off,none⟩) 1 rowxv X.H:=(fun Q=>by rw [← ha];exact rowH);conv=>whnf)
       | (refine Ld.r0 (xs:=X.H) hr rfl ?_;conv=>whnf)
       | (refine IxS.r (xs:=r.xs) (i:=k) rfl rfl hk1 (fun ab off ha=>?_);haveI:∀ Q:HProp,RowC W (storec b X•Q) (some ⟨ab,off,none⟩) 4 PgX.cells r.xs:=(fun Q=>by rw [← ha];exact rowP hm);conv=>whnf)
       | (refine LdN.r (xs:=r.xs) hxk rfl ?_;conv=>whnf)
       | (refine Sub.on (by first|exact .refl _|exact .drop|exact .fin|((repeat refine .pick ?_);first|exact .refl _|exact .emp _|exact .fin)) ?_;conv=>whnf)
       | (refine DrawK.introH tab_ok mixed 199 f_z2.last36 f_z2.plan36 _ rfl (by kernel_rfl) (Sub.of (by first|exact .refl _|exact .drop|exact .fin|((repeat refine .pick ?_);first|exact .refl _|exact .emp _|exact .fin))) ?_;conv=>whnf)
       | (refine CallK.ret f_z35.ok (qback_spec) ?_;rintro v G ⟨rfl,rfl⟩;conv=>whnf))
      exact ⟨rfl,k + 1,hk1,Fr.inn_sub ⟨rfl,rfl,rfl,by rw [hd9];rfl,rfl,trivial⟩,(by first|exact .refl _|exact .drop|exact .fin|((repeat refine .pick ?_);first|exact .refl _|exact .emp _|exact .fin)),by omega⟩
    ·have hall:r.m.take k = r.m:=List.take_of_length_le (by unfold RowX.m;rw [List.length_map];omega)
     rw [decide_eq_true (show q ∈ r.m.take k by rw [hall];exact hqm)]
     repeat' (first
      | (refine spl_dec (fun hd=>?_) (fun hd=>?_) <;> first|(exfalso;omega)|(conv=>whnf))
      | ((first|refine Ld.i ?_|refine Ar.i64 (by omega) ?_);conv=>whnf)
      | (refine IxS.r (xs:=X.H) (i:=n) rfl rfl hltH (fun ab off ha=>?_);haveI:∀ Q:HProp,RowC W (storec b X•Q) (some ⟨ab,off,none⟩) 1 rowxv X.H:=(fun Q=>by rw [← ha];exact rowH);conv=>whnf)
      | (refine Ld.r0 (xs:=X.H) hr rfl ?_;conv=>whnf))
     exact ⟨rfl,n + 1,by omega,Fr.inn_sub ⟨rfl,rfl,trivial⟩,(by first|exact .refl _|exact .drop|exact .fin|((repeat refine .pick ?_);first|exact .refl _|exact .emp _|exact .fin)),by omega⟩
   ·repeat' (first
     | (refine spl_dec (fun hd=>?_) (fun hd=>?_) <;> first|(exfalso;omega)|(conv=>whnf))
     | (refine Ld.i ?_;conv=>whnf))
    refine Ret.eq rfl ?_
    first|exact .refl _|exact .drop|exact .fin|((repeat refine .pick ?_);first|exact .refl _|exact .emp _|exact .fin)
end Go.Proofs.YtbcedpankkdfoaaGreatDoor
