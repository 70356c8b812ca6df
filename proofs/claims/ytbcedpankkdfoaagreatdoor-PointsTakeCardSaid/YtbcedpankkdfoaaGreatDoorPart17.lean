/- The program's log.Force, walked. Conditions: in each statement. -/
import Derived.Test.YtbcedpankkdfoaaGreatDoorPart16
import Derived.Test.YtbcedpankkdfoaaGreatDoorPart15
set_option linter.unusedVariables false
set_option linter.unusedSimpArgs false
namespace Go.SL
open Go
theorem CallK.any {P:Program} {W:World} {f:FuncId} {args:List Value} {H:HProp} {K:Value → HProp → Prop} {Kp:List PanicEntry → HProp → Prop} {Q:Ending → HProp → Prop} (ok:Callable P f)
  (h:Does P W f ⟨args⟩ H (fun e G=>∃ G',Imp G G' ∧ Q e G')) (k:∀ e G,Q e G → CallQ K Kp e G):CallK P W f args H K Kp :=
 ⟨.inl ⟨ok,⟨fun w hs=>(h.run w hs).mono fun e _ ⟨_,hs',G',hi,hq⟩=>⟨G',hs'.imp hi,k e G' hq⟩⟩⟩⟩
end Go.SL
namespace Go.SL.Rec
open Go Go.SL Go.SL.Sec Go.SL.Fld Go.SL.Pts
def wrs (first:Int):Nat → List (List Int) → Dev → Int × Dev
 | _,[],D=>D.sync
 | n,b :: l,D=>if (D.write (first + n - 1) (laidB n b)).1 = 0 then wrs first (n + 1) l (D.write (first + n - 1) (laidB n b)).2 else D.write (first + n - 1) (laidB n b)
def LogM.force (M:LogM) (D:Dev) (lsn:Int):Int × LogM × Dev :=
 if M.err.isSome then (40,M,D) else if lsn < 0 ∨ lsn > M.recs.length then (4,M,D) else if lsn ≤ M.forced then (0,M,D) else
 let r:=wrs M.first (M.forced + 1) (M.bys.take (lsn.toNat - M.forced)) D
 if r.1 = 0 then (0,{ M with bys:=M.bys.drop (lsn.toNat - M.forced),forced:=lsn.toNat },r.2) else (r.1,{ M with err:=some (0,r.1) },r.2)
end Go.SL.Rec
namespace Go.Proofs.YtbcedpankkdfoaaGreatDoor
open Go Go.SL Go.SL.Sec Go.SL.Fld Go.SL.Pts Go.SL.Rec
open Go.SL.Und (RecV recv fits)
instance (priority:=130) keepc_devn {R A:HProp} {d:Nat} {X:DevX} [k:KeepC R A]:KeepC (devo d X•R) A:=⟨Imp.trans Imp.drop k.h⟩
abbrev refv (at_ e:Int):Value:=.iface t_log_refusal (.agg ⟨[.int .i64 at_,.int .i64 e]⟩)
def AskQ (e:Int) (P:HProp → Prop) (en:Ending) (G:HProp):Prop:=((e = 0 ∧ en = .returned (.tuple ⟨[]⟩)) ∨ (e ≠ 0 ∧ en = .panicked (pan (refv 0 e)))) ∧ P G
theorem force1_spec {W:World} {R:HProp} {bl bn l d:Nat} {X:LogX} {Y:DevX} {m:Nat} (hX:X.Ok) (hY:Y.Ok) (hq:Y.ps.length ≤ 500000) (hd:X.d = d) (hf:0 ≤ X.first ∧ X.first ≤ 8192) (hm:m ≤ X.bys.length) :
  Does prog W f_z1j ⟨[ptr bl,ptr bn]⟩ (pts bl (.cells ⟨[ptr l]⟩ t_z2h)•pts bn (.cells ⟨[.int .i64 ((X.forced + m:Nat):Int)]⟩ t_int)•logo l X•devo d Y•R)
   (fun en G=>∃ G',Imp G G' ∧ AskQ (wrs X.first (X.forced + 1) (X.val.bys.take m) Y.val).1 (fun G=>∃ Y':DevX,Y'.Ok ∧ Y'.val = (wrs X.first (X.forced + 1) (X.val.bys.take m) Y.val).2 ∧ Y'.ps.length ≤ Y.ps.length + m ∧
    G = (devo d Y'•pts bl (.cells ⟨[ptr l]⟩ t_z2h)•pts bn (.cells ⟨[.int .i64 ((X.forced + m:Nat):Int)]⟩ t_int)•logo l X•R)) en G'):=by
 subst hd
 have hlen:=hX.len
 have hcnt:=hX.cnt
 have hbl:=hX.bl
 obtain ⟨B,hB⟩:∃ B,B = X.val.bys.take m:=⟨_,rfl⟩
 have hBl:B.length = m:=by rw [hB,List.length_take];show min m (X.bys.map (·.b)).length = m;rw [List.length_map];omega
 have hBi:∀ (i:Nat) (x:BytX),i < m → X.bys[i]? = some x → B[i]? = some x.b:=fun i x hi hx=>by
  rw [hB,List.getElem?_take_of_lt hi]
  show (X.bys.map (·.b))[i]? = _
  rw [List.getElem?_map,hx];rfl
 rw [← hB]
 obtain ⟨RR,hRR⟩:∃ RR,RR = wrs X.first (X.forced + 1) B Y.val:=⟨_,rfl⟩
 rw [← hRR]
 refine f_z1j.does _ _ ?_
 conv=>whnf
 repeat' (first
  | ((first|refine Ld.i ?_|refine Ar.i64 (by omega) ?_);conv=>whnf))
 refine LoopK.at tab_ok (L:=f_z1j.live) (ι:=Nat × DevX) (fun i=>i.1 ≤ m ∧ wrs X.first (X.forced + 1 + i.1) (B.drop i.1) i.2.val = RR ∧ i.2.Ok ∧ i.2.ps.length ≤ Y.ps.length + i.1) (fun i=>[(2,.int .i64 ((X.forced + 1 + i.1:Nat):Int))])
  (fun i=>devo X.d i.2) (fun i=>m - i.1) (0,Y) ⟨by simp,by rw [hRR];rfl,hY,by simp⟩ (fun t v h=>h) (Imp.pick (Imp.refl _)) ?_
 rintro ⟨k,Z⟩ ⟨hk,hw,hZ,hZq⟩
 dsimp only at hk hw hZ hZq ⊢
 conv=>whnf
 by_cases h1:k < m
 ·obtain ⟨x,hx⟩:∃ x,X.bys[k]? = some x:=⟨_,List.getElem?_eq_getElem (by omega)⟩
  have hkl:=(List.getElem?_eq_some_iff.1 hx).1
  have hbx:=hX.byt x (List.mem_of_getElem? hx)
  haveI rb:∀ Q:HProp,RowC W (logo l X•Q) x.a 1 bytv x.b:=fun Q=>RowC.logB hx
  rw [drop_of (hBi k x h1 hx),wrs] at hw
  obtain ⟨nn,hnn⟩:∃ nn:Int,nn = ((X.forced + 1 + k:Nat):Int):=⟨_,rfl⟩
  have hl512:(laidB nn x.b).length = 512:=laidB_len hbx.2
  have hbyt:Byt (laidB nn x.b):=laidB_byt hbx.1
  haveI r512:∀ (a:Option Addr) (c:Nat) (Q:HProp),RowN W (vec t_uint8 1 bytv a c (laidB nn x.b)•Q) a 512 1 bytv (laidB nn x.b):=fun a c Q=>⟨inferInstance,hl512.symm⟩
  rw [← hnn] at hw ⊢
  obtain ⟨e,he⟩:∃ e,e = (Z.val.write (X.first + nn - 1) (laidB nn x.b)).1:=⟨_,rfl⟩
  rw [← he] at hw
  by_cases he0:e = 0
  ·rw [if_pos he0] at hw
   repeat' (first
    | (refine DrawK.introK tab_ok mixed 13 f_z1j.last3 f_z1j.plan3 rfl (by kernel_rfl) ?_;conv=>whnf)
    | (refine CallK.ret f_log_laid.ok (laid_spec (b:=x.b) (lsn:=nn) hbx.2 (by omega)) ?_;rintro v G ⟨sa,sc,rfl,rfl⟩;conv=>whnf)
    | (refine CallK.ret f_z11.ok (write_spec (X:=Z) (b:=laidB nn x.b) hZ (by omega) hbyt (by omega)) ?_;rintro v G ⟨Z',hZ',hZv,hZl,rfl,rfl⟩;rw [← he,he0];conv=>whnf)
    | (refine CallK.ret f_zw.ok asked_ok ?_;rintro v G ⟨rfl,rfl⟩;conv=>whnf)
    | (refine spl_dec (fun hd=>?_) (fun hd=>?_) <;> first|(exfalso;omega)|(conv=>whnf))
    | ((first|refine Ld.i ?_|refine Ar.i64 (by omega) ?_);conv=>whnf)
    | (refine IxS.r (xs:=X.bys) (i:=k) (by omega) rfl hkl (fun ab off ha=>?_);have rv:∀ Q:HProp,RowC W (logo l X•Q) (some ⟨ab,off,none⟩) 1 bytx X.bys:=fun Q=>ha ▸ inferInstance;conv=>whnf)
    | (refine Ld.r0 hx rfl ?_;conv=>whnf)
    | (refine Sub.on (by first|exact .refl _|exact .drop|exact .fin|((repeat refine .pick ?_);first|exact .refl _|exact .emp _|exact .fin)) ?_;conv=>whnf))
   have e2:nn + 1 = ((X.forced + 1 + (k + 1):Nat):Int):=by omega
   rw [e2]
   refine ⟨rfl,(k + 1,Z'),⟨h1,by rw [hZv];exact hw,hZ',by dsimp only;omega⟩,fun t v h=>h,?_,by dsimp only;omega⟩
   first|exact .refl _|exact .drop|exact .fin|((repeat refine .pick ?_);first|exact .refl _|exact .emp _|exact .fin)
  ·rw [if_neg he0] at hw
   repeat' (first
    | (refine DrawK.introK tab_ok mixed 13 f_z1j.last3 f_z1j.plan3 rfl (by kernel_rfl) ?_;conv=>whnf)
    | (refine CallK.ret f_log_laid.ok (laid_spec (b:=x.b) (lsn:=nn) hbx.2 (by omega)) ?_;rintro v G ⟨sa,sc,rfl,rfl⟩;conv=>whnf)
    | (refine CallK.ret f_z11.ok (write_spec (X:=Z) (b:=laidB nn x.b) hZ (by omega) hbyt (by omega)) ?_;rintro v G ⟨Z',hZ',hZv,hZl,rfl,rfl⟩;rw [← he];conv=>whnf)
    | (refine CallK.thr f_zw.ok (asked_no he0) ?_;rintro c G ⟨rfl,rfl⟩;conv=>whnf)
    | (refine spl_dec (fun hd=>?_) (fun hd=>?_) <;> first|(exfalso;omega)|(conv=>whnf))
    | ((first|refine Ld.i ?_|refine Ar.i64 (by omega) ?_);conv=>whnf)
    | (refine IxS.r (xs:=X.bys) (i:=k) (by omega) rfl hkl (fun ab off ha=>?_);have rv:∀ Q:HProp,RowC W (logo l X•Q) (some ⟨ab,off,none⟩) 1 bytx X.bys:=fun Q=>ha ▸ inferInstance;conv=>whnf)
    | (refine Ld.r0 hx rfl ?_;conv=>whnf)
    | (refine Sub.on (by first|exact .refl _|exact .drop|exact .fin|((repeat refine .pick ?_);first|exact .refl _|exact .emp _|exact .fin)) ?_;conv=>whnf))
   refine ⟨_,?_,.inr ⟨?_,?_⟩,Z',hZ',?_,?_,rfl⟩
   ·first|exact .refl _|exact .drop|exact .fin|((repeat refine .pick ?_);first|exact .refl _|exact .emp _|exact .fin)
   ·rw [← hw,← he];exact he0
   ·rw [← hw,← he]
   ·rw [hZv,← hw]
   ·omega
 ·rw [List.drop_eq_nil_of_le (by omega),wrs] at hw
  obtain ⟨e,he⟩:∃ e,e = Z.val.sync.1:=⟨_,rfl⟩
  by_cases he0:e = 0
  ·repeat' (first
    | (refine CallK.ret f_zx.ok (sync_spec (X:=Z) hZ (by omega)) ?_;rintro v G ⟨Z',hZ',hZv,hZl,rfl,rfl⟩;rw [← he,he0];conv=>whnf)
    | (refine CallK.ret f_zw.ok asked_ok ?_;rintro v G ⟨rfl,rfl⟩;conv=>whnf)
    | (refine spl_dec (fun hd=>?_) (fun hd=>?_) <;> first|(exfalso;omega)|(conv=>whnf))
    | (refine Ld.i ?_;conv=>whnf))
   refine ⟨_,?_,.inl ⟨?_,rfl⟩,Z',hZ',?_,?_,rfl⟩
   ·first|exact .refl _|exact .drop|exact .fin|((repeat refine .pick ?_);first|exact .refl _|exact .emp _|exact .fin)
   ·rw [← hw,← he];exact he0
   ·rw [hZv,← hw]
   ·omega
  ·repeat' (first
    | (refine CallK.ret f_zx.ok (sync_spec (X:=Z) hZ (by omega)) ?_;rintro v G ⟨Z',hZ',hZv,hZl,rfl,rfl⟩;rw [← he];conv=>whnf)
    | (refine CallK.thr f_zw.ok (asked_no he0) ?_;rintro c G ⟨rfl,rfl⟩;conv=>whnf)
    | (refine spl_dec (fun hd=>?_) (fun hd=>?_) <;> first|(exfalso;omega)|(conv=>whnf))
    | (refine Ld.i ?_;conv=>whnf))
   refine ⟨_,?_,.inr ⟨?_,?_⟩,Z',hZ',?_,?_,rfl⟩
   ·first|exact .refl _|exact .drop|exact .fin|((repeat refine .pick ?_);first|exact .refl _|exact .emp _|exact .fin)
   ·rw [← hw,← he];exact he0
   ·rw [← hw,← he]
   ·rw [hZv,← hw]
   ·omega
theorem caught1_ok {W:World} {H:HProp} {bc be:Nat}:DDoes prog W f_zr ⟨[ptr bc,ptr be]⟩ .returning H (RetD fun _ u G=>u = .returning ∧ G = H):=by
 refine DDoes.of_exec tab_ok f_zr.live f_zr.fn rfl rfl rfl (by simp) ?_
 skip
 exact ⟨_,_,rfl,Imp.refl _,rfl,rfl⟩
theorem caught1_no {W:World} {R:HProp} {bc be:Nat} {w:ByteArray} {z e:Int} {v:Value} {older:List PanicEntry} :
  DDoes prog W f_zr ⟨[ptr bc,ptr be]⟩ (.panicking (⟨refv z e,false,false⟩ :: older)) (pts bc (.cells ⟨[.string w]⟩ t_string)•pts be (.cells ⟨[v]⟩ t_error)•R)
   (RetD fun _ u G=>∃ b,u = .panicking (⟨refv z e,true,false⟩ :: older) ∧ G = (pts bc (.cells ⟨[.string w]⟩ t_string)•pts be (.cells ⟨[.iface t_z8 (ptr b)]⟩ t_error)•fltc b w z e•R)):=by
 refine DDoes.of_exec tab_ok f_zr.live f_zr.fn rfl rfl rfl (by simp) ?_
 repeat' (first
  | ((first|refine Ld.i ?_|refine St.i ⟨rfl,rfl⟩ (List.cons_ne_nil _ _) ?_);conv=>whnf)
  | (intro blk hblk;conv=>whnf))
 refine ⟨_,_,rfl,?_,blk,rfl,rfl⟩
 unfold fltc
 first|exact .refl _|exact .drop|exact .fin|((repeat refine .pick ?_);first|exact .refl _|exact .emp _|exact .fin)
theorem caught_spec {W:World} {H:HProp} {w:ByteArray} {g:FuncId} {cap:List Value} {e:Int} {P:HProp → Prop} (hg:Callable prog g)
  (h:∀ bc be:Nat,Does prog W g ⟨cap⟩ (pts be (.cells ⟨[.nilIface]⟩ t_error)•pts bc (.cells ⟨[.string w]⟩ t_string)•H) (fun en G=>∃ G',Imp G G' ∧ AskQ e (fun G=>∃ G0,P G0 ∧ G = (pts be (.cells ⟨[.nilIface]⟩ t_error)•pts bc (.cells ⟨[.string w]⟩ t_string)•G0)) en G')) :
  Does prog W f_z2l ⟨[.string w,.func (.func g) #[] ⟨cap⟩]⟩ H (Ret fun v G=>∃ G0,P G0 ∧ ((e = 0 ∧ v = .nilIface ∧ G = G0) ∨ (e ≠ 0 ∧ ∃ b,v = .iface t_z8 (ptr b) ∧ G = (fltc b w 0 e•G0)))):=by
 refine f_z2l.does _ _ ?_
 conv=>whnf
 repeat' (first
  | (intro blk hblk;conv=>whnf))
 refine CallK.any hg (h _ _) ?_
 rintro en G ⟨⟨h0,rfl⟩|⟨h0,rfl⟩,G0,hP,rfl⟩
 ·conv=>whnf
  repeat' (first
   | (refine St.i ⟨rfl,rfl⟩ (List.cons_ne_nil _ _) ?_;conv=>whnf))
  refine LeaveD.ret tab_ok (by simp) f_zr.ok caught1_ok ?_
  rintro _ _ G ⟨rfl,rfl⟩
  conv=>whnf
  repeat' (first
   | (refine Ld.i ?_;conv=>whnf))
  refine ⟨_,_,rfl,?_,G0,hP,.inl ⟨h0,rfl,rfl⟩⟩
  first|exact .refl _|exact .drop|exact .fin|((repeat refine .pick ?_);first|exact .refl _|exact .emp _|exact .fin)
 ·conv=>whnf
  skip
  refine LeaveD.ret tab_ok (by simp) f_zr.ok (DDoes.imp (by first|exact .refl _|exact .drop|exact .fin|((repeat refine .pick ?_);first|exact .refl _|exact .emp _|exact .fin)) (caught1_no (w:=w) (z:=0) (e:=e) (v:=.nilIface) (R:=G0) (older:=[]))) ?_
  rintro _ _ G ⟨b,rfl,rfl⟩
  conv=>whnf
  repeat' (first
   | (refine Ld.i ?_;conv=>whnf))
  refine ⟨_,_,rfl,?_,G0,hP,.inr ⟨h0,b,rfl,rfl⟩⟩
  first|exact .refl _|exact .drop|exact .fin|((repeat refine .pick ?_);first|exact .refl _|exact .emp _|exact .fin)
end Go.Proofs.YtbcedpankkdfoaaGreatDoor
/- The program's log.Force, walked. Conditions: in each statement. -/
namespace Go.Proofs.YtbcedpankkdfoaaGreatDoor
open Go Go.SL Go.SL.Sec Go.SL.Fld Go.SL.Pts Go.SL.Rec
open Go.SL.Und (RecV recv fits)
theorem Does.ask {W:World} {g:FuncId} {args:Array Value} {H:HProp} {e:Int} {P P':HProp → Prop} (h:Does prog W g args H (fun en G=>∃ G',Imp G G' ∧ AskQ e P en G')) (k:∀ G,P G → ∃ G',Imp G G' ∧ P' G'):Does prog W g args H (fun en G=>∃ G',Imp G G' ∧ AskQ e P' en G') :=
 ⟨fun w hs=>(h.run w hs).mono fun en _ ⟨X,hx,G,hi,ha,hp⟩=>let ⟨G',hi',hp'⟩:=k G hp;⟨X,hx,G',hi.trans hi',ha,hp'⟩⟩
theorem big_drop {α:Type} (f:α → HProp) (l:List α) (m:Nat):Imp (bigL f l) (bigL f (l.drop m)):=by
 have:=bigL_append f (l.take m) (l.drop m)
 rw [List.take_append_drop] at this
 rw [this];exact Imp.drop
theorem force_down {W:World} {H R:HProp} {l:Nat} {X:LogX} {n:Int} [t:ObjC logo H l X R] {b:Nat} {z e:Int} (he:X.err = some (b,z,e)) :
  Does prog W f_z4 ⟨[ptr l,.int .i64 n]⟩ H (Ret fun v G=>∃ b,v = .iface t_z8 (ptr b) ∧ G = (fltc b wForce 0 40•logo l X•R)):=by
 rw [t.h.eq]
 rw [logo_eq,he]
 unfold errv errc
 refine f_z4.does _ _ ?_
 conv=>whnf
 repeat' (first
  | (refine Ld.i ?_;conv=>whnf)
  | (intro blk hblk;conv=>whnf))
 refine ⟨_,_,rfl,?_,blk,rfl,rfl⟩
 unfold fltc
 first|exact .refl _|exact .drop|exact .fin|((repeat refine .pick ?_);first|exact .refl _|exact .emp _|exact .fin)
theorem force_place {W:World} {H R:HProp} {l:Nat} {X:LogX} {n:Int} [t:ObjC logo H l X R] (he:X.err = none) (hn:n < 0 ∨ n > X.recs.length) :
  Does prog W f_z4 ⟨[ptr l,.int .i64 n]⟩ H (Ret fun v G=>∃ b,v = .iface t_z8 (ptr b) ∧ G = (fltc b wForce 0 4•logo l X•R)):=by
 rw [t.h.eq]
 have hev:errv X.err = .nilIface:=by rw [he];rfl
 refine f_z4.does _ _ ?_
 conv=>whnf
 repeat' (first
  | (refine spl_dec (fun hd=>?_) (fun hd=>?_) <;> first|(exfalso;omega)|(conv=>whnf))
  | (refine Ld.i ?_;conv=>whnf)
  | (intro blk hblk;conv=>whnf)
  | (rw [hev];conv=>whnf)
  | (refine DrawK.introH tab_ok mixed 15 f_z4.last3 f_z4.plan3 _ rfl (by kernel_rfl) (Sub.of (by first|exact .refl _|exact .drop|exact .fin|((repeat refine .pick ?_);first|exact .refl _|exact .emp _|exact .fin))) ?_;conv=>whnf))
 all_goals
  refine ⟨_,_,rfl,?_,blk,rfl,rfl⟩
  unfold fltc
  first|exact .refl _|exact .drop|exact .fin|((repeat refine .pick ?_);first|exact .refl _|exact .emp _|exact .fin)
theorem force_idle {W:World} {H R:HProp} {l:Nat} {X:LogX} {n:Int} [t:ObjC logo H l X R] (he:X.err = none) (hn:0 ≤ n ∧ n ≤ X.forced ∧ n ≤ X.recs.length) :
  Does prog W f_z4 ⟨[ptr l,.int .i64 n]⟩ H (Ret fun v G=>v = .nilIface ∧ G = (logo l X•R)):=by
 rw [t.h.eq]
 have hev:errv X.err = .nilIface:=by rw [he];rfl
 refine f_z4.does _ _ ?_
 conv=>whnf
 repeat' (first
  | (refine spl_dec (fun hd=>?_) (fun hd=>?_) <;> first|(exfalso;omega)|(conv=>whnf))
  | (refine Ld.i ?_;conv=>whnf)
  | (intro blk hblk;conv=>whnf)
  | (rw [hev];conv=>whnf)
  | (refine DrawK.introH tab_ok mixed 15 f_z4.last3 f_z4.plan3 _ rfl (by kernel_rfl) (Sub.of (by first|exact .refl _|exact .drop|exact .fin|((repeat refine .pick ?_);first|exact .refl _|exact .emp _|exact .fin))) ?_;conv=>whnf)
  | (refine DrawK.introH tab_ok mixed 30 f_z4.last5 f_z4.plan5 _ rfl (by kernel_rfl) (Sub.of (by first|exact .refl _|exact .drop|exact .fin|((repeat refine .pick ?_);first|exact .refl _|exact .emp _|exact .fin))) ?_;conv=>whnf))
 refine Ret.eq rfl ?_
 first|exact .refl _|exact .drop|exact .fin|((repeat refine .pick ?_);first|exact .refl _|exact .emp _|exact .fin)
theorem force_go {W : World} {H R : HProp} {l d m : Nat} {X : LogX} {Y : DevX} (hH : H = (logo l X • devo d Y • R)) (hX : X.Ok) (hY : Y.Ok) (hq : Y.ps.length ≤ 500000) (hxd : X.d = d) (hf : 0 ≤ X.first ∧ X.first ≤ 8192) (he : X.err = none) (hm : 1 ≤ m ∧ m ≤ X.bys.length) :
    Does prog W f_z4 ⟨[ptr l,.int .i64 ((X.forced + m:Nat):Int)]⟩ H (Ret fun v G=>∃ (X':LogX) (Y':DevX),X'.d = X.d ∧ X'.Ok ∧ Y'.Ok ∧ Y'.ps.length ≤ Y.ps.length + m ∧ Y'.val = (wrs X.first (X.forced + 1) (X.val.bys.take m) Y.val).2 ∧ G = (logo l X'•devo d Y'•R) ∧
      (((wrs X.first (X.forced + 1) (X.val.bys.take m) Y.val).1 = 0 ∧ v = .nilIface ∧ X'.val = { X.val with bys:=X.val.bys.drop m,forced:=X.forced + m }) ∨
       ((wrs X.first (X.forced + 1) (X.val.bys.take m) Y.val).1 ≠ 0 ∧ ∃ b,v = .iface t_z8 (ptr b) ∧ X' = { X with err:=some (b,0,(wrs X.first (X.forced + 1) (X.val.bys.take m) Y.val).1) }))):=by
  subst hH
  have hev:errv X.err = .nilIface:=by rw [he];rfl
  have hlen:=hX.len
  have hcnt:=hX.cnt
  have hbl:=hX.bl
  obtain ⟨RR,hRR⟩:∃ RR,RR = wrs X.first (X.forced + 1) (X.val.bys.take m) Y.val:=⟨_,rfl⟩
  rw [← hRR]
  refine f_z4.does _ _ ?_
  conv=>whnf
  repeat' (first
    | (refine spl_dec (fun hd=>?_) (fun hd=>?_) <;> first|(exfalso;omega)|(conv=>whnf))
    | (refine Ld.i ?_;conv=>whnf)
    | (intro blk hblk;conv=>whnf)
    | (rw [hev];conv=>whnf)
    | (refine DrawK.introH tab_ok mixed 15 f_z4.last3 f_z4.plan3 _ rfl (by kernel_rfl) (Sub.of (by first|exact .refl _|exact .drop|exact .fin|((repeat refine .pick ?_);first|exact .refl _|exact .emp _|exact .fin))) ?_;conv=>whnf)
    | (refine DrawK.introH tab_ok mixed 30 f_z4.last5 f_z4.plan5 _ rfl (by kernel_rfl) (Sub.of (by first|exact .refl _|exact .drop|exact .fin|((repeat refine .pick ?_);first|exact .refl _|exact .emp _|exact .fin))) ?_;conv=>whnf))
  rename_i b1 _ _
  obtain ⟨b2,hb2⟩:∃ b2,b2 = blk:=⟨_,rfl⟩
  rw [← hb2]
  refine CallK.ret f_z2l.ok (caught_spec (w:=wForce) (e:=RR.1) (P:=fun G0=>∃ Y':DevX,Y'.Ok ∧ Y'.val = RR.2 ∧ Y'.ps.length ≤ Y.ps.length + m ∧ G0 = (devo d Y'•pts b1 (.cells ⟨[ptr l]⟩ t_z2h)•pts b2 (.cells ⟨[.int .i64 ((X.forced + m:Nat):Int)]⟩ t_int)•logo l X•R)) f_z1j.ok (fun bc be=>?_)) ?_
  · refine Does.imp (H':=pts b1 (.cells ⟨[ptr l]⟩ t_z2h)•pts b2 (.cells ⟨[.int .i64 ((X.forced + m:Nat):Int)]⟩ t_int)•logo l X•devo d Y•pts be (.cells ⟨[.nilIface]⟩ t_error)•pts bc (.cells ⟨[.string wForce]⟩ t_string)•R) (by first|exact .refl _|exact .drop|exact .fin|((repeat refine .pick ?_);first|exact .refl _|exact .emp _|exact .fin)) ?_
    have hfs:=force1_spec (W:=W) (R:=pts be (.cells ⟨[.nilIface]⟩ t_error)•pts bc (.cells ⟨[.string wForce]⟩ t_string)•R) (bl:=b1) (bn:=b2) (l:=l) (d:=d) hX hY hq hxd hf hm.2
    rw [← hRR] at hfs
    refine Does.ask hfs ?_
    rintro G ⟨Y',h1,h2,h3,rfl⟩
    refine ⟨_,?_,_,⟨Y',h1,h2,h3,rfl⟩,rfl⟩
    first|exact .refl _|exact .drop|exact .fin|((repeat refine .pick ?_);first|exact .refl _|exact .emp _|exact .fin)
  rintro v G ⟨G0,⟨Y',hY1,hY2,hY3,rfl⟩,⟨h0,rfl,rfl⟩|⟨h0,b,rfl,rfl⟩⟩
  · rw [logo_eq]
    conv=>whnf
    repeat' (first
      | ((first|refine Ld.i ?_|refine St.i ⟨rfl,rfl⟩ (List.cons_ne_nil _ _) ?_|refine Ar.i64 (by omega) ?_|refine OpQ.slr tab_ok m rfl rfl rfl rfl (by omega) (by omega) ?_);conv=>whnf)
      | (refine DrawK.introH tab_ok mixed 45 f_z4.last11 f_z4.plan11 _ rfl (by kernel_rfl) (Sub.of (by first|exact .refl _|exact .drop|exact .fin|((repeat refine .pick ?_);first|exact .refl _|exact .emp _|exact .fin))) ?_;conv=>whnf))
    refine ⟨_,_,rfl,?_,{ X with ba:=dropA X.ba m X.bc 1,bc:=X.bc - m,bys:=X.bys.drop m,forced:=X.forced + m },Y',rfl,⟨hcnt,hX.recs,hlen,by simp;omega,fun x hx=>hX.byt x (List.mem_of_mem_drop hx)⟩,hY1,hY3,hY2,rfl,.inl ⟨h0,rfl,?_⟩⟩
    · rw [logo_eq]
      dsimp only
      rw [List.length_drop,hev,he]
      refine Imp.pick (Imp.pick (Imp.pick (Imp.vdrop (xs:=X.bys) m hm.2 ?_)))
      refine Imp.trans (Q:=bigL bytc X.bys•errc none•devo d Y'•R) (by rw [← he];first|exact .refl _|exact .drop|exact .fin|((repeat refine .pick ?_);first|exact .refl _|exact .emp _|exact .fin)) ((big_drop bytc X.bys m).star (Imp.refl _))
    · simp [LogX.val,List.map_drop]
  · rw [logo_eq]
    conv=>whnf
    repeat' (first
      | ((first|refine Ld.i ?_|refine St.i ⟨rfl,rfl⟩ (List.cons_ne_nil _ _) ?_);conv=>whnf))
    refine ⟨_,_,rfl,?_,{ X with err:=some (b,0,RR.1) },Y',rfl,⟨hcnt,hX.recs,hlen,hbl,hX.byt⟩,hY1,hY3,hY2,rfl,.inr ⟨h0,b,rfl,?_⟩⟩
    · rw [logo_eq]
      show Imp _ (pts l (.cells ⟨[ptr X.d,.int .i64 X.first,.int .i64 X.count,.slice X.ra X.recs.length X.rc,.slice X.ba X.bys.length X.bc,.int .i64 X.forced,.iface t_z8 (ptr b)]⟩ t_log_Log) •
        vec t_z1m 17 recx X.ra X.rc X.recs•bigL recc X.recs•vec t_S_uint8 1 bytx X.ba X.bc X.bys•bigL bytc X.bys•fltc b wForce 0 RR.1•devo d Y'•R)
      first|exact .refl _|exact .drop|exact .fin|((repeat refine .pick ?_);first|exact .refl _|exact .emp _|exact .fin)
    · rfl
end Go.Proofs.YtbcedpankkdfoaaGreatDoor
/- Reading a sector of the program's disk, walked. Conditions: in each statement. -/
namespace Go.SL.Sec
open Go Go.SL
theorem lastOf_find (i:Int):∀ q:List (Int × List Int),lastOf i q = (q.reverse.find? fun p=>decide (p.1 = i)).map (·.2)
 | []=>rfl
 | p :: q=>by
  rw [lastOf,lastOf_find i q,List.reverse_cons,List.find?_append]
  cases h:q.reverse.find? fun p=>decide (p.1 = i) with
  | some x=>rfl
  | none =>
   by_cases e:p.1 = i
   ·simp [e]
   ·simp [e]
theorem lastOf_none {i:Int} {q:List (Int × List Int)} (h:∀ j,j < q.length → ∀ p,q.reverse[j]? = some p → p.1 ≠ i):lastOf i q = none:=by
 rw [lastOf_find,List.find?_eq_none.2];· rfl
 intro p hp
 obtain ⟨j,hj⟩:=List.getElem?_of_mem hp
 have hl:j < q.length:=by have:=(List.getElem?_eq_some_iff.1 hj).1;simpa using this
 simpa using h j hl p hj
theorem lastOf_some {i:Int} {q:List (Int × List Int)} {k:Nat} {p:Int × List Int} (hp:q.reverse[k]? = some p) (he:p.1 = i) (h:∀ j,j < k → ∀ p,q.reverse[j]? = some p → p.1 ≠ i):lastOf i q = some p.2:=by
 obtain ⟨hl,hg⟩:=List.getElem?_eq_some_iff.1 hp
 rw [lastOf_find,List.find?_eq_some_iff_getElem.2 ⟨by simpa using he,k,hl,hg,fun j hj=>?_⟩];· rfl
 simpa using h j hj _ (List.getElem?_eq_getElem (Nat.lt_trans hj hl))
end Go.SL.Sec
namespace Go.Proofs.YtbcedpankkdfoaaGreatDoor
open Go Go.SL Go.SL.Sec
theorem backward_spec {W:World} {R:HProp} {a:Option Addr} {n c:Nat} :
  Does prog W f_z40 ⟨[.slice a n c]⟩ R (Ret fun v G=>∃ B,v = .func (.func f_z30) ⟨[]⟩ ⟨[ptr B]⟩ ∧ G = (pts B (.cells ⟨[.slice a n c]⟩ t_S_api_Pending)•R)):=by
 refine f_z40.does _ ?_
 conv=>whnf
 repeat' (first
  | (intro blk hblk;conv=>whnf))
 exact ⟨_,_,rfl,Imp.refl _,blk,rfl,rfl⟩
theorem read_spec {W:World} {H R:HProp} {d:Nat} {X:DevX} {i:Int} [t:DevC H d X R] (hX:X.Ok) (hq:X.ps.length ≤ 1000000) :
  Does prog W f_zy ⟨[ptr d,.int .i64 i]⟩ H (Ret fun v G=>∃ a c,(X.val.read i).2.length ≤ c ∧ v = .tuple ⟨[.slice a (X.val.read i).2.length c,.int .i64 (X.val.read i).1]⟩ ∧ G = (vec t_uint8 1 bytv a c (X.val.read i).2•devo d X•R)):=by
 have hl:=hX.len
 have hsz:X.val.secs = (X.img.length:Int) / 512:=rfl
 rw [t.h.eq]
 unfold Dev.read
 by_cases h1:X.down = true
 ·rw [if_pos (show X.val.down = true from h1)]
  refine f_zy.does _ _ ?_
  conv=>whnf
  repeat' (first
   | ((first|refine spl_t h1 ?_|refine Ld.i ?_|refine St.i ⟨rfl,rfl⟩ (List.cons_ne_nil _ _) ?_);conv=>whnf)
   | (intro blk hblk;conv=>whnf))
  refine ⟨_,_,rfl,?_,none,0,Nat.le_refl _,rfl,rfl⟩
  refine Imp.vnil ?_
  first|exact .refl _|exact .drop|exact .fin|((repeat refine .pick ?_);first|exact .refl _|exact .emp _|exact .fin)
 rw [if_neg (show ¬ X.val.down = true from h1)]
 have h1f:X.down = false:=by simpa using h1
 by_cases h2:i < 0 ∨ i ≥ X.val.secs
 ·rw [if_pos h2]
  refine f_zy.does _ _ ?_
  conv=>whnf
  repeat' (first
   | (refine spl_f h1f ?_;conv=>whnf)
   | (refine spl_dec (fun hd=>?_) (fun hd=>?_) <;> first|(exfalso;omega)|(conv=>whnf))
   | ((first|refine Ld.i ?_|refine St.i ⟨rfl,rfl⟩ (List.cons_ne_nil _ _) ?_);conv=>whnf)
   | (intro blk hblk;conv=>whnf)
   | (refine Sub.on (by first|exact .refl _|exact .drop|exact .fin|((repeat refine .pick ?_);first|exact .refl _|exact .emp _|exact .fin)) ?_;conv=>whnf)
   | (refine DrawK.introH tab_ok mixed 14 f_zy.last3 f_zy.plan3 _ rfl (by kernel_rfl) (Sub.of (by first|exact .refl _|exact .drop|exact .fin|((repeat refine .pick ?_);first|exact .refl _|exact .emp _|exact .fin))) ?_;conv=>whnf)
   | (refine CallK.ret f_z1h.ok (sectors_spec (by first|rfl|assumption|omega|decide|(simp;done)|(simp;omega)|(simp at *;omega))) ?_;rintro v G ⟨rfl,rfl⟩;conv=>whnf))
  all_goals
   refine ⟨_,_,rfl,?_,none,0,Nat.le_refl _,rfl,rfl⟩
   refine Imp.vnil ?_
   first|exact .refl _|exact .drop|exact .fin|((repeat refine .pick ?_);first|exact .refl _|exact .emp _|exact .fin)
 rw [if_neg h2]
 refine f_zy.does _ _ ?_
 conv=>whnf
 repeat' (first
  | (refine spl_f h1f ?_;conv=>whnf)
  | (refine spl_dec (fun hd=>?_) (fun hd=>?_) <;> first|(exfalso;omega)|(conv=>whnf))
  | (refine Ld.i ?_;conv=>whnf)
  | (intro blk hblk;conv=>whnf)
  | (refine Sub.on (by first|exact .refl _|exact .drop|exact .fin|((repeat refine .pick ?_);first|exact .refl _|exact .emp _|exact .fin)) ?_;conv=>whnf)
  | (refine DrawK.introH tab_ok mixed 14 f_zy.last3 f_zy.plan3 _ rfl (by kernel_rfl) (Sub.of (by first|exact .refl _|exact .drop|exact .fin|((repeat refine .pick ?_);first|exact .refl _|exact .emp _|exact .fin))) ?_;conv=>whnf)
  | (refine CallK.ret f_z1h.ok (sectors_spec (by first|rfl|assumption|omega|decide|(simp;done)|(simp;omega)|(simp at *;omega))) ?_;rintro v G ⟨rfl,rfl⟩;conv=>whnf)
  | (refine CallK.ret f_z40.ok (backward_spec) ?_;rintro v G ⟨e_B,rfl,rfl⟩;conv=>whnf))
 rw [devo_eq]
 rename_i b3 hb3 b4 hb4 hd0
 obtain ⟨rest,hrest⟩:∃ G,G = (pts d (.cells ⟨[.slice X.ia X.img.length X.ic,.slice X.qa X.ps.length X.qc,.int .i64 X.step,.slice X.ka X.keep.length X.kc,.int .i64 X.torn,.int .i64 X.off,.bool X.down,.int .i64 X.calls]⟩ t_z4c) •
  vec t_uint8 1 bytv X.ia X.ic X.img•bigL pendc X.ps•vec t_uint64 1 u64s X.ka X.kc X.keep•R):=⟨_,rfl⟩
 refine RangeK.intro (L:=f_zy.live) tab_ok rfl f_z30.ok X.ps.length
  (fun k=>[.int .i64 ((X.ps.length:Int) - 1 - k),.agg ⟨(X.ps.reverse[k]?.map pendv).getD []⟩]) (fun _=>rfl) (by simp) rfl rfl
  (fun k (_:Unit)=>∀ j,j < k → ∀ p,X.val.q.reverse[j]? = some p → p.1 ≠ i) (fun _ _=>pts b3 (.cells ⟨[.int .i64 i]⟩ t_int)•pts b4 (.cells ⟨[.slice none 0 0]⟩ t_S_uint8)•pts blk (.cells ⟨[i0]⟩ t_z1)•rest)
  (fun _ (r:Option Addr × Nat)=>(X.val.at i).length ≤ r.2) (fun _ r=>vec t_uint8 1 bytv r.1 r.2 (X.val.at i)•pts b4 (.cells ⟨[.slice r.1 (X.val.at i).length r.2]⟩ t_S_uint8)•pts blk (.cells ⟨[i0]⟩ t_z1)•rest)
  [.ret] (pts e_B (.cells ⟨[.slice X.qa X.ps.length X.qc]⟩ t_S_api_Pending)•vec t_z4b 2 pendv X.qa X.qc X.ps) () (fun j hj=>by omega) ?_ (backward_iter rfl hq) ?_ ?_ ?_
 ·subst hrest
  simp only [star_assoc]
  first|exact .refl _|exact .drop|exact .fin|((repeat refine .pick ?_);first|exact .refl _|exact .emp _|exact .fin)
 ·intro k _ hk hno Y
  obtain ⟨p,hp⟩:∃ p,X.ps.reverse[k]? = some p:=⟨_,List.getElem?_eq_getElem (by simpa using hk)⟩
  have hpv:X.val.q.reverse[k]? = some (p.sec,p.b):=by simp only [DevX.val,← List.map_reverse,List.getElem?_map,hp];rfl
  rw [hp]
  subst hrest
  haveI mp:MemC X.ps p:=⟨List.mem_reverse.1 (List.mem_of_getElem? hp)⟩
  haveI cp:∀ Q:HProp,RowC W (bigL pendc X.ps•Q) p.a 1 bytv p.b:=fun Q=>RowC.pend
  have hpl:=hX.val.q _ (by have:=List.mem_reverse.1 (List.mem_of_getElem? hpv);exact this)
  dsimp only at hpl
  conv=>whnf
  repeat' (first
   | (refine St.i ⟨rfl,rfl⟩ (List.cons_ne_nil _ _) ?_;conv=>whnf)
   | (intro blk hblk;conv=>whnf))
  refine ⟨rfl,_,Imp.pick (Imp.refl _),fun Y'=>?_⟩
  rename_i bw hbw
  conv=>whnf
  repeat' (first
   | (refine spl_dec (fun hd=>?_) (fun hd=>?_) <;> first|(exfalso;omega)|(conv=>whnf))
   | ((first|refine Ld.i ?_|refine St.i ⟨rfl,rfl⟩ (List.cons_ne_nil _ _) ?_);conv=>whnf)
   | (refine CallK.ret f_z20.ok (clone_spec (by first|rfl|assumption|omega|decide|(simp;done)|(simp;omega)|(simp at *;omega))) ?_;rintro v G ⟨e_a',e_cap',e_h1,rfl,rfl⟩;conv=>whnf))
  ·have hat:X.val.at i = p.b:=by unfold Dev.at;rw [lastOf_some hpv hd hno];rfl
   refine ⟨by simp,Imp.pick (Imp.known (e_a',e_cap') (by rw [hat];exact e_h1) ?_)⟩
   rw [hat]
   first|exact .refl _|exact .drop|exact .fin|((repeat refine .pick ?_);first|exact .refl _|exact .emp _|exact .fin)
  ·refine ⟨trivial,Imp.pick (Imp.known () (fun j hj q hq'=>?_) (by first|exact .refl _|exact .drop|exact .fin|((repeat refine .pick ?_);first|exact .refl _|exact .emp _|exact .fin)))⟩
   by_cases hjk:j = k
   ·subst hjk
    rw [hpv] at hq'
    cases hq'
    exact hd
   ·exact hno j (by omega) q hq'
 ·intro D _ hno
  subst hrest
  simp only [star_assoc]
  have hlm:=hX.val.len
  have hi:0 ≤ i ∧ i.toNat * 512 + 512 ≤ X.img.length:=by
   have:X.val.img.length = X.img.length:=rfl
   omega
  have hic:=hX.ic
  have hsec:X.val.at i = secOf X.img i:=by
   unfold Dev.at;rw [lastOf_none (fun j hj=>hno j (by simpa [DevX.val] using hj))];rfl
  have hso:(secOf X.img i).length = 512:=by simp only [secOf,List.length_take,List.length_drop];omega
  haveI rs:∀ Q:HProp,RowN W (vec t_uint8 1 bytv X.ia X.ic X.img•Q) (dropA X.ia (i.toNat * 512) X.ic 1) 512 1 bytv (secOf X.img i):=fun Q=>⟨RowC.sub _,hso.symm⟩
  conv=>whnf
  repeat' (first
   | ((first|refine Ld.i ?_|refine St.i ⟨rfl,rfl⟩ (List.cons_ne_nil _ _) ?_);conv=>whnf)
   | (refine CallK.ret f_z20.ok (clone_spec (by first|rfl|assumption|omega|decide|(simp;done)|(simp;omega)|(simp at *;omega))) ?_;rintro v G ⟨e_a',e_cap',e_h1,rfl,rfl⟩;conv=>whnf)
   | (refine CallK.ret f_z2m.ok (sector_spec (by first|rfl|assumption|omega|decide|(simp;done)|(simp;omega)|(simp at *;omega)) (by first|rfl|assumption|omega|decide|(simp;done)|(simp;omega)|(simp at *;omega)) (by first|rfl|assumption|omega|decide|(simp;done)|(simp;omega)|(simp at *;omega))) ?_;rintro v G ⟨rfl,rfl⟩;conv=>whnf))
  refine LeaveD.mark tab_ok ?_
  conv=>whnf
  repeat' (first
   | (refine Ld.i ?_;conv=>whnf))
  rw [hsec]
  refine ⟨_,_,rfl,?_,e_a',e_cap',e_h1,rfl,rfl⟩
  rw [devo_eq]
  first|exact .refl _|exact .drop|exact .fin|((repeat refine .pick ?_);first|exact .refl _|exact .emp _|exact .fin)
 ·intro D c r hc hr
  obtain rfl:=List.mem_singleton.1 hc
  subst hrest
  simp only [star_assoc]
  conv=>whnf
  refine LeaveD.mark tab_ok ?_
  conv=>whnf
  repeat' (first
   | (refine Ld.i ?_;conv=>whnf))
  refine ⟨_,_,rfl,?_,r.1,r.2,hr,rfl,rfl⟩
  rw [devo_eq]
  first|exact .refl _|exact .drop|exact .fin|((repeat refine .pick ?_);first|exact .refl _|exact .emp _|exact .fin)
end Go.Proofs.YtbcedpankkdfoaaGreatDoor
/- The program's package twin, walked: asking the disk; several sectors in a row. Conditions: in each statement. -/
namespace Go.SL.Twn
open Go Go.SL Go.SL.Sec
def ThereP (secs at_ many:Int):Prop:=0 ≤ at_ ∧ many ≤ secs ∧ at_ ≤ secs - many
instance {a b c:Int}:Decidable (ThereP a b c):=inferInstanceAs (Decidable (_ ∧ _))
def TmayP (secs at_ home:Int):Prop:=ThereP secs home 2 ∧ (home + 1 < at_ ∨ home > at_ + 2)
instance {a b c:Int}:Decidable (TmayP a b c):=inferInstanceAs (Decidable (_ ∧ _))
def pws (at_:Int) (b:List Int):Nat → Nat → Dev → Int × Dev
 | 0,_,D=>D.sync
 | n + 1,i,D=>if (D.write (at_ + i) ((b.drop (512 * i)).take 512)).1 = 0 then pws at_ b n (i + 1) (D.write (at_ + i) ((b.drop (512 * i)).take 512)).2 else D.write (at_ + i) ((b.drop (512 * i)).take 512)
theorem pws_next {at_:Int} {b:List Int} {n i:Nat} {D:Dev} (h:i < n):pws at_ b (n - i) i D = if (D.write (at_ + i) ((b.drop (512 * i)).take 512)).1 = 0 then pws at_ b (n - (i + 1)) (i + 1) (D.write (at_ + i) ((b.drop (512 * i)).take 512)).2 else D.write (at_ + i) ((b.drop (512 * i)).take 512):=by
 obtain ⟨m,hm⟩:∃ m,n - i = m + 1:=⟨n - i - 1,by omega⟩
 rw [hm,show n - (i + 1) = m by omega,pws]
end Go.SL.Twn
namespace Go.Proofs.YtbcedpankkdfoaaGreatDoor
open Go Go.SL Go.SL.Sec Go.SL.Twn
abbrev tref (e:Int):Value:=.iface t_twin_refusal (.agg ⟨[.int .i64 e]⟩)
def AskT (e:Int) (P:HProp → Prop) (en:Ending) (G:HProp):Prop:=((e = 0 ∧ en = .returned (.tuple ⟨[]⟩)) ∨ (e ≠ 0 ∧ en = .panicked (pan (tref e)))) ∧ P G
theorem tneed_ok {W:World} {R:HProp} {e:Int}:Does prog W f_zh ⟨[.bool true,.int .i64 e]⟩ R (Ret fun v G=>v = .tuple ⟨[]⟩ ∧ G = R):=by
 refine f_zh.does _ _ ?_
 conv=>whnf
 skip
 refine Ret.eq rfl ?_
 first|exact .refl _|exact .drop|exact .fin|((repeat refine .pick ?_);first|exact .refl _|exact .emp _|exact .fin)
theorem tneed_no {W:World} {R:HProp} {e:Int}:Does prog W f_zh ⟨[.bool false,.int .i64 e]⟩ R (Thr fun c G=>c = pan (tref e) ∧ G = R):=by
 refine f_zh.does _ _ ?_
 conv=>whnf
 skip
 exact Thr.eq rfl (Imp.refl _)
theorem tmust_ok {W:World} {R:HProp}:Does prog W f_z1r ⟨[.int .i64 0]⟩ R (Ret fun v G=>v = .tuple ⟨[]⟩ ∧ G = R):=by
 refine f_z1r.does _ ?_
 conv=>whnf
 repeat' (first
  | (refine CallK.ret f_zh.ok (tneed_ok) ?_;rintro v G ⟨rfl,rfl⟩;conv=>whnf))
 refine Ret.eq rfl ?_
 first|exact .refl _|exact .drop|exact .fin|((repeat refine .pick ?_);first|exact .refl _|exact .emp _|exact .fin)
theorem tmust_no {W:World} {R:HProp} {e:Int} (h:e ≠ 0):Does prog W f_z1r ⟨[.int .i64 e]⟩ R (Thr fun c G=>c = pan (tref e) ∧ G = R):=by
 refine f_z1r.does _ ?_
 conv=>whnf
 conv=>whnf
 rw [decide_eq_false h]
 repeat' (first
  | (refine CallK.thr f_zh.ok (tneed_no) ?_;rintro c G ⟨rfl,rfl⟩;conv=>whnf))
 exact Thr.eq rfl (Imp.refl _)
theorem there_spec {W:World} {H R:HProp} {d:Nat} {X:DevX} {z m:Int} [t:DevC H d X R] (hX:X.Ok) (hm:0 ≤ m ∧ m ≤ 10) :
  Does prog W f_z1e ⟨[ptr d,.int .i64 z,.int .i64 m]⟩ H (Ret fun v G=>v = .bool (decide (ThereP X.val.secs z m)) ∧ G = (devo d X•R)):=by
 rw [t.h.eq]
 have hsec:0 ≤ X.val.secs ∧ X.val.secs ≤ 8192:=by
  have:=hX.len
  unfold Dev.secs DevX.val
  dsimp only
  omega
 unfold ThereP
 refine f_z1e.does _ _ _ ?_
 conv=>whnf
 repeat' (first
  | (refine spl_dec (fun hd=>?_) (fun hd=>?_) <;> first|(exfalso;omega)|(conv=>whnf))
  | (refine Ar.i64 (by omega) ?_;conv=>whnf)
  | (refine CallK.ret f_z1h.ok ((sectors_spec hX)) ?_;rintro v G ⟨rfl,rfl⟩;conv=>whnf))
 all_goals
  refine Ret.eq (congrArg Value.bool (Bool.eq_iff_iff.2 ?_)) (Imp.refl _)
  refine ⟨fun h=>?_,fun h=>?_⟩
  ·first|exact absurd h (by decide)|(have h:=of_decide_eq_true h;exact decide_eq_true (by omega))
  ·have h:=of_decide_eq_true h
   first|exact decide_eq_true (by omega)|(exfalso;omega)
theorem tmay_spec {W:World} {H R:HProp} {d:Nat} {X:DevX} {z m:Int} [t:DevC H d X R] (hX:X.Ok) (hz:0 ≤ z ∧ z ≤ 8192) :
  Does prog W f_z2r ⟨[ptr d,.int .i64 z,.int .i64 m]⟩ H (Ret fun v G=>v = .bool (decide (TmayP X.val.secs z m)) ∧ G = (devo d X•R)):=by
 rw [t.h.eq]
 have hsec:0 ≤ X.val.secs ∧ X.val.secs ≤ 8192:=by
  have:=hX.len
  unfold Dev.secs DevX.val
  dsimp only
  omega
 unfold TmayP
 refine f_z2r.does _ _ _ ?_
 conv=>whnf
 by_cases ht:ThereP X.val.secs m 2
 ·have ht2:=ht
  unfold ThereP at ht2
  repeat' (first
   | (refine CallK.ret f_z1e.ok (there_spec (X:=X) hX (by omega)) ?_;rw [decide_eq_true ht];rintro v G ⟨rfl,rfl⟩;conv=>whnf)
   | (refine spl_dec (fun hd=>?_) (fun hd=>?_) <;> first|(exfalso;omega)|(conv=>whnf))
   | (refine Ar.i64 (by omega) ?_;conv=>whnf))
  all_goals
   refine Ret.eq (congrArg Value.bool (Bool.eq_iff_iff.2 ?_)) (Imp.refl _)
   refine ⟨fun h=>?_,fun h=>?_⟩
   ·first|exact absurd h (by decide)|exact decide_eq_true ⟨ht,by omega⟩|(have h:=of_decide_eq_true h;exact decide_eq_true ⟨ht,by omega⟩)
   ·have h:=(of_decide_eq_true h).2
    first|rfl|exact decide_eq_true (by omega)|(exfalso;omega)
 ·repeat' (first
   | (refine CallK.ret f_z1e.ok (there_spec (X:=X) hX (by omega)) ?_;rw [decide_eq_false ht];rintro v G ⟨rfl,rfl⟩;conv=>whnf))
  refine Ret.eq (congrArg Value.bool (decide_eq_false fun h=>ht h.1).symm) (Imp.refl _)
theorem running_ok {W:World} {H R:HProp} {d:Nat} {X:DevX} [t:DevC H d X R] (h:X.down = false):Does prog W f_zz ⟨[ptr d]⟩ H (Ret fun v G=>v = .tuple ⟨[]⟩ ∧ G = (devo d X•R)):=by
 rw [t.h.eq]
 refine f_zz.does _ ?_
 conv=>whnf
 repeat' (first
  | (refine CallK.ret f_z2o.ok (down_spec (X:=X)) ?_;rw [h];rintro v G ⟨rfl,rfl⟩;conv=>whnf)
  | (refine CallK.ret f_zh.ok (tneed_ok) ?_;rintro v G ⟨rfl,rfl⟩;conv=>whnf))
 refine Ret.eq rfl ?_
 first|exact .refl _|exact .drop|exact .fin|((repeat refine .pick ?_);first|exact .refl _|exact .emp _|exact .fin)
theorem running_no {W:World} {H R:HProp} {d:Nat} {X:DevX} [t:DevC H d X R] (h:X.down = true):Does prog W f_zz ⟨[ptr d]⟩ H (Thr fun c G=>c = pan (tref 40) ∧ G = (devo d X•R)):=by
 rw [t.h.eq]
 refine f_zz.does _ ?_
 conv=>whnf
 repeat' (first
  | (refine CallK.ret f_z2o.ok (down_spec (X:=X)) ?_;rw [h];rintro v G ⟨rfl,rfl⟩;conv=>whnf)
  | (refine CallK.ret f_zh.ok (tneed_ok) ?_;rintro v G ⟨rfl,rfl⟩;conv=>whnf)
  | (refine CallK.thr f_zh.ok (tneed_no) ?_;rintro c G ⟨rfl,rfl⟩;conv=>whnf))
 exact Thr.eq rfl (Imp.refl _)
end Go.Proofs.YtbcedpankkdfoaaGreatDoor
/- The program's package twin, walked: reading, writing in a row. Conditions: in each statement. -/
namespace Go.SL
theorem OpQ.sly {P:Program} {W:World} {T:Tab} (hT:T.ok P) {st:TypeId} {s i j:Operand} {ty:TypeId} {ev:Operand → Option Value} {K:Value → Prop} {n c:Nat} {a:Option Addr} {H:HProp} {k k':IntKind} {z y:Int} {e:TypeId} {c1:List Value} {a1:Bool} {s1 b1:Nat} {r2:TRow} (lo m sz:Nat)
  (hs:ev s = some (.slice a n c)) (hi:ev i = some (.int k z)) (hj:ev j = some (.int k' y)) (h1:T st = some ⟨.slice e,c1,a1,s1,b1⟩) (h2:T e = some r2) (hsz:r2.size = sz) (hz:z = (lo:Int)) (hy:y = ((lo + m:Nat):Int)) (hc:lo + m ≤ c) (hk:K (.slice (dropA a lo c sz) m (c - lo))) :
  OpQ P W (.slice st s (some i) (some j) none) ty ev H K:=OpQ.slx hT lo m hs hi hj h1 h2 hz hy hc (hsz ▸ hk)
end Go.SL
namespace Go.SL.Sec
theorem lastOf_mem {i:Int} {b:List Int} {q:List (Int × List Int)} (h:lastOf i q = some b):∃ p ∈ q,p.2 = b:=by
 rw [lastOf_find] at h
 obtain ⟨p,hp,he⟩:=Option.map_eq_some_iff.1 h
 exact ⟨p,List.mem_reverse.1 (List.mem_of_find?_eq_some hp),he⟩
theorem Dev.read_len {D:Dev} {i:Int} (h:D.Ok) (he:(D.read i).1 = 0):(D.read i).2.length = 512 ∧ 0 ≤ i ∧ i < D.secs:=by
 have h1:=h.len
 unfold Dev.read at he ⊢
 unfold Dev.secs at he ⊢
 by_cases hd:D.down = true
 ·rw [if_pos hd] at he;exact absurd he (by decide)
 rw [if_neg hd] at he ⊢
 by_cases hi:i < 0 ∨ i ≥ (D.img.length:Int) / 512
 ·rw [if_pos hi] at he;exact absurd he (by decide)
 rw [if_neg hi]
 refine ⟨?_,by omega,by omega⟩
 unfold Dev.at
 cases hl:lastOf i D.q with
 | none =>
  unfold secOf
  dsimp only [Option.getD]
  rw [List.length_take,List.length_drop]
  omega
 | some b =>
  obtain ⟨p,hp,rfl⟩:=lastOf_mem hl
  exact (h.q p hp).2.2.1
end Go.SL.Sec
namespace Go.Proofs.YtbcedpankkdfoaaGreatDoor
open Go Go.SL Go.SL.Sec Go.SL.Twn
theorem tget_ok {W:World} {H R:HProp} {d:Nat} {X:DevX} {i:Int} [t:DevC H d X R] (hX:X.Ok) (hq:X.ps.length ≤ 1000000) (he:(X.val.read i).1 = 0) :
  Does prog W f_twin_get ⟨[ptr d,.int .i64 i]⟩ H (Ret fun v G=>∃ a c,512 ≤ c ∧ v = .slice a 512 c ∧ G = (vec t_uint8 1 bytv a c (X.val.read i).2•devo d X•R)):=by
 rw [t.h.eq]
 have h512:=(Dev.read_len hX.val he).1
 refine f_twin_get.does _ _ ?_
 conv=>whnf
 repeat' (first
  | (refine CallK.ret f_zy.ok (read_spec (X:=X) hX hq) ?_;rintro v G ⟨ra,rc,hrc,rfl,rfl⟩;rw [he];conv=>whnf)
  | (refine CallK.ret f_z1r.ok tmust_ok ?_;rintro v G ⟨rfl,rfl⟩;conv=>whnf))
 exact ⟨_,_,rfl,Imp.refl _,ra,rc,by omega,by rw [h512],rfl⟩
theorem put_go {W:World} {R:HProp} {d:Nat} {X:DevX} {z:Int} {a:Option Addr} {nn c n:Nat} {b:List Int} (ro:RowC W R a 1 bytv b) (hX:X.Ok) (hq:X.ps.length ≤ 500000) (hz:0 ≤ z ∧ z ≤ 8192) (hl:b.length = 512 * n) (hn:n ≤ 4) (hc:b.length ≤ c) (hb:Byt b) (hnn:nn = b.length) :
  Does prog W f_z28 ⟨[ptr d,.int .i64 z,.slice a nn c]⟩ (devo d X•R) (fun en G=>∃ G',Imp G G' ∧ AskT (pws z b n 0 X.val).1 (fun G=>∃ X':DevX,X'.Ok ∧ X'.val = (pws z b n 0 X.val).2 ∧ X'.ps.length ≤ X.ps.length + n ∧ G = (devo d X'•R)) en G'):=by
 subst hnn
 obtain ⟨RR,hRR⟩:∃ RR,RR = pws z b n 0 X.val:=⟨_,rfl⟩
 rw [← hRR]
 refine f_z28.does _ _ _ ?_
 conv=>whnf
 skip
 refine LoopK.at tab_ok (L:=f_z28.live) (ι:=Nat × DevX) (fun i=>i.1 ≤ n ∧ pws z b (n - i.1) i.1 i.2.val = RR ∧ i.2.Ok ∧ i.2.ps.length ≤ X.ps.length + i.1) (fun i=>[(6,.int .i64 i.1)])
  (fun i=>devo d i.2) (fun i=>n - i.1) (0,X) ⟨by simp,by rw [hRR];rfl,hX,by simp⟩ (fun t v h=>h) (Imp.pick (Imp.refl _)) ?_
 rintro ⟨i,Z⟩ ⟨hi,hw,hZ,hZq⟩
 dsimp only at hi hw hZ hZq ⊢
 conv=>whnf
 by_cases h1:i < n
 ·rw [pws_next h1] at hw
  obtain ⟨S,hS⟩:∃ S,S = (b.drop (512 * i)).take 512:=⟨_,rfl⟩
  have hSl:S.length = 512:=by rw [hS,List.length_take,List.length_drop];omega
  have hSb:Byt S:=hS ▸ (hb.drop _).take _
  rw [← hS] at hw
  obtain ⟨e,he⟩:∃ e,e = (Z.val.write (z + i) S).1:=⟨_,rfl⟩
  rw [← he] at hw
  haveI rS:RowN W R (dropA a (512 * i) c 1) 512 1 bytv S:=⟨by rw [hS];exact RowC.take _ (RowC.drop (512 * i) c hc ro),hSl.symm⟩
  by_cases he0:e = 0
  ·rw [if_pos he0] at hw
   repeat' (first
    | (refine CallK.ret f_z11.ok (write_spec (X:=Z) (b:=S) (ro:=rS) hZ (by omega) hSb (by omega)) ?_;rintro v G ⟨Z',hZ',hZv,hZl,rfl,rfl⟩;rw [← he,he0];conv=>whnf)
    | (refine CallK.ret f_z1r.ok tmust_ok ?_;rintro v G ⟨rfl,rfl⟩;conv=>whnf)
    | (refine spl_dec (fun hd=>?_) (fun hd=>?_) <;> first|(exfalso;omega)|(conv=>whnf))
    | (refine Ar.i64 (by omega) ?_;conv=>whnf)
    | (refine OpX.of_quiet (OpQ.sly tab_ok (512 * i) 512 1 rfl rfl rfl rfl rfl rfl (by omega) (by omega) (by omega) ?_);conv=>whnf))
   refine ⟨rfl,(i + 1,Z'),⟨h1,by rw [hZv];exact hw,hZ',by dsimp only;omega⟩,fun t v h=>h,?_,by dsimp only;omega⟩
   first|exact .refl _|exact .drop|exact .fin|((repeat refine .pick ?_);first|exact .refl _|exact .emp _|exact .fin)
  ·rw [if_neg he0] at hw
   repeat' (first
    | (refine CallK.ret f_z11.ok (write_spec (X:=Z) (b:=S) (ro:=rS) hZ (by omega) hSb (by omega)) ?_;rintro v G ⟨Z',hZ',hZv,hZl,rfl,rfl⟩;rw [← he];conv=>whnf)
    | (refine CallK.thr f_z1r.ok (tmust_no he0) ?_;rintro c G ⟨rfl,rfl⟩;conv=>whnf)
    | (refine spl_dec (fun hd=>?_) (fun hd=>?_) <;> first|(exfalso;omega)|(conv=>whnf))
    | (refine Ar.i64 (by omega) ?_;conv=>whnf)
    | (refine OpX.of_quiet (OpQ.sly tab_ok (512 * i) 512 1 rfl rfl rfl rfl rfl rfl (by omega) (by omega) (by omega) ?_);conv=>whnf))
   refine ⟨_,Imp.refl _,.inr ⟨?_,?_⟩,Z',hZ',?_,?_,rfl⟩
   ·rw [← hw,← he];exact he0
   ·rw [← hw,← he]
   ·rw [hZv,← hw]
   ·omega
 ·rw [show n - i = 0 by omega,pws] at hw
  obtain ⟨e,he⟩:∃ e,e = Z.val.sync.1:=⟨_,rfl⟩
  by_cases he0:e = 0
  ·repeat' (first
    | (refine CallK.ret f_zx.ok (sync_spec (X:=Z) hZ (by omega)) ?_;rintro v G ⟨Z',hZ',hZv,hZl,rfl,rfl⟩;rw [← he,he0];conv=>whnf)
    | (refine CallK.ret f_z1r.ok tmust_ok ?_;rintro v G ⟨rfl,rfl⟩;conv=>whnf)
    | (refine spl_dec (fun hd=>?_) (fun hd=>?_) <;> first|(exfalso;omega)|(conv=>whnf))
    | (refine Ar.i64 (by omega) ?_;conv=>whnf))
   refine ⟨_,Imp.refl _,.inl ⟨?_,rfl⟩,Z',hZ',?_,?_,rfl⟩
   ·rw [← hw,← he];exact he0
   ·rw [hZv,← hw]
   ·omega
  ·repeat' (first
    | (refine CallK.ret f_zx.ok (sync_spec (X:=Z) hZ (by omega)) ?_;rintro v G ⟨Z',hZ',hZv,hZl,rfl,rfl⟩;rw [← he];conv=>whnf)
    | (refine CallK.thr f_z1r.ok (tmust_no he0) ?_;rintro c G ⟨rfl,rfl⟩;conv=>whnf)
    | (refine spl_dec (fun hd=>?_) (fun hd=>?_) <;> first|(exfalso;omega)|(conv=>whnf))
    | (refine Ar.i64 (by omega) ?_;conv=>whnf))
   refine ⟨_,Imp.refl _,.inr ⟨?_,?_⟩,Z',hZ',?_,?_,rfl⟩
   ·rw [← hw,← he];exact he0
   ·rw [← hw,← he]
   ·rw [hZv,← hw]
   ·omega
end Go.Proofs.YtbcedpankkdfoaaGreatDoor
