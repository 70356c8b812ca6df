/- The program's pool: a page's frame; walked. Conditions: in each statement. -/
import Derived.Test.YtbcedpankkdfoaaGreatDoorPart25
import Derived.Test.YtbcedpankkdfoaaGreatDoorPart27
import Derived.Test.YtbcedpankkdfoaaGreatDoorPart26
import Derived.Test.YtbcedpankkdfoaaGreatDoorPart6
import Derived.Test.YtbcedpankkdfoaaGreatDoorPart9
namespace Go.SL.Pool
open Go Go.SL Go.SL.Sec Go.SL.Fld Go.SL.Rec Go.SL.Twn Go.SL.Pg Go.SL.Mst
theorem write_P (S:Sto) (n:Int) (f:FrM):(S.write n f).2.P = S.P ∨ (S.write n f).2.P = S.P.gone ∨ (S.write n f).2.P = S.P.put n { f with dirty:=false,since:=0 }:=by
 unfold Sto.write
 split
 ·exact .inl rfl
 dsimp only
 split
 ·unfold Sto.seen
  split
  ·exact .inr (.inl rfl)
  ·exact .inl rfl
 split
 ·unfold Sto.seen
  split
  ·exact .inr (.inl rfl)
  ·exact .inl rfl
 ·exact .inr (.inr rfl)
theorem leave_P {S:Sto} {o n:Int} {f:FrM} (hf:S.P.held.lookup o = some f) (hn:S.P.held.lookup n = none):(S.leave o f).2.P.held.lookup n = none ∧ (S.leave o f).2.P.pages = S.P.pages:=by
 have hne:n ≠ o:=fun e=>by rw [e,hf] at hn;cases hn
 have hw:(S.write o f).2.P.held.lookup n = none ∧ (S.write o f).2.P.pages = S.P.pages:=by
  rcases write_P S o f with h|h|h
  ·rw [h];exact ⟨hn,rfl⟩
  ·rw [h];exact ⟨rfl,rfl⟩
  ·rw [h]
   refine ⟨?_,rfl⟩
   show (updKV o _ S.P.held).lookup n = none
   rw [updKV_lookup,if_neg hne];exact hn
 unfold Sto.leave
 split
 ·exact hw
 ·refine ⟨?_,hw.2⟩
  show (delKV o _).lookup n = none
  rw [delKV_lookup,if_neg hne];exact hw.1
end Go.SL.Pool
namespace Go.Proofs.YtbcedpankkdfoaaGreatDoor
open Go Go.SL Go.SL.Sec Go.SL.Fld Go.SL.Pts Go.SL.Rec Go.SL.Twn Go.SL.Pg Go.SL.Mst Go.SL.Pool
def GetQ (p:Nat) (n:Int) (S:StoX) (T:Int × Sto) (R:HProp) (v:Value) (G:HProp):Prop:=∃ S':StoX,S'.Ok ∧ S.Same S' ∧ S'.val = T.2 ∧ G = (stoo p S'•R) ∧
 ((T.1 = 0 ∧ ∃ f,S'.P.held.lookup n = some f ∧ v = .tuple ⟨[ptr f.b,i0]⟩) ∨ (T.1 ≠ 0 ∧ v = .tuple ⟨[.pointer none,.int .i64 T.1]⟩))
set_option maxHeartbeats 2000000 in
theorem pget0_spec {W:World} {R:HProp} {p:Nat} {S:StoX} {n:Int} [le:LaidE W] [lc:LaidC W] [lp:LaidP W] [oc:OldC W R] (hS:S.Ok) (hc:0 ≤ S.P.clock ∧ S.P.clock ≤ 1000000000) :
  Does prog W f_z18 ⟨[ptr p,.int .i64 n]⟩ (stoo p S•R) (Ret (GetQ p n S (S.val.get n) R)):=by
 have hnd:=hS.nd
 have hok:=(hS.val.get n).1
 obtain ⟨T,hT⟩:∃ T,T = S.val.get n:=⟨_,rfl⟩
 rw [← hT] at hok ⊢
 unfold Sto.get at hT
 have epl:S.val.P = S.P.val:=rfl
 rw [epl] at hT
 obtain ⟨pl,hpl⟩:∃ e,e = S.P.val.place n:=⟨_,rfl⟩
 rw [← hpl] at hT
 rw [stoo_eq]
 refine f_z18.does _ _ ?_
 conv=>whnf
 by_cases c1:pl = 0
 rotate_left
 ·rw [if_pos c1] at hT
  subst hT
  repeat' (first
   | (refine CallK.ret f_zg.ok (pplace_spec (X:=S.P)) ?_;rw [← hpl];rintro v G ⟨rfl,rfl⟩;conv=>whnf)
   | (rw [decide_eq_false c1];conv=>whnf))
  exact ⟨_,_,rfl,Imp.refl _,S,hS,.refl S,rfl,(stoo_eq p S R).symm,.inr ⟨c1,rfl⟩⟩
 rw [if_neg (fun k=>k c1)] at hT
 have hn:0 ≤ n ∧ n < S.P.pages:=by
  rw [c1] at hpl
  unfold PoolM.place at hpl
  split at hpl
  ·cases hpl
  ·split at hpl
   ·cases hpl
   ·rename_i k
    have:S.P.val.pages = S.P.pages:=rfl
    omega
 cases hlk:S.P.held.lookup n with
 | some f =>
  rw [look_val hlk] at hT
  dsimp only at hT
  subst hT
  repeat' (first
   | (refine CallK.ret f_zg.ok (pplace_spec (X:=S.P)) ?_;rw [← hpl,c1];rintro v G ⟨rfl,rfl⟩;conv=>whnf)
   | (refine CallK.ret f_z2e.ok (puse_spec hnd hlk (by omega)) ?_;rintro v G ⟨rfl,rfl⟩;conv=>whnf)
   | ((first|refine Ld.i ?_|refine OpX.lks tab_ok hlk rfl rfl rfl rfl rfl ?_);conv=>whnf))
  have hv:(⟨S.P.use n f,S.L,S.D⟩:StoX).val = { S.val with P:=S.P.val.use n f.val }:=by unfold StoX.val;dsimp only;rw [use_val]
  exact ⟨_,_,rfl,Imp.refl _,⟨S.P.use n f,S.L,S.D⟩,⟨by rw [hv];exact hok,hS.L,hS.D,hS.ld⟩,⟨rfl,rfl⟩,hv,(stoo_eq p ⟨S.P.use n f,S.L,S.D⟩ R).symm,.inl ⟨rfl,_,(updKV_lookup n _ n S.P.held).trans (if_pos rfl),rfl⟩⟩
 | none =>
 rw [look_none hlk] at hT
 dsimp only at hT
 have hfr:S.P.val.frames = S.P.frames:=rfl
 have hhl:S.P.val.held.length = S.P.held.length:=mapv_length _ _
 rw [hfr,hhl] at hT
 have hus:∀ n m f g,S.P.held.lookup n = some f → S.P.held.lookup m = some g → f.used = g.used → n = m:=fun n m f g h1 h2 h3=>hS.val.us n m f.val g.val (look_val h1) (look_val h2) h3
 by_cases c2:(S.P.held.length:Int) ≥ S.P.frames
 ·rw [if_pos c2] at hT
  cases ho:oldest S.P.val.held with
  | none =>
   rw [ho] at hT
   dsimp only at hT
   subst hT
   repeat' (first
    | (refine CallK.ret f_zg.ok (pplace_spec (X:=S.P)) ?_;rw [← hpl,c1];rintro v G ⟨rfl,rfl⟩;conv=>whnf)
    | (refine CallK.ret f_zp.ok (poldest_spec hnd hus) ?_;rw [ho];rintro v G ⟨rfl,rfl⟩;conv=>whnf)
    | (refine spl_dec (fun hd=>?_) (fun hd=>?_) <;> first|(exfalso;omega)|(conv=>whnf))
    | (refine Ld.i ?_;conv=>whnf)
    | (refine OpX.of_quiet (OpQ.lkZ tab_ok (MapC.at' (inferInstance:MapC _ S.P.r .i64 (mapv fptr S.P.held) _)) ((mapv_lookup fptr n S.P.held).trans (by rw [hlk];rfl)) rfl rfl rfl rfl rfl ?_);conv=>whnf)
    | (refine OpQ.lm tab_ok rfl rfl ?_;rw [mapv_length];conv=>whnf)
    | (refine DrawK.introH tab_ok mixed 36 f_z18.last8 f_z18.plan8 _ rfl (by kernel_rfl) (Sub.of (by first|exact .refl _|exact .drop|exact .fin|((repeat refine .pick ?_);first|exact .refl _|exact .emp _|exact .fin))) ?_;conv=>whnf))
   exact ⟨_,_,rfl,Imp.refl _,S,hS,.refl S,rfl,(stoo_eq p S R).symm,.inr ⟨(show (6:Int) ≠ 0 by decide),rfl⟩⟩
  | some o =>
   rw [ho] at hT
   dsimp only at hT
   have hom:S.P.val.held.lookup o.1 = some o.2:=lookup_of_mem o.1 o.2 _ hS.val.nd (oldest_mem ho)
   obtain ⟨fo,hfo,hfv⟩:∃ fo,S.P.held.lookup o.1 = some fo ∧ fo.val = o.2:=by
    have h1:(mapv FrX.val S.P.held).lookup o.1 = some o.2:=hom
    rw [mapv_lookup] at h1
    exact Option.map_eq_some_iff.1 h1
   have hlv:=hS.val.leave hom
   rw [← hfv] at hT hlv
   obtain ⟨T1,hT1⟩:∃ T1,T1 = S.val.leave o.1 fo.val:=⟨_,rfl⟩
   rw [← hT1] at hT hlv
   repeat' (first
    | (refine CallK.ret f_zg.ok (pplace_spec (X:=S.P)) ?_;rw [← hpl,c1];rintro v G ⟨rfl,rfl⟩;conv=>whnf)
    | (refine CallK.ret f_zp.ok (poldest_spec hnd hus) ?_;rw [ho];rintro v G ⟨rfl,rfl⟩;conv=>whnf)
    | (refine spl_dec (fun hd=>?_) (fun hd=>?_) <;> first|(exfalso;omega)|(conv=>whnf))
    | (refine Ld.i ?_;conv=>whnf)
    | (refine OpX.of_quiet (OpQ.lkZ tab_ok (MapC.at' (inferInstance:MapC _ S.P.r .i64 (mapv fptr S.P.held) _)) ((mapv_lookup fptr n S.P.held).trans (by rw [hlk];rfl)) rfl rfl rfl rfl rfl ?_);conv=>whnf)
    | (refine OpQ.lm tab_ok rfl rfl ?_;rw [mapv_length];conv=>whnf)
    | (refine DrawK.introH tab_ok mixed 36 f_z18.last8 f_z18.plan8 _ rfl (by kernel_rfl) (Sub.of (by first|exact .refl _|exact .drop|exact .fin|((repeat refine .pick ?_);first|exact .refl _|exact .emp _|exact .fin))) ?_;conv=>whnf))
   rw [← stoo_eq]
   refine CallK.ret f_z3e.ok (pleave_spec hS hfo) ?_
   rw [← hT1]
   rintro v G ⟨S1,hS1,hs1,hv1,rfl,rfl⟩
   by_cases e0:T1.1 = 0
   rotate_left
   ·rw [if_pos e0] at hT
    subst hT
    conv=>whnf
    repeat' (first
     | (refine spl_ndec (fun hd=>?_) (fun hd=>?_) <;> first|(exfalso;omega)|(conv=>whnf)))
    exact ⟨_,_,rfl,Imp.refl _,S1,hS1,hs1,hv1,rfl,.inr ⟨e0,rfl⟩⟩
   rw [if_neg (fun k=>k e0)] at hT
   rw [e0,stoo_eq]
   have hlp:=leave_P (S:=S.val) (n:=n) (look_val hfo) (look_none hlk)
   have hT1':S.val.leave o.1 fo.val = T1:=hT1.symm
   rw [hT1',← hv1] at hlp
   have hno:S1.P.held.lookup n = none:=by
    have h1:(mapv FrX.val S1.P.held).lookup n = none:=hlp.1
    rw [mapv_lookup] at h1
    exact Option.map_eq_none_iff.1 h1
   have hc1:0 ≤ S1.P.clock ∧ S1.P.clock ≤ 1000000000:=by
    have h1:=hlv.2.2
    rw [← hv1] at h1
    have h2:S1.val.P.clock = S1.P.clock:=rfl
    have h3:S.val.P.clock = S.P.clock:=rfl
    omega
   have hp1:S1.P.pages = S.P.pages:=hlp.2
   rw [← hv1] at hT
   have hn1:0 ≤ n ∧ n < S1.P.pages:=by rw [hp1];exact hn
   conv=>whnf
   have hmP:MayP S1.P.pages S1.P.log S1.P.frames:=hS1.val.may
   have hpg:=hS1.val.page (n:=n) hn1
   have hpg':0 ≤ 5 + 2 * n ∧ 5 + 2 * n + 2 ≤ S1.D.val.secs:=by have:S1.val.D = S1.D.val:=rfl;rw [this] at hpg;omega
   unfold Sto.load at hT
   rw [show S1.val.D.down = S1.D.down from rfl] at hT
   cases hdn:S1.D.down with
   | true =>
    rw [hdn,if_pos rfl] at hT
    subst hT
    repeat' (first
     | (refine CallK.ret f_z1z.ok (home_yes hmP hn1) ?_;rintro v G ⟨rfl,rfl⟩;conv=>whnf)
     | ((first|refine Ld.i ?_|refine LdN.i ?_);conv=>whnf))
    refine CallK.imp (H':=devo S1.P.d S1.D•poolo p S1.P•logo S1.P.l S1.L•R) (by first|exact .refl _|exact .drop|exact .fin|((repeat refine .pick ?_);first|exact .refl _|exact .emp _|exact .fin)) ?_
    refine CallK.ret f_z1e.ok (prd_spec hS1.D (by rw [hS1.ps];omega) hpg') ?_
    rintro v G (⟨hd2,b,rfl,rfl⟩|⟨hd2,_⟩)
    rotate_left
    ·rw [hdn] at hd2;cases hd2
    conv=>whnf
    repeat' (first
     | (refine CallK.ret f_z1x.ok (pseen_spec (e:=40) (X:=S1.P) (.inr ⟨by decide,b,wRead,0,_,rfl,rfl⟩)) ?_;rw [if_pos rfl];rintro v G ⟨rfl,rfl⟩;conv=>whnf))
    have hv:(S1.seen S1.L S1.D 40).val = S1.val.ends:=by rw [seen_val];rfl
    refine ⟨_,_,rfl,?_,S1.seen S1.L S1.D 40,⟨by rw [hv];exact hok,hS1.L,hS1.D,hS1.ld⟩,hs1.trans (seen_same _ _ _ _),hv,rfl,.inr ⟨(show (40:Int) ≠ 0 by decide),rfl⟩⟩
    refine Imp.stoo (l:=S1.P.l) (d:=S1.P.d) (by rfl) (by rfl) ?_
    unfold StoX.seen
    rw [if_pos rfl]
    dsimp only
    first|exact .refl _|exact .drop|exact .fin|((repeat refine .pick ?_);first|exact .refl _|exact .emp _|exact .fin)
   | false =>
   rw [hdn,if_neg (by decide)] at hT
   dsimp only at hT
   rw [show S1.val.D = S1.D.val from rfl] at hT
   have hBy:Byt (S1.D.val.at (5 + 2 * n) ++ S1.D.val.at (5 + 2 * n + 1)):=(Dev.at_byt hS1.D.val).append (Dev.at_byt hS1.D.val)
   have hBl:(S1.D.val.at (5 + 2 * n) ++ S1.D.val.at (5 + 2 * n + 1)).length = 1024:=by
    have l1:=(Dev.read_len (i:=5 + 2 * n) hS1.D.val (by rw [read_of hdn (by omega)])).1
    have l2:=(Dev.read_len (i:=5 + 2 * n + 1) hS1.D.val (by rw [read_of hdn (by omega)])).1
    rw [read_of hdn (by omega)] at l1 l2
    rw [List.length_append]
    dsimp only at l1 l2
    omega
   obtain ⟨B,hB⟩:∃ B,B = S1.D.val.at (5 + 2 * n) ++ S1.D.val.at (5 + 2 * n + 1):=⟨_,rfl⟩
   rw [← hB] at hT hBy hBl
   obtain ⟨d,hd⟩:∃ d,d = decP B n:=⟨_,rfl⟩
   rw [← hd] at hT
   repeat' (first
    | (refine CallK.ret f_z1z.ok (home_yes hmP hn1) ?_;rintro v G ⟨rfl,rfl⟩;conv=>whnf)
    | ((first|refine Ld.i ?_|refine LdN.i ?_);conv=>whnf))
   refine CallK.imp (H':=devo S1.P.d S1.D•poolo p S1.P•logo S1.P.l S1.L•R) (by first|exact .refl _|exact .drop|exact .fin|((repeat refine .pick ?_);first|exact .refl _|exact .emp _|exact .fin)) ?_
   refine CallK.ret f_z1e.ok (prd_spec hS1.D (by rw [hS1.ps];omega) hpg') ?_
   rw [← hB]
   rintro v G (⟨hd2,_⟩|⟨_,ra,rc,rfl,rfl⟩)
   ·rw [hdn] at hd2;cases hd2
   conv=>whnf
   repeat' (first
    | (refine CallK.ret f_z1x.ok (pseen_spec (e:=0) (X:=S1.P) (.inl ⟨rfl,rfl⟩)) ?_;rw [if_neg (by decide)];rintro v G ⟨rfl,rfl⟩;conv=>whnf))
   refine CallK.have (p:=1024 ≤ rc) (fun w hs=>by have:=vec_len hs.right;omega) (fun hrc=>?_)
   refine CallK.ret f_za.ok (pdecode_spec (b:=B) ⟨inferInstance,hBl.symm⟩ (by omega) (by omega) hBy) ?_
   rw [← hd]
   rintro v G ⟨x,hx,rfl,rfl⟩
   by_cases e1:d.1 = 0
   rotate_left
   ·rw [if_pos e1] at hT
    subst hT
    conv=>whnf
    repeat' (first
     | (refine spl_ndec (fun hd=>?_) (fun hd=>?_) <;> first|(exfalso;omega)|(conv=>whnf))
     | (refine St.i ⟨rfl,rfl⟩ (List.cons_ne_nil _ _) ?_;conv=>whnf)
     | (intro blk hblk;conv=>whnf))
    refine ⟨_,_,rfl,?_,S1,hS1,hs1,rfl,rfl,.inr ⟨e1,rfl⟩⟩
    rw [stoo_eq]
    first|exact .refl _|exact .drop|exact .fin|((repeat refine .pick ?_);first|exact .refl _|exact .emp _|exact .fin)
   rw [if_neg (fun k=>k e1)] at hT
   rw [e1]
   conv=>whnf
   repeat' (first
    | ((first|refine Ld.i ?_|refine LdN.i ?_|refine St.i ⟨rfl,rfl⟩ (List.cons_ne_nil _ _) ?_);conv=>whnf)
    | (intro blk hblk;conv=>whnf)
    | (refine OpX.upv (f:=fptr) (m:=S1.P.held) tab_ok ⟨blk,x,0,false,0,0⟩ rfl rfl rfl rfl rfl rfl ?_;conv=>whnf))
   refine CallK.imp (H':=poolo p (S1.P.put n ⟨blk,x,0,false,0,0⟩)•devo S1.P.d S1.D•logo S1.P.l S1.L•R) ?_ ?_
   ·rw [poolo_eq]
    unfold PoolX.put
    dsimp only
    rw [bigM_ins _ n _ _ hno,star_assoc,frc_eq]
    first|exact .refl _|exact .drop|exact .fin|((repeat refine .pick ?_);first|exact .refl _|exact .emp _|exact .fin)
   refine CallK.ret f_z2e.ok (puse_spec (X:=S1.P.put n ⟨blk,x,0,false,0,0⟩) (n:=n) (f:=⟨blk,x,0,false,0,0⟩) (upd_nodup n _ _ hS1.nd) ((updKV_lookup n _ n S1.P.held).trans (if_pos rfl)) (show 0 ≤ S1.P.clock ∧ S1.P.clock ≤ 4000000000000 by omega)) ?_
   rintro v G ⟨rfl,rfl⟩
   conv=>whnf
   skip
   have hv:(⟨(S1.P.put n ⟨blk,x,0,false,0,0⟩).use n ⟨blk,x,0,false,0,0⟩,S1.L,S1.D⟩:StoX).val = T.2:=by
    rw [hT]
    unfold StoX.val
    dsimp only
    rw [use_val,put_val,← hx]
    unfold PoolM.use PoolM.put
    dsimp only
    rw [upd_upd]
    rfl
   refine ⟨_,_,rfl,?_,⟨(S1.P.put n ⟨blk,x,0,false,0,0⟩).use n ⟨blk,x,0,false,0,0⟩,S1.L,S1.D⟩,⟨by rw [hv];exact hok,hS1.L,hS1.D,hS1.ld⟩,hs1.trans ⟨rfl,rfl⟩,hv,rfl,.inl ⟨by rw [hT],_,(updKV_lookup n _ n _).trans (if_pos rfl),rfl⟩⟩
   refine Imp.stoo (l:=S1.P.l) (d:=S1.P.d) (by rfl) (by rfl) ?_
   dsimp only
   first|exact .refl _|exact .drop|exact .fin|((repeat refine .pick ?_);first|exact .refl _|exact .emp _|exact .fin)
 ·rw [if_neg c2] at hT
  have hn1:=hn
  repeat' (first
   | (refine CallK.ret f_zg.ok (pplace_spec (X:=S.P)) ?_;rw [← hpl,c1];rintro v G ⟨rfl,rfl⟩;conv=>whnf)
   | (refine spl_dec (fun hd=>?_) (fun hd=>?_) <;> first|(exfalso;omega)|(conv=>whnf))
   | ((first|refine Ld.i ?_|refine LdN.i ?_);conv=>whnf)
   | (refine OpX.of_quiet (OpQ.lkZ tab_ok (MapC.at' (inferInstance:MapC _ S.P.r .i64 (mapv fptr S.P.held) _)) ((mapv_lookup fptr n S.P.held).trans (by rw [hlk];rfl)) rfl rfl rfl rfl rfl ?_);conv=>whnf)
   | (refine OpQ.lm tab_ok rfl rfl ?_;rw [mapv_length];conv=>whnf)
   | (refine DrawK.introH tab_ok mixed 36 f_z18.last8 f_z18.plan8 _ rfl (by kernel_rfl) (Sub.of (by first|exact .refl _|exact .drop|exact .fin|((repeat refine .pick ?_);first|exact .refl _|exact .emp _|exact .fin))) ?_;conv=>whnf))
  have hmP:MayP S.P.pages S.P.log S.P.frames:=hS.val.may
  have hpg:=hS.val.page (n:=n) hn1
  have hpg':0 ≤ 5 + 2 * n ∧ 5 + 2 * n + 2 ≤ S.D.val.secs:=by have:S.val.D = S.D.val:=rfl;rw [this] at hpg;omega
  unfold Sto.load at hT
  rw [show S.val.D.down = S.D.down from rfl] at hT
  cases hdn:S.D.down with
  | true =>
   rw [hdn,if_pos rfl] at hT
   subst hT
   repeat' (first
    | (refine CallK.ret f_z1z.ok (home_yes hmP hn1) ?_;rintro v G ⟨rfl,rfl⟩;conv=>whnf)
    | (refine Ld.i ?_;conv=>whnf))
   refine CallK.imp (H':=devo S.P.d S.D•poolo p S.P•logo S.P.l S.L•R) (by first|exact .refl _|exact .drop|exact .fin|((repeat refine .pick ?_);first|exact .refl _|exact .emp _|exact .fin)) ?_
   refine CallK.ret f_z1e.ok (prd_spec hS.D (by rw [hS.ps];omega) hpg') ?_
   rintro v G (⟨hd2,b,rfl,rfl⟩|⟨hd2,_⟩)
   rotate_left
   ·rw [hdn] at hd2;cases hd2
   conv=>whnf
   repeat' (first
    | (refine CallK.ret f_z1x.ok (pseen_spec (e:=40) (X:=S.P) (.inr ⟨by decide,b,wRead,0,_,rfl,rfl⟩)) ?_;rw [if_pos rfl];rintro v G ⟨rfl,rfl⟩;conv=>whnf))
   have hv:(S.seen S.L S.D 40).val = S.val.ends:=by rw [seen_val];rfl
   refine ⟨_,_,rfl,?_,S.seen S.L S.D 40,⟨by rw [hv];exact hok,hS.L,hS.D,hS.ld⟩,(StoX.Same.refl S).trans (seen_same _ _ _ _),hv,rfl,.inr ⟨(show (40:Int) ≠ 0 by decide),rfl⟩⟩
   refine Imp.stoo (l:=S.P.l) (d:=S.P.d) (by rfl) (by rfl) ?_
   unfold StoX.seen
   rw [if_pos rfl]
   dsimp only
   first|exact .refl _|exact .drop|exact .fin|((repeat refine .pick ?_);first|exact .refl _|exact .emp _|exact .fin)
  | false =>
  rw [hdn,if_neg (by decide)] at hT
  dsimp only at hT
  rw [show S.val.D = S.D.val from rfl] at hT
  have hBy:Byt (S.D.val.at (5 + 2 * n) ++ S.D.val.at (5 + 2 * n + 1)):=(Dev.at_byt hS.D.val).append (Dev.at_byt hS.D.val)
  have hBl:(S.D.val.at (5 + 2 * n) ++ S.D.val.at (5 + 2 * n + 1)).length = 1024:=by
   have l1:=(Dev.read_len (i:=5 + 2 * n) hS.D.val (by rw [read_of hdn (by omega)])).1
   have l2:=(Dev.read_len (i:=5 + 2 * n + 1) hS.D.val (by rw [read_of hdn (by omega)])).1
   rw [read_of hdn (by omega)] at l1 l2
   rw [List.length_append]
   dsimp only at l1 l2
   omega
  obtain ⟨B,hB⟩:∃ B,B = S.D.val.at (5 + 2 * n) ++ S.D.val.at (5 + 2 * n + 1):=⟨_,rfl⟩
  rw [← hB] at hT hBy hBl
  obtain ⟨d,hd⟩:∃ d,d = decP B n:=⟨_,rfl⟩
  rw [← hd] at hT
  repeat' (first
   | (refine CallK.ret f_z1z.ok (home_yes hmP hn1) ?_;rintro v G ⟨rfl,rfl⟩;conv=>whnf)
   | (refine Ld.i ?_;conv=>whnf))
  refine CallK.imp (H':=devo S.P.d S.D•poolo p S.P•logo S.P.l S.L•R) (by first|exact .refl _|exact .drop|exact .fin|((repeat refine .pick ?_);first|exact .refl _|exact .emp _|exact .fin)) ?_
  refine CallK.ret f_z1e.ok (prd_spec hS.D (by rw [hS.ps];omega) hpg') ?_
  rw [← hB]
  rintro v G (⟨hd2,_⟩|⟨_,ra,rc,rfl,rfl⟩)
  ·rw [hdn] at hd2;cases hd2
  conv=>whnf
  repeat' (first
   | (refine CallK.ret f_z1x.ok (pseen_spec (e:=0) (X:=S.P) (.inl ⟨rfl,rfl⟩)) ?_;rw [if_neg (by decide)];rintro v G ⟨rfl,rfl⟩;conv=>whnf))
  refine CallK.have (p:=1024 ≤ rc) (fun w hs=>by have:=vec_len hs.right;omega) (fun hrc=>?_)
  refine CallK.ret f_za.ok (pdecode_spec (b:=B) ⟨inferInstance,hBl.symm⟩ (by omega) (by omega) hBy) ?_
  rw [← hd]
  rintro v G ⟨x,hx,rfl,rfl⟩
  by_cases e1:d.1 = 0
  rotate_left
  ·rw [if_pos e1] at hT
   subst hT
   conv=>whnf
   repeat' (first
    | (refine spl_ndec (fun hd=>?_) (fun hd=>?_) <;> first|(exfalso;omega)|(conv=>whnf))
    | (refine St.i ⟨rfl,rfl⟩ (List.cons_ne_nil _ _) ?_;conv=>whnf)
    | (intro blk hblk;conv=>whnf))
   refine ⟨_,_,rfl,?_,S,hS,(StoX.Same.refl S),rfl,rfl,.inr ⟨e1,rfl⟩⟩
   rw [stoo_eq]
   first|exact .refl _|exact .drop|exact .fin|((repeat refine .pick ?_);first|exact .refl _|exact .emp _|exact .fin)
  rw [if_neg (fun k=>k e1)] at hT
  rw [e1]
  conv=>whnf
  repeat' (first
   | ((first|refine Ld.i ?_|refine LdN.i ?_|refine St.i ⟨rfl,rfl⟩ (List.cons_ne_nil _ _) ?_);conv=>whnf)
   | (intro blk hblk;conv=>whnf)
   | (refine OpX.upv (f:=fptr) (m:=S.P.held) tab_ok ⟨blk,x,0,false,0,0⟩ rfl rfl rfl rfl rfl rfl ?_;conv=>whnf))
  refine CallK.imp (H':=poolo p (S.P.put n ⟨blk,x,0,false,0,0⟩)•devo S.P.d S.D•logo S.P.l S.L•R) ?_ ?_
  ·rw [poolo_eq]
   unfold PoolX.put
   dsimp only
   rw [bigM_ins _ n _ _ hlk,star_assoc,frc_eq]
   first|exact .refl _|exact .drop|exact .fin|((repeat refine .pick ?_);first|exact .refl _|exact .emp _|exact .fin)
  refine CallK.ret f_z2e.ok (puse_spec (X:=S.P.put n ⟨blk,x,0,false,0,0⟩) (n:=n) (f:=⟨blk,x,0,false,0,0⟩) (upd_nodup n _ _ hS.nd) ((updKV_lookup n _ n S.P.held).trans (if_pos rfl)) (show 0 ≤ S.P.clock ∧ S.P.clock ≤ 4000000000000 by omega)) ?_
  rintro v G ⟨rfl,rfl⟩
  conv=>whnf
  skip
  have hv:(⟨(S.P.put n ⟨blk,x,0,false,0,0⟩).use n ⟨blk,x,0,false,0,0⟩,S.L,S.D⟩:StoX).val = T.2:=by
   rw [hT]
   unfold StoX.val
   dsimp only
   rw [use_val,put_val,← hx]
   unfold PoolM.use PoolM.put
   dsimp only
   rw [upd_upd]
   rfl
  refine ⟨_,_,rfl,?_,⟨(S.P.put n ⟨blk,x,0,false,0,0⟩).use n ⟨blk,x,0,false,0,0⟩,S.L,S.D⟩,⟨by rw [hv];exact hok,hS.L,hS.D,hS.ld⟩,(StoX.Same.refl S).trans ⟨rfl,rfl⟩,hv,rfl,.inl ⟨by rw [hT],_,(updKV_lookup n _ n _).trans (if_pos rfl),rfl⟩⟩
  refine Imp.stoo (l:=S.P.l) (d:=S.P.d) (by rfl) (by rfl) ?_
  dsimp only
  first|exact .refl _|exact .drop|exact .fin|((repeat refine .pick ?_);first|exact .refl _|exact .emp _|exact .fin)
end Go.Proofs.YtbcedpankkdfoaaGreatDoor
/- The program's pool: Get and Pin; walked. Conditions: in each statement. -/
namespace Go.SL.Pool
open Go Go.SL Go.SL.Sec Go.SL.Fld Go.SL.Rec Go.SL.Twn Go.SL.Pg
theorem Sto.Ok.pin {S:Sto} (h:S.Ok) (n:Int):(S.pin n).2.Ok:=by
 have hg:=(h.get n).1
 unfold Sto.pin
 dsimp only
 split
 ·exact hg
 cases hl:(S.get n).2.P.held.lookup n with
 | none=>exact hg
 | some f =>
  dsimp only
  have k:=hg.fr n f hl
  refine Sto.Ok.put hg ⟨k.num,k.pin,k.C,k.G,k.lsn,k.key,k.dirty,k.used⟩ fun m g hm hu=>?_
  exact hg.us m n g f hm hl hu
end Go.SL.Pool
namespace Go.Proofs.YtbcedpankkdfoaaGreatDoor
open Go Go.SL Go.SL.Sec Go.SL.Fld Go.SL.Pts Go.SL.Rec Go.SL.Twn Go.SL.Pg Go.SL.Mst Go.SL.Pool
def GetE (p:Nat) (n:Int) (S:StoX) (T:Int × Sto) (R:HProp) (v:Value) (G:HProp):Prop:=∃ S':StoX,S'.Ok ∧ S.Same S' ∧ S'.val = T.2 ∧
  ((T.1 = 0 ∧ ∃ f x,S'.P.held.lookup n = some f ∧ x.m = f.pg.m ∧ v = .tuple ⟨[pgv x,.nilIface]⟩ ∧ G = (stoo p S'•pgc x•R)) ∨
   (T.1 ≠ 0 ∧ ∃ b,v = .tuple ⟨[pgv (pg0 0 0),.iface t_z5 (ptr b)]⟩ ∧ G = (fltc b wGet n T.1•stoo p S'•R)))
theorem pget_spec {W:World} {R:HProp} {p:Nat} {S:StoX} {n:Int} [le:LaidE W] [lc:LaidC W] [lp:LaidP W] [oc:OldC W R] (hS:S.Ok) (hc:0 ≤ S.P.clock ∧ S.P.clock ≤ 1000000000) :
  Does prog W f_z1t ⟨[ptr p,.int .i64 n]⟩ (stoo p S•R) (Ret (GetE p n S (S.val.get n) R)):=by
 obtain ⟨T,hT⟩:∃ T,T = S.val.get n:=⟨_,rfl⟩
 rw [← hT]
 refine f_z1t.does _ _ ?_
 conv=>whnf
 repeat' (first
  | (intro blk hblk;conv=>whnf))
 refine CallK.imp (H':=stoo p S•pts blk (.cells ⟨[i0,i0,.slice none 0 0,.slice none 0 0]⟩ t_page_Page)•R) (by first|exact .refl _|exact .drop|exact .fin|((repeat refine .pick ?_);first|exact .refl _|exact .emp _|exact .fin)) ?_
 refine CallK.ret f_z18.ok (pget0_spec hS hc) ?_
 rw [← hT]
 rintro v G ⟨S1,hS1,hs1,hv1,rfl,⟨h0,f,hlk,rfl⟩|⟨h0,rfl⟩⟩
 ·have hnd:=hS1.nd
  have fk:=hS1.val.fr n f.val (look_val hlk)
  haveI rf:∀ (Q:HProp) (k:Nat) (v:Value) [LAt (frv f) k v],RdC W (poolo p S1.P•Q) ⟨f.b,k,none⟩ v:=fun Q k v _=>rd_frame hnd hlk
  haveI rl:∀ (Q:HProp) (k m:Nat) (vs:List Value) [LSub (frv f) k m vs],RdLC W (poolo p S1.P•Q) f.b k m vs:=fun Q k m vs _=>rdl_frame hnd hlk
  haveI rC:∀ Q:HProp,RowC W (poolo p S1.P•Q) f.pg.ca 5 cntv f.pg.m.C:=fun Q=>rowC_frame hnd hlk
  haveI rG:∀ Q:HProp,RowC W (poolo p S1.P•Q) f.pg.ga 2 grpv f.pg.m.G:=fun Q=>rowG_frame hnd hlk
  have hC:f.pg.m.C.length ≤ 31:=fk.C
  have hG:f.pg.m.G.length ≤ 84:=fk.G
  rw [stoo_eq]
  conv=>whnf
  repeat' (first
   | (refine CallK.ret f_z21.ok (pcopy_spec (num:=f.pg.m.num) (lsn:=f.pg.m.lsn) (C:=f.pg.m.C) (G:=f.pg.m.G) (rc:=⟨inferInstance,rfl⟩) (rg:=⟨inferInstance,rfl⟩) (by omega) (by omega)) ?_;rintro v G ⟨x,hx,rfl,rfl⟩;conv=>whnf)
   | ((first|refine LdN.i ?_|refine St.i ⟨rfl,rfl⟩ (List.cons_ne_nil _ _) ?_);conv=>whnf))
  refine ⟨_,_,rfl,?_,S1,hS1,hs1,hv1,.inl ⟨h0,f,x,hlk,hx,rfl,rfl⟩⟩
  rw [stoo_eq]
  first|exact .refl _|exact .drop|exact .fin|((repeat refine .pick ?_);first|exact .refl _|exact .emp _|exact .fin)
 ·conv=>whnf
  repeat' (first
   | (rw [decide_eq_false h0];conv=>whnf))
  refine CallK.ret f_z1h.ok (presult_spec (w:=wGet)) ?_
  rintro v G' (⟨h1,rfl,rfl⟩|⟨h1,b,rfl,rfl⟩)
  ·exact absurd h1 h0
  ·conv=>whnf
   repeat' (first
    | ((first|refine LdN.i ?_|refine St.i ⟨rfl,rfl⟩ (List.cons_ne_nil _ _) ?_);conv=>whnf))
   exact ⟨_,_,rfl,(by first|exact .refl _|exact .drop|exact .fin|((repeat refine .pick ?_);first|exact .refl _|exact .emp _|exact .fin)),S1,hS1,hs1,hv1,.inr ⟨h1,_,rfl,rfl⟩⟩
theorem ppin_spec {W:World} {R:HProp} {p:Nat} {S:StoX} {n:Int} [le:LaidE W] [lc:LaidC W] [lp:LaidP W] [oc:OldC W R] (hS:S.Ok) (hc:0 ≤ S.P.clock ∧ S.P.clock ≤ 1000000000) (hp:∀ f,(S.val.get n).2.P.held.lookup n = some f → -1000000000 ≤ f.pins ∧ f.pins ≤ 1000000000) :
  Does prog W f_z3b ⟨[ptr p,.int .i64 n]⟩ (stoo p S•R) (Ret (StoE p S wPin n (S.val.pin n) R)):=by
 obtain ⟨T,hT⟩:∃ T,T = S.val.get n:=⟨_,rfl⟩
 obtain ⟨U,hU⟩:∃ U,U = S.val.pin n:=⟨_,rfl⟩
 have hok:=hS.val.pin n
 rw [← hU] at hok ⊢
 unfold Sto.pin at hU
 rw [← hT] at hU hp
 dsimp only at hU
 refine f_z3b.does _ _ ?_
 conv=>whnf
 skip
 refine CallK.ret f_z18.ok (pget0_spec hS hc) ?_
 rw [← hT]
 rintro v G ⟨S1,hS1,hs1,hv1,rfl,⟨h0,f,hlk,rfl⟩|⟨h0,rfl⟩⟩
 ·have hnd:=hS1.nd
  have hl2:T.2.P.held.lookup n = some f.val:=by rw [← hv1];exact look_val hlk
  have hpi:=hp f.val hl2
  rw [show f.val.pins = f.pins from rfl] at hpi
  rw [if_neg (fun k=>k h0),hl2] at hU
  dsimp only at hU
  rw [stoo_eq,poolo_eq,bigM_at hnd hlk]
  conv=>whnf
  repeat' (first
   | (refine CallK.ret f_z1h.ok (presult_spec (w:=wPin)) ?_;rintro v G' hE;conv=>whnf)
   | ((first|refine Ld.i ?_|refine St.i ⟨rfl,rfl⟩ (List.cons_ne_nil _ _) ?_|refine Ar.i64 (by omega) ?_);conv=>whnf))
  have hv:(⟨S1.P.put n { f with pins:=f.pins + 1 },S1.L,S1.D⟩:StoX).val = U.2:=by
   rw [hU,← hv1]
   unfold StoX.val
   dsimp only
   rw [put_val]
   rfl
  have e1:mapv fptr (updKV n { f with pins:=f.pins + 1 } S1.P.held) = mapv fptr S1.P.held:=by
   rw [mapv_upd]
   refine upd_same n _ _ ?_
   rw [mapv_lookup,hlk];rfl
  rcases hE with ⟨_,rfl,rfl⟩|⟨h1,b,rfl,rfl⟩
  rotate_left
  ·exact absurd rfl h1
  refine ⟨_,_,rfl,?_,⟨S1.P.put n { f with pins:=f.pins + 1 },S1.L,S1.D⟩,⟨by rw [hv];exact hok,hS1.L,hS1.D,hS1.ld⟩,hs1.trans ⟨rfl,rfl⟩,hv,.inl ⟨by rw [hU],rfl,rfl⟩⟩
  refine Imp.stoo (l:=S1.P.l) (d:=S1.P.d) (by rfl) (by rfl) ?_
  rw [poolo_eq]
  unfold PoolX.put
  dsimp only
  rw [e1,bigM_upd _ n _ _ hnd,star_assoc,frc_eq]
  first|exact .refl _|exact .drop|exact .fin|((repeat refine .pick ?_);first|exact .refl _|exact .emp _|exact .fin)
 ·rw [if_pos h0] at hU
  conv=>whnf
  repeat' (first
   | (rw [decide_eq_false h0];conv=>whnf)
   | (refine CallK.ret f_z1h.ok (presult_spec (w:=wPin)) ?_;rintro v G' hE;conv=>whnf))
  rcases hE with ⟨h1,rfl,rfl⟩|⟨h1,b,rfl,rfl⟩
  ·exact absurd h1 h0
  ·exact ⟨_,_,rfl,Imp.refl _,S1,hS1,hs1,by rw [hv1,hU],.inr ⟨by rw [hU];exact h1,_,rfl,by rw [hU]⟩⟩
end Go.Proofs.YtbcedpankkdfoaaGreatDoor
/- The shelf's contracts on maps.Keys, slices.Sorted, slices.Sort at ints, laid at this program. No condition. -/
namespace Go.Proofs.YtbcedpankkdfoaaGreatDoor
open Go.Proofs Go.RowKit Go.Maps Go.Sort Go.Shelf
def laySorted_ren:Go.Shelf.Ren:=⟨fun|6=>107|8=>206|9=>207|11=>281|13=>283|12=>282|23=>344|24=>345|14=>335|15=>336|16=>337|17=>338|18=>339|19=>340|20=>341|21=>342|22=>343|25=>371|26=>372|27=>373|28=>374|29=>375|30=>376|31=>381|n=>n,fun|26=>3|28=>200|24=>42|0=>0|3=>3|37=>398|48=>194|50=>191|4=>4|40=>445|39=>444|45=>303|5=>5|9=>9|51=>477|55=>374|57=>489|58=>203|33=>301|n=>n,fun|n=>n⟩
theorem laySorted:Go.Proofs.SlLaysZI.n6 Tryz.prog laySorted_ren where
 mixed:=by kernel_rfl
 f6:=⟨Tryz.f107.name,by decide,Tryz.func107.trans (congrArg some (by kernel_rfl))⟩
 f8:=⟨Tryz.f206.name,by decide,Tryz.func206.trans (congrArg some (by kernel_rfl))⟩
 f11:=⟨Tryz.f281.name,by decide,Tryz.func281.trans (congrArg some (by kernel_rfl))⟩
 t0:=Tryz.underlying0
 a0:=Tryz.isAgg0
 z0:=Tryz.sizeOf0
 v0:=Tryz.zeroValue0
 t24:=Tryz.underlying42
 a24:=Tryz.isAgg42
 z24:=Tryz.sizeOf42
 v24:=Tryz.zeroValue42
 t26:=Tryz.underlying3
 a26:=Tryz.isAgg3
 z26:=Tryz.sizeOf3
 v26:=Tryz.zeroValue3
 t28:=Tryz.underlying200
 a28:=Tryz.isAgg200
 z28:=Tryz.sizeOf200
 v28:=Tryz.zeroValue200
 i26:=by kernel_rfl
def laySort_ren:Go.Shelf.Ren:=⟨fun|5=>207|8=>283|7=>282|19=>344|20=>345|10=>335|11=>336|12=>337|13=>338|14=>339|15=>340|16=>341|17=>342|18=>343|30=>371|31=>372|32=>373|33=>374|34=>375|35=>376|40=>381|n=>n,fun|23=>42|25=>3|3=>3|32=>398|22=>42|0=>0|44=>194|46=>191|4=>4|36=>445|35=>444|41=>303|5=>5|9=>9|53=>477|57=>374|63=>489|64=>203|n=>n,fun|n=>n⟩
theorem laySort:Go.Proofs.SlLaysM.n5 Tryz.prog laySort_ren where
 mixed:=by kernel_rfl
 f5:=⟨Tryz.f207.name,by decide,Tryz.func207.trans (congrArg some (by kernel_rfl))⟩
 f7:=⟨Tryz.f282.name,by decide,Tryz.func282.trans (congrArg some (by kernel_rfl))⟩
 f8:=Tryz.func283.trans (congrArg some (by kernel_rfl))
 f10:=⟨Tryz.f335.name,by decide,Tryz.func335.trans (congrArg some (by kernel_rfl))⟩
 f11:=⟨Tryz.f336.name,by decide,Tryz.func336.trans (congrArg some (by kernel_rfl))⟩
 f12:=⟨Tryz.f337.name,by decide,Tryz.func337.trans (congrArg some (by kernel_rfl))⟩
 f13:=⟨Tryz.f338.name,by decide,Tryz.func338.trans (congrArg some (by kernel_rfl))⟩
 f14:=⟨Tryz.f339.name,by decide,Tryz.func339.trans (congrArg some (by kernel_rfl))⟩
 f15:=⟨Tryz.f340.name,by decide,Tryz.func340.trans (congrArg some (by kernel_rfl))⟩
 f16:=⟨Tryz.f341.name,by decide,Tryz.func341.trans (congrArg some (by kernel_rfl))⟩
 f17:=⟨Tryz.f342.name,by decide,Tryz.func342.trans (congrArg some (by kernel_rfl))⟩
 f18:=⟨Tryz.f343.name,by decide,Tryz.func343.trans (congrArg some (by kernel_rfl))⟩
 f19:=Tryz.func344.trans (congrArg some (by kernel_rfl))
 f20:=Tryz.func345.trans (congrArg some (by kernel_rfl))
 f30:=⟨Tryz.f371.name,by decide,Tryz.func371.trans (congrArg some (by kernel_rfl))⟩
 f31:=Tryz.func372.trans (congrArg some (by kernel_rfl))
 f32:=Tryz.func373.trans (congrArg some (by kernel_rfl))
 f33:=⟨Tryz.f374.name,by decide,Tryz.func374.trans (congrArg some (by kernel_rfl))⟩
 f34:=⟨Tryz.f375.name,by decide,Tryz.func375.trans (congrArg some (by kernel_rfl))⟩
 f35:=⟨Tryz.f376.name,by decide,Tryz.func376.trans (congrArg some (by kernel_rfl))⟩
 f40:=⟨Tryz.f381.name,by decide,Tryz.func381.trans (congrArg some (by kernel_rfl))⟩
 t0:=Tryz.underlying0
 a0:=Tryz.isAgg0
 z0:=Tryz.sizeOf0
 v0:=Tryz.zeroValue0
 t3:=Tryz.underlying3
 a3:=Tryz.isAgg3
 z3:=Tryz.sizeOf3
 v3:=Tryz.zeroValue3
 t4:=Tryz.underlying4
 a4:=Tryz.isAgg4
 z4:=Tryz.sizeOf4
 v4:=Tryz.zeroValue4
 t5:=Tryz.underlying5
 a5:=Tryz.isAgg5
 z5:=Tryz.sizeOf5
 v5:=Tryz.zeroValue5
 t9:=Tryz.underlying9
 a9:=Tryz.isAgg9
 z9:=Tryz.sizeOf9
 v9:=Tryz.zeroValue9
 t22:=Tryz.underlying42
 a22:=Tryz.isAgg42
 z22:=Tryz.sizeOf42
 v22:=Tryz.zeroValue42
 t23:=Tryz.underlying42
 a23:=Tryz.isAgg42
 z23:=Tryz.sizeOf42
 v23:=Tryz.zeroValue42
 t25:=Tryz.underlying3
 a25:=Tryz.isAgg3
 z25:=Tryz.sizeOf3
 v25:=Tryz.zeroValue3
 t32:=Tryz.underlying398
 a32:=Tryz.isAgg398
 z32:=Tryz.sizeOf398
 v32:=Tryz.zeroValue398
 t35:=Tryz.underlying444
 a35:=Tryz.isAgg444
 z35:=Tryz.sizeOf444
 v35:=Tryz.zeroValue444
 t36:=Tryz.underlying445
 a36:=Tryz.isAgg445
 z36:=Tryz.sizeOf445
 v36:=Tryz.zeroValue445
 t41:=Tryz.underlying303
 a41:=Tryz.isAgg303
 z41:=Tryz.sizeOf303
 v41:=Tryz.zeroValue303
 t44:=Tryz.underlying194
 a44:=Tryz.isAgg194
 z44:=Tryz.sizeOf194
 v44:=Tryz.zeroValue194
 t46:=Tryz.underlying191
 a46:=Tryz.isAgg191
 z46:=Tryz.sizeOf191
 v46:=Tryz.zeroValue191
 t53:=Tryz.underlying477
 a53:=Tryz.isAgg477
 z53:=Tryz.sizeOf477
 v53:=Tryz.zeroValue477
 t57:=Tryz.underlying374
 a57:=Tryz.isAgg374
 z57:=Tryz.sizeOf374
 v57:=Tryz.zeroValue374
 t63:=Tryz.underlying489
 a63:=Tryz.isAgg489
 z63:=Tryz.sizeOf489
 v63:=Tryz.zeroValue489
 t64:=Tryz.underlying203
 a64:=Tryz.isAgg203
 z64:=Tryz.sizeOf203
 v64:=Tryz.zeroValue203
def layKeys_pool_frame_ren:Go.Shelf.Ren:=⟨fun|7=>108|10=>208|n=>n,fun|23=>172|26=>3|3=>171|28=>200|0=>0|27=>199|33=>301|4=>4|n=>n,fun|n=>n⟩
theorem layKeys_pool_frame:Go.Proofs.SlLaysZI.n7 Tryz.prog layKeys_pool_frame_ren where
 mixed:=by kernel_rfl
 f7:=⟨Tryz.f108.name,by decide,Tryz.func108.trans (congrArg some (by kernel_rfl))⟩
 f10:=⟨Tryz.f208.name,by decide,Tryz.func208.trans (congrArg some (by kernel_rfl))⟩
 t0:=Tryz.underlying0
 a0:=Tryz.isAgg0
 z0:=Tryz.sizeOf0
 v0:=Tryz.zeroValue0
 t4:=Tryz.underlying4
 a4:=Tryz.isAgg4
 z4:=Tryz.sizeOf4
 v4:=Tryz.zeroValue4
 t23:=Tryz.underlying172
 a23:=Tryz.isAgg172
 z23:=Tryz.sizeOf172
 v23:=Tryz.zeroValue172
 t26:=Tryz.underlying3
 a26:=Tryz.isAgg3
 z26:=Tryz.sizeOf3
 v26:=Tryz.zeroValue3
 t27:=Tryz.underlying199
 a27:=Tryz.isAgg199
 z27:=Tryz.sizeOf199
 v27:=Tryz.zeroValue199
 t28:=Tryz.underlying200
 a28:=Tryz.isAgg200
 z28:=Tryz.sizeOf200
 v28:=Tryz.zeroValue200
 t33:=Tryz.underlying301
 a33:=Tryz.isAgg301
 z33:=Tryz.sizeOf301
 v33:=Tryz.zeroValue301
def layKeys_int_ren:Go.Shelf.Ren:=⟨fun|7=>252|10=>313|n=>n,fun|23=>345|26=>3|3=>3|28=>200|0=>0|27=>199|33=>301|4=>4|n=>n,fun|n=>n⟩
def layKeys_api_Live_ren:Go.Shelf.Ren:=⟨fun|7=>254|10=>320|n=>n,fun|23=>265|26=>3|3=>158|28=>200|0=>0|27=>199|33=>301|4=>4|n=>n,fun|n=>n⟩
end Go.Proofs.YtbcedpankkdfoaaGreatDoor
/- The program's pool: what is held, what is dirty; walked. Conditions: in each statement. -/
namespace Go.Proofs.YtbcedpankkdfoaaGreatDoor
open Go Go.SL Go.SL.Sec Go.SL.Fld Go.SL.Pts Go.SL.Rec Go.SL.Twn Go.SL.Pg Go.SL.Mst Go.SL.Pool
theorem pkeys_spec {W:World} {H:HProp} {r:Nat}:Does prog W f_z3u ⟨[.map (some r)]⟩ H (Ret fun v G=>∃ B,v = .func (.func f_z49) ⟨[]⟩ ⟨[ptr B]⟩ ∧ G = (pts B (.cells ⟨[.map (some r)]⟩ t_M_int_P_pool_frame)•H)):=by
 refine f_z3u.does _ ?_
 conv=>whnf
 repeat' (first
  | (intro blk hblk;conv=>whnf))
 exact ⟨_,_,rfl,Imp.refl _,_,rfl,rfl⟩
theorem pheld_spec {W:World} {R:HProp} {p:Nat} {X:PoolX} (hl:X.held.length ≤ 1000000) (hk:∀ x ∈ X.held,0 ≤ x.1 ∧ x.1 ≤ 1000000) :
  Does prog W f_z2j ⟨[ptr p]⟩ (poolo p X•R) (Ret fun v G=>∃ a c,v = .slice a X.held.length c ∧ G = (vec t_int 1 ints a c (sortI (X.held.map (·.1)))•poolo p X•R)):=by
 rw [poolo_eq]
 refine f_z2j.does _ ?_
 conv=>whnf
 repeat' (first
  | (refine Ld.i ?_;conv=>whnf))
 refine CallK.ret f_z3u.ok pkeys_spec ?_
 rintro v G ⟨B,rfl,rfl⟩
 conv=>whnf
 skip
 refine CallK.ret f_z48.ok (Does.sorted laySorted layKeys_pool_frame laySort rfl rfl rfl rfl (l:=mapv fptr X.held) (by rw [mapv_length];omega) (fun z hz=>by obtain ⟨q,hq,rfl⟩:=List.mem_map.1 hz;have:=hk q hq;dsimp only;omega)) ?_
 rintro v G ⟨ka,kc,rfl,rfl⟩
 rw [mapv_keys,mapv_length,show laySorted_ren.t 26 = t_int from rfl]
 conv=>whnf
 skip
 exact ⟨_,_,rfl,(by first|exact .refl _|exact .drop|exact .fin|((repeat refine .pick ?_);first|exact .refl _|exact .emp _|exact .fin)),ka,kc,rfl,rfl⟩
set_option maxHeartbeats 1000000 in
theorem pdirty_spec {W:World} {R:HProp} {p:Nat} {X:PoolX} (hnd:(X.held.map (·.1)).Nodup) (hl:X.held.length ≤ 1000000) (hk:∀ x ∈ X.held,0 ≤ x.1 ∧ x.1 ≤ 1000000) :
  Does prog W f_z2k ⟨[ptr p]⟩ (poolo p X•R) (Ret fun v G=>∃ a c,v = .slice a (X.val.dirtyL (sortI (X.held.map (·.1)))).length c ∧ G = (vec t_api_Dirty 2 dirtyv a c (X.val.dirtyL (sortI (X.held.map (·.1))))•poolo p X•R)):=by
 refine f_z2k.does _ ?_
 conv=>whnf
 skip
 refine CallK.ret f_z2j.ok (pheld_spec hl hk) ?_
 obtain ⟨K,hK⟩:∃ K,K = sortI (X.held.map (·.1)):=⟨_,rfl⟩
 have hKl:K.length = X.held.length:=by rw [hK,sortI_length,List.length_map]
 rw [← hK,← hKl]
 rintro v G ⟨ka,kc,rfl,rfl⟩
 have hKm:∀ k ∈ K,∃ f,X.held.lookup k = some f:=fun k hk'=>by
  obtain ⟨q,hq,rfl⟩:=List.mem_map.1 (sortI_mem.1 (hK ▸ hk'))
  exact ⟨_,lookup_of_mem q.1 q.2 _ hnd hq⟩
 conv=>whnf
 skip
 refine LoopK.at tab_ok (L:=f_z2k.live) (ι:=Nat × Option Addr × Nat) (fun i=>i.1 ≤ K.length)
  (fun i=>[(10,.int .i64 i.1),(3,.slice i.2.1 (X.val.dirtyL (K.take i.1)).length i.2.2)]) (fun i=>vec t_api_Dirty 2 dirtyv i.2.1 i.2.2 (X.val.dirtyL (K.take i.1))) (fun i=>K.length - i.1) (0,none,0) (by simp) (fun t v h=>h) (Imp.vnil (Imp.refl _)) ?_
 rintro ⟨i,oa,oc⟩ hi
 dsimp only at hi ⊢
 conv=>whnf
 by_cases h1:i < K.length
 ·obtain ⟨x,hx⟩:∃ x,K[i]? = some x:=⟨_,List.getElem?_eq_getElem h1⟩
  obtain ⟨f,hlk⟩:=hKm x (List.mem_of_getElem? hx)
  haveI rf:∀ (Q:HProp) (k:Nat) (v:Value) [LAt (frv f) k v],RdC W (poolo p X•Q) ⟨f.b,k,none⟩ v:=fun Q k v _=>rd_frame hnd hlk
  have hT:X.val.dirtyL (K.take (i + 1)) = X.val.dirtyL (K.take i) ++ (if f.dirty then [(x,f.since)] else []):=by
   rw [List.take_add_one,hx]
   unfold PoolM.dirtyL
   rw [List.filterMap_append]
   congr 1
   simp only [Option.toList,List.filterMap_cons,List.filterMap_nil,look_val hlk]
   rw [show f.val.dirty = f.dirty from rfl,show f.val.since = f.since from rfl]
   cases f.dirty with
   | true=>rfl
   | false=>rfl
  have hlen:(X.val.dirtyL (K.take i)).length ≤ i:=by
   unfold PoolM.dirtyL
   refine Nat.le_trans (List.length_filterMap_le _ _) ?_
   rw [List.length_take];omega
  cases hfd:f.dirty with
  | false =>
   rw [hfd,if_neg (by decide),List.append_nil] at hT
   repeat' (first
    | (refine spl_f hfd ?_;conv=>whnf)
    | (refine spl_dec (fun hd=>?_) (fun hd=>?_) <;> first|(exfalso;omega)|(conv=>whnf))
    | ((first|refine Ld.i ?_|refine Ar.i64 (by omega) ?_);conv=>whnf)
    | (refine IxS.r (i:=i) rfl rfl h1 (fun ab off ha=>?_);subst ha;conv=>whnf)
    | ((first|refine Ld.r0 hx rfl ?_|refine OpX.lks tab_ok hlk rfl rfl rfl rfl rfl ?_);conv=>whnf))
   refine ⟨rfl,(i + 1,oa,oc),h1,by rw [← hT];exact fun t v h=>h,?_,by dsimp only;omega⟩
   dsimp only
   rw [hT]
   first|exact .refl _|exact .drop|exact .fin|((repeat refine .pick ?_);first|exact .refl _|exact .emp _|exact .fin)
  | true =>
   rw [hfd,if_pos rfl] at hT
   repeat' (first
    | (refine spl_t hfd ?_;conv=>whnf)
    | (refine spl_dec (fun hd=>?_) (fun hd=>?_) <;> first|(exfalso;omega)|(conv=>whnf))
    | (refine Ld.i ?_;conv=>whnf)
    | (intro blk hblk;conv=>whnf)
    | (refine IxS.r (i:=i) rfl rfl h1 (fun ab off ha=>?_);subst ha;conv=>whnf)
    | ((first|refine Ld.r0 hx rfl ?_|refine OpX.lks tab_ok hlk rfl rfl rfl rfl rfl ?_);conv=>whnf))
   refine OpX.app1 tab_ok rfl rfl rfl rfl (x,f.since) rfl rfl (by omega) ⟨rfl,OneC.h⟩ (fun a' c'=>?_)
   rw [← hT]
   repeat' (first
    | (refine Ar.i64 (by omega) ?_;conv=>whnf))
   refine ⟨rfl,(i + 1,a',c'),h1,by rw [hT,List.length_append];exact fun t v h=>h,?_,by dsimp only;omega⟩
   first|exact .refl _|exact .drop|exact .fin|((repeat refine .pick ?_);first|exact .refl _|exact .emp _|exact .fin)
 ·have hi':i = K.length:=by omega
  subst hi'
  repeat' (first
   | (refine spl_dec (fun hd=>?_) (fun hd=>?_) <;> first|(exfalso;omega)|(conv=>whnf)))
  rw [List.take_length]
  refine ⟨_,_,rfl,?_,oa,oc,rfl,rfl⟩
  first|exact .refl _|exact .drop|exact .fin|((repeat refine .pick ?_);first|exact .refl _|exact .emp _|exact .fin)
end Go.Proofs.YtbcedpankkdfoaaGreatDoor
/- The program's pool.New, walked. Conditions: in each statement. -/
namespace Go.Proofs.YtbcedpankkdfoaaGreatDoor
open Go Go.SL Go.SL.Sec Go.SL.Fld Go.SL.Pts Go.SL.Rec Go.SL.Twn Go.SL.Pg Go.SL.Mst Go.SL.Pool
abbrev pool0 (d l:Nat) (p lg f:Int) (r:Nat):PoolX:=⟨d,l,p,lg,f,r,[],0,false⟩
theorem pnew_nil {W:World} {R:HProp} {l:Nat} {p lg f:Int} :
  Does prog W f_z2a ⟨[.pointer none,ptr l,.agg ⟨[.int .i64 p,.int .i64 lg,.int .i64 f]⟩]⟩ R (Ret fun v G=>v = .tuple ⟨[.pointer none,.int .i64 3]⟩ ∧ G = R):=by
 refine f_z2a.does _ _ _ ?_
 conv=>whnf
 repeat' (first
  | (intro blk hblk;conv=>whnf))
 refine Ret.eq rfl ?_
 first|exact .refl _|exact .drop|exact .fin|((repeat refine .pick ?_);first|exact .refl _|exact .emp _|exact .fin)
theorem pnew_spec {W:World} {R:HProp} {d l:Nat} {p lg f:Int} {X:DevX} (hX:X.Ok) (hm:MayP p lg f) (hs:X.val.secs = 5 + 2 * p + lg) :
  Does prog W f_z2a ⟨[ptr d,ptr l,.agg ⟨[.int .i64 p,.int .i64 lg,.int .i64 f]⟩]⟩ (devo d X•R) (Ret fun v G=>∃ q r,v = .tuple ⟨[ptr q,i0]⟩ ∧ G = (poolo q (pool0 d l p lg f r)•devo d X•R)):=by
 refine f_z2a.does _ _ _ ?_
 conv=>whnf
 repeat' (first
  | (refine CallK.ret f_z3a.ok (need_yes hm) ?_;rintro v G ⟨rfl,rfl⟩;conv=>whnf)
  | (refine CallK.ret f_z1o.ok (sectors_spec (X:=X) hX) ?_;rw [hs];rintro v G ⟨rfl,rfl⟩;conv=>whnf)
  | ((first|refine spl_f (by with_reducible exact ndec_self _) ?_|refine LdN.i ?_);conv=>whnf)
  | (intro blk hblk;conv=>whnf)
  | (refine OpX.makeMap .i64 (fun r hr=>?_);conv=>whnf))
 refine ⟨_,_,rfl,?_,blk,r,rfl,rfl⟩
 rw [poolo_eq]
 show Imp _ (pts blk (.cells ⟨[ptr d,ptr l,.int .i64 p,.int .i64 lg,.int .i64 f,.map (some r),i0,.bool false]⟩ t_pool_Pool)•mapc r .i64 []•emp•devo d X•R)
 rw [emp_star]
 first|exact .refl _|exact .drop|exact .fin|((repeat refine .pick ?_);first|exact .refl _|exact .emp _|exact .fin)
end Go.Proofs.YtbcedpankkdfoaaGreatDoor
