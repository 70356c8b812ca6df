/- The program's pool: a page's younger state; walked. Conditions: in each statement. -/
import Derived.Test.YtbcedpankkdfoaaGreatDoorPart25
import Derived.Test.YtbcedpankkdfoaaGreatDoorPart22
namespace Go.SL.Pool
open Go Go.SL Go.SL.Sec Go.SL.Fld Go.SL.Rec Go.SL.Twn Go.SL.Pg
theorem Sto.Ok.puts {S:Sto} (h:S.Ok) {x:PgM} (hi:x.In):(S.put x).2.Ok:=by
 unfold Sto.put
 split
 ·exact h
 split
 ·exact h
 rename_i c1 c2
 have hx:x.fault = 0:=by omega
 have hf:=PgM.fault_ok hx
 cases hl:S.P.held.lookup x.num with
 | none=>exact h
 | some f =>
  dsimp only
  split
  ·exact h
  ·rename_i c3
   have k:=h.fr _ f hl
   refine Sto.Ok.use h ⟨rfl,hi,?_,?_,?_,k.key,fun _=>⟨hx,?_⟩,?_⟩
   all_goals dsimp only
   all_goals omega
end Go.SL.Pool
namespace Go.Proofs.YtbcedpankkdfoaaGreatDoor
open Go Go.SL Go.SL.Sec Go.SL.Fld Go.SL.Pts Go.SL.Rec Go.SL.Twn Go.SL.Pg Go.SL.Mst Go.SL.Pool
set_option maxHeartbeats 2000000 in
theorem pput0_spec {W:World} {R:HProp} {p:Nat} {S:StoX} {num lsn:Int} {ca ga:Option Addr} {nC cc nG gc:Nat} {C:List CntV} {G:List GrpV} [le:LaidE W] [lc:LaidC W] [lp:LaidP W] [oc:OldC W R] [rc:RowN W R ca nC 5 cntv C] [rg:RowN W R ga nG 2 grpv G] (hC:C.length ≤ 1000000000) (hG:G.length ≤ 1000000000) (hS:S.Ok) (hi:PgM.In ⟨num,lsn,C,G⟩) (hc:0 ≤ S.P.clock ∧ S.P.clock ≤ 1000000000) :
  Does prog W f_z8 ⟨[ptr p,.agg ⟨[.int .i64 num,.int .i64 lsn,.slice ca nC cc,.slice ga nG gc]⟩]⟩ (stoo p S•R) (Ret (StoQ p S (S.val.put ⟨num,lsn,C,G⟩) R)):=by
 have hnd:=hS.nd
 have hok:=hS.val.puts hi
 obtain ⟨T,hT⟩:∃ T,T = S.val.put ⟨num,lsn,C,G⟩:=⟨_,rfl⟩
 rw [← hT] at hok ⊢
 unfold Sto.put at hT
 have epl:S.val.P = S.P.val:=rfl
 have erl:S.val.L.recs.length = S.L.recs.length:=List.length_map ..
 rw [epl,erl] at hT
 dsimp only at hT
 obtain ⟨pl,hpl⟩:∃ e,e = S.P.val.place num:=⟨_,rfl⟩
 obtain ⟨fl,hfl⟩:∃ e,e = PgM.fault ⟨num,lsn,C,G⟩:=⟨_,rfl⟩
 rw [← hpl,← hfl] at hT
 rw [stoo_eq]
 refine f_z8.does _ _ ?_
 conv=>whnf
 by_cases c1:pl = 0
 rotate_left
 ·rw [if_pos c1] at hT
  subst hT
  repeat' (first
   | (refine CallK.ret f_zg.ok (pplace_spec (X:=S.P)) ?_;rw [← hpl];rintro v G ⟨rfl,rfl⟩;conv=>whnf)
   | (rw [decide_eq_false c1];conv=>whnf)
   | (refine Ld.i ?_;conv=>whnf)
   | (intro blk hblk;conv=>whnf))
  exact ⟨_,_,rfl,(by first|exact .refl _|exact .drop|exact .fin|((repeat refine .pick ?_);first|exact .refl _|exact .emp _|exact .fin)),S,hS,.refl S,rfl,rfl,(stoo_eq p S R).symm⟩
 rw [if_neg (fun k=>k c1)] at hT
 by_cases c2:fl = 0
 rotate_left
 ·rw [if_pos c2] at hT
  subst hT
  repeat' (first
   | (refine CallK.ret f_zg.ok (pplace_spec (X:=S.P)) ?_;rw [← hpl,c1];rintro v G ⟨rfl,rfl⟩;conv=>whnf)
   | (refine CallK.ret f_zi.ok (pencode_no (num:=num) (lsn:=lsn) (C:=C) (G:=G) hC hG (by rw [← hfl];exact c2)) ?_;rw [← hfl];rintro v G ⟨rfl,rfl⟩;conv=>whnf)
   | (rw [decide_eq_false c2];conv=>whnf)
   | ((first|refine Ld.i ?_|refine LdN.i ?_);conv=>whnf)
   | (intro blk hblk;conv=>whnf))
  exact ⟨_,_,rfl,(by first|exact .refl _|exact .drop|exact .fin|((repeat refine .pick ?_);first|exact .refl _|exact .emp _|exact .fin)),S,hS,.refl S,rfl,rfl,(stoo_eq p S R).symm⟩
 rw [if_neg (fun k=>k c2)] at hT
 repeat' (first
  | (refine CallK.ret f_zg.ok (pplace_spec (X:=S.P)) ?_;rw [← hpl,c1];rintro v G ⟨rfl,rfl⟩;conv=>whnf)
  | ((first|refine Ld.i ?_|refine LdN.i ?_);conv=>whnf)
  | (intro blk hblk;conv=>whnf))
 refine CallK.ret f_zi.ok (pencode_yes (num:=num) (lsn:=lsn) (C:=C) (G:=G) (by rw [← hfl];exact c2)) ?_
 rintro v G' ⟨ba,bc,hbc,rfl,rfl⟩
 conv=>whnf
 cases hlk:S.P.held.lookup num with
 | none =>
  rw [look_none hlk] at hT
  dsimp only at hT
  subst hT
  repeat' (first
   | (refine Ld.i ?_;conv=>whnf)
   | (refine OpX.of_quiet (OpQ.lkZ tab_ok (MapC.at' (inferInstance:MapC _ S.P.r .i64 (mapv fptr S.P.held) _)) ((mapv_lookup fptr num S.P.held).trans (by rw [hlk];rfl)) rfl rfl rfl rfl rfl ?_);conv=>whnf)
   | (refine DrawK.introH tab_ok mixed 24 f_z8.last7 f_z8.plan7 _ rfl (by kernel_rfl) (Sub.of (by first|exact .refl _|exact .drop|exact .fin|((repeat refine .pick ?_);first|exact .refl _|exact .emp _|exact .fin))) ?_;conv=>whnf))
  exact ⟨_,_,rfl,(by first|exact .refl _|exact .drop|exact .fin|((repeat refine .pick ?_);first|exact .refl _|exact .emp _|exact .fin)),S,hS,.refl S,rfl,rfl,(stoo_eq p S R).symm⟩
 | some f =>
 rw [look_val hlk] at hT
 dsimp only at hT
 have hlv:(mapv fptr S.P.held).lookup num = some (fptr f):=by rw [mapv_lookup,hlk];rfl
 have fk:=hS.val.fr num f.val (look_val hlk)
 haveI rf:∀ (Q:HProp) (k:Nat) (v:Value) [LAt (frv f) k v],RdC W (poolo p S.P•Q) ⟨f.b,k,none⟩ v:=fun Q k v _=>rd_frame hnd hlk
 haveI rl:∀ (Q:HProp) (k m:Nat) (vs:List Value) [LSub (frv f) k m vs],RdLC W (poolo p S.P•Q) f.b k m vs:=fun Q k m vs _=>rdl_frame hnd hlk
 by_cases c3:lsn ≤ f.pg.m.lsn
 ·rw [if_pos (.inl c3)] at hT
  subst hT
  repeat' (first
   | (refine DrawK.introK tab_ok mixed 33 f_z8.last10 f_z8.plan10 rfl (by kernel_rfl) ?_;conv=>whnf)
   | (rw [decide_eq_true c3];conv=>whnf)
   | (refine Ld.i ?_;conv=>whnf)
   | (refine OpX.of_quiet (OpQ.lkA tab_ok (MapC.at' (inferInstance:MapC _ S.P.r .i64 (mapv fptr S.P.held) _)) hlv rfl rfl rfl rfl rfl ?_);conv=>whnf)
   | (refine DrawK.introH tab_ok mixed 24 f_z8.last7 f_z8.plan7 _ rfl (by kernel_rfl) (Sub.of (by first|exact .refl _|exact .drop|exact .fin|((repeat refine .pick ?_);first|exact .refl _|exact .emp _|exact .fin))) ?_;conv=>whnf))
  exact ⟨_,_,rfl,(by first|exact .refl _|exact .drop|exact .fin|((repeat refine .pick ?_);first|exact .refl _|exact .emp _|exact .fin)),S,hS,.refl S,rfl,rfl,(stoo_eq p S R).symm⟩
 by_cases c4:lsn > S.L.recs.length
 ·rw [if_pos (.inr c4)] at hT
  subst hT
  repeat' (first
   | (refine DrawK.introK tab_ok mixed 33 f_z8.last10 f_z8.plan10 rfl (by kernel_rfl) ?_;conv=>whnf)
   | (rw [decide_eq_false c3];conv=>whnf)
   | (refine CallK.ret f_zs.ok (last_spec (X:=S.L)) ?_;rintro v G ⟨rfl,rfl⟩;conv=>whnf)
   | (rw [decide_eq_true c4];conv=>whnf)
   | (refine Ld.i ?_;conv=>whnf)
   | (refine OpX.of_quiet (OpQ.lkA tab_ok (MapC.at' (inferInstance:MapC _ S.P.r .i64 (mapv fptr S.P.held) _)) hlv rfl rfl rfl rfl rfl ?_);conv=>whnf)
   | (refine Sub.on (by first|exact .refl _|exact .drop|exact .fin|((repeat refine .pick ?_);first|exact .refl _|exact .emp _|exact .fin)) ?_;conv=>whnf)
   | (refine DrawK.introH tab_ok mixed 24 f_z8.last7 f_z8.plan7 _ rfl (by kernel_rfl) (Sub.of (by first|exact .refl _|exact .drop|exact .fin|((repeat refine .pick ?_);first|exact .refl _|exact .emp _|exact .fin))) ?_;conv=>whnf))
  exact ⟨_,_,rfl,(by first|exact .refl _|exact .drop|exact .fin|((repeat refine .pick ?_);first|exact .refl _|exact .emp _|exact .fin)),S,hS,.refl S,rfl,rfl,(stoo_eq p S R).symm⟩
 rw [if_neg (by have:f.val.pg.lsn = f.pg.m.lsn:=rfl;omega)] at hT
 repeat' (first
  | (refine DrawK.introK tab_ok mixed 33 f_z8.last10 f_z8.plan10 rfl (by kernel_rfl) ?_;conv=>whnf)
  | (rw [decide_eq_false c3];conv=>whnf)
  | (refine CallK.ret f_zs.ok (last_spec (X:=S.L)) ?_;rintro v G ⟨rfl,rfl⟩;conv=>whnf)
  | (rw [decide_eq_false c4];conv=>whnf)
  | ((first|refine Ld.i ?_|refine LdN.i ?_);conv=>whnf)
  | (refine OpX.of_quiet (OpQ.lkA tab_ok (MapC.at' (inferInstance:MapC _ S.P.r .i64 (mapv fptr S.P.held) _)) hlv rfl rfl rfl rfl rfl ?_);conv=>whnf)
  | (refine Sub.on (by first|exact .refl _|exact .drop|exact .fin|((repeat refine .pick ?_);first|exact .refl _|exact .emp _|exact .fin)) ?_;conv=>whnf)
  | (refine DrawK.introH tab_ok mixed 24 f_z8.last7 f_z8.plan7 _ rfl (by kernel_rfl) (Sub.of (by first|exact .refl _|exact .drop|exact .fin|((repeat refine .pick ?_);first|exact .refl _|exact .emp _|exact .fin))) ?_;conv=>whnf))
 refine CallK.ret f_z21.ok (pcopy_spec (num:=num) (lsn:=lsn) (C:=C) (G:=G) hC hG) ?_
 rintro v G' ⟨x,hx,rfl,rfl⟩
 rw [poolo_eq,bigM_at hnd hlk]
 obtain ⟨sn,hsn⟩:∃ z,z = (if f.dirty then f.since else lsn):=⟨_,rfl⟩
 rw [show f.val.dirty = f.dirty from rfl,show f.val.since = f.since from rfl,← hsn] at hT
 have hxl:x.m.lsn = lsn:=by rw [hx]
 have hxn:x.m.num = num:=by rw [hx]
 have e1:∀ g:FrX,g.b = f.b → mapv fptr (updKV num g S.P.held) = mapv fptr S.P.held:=fun g hg=>by
  rw [mapv_upd]
  refine upd_same num _ _ ?_
  rw [mapv_lookup,hlk]
  show some (fptr f) = some (fptr g)
  unfold fptr
  rw [hg]
 cases hfd:f.dirty with
 | true =>
  rw [hfd] at hsn
  rw [if_pos rfl] at hsn
  conv=>whnf
  repeat' (first
   | (rw [hfd];conv=>whnf)
   | ((first|refine Ld.i ?_|refine St.i ⟨rfl,rfl⟩ (List.cons_ne_nil _ _) ?_);conv=>whnf))
  refine CallK.imp (H':=poolo p (S.P.put num ⟨f.b,x,f.pins,true,sn,f.used⟩)•logo S.P.l S.L•devo S.P.d S.D•R) ?_ ?_
  ·rw [poolo_eq]
   unfold PoolX.put
   dsimp only
   rw [e1 ⟨f.b,x,f.pins,true,sn,f.used⟩ rfl,bigM_upd _ num _ _ hnd,star_assoc,frc_eq]
   subst hsn
   dsimp only
   first|exact .refl _|exact .drop|exact .fin|((repeat refine .pick ?_);first|exact .refl _|exact .emp _|exact .fin)
  refine CallK.ret f_z2e.ok (puse_spec (X:=S.P.put num ⟨f.b,x,f.pins,true,sn,f.used⟩) (n:=num) (f:=⟨f.b,x,f.pins,true,sn,f.used⟩) (upd_nodup num _ _ hS.nd) ((updKV_lookup num _ num S.P.held).trans (if_pos rfl)) (show 0 ≤ S.P.clock ∧ S.P.clock ≤ 4000000000000 by omega)) ?_
  rintro v G' ⟨rfl,rfl⟩
  conv=>whnf
  skip
  have hv:(⟨(S.P.put num ⟨f.b,x,f.pins,true,sn,f.used⟩).use num ⟨f.b,x,f.pins,true,sn,f.used⟩,S.L,S.D⟩:StoX).val = T.2:=by
   rw [hT]
   unfold StoX.val
   dsimp only
   rw [use_val,put_val]
   unfold PoolM.use PoolM.put FrX.val
   dsimp only
   rw [upd_upd,hx]
  refine ⟨_,_,rfl,?_,⟨(S.P.put num ⟨f.b,x,f.pins,true,sn,f.used⟩).use num ⟨f.b,x,f.pins,true,sn,f.used⟩,S.L,S.D⟩,⟨by rw [hv];exact hok,hS.L,hS.D,hS.ld⟩,(StoX.Same.refl S).trans ⟨rfl,rfl⟩,hv,by rw [hT],rfl⟩
  refine Imp.stoo (l:=S.P.l) (d:=S.P.d) (by rfl) (by rfl) ?_
  dsimp only
  first|exact .refl _|exact .drop|exact .fin|((repeat refine .pick ?_);first|exact .refl _|exact .emp _|exact .fin)
 | false =>
  rw [hfd] at hsn
  rw [if_neg (by decide)] at hsn
  conv=>whnf
  repeat' (first
   | (rw [hfd];conv=>whnf)
   | (refine DrawK.introH tab_ok mixed 61 f_z8.last14 f_z8.plan14 (pts blk (.cells ⟨[.int .i64 num,.int .i64 lsn,.slice ca nC cc,.slice ga nG gc]⟩ t_page_Page)•emp) rfl (by kernel_rfl) (Sub.of (by first|exact .refl _|exact .drop|exact .fin|((repeat refine .pick ?_);first|exact .refl _|exact .emp _|exact .fin))) ?_;conv=>whnf)
   | ((first|refine Ld.i ?_|refine St.i ⟨rfl,rfl⟩ (List.cons_ne_nil _ _) ?_);conv=>whnf)
   | (refine Sub.on (by first|exact .refl _|exact .drop|exact .fin|((repeat refine .pick ?_);first|exact .refl _|exact .emp _|exact .fin)) ?_;conv=>whnf))
  refine CallK.imp (H':=poolo p (S.P.put num ⟨f.b,x,f.pins,true,sn,f.used⟩)•logo S.P.l S.L•devo S.P.d S.D•R) ?_ ?_
  ·rw [poolo_eq]
   unfold PoolX.put
   dsimp only
   rw [e1 ⟨f.b,x,f.pins,true,sn,f.used⟩ rfl,bigM_upd _ num _ _ hnd,star_assoc,frc_eq]
   subst hsn
   dsimp only
   first|exact .refl _|exact .drop|exact .fin|((repeat refine .pick ?_);first|exact .refl _|exact .emp _|exact .fin)
  refine CallK.ret f_z2e.ok (puse_spec (X:=S.P.put num ⟨f.b,x,f.pins,true,sn,f.used⟩) (n:=num) (f:=⟨f.b,x,f.pins,true,sn,f.used⟩) (upd_nodup num _ _ hS.nd) ((updKV_lookup num _ num S.P.held).trans (if_pos rfl)) (show 0 ≤ S.P.clock ∧ S.P.clock ≤ 4000000000000 by omega)) ?_
  rintro v G' ⟨rfl,rfl⟩
  conv=>whnf
  skip
  have hv:(⟨(S.P.put num ⟨f.b,x,f.pins,true,sn,f.used⟩).use num ⟨f.b,x,f.pins,true,sn,f.used⟩,S.L,S.D⟩:StoX).val = T.2:=by
   rw [hT]
   unfold StoX.val
   dsimp only
   rw [use_val,put_val]
   unfold PoolM.use PoolM.put FrX.val
   dsimp only
   rw [upd_upd,hx]
  refine ⟨_,_,rfl,?_,⟨(S.P.put num ⟨f.b,x,f.pins,true,sn,f.used⟩).use num ⟨f.b,x,f.pins,true,sn,f.used⟩,S.L,S.D⟩,⟨by rw [hv];exact hok,hS.L,hS.D,hS.ld⟩,(StoX.Same.refl S).trans ⟨rfl,rfl⟩,hv,by rw [hT],rfl⟩
  refine Imp.stoo (l:=S.P.l) (d:=S.P.d) (by rfl) (by rfl) ?_
  dsimp only
  first|exact .refl _|exact .drop|exact .fin|((repeat refine .pick ?_);first|exact .refl _|exact .emp _|exact .fin)
end Go.Proofs.YtbcedpankkdfoaaGreatDoor
namespace Go.SL.Pool
open Go Go.SL Go.SL.Sec Go.SL.Fld Go.SL.Rec Go.SL.Twn Go.SL.Pg
theorem Sto.Ok.unpin {S:Sto} (h:S.Ok) (n:Int):(S.unpin n).2.Ok:=by
 unfold Sto.unpin
 split
 ·exact h
 cases hl:S.P.held.lookup n with
 | none=>exact h
 | some f =>
  dsimp only
  split
  ·exact h
  ·have k:=h.fr n f hl
   refine Sto.Ok.put h ⟨k.num,k.pin,k.C,k.G,k.lsn,k.key,k.dirty,k.used⟩ fun m g hm hu=>?_
   exact h.us m n g f hm hl hu
end Go.SL.Pool
/- The program's pool: its calls' answers; Put, Unpin, Evict, Flush; walked. Conditions: in each statement. -/
namespace Go.Proofs.YtbcedpankkdfoaaGreatDoor
open Go Go.SL Go.SL.Sec Go.SL.Fld Go.SL.Pts Go.SL.Rec Go.SL.Twn Go.SL.Pg Go.SL.Mst Go.SL.Pool
def ErrR (w:ByteArray) (n e:Int) (R:HProp) (v:Value) (G:HProp):Prop:=(e = 0 ∧ v = .nilIface ∧ G = R) ∨ (e ≠ 0 ∧ ∃ b,v = .iface t_z5 (ptr b) ∧ G = (fltc b w n e•R))
theorem presult_spec {W:World} {R:HProp} {w:ByteArray} {n e:Int}:Does prog W f_z1h ⟨[.string w,.int .i64 n,.int .i64 e]⟩ R (Ret (ErrR w n e R)):=by
 refine f_z1h.does _ _ _ ?_
 conv=>whnf
 by_cases c:e = 0
 ·subst c
  skip
  exact ⟨_,_,rfl,Imp.refl _,.inl ⟨rfl,rfl,rfl⟩⟩
 ·repeat' (first
   | (rw [decide_eq_false c];conv=>whnf)
   | (intro blk hblk;conv=>whnf))
  exact ⟨_,_,rfl,Imp.refl _,.inr ⟨c,_,rfl,rfl⟩⟩
def StoE (p:Nat) (S:StoX) (w:ByteArray) (n:Int) (T:Int × Sto) (R:HProp) (v:Value) (G:HProp):Prop:=∃ S':StoX,S'.Ok ∧ S.Same S' ∧ S'.val = T.2 ∧ ErrR w n T.1 (stoo p S'•R) v G
abbrev wGet:ByteArray:=⟨#[71,101,116]⟩
abbrev wPut:ByteArray:=⟨#[80,117,116]⟩
abbrev wPin:ByteArray:=⟨#[80,105,110]⟩
abbrev wEvict:ByteArray:=⟨#[69,118,105,99,116]⟩
abbrev wFlush:ByteArray:=⟨#[70,108,117,115,104]⟩
set_option maxHeartbeats 1000000 in
theorem pput_spec {W:World} {R:HProp} {p:Nat} {S:StoX} {num lsn:Int} {ca ga:Option Addr} {nC cc nG gc:Nat} {C:List CntV} {G:List GrpV} [le:LaidE W] [lc:LaidC W] [lp:LaidP W] [oc:OldC W R] [rc:RowN W R ca nC 5 cntv C] [rg:RowN W R ga nG 2 grpv G] (hC:C.length ≤ 1000000000) (hG:G.length ≤ 1000000000) (hS:S.Ok) (hi:PgM.In ⟨num,lsn,C,G⟩) (hc:0 ≤ S.P.clock ∧ S.P.clock ≤ 1000000000) :
  Does prog W f_z1k ⟨[ptr p,.agg ⟨[.int .i64 num,.int .i64 lsn,.slice ca nC cc,.slice ga nG gc]⟩]⟩ (stoo p S•R) (Ret (StoE p S wPut num (S.val.put ⟨num,lsn,C,G⟩) R)):=by
 refine f_z1k.does _ _ ?_
 conv=>whnf
 repeat' (first
  | (refine DrawK.introH tab_ok mixed 5 f_z1k.last1 f_z1k.plan1 (pts blk (.cells ⟨[.int .i64 num,.int .i64 lsn,.slice ca nC cc,.slice ga nG gc]⟩ t_page_Page)•emp) rfl (by kernel_rfl) (Sub.of (by first|exact .refl _|exact .drop|exact .fin|((repeat refine .pick ?_);first|exact .refl _|exact .emp _|exact .fin))) ?_;conv=>whnf)
  | ((first|refine Ld.i ?_|refine LdN.i ?_);conv=>whnf)
  | (intro blk hblk;conv=>whnf))
 refine CallK.imp (H':=stoo p S•pts blk (.cells ⟨[.int .i64 num,.int .i64 lsn,.slice ca nC cc,.slice ga nG gc]⟩ t_page_Page)•R) (by first|exact .refl _|exact .drop|exact .fin|((repeat refine .pick ?_);first|exact .refl _|exact .emp _|exact .fin)) ?_
 refine CallK.ret f_z8.ok (pput0_spec hC hG hS hi hc) ?_
 rintro v G' ⟨S1,hS1,hs1,hv1,rfl,rfl⟩
 conv=>whnf
 repeat' (first
  | (refine CallK.ret f_z1h.ok (presult_spec (w:=wPut)) ?_;rintro v G' hE;conv=>whnf)
  | (refine Sub.on (by first|exact .refl _|exact .drop|exact .fin|((repeat refine .pick ?_);first|exact .refl _|exact .emp _|exact .fin)) ?_;conv=>whnf))
 rcases hE with ⟨h1,rfl,rfl⟩|⟨h1,b,rfl,rfl⟩
 ·exact ⟨_,_,rfl,(by first|exact .refl _|exact .drop|exact .fin|((repeat refine .pick ?_);first|exact .refl _|exact .emp _|exact .fin)),S1,hS1,hs1,hv1,.inl ⟨h1,rfl,rfl⟩⟩
 ·exact ⟨_,_,rfl,(by first|exact .refl _|exact .drop|exact .fin|((repeat refine .pick ?_);first|exact .refl _|exact .emp _|exact .fin)),S1,hS1,hs1,hv1,.inr ⟨h1,_,rfl,rfl⟩⟩
theorem punpin_spec {W:World} {R:HProp} {p:Nat} {S:StoX} {n:Int} (hS:S.Ok) (hp:∀ f,S.P.held.lookup n = some f → -1000000000 ≤ f.pins ∧ f.pins ≤ 1000000000) :
  Does prog W f_z2r ⟨[ptr p,.int .i64 n]⟩ (stoo p S•R) (Ret (StoQ p S (S.val.unpin n) R)):=by
 have hnd:=hS.nd
 have hok:=hS.val.unpin n
 obtain ⟨T,hT⟩:∃ T,T = S.val.unpin n:=⟨_,rfl⟩
 rw [← hT] at hok ⊢
 unfold Sto.unpin at hT
 have epl:S.val.P = S.P.val:=rfl
 rw [epl] at hT
 obtain ⟨pl,hpl⟩:∃ e,e = S.P.val.place n:=⟨_,rfl⟩
 rw [← hpl] at hT
 rw [stoo_eq]
 refine f_z2r.does _ _ ?_
 conv=>whnf
 by_cases c1:pl = 0
 rotate_left
 ·rw [if_pos c1] at hT
  subst hT
  repeat' (first
   | (refine CallK.ret f_zg.ok (pplace_spec (X:=S.P)) ?_;rw [← hpl];rintro v G ⟨rfl,rfl⟩;conv=>whnf)
   | (rw [decide_eq_false c1];conv=>whnf))
  exact ⟨_,_,rfl,Imp.refl _,S,hS,.refl S,rfl,rfl,(stoo_eq p S R).symm⟩
 rw [if_neg (fun k=>k c1)] at hT
 cases hlk:S.P.held.lookup n with
 | none =>
  rw [look_none hlk] at hT
  dsimp only at hT
  subst hT
  repeat' (first
   | (refine CallK.ret f_zg.ok (pplace_spec (X:=S.P)) ?_;rw [← hpl,c1];rintro v G ⟨rfl,rfl⟩;conv=>whnf)
   | (refine Ld.i ?_;conv=>whnf)
   | (refine OpX.of_quiet (OpQ.lkZ tab_ok (MapC.at' (inferInstance:MapC _ S.P.r .i64 (mapv fptr S.P.held) _)) ((mapv_lookup fptr n S.P.held).trans (by rw [hlk];rfl)) rfl rfl rfl rfl rfl ?_);conv=>whnf))
  exact ⟨_,_,rfl,Imp.refl _,S,hS,.refl S,rfl,rfl,(stoo_eq p S R).symm⟩
 | some f =>
 rw [look_val hlk] at hT
 dsimp only at hT
 rw [show f.val.pins = f.pins from rfl] at hT
 have hpi:=hp f hlk
 by_cases c2:f.pins = 0
 ·rw [if_pos c2] at hT
  subst hT
  repeat' (first
   | (refine CallK.ret f_zg.ok (pplace_spec (X:=S.P)) ?_;rw [← hpl,c1];rintro v G ⟨rfl,rfl⟩;rw [poolo_eq,bigM_at hnd hlk];conv=>whnf)
   | (rw [decide_eq_true c2];conv=>whnf)
   | ((first|refine Ld.i ?_|refine OpX.lks tab_ok hlk rfl rfl rfl rfl rfl ?_);conv=>whnf))
  refine ⟨_,_,rfl,?_,S,hS,.refl S,rfl,rfl,rfl⟩
  rw [stoo_eq,poolo_eq,bigM_at hnd hlk]
  first|exact .refl _|exact .drop|exact .fin|((repeat refine .pick ?_);first|exact .refl _|exact .emp _|exact .fin)
 rw [if_neg c2] at hT
 repeat' (first
  | (refine CallK.ret f_zg.ok (pplace_spec (X:=S.P)) ?_;rw [← hpl,c1];rintro v G ⟨rfl,rfl⟩;rw [poolo_eq,bigM_at hnd hlk];conv=>whnf)
  | (rw [decide_eq_false c2];conv=>whnf)
  | ((first|refine Ld.i ?_|refine St.i ⟨rfl,rfl⟩ (List.cons_ne_nil _ _) ?_|refine Ar.i64 (by omega) ?_|refine OpX.lks tab_ok hlk rfl rfl rfl rfl rfl ?_);conv=>whnf))
 have hv:(⟨S.P.put n { f with pins:=f.pins - 1 },S.L,S.D⟩:StoX).val = T.2:=by
  unfold StoX.val
  dsimp only
  rw [put_val,hT]
  rfl
 have e1:mapv fptr (updKV n { f with pins:=f.pins - 1 } S.P.held) = mapv fptr S.P.held:=by
  rw [mapv_upd]
  refine upd_same n _ _ ?_
  rw [mapv_lookup,hlk];rfl
 refine ⟨_,_,rfl,?_,⟨S.P.put n { f with pins:=f.pins - 1 },S.L,S.D⟩,⟨by rw [hv];exact hok,hS.L,hS.D,hS.ld⟩,⟨rfl,rfl⟩,hv,by rw [hT],rfl⟩
 refine Imp.stoo (l:=S.P.l) (d:=S.P.d) (by rfl) (by rfl) ?_
 rw [poolo_eq]
 unfold PoolX.put
 dsimp only
 rw [e1,bigM_upd _ n _ _ hnd,star_assoc,frc_eq]
 first|exact .refl _|exact .drop|exact .fin|((repeat refine .pick ?_);first|exact .refl _|exact .emp _|exact .fin)
def ThereQ (n:Int) (X:PoolX) (v:Value):Prop:=(X.val.there n = 0 ∧ ∃ f,X.held.lookup n = some f ∧ v = .tuple ⟨[ptr f.b,i0]⟩) ∨ (X.val.there n ≠ 0 ∧ v = .tuple ⟨[.pointer none,.int .i64 (X.val.there n)]⟩)
theorem pthere_spec {W:World} {R:HProp} {p:Nat} {X:PoolX} {n:Int} :
  Does prog W f_z3d ⟨[ptr p,.int .i64 n]⟩ (poolo p X•R) (Ret fun v G=>ThereQ n X v ∧ G = (poolo p X•R)):=by
 unfold ThereQ PoolM.there
 obtain ⟨pl,hpl⟩:∃ e,e = X.val.place n:=⟨_,rfl⟩
 rw [← hpl]
 refine f_z3d.does _ _ ?_
 conv=>whnf
 by_cases c1:pl = 0
 rotate_left
 ·rw [if_pos c1]
  repeat' (first
   | (refine CallK.ret f_zg.ok (pplace_spec (X:=X)) ?_;rw [← hpl];rintro v G ⟨rfl,rfl⟩;conv=>whnf)
   | (rw [decide_eq_false c1];conv=>whnf))
  exact ⟨_,_,rfl,Imp.refl _,.inr ⟨c1,rfl⟩,rfl⟩
 rw [if_neg (fun k=>k c1)]
 cases hlk:X.held.lookup n with
 | none =>
  rw [look_none hlk]
  repeat' (first
   | (refine CallK.ret f_zg.ok (pplace_spec (X:=X)) ?_;rw [← hpl,c1];rintro v G ⟨rfl,rfl⟩;conv=>whnf)
   | (refine Ld.i ?_;conv=>whnf)
   | (refine OpX.of_quiet (OpQ.lkZ tab_ok (MapC.at' (inferInstance:MapC _ X.r .i64 (mapv fptr X.held) _)) ((mapv_lookup fptr n X.held).trans (by rw [hlk];rfl)) rfl rfl rfl rfl rfl ?_);conv=>whnf))
  exact ⟨_,_,rfl,Imp.refl _,.inr ⟨(show (101:Int) ≠ 0 by decide),rfl⟩,rfl⟩
 | some f =>
  rw [look_val hlk]
  repeat' (first
   | (refine CallK.ret f_zg.ok (pplace_spec (X:=X)) ?_;rw [← hpl,c1];rintro v G ⟨rfl,rfl⟩;conv=>whnf)
   | ((first|refine Ld.i ?_|refine OpX.lks tab_ok hlk rfl rfl rfl rfl rfl ?_);conv=>whnf))
  exact ⟨_,_,rfl,Imp.refl _,.inl ⟨rfl,f,rfl,rfl⟩,rfl⟩
theorem pevict_spec {W:World} {R:HProp} {p:Nat} {S:StoX} {n:Int} [le:LaidE W] [lc:LaidC W] [lp:LaidP W] [oc:OldC W R] (hS:S.Ok) :
  Does prog W f_z33 ⟨[ptr p,.int .i64 n]⟩ (stoo p S•R) (Ret (StoE p S wEvict n (S.val.evict n) R)):=by
 have hnd:=hS.nd
 obtain ⟨T,hT⟩:∃ T,T = S.val.evict n:=⟨_,rfl⟩
 rw [← hT]
 unfold Sto.evict at hT
 have epl:S.val.P = S.P.val:=rfl
 rw [epl] at hT
 have ht:S.P.val.there n = (if S.P.val.place n ≠ 0 then S.P.val.place n else if (S.P.val.held.lookup n).isSome then 0 else 101):=rfl
 rw [stoo_eq]
 refine f_z33.does _ _ ?_
 conv=>whnf
 skip
 refine CallK.ret f_z3d.ok (pthere_spec (X:=S.P)) ?_
 rintro v G ⟨⟨k1,f,hlk,rfl⟩|⟨k1,rfl⟩,rfl⟩
 rotate_left
 ·have hT':T = (S.P.val.there n,S.val):=by
   rw [hT,ht]
   by_cases c1:S.P.val.place n ≠ 0
   ·rw [if_pos c1,if_pos c1]
   ·rw [if_neg c1,if_neg c1]
    rw [ht,if_neg c1] at k1
    cases hh:S.P.val.held.lookup n with
    | none=>rfl
    | some g=>rw [hh] at k1;exact absurd rfl k1
  rw [hT']
  conv=>whnf
  repeat' (first
   | (rw [decide_eq_false k1];conv=>whnf)
   | (refine CallK.ret f_z1h.ok (presult_spec (w:=wEvict)) ?_;rintro v G' hE;conv=>whnf))
  rcases hE with ⟨h1,rfl,rfl⟩|⟨h1,b,rfl,rfl⟩
  ·exact absurd h1 k1
  ·exact ⟨_,_,rfl,Imp.refl _,S,hS,.refl S,rfl,.inr ⟨h1,_,rfl,by rw [stoo_eq]⟩⟩
 have hpl:S.P.val.place n = 0:=by
  by_cases c1:S.P.val.place n ≠ 0
  ·rw [ht,if_pos c1] at k1;exact absurd k1 c1
  ·omega
 rw [hpl,if_neg (fun k=>k rfl),look_val hlk] at hT
 dsimp only at hT
 rw [show f.val.pins = f.pins from rfl] at hT
 haveI rf:∀ (Q:HProp) (k:Nat) (v:Value) [LAt (frv f) k v],RdC W (poolo p S.P•Q) ⟨f.b,k,none⟩ v:=fun Q k v _=>rd_frame hnd hlk
 haveI rl:∀ (Q:HProp) (k m:Nat) (vs:List Value) [LSub (frv f) k m vs],RdLC W (poolo p S.P•Q) f.b k m vs:=fun Q k m vs _=>rdl_frame hnd hlk
 by_cases c2:f.pins > 0
 ·rw [if_pos c2] at hT
  subst hT
  conv=>whnf
  repeat' (first
   | (rw [decide_eq_true c2];conv=>whnf)
   | (refine CallK.ret f_z1h.ok (presult_spec (w:=wEvict)) ?_;rintro v G' hE;conv=>whnf)
   | (refine Ld.i ?_;conv=>whnf))
  rcases hE with ⟨h1,rfl,rfl⟩|⟨h1,b,rfl,rfl⟩
  ·cases h1
  ·exact ⟨_,_,rfl,Imp.refl _,S,hS,.refl S,rfl,.inr ⟨h1,_,rfl,by rw [stoo_eq]⟩⟩
 rw [if_neg c2] at hT
 conv=>whnf
 repeat' (first
  | (rw [decide_eq_false c2];conv=>whnf)
  | (refine Ld.i ?_;conv=>whnf))
 rw [← stoo_eq]
 refine CallK.ret f_z3e.ok (pleave_spec hS hlk) ?_
 rw [show S.val.leave n f.val = T from hT.symm]
 rintro v G ⟨S1,hS1,hs1,hv1,rfl,rfl⟩
 conv=>whnf
 repeat' (first
  | (refine CallK.ret f_z1h.ok (presult_spec (w:=wEvict)) ?_;rintro v G' hE;conv=>whnf))
 rcases hE with ⟨h1,rfl,rfl⟩|⟨h1,b,rfl,rfl⟩
 ·exact ⟨_,_,rfl,Imp.refl _,S1,hS1,hs1,hv1,.inl ⟨h1,rfl,rfl⟩⟩
 ·exact ⟨_,_,rfl,Imp.refl _,S1,hS1,hs1,hv1,.inr ⟨h1,_,rfl,rfl⟩⟩
theorem pflush_spec {W:World} {R:HProp} {p:Nat} {S:StoX} {n:Int} [le:LaidE W] [lc:LaidC W] [lp:LaidP W] [oc:OldC W R] (hS:S.Ok) :
  Does prog W f_z3c ⟨[ptr p,.int .i64 n]⟩ (stoo p S•R) (Ret (StoE p S wFlush n (S.val.flush n) R)):=by
 obtain ⟨T,hT⟩:∃ T,T = S.val.flush n:=⟨_,rfl⟩
 rw [← hT]
 unfold Sto.flush at hT
 have epl:S.val.P = S.P.val:=rfl
 rw [epl] at hT
 have ht:S.P.val.there n = (if S.P.val.place n ≠ 0 then S.P.val.place n else if (S.P.val.held.lookup n).isSome then 0 else 101):=rfl
 rw [stoo_eq]
 refine f_z3c.does _ _ ?_
 conv=>whnf
 skip
 refine CallK.ret f_z3d.ok (pthere_spec (X:=S.P)) ?_
 rintro v G ⟨⟨k1,f,hlk,rfl⟩|⟨k1,rfl⟩,rfl⟩
 rotate_left
 ·have hT':T = (S.P.val.there n,S.val):=by
   rw [hT,ht]
   by_cases c1:S.P.val.place n ≠ 0
   ·rw [if_pos c1,if_pos c1]
   ·rw [if_neg c1,if_neg c1]
    rw [ht,if_neg c1] at k1
    cases hh:S.P.val.held.lookup n with
    | none=>rfl
    | some g=>rw [hh] at k1;exact absurd rfl k1
  rw [hT']
  conv=>whnf
  repeat' (first
   | (rw [decide_eq_false k1];conv=>whnf)
   | (refine CallK.ret f_z1h.ok (presult_spec (w:=wFlush)) ?_;rintro v G' hE;conv=>whnf))
  rcases hE with ⟨h1,rfl,rfl⟩|⟨h1,b,rfl,rfl⟩
  ·exact absurd h1 k1
  ·exact ⟨_,_,rfl,Imp.refl _,S,hS,.refl S,rfl,.inr ⟨h1,_,rfl,by rw [stoo_eq]⟩⟩
 have hpl:S.P.val.place n = 0:=by
  by_cases c1:S.P.val.place n ≠ 0
  ·rw [ht,if_pos c1] at k1;exact absurd k1 c1
  ·omega
 rw [hpl,if_neg (fun k=>k rfl),look_val hlk] at hT
 dsimp only at hT
 conv=>whnf
 skip
 rw [← stoo_eq]
 refine CallK.ret f_z28.ok (pwrite_spec hS hlk) ?_
 rw [show S.val.write n f.val = T from hT.symm]
 rintro v G ⟨S1,hS1,hs1,hv1,rfl,rfl⟩
 conv=>whnf
 repeat' (first
  | (refine CallK.ret f_z1h.ok (presult_spec (w:=wFlush)) ?_;rintro v G' hE;conv=>whnf))
 rcases hE with ⟨h1,rfl,rfl⟩|⟨h1,b,rfl,rfl⟩
 ·exact ⟨_,_,rfl,Imp.refl _,S1,hS1,hs1,hv1,.inl ⟨h1,rfl,rfl⟩⟩
 ·exact ⟨_,_,rfl,Imp.refl _,S1,hS1,hs1,hv1,.inr ⟨h1,_,rfl,rfl⟩⟩
end Go.Proofs.YtbcedpankkdfoaaGreatDoor
/- The program's page.Decode, Copy, walked. Conditions: in each statement. -/
namespace Go.Proofs.YtbcedpankkdfoaaGreatDoor
open Go Go.SL Go.SL.Sec Go.SL.Fld Go.SL.Pts Go.SL.Rec Go.SL.Pg
def takes (l:List Int):Nat → List Nat → List Int
 | _,[]=>[]
 | z,s :: r=>getB l z s :: takes l (z + s) r
def sumN:List Nat → Nat
 | []=>0
 | s :: r=>s + sumN r
theorem takes_snoc (l:List Int):∀ (r:List Nat) (z s:Nat),takes l z (r ++ [s]) = takes l z r ++ [getB l (z + sumN r) s]
 | [],z,s=>by simp [takes,sumN]
 | q :: r,z,s=>by rw [List.cons_append,takes,takes_snoc l r,takes,sumN,List.cons_append,Nat.add_assoc]
theorem sumN_snoc:∀ (r:List Nat) (s:Nat),sumN (r ++ [s]) = sumN r + s
 | [],s=>by simp [sumN]
 | q :: r,s=>by rw [List.cons_append,sumN,sumN_snoc r,sumN,Nat.add_assoc]
theorem sumN_take_le:∀ (r:List Nat) (i:Nat),sumN (r.take i) ≤ sumN r
 | [],i=>by simp
 | q :: r,0=>by simp [sumN]
 | q :: r,i + 1=>by rw [List.take_succ_cons,sumN,sumN];have:=sumN_take_le r i;omega
theorem takes_len (l:List Int):∀ (r:List Nat) (z:Nat),(takes l z r).length = r.length
 | [],z=>rfl
 | q :: r,z=>by rw [takes,List.length_cons,takes_len l r,List.length_cons]
theorem ptaken_spec {W:World} {R:HProp} {a sa:Option Addr} {nn cap sn sc:Nat} {l:List Int} {z:Int} {sizes:List Int} (r:List Nat) [ro:RowN W R a nn 1 bytv l] (rs:RowN W R sa sn 1 ints sizes) (e1:sizes = r.map fun p:Nat=>(p:Int)) (hz:0 ≤ z ∧ z.toNat + sumN r ≤ l.length) (hl:l.length ≤ 16777216) (hb:Byt l) (hr:∀ p ∈ r,1 ≤ p ∧ p ≤ 8) (hrl:r.length ≤ 1000) :
  Does prog W f_z12 ⟨[.slice a nn cap,.int .i64 z,.slice sa sn sc]⟩ R (Ret fun v G=>∃ a' c',v = .slice a' r.length c' ∧ G = (vec t_uint64 1 u64s a' c' (takes l z.toNat r)•R)):=by
 have h1:=rs.len
 have h2:=ro.len
 subst h1 h2
 haveI:=rs.row
 haveI:=ro.row
 have hsl:sizes.length = r.length:=by rw [e1,List.length_map]
 obtain ⟨zn,rfl⟩:=Int.eq_ofNat_of_zero_le hz.1
 rw [Int.toNat_natCast] at hz ⊢
 refine f_z12.does _ _ _ ?_
 conv=>whnf
 skip
 refine LoopK.at tab_ok (L:=f_z12.live) (ι:=Nat × Option Addr × Nat) (fun i=>i.1 ≤ r.length) (fun i=>[(14,.int .i64 i.1),(1,.int .i64 ((zn + sumN (r.take i.1):Nat):Int)),(7,.slice i.2.1 (takes l zn (r.take i.1)).length i.2.2)]) (fun i=>vec t_uint64 1 u64s i.2.1 i.2.2 (takes l zn (r.take i.1))) (fun i=>r.length - i.1) (0,none,0) (Nat.zero_le _) (fun t v h=>h) (Imp.vnil (Imp.refl _)) ?_
 rintro ⟨i,oa,oc⟩ hi
 dsimp only at hi ⊢
 conv=>whnf
 have hm:=sumN_take_le r i
 by_cases k1:i < r.length
 ·obtain ⟨p,hp⟩:∃ p,r[i]? = some p:=⟨_,List.getElem?_eq_getElem k1⟩
  have hp1:=hr p (List.mem_of_getElem? hp)
  have hs1:sizes[i]? = some (p:Int):=by rw [e1,List.getElem?_map,hp];rfl
  have ht:r.take (i + 1) = r.take i ++ [p]:=by rw [List.take_add_one,hp];rfl
  have hm2:=sumN_take_le r (i + 1)
  rw [ht,sumN_snoc] at hm2
  obtain ⟨Z,hZ⟩:∃ Z:Nat,Z = zn + sumN (r.take i):=⟨_,rfl⟩
  have htl:=takes_len l (r.take i) zn
  rw [List.length_take] at htl
  rw [← hZ]
  repeat' (first
   | (refine CallK.ret f_z13.ok (get_spec (l:=l) (z:=(Z:Int)) (s:=(p:Int)) (by omega) (by omega) hl hb) ?_;rw [Int.toNat_natCast,Int.toNat_natCast];rintro v G ⟨rfl,rfl⟩;conv=>whnf)
   | (refine spl_dec (fun hd=>?_) (fun hd=>?_) <;> first|(exfalso;omega)|(conv=>whnf))
   | (refine Ar.i64 (by omega) ?_;conv=>whnf)
   | (intro blk hblk;conv=>whnf)
   | (refine IxS.r (xs:=sizes) (i:=i) rfl rfl (by omega) (fun ab off ha=>?_);cases ha;conv=>whnf)
   | (refine Ld.r0 hs1 rfl ?_;conv=>whnf)
   | (refine OpX.app1g (xs:=takes l zn (r.take i)) tab_ok rfl rfl rfl rfl rfl rfl (by omega) (fun a' c'=>?_);conv=>whnf))
  refine ⟨rfl,(i + 1,a',c'),k1,fun t v h=>?_,?_,by dsimp only;omega⟩
  ·dsimp only at h
   rw [ht,takes_snoc,← hZ,sumN_snoc,show zn + (sumN (r.take i) + p) = Z + p by omega,Int.natCast_add] at h
   exact h
  ·dsimp only
   rw [ht,takes_snoc,← hZ]
   first|exact .refl _|exact .drop|exact .fin|((repeat refine .pick ?_);first|exact .refl _|exact .emp _|exact .fin)
 ·have hil:r.take i = r:=List.take_of_length_le (by omega)
  rw [hil,takes_len]
  repeat' (first
   | (refine spl_dec (fun hd=>?_) (fun hd=>?_) <;> first|(exfalso;omega)|(conv=>whnf)))
  refine ⟨_,_,rfl,?_,oa,oc,rfl,rfl⟩
  first|exact .refl _|exact .drop|exact .fin|((repeat refine .pick ?_);first|exact .refl _|exact .emp _|exact .fin)
theorem hsz_ok:∀ p ∈ [1,1,2,2,2,4],1 ≤ p ∧ p ≤ 8:=by decide
theorem csz_ok:∀ p ∈ [4,4,8,8,8],1 ≤ p ∧ p ≤ 8:=by decide
theorem gsz_ok:∀ p ∈ [4,8],1 ≤ p ∧ p ≤ 8:=by decide
section
variable {W:World} {R:HProp} {a:Option Addr} {nn cap:Nat} {b:List Int} {number:Int}
set_option maxHeartbeats 2000000 in
theorem pdecode_early [ro:RowN W R a nn 1 bytv b] (hc:b.length ≤ cap) (hl:b.length ≤ 16777216) (hb:Byt b)
  (he:¬ (0 ≤ number ∧ number ≤ 63) ∨ b.length ≠ 1024 ∨ zerosB b = true ∨ getB b 0 1 ≠ 113 ∨ (getB b 1 1 ≠ 1 ∧ getB b 1 1 ≠ 2)) :
  Does prog W f_za ⟨[.slice a nn cap,.int .i64 number]⟩ R (Ret fun v G=>∃ x:PgX,x.m = (decP b number).2 ∧ v = .tuple ⟨[pgv x,.int .i64 (decP b number).1]⟩ ∧ G = (pgc x•R)):=by
 have hn:=ro.len
 subst hn
 haveI:=ro.row
 obtain ⟨T,hT⟩:∃ T,T = decP b number:=⟨_,rfl⟩
 rw [← hT]
 unfold decP at hT
 refine f_za.does _ _ ?_
 conv=>whnf
 by_cases c1:0 ≤ number ∧ number ≤ 63
 rotate_left
 ·rw [if_pos c1] at hT
  subst hT
  repeat' (first
   | (refine CallK.ret f_page_in.ok pin_spec ?_;rintro v G ⟨rfl,rfl⟩;conv=>whnf)
   | (refine spl_ndec (fun hd=>?_) (fun hd=>?_) <;> first|(exfalso;omega)|(conv=>whnf))
   | ((first|refine LdN.i ?_|refine St.i ⟨rfl,rfl⟩ (List.cons_ne_nil _ _) ?_);conv=>whnf)
   | (intro blk hblk;conv=>whnf))
  refine ⟨_,_,rfl,?_,pg0 0 0,rfl,rfl,rfl⟩
  refine Imp.pg0 ?_
  first|exact .refl _|exact .drop|exact .fin|((repeat refine .pick ?_);first|exact .refl _|exact .emp _|exact .fin)
 rw [if_neg (fun k=>k c1)] at hT
 by_cases c2:b.length = 1024
 rotate_left
 ·rw [if_pos c2] at hT
  subst hT
  repeat' (first
   | (refine CallK.ret f_page_in.ok pin_spec ?_;rintro v G ⟨rfl,rfl⟩;conv=>whnf)
   | (refine spl_ndec (fun hd=>?_) (fun hd=>?_) <;> first|(exfalso;omega)|(conv=>whnf))
   | ((first|refine LdN.i ?_|refine St.i ⟨rfl,rfl⟩ (List.cons_ne_nil _ _) ?_);conv=>whnf)
   | (intro blk hblk;conv=>whnf))
  refine ⟨_,_,rfl,?_,pg0 0 0,rfl,rfl,rfl⟩
  refine Imp.pg0 ?_
  first|exact .refl _|exact .drop|exact .fin|((repeat refine .pick ?_);first|exact .refl _|exact .emp _|exact .fin)
 rw [if_neg (fun k=>k c2)] at hT
 obtain ⟨x0,hb0⟩:∃ x,b[0]? = some x:=⟨_,List.getElem?_eq_getElem (by omega)⟩
 obtain ⟨x1,hb1⟩:∃ x,b[1]? = some x:=⟨_,List.getElem?_eq_getElem (by omega)⟩
 rw [getB_one hb0,getB_one hb1] at hT he
 cases hz:zerosB b with
 | true =>
  rw [if_pos hz] at hT
  subst hT
  repeat' (first
   | (refine CallK.ret f_page_in.ok pin_spec ?_;rintro v G ⟨rfl,rfl⟩;conv=>whnf)
   | (refine CallK.ret f_zh.ok (pzeros_spec (l:=b) (by omega)) ?_;rw [hz];rintro v G ⟨rfl,rfl⟩;conv=>whnf)
   | (refine spl_ndec (fun hd=>?_) (fun hd=>?_) <;> first|(exfalso;omega)|(conv=>whnf))
   | ((first|refine LdN.i ?_|refine St.i ⟨rfl,rfl⟩ (List.cons_ne_nil _ _) ?_);conv=>whnf)
   | (intro blk hblk;conv=>whnf))
  refine ⟨_,_,rfl,?_,pg0 number 0,rfl,rfl,rfl⟩
  refine Imp.pg0 ?_
  first|exact .refl _|exact .drop|exact .fin|((repeat refine .pick ?_);first|exact .refl _|exact .emp _|exact .fin)
 | false =>
 rw [hz] at he
 rw [if_neg (by rw [hz];decide)] at hT
 by_cases c4:x0 = 113
 rotate_left
 ·rw [if_pos c4] at hT
  subst hT
  repeat' (first
   | (refine CallK.ret f_page_in.ok pin_spec ?_;rintro v G ⟨rfl,rfl⟩;conv=>whnf)
   | (refine CallK.ret f_zh.ok (pzeros_spec (l:=b) (by omega)) ?_;rw [hz];rintro v G ⟨rfl,rfl⟩;conv=>whnf)
   | (refine spl_ndec (fun hd=>?_) (fun hd=>?_) <;> first|(exfalso;omega)|(conv=>whnf))
   | ((first|refine LdN.i ?_|refine St.i ⟨rfl,rfl⟩ (List.cons_ne_nil _ _) ?_);conv=>whnf)
   | (intro blk hblk;conv=>whnf)
   | (refine IxS.r (xs:=b) (i:=0) rfl rfl (by omega) (fun ab off ha=>?_);cases ha;conv=>whnf)
   | (refine Ld.r0 hb0 rfl ?_;conv=>whnf))
  refine ⟨_,_,rfl,?_,pg0 0 0,rfl,rfl,rfl⟩
  refine Imp.pg0 ?_
  first|exact .refl _|exact .drop|exact .fin|((repeat refine .pick ?_);first|exact .refl _|exact .emp _|exact .fin)
 rw [if_neg (fun k=>k c4)] at hT
 have c5:x1 ≠ 1 ∧ x1 ≠ 2:=(((he.resolve_left (fun k=>k c1)).resolve_left (fun k=>k c2)).resolve_left (by decide)).resolve_left (fun k=>k c4)
 rw [if_pos c5] at hT
 subst hT
 repeat' (first
  | (refine CallK.ret f_page_in.ok pin_spec ?_;rintro v G ⟨rfl,rfl⟩;conv=>whnf)
  | (refine CallK.ret f_zh.ok (pzeros_spec (l:=b) (by omega)) ?_;rw [hz];rintro v G ⟨rfl,rfl⟩;conv=>whnf)
  | (refine spl_ndec (fun hd=>?_) (fun hd=>?_) <;> first|(exfalso;omega)|(conv=>whnf))
  | ((first|refine LdN.i ?_|refine St.i ⟨rfl,rfl⟩ (List.cons_ne_nil _ _) ?_);conv=>whnf)
  | (intro blk hblk;conv=>whnf)
  | (refine IxS.r (xs:=b) (i:=0) rfl rfl (by omega) (fun ab off ha=>?_);cases ha;conv=>whnf)
  | (refine IxS.r (xs:=b) (i:=1) rfl rfl (by omega) (fun ab off ha=>?_);cases ha;conv=>whnf)
  | ((first|refine Ld.r0 hb0 rfl ?_|refine Ld.r0 hb1 rfl ?_);conv=>whnf))
 refine ⟨_,_,rfl,?_,pg0 0 0,rfl,rfl,rfl⟩
 refine Imp.pg0 ?_
 first|exact .refl _|exact .drop|exact .fin|((repeat refine .pick ?_);first|exact .refl _|exact .emp _|exact .fin)
end
end Go.Proofs.YtbcedpankkdfoaaGreatDoor
