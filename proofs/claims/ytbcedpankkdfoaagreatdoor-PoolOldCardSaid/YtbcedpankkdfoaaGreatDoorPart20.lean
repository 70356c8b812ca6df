/- The program's log.Open over a disk without unsynced writes; walked. Conditions: in each statement. -/
import Derived.Test.YtbcedpankkdfoaaGreatDoorPart18
import Derived.Test.YtbcedpankkdfoaaGreatDoorPart19
import Derived.Test.YtbcedpankkdfoaaGreatDoorPart16
namespace Go.SL.Rec
open Go Go.SL Go.SL.Sec Go.SL.Fld Go.SL.Pts
def secsL (D:Dev) (first:Int) (n:Nat):List (List Int):=(List.range n).map fun i=>D.at (first + (i:Nat))
theorem secsL_succ (D:Dev) (first:Int) (n:Nat):secsL D first (n + 1) = secsL D first n ++ [D.at (first + (n:Nat))]:=by unfold secsL;rw [List.range_succ,List.map_append];rfl
theorem secsL_len (D:Dev) (first:Int) (n:Nat):(secsL D first n).length = n:=by unfold secsL;simp
end Go.SL.Rec
namespace Go.Proofs.YtbcedpankkdfoaaGreatDoor
open Go Go.SL Go.SL.Sec Go.SL.Fld Go.SL.Pts Go.SL.Rec Go.SL.Twn
open Go.SL.Und (RecV recv fits)
theorem foundG_len:∀ (l:List (List Int)) (i:Nat),(foundG i l).length ≤ l.length
 | [],_=>Nat.le_refl _
 | s :: l,i=>by
  unfold foundG
  split
  ·rw [List.length_cons,List.length_cons];have:=foundG_len l (i + 1);omega
  ·exact Nat.zero_le _
theorem readG_len:∀ (l:List (List Int)) (i:Nat),(readG i l).2.length ≤ l.length
 | [],_=>Nat.le_refl _
 | s :: l,i=>by
  unfold readG
  split
  ·rw [List.length_cons,List.length_cons];have:=readG_len l (i + 1);omega
  ·exact Nat.zero_le _
def openF (D:Dev) (first:Int) (n:Nat):(Int × Int) × LogM × Dev :=
 let r:=readG 0 (foundG 0 (secsL D first n))
 if r.1 ≠ 0 then ((r.1,60),⟨first,n,r.2,[],0,none⟩,D) else
 let w:=wipG first r.2.length ((secsL D first n).drop r.2.length) false D
 ((0,w.1),⟨first,n,r.2,[],r.2.length,none⟩,w.2)
set_option maxHeartbeats 2000000 in
theorem open1_spec {W:World} {R:HProp} {b1 b2 b3 b4 d l:Nat} {first:Int} {n:Nat} {X:DevX} (hX:X.Ok) (hdn:X.down = false) (hq:X.ps = []) (hf:0 ≤ first ∧ first ≤ 8192) (hn:1 ≤ n ∧ n ≤ 4096) (hs:first + n ≤ X.val.secs) :
  Does prog W f_z19 ⟨[ptr b1,ptr b2,ptr b3,ptr b4]⟩ (logo l (logB d first n none 0 [] 0)•devo d X•pts b1 (.cells ⟨[ptr d]⟩ t_z4f)•pts b2 (.cells ⟨[.int .i64 first]⟩ t_int)•pts b3 (.cells ⟨[.int .i64 n]⟩ t_int)•pts b4 (.cells ⟨[ptr l]⟩ t_z2i)•R)
   (fun en G=>∃ G',Imp G G' ∧ AskN (openF X.val first n).1.1 (openF X.val first n).1.2 (fun G=>∃ (L:LogX) (Y:DevX),L.d = d ∧ Y.Ok ∧ L.val = (openF X.val first n).2.1 ∧ ((openF X.val first n).1.2 = 0 → L.Ok) ∧ Y.val = (openF X.val first n).2.2 ∧ Y.ps.length ≤ n ∧
    G = (logo l L•devo d Y•pts b4 (.cells ⟨[ptr l]⟩ t_z2i)•R)) en G'):=by
 obtain ⟨T,hT⟩:∃ T,T = openF X.val first n:=⟨_,rfl⟩
 rw [← hT]
 unfold openF at hT
 have hdv:X.val.down = false:=hdn
 have hl:=hX.len
 have hsz:X.val.secs = (X.img.length:Int) / 512:=rfl
 refine f_z19.does _ _ _ _ ?_
 conv=>whnf
 repeat' (first
  | (refine DrawK.introK tab_ok mixed 13 f_z19.last2 f_z19.plan2 rfl (by kernel_rfl) ?_;conv=>whnf)
  | (refine CallK.ret f_z1o.ok (sectors_spec (X:=X) hX) ?_;rintro v G ⟨rfl,rfl⟩;conv=>whnf)
  | (refine spl_f hdn ?_;conv=>whnf)
  | (refine spl_dec (fun hd=>?_) (fun hd=>?_) <;> first|(exfalso;omega)|(conv=>whnf))
  | ((first|refine Ld.i ?_|refine Ar.i64 (by omega) ?_);conv=>whnf)
  | (refine Sub.on (by first|exact .refl _|exact .drop|exact .fin|((repeat refine .pick ?_);first|exact .refl _|exact .emp _|exact .fin)) ?_;conv=>whnf)
  | (refine CallK.ret f_zz.ok (down_spec) ?_;rintro v G ⟨rfl,rfl⟩;conv=>whnf))
 refine CallK.ret f_z22.ok (cache_spec (X:=X) hX (by rw [hq];exact Nat.zero_le _)) ?_
 rintro v G ⟨qa,qc,qs,hqs,rfl,rfl⟩
 have hqs0:qs = []:=by
  have:X.val.q = []:=by show X.ps.map _ = [];rw [hq];rfl
  rw [this] at hqs
  exact List.map_eq_nil_iff.1 hqs
 subst hqs0
 conv=>whnf
 repeat' (first
  | (refine Ld.i ?_;conv=>whnf))
 refine LoopK.at (R:=devo d X•logo l (logB d first n none 0 [] 0)•pts b1 (.cells ⟨[ptr d]⟩ t_z4f)•pts b2 (.cells ⟨[.int .i64 first]⟩ t_int)•pts b3 (.cells ⟨[.int .i64 n]⟩ t_int)•pts b4 (.cells ⟨[ptr l]⟩ t_z2i)•R) tab_ok (L:=f_z19.live) (ι:=Nat × List BytX × Option Addr × Nat) (fun i=>i.1 ≤ n ∧ i.2.1.length = i.1 ∧ i.2.1.map (·.b) = secsL X.val first i.1 ∧ ∀ s ∈ i.2.1,s.b.length = 512 ∧ s.b.length ≤ s.c ∧ Byt s.b)
  (fun i=>[(46,.int .i64 i.1),(4,.slice i.2.2.1 i.2.1.length i.2.2.2)]) (fun i=>vec t_S_uint8 1 bytx i.2.2.1 i.2.2.2 i.2.1•bigL bytc i.2.1) (fun i=>n - i.1) (0,[],none,0) ⟨by simp,rfl,rfl,fun x hx=>by cases hx⟩ (fun t v h=>h) ?_ ?_
 ·refine Imp.trans (Imp.trans Imp.drop Imp.drop) ?_
  rw [star_assoc]
  refine Imp.vnil ?_
  show Imp _ (emp•_)
  rw [emp_star]
  exact Imp.refl _
 rintro ⟨i,all,aa,ac⟩ ⟨hi,hal,hall,hsx⟩
 dsimp only at hi hal hall hsx ⊢
 rw [star_assoc]
 conv=>whnf
 by_cases h1:i < n
 ·have hrd:X.val.read (first + (i:Nat)) = (0,X.val.at (first + (i:Nat))):=by
   unfold Dev.read
   rw [if_neg (by rw [hdv];decide),if_neg (by omega)]
  have hrl:=(Dev.read_len (i:=first + (i:Nat)) hX.val (by rw [hrd])).1
  have hr1:(X.val.read (first + (i:Nat))).1 = 0:=by rw [hrd]
  have hr2:(X.val.read (first + (i:Nat))).2 = X.val.at (first + (i:Nat)):=by rw [hrd]
  rw [hr2] at hrl
  repeat' (first
   | (refine CallK.ret f_z16.ok (read_spec (X:=X) (i:=first + (i:Nat)) hX (by rw [hq];exact Nat.zero_le _)) ?_;rw [hr1,hr2];rintro v G ⟨sa,sc,hsc,rfl,rfl⟩;conv=>whnf)
   | (refine CallK.ret f_z14.ok asked_ok ?_;rintro v G ⟨rfl,rfl⟩;conv=>whnf)
   | (refine spl_dec (fun hd=>?_) (fun hd=>?_) <;> first|(exfalso;omega)|(conv=>whnf))
   | ((first|refine Ld.i ?_|refine Ar.i64 (by omega) ?_);conv=>whnf)
   | (intro blk hblk;conv=>whnf)
   | (refine OpX.app1 (xs:=all) tab_ok rfl rfl rfl rfl (⟨sa,sc,X.val.at (first + (i:Nat))⟩:BytX) rfl rfl (by omega) ⟨rfl,OneC.h⟩ (fun aa' ac'=>?_);conv=>whnf))
  obtain ⟨y,hy⟩:∃ y:BytX,y = ⟨sa,sc,X.val.at (first + (i:Nat))⟩:=⟨_,rfl⟩
  have hyc:bytc y = vec t_uint8 1 bytv sa sc (X.val.at (first + (i:Nat))):=by rw [hy];rfl
  rw [← hy]
  refine ⟨rfl,(i + 1,all ++ [y],aa',ac'),⟨h1,by simp [hal],?_,fun x hx=>?_⟩,by rw [show (all ++ [y]).length = all.length + 1 by simp];exact fun t v h=>h,?_,by dsimp only;omega⟩
  ·rw [secsL_succ,List.map_append,hall,hy];rfl
  ·rcases List.mem_append.1 hx with h|h
   ·exact hsx x h
   ·cases List.mem_singleton.1 h
    rw [hy]
    exact ⟨hrl,hsc,Dev.at_byt hX.val⟩
  ·dsimp only
   rw [bigL_snoc,hyc]
   simp only [star_assoc]
   first|exact .refl _|exact .drop|exact .fin|((repeat refine .pick ?_);first|exact .refl _|exact .emp _|exact .fin)
 ·have hin:i = n:=by omega
  subst hin
  repeat' (first
   | (refine DrawK.introK tab_ok mixed 64 f_z19.last16 f_z19.plan16 rfl (by kernel_rfl) ?_;conv=>whnf)
   | (refine spl_dec (fun hd=>?_) (fun hd=>?_) <;> first|(exfalso;omega)|(conv=>whnf))
   | (refine Ld.i ?_;conv=>whnf))
  have hsec:∀ (A Q:HProp),∀ s ∈ all,SecX W (A•bigL bytc all•Q) s:=fun A Q s hs=>by
   obtain ⟨k1,k2,k3⟩:=hsx s hs
   refine ⟨?_,k1,k2,k3⟩
   obtain ⟨R',e⟩:=bigL_mem bytc hs
   rw [e,star_assoc]
   unfold bytc
   infer_instance
  refine CallK.ret f_z2w.ok (found_spec (all:=all) (hsec _ _) (by omega)) ?_
  rintro v G ⟨oa,oc,outs,ho1,ho2,rfl,rfl⟩
  rw [hall] at ho1
  have hol:outs.length ≤ i:=by
   have h1:=congrArg List.length ho1
   rw [List.length_map] at h1
   have h2:=foundG_len (secsL X.val first i) 0
   rw [secsL_len] at h2
   omega
  conv=>whnf
  repeat' (first
   | (refine Sub.on (by first|exact .refl _|exact .drop|exact .fin|((repeat refine .pick ?_);first|exact .refl _|exact .emp _|exact .fin)) ?_;conv=>whnf))
  refine CallK.imp (H':=logo l (logB d first i none 0 [] 0)•vec t_S_uint8 1 bytx oa oc outs•vec t_S_uint8 1 bytx aa ac all•bigL bytc all•devo d X•pts b4 (.cells ⟨[ptr l]⟩ t_z2i)•R) (by first|exact .refl _|exact .drop|exact .fin|((repeat refine .pick ?_);first|exact .refl _|exact .emp _|exact .fin)) ?_
  refine CallK.any f_z26.ok (lread_spec (outs:=outs) (fun x hx=>?_) (by omega)) ?_
  ·obtain ⟨j,hj⟩:=List.getElem?_of_mem hx
   obtain ⟨s,hs1,hs2⟩:=ho2 j x hj
   have k:=(hsec (vec t_S_uint8 1 bytx aa ac all) (devo d X•pts b4 (.cells ⟨[ptr l]⟩ t_z2i)•R) s (List.mem_of_getElem? hs1)).there (Y:=vec t_S_uint8 1 bytx oa oc outs)
   refine ⟨k.sub hs2,?_,?_⟩
   ·rw [hs2.2];exact (k.byt.drop _).take _
   ·rw [hs2.2,List.length_take,List.length_drop,k.len];omega
  obtain ⟨r,hr⟩:∃ r,r = readG 0 (foundG 0 (secsL X.val first i)):=⟨_,rfl⟩
  rw [ho1,← hr]
  rw [← hr] at hT
  dsimp only at hT
  by_cases c0:r.1 = 0
  rotate_left
  ·rw [if_pos c0] at hT
   rw [if_neg c0]
   rintro en G ⟨⟨h0,_⟩|⟨h0,rfl⟩,ra,rc,recs,k1,k2,rfl⟩
   ·cases h0
   conv=>whnf
   rw [if_neg c0]
   refine ⟨_,?_,.inr ⟨?_,?_⟩,logB d first i ra rc recs 0,X,rfl,hX,?_,fun h=>?_,?_,?_,rfl⟩
   ·first|exact .refl _|exact .drop|exact .fin|((repeat refine .pick ?_);first|exact .refl _|exact .emp _|exact .fin)
   ·rw [hT];exact h0
   ·rw [hT]
   ·rw [hT,← k1];rfl
   ·rw [hT] at h;cases h
   ·rw [hT]
   ·rw [hq];exact Nat.zero_le _
  rw [if_neg (fun k=>k c0)] at hT
  rw [if_pos c0]
  rintro en G ⟨⟨h0,rfl⟩|⟨h0,_⟩,ra,rc,recs,k1,k2,rfl⟩
  rotate_left
  ·exact absurd rfl h0
  rw [if_pos c0]
  have hrl:recs.length = r.2.length:=by rw [← k1,List.length_map]
  have hrn:r.2.length ≤ i:=by
   have h1:=readG_len (foundG 0 (secsL X.val first i)) 0
   have h2:=foundG_len (secsL X.val first i) 0
   rw [secsL_len] at h2
   rw [← hr] at h1
   omega
  obtain ⟨w,hw⟩:∃ w,w = wipG first r.2.length ((secsL X.val first i).drop r.2.length) false X.val:=⟨_,rfl⟩
  rw [← hw] at hT
  have hLok:(logB d first i ra rc recs recs.length).Ok:=⟨⟨by show (0:Int) ≤ i;omega,by show (i:Int) ≤ 4096;omega⟩,k2,by show (recs.length:Int) ≤ i;omega,by dsimp only;rfl,fun x hx=>by cases hx⟩
  conv=>whnf
  repeat' (first
   | (refine Ld.i ?_;conv=>whnf))
  refine CallK.imp (H':=logo l (logB d first i ra rc recs recs.length)•devo d X•vec t_S_uint8 1 bytx aa ac all•bigL bytc all•pts b4 (.cells ⟨[ptr l]⟩ t_z2i)•R) (by first|exact .refl _|exact .drop|exact .fin|((repeat refine .pick ?_);first|exact .refl _|exact .emp _|exact .fin)) ?_
  refine CallK.any f_z1p.ok (wipe_spec (all:=all) (X:=logB d first i ra rc recs recs.length) (Y:=X) (hsec _ _) hLok hX (by rw [hq];exact Nat.zero_le _) rfl hf (by rw [hal])) ?_
  rw [hall,show wipG (logB d first i ra rc recs recs.length).first (logB d first i ra rc recs recs.length).recs.length ((secsL X.val first i).drop (logB d first i ra rc recs recs.length).recs.length) false X.val = w by rw [hw,← hrl]]
  rintro en G ⟨⟨h0,rfl⟩|⟨h0,rfl⟩,Y,y1,y2,y3,rfl⟩
  ·conv=>whnf
   refine ⟨_,?_,.inl ⟨?_,rfl⟩,logB d first i ra rc recs recs.length,Y,rfl,y1,?_,fun _=>hLok,?_,?_,rfl⟩
   ·first|exact .refl _|exact .drop|exact .fin|((repeat refine .pick ?_);first|exact .refl _|exact .emp _|exact .fin)
   ·rw [hT];exact h0
   ·rw [hT,← k1];unfold LogX.val;dsimp only;rw [List.length_map];rfl
   ·rw [hT];exact y2
   ·rw [hq] at y3;simp at y3;omega
  ·conv=>whnf
   refine ⟨_,?_,.inr ⟨?_,?_⟩,logB d first i ra rc recs recs.length,Y,rfl,y1,?_,fun _=>hLok,?_,?_,rfl⟩
   ·first|exact .refl _|exact .drop|exact .fin|((repeat refine .pick ?_);first|exact .refl _|exact .emp _|exact .fin)
   ·rw [hT];exact h0
   ·rw [hT]
   ·rw [hT,← k1];unfold LogX.val;dsimp only;rw [List.length_map];rfl
   ·rw [hT];exact y2
   ·rw [hq] at y3;simp at y3;omega
end Go.Proofs.YtbcedpankkdfoaaGreatDoor
/- The program's log.Open, walked. Conditions: in each statement. -/
namespace Go.Proofs.YtbcedpankkdfoaaGreatDoor
open Go Go.SL Go.SL.Sec Go.SL.Fld Go.SL.Pts Go.SL.Rec Go.SL.Twn
open Go.SL.Und (RecV recv fits)
theorem Does.askN {W:World} {g:FuncId} {args:Array Value} {H:HProp} {z e:Int} {P P':HProp → Prop} (h:Does prog W g args H (fun en G=>∃ G',Imp G G' ∧ AskN z e P en G')) (k:∀ G,P G → ∃ G',Imp G G' ∧ P' G'):Does prog W g args H (fun en G=>∃ G',Imp G G' ∧ AskN z e P' en G') :=
 ⟨fun w hs=>(h.run w hs).mono fun _ _ ⟨X,hx,G,hi,ha,hp⟩=>let ⟨G',hi',hp'⟩:=k G hp;⟨X,hx,G',hi.trans hi',ha,hp'⟩⟩
abbrev wOpen:ByteArray:=⟨#[79,112,101,110]⟩
theorem open_spec {W : World} {R : HProp} {d : Nat} {first : Int} {n : Nat} {X : DevX} (hX : X.Ok) (hdn : X.down = false) (hq : X.ps = []) (hf : 0 ≤ first ∧ first ≤ 8192) (hn : 1 ≤ n ∧ n ≤ 4096) (hs : first + n ≤ X.val.secs) :
    Does prog W f_log_Open ⟨[ptr d,.int .i64 first,.int .i64 n]⟩ (devo d X•R) (Ret fun v G=>∃ (L:LogX) (Y:DevX),L.d = d ∧ Y.Ok ∧ L.val = (openF X.val first n).2.1 ∧ ((openF X.val first n).1.2 = 0 → L.Ok) ∧ Y.val = (openF X.val first n).2.2 ∧ Y.ps.length ≤ n ∧
      (((openF X.val first n).1.2 = 0 ∧ ∃ l,v = .tuple ⟨[ptr l,.nilIface]⟩ ∧ G = (logo l L•devo d Y•R)) ∨ ((openF X.val first n).1.2 ≠ 0 ∧ ∃ b,v = .tuple ⟨[.pointer none,.iface t_z5 (ptr b)]⟩ ∧ G = (fltc b wOpen (openF X.val first n).1.1 (openF X.val first n).1.2•devo d Y•R)))):=by
  obtain ⟨T,hT⟩:∃ T,T = openF X.val first n:=⟨_,rfl⟩
  rw [← hT]
  refine f_log_Open.does _ _ _ ?_
  conv=>whnf
  repeat' (first
    | ((first|refine Ld.i ?_|refine St.i ⟨rfl,rfl⟩ (List.cons_ne_nil _ _) ?_);conv=>whnf)
    | (intro blk hblk;conv=>whnf))
  rename_i b1 _ b2 _ b3 _ l _
  obtain ⟨b4,hb4⟩:∃ b4,b4 = blk:=⟨_,rfl⟩
  rw [← hb4]
  refine CallK.imp (H':=logo l (logB d first n none 0 [] 0)•devo d X•pts b1 (.cells ⟨[ptr d]⟩ t_z4f)•pts b2 (.cells ⟨[.int .i64 first]⟩ t_int)•pts b3 (.cells ⟨[.int .i64 n]⟩ t_int)•pts b4 (.cells ⟨[ptr l]⟩ t_z2i)•R) ?_ ?_
  · rw [logo_eq]
    refine Imp.trans (Q:=pts l (.cells ⟨[ptr d,.int .i64 first,.int .i64 n,.slice none 0 0,.slice none 0 0,i0,.nilIface]⟩ t_log_Log)•devo d X•pts b1 (.cells ⟨[ptr d]⟩ t_z4f)•pts b2 (.cells ⟨[.int .i64 first]⟩ t_int)•pts b3 (.cells ⟨[.int .i64 n]⟩ t_int)•pts b4 (.cells ⟨[ptr l]⟩ t_z2i)•R) (by first|exact .refl _|exact .drop|exact .fin|((repeat refine .pick ?_);first|exact .refl _|exact .emp _|exact .fin)) (Imp.right (Imp.vnil ?_))
    show Imp _ (emp•_)
    rw [emp_star]
    refine Imp.vnil ?_
    show Imp _ (emp•emp•_)
    rw [emp_star,emp_star]
    exact Imp.refl _
  refine CallK.ret f_z2n.ok (caughtN_spec (w := wOpen) (z := T.1.1) (e := T.1.2) (P := fun G => ∃ (L : LogX) (Y : DevX), L.d = d ∧ Y.Ok ∧ L.val = T.2.1 ∧ (T.1.2 = 0 → L.Ok) ∧ Y.val = T.2.2 ∧ Y.ps.length ≤ n ∧
        G = (logo l L•devo d Y•pts b4 (.cells ⟨[ptr l]⟩ t_z2i)•R)) f_z19.ok (fun bc be=>?_)) ?_
  · refine Does.imp (H':=logo l (logB d first n none 0 [] 0)•devo d X•pts b1 (.cells ⟨[ptr d]⟩ t_z4f)•pts b2 (.cells ⟨[.int .i64 first]⟩ t_int)•pts b3 (.cells ⟨[.int .i64 n]⟩ t_int)•pts b4 (.cells ⟨[ptr l]⟩ t_z2i)•pts be (.cells ⟨[.nilIface]⟩ t_error)•pts bc (.cells ⟨[.string wOpen]⟩ t_string)•R) (by first|exact .refl _|exact .drop|exact .fin|((repeat refine .pick ?_);first|exact .refl _|exact .emp _|exact .fin)) ?_
    have h:=open1_spec (W:=W) (R:=pts be (.cells ⟨[.nilIface]⟩ t_error)•pts bc (.cells ⟨[.string wOpen]⟩ t_string)•R) (b1:=b1) (b2:=b2) (b3:=b3) (b4:=b4) (d:=d) (l:=l) hX hdn hq hf hn hs
    rw [← hT] at h
    refine Does.askN h ?_
    rintro G ⟨L,Y,h1,h2,h3,h4,h5,h6,rfl⟩
    refine ⟨_,?_,_,⟨L,Y,h1,h2,h3,h4,h5,h6,rfl⟩,rfl⟩
    first|exact .refl _|exact .drop|exact .fin|((repeat refine .pick ?_);first|exact .refl _|exact .emp _|exact .fin)
  rintro v G ⟨G0,⟨L,Y,h1,h2,h3,h4,h5,h6,rfl⟩,⟨h0,rfl,rfl⟩|⟨h0,b,rfl,rfl⟩⟩
  · conv=>whnf
    repeat' (first
      | (refine Ld.i ?_;conv=>whnf))
    exact ⟨_,_,rfl,(by first|exact .refl _|exact .drop|exact .fin|((repeat refine .pick ?_);first|exact .refl _|exact .emp _|exact .fin)),L,Y,h1,h2,h3,h4,h5,h6,.inl ⟨h0,l,rfl,rfl⟩⟩
  · conv=>whnf
    skip
    exact ⟨_,_,rfl,(by first|exact .refl _|exact .drop|exact .fin|((repeat refine .pick ?_);first|exact .refl _|exact .emp _|exact .fin)),L,Y,h1,h2,h3,h4,h5,h6,.inr ⟨h0,b,rfl,rfl⟩⟩
end Go.Proofs.YtbcedpankkdfoaaGreatDoor
/- A page as bytes, in plain words: laying it down, reading it back. No condition. -/
namespace Go.SL.Pg
open Go Go.SL Go.SL.Sec Go.SL.Fld Go.SL.Rec
open Go.Proofs.YtbcedpankkdfoaaGreatDoor (zerosB)
structure PgM where
 num:Int
 lsn:Int
 C:List CntV
 G:List GrpV
 deriving DecidableEq
def PgM.no:PgM:=⟨0,0,[],[]⟩
def cntF (c:CntV):Int:=if ¬ ((1 ≤ c.id ∧ c.id ≤ 1048576) ∧ (1 ≤ c.grp ∧ c.grp ≤ 1048576)) then 23 else if c.lo > c.hi then 11 else 0
def grpF (g:GrpV):Int:=if ¬ (1 ≤ g.id ∧ g.id ≤ 1048576) then 23 else 0
def firstF {α:Type} (f:α → Int):List α → Int
 | []=>0
 | c :: l=>if f c ≠ 0 then f c else firstF f l
def contF (C:List CntV) (G:List GrpV):Int:=if firstF cntF C ≠ 0 then firstF cntF C else firstF grpF G
def PgM.fault (p:PgM):Int :=
 if ¬ (0 ≤ p.num ∧ p.num ≤ 63) then 4 else if p.C.length > 0 ∧ p.G.length > 0 then 70 else if p.C.length > 31 ∨ p.G.length > 84 then 6 else
 if ¬ (0 ≤ p.lsn ∧ p.lsn ≤ 2147483647) ∨ ¬ (p.lsn = 0 ↔ p.C.length + p.G.length = 0) then 23 else contF p.C p.G
def u64 (z:Int):Int:=z % 18446744073709551616
def s64 (z:Int):Int:=if z < 9223372036854775808 then z else z - 18446744073709551616
def In64 (z:Int):Prop:=-9223372036854775808 ≤ z ∧ z ≤ 9223372036854775807
theorem s64_u64 {z:Int} (h:In64 z):s64 (u64 z) = z:=by unfold s64 u64;unfold In64 at h;split <;> omega
theorem u64_bd (z:Int):0 ≤ u64 z ∧ u64 z < 18446744073709551616:=by unfold u64;omega
theorem s64_bd {z:Int} (h:0 ≤ z ∧ z < 18446744073709551616):In64 (s64 z):=by unfold s64 In64;split <;> omega
def CntIn (c:CntV):Prop:=In64 c.id ∧ In64 c.grp ∧ In64 c.lo ∧ In64 c.hi ∧ In64 c.val
def GrpIn (g:GrpV):Prop:=In64 g.id ∧ In64 g.sum
structure PgM.In (p:PgM):Prop where
 num:In64 p.num
 lsn:In64 p.lsn
 C:∀ c ∈ p.C,CntIn c
 G:∀ g ∈ p.G,GrpIn g
def lays:List (Nat × Int) → List Int
 | []=>[]
 | p :: l=>Fld.leB p.1 p.2 ++ lays l
def laysN:List (Nat × Int) → Nat
 | []=>0
 | p :: l=>p.1 + laysN l
theorem lays_len:∀ l:List (Nat × Int),(lays l).length = laysN l
 | []=>rfl
 | p :: l=>by rw [lays,laysN,List.length_append,leB_len,lays_len l]
theorem lays_byt:∀ l:List (Nat × Int),Byt (lays l)
 | []=>Byt.nil
 | _ :: l=>(leB_byt _ _).append (lays_byt l)
def over (b:List Int) (at_:Nat) (x:List Int):List Int:=b.take at_ ++ x ++ b.drop (at_ + x.length)
theorem over_len {b x:List Int} {at_:Nat} (h:at_ + x.length ≤ b.length):(over b at_ x).length = b.length:=by
 unfold over;rw [List.length_append,List.length_append,List.length_take,List.length_drop];omega
theorem over_nil (b:List Int) (at_:Nat):over b at_ [] = b:=by simp [over]
theorem over_over {b x y:List Int} {at_:Nat} (h:at_ + x.length ≤ b.length):over (over b at_ x) (at_ + x.length) y = over b at_ (x ++ y):=by
 unfold over
 have h1:(b.take at_ ++ x).length = at_ + x.length:=by rw [List.length_append,List.length_take];omega
 have e1:(b.take at_ ++ x ++ b.drop (at_ + x.length)).take (at_ + x.length) = b.take at_ ++ x:=by
  rw [← h1];exact List.take_left
 have e2:(b.take at_ ++ x ++ b.drop (at_ + x.length)).drop (at_ + x.length + y.length) = b.drop (at_ + (x ++ y).length):=by
  rw [← List.drop_drop,show (b.take at_ ++ x ++ b.drop (at_ + x.length)).drop (at_ + x.length) = b.drop (at_ + x.length) by rw [← h1];exact List.drop_left,List.drop_drop,List.length_append,Nat.add_assoc]
 rw [e1,e2,List.append_assoc,List.append_assoc,List.append_assoc,List.append_assoc]
theorem putB_over (b:List Int) (at_ size:Nat) (n:Int):putB b at_ size n = over b at_ (Fld.leB size n):=by
 unfold putB over;rw [leB_len]
theorem over_byt {b x:List Int} {at_:Nat} (h:Byt b) (k:Byt x):Byt (over b at_ x):=((h.take _).append k).append (h.drop _)
def cntL (c:CntV):List (Nat × Int):=[(4,u64 c.id),(4,u64 c.grp),(8,u64 c.lo),(8,u64 c.hi),(8,u64 c.val)]
def grpL (g:GrpV):List (Nat × Int):=[(4,u64 g.id),(8,u64 g.sum)]
def PgM.headL (p:PgM):List (Nat × Int):=[(1,113),(1,if p.G.length > 0 then 2 else 1),(2,u64 p.num),(2,((p.C.length + p.G.length:Nat):Int)),(2,0),(4,u64 p.lsn)]
def PgM.body (p:PgM):List Int:=(p.C.flatMap fun c=>lays (cntL c)) ++ p.G.flatMap fun g=>lays (grpL g)
def z1024:List Int:=List.replicate 1024 0
theorem z1024_eq:z1024 = List.replicate 1024 0:=rfl
theorem z1024_len:z1024.length = 1024:=List.length_replicate
theorem z1024_byt:Byt z1024:=Byt.rep 1024
def PgM.bare (p:PgM):List Int:=over (over z1024 0 (lays p.headL)) 16 p.body
def sumP (b:List Int):Int:=crcV (b.take 12 ++ [0,0,0,0] ++ b.drop 16)
def encP (p:PgM):List Int:=if p.C.length + p.G.length = 0 then z1024 else over p.bare 12 (Fld.leB 4 (sumP p.bare))
theorem flat_len {α:Type} {f:α → List Int} {m:Nat} (h:∀ x,(f x).length = m):∀ l:List α,(l.flatMap f).length = l.length * m
 | []=>by simp
 | x :: l=>by rw [List.flatMap_cons,List.length_append,h,flat_len h l,List.length_cons,Nat.succ_mul];omega
theorem flat_drop {α:Type} {f:α → List Int} {m:Nat} (h:∀ x,(f x).length = m):∀ (l:List α) (i:Nat),(l.flatMap f).drop (i * m) = (l.drop i).flatMap f
 | l,0=>by simp
 | [],i + 1=>by simp
 | x :: l,i + 1=>by
  rw [List.flatMap_cons,List.drop_succ_cons,← flat_drop h l i,show (i + 1) * m = (f x).length + i * m by rw [h,Nat.succ_mul];omega,← List.drop_drop,List.drop_left]
theorem cntL_len (c:CntV):(lays (cntL c)).length = 32:=by rw [lays_len];rfl
theorem grpL_len (g:GrpV):(lays (grpL g)).length = 12:=by rw [lays_len];rfl
theorem headL_len (p:PgM):(lays p.headL).length = 12:=by rw [lays_len];rfl
theorem flat_byt {α:Type} {f:α → List Int} (h:∀ x,Byt (f x)):∀ l:List α,Byt (l.flatMap f)
 | []=>Byt.nil
 | x :: l=>by rw [List.flatMap_cons];exact (h x).append (flat_byt h l)
theorem body_byt (p:PgM):Byt p.body:=(flat_byt (fun _=>lays_byt _) _).append (flat_byt (fun _=>lays_byt _) _)
theorem body_len (p:PgM):p.body.length = p.C.length * 32 + p.G.length * 12:=by
 unfold PgM.body;rw [List.length_append,flat_len cntL_len,flat_len grpL_len]
def cntD (b:List Int) (i:Nat):CntV:=⟨getB b (16 + i * 32) 4,getB b (16 + i * 32 + 4) 4,s64 (getB b (16 + i * 32 + 8) 8),s64 (getB b (16 + i * 32 + 16) 8),s64 (getB b (16 + i * 32 + 24) 8)⟩
def grpD (b:List Int) (i:Nat):GrpV:=⟨getB b (16 + i * 12) 4,s64 (getB b (16 + i * 12 + 4) 8)⟩
def cntsD (b:List Int) (n:Nat):List CntV:=(List.range n).map (cntD b)
def grpsD (b:List Int) (n:Nat):List GrpV:=(List.range n).map (grpD b)
def pgD (b:List Int) (number:Int):PgM :=
 if getB b 1 1 = 2 then ⟨number,getB b 8 4,[],grpsD b (getB b 4 2).toNat⟩ else ⟨number,getB b 8 4,cntsD b (getB b 4 2).toNat,[]⟩
def szD (b:List Int):Nat:=if getB b 1 1 = 2 then 12 else 32
def decP (b:List Int) (number:Int):Int × PgM :=
 if ¬ (0 ≤ number ∧ number ≤ 63) then (4,.no) else if b.length ≠ 1024 then (42,.no) else if zerosB b = true then (0,⟨number,0,[],[]⟩) else
 if getB b 0 1 ≠ 113 then (80,.no) else if getB b 1 1 ≠ 1 ∧ getB b 1 1 ≠ 2 then (70,.no) else
 if getB b 12 4 ≠ sumP b then (81,.no) else if getB b 2 2 ≠ number then (82,.no) else
 if ¬ (1 ≤ getB b 4 2 ∧ getB b 4 2 ≤ if getB b 1 1 = 2 then 84 else 31) ∨ ¬ (1 ≤ getB b 8 4 ∧ getB b 8 4 ≤ 2147483647) then (23,.no) else
 if contF (pgD b number).C (pgD b number).G ≠ 0 then (contF (pgD b number).C (pgD b number).G,.no) else
 if getB b 6 2 ≠ 0 ∨ zerosB (b.drop (16 + (getB b 4 2).toNat * szD b)) = false then (23,.no) else (0,pgD b number)
end Go.SL.Pg
/- What a page's bytes say is the page. Conditions: in each statement. -/
namespace Go.SL.Pg
open Go Go.SL Go.SL.Sec Go.SL.Fld Go.SL.Rec
open Go.Proofs.YtbcedpankkdfoaaGreatDoor (zerosB)
theorem getB_drop (b:List Int) (a m k:Nat):getB b (a + m) k = getB (b.drop a) m k:=by unfold getB;rw [List.drop_drop]
theorem getB_head {k:Nat} {n:Int} {y:List Int} (h0:0 ≤ n) (h1:n < 256 ^ k):getB (Fld.leB k n ++ y) 0 k = n:=by
 unfold getB
 rw [List.drop_zero,List.take_append_of_le_length (by rw [leB_len];exact Nat.le_refl _),List.take_of_length_le (by rw [leB_len];exact Nat.le_refl _),leV_leB _ _ h0 h1]
theorem lays_get:∀ (l:List (Nat × Int)) (i:Nat) (k:Nat) (n:Int) (y:List Int),l[i]? = some (k,n) → 0 ≤ n → n < 256 ^ k → getB (lays l ++ y) (laysN (l.take i)) k = n
 | [],_,_,_,_,h,_,_=>by simp at h
 | q :: l,0,k,n,y,h,h0,h1=>by
  simp at h;subst h
  rw [lays,List.append_assoc]
  exact getB_head h0 h1
 | q :: l,i + 1,k,n,y,h,h0,h1=>by
  rw [List.take_succ_cons,laysN,lays,List.append_assoc,getB_drop]
  have e:(Fld.leB q.1 q.2 ++ (lays l ++ y)).drop q.1 = lays l ++ y:=by
   conv=>lhs;arg 1;rw [← leB_len q.1 q.2]
   exact List.drop_left
  rw [e]
  exact lays_get l i k n y (by simpa using h) h0 h1
def PgM.rest (p:PgM):List Int:=p.body ++ z1024.drop (16 + p.body.length)
def PgM.flat (p:PgM) (s:List Int):List Int:=lays p.headL ++ (s ++ p.rest)
theorem bare_flat {p:PgM} (h:16 + p.body.length ≤ 1024):p.bare = p.flat [0,0,0,0]:=by
 have hl:=headL_len p
 have e1:over z1024 0 (lays p.headL) = lays p.headL ++ z1024.drop 12:=by
  unfold over;rw [List.take_zero,List.nil_append,Nat.zero_add,hl]
 unfold PgM.bare PgM.flat PgM.rest
 rw [e1]
 unfold over
 have e2:(lays p.headL ++ z1024.drop 12).take 16 = lays p.headL ++ [0,0,0,0]:=by
  rw [show 16 = (lays p.headL).length + 4 by omega,List.take_length_add_append]
  congr 1
 have e3:(lays p.headL ++ z1024.drop 12).drop (16 + p.body.length) = z1024.drop (16 + p.body.length):=by
  rw [show 16 + p.body.length = (lays p.headL).length + (4 + p.body.length) by omega,List.drop_length_add_append,List.drop_drop]
  congr 1
 rw [e2,e3,List.append_assoc,List.append_assoc]
theorem flat_take {p:PgM} {s:List Int}:(p.flat s).take 12 = lays p.headL:=by
 unfold PgM.flat;rw [← headL_len p];exact List.take_left
theorem flat_d12 {p:PgM} {s:List Int}:(p.flat s).drop 12 = s ++ p.rest:=by
 unfold PgM.flat
 conv=>lhs;arg 1;rw [← headL_len p]
 exact List.drop_left
theorem flat_drop16 {p:PgM} {s:List Int} (hs:s.length = 4):(p.flat s).drop 16 = p.rest:=by
 rw [show 16 = 12 + 4 from rfl,← List.drop_drop,flat_d12,← hs]
 exact List.drop_left
theorem flat_sum {p:PgM} {s:List Int} (hs:s.length = 4):sumP (p.flat s) = sumP (p.flat [0,0,0,0]):=by
 unfold sumP;rw [flat_take,flat_take,flat_drop16 hs,flat_drop16 rfl]
theorem flat_over {p:PgM} {s t:List Int} (hs:s.length = 4) (ht:t.length = 4):over (p.flat s) 12 t = p.flat t:=by
 unfold over
 rw [flat_take,ht,flat_drop16 hs,List.append_assoc];rfl
theorem enc_flat {p:PgM} (h:16 + p.body.length ≤ 1024) (hn:p.C.length + p.G.length ≠ 0):encP p = p.flat (Fld.leB 4 (sumP (p.flat [0,0,0,0]))):=by
 unfold encP
 rw [if_neg hn,bare_flat h,flat_over rfl (leB_len _ _)]
theorem PgM.flat_len {p:PgM} {s:List Int} (h:16 + p.body.length ≤ 1024) (hs:s.length = 4):(p.flat s).length = 1024:=by
 unfold PgM.flat PgM.rest
 rw [List.length_append,List.length_append,List.length_append,List.length_drop,headL_len,hs,z1024_len];omega
theorem PgM.flat_byt {p:PgM} {s:List Int} (hs:Byt s):Byt (p.flat s):=(lays_byt _).append (hs.append ((body_byt p).append (z1024_byt.drop _)))
theorem PgM.fault_ok {p:PgM} (h:p.fault = 0):(0 ≤ p.num ∧ p.num ≤ 63) ∧ ¬ (p.C.length > 0 ∧ p.G.length > 0) ∧ (p.C.length ≤ 31 ∧ p.G.length ≤ 84) ∧ (0 ≤ p.lsn ∧ p.lsn ≤ 2147483647) ∧ (p.lsn = 0 ↔ p.C.length + p.G.length = 0) ∧ contF p.C p.G = 0:=by
 unfold PgM.fault at h
 split at h
 ·exact absurd h (by decide)
 split at h
 ·exact absurd h (by decide)
 split at h
 ·exact absurd h (by decide)
 split at h
 ·exact absurd h (by decide)
 rename_i h1 h2 h3 h4
 exact ⟨Decidable.not_not.1 h1,h2,by omega,Decidable.not_not.1 fun k=>h4 (.inl k),Decidable.not_not.1 fun k=>h4 (.inr k),h⟩
theorem PgM.body_le {p:PgM} (h:p.fault = 0):16 + p.body.length ≤ 1024:=by
 obtain ⟨_,h2,h3,_⟩:=PgM.fault_ok h
 rw [body_len];omega
theorem encP_len {p:PgM} (h:p.fault = 0):(encP p).length = 1024:=by
 by_cases hn:p.C.length + p.G.length = 0
 ·unfold encP;rw [if_pos hn];exact z1024_len
 ·rw [enc_flat (PgM.body_le h) hn];exact PgM.flat_len (PgM.body_le h) (leB_len _ _)
theorem encP_byt {p:PgM} (h:p.fault = 0):Byt (encP p):=by
 by_cases hn:p.C.length + p.G.length = 0
 ·unfold encP;rw [if_pos hn];exact z1024_byt
 ·rw [enc_flat (PgM.body_le h) hn];exact PgM.flat_byt (leB_byt _ _)
theorem zerosB_rep (n:Nat):zerosB (List.replicate n 0) = true:=by
 unfold zerosB;rw [List.all_eq_true];intro x hx;rw [List.eq_of_mem_replicate hx];rfl
theorem zerosB_z (n:Nat):zerosB (z1024.drop n) = true:=by
 rw [z1024_eq,List.drop_replicate];exact zerosB_rep _
theorem range_map {α:Type} (f:Nat → α) (l:List α) (h:∀ i x,l[i]? = some x → f i = x):(List.range l.length).map f = l:=by
 apply List.ext_getElem?
 intro i
 rw [List.getElem?_map]
 by_cases hi:i < l.length
 ·rw [List.getElem?_range hi,List.getElem?_eq_getElem hi]
  exact congrArg some (h i _ (List.getElem?_eq_getElem hi))
 ·rw [List.getElem?_eq_none (by simp;omega),List.getElem?_eq_none (by omega)];rfl
theorem crc_bd (l:List Int):0 ≤ crcV l ∧ crcV l < 4294967296:=by
 unfold crcV
 have:=(~~~ (crcL (BitVec.allOnes 32) l)).isLt
 omega
theorem u64_small {z:Int} (h:0 ≤ z ∧ z ≤ 9223372036854775807):u64 z = z:=by unfold u64;omega
theorem firstF_mem {α:Type} {f:α → Int}:∀ {l:List α},firstF f l = 0 → ∀ x ∈ l,f x = 0
 | [],_,x,h=>by cases h
 | c :: l,h,x,hx=>by
  unfold firstF at h
  split at h
  ·rename_i k;exact absurd h k
  ·rename_i k
   rcases List.mem_cons.1 hx with rfl|hx
   ·exact Decidable.not_not.1 k
   ·exact firstF_mem h x hx
theorem contF_mem {C:List CntV} {G:List GrpV} (h:contF C G = 0):(∀ c ∈ C,cntF c = 0) ∧ ∀ g ∈ G,grpF g = 0:=by
 unfold contF at h
 split at h
 ·rename_i k;exact absurd h k
 ·rename_i k;exact ⟨firstF_mem (Decidable.not_not.1 k),firstF_mem h⟩
theorem cntF_ok {c:CntV} (h:cntF c = 0):(1 ≤ c.id ∧ c.id ≤ 1048576) ∧ (1 ≤ c.grp ∧ c.grp ≤ 1048576) ∧ c.lo ≤ c.hi:=by
 unfold cntF at h
 split at h
 ·exact absurd h (by decide)
 ·split at h
  ·exact absurd h (by decide)
  ·rename_i h1 h2
   have:=Decidable.not_not.1 h1
   exact ⟨this.1,this.2,by omega⟩
theorem grpF_ok {g:GrpV} (h:grpF g = 0):1 ≤ g.id ∧ g.id ≤ 1048576:=by
 unfold grpF at h
 split at h
 ·exact absurd h (by decide)
 ·rename_i h1;exact Decidable.not_not.1 h1
theorem p4:(256:Int) ^ 4 = 4294967296:=by decide
theorem p8:(256:Int) ^ 8 = 18446744073709551616:=by decide
theorem p2:(256:Int) ^ 2 = 65536:=by decide
theorem p1:(256:Int) ^ 1 = 256:=by decide
theorem cnt_at {p:PgM} {s:List Int} (hs:s.length = 4) (hl:16 + p.body.length ≤ 1024) (hG:p.G = []) {i:Nat} {c:CntV} (h:p.C[i]? = some c):∃ y,(p.flat s).drop (16 + i * 32) = lays (cntL c) ++ y:=by
 have hi:=(List.getElem?_eq_some_iff.1 h).1
 rw [← List.drop_drop,flat_drop16 hs]
 unfold PgM.rest PgM.body
 rw [hG,List.flatMap_nil,List.append_nil,List.drop_append_of_le_length (by rw [flat_len cntL_len];omega),flat_drop cntL_len,drop_of h,List.flatMap_cons,List.append_assoc]
 exact ⟨_,rfl⟩
theorem grp_at {p:PgM} {s:List Int} (hs:s.length = 4) (hC:p.C = []) {i:Nat} {g:GrpV} (h:p.G[i]? = some g):∃ y,(p.flat s).drop (16 + i * 12) = lays (grpL g) ++ y:=by
 have hi:=(List.getElem?_eq_some_iff.1 h).1
 rw [← List.drop_drop,flat_drop16 hs]
 unfold PgM.rest PgM.body
 rw [hC,List.flatMap_nil,List.nil_append,List.drop_append_of_le_length (by rw [flat_len grpL_len];omega),flat_drop grpL_len,drop_of h,List.flatMap_cons,List.append_assoc]
 exact ⟨_,rfl⟩
theorem cntD_of {b:List Int} {i:Nat} {c:CntV} {y:List Int} (h:b.drop (16 + i * 32) = lays (cntL c) ++ y) (hi:CntIn c) (hf:cntF c = 0):cntD b i = c:=by
 obtain ⟨h1,h2,h3⟩:=cntF_ok hf
 obtain ⟨i1,i2,i3,i4,i5⟩:=hi
 have b3:=u64_bd c.lo
 have b4:=u64_bd c.hi
 have b5:=u64_bd c.val
 have e1:=lays_get (cntL c) 0 4 (u64 c.id) y rfl (by rw [u64_small (by omega)];omega) (by rw [u64_small (by omega),p4];omega)
 have e2:=lays_get (cntL c) 1 4 (u64 c.grp) y rfl (by rw [u64_small (by omega)];omega) (by rw [u64_small (by omega),p4];omega)
 have e3:=lays_get (cntL c) 2 8 (u64 c.lo) y rfl b3.1 (by rw [p8];exact b3.2)
 have e4:=lays_get (cntL c) 3 8 (u64 c.hi) y rfl b4.1 (by rw [p8];exact b4.2)
 have e5:=lays_get (cntL c) 4 8 (u64 c.val) y rfl b5.1 (by rw [p8];exact b5.2)
 unfold cntD
 rw [show 16 + i * 32 = (16 + i * 32) + 0 from rfl,getB_drop,Nat.add_zero,getB_drop b _ 4,getB_drop b _ 8,getB_drop b _ 16,getB_drop b _ 24,h]
 rw [show laysN ((cntL c).take 0) = 0 from rfl] at e1
 rw [show laysN ((cntL c).take 1) = 4 from rfl] at e2
 rw [show laysN ((cntL c).take 2) = 8 from rfl] at e3
 rw [show laysN ((cntL c).take 3) = 16 from rfl] at e4
 rw [show laysN ((cntL c).take 4) = 24 from rfl] at e5
 rw [e1,e2,e3,e4,e5,s64_u64 i3,s64_u64 i4,s64_u64 i5,u64_small (by omega),u64_small (by omega)]
theorem grpD_of {b:List Int} {i:Nat} {g:GrpV} {y:List Int} (h:b.drop (16 + i * 12) = lays (grpL g) ++ y) (hi:GrpIn g) (hf:grpF g = 0):grpD b i = g:=by
 have h1:=grpF_ok hf
 have b2:=u64_bd g.sum
 have e1:=lays_get (grpL g) 0 4 (u64 g.id) y rfl (by rw [u64_small (by omega)];omega) (by rw [u64_small (by omega),p4];omega)
 have e2:=lays_get (grpL g) 1 8 (u64 g.sum) y rfl b2.1 (by rw [p8];exact b2.2)
 unfold grpD
 rw [show 16 + i * 12 = (16 + i * 12) + 0 from rfl,getB_drop,Nat.add_zero,getB_drop b _ 4,h]
 rw [show laysN ((grpL g).take 0) = 0 from rfl] at e1
 rw [show laysN ((grpL g).take 1) = 4 from rfl] at e2
 rw [e1,e2,s64_u64 hi.2,u64_small (by omega)]
theorem dec_zero {n:Int} (hn:0 ≤ n ∧ n ≤ 63):decP z1024 n = (0,⟨n,0,[],[]⟩):=by
 unfold decP
 rw [if_neg (fun k=>k hn),if_neg (fun k=>k z1024_len),if_pos (show zerosB z1024 = true from zerosB_rep 1024)]
theorem dec_enc {p:PgM} (h:p.fault = 0) (hi:p.In):decP (encP p) p.num = (0,p):=by
 obtain ⟨h1,h2,h3,h4,h5,h6⟩:=PgM.fault_ok h
 obtain ⟨cC,cG⟩:=contF_mem h6
 by_cases hn:p.C.length + p.G.length = 0
 ·have hC:p.C = []:=List.eq_nil_of_length_eq_zero (by omega)
  have hG:p.G = []:=List.eq_nil_of_length_eq_zero (by omega)
  unfold encP
  rw [if_pos hn,dec_zero h1]
  have:p.lsn = 0:=h5.2 hn
  rw [← this,← hC]
  conv=>lhs;rw [show p.C = p.C from rfl]
  obtain ⟨num,lsn,C,G⟩:=p
  simp at hC hG
  subst hC hG
  rfl
 have hl:=PgM.body_le h
 have hpos:1 ≤ p.lsn:=by
  have:p.lsn ≠ 0:=fun k=>hn (h5.1 k)
  omega
 rw [enc_flat hl hn]
 obtain ⟨S,hS⟩:∃ S,S = Fld.leB 4 (sumP (p.flat [0,0,0,0])):=⟨_,rfl⟩
 have hSl:S.length = 4:=by rw [hS];exact leB_len _ _
 have hsum:sumP (p.flat S) = sumP (p.flat [0,0,0,0]):=flat_sum hSl
 have hcrc:0 ≤ sumP (p.flat [0,0,0,0]) ∧ sumP (p.flat [0,0,0,0]) < 4294967296:=crc_bd _
 have g12:getB (p.flat S) 12 4 = sumP (p.flat [0,0,0,0]):=by
  rw [show 12 = 12 + 0 from rfl,getB_drop,flat_d12,hS]
  exact getB_head hcrc.1 (by rw [p4];exact hcrc.2)
 rw [← hS]
 have hd:∀ i k n,p.headL[i]? = some (k,n) → 0 ≤ n → n < 256 ^ k → getB (p.flat S) (laysN (p.headL.take i)) k = n:=fun i k n a b c=>lays_get p.headL i k n (S ++ p.rest) a b c
 obtain ⟨kd,hkd⟩:∃ kd:Int,kd = if p.G.length > 0 then 2 else 1:=⟨_,rfl⟩
 have hk2:kd = 1 ∨ kd = 2:=by rw [hkd];split <;> omega
 have g0:getB (p.flat S) 0 1 = 113:=hd 0 1 113 rfl (by decide) (by decide)
 have g1:getB (p.flat S) 1 1 = kd:=hd 1 1 kd (by rw [hkd];rfl) (by omega) (by rw [p1];omega)
 have g2:getB (p.flat S) 2 2 = p.num:=by
  have:=hd 2 2 (u64 p.num) rfl (u64_bd _).1 (by rw [u64_small (by omega),p2];omega)
  rw [u64_small (z:=p.num) (by omega)] at this;exact this
 have g4:getB (p.flat S) 4 2 = ((p.C.length + p.G.length:Nat):Int):=hd 3 2 _ rfl (by omega) (by rw [p2];omega)
 have g6:getB (p.flat S) 6 2 = 0:=hd 4 2 0 rfl (by decide) (by decide)
 have g8:getB (p.flat S) 8 4 = p.lsn:=by
  have:=hd 5 4 (u64 p.lsn) rfl (u64_bd _).1 (by rw [u64_small (by omega),p4];omega)
  rw [u64_small (z:=p.lsn) (by omega)] at this;exact this
 have hz:zerosB (p.flat S) ≠ true:=fun k=>by
  have hm:(113:Int) ∈ p.flat S:=List.mem_append_left _ (by unfold PgM.headL lays Fld.leB;simp)
  unfold zerosB at k
  have:=of_decide_eq_true (List.all_eq_true.1 k _ hm)
  exact absurd this (by decide)
 have hb:pgD (p.flat S) p.num = p:=by
  unfold pgD
  rw [g1,g8,g4,Int.toNat_natCast]
  by_cases hg:p.G.length > 0
  ·have hC:p.C = []:=List.eq_nil_of_length_eq_zero (by omega)
   rw [if_pos (by rw [hkd,if_pos hg]),hC,List.length_nil,Nat.zero_add]
   have:grpsD (p.flat S) p.G.length = p.G:=range_map _ _ fun i g hx=>by
    obtain ⟨y,hy⟩:=grp_at hSl hC hx
    exact grpD_of hy (hi.G g (List.mem_of_getElem? hx)) (cG g (List.mem_of_getElem? hx))
   rw [this]
   obtain ⟨num,lsn,C,G⟩:=p
   simp at hC
   subst hC
   rfl
  ·have hG:p.G = []:=List.eq_nil_of_length_eq_zero (by omega)
   rw [if_neg (by rw [hkd,if_neg hg];decide),hG,List.length_nil,Nat.add_zero]
   have:cntsD (p.flat S) p.C.length = p.C:=range_map _ _ fun i c hx=>by
    obtain ⟨y,hy⟩:=cnt_at hSl hl hG hx
    exact cntD_of hy (hi.C c (List.mem_of_getElem? hx)) (cC c (List.mem_of_getElem? hx))
   rw [this]
   obtain ⟨num,lsn,C,G⟩:=p
   simp at hG
   subst hG
   rfl
 have hend:zerosB ((p.flat S).drop (16 + (p.C.length + p.G.length) * szD (p.flat S))) = true:=by
  have e:16 + (p.C.length + p.G.length) * szD (p.flat S) = 16 + p.body.length:=by
   unfold szD
   rw [g1,body_len]
   by_cases hg:p.G.length > 0
   ·rw [if_pos (by rw [hkd,if_pos hg])];omega
   ·rw [if_neg (by rw [hkd,if_neg hg];decide)];omega
  rw [e,← List.drop_drop,flat_drop16 hSl]
  unfold PgM.rest
  rw [List.drop_left]
  exact zerosB_z _
 unfold decP
 rw [if_neg (fun k=>k h1),if_neg (fun k=>k (PgM.flat_len hl hSl)),if_neg hz,if_neg (fun k=>k g0),if_neg (by rw [g1];omega),if_neg (by rw [g12,hsum];exact fun k=>k rfl),if_neg (fun k=>k g2)]
 rw [if_neg (by
  rw [g4,g1,g8,hkd]
  split
  ·simp
   omega
  ·simp
   omega)]
 rw [hb,if_neg (fun k=>k h6),g4,Int.toNat_natCast,if_neg (by rw [g6,hend];decide)]
end Go.SL.Pg
