/- The program's record.Check, walked. Conditions: in each statement. -/
import Derived.Test.YtbcedpankkdfoaaGreatDoorPart8
import Derived.Test.YtbcedpankkdfoaaGreatDoorPart12
set_option linter.unusedVariables false
set_option linter.unusedSimpArgs false
namespace Go.Proofs.YtbcedpankkdfoaaGreatDoor
open Go Go.SL Go.SL.Sec Go.SL.Fld Go.SL.Pts Go.SL.Rec
open Go.SL.Und (RecV recv)

theorem in_spec {W:World} {R:HProp} {n lo hi:Int}:Does prog W f_zq ⟨[.int .i64 n,.int .i64 lo,.int .i64 hi]⟩ R (Ret fun v G=>v = .bool (decide (lo ≤ n ∧ n ≤ hi)) ∧ G = R):=by
 refine f_zq.does _ _ _ ?_
 conv=>whnf
 repeat' (first
  | (refine spl_dec (fun hd=>?_) (fun hd=>?_) <;> first|(exfalso;omega)|(conv=>whnf)))
 ·refine Ret.eq (congrArg Value.bool (decide_eq_decide.2 (by omega))) (Imp.refl _)
 ·refine Ret.eq (congrArg Value.bool (decide_eq_false (by omega)).symm) (Imp.refl _)
theorem below_spec {W:World} {R:HProp} {n l:Int}:Does prog W f_z1q ⟨[.int .i64 n,.int .i64 l]⟩ R (Ret fun v G=>v = .bool (decide (l = 0 ∨ n < l)) ∧ G = R):=by
 refine f_z1q.does _ _ ?_
 conv=>whnf
 repeat' (first
  | (refine spl_dec (fun hd=>?_) (fun hd=>?_) <;> first|(exfalso;omega)|(conv=>whnf)))
 ·refine Ret.eq (congrArg Value.bool (decide_eq_true (by omega)).symm) (Imp.refl _)
 ·refine Ret.eq (congrArg Value.bool (decide_eq_decide.2 (by omega))) (Imp.refl _)
theorem checkpoint_spec {W:World} {R:HProp} {a b:Option Addr} {n n' cap cap':Nat} {nx lsn:Int} {lv:List LiveV} {dv:List DirtyV} [c:RowC W R a 4 livev lv] [d:RowC W R b 2 dirtyv dv] (hn:n = lv.length) (hn':n' = dv.length) :
  Does prog W f_z2t ⟨[.agg ⟨[.slice a n cap,.slice b n' cap',.int .i64 nx]⟩,.int .i64 lsn]⟩ R (Ret fun v G=>v = .bool (cpF nx lsn lv dv) ∧ G = R):=by
 subst hn hn'
 refine f_z2t.does _ _ ?_
 conv=>whnf
 repeat' (first
  | (refine spl_dec (fun hd=>?_) (fun hd=>?_) <;> first|(exfalso;omega)|(conv=>whnf))
  | (refine spl_ndec (fun hd=>?_) (fun hd=>?_) <;> first|(exfalso;omega)|(conv=>whnf))
  | (refine Ld.i ?_;conv=>whnf)
  | (intro blk hblk;conv=>whnf)
  | (refine CallK.ret f_zq.ok (in_spec) ?_;rintro v G ⟨rfl,rfl⟩;conv=>whnf))
 iterate 3
  ·refine Ret.eq (congrArg Value.bool ?_) ?_
   ·rw [cpF,if_pos (by omega)]
   ·first|exact .refl _|exact .drop|exact .fin|((repeat refine .pick ?_);first|exact .refl _|exact .emp _|exact .fin)
 rw [show cpF nx lsn lv dv = (cpLive nx lsn 0 lv && cpDirty lsn (-1) dv) by rw [cpF,if_neg (by omega)]]
 refine LoopK.keep tab_ok (L:=f_z2t.live) (ι:=Nat × Int) (fun i=>i.1 ≤ lv.length ∧ cpLive nx lsn i.2 (lv.drop i.1) = cpLive nx lsn 0 lv) (fun i=>[(30,.int .i64 i.1),(5,.int .i64 i.2)]) (fun i=>lv.length - i.1) (0,0) (by simp) (fun t v h=>h) ?_
 rintro ⟨i,last⟩ ⟨hi,hm⟩
 dsimp only at hi hm ⊢
 conv=>whnf
 by_cases h1:i < lv.length
 ·obtain ⟨x,hx⟩:∃ x,lv[i]? = some x:=⟨_,List.getElem?_eq_getElem h1⟩
  rw [drop_of hx,cpLive] at hm
  repeat' (first
   | (refine spl_dec (fun hd=>?_) (fun hd=>?_) <;> first|(exfalso;omega)|(conv=>whnf))
   | (refine spl_ndec (fun hd=>?_) (fun hd=>?_) <;> first|(exfalso;omega)|(conv=>whnf))
   | (refine spl_intro (fun hd=>?_) (fun hd=>?_) <;> (conv=>whnf))
   | ((first|refine Ld.i ?_|refine St.i ⟨rfl,rfl⟩ (List.cons_ne_nil _ _) ?_|refine Ar.i64 (by omega) ?_);conv=>whnf)
   | (intro blk hblk;conv=>whnf)
   | (refine IxS.r (i:=i) rfl rfl h1 (fun ab off ha=>?_);cases ha;conv=>whnf)
   | (refine LdN.r hx rfl ?_;conv=>whnf)
   | (refine CallK.ret f_zq.ok (in_spec) ?_;rintro v G ⟨rfl,rfl⟩;conv=>whnf)
   | (refine CallK.ret f_z1q.ok (below_spec) ?_;rintro v G ⟨rfl,rfl⟩;conv=>whnf))
  iterate 4
   ·rw [if_pos (by omega)] at hm
    refine Ret.eq (congrArg Value.bool (by rw [← hm];rfl)) ?_
    first|exact .refl _|exact .drop|exact .fin|((repeat refine .pick ?_);first|exact .refl _|exact .emp _|exact .fin)
  ·rw [if_neg (by omega),if_pos (by constructor <;> assumption)] at hm
   refine Ret.eq (congrArg Value.bool (by rw [← hm];rfl)) ?_
   first|exact .refl _|exact .drop|exact .fin|((repeat refine .pick ?_);first|exact .refl _|exact .emp _|exact .fin)
  iterate 2
   ·rw [if_neg (by omega),if_neg (by simp_all)] at hm
    refine ⟨rfl,(i + 1,x.tx),⟨h1,hm⟩,fun t v h=>h,?_,by dsimp only;omega⟩
    first|exact .refl _|exact .drop|exact .fin|((repeat refine .pick ?_);first|exact .refl _|exact .emp _|exact .fin)
 ·rw [drop_all h1,cpLive] at hm
  rw [← hm,Bool.true_and]
  repeat' (first
   | (refine spl_dec (fun hd=>?_) (fun hd=>?_) <;> first|(exfalso;omega)|(conv=>whnf))
   | (refine Ld.i ?_;conv=>whnf))
  refine LoopK.keep tab_ok (L:=f_z2t.live) (ι:=Nat × Int) (fun i=>i.1 ≤ dv.length ∧ cpDirty lsn i.2 (dv.drop i.1) = cpDirty lsn (-1) dv) (fun i=>[(72,.int .i64 i.1),(8,.int .i64 i.2)]) (fun i=>dv.length - i.1) (0,-1) (by simp) (fun t v h=>h) ?_
  rintro ⟨i,page⟩ ⟨hi,hm⟩
  dsimp only at hi hm ⊢
  conv=>whnf
  by_cases h1:i < dv.length
  ·obtain ⟨x,hx⟩:∃ x,dv[i]? = some x:=⟨_,List.getElem?_eq_getElem h1⟩
   rw [drop_of hx,cpDirty] at hm
   repeat' (first
    | (refine spl_dec (fun hd=>?_) (fun hd=>?_) <;> first|(exfalso;omega)|(conv=>whnf))
    | (refine spl_ndec (fun hd=>?_) (fun hd=>?_) <;> first|(exfalso;omega)|(conv=>whnf))
    | ((first|refine Ld.i ?_|refine St.i ⟨rfl,rfl⟩ (List.cons_ne_nil _ _) ?_|refine Ar.i64 (by omega) ?_);conv=>whnf)
    | (intro blk hblk;conv=>whnf)
    | (refine IxS.r (i:=i) rfl rfl h1 (fun ab off ha=>?_);cases ha;conv=>whnf)
    | (refine LdN.r hx rfl ?_;conv=>whnf)
    | (refine CallK.ret f_zq.ok (in_spec) ?_;rintro v G ⟨rfl,rfl⟩;conv=>whnf)
    | (refine CallK.ret f_z1q.ok (below_spec) ?_;rintro v G ⟨rfl,rfl⟩;conv=>whnf))
   iterate 4
    ·rw [if_pos (by omega)] at hm
     refine Ret.eq (congrArg Value.bool hm) ?_
     first|exact .refl _|exact .drop|exact .fin|((repeat refine .pick ?_);first|exact .refl _|exact .emp _|exact .fin)
   ·rw [if_neg (by omega)] at hm
    refine ⟨rfl,(i + 1,x.1),⟨h1,hm⟩,fun t v h=>h,?_,by dsimp only;omega⟩
    first|exact .refl _|exact .drop|exact .fin|((repeat refine .pick ?_);first|exact .refl _|exact .emp _|exact .fin)
  ·rw [drop_all h1,cpDirty] at hm
   repeat' (first
    | (refine spl_dec (fun hd=>?_) (fun hd=>?_) <;> first|(exfalso;omega)|(conv=>whnf)))
   refine Ret.eq (congrArg Value.bool hm) ?_
   first|exact .refl _|exact .drop|exact .fin|((repeat refine .pick ?_);first|exact .refl _|exact .emp _|exact .fin)
theorem slots_spec {W:World} {R:HProp} {a b c d:Int}:Does prog W f_z2s ⟨[.agg ⟨[.int .i64 a,.int .i64 b]⟩,.agg ⟨[.int .i64 c,.int .i64 d]⟩]⟩ R (Ret fun v G=>v = .bool (decide (SlotsP a b c d)) ∧ G = R):=by
 refine f_z2s.does _ _ ?_
 conv=>whnf
 repeat' (first
  | (refine spl_dec (fun hd=>?_) (fun hd=>?_) <;> first|(exfalso;omega)|(conv=>whnf))
  | (refine Ld.i ?_;conv=>whnf)
  | (intro blk hblk;conv=>whnf)
  | (refine CallK.ret f_zq.ok (in_spec) ?_;rintro v G ⟨rfl,rfl⟩;conv=>whnf))
 ·refine Ret.eq (congrArg Value.bool ?_) (by first|exact .refl _|exact .drop|exact .fin|((repeat refine .pick ?_);first|exact .refl _|exact .emp _|exact .fin))
  rw [← decide_not]
  exact decide_eq_decide.2 (by unfold SlotsP;omega)
 all_goals exact Ret.eq (congrArg Value.bool (decide_eq_false (by unfold SlotsP;omega)).symm) (by first|exact .refl _|exact .drop|exact .fin|((repeat refine .pick ?_);first|exact .refl _|exact .emp _|exact .fin))
theorem blank_spec {W:World} {R:HProp} {r:RecV}:Does prog W f_z1g ⟨[recA r]⟩ R (Ret fun v G=>v = .bool (decide (BlankP r)) ∧ G = R):=by
 obtain ⟨r0,r1,r2,r3,r4,r5,r6,r7,r8,r9,r10,r11,r12,r13,⟨r14,r15,r16⟩,⟨r17,r18,r19⟩,r20⟩:=r
 unfold recA
 dsimp only
 refine f_z1g.does _ ?_
 conv=>whnf
 repeat' (first
  | (refine spl_dec (fun hd=>?_) (fun hd=>?_) <;> first|(exfalso;omega)|(conv=>whnf))
  | (refine spl_intro (fun hd=>?_) (fun hd=>?_) <;> (conv=>whnf))
  | ((first|refine Ld.i ?_|refine LdN.i ?_);conv=>whnf)
  | (intro blk hblk;conv=>whnf)
  | (refine OpX.of_quiet (OpQ.eqs rfl rfl ?_);conv=>whnf))
 ·simp only [Bool.and_eq_true,decide_eq_true_eq] at *
  exact Ret.eq (congrArg Value.bool (decide_eq_decide.2 (by unfold BlankP;dsimp only;omega))) (by first|exact .refl _|exact .drop|exact .fin|((repeat refine .pick ?_);first|exact .refl _|exact .emp _|exact .fin))
 all_goals
  (try simp only [Bool.and_eq_true,Bool.and_eq_false_iff,decide_eq_true_eq,decide_eq_false_iff_not] at *)
  exact Ret.eq (congrArg Value.bool (decide_eq_false (by unfold BlankP;dsimp only;omega)).symm) (by first|exact .refl _|exact .drop|exact .fin|((repeat refine .pick ?_);first|exact .refl _|exact .emp _|exact .fin))
theorem check1_spec {W:World} {R:HProp} {r0 r2 r3 r4 r5 r6 r7 r8 r9 r10 r11 r12 r13 r20:Int} {r14 r17:Option Addr} {r16 r19:Nat} {L:List LiveV} {D:List DirtyV} [rl:RowC W R r14 4 livev L] [rd:RowC W R r17 2 dirtyv D] :
  Does prog W f_z2 ⟨[recA ⟨r0,1,r2,r3,r4,r5,r6,r7,r8,r9,r10,r11,r12,r13,(r14,L.length,r16),(r17,D.length,r19),r20⟩]⟩ R (Ret fun v G=>v = .int .i64 (if FieldsP ⟨r0,1,r2,r3,r4,r5,r6,r7,r8,r9,r10,r11,r12,r13,(r14,L.length,r16),(r17,D.length,r19),r20⟩ L D then 0 else 23) ∧ G = R):=by
 have e:=FieldsP.one (r:=⟨r0,1,r2,r3,r4,r5,r6,r7,r8,r9,r10,r11,r12,r13,(r14,L.length,r16),(r17,D.length,r19),r20⟩) (L:=L) (D:=D) rfl
 unfold recA
 dsimp only at e ⊢
 refine f_z2.does _ ?_
 conv=>whnf
 repeat' (first
  | (refine spl_dec (fun hd=>?_) (fun hd=>?_) <;> first|(exfalso;omega)|(conv=>whnf))
  | (refine spl_ndec (fun hd=>?_) (fun hd=>?_) <;> first|(exfalso;omega)|(conv=>whnf))
  | ((first|refine Ld.i ?_|refine LdN.i ?_|refine St.i ⟨rfl,rfl⟩ (List.cons_ne_nil _ _) ?_);conv=>whnf)
  | (intro blk hblk;conv=>whnf)
  | (refine CallK.ret f_z1g.ok ((blank_spec (r:=⟨r0,1,0,r3,r4,r5,r6,r7,r8,r9,r10,r11,r12,r13,(r14,L.length,r16),(r17,D.length,r19),r20⟩))) ?_;rintro v G ⟨rfl,rfl⟩;conv=>whnf)
  | (refine CallK.ret f_zq.ok (in_spec) ?_;rintro v G ⟨rfl,rfl⟩;conv=>whnf))
 all_goals
  refine Ret.eq (congrArg (Value.int .i64) ?_) (by first|exact .refl _|exact .drop|exact .fin|((repeat refine .pick ?_);first|exact .refl _|exact .emp _|exact .fin))
  first
   | exact (if_pos (e.2 (by (repeat' apply And.intro) <;> first|assumption|omega))).symm
   | exact (if_neg (fun h0=>by
     obtain h:=e.1 h0
     clear e h0
     first|omega|((repeat (obtain ⟨_,h⟩:=h));contradiction))).symm
theorem check2_spec {W:World} {R:HProp} {r0 r2 r3 r4 r5 r6 r7 r8 r9 r10 r11 r12 r13 r20:Int} {r14 r17:Option Addr} {r16 r19:Nat} {L:List LiveV} {D:List DirtyV} [rl:RowC W R r14 4 livev L] [rd:RowC W R r17 2 dirtyv D] :
  Does prog W f_z2 ⟨[recA ⟨r0,2,r2,r3,r4,r5,r6,r7,r8,r9,r10,r11,r12,r13,(r14,L.length,r16),(r17,D.length,r19),r20⟩]⟩ R (Ret fun v G=>v = .int .i64 (if FieldsP ⟨r0,2,r2,r3,r4,r5,r6,r7,r8,r9,r10,r11,r12,r13,(r14,L.length,r16),(r17,D.length,r19),r20⟩ L D then 0 else 23) ∧ G = R):=by
 have e:=FieldsP.two (r:=⟨r0,2,r2,r3,r4,r5,r6,r7,r8,r9,r10,r11,r12,r13,(r14,L.length,r16),(r17,D.length,r19),r20⟩) (L:=L) (D:=D) rfl
 unfold recA
 dsimp only at e ⊢
 refine f_z2.does _ ?_
 conv=>whnf
 repeat' (first
  | (refine spl_dec (fun hd=>?_) (fun hd=>?_) <;> first|(exfalso;omega)|(conv=>whnf))
  | (refine spl_ndec (fun hd=>?_) (fun hd=>?_) <;> first|(exfalso;omega)|(conv=>whnf))
  | ((first|refine Ld.i ?_|refine LdN.i ?_|refine St.i ⟨rfl,rfl⟩ (List.cons_ne_nil _ _) ?_);conv=>whnf)
  | (intro blk hblk;conv=>whnf)
  | (refine CallK.ret f_z1g.ok ((blank_spec (r:=⟨r0,2,r2,r3,0,0,0,0,r8,0,0,0,0,0,(r14,L.length,r16),(r17,D.length,r19),r20⟩))) ?_;rintro v G ⟨rfl,rfl⟩;conv=>whnf)
  | (refine CallK.ret f_zq.ok (in_spec) ?_;rintro v G ⟨rfl,rfl⟩;conv=>whnf)
  | (refine CallK.ret f_z2s.ok (slots_spec) ?_;rintro v G ⟨rfl,rfl⟩;conv=>whnf))
 all_goals
  refine Ret.eq (congrArg (Value.int .i64) ?_) (by first|exact .refl _|exact .drop|exact .fin|((repeat refine .pick ?_);first|exact .refl _|exact .emp _|exact .fin))
  first
   | exact (if_pos (e.2 (by (repeat' apply And.intro) <;> first|assumption|omega))).symm
   | exact (if_neg (fun h0=>by
     obtain h:=e.1 h0
     clear e h0
     first|omega|((repeat (obtain ⟨_,h⟩:=h));contradiction))).symm
theorem check3_spec {W:World} {R:HProp} {r0 r2 r3 r4 r5 r6 r7 r8 r9 r10 r11 r12 r13 r20:Int} {r14 r17:Option Addr} {r16 r19:Nat} {L:List LiveV} {D:List DirtyV} [rl:RowC W R r14 4 livev L] [rd:RowC W R r17 2 dirtyv D] :
  Does prog W f_z2 ⟨[recA ⟨r0,3,r2,r3,r4,r5,r6,r7,r8,r9,r10,r11,r12,r13,(r14,L.length,r16),(r17,D.length,r19),r20⟩]⟩ R (Ret fun v G=>v = .int .i64 (if FieldsP ⟨r0,3,r2,r3,r4,r5,r6,r7,r8,r9,r10,r11,r12,r13,(r14,L.length,r16),(r17,D.length,r19),r20⟩ L D then 0 else 23) ∧ G = R):=by
 have e:=FieldsP.add (r:=⟨r0,3,r2,r3,r4,r5,r6,r7,r8,r9,r10,r11,r12,r13,(r14,L.length,r16),(r17,D.length,r19),r20⟩) (L:=L) (D:=D) (.inl rfl)
 unfold recA
 dsimp only at e ⊢
 refine f_z2.does _ ?_
 conv=>whnf
 repeat' (first
  | (refine spl_dec (fun hd=>?_) (fun hd=>?_) <;> first|(exfalso;omega)|(conv=>whnf))
  | (refine spl_ndec (fun hd=>?_) (fun hd=>?_) <;> first|(exfalso;omega)|(conv=>whnf))
  | ((first|refine Ld.i ?_|refine LdN.i ?_|refine St.i ⟨rfl,rfl⟩ (List.cons_ne_nil _ _) ?_);conv=>whnf)
  | (intro blk hblk;conv=>whnf)
  | (refine CallK.ret f_z1g.ok ((blank_spec (r:=⟨r0,3,0,0,0,0,0,0,0,0,r10,r11,r12,r13,(r14,L.length,r16),(r17,D.length,r19),r20⟩))) ?_;rintro v G ⟨rfl,rfl⟩;conv=>whnf)
  | (refine CallK.ret f_zq.ok (in_spec) ?_;rintro v G ⟨rfl,rfl⟩;conv=>whnf)
  | (refine CallK.ret f_z2s.ok (slots_spec) ?_;rintro v G ⟨rfl,rfl⟩;conv=>whnf)
  | (refine CallK.ret f_z1q.ok (below_spec) ?_;rintro v G ⟨rfl,rfl⟩;conv=>whnf))
 all_goals
  refine Ret.eq (congrArg (Value.int .i64) ?_) (by first|exact .refl _|exact .drop|exact .fin|((repeat refine .pick ?_);first|exact .refl _|exact .emp _|exact .fin))
  first
   | exact (if_pos (e.2 (by (repeat' apply And.intro) <;> first|assumption|omega))).symm
   | exact (if_neg (fun h0=>by
     obtain h:=e.1 h0
     clear e h0
     first|omega|((repeat (obtain ⟨_,h⟩:=h));contradiction))).symm
theorem check4_spec {W:World} {R:HProp} {r0 r2 r3 r4 r5 r6 r7 r8 r9 r10 r11 r12 r13 r20:Int} {r14 r17:Option Addr} {r16 r19:Nat} {L:List LiveV} {D:List DirtyV} [rl:RowC W R r14 4 livev L] [rd:RowC W R r17 2 dirtyv D] :
  Does prog W f_z2 ⟨[recA ⟨r0,4,r2,r3,r4,r5,r6,r7,r8,r9,r10,r11,r12,r13,(r14,L.length,r16),(r17,D.length,r19),r20⟩]⟩ R (Ret fun v G=>v = .int .i64 (if FieldsP ⟨r0,4,r2,r3,r4,r5,r6,r7,r8,r9,r10,r11,r12,r13,(r14,L.length,r16),(r17,D.length,r19),r20⟩ L D then 0 else 23) ∧ G = R):=by
 have e:=FieldsP.add (r:=⟨r0,4,r2,r3,r4,r5,r6,r7,r8,r9,r10,r11,r12,r13,(r14,L.length,r16),(r17,D.length,r19),r20⟩) (L:=L) (D:=D) (.inr rfl)
 unfold recA
 dsimp only at e ⊢
 refine f_z2.does _ ?_
 conv=>whnf
 repeat' (first
  | (refine spl_dec (fun hd=>?_) (fun hd=>?_) <;> first|(exfalso;omega)|(conv=>whnf))
  | (refine spl_ndec (fun hd=>?_) (fun hd=>?_) <;> first|(exfalso;omega)|(conv=>whnf))
  | ((first|refine Ld.i ?_|refine LdN.i ?_|refine St.i ⟨rfl,rfl⟩ (List.cons_ne_nil _ _) ?_);conv=>whnf)
  | (intro blk hblk;conv=>whnf)
  | (refine CallK.ret f_z1g.ok ((blank_spec (r:=⟨r0,4,0,0,0,0,0,0,0,0,r10,r11,r12,r13,(r14,L.length,r16),(r17,D.length,r19),r20⟩))) ?_;rintro v G ⟨rfl,rfl⟩;conv=>whnf)
  | (refine CallK.ret f_zq.ok (in_spec) ?_;rintro v G ⟨rfl,rfl⟩;conv=>whnf)
  | (refine CallK.ret f_z2s.ok (slots_spec) ?_;rintro v G ⟨rfl,rfl⟩;conv=>whnf)
  | (refine CallK.ret f_z1q.ok (below_spec) ?_;rintro v G ⟨rfl,rfl⟩;conv=>whnf))
 all_goals
  refine Ret.eq (congrArg (Value.int .i64) ?_) (by first|exact .refl _|exact .drop|exact .fin|((repeat refine .pick ?_);first|exact .refl _|exact .emp _|exact .fin))
  first
   | exact (if_pos (e.2 (by (repeat' apply And.intro) <;> first|assumption|omega))).symm
   | exact (if_neg (fun h0=>by
     obtain h:=e.1 h0
     clear e h0
     first|omega|((repeat (obtain ⟨_,h⟩:=h));contradiction))).symm
theorem check5_spec {W:World} {R:HProp} {r0 r2 r3 r4 r5 r6 r7 r8 r9 r10 r11 r12 r13 r20:Int} {r14 r17:Option Addr} {r16 r19:Nat} {L:List LiveV} {D:List DirtyV} [rl:RowC W R r14 4 livev L] [rd:RowC W R r17 2 dirtyv D] :
  Does prog W f_z2 ⟨[recA ⟨r0,5,r2,r3,r4,r5,r6,r7,r8,r9,r10,r11,r12,r13,(r14,L.length,r16),(r17,D.length,r19),r20⟩]⟩ R (Ret fun v G=>v = .int .i64 (if FieldsP ⟨r0,5,r2,r3,r4,r5,r6,r7,r8,r9,r10,r11,r12,r13,(r14,L.length,r16),(r17,D.length,r19),r20⟩ L D then 0 else 23) ∧ G = R):=by
 have e:=FieldsP.end_ (r:=⟨r0,5,r2,r3,r4,r5,r6,r7,r8,r9,r10,r11,r12,r13,(r14,L.length,r16),(r17,D.length,r19),r20⟩) (L:=L) (D:=D) (.inl rfl)
 unfold recA
 dsimp only at e ⊢
 refine f_z2.does _ ?_
 conv=>whnf
 repeat' (first
  | (refine spl_dec (fun hd=>?_) (fun hd=>?_) <;> first|(exfalso;omega)|(conv=>whnf))
  | (refine spl_ndec (fun hd=>?_) (fun hd=>?_) <;> first|(exfalso;omega)|(conv=>whnf))
  | ((first|refine Ld.i ?_|refine LdN.i ?_|refine St.i ⟨rfl,rfl⟩ (List.cons_ne_nil _ _) ?_);conv=>whnf)
  | (intro blk hblk;conv=>whnf)
  | (refine CallK.ret f_z1g.ok ((blank_spec (r:=⟨r0,5,0,0,r4,r5,r6,r7,r8,r9,r10,r11,r12,r13,(r14,L.length,r16),(r17,D.length,r19),r20⟩))) ?_;rintro v G ⟨rfl,rfl⟩;conv=>whnf)
  | (refine CallK.ret f_zq.ok (in_spec) ?_;rintro v G ⟨rfl,rfl⟩;conv=>whnf)
  | (refine CallK.ret f_z1q.ok (below_spec) ?_;rintro v G ⟨rfl,rfl⟩;conv=>whnf))
 all_goals
  refine Ret.eq (congrArg (Value.int .i64) ?_) (by first|exact .refl _|exact .drop|exact .fin|((repeat refine .pick ?_);first|exact .refl _|exact .emp _|exact .fin))
  first
   | exact (if_pos (e.2 (by (repeat' apply And.intro) <;> first|assumption|omega))).symm
   | exact (if_neg (fun h0=>by
     obtain h:=e.1 h0
     clear e h0
     first|omega|((repeat (obtain ⟨_,h⟩:=h));contradiction))).symm
theorem check6_spec {W:World} {R:HProp} {r0 r2 r3 r4 r5 r6 r7 r8 r9 r10 r11 r12 r13 r20:Int} {r14 r17:Option Addr} {r16 r19:Nat} {L:List LiveV} {D:List DirtyV} [rl:RowC W R r14 4 livev L] [rd:RowC W R r17 2 dirtyv D] :
  Does prog W f_z2 ⟨[recA ⟨r0,6,r2,r3,r4,r5,r6,r7,r8,r9,r10,r11,r12,r13,(r14,L.length,r16),(r17,D.length,r19),r20⟩]⟩ R (Ret fun v G=>v = .int .i64 (if FieldsP ⟨r0,6,r2,r3,r4,r5,r6,r7,r8,r9,r10,r11,r12,r13,(r14,L.length,r16),(r17,D.length,r19),r20⟩ L D then 0 else 23) ∧ G = R):=by
 have e:=FieldsP.end_ (r:=⟨r0,6,r2,r3,r4,r5,r6,r7,r8,r9,r10,r11,r12,r13,(r14,L.length,r16),(r17,D.length,r19),r20⟩) (L:=L) (D:=D) (.inr (.inl rfl))
 unfold recA
 dsimp only at e ⊢
 refine f_z2.does _ ?_
 conv=>whnf
 repeat' (first
  | (refine spl_dec (fun hd=>?_) (fun hd=>?_) <;> first|(exfalso;omega)|(conv=>whnf))
  | (refine spl_ndec (fun hd=>?_) (fun hd=>?_) <;> first|(exfalso;omega)|(conv=>whnf))
  | ((first|refine Ld.i ?_|refine LdN.i ?_|refine St.i ⟨rfl,rfl⟩ (List.cons_ne_nil _ _) ?_);conv=>whnf)
  | (intro blk hblk;conv=>whnf)
  | (refine CallK.ret f_z1g.ok ((blank_spec (r:=⟨r0,6,0,0,r4,r5,r6,r7,r8,r9,r10,r11,r12,r13,(r14,L.length,r16),(r17,D.length,r19),r20⟩))) ?_;rintro v G ⟨rfl,rfl⟩;conv=>whnf)
  | (refine CallK.ret f_zq.ok (in_spec) ?_;rintro v G ⟨rfl,rfl⟩;conv=>whnf)
  | (refine CallK.ret f_z1q.ok (below_spec) ?_;rintro v G ⟨rfl,rfl⟩;conv=>whnf))
 all_goals
  refine Ret.eq (congrArg (Value.int .i64) ?_) (by first|exact .refl _|exact .drop|exact .fin|((repeat refine .pick ?_);first|exact .refl _|exact .emp _|exact .fin))
  first
   | exact (if_pos (e.2 (by (repeat' apply And.intro) <;> first|assumption|omega))).symm
   | exact (if_neg (fun h0=>by
     obtain h:=e.1 h0
     clear e h0
     first|omega|((repeat (obtain ⟨_,h⟩:=h));contradiction))).symm
theorem check7_spec {W:World} {R:HProp} {r0 r2 r3 r4 r5 r6 r7 r8 r9 r10 r11 r12 r13 r20:Int} {r14 r17:Option Addr} {r16 r19:Nat} {L:List LiveV} {D:List DirtyV} [rl:RowC W R r14 4 livev L] [rd:RowC W R r17 2 dirtyv D] :
  Does prog W f_z2 ⟨[recA ⟨r0,7,r2,r3,r4,r5,r6,r7,r8,r9,r10,r11,r12,r13,(r14,L.length,r16),(r17,D.length,r19),r20⟩]⟩ R (Ret fun v G=>v = .int .i64 (if FieldsP ⟨r0,7,r2,r3,r4,r5,r6,r7,r8,r9,r10,r11,r12,r13,(r14,L.length,r16),(r17,D.length,r19),r20⟩ L D then 0 else 23) ∧ G = R):=by
 have e:=FieldsP.end_ (r:=⟨r0,7,r2,r3,r4,r5,r6,r7,r8,r9,r10,r11,r12,r13,(r14,L.length,r16),(r17,D.length,r19),r20⟩) (L:=L) (D:=D) (.inr (.inr rfl))
 unfold recA
 dsimp only at e ⊢
 refine f_z2.does _ ?_
 conv=>whnf
 repeat' (first
  | (refine spl_dec (fun hd=>?_) (fun hd=>?_) <;> first|(exfalso;omega)|(conv=>whnf))
  | (refine spl_ndec (fun hd=>?_) (fun hd=>?_) <;> first|(exfalso;omega)|(conv=>whnf))
  | ((first|refine Ld.i ?_|refine LdN.i ?_|refine St.i ⟨rfl,rfl⟩ (List.cons_ne_nil _ _) ?_);conv=>whnf)
  | (intro blk hblk;conv=>whnf)
  | (refine CallK.ret f_z1g.ok ((blank_spec (r:=⟨r0,7,0,0,r4,r5,r6,r7,r8,r9,r10,r11,r12,r13,(r14,L.length,r16),(r17,D.length,r19),r20⟩))) ?_;rintro v G ⟨rfl,rfl⟩;conv=>whnf)
  | (refine CallK.ret f_zq.ok (in_spec) ?_;rintro v G ⟨rfl,rfl⟩;conv=>whnf)
  | (refine CallK.ret f_z1q.ok (below_spec) ?_;rintro v G ⟨rfl,rfl⟩;conv=>whnf))
 all_goals
  refine Ret.eq (congrArg (Value.int .i64) ?_) (by first|exact .refl _|exact .drop|exact .fin|((repeat refine .pick ?_);first|exact .refl _|exact .emp _|exact .fin))
  first
   | exact (if_pos (e.2 (by (repeat' apply And.intro) <;> first|assumption|omega))).symm
   | exact (if_neg (fun h0=>by
     obtain h:=e.1 h0
     clear e h0
     first|omega|((repeat (obtain ⟨_,h⟩:=h));contradiction))).symm
theorem check8_spec {W:World} {R:HProp} {r0 r2 r3 r4 r5 r6 r7 r8 r9 r10 r11 r12 r13 r20:Int} {r14 r17:Option Addr} {r16 r19:Nat} {L:List LiveV} {D:List DirtyV} [rl:RowC W R r14 4 livev L] [rd:RowC W R r17 2 dirtyv D] :
  Does prog W f_z2 ⟨[recA ⟨r0,8,r2,r3,r4,r5,r6,r7,r8,r9,r10,r11,r12,r13,(r14,L.length,r16),(r17,D.length,r19),r20⟩]⟩ R (Ret fun v G=>v = .int .i64 (if FieldsP ⟨r0,8,r2,r3,r4,r5,r6,r7,r8,r9,r10,r11,r12,r13,(r14,L.length,r16),(r17,D.length,r19),r20⟩ L D then 0 else 23) ∧ G = R):=by
 have e:=FieldsP.cp (r:=⟨r0,8,r2,r3,r4,r5,r6,r7,r8,r9,r10,r11,r12,r13,(r14,L.length,r16),(r17,D.length,r19),r20⟩) (L:=L) (D:=D) rfl
 unfold recA
 dsimp only at e ⊢
 refine f_z2.does _ ?_
 conv=>whnf
 repeat' (first
  | (refine spl_dec (fun hd=>?_) (fun hd=>?_) <;> first|(exfalso;omega)|(conv=>whnf))
  | (refine spl_ndec (fun hd=>?_) (fun hd=>?_) <;> first|(exfalso;omega)|(conv=>whnf))
  | (refine spl_intro (fun hd=>?_) (fun hd=>?_) <;> (conv=>whnf))
  | ((first|refine Ld.i ?_|refine LdN.i ?_|refine St.i ⟨rfl,rfl⟩ (List.cons_ne_nil _ _) ?_);conv=>whnf)
  | (intro blk hblk;conv=>whnf)
  | (refine CallK.ret f_z2t.ok ((checkpoint_spec (lv:=L) (dv:=D) rfl rfl)) ?_;rintro v G ⟨rfl,rfl⟩;conv=>whnf)
  | (refine CallK.ret f_z1g.ok ((blank_spec (r:=⟨r0,8,r2,r3,r4,r5,r6,r7,r8,r9,r10,r11,r12,r13,(none,0,0),(none,0,0),0⟩))) ?_;rintro v G ⟨rfl,rfl⟩;conv=>whnf)
  | (refine CallK.ret f_zq.ok (in_spec) ?_;rintro v G ⟨rfl,rfl⟩;conv=>whnf))
 all_goals
  refine Ret.eq (congrArg (Value.int .i64) ?_) (by first|exact .refl _|exact .drop|exact .fin|((repeat refine .pick ?_);first|exact .refl _|exact .emp _|exact .fin))
  (try simp only [Bool.not_eq_true',Bool.not_eq_false'] at *)
  first
   | exact (if_pos (e.2 (by (repeat' apply And.intro) <;> first|assumption|omega))).symm
   | exact (if_neg (fun h0=>by
     obtain h:=e.1 h0
     clear e h0
     first|omega|((repeat (obtain ⟨_,h⟩:=h));first|contradiction|(simp_all;done)))).symm
theorem check_spec {W:World} {R:HProp} {r:RecV} {L:List LiveV} {D:List DirtyV} [rl:RowN W R r.lv.1 r.lv.2.1 4 livev L] [rd:RowN W R r.dt.1 r.dt.2.1 2 dirtyv D] :
  Does prog W f_z2 ⟨[recA r]⟩ R (Ret fun v G=>v = .int .i64 (chkF r L D) ∧ G = R):=by
 obtain ⟨r0,r1,r2,r3,r4,r5,r6,r7,r8,r9,r10,r11,r12,r13,⟨r14,r15,r16⟩,⟨r17,r18,r19⟩,r20⟩:=r
 have hn:=rl.len
 have hn':=rd.len
 dsimp only at hn hn'
 subst hn hn'
 haveI:=rl.row
 haveI:=rd.row
 dsimp only at *
 unfold chkF
 dsimp only
 by_cases h1:r1 < 1 ∨ r1 > 8
 ·rw [if_pos h1]
  unfold recA
  dsimp only
  refine f_z2.does _ ?_
  conv=>whnf
  repeat' (first
   | (refine spl_dec (fun hd=>?_) (fun hd=>?_) <;> first|(exfalso;omega)|(conv=>whnf))
   | (refine Ld.i ?_;conv=>whnf)
   | (intro blk hblk;conv=>whnf))
  all_goals exact Ret.eq rfl (by first|exact .refl _|exact .drop|exact .fin|((repeat refine .pick ?_);first|exact .refl _|exact .emp _|exact .fin))
 ·rw [if_neg h1]
  have:r1 = 1 ∨ r1 = 2 ∨ r1 = 3 ∨ r1 = 4 ∨ r1 = 5 ∨ r1 = 6 ∨ r1 = 7 ∨ r1 = 8:=by omega
  rcases this with rfl|rfl|rfl|rfl|rfl|rfl|rfl|rfl
  ·exact check1_spec
  ·exact check2_spec
  ·exact check3_spec
  ·exact check4_spec
  ·exact check5_spec
  ·exact check6_spec
  ·exact check7_spec
  ·exact check8_spec
end Go.Proofs.YtbcedpankkdfoaaGreatDoor
/- The program's record.fields, walked: pointers into a record. Conditions: in each statement. -/
namespace Go.SL
open Go
theorem Ld.nth {W:World} {H R:HProp} {b o:Nat} {l:List Value} {t:TypeId} {fz:Nat × Nat} {v:Value} {K:Value → Prop} [p:PtsC H b (.cells ⟨l⟩ t fz) R] (h:l[o]? = some v) (k:K v):Ld W H ⟨b,o,none⟩ K :=
 Ld.intro (by rw [p.h.eq];exact Rd.pts h) k
theorem Imp.vnew {α:Type} {sz:Nat} {enc:α → List Value} {H R G:HProp} {b:Nat} {l:List Value} {t:TypeId} [p:PtsC H b (.cells ⟨l⟩ t (0,0)) R] (xs:List α) (he:l = xs.flatMap enc) (h:Imp R G):Imp H (SL.vec t sz enc (some ⟨b,0,none⟩) xs.length xs•G):=by
 rw [p.h.eq]
 exact (vec_new he).imp.star h
end Go.SL
namespace Go.Proofs.YtbcedpankkdfoaaGreatDoor
open Go Go.SL Go.SL.Sec Go.SL.Fld Go.SL.Pts Go.SL.Rec
open Go.SL.Und (RecV recv)
def ptv (b:Nat) (o:Nat):List Value:=[.pointer (some ⟨b,o,none⟩)]
instance {b:Nat}:SizedC 1 (ptv b):=⟨fun _=>rfl⟩
instance {b o:Nat}:LitL (ptv b o) [.pointer (some ⟨b,o,none⟩)]:=⟨rfl⟩
instance {b o:Nat}:DecOf (ptv b) [.pointer (some ⟨b,o,none⟩)] o:=⟨rfl⟩
instance {b:Nat}:OneC (ptv b):=⟨fun ys v hv=>by
 obtain ⟨d,_,hv⟩:=List.mem_flatMap.1 hv
 simp only [ptv,List.mem_cons,List.not_mem_nil,or_false] at hv
 subst hv;rfl⟩
class DecP (b:outParam Nat) (l:List Value) (xs:outParam (List Nat)):Prop where h:l = xs.flatMap (ptv b)
instance {b o:Nat}:DecP b [.pointer (some ⟨b,o,none⟩)] [o]:=⟨rfl⟩
instance {b o:Nat} {v:Value} {l:List Value} {xs:List Nat} [i:DecP b (v :: l) xs]:DecP b (.pointer (some ⟨b,o,none⟩) :: v :: l) (o :: xs):=⟨by rw [i.h];rfl⟩
instance (priority:=70) RowC.litp {W:World} {R:HProp} {b bl:Nat} {l:List Value} {t:TypeId} {fz:Nat × Nat} {xs:List Nat} [i:DecP b l xs]:RowC W (pts bl (.cells ⟨l⟩ t fz)•R) (some ⟨bl,0,none⟩) 1 (ptv b) xs:=RowC.pts (fun _=>rfl:Sized 1 (ptv b)) xs i.h
theorem OpX.appP {P:Program} {W:World} {H R:HProp} {T:Tab} (hT:T.ok P) {t st:TypeId} {s y:Operand} {ty:TypeId} {ev:Operand → Option Value} {K:Value → HProp → Prop} {Kp:List PanicEntry → HProp → Prop} {b:Option Addr} {ys xs:List Nat}
  {bl r n m cap':Nat} {l:List Value} {c1 c2:List Value} {a1 a2:Bool} {s1 b1 b2:Nat} {d:TypeDesc}
  [p:PtsC H bl (.cells ⟨l⟩ t (0,0)) R] [dp:DecP r l xs] [e:RowC W R b 1 (ptv r) ys] (hs:ev s = some (.slice (some ⟨bl,0,none⟩) n n)) (hy:ev y = some (.slice b m cap'))
  (h1:T st = some ⟨.slice t,c1,a1,s1,b1⟩) (h2:T t = some ⟨d,c2,a2,1,b2⟩) (hl:c2.length = 1) (hn:n = xs.length) (hm:m = ys.length) (hb:2 * (xs.length + ys.length) * b2 ≤ 281474976710656 ∧ xs.length + ys.length ≤ 9223372036854775807)
  (k:∀ a' cap',K (.slice a' (xs ++ ys).length cap') (SL.vec t 1 (ptv r) a' cap' (xs ++ ys)•R)) :
  OpX P W (.call ⟨.builtin .append,⟨[s,y]⟩,⟨[st,st]⟩⟩) ty ev H K Kp:=by
 subst hn
 exact OpX.ofImp (H':=SL.vec t 1 (ptv r) (some ⟨bl,0,none⟩) xs.length xs•R) (Imp.vnew (sz:=1) (enc:=ptv r) xs dp.h (Imp.refl _)) (OpX.appRg hT hs hy h1 h2 hl rfl hm hb k)
theorem fields2_spec {W:World} {H R:HProp} {r:Nat} {fz:Nat × Nat} {v0 v2 v3 v4 v5 v6 v7 v8 v9 v10 v11 v12 v13 v14 v15 v16:Value} [p:PtsC H r (.cells ⟨[v0,.int .i64 2,v2,v3,v4,v5,v6,v7,v8,v9,v10,v11,v12,v13,v14,v15,v16]⟩ t_z1m fz) R] :
  Does prog W f_z6 ⟨[ptr r]⟩ H (Ret fun v G=>∃ a c b d,v = .tuple ⟨[.slice a 6 c,.slice b 3 d]⟩ ∧ G = (vec t_P_int 1 (ptv r) a c [4,5,6,7,9,10]•vec t_P_int64 1 (ptv r) b d [11,12,13]•H)):=by
 have he:=p.h.eq
 subst he
 clear p
 refine f_z6.does _ ?_
 conv=>whnf
 repeat' (first
  | (refine Ld.i ?_;conv=>whnf)
  | (intro blk hblk;conv=>whnf)
  | (refine Sub.on (by first|exact .refl _|exact .drop|exact .fin|((repeat refine .pick ?_);first|exact .refl _|exact .emp _|exact .fin)) ?_;conv=>whnf)
  | (refine DrawK.treeH tab_ok mixed 23 f_z6.tree10 _ rfl (by kernel_rfl) (Sub.of (by first|exact .refl _|exact .drop|exact .fin|((repeat refine .pick ?_);first|exact .refl _|exact .emp _|exact .fin))) ?_;conv=>whnf)
  | (refine And.intro ?_ ?_ <;> conv=>whnf))
 ·refine ⟨_,_,rfl,Imp.vnew (sz:=1) (enc:=ptv r) [4,5,6,7,9,10] rfl (Imp.vnew (sz:=1) (enc:=ptv r) [11,12,13] rfl (by first|exact .refl _|exact .drop|exact .fin|((repeat refine .pick ?_);first|exact .refl _|exact .emp _|exact .fin))),_,_,_,_,rfl,rfl⟩
 ·refine ⟨_,_,rfl,Imp.vnew (sz:=1) (enc:=ptv r) [4,5,6,7,9,10] rfl (Imp.vnew (sz:=1) (enc:=ptv r) [11,12,13] rfl (by first|exact .refl _|exact .drop|exact .fin|((repeat refine .pick ?_);first|exact .refl _|exact .emp _|exact .fin))),_,_,_,_,rfl,rfl⟩
theorem fields8_spec {W:World} {H R:HProp} {r:Nat} {fz:Nat × Nat} {v0 v2 v3 v4 v5 v6 v7 v8 v9 v10 v11 v12 v13 v14 v15 v16:Value} [p:PtsC H r (.cells ⟨[v0,.int .i64 8,v2,v3,v4,v5,v6,v7,v8,v9,v10,v11,v12,v13,v14,v15,v16]⟩ t_z1m fz) R] :
  Does prog W f_z6 ⟨[ptr r]⟩ H (Ret fun v G=>∃ a c b d,v = .tuple ⟨[.slice a 1 c,.slice b 0 d]⟩ ∧ G = (vec t_P_int 1 (ptv r) a c [16]•vec t_P_int64 1 (ptv r) b d []•H)):=by
 have he:=p.h.eq
 subst he
 clear p
 refine f_z6.does _ ?_
 conv=>whnf
 repeat' (first
  | (refine Ld.i ?_;conv=>whnf)
  | (intro blk hblk;conv=>whnf))
 refine ⟨_,_,rfl,Imp.vnew (sz:=1) (enc:=ptv r) [16] rfl (Imp.vnil (by first|exact .refl _|exact .drop|exact .fin|((repeat refine .pick ?_);first|exact .refl _|exact .emp _|exact .fin))),_,_,none,0,rfl,rfl⟩
theorem fields3_spec {W:World} {H R:HProp} {r:Nat} {fz:Nat × Nat} {v0 v2 v3 v4 v5 v6 v7 v8 v9 v10 v11 v12 v13 v14 v15 v16:Value} [p:PtsC H r (.cells ⟨[v0,.int .i64 3,v2,v3,v4,v5,v6,v7,v8,v9,v10,v11,v12,v13,v14,v15,v16]⟩ t_z1m fz) R] :
  Does prog W f_z6 ⟨[ptr r]⟩ H (Ret fun v G=>∃ a c b d,v = .tuple ⟨[.slice a 7 c,.slice b 1 d]⟩ ∧ G = (vec t_P_int 1 (ptv r) a c [2,3,4,5,6,7,9]•vec t_P_int64 1 (ptv r) b d [8]•H)):=by
 have he:=p.h.eq
 subst he
 clear p
 refine f_z6.does _ ?_
 conv=>whnf
 repeat' (first
  | (refine Ld.i ?_;conv=>whnf)
  | (intro blk hblk;conv=>whnf)
  | (refine OpX.appP tab_ok rfl rfl rfl rfl rfl rfl rfl (by decide) (fun a' c'=>?_);conv=>whnf)
  | (refine DrawK.introH tab_ok mixed 63 f_z6.last12 f_z6.plan12 _ rfl (by kernel_rfl) (Sub.of (by first|exact .refl _|exact .drop|exact .fin|((repeat refine .pick ?_);first|exact .refl _|exact .emp _|exact .fin))) ?_;conv=>whnf))
 refine ⟨_,_,rfl,Imp.right (Imp.vnew (sz:=1) (enc:=ptv r) [8] rfl (by first|exact .refl _|exact .drop|exact .fin|((repeat refine .pick ?_);first|exact .refl _|exact .emp _|exact .fin))),_,_,_,_,rfl,rfl⟩
theorem fields4_spec {W:World} {H R:HProp} {r:Nat} {fz:Nat × Nat} {v0 v2 v3 v4 v5 v6 v7 v8 v9 v10 v11 v12 v13 v14 v15 v16:Value} [p:PtsC H r (.cells ⟨[v0,.int .i64 4,v2,v3,v4,v5,v6,v7,v8,v9,v10,v11,v12,v13,v14,v15,v16]⟩ t_z1m fz) R] :
  Does prog W f_z6 ⟨[ptr r]⟩ H (Ret fun v G=>∃ a c b d,v = .tuple ⟨[.slice a 7 c,.slice b 1 d]⟩ ∧ G = (vec t_P_int 1 (ptv r) a c [2,3,4,5,6,7,9]•vec t_P_int64 1 (ptv r) b d [8]•H)):=by
 have he:=p.h.eq
 subst he
 clear p
 refine f_z6.does _ ?_
 conv=>whnf
 repeat' (first
  | (refine Ld.i ?_;conv=>whnf)
  | (intro blk hblk;conv=>whnf)
  | (refine OpX.appP tab_ok rfl rfl rfl rfl rfl rfl rfl (by decide) (fun a' c'=>?_);conv=>whnf)
  | (refine DrawK.introH tab_ok mixed 63 f_z6.last12 f_z6.plan12 _ rfl (by kernel_rfl) (Sub.of (by first|exact .refl _|exact .drop|exact .fin|((repeat refine .pick ?_);first|exact .refl _|exact .emp _|exact .fin))) ?_;conv=>whnf))
 refine ⟨_,_,rfl,Imp.right (Imp.vnew (sz:=1) (enc:=ptv r) [8] rfl (by first|exact .refl _|exact .drop|exact .fin|((repeat refine .pick ?_);first|exact .refl _|exact .emp _|exact .fin))),_,_,_,_,rfl,rfl⟩
theorem fields5_spec {W:World} {H R:HProp} {r:Nat} {fz:Nat × Nat} {v0 v2 v3 v4 v5 v6 v7 v8 v9 v10 v11 v12 v13 v14 v15 v16:Value} [p:PtsC H r (.cells ⟨[v0,.int .i64 5,v2,v3,v4,v5,v6,v7,v8,v9,v10,v11,v12,v13,v14,v15,v16]⟩ t_z1m fz) R] :
  Does prog W f_z6 ⟨[ptr r]⟩ H (Ret fun v G=>∃ a c b d,v = .tuple ⟨[.slice a 2 c,.slice b 0 d]⟩ ∧ G = (vec t_P_int 1 (ptv r) a c [2,3]•vec t_P_int64 1 (ptv r) b d []•H)):=by
 have he:=p.h.eq
 subst he
 clear p
 haveI rn:∀ Q:HProp,RowC W Q none 1 (ptv r) []:=fun Q=>⟨fun w hs i x hx=>by simp at hx⟩
 refine f_z6.does _ ?_
 conv=>whnf
 repeat' (first
  | (refine Ld.i ?_;conv=>whnf)
  | (intro blk hblk;conv=>whnf)
  | (refine OpX.appP tab_ok rfl rfl rfl rfl rfl rfl rfl (by decide) (fun a' c'=>?_);conv=>whnf))
 refine ⟨_,_,rfl,Imp.right (Imp.vnil (by first|exact .refl _|exact .drop|exact .fin|((repeat refine .pick ?_);first|exact .refl _|exact .emp _|exact .fin))),_,_,none,0,rfl,rfl⟩
theorem fields6_spec {W:World} {H R:HProp} {r:Nat} {fz:Nat × Nat} {v0 v2 v3 v4 v5 v6 v7 v8 v9 v10 v11 v12 v13 v14 v15 v16:Value} [p:PtsC H r (.cells ⟨[v0,.int .i64 6,v2,v3,v4,v5,v6,v7,v8,v9,v10,v11,v12,v13,v14,v15,v16]⟩ t_z1m fz) R] :
  Does prog W f_z6 ⟨[ptr r]⟩ H (Ret fun v G=>∃ a c b d,v = .tuple ⟨[.slice a 2 c,.slice b 0 d]⟩ ∧ G = (vec t_P_int 1 (ptv r) a c [2,3]•vec t_P_int64 1 (ptv r) b d []•H)):=by
 have he:=p.h.eq
 subst he
 clear p
 haveI rn:∀ Q:HProp,RowC W Q none 1 (ptv r) []:=fun Q=>⟨fun w hs i x hx=>by simp at hx⟩
 refine f_z6.does _ ?_
 conv=>whnf
 repeat' (first
  | (refine Ld.i ?_;conv=>whnf)
  | (intro blk hblk;conv=>whnf)
  | (refine OpX.appP tab_ok rfl rfl rfl rfl rfl rfl rfl (by decide) (fun a' c'=>?_);conv=>whnf))
 refine ⟨_,_,rfl,Imp.right (Imp.vnil (by first|exact .refl _|exact .drop|exact .fin|((repeat refine .pick ?_);first|exact .refl _|exact .emp _|exact .fin))),_,_,none,0,rfl,rfl⟩
theorem fields7_spec {W:World} {H R:HProp} {r:Nat} {fz:Nat × Nat} {v0 v2 v3 v4 v5 v6 v7 v8 v9 v10 v11 v12 v13 v14 v15 v16:Value} [p:PtsC H r (.cells ⟨[v0,.int .i64 7,v2,v3,v4,v5,v6,v7,v8,v9,v10,v11,v12,v13,v14,v15,v16]⟩ t_z1m fz) R] :
  Does prog W f_z6 ⟨[ptr r]⟩ H (Ret fun v G=>∃ a c b d,v = .tuple ⟨[.slice a 2 c,.slice b 0 d]⟩ ∧ G = (vec t_P_int 1 (ptv r) a c [2,3]•vec t_P_int64 1 (ptv r) b d []•H)):=by
 have he:=p.h.eq
 subst he
 clear p
 haveI rn:∀ Q:HProp,RowC W Q none 1 (ptv r) []:=fun Q=>⟨fun w hs i x hx=>by simp at hx⟩
 refine f_z6.does _ ?_
 conv=>whnf
 repeat' (first
  | (refine Ld.i ?_;conv=>whnf)
  | (intro blk hblk;conv=>whnf)
  | (refine OpX.appP tab_ok rfl rfl rfl rfl rfl rfl rfl (by decide) (fun a' c'=>?_);conv=>whnf))
 refine ⟨_,_,rfl,Imp.right (Imp.vnil (by first|exact .refl _|exact .drop|exact .fin|((repeat refine .pick ?_);first|exact .refl _|exact .emp _|exact .fin))),_,_,none,0,rfl,rfl⟩
theorem fields1_spec {W:World} {H R:HProp} {r:Nat} {fz:Nat × Nat} {v0 v2 v3 v4 v5 v6 v7 v8 v9 v10 v11 v12 v13 v14 v15 v16:Value} [p:PtsC H r (.cells ⟨[v0,.int .i64 1,v2,v3,v4,v5,v6,v7,v8,v9,v10,v11,v12,v13,v14,v15,v16]⟩ t_z1m fz) R] :
  Does prog W f_z6 ⟨[ptr r]⟩ H (Ret fun v G=>∃ a c b d,v = .tuple ⟨[.slice a 1 c,.slice b 0 d]⟩ ∧ G = (vec t_P_int 1 (ptv r) a c [2]•vec t_P_int64 1 (ptv r) b d []•H)):=by
 have he:=p.h.eq
 subst he
 clear p
 haveI rn:∀ Q:HProp,RowC W Q none 1 (ptv r) []:=fun Q=>⟨fun w hs i x hx=>by simp at hx⟩
 refine f_z6.does _ ?_
 conv=>whnf
 repeat' (first
  | (refine Ld.i ?_;conv=>whnf)
  | (intro blk hblk;conv=>whnf)
  | (refine OpX.appP tab_ok rfl rfl rfl rfl rfl rfl rfl (by decide) (fun a' c'=>?_);conv=>whnf))
 refine ⟨_,_,rfl,Imp.right (Imp.vnil (by first|exact .refl _|exact .drop|exact .fin|((repeat refine .pick ?_);first|exact .refl _|exact .emp _|exact .fin))),_,_,none,0,rfl,rfl⟩
end Go.Proofs.YtbcedpankkdfoaaGreatDoor
/- The program's record.Encode, walked. Conditions: in each statement. -/
namespace Go.SL.Rec
open Go Go.SL Go.SL.Sec Go.SL.Fld Go.SL.Pts
open Go.SL.Und (RecV recv fits)
def cellAt (r:RecV):Nat → Int
 | 2=>r.tx|3=>r.prev|4=>r.wp|5=>r.wi|6=>r.sp|7=>r.si|8=>r.delta|9=>r.id|10=>r.grp|11=>r.lo|12=>r.hi|13=>r.val|16=>r.nxt|_=>0
def stateN (x:LiveV):Nat:=if x.com then 1 else if x.und then 2 else 0
def intO (kind:Int):List Nat:=if kind = 2 then [4,5,6,7,9,10] else if kind = 8 then [16] else if kind = 3 ∨ kind = 4 then [2,3,4,5,6,7,9] else if kind = 5 ∨ kind = 6 ∨ kind = 7 then [2,3] else [2]
def sgnO (kind:Int):List Nat:=if kind = 2 then [11,12,13] else if kind = 3 ∨ kind = 4 then [8] else []
def encLive (x:LiveV):List Int:=encN x.tx.toNat ++ encN x.last.toNat ++ encN (stateN x)
def encDirty (x:DirtyV):List Int:=encN x.1.toNat ++ encN x.2.toNat
def encInts (r:RecV) (l:List Nat):List Int:=l.flatMap fun o=>encN (cellAt r o).toNat
def encSgns (r:RecV) (l:List Nat):List Int:=l.flatMap fun o=>encN (zig (cellAt r o)).toNat
def encR (r:RecV) (L:List LiveV) (D:List DirtyV):List Int :=
 encN r.kind.toNat ++ encInts r (intO r.kind) ++ encSgns r (sgnO r.kind) ++
  (if r.kind = 8 then encN L.length ++ L.flatMap encLive ++ encN D.length ++ D.flatMap encDirty else [])
theorem cell_at {r:RecV} {o:Nat} (h:(2 ≤ o ∧ o ≤ 13) ∨ o = 16):(recv r)[o]? = some (.int .i64 (cellAt r o)):=by
 have:o = 2 ∨ o = 3 ∨ o = 4 ∨ o = 5 ∨ o = 6 ∨ o = 7 ∨ o = 8 ∨ o = 9 ∨ o = 10 ∨ o = 11 ∨ o = 12 ∨ o = 13 ∨ o = 16:=by omega
 rcases this with rfl|rfl|rfl|rfl|rfl|rfl|rfl|rfl|rfl|rfl|rfl|rfl|rfl <;> rfl
theorem intO_in {k:Int} {o:Nat} (h:o ∈ intO k):(2 ≤ o ∧ o ≤ 13) ∨ o = 16:=by
 unfold intO at h
 repeat' split at h
 all_goals
  simp only [List.mem_cons,List.not_mem_nil,or_false] at h
  omega
theorem sgnO_in {k:Int} {o:Nat} (h:o ∈ sgnO k):(2 ≤ o ∧ o ≤ 13) ∨ o = 16:=by
 unfold sgnO at h
 repeat' split at h
 all_goals
  simp only [List.mem_cons,List.not_mem_nil,or_false] at h
  try omega
theorem intO_len (k:Int):(intO k).length ≤ 7:=by
 unfold intO
 (repeat' split) <;> decide
theorem sgnO_len (k:Int):(sgnO k).length ≤ 3:=by
 unfold sgnO
 (repeat' split) <;> decide
theorem FieldsP.nn {r:RecV} {L:List LiveV} {D:List DirtyV} (hk:1 ≤ r.kind ∧ r.kind ≤ 8) (h:FieldsP r L D):∀ o ∈ intO r.kind,0 ≤ cellAt r o ∧ cellAt r o ≤ 2147483648:=by
 intro o ho
 have hcp:r.kind = 8 → 1 ≤ r.nxt ∧ r.nxt ≤ 2147483648:=fun h8=>by
  have h1:=((FieldsP.cp h8).1 h).2.1
  unfold cpF at h1
  split at h1
  ·cases h1
  ·omega
 have h2:r.kind = 2 → SlotsP r.wp r.wi r.sp r.si ∧ (1 ≤ r.id ∧ r.id ≤ 1048576) ∧ (1 ≤ r.grp ∧ r.grp ≤ 1048576):=fun e=>by
  have:=((FieldsP.two e).1 h).2
  exact ⟨this.1,this.2.1,this.2.2.1⟩
 have h3:r.kind = 3 ∨ r.kind = 4 → SlotsP r.wp r.wi r.sp r.si ∧ (1 ≤ r.id ∧ r.id ≤ 1048576) ∧ (1 ≤ r.prev ∧ r.prev ≤ 2147483647) ∧ (1 ≤ r.tx ∧ r.tx ≤ 2147483647):=fun e=>by
  have:=((FieldsP.add e).1 h).2
  exact ⟨this.1,this.2.1,this.2.2.1.1,this.2.2.2.1⟩
 have h5:r.kind = 5 ∨ r.kind = 6 ∨ r.kind = 7 → (1 ≤ r.prev ∧ r.prev ≤ 2147483647) ∧ (1 ≤ r.tx ∧ r.tx ≤ 2147483647):=fun e=>by
  have:=((FieldsP.end_ e).1 h).2
  exact ⟨this.1.1,this.2.1⟩
 have h1:r.kind = 1 → (1 ≤ r.tx ∧ r.tx ≤ 2147483647):=fun e=>((FieldsP.one e).1 h).2.1
 clear h
 unfold intO at ho
 split at ho
 ·rename_i e
  obtain ⟨a,b,c⟩:=h2 e
  unfold SlotsP at a
  clear h2 h3 h5 h1 hcp
  simp only [List.mem_cons,List.not_mem_nil,or_false] at ho
  rcases ho with rfl|rfl|rfl|rfl|rfl|rfl <;> simp only [cellAt] <;> omega
 ·split at ho
  ·rename_i e
   have:=hcp e
   clear h2 h3 h5 h1 hcp
   obtain rfl:=List.mem_singleton.1 ho
   simp only [cellAt];omega
  ·split at ho
   ·rename_i e
    obtain ⟨a,b,c,d⟩:=h3 e
    unfold SlotsP at a
    clear h2 h3 h5 h1 hcp e
    simp only [List.mem_cons,List.not_mem_nil,or_false] at ho
    rcases ho with rfl|rfl|rfl|rfl|rfl|rfl|rfl <;> simp only [cellAt] <;> omega
   ·split at ho
    ·rename_i e
     obtain ⟨a,b⟩:=h5 e
     clear h2 h3 h5 h1 hcp e
     simp only [List.mem_cons,List.not_mem_nil,or_false] at ho
     rcases ho with rfl|rfl <;> simp only [cellAt] <;> omega
    ·have:=h1 (by omega)
     obtain rfl:=List.mem_singleton.1 ho
     simp only [cellAt];omega
end Go.SL.Rec
namespace Go.Proofs.YtbcedpankkdfoaaGreatDoor
open Go Go.SL Go.SL.Sec Go.SL.Fld Go.SL.Pts Go.SL.Rec
open Go.SL.Und (RecV recv fits)
theorem fields_spec {W:World} {H R:HProp} {r:Nat} {fz:Nat × Nat} {k:Int} {v0 v2 v3 v4 v5 v6 v7 v8 v9 v10 v11 v12 v13 v14 v15 v16:Value} [p:PtsC H r (.cells ⟨[v0,.int .i64 k,v2,v3,v4,v5,v6,v7,v8,v9,v10,v11,v12,v13,v14,v15,v16]⟩ t_z1m fz) R] (hk:1 ≤ k ∧ k ≤ 8) :
  Does prog W f_z6 ⟨[ptr r]⟩ H (Ret fun v G=>∃ a c b d,v = .tuple ⟨[.slice a (intO k).length c,.slice b (sgnO k).length d]⟩ ∧ G = (vec t_P_int 1 (ptv r) a c (intO k)•vec t_P_int64 1 (ptv r) b d (sgnO k)•H)):=by
 have:k = 1 ∨ k = 2 ∨ k = 3 ∨ k = 4 ∨ k = 5 ∨ k = 6 ∨ k = 7 ∨ k = 8:=by omega
 rcases this with rfl|rfl|rfl|rfl|rfl|rfl|rfl|rfl
 ·exact fields1_spec
 ·exact fields2_spec
 ·exact fields3_spec
 ·exact fields4_spec
 ·exact fields5_spec
 ·exact fields6_spec
 ·exact fields7_spec
 ·exact fields8_spec
theorem state_spec {W:World} {R:HProp} {a b:Int} {c d:Bool} :
  Does prog W f_z43 ⟨[.agg ⟨[.int .i64 a,.int .i64 b,.bool c,.bool d]⟩]⟩ R (Ret fun v G=>v = .int .u64 (stateN ⟨a,b,c,d⟩:Nat) ∧ G = R):=by
 cases c <;> cases d
 all_goals
  refine f_z43.does _ ?_
  conv=>whnf
  repeat' (first
   | (refine Ld.i ?_;conv=>whnf)
   | (intro blk hblk;conv=>whnf))
  exact Ret.eq rfl (by first|exact .refl _|exact .drop|exact .fin|((repeat refine .pick ?_);first|exact .refl _|exact .emp _|exact .fin))
end Go.Proofs.YtbcedpankkdfoaaGreatDoor
