/- points.From, points.Merge, points.Check and the document's Check of a checkpoint; the examples of chapter 16: walked. Conditions: in each statement. -/
import Derived.Test.YtbcedpankkdfoaaGreatDoorPart13
import Derived.Test.YtbcedpankkdfoaaGreatDoorPart29
import Derived.Test.YtbcedpankkdfoaaGreatDoorPart27
import Derived.Test.YtbcedpankkdfoaaGreatDoorPart10
set_option linter.unusedVariables false
set_option linter.unusedSimpArgs false
namespace Go.Proofs.YtbcedpankkdfoaaGreatDoor
open Go Go.SL Go.SL.Sec Go.SL.Fld Go.SL.Pts Go.SL.Rec
open Go.SL.Und (RecV recv)
class DecD (l:List Value) (xs:outParam (List DirtyV)):Prop where h:l = xs.flatMap dirtyv
instance:DecD [] []:=⟨rfl⟩
instance {x y:Int} {l:List Value} {xs:List DirtyV} [i:DecD l xs]:DecD (.int .i64 x :: .int .i64 y :: l) ((x,y) :: xs):=⟨by rw [i.h];rfl⟩
instance (priority:=70) RowC.litD {W:World} {R:HProp} {b:Nat} {l:List Value} {t:TypeId} {fz:Nat × Nat} {xs:List DirtyV} [i:DecD l xs]:RowC W (pts b (.cells ⟨l⟩ t fz)•R) (some ⟨b,0,none⟩) 2 dirtyv xs:=RowC.pts SizedC.h xs i.h
theorem dirty_oneT:∀ ys:List DirtyV,∀ v ∈ ys.flatMap dirtyv,v.oneCell' = true:=OneC.h
theorem from_spec {W:World} {R:HProp} {lv:Value} {a:Option Addr} {n cap:Nat} {nx:Int} {xs:List DirtyV} [c:RowC W R a 2 dirtyv xs] (hn:n = xs.length) (hb:xs.length ≤ 9223372036854775807) :
  Does prog W f_z26 ⟨[.agg ⟨[lv,.slice a n cap,.int .i64 nx]⟩]⟩ R (Ret fun v G=>v = .int .i64 (leastD xs) ∧ G = R):=by
 subst hn
 refine f_z26.does _ ?_
 conv=>whnf
 repeat (first
  | ((first|refine Ld.i ?_|refine LdN.i ?_|refine St.i ⟨rfl,rfl⟩ (List.cons_ne_nil _ _) ?_|refine Ar.i64 (by omega) ?_|refine Ar.u64 (by omega) ?_|refine Ar.i64d (by omega) (by omega) ?_|refine Shr.i (by rfl) (by decide) ?_|refine Shl.i (by rfl) (by decide) ?_|refine Req.mk (by omega) ?_);conv=>whnf)
  | (intro blk hblk;conv=>whnf))
 refine LoopK.keep tab_ok (L:=f_z26.live) (ι:=Nat × Int) (fun i=>i.1 ≤ xs.length ∧ ((i.1 = 0 ∧ i.2 = 0) ∨ (1 ≤ i.1 ∧ lmin i.2 (xs.drop i.1) = leastD xs)))
  (fun i=>[(9,.int .i64 i.1),(3,.int .i64 i.2)]) (fun i=>xs.length - i.1) (0,0) (by simp) (fun t v h=>h) ?_
 rintro ⟨i,m⟩ ⟨hi,hm⟩
 dsimp only at hi hm ⊢
 conv=>whnf
 by_cases h1:i < xs.length
 ·obtain ⟨x,hx⟩:∃ x,xs[i]? = some x:=⟨_,List.getElem?_eq_getElem h1⟩
  have hdr:=drop_of hx
  rw [hdr] at hm
  repeat' (first
   | ((first|refine spl_f (by with_reducible exact ndec_self _) ?_|refine spl_f (by with_reducible exact nbeq_self _) ?_|refine spl_t (by with_reducible exact beq_self _) ?_);conv=>whnf)
   | (refine spl_dec (fun hd=>?_) (fun hd=>?_) <;> first|(exfalso;omega)|(conv=>whnf))
   | (refine spl_ndec (fun hd=>?_) (fun hd=>?_) <;> first|(exfalso;omega)|(conv=>whnf))
   | (refine spl_intro (fun hd=>?_) (fun hd=>?_) <;> (conv=>whnf))
   | ((first|refine Ld.i ?_|refine LdN.i ?_|refine St.i ⟨rfl,rfl⟩ (List.cons_ne_nil _ _) ?_|refine Ar.i64 (by omega) ?_|refine Ar.u64 (by omega) ?_|refine Ar.i64d (by omega) (by omega) ?_|refine Shr.i (by rfl) (by decide) ?_|refine Shl.i (by rfl) (by decide) ?_|refine Req.mk (by omega) ?_);conv=>whnf)
   | (intro blk hblk;conv=>whnf)
   | (refine IxS.r (i:=i) rfl rfl h1 (fun ab off ha=>?_);subst ha;conv=>whnf)
   | (refine LdN.r hx rfl ?_;conv=>whnf))
  ·refine ⟨rfl,(i + 1,x.2),⟨h1,.inr ⟨by simp,?_⟩⟩,fun t v h=>h,?_,by dsimp only;omega⟩
   ·have h0:i = 0:=by omega
    subst h0
    rw [← List.drop_zero (l:=xs),hdr]
    rfl
   ·first|exact .refl _|exact .drop|exact .fin|((repeat refine .pick ?_);first|exact .refl _|exact .emp _|exact .fin)
  ·refine ⟨rfl,(i + 1,x.2),⟨h1,.inr ⟨by simp,?_⟩⟩,fun t v h=>h,?_,by dsimp only;omega⟩
   ·have:=(hm.resolve_left (by omega)).2
    rw [lmin,if_pos (by assumption)] at this
    exact this
   ·first|exact .refl _|exact .drop|exact .fin|((repeat refine .pick ?_);first|exact .refl _|exact .emp _|exact .fin)
  ·refine ⟨rfl,(i + 1,m),⟨h1,.inr ⟨by simp,?_⟩⟩,fun t v h=>h,?_,by dsimp only;omega⟩
   ·have:=(hm.resolve_left (by omega)).2
    rw [lmin,if_neg (by assumption)] at this
    exact this
   ·first|exact .refl _|exact .drop|exact .fin|((repeat refine .pick ?_);first|exact .refl _|exact .emp _|exact .fin)
 ·rw [drop_all h1] at hm
  repeat' (first
   | ((first|refine spl_f (by with_reducible exact ndec_self _) ?_|refine spl_f (by with_reducible exact nbeq_self _) ?_|refine spl_t (by with_reducible exact beq_self _) ?_);conv=>whnf)
   | (refine spl_dec (fun hd=>?_) (fun hd=>?_) <;> first|(exfalso;omega)|(conv=>whnf))
   | (refine spl_ndec (fun hd=>?_) (fun hd=>?_) <;> first|(exfalso;omega)|(conv=>whnf))
   | (refine spl_intro (fun hd=>?_) (fun hd=>?_) <;> (conv=>whnf))
   | ((first|refine Ld.i ?_|refine LdN.i ?_|refine St.i ⟨rfl,rfl⟩ (List.cons_ne_nil _ _) ?_|refine Ar.i64 (by omega) ?_|refine Ar.u64 (by omega) ?_|refine Ar.i64d (by omega) (by omega) ?_|refine Shr.i (by rfl) (by decide) ?_|refine Shl.i (by rfl) (by decide) ?_|refine Req.mk (by omega) ?_);conv=>whnf)
   | (intro blk hblk;conv=>whnf))
  refine Ret.eq (congrArg (Value.int .i64) ?_) ?_
  ·rcases hm with ⟨h2,h3⟩|⟨_,h3⟩
   ·have:xs = []:=List.eq_nil_of_length_eq_zero (by omega)
    subst this;exact h3
   ·exact h3
  ·first|exact .refl _|exact .drop|exact .fin|((repeat refine .pick ?_);first|exact .refl _|exact .emp _|exact .fin)
theorem since_spec {W:World} {H R:HProp} {r:Nat} {m:List (Int × Int)} {a:Option Addr} {n cap:Nat} {xs:List DirtyV} [c:RowC W R a 2 dirtyv xs] [i:MapC H r .i64 (mapv (Value.int .i64) m) R] (hn:n = xs.length) (hb:xs.length ≤ 9223372036854775807) :
  Does prog W f_z2x ⟨[.map (some r),.slice a n cap]⟩ H (Ret fun v G=>v = .int .i64 (sinceF m xs).1 ∧ G = (mapc r .i64 (mapv (Value.int .i64) (sinceF m xs).2)•R)):=by
 subst hn
 refine Does.imp (by rw [i.h.eq];exact Imp.refl _) ?_
 refine f_z2x.does _ _ ?_
 conv=>whnf
 refine LoopK.at tab_ok (L:=f_z2x.live) (ι:=Nat × List (Int × Int)) (fun i=>i.1 ≤ xs.length ∧ sinceF i.2 (xs.drop i.1) = sinceF m xs)
  (fun i=>[(11,.int .i64 i.1)]) (fun i=>mapc r .i64 (mapv (Value.int .i64) i.2)) (fun i=>xs.length - i.1) (0,m) (by simp) (fun t v h=>h) (Imp.pick (Imp.refl _)) ?_
 rintro ⟨i,m'⟩ ⟨hi,hm⟩
 dsimp only at hi hm ⊢
 conv=>whnf
 by_cases h1:i < xs.length
 ·obtain ⟨x,hx⟩:∃ x,xs[i]? = some x:=⟨_,List.getElem?_eq_getElem h1⟩
  have hdr:=drop_of hx
  rw [hdr,sinceF] at hm
  repeat' (first
   | ((first|refine spl_f (by with_reducible exact ndec_self _) ?_|refine spl_f (by with_reducible exact nbeq_self _) ?_|refine spl_t (by with_reducible exact beq_self _) ?_);conv=>whnf)
   | (refine spl_dec (fun hd=>?_) (fun hd=>?_) <;> first|(exfalso;omega)|(conv=>whnf))
   | (refine spl_ndec (fun hd=>?_) (fun hd=>?_) <;> first|(exfalso;omega)|(conv=>whnf))
   | (refine spl_intro (fun hd=>?_) (fun hd=>?_) <;> (conv=>whnf))
   | ((first|refine Ld.i ?_|refine LdN.i ?_|refine St.i ⟨rfl,rfl⟩ (List.cons_ne_nil _ _) ?_|refine Ar.i64 (by omega) ?_|refine Ar.u64 (by omega) ?_|refine Ar.i64d (by omega) (by omega) ?_|refine Shr.i (by rfl) (by decide) ?_|refine Shl.i (by rfl) (by decide) ?_|refine Req.mk (by omega) ?_);conv=>whnf)
   | (intro blk hblk;conv=>whnf)
   | (refine IxS.r (i:=i) rfl rfl h1 (fun ab off ha=>?_);subst ha;conv=>whnf)
   | (refine LdN.r hx rfl ?_;conv=>whnf)
   | (refine OpX.lk2v tab_ok rfl rfl rfl rfl rfl (fun u hu=>?_) (fun hu=>?_) <;> conv=>whnf)
   | (refine OpX.upv tab_ok x.2 rfl rfl rfl rfl rfl rfl ?_;conv=>whnf))
  iterate 2
   ·rw [if_pos (by omega)] at hm
    refine Ret.eq (by rw [← hm]) ?_
    rw [← hm]
    first|exact .refl _|exact .drop|exact .fin|((repeat refine .pick ?_);first|exact .refl _|exact .emp _|exact .fin)
  iterate 2
   ·rw [if_neg (by omega),if_pos (by omega)] at hm
    refine Ret.eq (by rw [← hm]) ?_
    rw [← hm]
    first|exact .refl _|exact .drop|exact .fin|((repeat refine .pick ?_);first|exact .refl _|exact .emp _|exact .fin)
  ·rw [if_neg (by omega),if_neg (by omega),hu] at hm
   dsimp only at hm
   rw [if_pos (by omega)] at hm
   refine ⟨rfl,(i + 1,_),⟨h1,hm⟩,fun t v h=>h,?_,by dsimp only;omega⟩
   first|exact .refl _|exact .drop|exact .fin|((repeat refine .pick ?_);first|exact .refl _|exact .emp _|exact .fin)
  ·rw [if_neg (by omega),if_neg (by omega),hu] at hm
   dsimp only at hm
   rw [if_neg (by omega)] at hm
   refine ⟨rfl,(i + 1,_),⟨h1,hm⟩,fun t v h=>h,?_,by dsimp only;omega⟩
   first|exact .refl _|exact .drop|exact .fin|((repeat refine .pick ?_);first|exact .refl _|exact .emp _|exact .fin)
  ·rw [if_neg (by omega),if_neg (by omega),hu] at hm
   refine ⟨rfl,(i + 1,_),⟨h1,hm⟩,fun t v h=>h,?_,by dsimp only;omega⟩
   first|exact .refl _|exact .drop|exact .fin|((repeat refine .pick ?_);first|exact .refl _|exact .emp _|exact .fin)
 ·rw [drop_all h1] at hm
  repeat' (first
   | ((first|refine spl_f (by with_reducible exact ndec_self _) ?_|refine spl_f (by with_reducible exact nbeq_self _) ?_|refine spl_t (by with_reducible exact beq_self _) ?_);conv=>whnf)
   | (refine spl_dec (fun hd=>?_) (fun hd=>?_) <;> first|(exfalso;omega)|(conv=>whnf))
   | (refine spl_ndec (fun hd=>?_) (fun hd=>?_) <;> first|(exfalso;omega)|(conv=>whnf))
   | (refine spl_intro (fun hd=>?_) (fun hd=>?_) <;> (conv=>whnf))
   | ((first|refine Ld.i ?_|refine LdN.i ?_|refine St.i ⟨rfl,rfl⟩ (List.cons_ne_nil _ _) ?_|refine Ar.i64 (by omega) ?_|refine Ar.u64 (by omega) ?_|refine Ar.i64d (by omega) (by omega) ?_|refine Shr.i (by rfl) (by decide) ?_|refine Shl.i (by rfl) (by decide) ?_|refine Req.mk (by omega) ?_);conv=>whnf)
   | (intro blk hblk;conv=>whnf))
  rw [sinceF] at hm
  refine Ret.eq (by rw [← hm]) ?_
  rw [← hm]
  first|exact .refl _|exact .drop|exact .fin|((repeat refine .pick ?_);first|exact .refl _|exact .emp _|exact .fin)
theorem keysII_spec {W:World} {H:HProp} {r:Nat}:Does prog W f_z3y ⟨[.map (some r)]⟩ H (Ret fun v G=>∃ B,v = .func (.func f_z4e) ⟨[]⟩ ⟨[ptr B]⟩ ∧ G = (pts B (.cells ⟨[.map (some r)]⟩ t_M_int_int)•H)):=by
 refine f_z3y.does _ ?_
 conv=>whnf
 repeat' (first
  | ((first|refine spl_f (by with_reducible exact ndec_self _) ?_|refine spl_f (by with_reducible exact nbeq_self _) ?_|refine spl_t (by with_reducible exact beq_self _) ?_);conv=>whnf)
  | (refine spl_dec (fun hd=>?_) (fun hd=>?_) <;> first|(exfalso;omega)|(conv=>whnf))
  | (refine spl_ndec (fun hd=>?_) (fun hd=>?_) <;> first|(exfalso;omega)|(conv=>whnf))
  | (refine spl_intro (fun hd=>?_) (fun hd=>?_) <;> (conv=>whnf))
  | ((first|refine Ld.i ?_|refine LdN.i ?_|refine St.i ⟨rfl,rfl⟩ (List.cons_ne_nil _ _) ?_|refine Ar.i64 (by omega) ?_|refine Ar.u64 (by omega) ?_|refine Ar.i64d (by omega) (by omega) ?_|refine Shr.i (by rfl) (by decide) ?_|refine Shl.i (by rfl) (by decide) ?_|refine Req.mk (by omega) ?_);conv=>whnf)
  | (intro blk hblk;conv=>whnf))
 exact ⟨_,_,rfl,Imp.refl _,_,rfl,rfl⟩
theorem merge_spec {W:World} {R:HProp} {a b:Option Addr} {n n' cap cap':Nat} {xs ys:List DirtyV} [c:RowC W R a 2 dirtyv xs] [d:RowC W R b 2 dirtyv ys] (hn:n = xs.length) (hn':n' = ys.length) (hb:xs.length + ys.length ≤ 1000000) :
  Does prog W f_z29 ⟨[.slice a n cap,.slice b n' cap']⟩ R (Ret fun v G=>∃ a cap,v = .tuple ⟨[.slice a (mergeF xs ys).2.length cap,.int .i64 (mergeF xs ys).1]⟩ ∧ G = (vec t_z1l 2 dirtyv a cap (mergeF xs ys).2•R)):=by
 subst hn hn'
 refine f_z29.does _ _ ?_
 conv=>whnf
 repeat' (first
  | ((first|refine spl_f (by with_reducible exact ndec_self _) ?_|refine spl_f (by with_reducible exact nbeq_self _) ?_|refine spl_t (by with_reducible exact beq_self _) ?_);conv=>whnf)
  | (refine spl_dec (fun hd=>?_) (fun hd=>?_) <;> first|(exfalso;omega)|(conv=>whnf))
  | (refine spl_ndec (fun hd=>?_) (fun hd=>?_) <;> first|(exfalso;omega)|(conv=>whnf))
  | (refine spl_intro (fun hd=>?_) (fun hd=>?_) <;> (conv=>whnf))
  | ((first|refine Ld.i ?_|refine LdN.i ?_|refine St.i ⟨rfl,rfl⟩ (List.cons_ne_nil _ _) ?_|refine Ar.i64 (by omega) ?_|refine Ar.u64 (by omega) ?_|refine Ar.i64d (by omega) (by omega) ?_|refine Shr.i (by rfl) (by decide) ?_|refine Shl.i (by rfl) (by decide) ?_|refine Req.mk (by omega) ?_);conv=>whnf)
  | (intro blk hblk;conv=>whnf)
  | (refine OpX.makeMap .i64 (fun r hr=>?_);conv=>whnf))
 refine LoopK.rounds tab_ok (L:=f_z29.live) 3 ?_
 conv=>whnf
 repeat' (first
  | ((first|refine spl_f (by with_reducible exact ndec_self _) ?_|refine spl_f (by with_reducible exact nbeq_self _) ?_|refine spl_t (by with_reducible exact beq_self _) ?_);conv=>whnf)
  | (refine spl_dec (fun hd=>?_) (fun hd=>?_) <;> first|(exfalso;omega)|(conv=>whnf))
  | (refine spl_ndec (fun hd=>?_) (fun hd=>?_) <;> first|(exfalso;omega)|(conv=>whnf))
  | (refine spl_intro (fun hd=>?_) (fun hd=>?_) <;> (conv=>whnf))
  | ((first|refine Ld.i ?_|refine LdN.i ?_|refine St.i ⟨rfl,rfl⟩ (List.cons_ne_nil _ _) ?_|refine Ar.i64 (by omega) ?_|refine Ar.u64 (by omega) ?_|refine Ar.i64d (by omega) (by omega) ?_|refine Shr.i (by rfl) (by decide) ?_|refine Shl.i (by rfl) (by decide) ?_|refine Req.mk (by omega) ?_);conv=>whnf)
  | (intro blk hblk;conv=>whnf)
  | (refine IxS.at (by omega) ?_;conv=>whnf)
  | (refine CallK.ret f_z2x.ok (since_spec (m:=[]) (xs:=xs) rfl (by omega)) ?_;rintro v G ⟨rfl,rfl⟩;conv=>whnf)
  | (refine CallK.ret f_z2x.ok (since_spec (xs:=ys) rfl (by omega)) ?_;rintro v G ⟨rfl,rfl⟩;conv=>whnf)
  | (refine OpX.clr tab_ok rfl rfl ?_;conv=>whnf))
 ·have e1:mergeF xs ys = ((sinceF [] xs).1,[]):=by rw [mergeF,if_pos hd]
  rw [e1]
  refine ⟨_,_,rfl,?_,none,0,rfl,rfl⟩
  refine Imp.vnil ?_
  first|exact .refl _|exact .drop|exact .fin|((repeat refine .pick ?_);first|exact .refl _|exact .emp _|exact .fin)
 ·have hd0:(sinceF [] xs).1 = 0:=by assumption
  have e1:mergeF xs ys = ((sinceF (sinceF [] xs).2 ys).1,[]):=by rw [mergeF,if_neg (by simpa using hd0),if_pos hd]
  rw [e1]
  refine ⟨_,_,rfl,?_,none,0,rfl,rfl⟩
  refine Imp.vnil ?_
  first|exact .refl _|exact .drop|exact .fin|((repeat refine .pick ?_);first|exact .refl _|exact .emp _|exact .fin)
 ·have hd0:(sinceF [] xs).1 = 0:=by assumption
  obtain ⟨M,hM⟩:∃ M,M = (sinceF (sinceF [] xs).2 ys).2:=⟨_,rfl⟩
  have e1:mergeF xs ys = (0,(sortI (M.map (·.1))).map fun p=>(p,(M.lookup p).getD 0)):=by rw [mergeF,if_neg (by simpa using hd0),if_neg (by simpa using hd),hM]
  have hok:=sinceF_ok xs [] (fun p h=>by cases h)
  have hok2:=sinceF_ok ys _ hok.1
  rw [← hM] at hok2 ⊢
  simp only [List.length_nil,Nat.zero_add] at hok
  rw [e1]
  refine CallK.ret f_z3y.ok (keysII_spec) ?_
  rintro v G ⟨B,rfl,rfl⟩
  conv=>whnf
  refine CallK.ret f_z3t.ok ((Does.sorted laySorted layKeys_int laySort rfl rfl rfl rfl (l:=mapv (Value.int .i64) M) (by rw [mapv_length];omega) (fun x hx=>by obtain ⟨p,hp,rfl⟩:=List.mem_map.1 hx;have:=hok2.1 p hp;dsimp only;omega))) ?_
  rintro v G ⟨ka,kc,rfl,rfl⟩
  conv=>whnf
  obtain ⟨K,hK⟩:∃ K,K = sortI (M.map (·.1)):=⟨_,rfl⟩
  have hKl:K.length = M.length:=by rw [hK,sortI_length,List.length_map]
  rw [mapv_keys,mapv_length,← hKl,← hK]
  refine LoopK.at tab_ok (L:=f_z29.live) (ι:=Nat × Option Addr × Nat) (fun i=>i.1 ≤ K.length)
   (fun i=>[(34,.int .i64 i.1),(10,.slice i.2.1 i.1 i.2.2)]) (fun i=>vec t_z1l 2 dirtyv i.2.1 i.2.2 ((K.take i.1).map fun p=>(p,(M.lookup p).getD 0))) (fun i=>K.length - i.1) (0,none,0) (by simp) (fun t v h=>h) (Imp.vnil (Imp.refl _)) ?_
  rintro ⟨i,oa,oc⟩ hi
  dsimp only at hi ⊢
  conv=>whnf
  by_cases h1:i < K.length
  ·obtain ⟨x,hx⟩:∃ x,K[i]? = some x:=⟨_,List.getElem?_eq_getElem h1⟩
   have hT:∀ y,y = (x,(M.lookup x).getD 0) → (K.take i).map (fun p=>(p,(M.lookup p).getD 0)) ++ [y] = (K.take (i + 1)).map (fun p=>(p,(M.lookup p).getD 0)):=fun y hy=>by
    subst hy
    rw [List.take_add_one,hx];simp
   have hlen:((K.take i).map fun p=>(p,(M.lookup p).getD 0)).length = i:=by simp;omega
   repeat' (first
    | ((first|refine spl_f (by with_reducible exact ndec_self _) ?_|refine spl_f (by with_reducible exact nbeq_self _) ?_|refine spl_t (by with_reducible exact beq_self _) ?_);conv=>whnf)
    | (refine spl_dec (fun hd=>?_) (fun hd=>?_) <;> first|(exfalso;omega)|(conv=>whnf))
    | (refine spl_ndec (fun hd=>?_) (fun hd=>?_) <;> first|(exfalso;omega)|(conv=>whnf))
    | (refine spl_intro (fun hd=>?_) (fun hd=>?_) <;> (conv=>whnf))
    | ((first|refine Ld.i ?_|refine LdN.i ?_|refine St.i ⟨rfl,rfl⟩ (List.cons_ne_nil _ _) ?_|refine Ar.i64 (by omega) ?_|refine Ar.u64 (by omega) ?_|refine Ar.i64d (by omega) (by omega) ?_|refine Shr.i (by rfl) (by decide) ?_|refine Shl.i (by rfl) (by decide) ?_|refine Req.mk (by omega) ?_);conv=>whnf)
    | (intro blk hblk;conv=>whnf)
    | (refine IxS.r (i:=i) rfl rfl h1 (fun ab off ha=>?_);subst ha;conv=>whnf)
    | (refine Ld.r0 hx rfl ?_;conv=>whnf)
    | (refine OpX.lkv tab_ok rfl rfl rfl rfl rfl (fun u hu=>?_) (fun hu=>?_) <;> conv=>whnf))
   ·refine OpX.app1 tab_ok rfl rfl rfl rfl (x,u) rfl hlen.symm (by rw [hlen];omega) ⟨rfl,dirty_oneT⟩ (fun a' c'=>?_)
    rw [hT _ (by rw [hu];rfl)]
    repeat' (first
     | ((first|refine spl_f (by with_reducible exact ndec_self _) ?_|refine spl_f (by with_reducible exact nbeq_self _) ?_|refine spl_t (by with_reducible exact beq_self _) ?_);conv=>whnf)
     | (refine spl_dec (fun hd=>?_) (fun hd=>?_) <;> first|(exfalso;omega)|(conv=>whnf))
     | (refine spl_ndec (fun hd=>?_) (fun hd=>?_) <;> first|(exfalso;omega)|(conv=>whnf))
     | (refine spl_intro (fun hd=>?_) (fun hd=>?_) <;> (conv=>whnf))
     | ((first|refine Ld.i ?_|refine LdN.i ?_|refine St.i ⟨rfl,rfl⟩ (List.cons_ne_nil _ _) ?_|refine Ar.i64 (by omega) ?_|refine Ar.u64 (by omega) ?_|refine Ar.i64d (by omega) (by omega) ?_|refine Shr.i (by rfl) (by decide) ?_|refine Shl.i (by rfl) (by decide) ?_|refine Req.mk (by omega) ?_);conv=>whnf)
     | (intro blk hblk;conv=>whnf))
    refine ⟨rfl,(i + 1,a',c'),h1,fun t v h=>h,?_,by dsimp only;omega⟩
    first|exact .refl _|exact .drop|exact .fin|((repeat refine .pick ?_);first|exact .refl _|exact .emp _|exact .fin)
   ·refine OpX.app1 tab_ok rfl rfl rfl rfl (x,0) rfl hlen.symm (by rw [hlen];omega) ⟨rfl,dirty_oneT⟩ (fun a' c'=>?_)
    rw [hT _ (by rw [hu];rfl)]
    repeat' (first
     | ((first|refine spl_f (by with_reducible exact ndec_self _) ?_|refine spl_f (by with_reducible exact nbeq_self _) ?_|refine spl_t (by with_reducible exact beq_self _) ?_);conv=>whnf)
     | (refine spl_dec (fun hd=>?_) (fun hd=>?_) <;> first|(exfalso;omega)|(conv=>whnf))
     | (refine spl_ndec (fun hd=>?_) (fun hd=>?_) <;> first|(exfalso;omega)|(conv=>whnf))
     | (refine spl_intro (fun hd=>?_) (fun hd=>?_) <;> (conv=>whnf))
     | ((first|refine Ld.i ?_|refine LdN.i ?_|refine St.i ⟨rfl,rfl⟩ (List.cons_ne_nil _ _) ?_|refine Ar.i64 (by omega) ?_|refine Ar.u64 (by omega) ?_|refine Ar.i64d (by omega) (by omega) ?_|refine Shr.i (by rfl) (by decide) ?_|refine Shl.i (by rfl) (by decide) ?_|refine Req.mk (by omega) ?_);conv=>whnf)
     | (intro blk hblk;conv=>whnf))
    refine ⟨rfl,(i + 1,a',c'),h1,fun t v h=>h,?_,by dsimp only;omega⟩
    first|exact .refl _|exact .drop|exact .fin|((repeat refine .pick ?_);first|exact .refl _|exact .emp _|exact .fin)
  ·have hi':i = K.length:=by omega
   subst hi'
   repeat' (first
    | ((first|refine spl_f (by with_reducible exact ndec_self _) ?_|refine spl_f (by with_reducible exact nbeq_self _) ?_|refine spl_t (by with_reducible exact beq_self _) ?_);conv=>whnf)
    | (refine spl_dec (fun hd=>?_) (fun hd=>?_) <;> first|(exfalso;omega)|(conv=>whnf))
    | (refine spl_ndec (fun hd=>?_) (fun hd=>?_) <;> first|(exfalso;omega)|(conv=>whnf))
    | (refine spl_intro (fun hd=>?_) (fun hd=>?_) <;> (conv=>whnf))
    | ((first|refine Ld.i ?_|refine LdN.i ?_|refine St.i ⟨rfl,rfl⟩ (List.cons_ne_nil _ _) ?_|refine Ar.i64 (by omega) ?_|refine Ar.u64 (by omega) ?_|refine Ar.i64d (by omega) (by omega) ?_|refine Shr.i (by rfl) (by decide) ?_|refine Shl.i (by rfl) (by decide) ?_|refine Req.mk (by omega) ?_);conv=>whnf)
    | (intro blk hblk;conv=>whnf))
   rw [List.take_length]
   refine ⟨_,_,rfl,?_,oa,oc,by simp,rfl⟩
   first|exact .refl _|exact .drop|exact .fin|((repeat refine .pick ?_);first|exact .refl _|exact .emp _|exact .fin)
theorem chk_cp {lsn nx:Int} {a b:Option Addr} {n n' cap cap':Nat} {lv:List LiveV} {dv:List DirtyV} (hl:0 ≤ lsn ∧ lsn ≤ 2147483647):chkF ⟨lsn,8,0,0,0,0,0,0,0,0,0,0,0,0,(a,n,cap),(b,n',cap'),nx⟩ lv dv = if cpF nx lsn lv dv = true then 0 else 23:=by
 unfold chkF
 dsimp only
 rw [if_neg (by omega)]
 have e:=FieldsP.cp (r:=⟨lsn,8,0,0,0,0,0,0,0,0,0,0,0,0,(a,n,cap),(b,n',cap'),nx⟩) (L:=lv) (D:=dv) rfl
 have hb:BlankP ⟨lsn,8,0,0,0,0,0,0,0,0,0,0,0,0,(none,0,0),(none,0,0),0⟩:=by unfold BlankP;simp
 refine ite_congr (propext ⟨fun h=>(e.1 h).2.1,fun h=>e.2 ⟨hl,h,hb⟩⟩) (fun _=>rfl) (fun _=>rfl)
theorem pcheckT_spec {W:World} {R:HProp} {a b:Option Addr} {n n' cap cap':Nat} {nx:Int} {lv:List LiveV} {dv:List DirtyV} [c:RowC W R a 4 livev lv] [d:RowC W R b 2 dirtyv dv] (hn:n = lv.length) (hn':n' = dv.length) :
  Does prog W f_z1d ⟨[.agg ⟨[.slice a n cap,.slice b n' cap',.int .i64 nx]⟩]⟩ R (Ret fun v G=>v = .int .i64 (if cpF nx 0 lv dv = true then 0 else 23) ∧ G = R):=by
 haveI rl:RowN W R a n 4 livev lv:=⟨c,hn⟩
 haveI rd:RowN W R b n' 2 dirtyv dv:=⟨d,hn'⟩
 rw [← chk_cp (a:=a) (b:=b) (n:=n) (n':=n') (cap:=cap) (cap':=cap') (lsn:=0) (by decide)]
 refine f_z1d.does _ ?_
 conv=>whnf
 repeat' (first
  | ((first|refine spl_f (by with_reducible exact ndec_self _) ?_|refine spl_f (by with_reducible exact nbeq_self _) ?_|refine spl_t (by with_reducible exact beq_self _) ?_);conv=>whnf)
  | (refine spl_dec (fun hd=>?_) (fun hd=>?_) <;> first|(exfalso;omega)|(conv=>whnf))
  | (refine spl_ndec (fun hd=>?_) (fun hd=>?_) <;> first|(exfalso;omega)|(conv=>whnf))
  | (refine spl_intro (fun hd=>?_) (fun hd=>?_) <;> (conv=>whnf))
  | ((first|refine Ld.i ?_|refine LdN.i ?_|refine St.i ⟨rfl,rfl⟩ (List.cons_ne_nil _ _) ?_|refine Ar.i64 (by omega) ?_|refine Ar.u64 (by omega) ?_|refine Ar.i64d (by omega) (by omega) ?_|refine Shr.i (by rfl) (by decide) ?_|refine Shl.i (by rfl) (by decide) ?_|refine Req.mk (by omega) ?_);conv=>whnf)
  | (intro blk hblk;conv=>whnf)
  | (refine CallK.ret f_z2.ok ((check_spec (r:=⟨0,8,0,0,0,0,0,0,0,0,0,0,0,0,(a,n,cap),(b,n',cap'),nx⟩) (L:=lv) (D:=dv))) ?_;rintro v G ⟨rfl,rfl⟩;conv=>whnf))
 refine Ret.eq rfl ?_
 first|exact .refl _|exact .drop|exact .fin|((repeat refine .pick ?_);first|exact .refl _|exact .emp _|exact .fin)
theorem rchk_cp {W:World} {R:HProp} {a b:Option Addr} {n n' cap cap':Nat} {lsn nx:Int} {lv:List LiveV} {dv:List DirtyV} [c:RowC W R a 4 livev lv] [d:RowC W R b 2 dirtyv dv] (hn:n = lv.length) (hn':n' = dv.length) (hl:0 ≤ lsn ∧ lsn ≤ 2147483647) :
  Does prog W f_z2 ⟨[.agg ⟨[.int .i64 lsn,.int .i64 8,i0,i0,i0,i0,i0,i0,i0,i0,i0,i0,i0,i0,.slice a n cap,.slice b n' cap',.int .i64 nx]⟩]⟩ R (Ret fun v G=>v = .int .i64 (if cpF nx lsn lv dv = true then 0 else 23) ∧ G = R):=by
 haveI rl:RowN W R a n 4 livev lv:=⟨c,hn⟩
 haveI rd:RowN W R b n' 2 dirtyv dv:=⟨d,hn'⟩
 rw [← chk_cp (a:=a) (b:=b) (n:=n) (n':=n') (cap:=cap) (cap':=cap') hl]
 exact check_spec (r:=⟨lsn,8,0,0,0,0,0,0,0,0,0,0,0,0,(a,n,cap),(b,n',cap'),nx⟩) (L:=lv) (D:=dv)
theorem within_spec {W:World} {R:HProp} {n lo hi:Int}:Does prog W f_z2d ⟨[.int .i64 n,.int .i64 lo,.int .i64 hi]⟩ R (Ret fun v G=>v = .bool (decide (lo ≤ n ∧ n ≤ hi)) ∧ G = R):=by
 refine f_z2d.does _ _ _ ?_
 conv=>whnf
 repeat' (first
  | ((first|refine spl_f (by with_reducible exact ndec_self _) ?_|refine spl_f (by with_reducible exact nbeq_self _) ?_|refine spl_t (by with_reducible exact beq_self _) ?_);conv=>whnf)
  | (refine spl_dec (fun hd=>?_) (fun hd=>?_) <;> first|(exfalso;omega)|(conv=>whnf))
  | (refine spl_ndec (fun hd=>?_) (fun hd=>?_) <;> first|(exfalso;omega)|(conv=>whnf))
  | (refine spl_intro (fun hd=>?_) (fun hd=>?_) <;> (conv=>whnf))
  | ((first|refine Ld.i ?_|refine LdN.i ?_|refine St.i ⟨rfl,rfl⟩ (List.cons_ne_nil _ _) ?_|refine Ar.i64 (by omega) ?_|refine Ar.u64 (by omega) ?_|refine Ar.i64d (by omega) (by omega) ?_|refine Shr.i (by rfl) (by decide) ?_|refine Shl.i (by rfl) (by decide) ?_|refine Req.mk (by omega) ?_);conv=>whnf)
  | (intro blk hblk;conv=>whnf))
 ·refine Ret.eq (congrArg Value.bool (decide_eq_decide.2 (by omega))) (Imp.refl _)
 ·refine Ret.eq (congrArg Value.bool (decide_eq_false (by omega)).symm) (Imp.refl _)
theorem rlive_spec {W:World} {R:HProp} {a:Option Addr} {n cap:Nat} {nx:Int} {lv:List LiveV} [c:RowC W R a 4 livev lv] (hn:n = lv.length) (hnx:1 ≤ nx ∧ nx ≤ 2147483648) :
  Does prog W f_z18 ⟨[.slice a n cap,.int .i64 nx]⟩ R (Ret fun v G=>v = .bool (if lv.length > 32 then false else cpLive nx 0 0 lv) ∧ G = R):=by
 subst hn
 refine f_z18.does _ _ ?_
 conv=>whnf
 repeat' (first
  | ((first|refine spl_f (by with_reducible exact ndec_self _) ?_|refine spl_f (by with_reducible exact nbeq_self _) ?_|refine spl_t (by with_reducible exact beq_self _) ?_);conv=>whnf)
  | (refine spl_dec (fun hd=>?_) (fun hd=>?_) <;> first|(exfalso;omega)|(conv=>whnf))
  | (refine spl_ndec (fun hd=>?_) (fun hd=>?_) <;> first|(exfalso;omega)|(conv=>whnf))
  | (refine spl_intro (fun hd=>?_) (fun hd=>?_) <;> (conv=>whnf))
  | ((first|refine Ld.i ?_|refine LdN.i ?_|refine St.i ⟨rfl,rfl⟩ (List.cons_ne_nil _ _) ?_|refine Ar.i64 (by omega) ?_|refine Ar.u64 (by omega) ?_|refine Ar.i64d (by omega) (by omega) ?_|refine Shr.i (by rfl) (by decide) ?_|refine Shl.i (by rfl) (by decide) ?_|refine Req.mk (by omega) ?_);conv=>whnf)
  | (intro blk hblk;conv=>whnf))
 ·refine Ret.eq (congrArg Value.bool (if_pos (by omega)).symm) (Imp.refl _)
 rw [if_neg (by omega)]
 refine LoopK.keep tab_ok (L:=f_z18.live) (ι:=Nat × Int) (fun i=>i.1 ≤ lv.length ∧ cpLive nx 0 i.2 (lv.drop i.1) = cpLive nx 0 0 lv ∧ ((i.1 = 0 ∧ i.2 = 0) ∨ ∃ k y,i.1 = k + 1 ∧ lv[k]? = some y ∧ y.tx = i.2 ∧ 1 ≤ i.2)) (fun i=>[(5,.int .i64 i.1)]) (fun i=>lv.length - i.1) (0,0) (by simp) (fun t v h=>h) ?_
 rintro ⟨i,last⟩ ⟨hi,hm,hl⟩
 dsimp only at hi hm hl ⊢
 conv=>whnf
 by_cases h1:i < lv.length
 ·obtain ⟨x,hx⟩:∃ x,lv[i]? = some x:=⟨_,List.getElem?_eq_getElem h1⟩
  rw [drop_of hx,cpLive] at hm
  rcases hl with ⟨rfl,rfl⟩|⟨k,y,rfl,hy,hyl,hy1⟩
  ·repeat' (first
    | ((first|refine spl_f (by with_reducible exact ndec_self _) ?_|refine spl_f (by with_reducible exact nbeq_self _) ?_|refine spl_t (by with_reducible exact beq_self _) ?_);conv=>whnf)
    | (refine spl_dec (fun hd=>?_) (fun hd=>?_) <;> first|(exfalso;omega)|(conv=>whnf))
    | (refine spl_ndec (fun hd=>?_) (fun hd=>?_) <;> first|(exfalso;omega)|(conv=>whnf))
    | (refine spl_intro (fun hd=>?_) (fun hd=>?_) <;> (conv=>whnf))
    | ((first|refine Ld.i ?_|refine LdN.i ?_|refine St.i ⟨rfl,rfl⟩ (List.cons_ne_nil _ _) ?_|refine Ar.i64 (by omega) ?_|refine Ar.u64 (by omega) ?_|refine Ar.i64d (by omega) (by omega) ?_|refine Shr.i (by rfl) (by decide) ?_|refine Shl.i (by rfl) (by decide) ?_|refine Req.mk (by omega) ?_);conv=>whnf)
    | (intro blk hblk;conv=>whnf)
    | (refine IxS.r (i:=0) rfl rfl h1 (fun ab off ha=>?_);cases ha;conv=>whnf)
    | ((first|refine LdN.r hx rfl ?_|refine Ld.r hx rfl ?_|refine Ld.r0 hx rfl ?_|refine LdN.rp hx ?_);conv=>whnf)
    | (refine CallK.ret f_z2d.ok (within_spec) ?_;rintro v G ⟨rfl,rfl⟩;conv=>whnf)
    | (refine DrawK.intro tab_ok mixed f_z18.last7 f_z18.plan7 _ (by kernel_rfl) (Sub.of (by first|exact .refl _|exact .drop|exact .fin|((repeat refine .pick ?_);first|exact .refl _|exact .emp _|exact .fin))) ?_;conv=>whnf)
    | (refine Sub.on (by first|exact .refl _|exact .drop|exact .fin|((repeat refine .pick ?_);first|exact .refl _|exact .emp _|exact .fin)) ?_;conv=>whnf)
    | (refine Sub.on (Imp.trans KeepC.h (by first|exact .refl _|exact .drop|exact .fin|((repeat refine .pick ?_);first|exact .refl _|exact .emp _|exact .fin))) ?_;conv=>whnf))
   iterate 3
    ·rw [if_pos (by omega)] at hm
     refine Ret.eq (congrArg Value.bool hm) ?_
     first|exact .refl _|exact .drop|exact .fin|((repeat refine .pick ?_);first|exact .refl _|exact .emp _|exact .fin)
   ·rw [if_neg (by omega),if_pos (by constructor <;> assumption)] at hm
    refine Ret.eq (congrArg Value.bool hm) ?_
    first|exact .refl _|exact .drop|exact .fin|((repeat refine .pick ?_);first|exact .refl _|exact .emp _|exact .fin)
   iterate 2
    ·rw [if_neg (by omega),if_neg (by simp_all)] at hm
     refine ⟨rfl,(0 + 1,x.tx),⟨h1,hm,.inr ⟨0,x,rfl,hx,rfl,by dsimp only;omega⟩⟩,fun t v h=>h,?_,by dsimp only;omega⟩
     first|exact .refl _|exact .drop|exact .fin|((repeat refine .pick ?_);first|exact .refl _|exact .emp _|exact .fin)
  ·repeat' (first
    | ((first|refine spl_f (by with_reducible exact ndec_self _) ?_|refine spl_f (by with_reducible exact nbeq_self _) ?_|refine spl_t (by with_reducible exact beq_self _) ?_);conv=>whnf)
    | (refine spl_dec (fun hd=>?_) (fun hd=>?_) <;> first|(exfalso;omega)|(conv=>whnf))
    | (refine spl_ndec (fun hd=>?_) (fun hd=>?_) <;> first|(exfalso;omega)|(conv=>whnf))
    | (refine spl_intro (fun hd=>?_) (fun hd=>?_) <;> (conv=>whnf))
    | ((first|refine Ld.i ?_|refine LdN.i ?_|refine St.i ⟨rfl,rfl⟩ (List.cons_ne_nil _ _) ?_|refine Ar.i64 (by omega) ?_|refine Ar.u64 (by omega) ?_|refine Ar.i64d (by omega) (by omega) ?_|refine Shr.i (by rfl) (by decide) ?_|refine Shl.i (by rfl) (by decide) ?_|refine Req.mk (by omega) ?_);conv=>whnf)
    | (intro blk hblk;conv=>whnf)
    | (refine IxS.r (i:=(k+1)) rfl rfl h1 (fun ab off ha=>?_);cases ha;conv=>whnf)
    | ((first|refine LdN.r hx rfl ?_|refine Ld.r hx rfl ?_|refine Ld.r0 hx rfl ?_|refine LdN.rp hx ?_);conv=>whnf)
    | (refine CallK.ret f_z2d.ok (within_spec) ?_;rintro v G ⟨rfl,rfl⟩;conv=>whnf)
    | (refine DrawK.intro tab_ok mixed f_z18.last7 f_z18.plan7 _ (by kernel_rfl) (Sub.of (by first|exact .refl _|exact .drop|exact .fin|((repeat refine .pick ?_);first|exact .refl _|exact .emp _|exact .fin))) ?_;conv=>whnf)
    | (refine Sub.on (by first|exact .refl _|exact .drop|exact .fin|((repeat refine .pick ?_);first|exact .refl _|exact .emp _|exact .fin)) ?_;conv=>whnf)
    | (refine Sub.on (Imp.trans KeepC.h (by first|exact .refl _|exact .drop|exact .fin|((repeat refine .pick ?_);first|exact .refl _|exact .emp _|exact .fin))) ?_;conv=>whnf)
    | (refine IxS.r (i:=k) (by omega) rfl (by omega) (fun ab off ha=>?_);cases ha;conv=>whnf)
    | ((first|refine LdN.r hy rfl ?_|refine Ld.r hy rfl ?_|refine Ld.r0 hy rfl ?_|refine LdN.rp hy ?_);conv=>whnf))
   iterate 4
    ·rw [if_pos (by omega)] at hm
     refine Ret.eq (congrArg Value.bool hm) ?_
     first|exact .refl _|exact .drop|exact .fin|((repeat refine .pick ?_);first|exact .refl _|exact .emp _|exact .fin)
   ·rw [if_neg (by omega),if_pos (by constructor <;> assumption)] at hm
    refine Ret.eq (congrArg Value.bool hm) ?_
    first|exact .refl _|exact .drop|exact .fin|((repeat refine .pick ?_);first|exact .refl _|exact .emp _|exact .fin)
   iterate 2
    ·rw [if_neg (by omega),if_neg (by simp_all)] at hm
     refine ⟨rfl,((k + 1) + 1,x.tx),⟨h1,hm,.inr ⟨(k + 1),x,rfl,hx,rfl,by dsimp only;omega⟩⟩,fun t v h=>h,?_,by dsimp only;omega⟩
     first|exact .refl _|exact .drop|exact .fin|((repeat refine .pick ?_);first|exact .refl _|exact .emp _|exact .fin)
 ·rw [drop_all h1,cpLive] at hm
  repeat' (first
   | ((first|refine spl_f (by with_reducible exact ndec_self _) ?_|refine spl_f (by with_reducible exact nbeq_self _) ?_|refine spl_t (by with_reducible exact beq_self _) ?_);conv=>whnf)
   | (refine spl_dec (fun hd=>?_) (fun hd=>?_) <;> first|(exfalso;omega)|(conv=>whnf))
   | (refine spl_ndec (fun hd=>?_) (fun hd=>?_) <;> first|(exfalso;omega)|(conv=>whnf))
   | (refine spl_intro (fun hd=>?_) (fun hd=>?_) <;> (conv=>whnf))
   | ((first|refine Ld.i ?_|refine LdN.i ?_|refine St.i ⟨rfl,rfl⟩ (List.cons_ne_nil _ _) ?_|refine Ar.i64 (by omega) ?_|refine Ar.u64 (by omega) ?_|refine Ar.i64d (by omega) (by omega) ?_|refine Shr.i (by rfl) (by decide) ?_|refine Shl.i (by rfl) (by decide) ?_|refine Req.mk (by omega) ?_);conv=>whnf)
   | (intro blk hblk;conv=>whnf))
  refine Ret.eq (congrArg Value.bool hm) ?_
  first|exact .refl _|exact .drop|exact .fin|((repeat refine .pick ?_);first|exact .refl _|exact .emp _|exact .fin)
theorem rdirty_spec {W:World} {R:HProp} {a:Option Addr} {n cap:Nat} {dv:List DirtyV} [c:RowC W R a 2 dirtyv dv] (hn:n = dv.length) :
  Does prog W f_z19 ⟨[.slice a n cap]⟩ R (Ret fun v G=>v = .bool (if dv.length > 16 then false else cpDirty 0 (-1) dv) ∧ G = R):=by
 subst hn
 refine f_z19.does _ ?_
 conv=>whnf
 repeat' (first
  | ((first|refine spl_f (by with_reducible exact ndec_self _) ?_|refine spl_f (by with_reducible exact nbeq_self _) ?_|refine spl_t (by with_reducible exact beq_self _) ?_);conv=>whnf)
  | (refine spl_dec (fun hd=>?_) (fun hd=>?_) <;> first|(exfalso;omega)|(conv=>whnf))
  | (refine spl_ndec (fun hd=>?_) (fun hd=>?_) <;> first|(exfalso;omega)|(conv=>whnf))
  | (refine spl_intro (fun hd=>?_) (fun hd=>?_) <;> (conv=>whnf))
  | ((first|refine Ld.i ?_|refine LdN.i ?_|refine St.i ⟨rfl,rfl⟩ (List.cons_ne_nil _ _) ?_|refine Ar.i64 (by omega) ?_|refine Ar.u64 (by omega) ?_|refine Ar.i64d (by omega) (by omega) ?_|refine Shr.i (by rfl) (by decide) ?_|refine Shl.i (by rfl) (by decide) ?_|refine Req.mk (by omega) ?_);conv=>whnf)
  | (intro blk hblk;conv=>whnf))
 ·refine Ret.eq (congrArg Value.bool (if_pos (by omega)).symm) (Imp.refl _)
 rw [if_neg (by omega)]
 refine LoopK.keep tab_ok (L:=f_z19.live) (ι:=Nat × Int) (fun i=>i.1 ≤ dv.length ∧ cpDirty 0 i.2 (dv.drop i.1) = cpDirty 0 (-1) dv ∧ ((i.1 = 0 ∧ i.2 = -1) ∨ ∃ k y,i.1 = k + 1 ∧ dv[k]? = some y ∧ y.1 = i.2 ∧ 0 ≤ i.2)) (fun i=>[(3,.int .i64 i.1)]) (fun i=>dv.length - i.1) (0,-1) (by simp) (fun t v h=>h) ?_
 rintro ⟨i,last⟩ ⟨hi,hm,hl⟩
 dsimp only at hi hm hl ⊢
 conv=>whnf
 by_cases h1:i < dv.length
 ·obtain ⟨x,hx⟩:∃ x,dv[i]? = some x:=⟨_,List.getElem?_eq_getElem h1⟩
  rw [drop_of hx,cpDirty] at hm
  rcases hl with ⟨rfl,rfl⟩|⟨k,y,rfl,hy,hyl,hy1⟩
  ·repeat' (first
    | ((first|refine spl_f (by with_reducible exact ndec_self _) ?_|refine spl_f (by with_reducible exact nbeq_self _) ?_|refine spl_t (by with_reducible exact beq_self _) ?_);conv=>whnf)
    | (refine spl_dec (fun hd=>?_) (fun hd=>?_) <;> first|(exfalso;omega)|(conv=>whnf))
    | (refine spl_ndec (fun hd=>?_) (fun hd=>?_) <;> first|(exfalso;omega)|(conv=>whnf))
    | (refine spl_intro (fun hd=>?_) (fun hd=>?_) <;> (conv=>whnf))
    | ((first|refine Ld.i ?_|refine LdN.i ?_|refine St.i ⟨rfl,rfl⟩ (List.cons_ne_nil _ _) ?_|refine Ar.i64 (by omega) ?_|refine Ar.u64 (by omega) ?_|refine Ar.i64d (by omega) (by omega) ?_|refine Shr.i (by rfl) (by decide) ?_|refine Shl.i (by rfl) (by decide) ?_|refine Req.mk (by omega) ?_);conv=>whnf)
    | (intro blk hblk;conv=>whnf)
    | (refine IxS.r (i:=0) rfl rfl h1 (fun ab off ha=>?_);cases ha;conv=>whnf)
    | ((first|refine LdN.r hx rfl ?_|refine Ld.r hx rfl ?_|refine Ld.r0 hx rfl ?_|refine LdN.rp hx ?_);conv=>whnf)
    | (refine CallK.ret f_z2d.ok (within_spec) ?_;rintro v G ⟨rfl,rfl⟩;conv=>whnf)
    | (refine DrawK.intro tab_ok mixed f_z19.last6 f_z19.plan6 _ (by kernel_rfl) (Sub.of (by first|exact .refl _|exact .drop|exact .fin|((repeat refine .pick ?_);first|exact .refl _|exact .emp _|exact .fin))) ?_;conv=>whnf)
    | (refine Sub.on (by first|exact .refl _|exact .drop|exact .fin|((repeat refine .pick ?_);first|exact .refl _|exact .emp _|exact .fin)) ?_;conv=>whnf)
    | (refine Sub.on (Imp.trans KeepC.h (by first|exact .refl _|exact .drop|exact .fin|((repeat refine .pick ?_);first|exact .refl _|exact .emp _|exact .fin))) ?_;conv=>whnf))
   iterate 2
    ·rw [if_pos (by omega)] at hm
     refine Ret.eq (congrArg Value.bool hm) ?_
     first|exact .refl _|exact .drop|exact .fin|((repeat refine .pick ?_);first|exact .refl _|exact .emp _|exact .fin)
   ·rw [if_neg (by omega)] at hm
    refine ⟨rfl,(0 + 1,x.1),⟨h1,hm,.inr ⟨0,x,rfl,hx,rfl,by dsimp only;omega⟩⟩,fun t v h=>h,?_,by dsimp only;omega⟩
    first|exact .refl _|exact .drop|exact .fin|((repeat refine .pick ?_);first|exact .refl _|exact .emp _|exact .fin)
  ·repeat' (first
    | ((first|refine spl_f (by with_reducible exact ndec_self _) ?_|refine spl_f (by with_reducible exact nbeq_self _) ?_|refine spl_t (by with_reducible exact beq_self _) ?_);conv=>whnf)
    | (refine spl_dec (fun hd=>?_) (fun hd=>?_) <;> first|(exfalso;omega)|(conv=>whnf))
    | (refine spl_ndec (fun hd=>?_) (fun hd=>?_) <;> first|(exfalso;omega)|(conv=>whnf))
    | (refine spl_intro (fun hd=>?_) (fun hd=>?_) <;> (conv=>whnf))
    | ((first|refine Ld.i ?_|refine LdN.i ?_|refine St.i ⟨rfl,rfl⟩ (List.cons_ne_nil _ _) ?_|refine Ar.i64 (by omega) ?_|refine Ar.u64 (by omega) ?_|refine Ar.i64d (by omega) (by omega) ?_|refine Shr.i (by rfl) (by decide) ?_|refine Shl.i (by rfl) (by decide) ?_|refine Req.mk (by omega) ?_);conv=>whnf)
    | (intro blk hblk;conv=>whnf)
    | (refine IxS.r (i:=(k+1)) rfl rfl h1 (fun ab off ha=>?_);cases ha;conv=>whnf)
    | ((first|refine LdN.r hx rfl ?_|refine Ld.r hx rfl ?_|refine Ld.r0 hx rfl ?_|refine LdN.rp hx ?_);conv=>whnf)
    | (refine CallK.ret f_z2d.ok (within_spec) ?_;rintro v G ⟨rfl,rfl⟩;conv=>whnf)
    | (refine DrawK.intro tab_ok mixed f_z19.last6 f_z19.plan6 _ (by kernel_rfl) (Sub.of (by first|exact .refl _|exact .drop|exact .fin|((repeat refine .pick ?_);first|exact .refl _|exact .emp _|exact .fin))) ?_;conv=>whnf)
    | (refine Sub.on (by first|exact .refl _|exact .drop|exact .fin|((repeat refine .pick ?_);first|exact .refl _|exact .emp _|exact .fin)) ?_;conv=>whnf)
    | (refine Sub.on (Imp.trans KeepC.h (by first|exact .refl _|exact .drop|exact .fin|((repeat refine .pick ?_);first|exact .refl _|exact .emp _|exact .fin))) ?_;conv=>whnf)
    | (refine IxS.r (i:=k) (by omega) rfl (by omega) (fun ab off ha=>?_);cases ha;conv=>whnf)
    | ((first|refine LdN.r hy rfl ?_|refine Ld.r hy rfl ?_|refine Ld.r0 hy rfl ?_|refine LdN.rp hy ?_);conv=>whnf))
   iterate 3
    ·rw [if_pos (by omega)] at hm
     refine Ret.eq (congrArg Value.bool hm) ?_
     first|exact .refl _|exact .drop|exact .fin|((repeat refine .pick ?_);first|exact .refl _|exact .emp _|exact .fin)
   ·rw [if_neg (by omega)] at hm
    refine ⟨rfl,((k + 1) + 1,x.1),⟨h1,hm,.inr ⟨k + 1,x,rfl,hx,rfl,by dsimp only;omega⟩⟩,fun t v h=>h,?_,by dsimp only;omega⟩
    first|exact .refl _|exact .drop|exact .fin|((repeat refine .pick ?_);first|exact .refl _|exact .emp _|exact .fin)
 ·rw [drop_all h1,cpDirty] at hm
  repeat' (first
   | ((first|refine spl_f (by with_reducible exact ndec_self _) ?_|refine spl_f (by with_reducible exact nbeq_self _) ?_|refine spl_t (by with_reducible exact beq_self _) ?_);conv=>whnf)
   | (refine spl_dec (fun hd=>?_) (fun hd=>?_) <;> first|(exfalso;omega)|(conv=>whnf))
   | (refine spl_ndec (fun hd=>?_) (fun hd=>?_) <;> first|(exfalso;omega)|(conv=>whnf))
   | (refine spl_intro (fun hd=>?_) (fun hd=>?_) <;> (conv=>whnf))
   | ((first|refine Ld.i ?_|refine LdN.i ?_|refine St.i ⟨rfl,rfl⟩ (List.cons_ne_nil _ _) ?_|refine Ar.i64 (by omega) ?_|refine Ar.u64 (by omega) ?_|refine Ar.i64d (by omega) (by omega) ?_|refine Shr.i (by rfl) (by decide) ?_|refine Shl.i (by rfl) (by decide) ?_|refine Req.mk (by omega) ?_);conv=>whnf)
   | (intro blk hblk;conv=>whnf))
  refine Ret.eq (congrArg Value.bool hm) ?_
  first|exact .refl _|exact .drop|exact .fin|((repeat refine .pick ?_);first|exact .refl _|exact .emp _|exact .fin)
theorem cp_parts {nx:Int} {lv:List LiveV} {dv:List DirtyV} (h:cpF nx 0 lv dv = true):(1 ≤ nx ∧ nx ≤ 2147483648) ∧ lv.length ≤ 32 ∧ dv.length ≤ 16 ∧ cpLive nx 0 0 lv = true ∧ cpDirty 0 (-1) dv = true:=by
 unfold cpF at h
 split at h
 ·cases h
 ·rename_i k
  rw [Bool.and_eq_true] at h
  exact ⟨by omega,by omega,by omega,h.1,h.2⟩
theorem rliveT {W:World} {R:HProp} {a:Option Addr} {n cap:Nat} {nx:Int} {lv:List LiveV} [c:RowC W R a 4 livev lv] (hn:n = lv.length) (hnx:1 ≤ nx ∧ nx ≤ 2147483648) (e:(if lv.length > 32 then false else cpLive nx 0 0 lv) = true) :
  Does prog W f_z18 ⟨[.slice a n cap,.int .i64 nx]⟩ R (Ret fun v G=>v = .bool true ∧ G = R):=by
 have s:=rlive_spec (W:=W) (R:=R) (a:=a) (cap:=cap) (nx:=nx) (lv:=lv) hn hnx
 rwa [e] at s
theorem rdirtyT {W:World} {R:HProp} {a:Option Addr} {n cap:Nat} {dv:List DirtyV} [c:RowC W R a 2 dirtyv dv] (hn:n = dv.length) (e:(if dv.length > 16 then false else cpDirty 0 (-1) dv) = true) :
  Does prog W f_z19 ⟨[.slice a n cap]⟩ R (Ret fun v G=>v = .bool true ∧ G = R):=by
 have s:=rdirty_spec (W:=W) (R:=R) (a:=a) (cap:=cap) (dv:=dv) hn
 rwa [e] at s
theorem rpointsL_spec {W:World} {R:HProp} {a b:Option Addr} {n n' cap cap':Nat} {lsn nx:Int} {lv:List LiveV} {dv:List DirtyV} [c:RowC W R a 4 livev lv] [d:RowC W R b 2 dirtyv dv] (hn:n = lv.length) (hn':n' = dv.length) (h:cpF nx 0 lv dv = true) (h0:lsn ≠ 0) (h1:∀ x ∈ lv,x.last < lsn) (h2:∀ x ∈ dv,x.2 < lsn) :
  Does prog W f_z2y ⟨[.agg ⟨[.slice a n cap,.slice b n' cap',.int .i64 nx]⟩,.int .i64 lsn]⟩ R (Ret fun v G=>v = .bool true ∧ G = R):=by
 subst hn hn'
 obtain ⟨g1,g2,g3,g4,g5⟩:=cp_parts h
 have e1:(if lv.length > 32 then false else cpLive nx 0 0 lv) = true:=by rw [if_neg (by omega)];exact g4
 have e2:(if dv.length > 16 then false else cpDirty 0 (-1) dv) = true:=by rw [if_neg (by omega)];exact g5
 refine f_z2y.does _ _ ?_
 conv=>whnf
 repeat' (first
  | ((first|refine spl_f (by with_reducible exact ndec_self _) ?_|refine spl_f (by with_reducible exact nbeq_self _) ?_|refine spl_t (by with_reducible exact beq_self _) ?_);conv=>whnf)
  | (refine spl_dec (fun hd=>?_) (fun hd=>?_) <;> first|(exfalso;omega)|(conv=>whnf))
  | (refine spl_ndec (fun hd=>?_) (fun hd=>?_) <;> first|(exfalso;omega)|(conv=>whnf))
  | (refine spl_intro (fun hd=>?_) (fun hd=>?_) <;> (conv=>whnf))
  | ((first|refine Ld.i ?_|refine LdN.i ?_|refine St.i ⟨rfl,rfl⟩ (List.cons_ne_nil _ _) ?_|refine Ar.i64 (by omega) ?_|refine Ar.u64 (by omega) ?_|refine Ar.i64d (by omega) (by omega) ?_|refine Shr.i (by rfl) (by decide) ?_|refine Shl.i (by rfl) (by decide) ?_|refine Req.mk (by omega) ?_);conv=>whnf)
  | (intro blk hblk;conv=>whnf)
  | (refine CallK.ret f_z18.ok ((rliveT (lv:=lv) rfl (by omega) e1)) ?_;rintro v G ⟨rfl,rfl⟩;conv=>whnf)
  | (refine CallK.ret f_z19.ok ((rdirtyT (dv:=dv) rfl e2)) ?_;rintro v G ⟨rfl,rfl⟩;conv=>whnf))
 refine LoopK.keep tab_ok (L:=f_z2y.live) (ι:=Nat) (fun i=>i ≤ lv.length) (fun i=>[(5,.int .i64 i)]) (fun i=>lv.length - i) 0 (by simp) (fun t v h=>h) ?_
 intro i hi
 conv=>whnf
 by_cases k1:i < lv.length
 ·obtain ⟨x,hx⟩:∃ x,lv[i]? = some x:=⟨_,List.getElem?_eq_getElem k1⟩
  have hm:=h1 x (List.mem_of_getElem? hx)
  repeat' (first
   | ((first|refine spl_f (by with_reducible exact ndec_self _) ?_|refine spl_f (by with_reducible exact nbeq_self _) ?_|refine spl_t (by with_reducible exact beq_self _) ?_);conv=>whnf)
   | (refine spl_dec (fun hd=>?_) (fun hd=>?_) <;> first|(exfalso;omega)|(conv=>whnf))
   | (refine spl_ndec (fun hd=>?_) (fun hd=>?_) <;> first|(exfalso;omega)|(conv=>whnf))
   | (refine spl_intro (fun hd=>?_) (fun hd=>?_) <;> (conv=>whnf))
   | ((first|refine Ld.i ?_|refine LdN.i ?_|refine St.i ⟨rfl,rfl⟩ (List.cons_ne_nil _ _) ?_|refine Ar.i64 (by omega) ?_|refine Ar.u64 (by omega) ?_|refine Ar.i64d (by omega) (by omega) ?_|refine Shr.i (by rfl) (by decide) ?_|refine Shl.i (by rfl) (by decide) ?_|refine Req.mk (by omega) ?_);conv=>whnf)
   | (intro blk hblk;conv=>whnf)
   | (refine IxS.r (i:=i) rfl rfl k1 (fun ab off ha=>?_);cases ha;conv=>whnf)
   | ((first|refine LdN.r hx rfl ?_|refine Ld.r hx rfl ?_|refine Ld.r0 hx rfl ?_|refine LdN.rp hx ?_);conv=>whnf))
  exact ⟨rfl,i + 1,by omega,fun t v h=>h,Imp.refl _,by omega⟩
 repeat' (first
  | ((first|refine spl_f (by with_reducible exact ndec_self _) ?_|refine spl_f (by with_reducible exact nbeq_self _) ?_|refine spl_t (by with_reducible exact beq_self _) ?_);conv=>whnf)
  | (refine spl_dec (fun hd=>?_) (fun hd=>?_) <;> first|(exfalso;omega)|(conv=>whnf))
  | (refine spl_ndec (fun hd=>?_) (fun hd=>?_) <;> first|(exfalso;omega)|(conv=>whnf))
  | (refine spl_intro (fun hd=>?_) (fun hd=>?_) <;> (conv=>whnf))
  | ((first|refine Ld.i ?_|refine LdN.i ?_|refine St.i ⟨rfl,rfl⟩ (List.cons_ne_nil _ _) ?_|refine Ar.i64 (by omega) ?_|refine Ar.u64 (by omega) ?_|refine Ar.i64d (by omega) (by omega) ?_|refine Shr.i (by rfl) (by decide) ?_|refine Shl.i (by rfl) (by decide) ?_|refine Req.mk (by omega) ?_);conv=>whnf)
  | (intro blk hblk;conv=>whnf))
 refine LoopK.keep tab_ok (L:=f_z2y.live) (ι:=Nat) (fun i=>i ≤ dv.length) (fun i=>[(6,.int .i64 i)]) (fun i=>dv.length - i) 0 (by simp) (fun t v h=>h) ?_
 intro i hi
 conv=>whnf
 by_cases k2:i < dv.length
 ·obtain ⟨x,hx⟩:∃ x,dv[i]? = some x:=⟨_,List.getElem?_eq_getElem k2⟩
  have hm:=h2 x (List.mem_of_getElem? hx)
  repeat' (first
   | ((first|refine spl_f (by with_reducible exact ndec_self _) ?_|refine spl_f (by with_reducible exact nbeq_self _) ?_|refine spl_t (by with_reducible exact beq_self _) ?_);conv=>whnf)
   | (refine spl_dec (fun hd=>?_) (fun hd=>?_) <;> first|(exfalso;omega)|(conv=>whnf))
   | (refine spl_ndec (fun hd=>?_) (fun hd=>?_) <;> first|(exfalso;omega)|(conv=>whnf))
   | (refine spl_intro (fun hd=>?_) (fun hd=>?_) <;> (conv=>whnf))
   | ((first|refine Ld.i ?_|refine LdN.i ?_|refine St.i ⟨rfl,rfl⟩ (List.cons_ne_nil _ _) ?_|refine Ar.i64 (by omega) ?_|refine Ar.u64 (by omega) ?_|refine Ar.i64d (by omega) (by omega) ?_|refine Shr.i (by rfl) (by decide) ?_|refine Shl.i (by rfl) (by decide) ?_|refine Req.mk (by omega) ?_);conv=>whnf)
   | (intro blk hblk;conv=>whnf)
   | (refine IxS.r (i:=i) rfl rfl k2 (fun ab off ha=>?_);cases ha;conv=>whnf)
   | ((first|refine LdN.r hx rfl ?_|refine Ld.r hx rfl ?_|refine Ld.r0 hx rfl ?_|refine LdN.rp hx ?_);conv=>whnf))
  exact ⟨rfl,i + 1,by omega,fun t v h=>h,Imp.refl _,by omega⟩
 repeat' (first
  | ((first|refine spl_f (by with_reducible exact ndec_self _) ?_|refine spl_f (by with_reducible exact nbeq_self _) ?_|refine spl_t (by with_reducible exact beq_self _) ?_);conv=>whnf)
  | (refine spl_dec (fun hd=>?_) (fun hd=>?_) <;> first|(exfalso;omega)|(conv=>whnf))
  | (refine spl_ndec (fun hd=>?_) (fun hd=>?_) <;> first|(exfalso;omega)|(conv=>whnf))
  | (refine spl_intro (fun hd=>?_) (fun hd=>?_) <;> (conv=>whnf))
  | ((first|refine Ld.i ?_|refine LdN.i ?_|refine St.i ⟨rfl,rfl⟩ (List.cons_ne_nil _ _) ?_|refine Ar.i64 (by omega) ?_|refine Ar.u64 (by omega) ?_|refine Ar.i64d (by omega) (by omega) ?_|refine Shr.i (by rfl) (by decide) ?_|refine Shl.i (by rfl) (by decide) ?_|refine Req.mk (by omega) ?_);conv=>whnf)
  | (intro blk hblk;conv=>whnf))
 refine Ret.eq rfl ?_
 first|exact .refl _|exact .drop|exact .fin|((repeat refine .pick ?_);first|exact .refl _|exact .emp _|exact .fin)
theorem apart_spec {W:World} {R:HProp} {lv dv nx kind lsn tx pv:Value}:Does prog W f_z3z ⟨[.agg ⟨[lsn,kind,tx,pv,i0,i0,i0,i0,i0,i0,i0,i0,i0,i0,lv,dv,nx]⟩]⟩ R (Ret fun v G=>v = .bool true ∧ G = R):=by
 refine f_z3z.does _ ?_
 conv=>whnf
 repeat' (first
  | ((first|refine spl_f (by with_reducible exact ndec_self _) ?_|refine spl_f (by with_reducible exact nbeq_self _) ?_|refine spl_t (by with_reducible exact beq_self _) ?_);conv=>whnf)
  | (refine spl_dec (fun hd=>?_) (fun hd=>?_) <;> first|(exfalso;omega)|(conv=>whnf))
  | (refine spl_ndec (fun hd=>?_) (fun hd=>?_) <;> first|(exfalso;omega)|(conv=>whnf))
  | (refine spl_intro (fun hd=>?_) (fun hd=>?_) <;> (conv=>whnf))
  | ((first|refine Ld.i ?_|refine LdN.i ?_|refine St.i ⟨rfl,rfl⟩ (List.cons_ne_nil _ _) ?_|refine Ar.i64 (by omega) ?_|refine Ar.u64 (by omega) ?_|refine Ar.i64d (by omega) (by omega) ?_|refine Shr.i (by rfl) (by decide) ?_|refine Shl.i (by rfl) (by decide) ?_|refine Req.mk (by omega) ?_);conv=>whnf)
  | (intro blk hblk;conv=>whnf)
  | (refine OpX.of_quiet (OpQ.eqs rfl rfl ?_);conv=>whnf)
  | (refine OpX.of_quiet (OpQ.nes rfl rfl ?_);conv=>whnf)
  | ((first|refine OpQ.eqs rfl rfl ?_|refine OpQ.nes rfl rfl ?_);conv=>whnf))
 refine Ret.eq rfl ?_
 first|exact .refl _|exact .drop|exact .fin|((repeat refine .pick ?_);first|exact .refl _|exact .emp _|exact .fin)
theorem rfieldsL {W:World} {R:HProp} {a b:Option Addr} {n n' cap cap':Nat} {lsn nx:Int} {lv:List LiveV} {dv:List DirtyV} [c:RowC W R a 4 livev lv] [d:RowC W R b 2 dirtyv dv] (hn:n = lv.length) (hn':n' = dv.length) (h:cpF nx 0 lv dv = true) (h0:1 ≤ lsn ∧ lsn ≤ 2147483647) (h1:∀ x ∈ lv,x.last < lsn) (h2:∀ x ∈ dv,x.2 < lsn) :
  Does prog W f_z3w ⟨[.agg ⟨[.int .i64 lsn,.int .i64 8,i0,i0,i0,i0,i0,i0,i0,i0,i0,i0,i0,i0,.slice a n cap,.slice b n' cap',.int .i64 nx]⟩]⟩ R (Ret fun v G=>v = .bool true ∧ G = R):=by
 refine f_z3w.does _ ?_
 conv=>whnf
 repeat' (first
  | ((first|refine spl_f (by with_reducible exact ndec_self _) ?_|refine spl_f (by with_reducible exact nbeq_self _) ?_|refine spl_t (by with_reducible exact beq_self _) ?_);conv=>whnf)
  | (refine spl_dec (fun hd=>?_) (fun hd=>?_) <;> first|(exfalso;omega)|(conv=>whnf))
  | (refine spl_ndec (fun hd=>?_) (fun hd=>?_) <;> first|(exfalso;omega)|(conv=>whnf))
  | (refine spl_intro (fun hd=>?_) (fun hd=>?_) <;> (conv=>whnf))
  | ((first|refine Ld.i ?_|refine LdN.i ?_|refine St.i ⟨rfl,rfl⟩ (List.cons_ne_nil _ _) ?_|refine Ar.i64 (by omega) ?_|refine Ar.u64 (by omega) ?_|refine Ar.i64d (by omega) (by omega) ?_|refine Shr.i (by rfl) (by decide) ?_|refine Shl.i (by rfl) (by decide) ?_|refine Req.mk (by omega) ?_);conv=>whnf)
  | (intro blk hblk;conv=>whnf)
  | (refine CallK.ret f_z2d.ok (within_spec) ?_;rintro v G ⟨rfl,rfl⟩;conv=>whnf)
  | (refine OpX.of_quiet (OpQ.eqs rfl rfl ?_);conv=>whnf)
  | (refine OpX.of_quiet (OpQ.nes rfl rfl ?_);conv=>whnf)
  | ((first|refine OpQ.eqs rfl rfl ?_|refine OpQ.nes rfl rfl ?_);conv=>whnf)
  | (refine CallK.ret f_z3z.ok (apart_spec) ?_;rintro v G ⟨rfl,rfl⟩;conv=>whnf)
  | (refine CallK.ret f_z2y.ok ((rpointsL_spec (lv:=lv) (dv:=dv) hn hn' h (by omega) h1 h2)) ?_;rintro v G ⟨rfl,rfl⟩;conv=>whnf))
 all_goals
  refine Ret.eq rfl ?_
  first|exact .refl _|exact .drop|exact .fin|((repeat refine .pick ?_);first|exact .refl _|exact .emp _|exact .fin)
theorem r5cp_spec {W:World} {R:HProp} {a b:Option Addr} {n n' cap cap':Nat} {lsn nx:Int} {lv:List LiveV} {dv:List DirtyV} [c:RowC W R a 4 livev lv] [d:RowC W R b 2 dirtyv dv] (hn:n = lv.length) (hn':n' = dv.length) (h:cpF nx 0 lv dv = true) (h0:1 ≤ lsn ∧ lsn ≤ 2147483647) (h1:∀ x ∈ lv,x.last < lsn) (h2:∀ x ∈ dv,x.2 < lsn) :
  Does prog W f_z33 ⟨[.agg ⟨[.int .i64 lsn,.int .i64 8,i0,i0,i0,i0,i0,i0,i0,i0,i0,i0,i0,i0,.slice a n cap,.slice b n' cap',.int .i64 nx]⟩]⟩ R (Ret fun v G=>v = i0 ∧ G = R):=by
 refine f_z33.does _ ?_
 conv=>whnf
 repeat' (first
  | ((first|refine spl_f (by with_reducible exact ndec_self _) ?_|refine spl_f (by with_reducible exact nbeq_self _) ?_|refine spl_t (by with_reducible exact beq_self _) ?_);conv=>whnf)
  | (refine spl_dec (fun hd=>?_) (fun hd=>?_) <;> first|(exfalso;omega)|(conv=>whnf))
  | (refine spl_ndec (fun hd=>?_) (fun hd=>?_) <;> first|(exfalso;omega)|(conv=>whnf))
  | (refine spl_intro (fun hd=>?_) (fun hd=>?_) <;> (conv=>whnf))
  | ((first|refine Ld.i ?_|refine LdN.i ?_|refine St.i ⟨rfl,rfl⟩ (List.cons_ne_nil _ _) ?_|refine Ar.i64 (by omega) ?_|refine Ar.u64 (by omega) ?_|refine Ar.i64d (by omega) (by omega) ?_|refine Shr.i (by rfl) (by decide) ?_|refine Shl.i (by rfl) (by decide) ?_|refine Req.mk (by omega) ?_);conv=>whnf)
  | (intro blk hblk;conv=>whnf)
  | (refine CallK.ret f_z3w.ok ((rfieldsL (lv:=lv) (dv:=dv) hn hn' h h0 h1 h2)) ?_;rintro v G ⟨rfl,rfl⟩;conv=>whnf))
 refine Ret.eq rfl ?_
 first|exact .refl _|exact .drop|exact .fin|((repeat refine .pick ?_);first|exact .refl _|exact .emp _|exact .fin)
theorem num16_spec {W:World} {R:HProp} {n:Int}:Does prog W f_z3 ⟨[.int .i64 n]⟩ R (Ret fun v G=>v = .int .i64 n ∧ G = R):=by
 refine f_z3.does _ ?_
 conv=>whnf
 repeat' (first
  | ((first|refine spl_f (by with_reducible exact ndec_self _) ?_|refine spl_f (by with_reducible exact nbeq_self _) ?_|refine spl_t (by with_reducible exact beq_self _) ?_);conv=>whnf)
  | (refine spl_dec (fun hd=>?_) (fun hd=>?_) <;> first|(exfalso;omega)|(conv=>whnf))
  | (refine spl_ndec (fun hd=>?_) (fun hd=>?_) <;> first|(exfalso;omega)|(conv=>whnf))
  | (refine spl_intro (fun hd=>?_) (fun hd=>?_) <;> (conv=>whnf))
  | ((first|refine Ld.i ?_|refine LdN.i ?_|refine St.i ⟨rfl,rfl⟩ (List.cons_ne_nil _ _) ?_|refine Ar.i64 (by omega) ?_|refine Ar.u64 (by omega) ?_|refine Ar.i64d (by omega) (by omega) ?_|refine Shr.i (by rfl) (by decide) ?_|refine Shl.i (by rfl) (by decide) ?_|refine Req.mk (by omega) ?_);conv=>whnf)
  | (intro blk hblk;conv=>whnf))
 exact Ret.eq rfl (Imp.refl _)
theorem take_nil {W:World} {R:HProp}:Does prog W f_zn ⟨[.pointer none,.pointer none]⟩ R (Ret fun v G=>v = .tuple ⟨[.agg ⟨[.slice none 0 0,.slice none 0 0,i0]⟩,.int .i64 3]⟩ ∧ G = R):=by
 refine f_zn.does _ _ ?_
 conv=>whnf
 repeat' (first
  | ((first|refine spl_f (by with_reducible exact ndec_self _) ?_|refine spl_f (by with_reducible exact nbeq_self _) ?_|refine spl_t (by with_reducible exact beq_self _) ?_);conv=>whnf)
  | (refine spl_dec (fun hd=>?_) (fun hd=>?_) <;> first|(exfalso;omega)|(conv=>whnf))
  | (refine spl_ndec (fun hd=>?_) (fun hd=>?_) <;> first|(exfalso;omega)|(conv=>whnf))
  | (refine spl_intro (fun hd=>?_) (fun hd=>?_) <;> (conv=>whnf))
  | ((first|refine Ld.i ?_|refine LdN.i ?_|refine St.i ⟨rfl,rfl⟩ (List.cons_ne_nil _ _) ?_|refine Ar.i64 (by omega) ?_|refine Ar.u64 (by omega) ?_|refine Ar.i64d (by omega) (by omega) ?_|refine Shr.i (by rfl) (by decide) ?_|refine Shl.i (by rfl) (by decide) ?_|refine Req.mk (by omega) ?_);conv=>whnf)
  | (intro blk hblk;conv=>whnf))
 refine Ret.eq rfl ?_
 first|exact .refl _|exact .drop|exact .fin|((repeat refine .pick ?_);first|exact .refl _|exact .emp _|exact .fin)
theorem merge_as {W:World} {R:HProp} {a b:Option Addr} {n n' cap cap':Nat} {xs ys L:List DirtyV} {e:Int} [c:RowC W R a 2 dirtyv xs] [d:RowC W R b 2 dirtyv ys] (h:mergeF xs ys = (e,L)) (hn:n = xs.length) (hn':n' = ys.length) (hb:xs.length + ys.length ≤ 1000000) :
  Does prog W f_z29 ⟨[.slice a n cap,.slice b n' cap']⟩ R (Ret fun v G=>∃ a cap,v = .tuple ⟨[.slice a L.length cap,.int .i64 e]⟩ ∧ G = (vec t_z1l 2 dirtyv a cap L•R)):=by
 have:=merge_spec (W:=W) (R:=R) (a:=a) (b:=b) (cap:=cap) (cap':=cap') hn hn' hb
 rwa [h] at this
theorem m1:mergeF [(3,9),(1,4)] [(3,2)] = (0,[(1,4),(3,2)]):=by rw [mergeF_eq];rfl
theorem m2:mergeF [(3,0)] [(64,1)] = (23,[]):=by rw [mergeF_eq];rfl
theorem pcheck_as {W:World} {R:HProp} {a b:Option Addr} {n n' cap cap':Nat} {nx z:Int} {lv:List LiveV} {dv:List DirtyV} (c:RowC W R a 4 livev lv) (d:RowC W R b 2 dirtyv dv) (h:(if cpF nx 0 lv dv = true then (0:Int) else 23) = z) (hn:n = lv.length) (hn':n' = dv.length) :
  Does prog W f_z1d ⟨[.agg ⟨[.slice a n cap,.slice b n' cap',.int .i64 nx]⟩]⟩ R (Ret fun v G=>v = .int .i64 z ∧ G = R):=by
 subst h
 exact pcheckT_spec hn hn'
theorem awake16_spec {W:World} {R:HProp}:Does prog W f_z2p ⟨[]⟩ R (Ret fun v G=>v = .bool true ∧ G = R):=by
 refine f_z2p.does ?_
 conv=>whnf
 repeat' (first
  | ((first|refine spl_f (by with_reducible exact ndec_self _) ?_|refine spl_f (by with_reducible exact nbeq_self _) ?_|refine spl_t (by with_reducible exact beq_self _) ?_);conv=>whnf)
  | (refine spl_dec (fun hd=>?_) (fun hd=>?_) <;> first|(exfalso;omega)|(conv=>whnf))
  | (refine spl_ndec (fun hd=>?_) (fun hd=>?_) <;> first|(exfalso;omega)|(conv=>whnf))
  | (refine spl_intro (fun hd=>?_) (fun hd=>?_) <;> (conv=>whnf))
  | ((first|refine Ld.i ?_|refine LdN.i ?_|refine St.i ⟨rfl,rfl⟩ (List.cons_ne_nil _ _) ?_|refine Ar.i64 (by omega) ?_|refine Ar.u64 (by omega) ?_|refine Ar.i64d (by omega) (by omega) ?_|refine Shr.i (by rfl) (by decide) ?_|refine Shl.i (by rfl) (by decide) ?_|refine Req.mk (by omega) ?_);conv=>whnf)
  | (intro blk hblk;conv=>whnf)
  | (refine CallK.ret f_z29.ok ((merge_as m1 rfl rfl (by simp))) ?_;rintro v G ⟨la,lc,rfl,rfl⟩;conv=>whnf)
  | (refine CallK.ret f_z29.ok ((merge_as m2 rfl rfl (by simp))) ?_;rintro v G ⟨la,lc,rfl,rfl⟩;conv=>whnf)
  | (refine CallK.ret f_zn.ok (take_nil) ?_;rintro v G ⟨rfl,rfl⟩;conv=>whnf)
  | (refine CallK.ret f_z3.ok (num16_spec) ?_;rintro v G ⟨rfl,rfl⟩;conv=>whnf)
  | (refine OpX.of_quiet (OpQ.eqs rfl rfl ?_);conv=>whnf)
  | (refine OpX.of_quiet (OpQ.nes rfl rfl ?_);conv=>whnf)
  | ((first|refine OpQ.eqs rfl rfl ?_|refine OpQ.nes rfl rfl ?_);conv=>whnf)
  | (refine IxS.r (i:=1) rfl rfl (by simp) (fun ab off ha=>?_);cases ha;conv=>whnf)
  | (refine LdN.r (i:=1) rfl rfl ?_;conv=>whnf)
  | (refine CallK.ret f_z1d.ok ((pcheck_as (nx:=1) (z:=0) (lv:=[]) (dv:=[]) RowC.nil RowC.nil rfl rfl rfl)) ?_;rintro v G ⟨rfl,rfl⟩;conv=>whnf)
  | (refine CallK.ret f_z1d.ok ((pcheck_as (nx:=0) (z:=23) (lv:=[]) (dv:=[]) RowC.nil RowC.nil rfl rfl rfl)) ?_;rintro v G ⟨rfl,rfl⟩;conv=>whnf)
  | (refine CallK.ret f_z26.ok ((from_spec rfl (by simp))) ?_;rintro v G ⟨rfl,rfl⟩;conv=>whnf))
 refine Ret.eq rfl ?_
 first|exact .refl _|exact .drop|exact .fin|((repeat refine .pick ?_);first|exact .refl _|exact .emp _|exact .fin)
theorem same16_spec {W:World} {R:HProp} {a b:Option Addr} {n m cap cap':Nat} {xs ys:List DirtyV} [c:RowC W R a 2 dirtyv xs] [d:RowC W R b 2 dirtyv ys] (hn:n = xs.length) (hm:m = ys.length) (hb:xs.length ≤ 9223372036854775807) :
  Does prog W f_z1c ⟨[.slice a n cap,.slice b m cap']⟩ R (Ret fun v G=>v = .bool (decide (xs = ys)) ∧ G = R):=by
 subst hn hm
 refine f_z1c.does _ _ ?_
 conv=>whnf
 repeat' (first
  | ((first|refine spl_f (by with_reducible exact ndec_self _) ?_|refine spl_f (by with_reducible exact nbeq_self _) ?_|refine spl_t (by with_reducible exact beq_self _) ?_);conv=>whnf)
  | (refine spl_dec (fun hd=>?_) (fun hd=>?_) <;> first|(exfalso;omega)|(conv=>whnf))
  | (refine spl_ndec (fun hd=>?_) (fun hd=>?_) <;> first|(exfalso;omega)|(conv=>whnf))
  | (refine spl_intro (fun hd=>?_) (fun hd=>?_) <;> (conv=>whnf))
  | ((first|refine Ld.i ?_|refine LdN.i ?_|refine St.i ⟨rfl,rfl⟩ (List.cons_ne_nil _ _) ?_|refine Ar.i64 (by omega) ?_|refine Ar.u64 (by omega) ?_|refine Ar.i64d (by omega) (by omega) ?_|refine Shr.i (by rfl) (by decide) ?_|refine Shl.i (by rfl) (by decide) ?_|refine Req.mk (by omega) ?_);conv=>whnf)
  | (intro blk hblk;conv=>whnf))
 ·refine Ret.eq (congrArg Value.bool (decide_eq_false fun e=>?_).symm) (Imp.refl _)
  subst e;omega
 have hl:xs.length = ys.length:=by omega
 refine LoopK.keep tab_ok (L:=f_z1c.live) (ι:=Nat) (fun i=>i ≤ xs.length ∧ (xs = ys ↔ xs.drop i = ys.drop i)) (fun i=>[(5,.int .i64 i)]) (fun i=>xs.length - i) 0 (by simp) (fun t v h=>h) ?_
 rintro i ⟨hi,he⟩
 conv=>whnf
 by_cases h1:i < xs.length
 ·obtain ⟨x,hx⟩:∃ x,xs[i]? = some x:=⟨_,List.getElem?_eq_getElem h1⟩
  obtain ⟨y,hy⟩:∃ y,ys[i]? = some y:=⟨_,List.getElem?_eq_getElem (hl ▸ h1)⟩
  rw [drop_of hx,drop_of hy] at he
  repeat' (first
   | ((first|refine spl_f (by with_reducible exact ndec_self _) ?_|refine spl_f (by with_reducible exact nbeq_self _) ?_|refine spl_t (by with_reducible exact beq_self _) ?_);conv=>whnf)
   | (refine spl_dec (fun hd=>?_) (fun hd=>?_) <;> first|(exfalso;omega)|(conv=>whnf))
   | (refine spl_ndec (fun hd=>?_) (fun hd=>?_) <;> first|(exfalso;omega)|(conv=>whnf))
   | (refine spl_intro (fun hd=>?_) (fun hd=>?_) <;> (conv=>whnf))
   | ((first|refine Ld.i ?_|refine LdN.i ?_|refine St.i ⟨rfl,rfl⟩ (List.cons_ne_nil _ _) ?_|refine Ar.i64 (by omega) ?_|refine Ar.u64 (by omega) ?_|refine Ar.i64d (by omega) (by omega) ?_|refine Shr.i (by rfl) (by decide) ?_|refine Shl.i (by rfl) (by decide) ?_|refine Req.mk (by omega) ?_);conv=>whnf)
   | (intro blk hblk;conv=>whnf)
   | (refine IxS.r (i:=i) rfl rfl h1 (fun ab off ha=>?_);cases ha;conv=>whnf)
   | (refine IxS.r (i:=i) rfl rfl (hl▸h1) (fun ab off ha=>?_);cases ha;conv=>whnf)
   | ((first|refine LdN.r hx rfl ?_|refine Ld.r hx rfl ?_|refine Ld.r0 hx rfl ?_|refine LdN.rp hx ?_|refine LdN.r hy rfl ?_|refine Ld.r hy rfl ?_|refine Ld.r0 hy rfl ?_|refine LdN.rp hy ?_);conv=>whnf)
   | (refine DrawK.intro tab_ok mixed f_z1c.last6 f_z1c.plan6 _ (by kernel_rfl) (Sub.of (by first|exact .refl _|exact .drop|exact .fin|((repeat refine .pick ?_);first|exact .refl _|exact .emp _|exact .fin))) ?_;conv=>whnf)
   | (refine OpX.of_quiet (OpQ.eqs rfl rfl ?_);conv=>whnf)
   | (refine OpX.of_quiet (OpQ.nes rfl rfl ?_);conv=>whnf)
   | ((first|refine OpQ.eqs rfl rfl ?_|refine OpQ.nes rfl rfl ?_);conv=>whnf))
  ·have hne:x ≠ y:=fun e=>by subst e;simp at hd
   refine Ret.eq (congrArg Value.bool (decide_eq_false fun e=>hne (List.cons.inj (he.1 e)).1).symm) ?_
   first|exact .refl _|exact .drop|exact .fin|((repeat refine .pick ?_);first|exact .refl _|exact .emp _|exact .fin)
  ·have hxy:x = y:=by
    simp only [Bool.not_eq_false',Bool.and_eq_true,decide_eq_true_eq] at hd
    cases x;cases y;simp_all
   subst hxy
   refine ⟨rfl,i + 1,⟨h1,he.trans ⟨fun e=>(List.cons.inj e).2,fun e=>by rw [e]⟩⟩,fun t v h=>h,?_,by omega⟩
   first|exact .refl _|exact .drop|exact .fin|((repeat refine .pick ?_);first|exact .refl _|exact .emp _|exact .fin)
 ·rw [drop_all h1,drop_all (hl ▸ h1)] at he
  repeat' (first
   | ((first|refine spl_f (by with_reducible exact ndec_self _) ?_|refine spl_f (by with_reducible exact nbeq_self _) ?_|refine spl_t (by with_reducible exact beq_self _) ?_);conv=>whnf)
   | (refine spl_dec (fun hd=>?_) (fun hd=>?_) <;> first|(exfalso;omega)|(conv=>whnf))
   | (refine spl_ndec (fun hd=>?_) (fun hd=>?_) <;> first|(exfalso;omega)|(conv=>whnf))
   | (refine spl_intro (fun hd=>?_) (fun hd=>?_) <;> (conv=>whnf))
   | ((first|refine Ld.i ?_|refine LdN.i ?_|refine St.i ⟨rfl,rfl⟩ (List.cons_ne_nil _ _) ?_|refine Ar.i64 (by omega) ?_|refine Ar.u64 (by omega) ?_|refine Ar.i64d (by omega) (by omega) ?_|refine Shr.i (by rfl) (by decide) ?_|refine Shl.i (by rfl) (by decide) ?_|refine Req.mk (by omega) ?_);conv=>whnf)
   | (intro blk hblk;conv=>whnf))
  refine Ret.eq (congrArg Value.bool (decide_eq_true (he.2 rfl)).symm) ?_
  first|exact .refl _|exact .drop|exact .fin|((repeat refine .pick ?_);first|exact .refl _|exact .emp _|exact .fin)
theorem sameLive_spec {W:World} {R:HProp} {a b:Option Addr} {n m cap cap':Nat} {xs ys:List LiveV} [c:RowC W R a 4 livev xs] [d:RowC W R b 4 livev ys] (hn:n = xs.length) (hm:m = ys.length) (hb:xs.length ≤ 9223372036854775807) :
  Does prog W f_z1b ⟨[.slice a n cap,.slice b m cap']⟩ R (Ret fun v G=>v = .bool (decide (xs = ys)) ∧ G = R):=by
 subst hn hm
 refine f_z1b.does _ _ ?_
 conv=>whnf
 repeat' (first
  | ((first|refine spl_f (by with_reducible exact ndec_self _) ?_|refine spl_f (by with_reducible exact nbeq_self _) ?_|refine spl_t (by with_reducible exact beq_self _) ?_);conv=>whnf)
  | (refine spl_dec (fun hd=>?_) (fun hd=>?_) <;> first|(exfalso;omega)|(conv=>whnf))
  | (refine spl_ndec (fun hd=>?_) (fun hd=>?_) <;> first|(exfalso;omega)|(conv=>whnf))
  | (refine spl_intro (fun hd=>?_) (fun hd=>?_) <;> (conv=>whnf))
  | ((first|refine Ld.i ?_|refine LdN.i ?_|refine St.i ⟨rfl,rfl⟩ (List.cons_ne_nil _ _) ?_|refine Ar.i64 (by omega) ?_|refine Ar.u64 (by omega) ?_|refine Ar.i64d (by omega) (by omega) ?_|refine Shr.i (by rfl) (by decide) ?_|refine Shl.i (by rfl) (by decide) ?_|refine Req.mk (by omega) ?_);conv=>whnf)
  | (intro blk hblk;conv=>whnf))
 ·refine Ret.eq (congrArg Value.bool (decide_eq_false fun e=>?_).symm) (Imp.refl _)
  subst e;omega
 have hl:xs.length = ys.length:=by omega
 refine LoopK.keep tab_ok (L:=f_z1b.live) (ι:=Nat) (fun i=>i ≤ xs.length ∧ (xs = ys ↔ xs.drop i = ys.drop i)) (fun i=>[(5,.int .i64 i)]) (fun i=>xs.length - i) 0 (by simp) (fun t v h=>h) ?_
 rintro i ⟨hi,he⟩
 conv=>whnf
 by_cases h1:i < xs.length
 ·obtain ⟨x,hx⟩:∃ x,xs[i]? = some x:=⟨_,List.getElem?_eq_getElem h1⟩
  obtain ⟨y,hy⟩:∃ y,ys[i]? = some y:=⟨_,List.getElem?_eq_getElem (hl ▸ h1)⟩
  rw [drop_of hx,drop_of hy] at he
  repeat' (first
   | ((first|refine spl_f (by with_reducible exact ndec_self _) ?_|refine spl_f (by with_reducible exact nbeq_self _) ?_|refine spl_t (by with_reducible exact beq_self _) ?_);conv=>whnf)
   | (refine spl_dec (fun hd=>?_) (fun hd=>?_) <;> first|(exfalso;omega)|(conv=>whnf))
   | (refine spl_ndec (fun hd=>?_) (fun hd=>?_) <;> first|(exfalso;omega)|(conv=>whnf))
   | (refine spl_intro (fun hd=>?_) (fun hd=>?_) <;> (conv=>whnf))
   | ((first|refine Ld.i ?_|refine LdN.i ?_|refine St.i ⟨rfl,rfl⟩ (List.cons_ne_nil _ _) ?_|refine Ar.i64 (by omega) ?_|refine Ar.u64 (by omega) ?_|refine Ar.i64d (by omega) (by omega) ?_|refine Shr.i (by rfl) (by decide) ?_|refine Shl.i (by rfl) (by decide) ?_|refine Req.mk (by omega) ?_);conv=>whnf)
   | (intro blk hblk;conv=>whnf)
   | (refine IxS.r (i:=i) rfl rfl h1 (fun ab off ha=>?_);cases ha;conv=>whnf)
   | (refine IxS.r (i:=i) rfl rfl (hl▸h1) (fun ab off ha=>?_);cases ha;conv=>whnf)
   | ((first|refine LdN.r hx rfl ?_|refine Ld.r hx rfl ?_|refine Ld.r0 hx rfl ?_|refine LdN.rp hx ?_|refine LdN.r hy rfl ?_|refine Ld.r hy rfl ?_|refine Ld.r0 hy rfl ?_|refine LdN.rp hy ?_);conv=>whnf)
   | (refine DrawK.intro tab_ok mixed f_z1b.last6 f_z1b.plan6 _ (by kernel_rfl) (Sub.of (by first|exact .refl _|exact .drop|exact .fin|((repeat refine .pick ?_);first|exact .refl _|exact .emp _|exact .fin))) ?_;conv=>whnf)
   | (refine OpX.of_quiet (OpQ.eqs rfl rfl ?_);conv=>whnf)
   | (refine OpX.of_quiet (OpQ.nes rfl rfl ?_);conv=>whnf)
   | ((first|refine OpQ.eqs rfl rfl ?_|refine OpQ.nes rfl rfl ?_);conv=>whnf))
  ·have hne:x ≠ y:=fun e=>by subst e;simp at hd
   refine Ret.eq (congrArg Value.bool (decide_eq_false fun e=>hne (List.cons.inj (he.1 e)).1).symm) ?_
   first|exact .refl _|exact .drop|exact .fin|((repeat refine .pick ?_);first|exact .refl _|exact .emp _|exact .fin)
  ·have hxy:x = y:=by
    simp only [Bool.not_eq_false',Bool.and_eq_true,decide_eq_true_eq,beq_iff_eq] at hd
    cases x;cases y;simp_all
   subst hxy
   refine ⟨rfl,i + 1,⟨h1,he.trans ⟨fun e=>(List.cons.inj e).2,fun e=>by rw [e]⟩⟩,fun t v h=>h,?_,by omega⟩
   first|exact .refl _|exact .drop|exact .fin|((repeat refine .pick ?_);first|exact .refl _|exact .emp _|exact .fin)
 ·rw [drop_all h1,drop_all (hl ▸ h1)] at he
  repeat' (first
   | ((first|refine spl_f (by with_reducible exact ndec_self _) ?_|refine spl_f (by with_reducible exact nbeq_self _) ?_|refine spl_t (by with_reducible exact beq_self _) ?_);conv=>whnf)
   | (refine spl_dec (fun hd=>?_) (fun hd=>?_) <;> first|(exfalso;omega)|(conv=>whnf))
   | (refine spl_ndec (fun hd=>?_) (fun hd=>?_) <;> first|(exfalso;omega)|(conv=>whnf))
   | (refine spl_intro (fun hd=>?_) (fun hd=>?_) <;> (conv=>whnf))
   | ((first|refine Ld.i ?_|refine LdN.i ?_|refine St.i ⟨rfl,rfl⟩ (List.cons_ne_nil _ _) ?_|refine Ar.i64 (by omega) ?_|refine Ar.u64 (by omega) ?_|refine Ar.i64d (by omega) (by omega) ?_|refine Shr.i (by rfl) (by decide) ?_|refine Shl.i (by rfl) (by decide) ?_|refine Req.mk (by omega) ?_);conv=>whnf)
   | (intro blk hblk;conv=>whnf))
  refine Ret.eq (congrArg Value.bool (decide_eq_true (he.2 rfl)).symm) ?_
  first|exact .refl _|exact .drop|exact .fin|((repeat refine .pick ?_);first|exact .refl _|exact .emp _|exact .fin)
theorem tmod_fix (x n:Int) (hn:1 ≤ n):(if x.tmod n < 0 then x.tmod n + n else x.tmod n) = x % n:=by
 rcases Int.lt_or_le x 0 with h|h
 ·have h1:=Int.tmod_eq_emod (a:=x) (b:=n)
  have h2:=Int.emod_nonneg x (show n ≠ 0 by omega)
  have h3:=Int.emod_lt_of_pos x (show 0 < n by omega)
  rw [h1]
  split <;> split <;> omega
 ·rw [Int.tmod_eq_emod_of_nonneg h]
  have h2:=Int.emod_nonneg x (show n ≠ 0 by omega)
  rw [if_neg (by omega)]
theorem brought16_spec {W:World} {R:HProp} {x n:Int} (hn:1 ≤ n ∧ n ≤ 9223372036854775807):Does prog W f_zb ⟨[.int .i64 x,.int .i64 n]⟩ R (Ret fun v G=>v = .int .i64 (x % n) ∧ G = R):=by
 have hf:=tmod_fix x n hn.1
 have h2:=Int.emod_nonneg x (show n ≠ 0 by omega)
 have h3:=Int.emod_lt_of_pos x (show 0 < n by omega)
 have h4:x.tmod n ≤ n ∧ - n ≤ x.tmod n:=by split at hf <;> omega
 refine f_zb.does _ _ ?_
 conv=>whnf
 repeat' (first
  | (refine ⟨by omega,?_⟩;conv=>whnf)
  | ((first|refine spl_f (by with_reducible exact ndec_self _) ?_|refine spl_f (by with_reducible exact nbeq_self _) ?_|refine spl_t (by with_reducible exact beq_self _) ?_);conv=>whnf)
  | (refine spl_dec (fun hd=>?_) (fun hd=>?_) <;> first|(exfalso;omega)|(conv=>whnf))
  | (refine spl_ndec (fun hd=>?_) (fun hd=>?_) <;> first|(exfalso;omega)|(conv=>whnf))
  | (refine spl_intro (fun hd=>?_) (fun hd=>?_) <;> (conv=>whnf))
  | ((first|refine Ld.i ?_|refine LdN.i ?_|refine St.i ⟨rfl,rfl⟩ (List.cons_ne_nil _ _) ?_|refine Ar.i64 (by omega) ?_|refine Ar.u64 (by omega) ?_|refine Ar.i64d (by omega) (by omega) ?_|refine Shr.i (by rfl) (by decide) ?_|refine Shl.i (by rfl) (by decide) ?_|refine Req.mk (by omega) ?_);conv=>whnf)
  | (intro blk hblk;conv=>whnf))
 ·rw [if_pos (by assumption)] at hf
  exact Ret.eq (congrArg (Value.int .i64) hf) (Imp.refl _)
 ·rw [if_neg (by assumption)] at hf
  exact Ret.eq (congrArg (Value.int .i64) hf) (Imp.refl _)
end Go.Proofs.YtbcedpankkdfoaaGreatDoor
