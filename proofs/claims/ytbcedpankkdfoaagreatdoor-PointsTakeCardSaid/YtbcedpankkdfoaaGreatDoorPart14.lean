/- The program's record.Encode, walked. Conditions: in each statement. -/
import Derived.Test.YtbcedpankkdfoaaGreatDoorPart13
set_option linter.unusedVariables false
set_option linter.unusedSimpArgs false
namespace Go.SL.Rec
open Go Go.SL Go.SL.Sec Go.SL.Fld Go.SL.Pts
open Go.SL.Und (RecV recv fits)
theorem encN_len10 {n:Nat} (h:n < 18446744073709551616):(encN n).length ≤ 10:=encN_len 9 _ (by
 have:(128:Nat) ^ 10 = 1180591620717411303424:=by decide
 omega)
theorem flat_len {α:Type} {f:α → List Int} {m:Nat}:∀ {l:List α},(∀ x ∈ l,(f x).length ≤ m) → (l.flatMap f).length ≤ m * l.length
 | [],_=>by simp
 | x :: l,h=>by
  have h1:=h x List.mem_cons_self
  have h2:=flat_len (f:=f) (m:=m) (l:=l) fun y hy=>h y (List.mem_cons_of_mem _ hy)
  simp only [List.flatMap_cons,List.length_append,List.length_cons,Nat.mul_add]
  omega
theorem cpLive_mem {next lsn:Int}:∀ {l:List LiveV} {last:Int},cpLive next lsn last l = true → ∀ x ∈ l,last < x.tx ∧ x.tx < next ∧ 1 ≤ x.last ∧ x.last ≤ 2147483647
 | [],_,_,x,hx=>by cases hx
 | y :: l,last,h,x,hx=>by
  unfold cpLive at h
  split at h
  ·cases h
  ·split at h
   ·cases h
   ·rcases List.mem_cons.1 hx with rfl|hx
    ·omega
    ·have:=cpLive_mem h x hx
     omega
theorem cpDirty_mem {lsn:Int}:∀ {l:List DirtyV} {page:Int},cpDirty lsn page l = true → ∀ x ∈ l,page < x.1 ∧ x.1 < 64 ∧ 1 ≤ x.2 ∧ x.2 ≤ 2147483647
 | [],_,_,x,hx=>by cases hx
 | y :: l,page,h,x,hx=>by
  unfold cpDirty at h
  split at h
  ·cases h
  ·rcases List.mem_cons.1 hx with rfl|hx
   ·omega
   ·have:=cpDirty_mem h x hx
    omega
theorem encLive_len {x:LiveV} (h:0 ≤ x.tx ∧ x.tx ≤ 2147483648) (k:0 ≤ x.last ∧ x.last ≤ 2147483647):(encLive x).length ≤ 30:=by
 have h1:=encN_len10 (n:=x.tx.toNat) (by omega)
 have h2:=encN_len10 (n:=x.last.toNat) (by omega)
 have h3:=encN_len10 (n:=stateN x) (by unfold stateN;(repeat' split) <;> omega)
 unfold encLive
 simp only [List.length_append];omega
theorem encDirty_len {x:DirtyV} (h:0 ≤ x.1 ∧ x.1 < 64) (k:0 ≤ x.2 ∧ x.2 ≤ 2147483647):(encDirty x).length ≤ 30:=by
 have h1:=encN_len10 (n:=x.1.toNat) (by omega)
 have h2:=encN_len10 (n:=x.2.toNat) (by omega)
 unfold encDirty
 simp only [List.length_append];omega
theorem cpF_in {nx lsn:Int} {L:List LiveV} {D:List DirtyV} (h:cpF nx lsn L D = true):L.length ≤ 32 ∧ D.length ≤ 16 ∧ (∀ x ∈ L,0 ≤ x.tx ∧ x.tx ≤ 2147483648 ∧ 0 ≤ x.last ∧ x.last ≤ 2147483647) ∧ ∀ x ∈ D,0 ≤ x.1 ∧ x.1 < 64 ∧ 0 ≤ x.2 ∧ x.2 ≤ 2147483647:=by
 unfold cpF at h
 split at h
 ·cases h
 ·rw [Bool.and_eq_true] at h
  refine ⟨by omega,by omega,fun x hx=>?_,fun x hx=>?_⟩
  ·have:=cpLive_mem h.1 x hx;omega
  ·have:=cpDirty_mem h.2 x hx;omega
end Go.SL.Rec
namespace Go.Proofs.YtbcedpankkdfoaaGreatDoor
open Go Go.SL Go.SL.Sec Go.SL.Fld Go.SL.Pts Go.SL.Rec
open Go.SL.Und (RecV recv fits)
set_option maxHeartbeats 4000000 in
theorem encode_yes {W:World} {R:HProp} {r:RecV} {L:List LiveV} {D:List DirtyV} [rl:RowN W R r.lv.1 r.lv.2.1 4 livev L] [rd:RowN W R r.dt.1 r.dt.2.1 2 dirtyv D] (hc:chkF r L D = 0) (hf:∀ o ∈ sgnO r.kind,fits (cellAt r o)) :
  Does prog W f_z2a ⟨[recA r]⟩ R (Ret fun v G=>∃ a c,(encR r L D).length ≤ c ∧ v = .tuple ⟨[.slice a (encR r L D).length c,i0]⟩ ∧ G = (vec t_uint8 1 bytv a c (encR r L D)•R)):=by
 have hk:1 ≤ r.kind ∧ r.kind ≤ 8:=by
  unfold chkF at hc
  split at hc
  ·cases hc
  ·omega
 have hF:FieldsP r L D:=by
  unfold chkF at hc
  rw [if_neg (by omega)] at hc
  split at hc
  ·assumption
  ·cases hc
 have hnn:=hF.nn hk
 unfold recA
 refine f_z2a.does _ ?_
 conv=>whnf
 repeat' (first
  | (refine spl_ndec (fun hd=>?_) (fun hd=>?_) <;> first|(exfalso;omega)|(conv=>whnf))
  | ((first|refine Ld.i ?_|refine LdN.i ?_|refine Ar.u64 (by omega) ?_);conv=>whnf)
  | (intro blk hblk;conv=>whnf)
  | (refine CallK.ret f_z2.ok (check_spec) ?_;rintro v G ⟨rfl,rfl⟩;conv=>whnf)
  | (refine CallK.ret f_z41.ok (newWriter_spec) ?_;rintro v G ⟨e_w,rfl,rfl⟩;conv=>whnf)
  | (refine CallK.ret f_z1k.ok (wu_spec (by first|rfl|assumption|omega|decide|(simp;done)|(simp;omega)|(simp at *;omega)) (by first|rfl|assumption|omega|decide|(simp;done)|(simp;omega)|(simp at *;omega))) ?_;rintro v G ⟨e_a,e_c,rfl,rfl⟩;conv=>whnf)
  | (refine CallK.ret f_z6.ok (fields_spec (by first|rfl|assumption|omega|decide|(simp;done)|(simp;omega)|(simp at *;omega))) ?_;rintro v G ⟨e_a,e_c,e_b,e_d,rfl,rfl⟩;conv=>whnf))
 rename_i wa wc
 obtain ⟨B0,hB0⟩:∃ B0,B0 = encN r.kind.toNat:=⟨_,rfl⟩
 have hB0l:B0.length ≤ 10:=hB0 ▸ encN_len10 (by omega)
 have hil:=intO_len r.kind
 have hsl:=sgnO_len r.kind
 refine LoopK.at tab_ok (L:=f_z2a.live) (ι:=Nat × Option Addr × Nat) (fun i=>i.1 ≤ (intO r.kind).length) (fun i=>[(33,.int .i64 i.1)])
  (fun i=>writo e_w ⟨i.2.1,i.2.2,B0 ++ encInts r ((intO r.kind).take i.1)⟩) (fun i=>(intO r.kind).length - i.1) (0,wa,wc) (by simp) (fun t v h=>h) (by
   dsimp only
   rw [show B0 ++ encInts r ((intO r.kind).take 0) = [] ++ encN r.kind.toNat by simp [encInts,hB0]]
   exact Imp.pick (Imp.refl _)) ?_
 rintro ⟨k,a,c⟩ hk2
 dsimp only at hk2 ⊢
 conv=>whnf
 by_cases h1:k < (intO r.kind).length
 ·obtain ⟨o,ho⟩:∃ o,(intO r.kind)[k]? = some o:=⟨_,List.getElem?_eq_getElem h1⟩
  have hom:=List.mem_of_getElem? ho
  have hov:=hnn o hom
  have hcell:=cell_at (r:=r) (intO_in hom)
  have hlen:(B0 ++ encInts r ((intO r.kind).take k)).length ≤ 16777216:=by
   have h2:(encInts r ((intO r.kind).take k)).length ≤ 10 * ((intO r.kind).take k).length:=flat_len fun x hx=>encN_len10 (by
    have:=hnn x (List.mem_of_mem_take hx)
    omega)
   rw [List.length_take] at h2
   rw [List.length_append];omega
  have hnx:B0 ++ encInts r ((intO r.kind).take (k + 1)) = (B0 ++ encInts r ((intO r.kind).take k)) ++ encN (cellAt r o).toNat:=by
   rw [List.take_add_one,ho]
   simp [encInts]
  repeat' (first
   | (refine spl_dec (fun hd=>?_) (fun hd=>?_) <;> first|(exfalso;omega)|(conv=>whnf))
   | ((first|refine Ar.i64 (by omega) ?_|refine Ar.u64 (by omega) ?_);conv=>whnf)
   | (refine IxS.v (i:=k) (xs:=intO r.kind) rfl rfl h1 (fun ab off' ha=>?_);subst ha;conv=>whnf)
   | ((first|refine Ld.r0 ho rfl ?_|refine Ld.nth hcell ?_);conv=>whnf)
   | (refine CallK.ret f_z1k.ok (wu_spec (by first|rfl|assumption|omega|decide|(simp;done)|(simp;omega)|(simp at *;omega)) (by first|rfl|assumption|omega|decide|(simp;done)|(simp;omega)|(simp at *;omega))) ?_;rintro v G ⟨e_a,e_c,rfl,rfl⟩;conv=>whnf))
  refine ⟨rfl,(k + 1,e_a,e_c),h1,fun t v h=>h,?_,by dsimp only;omega⟩
  dsimp only
  rw [hnx]
  first|exact .refl _|exact .drop|exact .fin|((repeat refine .pick ?_);first|exact .refl _|exact .emp _|exact .fin)
 ·have:k = (intO r.kind).length:=by omega
  subst this
  rw [List.take_length]
  obtain ⟨B1,hB1⟩:∃ B1,B1 = B0 ++ encInts r (intO r.kind):=⟨_,rfl⟩
  have hB1l:B1.length ≤ 80:=by
   have h2:(encInts r (intO r.kind)).length ≤ 10 * (intO r.kind).length:=flat_len fun x hx=>encN_len10 (by
    have:=hnn x hx
    omega)
   rw [hB1,List.length_append];omega
  rw [← hB1]
  repeat' (first
   | (refine spl_dec (fun hd=>?_) (fun hd=>?_) <;> first|(exfalso;omega)|(conv=>whnf)))
  refine LoopK.at tab_ok (L:=f_z2a.live) (ι:=Nat × Option Addr × Nat) (fun i=>i.1 ≤ (sgnO r.kind).length) (fun i=>[(46,.int .i64 i.1)])
   (fun i=>writo e_w ⟨i.2.1,i.2.2,B1 ++ encSgns r ((sgnO r.kind).take i.1)⟩) (fun i=>(sgnO r.kind).length - i.1) (0,a,c) (by simp) (fun t v h=>h) (by
    dsimp only
    rw [show B1 ++ encSgns r ((sgnO r.kind).take 0) = B1 by simp [encSgns]]
    exact Imp.pick (Imp.refl _)) ?_
  rintro ⟨k,a,c⟩ hk2
  dsimp only at hk2 ⊢
  conv=>whnf
  by_cases h1:k < (sgnO r.kind).length
  ·obtain ⟨o,ho⟩:∃ o,(sgnO r.kind)[k]? = some o:=⟨_,List.getElem?_eq_getElem h1⟩
   have hom:=List.mem_of_getElem? ho
   have hov:=hf o hom
   have hcell:=cell_at (r:=r) (sgnO_in hom)
   have hlen:(B1 ++ encSgns r ((sgnO r.kind).take k)).length ≤ 16777216:=by
    have h2:(encSgns r ((sgnO r.kind).take k)).length ≤ 10 * ((sgnO r.kind).take k).length:=flat_len fun x hx=>encN_len10 (by
     have:=hf x (List.mem_of_mem_take hx)
     unfold fits at this
     unfold zig
     split <;> omega)
    rw [List.length_take] at h2
    rw [List.length_append];omega
   have hnx:B1 ++ encSgns r ((sgnO r.kind).take (k + 1)) = (B1 ++ encSgns r ((sgnO r.kind).take k)) ++ encN (zig (cellAt r o)).toNat:=by
    rw [List.take_add_one,ho]
    simp [encSgns]
   repeat' (first
    | (refine spl_dec (fun hd=>?_) (fun hd=>?_) <;> first|(exfalso;omega)|(conv=>whnf))
    | (refine Ar.i64 (by omega) ?_;conv=>whnf)
    | (refine IxS.v (i:=k) (xs:=sgnO r.kind) rfl rfl h1 (fun ab off' ha=>?_);subst ha;conv=>whnf)
    | ((first|refine Ld.r0 ho rfl ?_|refine Ld.nth hcell ?_);conv=>whnf)
    | (refine CallK.ret f_z42.ok (ws_spec (by first|rfl|assumption|omega|decide|(simp;done)|(simp;omega)|(simp at *;omega)) (by first|rfl|assumption|omega|decide|(simp;done)|(simp;omega)|(simp at *;omega))) ?_;rintro v G ⟨e_a,e_c,rfl,rfl⟩;conv=>whnf))
   refine ⟨rfl,(k + 1,e_a,e_c),h1,fun t v h=>h,?_,by dsimp only;omega⟩
   dsimp only
   rw [hnx]
   first|exact .refl _|exact .drop|exact .fin|((repeat refine .pick ?_);first|exact .refl _|exact .emp _|exact .fin)
  ·have:k = (sgnO r.kind).length:=by omega
   subst this
   rw [List.take_length]
   obtain ⟨B2,hB2⟩:∃ B2,B2 = B1 ++ encSgns r (sgnO r.kind):=⟨_,rfl⟩
   have hB2l:B2.length ≤ 110:=by
    have h2:(encSgns r (sgnO r.kind)).length ≤ 10 * (sgnO r.kind).length:=flat_len fun x hx=>encN_len10 (by
     have:=hf x hx
     unfold fits at this
     unfold zig
     split <;> omega)
    rw [hB2,List.length_append];omega
   rw [← hB2]
   by_cases h8:r.kind = 8
   ·obtain ⟨hL,hD,hLm,hDm⟩:=cpF_in ((FieldsP.cp h8).1 hF).2.1
    have hn:=rl.len
    have hn':=rd.len
    haveI rlr:=rl.row
    haveI rdr:=rd.row
    have hE:encR r L D = B2 ++ encN L.length ++ L.flatMap encLive ++ encN D.length ++ D.flatMap encDirty:=by
     unfold encR
     rw [if_pos h8,hB2,hB1,hB0]
     simp only [List.append_assoc]
    rw [hE]
    repeat' (first
     | (refine spl_dec (fun hd=>?_) (fun hd=>?_) <;> first|(exfalso;omega)|(conv=>whnf))
     | ((first|refine Ld.i ?_|refine Ar.u64 (by omega) ?_);conv=>whnf)
     | (refine CallK.ret f_z1k.ok (wu_spec (by first|rfl|assumption|omega|decide|(simp;done)|(simp;omega)|(simp at *;omega)) (by first|rfl|assumption|omega|decide|(simp;done)|(simp;omega)|(simp at *;omega))) ?_;rintro v G ⟨e_a,e_c,rfl,rfl⟩;conv=>whnf))
    obtain ⟨B3,hB3⟩:∃ B,B = B2 ++ encN L.length:=⟨_,rfl⟩
    have hB3l:B3.length ≤ 120:=by
     have:=encN_len10 (n:=L.length) (by omega)
     rw [hB3,List.length_append];omega
    refine LoopK.at tab_ok (L:=f_z2a.live) (ι:=Nat × Option Addr × Nat) (fun i=>i.1 ≤ L.length) (fun i=>[(70,.int .i64 i.1)])
     (fun i=>writo e_w ⟨i.2.1,i.2.2,B3 ++ (L.take i.1).flatMap encLive⟩) (fun i=>L.length - i.1) (0,e_a,e_c) (by simp) (fun t v h=>h) (by
      dsimp only
      rw [List.take_zero,List.flatMap_nil,List.append_nil,hB3,hn,Int.toNat_natCast]
      exact Imp.pick (Imp.refl _)) ?_
    rintro ⟨k,a,c⟩ hk2
    dsimp only at hk2 ⊢
    conv=>whnf
    by_cases h1:k < L.length
    ·obtain ⟨x,hx⟩:∃ x,L[k]? = some x:=⟨_,List.getElem?_eq_getElem h1⟩
     have hxm:=hLm x (List.mem_of_getElem? hx)
     have hlen:(B3 ++ (L.take k).flatMap encLive).length ≤ 10000:=by
      have h2:((L.take k).flatMap encLive).length ≤ 30 * (L.take k).length:=flat_len fun y hy=>by
       have:=hLm y (List.mem_of_mem_take hy)
       exact encLive_len (by omega) (by omega)
      rw [List.length_take] at h2
      rw [List.length_append];omega
     have hnx:B3 ++ (L.take (k + 1)).flatMap encLive = (B3 ++ (L.take k).flatMap encLive) ++ encLive x:=by
      rw [List.take_add_one,hx]
      simp
     obtain ⟨B,hB⟩:∃ B,B = B3 ++ (L.take k).flatMap encLive:=⟨_,rfl⟩
     rw [← hB] at hlen hnx ⊢
     have hq1:=encN_len10 (n:=x.tx.toNat) (by omega)
     have hq2:=encN_len10 (n:=x.last.toNat) (by omega)
     have hl0:B.length ≤ 16777216:=by omega
     have hl1:(B ++ encN x.tx.toNat).length ≤ 16777216:=by rw [List.length_append];omega
     have hl2:((B ++ encN x.tx.toNat) ++ encN x.last.toNat).length ≤ 16777216:=by rw [List.length_append,List.length_append];omega
     have hst:0 ≤ ((stateN ⟨x.tx,x.last,x.com,x.und⟩:Nat):Int) ∧ ((stateN ⟨x.tx,x.last,x.com,x.und⟩:Nat):Int) ≤ 18446744073709551615:=by
      unfold stateN;(repeat' split) <;> omega
     repeat' (first
      | (refine spl_dec (fun hd=>?_) (fun hd=>?_) <;> first|(exfalso;omega)|(conv=>whnf))
      | ((first|refine Ld.i ?_|refine LdN.i ?_|refine St.i ⟨rfl,rfl⟩ (List.cons_ne_nil _ _) ?_|refine Ar.i64 (by omega) ?_|refine Ar.u64 (by omega) ?_);conv=>whnf)
      | (intro blk hblk;conv=>whnf)
      | (refine IxS.r (i:=k) (xs:=L) rfl hn h1 (fun ab off' ha=>?_);have rq:RowC W R (some ⟨ab,off',none⟩) 4 livev L:=ha ▸ rl.row;rw [ha];conv=>whnf)
      | (refine LdN.r hx rfl ?_;conv=>whnf)
      | (refine CallK.ret f_z1k.ok (wu_spec (by first|rfl|assumption|omega|decide|(simp;done)|(simp;omega)|(simp at *;omega)) (by first|rfl|assumption|omega|decide|(simp;done)|(simp;omega)|(simp at *;omega))) ?_;rintro v G ⟨e_a,e_c,rfl,rfl⟩;conv=>whnf)
      | (refine CallK.ret f_z43.ok (state_spec) ?_;rintro v G ⟨rfl,rfl⟩;conv=>whnf))
     refine ⟨rfl,(k + 1,e_a,e_c),h1,fun t v h=>h,?_,by dsimp only;omega⟩
     dsimp only
     rw [hnx]
     unfold encLive
     rw [← List.append_assoc,← List.append_assoc]
     simp only [Int.toNat_natCast]
     first|exact .refl _|exact .drop|exact .fin|((repeat refine .pick ?_);first|exact .refl _|exact .emp _|exact .fin)
    ·have:k = L.length:=by omega
     subst this
     rw [List.take_length]
     obtain ⟨B4,hB4⟩:∃ B4,B4 = B3 ++ L.flatMap encLive:=⟨_,rfl⟩
     have hB4l:B4.length ≤ 1100:=by
      have h2:(L.flatMap encLive).length ≤ 30 * L.length:=flat_len fun y hy=>by
       have:=hLm y hy
       exact encLive_len (by omega) (by omega)
      rw [hB4,List.length_append];omega
     rw [← hB4]
     repeat' (first
      | (refine spl_dec (fun hd=>?_) (fun hd=>?_) <;> first|(exfalso;omega)|(conv=>whnf))
      | ((first|refine Ld.i ?_|refine Ar.u64 (by omega) ?_);conv=>whnf)
      | (refine CallK.ret f_z1k.ok (wu_spec (by first|rfl|assumption|omega|decide|(simp;done)|(simp;omega)|(simp at *;omega)) (by first|rfl|assumption|omega|decide|(simp;done)|(simp;omega)|(simp at *;omega))) ?_;rintro v G ⟨e_a,e_c,rfl,rfl⟩;conv=>whnf))
     obtain ⟨B5,hB5⟩:∃ B,B = B4 ++ encN D.length:=⟨_,rfl⟩
     have hB5l:B5.length ≤ 1200:=by
      have:=encN_len10 (n:=D.length) (by omega)
      rw [hB5,List.length_append];omega
     refine LoopK.at tab_ok (L:=f_z2a.live) (ι:=Nat × Option Addr × Nat) (fun i=>i.1 ≤ D.length) (fun i=>[(100,.int .i64 i.1)])
      (fun i=>writo e_w ⟨i.2.1,i.2.2,B5 ++ (D.take i.1).flatMap encDirty⟩) (fun i=>D.length - i.1) (0,e_a,e_c) (by simp) (fun t v h=>h) (by
       dsimp only
       rw [List.take_zero,List.flatMap_nil,List.append_nil,hB5,hn',Int.toNat_natCast]
       exact Imp.pick (Imp.refl _)) ?_
     rintro ⟨k,a,c⟩ hk2
     dsimp only at hk2 ⊢
     conv=>whnf
     by_cases h1:k < D.length
     ·obtain ⟨x,hx⟩:∃ x,D[k]? = some x:=⟨_,List.getElem?_eq_getElem h1⟩
      have hxm:=hDm x (List.mem_of_getElem? hx)
      have hlen:(B5 ++ (D.take k).flatMap encDirty).length ≤ 10000:=by
       have h2:((D.take k).flatMap encDirty).length ≤ 30 * (D.take k).length:=flat_len fun y hy=>by
        have:=hDm y (List.mem_of_mem_take hy)
        exact encDirty_len (by omega) (by omega)
       rw [List.length_take] at h2
       rw [List.length_append];omega
      have hnx:B5 ++ (D.take (k + 1)).flatMap encDirty = (B5 ++ (D.take k).flatMap encDirty) ++ encDirty x:=by
       rw [List.take_add_one,hx]
       simp
      obtain ⟨B,hB⟩:∃ B,B = B5 ++ (D.take k).flatMap encDirty:=⟨_,rfl⟩
      rw [← hB] at hlen hnx ⊢
      have hq1:=encN_len10 (n:=x.1.toNat) (by omega)
      have hl0:B.length ≤ 16777216:=by omega
      have hl1:(B ++ encN x.1.toNat).length ≤ 16777216:=by rw [List.length_append];omega
      repeat' (first
       | (refine spl_dec (fun hd=>?_) (fun hd=>?_) <;> first|(exfalso;omega)|(conv=>whnf))
       | ((first|refine Ld.i ?_|refine St.i ⟨rfl,rfl⟩ (List.cons_ne_nil _ _) ?_|refine Ar.i64 (by omega) ?_|refine Ar.u64 (by omega) ?_);conv=>whnf)
       | (intro blk hblk;conv=>whnf)
       | (refine IxS.r (i:=k) (xs:=D) rfl hn' h1 (fun ab off' ha=>?_);have rq:RowC W R (some ⟨ab,off',none⟩) 2 dirtyv D:=ha ▸ rd.row;rw [ha];conv=>whnf)
       | (refine LdN.r hx rfl ?_;conv=>whnf)
       | (refine CallK.ret f_z1k.ok (wu_spec (by first|rfl|assumption|omega|decide|(simp;done)|(simp;omega)|(simp at *;omega)) (by first|rfl|assumption|omega|decide|(simp;done)|(simp;omega)|(simp at *;omega))) ?_;rintro v G ⟨e_a,e_c,rfl,rfl⟩;conv=>whnf))
      refine ⟨rfl,(k + 1,e_a,e_c),h1,fun t v h=>h,?_,by dsimp only;omega⟩
      dsimp only
      rw [hnx]
      unfold encDirty
      rw [← List.append_assoc]
      first|exact .refl _|exact .drop|exact .fin|((repeat refine .pick ?_);first|exact .refl _|exact .emp _|exact .fin)
     ·have:k = D.length:=by omega
      subst this
      rw [List.take_length]
      have hB6l:(B5 ++ D.flatMap encDirty).length ≤ 16777216:=by
       have h2:(D.flatMap encDirty).length ≤ 30 * D.length:=flat_len fun y hy=>by
        have:=hDm y hy
        exact encDirty_len (by omega) (by omega)
       rw [List.length_append];omega
      rw [show B2 ++ encN L.length ++ L.flatMap encLive ++ encN D.length ++ D.flatMap encDirty = B5 ++ D.flatMap encDirty by rw [hB5,hB4,hB3]]
      repeat' (first
       | (refine spl_dec (fun hd=>?_) (fun hd=>?_) <;> first|(exfalso;omega)|(conv=>whnf))
       | (refine CallK.ret f_z3i.ok (out_spec (by first|rfl|assumption|omega|decide|(simp;done)|(simp;omega)|(simp at *;omega))) ?_;rintro v G ⟨e_a,e_c,e_h1,rfl,rfl⟩;conv=>whnf))
      refine ⟨_,_,rfl,?_,e_a,e_c,by assumption,rfl,rfl⟩
      first|exact .refl _|exact .drop|exact .fin|((repeat refine .pick ?_);first|exact .refl _|exact .emp _|exact .fin)
   ·have hE:encR r L D = B2:=by
     unfold encR
     rw [if_neg h8,List.append_nil,hB2,hB1,hB0]
    rw [hE]
    repeat' (first
     | (refine spl_dec (fun hd=>?_) (fun hd=>?_) <;> first|(exfalso;omega)|(conv=>whnf))
     | (refine Ld.i ?_;conv=>whnf)
     | (refine CallK.ret f_z3i.ok (out_spec (by first|rfl|assumption|omega|decide|(simp;done)|(simp;omega)|(simp at *;omega))) ?_;rintro v G ⟨e_a,e_c,e_h1,rfl,rfl⟩;conv=>whnf))
    refine ⟨_,_,rfl,?_,e_a,e_c,by assumption,rfl,rfl⟩
    first|exact .refl _|exact .drop|exact .fin|((repeat refine .pick ?_);first|exact .refl _|exact .emp _|exact .fin)
end Go.Proofs.YtbcedpankkdfoaaGreatDoor
/- Records read back, in plain words; stores into a block's cell. No condition. -/
namespace Go.SL
open Go
theorem setL_one (v:Value):∀ (l:List Value) (o:Nat) (K:List Value → Prop),o < l.length → K (l.set o v) → setL l o [v] K
 | [],o,K,h,_=>by simp at h
 | c :: l,0,K,_,k=>by simpa [setL] using k
 | c :: l,o + 1,K,h,k=>by
  simp only [setL]
  exact setL_one v l o _ (by simpa using h) (by simpa using k)
theorem St.nth {P:Program} {W:World} {H R:HProp} {b o n:Nat} {l:List Value} {t:TypeId} {v:Value} {K:HProp → Prop} [p:PtsC H b (.cells ⟨l⟩ t (0,0)) R] (ho:o < l.length) (hv:v.oneCell' = true) (hn:n = 1) (k:K (pts b (.cells ⟨l.set o v⟩ t (0,0))•R)) :
  Req ([v].length = n ∧ [v].all (·.oneCell') = true) (St P W H ⟨b,o,none⟩ [v] K):=St.i ⟨hn.symm,by simp [hv]⟩ (by simp) (setL_one v l o _ ho k)
end Go.SL
namespace Go.SL.Rec
open Go Go.SL Go.SL.Sec Go.SL.Fld Go.SL.Pts
open Go.SL.Und (RecV recv fits)
def recZ:RecV:=⟨0,0,0,0,0,0,0,0,0,0,0,0,0,0,(none,0,0),(none,0,0),0⟩
def setC (r:RecV) (o:Nat) (z:Int):RecV:=match o with
 | 2=>{ r with tx:=z }|3=>{ r with prev:=z }|4=>{ r with wp:=z }|5=>{ r with wi:=z }|6=>{ r with sp:=z }|7=>{ r with si:=z }|8=>{ r with delta:=z }
 | 9=>{ r with id:=z }|10=>{ r with grp:=z }|11=>{ r with lo:=z }|12=>{ r with hi:=z }|13=>{ r with val:=z }|16=>{ r with nxt:=z }|_=>r
theorem recv_set {r:RecV} {o:Nat} {z:Int} (h:(2 ≤ o ∧ o ≤ 13) ∨ o = 16):(recv r).set o (.int .i64 z) = recv (setC r o z):=by
 have:o = 2 ∨ o = 3 ∨ o = 4 ∨ o = 5 ∨ o = 6 ∨ o = 7 ∨ o = 8 ∨ o = 9 ∨ o = 10 ∨ o = 11 ∨ o = 12 ∨ o = 13 ∨ o = 16:=by omega
 rcases this with rfl|rfl|rfl|rfl|rfl|rfl|rfl|rfl|rfl|rfl|rfl|rfl|rfl <;> rfl
theorem setC_same {r:RecV} {o:Nat} {z:Int} (h:(2 ≤ o ∧ o ≤ 13) ∨ o = 16):(setC r o z).kind = r.kind ∧ (setC r o z).lsn = r.lsn ∧ (setC r o z).lv = r.lv ∧ (setC r o z).dt = r.dt:=by
 have:o = 2 ∨ o = 3 ∨ o = 4 ∨ o = 5 ∨ o = 6 ∨ o = 7 ∨ o = 8 ∨ o = 9 ∨ o = 10 ∨ o = 11 ∨ o = 12 ∨ o = 13 ∨ o = 16:=by omega
 rcases this with rfl|rfl|rfl|rfl|rfl|rfl|rfl|rfl|rfl|rfl|rfl|rfl|rfl <;> exact ⟨rfl,rfl,rfl,rfl⟩
end Go.SL.Rec
namespace Go.Proofs.YtbcedpankkdfoaaGreatDoor
open Go Go.SL Go.SL.Sec Go.SL.Fld Go.SL.Pts Go.SL.Rec
open Go.SL.Und (RecV recv fits)
def decI (most:Int):List Nat → RecV → RdX → RecV × RdX
 | [],r,X=>(r,X)
 | o :: l,r,X=>decI most l (setC r o (X.u most).1) (X.u most).2
def decS:List Nat → RecV → RdX → RecV × RdX
 | [],r,X=>(r,X)
 | o :: l,r,X=>decS l (setC r o (zag (X.u 18446744073709551615).1)) (X.u 18446744073709551615).2
def liveF (X:RdX):LiveV × RdX :=
 let a:=X.u 2147483647
 let b:=a.2.u 2147483647
 let c:=b.2.u 2
 (⟨a.1,b.1,decide (c.1 = 1),decide (c.1 = 2)⟩,c.2)
def dirtyF (X:RdX):DirtyV × RdX :=
 let a:=X.u 2147483647
 let b:=a.2.u 2147483647
 ((a.1,b.1),b.2)
def decLv:Nat → List LiveV → RdX → List LiveV × RdX
 | 0,L,X=>(L,X)
 | n + 1,L,X=>decLv n (L ++ [(liveF X).1]) (liveF X).2
def decDt:Nat → List DirtyV → RdX → List DirtyV × RdX
 | 0,D,X=>(D,X)
 | n + 1,D,X=>decDt n (D ++ [(dirtyF X).1]) (dirtyF X).2
abbrev DecT:=Int × RecV × List LiveV × List DirtyV
def noneT (e:Int):DecT:=(e,recZ,[],[])
def withL (r:RecV) (L:List LiveV) (D:List DirtyV):RecV:={ r with lv:=(none,L.length,0),dt:=(none,D.length,0) }
def finF (r:RecV) (L:List LiveV) (D:List DirtyV) (X:RdX):DecT :=
 if X.fin.err ≠ 0 then noneT X.fin.err else if chkF (withL r L D) L D ≠ 0 then noneT (chkF (withL r L D) L D) else (0,r,L,D)
def kindR (k:Int):RecV:={ recZ with kind:=k }
def decN (k:Int) (X:RdX):DecT :=
 let a:=decI 2147483647 (intO k) (kindR k) X
 let b:=decS (sgnO k) a.1 a.2
 finF b.1 [] [] b.2
def decC (X:RdX):DecT :=
 let a:=decI 2147483648 (intO 8) (kindR 8) X
 let n:=a.2.u 32
 let L:=decLv n.1.toNat [] n.2
 let m:=L.2.u 16
 let D:=decDt m.1.toNat [] m.2
 finF a.1 L.1 D.1 D.2
def decX (X:RdX):DecT :=
 let k:=X.u 18446744073709551615
 if k.2.err ≠ 0 then noneT k.2.err else if k.1 < 1 ∨ k.1 > 8 then noneT 70 else if k.1 = 8 then decC k.2 else decN k.1 k.2
def decF (l:List Int):DecT:=decX ⟨none,0,l,0,0⟩
theorem chkF_addr {r:RecV} {L:List LiveV} {D:List DirtyV} {a b:Option Addr} {c d:Nat}:chkF { r with lv:=(a,L.length,c),dt:=(b,D.length,d) } L D = chkF (withL r L D) L D:=by
 unfold chkF withL
 dsimp only
 have:FieldsP { r with lv:=(a,L.length,c),dt:=(b,D.length,d) } L D ↔ FieldsP { r with lv:=(none,L.length,0),dt:=(none,D.length,0) } L D:=by
  unfold FieldsP BlankP PrevP TxP
  exact Iff.rfl
 simp only [this]
def RdX.mv (X:RdX) (a:Option Addr) (c:Nat):RdX:={ X with a:=a,c:=c }
theorem mv_u (X:RdX) (a:Option Addr) (c:Nat) (m:Int):((RdX.mv X a c).u m).1 = (X.u m).1 ∧ ((RdX.mv X a c).u m).2 = RdX.mv (X.u m).2 a c:=by
 unfold RdX.u RdX.mv
 dsimp only
 repeat' split
 all_goals exact ⟨rfl,rfl⟩
theorem mv_fin (X:RdX) (a:Option Addr) (c:Nat):(RdX.mv X a c).fin = RdX.mv X.fin a c:=by
 unfold RdX.fin RdX.mv
 dsimp only
 split <;> rfl
theorem mv_decI (a:Option Addr) (c:Nat) (most:Int):∀ (l:List Nat) (r:RecV) (X:RdX),decI most l r (RdX.mv X a c) = ((decI most l r X).1,RdX.mv (decI most l r X).2 a c)
 | [],_,_=>rfl
 | o :: l,r,X=>by
  simp only [decI,(mv_u X a c most).1,(mv_u X a c most).2]
  exact mv_decI a c most l _ _
theorem mv_decS (a:Option Addr) (c:Nat):∀ (l:List Nat) (r:RecV) (X:RdX),decS l r (RdX.mv X a c) = ((decS l r X).1,RdX.mv (decS l r X).2 a c)
 | [],_,_=>rfl
 | o :: l,r,X=>by
  simp only [decS,(mv_u X a c _).1,(mv_u X a c _).2]
  exact mv_decS a c l _ _
theorem mv_liveF (X:RdX) (a:Option Addr) (c:Nat):liveF (RdX.mv X a c) = ((liveF X).1,RdX.mv (liveF X).2 a c):=by
 simp only [liveF,(mv_u _ a c _).1,(mv_u _ a c _).2]
theorem mv_dirtyF (X:RdX) (a:Option Addr) (c:Nat):dirtyF (RdX.mv X a c) = ((dirtyF X).1,RdX.mv (dirtyF X).2 a c):=by
 simp only [dirtyF,(mv_u _ a c _).1,(mv_u _ a c _).2]
theorem mv_decLv (a:Option Addr) (c:Nat):∀ (n:Nat) (L:List LiveV) (X:RdX),decLv n L (RdX.mv X a c) = ((decLv n L X).1,RdX.mv (decLv n L X).2 a c)
 | 0,_,_=>rfl
 | n + 1,L,X=>by
  simp only [decLv,mv_liveF]
  exact mv_decLv a c n _ _
theorem mv_decDt (a:Option Addr) (c:Nat):∀ (n:Nat) (L:List DirtyV) (X:RdX),decDt n L (RdX.mv X a c) = ((decDt n L X).1,RdX.mv (decDt n L X).2 a c)
 | 0,_,_=>rfl
 | n + 1,L,X=>by
  simp only [decDt,mv_dirtyF]
  exact mv_decDt a c n _ _
theorem mv_finF (r:RecV) (L:List LiveV) (D:List DirtyV) (X:RdX) (a:Option Addr) (c:Nat):finF r L D (RdX.mv X a c) = finF r L D X:=by
 unfold finF
 rw [mv_fin];rfl
theorem mv_decX (X:RdX) (a:Option Addr) (c:Nat):decX (RdX.mv X a c) = decX X:=by
 simp only [decX,decN,decC,(mv_u _ a c _).1,(mv_u _ a c _).2,mv_decI,mv_decS,mv_decLv,mv_decDt,mv_finF]
 rfl
theorem decX_eq {a:Option Addr} {c:Nat} {l:List Int}:decX ⟨a,c,l,0,0⟩ = decF l:=mv_decX ⟨none,0,l,0,0⟩ a c
theorem decI_next {most:Int} {l:List Nat} {k o:Nat} {r:RecV} {X:RdX} (h:l[k]? = some o):decI most (l.drop k) r X = decI most (l.drop (k + 1)) (setC r o (X.u most).1) (X.u most).2:=by
 obtain ⟨h1,rfl⟩:=List.getElem?_eq_some_iff.1 h
 rw [List.drop_eq_getElem_cons h1,decI]
theorem decS_next {l:List Nat} {k o:Nat} {r:RecV} {X:RdX} (h:l[k]? = some o):decS (l.drop k) r X = decS (l.drop (k + 1)) (setC r o (zag (X.u 18446744073709551615).1)) (X.u 18446744073709551615).2:=by
 obtain ⟨h1,rfl⟩:=List.getElem?_eq_some_iff.1 h
 rw [List.drop_eq_getElem_cons h1,decS]
theorem decLv_next {n i:Nat} {L:List LiveV} {X:RdX} (h:i < n):decLv (n - i) L X = decLv (n - (i + 1)) (L ++ [(liveF X).1]) (liveF X).2:=by
 obtain ⟨m,hm⟩:∃ m,n - i = m + 1:=⟨n - i - 1,by omega⟩
 rw [hm,show n - (i + 1) = m by omega,decLv]
theorem decDt_next {n i:Nat} {L:List DirtyV} {X:RdX} (h:i < n):decDt (n - i) L X = decDt (n - (i + 1)) (L ++ [(dirtyF X).1]) (dirtyF X).2:=by
 obtain ⟨m,hm⟩:∃ m,n - i = m + 1:=⟨n - i - 1,by omega⟩
 rw [hm,show n - (i + 1) = m by omega,decDt]
end Go.Proofs.YtbcedpankkdfoaaGreatDoor
/- The program's record.Decode, walked. Conditions: in each statement. -/
namespace Go.Proofs.YtbcedpankkdfoaaGreatDoor
open Go Go.SL Go.SL.Sec Go.SL.Fld Go.SL.Pts Go.SL.Rec
open Go.SL.Und (RecV recv fits)
def recLA (r:RecV) (la:Option Addr) (ln lc:Nat) (da:Option Addr) (dn dc:Nat):Value:=recA { r with lv:=(la,ln,lc),dt:=(da,dn,dc) }
def DecQ (T:DecT) (R:HProp) (v:Value) (G:HProp):Prop :=
 ∃ la lc da dc,v = .tuple ⟨[recLA T.2.1 la T.2.2.1.length lc da T.2.2.2.length dc,.int .i64 T.1]⟩ ∧ G = (vec t_z23 4 livev la lc T.2.2.1•vec t_z1l 2 dirtyv da dc T.2.2.2•R)
theorem decQ_none {e:Int} {R H:HProp} (h:Imp H R):Ret (DecQ (noneT e) R) (.returned (.tuple ⟨[.agg ⟨[.int .i64 0,.int .i64 0,.int .i64 0,.int .i64 0,.int .i64 0,.int .i64 0,.int .i64 0,.int .i64 0,.int .i64 0,.int .i64 0,.int .i64 0,.int .i64 0,.int .i64 0,.int .i64 0,.slice none 0 0,.slice none 0 0,.int .i64 0]⟩,.int .i64 e]⟩)) H:=by
 refine ⟨_,_,rfl,Imp.trans h ?_,none,0,none,0,rfl,rfl⟩
 exact Imp.vnil (Imp.vnil (Imp.refl _))
set_option maxHeartbeats 4000000 in
theorem decode_nc {W:World} {R:HProp} {a:Option Addr} {n c:Nat} {l:List Int} [ro:RowN W R a n 1 bytv l] (hb:Byt l) (hl:l.length ≤ 16777216) (hk8:∀ a c,¬ (((⟨a,c,l,0,0⟩:RdX).u 18446744073709551615).2.err = 0 ∧ ((⟨a,c,l,0,0⟩:RdX).u 18446744073709551615).1 = 8)) :
  Does prog W f_ze ⟨[.slice a n c]⟩ R (Ret (DecQ (decF l) R)):=by
 refine f_ze.does _ ?_
 conv=>whnf
 repeat' (first
  | (intro blk hblk;conv=>whnf)
  | (refine CallK.ret f_z3n.ok (newReader_spec (by first|rfl|assumption|omega|decide|(simp;done)|(simp;omega)|(simp at *;omega))) ?_;rintro v G ⟨e_r,e_a,e_c,e_h1,rfl,rfl⟩;conv=>whnf))
 have hdec:=decX_eq (a:=e_a) (c:=e_c) (l:=l)
 have hX0:(⟨e_a,e_c,l,0,0⟩:RdX).Ok:=⟨hb,hl,e_h1,Nat.zero_le _⟩
 obtain ⟨hY,hk0,hk1,_⟩:=hX0.u 18446744073709551615
 refine CallK.ret f_z1a.ok (ru_spec hX0) ?_
 rintro v G ⟨rfl,rfl⟩
 have hk8:=hk8 e_a e_c
 unfold decX at hdec
 dsimp only at hdec
 obtain ⟨k,hk⟩:∃ k,k = ((⟨e_a,e_c,l,0,0⟩:RdX).u 18446744073709551615).1:=⟨_,rfl⟩
 obtain ⟨Y,hYe⟩:∃ Y,Y = ((⟨e_a,e_c,l,0,0⟩:RdX).u 18446744073709551615).2:=⟨_,rfl⟩
 rw [← hk] at hk0 hk1 hk8 hdec ⊢
 rw [← hYe] at hY hk8 hdec ⊢
 clear hk hYe hX0
 rw [← hdec]
 clear hdec
 by_cases he:Y.err = 0
 ·rw [if_neg (by simpa using he)]
  by_cases hbad:k < 1 ∨ k > 8
  ·rw [if_pos hbad]
   have hbad2:¬ (1 ≤ k ∧ k ≤ 8):=by omega
   conv=>whnf
   repeat' (first
    | (refine spl_dec (fun hd=>?_) (fun hd=>?_) <;> first|(exfalso;omega)|(conv=>whnf))
    | (refine spl_ndec (fun hd=>?_) (fun hd=>?_) <;> first|(exfalso;omega)|(conv=>whnf))
    | ((first|refine LdN.i ?_|refine St.i ⟨rfl,rfl⟩ (List.cons_ne_nil _ _) ?_);conv=>whnf)
    | (refine CallK.ret f_zk.ok (rfault_spec (by first|rfl|assumption|omega|decide|(simp;done)|(simp;omega)|(simp at *;omega))) ?_;rintro v G ⟨rfl,rfl⟩;conv=>whnf))
   all_goals refine decQ_none ?_;first|exact .refl _|exact .drop|exact .fin|((repeat refine .pick ?_);first|exact .refl _|exact .emp _|exact .fin)
  rw [if_neg hbad]
  by_cases h8:k = 8
  ·exact absurd ⟨he,h8⟩ hk8
  ·rw [if_neg h8]
   unfold decN
   dsimp only
   have hil:=intO_len k
   have hsl:=sgnO_len k
   conv=>whnf
   repeat' (first
    | (refine spl_dec (fun hd=>?_) (fun hd=>?_) <;> first|(exfalso;omega)|(conv=>whnf))
    | (refine spl_ndec (fun hd=>?_) (fun hd=>?_) <;> first|(exfalso;omega)|(conv=>whnf))
    | ((first|refine Ld.i ?_|refine St.i ⟨rfl,rfl⟩ (List.cons_ne_nil _ _) ?_|refine Ar.i64 (by omega) ?_);conv=>whnf)
    | (intro blk hblk;conv=>whnf)
    | (refine CallK.ret f_zk.ok (rfault_spec (by first|rfl|assumption|omega|decide|(simp;done)|(simp;omega)|(simp at *;omega))) ?_;rintro v G ⟨rfl,rfl⟩;conv=>whnf)
    | (refine CallK.ret f_z6.ok (fields_spec (by first|rfl|assumption|omega|decide|(simp;done)|(simp;omega)|(simp at *;omega))) ?_;rintro v G ⟨e_a,e_c,e_b,e_d,rfl,rfl⟩;conv=>whnf))
   obtain ⟨A,hA⟩:∃ A,A = decI 2147483647 (intO k) (kindR k) Y:=⟨_,rfl⟩
   rw [← hA]
   refine LoopK.at tab_ok (L:=f_ze.live) (ι:=Nat × RecV × RdX) (fun i=>i.1 ≤ (intO k).length ∧ decI 2147483647 ((intO k).drop i.1) i.2.1 i.2.2 = A ∧ i.2.2.Ok ∧ i.2.1.kind = k ∧ i.2.1.lsn = 0 ∧ i.2.1.lv = (none,0,0) ∧ i.2.1.dt = (none,0,0)) (fun i=>[(55,.int .i64 i.1)])
    (fun i=>reado e_r i.2.2•pts blk (.cells ⟨recv i.2.1⟩ t_z1m)) (fun i=>(intO k).length - i.1) (0,kindR k,Y) ⟨by simp,hA.symm,hY,rfl,rfl,rfl,rfl⟩ (fun t v h=>h) (by
     dsimp only [recv,kindR,recZ]
     exact Imp.assoc (Imp.pick (Imp.pick (Imp.refl _)))) ?_
   rintro ⟨i,r,X⟩ ⟨hi,hdi,hX,rk,rl,rv,rd⟩
   dsimp only at hi hdi hX rk rl rv rd ⊢
   simp only [star_assoc]
   conv=>whnf
   by_cases h1:i < (intO k).length
   ·obtain ⟨o,ho⟩:∃ o,(intO k)[i]? = some o:=⟨_,List.getElem?_eq_getElem h1⟩
    have hoi:=intO_in (List.mem_of_getElem? ho)
    have hol:o < (recv r).length:=by show o < 17;omega
    rw [decI_next ho] at hdi
    obtain ⟨hX1,hz0,_,hz1⟩:=hX.u 2147483647
    have hz1:=hz1 (by decide)
    have hsc:=setC_same (r:=r) (z:=(X.u 2147483647).1) hoi
    repeat' (first
     | (refine St.nth hol rfl rfl ?_;conv=>whnf)
     | (refine spl_dec (fun hd=>?_) (fun hd=>?_) <;> first|(exfalso;omega)|(conv=>whnf))
     | (refine Ar.i64 (by omega) ?_;conv=>whnf)
     | (refine IxS.v (i:=i) (xs:=intO k) rfl rfl h1 (fun ab off' ha=>?_);subst ha;conv=>whnf)
     | (refine Ld.r0 ho rfl ?_;conv=>whnf)
     | (refine CallK.ret f_z1a.ok (ru_spec (by first|rfl|assumption|omega|decide|(simp;done)|(simp;omega)|(simp at *;omega))) ?_;rintro v G ⟨rfl,rfl⟩;conv=>whnf))
    refine ⟨rfl,(i + 1,setC r o (X.u 2147483647).1,(X.u 2147483647).2),⟨h1,hdi,hX1,hsc.1.trans rk,hsc.2.1.trans rl,hsc.2.2.1.trans rv,hsc.2.2.2.trans rd⟩,fun t v h=>h,?_,by dsimp only;omega⟩
    dsimp only
    rw [recv_set hoi]
    first|exact .refl _|exact .drop|exact .fin|((repeat refine .pick ?_);first|exact .refl _|exact .emp _|exact .fin)
   ·rw [List.drop_eq_nil_of_le (by omega),decI] at hdi
    rw [← hdi]
    clear hdi hA A
    dsimp only
    repeat' (first
     | (refine spl_dec (fun hd=>?_) (fun hd=>?_) <;> first|(exfalso;omega)|(conv=>whnf)))
    obtain ⟨B,hB⟩:∃ B,B = decS (sgnO k) r X:=⟨_,rfl⟩
    rw [← hB]
    clear h1 hi
    refine LoopK.at tab_ok (L:=f_ze.live) (ι:=Nat × RecV × RdX) (fun i=>i.1 ≤ (sgnO k).length ∧ decS ((sgnO k).drop i.1) i.2.1 i.2.2 = B ∧ i.2.2.Ok ∧ i.2.1.kind = k ∧ i.2.1.lsn = 0 ∧ i.2.1.lv = (none,0,0) ∧ i.2.1.dt = (none,0,0)) (fun i=>[(68,.int .i64 i.1)])
     (fun i=>reado e_r i.2.2•pts blk (.cells ⟨recv i.2.1⟩ t_z1m)) (fun i=>(sgnO k).length - i.1) (0,r,X) ⟨by simp,hB.symm,hX,rk,rl,rv,rd⟩ (fun t v h=>h) (Imp.assoc (Imp.pick (Imp.pick (Imp.refl _)))) ?_
    clear hX rk rl rv rd hB
    rintro ⟨i,r,X⟩ ⟨hi,hdi,hX,rk,rl,rv,rd⟩
    dsimp only at hi hdi hX rk rl rv rd ⊢
    simp only [star_assoc]
    conv=>whnf
    by_cases h1:i < (sgnO k).length
    ·obtain ⟨o,ho⟩:∃ o,(sgnO k)[i]? = some o:=⟨_,List.getElem?_eq_getElem h1⟩
     have hoi:=sgnO_in (List.mem_of_getElem? ho)
     have hol:o < (recv r).length:=by show o < 17;omega
     rw [decS_next ho] at hdi
     obtain ⟨hX1,_⟩:=hX.u 18446744073709551615
     have hsc:=setC_same (r:=r) (z:=zag (X.u 18446744073709551615).1) hoi
     repeat' (first
      | (refine St.nth hol rfl rfl ?_;conv=>whnf)
      | (refine spl_dec (fun hd=>?_) (fun hd=>?_) <;> first|(exfalso;omega)|(conv=>whnf))
      | (refine Ar.i64 (by omega) ?_;conv=>whnf)
      | (refine IxS.v (i:=i) (xs:=sgnO k) rfl rfl h1 (fun ab off' ha=>?_);subst ha;conv=>whnf)
      | (refine Ld.r0 ho rfl ?_;conv=>whnf)
      | (refine CallK.ret f_z44.ok (rs_spec (by first|rfl|assumption|omega|decide|(simp;done)|(simp;omega)|(simp at *;omega))) ?_;rintro v G ⟨rfl,rfl⟩;conv=>whnf))
     refine ⟨rfl,(i + 1,setC r o (zag (X.u 18446744073709551615).1),(X.u 18446744073709551615).2),⟨h1,hdi,hX1,hsc.1.trans rk,hsc.2.1.trans rl,hsc.2.2.1.trans rv,hsc.2.2.2.trans rd⟩,fun t v h=>h,?_,by dsimp only;omega⟩
     dsimp only
     rw [recv_set hoi]
     first|exact .refl _|exact .drop|exact .fin|((repeat refine .pick ?_);first|exact .refl _|exact .emp _|exact .fin)
    ·rw [List.drop_eq_nil_of_le (by omega),decS] at hdi
     rw [← hdi]
     clear hdi B
     dsimp only
     obtain ⟨r0,r1,r2,r3,r4,r5,r6,r7,r8,r9,r10,r11,r12,r13,r14,r15,r16⟩:=r
     dsimp only at rk rl rv rd
     subst rk rl rv rd
     have hXf:=hX.fin
     haveI nl:∀ Q:HProp,RowN W Q none 0 4 livev []:=fun Q=>⟨RowC.nil,rfl⟩
     haveI nd:∀ Q:HProp,RowN W Q none 0 2 dirtyv []:=fun Q=>⟨RowC.nil,rfl⟩
     unfold recv
     dsimp only
     unfold finF
     by_cases hfe:X.fin.err = 0
     ·rw [if_neg (by simpa using hfe)]
      obtain ⟨C,hC⟩:∃ C,C = chkF (withL ⟨0,r1,r2,r3,r4,r5,r6,r7,r8,r9,r10,r11,r12,r13,(none,0,0),(none,0,0),r16⟩ [] []) [] []:=⟨_,rfl⟩
      rw [← hC]
      unfold withL at hC
      dsimp only [List.length_nil] at hC
      by_cases hce:C = 0
      ·rw [if_neg (by simpa using hce)]
       repeat' (first
        | (refine spl_dec (fun hd=>?_) (fun hd=>?_) <;> first|(exfalso;omega)|(conv=>whnf))
        | (refine spl_ndec (fun hd=>?_) (fun hd=>?_) <;> first|(exfalso;omega)|(conv=>whnf))
        | ((first|refine Ld.i ?_|refine LdN.i ?_);conv=>whnf)
        | (refine CallK.ret f_zk.ok (rfault_spec (by first|rfl|assumption|omega|decide|(simp;done)|(simp;omega)|(simp at *;omega))) ?_;rintro v G ⟨rfl,rfl⟩;conv=>whnf)
        | (refine CallK.ret f_zs.ok (rend_spec (by first|rfl|assumption|omega|decide|(simp;done)|(simp;omega)|(simp at *;omega))) ?_;rintro v G ⟨rfl,rfl⟩;conv=>whnf))
       refine CallK.ret f_z2.ok (check_spec (r:=⟨0,r1,r2,r3,r4,r5,r6,r7,r8,r9,r10,r11,r12,r13,(none,0,0),(none,0,0),r16⟩) (L:=[]) (D:=[]) (rl:=⟨RowC.nil,rfl⟩) (rd:=⟨RowC.nil,rfl⟩)) ?_
       rintro v G ⟨rfl,rfl⟩
       rw [← hC]
       conv=>whnf
       repeat' (first
        | (refine spl_ndec (fun hd=>?_) (fun hd=>?_) <;> first|(exfalso;omega)|(conv=>whnf))
        | ((first|refine LdN.i ?_|refine St.i ⟨rfl,rfl⟩ (List.cons_ne_nil _ _) ?_);conv=>whnf))
       refine ⟨_,_,rfl,?_,none,0,none,0,rfl,rfl⟩
       refine Imp.vnil (Imp.vnil ?_)
       first|exact .refl _|exact .drop|exact .fin|((repeat refine .pick ?_);first|exact .refl _|exact .emp _|exact .fin)
      ·rw [if_pos hce]
       repeat' (first
        | (refine spl_dec (fun hd=>?_) (fun hd=>?_) <;> first|(exfalso;omega)|(conv=>whnf))
        | (refine spl_ndec (fun hd=>?_) (fun hd=>?_) <;> first|(exfalso;omega)|(conv=>whnf))
        | ((first|refine Ld.i ?_|refine LdN.i ?_);conv=>whnf)
        | (refine CallK.ret f_zk.ok (rfault_spec (by first|rfl|assumption|omega|decide|(simp;done)|(simp;omega)|(simp at *;omega))) ?_;rintro v G ⟨rfl,rfl⟩;conv=>whnf)
        | (refine CallK.ret f_zs.ok (rend_spec (by first|rfl|assumption|omega|decide|(simp;done)|(simp;omega)|(simp at *;omega))) ?_;rintro v G ⟨rfl,rfl⟩;conv=>whnf))
       refine CallK.ret f_z2.ok (check_spec (r:=⟨0,r1,r2,r3,r4,r5,r6,r7,r8,r9,r10,r11,r12,r13,(none,0,0),(none,0,0),r16⟩) (L:=[]) (D:=[]) (rl:=⟨RowC.nil,rfl⟩) (rd:=⟨RowC.nil,rfl⟩)) ?_
       rintro v G ⟨rfl,rfl⟩
       rw [← hC]
       conv=>whnf
       repeat' (first
        | (refine spl_ndec (fun hd=>?_) (fun hd=>?_) <;> first|(exfalso;omega)|(conv=>whnf))
        | ((first|refine LdN.i ?_|refine St.i ⟨rfl,rfl⟩ (List.cons_ne_nil _ _) ?_);conv=>whnf))
       refine decQ_none ?_;first|exact .refl _|exact .drop|exact .fin|((repeat refine .pick ?_);first|exact .refl _|exact .emp _|exact .fin)
     ·rw [if_pos hfe]
      repeat' (first
       | (refine spl_dec (fun hd=>?_) (fun hd=>?_) <;> first|(exfalso;omega)|(conv=>whnf))
       | (refine spl_ndec (fun hd=>?_) (fun hd=>?_) <;> first|(exfalso;omega)|(conv=>whnf))
       | ((first|refine Ld.i ?_|refine LdN.i ?_|refine St.i ⟨rfl,rfl⟩ (List.cons_ne_nil _ _) ?_);conv=>whnf)
       | (refine CallK.ret f_zk.ok (rfault_spec (by first|rfl|assumption|omega|decide|(simp;done)|(simp;omega)|(simp at *;omega))) ?_;rintro v G ⟨rfl,rfl⟩;conv=>whnf)
       | (refine CallK.ret f_zs.ok (rend_spec (by first|rfl|assumption|omega|decide|(simp;done)|(simp;omega)|(simp at *;omega))) ?_;rintro v G ⟨rfl,rfl⟩;conv=>whnf))
      refine decQ_none ?_;first|exact .refl _|exact .drop|exact .fin|((repeat refine .pick ?_);first|exact .refl _|exact .emp _|exact .fin)
 ·rw [if_pos he]
  conv=>whnf
  repeat' (first
   | (refine spl_ndec (fun hd=>?_) (fun hd=>?_) <;> first|(exfalso;omega)|(conv=>whnf))
   | ((first|refine LdN.i ?_|refine St.i ⟨rfl,rfl⟩ (List.cons_ne_nil _ _) ?_);conv=>whnf)
   | (refine CallK.ret f_zk.ok (rfault_spec (by first|rfl|assumption|omega|decide|(simp;done)|(simp;omega)|(simp at *;omega))) ?_;rintro v G ⟨rfl,rfl⟩;conv=>whnf))
  refine decQ_none ?_;first|exact .refl _|exact .drop|exact .fin|((repeat refine .pick ?_);first|exact .refl _|exact .emp _|exact .fin)
end Go.Proofs.YtbcedpankkdfoaaGreatDoor
