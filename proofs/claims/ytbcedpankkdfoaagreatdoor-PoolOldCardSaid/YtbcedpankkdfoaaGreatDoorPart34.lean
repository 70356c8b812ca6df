/- The law's store over a disk that may give up: what each page's bytes are, once the twin is finished; plain words. Conditions: in each statement. -/
import Derived.Test.YtbcedpankkdfoaaGreatDoorPart33
namespace Go.SL.Twn
open Go Go.SL Go.SL.Sec Go.SL.Fld Go.SL.Rec Go.SL.Pg
open Go.Proofs.YtbcedpankkdfoaaGreatDoor (zerosB)
theorem at_img {D:Dev} (hq:D.q = []) (i:Int):D.at i = secOf D.img i:=by unfold Dev.at;rw [hq];rfl
theorem logi_same {m m':List Int} (h2:secOf m' 2 = secOf m 2) (h3:secOf m' 3 = secOf m 3) (h4:secOf m' 4 = secOf m 4) {n:Int} (hn:secOf m' (5 + 2 * n) = secOf m (5 + 2 * n)) (hn':secOf m' (5 + 2 * n + 1) = secOf m (5 + 2 * n + 1)):logi m' n = logi m n:=by
 have hs:Stand m' (5 + 2 * n) ↔ Stand m (5 + 2 * n):=by unfold Stand;rw [h2]
 unfold logi
 by_cases c:Stand m (5 + 2 * n)
 ·rw [if_pos c,if_pos (hs.2 c),h3,h4]
 ·rw [if_neg c,if_neg (fun k=>c (hs.1 k)),hn,hn']
def MarkOk (p:Int) (m:List Int):Prop:=Clean m ∨ ∃ k,(0 ≤ k ∧ k < p) ∧ Stand m (5 + 2 * k)
theorem MarkOk.same {p:Int} {m m':List Int} (h:MarkOk p m) (h2:secOf m' 2 = secOf m 2):MarkOk p m':=by
 unfold MarkOk Clean Stand at *
 rw [h2];exact h
structure FinOut (D D':Dev) (p e:Int):Prop where
 ok:D'.Ok
 q:D'.q = []
 len:D'.img.length = D.img.length
 logi:∀ n,0 ≤ n ∧ n < 1000 → logi D'.img n = logi D.img n
 away:∀ j:Int,5 + 2 * p ≤ j → secOf D'.img j = secOf D.img j
 res:(e = 0 ∧ D'.down = false ∧ Clean D'.img) ∨ (e = 40 ∧ D'.down = true ∧ MarkOk p D'.img)
theorem mark_zeros (h st:Int):zerosB (((mark h st).drop 4).take 507) = true:=by
 unfold zerosB
 rw [List.all_eq_true]
 intro x hx
 obtain ⟨i,hi⟩:=List.getElem?_of_mem hx
 rw [List.getElem?_take] at hi
 split at hi
 ·rename_i hlt
  rw [List.getElem?_drop,mark_get (by omega)] at hi
  unfold mark4 putB at hi
  rw [List.getElem?_append_right (by rw [List.length_append,List.length_take,leB_len,t512_len];omega),List.getElem?_drop,t512_eq] at hi
  rw [List.getElem?_replicate] at hi
  split at hi
  ·cases hi;rfl
  ·cases hi
 ·cases hi
theorem mark_set (h:Int):(mark h 165).set 511 0 = mark h 0:=by unfold mark;rw [List.set_set]
theorem secOf_len {m:List Int} {i:Int} (h:i.toNat * 512 + 512 ≤ m.length):(secOf m i).length = 512:=by unfold secOf;rw [List.length_take,List.length_drop];omega
theorem fin_any {D:Dev} {p:Int} (hd:D.down = false) (ho:D.Ok) (hq:D.q = []) (hp:0 ≤ p ∧ p < 1000 ∧ 5 + 2 * p ≤ D.secs) (hm:MarkOk p D.img):FinOut D (fin D 2).2.2 p (fin D 2).1:=by
 have hpos:=ho.pos
 have hlen:=ho.len
 have hse:D.secs = (D.img.length:Int) / 512:=rfl
 unfold fin
 rw [if_neg (by rw [hd];decide),if_neg (fun q=>q ⟨by omega,by omega,by omega⟩)]
 simp only [at_img hq]
 rcases hm with hc|⟨k,hk,hst⟩
 ·rw [if_pos (show (secOf D.img 2)[511]? = some 0 from hc)]
  exact ⟨ho,hq,rfl,fun _ _=>rfl,fun _ _=>rfl,.inl ⟨rfl,hd,hc⟩⟩
 have hl511:(secOf D.img 2)[511]? = some 165:=by rw [show secOf D.img 2 = mark (5 + 2 * k) 165 from hst];exact mark_last _ _
 rw [if_neg (by rw [hl511];simp)]
 have hgh:getB (secOf D.img 2) 0 4 = 5 + 2 * k:=by rw [show secOf D.img 2 = mark (5 + 2 * k) 165 from hst];exact mark_home (by omega)
 have hz:zerosB (((secOf D.img 2).drop 4).take 507) = true:=by rw [show secOf D.img 2 = mark (5 + 2 * k) 165 from hst];exact mark_zeros _ _
 simp only [hgh]
 rw [if_neg (fun q=>q ⟨hl511,hz,⟨by omega,by omega,by omega⟩,by omega⟩)]
 have l3:(secOf D.img (2 + 1)).length = 512:=secOf_len (by omega)
 have l4:(secOf D.img (2 + 2)).length = 512:=secOf_len (by omega)
 have by3:Byt (secOf D.img (2 + 1)):=(ho.byt.drop _).take _
 have by4:Byt (secOf D.img (2 + 2)):=(ho.byt.drop _).take _
 obtain ⟨s3,hs3⟩:∃ s,s = secOf D.img (2 + 1):=⟨_,rfl⟩
 obtain ⟨s4,hs4⟩:∃ s,s = secOf D.img (2 + 2):=⟨_,rfl⟩
 rw [← hs3] at l3 by3 ⊢
 rw [← hs4] at l4 by4 ⊢
 have w1:=put2 hd ho hq (z:=5 + 2 * k) (b:=s3 ++ s4) (by omega) (by rw [List.length_append];omega) (by3.append by4)
 rw [show (s3 ++ s4).take 512 = s3 by rw [← l3];exact List.take_left,show (s3 ++ s4).drop 512 = s4 by rw [← l3];exact List.drop_left] at w1
 obtain ⟨R1,hR1⟩:∃ R,R = pws (5 + 2 * k) (s3 ++ s4) 2 0 D:=⟨_,rfl⟩
 rw [← hR1] at w1 ⊢
 have a1:∀ j:Int,0 ≤ j → j ≠ 5 + 2 * k → j ≠ 5 + 2 * k + 1 → secOf R1.2.img j = secOf D.img j:=fun j hj h1 h2=>w1.away j hj (by simp;omega)
 have st1:Stand R1.2.img (5 + 2 * k):=by unfold Stand;rw [a1 2 (by omega) (by omega) (by omega)];exact hst
 have g3:secOf R1.2.img 3 = s3:=by rw [a1 3 (by omega) (by omega) (by omega),hs3];rfl
 have g4:secOf R1.2.img 4 = s4:=by rw [a1 4 (by omega) (by omega) (by omega),hs4];rfl
 have lk:logi D.img k = s3 ++ s4:=by rw [logi_stand hst,hs3,hs4];rfl
 have lo1:∀ n,0 ≤ n ∧ n < 1000 → logi R1.2.img n = logi D.img n:=fun n hn=>by
  by_cases e:n = k
  ·subst e
   rw [logi_stand st1,g3,g4,lk]
  ·rw [logi_other st1 (by omega) hn e,logi_other hst (by omega) hn e,a1 _ (by omega) (by omega) (by omega),a1 _ (by omega) (by omega) (by omega)]
 rcases w1.res with ⟨e1,d1,s1⟩|⟨e1,d1,s1⟩
 rotate_left
 ·rw [if_pos (by rw [e1];decide)]
  exact ⟨w1.ok,w1.q,w1.len,lo1,fun j hj=>a1 j (by omega) (by omega) (by omega),.inr ⟨e1,d1,.inr ⟨k,hk,st1⟩⟩⟩
 rw [if_neg (fun q=>q e1)]
 have f1:secOf R1.2.img (5 + 2 * k) = s3:=s1 _ _ (by simp)
 have f2:secOf R1.2.img (5 + 2 * k + 1) = s4:=s1 _ _ (by simp)
 rw [show (secOf D.img 2).set 511 0 = mark (5 + 2 * k) 0 by rw [show secOf D.img 2 = mark (5 + 2 * k) 165 from hst];exact mark_set _]
 have w2:=put1 d1 w1.ok w1.q (z:=2) (b:=mark (5 + 2 * k) 0) (by rw [w1.secs];omega) (mark_len _ _) (mark_byt (by omega))
 obtain ⟨R2,hR2⟩:∃ R,R = pws 2 (mark (5 + 2 * k) 0) 1 0 R1.2:=⟨_,rfl⟩
 rw [← hR2] at w2 ⊢
 have a2:∀ j:Int,0 ≤ j → j ≠ 2 → secOf R2.2.img j = secOf R1.2.img j:=fun j hj h2=>w2.away j hj (by simp;omega)
 have aw:∀ j:Int,5 + 2 * p ≤ j → secOf R2.2.img j = secOf D.img j:=fun j hj=>by rw [a2 j (by omega) (by omega),a1 j (by omega) (by omega) (by omega)]
 have clean0:∀ m:List Int,secOf m 2 = mark (5 + 2 * k) 0 → Clean m:=fun m x=>by unfold Clean;rw [x];exact mark_last _ _
 have loc:∀ hcl:Clean R2.2.img,∀ n,0 ≤ n ∧ n < 1000 → logi R2.2.img n = logi D.img n:=fun hcl n hn=>by
  by_cases e:n = k
  ·subst e
   rw [logi_clean hcl,a2 _ (by omega) (by omega),a2 _ (by omega) (by omega),f1,f2,lk]
  ·rw [logi_clean hcl,logi_other hst (by omega) hn e,a2 _ (by omega) (by omega),a2 _ (by omega) (by omega),a1 _ (by omega) (by omega) (by omega),a1 _ (by omega) (by omega) (by omega)]
 rcases w2.res with ⟨e2,d2,s2⟩|⟨e2,d2,s2⟩
 ·rw [if_neg (fun q=>q e2)]
  have hcl:=clean0 _ (s2 2 _ (by simp))
  exact ⟨w2.ok,w2.q,w2.len.trans w1.len,loc hcl,aw,.inl ⟨rfl,d2,hcl⟩⟩
 ·rw [if_pos (by rw [e2];decide)]
  obtain ⟨t,ht,hm⟩:=s2 2 (mark (5 + 2 * k) 0) (by simp)
  rw [show secOf R1.2.img 2 = mark (5 + 2 * k) 165 from st1] at hm
  rcases mix_old (h:=5 + 2 * k) ht with hx|hx
  ·have hst2:Stand R2.2.img (5 + 2 * k):=hm.trans hx
   refine ⟨w2.ok,w2.q,w2.len.trans w1.len,fun n hn=>?_,aw,.inr ⟨e2,d2,.inr ⟨k,hk,hst2⟩⟩⟩
   by_cases e:n = k
   ·subst e
    rw [logi_stand hst2,a2 _ (by omega) (by omega),a2 _ (by omega) (by omega),g3,g4,lk]
   ·rw [logi_other hst2 (by omega) hn e,logi_other hst (by omega) hn e,a2 _ (by omega) (by omega),a2 _ (by omega) (by omega),a1 _ (by omega) (by omega) (by omega),a1 _ (by omega) (by omega) (by omega)]
  ·have hcl:=clean0 _ (hm.trans hx)
   exact ⟨w2.ok,w2.q,w2.len.trans w1.len,loc hcl,aw,.inr ⟨e2,d2,.inl hcl⟩⟩
theorem fin_calm {D:Dev} {p:Int} (hc:D.Calm) (ho:D.Ok) (hq:D.q = []) (hp:0 ≤ p ∧ p < 1000 ∧ 5 + 2 * p ≤ D.secs) (hm:MarkOk p D.img):(fin D 2).1 = 0:=by
 have hpos:=ho.pos
 have hlen:=ho.len
 have hse:D.secs = (D.img.length:Int) / 512:=rfl
 unfold fin
 rw [if_neg (by rw [hc.down];decide),if_neg (fun q=>q ⟨by omega,by omega,by omega⟩)]
 simp only [at_img hq]
 rcases hm with hcl|⟨k,hk,hst⟩
 ·rw [if_pos (show (secOf D.img 2)[511]? = some 0 from hcl)]
 have hl511:(secOf D.img 2)[511]? = some 165:=by rw [show secOf D.img 2 = mark (5 + 2 * k) 165 from hst];exact mark_last _ _
 rw [if_neg (by rw [hl511];simp)]
 have hgh:getB (secOf D.img 2) 0 4 = 5 + 2 * k:=by rw [show secOf D.img 2 = mark (5 + 2 * k) 165 from hst];exact mark_home (by omega)
 have hz:zerosB (((secOf D.img 2).drop 4).take 507) = true:=by rw [show secOf D.img 2 = mark (5 + 2 * k) 165 from hst];exact mark_zeros _ _
 simp only [hgh]
 rw [if_neg (fun q=>q ⟨hl511,hz,⟨by omega,by omega,by omega⟩,by omega⟩)]
 have l3:(secOf D.img (2 + 1)).length = 512:=secOf_len (by omega)
 have l4:(secOf D.img (2 + 2)).length = 512:=secOf_len (by omega)
 obtain ⟨h1,h2⟩:=pws_calm (5 + 2 * k) (secOf D.img (2 + 1) ++ secOf D.img (2 + 2)) 2 0 D hc ho (by omega) (by omega) (by rw [List.length_append];omega) (((ho.byt.drop _).take _).append ((ho.byt.drop _).take _))
 obtain ⟨R1,hR1⟩:∃ R,R = pws (5 + 2 * k) (secOf D.img (2 + 1) ++ secOf D.img (2 + 2)) 2 0 D:=⟨_,rfl⟩
 rw [← hR1] at h1 h2 ⊢
 rw [if_neg (fun q=>q h1)]
 rw [show (secOf D.img 2).set 511 0 = mark (5 + 2 * k) 0 by rw [show secOf D.img 2 = mark (5 + 2 * k) 165 from hst];exact mark_set _]
 obtain ⟨h3,h4⟩:=pws_calm 2 (mark (5 + 2 * k) 0) 1 0 R1.2 h2.calm h2.ok (by omega) (by rw [h2.secs];omega) (by rw [mark_len]) (mark_byt (by omega))
 rw [if_neg (fun q=>q h3)]
end Go.SL.Twn
namespace Go.SL.Pool
open Go Go.SL Go.SL.Sec Go.SL.Fld Go.SL.Rec Go.SL.Twn Go.SL.Pg Go.SL.Mst
theorem recS_mem {first:Int}:∀ {l:List (List Int)} {n:Nat} {p:Int × List Int},p ∈ recS first n l → first + n - 1 ≤ p.1
 | [],_,_,h=>by cases h
 | b :: l,n,p,h=>by
  rcases List.mem_cons.1 h with rfl|h
  ·exact Int.le_refl _
  ·have:=recS_mem h;omega
theorem recS_nodup {first:Int}:∀ {l:List (List Int)} {n:Nat},((recS first n l).map (·.1)).Nodup
 | [],_=>List.nodup_nil
 | b :: l,n=>by
  rw [recS,List.map_cons,List.nodup_cons]
  refine ⟨fun h=>?_,recS_nodup⟩
  obtain ⟨p,hp,he⟩:=List.mem_map.1 h
  have:=recS_mem hp
  dsimp only at he
  omega
theorem force_any {L:LogM} {D:Dev} {lsn:Int} (ho:D.Ok) (hq:D.q = []) (h0:0 ≤ L.first) (hs:L.first + L.count ≤ D.secs) (hl:LogOk L) (hn:0 ≤ lsn ∧ lsn ≤ L.recs.length) (hu:D.down = false → L.err = none) :
  (((L.force D lsn).1 = 0 ∧ (L.force D lsn).2.2.down = D.down ∧ (L.force D lsn).2.1.err = L.err) ∨ ((L.force D lsn).1 = 40 ∧ (L.force D lsn).2.2.down = true)) ∧ ∀ j,0 ≤ j → j < L.first → secOf (L.force D lsn).2.2.img j = secOf D.img j:=by
 have hf:=hl.forced
 have hr:=hl.recs
 unfold LogM.force
 by_cases c1:L.err.isSome = true
 ·rw [if_pos c1]
  refine ⟨.inr ⟨rfl,?_⟩,fun _ _ _=>rfl⟩
  cases hd:D.down with
  | true=>rfl
  | false=>rw [hu hd] at c1;cases c1
 rw [if_neg c1,if_neg (by omega)]
 by_cases c3:lsn ≤ L.forced
 ·rw [if_pos c3];exact ⟨.inl ⟨rfl,rfl,rfl⟩,fun _ _ _=>rfl⟩
 rw [if_neg c3]
 dsimp only
 rw [wrs_wls]
 have hw:=recS_ok ho L.first (L.bys.take (lsn.toNat - L.forced)) (L.forced + 1) (by omega) (by rw [List.length_take];omega) fun b hb=>hl.bys b (List.mem_of_mem_take hb)
 cases hd:D.down with
 | true =>
  rw [wls_down _ hd,if_neg (show ¬ (40:Int) = 0 by decide)]
  exact ⟨.inr ⟨rfl,hd⟩,fun _ _ _=>rfl⟩
 | false =>
  have w:=wls_wrote (l:=recS L.first (L.forced + 1) (L.bys.take (lsn.toNat - L.forced))) hd ho hq hw recS_nodup
  have ha:∀ j,0 ≤ j → j < L.first → secOf (wls (recS L.first (L.forced + 1) (L.bys.take (lsn.toNat - L.forced))) D).2.img j = secOf D.img j:=fun j hj h=>w.away j hj fun hin=>by
   obtain ⟨p,hp,he⟩:=List.mem_map.1 hin
   have:=recS_mem hp
   omega
  rcases w.res with ⟨e1,d1,_⟩|⟨e1,d1,_⟩
  ·rw [if_pos e1]
   exact ⟨.inl ⟨rfl,d1,rfl⟩,ha⟩
  ·rw [if_neg (by rw [e1];decide)]
   exact ⟨.inr ⟨e1,d1⟩,ha⟩
structure Run (S:Sto) (last:Int → PgM) (okb:Int → List Int → Prop):Prop where
 ok:S.Ok
 good:∀ n,0 ≤ n ∧ n < S.P.pages → (last n).num = n ∧ (last n).fault = 0 ∧ (last n).In ∧ (last n).lsn ≤ S.L.recs.length
 new:∀ n,0 ≤ n ∧ n < S.P.pages → okb n (encP (last n))
 mark:MarkOk S.P.pages S.D.img
 up:S.D.down = false → S.P.ended = false ∧ S.L.err = none ∧ Twn.Clean S.D.img
 old:∀ n,0 ≤ n ∧ n < S.P.pages → okb n (logi S.D.img n)
 key:S.P.ended = false → ∀ n f,S.P.held.lookup n = some f → f.pg = last n ∧ (f.dirty = false → logi S.D.img n = encP (last n))
 home:S.P.ended = false → ∀ n,0 ≤ n ∧ n < S.P.pages → S.P.held.lookup n = none → logi S.D.img n = encP (last n)
section
variable {S:Sto} {last:Int → PgM} {okb:Int → List Int → Prop}
theorem Run.pg (K:Run S last okb):2 ≤ S.P.pages ∧ S.P.pages ≤ 64 ∧ S.L.first = 5 + 2 * S.P.pages ∧ S.L.first + S.L.count = S.D.secs:=by
 have h1:=K.ok.may
 unfold MayP at h1
 have h2:=K.ok.first
 have h3:=K.ok.cnt
 have h4:=K.ok.secs
 omega
theorem Run.rng (K:Run S last okb) {n:Int} (hn:0 ≤ n ∧ n < S.P.pages) (he:S.P.ended = false):S.P.place n = 0:=by
 unfold PoolM.place;rw [if_neg (by rw [he];decide),if_neg (by omega)]
theorem Run.ends {L:LogM} {D:Dev} (K:Run S last okb) (hk:(⟨S.P.gone,L,D⟩:Sto).Ok) (hr:L.recs = S.L.recs) (hd:D.down = true) (hm:MarkOk S.P.pages D.img) (ho:∀ n,0 ≤ n ∧ n < S.P.pages → okb n (logi D.img n)):Run ⟨S.P.gone,L,D⟩ last okb :=
 ⟨hk,fun n hn=>(by have:=K.good n hn;dsimp only;rw [hr];exact this),K.new,hm,fun h=>(by rw [show D.down = false from h] at hd;cases hd),ho,fun h=>(by cases h),fun h=>(by cases h)⟩
theorem Run.write (K:Run S last okb) (he:S.P.ended = false) {n:Int} {f:FrM} (h:S.P.held.lookup n = some f) :
  ((S.write n f).1 = 0 ∧ Run (S.write n f).2 last okb ∧ (S.write n f).2.P = (if f.dirty = false then S.P else S.P.put n { f with dirty:=false,since:=0 }) ∧ (S.write n f).2.L.recs = S.L.recs ∧ logi (S.write n f).2.D.img n = encP (last n)) ∨
  ((S.write n f).1 = 40 ∧ Run (S.write n f).2 last okb ∧ (S.write n f).2.D.down = true ∧ (S.write n f).2.P = S.P.gone):=by
 have hok:=(K.ok.write h).1
 have fk:=K.ok.fr n f h
 obtain ⟨hp,hd⟩:=K.key he n f h
 have hn:=fk.key
 obtain ⟨g1,g2,g3,g4⟩:=K.good n hn
 have g5:=(PgM.fault_ok g2).2.2.2.1
 obtain ⟨p1,p2,p3,p4⟩:=K.pg
 obtain ⟨pg,pins,dt,si,us⟩:=f
 dsimp only at hp hd ⊢
 subst hp
 unfold Sto.write at hok ⊢
 by_cases c:dt = false
 ·rw [if_pos c,if_pos c];exact .inl ⟨rfl,K,rfl,rfl,hd c⟩
 rw [if_neg c] at hok
 rw [if_neg c,if_neg c]
 dsimp only at hok ⊢
 have r1:=force_ok (L:=S.L) (D:=S.D) (last n).lsn K.ok.dok K.ok.q (by omega) (by omega) K.ok.log
 obtain ⟨fr,fa⟩:=force_any (L:=S.L) (D:=S.D) (lsn:=(last n).lsn) K.ok.dok K.ok.q (by omega) (by omega) K.ok.log ⟨by omega,g4⟩ fun hdn=>(K.up hdn).2.1
 obtain ⟨T,hT⟩:∃ T,T = S.L.force S.D (last n).lsn:=⟨_,rfl⟩
 rw [← hT] at r1 fr fa hok ⊢
 have hlg:∀ m,0 ≤ m ∧ m < S.P.pages → logi T.2.2.img m = logi S.D.img m:=fun m hm=>logi_same (fa 2 (by omega) (by omega)) (fa 3 (by omega) (by omega)) (fa 4 (by omega) (by omega)) (fa _ (by omega) (by omega)) (fa _ (by omega) (by omega))
 have hmk:MarkOk S.P.pages T.2.2.img:=K.mark.same (fa 2 (by omega) (by omega))
 have hold1:∀ m,0 ≤ m ∧ m < S.P.pages → okb m (logi T.2.2.img m):=fun m hm=>by rw [hlg m hm];exact K.old m hm
 rcases fr with ⟨e1,d1,er1⟩|⟨e1,d1⟩
 rotate_left
 ·rw [if_pos (by rw [e1];decide)] at hok ⊢
  rw [e1] at hok ⊢
  have es:Sto.seen ⟨S.P,T.2.1,T.2.2⟩ 40 = ⟨S.P.gone,T.2.1,T.2.2⟩:=rfl
  rw [es] at hok ⊢
  exact .inr ⟨rfl,K.ends hok r1.recs d1 hmk hold1,d1,rfl⟩
 rw [if_neg (fun q=>q e1)] at hok ⊢
 have hEl:=encP_len g2
 have hEb:=encP_byt g2
 have hsec:T.2.2.secs = S.D.secs:=by unfold Dev.secs;rw [r1.len]
 have hpage:=K.ok.page hn
 cases hdn:S.D.down with
 | true =>
  have tw:twW T.2.2 2 (5 + 2 * n) (encP (last n)) = (40,T.2.2):=by unfold twW;rw [if_pos (d1.trans hdn)]
  rw [tw] at hok ⊢
  rw [if_pos (show (40:Int) ≠ 0 by decide)] at hok ⊢
  have es:Sto.seen ⟨S.P,T.2.1,T.2.2⟩ 40 = ⟨S.P.gone,T.2.1,T.2.2⟩:=rfl
  dsimp only at hok ⊢
  rw [es] at hok ⊢
  exact .inr ⟨rfl,K.ends hok r1.recs (d1.trans hdn) hmk hold1,d1.trans hdn,rfl⟩
 | false =>
  have hcl:Twn.Clean T.2.2.img:=by
   have:=(K.up hdn).2.2
   unfold Twn.Clean at this ⊢
   rw [fa 2 (by omega) (by omega)];exact this
  have w:=twW_any (D:=T.2.2) (k:=n) (b:=encP (last n)) (d1.trans hdn) r1.dok r1.q hcl (by omega) (by rw [hsec];omega) hEl hEb
  obtain ⟨V,hV⟩:∃ V,V = twW T.2.2 2 (5 + 2 * n) (encP (last n)):=⟨_,rfl⟩
  rw [← hV] at w hok ⊢
  rcases w.res with ⟨e2,d2,c2,l2,o2⟩|⟨e2,d2,c2,l2,o2⟩
  ·rw [if_neg (fun q=>q e2)] at hok ⊢
   refine .inl ⟨rfl,⟨hok,fun m hm=>?_,K.new,.inl c2,fun _=>⟨he,er1.trans (K.up hdn).2.1,c2⟩,fun m hm=>?_,fun _ m g hm=>?_,fun _ m hm hno=>?_⟩,rfl,r1.recs,l2⟩
   ·have:=K.good m hm;dsimp only;rw [r1.recs];exact this
   ·dsimp only
    by_cases e:m = n
    ·subst e;rw [l2];exact K.new m hm
    ·have hm':0 ≤ m ∧ m < S.P.pages:=hm
     rw [o2 m (by omega) e];exact hold1 m hm
   ·have hm2:(updKV n (⟨last n,pins,false,0,us⟩:FrM) S.P.held).lookup m = some g:=hm
    rw [updKV_lookup] at hm2
    dsimp only
    by_cases e:m = n
    ·rw [if_pos e] at hm2
     cases hm2
     subst e
     exact ⟨rfl,fun _=>l2⟩
    ·rw [if_neg e] at hm2
     obtain ⟨k1,k2⟩:=K.key he m g hm2
     have hmr:=(K.ok.fr m g hm2).key
     exact ⟨k1,fun hd'=>by rw [o2 m (by omega) e,hlg m hmr];exact k2 hd'⟩
   ·have hm':0 ≤ m ∧ m < S.P.pages:=hm
    have hm2:(updKV n (⟨last n,pins,false,0,us⟩:FrM) S.P.held).lookup m = none:=hno
    rw [updKV_lookup] at hm2
    dsimp only
    by_cases e:m = n
    ·rw [if_pos e] at hm2;cases hm2
    ·rw [if_neg e] at hm2
     rw [o2 m (by omega) e,hlg m hm];exact K.home he m hm hm2
  ·rw [if_pos (by rw [e2];decide)] at hok ⊢
   rw [e2] at hok ⊢
   have es:Sto.seen ⟨S.P,T.2.1,V.2⟩ 40 = ⟨S.P.gone,T.2.1,V.2⟩:=rfl
   rw [es] at hok ⊢
   refine .inr ⟨rfl,K.ends hok r1.recs d2 (c2.imp id fun s=>⟨n,hn,s⟩) fun m hm=>?_,d2,rfl⟩
   by_cases e:m = n
   ·subst e
    rcases l2 with l2|l2
    ·rw [l2];exact hold1 m hm
    ·rw [l2];exact K.new m hm
   ·rw [o2 m (by omega) e];exact hold1 m hm
theorem Run.leave (K:Run S last okb) (he:S.P.ended = false) {n:Int} {f:FrM} (h:S.P.held.lookup n = some f) :
  ((S.leave n f).1 = 0 ∧ Run (S.leave n f).2 last okb ∧ (S.leave n f).2.P = S.P.del n ∧ (S.leave n f).2.L.recs = S.L.recs ∧ logi (S.leave n f).2.D.img n = encP (last n)) ∨
  ((S.leave n f).1 = 40 ∧ Run (S.leave n f).2 last okb ∧ (S.leave n f).2.D.down = true ∧ (S.leave n f).2.P = S.P.gone):=by
 have hok:=(K.ok.leave h).1
 unfold Sto.leave at hok ⊢
 rcases K.write he h with ⟨h1,K',h2,h3,h4⟩|⟨h1,K',h2,h3⟩
 rotate_left
 ·rw [if_pos (by rw [h1];decide)]
  exact .inr ⟨h1,K',h2,h3⟩
 rw [if_neg (fun k=>k h1)] at hok ⊢
 have hdel:(S.write n f).2.P.del n = S.P.del n:=by
  rw [h2]
  split
  ·rfl
  ·unfold PoolM.del PoolM.put
   dsimp only
   rw [del_upd _ _ _ K.ok.nd]
 have hend:(S.write n f).2.P.ended = false:=by rw [h2];split <;> exact he
 have hlk:∀ m,((S.write n f).2.P.del n).held.lookup m = if m = n then none else (S.write n f).2.P.held.lookup m:=fun m=>delKV_lookup n m _
 refine .inl ⟨rfl,⟨hok,K'.good,K'.new,K'.mark,K'.up,K'.old,fun he' m g hm=>?_,fun he' m hm hno=>?_⟩,hdel,h3,h4⟩
 ·dsimp only at hm ⊢
  rw [hlk] at hm
  by_cases e:m = n
  ·rw [if_pos e] at hm;cases hm
  ·rw [if_neg e] at hm;exact K'.key hend m g hm
 ·dsimp only at hno ⊢
  rw [hlk] at hno
  by_cases e:m = n
  ·subst e;exact h4
  ·rw [if_neg e] at hno;exact K'.home hend m hm hno
theorem Run.held {P:PoolM} (K:Run S last okb) (he:S.P.ended = false) {n:Int} {f:FrM} (hok:(⟨P,S.L,S.D⟩:Sto).Ok) (hpg:P.pages = S.P.pages) (hen:P.ended = S.P.ended) (hlk:∀ m,P.held.lookup m = if m = n then some f else S.P.held.lookup m) (hp:f.pg = last n) (hd:f.dirty = false → logi S.D.img n = encP (last n)):Run ⟨P,S.L,S.D⟩ last okb:=by
 refine ⟨hok,fun m hm=>K.good m (by rw [← hpg];exact hm),fun m hm=>K.new m (by rw [← hpg];exact hm),by show MarkOk P.pages S.D.img;rw [hpg];exact K.mark,fun h=>⟨hen.trans he,(K.up h).2⟩,fun m hm=>K.old m (by rw [← hpg];exact hm),fun _ m g hm=>?_,fun _ m hm hno=>?_⟩
 ·have hm2:P.held.lookup m = some g:=hm
  rw [hlk] at hm2
  by_cases e:m = n
  ·rw [if_pos e] at hm2
   cases hm2
   subst e
   exact ⟨hp,hd⟩
  ·rw [if_neg e] at hm2;exact K.key he m g hm2
 ·have hm2:P.held.lookup m = none:=hno
  rw [hlk] at hm2
  by_cases e:m = n
  ·rw [if_pos e] at hm2;cases hm2
  ·rw [if_neg e] at hm2;exact K.home he m (by rw [← hpg];exact hm) hm2
theorem Run.load (K:Run S last okb) (he:S.P.ended = false) {n:Int} (hn:0 ≤ n ∧ n < S.P.pages) (h:S.P.held.lookup n = none) :
  ((S.load n).1 = 0 ∧ Run (S.load n).2 last okb ∧ (∃ f,(S.load n).2.P.held.lookup n = some f) ∧ (S.load n).2.L = S.L ∧ (S.load n).2.P.pages = S.P.pages ∧ (S.load n).2.P.ended = false) ∨
  ((S.load n).1 = 40 ∧ Run (S.load n).2 last okb ∧ (S.load n).2.D.down = true ∧ (S.load n).2.L = S.L ∧ (S.load n).2.P.pages = S.P.pages):=by
 have hok:=(K.ok.load hn).1
 obtain ⟨g1,g2,g3,g4⟩:=K.good n hn
 cases hdn:S.D.down with
 | true =>
  have e:S.load n = (40,S.ends):=by unfold Sto.load;rw [if_pos hdn]
  rw [e] at hok ⊢
  exact .inr ⟨rfl,K.ends hok rfl hdn K.mark K.old,hdn,rfl,rfl⟩
 | false =>
  have hd:decP (S.D.at (5 + 2 * n) ++ S.D.at (5 + 2 * n + 1)) n = (0,last n):=by
   rw [at_img K.ok.q,at_img K.ok.q,← logi_clean (K.up hdn).2.2 n,K.home he n hn h]
   have:=dec_enc g2 g3
   rw [g1] at this
   exact this
  have e:S.load n = (0,{ S with P:=S.P.use n ⟨last n,0,false,0,0⟩ }):=by
   unfold Sto.load
   rw [if_neg (by rw [hdn];decide)]
   dsimp only
   rw [hd,if_neg (fun k=>k rfl)]
  rw [e] at hok ⊢
  refine .inl ⟨rfl,K.held he (P:=S.P.use n ⟨last n,0,false,0,0⟩) (n:=n) (f:=⟨last n,0,false,0,S.P.clock + 1⟩) hok rfl rfl (fun m=>updKV_lookup n _ m S.P.held) rfl (fun _=>K.home he n hn h),⟨_,(updKV_lookup n _ n S.P.held).trans (if_pos rfl)⟩,rfl,rfl,he⟩
theorem Run.get (K:Run S last okb) {n:Int} (hn:0 ≤ n ∧ n < S.P.pages) :
  ((S.get n).1 = 6 ∨ ((S.get n).1 = 40 ∧ (S.get n).2.D.down = true) ∨ ((S.get n).1 = 0 ∧ (∃ f,(S.get n).2.P.held.lookup n = some f) ∧ (S.get n).2.P.ended = false)) ∧ Run (S.get n).2 last okb ∧ (S.get n).2.L.recs = S.L.recs ∧ (S.get n).2.P.pages = S.P.pages:=by
 have hok:=(K.ok.get n).1
 cases he:S.P.ended with
 | true =>
  have hp:S.P.place n = 40:=by unfold PoolM.place;rw [if_pos he]
  have e:S.get n = (40,S):=by unfold Sto.get;rw [hp,if_pos (by decide)]
  rw [e]
  refine ⟨.inr (.inl ⟨rfl,?_⟩),K,rfl,rfl⟩
  cases hdn:S.D.down with
  | true=>rfl
  | false=>rw [(K.up hdn).1] at he;cases he
 | false =>
 unfold Sto.get at hok ⊢
 rw [K.rng hn he,if_neg (fun k=>k rfl)] at hok ⊢
 cases h:S.P.held.lookup n with
 | some f =>
  rw [h] at hok
  dsimp only at hok ⊢
  obtain ⟨h2,h3⟩:=K.key he n f h
  exact ⟨.inr (.inr ⟨rfl,⟨_,(updKV_lookup n _ n S.P.held).trans (if_pos rfl)⟩,he⟩),K.held he (P:=S.P.use n f) (n:=n) (f:={ f with used:=S.P.clock + 1 }) hok rfl rfl (fun m=>updKV_lookup n _ m S.P.held) h2 h3,rfl,rfl⟩
 | none =>
  dsimp only
  by_cases c:(S.P.held.length:Int) ≥ S.P.frames
  ·rw [if_pos c]
   cases ho:oldest S.P.held with
   | none=>exact ⟨.inl rfl,K,rfl,rfl⟩
   | some o =>
    dsimp only
    have hm:=lookup_of_mem o.1 o.2 _ K.ok.nd (oldest_mem ho)
    rcases K.leave he hm with ⟨h1,K',h2,h3,_⟩|⟨h1,K',h2,h3⟩
    ·rw [if_neg (fun k=>k h1)]
     have hpg:(S.leave o.1 o.2).2.P.pages = S.P.pages:=by rw [h2];rfl
     have hen:(S.leave o.1 o.2).2.P.ended = false:=by rw [h2];exact he
     have hno:(S.leave o.1 o.2).2.P.held.lookup n = none:=by
      rw [h2]
      show (delKV o.1 S.P.held).lookup n = none
      rw [delKV_lookup]
      split
      ·rfl
      ·exact h
     rcases K'.load hen (by rw [hpg];exact hn) hno with ⟨k1,k2,k3,k4,k5,k6⟩|⟨k1,k2,k3,k4,k5⟩
     ·exact ⟨.inr (.inr ⟨k1,k3,k6⟩),k2,by rw [k4,h3],by rw [k5,hpg]⟩
     ·exact ⟨.inr (.inl ⟨k1,k3⟩),k2,by rw [k4,h3],by rw [k5,hpg]⟩
    ·rw [if_pos (by rw [h1];decide)]
     exact ⟨.inr (.inl ⟨h1,h2⟩),K',(K.ok.leave hm).2.1,by rw [h3];rfl⟩
  ·rw [if_neg c]
   rcases K.load he hn h with ⟨k1,k2,k3,k4,k5,k6⟩|⟨k1,k2,k3,k4,k5⟩
   ·exact ⟨.inr (.inr ⟨k1,k3,k6⟩),k2,by rw [k4],k5⟩
   ·exact ⟨.inr (.inl ⟨k1,k3⟩),k2,by rw [k4],k5⟩
end
end Go.SL.Pool
/- The law's store over a disk that may give up: every call; plain words. Conditions: in each statement. -/
namespace Go.SL.Pool
open Go Go.SL Go.SL.Sec Go.SL.Fld Go.SL.Rec Go.SL.Twn Go.SL.Pg Go.SL.Mst
section
variable {S:Sto} {last:Int → PgM} {okb:Int → List Int → Prop}
theorem Run.congr (K:Run S last okb) {last':Int → PgM} {okb':Int → List Int → Prop} (h:∀ m,0 ≤ m ∧ m < S.P.pages → last m = last' m) (hb:∀ m,0 ≤ m ∧ m < S.P.pages → ∀ b,okb m b → okb' m b):Run S last' okb' :=
 ⟨K.ok,fun n hn=>by rw [← h n hn];exact K.good n hn,fun n hn=>by rw [← h n hn];exact hb n hn _ (K.new n hn),K.mark,K.up,fun n hn=>hb n hn _ (K.old n hn),fun he n f hf=>by
  obtain ⟨k1,k2⟩:=K.key he n f hf
  have hn:=(K.ok.fr n f hf).key
  exact ⟨k1.trans (h n hn),fun hd=>by rw [← h n hn];exact k2 hd⟩,fun he n hn hno=>by rw [← h n hn];exact K.home he n hn hno⟩
theorem Run.bytes (K:Run S last okb) {okb':Int → List Int → Prop} (h1:∀ m,0 ≤ m ∧ m < S.P.pages → okb' m (encP (last m))) (h2:∀ m,0 ≤ m ∧ m < S.P.pages → okb' m (logi S.D.img m)):Run S last okb' :=
 ⟨K.ok,K.good,h1,K.mark,K.up,h2,K.key,K.home⟩
theorem Run.over (K:Run S last okb) {L:LogM} {D:Dev} (hok:(⟨S.P,L,D⟩:Sto).Ok) (hr:L.recs.length ≥ S.L.recs.length) (hs:∀ j,0 ≤ j → j < S.L.first → secOf D.img j = secOf S.D.img j) (hup:D.down = false → S.D.down = false ∧ L.err = none):Run ⟨S.P,L,D⟩ last okb:=by
 obtain ⟨p1,p2,p3,p4⟩:=K.pg
 have hlg:∀ m,0 ≤ m ∧ m < S.P.pages → logi D.img m = logi S.D.img m:=fun m hm=>logi_same (hs 2 (by omega) (by omega)) (hs 3 (by omega) (by omega)) (hs 4 (by omega) (by omega)) (hs _ (by omega) (by omega)) (hs _ (by omega) (by omega))
 refine ⟨hok,fun n hn=>?_,K.new,K.mark.same (hs 2 (by omega) (by omega)),fun h=>?_,fun m hm=>?_,fun he n f hf=>?_,fun he n hn hno=>?_⟩
 ·obtain ⟨g1,g2,g3,g4⟩:=K.good n hn
  exact ⟨g1,g2,g3,by dsimp only;omega⟩
 ·obtain ⟨h1,h2⟩:=hup h
  obtain ⟨k1,k2,k3⟩:=K.up h1
  refine ⟨k1,h2,?_⟩
  unfold Twn.Clean at k3 ⊢
  dsimp only
  rw [hs 2 (by omega) (by omega)];exact k3
 ·dsimp only;rw [hlg m hm];exact K.old m hm
 ·obtain ⟨k1,k2⟩:=K.key he n f hf
  have hn:=(K.ok.fr n f hf).key
  exact ⟨k1,fun hd=>by dsimp only;rw [hlg n hn];exact k2 hd⟩
 ·dsimp only;rw [hlg n hn];exact K.home he n hn hno
theorem Run.down (K:Run S last okb) (he:S.P.ended = true):S.D.down = true:=by
 cases hdn:S.D.down with
 | true=>rfl
 | false=>rw [(K.up hdn).1] at he;cases he
theorem Run.sput (K:Run S last okb) (he:S.P.ended = false) {x:PgM} {f:FrM} (hn:0 ≤ x.num ∧ x.num < S.P.pages) (h:S.P.held.lookup x.num = some f) (hx:x.fault = 0) (hi:x.In) (hl:(last x.num).lsn < x.lsn) (hb:okb x.num (encP x)) :
  if x.lsn > S.L.recs.length then S.put x = (4,S) else (S.put x).1 = 0 ∧ Run (S.put x).2 (fun m=>if m = x.num then x else last m) okb ∧ (S.put x).2.L = S.L ∧ (S.put x).2.P.pages = S.P.pages:=by
 have hok:=K.ok.puts hi
 obtain ⟨h2,h3⟩:=K.key he _ f h
 have hpl:=K.rng hn he
 by_cases c:x.lsn > S.L.recs.length
 ·rw [if_pos c]
  unfold Sto.put
  rw [hpl,if_neg (fun k=>k rfl),if_neg (fun k=>k hx),h]
  dsimp only
  rw [if_pos (.inr c)]
 ·rw [if_neg c]
  have e:S.put x = (0,{ S with P:=S.P.use x.num { f with pg:=x,dirty:=true,since:=if f.dirty then f.since else x.lsn } }):=by
   unfold Sto.put
   rw [hpl,if_neg (fun k=>k rfl),if_neg (fun k=>k hx),h]
   dsimp only
   rw [h2,if_neg (by omega)]
  rw [e] at hok ⊢
  have hlk:∀ m,(S.P.use x.num { f with pg:=x,dirty:=true,since:=if f.dirty then f.since else x.lsn }).held.lookup m = if m = x.num then some ⟨x,f.pins,true,if f.dirty then f.since else x.lsn,S.P.clock + 1⟩ else S.P.held.lookup m:=fun m=>updKV_lookup x.num _ m S.P.held
  refine ⟨rfl,⟨hok,fun m hm=>?_,fun m hm=>?_,K.mark,fun hd=>K.up hd,K.old,fun _ m g hm=>?_,fun _ m hm hno=>?_⟩,rfl,rfl⟩
  ·dsimp only
   by_cases e:m = x.num
   ·rw [if_pos e];exact ⟨e.symm,hx,hi,by omega⟩
   ·rw [if_neg e];exact K.good m hm
  ·by_cases e:m = x.num
   ·rw [if_pos e,e];exact hb
   ·rw [if_neg e];exact K.new m hm
  ·dsimp only at hm ⊢
   rw [hlk] at hm
   by_cases e:m = x.num
   ·rw [if_pos e] at hm ⊢
    cases hm
    exact ⟨rfl,fun k=>by cases k⟩
   ·rw [if_neg e] at hm ⊢;exact K.key he m g hm
  ·dsimp only at hno ⊢
   rw [hlk] at hno
   by_cases e:m = x.num
   ·rw [if_pos e] at hno;cases hno
   ·rw [if_neg e] at hno ⊢;exact K.home he m hm hno
theorem Run.unpin (K:Run S last okb) (n:Int):Run (S.unpin n).2 last okb ∧ (S.unpin n).2.L = S.L ∧ (S.unpin n).2.P.pages = S.P.pages:=by
 have hok:=K.ok.unpin n
 unfold Sto.unpin at hok ⊢
 by_cases c:S.P.place n ≠ 0
 ·rw [if_pos c];exact ⟨K,rfl,rfl⟩
 rw [if_neg c] at hok ⊢
 have he:S.P.ended = false:=by
  cases he:S.P.ended with
  | false=>rfl
  | true=>exact absurd (show S.P.place n ≠ 0 by unfold PoolM.place;rw [if_pos he];decide) c
 cases hl:S.P.held.lookup n with
 | none=>exact ⟨K,rfl,rfl⟩
 | some f =>
  rw [hl] at hok
  dsimp only at hok ⊢
  by_cases c2:f.pins = 0
  ·rw [if_pos c2];exact ⟨K,rfl,rfl⟩
  ·rw [if_neg c2] at hok ⊢
   obtain ⟨k1,k2⟩:=K.key he n f hl
   exact ⟨K.held he (P:=S.P.put n { f with pins:=f.pins - 1 }) (n:=n) (f:={ f with pins:=f.pins - 1 }) hok rfl rfl (fun m=>updKV_lookup n _ m S.P.held) k1 k2,rfl,rfl⟩
theorem Run.pin (K:Run S last okb) {n:Int} (hn:0 ≤ n ∧ n < S.P.pages):((S.pin n).1 = 6 ∨ ((S.pin n).1 = 40 ∧ (S.pin n).2.D.down = true) ∨ (S.pin n).1 = 0) ∧ Run (S.pin n).2 last okb ∧ (S.pin n).2.L.recs = S.L.recs ∧ (S.pin n).2.P.pages = S.P.pages:=by
 have hok:=K.ok.pin n
 obtain ⟨h1,h2,h3,h4⟩:=K.get hn
 unfold Sto.pin at hok ⊢
 dsimp only at hok ⊢
 rcases h1 with h1|⟨h1,hd⟩|⟨h1,⟨f,hf⟩,he⟩
 ·rw [if_pos (by omega)];exact ⟨.inl h1,h2,h3,h4⟩
 ·rw [if_pos (by omega)];exact ⟨.inr (.inl ⟨h1,hd⟩),h2,h3,h4⟩
 ·rw [if_neg (by omega),hf] at hok ⊢
  dsimp only at hok ⊢
  obtain ⟨k1,k2⟩:=h2.key he n f hf
  exact ⟨.inr (.inr rfl),h2.held he (P:=(S.get n).2.P.put n { f with pins:=f.pins + 1 }) (n:=n) (f:={ f with pins:=f.pins + 1 }) hok rfl rfl (fun m=>updKV_lookup n _ m (S.get n).2.P.held) k1 k2,h3,h4⟩
def OutOk (S:Sto) (last:Int → PgM) (okb:Int → List Int → Prop) (n:Int) (r:Int × Sto):Prop :=
 (r.1 = 0 ∧ logi r.2.D.img n = encP (last n) ∨ r.1 = 100 ∨ r.1 = 101 ∨ r.1 = 40 ∧ r.2.D.down = true) ∧ Run r.2 last okb ∧ r.2.P.pages = S.P.pages ∧ r.2.L.recs = S.L.recs
theorem Run.evict (K:Run S last okb) {n:Int} (hn:0 ≤ n ∧ n < S.P.pages):OutOk S last okb n (S.evict n):=by
 unfold OutOk Sto.evict
 cases he:S.P.ended with
 | true =>
  have hp:S.P.place n = 40:=by unfold PoolM.place;rw [if_pos he]
  rw [hp,if_pos (by decide)]
  exact ⟨.inr (.inr (.inr ⟨rfl,K.down he⟩)),K,rfl,rfl⟩
 | false =>
 rw [K.rng hn he,if_neg (fun k=>k rfl)]
 cases hl:S.P.held.lookup n with
 | none=>exact ⟨.inr (.inr (.inl rfl)),K,rfl,rfl⟩
 | some f =>
  dsimp only
  split
  ·exact ⟨.inr (.inl rfl),K,rfl,rfl⟩
  ·rcases K.leave he hl with ⟨h1,K',h2,h3,h4⟩|⟨h1,K',h2,h3⟩
   ·exact ⟨.inl ⟨h1,h4⟩,K',by rw [h2];rfl,h3⟩
   ·exact ⟨.inr (.inr (.inr ⟨h1,h2⟩)),K',by rw [h3];rfl,(K.ok.leave hl).2.1⟩
theorem Run.flush (K:Run S last okb) {n:Int} (hn:0 ≤ n ∧ n < S.P.pages):OutOk S last okb n (S.flush n):=by
 unfold OutOk Sto.flush
 cases he:S.P.ended with
 | true =>
  have hp:S.P.place n = 40:=by unfold PoolM.place;rw [if_pos he]
  rw [hp,if_pos (by decide)]
  exact ⟨.inr (.inr (.inr ⟨rfl,K.down he⟩)),K,rfl,rfl⟩
 | false =>
 rw [K.rng hn he,if_neg (fun k=>k rfl)]
 cases hl:S.P.held.lookup n with
 | none=>exact ⟨.inr (.inr (.inl rfl)),K,rfl,rfl⟩
 | some f =>
  dsimp only
  rcases K.write he hl with ⟨h1,K',h2,h3,h4⟩|⟨h1,K',h2,h3⟩
  ·exact ⟨.inl ⟨h1,h4⟩,K',by rw [h2];split <;> rfl,h3⟩
  ·exact ⟨.inr (.inr (.inr ⟨h1,h2⟩)),K',by rw [h3];rfl,(K.ok.write hl).2.1⟩
theorem Run.begE (K:Run S last okb) {t:Int} (ht:1 ≤ t ∧ t ≤ 1000000):Run (S.begE t) last okb ∧ (S.begE t).P = S.P:=by
 unfold Sto.begE
 split
 ·exact ⟨K,rfl⟩
 unfold Sto.beg
 split
 ·exact ⟨K,rfl⟩
 ·rename_i h1 h2
  have hr:=K.ok.recs
  have hok:=K.ok.app (r:=⟨begN S.L.recs.length t,[],[]⟩) (by omega) (begN_enc S.L.recs.length ht)
  refine ⟨K.over hok (by show (S.L.recs ++ [_]).length ≥ _;simp) (fun _ _ _=>rfl) fun hd=>⟨hd,(K.up hd).2.1⟩,rfl⟩
theorem Run.force (K:Run S last okb) {n:Int} (hn:0 ≤ n ∧ n ≤ S.L.recs.length):Run (S.force n).2 last okb ∧ (S.force n).2.P = S.P:=by
 obtain ⟨p1,p2,p3,p4⟩:=K.pg
 have r1:=force_ok (L:=S.L) (D:=S.D) n K.ok.dok K.ok.q (by omega) (by omega) K.ok.log
 obtain ⟨fr,fa⟩:=force_any (L:=S.L) (D:=S.D) (lsn:=n) K.ok.dok K.ok.q (by omega) (by omega) K.ok.log hn fun hdn=>(K.up hdn).2.1
 have hov:=K.ok.over r1.first r1.count r1.recs r1.log r1.dok r1.q r1.len
 refine ⟨K.over hov (by rw [r1.recs];exact Nat.le_refl _) (fun j h0 h1=>fa j h0 h1) fun hd=>?_,rfl⟩
 rcases fr with ⟨_,d1,e1⟩|⟨_,d1⟩
 ·rw [d1] at hd
  exact ⟨hd,e1.trans (K.up hd).2.1⟩
 ·rw [d1] at hd;cases hd
end
def rowOf (had:List (List PgM)) (n:Int):List PgM:=(had[n.toNat]?).getD []
def doneAt (done:List Int) (n:Int):Int:=(done[n.toNat]?).getD 0
def okOf (had:List (List PgM)) (done:List Int) (n:Int) (b:List Int):Prop:=∃ q ∈ rowOf had n,b = encP q ∧ doneAt done n ≤ q.lsn ∧ q.num = n ∧ q.fault = 0 ∧ q.In
structure OldO (X:StM):Prop where
 run:Run X.S (lastP X.had) (okOf X.had X.done)
 had:HadOk X.S.P.pages X.had
 dl:(X.done.length:Int) = X.S.P.pages
theorem HadOk.last {p:Int} {had:List (List PgM)} (h:HadOk p had) {n:Int} (hn:0 ≤ n ∧ n < p):lastP had n ∈ rowOf had n:=by
 obtain ⟨l,hl,i,q,h1,h2,h3,h4,_⟩:=h.get hn
 unfold rowOf
 rw [hl,h3]
 exact h4
theorem rowOf_set {p:Int} {had:List (List PgM)} (h:HadOk p had) {n m:Int} (hn:0 ≤ n ∧ n < p) (hm:0 ≤ m ∧ m < p) (q:PgM) :
  rowOf (had.set n.toNat ((had[n.toNat]?).getD [] ++ [q])) m = if m = n then rowOf had n ++ [q] else rowOf had m:=by
 have hlt:n.toNat < had.length:=by have:=h.len;omega
 unfold rowOf
 rw [List.getElem?_set]
 by_cases e:m = n
 ·subst e
  rw [if_pos rfl,if_pos hlt,if_pos rfl]
  rfl
 ·rw [if_neg (by omega),if_neg e]
theorem OldO.gets {X:StM} (K:OldO X) (o:OpM):(X.gets o).1 = true ∧ OldO (X.gets o).2:=by
 have hp:=K.run.pg
 have hn:=mod_bd (a:=o.n) (show 0 < X.S.P.pages by omega)
 obtain ⟨h1,h2,h3,h4⟩:=K.run.get hn
 unfold StM.gets
 dsimp only
 rcases h1 with h1|⟨h1,hd⟩|⟨h1,⟨f,hf⟩,he⟩
 ·rw [if_pos (by omega)]
  exact ⟨by dsimp only;rw [h1];simp,⟨h2,by dsimp only;rw [h4];exact K.had,by dsimp only;rw [h4];exact K.dl⟩⟩
 ·rw [if_pos (by omega)]
  exact ⟨by dsimp only;unfold downE;rw [h1,hd];rfl,⟨h2,by dsimp only;rw [h4];exact K.had,by dsimp only;rw [h4];exact K.dl⟩⟩
 ·rw [if_neg (by omega)]
  refine ⟨?_,⟨h2,by dsimp only;rw [h4];exact K.had,by dsimp only;rw [h4];exact K.dl⟩⟩
  dsimp only
  rw [hf,decide_eq_true_eq]
  exact congrArg some (h2.key he _ f hf).1
theorem OldO.puts {X:StM} (K:OldO X) {o:OpM} (hi:o.pg.In) (ha:In64 o.a):(X.puts o).1 = true ∧ OldO (X.puts o).2:=by
 have hp:=K.run.pg
 have hn:=mod_bd (a:=o.n) (show 0 < X.S.P.pages by omega)
 obtain ⟨h1,h2,h3,h4⟩:=K.run.get hn
 unfold StM.puts
 dsimp only
 rcases h1 with h1|⟨h1,hd⟩|⟨h1,⟨f,hf⟩,he⟩
 ·rw [if_pos (by omega)]
  exact ⟨by dsimp only;rw [h1];simp,⟨h2,by dsimp only;rw [h4];exact K.had,by dsimp only;rw [h4];exact K.dl⟩⟩
 ·rw [if_pos (by omega)]
  exact ⟨by dsimp only;unfold downE;rw [h1,hd];rfl,⟨h2,by dsimp only;rw [h4];exact K.had,by dsimp only;rw [h4];exact K.dl⟩⟩
 ·rw [if_neg (by omega)]
  obtain ⟨l,_,i,q,_,_,hlast,_,hq1,hq2⟩:=K.had.get hn
  obtain ⟨n,hnn⟩:∃ n,n = o.n % X.S.P.pages:=⟨_,rfl⟩
  rw [← hnn] at hn h1 h2 h3 h4 hf he hlast ⊢
  obtain ⟨b1,b2,b3,b4,b5,b6⟩:=putP_bd o n (lastP X.had n)
  have hl0:0 ≤ (lastP X.had n).lsn ∧ (lastP X.had n).lsn ≤ 10000:=by rw [hlast];exact ⟨hq1,hq2⟩
  obtain ⟨x,hx⟩:∃ x,x = putP o n (lastP X.had n):=⟨_,rfl⟩
  have hxn:x.num = n:=by rw [hx];rfl
  have hxf:x.fault = 0:=by rw [hx];exact putP_fault o (by omega) hl0
  have hxi:x.In:=by rw [hx];exact putP_in hi ha (by omega) hl0
  rw [← hx] at b5 b6 ⊢
  have hd0:doneAt X.done n ≤ (lastP X.had n).lsn:=by
   -- the bytes of the last state are among those that may be
   obtain ⟨q',_,e1,e2,e3,e4,e5⟩:=K.run.new n hn
   have g:=K.run.good n hn
   have:lastP X.had n = q':=by
    have d1:=dec_enc g.2.1 g.2.2.1
    have d2:=dec_enc e4 e5
    rw [g.1] at d1
    rw [e3,← e1,d1] at d2
    exact (Prod.mk.inj d2).2
   rw [this];exact e2
  obtain ⟨okb',hokb'⟩:∃ f,f = okOf (X.had.set n.toNat ((X.had[n.toNat]?).getD [] ++ [x])) X.done:=⟨_,rfl⟩
  have hmono:∀ m,0 ≤ m ∧ m < X.S.P.pages → ∀ b,okOf X.had X.done m b → okb' m b:=fun m hm b ⟨q',h1',h2'⟩=>by
   rw [hokb']
   refine ⟨q',?_,h2'⟩
   rw [rowOf_set K.had hn hm]
   split
   ·rename_i e;rw [← e];exact List.mem_append_left _ h1'
   ·exact h1'
  have hnew:okb' x.num (encP x):=by
   rw [hokb',hxn]
   refine ⟨x,?_,rfl,by omega,hxn,hxf,hxi⟩
   rw [rowOf_set K.had hn hn,if_pos rfl]
   exact List.mem_append_right _ List.mem_cons_self
  have h2':Run (X.S.get n).2 (lastP X.had) okb':=h2.congr (fun _ _=>rfl) fun m hm=>hmono m (by rw [← h4];exact hm)
  have hpu:=h2'.sput (x:=x) (f:=f) he (by rw [h4,hxn];exact hn) (by rw [hxn];exact hf) hxf hxi (by rw [hxn];exact b5) hnew
  by_cases c:x.lsn > (X.S.get n).2.L.recs.length
  ·rw [if_pos c] at hpu
   rw [hpu,if_pos c]
   exact ⟨by simp,⟨h2,by dsimp only;rw [h4];exact K.had,by dsimp only;rw [h4];exact K.dl⟩⟩
  ·rw [if_neg c] at hpu
   obtain ⟨p1,p2,p3,p4⟩:=hpu
   rw [if_neg (by rw [p3];exact c),if_neg (fun k=>k p1)]
   have hlsn:x.lsn ≤ 10000:=by
    have r1:=K.run.ok.recs
    have r2:=K.run.ok.cnt
    have r3:=K.run.ok.may
    unfold MayP at r3
    rw [h3] at c
    omega
   refine ⟨rfl,⟨?_,?_,by dsimp only;rw [p4,h4];exact K.dl⟩⟩
   ·dsimp only
    rw [← hokb']
    refine p2.congr (fun m hm=>?_) fun _ _ _ h=>h
    rw [p4,h4] at hm
    rw [hxn]
    exact (lastP_set K.had hn hm _).symm
   ·dsimp only
    rw [p4,h4]
    exact K.had.set ⟨by omega,hlsn⟩
theorem OldO.pins {X:StM} (K:OldO X) (o:OpM):(X.pins o).1 = true ∧ OldO (X.pins o).2:=by
 have hp:=K.run.pg
 have hn:=mod_bd (a:=o.n) (show 0 < X.S.P.pages by omega)
 obtain ⟨h1,h2,h3,h4⟩:=K.run.pin hn
 unfold StM.pins
 dsimp only
 refine ⟨?_,⟨h2,by dsimp only;rw [h4];exact K.had,by dsimp only;rw [h4];exact K.dl⟩⟩
 unfold downE
 rcases h1 with h1|⟨h1,hd⟩|h1
 ·rw [h1];simp
 ·rw [h1,hd];simp
 ·rw [h1];simp
theorem OldO.outs {X:StM} (K:OldO X) {n:Int} {r:Int × Sto} (hn:0 ≤ n ∧ n < X.S.P.pages) (h:OutOk X.S (lastP X.had) (okOf X.had X.done) n r):(X.outs n r).1 = true ∧ OldO (X.outs n r).2:=by
 obtain ⟨h1,h2,h3,h4⟩:=h
 unfold StM.outs downE
 rcases h1 with ⟨h1,hl⟩|h1|h1|⟨h1,hd⟩
 ·rw [if_pos h1]
  refine ⟨by rw [h1];simp,⟨?_,by dsimp only;rw [h3];exact K.had,by dsimp only;rw [List.length_set,h3];exact K.dl⟩⟩
  have hlt:n.toNat < X.done.length:=by have:=K.dl;omega
  have hda:∀ m,0 ≤ m → doneAt (X.done.set n.toNat (lastP X.had n).lsn) m = if m = n then (lastP X.had n).lsn else doneAt X.done m:=fun m hm=>by
   unfold doneAt
   rw [List.getElem?_set]
   by_cases e:m = n
   ·subst e;rw [if_pos rfl,if_pos hlt,if_pos rfl];rfl
   ·rw [if_neg (by omega),if_neg e]
  have hsame:∀ m,0 ≤ m → m ≠ n → ∀ b,okOf X.had X.done m b → okOf X.had (X.done.set n.toNat (lastP X.had n).lsn) m b:=fun m hm hne b ⟨q,a1,a2,a3,a4⟩=>⟨q,a1,a2,by rw [hda m hm,if_neg hne];exact a3,a4⟩
  have hthis:okOf X.had (X.done.set n.toNat (lastP X.had n).lsn) n (encP (lastP X.had n)):=by
   obtain ⟨g1,g2,g3,_⟩:=K.run.good n hn
   exact ⟨lastP X.had n,K.had.last hn,rfl,by rw [hda n hn.1,if_pos rfl];exact Int.le_refl _,g1,g2,g3⟩
  dsimp only
  refine h2.bytes (fun m hm=>?_) fun m hm=>?_
  ·by_cases e:m = n
   ·rw [e];exact hthis
   ·exact hsame m hm.1 e _ (h2.new m hm)
  ·by_cases e:m = n
   ·rw [e,hl];exact hthis
   ·exact hsame m hm.1 e _ (h2.old m hm)
 ·rw [if_neg (by omega)]
  exact ⟨by rw [h1];simp,⟨h2,by dsimp only;rw [h3];exact K.had,by dsimp only;rw [h3];exact K.dl⟩⟩
 ·rw [if_neg (by omega)]
  exact ⟨by rw [h1];simp,⟨h2,by dsimp only;rw [h3];exact K.had,by dsimp only;rw [h3];exact K.dl⟩⟩
 ·rw [if_neg (by omega)]
  exact ⟨by rw [h1,hd];simp,⟨h2,by dsimp only;rw [h3];exact K.had,by dsimp only;rw [h3];exact K.dl⟩⟩
theorem OldO.play {X:StM} (K:OldO X) {o:OpM} (hi:o.pg.In) (ha:In64 o.a):(X.play o).1 = true ∧ OldO (X.play o).2:=by
 have hp:=K.run.pg
 have hn:=mod_bd (a:=o.n) (show 0 < X.S.P.pages by omega)
 unfold StM.play
 split
 ·exact K.gets o
 split
 ·exact K.pins o
 split
 ·exact K.puts hi ha
 split
 ·obtain ⟨h1,h2,h3⟩:=K.run.unpin (o.n % X.S.P.pages)
  exact ⟨rfl,⟨h1,by dsimp only;rw [h3];exact K.had,by dsimp only;rw [h3];exact K.dl⟩⟩
 split
 ·exact K.outs hn (K.run.evict hn)
 split
 ·exact K.outs hn (K.run.flush hn)
 split
 ·have ht:=mod_bd (a:=o.a) (show (0:Int) < 1000 by decide)
  obtain ⟨h1,h2⟩:=K.run.begE (t:=1 + o.a % 1000) (by omega)
  exact ⟨rfl,⟨h1,by dsimp only;rw [h2];exact K.had,by dsimp only;rw [h2];exact K.dl⟩⟩
 split
 ·have hm:=mod_bd (a:=o.a) (show (0:Int) < X.S.L.recs.length + 1 by omega)
  obtain ⟨h1,h2⟩:=K.run.force (n:=o.a % (X.S.L.recs.length + 1)) (by omega)
  exact ⟨rfl,⟨h1,by dsimp only;rw [h2];exact K.had,by dsimp only;rw [h2];exact K.dl⟩⟩
 ·exact ⟨rfl,K⟩
theorem oldO0 {p lg f:Int} (h:MayP p lg f) {D:Dev} (hD:D.Ok) (hq:D.q = []) (hi:D.img = (sto0 p lg f).D.img) (hd:D.down = false):OldO { stm0 p lg f with S:={ sto0 p lg f with D:=D } }:=by
 have h':=h
 unfold MayP at h'
 have k0:=ok0 h
 have hz:∀ i:Int,0 ≤ i → i < 5 + 2 * p + lg → secOf D.img i = z512:=fun i h1 h2=>by
  rw [hi]
  have:=Go.Proofs.YtbcedpankkdfoaaGreatDoor.zeroD_at (n:=5 + 2 * p + lg) (i:=i) ⟨h1,h2⟩
  rw [at_img (show (Go.Proofs.YtbcedpankkdfoaaGreatDoor.zeroD (5 + 2 * p + lg)).q = [] from rfl)] at this
  exact this
 have hcl:Twn.Clean D.img:=by
  unfold Twn.Clean
  rw [hz 2 (by omega) (by omega),z512_eq,List.getElem?_replicate,if_pos (by decide)]
 have hsec:D.secs = (sto0 p lg f).D.secs:=by unfold Dev.secs;rw [hi]
 have hpgz:∀ m,0 ≤ m ∧ m < p → logi D.img m = encP (last0 m):=fun m hm=>by
  rw [logi_clean hcl,hz _ (by omega) (by omega),hz _ (by omega) (by omega),enc_last0,z512_eq,z1024_eq,List.replicate_append_replicate]
 have hl0:∀ m,0 ≤ m ∧ m < p → lastP (stm0 p lg f).had m = last0 m:=fun m hm=>lastP0 hm
 have hH:HadOk p (stm0 p lg f).had:=had0 (by omega)
 have hok:∀ m,0 ≤ m ∧ m < p → okOf (stm0 p lg f).had (stm0 p lg f).done m (encP (last0 m)):=fun m hm=>by
  refine ⟨last0 m,?_,rfl,?_,rfl,last0_fault (by omega),last0_in (by omega)⟩
  ·rw [← hl0 m hm];exact hH.last hm
  ·show doneAt (List.replicate p.toNat 0) m ≤ 0
   unfold doneAt
   rw [List.getElem?_replicate,if_pos (by omega)]
   exact Int.le_refl _
 refine ⟨⟨⟨k0.may,hD,hq,?_,k0.first,k0.cnt,k0.forced,k0.recs,k0.bys,k0.nd,k0.fr,k0.us⟩,fun n hn=>?_,fun n hn=>?_,.inl hcl,fun _=>⟨rfl,rfl,hcl⟩,fun n hn=>?_,fun _ n g hg=>(by cases hg),fun _ n hn _=>?_⟩,hH,by show ((List.replicate p.toNat (0:Int)).length:Int) = p;rw [List.length_replicate];omega⟩
 ·dsimp only;rw [hsec];exact k0.secs
 ·rw [hl0 n hn]
  have hn':0 ≤ n ∧ n < p:=hn
  exact ⟨rfl,last0_fault (by omega),last0_in (by omega),Int.le_refl _⟩
 ·rw [hl0 n hn];exact hok n hn
 ·dsimp only;rw [hpgz n hn];exact hok n hn
 ·dsimp only;rw [hpgz n hn,hl0 n hn]
end Go.SL.Pool
