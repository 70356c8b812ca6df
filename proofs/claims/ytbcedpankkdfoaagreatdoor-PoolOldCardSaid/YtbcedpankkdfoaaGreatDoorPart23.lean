/- The twin, where the disk may give up at any call: a page's bytes are the old ones or the new ones. Plain words. Conditions: in each statement. -/
import Derived.Test.YtbcedpankkdfoaaGreatDoorPart22
import Derived.Test.YtbcedpankkdfoaaGreatDoorPart20
import Derived.Test.YtbcedpankkdfoaaGreatDoorPart21
import Derived.Test.YtbcedpankkdfoaaGreatDoorPart9
namespace Go.SL.Twn
open Go Go.SL Go.SL.Sec Go.SL.Fld Go.SL.Rec Go.SL.Pg
theorem mixB_get {o b:List Int} {t:Nat} (hb:b.length = 512) (ht:t ≤ 512) (p:Nat):(mixB o b t)[p]? = if p < t then b[p]? else o[p]?:=by
 unfold mixB
 have htl:(b.take t).length = t:=by rw [List.length_take];omega
 by_cases c:p < t
 ·rw [if_pos c,List.getElem?_append_left (by omega),List.getElem?_take_of_lt c]
 ·rw [if_neg c,List.getElem?_append_right (by omega),List.getElem?_drop,htl]
  congr 1;omega
theorem mark_len (h st:Int):(mark h st).length = 512:=by unfold mark mark4;rw [List.length_set,putB_len (by rw [t512_len];omega),t512_len]
theorem mark4_len (h:Int):(mark4 h).length = 512:=by unfold mark4;rw [putB_len (by rw [t512_len];omega),t512_len]
theorem mark_byt {h st:Int} (k:0 ≤ st ∧ st < 256):Byt (mark h st):=Byt.set mark4_byt k
theorem mark_last (h st:Int):(mark h st)[511]? = some st:=by
 unfold mark;rw [List.getElem?_set_self (by rw [mark4_len];decide)]
theorem mark_get {h st:Int} {p:Nat} (hp:p ≠ 511):(mark h st)[p]? = (mark4 h)[p]?:=by
 unfold mark;rw [List.getElem?_set_ne (fun e=>hp e.symm)]
theorem mark_home {h st:Int} (h0:0 ≤ h ∧ h < 4294967296):getB (mark h st) 0 4 = h:=by
 have e:((mark h st).drop 0).take 4 = ((mark4 h).drop 0).take 4:=by
  apply List.ext_getElem?
  intro p
  rw [List.drop_zero,List.drop_zero,List.getElem?_take,List.getElem?_take]
  split
  ·exact mark_get (by omega)
  ·rfl
 unfold getB
 rw [e]
 have:=getB_putB (l:=t512) (at_:=0) (size:=4) (n:=h) (by rw [t512_len];omega) h0.1 (by rw [p4];exact h0.2)
 exact this
theorem mark_inj {h h' st:Int} (a:0 ≤ h ∧ h < 4294967296) (b:0 ≤ h' ∧ h' < 4294967296) (e:mark h st = mark h' st):h = h':=by
 rw [← mark_home (st:=st) a,e,mark_home b]
theorem mix_new {o:List Int} {h:Int} {t:Nat} (ho:o.length = 512) (hl:o[511]? = some 0) (ht:t ≤ 512):mixB o (mark h 165) t = mark h 165 ∨ (mixB o (mark h 165) t)[511]? = some 0:=by
 by_cases c:t = 512
 ·left;rw [c];exact mixB_all (mark_len _ _) (by omega)
 ·right;rw [mixB_get (mark_len _ _) ht,if_neg (by omega)];exact hl
theorem mix_old {h:Int} {t:Nat} (ht:t ≤ 512):mixB (mark h 165) (mark h 0) t = mark h 165 ∨ mixB (mark h 165) (mark h 0) t = mark h 0:=by
 by_cases c:t = 512
 ·right;rw [c];exact mixB_all (mark_len _ _) (by rw [mark_len];omega)
 ·left
  apply List.ext_getElem?
  intro p
  rw [mixB_get (mark_len _ _) ht]
  split
  ·rw [mark_get (by omega),mark_get (by omega)]
  ·rfl
def Clean (m:List Int):Prop:=(secOf m 2)[511]? = some 0
def Stand (m:List Int) (h:Int):Prop:=secOf m 2 = mark h 165
instance {m:List Int} {h:Int}:Decidable (Stand m h):=inferInstanceAs (Decidable (_ = _))
theorem Clean.not {m:List Int} (h:Clean m) (k:Int):¬ Stand m k:=fun s=>by
 unfold Clean at h;unfold Stand at s
 rw [s,mark_last] at h
 exact absurd h (by decide)
def logi (m:List Int) (n:Int):List Int:=if Stand m (5 + 2 * n) then secOf m 3 ++ secOf m 4 else secOf m (5 + 2 * n) ++ secOf m (5 + 2 * n + 1)
theorem logi_clean {m:List Int} (h:Clean m) (n:Int):logi m n = secOf m (5 + 2 * n) ++ secOf m (5 + 2 * n + 1):=if_neg (h.not _)
theorem logi_stand {m:List Int} {n:Int} (h:Stand m (5 + 2 * n)):logi m n = secOf m 3 ++ secOf m 4:=if_pos h
theorem logi_other {m:List Int} {k n:Int} (h:Stand m (5 + 2 * k)) (hk:0 ≤ k ∧ k < 1000) (hn:0 ≤ n ∧ n < 1000) (hne:n ≠ k):logi m n = secOf m (5 + 2 * n) ++ secOf m (5 + 2 * n + 1):=by
 refine if_neg fun s=>hne ?_
 have:=mark_inj (h:=5 + 2 * k) (h':=5 + 2 * n) (st:=165) (by omega) (by omega) (h.symm.trans s)
 omega
structure TwOut (D D':Dev) (k:Int) (b:List Int) (e:Int):Prop where
 ok:D'.Ok
 q:D'.q = []
 len:D'.img.length = D.img.length
 away:∀ j:Int,5 ≤ j → j ≠ 5 + 2 * k → j ≠ 5 + 2 * k + 1 → secOf D'.img j = secOf D.img j
 res:(e = 0 ∧ D'.down = false ∧ Clean D'.img ∧ logi D'.img k = b ∧ ∀ n,0 ≤ n ∧ n < 1000 → n ≠ k → logi D'.img n = logi D.img n) ∨
  (e = 40 ∧ D'.down = true ∧ (Clean D'.img ∨ Stand D'.img (5 + 2 * k)) ∧ (logi D'.img k = logi D.img k ∨ logi D'.img k = b) ∧ ∀ n,0 ≤ n ∧ n < 1000 → n ≠ k → logi D'.img n = logi D.img n)
theorem two_ok {D:Dev} (ho:D.Ok) {z:Int} {b:List Int} (hz:0 ≤ z ∧ z + 2 ≤ D.secs) (hb:b.length = 1024) (hy:Byt b):WrOk D.img.length (blks z b 2 0):=by
 have hl:=ho.len
 unfold Dev.secs at hz
 intro p hp
 simp only [blks,List.mem_cons,List.not_mem_nil,or_false] at hp
 rcases hp with rfl|rfl
 ·exact ⟨by dsimp only;omega,by dsimp only;omega,by dsimp only;rw [List.length_take,List.length_drop];omega,(hy.drop _).take _⟩
 ·exact ⟨by dsimp only;omega,by dsimp only;omega,by dsimp only;rw [List.length_take,List.length_drop];omega,(hy.drop _).take _⟩
theorem one_ok {D:Dev} (ho:D.Ok) {z:Int} {b:List Int} (hz:0 ≤ z ∧ z + 1 ≤ D.secs) (hb:b.length = 512) (hy:Byt b):WrOk D.img.length (blks z b 1 0):=by
 have hl:=ho.len
 unfold Dev.secs at hz
 intro p hp
 simp only [blks,List.mem_cons,List.not_mem_nil,or_false] at hp
 subst hp
 exact ⟨by dsimp only;omega,by dsimp only;omega,by dsimp only;rw [List.length_take,List.length_drop];omega,(hy.drop _).take _⟩
theorem put2 {D:Dev} (hd:D.down = false) (ho:D.Ok) (hq:D.q = []) {z:Int} {b:List Int} (hz:0 ≤ z ∧ z + 2 ≤ D.secs) (hb:b.length = 1024) (hy:Byt b):Wrote D (pws z b 2 0 D).2 [(z,b.take 512),(z + 1,b.drop 512)] (pws z b 2 0 D).1:=by
 have h:=wls_wrote (l:=blks z b 2 0) hd ho hq (two_ok ho hz hb hy) (by simp [blks];omega)
 rw [pws_wls]
 have e:blks z b 2 0 = [(z,b.take 512),(z + 1,b.drop 512)]:=by
  simp only [blks,Nat.mul_zero,List.drop_zero]
  rw [show z + ((0:Nat):Int) = z by omega,show z + ((0 + 1:Nat):Int) = z + 1 by omega,show 512 * (0 + 1) = 512 from rfl,List.take_of_length_le (l:=b.drop 512) (by rw [List.length_drop];omega)]
 rw [e] at h ⊢
 exact h
theorem put1 {D:Dev} (hd:D.down = false) (ho:D.Ok) (hq:D.q = []) {z:Int} {b:List Int} (hz:0 ≤ z ∧ z + 1 ≤ D.secs) (hb:b.length = 512) (hy:Byt b):Wrote D (pws z b 1 0 D).2 [(z,b)] (pws z b 1 0 D).1:=by
 have h:=wls_wrote (l:=blks z b 1 0) hd ho hq (one_ok ho hz hb hy) (by simp [blks])
 rw [pws_wls]
 have e:blks z b 1 0 = [(z,b)]:=by
  simp only [blks,Nat.mul_zero,List.drop_zero]
  rw [show z + ((0:Nat):Int) = z by omega,List.take_of_length_le (by omega)]
 rw [e] at h ⊢
 exact h
theorem _root_.Go.SL.Sec.Wrote.secs {D D':Dev} {l:List (Int × List Int)} {e:Int} (h:Wrote D D' l e):D'.secs = D.secs:=by unfold Dev.secs;rw [h.len]
theorem twW_any {D:Dev} {k:Int} {b:List Int} (hd:D.down = false) (ho:D.Ok) (hq:D.q = []) (hc:Clean D.img) (hk:0 ≤ k ∧ k < 1000) (hh:5 + 2 * k + 2 ≤ D.secs) (hb:b.length = 1024) (hy:Byt b) :
  TwOut D (twW D 2 (5 + 2 * k) b).2 k b (twW D 2 (5 + 2 * k) b).1:=by
 have hs2:(secOf D.img 2).length = 512:=by
  unfold secOf
  have:=ho.pos
  have:=ho.len
  unfold Dev.secs at hh
  rw [List.length_take,List.length_drop]
  omega
 unfold twW
 rw [if_neg (by rw [hd];decide),if_neg (fun q=>q ⟨⟨by omega,by omega,by omega⟩,⟨by omega,by omega,by omega⟩,by omega⟩),if_neg (fun q=>q hb)]
 dsimp only
 have w1:=put2 hd ho hq (z:=2 + 1) (b:=b) (by omega) hb hy
 obtain ⟨R1,hR1⟩:∃ R,R = pws (2 + 1) b 2 0 D:=⟨_,rfl⟩
 rw [← hR1] at w1 ⊢
 have a1:∀ j:Int,0 ≤ j → j ≠ 3 → j ≠ 4 → secOf R1.2.img j = secOf D.img j:=fun j hj h3 h4=>w1.away j hj (by simp;omega)
 rcases w1.res with ⟨e1,d1,s1⟩|⟨e1,d1,s1⟩
 rotate_left
 ·rw [if_pos (by rw [e1];decide)]
  have hc1:Clean R1.2.img:=by unfold Clean;rw [a1 2 (by omega) (by omega) (by omega)];exact hc
  have hlg:∀ n,0 ≤ n → logi R1.2.img n = logi D.img n:=fun n hn=>by rw [logi_clean hc1,logi_clean hc,a1 _ (by omega) (by omega) (by omega),a1 _ (by omega) (by omega) (by omega)]
  exact ⟨w1.ok,w1.q,w1.len,fun j hj _ _=>a1 j (by omega) (by omega) (by omega),.inr ⟨e1,d1,.inl hc1,.inl (hlg k hk.1),fun n hn _=>hlg n hn.1⟩⟩
 rw [if_neg (fun q=>q e1)]
 have t3:secOf R1.2.img 3 = b.take 512:=s1 3 _ (by simp)
 have t4:secOf R1.2.img 4 = b.drop 512:=s1 4 _ (by simp)
 have w2:=put1 d1 w1.ok w1.q (z:=2) (b:=mark (5 + 2 * k) 165) (by rw [w1.secs];omega) (mark_len _ _) (mark_byt (by omega))
 obtain ⟨R2,hR2⟩:∃ R,R = pws 2 (mark (5 + 2 * k) 165) 1 0 R1.2:=⟨_,rfl⟩
 rw [← hR2] at w2 ⊢
 have a2:∀ j:Int,0 ≤ j → j ≠ 2 → secOf R2.2.img j = secOf R1.2.img j:=fun j hj h2=>w2.away j hj (by simp;omega)
 have hs3:∀ m:List Int,secOf m 3 = b.take 512 → secOf m 4 = b.drop 512 → secOf m 3 ++ secOf m 4 = b:=fun m x y=>by rw [x,y];exact List.take_append_drop 512 b
 rcases w2.res with ⟨e2,d2,s2⟩|⟨e2,d2,s2⟩
 rotate_left
 ·rw [if_pos (by rw [e2];decide)]
  obtain ⟨t,ht,hm⟩:=s2 2 (mark (5 + 2 * k) 165) (by simp)
  have hloc:∀ j:Int,5 ≤ j → secOf R2.2.img j = secOf D.img j:=fun j hj=>by rw [a2 j (by omega) (by omega),a1 j (by omega) (by omega) (by omega)]
  refine ⟨w2.ok,w2.q,w2.len.trans w1.len,fun j hj _ _=>hloc j hj,.inr ⟨e2,d2,?_⟩⟩
  rw [a1 2 (by omega) (by omega) (by omega)] at hm
  rcases mix_new hs2 hc ht with hx|hx
  ·have hst:Stand R2.2.img (5 + 2 * k):=hm.trans hx
   refine ⟨.inr hst,.inr ?_,fun n hn hne=>?_⟩
   ·rw [logi_stand hst]
    exact hs3 _ (by rw [a2 3 (by omega) (by omega)];exact t3) (by rw [a2 4 (by omega) (by omega)];exact t4)
   ·rw [logi_other hst hk hn hne,logi_clean hc,hloc _ (by omega),hloc _ (by omega)]
  ·have hcl:Clean R2.2.img:=by unfold Clean;rw [hm];exact hx
   have hlg:∀ n,0 ≤ n → logi R2.2.img n = logi D.img n:=fun n hn=>by rw [logi_clean hcl,logi_clean hc,hloc _ (by omega),hloc _ (by omega)]
   exact ⟨.inl hcl,.inl (hlg k hk.1),fun n hn _=>hlg n hn.1⟩
 rw [if_neg (fun q=>q e2)]
 have st2:Stand R2.2.img (5 + 2 * k):=s2 2 _ (by simp)
 have w3:=put2 d2 w2.ok w2.q (z:=5 + 2 * k) (b:=b) (by rw [w2.secs,w1.secs];omega) hb hy
 obtain ⟨R3,hR3⟩:∃ R,R = pws (5 + 2 * k) b 2 0 R2.2:=⟨_,rfl⟩
 rw [← hR3] at w3 ⊢
 have a3:∀ j:Int,0 ≤ j → j ≠ 5 + 2 * k → j ≠ 5 + 2 * k + 1 → secOf R3.2.img j = secOf R2.2.img j:=fun j hj h1 h2=>w3.away j hj (by simp;omega)
 have st3:Stand R3.2.img (5 + 2 * k):=by unfold Stand;rw [a3 2 (by omega) (by omega) (by omega)];exact st2
 have f3:secOf R3.2.img 3 = b.take 512:=by rw [a3 3 (by omega) (by omega) (by omega),a2 3 (by omega) (by omega)];exact t3
 have f4:secOf R3.2.img 4 = b.drop 512:=by rw [a3 4 (by omega) (by omega) (by omega),a2 4 (by omega) (by omega)];exact t4
 have hloc3:∀ j:Int,5 ≤ j → j ≠ 5 + 2 * k → j ≠ 5 + 2 * k + 1 → secOf R3.2.img j = secOf D.img j:=fun j hj h1 h2=>by rw [a3 j (by omega) h1 h2,a2 j (by omega) (by omega),a1 j (by omega) (by omega) (by omega)]
 rcases w3.res with ⟨e3,d3,s3⟩|⟨e3,d3,s3⟩
 rotate_left
 ·rw [if_pos (by rw [e3];decide)]
  refine ⟨w3.ok,w3.q,w3.len.trans (w2.len.trans w1.len),hloc3,.inr ⟨e3,d3,.inr st3,.inr ?_,fun n hn hne=>?_⟩⟩
  ·rw [logi_stand st3];exact hs3 _ f3 f4
  ·rw [logi_other st3 hk hn hne,logi_clean hc,hloc3 _ (by omega) (by omega) (by omega),hloc3 _ (by omega) (by omega) (by omega)]
 rw [if_neg (fun q=>q e3)]
 have g1:secOf R3.2.img (5 + 2 * k) = b.take 512:=s3 _ _ (by simp)
 have g2:secOf R3.2.img (5 + 2 * k + 1) = b.drop 512:=s3 _ _ (by simp)
 have w4:=put1 d3 w3.ok w3.q (z:=2) (b:=mark (5 + 2 * k) 0) (by rw [w3.secs,w2.secs,w1.secs];omega) (mark_len _ _) (mark_byt (by omega))
 obtain ⟨R4,hR4⟩:∃ R,R = pws 2 (mark (5 + 2 * k) 0) 1 0 R3.2:=⟨_,rfl⟩
 rw [← hR4] at w4 ⊢
 have a4:∀ j:Int,0 ≤ j → j ≠ 2 → secOf R4.2.img j = secOf R3.2.img j:=fun j hj h2=>w4.away j hj (by simp;omega)
 have hloc4:∀ j:Int,5 ≤ j → j ≠ 5 + 2 * k → j ≠ 5 + 2 * k + 1 → secOf R4.2.img j = secOf D.img j:=fun j hj h1 h2=>by rw [a4 j (by omega) (by omega)];exact hloc3 j hj h1 h2
 have hcl4:∀ hcl:Clean R4.2.img,logi R4.2.img k = b ∧ ∀ n,0 ≤ n ∧ n < 1000 → n ≠ k → logi R4.2.img n = logi D.img n:=fun hcl=>by
  refine ⟨?_,fun n hn hne=>?_⟩
  ·rw [logi_clean hcl,a4 _ (by omega) (by omega),a4 _ (by omega) (by omega),g1,g2];exact List.take_append_drop 512 b
  ·rw [logi_clean hcl,logi_clean hc,hloc4 _ (by omega) (by omega) (by omega),hloc4 _ (by omega) (by omega) (by omega)]
 have clean0:∀ m:List Int,secOf m 2 = mark (5 + 2 * k) 0 → Clean m:=fun m x=>by unfold Clean;rw [x];exact mark_last _ _
 rcases w4.res with ⟨e4,d4,s4⟩|⟨e4,d4,s4⟩
 ·have hcl:=clean0 _ (s4 2 _ (by simp))
  exact ⟨w4.ok,w4.q,w4.len.trans (w3.len.trans (w2.len.trans w1.len)),hloc4,.inl ⟨e4,d4,hcl,hcl4 hcl⟩⟩
 ·obtain ⟨t,ht,hm⟩:=s4 2 (mark (5 + 2 * k) 0) (by simp)
  rw [show secOf R3.2.img 2 = mark (5 + 2 * k) 165 from st3] at hm
  refine ⟨w4.ok,w4.q,w4.len.trans (w3.len.trans (w2.len.trans w1.len)),hloc4,.inr ⟨e4,d4,?_⟩⟩
  rcases mix_old (h:=5 + 2 * k) ht with hx|hx
  ·have hst:Stand R4.2.img (5 + 2 * k):=hm.trans hx
   refine ⟨.inr hst,.inr ?_,fun n hn hne=>?_⟩
   ·rw [logi_stand hst]
    exact hs3 _ (by rw [a4 3 (by omega) (by omega)];exact f3) (by rw [a4 4 (by omega) (by omega)];exact f4)
   ·rw [logi_other hst hk hn hne,logi_clean hc,hloc4 _ (by omega) (by omega) (by omega),hloc4 _ (by omega) (by omega) (by omega)]
  ·have hcl:=clean0 _ (hm.trans hx)
   exact ⟨.inl hcl,.inr (hcl4 hcl).1,(hcl4 hcl).2⟩
end Go.SL.Twn
/- What holds of every pool, its log and its disk: plain words. Conditions: in each statement. -/
namespace Go.SL.Pg
open Go Go.SL Go.SL.Sec Go.SL.Fld Go.SL.Rec
theorem ite_eq {c:Prop} [Decidable c] {e:Int} {p:PgM} {X:Int × PgM} (he:c → e ≠ 0) (h:(if c then (e,PgM.no) else X) = (0,p)):¬ c ∧ X = (0,p):=by
 split at h
 ·rename_i k;exact absurd (Prod.mk.inj h).1 (he k)
 ·rename_i k;exact ⟨k,h⟩
theorem cntD_in {b:List Int} (hb:Byt b) (i:Nat):CntIn (cntD b i):=by
 have y0:=getB_bd hb (16 + i * 32) 4
 have y1:=getB_bd hb (16 + i * 32 + 4) 4
 have y2:=getB_bd hb (16 + i * 32 + 8) 8
 have y3:=getB_bd hb (16 + i * 32 + 16) 8
 have y4:=getB_bd hb (16 + i * 32 + 24) 8
 rw [p4] at y0 y1
 rw [p8] at y2 y3 y4
 unfold cntD
 exact ⟨by unfold In64;dsimp only;omega,by unfold In64;dsimp only;omega,s64_bd y2,s64_bd y3,s64_bd y4⟩
theorem grpD_in {b:List Int} (hb:Byt b) (i:Nat):GrpIn (grpD b i):=by
 have y0:=getB_bd hb (16 + i * 12) 4
 have y1:=getB_bd hb (16 + i * 12 + 4) 8
 rw [p4] at y0
 rw [p8] at y1
 unfold grpD
 exact ⟨by unfold In64;dsimp only;omega,s64_bd y1⟩
theorem decP_ok {b:List Int} {n:Int} {p:PgM} (hb:Byt b) (h:decP b n = (0,p)):p.num = n ∧ p.In ∧ p.C.length ≤ 31 ∧ p.G.length ≤ 84 ∧ 0 ≤ p.lsn ∧ p.lsn ≤ 2147483647:=by
 unfold decP at h
 obtain ⟨h1,h⟩:=ite_eq (fun _=>by decide) h
 have h1:=Decidable.not_not.1 h1
 obtain ⟨_,h⟩:=ite_eq (fun _=>by decide) h
 by_cases hz:Go.Proofs.YtbcedpankkdfoaaGreatDoor.zerosB b = true
 ·rw [if_pos hz] at h
  cases h
  exact ⟨rfl,⟨by unfold In64;dsimp only;omega,by unfold In64;dsimp only;omega,fun c hc=>(by cases hc),fun c hc=>(by cases hc)⟩,Nat.zero_le _,Nat.zero_le _,Int.le_refl _,by dsimp only;omega⟩
 rw [if_neg hz] at h
 obtain ⟨_,h⟩:=ite_eq (fun _=>by decide) h
 obtain ⟨_,h⟩:=ite_eq (fun _=>by decide) h
 obtain ⟨_,h⟩:=ite_eq (fun _=>by decide) h
 obtain ⟨_,h⟩:=ite_eq (fun _=>by decide) h
 obtain ⟨h8,h⟩:=ite_eq (fun _=>by decide) h
 obtain ⟨_,h⟩:=ite_eq (fun k=>k) h
 obtain ⟨_,h⟩:=ite_eq (fun _=>by decide) h
 obtain rfl:=(Prod.mk.inj h).2
 have h8a:=Decidable.not_not.1 fun k=>h8 (.inl k)
 have h8b:=Decidable.not_not.1 fun k=>h8 (.inr k)
 unfold pgD
 split
 ·rename_i k
  rw [if_pos k] at h8a
  refine ⟨rfl,⟨by unfold In64;dsimp only;omega,by unfold In64;dsimp only;omega,fun c hc=>(by cases hc),fun c hc=>?_⟩,Nat.zero_le _,by dsimp only;rw [grpsD_len];omega,by dsimp only;omega,by dsimp only;omega⟩
  obtain ⟨i,_,rfl⟩:=List.mem_map.1 hc
  exact grpD_in hb i
 ·rename_i k
  rw [if_neg k] at h8a
  refine ⟨rfl,⟨by unfold In64;dsimp only;omega,by unfold In64;dsimp only;omega,fun c hc=>?_,fun c hc=>(by cases hc)⟩,by dsimp only;rw [cntsD_len];omega,Nat.zero_le _,by dsimp only;omega,by dsimp only;omega⟩
  obtain ⟨i,_,rfl⟩:=List.mem_map.1 hc
  exact cntD_in hb i
end Go.SL.Pg
namespace Go.SL.Pool
open Go Go.SL Go.SL.Sec Go.SL.Fld Go.SL.Rec Go.SL.Twn Go.SL.Pg Go.SL.Mst
structure FrOk (pages last:Int) (clock:Int) (n:Int) (f:FrM):Prop where
 num:f.pg.num = n
 pin:f.pg.In
 C:f.pg.C.length ≤ 31
 G:f.pg.G.length ≤ 84
 lsn:0 ≤ f.pg.lsn
 key:0 ≤ n ∧ n < pages
 dirty:f.dirty = true → f.pg.fault = 0 ∧ f.pg.lsn ≤ last
 used:f.used ≤ clock
structure Sto.Ok (S:Sto):Prop where
 may:MayP S.P.pages S.P.log S.P.frames
 dok:S.D.Ok
 q:S.D.q = []
 secs:S.D.secs = 5 + 2 * S.P.pages + S.P.log
 first:S.L.first = 5 + 2 * S.P.pages
 cnt:S.L.count = S.P.log
 forced:S.L.forced + S.L.bys.length = S.L.recs.length
 recs:(S.L.recs.length:Int) ≤ S.L.count
 bys:∀ b ∈ S.L.bys,Byt b ∧ b.length ≤ 505
 nd:(S.P.held.map (·.1)).Nodup
 fr:∀ n f,S.P.held.lookup n = some f → FrOk S.P.pages S.L.recs.length S.P.clock n f
 us:∀ n m f g,S.P.held.lookup n = some f → S.P.held.lookup m = some g → f.used = g.used → n = m
theorem wls_q {l:List (Int × List Int)} {D:Dev} (ho:D.Ok) (hq:D.q = []) (hl:WrOk D.img.length l) (hd:D.down = false):(wls l D).2.q = [] ∧ (wls l D).2.Ok ∧ (wls l D).2.img.length = D.img.length ∧ ((wls l D).1 = 0 ∨ (wls l D).1 = 40):=by
 rcases wls_any l D hd ho hl with ⟨k1,_,k3,k4,k5⟩|⟨k1,_,k3,k4,l1,l2,k5,k6⟩
 ·rw [hq,List.nil_append] at k5
  exact ⟨k4,k3,by rw [k5];exact (flushG_ok l D.img hl ho.byt).1,.inl k1⟩
 ·rw [hq,List.nil_append] at k6
  exact ⟨k4,k3,CrB.len l1 _ _ (fun p hp=>hl p (by rw [k5];exact List.mem_append_left _ hp)) k6,.inr k1⟩
end Go.SL.Pool
/- What every call of a pool leaves right: plain words. Conditions: in each statement. -/
namespace Go.SL.Pool
open Go Go.SL Go.SL.Sec Go.SL.Fld Go.SL.Rec Go.SL.Twn Go.SL.Pg Go.SL.Mst
theorem wls_down:∀ (l:List (Int × List Int)) {D:Dev},D.down = true → wls l D = (40,D)
 | [],D,h=>by unfold wls Dev.sync;rw [if_pos h]
 | p :: l,D,h=>by
  have:D.write p.1 p.2 = (40,D):=by unfold Dev.write;rw [if_pos h]
  unfold wls
  rw [this,if_neg (show ¬ (40:Int) = 0 by decide)]
theorem wls_any2 {l:List (Int × List Int)} {D:Dev} (ho:D.Ok) (hq:D.q = []) (hl:WrOk D.img.length l):(wls l D).2.q = [] ∧ (wls l D).2.Ok ∧ (wls l D).2.img.length = D.img.length ∧ ((wls l D).1 = 0 ∨ (wls l D).1 = 40):=by
 cases hd:D.down with
 | true=>rw [wls_down l hd];exact ⟨hq,ho,rfl,.inr rfl⟩
 | false=>exact wls_q ho hq hl hd
theorem recS_ok {D:Dev} (ho:D.Ok) (first:Int):∀ (l:List (List Int)) (n:Nat),0 ≤ first + n - 1 → first + n - 1 + l.length ≤ D.secs → (∀ b ∈ l,Byt b ∧ b.length ≤ 505) → WrOk D.img.length (recS first n l)
 | [],_,_,_,_=>fun p hp=>(by cases hp)
 | b :: l,n,h0,hs,hb=>by
  rw [List.length_cons] at hs
  obtain ⟨hby,hbl⟩:=hb b List.mem_cons_self
  have hlen:=ho.len
  intro p hp
  rcases List.mem_cons.1 hp with rfl|hp
  ·unfold Dev.secs at hs
   exact ⟨h0,by dsimp only;omega,laidB_len hbl,laidB_byt hby⟩
  ·exact recS_ok ho first l (n + 1) (by omega) (by omega) (fun x hx=>hb x (List.mem_cons_of_mem _ hx)) p hp
structure LogOk (L:LogM):Prop where
 forced:L.forced + L.bys.length = L.recs.length
 recs:(L.recs.length:Int) ≤ L.count
 bys:∀ b ∈ L.bys,Byt b ∧ b.length ≤ 505
structure ForceOk (L:LogM) (D:Dev) (r:Int × LogM × Dev):Prop where
 first:r.2.1.first = L.first
 count:r.2.1.count = L.count
 recs:r.2.1.recs = L.recs
 log:LogOk r.2.1
 dok:r.2.2.Ok
 q:r.2.2.q = []
 len:r.2.2.img.length = D.img.length
theorem force_ok {L:LogM} {D:Dev} (lsn:Int) (ho:D.Ok) (hq:D.q = []) (h0:0 ≤ L.first) (hs:L.first + L.count ≤ D.secs) (hl:LogOk L):ForceOk L D (L.force D lsn):=by
 have hf:=hl.forced
 have hr:=hl.recs
 unfold LogM.force
 by_cases c1:L.err.isSome = true
 ·rw [if_pos c1];exact ⟨rfl,rfl,rfl,hl,ho,hq,rfl⟩
 rw [if_neg c1]
 by_cases c2:lsn < 0 ∨ lsn > L.recs.length
 ·rw [if_pos c2];exact ⟨rfl,rfl,rfl,hl,ho,hq,rfl⟩
 rw [if_neg c2]
 by_cases c3:lsn ≤ L.forced
 ·rw [if_pos c3];exact ⟨rfl,rfl,rfl,hl,ho,hq,rfl⟩
 rw [if_neg c3]
 dsimp only
 rw [wrs_wls]
 obtain ⟨k1,k2,k3,k4⟩:=wls_any2 (l:=recS L.first (L.forced + 1) (L.bys.take (lsn.toNat - L.forced))) ho hq (recS_ok ho L.first _ _ (by omega) (by rw [List.length_take];omega) fun b hb=>hl.bys b (List.mem_of_mem_take hb))
 split
 ·exact ⟨rfl,rfl,rfl,⟨by dsimp only;rw [List.length_drop];omega,hr,fun b hb=>hl.bys b (List.mem_of_mem_drop hb)⟩,k2,k1,k3⟩
 ·exact ⟨rfl,rfl,rfl,⟨hf,hr,hl.bys⟩,k2,k1,k3⟩
theorem twW_ok {D:Dev} {h:Int} {b:List Int} (ho:D.Ok) (hq:D.q = []) (hh:5 ≤ h ∧ h + 2 ≤ D.secs) (hb:b.length = 1024) (hy:Byt b):(twW D 2 h b).2.Ok ∧ (twW D 2 h b).2.q = [] ∧ (twW D 2 h b).2.img.length = D.img.length ∧ ((twW D 2 h b).1 = 0 ∨ (twW D 2 h b).1 = 40):=by
 have sec:∀ {A B:Dev},A.img.length = B.img.length → A.secs = B.secs:=fun e=>by unfold Dev.secs;rw [e]
 unfold twW
 by_cases hd:D.down = true
 ·rw [if_pos hd];exact ⟨ho,hq,rfl,.inr rfl⟩
 rw [if_neg hd,if_neg (fun q=>q ⟨⟨by omega,by omega,by omega⟩,⟨by omega,by omega,by omega⟩,by omega⟩),if_neg (fun q=>q hb)]
 dsimp only
 have w1:=wls_any2 ho hq (two_ok ho (z:=2 + 1) (b:=b) (by omega) hb hy)
 rw [← pws_wls] at w1
 obtain ⟨R1,hR1⟩:∃ R,R = pws (2 + 1) b 2 0 D:=⟨_,rfl⟩
 rw [← hR1] at w1 ⊢
 obtain ⟨q1,o1,n1,e1⟩:=w1
 split
 ·rename_i k;exact ⟨o1,q1,n1,.inr (e1.resolve_left k)⟩
 have w2:=wls_any2 o1 q1 (one_ok o1 (z:=2) (b:=Twn.mark h 165) (by rw [sec n1];omega) (mark_len _ _) (mark_byt (by omega)))
 rw [← pws_wls] at w2
 obtain ⟨R2,hR2⟩:∃ R,R = pws 2 (Twn.mark h 165) 1 0 R1.2:=⟨_,rfl⟩
 rw [← hR2] at w2 ⊢
 obtain ⟨q2,o2,n2,e2⟩:=w2
 split
 ·rename_i k;exact ⟨o2,q2,n2.trans n1,.inr (e2.resolve_left k)⟩
 have w3:=wls_any2 o2 q2 (two_ok o2 (z:=h) (b:=b) (by rw [sec (n2.trans n1)];omega) hb hy)
 rw [← pws_wls] at w3
 obtain ⟨R3,hR3⟩:∃ R,R = pws h b 2 0 R2.2:=⟨_,rfl⟩
 rw [← hR3] at w3 ⊢
 obtain ⟨q3,o3,n3,e3⟩:=w3
 split
 ·rename_i k;exact ⟨o3,q3,n3.trans (n2.trans n1),.inr (e3.resolve_left k)⟩
 have w4:=wls_any2 o3 q3 (one_ok o3 (z:=2) (b:=Twn.mark h 0) (by rw [sec (n3.trans (n2.trans n1))];omega) (mark_len _ _) (mark_byt (by omega)))
 rw [← pws_wls] at w4
 exact ⟨w4.2.1,w4.1,w4.2.2.1.trans (n3.trans (n2.trans n1)),w4.2.2.2⟩
theorem Sto.Ok.log {S:Sto} (h:S.Ok):LogOk S.L:=⟨h.forced,h.recs,h.bys⟩
theorem Sto.Ok.page {S:Sto} (h:S.Ok) {n:Int} (hn:0 ≤ n ∧ n < S.P.pages):5 ≤ 5 + 2 * n ∧ 5 + 2 * n + 2 ≤ S.D.secs:=by
 have h1:=h.secs
 have h2:=h.may
 unfold MayP at h2
 omega
theorem Sto.Ok.ends {S:Sto} (h:S.Ok):S.ends.Ok :=
 ⟨h.may,h.dok,h.q,h.secs,h.first,h.cnt,h.forced,h.recs,h.bys,List.nodup_nil,fun n f hf=>(by cases hf),fun n m f g hf=>(by cases hf)⟩
theorem Sto.Ok.seen {S:Sto} (h:S.Ok) (e:Int):(S.seen e).Ok:=by unfold Sto.seen;split;exact h.ends;exact h
theorem Sto.Ok.over {S:Sto} (h:S.Ok) {L:LogM} {D:Dev} (l1:L.first = S.L.first) (l2:L.count = S.L.count) (l3:L.recs = S.L.recs) (l4:LogOk L) (d1:D.Ok) (d2:D.q = []) (d3:D.img.length = S.D.img.length):(⟨S.P,L,D⟩:Sto).Ok :=
 ⟨h.may,d1,d2,by have:=h.secs;unfold Dev.secs at *;dsimp only;rw [d3];exact this,by dsimp only;rw [l1];exact h.first,by dsimp only;rw [l2];exact h.cnt,l4.forced,l4.recs,l4.bys,h.nd,by dsimp only;rw [l3];exact h.fr,h.us⟩
theorem Sto.Ok.put {S:Sto} (h:S.Ok) {n:Int} {g:FrM} (hg:FrOk S.P.pages S.L.recs.length S.P.clock n g) (hu:∀ m f,S.P.held.lookup m = some f → f.used = g.used → m = n):({ S with P:=S.P.put n g }:Sto).Ok:=by
 have hlk:∀ m,(S.P.put n g).held.lookup m = if m = n then some g else S.P.held.lookup m:=fun m=>updKV_lookup n _ m S.P.held
 refine ⟨h.may,h.dok,h.q,h.secs,h.first,h.cnt,h.forced,h.recs,h.bys,upd_nodup n _ _ h.nd,fun m f hf=>?_,fun m k f e hf he hu'=>?_⟩
 ·dsimp only at hf ⊢
  rw [hlk] at hf
  by_cases c:m = n
  ·rw [if_pos c] at hf;cases hf;subst c;exact hg
  ·rw [if_neg c] at hf;exact h.fr m f hf
 ·dsimp only at hf he
  rw [hlk] at hf he
  by_cases c:m = n
  ·rw [if_pos c] at hf
   cases hf
   by_cases c2:k = n
   ·rw [c,c2]
   ·rw [if_neg c2] at he;rw [c];exact (hu k e he hu'.symm).symm
  ·rw [if_neg c] at hf
   by_cases c2:k = n
   ·rw [if_pos c2] at he;cases he;rw [c2];exact hu m f hf hu'
   ·rw [if_neg c2] at he;exact h.us m k f e hf he hu'
theorem Sto.Ok.use {S:Sto} (h:S.Ok) {n:Int} {g:FrM} (hg:FrOk S.P.pages S.L.recs.length (S.P.clock + 1) n { g with used:=S.P.clock + 1 }):({ S with P:=S.P.use n g }:Sto).Ok:=by
 have h':({ S with P:={ S.P with clock:=S.P.clock + 1 } }:Sto).Ok :=
  ⟨h.may,h.dok,h.q,h.secs,h.first,h.cnt,h.forced,h.recs,h.bys,h.nd,fun m f hf=>by
   have k:=h.fr m f hf
   exact ⟨k.num,k.pin,k.C,k.G,k.lsn,k.key,k.dirty,by have:=k.used;dsimp only;omega⟩,h.us⟩
 exact h'.put (g:={ g with used:=S.P.clock + 1 }) hg fun m f hf hu=>by
  have:=(h.fr m f hf).used
  dsimp only at hu
  omega
theorem Sto.Ok.del {S:Sto} (h:S.Ok) (n:Int):({ S with P:=S.P.del n }:Sto).Ok:=by
 have hlk:∀ m,(S.P.del n).held.lookup m = if m = n then none else S.P.held.lookup m:=fun m=>delKV_lookup n m _
 have hold:∀ m f,(S.P.del n).held.lookup m = some f → S.P.held.lookup m = some f:=fun m f hf=>by
  rw [hlk] at hf
  split at hf
  ·cases hf
  ·exact hf
 exact ⟨h.may,h.dok,h.q,h.secs,h.first,h.cnt,h.forced,h.recs,h.bys,del_nodup n _ h.nd,fun m f hf=>h.fr m f (hold m f hf),fun m k f e hf he hu=>h.us m k f e (hold m f hf) (hold k e he) hu⟩
theorem Sto.Ok.write {S:Sto} (h:S.Ok) {n:Int} {f:FrM} (hf:S.P.held.lookup n = some f):(S.write n f).2.Ok ∧ (S.write n f).2.L.recs = S.L.recs ∧ (S.write n f).2.P.clock = S.P.clock:=by
 have k:=h.fr n f hf
 unfold Sto.write
 by_cases c:f.dirty = false
 ·rw [if_pos c];exact ⟨h,rfl,rfl⟩
 rw [if_neg c]
 dsimp only
 have hk:=k.dirty (by simpa using c)
 have hpg:=h.page k.key
 have hm:=h.may
 unfold MayP at hm
 have r:=force_ok (L:=S.L) (D:=S.D) f.pg.lsn h.dok h.q (by rw [h.first];omega) (by rw [h.first,h.cnt,h.secs];omega) h.log
 obtain ⟨T,hT⟩:∃ T,T = S.L.force S.D f.pg.lsn:=⟨_,rfl⟩
 rw [← hT] at r ⊢
 have hov:=h.over r.first r.count r.recs r.log r.dok r.q r.len
 split
 ·refine ⟨hov.seen _,?_,?_⟩
  ·dsimp only;unfold Sto.seen;split <;> exact r.recs
  ·dsimp only;unfold Sto.seen;split <;> rfl
 obtain ⟨t1,t2,t3,t4⟩:=twW_ok (h:=5 + 2 * n) (b:=encP f.pg) r.dok r.q (by rw [show T.2.2.secs = S.D.secs from by unfold Dev.secs;rw [r.len]];exact hpg) (encP_len hk.1) (encP_byt hk.1)
 have hov2:=h.over r.first r.count r.recs r.log t1 t2 (t3.trans r.len)
 split
 ·refine ⟨hov2.seen _,?_,?_⟩
  ·dsimp only;unfold Sto.seen;split <;> exact r.recs
  ·dsimp only;unfold Sto.seen;split <;> rfl
 ·refine ⟨hov2.put (n:=n) (g:={ f with dirty:=false,since:=0 }) ?_ fun m g hg hu=>?_,r.recs,rfl⟩
  ·dsimp only
   rw [r.recs]
   exact ⟨k.num,k.pin,k.C,k.G,k.lsn,k.key,fun e=>(by cases e),k.used⟩
  ·exact h.us m n g f hg hf hu
theorem Sto.Ok.leave {S:Sto} (h:S.Ok) {n:Int} {f:FrM} (hf:S.P.held.lookup n = some f):(S.leave n f).2.Ok ∧ (S.leave n f).2.L.recs = S.L.recs ∧ (S.leave n f).2.P.clock = S.P.clock:=by
 obtain ⟨h1,h2,h3⟩:=h.write hf
 unfold Sto.leave
 split
 ·exact ⟨h1,h2,h3⟩
 ·exact ⟨h1.del n,h2,h3⟩
theorem Sto.Ok.load {S:Sto} (h:S.Ok) {n:Int} (hn:0 ≤ n ∧ n < S.P.pages):(S.load n).2.Ok ∧ (S.load n).2.L.recs = S.L.recs ∧ (S.load n).2.P.clock ≤ S.P.clock + 1:=by
 unfold Sto.load
 split
 ·exact ⟨h.ends,rfl,by dsimp only [Sto.ends,PoolM.gone];omega⟩
 dsimp only
 split
 ·exact ⟨h,rfl,by dsimp only;omega⟩
 ·rename_i hd
  have hb:Byt (S.D.at (5 + 2 * n) ++ S.D.at (5 + 2 * n + 1)):=by
   have:∀ i,Byt (S.D.at i):=fun i=>by
    unfold Dev.at
    rw [h.q]
    exact (h.dok.byt.drop _).take _
   exact (this _).append (this _)
  obtain ⟨p,hp⟩:∃ p,decP (S.D.at (5 + 2 * n) ++ S.D.at (5 + 2 * n + 1)) n = (0,p):=⟨_,Prod.ext (Decidable.not_not.1 hd) rfl⟩
  obtain ⟨k1,k2,k3,k4,k5,k6⟩:=decP_ok hb hp
  rw [hp]
  exact ⟨h.use ⟨k1,k2,k3,k4,k5,hn,fun e=>(by cases e),Int.le_refl _⟩,rfl,Int.le_refl _⟩
theorem Sto.Ok.get {S:Sto} (h:S.Ok) (n:Int):(S.get n).2.Ok ∧ (S.get n).2.L.recs = S.L.recs ∧ (S.get n).2.P.clock ≤ S.P.clock + 1:=by
 unfold Sto.get
 by_cases c:S.P.place n ≠ 0
 ·rw [if_pos c];exact ⟨h,rfl,by dsimp only;omega⟩
 rw [if_neg c]
 have hn:0 ≤ n ∧ n < S.P.pages:=by
  have c:=Decidable.not_not.1 c
  unfold PoolM.place at c
  split at c
  ·cases c
  ·split at c
   ·cases c
   ·omega
 cases hl:S.P.held.lookup n with
 | some f =>
  have k:=h.fr n f hl
  exact ⟨h.use ⟨k.num,k.pin,k.C,k.G,k.lsn,k.key,k.dirty,Int.le_refl _⟩,rfl,Int.le_refl _⟩
 | none =>
  dsimp only
  split
  ·cases ho:oldest S.P.held with
   | none=>exact ⟨h,rfl,by dsimp only;omega⟩
   | some o =>
    dsimp only
    obtain ⟨k1,k2,k3⟩:=h.leave (lookup_of_mem o.1 o.2 _ h.nd (oldest_mem ho))
    split
    ·exact ⟨k1,k2,by rw [k3];omega⟩
    ·rename_i he
     have hpg:(S.leave o.1 o.2).2.P.pages = S.P.pages:=by
      have e1:∀ f:FrM,(S.write o.1 f).2.P.pages = S.P.pages:=fun f=>by
       unfold Sto.write
       split
       ·rfl
       ·dsimp only
        split
        ·unfold Sto.seen;split <;> rfl
        ·split
         ·unfold Sto.seen;split <;> rfl
         ·rfl
      unfold Sto.leave
      split
      ·exact e1 _
      ·exact e1 _
     obtain ⟨j1,j2,j3⟩:=k1.load (n:=n) (by rw [hpg];exact hn)
     exact ⟨j1,j2.trans k2,by omega⟩
  ·exact h.load hn
end Go.SL.Pool
/- How many package-level variables there are: written by a program (tools/gen.py). No condition. -/
namespace Go.Proofs.YtbcedpankkdfoaaGreatDoor
abbrev g_count:Nat:=5
abbrev t_rtype:Nat:=385
abbrev x_internal_reflectlite_ValueOf:Nat:=198
theorem x_internal_reflectlite_ValueOf.fn:prog.funcs[x_internal_reflectlite_ValueOf]? = some Go.Proofs.Tryz.f198:=Go.Proofs.Tryz.func198
abbrev x_internal_reflectlite_Value_Type:Nat:=199
theorem x_internal_reflectlite_Value_Type.fn:prog.funcs[x_internal_reflectlite_Value_Type]? = some Go.Proofs.Tryz.f199:=Go.Proofs.Tryz.func199
abbrev x_internal_reflectlite_Value_IsNil:Nat:=200
theorem x_internal_reflectlite_Value_IsNil.fn:prog.funcs[x_internal_reflectlite_Value_IsNil]? = some Go.Proofs.Tryz.f200:=Go.Proofs.Tryz.func200
abbrev x_internal_reflectlite_TypeOf:Nat:=278
theorem x_internal_reflectlite_TypeOf.fn:prog.funcs[x_internal_reflectlite_TypeOf]? = some Go.Proofs.Tryz.f278:=Go.Proofs.Tryz.func278
abbrev x_internal_reflectlite_Value_Elem:Nat:=279
theorem x_internal_reflectlite_Value_Elem.fn:prog.funcs[x_internal_reflectlite_Value_Elem]? = some Go.Proofs.Tryz.f279:=Go.Proofs.Tryz.func279
abbrev x_internal_reflectlite_Value_Set:Nat:=280
theorem x_internal_reflectlite_Value_Set.fn:prog.funcs[x_internal_reflectlite_Value_Set]? = some Go.Proofs.Tryz.f280:=Go.Proofs.Tryz.func280
abbrev x_internal_reflectlite_flag_mustBeAssignable:Nat:=402
theorem x_internal_reflectlite_flag_mustBeAssignable.fn:prog.funcs[x_internal_reflectlite_flag_mustBeAssignable]? = some Go.Proofs.Tryz.f402:=Go.Proofs.Tryz.func402
abbrev x_internal_reflectlite_Value_Kind:Nat:=403
theorem x_internal_reflectlite_Value_Kind.fn:prog.funcs[x_internal_reflectlite_Value_Kind]? = some Go.Proofs.Tryz.f403:=Go.Proofs.Tryz.func403
abbrev x_internal_reflectlite_rtype_AssignableTo:Nat:=406
theorem x_internal_reflectlite_rtype_AssignableTo.fn:prog.funcs[x_internal_reflectlite_rtype_AssignableTo]? = some Go.Proofs.Tryz.f406:=Go.Proofs.Tryz.func406
abbrev x_internal_reflectlite_rtype_Comparable:Nat:=407
theorem x_internal_reflectlite_rtype_Comparable.fn:prog.funcs[x_internal_reflectlite_rtype_Comparable]? = some Go.Proofs.Tryz.f407:=Go.Proofs.Tryz.func407
abbrev x_internal_reflectlite_rtype_Elem:Nat:=408
theorem x_internal_reflectlite_rtype_Elem.fn:prog.funcs[x_internal_reflectlite_rtype_Elem]? = some Go.Proofs.Tryz.f408:=Go.Proofs.Tryz.func408
abbrev x_internal_reflectlite_rtype_Implements:Nat:=409
theorem x_internal_reflectlite_rtype_Implements.fn:prog.funcs[x_internal_reflectlite_rtype_Implements]? = some Go.Proofs.Tryz.f409:=Go.Proofs.Tryz.func409
abbrev x_internal_reflectlite_rtype_Name:Nat:=410
theorem x_internal_reflectlite_rtype_Name.fn:prog.funcs[x_internal_reflectlite_rtype_Name]? = some Go.Proofs.Tryz.f410:=Go.Proofs.Tryz.func410
abbrev x_internal_reflectlite_rtype_PkgPath:Nat:=411
theorem x_internal_reflectlite_rtype_PkgPath.fn:prog.funcs[x_internal_reflectlite_rtype_PkgPath]? = some Go.Proofs.Tryz.f411:=Go.Proofs.Tryz.func411
abbrev x_internal_reflectlite_rtype_String:Nat:=412
theorem x_internal_reflectlite_rtype_String.fn:prog.funcs[x_internal_reflectlite_rtype_String]? = some Go.Proofs.Tryz.f412:=Go.Proofs.Tryz.func412
abbrev x_internal_reflectlite_rtype_common:Nat:=413
theorem x_internal_reflectlite_rtype_common.fn:prog.funcs[x_internal_reflectlite_rtype_common]? = some Go.Proofs.Tryz.f413:=Go.Proofs.Tryz.func413
abbrev x_internal_reflectlite_rtype_uncommon:Nat:=414
theorem x_internal_reflectlite_rtype_uncommon.fn:prog.funcs[x_internal_reflectlite_rtype_uncommon]? = some Go.Proofs.Tryz.f414:=Go.Proofs.Tryz.func414
abbrev x_internal_reflectlite_ValueError_Error:Nat:=415
theorem x_internal_reflectlite_ValueError_Error.fn:prog.funcs[x_internal_reflectlite_ValueError_Error]? = some Go.Proofs.Tryz.f415:=Go.Proofs.Tryz.func415
end Go.Proofs.YtbcedpankkdfoaaGreatDoor
