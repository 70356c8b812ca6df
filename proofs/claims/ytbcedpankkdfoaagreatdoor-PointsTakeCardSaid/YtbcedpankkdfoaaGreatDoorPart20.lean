/- What a page's bytes say is the page. Conditions: in each statement. -/
import Derived.Test.YtbcedpankkdfoaaGreatDoorPart19
import Derived.Test.YtbcedpankkdfoaaGreatDoorPart17
import Derived.Test.YtbcedpankkdfoaaGreatDoorPart11
set_option linter.unusedVariables false
set_option linter.unusedSimpArgs false
namespace Go.SL.Pg
open Go Go.SL Go.SL.Sec Go.SL.Fld Go.SL.Rec
open Go.Proofs.YtbcedpankkdfoaaGreatDoor (zerosB)
theorem getB_drop (b:List Int) (a m k:Nat):getB b (a + m) k = getB (b.drop a) m k:=by unfold getB;rw [List.drop_drop]
theorem getB_head {k:Nat} {n:Int} {y:List Int} (h0:0 ≤ n) (h1:n < 256 ^ k):getB (Fld.leB k n ++ y) 0 k = n:=by
 unfold getB
 rw [List.drop_zero,List.take_append_of_le_length (by rw [leB_len];exact Nat.le_refl _),List.take_of_length_le (by rw [leB_len];exact Nat.le_refl _),leV_leB _ _ h0 h1]
theorem lays_get:∀ (l:List (Nat × Int)) (i:Nat) (k:Nat) (n:Int) (y:List Int),l[i]? = some (k,n) → 0 ≤ n → n < 256 ^ k → getB (lays l ++ y) (laysN (l.take i)) k = n
 | [],_,_,_,_,h,_,_=>by simp at h
 | q :: l,0,k,n,y,h,h0,h1=>by
  simp at h;subst h
  rw [lays,List.append_assoc]
  exact getB_head h0 h1
 | q :: l,i + 1,k,n,y,h,h0,h1=>by
  rw [List.take_succ_cons,laysN,lays,List.append_assoc,getB_drop]
  have e:(Fld.leB q.1 q.2 ++ (lays l ++ y)).drop q.1 = lays l ++ y:=by
   conv=>lhs;arg 1;rw [← leB_len q.1 q.2]
   exact List.drop_left
  rw [e]
  exact lays_get l i k n y (by simpa using h) h0 h1
def PgM.rest (p:PgM):List Int:=p.body ++ z1024.drop (16 + p.body.length)
def PgM.flat (p:PgM) (s:List Int):List Int:=lays p.headL ++ (s ++ p.rest)
theorem bare_flat {p:PgM} (h:16 + p.body.length ≤ 1024):p.bare = p.flat [0,0,0,0]:=by
 have hl:=headL_len p
 have e1:over z1024 0 (lays p.headL) = lays p.headL ++ z1024.drop 12:=by
  unfold over;rw [List.take_zero,List.nil_append,Nat.zero_add,hl]
 unfold PgM.bare PgM.flat PgM.rest
 rw [e1]
 unfold over
 have e2:(lays p.headL ++ z1024.drop 12).take 16 = lays p.headL ++ [0,0,0,0]:=by
  rw [show 16 = (lays p.headL).length + 4 by omega,List.take_length_add_append]
  congr 1
 have e3:(lays p.headL ++ z1024.drop 12).drop (16 + p.body.length) = z1024.drop (16 + p.body.length):=by
  rw [show 16 + p.body.length = (lays p.headL).length + (4 + p.body.length) by omega,List.drop_length_add_append,List.drop_drop]
  congr 1
 rw [e2,e3,List.append_assoc,List.append_assoc]
theorem flat_take {p:PgM} {s:List Int}:(p.flat s).take 12 = lays p.headL:=by
 unfold PgM.flat;rw [← headL_len p];exact List.take_left
theorem flat_d12 {p:PgM} {s:List Int}:(p.flat s).drop 12 = s ++ p.rest:=by
 unfold PgM.flat
 conv=>lhs;arg 1;rw [← headL_len p]
 exact List.drop_left
theorem flat_drop16 {p:PgM} {s:List Int} (hs:s.length = 4):(p.flat s).drop 16 = p.rest:=by
 rw [show 16 = 12 + 4 from rfl,← List.drop_drop,flat_d12,← hs]
 exact List.drop_left
theorem flat_sum {p:PgM} {s:List Int} (hs:s.length = 4):sumP (p.flat s) = sumP (p.flat [0,0,0,0]):=by
 unfold sumP;rw [flat_take,flat_take,flat_drop16 hs,flat_drop16 rfl]
theorem flat_over {p:PgM} {s t:List Int} (hs:s.length = 4) (ht:t.length = 4):over (p.flat s) 12 t = p.flat t:=by
 unfold over
 rw [flat_take,ht,flat_drop16 hs,List.append_assoc];rfl
theorem enc_flat {p:PgM} (h:16 + p.body.length ≤ 1024) (hn:p.C.length + p.G.length ≠ 0):encP p = p.flat (Fld.leB 4 (sumP (p.flat [0,0,0,0]))):=by
 unfold encP
 rw [if_neg hn,bare_flat h,flat_over rfl (leB_len _ _)]
theorem PgM.flat_len {p:PgM} {s:List Int} (h:16 + p.body.length ≤ 1024) (hs:s.length = 4):(p.flat s).length = 1024:=by
 unfold PgM.flat PgM.rest
 rw [List.length_append,List.length_append,List.length_append,List.length_drop,headL_len,hs,z1024_len];omega
theorem PgM.flat_byt {p:PgM} {s:List Int} (hs:Byt s):Byt (p.flat s):=(lays_byt _).append (hs.append ((body_byt p).append (z1024_byt.drop _)))
theorem PgM.fault_ok {p:PgM} (h:p.fault = 0):(0 ≤ p.num ∧ p.num ≤ 63) ∧ ¬ (p.C.length > 0 ∧ p.G.length > 0) ∧ (p.C.length ≤ 31 ∧ p.G.length ≤ 84) ∧ (0 ≤ p.lsn ∧ p.lsn ≤ 2147483647) ∧ (p.lsn = 0 ↔ p.C.length + p.G.length = 0) ∧ contF p.C p.G = 0:=by
 unfold PgM.fault at h
 split at h
 ·exact absurd h (by decide)
 split at h
 ·exact absurd h (by decide)
 split at h
 ·exact absurd h (by decide)
 split at h
 ·exact absurd h (by decide)
 rename_i h1 h2 h3 h4
 exact ⟨Decidable.not_not.1 h1,h2,by omega,Decidable.not_not.1 fun k=>h4 (.inl k),Decidable.not_not.1 fun k=>h4 (.inr k),h⟩
theorem PgM.body_le {p:PgM} (h:p.fault = 0):16 + p.body.length ≤ 1024:=by
 obtain ⟨_,h2,h3,_⟩:=PgM.fault_ok h
 rw [body_len];omega
theorem encP_len {p:PgM} (h:p.fault = 0):(encP p).length = 1024:=by
 by_cases hn:p.C.length + p.G.length = 0
 ·unfold encP;rw [if_pos hn];exact z1024_len
 ·rw [enc_flat (PgM.body_le h) hn];exact PgM.flat_len (PgM.body_le h) (leB_len _ _)
theorem encP_byt {p:PgM} (h:p.fault = 0):Byt (encP p):=by
 by_cases hn:p.C.length + p.G.length = 0
 ·unfold encP;rw [if_pos hn];exact z1024_byt
 ·rw [enc_flat (PgM.body_le h) hn];exact PgM.flat_byt (leB_byt _ _)
theorem zerosB_rep (n:Nat):zerosB (List.replicate n 0) = true:=by
 unfold zerosB;rw [List.all_eq_true];intro x hx;rw [List.eq_of_mem_replicate hx];rfl
theorem zerosB_z (n:Nat):zerosB (z1024.drop n) = true:=by
 rw [z1024_eq,List.drop_replicate];exact zerosB_rep _
theorem range_map {α:Type} (f:Nat → α) (l:List α) (h:∀ i x,l[i]? = some x → f i = x):(List.range l.length).map f = l:=by
 apply List.ext_getElem?
 intro i
 rw [List.getElem?_map]
 by_cases hi:i < l.length
 ·rw [List.getElem?_range hi,List.getElem?_eq_getElem hi]
  exact congrArg some (h i _ (List.getElem?_eq_getElem hi))
 ·rw [List.getElem?_eq_none (by simp;omega),List.getElem?_eq_none (by omega)];rfl
theorem crc_bd (l:List Int):0 ≤ crcV l ∧ crcV l < 4294967296:=by
 unfold crcV
 have:=(~~~ (crcL (BitVec.allOnes 32) l)).isLt
 omega
theorem u64_small {z:Int} (h:0 ≤ z ∧ z ≤ 9223372036854775807):u64 z = z:=by unfold u64;omega
theorem firstF_mem {α:Type} {f:α → Int}:∀ {l:List α},firstF f l = 0 → ∀ x ∈ l,f x = 0
 | [],_,x,h=>by cases h
 | c :: l,h,x,hx=>by
  unfold firstF at h
  split at h
  ·rename_i k;exact absurd h k
  ·rename_i k
   rcases List.mem_cons.1 hx with rfl|hx
   ·exact Decidable.not_not.1 k
   ·exact firstF_mem h x hx
theorem contF_mem {C:List CntV} {G:List GrpV} (h:contF C G = 0):(∀ c ∈ C,cntF c = 0) ∧ ∀ g ∈ G,grpF g = 0:=by
 unfold contF at h
 split at h
 ·rename_i k;exact absurd h k
 ·rename_i k;exact ⟨firstF_mem (Decidable.not_not.1 k),firstF_mem h⟩
theorem cntF_ok {c:CntV} (h:cntF c = 0):(1 ≤ c.id ∧ c.id ≤ 1048576) ∧ (1 ≤ c.grp ∧ c.grp ≤ 1048576) ∧ c.lo ≤ c.hi:=by
 unfold cntF at h
 split at h
 ·exact absurd h (by decide)
 ·split at h
  ·exact absurd h (by decide)
  ·rename_i h1 h2
   have:=Decidable.not_not.1 h1
   exact ⟨this.1,this.2,by omega⟩
theorem grpF_ok {g:GrpV} (h:grpF g = 0):1 ≤ g.id ∧ g.id ≤ 1048576:=by
 unfold grpF at h
 split at h
 ·exact absurd h (by decide)
 ·rename_i h1;exact Decidable.not_not.1 h1
theorem p4:(256:Int) ^ 4 = 4294967296:=by decide
theorem p8:(256:Int) ^ 8 = 18446744073709551616:=by decide
theorem p2:(256:Int) ^ 2 = 65536:=by decide
theorem p1:(256:Int) ^ 1 = 256:=by decide
theorem cnt_at {p:PgM} {s:List Int} (hs:s.length = 4) (hl:16 + p.body.length ≤ 1024) (hG:p.G = []) {i:Nat} {c:CntV} (h:p.C[i]? = some c):∃ y,(p.flat s).drop (16 + i * 32) = lays (cntL c) ++ y:=by
 have hi:=(List.getElem?_eq_some_iff.1 h).1
 rw [← List.drop_drop,flat_drop16 hs]
 unfold PgM.rest PgM.body
 rw [hG,List.flatMap_nil,List.append_nil,List.drop_append_of_le_length (by rw [flat_len cntL_len];omega),flat_drop cntL_len,drop_of h,List.flatMap_cons,List.append_assoc]
 exact ⟨_,rfl⟩
theorem grp_at {p:PgM} {s:List Int} (hs:s.length = 4) (hC:p.C = []) {i:Nat} {g:GrpV} (h:p.G[i]? = some g):∃ y,(p.flat s).drop (16 + i * 12) = lays (grpL g) ++ y:=by
 have hi:=(List.getElem?_eq_some_iff.1 h).1
 rw [← List.drop_drop,flat_drop16 hs]
 unfold PgM.rest PgM.body
 rw [hC,List.flatMap_nil,List.nil_append,List.drop_append_of_le_length (by rw [flat_len grpL_len];omega),flat_drop grpL_len,drop_of h,List.flatMap_cons,List.append_assoc]
 exact ⟨_,rfl⟩
theorem cntD_of {b:List Int} {i:Nat} {c:CntV} {y:List Int} (h:b.drop (16 + i * 32) = lays (cntL c) ++ y) (hi:CntIn c) (hf:cntF c = 0):cntD b i = c:=by
 obtain ⟨h1,h2,h3⟩:=cntF_ok hf
 obtain ⟨i1,i2,i3,i4,i5⟩:=hi
 have b3:=u64_bd c.lo
 have b4:=u64_bd c.hi
 have b5:=u64_bd c.val
 have e1:=lays_get (cntL c) 0 4 (u64 c.id) y rfl (by rw [u64_small (by omega)];omega) (by rw [u64_small (by omega),p4];omega)
 have e2:=lays_get (cntL c) 1 4 (u64 c.grp) y rfl (by rw [u64_small (by omega)];omega) (by rw [u64_small (by omega),p4];omega)
 have e3:=lays_get (cntL c) 2 8 (u64 c.lo) y rfl b3.1 (by rw [p8];exact b3.2)
 have e4:=lays_get (cntL c) 3 8 (u64 c.hi) y rfl b4.1 (by rw [p8];exact b4.2)
 have e5:=lays_get (cntL c) 4 8 (u64 c.val) y rfl b5.1 (by rw [p8];exact b5.2)
 unfold cntD
 rw [show 16 + i * 32 = (16 + i * 32) + 0 from rfl,getB_drop,Nat.add_zero,getB_drop b _ 4,getB_drop b _ 8,getB_drop b _ 16,getB_drop b _ 24,h]
 rw [show laysN ((cntL c).take 0) = 0 from rfl] at e1
 rw [show laysN ((cntL c).take 1) = 4 from rfl] at e2
 rw [show laysN ((cntL c).take 2) = 8 from rfl] at e3
 rw [show laysN ((cntL c).take 3) = 16 from rfl] at e4
 rw [show laysN ((cntL c).take 4) = 24 from rfl] at e5
 rw [e1,e2,e3,e4,e5,s64_u64 i3,s64_u64 i4,s64_u64 i5,u64_small (by omega),u64_small (by omega)]
theorem grpD_of {b:List Int} {i:Nat} {g:GrpV} {y:List Int} (h:b.drop (16 + i * 12) = lays (grpL g) ++ y) (hi:GrpIn g) (hf:grpF g = 0):grpD b i = g:=by
 have h1:=grpF_ok hf
 have b2:=u64_bd g.sum
 have e1:=lays_get (grpL g) 0 4 (u64 g.id) y rfl (by rw [u64_small (by omega)];omega) (by rw [u64_small (by omega),p4];omega)
 have e2:=lays_get (grpL g) 1 8 (u64 g.sum) y rfl b2.1 (by rw [p8];exact b2.2)
 unfold grpD
 rw [show 16 + i * 12 = (16 + i * 12) + 0 from rfl,getB_drop,Nat.add_zero,getB_drop b _ 4,h]
 rw [show laysN ((grpL g).take 0) = 0 from rfl] at e1
 rw [show laysN ((grpL g).take 1) = 4 from rfl] at e2
 rw [e1,e2,s64_u64 hi.2,u64_small (by omega)]
theorem dec_zero {n:Int} (hn:0 ≤ n ∧ n ≤ 63):decP z1024 n = (0,⟨n,0,[],[]⟩):=by
 unfold decP
 rw [if_neg (fun k=>k hn),if_neg (fun k=>k z1024_len),if_pos (show zerosB z1024 = true from zerosB_rep 1024)]
theorem dec_enc {p:PgM} (h:p.fault = 0) (hi:p.In):decP (encP p) p.num = (0,p):=by
 obtain ⟨h1,h2,h3,h4,h5,h6⟩:=PgM.fault_ok h
 obtain ⟨cC,cG⟩:=contF_mem h6
 by_cases hn:p.C.length + p.G.length = 0
 ·have hC:p.C = []:=List.eq_nil_of_length_eq_zero (by omega)
  have hG:p.G = []:=List.eq_nil_of_length_eq_zero (by omega)
  unfold encP
  rw [if_pos hn,dec_zero h1]
  have:p.lsn = 0:=h5.2 hn
  rw [← this,← hC]
  conv=>lhs;rw [show p.C = p.C from rfl]
  obtain ⟨num,lsn,C,G⟩:=p
  simp at hC hG
  subst hC hG
  rfl
 have hl:=PgM.body_le h
 have hpos:1 ≤ p.lsn:=by
  have:p.lsn ≠ 0:=fun k=>hn (h5.1 k)
  omega
 rw [enc_flat hl hn]
 obtain ⟨S,hS⟩:∃ S,S = Fld.leB 4 (sumP (p.flat [0,0,0,0])):=⟨_,rfl⟩
 have hSl:S.length = 4:=by rw [hS];exact leB_len _ _
 have hsum:sumP (p.flat S) = sumP (p.flat [0,0,0,0]):=flat_sum hSl
 have hcrc:0 ≤ sumP (p.flat [0,0,0,0]) ∧ sumP (p.flat [0,0,0,0]) < 4294967296:=crc_bd _
 have g12:getB (p.flat S) 12 4 = sumP (p.flat [0,0,0,0]):=by
  rw [show 12 = 12 + 0 from rfl,getB_drop,flat_d12,hS]
  exact getB_head hcrc.1 (by rw [p4];exact hcrc.2)
 rw [← hS]
 have hd:∀ i k n,p.headL[i]? = some (k,n) → 0 ≤ n → n < 256 ^ k → getB (p.flat S) (laysN (p.headL.take i)) k = n:=fun i k n a b c=>lays_get p.headL i k n (S ++ p.rest) a b c
 obtain ⟨kd,hkd⟩:∃ kd:Int,kd = if p.G.length > 0 then 2 else 1:=⟨_,rfl⟩
 have hk2:kd = 1 ∨ kd = 2:=by rw [hkd];split <;> omega
 have g0:getB (p.flat S) 0 1 = 113:=hd 0 1 113 rfl (by decide) (by decide)
 have g1:getB (p.flat S) 1 1 = kd:=hd 1 1 kd (by rw [hkd];rfl) (by omega) (by rw [p1];omega)
 have g2:getB (p.flat S) 2 2 = p.num:=by
  have:=hd 2 2 (u64 p.num) rfl (u64_bd _).1 (by rw [u64_small (by omega),p2];omega)
  rw [u64_small (z:=p.num) (by omega)] at this;exact this
 have g4:getB (p.flat S) 4 2 = ((p.C.length + p.G.length:Nat):Int):=hd 3 2 _ rfl (by omega) (by rw [p2];omega)
 have g6:getB (p.flat S) 6 2 = 0:=hd 4 2 0 rfl (by decide) (by decide)
 have g8:getB (p.flat S) 8 4 = p.lsn:=by
  have:=hd 5 4 (u64 p.lsn) rfl (u64_bd _).1 (by rw [u64_small (by omega),p4];omega)
  rw [u64_small (z:=p.lsn) (by omega)] at this;exact this
 have hz:zerosB (p.flat S) ≠ true:=fun k=>by
  have hm:(113:Int) ∈ p.flat S:=List.mem_append_left _ (by unfold PgM.headL lays Fld.leB;simp)
  unfold zerosB at k
  have:=of_decide_eq_true (List.all_eq_true.1 k _ hm)
  exact absurd this (by decide)
 have hb:pgD (p.flat S) p.num = p:=by
  unfold pgD
  rw [g1,g8,g4,Int.toNat_natCast]
  by_cases hg:p.G.length > 0
  ·have hC:p.C = []:=List.eq_nil_of_length_eq_zero (by omega)
   rw [if_pos (by rw [hkd,if_pos hg]),hC,List.length_nil,Nat.zero_add]
   have:grpsD (p.flat S) p.G.length = p.G:=range_map _ _ fun i g hx=>by
    obtain ⟨y,hy⟩:=grp_at hSl hC hx
    exact grpD_of hy (hi.G g (List.mem_of_getElem? hx)) (cG g (List.mem_of_getElem? hx))
   rw [this]
   obtain ⟨num,lsn,C,G⟩:=p
   simp at hC
   subst hC
   rfl
  ·have hG:p.G = []:=List.eq_nil_of_length_eq_zero (by omega)
   rw [if_neg (by rw [hkd,if_neg hg];decide),hG,List.length_nil,Nat.add_zero]
   have:cntsD (p.flat S) p.C.length = p.C:=range_map _ _ fun i c hx=>by
    obtain ⟨y,hy⟩:=cnt_at hSl hl hG hx
    exact cntD_of hy (hi.C c (List.mem_of_getElem? hx)) (cC c (List.mem_of_getElem? hx))
   rw [this]
   obtain ⟨num,lsn,C,G⟩:=p
   simp at hG
   subst hG
   rfl
 have hend:zerosB ((p.flat S).drop (16 + (p.C.length + p.G.length) * szD (p.flat S))) = true:=by
  have e:16 + (p.C.length + p.G.length) * szD (p.flat S) = 16 + p.body.length:=by
   unfold szD
   rw [g1,body_len]
   by_cases hg:p.G.length > 0
   ·rw [if_pos (by rw [hkd,if_pos hg])];omega
   ·rw [if_neg (by rw [hkd,if_neg hg];decide)];omega
  rw [e,← List.drop_drop,flat_drop16 hSl]
  unfold PgM.rest
  rw [List.drop_left]
  exact zerosB_z _
 unfold decP
 rw [if_neg (fun k=>k h1),if_neg (fun k=>k (PgM.flat_len hl hSl)),if_neg hz,if_neg (fun k=>k g0),if_neg (by rw [g1];omega),if_neg (by rw [g12,hsum];exact fun k=>k rfl),if_neg (fun k=>k g2)]
 rw [if_neg (by
  rw [g4,g1,g8,hkd]
  split
  ·simp
   omega
  ·simp
   omega)]
 rw [hb,if_neg (fun k=>k h6),g4,Int.toNat_natCast,if_neg (by rw [g6,hend];decide)]
end Go.SL.Pg
/- A disk that does not give up, in plain words: what its sectors hold behind writes and syncs. Conditions: in each statement. -/
namespace Go.SL.Sec
open Go Go.SL
structure Dev.Calm (D:Dev):Prop where
 down:D.down = false
 step:D.step = 0
theorem layAt_get {m b:List Int} {i:Int} (h:i.toNat * 512 + b.length ≤ m.length) (p:Nat) :
  (layAt m i b)[p]? = if p < i.toNat * 512 then m[p]? else if p < i.toNat * 512 + b.length then b[p - i.toNat * 512]? else m[p]?:=by
 unfold layAt
 have h1:(m.take (i.toNat * 512)).length = i.toNat * 512:=by rw [List.length_take];omega
 by_cases c1:p < i.toNat * 512
 ·rw [if_pos c1,List.append_assoc,List.getElem?_append_left (by omega),List.getElem?_take_of_lt c1]
 ·rw [if_neg c1]
  by_cases c2:p < i.toNat * 512 + b.length
  ·rw [if_pos c2,List.append_assoc,List.getElem?_append_right (by omega),h1,List.getElem?_append_left (by omega)]
  ·rw [if_neg c2,List.getElem?_append_right (by rw [List.length_append];omega),List.getElem?_drop,List.length_append,h1]
   congr 1;omega
theorem secOf_get (m:List Int) (i:Int) (p:Nat):(secOf m i)[p]? = if p < 512 then m[i.toNat * 512 + p]? else none:=by
 unfold secOf
 rw [List.getElem?_take]
 split
 ·rw [List.getElem?_drop]
 ·rfl
theorem secOf_same {m b:List Int} {i:Int} (h:i.toNat * 512 + 512 ≤ m.length) (hb:b.length = 512):secOf (layAt m i b) i = b:=by
 apply List.ext_getElem?
 intro p
 rw [secOf_get]
 by_cases c:p < 512
 ·rw [if_pos c,layAt_get (by omega),if_neg (by omega),if_pos (by omega)]
  congr 1;omega
 ·rw [if_neg c,List.getElem?_eq_none (by omega)]
theorem secOf_other {m b:List Int} {i j:Int} (hi:0 ≤ i) (hj:0 ≤ j) (hne:i ≠ j) (h:i.toNat * 512 + 512 ≤ m.length) (hb:b.length ≤ 512):secOf (layAt m i b) j = secOf m j:=by
 obtain ⟨x,rfl⟩:=Int.eq_ofNat_of_zero_le hi
 obtain ⟨y,rfl⟩:=Int.eq_ofNat_of_zero_le hj
 have hxy:x ≠ y:=fun e=>hne (by rw [e])
 apply List.ext_getElem?
 intro p
 rw [secOf_get,secOf_get]
 by_cases c:p < 512
 ·rw [if_pos c,if_pos c,layAt_get (by omega)]
  rw [Int.toNat_natCast,Int.toNat_natCast]
  by_cases c1:y * 512 + p < x * 512
  ·rw [if_pos c1]
  ·have c2:¬ (y * 512 + p < x * 512 + b.length):=by
    rcases Nat.lt_or_gt_of_ne hxy with h1|h1
    ·have h2:(x + 1) * 512 ≤ y * 512:=Nat.mul_le_mul_right _ h1
     rw [Nat.succ_mul] at h2
     exact Nat.not_lt.2 (Nat.le_trans (Nat.add_le_add_left hb _) (Nat.le_trans h2 (Nat.le_add_right _ _)))
    ·have h2:(y + 1) * 512 ≤ x * 512:=Nat.mul_le_mul_right _ h1
     rw [Nat.succ_mul] at h2
     exact absurd (Nat.lt_of_lt_of_le (Nat.add_lt_add_left c _) h2) c1
   rw [if_neg c1,if_neg c2]
 ·rw [if_neg c,if_neg c]
theorem flush_at:∀ (q:List (Int × List Int)) (m:List Int),(∀ p ∈ q,0 ≤ p.1 ∧ p.1.toNat * 512 + 512 ≤ m.length ∧ p.2.length = 512 ∧ Byt p.2) → ∀ i:Int,0 ≤ i → secOf (flushG q m) i = (lastOf i q).getD (secOf m i)
 | [],m,_,i,_=>rfl
 | p :: q,m,hq,i,hi=>by
  obtain ⟨h1,h2,h3,_⟩:=hq p List.mem_cons_self
  have hl:=layAt_len (m:=m) (i:=p.1) (b:=p.2) (by omega)
  have ih:=flush_at q (layAt m p.1 p.2) (fun p' hp'=>by rw [hl];exact hq p' (List.mem_cons_of_mem _ hp')) i hi
  rw [flushG,ih,lastOf]
  cases lastOf i q with
  | some b=>rfl
  | none =>
   dsimp only [Option.getD]
   by_cases e:p.1 = i
   ·rw [if_pos e,← e];exact secOf_same h2 h3
   ·rw [if_neg e];exact secOf_other h1 hi e h2 (by omega)
theorem lastOf_snoc (j i:Int) (b:List Int):∀ q:List (Int × List Int),lastOf j (q ++ [(i,b)]) = if i = j then some b else lastOf j q
 | []=>by simp [lastOf]
 | p :: q=>by
  rw [List.cons_append,lastOf,lastOf_snoc j i b q,lastOf]
  by_cases e:i = j
  ·rw [if_pos e,if_pos e]
  ·rw [if_neg e,if_neg e]
theorem Dev.write_calm {D:Dev} (hD:D.Calm) {i:Int} {b:List Int} (h:0 ≤ i ∧ i < D.secs) (hb:b.length = 512):D.write i b = (0,{ D.counted with q:=D.q ++ [(i,b)] }):=by
 unfold Dev.write
 rw [if_neg (by rw [hD.down];decide),if_neg (by omega),if_neg (by omega),if_neg (by unfold Dev.crashes;rw [hD.step];decide)]
theorem Dev.counted_calm {D:Dev} (hD:D.Calm):D.counted.Calm:=⟨hD.down,by unfold Dev.counted;dsimp only;rw [if_pos hD.step]⟩
theorem Dev.sync_calm {D:Dev} (hD:D.Calm):D.sync = (0,{ D.counted with img:=flushG D.q D.img,q:=[] }):=by
 unfold Dev.sync
 rw [if_neg (by rw [hD.down];decide),if_neg (by unfold Dev.crashes;rw [hD.step];decide)]
structure Dev.To (D D':Dev) (f:Int → Option (List Int)):Prop where
 calm:D'.Calm
 ok:D'.Ok
 len:D'.img.length = D.img.length
 sec:∀ j:Int,0 ≤ j → D'.at j = (f j).getD (D.at j)
theorem Dev.To.secs {D D':Dev} {f:Int → Option (List Int)} (h:D.To D' f):D'.secs = D.secs:=by unfold Dev.secs;rw [h.len]
theorem Dev.To.refl {D:Dev} (hc:D.Calm) (ho:D.Ok):D.To D (fun _=>none):=⟨hc,ho,rfl,fun _ _=>rfl⟩
theorem Dev.To.trans {A B C:Dev} {f g:Int → Option (List Int)} (h:A.To B f) (k:B.To C g):A.To C (fun j=>(g j).or (f j)) :=
 ⟨k.calm,k.ok,k.len.trans h.len,fun j hj=>by
  rw [k.sec j hj,h.sec j hj]
  cases g j <;> rfl⟩
theorem Dev.To.same {A B:Dev} {f g:Int → Option (List Int)} (h:A.To B f) (k:∀ j,0 ≤ j → (f j).getD (A.at j) = (g j).getD (A.at j)):A.To B g:=⟨h.calm,h.ok,h.len,fun j hj=>(h.sec j hj).trans (k j hj)⟩
theorem Dev.To.write {D:Dev} (hD:D.Calm) (ho:D.Ok) {i:Int} {b:List Int} (h:0 ≤ i ∧ i < D.secs) (hb:b.length = 512) (hy:Byt b):(D.write i b).1 = 0 ∧ D.To (D.write i b).2 (fun j=>if j = i then some b else none):=by
 have hw:=ho.write (i:=i) hy
 rw [Dev.write_calm hD h hb] at hw ⊢
 refine ⟨rfl,⟨hD.down,(Dev.counted_calm hD).step⟩,hw,rfl,fun j hj=>?_⟩
 unfold Dev.at
 dsimp only
 rw [lastOf_snoc]
 by_cases e:i = j
 ·rw [if_pos e,if_pos e.symm];rfl
 ·rw [if_neg e,if_neg (fun k=>e k.symm)];rfl
theorem Dev.To.sync {D:Dev} (hD:D.Calm) (ho:D.Ok):D.sync.1 = 0 ∧ D.To D.sync.2 (fun _=>none):=by
 have hw:=ho.sync
 rw [Dev.sync_calm hD] at hw ⊢
 refine ⟨rfl,⟨hD.down,(Dev.counted_calm hD).step⟩,hw,(flushG_ok D.q D.img ho.q ho.byt).1,fun j hj=>?_⟩
 unfold Dev.at
 dsimp only [Option.getD_none]
 rw [flush_at D.q D.img ho.q j hj]
 rfl
end Go.SL.Sec
namespace Go.SL.Twn
open Go Go.SL Go.SL.Sec Go.SL.Fld Go.SL.Rec
theorem pws_calm (at_:Int) (b:List Int):∀ (n i:Nat) (D:Dev),D.Calm → D.Ok → 0 ≤ at_ → at_ + i + n ≤ D.secs → b.length = 512 * (i + n) → Byt b →
  (pws at_ b n i D).1 = 0 ∧ D.To (pws at_ b n i D).2 (fun j=>if at_ + i ≤ j ∧ j < at_ + i + n then some ((b.drop (512 * (j - at_).toNat)).take 512) else none)
 | 0,i,D,hD,ho,h0,hs,hb,hy=>by
  obtain ⟨h1,h2⟩:=Dev.To.sync hD ho
  refine ⟨h1,h2.same fun j hj=>?_⟩
  rw [if_neg (by omega)]
 | n + 1,i,D,hD,ho,h0,hs,hb,hy=>by
  have hS:((b.drop (512 * i)).take 512).length = 512:=by rw [List.length_take,List.length_drop];omega
  obtain ⟨h1,h2⟩:=Dev.To.write hD ho (i:=at_ + i) (b:=(b.drop (512 * i)).take 512) (by omega) hS ((hy.drop _).take _)
  rw [pws,if_pos h1]
  obtain ⟨h3,h4⟩:=pws_calm at_ b n (i + 1) _ h2.calm h2.ok h0 (by rw [h2.secs];omega) (by omega) hy
  refine ⟨h3,(h2.trans h4).same fun j hj=>?_⟩
  by_cases c1:at_ + (i + 1:Nat) ≤ j ∧ j < at_ + (i + 1:Nat) + n
  ·rw [if_pos c1,if_pos (show at_ + (i:Int) ≤ j ∧ j < at_ + i + ((n + 1:Nat):Int) by omega)];rfl
  ·rw [if_neg c1]
   by_cases c2:j = at_ + i
   ·rw [if_pos c2,if_pos (by omega),show (j - at_).toNat = i by omega];rfl
   ·rw [if_neg c2,if_neg (by omega)];rfl
theorem twW_calm {D:Dev} {h:Int} {b:List Int} (hD:D.Calm) (ho:D.Ok) (hh:5 ≤ h ∧ h + 2 ≤ D.secs) (hb:b.length = 1024) (hy:Byt b) :
  (twW D 2 h b).1 = 0 ∧ ∃ f,D.To (twW D 2 h b).2 f ∧ ∀ j,5 ≤ j → f j = if j = h then some (b.take 512) else if j = h + 1 then some (b.drop 512) else none:=by
 have lm:∀ st,(mark h st).length = 512:=fun st=>by unfold mark mark4;rw [List.length_set,putB_len (by rw [t512_len];omega),t512_len]
 have bm:∀ st,0 ≤ st ∧ st < 256 → Byt (mark h st):=fun st k=>Byt.set mark4_byt k
 unfold twW
 rw [if_neg (by rw [hD.down];decide),if_neg (fun k=>k ⟨⟨by omega,by omega,by omega⟩,⟨by omega,by omega,by omega⟩,by omega⟩),if_neg (fun k=>k hb)]
 dsimp only
 obtain ⟨a1,b1⟩:=pws_calm (2 + 1) b 2 0 D hD ho (by omega) (by omega) (by omega) hy
 rw [if_neg (fun k=>k a1)]
 obtain ⟨a2,b2⟩:=pws_calm 2 (mark h 165) 1 0 _ b1.calm b1.ok (by omega) (by rw [b1.secs];omega) (by rw [lm]) (bm _ (by omega))
 rw [if_neg (fun k=>k a2)]
 obtain ⟨a3,b3⟩:=pws_calm h b 2 0 _ b2.calm b2.ok (by omega) (by rw [b2.secs,b1.secs];omega) (by omega) hy
 rw [if_neg (fun k=>k a3)]
 obtain ⟨a4,b4⟩:=pws_calm 2 (mark h 0) 1 0 _ b3.calm b3.ok (by omega) (by rw [b3.secs,b2.secs,b1.secs];omega) (by rw [lm]) (bm _ (by omega))
 refine ⟨a4,_,((b1.trans b2).trans b3).trans b4,fun j hj=>?_⟩
 rw [if_neg (by omega),Option.none_or]
 by_cases c1:j = h
 ·rw [if_pos c1,if_pos (by omega),show (j - h).toNat = 0 by omega];rfl
 ·rw [if_neg c1]
  by_cases c2:j = h + 1
  ·rw [if_pos c2,if_pos (by omega),show (j - h).toNat = 1 by omega,List.take_of_length_le (by rw [List.length_drop];omega)];rfl
  ·rw [if_neg c2,if_neg (by omega),if_neg (by omega),if_neg (by omega)];rfl
end Go.SL.Twn
namespace Go.SL.Rec
open Go Go.SL Go.SL.Sec Go.SL.Fld
theorem wrs_calm (first:Int):∀ (l:List (List Int)) (n:Nat) (D:Dev),D.Calm → D.Ok → 0 ≤ first + n - 1 → first + n - 1 + l.length ≤ D.secs → (∀ b ∈ l,Byt b ∧ b.length ≤ 505) →
  (wrs first n l D).1 = 0 ∧ D.To (wrs first n l D).2 (fun j=>if first + n - 1 ≤ j then (l[(j - (first + n - 1)).toNat]?).map (laidB (j - first + 1)) else none)
 | [],n,D,hD,ho,h0,hs,hb=>by
  obtain ⟨h1,h2⟩:=Dev.To.sync hD ho
  refine ⟨h1,h2.same fun j hj=>?_⟩
  simp
 | b :: l,n,D,hD,ho,h0,hs,hb=>by
  rw [List.length_cons] at hs
  obtain ⟨hby,hbl⟩:=hb b List.mem_cons_self
  obtain ⟨h1,h2⟩:=Dev.To.write hD ho (i:=first + n - 1) (b:=laidB n b) (by omega) (laidB_len hbl) (laidB_byt hby)
  rw [wrs,if_pos h1]
  obtain ⟨h3,h4⟩:=wrs_calm first l (n + 1) _ h2.calm h2.ok (by omega) (by rw [h2.secs];omega) fun x hx=>hb x (List.mem_cons_of_mem _ hx)
  refine ⟨h3,(h2.trans h4).same fun j hj=>?_⟩
  by_cases c1:first + (n + 1:Nat) - 1 ≤ j
  ·rw [if_pos c1,if_neg (by omega),if_pos (by omega),show (j - (first + n - 1)).toNat = (j - (first + (n + 1:Nat) - 1)).toNat + 1 by omega,List.getElem?_cons_succ]
   cases (l[(j - (first + (n + 1:Nat) - 1)).toNat]?) <;> rfl
  ·rw [if_neg c1]
   by_cases c2:j = first + n - 1
   ·rw [if_pos c2,if_pos (by omega),show (j - (first + n - 1)).toNat = 0 by omega,show j - first + 1 = n by omega];rfl
   ·rw [if_neg c2,if_neg (by omega)];rfl
end Go.SL.Rec
/- The pool, in plain words. No condition. -/
namespace Go.SL.Pool
open Go Go.SL Go.SL.Sec Go.SL.Fld Go.SL.Rec Go.SL.Twn Go.SL.Pg
structure FrM where
 pg:PgM
 pins:Int
 dirty:Bool
 since:Int
 used:Int
structure PoolM where
 pages:Int
 log:Int
 frames:Int
 held:List (Int × FrM)
 clock:Int
 ended:Bool
structure Sto where
 P:PoolM
 L:LogM
 D:Dev
def PoolM.gone (P:PoolM):PoolM:={ P with held:=[],ended:=true }
def Sto.ends (S:Sto):Sto:={ S with P:=S.P.gone }
def PoolM.put (P:PoolM) (n:Int) (f:FrM):PoolM:={ P with held:=updKV n f P.held }
def PoolM.use (P:PoolM) (n:Int) (f:FrM):PoolM:={ P with held:=updKV n { f with used:=P.clock + 1 } P.held,clock:=P.clock + 1 }
def Sto.seen (S:Sto) (e:Int):Sto:=if e = 40 then S.ends else S
def PoolM.place (P:PoolM) (n:Int):Int:=if P.ended then 40 else if n < 0 ∨ n ≥ P.pages then 4 else 0
def Sto.write (S:Sto) (n:Int) (f:FrM):Int × Sto :=
 if f.dirty = false then (0,S) else
 let r:=S.L.force S.D f.pg.lsn
 if r.1 ≠ 0 then (r.1,Sto.seen ⟨S.P,r.2.1,r.2.2⟩ r.1) else
 let t:=twW r.2.2 2 (5 + 2 * n) (encP f.pg)
 if t.1 ≠ 0 then (t.1,Sto.seen ⟨S.P,r.2.1,t.2⟩ t.1) else (0,⟨S.P.put n { f with dirty:=false,since:=0 },r.2.1,t.2⟩)
def PoolM.del (P:PoolM) (n:Int):PoolM:={ P with held:=delKV n P.held }
def Sto.leave (S:Sto) (n:Int) (f:FrM):Int × Sto :=
 if (S.write n f).1 ≠ 0 then S.write n f else (0,{ (S.write n f).2 with P:=(S.write n f).2.P.del n })
def oldG:List (Int × FrM) → Option (Int × FrM) → Option (Int × FrM)
 | [],o=>o
 | p :: l,o=>oldG l (if p.2.pins = 0 then match o with
   | none=>some p
   | some q=>if p.2.used < q.2.used then some p else some q
  else o)
def oldest (l:List (Int × FrM)):Option (Int × FrM):=oldG l none
def Sto.load (S:Sto) (n:Int):Int × Sto :=
 if S.D.down then (40,S.ends) else
 let d:=decP (S.D.at (5 + 2 * n) ++ S.D.at (5 + 2 * n + 1)) n
 if d.1 ≠ 0 then (d.1,S) else (0,{ S with P:=S.P.use n ⟨d.2,0,false,0,0⟩ })
def Sto.get (S:Sto) (n:Int):Int × Sto :=
 if S.P.place n ≠ 0 then (S.P.place n,S) else
 match S.P.held.lookup n with
 | some f=>(0,{ S with P:=S.P.use n f })
 | none =>
  if (S.P.held.length:Int) ≥ S.P.frames then
   match oldest S.P.held with
   | none=>(6,S)
   | some o=>if (S.leave o.1 o.2).1 ≠ 0 then S.leave o.1 o.2 else (S.leave o.1 o.2).2.load n
  else S.load n
def Sto.put (S:Sto) (x:PgM):Int × Sto :=
 if S.P.place x.num ≠ 0 then (S.P.place x.num,S) else if x.fault ≠ 0 then (x.fault,S) else
 match S.P.held.lookup x.num with
 | none=>(101,S)
 | some f=>if x.lsn ≤ f.pg.lsn ∨ x.lsn > S.L.recs.length then (4,S) else
  (0,{ S with P:=S.P.use x.num { f with pg:=x,dirty:=true,since:=if f.dirty then f.since else x.lsn } })
def Sto.pin (S:Sto) (n:Int):Int × Sto :=
 let r:=S.get n
 if r.1 ≠ 0 then r else match r.2.P.held.lookup n with
  | none=>r
  | some f=>(0,{ r.2 with P:=r.2.P.put n { f with pins:=f.pins + 1 } })
def PoolM.there (P:PoolM) (n:Int):Int:=if P.place n ≠ 0 then P.place n else if (P.held.lookup n).isSome then 0 else 101
def Sto.unpin (S:Sto) (n:Int):Int × Sto :=
 if S.P.place n ≠ 0 then (S.P.place n,S) else match S.P.held.lookup n with
 | none=>(101,S)
 | some f=>if f.pins = 0 then (101,S) else (0,{ S with P:=S.P.put n { f with pins:=f.pins - 1 } })
def Sto.evict (S:Sto) (n:Int):Int × Sto :=
 if S.P.place n ≠ 0 then (S.P.place n,S) else match S.P.held.lookup n with
 | none=>(101,S)
 | some f=>if f.pins > 0 then (100,S) else S.leave n f
def Sto.flush (S:Sto) (n:Int):Int × Sto :=
 if S.P.place n ≠ 0 then (S.P.place n,S) else match S.P.held.lookup n with
 | none=>(101,S)
 | some f=>S.write n f
def PoolM.dirtyL (P:PoolM) (keys:List Int):List (Int × Int):=keys.filterMap fun n=>match P.held.lookup n with
 | some f=>if f.dirty then some (n,f.since) else none
 | none=>none
end Go.SL.Pool
/- A pool whose disk runs: what was put last is what is got; plain words. Conditions: in each statement. -/
namespace Go.SL.Pool
open Go Go.SL Go.SL.Sec Go.SL.Fld Go.SL.Rec Go.SL.Twn Go.SL.Pg
def pageOf (D:Dev) (n:Int):List Int:=D.at (5 + 2 * n) ++ D.at (5 + 2 * n + 1)
structure Keeps (S:Sto) (last:Int → PgM):Prop where
 run:S.P.ended = false
 pages:2 ≤ S.P.pages ∧ S.P.pages ≤ 64
 calm:S.D.Calm
 dok:S.D.Ok
 secs:S.D.secs = 5 + 2 * S.P.pages + S.L.count
 first:S.L.first = 5 + 2 * S.P.pages
 err:S.L.err = none
 forced:S.L.forced + S.L.bys.length = S.L.recs.length
 recs:(S.L.recs.length:Int) ≤ S.L.count
 bys:∀ b ∈ S.L.bys,Byt b ∧ b.length ≤ 505
 nd:(S.P.held.map (·.1)).Nodup
 key:∀ n f,S.P.held.lookup n = some f → (0 ≤ n ∧ n < S.P.pages) ∧ f.pg = last n ∧ (f.dirty = false → pageOf S.D n = encP (last n))
 home:∀ n,0 ≤ n ∧ n < S.P.pages → S.P.held.lookup n = none → pageOf S.D n = encP (last n)
 good:∀ n,0 ≤ n ∧ n < S.P.pages → (last n).num = n ∧ (last n).fault = 0 ∧ (last n).In ∧ (last n).lsn ≤ S.L.recs.length
theorem force_calm {L:LogM} {D:Dev} {lsn:Int} (hc:D.Calm) (ho:D.Ok) (he:L.err = none) (h0:0 ≤ L.first) (hs:L.first + L.count ≤ D.secs) (hf:L.forced + L.bys.length = L.recs.length) (hr:(L.recs.length:Int) ≤ L.count) (hb:∀ b ∈ L.bys,Byt b ∧ b.length ≤ 505) (hl:0 ≤ lsn ∧ lsn ≤ L.recs.length) :
  (L.force D lsn).1 = 0 ∧ (L.force D lsn).2.1.err = none ∧ (L.force D lsn).2.1.first = L.first ∧ (L.force D lsn).2.1.count = L.count ∧ (L.force D lsn).2.1.recs = L.recs ∧ (L.force D lsn).2.1.forced + (L.force D lsn).2.1.bys.length = L.recs.length ∧ (∀ b ∈ (L.force D lsn).2.1.bys,Byt b ∧ b.length ≤ 505) ∧ lsn ≤ (L.force D lsn).2.1.forced ∧
  ∃ f,D.To (L.force D lsn).2.2 f ∧ ∀ j,j < L.first → f j = none:=by
 unfold LogM.force
 rw [if_neg (by rw [he];decide),if_neg (by omega)]
 by_cases c:lsn ≤ L.forced
 ·rw [if_pos c]
  exact ⟨rfl,he,rfl,rfl,rfl,hf,hb,c,_,.refl hc ho,fun _ _=>rfl⟩
 ·rw [if_neg c]
  dsimp only
  obtain ⟨h1,h2⟩:=wrs_calm L.first (L.bys.take (lsn.toNat - L.forced)) (L.forced + 1) D hc ho (by omega) (by rw [List.length_take];omega) fun b hb'=>hb b (List.mem_of_mem_take hb')
  rw [if_pos h1]
  refine ⟨rfl,he,rfl,rfl,rfl,?_,fun b hb'=>hb b (List.mem_of_mem_drop hb'),?_,_,h2,fun j hj=>?_⟩
  ·dsimp only;rw [List.length_drop];omega
  ·dsimp only;omega
  ·rw [if_neg (by omega)]
theorem Keeps.write {S:Sto} {last:Int → PgM} (K:Keeps S last) {n:Int} {f:FrM} (h:S.P.held.lookup n = some f) :
  (S.write n f).1 = 0 ∧ Keeps (S.write n f).2 last ∧ (S.write n f).2.P = (if f.dirty = false then S.P else S.P.put n { f with dirty:=false,since:=0 }) ∧ (S.write n f).2.L.recs = S.L.recs ∧ (S.write n f).2.L.count = S.L.count ∧ pageOf (S.write n f).2.D n = encP (last n):=by
 obtain ⟨hn,hp,hd⟩:=K.key n f h
 obtain ⟨g1,g2,g3,g4⟩:=K.good n hn
 obtain ⟨pg,pins,dt,si,us⟩:=f
 dsimp only at hp hd ⊢
 subst hp
 unfold Sto.write
 by_cases c:dt = false
 ·rw [if_pos c,if_pos c];exact ⟨rfl,K,rfl,rfl,rfl,hd c⟩
 rw [if_neg c,if_neg c]
 dsimp only
 have g5:=(PgM.fault_ok g2).2.2.2.1
 obtain ⟨a1,a2,a3,a4,a5,a6,a7,_,F,a8,a9⟩:=force_calm K.calm K.dok K.err (by rw [K.first];have:=K.pages;omega) (by rw [K.first,K.secs];omega) K.forced K.recs K.bys (lsn:=(last n).lsn) ⟨by omega,g4⟩
 rw [if_neg (fun k=>k a1)]
 obtain ⟨b1,F2,b2,b3⟩:=twW_calm a8.calm a8.ok (h:=5 + 2 * n) (b:=encP (last n)) (by rw [a8.secs,K.secs];have:=K.recs;omega) (encP_len g2) (encP_byt g2)
 rw [if_neg (fun k=>k b1)]
 have ht:=a8.trans b2
 have hat:∀ m,0 ≤ m ∧ m < S.P.pages → m ≠ n → pageOf (twW (S.L.force S.D (last n).lsn).2.2 2 (5 + 2 * n) (encP (last n))).2 m = pageOf S.D m:=fun m hm hne=>by
  have hpg:=K.pages
  have e1:=K.first
  unfold pageOf
  rw [ht.sec _ (by omega),ht.sec _ (by omega),b3 _ (by omega),b3 _ (by omega),a9 _ (by omega),a9 _ (by omega),if_neg (by omega),if_neg (by omega),if_neg (by omega),if_neg (by omega)]
  rfl
 have hself:pageOf (twW (S.L.force S.D (last n).lsn).2.2 2 (5 + 2 * n) (encP (last n))).2 n = encP (last n):=by
  unfold pageOf
  rw [ht.sec _ (by omega),ht.sec _ (by omega),b3 _ (by omega),b3 _ (by omega),if_pos rfl,if_neg (by omega),if_pos rfl]
  exact List.take_append_drop 512 _
 have hlk:∀ m,(S.P.put n ⟨last n,pins,false,0,us⟩).held.lookup m = if m = n then some ⟨last n,pins,false,0,us⟩ else S.P.held.lookup m:=fun m=>updKV_lookup n _ m S.P.held
 refine ⟨rfl,⟨K.run,K.pages,b2.calm,b2.ok,?_,?_,a2,?_,?_,a7,upd_nodup n _ _ K.nd,fun m g hm=>?_,fun m hm hno=>?_,fun m hm=>?_⟩,rfl,a5,a4,hself⟩
 ·dsimp only;rw [ht.secs,a4];exact K.secs
 ·dsimp only;rw [a3];exact K.first
 ·dsimp only;rw [a5];exact a6
 ·dsimp only;rw [a5,a4];exact K.recs
 ·dsimp only at hm ⊢
  rw [hlk] at hm
  by_cases e:m = n
  ·rw [if_pos e] at hm
   cases hm
   subst e
   exact ⟨hn,rfl,fun _=>hself⟩
  ·rw [if_neg e] at hm
   obtain ⟨k1,k2,k3⟩:=K.key m g hm
   exact ⟨k1,k2,fun hd'=>by rw [hat m k1 e];exact k3 hd'⟩
 ·dsimp only at hno ⊢
  rw [hlk] at hno
  by_cases e:m = n
  ·rw [if_pos e] at hno;cases hno
  ·rw [if_neg e] at hno
   rw [hat m hm e];exact K.home m hm hno
 ·dsimp only;rw [a5];exact K.good m hm
theorem Keeps.leave {S:Sto} {last:Int → PgM} (K:Keeps S last) {n:Int} {f:FrM} (h:S.P.held.lookup n = some f) :
  (S.leave n f).1 = 0 ∧ Keeps (S.leave n f).2 last ∧ (S.leave n f).2.P = S.P.del n ∧ (S.leave n f).2.L.recs = S.L.recs ∧ (S.leave n f).2.L.count = S.L.count:=by
 obtain ⟨h1,K',h2,h3,h4,h5⟩:=K.write h
 unfold Sto.leave
 rw [if_neg (fun k=>k h1)]
 have hdel:(S.write n f).2.P.del n = S.P.del n:=by
  rw [h2]
  split
  ·rfl
  ·unfold PoolM.del PoolM.put
   dsimp only
   rw [del_upd _ _ _ K.nd]
 have hlk:∀ m,((S.write n f).2.P.del n).held.lookup m = if m = n then none else (S.write n f).2.P.held.lookup m:=fun m=>delKV_lookup n m _
 refine ⟨rfl,⟨K'.run,K'.pages,K'.calm,K'.dok,K'.secs,K'.first,K'.err,K'.forced,K'.recs,K'.bys,del_nodup n _ K'.nd,fun m g hm=>?_,fun m hm hno=>?_,K'.good⟩,hdel,h3,h4⟩
 ·dsimp only at hm ⊢
  rw [hlk] at hm
  by_cases e:m = n
  ·rw [if_pos e] at hm;cases hm
  ·rw [if_neg e] at hm;exact K'.key m g hm
 ·dsimp only at hno ⊢
  rw [hlk] at hno
  by_cases e:m = n
  ·subst e;exact h5
  ·rw [if_neg e] at hno;exact K'.home m hm hno
theorem Keeps.use {S:Sto} {last:Int → PgM} (K:Keeps S last) {n:Int} {f:FrM} (hn:0 ≤ n ∧ n < S.P.pages) (hp:f.pg = last n) (hd:f.dirty = false → pageOf S.D n = encP (last n)):Keeps { S with P:=S.P.use n f } last:=by
 have hlk:∀ m,(S.P.use n f).held.lookup m = if m = n then some { f with used:=S.P.clock + 1 } else S.P.held.lookup m:=fun m=>updKV_lookup n _ m S.P.held
 refine ⟨K.run,K.pages,K.calm,K.dok,K.secs,K.first,K.err,K.forced,K.recs,K.bys,upd_nodup n _ _ K.nd,fun m g hm=>?_,fun m hm hno=>?_,K.good⟩
 ·dsimp only at hm ⊢
  rw [hlk] at hm
  by_cases e:m = n
  ·rw [if_pos e] at hm
   cases hm
   subst e
   exact ⟨hn,hp,hd⟩
  ·rw [if_neg e] at hm;exact K.key m g hm
 ·dsimp only at hno ⊢
  rw [hlk] at hno
  by_cases e:m = n
  ·rw [if_pos e] at hno;cases hno
  ·rw [if_neg e] at hno;exact K.home m hm hno
theorem Keeps.put {S:Sto} {last:Int → PgM} (K:Keeps S last) {n:Int} {f:FrM} (hn:0 ≤ n ∧ n < S.P.pages) (hp:f.pg = last n) (hd:f.dirty = false → pageOf S.D n = encP (last n)):Keeps { S with P:=S.P.put n f } last:=by
 have hlk:∀ m,(S.P.put n f).held.lookup m = if m = n then some f else S.P.held.lookup m:=fun m=>updKV_lookup n _ m S.P.held
 refine ⟨K.run,K.pages,K.calm,K.dok,K.secs,K.first,K.err,K.forced,K.recs,K.bys,upd_nodup n _ _ K.nd,fun m g hm=>?_,fun m hm hno=>?_,K.good⟩
 ·dsimp only at hm ⊢
  rw [hlk] at hm
  by_cases e:m = n
  ·rw [if_pos e] at hm
   cases hm
   subst e
   exact ⟨hn,hp,hd⟩
  ·rw [if_neg e] at hm;exact K.key m g hm
 ·dsimp only at hno ⊢
  rw [hlk] at hno
  by_cases e:m = n
  ·rw [if_pos e] at hno;cases hno
  ·rw [if_neg e] at hno;exact K.home m hm hno
theorem oldG_mem:∀ (l:List (Int × FrM)) (o:Option (Int × FrM)) (p:Int × FrM),oldG l o = some p → p ∈ l ∨ o = some p
 | [],o,p,h=>.inr h
 | q :: l,o,p,h=>by
  unfold oldG at h
  rcases oldG_mem l _ p h with k|k
  ·exact .inl (List.mem_cons_of_mem _ k)
  ·split at k
   ·split at k
    ·cases k;exact .inl List.mem_cons_self
    ·split at k
     ·cases k;exact .inl List.mem_cons_self
     ·exact .inr k
   ·exact .inr k
theorem oldest_mem {l:List (Int × FrM)} {p:Int × FrM} (h:oldest l = some p):p ∈ l:=(oldG_mem l none p h).resolve_right (by simp)
theorem Keeps.load {S:Sto} {last:Int → PgM} (K:Keeps S last) {n:Int} (hn:0 ≤ n ∧ n < S.P.pages) (h:S.P.held.lookup n = none) :
  (S.load n).1 = 0 ∧ Keeps (S.load n).2 last ∧ (∃ f,(S.load n).2.P.held.lookup n = some f) ∧ (S.load n).2.L = S.L ∧ (S.load n).2.P.pages = S.P.pages:=by
 obtain ⟨g1,g2,g3,g4⟩:=K.good n hn
 have hd:decP (S.D.at (5 + 2 * n) ++ S.D.at (5 + 2 * n + 1)) n = (0,last n):=by
  have e:=K.home n hn h
  unfold pageOf at e
  rw [e]
  have:=dec_enc g2 g3
  rw [g1] at this
  exact this
 unfold Sto.load
 rw [if_neg (by rw [K.calm.down];decide)]
 dsimp only
 rw [hd,if_neg (fun k=>k rfl)]
 exact ⟨rfl,K.use hn rfl (fun _=>K.home n hn h),⟨_,(updKV_lookup n _ n S.P.held).trans (if_pos rfl)⟩,rfl,rfl⟩
theorem Keeps.get {S:Sto} {last:Int → PgM} (K:Keeps S last) {n:Int} (hn:0 ≤ n ∧ n < S.P.pages) :
  ((S.get n).1 = 6 ∨ ((S.get n).1 = 0 ∧ ∃ f,(S.get n).2.P.held.lookup n = some f)) ∧ Keeps (S.get n).2 last ∧ (S.get n).2.L.recs = S.L.recs ∧ (S.get n).2.L.count = S.L.count ∧ (S.get n).2.P.pages = S.P.pages:=by
 have hpl:S.P.place n = 0:=by unfold PoolM.place;rw [if_neg (by rw [K.run];decide),if_neg (by omega)]
 unfold Sto.get
 rw [hpl,if_neg (fun k=>k rfl)]
 cases h:S.P.held.lookup n with
 | some f =>
  dsimp only
  obtain ⟨_,h2,h3⟩:=K.key n f h
  exact ⟨.inr ⟨rfl,_,(updKV_lookup n _ n S.P.held).trans (if_pos rfl)⟩,K.use hn h2 h3,rfl,rfl,rfl⟩
 | none =>
  dsimp only
  by_cases c:(S.P.held.length:Int) ≥ S.P.frames
  ·rw [if_pos c]
   cases ho:oldest S.P.held with
   | none=>exact ⟨.inl rfl,K,rfl,rfl,rfl⟩
   | some o =>
    dsimp only
    have hm:=lookup_of_mem o.1 o.2 _ K.nd (oldest_mem ho)
    obtain ⟨h1,K',h2,h3,h4⟩:=K.leave hm
    rw [if_neg (fun k=>k h1)]
    have hpg:(S.leave o.1 o.2).2.P.pages = S.P.pages:=by rw [h2];rfl
    have hno:(S.leave o.1 o.2).2.P.held.lookup n = none:=by
     rw [h2]
     show (delKV o.1 S.P.held).lookup n = none
     rw [delKV_lookup]
     split
     ·rfl
     ·exact h
    obtain ⟨k1,k2,k3,k4,k5⟩:=K'.load (by rw [hpg];exact hn) hno
    exact ⟨.inr ⟨k1,k3⟩,k2,by rw [k4,h3],by rw [k4,h4],by rw [k5,hpg]⟩
  ·rw [if_neg c]
   obtain ⟨k1,k2,k3,k4,k5⟩:=K.load hn h
   exact ⟨.inr ⟨k1,k3⟩,k2,by rw [k4],by rw [k4],k5⟩
theorem Keeps.puts {S:Sto} {last:Int → PgM} (K:Keeps S last) {x:PgM} {f:FrM} (hn:0 ≤ x.num ∧ x.num < S.P.pages) (h:S.P.held.lookup x.num = some f) (hx:x.fault = 0) (hi:x.In) (hl:(last x.num).lsn < x.lsn) :
  if x.lsn > S.L.recs.length then S.put x = (4,S) else (S.put x).1 = 0 ∧ Keeps (S.put x).2 (fun m=>if m = x.num then x else last m) ∧ (S.put x).2.L = S.L ∧ (S.put x).2.P.pages = S.P.pages:=by
 have hpl:S.P.place x.num = 0:=by unfold PoolM.place;rw [if_neg (by rw [K.run];decide),if_neg (by omega)]
 obtain ⟨_,h2,h3⟩:=K.key _ f h
 by_cases c:x.lsn > S.L.recs.length
 ·rw [if_pos c]
  unfold Sto.put
  rw [hpl,if_neg (fun k=>k rfl),if_neg (fun k=>k hx),h]
  dsimp only
  rw [if_pos (.inr c)]
 ·rw [if_neg c]
  unfold Sto.put
  rw [hpl,if_neg (fun k=>k rfl),if_neg (fun k=>k hx),h]
  dsimp only
  rw [h2,if_neg (by omega)]
  dsimp only
  have hlk:∀ m,(S.P.use x.num { f with pg:=x,dirty:=true,since:=if f.dirty then f.since else x.lsn }).held.lookup m = if m = x.num then some ⟨x,f.pins,true,if f.dirty then f.since else x.lsn,S.P.clock + 1⟩ else S.P.held.lookup m:=fun m=>updKV_lookup x.num _ m S.P.held
  refine ⟨rfl,⟨K.run,K.pages,K.calm,K.dok,K.secs,K.first,K.err,K.forced,K.recs,K.bys,upd_nodup _ _ _ K.nd,fun m g hm=>?_,fun m hm hno=>?_,fun m hm=>?_⟩,rfl,rfl⟩
  ·dsimp only at hm ⊢
   rw [hlk] at hm
   by_cases e:m = x.num
   ·rw [if_pos e] at hm
    cases hm
    subst e
    rw [if_pos rfl]
    exact ⟨hn,rfl,fun k=>(by cases k)⟩
   ·rw [if_neg e] at hm ⊢;exact K.key m g hm
  ·dsimp only at hno ⊢
   rw [hlk] at hno
   by_cases e:m = x.num
   ·rw [if_pos e] at hno;cases hno
   ·rw [if_neg e] at hno ⊢;exact K.home m hm hno
  ·dsimp only
   by_cases e:m = x.num
   ·rw [if_pos e];exact ⟨e.symm,hx,hi,by omega⟩
   ·rw [if_neg e];exact K.good m hm
end Go.SL.Pool
/- The program's package master: where things lie; walked. Conditions: in each statement. -/
namespace Go.SL.Mst
def MayP (p l f:Int):Prop:=(2 ≤ p ∧ p ≤ 64) ∧ (4 ≤ l ∧ l ≤ 4096) ∧ (2 ≤ f ∧ f ≤ 16)
instance {p l f:Int}:Decidable (MayP p l f):=inferInstanceAs (Decidable (_ ∧ _))
end Go.SL.Mst
namespace Go.Proofs.YtbcedpankkdfoaaGreatDoor
open Go Go.SL Go.SL.Sec Go.SL.Mst
theorem mmay_spec {W:World} {R:HProp} {p l f:Int}:Does prog W f_z37 ⟨[.agg ⟨[.int .i64 p,.int .i64 l,.int .i64 f]⟩]⟩ R (Ret fun v G=>v = .bool (decide (MayP p l f)) ∧ G = R):=by
 unfold MayP
 refine f_z37.does _ ?_
 conv=>whnf
 repeat' (first
  | (refine spl_dec (fun hd=>?_) (fun hd=>?_) <;> first|(exfalso;omega)|(conv=>whnf))
  | (refine Ld.i ?_;conv=>whnf)
  | (intro blk hblk;conv=>whnf))
 all_goals
  refine Ret.eq (congrArg Value.bool (Bool.eq_iff_iff.2 ?_)) Imp.drop
  refine ⟨fun h=>?_,fun h=>?_⟩
  ·first|exact absurd h (by decide)|(have h:=of_decide_eq_true h;exact decide_eq_true (by omega))
  ·have h:=of_decide_eq_true h
   first|exact decide_eq_true (by omega)|(exfalso;omega)
theorem need_yes {W:World} {R:HProp} {p l f:Int} (h:MayP p l f):Does prog W f_z3q ⟨[.agg ⟨[.int .i64 p,.int .i64 l,.int .i64 f]⟩]⟩ R (Ret fun v G=>v = .tuple ⟨[.int .i64 (5 + 2 * p + l),i0]⟩ ∧ G = R):=by
 have h2:=h
 unfold MayP at h2
 refine f_z3q.does _ ?_
 conv=>whnf
 repeat' (first
  | (refine CallK.ret f_z37.ok mmay_spec ?_;rw [decide_eq_true h];rintro v G ⟨rfl,rfl⟩;conv=>whnf)
  | ((first|refine Ld.i ?_|refine LdN.i ?_|refine Ar.i64 (by omega) ?_);conv=>whnf)
  | (intro blk hblk;conv=>whnf))
 refine Ret.eq rfl ?_
 first|exact .refl _|exact .drop|exact .fin|((repeat refine .pick ?_);first|exact .refl _|exact .emp _|exact .fin)
theorem home_yes {W:World} {R:HProp} {p l f n:Int} (h:MayP p l f) (hn:0 ≤ n ∧ n < p):Does prog W f_z25 ⟨[.agg ⟨[.int .i64 p,.int .i64 l,.int .i64 f]⟩,.int .i64 n]⟩ R (Ret fun v G=>v = .tuple ⟨[.int .i64 (5 + 2 * n),i0]⟩ ∧ G = R):=by
 have h2:=h
 unfold MayP at h2
 refine f_z25.does _ _ ?_
 conv=>whnf
 repeat' (first
  | (refine CallK.ret f_z37.ok mmay_spec ?_;rw [decide_eq_true h];rintro v G ⟨rfl,rfl⟩;conv=>whnf)
  | (refine spl_dec (fun hd=>?_) (fun hd=>?_) <;> first|(exfalso;omega)|(conv=>whnf))
  | ((first|refine Ld.i ?_|refine LdN.i ?_|refine Ar.i64 (by omega) ?_);conv=>whnf)
  | (intro blk hblk;conv=>whnf))
 refine Ret.eq rfl ?_
 first|exact .refl _|exact .drop|exact .fin|((repeat refine .pick ?_);first|exact .refl _|exact .emp _|exact .fin)
end Go.Proofs.YtbcedpankkdfoaaGreatDoor
