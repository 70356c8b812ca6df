/- A disk, in plain words: its bytv, its pending writes, how it crashes. No condition. -/
import Derived.Test.YtbcedpankkdfoaaGreatDoorPart7
import Derived.Test.YtbcedpankkdfoaaGreatDoorPart6
set_option linter.unusedVariables false
set_option linter.unusedSimpArgs false
namespace Go.SL.Sec
open Go Go.SL
def wr (z:Int):Int:=(z + 9223372036854775808) % 18446744073709551616 - 9223372036854775808
theorem wr_in (z:Int):-9223372036854775808 ≤ wr z ∧ wr z ≤ 9223372036854775807:=by unfold wr;omega
def bytv:Int → List Value:=one (Value.int .u8)
def u64s:Int → List Value:=one (Value.int .u64)
instance:SizedC 1 bytv:=⟨Sized.one _⟩
instance:SizedC 1 u64s:=⟨Sized.one _⟩
theorem bytes_one:∀ ys:List Int,∀ v ∈ ys.flatMap bytv,v.oneCell' = true:=by
 intro ys v hv
 obtain ⟨d,_,hv⟩:=List.mem_flatMap.1 hv
 simp only [bytv,one,List.mem_cons,List.not_mem_nil,or_false] at hv
 subst hv;rfl
theorem u64s_one:∀ ys:List Int,∀ v ∈ ys.flatMap u64s,v.oneCell' = true:=by
 intro ys v hv
 obtain ⟨d,_,hv⟩:=List.mem_flatMap.1 hv
 simp only [u64s,one,List.mem_cons,List.not_mem_nil,or_false] at hv
 subst hv;rfl
instance:OneC bytv:=⟨bytes_one⟩
instance:OneC u64s:=⟨u64s_one⟩
instance {z:Int}:DecOf bytv [.int .u8 z] z:=⟨rfl⟩
instance {z:Int}:DecOf u64s [.int .u64 z] z:=⟨rfl⟩
def Byt (l:List Int):Prop:=∀ b ∈ l,0 ≤ b ∧ b < 256
theorem Byt.nil:Byt []:=fun b h=>(by cases h)
theorem Byt.append {l r:List Int} (h:Byt l) (k:Byt r):Byt (l ++ r):=fun b hb=>(List.mem_append.1 hb).elim (h b) (k b)
theorem Byt.take {l:List Int} (h:Byt l) (n:Nat):Byt (l.take n):=fun b hb=>h b (List.mem_of_mem_take hb)
theorem Byt.drop {l:List Int} (h:Byt l) (n:Nat):Byt (l.drop n):=fun b hb=>h b (List.mem_of_mem_drop hb)
theorem Byt.rep (n:Nat):Byt (List.replicate n 0):=fun b hb=>by obtain rfl:=List.eq_of_mem_replicate hb;decide
structure Dev where
 img:List Int
 q:List (Int × List Int)
 step:Int
 keep:List Int
 torn:Int
 off:Int
 down:Bool
 calls:Int
def layAt (m:List Int) (i:Int) (b:List Int):List Int:=m.take (i.toNat * 512) ++ b ++ m.drop (i.toNat * 512 + b.length)
theorem layAt_len {m:List Int} {i:Int} {b:List Int} (h:i.toNat * 512 + b.length ≤ m.length):(layAt m i b).length = m.length:=by
 simp [layAt];omega
def secOf (m:List Int) (i:Int):List Int:=(m.drop (i.toNat * 512)).take 512
def lastOf (i:Int):List (Int × List Int) → Option (List Int)
 | []=>none
 | p :: q=>match lastOf i q with
  | some b=>some b
  | none=>if p.1 = i then some p.2 else none
def Dev.at (D:Dev) (i:Int):List Int:=(lastOf i D.q).getD (secOf D.img i)
def keptB (keep:List Int) (k:Nat):Bool:=match keep[k / 64]? with
 | some z=>decide (z / 2 ^ (k % 64) % 2 = 1)
 | none=>false
def fallG (keep:List Int) (torn off:Int):Nat → List (Int × List Int) → List Int → List Int
 | _,[],m=>m
 | k,p :: q,m=>fallG keep torn off (k + 1) q (if keptB keep k then layAt m p.1 p.2 else if (k:Int) = torn then layAt m p.1 (p.2.take (min (max off 0) 512).toNat) else m)
def flushG:List (Int × List Int) → List Int → List Int
 | [],m=>m
 | p :: q,m=>flushG q (layAt m p.1 p.2)
def Dev.fallen (D:Dev) (keep:List Int) (torn off:Int):Dev:={ D with img:=fallG keep torn off 0 D.q D.img,q:=[],step:=0,keep:=[],torn:=0,off:=0,down:=true }
def Dev.counted (D:Dev):Dev:={ D with calls:=wr (D.calls + 1),step:=if D.step = 0 then 0 else D.step - 1 }
def Dev.crashes (D:Dev):Bool:=decide (D.step = 1)
def Dev.secs (D:Dev):Int:=(D.img.length:Int) / 512
def Dev.write (D:Dev) (i:Int) (b:List Int):Int × Dev :=
 if D.down then (40,D) else if i < 0 ∨ i ≥ D.secs then (41,D) else if b.length ≠ 512 then (42,D) else
 if D.crashes then (40,{ D.counted with q:=D.q ++ [(i,b)] }.fallen D.keep D.torn D.off) else (0,{ D.counted with q:=D.q ++ [(i,b)] })
def Dev.sync (D:Dev):Int × Dev :=
 if D.down then (40,D) else if D.crashes then (40,D.counted.fallen D.keep D.torn D.off) else (0,{ D.counted with img:=flushG D.q D.img,q:=[] })
def Dev.read (D:Dev) (i:Int):Int × List Int:=if D.down then (40,[]) else if i < 0 ∨ i ≥ D.secs then (41,[]) else (0,D.at i)
def Dev.arm (D:Dev) (step:Int) (keep:List Int) (torn off:Int):Int × Dev :=
 if D.down then (40,D) else if step < 0 then (4,D) else (0,{ D with step:=step,keep:=keep,torn:=torn,off:=off })
def Dev.crash (D:Dev) (keep:List Int) (torn off:Int):Int × Dev:=if D.down then (40,D) else (0,D.fallen keep torn off)
def Dev.up (D:Dev):Dev:={ D with down:=false,step:=0 }
structure Dev.Ok (D:Dev):Prop where
 len:D.img.length % 512 = 0
 pos:512 ≤ D.img.length ∧ D.img.length ≤ 4194304
 byt:Byt D.img
 q:∀ p ∈ D.q,0 ≤ p.1 ∧ p.1.toNat * 512 + 512 ≤ D.img.length ∧ p.2.length = 512 ∧ Byt p.2
 step:0 ≤ D.step ∧ D.step ≤ 9223372036854775807
 calls:-9223372036854775808 ≤ D.calls ∧ D.calls ≤ 9223372036854775807
theorem layAt_byt {m:List Int} {i:Int} {b:List Int} (h:Byt m) (k:Byt b):Byt (layAt m i b):=((h.take _).append k).append (h.drop _)
theorem fallG_ok {keep:List Int} {torn off:Int}:∀ (q:List (Int × List Int)) (k:Nat) (m:List Int),(∀ p ∈ q,0 ≤ p.1 ∧ p.1.toNat * 512 + 512 ≤ m.length ∧ p.2.length = 512 ∧ Byt p.2) → Byt m → (fallG keep torn off k q m).length = m.length ∧ Byt (fallG keep torn off k q m)
 | [],_,_,_,h=>⟨rfl,h⟩
 | p :: q,k,m,hq,hm=>by
  obtain ⟨h1,h2,h3,h4⟩:=hq p List.mem_cons_self
  have key:∀ m':List Int,m'.length = m.length → Byt m' → (fallG keep torn off (k + 1) q m').length = m.length ∧ Byt (fallG keep torn off (k + 1) q m'):=fun m' hl hb=>by
   have:=fallG_ok (keep:=keep) (torn:=torn) (off:=off) q (k + 1) m' (fun p' hp'=>by rw [hl];exact hq p' (List.mem_cons_of_mem _ hp')) hb
   exact ⟨this.1.trans hl,this.2⟩
  unfold fallG
  split
  ·exact key _ (layAt_len (by omega)) (layAt_byt hm h4)
  ·split
   ·exact key _ (layAt_len (by simp;omega)) (layAt_byt hm (h4.take _))
   ·exact key _ rfl hm
theorem flushG_ok:∀ (q:List (Int × List Int)) (m:List Int),(∀ p ∈ q,0 ≤ p.1 ∧ p.1.toNat * 512 + 512 ≤ m.length ∧ p.2.length = 512 ∧ Byt p.2) → Byt m → (flushG q m).length = m.length ∧ Byt (flushG q m)
 | [],_,_,h=>⟨rfl,h⟩
 | p :: q,m,hq,hm=>by
  obtain ⟨h1,h2,h3,h4⟩:=hq p List.mem_cons_self
  have hl:=layAt_len (m:=m) (i:=p.1) (b:=p.2) (by omega)
  have:=flushG_ok q (layAt m p.1 p.2) (fun p' hp'=>by rw [hl];exact hq p' (List.mem_cons_of_mem _ hp')) (layAt_byt hm h4)
  exact ⟨this.1.trans hl,this.2⟩
theorem Dev.Ok.fallen {D:Dev} (h:D.Ok) (keep:List Int) (torn off:Int):(D.fallen keep torn off).Ok:=by
 have:=fallG_ok (keep:=keep) (torn:=torn) (off:=off) D.q 0 D.img h.q h.byt
 exact ⟨by rw [show (D.fallen keep torn off).img.length = D.img.length from this.1];exact h.len,by rw [show (D.fallen keep torn off).img.length = D.img.length from this.1];exact h.pos,this.2,fun p hp=>(by cases hp),⟨Int.le_refl _,by simp [Dev.fallen]⟩,h.calls⟩
theorem Dev.Ok.counted {D:Dev} (h:D.Ok):D.counted.Ok :=
 ⟨h.len,h.pos,h.byt,h.q,by have:=h.step;simp only [Dev.counted];split <;> omega,wr_in _⟩
theorem Dev.Ok.pushed {D:Dev} (h:D.Ok) {i:Int} {b:List Int} (h1:¬ (i < 0 ∨ i ≥ D.secs)) (h2:b.length = 512) (h3:Byt b):({ D with q:=D.q ++ [(i,b)] }:Dev).Ok :=
 ⟨h.len,h.pos,h.byt,fun p hp=>by
  rcases List.mem_append.1 hp with hp|hp
  ·exact h.q p hp
  ·obtain rfl:=List.mem_singleton.1 hp
   have:=h.len
   simp only [Dev.secs] at h1
   exact ⟨by omega,by show i.toNat * 512 + 512 ≤ D.img.length;omega,h2,h3⟩,h.step,h.calls⟩
theorem Dev.Ok.write {D:Dev} (h:D.Ok) {i:Int} {b:List Int} (hb:Byt b):(D.write i b).2.Ok:=by
 unfold Dev.write
 split
 ·exact h
 ·split
  ·exact h
  ·split
   ·exact h
   ·rename_i h1 h2
    have hp:({ D.counted with q:=D.q ++ [(i,b)] }:Dev).Ok:=Dev.Ok.pushed (D:=D.counted) h.counted h1 (by omega) hb
    split
    ·exact hp.fallen _ _ _
    ·exact hp
theorem Dev.Ok.sync {D:Dev} (h:D.Ok):D.sync.2.Ok:=by
 unfold Dev.sync
 split
 ·exact h
 ·split
  ·exact h.counted.fallen _ _ _
  ·have:=flushG_ok D.q D.img h.q h.byt
   exact ⟨by show (flushG D.q D.img).length % 512 = 0;rw [this.1];exact h.len,by show _ ≤ (flushG D.q D.img).length ∧ (flushG D.q D.img).length ≤ _;rw [this.1];exact h.pos,this.2,fun p hp=>(by cases hp),h.counted.step,wr_in _⟩
end Go.SL.Sec
/- Numbers as bytv; the checksum, in plain words. No condition. -/
namespace Go.SL.Fld
open Go Go.SL Go.SL.Sec
def leB:Nat → Int → List Int
 | 0,_=>[]
 | k + 1,n=>n % 256 :: leB k (n / 256)
def leV:List Int → Int
 | []=>0
 | b :: r=>b + 256 * leV r
theorem leB_len:∀ (k:Nat) (n:Int),(leB k n).length = k
 | 0,_=>rfl
 | k + 1,n=>by simp [leB,leB_len k]
theorem leB_byt:∀ (k:Nat) (n:Int),Byt (leB k n)
 | 0,_=>Byt.nil
 | k + 1,n=>fun b hb=>by
  rcases List.mem_cons.1 hb with rfl|hb
  ·omega
  ·exact leB_byt k _ b hb
theorem leB_snoc:∀ (k:Nat) (n:Int),leB (k + 1) n = leB k n ++ [n / 256 ^ k % 256]
 | 0,n=>by simp [leB]
 | k + 1,n=>by
  rw [leB,leB_snoc k (n / 256),leB]
  rw [List.cons_append,Int.ediv_ediv_of_nonneg (by decide),Int.pow_succ,Int.mul_comm]
theorem leV_leB:∀ (k:Nat) (n:Int),0 ≤ n → n < 256 ^ k → leV (leB k n) = n
 | 0,n,h0,h=>by simp only [Int.pow_zero] at h;simp [leB,leV];omega
 | k + 1,n,h0,h=>by
  have h1:n / 256 < 256 ^ k:=Int.ediv_lt_of_lt_mul (by decide) (by rw [← Int.pow_succ];exact h)
  rw [leB,leV,leV_leB k (n / 256) (by omega) h1]
  omega
theorem leV_bd:∀ l:List Int,Byt l → 0 ≤ leV l ∧ leV l < 256 ^ l.length
 | [],_=>by simp [leV]
 | b :: r,h=>by
  have h1:=h b List.mem_cons_self
  have h2:=leV_bd r fun x hx=>h x (List.mem_cons_of_mem _ hx)
  simp only [leV,List.length_cons,Int.pow_succ]
  omega
theorem leV_snoc:∀ (l:List Int) (b:Int),leV (l ++ [b]) = leV l + b * 256 ^ l.length
 | [],b=>by simp [leV]
 | c :: l,b=>by
  simp only [List.cons_append,leV,leV_snoc l b,List.length_cons,Int.pow_succ]
  rw [Int.mul_add,Int.mul_comm (256 ^ l.length) 256,← Int.mul_assoc,← Int.mul_assoc,Int.mul_comm 256 b,Int.add_assoc]
def putB (l:List Int) (at_ size:Nat) (n:Int):List Int:=l.take at_ ++ leB size n ++ l.drop (at_ + size)
def getB (l:List Int) (at_ size:Nat):Int:=leV ((l.drop at_).take size)
theorem putB_len {l:List Int} {at_ size:Nat} {n:Int} (h:at_ + size ≤ l.length):(putB l at_ size n).length = l.length:=by
 simp [putB,leB_len];omega
theorem putB_byt {l:List Int} {at_ size:Nat} {n:Int} (h:Byt l):Byt (putB l at_ size n):=((h.take _).append (leB_byt _ _)).append (h.drop _)
theorem putB_zero (l:List Int) (at_:Nat) (n:Int):putB l at_ 0 n = l:=by simp [putB,leB]
theorem putB_succ {l:List Int} {at_ k:Nat} {n:Int} (h:at_ + k < l.length):(putB l at_ k n).set (at_ + k) (n / 256 ^ k % 256) = putB l at_ (k + 1) n:=by
 have h1:(l.take at_ ++ leB k n).length = at_ + k:=by simp [leB_len];omega
 have h2:l.drop (at_ + k) = l[at_ + k] :: l.drop (at_ + k + 1):=List.drop_eq_getElem_cons h
 unfold putB
 rw [h2,List.set_append_right _ _ (by omega),h1,Nat.sub_self,List.set_cons_zero,leB_snoc,← List.append_assoc]
 simp [Nat.add_assoc]
theorem putB_get {l:List Int} {at_ k:Nat} {n:Int} (h:at_ + k < l.length):(putB l at_ k n)[at_ + k]? = some l[at_ + k]:=by
 have h1:(l.take at_ ++ leB k n).length = at_ + k:=by simp [leB_len];omega
 unfold putB
 rw [List.getElem?_append_right (by omega),h1,Nat.sub_self,List.getElem?_drop,Nat.add_zero,List.getElem?_eq_getElem h]
theorem getB_succ {l:List Int} {at_ k:Nat} {b:Int} (h:l[at_ + k]? = some b):getB l at_ (k + 1) = getB l at_ k + b * 256 ^ k:=by
 have hlt:=(List.getElem?_eq_some_iff.1 h).1
 unfold getB
 have h1:(l.drop at_)[k]? = some b:=by rw [List.getElem?_drop];exact h
 rw [List.take_add_one,h1]
 show leV (_ ++ [b]) = _
 rw [leV_snoc]
 have:((l.drop at_).take k).length = k:=by simp;omega
 rw [this]
theorem getB_bd {l:List Int} (h:Byt l) (at_ size:Nat):0 ≤ getB l at_ size ∧ getB l at_ size < 256 ^ size:=by
 have h1:=leV_bd _ ((h.drop at_).take size)
 have h2:(256:Int) ^ ((l.drop at_).take size).length ≤ 256 ^ size:=by
  have h3:=Int.ofNat_le.2 (Nat.pow_le_pow_right (show 0 < 256 by decide) (show ((l.drop at_).take size).length ≤ size from List.length_take_le _ _))
  rwa [Int.natCast_pow,Int.natCast_pow] at h3
 exact ⟨h1.1,by unfold getB;omega⟩
end Go.SL.Fld
namespace Go.SL
open Go
theorem p256 (k:Nat):(2:Int) ^ (8 * k) = 256 ^ k:=by rw [Int.pow_mul];rfl
theorem Shr.v {k:IntKind} {n m:Int} {K:Int → Prop} (j:Nat) (h:m = (j:Int)) (h0:j ≤ k.bits) (hk:K (n / 2 ^ j)):Shr k n m K:=by
 subst h
 refine ⟨by omega,?_⟩
 rw [Int.toNat_natCast,Nat.min_eq_left h0,Int.fdiv_eq_ediv_of_nonneg]
 ·exact hk
 ·exact Int.le_of_lt (Int.pow_pos (by decide))
theorem Shl.v {k:IntKind} {n m:Int} {K:Int → Prop} (j:Nat) (h:m = (j:Int)) (h0:j ≤ k.bits) (hk:Ar k (n * 2 ^ j) K):Shl k n m K:=by
 subst h
 refine ⟨by omega,?_⟩
 rw [Int.toNat_natCast,Nat.min_eq_left h0]
 exact hk.ex
theorem bits_or_add {k:IntKind} {n y:Int} (i:Nat) (h0:0 ≤ n) (h1:n < 2 ^ i) (hy:0 ≤ y) (hm:k.signed = false) (hb:n + y * 2 ^ i < 2 ^ k.bits):bits .or k n (y * 2 ^ i) = n + y * 2 ^ i:=by
 obtain ⟨n',rfl⟩:=Int.eq_ofNat_of_zero_le h0
 obtain ⟨y',rfl⟩:=Int.eq_ofNat_of_zero_le hy
 have h1':n' < 2 ^ i:=by exact_mod_cast h1
 have hb':n' + y' * 2 ^ i < 2 ^ k.bits:=by exact_mod_cast hb
 have e1:((y':Int) * 2 ^ i) = ((y' * 2 ^ i:Nat):Int):=by simp
 rw [e1]
 have hor:n' ||| (y' * 2 ^ i) = n' + y' * 2 ^ i:=by
  have:=Nat.two_pow_add_eq_or_of_lt h1' y'
  rw [Nat.mul_comm (2 ^ i) y'] at this
  rw [Nat.or_comm,← this,Nat.add_comm]
 have b1:(BitVec.ofInt k.bits (n':Int)).toNat = n':=by rw [BitVec.ofInt_natCast,BitVec.toNat_ofNat,Nat.mod_eq_of_lt (by omega)]
 have b2:(BitVec.ofInt k.bits ((y' * 2 ^ i:Nat):Int)).toNat = y' * 2 ^ i:=by rw [BitVec.ofInt_natCast,BitVec.toNat_ofNat,Nat.mod_eq_of_lt (by omega)]
 simp only [bits,BitVec.toNat_or,b1,b2,hor]
 have hw:((n' + y' * 2 ^ i:Nat):Int) % 2 ^ k.bits = ((n' + y' * 2 ^ i:Nat):Int):=Int.emod_eq_of_lt (by omega) (by exact_mod_cast hb')
 have hw2:k.wrap ((n' + y' * 2 ^ i:Nat):Int) = ((n' + y' * 2 ^ i:Nat):Int):=by
  unfold IntKind.wrap
  rw [hm]
  simpa using hw
 rw [hw2];simp
theorem Bt.orAdd {k:IntKind} {n m y:Int} {K:Int → Prop} (i:Nat) (hm:m = y * 2 ^ i) (h0:0 ≤ n) (h1:n < 2 ^ i) (hy:0 ≤ y) (hs:k.signed = false) (hb:n + y * 2 ^ i < 2 ^ k.bits) (hk:K (n + y * 2 ^ i)):Bt .or k n m K:=by
 subst hm
 exact ⟨by rw [bits_or_add i h0 h1 hy hs hb];exact hk⟩
end Go.SL
/- The checksum's register, in plain words: eight steps of a bit are two steps of a table. No condition. -/
namespace Go.SL.Fld
open Go Go.SL Go.SL.Sec
def crc1 (c:BitVec 32):BitVec 32:=if c &&& 1#32 = 1#32 then (c >>> 1) ^^^ 0xedb88320#32 else c >>> 1
def crcB (c:BitVec 32) (b:Int):BitVec 32 :=
 crc1 (crc1 (crc1 (crc1 (crc1 (crc1 (crc1 (crc1 (c ^^^ BitVec.ofInt 32 b))))))))
def crcL (c:BitVec 32) (l:List Int):BitVec 32:=l.foldl crcB c
def crcV (l:List Int):Int:=((~~~ (crcL (BitVec.allOnes 32) l)).toNat:Int)
theorem crcL_append (c:BitVec 32) (l r:List Int):crcL c (l ++ r) = crcL (crcL c l) r:=List.foldl_append
def nibL:List Int:=[0x00000000,0x1db71064,0x3b6e20c8,0x26d930ac,0x76dc4190,0x6b6b51f4,0x4db26158,0x5005713c,
 0xedb88320,0xf00f9344,0xd6d6a3e8,0xcb61b38c,0x9b64c2b0,0x86d3d2d4,0xa00ae278,0xbdbdf21c]
def nib (i:Nat):BitVec 32:=BitVec.ofInt 32 (nibL[i]?.getD 0)
def crc4 (c:BitVec 32):BitVec 32:=(c >>> 4) ^^^ nib (c.toNat % 16)
theorem crc1_xor (a b:BitVec 32):crc1 (a ^^^ b) = crc1 a ^^^ crc1 b:=by
 have ha:∀ c:BitVec 32,crc1 c = (c >>> 1) ^^^ (if c.getLsbD 0 then 0xedb88320#32 else 0#32):=by
  intro c
  have:(c &&& 1#32 = 1#32) ↔ c.getLsbD 0 = true:=by
   constructor
   ·intro h
    have:=congrArg (·.getLsbD 0) h
    simpa using this
   ·intro h
    apply BitVec.eq_of_getLsbD_eq
    intro i hi
    by_cases e:i = 0
    ·subst e;simp [h]
    ·simp [e,BitVec.getLsbD_one]
  unfold crc1
  by_cases h:c.getLsbD 0 = true
  ·rw [if_pos (this.2 h),if_pos h]
  ·rw [if_neg (fun k=>h (this.1 k)),if_neg h,BitVec.xor_zero]
 rw [ha,ha,ha]
 have hx:(a ^^^ b) >>> 1 = (a >>> 1) ^^^ (b >>> 1):=by
  apply BitVec.eq_of_getLsbD_eq
  intro i hi
  simp
 have hi:(if (a ^^^ b).getLsbD 0 then 0xedb88320#32 else 0#32) = (if a.getLsbD 0 then 0xedb88320#32 else 0#32) ^^^ (if b.getLsbD 0 then 0xedb88320#32 else 0#32):=by
  rw [BitVec.getLsbD_xor]
  cases a.getLsbD 0 <;> cases b.getLsbD 0 <;> simp
 rw [hx,hi]
 ac_rfl
theorem crc1_even {c:BitVec 32} (h:c.getLsbD 0 = false):crc1 c = c >>> 1:=by
 unfold crc1
 rw [if_neg]
 intro k
 have h2:=congrArg (fun x:BitVec 32=>x.getLsbD 0) k
 rw [BitVec.getLsbD_and,h,Bool.false_and] at h2
 exact absurd h2 (by decide)
theorem crc4_eq (c:BitVec 32):crc1 (crc1 (crc1 (crc1 c))) = crc4 c:=by
 have hlow:∀ i:Fin 16,crc1 (crc1 (crc1 (crc1 (BitVec.ofNat 32 i.val)))) = nib i.val:=by decide
 have hs:c = ((c >>> 4) <<< 4) ^^^ BitVec.ofNat 32 (c.toNat % 16):=by
  apply BitVec.eq_of_getLsbD_eq
  intro i hi
  have h16:(BitVec.ofNat 32 (c.toNat % 16)).getLsbD i = (decide (i < 4) && c.getLsbD i):=by
   rw [BitVec.getLsbD_ofNat,show (16:Nat) = 2 ^ 4 from rfl,Nat.testBit_mod_two_pow,BitVec.testBit_toNat]
   simp [hi]
  rw [BitVec.getLsbD_xor,h16,BitVec.getLsbD_shiftLeft,BitVec.getLsbD_ushiftRight]
  by_cases e:i < 4
  ·simp [e]
  ·have:4 + (i - 4) = i:=by omega
   simp [e,hi,this]
 have hhi:crc1 (crc1 (crc1 (crc1 ((c >>> 4) <<< 4)))) = c >>> 4:=by
  have e0:((c >>> 4) <<< 4).getLsbD 0 = false:=by simp
  have e1:(((c >>> 4) <<< 4) >>> 1).getLsbD 0 = false:=by simp
  have e2:((((c >>> 4) <<< 4) >>> 1) >>> 1).getLsbD 0 = false:=by simp
  have e3:(((((c >>> 4) <<< 4) >>> 1) >>> 1) >>> 1).getLsbD 0 = false:=by simp
  rw [crc1_even e0,crc1_even e1,crc1_even e2,crc1_even e3]
  apply BitVec.eq_of_getLsbD_eq
  intro i hi
  simp only [BitVec.getLsbD_ushiftRight,BitVec.getLsbD_shiftLeft]
  by_cases h:i < 28
  ·have h1:4 + (1 + (1 + (1 + (1 + i))) - 4) = 4 + i:=by omega
   have h2:1 + (1 + (1 + (1 + i))) < 32:=by omega
   have h3:¬ (1 + (1 + (1 + (1 + i))) < 4):=by omega
   simp [h1,h2,h3]
  ·have h2:¬ (1 + (1 + (1 + (1 + i))) < 32):=by omega
   simp [h2]
   rw [BitVec.getLsbD_of_ge _ _ (by omega)]
 have h1:=hlow ⟨c.toNat % 16,Nat.mod_lt _ (by decide)⟩
 dsimp only at h1
 conv=>lhs;rw [hs]
 rw [crc1_xor,crc1_xor,crc1_xor,crc1_xor,hhi,h1]
 rfl
theorem crcB_eq (c:BitVec 32) (b:Int):crcB c b = crc4 (crc4 (c ^^^ BitVec.ofInt 32 b)):=by
 unfold crcB
 rw [crc4_eq,crc4_eq]
end Go.SL.Fld
namespace Go.SL
open Go Go.SL.Fld
variable {P:Program} {W:World} {H:HProp}
abbrev w32 (c:BitVec 32):Int:=(c.toNat:Int)
theorem ofInt_w32 (c:BitVec 32):BitVec.ofInt 32 (w32 c) = c:=by simp [w32]
theorem wrap_w32 (c:BitVec 32):IntKind.u32.wrap (c.toNat:Int) = w32 c:=by
 have:=c.isLt
 rw [IntKind.wrap_u32]
 exact Int.emod_eq_of_lt (by omega) (by omega)
theorem Bt.xor32 {c:BitVec 32} {m:Int} {K:Int → Prop} (hk:K (w32 (c ^^^ BitVec.ofInt 32 m))):Bt .xor .u32 (w32 c) m K:=by
 refine ⟨?_⟩
 have:bits .xor .u32 (w32 c) m = w32 (c ^^^ BitVec.ofInt 32 m):=by
  show IntKind.u32.wrap ((BitVec.ofInt 32 (w32 c) ^^^ BitVec.ofInt 32 m).toNat:Int) = _
  rw [ofInt_w32,wrap_w32]
 rw [this];exact hk
theorem shr4_w32 (c:BitVec 32):(w32 c:Int) / (16:Int) = w32 (c >>> 4):=by
 unfold w32
 rw [BitVec.toNat_ushiftRight,Nat.shiftRight_eq_div_pow];omega
theorem OpX.not32 {t:TypeId} {x:Operand} {ty:TypeId} {ev:Operand → Option Value} {K:Value → HProp → Prop} {Kp:List PanicEntry → HProp → Prop} {c:BitVec 32}
  (hx:ev x = some (.int .u32 (w32 c))) (hk:K (.int .u32 (w32 (~~~ c))) H):OpX P W (.unOp .xor t x) ty ev H K Kp:=by
 refine OpX.of_quiet ⟨_,fun w ρ hw he o' ho hty=>?_,hk⟩
 obtain ⟨dst,op,ty',pos,after,guard⟩:=o'
 simp only at ho hty
 subst ho hty
 have h1:BitVec.ofInt 32 IntKind.u32.max ^^^ BitVec.ofInt 32 (w32 c) = ~~~ c:=by
  rw [ofInt_w32,show BitVec.ofInt 32 IntKind.u32.max = BitVec.allOnes 32 by decide,BitVec.allOnes_xor]
 simp only [execOp,he _ _ hx,Op.unary,Op.intBits,IntKind.signed,IntKind.bits]
 simp only [Bool.false_eq_true,if_false,wrap_w32]
 exact congrArg (fun z:BitVec 32=>(Result.ok (Next.value (Value.int IntKind.u32 (w32 z))) w:Result Next)) h1
end Go.SL
/- Numbers as bytes of their shortest form, in plain words; chunks of objects, found by their address. No condition. -/
namespace Go.SL
open Go
class ObjC {σ:Type} (F:Nat → σ → HProp) (H:HProp) (d:Nat) (X:outParam σ) (R:outParam HProp):Prop where h:Take H (F d X) R
instance (priority:=90) ObjC.there {σ:Type} {F:Nat → σ → HProp} {H R Y:HProp} {d:Nat} {X:σ} [i:ObjC F H d X R]:ObjC F (Y•H) d X (Y•R):=⟨i.h.there⟩
instance (priority:=100) ObjC.here {σ:Type} {F:Nat → σ → HProp} {R:HProp} {d:Nat} {X:σ}:ObjC F (F d X•R) d X R:=⟨.here⟩
end Go.SL
namespace Go.SL.Fld
open Go Go.SL Go.SL.Sec
def encN (n:Nat):List Int:=if 128 ≤ n then ((n % 128 + 128:Nat):Int) :: encN (n / 128) else [(n:Int)]
theorem encN_ge {n:Nat} (h:128 ≤ n):encN n = ((n % 128 + 128:Nat):Int) :: encN (n / 128):=by rw [encN,if_pos h]
theorem encN_lt {n:Nat} (h:n < 128):encN n = [(n:Int)]:=by rw [encN,if_neg (by omega)]
theorem encN_byt (n:Nat):Byt (encN n):=by
 induction n using Nat.strongRecOn with
 | _ n ih =>
  by_cases h:128 ≤ n
  ·rw [encN_ge h]
   intro b hb
   rcases List.mem_cons.1 hb with rfl|hb
   ·omega
   ·exact ih _ (by omega) b hb
  ·rw [encN_lt (by omega)]
   intro b hb
   obtain rfl:=List.mem_singleton.1 hb
   omega
theorem encN_len:∀ (k n:Nat),n < 128 ^ (k + 1) → (encN n).length ≤ k + 1
 | 0,n,h=>by rw [encN_lt (by simpa using h)];simp
 | k + 1,n,h=>by
  by_cases h1:128 ≤ n
  ·have:=encN_len k (n / 128) (Nat.div_lt_of_lt_mul (by rw [Nat.mul_comm,← Nat.pow_succ];exact h))
   rw [encN_ge h1];simp;omega
  ·rw [encN_lt (by omega)];simp
def zig (n:Int):Int:=if 0 ≤ n then 2 * n else -2 * n - 1
def zag (n:Int):Int:=if n % 2 = 0 then n / 2 else -(n / 2) - 1
def nextG:Nat → Int → List Int → Int × Int × Int
 | k,_,[]=>if k ≥ 10 then (0,0,22) else (0,0,20)
 | k,n,c :: r =>
  if k = 10 then (0,0,22) else
  if c ≥ 128 then nextG (k + 1) (n + c % 128 * 128 ^ k) r else
  if (0 < k ∧ c = 0) ∨ (k = 9 ∧ 1 < c) then (0,0,22) else (n + c * 128 ^ k,(k:Int) + 1,0)
end Go.SL.Fld
/- Records of the log: which are right ones. No condition. -/
namespace Go.SL.Rec
open Go Go.SL Go.SL.Sec Go.SL.Fld Go.SL.Pts
open Go.SL.Und (RecV recv rec_one fits)
def dirtyv (d:DirtyV):List Value:=[.int .i64 d.1,.int .i64 d.2]
instance:SizedC 2 dirtyv:=⟨fun _=>rfl⟩
instance {d:DirtyV}:LitL (dirtyv d) [.int .i64 d.1,.int .i64 d.2]:=⟨rfl⟩
instance {a b:Int}:DecOf dirtyv [.int .i64 a,.int .i64 b] (a,b):=⟨rfl⟩
instance:OneC dirtyv:=⟨fun ys v hv=>by
 obtain ⟨d,_,hv⟩:=List.mem_flatMap.1 hv
 simp only [dirtyv,List.mem_cons,List.not_mem_nil,or_false] at hv
 rcases hv with rfl|rfl <;> rfl⟩
def livev (d:LiveV):List Value:=[.int .i64 d.tx,.int .i64 d.last,.bool d.com,.bool d.und]
instance:SizedC 4 livev:=⟨fun _=>rfl⟩
instance {d:LiveV}:LitL (livev d) [.int .i64 d.tx,.int .i64 d.last,.bool d.com,.bool d.und]:=⟨rfl⟩
instance {a b:Int} {c d:Bool}:DecOf livev [.int .i64 a,.int .i64 b,.bool c,.bool d] ⟨a,b,c,d⟩:=⟨rfl⟩
instance:OneC livev:=⟨fun ys v hv=>by
 obtain ⟨d,_,hv⟩:=List.mem_flatMap.1 hv
 simp only [livev,List.mem_cons,List.not_mem_nil,or_false] at hv
 rcases hv with rfl|rfl|rfl|rfl <;> rfl⟩
instance {r : RecV} : LitL (recv r) [.int .i64 r.lsn, .int .i64 r.kind, .int .i64 r.tx, .int .i64 r.prev, .int .i64 r.wp, .int .i64 r.wi, .int .i64 r.sp, .int .i64 r.si, .int .i64 r.delta,
   .int .i64 r.id,.int .i64 r.grp,.int .i64 r.lo,.int .i64 r.hi,.int .i64 r.val,.slice r.lv.1 r.lv.2.1 r.lv.2.2,.slice r.dt.1 r.dt.2.1 r.dt.2.2,.int .i64 r.nxt]:=⟨rfl⟩
instance {a b c d e f g h i j k l m n:Int} {s t u v:Nat} {x y:Option Addr} {o:Int}:DecOf recv [.int .i64 a,.int .i64 b,.int .i64 c,.int .i64 d,.int .i64 e,.int .i64 f,.int .i64 g,.int .i64 h,.int .i64 i,.int .i64 j,.int .i64 k,.int .i64 l,.int .i64 m,.int .i64 n,.slice x s t,.slice y u v,.int .i64 o]
  ⟨a,b,c,d,e,f,g,h,i,j,k,l,m,n,(x,s,t),(y,u,v),o⟩:=⟨rfl⟩
instance:OneC recv:=⟨rec_one⟩
def recA (r : RecV) : Value := .agg ⟨[.int .i64 r.lsn, .int .i64 r.kind, .int .i64 r.tx, .int .i64 r.prev, .int .i64 r.wp, .int .i64 r.wi, .int .i64 r.sp, .int .i64 r.si, .int .i64 r.delta,
   .int .i64 r.id,.int .i64 r.grp,.int .i64 r.lo,.int .i64 r.hi,.int .i64 r.val,.slice r.lv.1 r.lv.2.1 r.lv.2.2,.slice r.dt.1 r.dt.2.1 r.dt.2.2,.int .i64 r.nxt]⟩
def Inn (n lo hi:Int):Prop:=lo ≤ n ∧ n ≤ hi
instance {n lo hi:Int}:Decidable (Inn n lo hi):=inferInstanceAs (Decidable (_ ∧ _))
def SlotsP (wp wi sp si:Int):Prop:=(0 ≤ wp ∧ wp ≤ 63) ∧ (0 ≤ wi ∧ wi ≤ 30) ∧ (0 ≤ sp ∧ sp ≤ 63) ∧ (0 ≤ si ∧ si ≤ 83) ∧ wp ≠ sp
instance {a b c d:Int}:Decidable (SlotsP a b c d):=inferInstanceAs (Decidable (_ ∧ _))
def BlankP (r:RecV):Prop:=r.tx = 0 ∧ r.prev = 0 ∧ (r.wp = 0 ∧ r.wi = 0) ∧ (r.sp = 0 ∧ r.si = 0) ∧ r.delta = 0 ∧ (r.id = 0 ∧ r.grp = 0 ∧ r.lo = 0 ∧ r.hi = 0 ∧ r.val = 0) ∧ r.nxt = 0 ∧ r.lv.2.1 = 0 ∧ r.dt.2.1 = 0
instance {r:RecV}:Decidable (BlankP r):=inferInstanceAs (Decidable (_ ∧ _))
def TxP (r:RecV):Prop:=1 ≤ r.tx ∧ r.tx ≤ 2147483647
instance {r:RecV}:Decidable (TxP r):=inferInstanceAs (Decidable (_ ∧ _))
def PrevP (r:RecV):Prop:=(1 ≤ r.prev ∧ r.prev ≤ 2147483647) ∧ (r.lsn = 0 ∨ r.prev < r.lsn)
instance {r:RecV}:Decidable (PrevP r):=inferInstanceAs (Decidable (_ ∧ _))
def FieldsP (r:RecV) (L:List LiveV) (D:List DirtyV):Prop :=
  (0 ≤ r.lsn ∧ r.lsn ≤ 2147483647) ∧
  (if r.kind = 2 then SlotsP r.wp r.wi r.sp r.si ∧ (1 ≤ r.id ∧ r.id ≤ 1048576) ∧ (1 ≤ r.grp ∧ r.grp ≤ 1048576) ∧ (r.lo ≤ r.val ∧ r.val ≤ r.hi) ∧ BlankP { r with wp:=0,wi:=0,sp:=0,si:=0,id:=0,grp:=0,lo:=0,hi:=0,val:=0 }
   else if r.kind = 8 then cpF r.nxt r.lsn L D = true ∧ BlankP { r with lv:=(none,0,0),dt:=(none,0,0),nxt:=0 }
   else if r.kind = 3 ∨ r.kind = 4 then SlotsP r.wp r.wi r.sp r.si ∧ (1 ≤ r.id ∧ r.id ≤ 1048576) ∧ PrevP r ∧ TxP r ∧ BlankP { r with wp:=0,wi:=0,sp:=0,si:=0,id:=0,delta:=0,prev:=0,tx:=0 }
   else if r.kind = 5 ∨ r.kind = 6 ∨ r.kind = 7 then PrevP r ∧ TxP r ∧ BlankP { r with prev:=0,tx:=0 }
   else TxP r ∧ BlankP { r with tx:=0 })
instance {r:RecV} {L:List LiveV} {D:List DirtyV}:Decidable (FieldsP r L D):=by
 unfold FieldsP
 exact inferInstance
theorem FieldsP.one {r:RecV} {L:List LiveV} {D:List DirtyV} (h:r.kind = 1):FieldsP r L D ↔ (0 ≤ r.lsn ∧ r.lsn ≤ 2147483647) ∧ (1 ≤ r.tx ∧ r.tx ≤ 2147483647) ∧ BlankP { r with tx:=0 }:=by
 unfold FieldsP
 rw [if_neg (by omega),if_neg (by omega),if_neg (by omega),if_neg (by omega)];rfl
theorem FieldsP.two {r:RecV} {L:List LiveV} {D:List DirtyV} (h:r.kind = 2):FieldsP r L D ↔ (0 ≤ r.lsn ∧ r.lsn ≤ 2147483647) ∧ SlotsP r.wp r.wi r.sp r.si ∧ (1 ≤ r.id ∧ r.id ≤ 1048576) ∧ (1 ≤ r.grp ∧ r.grp ≤ 1048576) ∧ (r.lo ≤ r.val ∧ r.val ≤ r.hi) ∧ BlankP { r with wp:=0,wi:=0,sp:=0,si:=0,id:=0,grp:=0,lo:=0,hi:=0,val:=0 }:=by
 unfold FieldsP
 rw [if_pos h]
theorem FieldsP.add {r:RecV} {L:List LiveV} {D:List DirtyV} (h:r.kind = 3 ∨ r.kind = 4):FieldsP r L D ↔ (0 ≤ r.lsn ∧ r.lsn ≤ 2147483647) ∧ SlotsP r.wp r.wi r.sp r.si ∧ (1 ≤ r.id ∧ r.id ≤ 1048576) ∧ ((1 ≤ r.prev ∧ r.prev ≤ 2147483647) ∧ (r.lsn = 0 ∨ r.prev < r.lsn)) ∧ (1 ≤ r.tx ∧ r.tx ≤ 2147483647) ∧ BlankP { r with wp:=0,wi:=0,sp:=0,si:=0,id:=0,delta:=0,prev:=0,tx:=0 }:=by
 unfold FieldsP
 rw [if_neg (by omega),if_neg (by omega),if_pos h];rfl
theorem FieldsP.end_ {r:RecV} {L:List LiveV} {D:List DirtyV} (h:r.kind = 5 ∨ r.kind = 6 ∨ r.kind = 7):FieldsP r L D ↔ (0 ≤ r.lsn ∧ r.lsn ≤ 2147483647) ∧ ((1 ≤ r.prev ∧ r.prev ≤ 2147483647) ∧ (r.lsn = 0 ∨ r.prev < r.lsn)) ∧ (1 ≤ r.tx ∧ r.tx ≤ 2147483647) ∧ BlankP { r with prev:=0,tx:=0 }:=by
 unfold FieldsP
 rw [if_neg (by omega),if_neg (by omega),if_neg (by omega),if_pos h];rfl
theorem FieldsP.cp {r:RecV} {L:List LiveV} {D:List DirtyV} (h:r.kind = 8):FieldsP r L D ↔ (0 ≤ r.lsn ∧ r.lsn ≤ 2147483647) ∧ cpF r.nxt r.lsn L D = true ∧ BlankP { r with lv:=(none,0,0),dt:=(none,0,0),nxt:=0 }:=by
 unfold FieldsP
 rw [if_neg (by omega),if_pos h]
def chkF (r:RecV) (L:List LiveV) (D:List DirtyV):Int:=if r.kind < 1 ∨ r.kind > 8 then 70 else if FieldsP r L D then 0 else 23
attribute [irreducible] BlankP SlotsP
end Go.SL.Rec
