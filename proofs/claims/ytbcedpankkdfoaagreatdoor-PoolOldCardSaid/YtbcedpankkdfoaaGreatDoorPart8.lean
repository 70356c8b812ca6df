/- The checksum's register, in plain words: eight steps of a bit are two steps of a table. No condition. -/
import Derived.Test.YtbcedpankkdfoaaGreatDoorPart7
import Derived.Test.YtbcedpankkdfoaaGreatDoorPart6
namespace Go.SL.Fld
open Go Go.SL Go.SL.Sec
def crc1 (c:BitVec 32):BitVec 32:=if c &&& 1#32 = 1#32 then (c >>> 1) ^^^ 0xedb88320#32 else c >>> 1
def crcB (c:BitVec 32) (b:Int):BitVec 32 :=
 crc1 (crc1 (crc1 (crc1 (crc1 (crc1 (crc1 (crc1 (c ^^^ BitVec.ofInt 32 b))))))))
def crcL (c:BitVec 32) (l:List Int):BitVec 32:=l.foldl crcB c
def crcV (l:List Int):Int:=((~~~ (crcL (BitVec.allOnes 32) l)).toNat:Int)
theorem crcL_append (c:BitVec 32) (l r:List Int):crcL c (l ++ r) = crcL (crcL c l) r:=List.foldl_append
def nibL:List Int:=[0x00000000,0x1db71064,0x3b6e20c8,0x26d930ac,0x76dc4190,0x6b6b51f4,0x4db26158,0x5005713c,
 0xedb88320,0xf00f9344,0xd6d6a3e8,0xcb61b38c,0x9b64c2b0,0x86d3d2d4,0xa00ae278,0xbdbdf21c]
def nib (i:Nat):BitVec 32:=BitVec.ofInt 32 (nibL[i]?.getD 0)
def crc4 (c:BitVec 32):BitVec 32:=(c >>> 4) ^^^ nib (c.toNat % 16)
theorem crc1_xor (a b:BitVec 32):crc1 (a ^^^ b) = crc1 a ^^^ crc1 b:=by
 have ha:∀ c:BitVec 32,crc1 c = (c >>> 1) ^^^ (if c.getLsbD 0 then 0xedb88320#32 else 0#32):=by
  intro c
  have:(c &&& 1#32 = 1#32) ↔ c.getLsbD 0 = true:=by
   constructor
   ·intro h
    have:=congrArg (·.getLsbD 0) h
    simpa using this
   ·intro h
    apply BitVec.eq_of_getLsbD_eq
    intro i hi
    by_cases e:i = 0
    ·subst e;simp [h]
    ·simp [e,BitVec.getLsbD_one]
  unfold crc1
  by_cases h:c.getLsbD 0 = true
  ·rw [if_pos (this.2 h),if_pos h]
  ·rw [if_neg (fun k=>h (this.1 k)),if_neg h,BitVec.xor_zero]
 rw [ha,ha,ha]
 have hx:(a ^^^ b) >>> 1 = (a >>> 1) ^^^ (b >>> 1):=by
  apply BitVec.eq_of_getLsbD_eq
  intro i hi
  simp
 have hi:(if (a ^^^ b).getLsbD 0 then 0xedb88320#32 else 0#32) = (if a.getLsbD 0 then 0xedb88320#32 else 0#32) ^^^ (if b.getLsbD 0 then 0xedb88320#32 else 0#32):=by
  rw [BitVec.getLsbD_xor]
  cases a.getLsbD 0 <;> cases b.getLsbD 0 <;> simp
 rw [hx,hi]
 ac_rfl
theorem crc1_even {c:BitVec 32} (h:c.getLsbD 0 = false):crc1 c = c >>> 1:=by
 unfold crc1
 rw [if_neg]
 intro k
 have h2:=congrArg (fun x:BitVec 32=>x.getLsbD 0) k
 rw [BitVec.getLsbD_and,h,Bool.false_and] at h2
 exact absurd h2 (by decide)
theorem crc4_eq (c:BitVec 32):crc1 (crc1 (crc1 (crc1 c))) = crc4 c:=by
 have hlow:∀ i:Fin 16,crc1 (crc1 (crc1 (crc1 (BitVec.ofNat 32 i.val)))) = nib i.val:=by decide
 have hs:c = ((c >>> 4) <<< 4) ^^^ BitVec.ofNat 32 (c.toNat % 16):=by
  apply BitVec.eq_of_getLsbD_eq
  intro i hi
  have h16:(BitVec.ofNat 32 (c.toNat % 16)).getLsbD i = (decide (i < 4) && c.getLsbD i):=by
   rw [BitVec.getLsbD_ofNat,show (16:Nat) = 2 ^ 4 from rfl,Nat.testBit_mod_two_pow,BitVec.testBit_toNat]
   simp [hi]
  rw [BitVec.getLsbD_xor,h16,BitVec.getLsbD_shiftLeft,BitVec.getLsbD_ushiftRight]
  by_cases e:i < 4
  ·simp [e]
  ·have:4 + (i - 4) = i:=by omega
   simp [e,hi,this]
 have hhi:crc1 (crc1 (crc1 (crc1 ((c >>> 4) <<< 4)))) = c >>> 4:=by
  have e0:((c >>> 4) <<< 4).getLsbD 0 = false:=by simp
  have e1:(((c >>> 4) <<< 4) >>> 1).getLsbD 0 = false:=by simp
  have e2:((((c >>> 4) <<< 4) >>> 1) >>> 1).getLsbD 0 = false:=by simp
  have e3:(((((c >>> 4) <<< 4) >>> 1) >>> 1) >>> 1).getLsbD 0 = false:=by simp
  rw [crc1_even e0,crc1_even e1,crc1_even e2,crc1_even e3]
  apply BitVec.eq_of_getLsbD_eq
  intro i hi
  simp only [BitVec.getLsbD_ushiftRight,BitVec.getLsbD_shiftLeft]
  by_cases h:i < 28
  ·have h1:4 + (1 + (1 + (1 + (1 + i))) - 4) = 4 + i:=by omega
   have h2:1 + (1 + (1 + (1 + i))) < 32:=by omega
   have h3:¬ (1 + (1 + (1 + (1 + i))) < 4):=by omega
   simp [h1,h2,h3]
  ·have h2:¬ (1 + (1 + (1 + (1 + i))) < 32):=by omega
   simp [h2]
   rw [BitVec.getLsbD_of_ge _ _ (by omega)]
 have h1:=hlow ⟨c.toNat % 16,Nat.mod_lt _ (by decide)⟩
 dsimp only at h1
 conv=>lhs;rw [hs]
 rw [crc1_xor,crc1_xor,crc1_xor,crc1_xor,hhi,h1]
 rfl
theorem crcB_eq (c:BitVec 32) (b:Int):crcB c b = crc4 (crc4 (c ^^^ BitVec.ofInt 32 b)):=by
 unfold crcB
 rw [crc4_eq,crc4_eq]
end Go.SL.Fld
namespace Go.SL
open Go Go.SL.Fld
variable {P:Program} {W:World} {H:HProp}
abbrev w32 (c:BitVec 32):Int:=(c.toNat:Int)
theorem ofInt_w32 (c:BitVec 32):BitVec.ofInt 32 (w32 c) = c:=by simp [w32]
theorem wrap_w32 (c:BitVec 32):IntKind.u32.wrap (c.toNat:Int) = w32 c:=by
 have:=c.isLt
 rw [IntKind.wrap_u32]
 exact Int.emod_eq_of_lt (by omega) (by omega)
theorem Bt.xor32 {c:BitVec 32} {m:Int} {K:Int → Prop} (hk:K (w32 (c ^^^ BitVec.ofInt 32 m))):Bt .xor .u32 (w32 c) m K:=by
 refine ⟨?_⟩
 have:bits .xor .u32 (w32 c) m = w32 (c ^^^ BitVec.ofInt 32 m):=by
  show IntKind.u32.wrap ((BitVec.ofInt 32 (w32 c) ^^^ BitVec.ofInt 32 m).toNat:Int) = _
  rw [ofInt_w32,wrap_w32]
 rw [this];exact hk
theorem shr4_w32 (c:BitVec 32):(w32 c:Int) / (16:Int) = w32 (c >>> 4):=by
 unfold w32
 rw [BitVec.toNat_ushiftRight,Nat.shiftRight_eq_div_pow];omega
theorem OpX.not32 {t:TypeId} {x:Operand} {ty:TypeId} {ev:Operand → Option Value} {K:Value → HProp → Prop} {Kp:List PanicEntry → HProp → Prop} {c:BitVec 32}
  (hx:ev x = some (.int .u32 (w32 c))) (hk:K (.int .u32 (w32 (~~~ c))) H):OpX P W (.unOp .xor t x) ty ev H K Kp:=by
 refine OpX.of_quiet ⟨_,fun w ρ hw he o' ho hty=>?_,hk⟩
 obtain ⟨dst,op,ty',pos,after,guard⟩:=o'
 simp only at ho hty
 subst ho hty
 have h1:BitVec.ofInt 32 IntKind.u32.max ^^^ BitVec.ofInt 32 (w32 c) = ~~~ c:=by
  rw [ofInt_w32,show BitVec.ofInt 32 IntKind.u32.max = BitVec.allOnes 32 by decide,BitVec.allOnes_xor]
 simp only [execOp,he _ _ hx,Op.unary,Op.intBits,IntKind.signed,IntKind.bits]
 simp only [Bool.false_eq_true,if_false,wrap_w32]
 exact congrArg (fun z:BitVec 32=>(Result.ok (Next.value (Value.int IntKind.u32 (w32 z))) w:Result Next)) h1
end Go.SL
/- Numbers as bytes of their shortest form, in plain words; chunks of objects, found by their address. No condition. -/
namespace Go.SL
open Go
class ObjC {σ:Type} (F:Nat → σ → HProp) (H:HProp) (d:Nat) (X:outParam σ) (R:outParam HProp):Prop where h:Take H (F d X) R
instance (priority:=90) ObjC.there {σ:Type} {F:Nat → σ → HProp} {H R Y:HProp} {d:Nat} {X:σ} [i:ObjC F H d X R]:ObjC F (Y•H) d X (Y•R):=⟨i.h.there⟩
instance (priority:=100) ObjC.here {σ:Type} {F:Nat → σ → HProp} {R:HProp} {d:Nat} {X:σ}:ObjC F (F d X•R) d X R:=⟨.here⟩
end Go.SL
namespace Go.SL.Fld
open Go Go.SL Go.SL.Sec
def encN (n:Nat):List Int:=if 128 ≤ n then ((n % 128 + 128:Nat):Int) :: encN (n / 128) else [(n:Int)]
theorem encN_ge {n:Nat} (h:128 ≤ n):encN n = ((n % 128 + 128:Nat):Int) :: encN (n / 128):=by rw [encN,if_pos h]
theorem encN_lt {n:Nat} (h:n < 128):encN n = [(n:Int)]:=by rw [encN,if_neg (by omega)]
theorem encN_byt (n:Nat):Byt (encN n):=by
 induction n using Nat.strongRecOn with
 | _ n ih =>
  by_cases h:128 ≤ n
  ·rw [encN_ge h]
   intro b hb
   rcases List.mem_cons.1 hb with rfl|hb
   ·omega
   ·exact ih _ (by omega) b hb
  ·rw [encN_lt (by omega)]
   intro b hb
   obtain rfl:=List.mem_singleton.1 hb
   omega
theorem encN_len:∀ (k n:Nat),n < 128 ^ (k + 1) → (encN n).length ≤ k + 1
 | 0,n,h=>by rw [encN_lt (by simpa using h)];simp
 | k + 1,n,h=>by
  by_cases h1:128 ≤ n
  ·have:=encN_len k (n / 128) (Nat.div_lt_of_lt_mul (by rw [Nat.mul_comm,← Nat.pow_succ];exact h))
   rw [encN_ge h1];simp;omega
  ·rw [encN_lt (by omega)];simp
def zig (n:Int):Int:=if 0 ≤ n then 2 * n else -2 * n - 1
def zag (n:Int):Int:=if n % 2 = 0 then n / 2 else -(n / 2) - 1
def nextG:Nat → Int → List Int → Int × Int × Int
 | k,_,[]=>if k ≥ 10 then (0,0,22) else (0,0,20)
 | k,n,c :: r =>
  if k = 10 then (0,0,22) else
  if c ≥ 128 then nextG (k + 1) (n + c % 128 * 128 ^ k) r else
  if (0 < k ∧ c = 0) ∨ (k = 9 ∧ 1 < c) then (0,0,22) else (n + c * 128 ^ k,(k:Int) + 1,0)
end Go.SL.Fld
/- Records of the log: which are right ones. No condition. -/
namespace Go.SL.Rec
open Go Go.SL Go.SL.Sec Go.SL.Fld Go.SL.Pts
open Go.SL.Und (RecV recv rec_one fits)
def dirtyv (d:DirtyV):List Value:=[.int .i64 d.1,.int .i64 d.2]
instance:SizedC 2 dirtyv:=⟨fun _=>rfl⟩
instance {d:DirtyV}:LitL (dirtyv d) [.int .i64 d.1,.int .i64 d.2]:=⟨rfl⟩
instance {a b:Int}:DecOf dirtyv [.int .i64 a,.int .i64 b] (a,b):=⟨rfl⟩
instance:OneC dirtyv:=⟨fun ys v hv=>by
 obtain ⟨d,_,hv⟩:=List.mem_flatMap.1 hv
 simp only [dirtyv,List.mem_cons,List.not_mem_nil,or_false] at hv
 rcases hv with rfl|rfl <;> rfl⟩
def livev (d:LiveV):List Value:=[.int .i64 d.tx,.int .i64 d.last,.bool d.com,.bool d.und]
instance:SizedC 4 livev:=⟨fun _=>rfl⟩
instance {d:LiveV}:LitL (livev d) [.int .i64 d.tx,.int .i64 d.last,.bool d.com,.bool d.und]:=⟨rfl⟩
instance {a b:Int} {c d:Bool}:DecOf livev [.int .i64 a,.int .i64 b,.bool c,.bool d] ⟨a,b,c,d⟩:=⟨rfl⟩
instance:OneC livev:=⟨fun ys v hv=>by
 obtain ⟨d,_,hv⟩:=List.mem_flatMap.1 hv
 simp only [livev,List.mem_cons,List.not_mem_nil,or_false] at hv
 rcases hv with rfl|rfl|rfl|rfl <;> rfl⟩
instance {r : RecV} : LitL (recv r) [.int .i64 r.lsn, .int .i64 r.kind, .int .i64 r.tx, .int .i64 r.prev, .int .i64 r.wp, .int .i64 r.wi, .int .i64 r.sp, .int .i64 r.si, .int .i64 r.delta,
   .int .i64 r.id,.int .i64 r.grp,.int .i64 r.lo,.int .i64 r.hi,.int .i64 r.val,.slice r.lv.1 r.lv.2.1 r.lv.2.2,.slice r.dt.1 r.dt.2.1 r.dt.2.2,.int .i64 r.nxt]:=⟨rfl⟩
instance {a b c d e f g h i j k l m n:Int} {s t u v:Nat} {x y:Option Addr} {o:Int}:DecOf recv [.int .i64 a,.int .i64 b,.int .i64 c,.int .i64 d,.int .i64 e,.int .i64 f,.int .i64 g,.int .i64 h,.int .i64 i,.int .i64 j,.int .i64 k,.int .i64 l,.int .i64 m,.int .i64 n,.slice x s t,.slice y u v,.int .i64 o]
  ⟨a,b,c,d,e,f,g,h,i,j,k,l,m,n,(x,s,t),(y,u,v),o⟩:=⟨rfl⟩
instance:OneC recv:=⟨rec_one⟩
def recA (r : RecV) : Value := .agg ⟨[.int .i64 r.lsn, .int .i64 r.kind, .int .i64 r.tx, .int .i64 r.prev, .int .i64 r.wp, .int .i64 r.wi, .int .i64 r.sp, .int .i64 r.si, .int .i64 r.delta,
   .int .i64 r.id,.int .i64 r.grp,.int .i64 r.lo,.int .i64 r.hi,.int .i64 r.val,.slice r.lv.1 r.lv.2.1 r.lv.2.2,.slice r.dt.1 r.dt.2.1 r.dt.2.2,.int .i64 r.nxt]⟩
def Inn (n lo hi:Int):Prop:=lo ≤ n ∧ n ≤ hi
instance {n lo hi:Int}:Decidable (Inn n lo hi):=inferInstanceAs (Decidable (_ ∧ _))
def SlotsP (wp wi sp si:Int):Prop:=(0 ≤ wp ∧ wp ≤ 63) ∧ (0 ≤ wi ∧ wi ≤ 30) ∧ (0 ≤ sp ∧ sp ≤ 63) ∧ (0 ≤ si ∧ si ≤ 83) ∧ wp ≠ sp
instance {a b c d:Int}:Decidable (SlotsP a b c d):=inferInstanceAs (Decidable (_ ∧ _))
def BlankP (r:RecV):Prop:=r.tx = 0 ∧ r.prev = 0 ∧ (r.wp = 0 ∧ r.wi = 0) ∧ (r.sp = 0 ∧ r.si = 0) ∧ r.delta = 0 ∧ (r.id = 0 ∧ r.grp = 0 ∧ r.lo = 0 ∧ r.hi = 0 ∧ r.val = 0) ∧ r.nxt = 0 ∧ r.lv.2.1 = 0 ∧ r.dt.2.1 = 0
instance {r:RecV}:Decidable (BlankP r):=inferInstanceAs (Decidable (_ ∧ _))
def TxP (r:RecV):Prop:=1 ≤ r.tx ∧ r.tx ≤ 2147483647
instance {r:RecV}:Decidable (TxP r):=inferInstanceAs (Decidable (_ ∧ _))
def PrevP (r:RecV):Prop:=(1 ≤ r.prev ∧ r.prev ≤ 2147483647) ∧ (r.lsn = 0 ∨ r.prev < r.lsn)
instance {r:RecV}:Decidable (PrevP r):=inferInstanceAs (Decidable (_ ∧ _))
def FieldsP (r:RecV) (L:List LiveV) (D:List DirtyV):Prop :=
  (0 ≤ r.lsn ∧ r.lsn ≤ 2147483647) ∧
  (if r.kind = 2 then SlotsP r.wp r.wi r.sp r.si ∧ (1 ≤ r.id ∧ r.id ≤ 1048576) ∧ (1 ≤ r.grp ∧ r.grp ≤ 1048576) ∧ (r.lo ≤ r.val ∧ r.val ≤ r.hi) ∧ BlankP { r with wp:=0,wi:=0,sp:=0,si:=0,id:=0,grp:=0,lo:=0,hi:=0,val:=0 }
   else if r.kind = 8 then cpF r.nxt r.lsn L D = true ∧ BlankP { r with lv:=(none,0,0),dt:=(none,0,0),nxt:=0 }
   else if r.kind = 3 ∨ r.kind = 4 then SlotsP r.wp r.wi r.sp r.si ∧ (1 ≤ r.id ∧ r.id ≤ 1048576) ∧ PrevP r ∧ TxP r ∧ BlankP { r with wp:=0,wi:=0,sp:=0,si:=0,id:=0,delta:=0,prev:=0,tx:=0 }
   else if r.kind = 5 ∨ r.kind = 6 ∨ r.kind = 7 then PrevP r ∧ TxP r ∧ BlankP { r with prev:=0,tx:=0 }
   else TxP r ∧ BlankP { r with tx:=0 })
instance {r:RecV} {L:List LiveV} {D:List DirtyV}:Decidable (FieldsP r L D):=by
 unfold FieldsP
 exact inferInstance
theorem FieldsP.one {r:RecV} {L:List LiveV} {D:List DirtyV} (h:r.kind = 1):FieldsP r L D ↔ (0 ≤ r.lsn ∧ r.lsn ≤ 2147483647) ∧ (1 ≤ r.tx ∧ r.tx ≤ 2147483647) ∧ BlankP { r with tx:=0 }:=by
 unfold FieldsP
 rw [if_neg (by omega),if_neg (by omega),if_neg (by omega),if_neg (by omega)];rfl
theorem FieldsP.two {r:RecV} {L:List LiveV} {D:List DirtyV} (h:r.kind = 2):FieldsP r L D ↔ (0 ≤ r.lsn ∧ r.lsn ≤ 2147483647) ∧ SlotsP r.wp r.wi r.sp r.si ∧ (1 ≤ r.id ∧ r.id ≤ 1048576) ∧ (1 ≤ r.grp ∧ r.grp ≤ 1048576) ∧ (r.lo ≤ r.val ∧ r.val ≤ r.hi) ∧ BlankP { r with wp:=0,wi:=0,sp:=0,si:=0,id:=0,grp:=0,lo:=0,hi:=0,val:=0 }:=by
 unfold FieldsP
 rw [if_pos h]
theorem FieldsP.add {r:RecV} {L:List LiveV} {D:List DirtyV} (h:r.kind = 3 ∨ r.kind = 4):FieldsP r L D ↔ (0 ≤ r.lsn ∧ r.lsn ≤ 2147483647) ∧ SlotsP r.wp r.wi r.sp r.si ∧ (1 ≤ r.id ∧ r.id ≤ 1048576) ∧ ((1 ≤ r.prev ∧ r.prev ≤ 2147483647) ∧ (r.lsn = 0 ∨ r.prev < r.lsn)) ∧ (1 ≤ r.tx ∧ r.tx ≤ 2147483647) ∧ BlankP { r with wp:=0,wi:=0,sp:=0,si:=0,id:=0,delta:=0,prev:=0,tx:=0 }:=by
 unfold FieldsP
 rw [if_neg (by omega),if_neg (by omega),if_pos h];rfl
theorem FieldsP.end_ {r:RecV} {L:List LiveV} {D:List DirtyV} (h:r.kind = 5 ∨ r.kind = 6 ∨ r.kind = 7):FieldsP r L D ↔ (0 ≤ r.lsn ∧ r.lsn ≤ 2147483647) ∧ ((1 ≤ r.prev ∧ r.prev ≤ 2147483647) ∧ (r.lsn = 0 ∨ r.prev < r.lsn)) ∧ (1 ≤ r.tx ∧ r.tx ≤ 2147483647) ∧ BlankP { r with prev:=0,tx:=0 }:=by
 unfold FieldsP
 rw [if_neg (by omega),if_neg (by omega),if_neg (by omega),if_pos h];rfl
theorem FieldsP.cp {r:RecV} {L:List LiveV} {D:List DirtyV} (h:r.kind = 8):FieldsP r L D ↔ (0 ≤ r.lsn ∧ r.lsn ≤ 2147483647) ∧ cpF r.nxt r.lsn L D = true ∧ BlankP { r with lv:=(none,0,0),dt:=(none,0,0),nxt:=0 }:=by
 unfold FieldsP
 rw [if_neg (by omega),if_pos h]
def chkF (r:RecV) (L:List LiveV) (D:List DirtyV):Int:=if r.kind < 1 ∨ r.kind > 8 then 70 else if FieldsP r L D then 0 else 23
attribute [irreducible] BlankP SlotsP
end Go.SL.Rec
