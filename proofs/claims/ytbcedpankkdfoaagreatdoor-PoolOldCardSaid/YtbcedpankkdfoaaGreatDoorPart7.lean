/- Maps whose entries are known; the rest of a row. Conditions: in each statement. -/
import Derived.Test.YtbcedpankkdfoaaGreatDoorPart6
import Derived.Test.YtbcedpankkdfoaaGreatDoorPart3
import Derived.Laws.MakeOwn
import Derived.Laws.CopyRow
import Derived.Laws.IdiomCopy
import Derived.Laws.Small
namespace Go.SL
open Go
section
variable {P:Program} {W:World} {T:Tab} {H R:HProp} {α:Type} {f:α → Value} {m:List (Int × α)}
theorem OpX.lks (hT:T.ok P) {t kt et:TypeId} {k0 kk:IntKind} {mo key:Operand} {ty:TypeId} {ev:Operand → Option Value} {K:Value → HProp → Prop} {Kp:List PanicEntry → HProp → Prop} {r:Nat} {k:Int} {u:α} {c1 c2:List Value} {a1 a2:Bool} {s1 s2 b1 b2:Nat} {r3:TRow}
  [i:MapC H r kk (mapv f m) R] (hl:m.lookup k = some u) (h1:T t = some ⟨.map kt et,c1,a1,s1,b1⟩) (h2:T kt = some ⟨.int k0,c2,a2,s2,b2⟩) (h3:T et = some r3)
  (hm:ev mo = some (.map (some r))) (hk:ev key = some (.int kk k)) (yes:K (f u) H):OpX P W (.lookup t mo key false) ty ev H K Kp :=
 OpX.lkv hT h1 h2 h3 hm hk (fun u' hu=>by rw [hl] at hu;cases hu;exact yes) (fun hu=>by rw [hl] at hu;cases hu)
theorem OpX.delv (hT:T.ok P) {t kt et:TypeId} {k0 kk:IntKind} {mo key:Operand} {tys:List TypeId} {ty:TypeId} {ev:Operand → Option Value} {K:Value → HProp → Prop} {Kp:List PanicEntry → HProp → Prop} {r:Nat} {k:Int} {c1 c2:List Value} {a1 a2:Bool} {s1 s2 b1 b2:Nat}
  [i:MapC H r kk (mapv f m) R] (h1:T t = some ⟨.map kt et,c1,a1,s1,b1⟩) (h2:T kt = some ⟨.int k0,c2,a2,s2,b2⟩)
  (hm:ev mo = some (.map (some r))) (hk:ev key = some (.int kk k)) (hK:K (.tuple ⟨[]⟩) (mapc r kk (mapv f (delKV k m))•R)):OpX P W (.call ⟨.builtin .delete,⟨[mo,key]⟩,⟨t :: tys⟩⟩) ty ev H K Kp:=by
 refine OpX.del hT h1 h2 hm hk ?_
 rw [← mapv_del];exact hK
def dropA (a:Option Addr) (z c size:Nat):Option Addr:=if c = z then a else a.map (·.add (z * size))
theorem RowC.drop {sz:Nat} {enc:α → List Value} {a:Option Addr} {xs:List α} (z c:Nat) (hc:xs.length ≤ c) (h:RowC W H a sz enc xs):RowC W H (dropA a z c sz) sz enc (xs.drop z):=⟨fun w hs i x hx=>by
 rw [List.getElem?_drop] at hx
 have hlt:z + i < xs.length:=(List.getElem?_eq_some_iff.1 hx).1
 obtain ⟨b,off,ha,hj⟩:=h.h w hs _ x hx
 refine ⟨b,off + z * sz,?_,fun j v hv=>?_⟩
 ·unfold dropA
  rw [if_neg (by omega),ha,Option.map_some,Addr.add_eq]
 ·have:=hj j v hv
  rwa [Nat.add_mul,← Nat.add_assoc] at this⟩
theorem OpQ.slr (hT:T.ok P) {st:TypeId} {s i:Operand} {ty:TypeId} {ev:Operand → Option Value} {K:Value → Prop} {a:Option Addr} {n c:Nat} {k:IntKind} {z:Int} {e:TypeId} {c1:List Value} {a1:Bool} {s1 b1:Nat} {r2:TRow} (zn:Nat)
  (hs:ev s = some (.slice a n c)) (hi:ev i = some (.int k z)) (h1:T st = some ⟨.slice e,c1,a1,s1,b1⟩) (h2:T e = some r2) (hz:z = (zn:Int)) (hn:zn ≤ n) (hk:K (.slice (dropA a zn c r2.size) (n - zn) (c - zn))) :
  OpQ P W (.slice st s (some i) none none) ty ev H K:=by
 subst hz
 refine OpQ.sll hT hs hi h1 h2 ⟨by omega,by omega⟩ ?_
 unfold dropv
 rw [Int.toNat_natCast]
 exact hk
theorem LdN.rp {sz:Nat} {enc:α → List Value} {xs:List α} {b off i j n:Nat} {x:α} {l vs:List Value} {K:Value → Prop} [c:RowC W H (some ⟨b,off,none⟩) sz enc xs] [li:LitL (enc x) l] [s:LSub l j n vs] (hx:xs[i]? = some x) (k:K (.agg ⟨vs⟩)) :
  LdN W H ⟨b,off + i * sz + j,none⟩ n K:=⟨vs,s.h.2,fun q v hq w hs=>by
 obtain ⟨b',off',e,h⟩:=c.h w hs i x hx
 cases e
 have hq2:(enc x)[j + q]? = some v:=by
  rw [li.h]
  have h1:=s.h.1
  rw [← h1,List.getElem?_take] at hq
  split at hq
  ·rwa [List.getElem?_drop] at hq
  ·cases hq
 have:=h _ v hq2 w hs
 rwa [Addr.add_eq,Nat.add_assoc (off + i * sz)],k⟩
end
end Go.SL
/- Shifts and masks by known numbers; numbers brought to 64 bits. No condition. -/
namespace Go.SL
open Go
theorem Ar.u64w {e:Int} {K:Int → Prop} (hk:K (e % 18446744073709551616)):Ar .u64 e K:=⟨by
 have:IntKind.u64.wrap e = e % 18446744073709551616:=by simp [IntKind.wrap,IntKind.bits,IntKind.signed]
 rw [this];exact hk⟩
theorem Ar.u8w {e:Int} {K:Int → Prop} (hk:K (e % 256)):Ar .u8 e K:=⟨by rw [IntKind.wrap_u8];exact hk⟩
theorem Ar.i64w {e:Int} {K:Int → Prop} (hk:K ((e + 9223372036854775808) % 18446744073709551616 - 9223372036854775808)):Ar .i64 e K:=⟨by rw [IntKind.wrap_i64];exact hk⟩
def p2T:List (Nat × Int):=[(0,1),(1,2),(2,4),(3,8),(4,16),(5,32),(6,64),(7,128),(8,256),(12,4096),(14,16384),(16,65536),(20,1048576),(21,2097152),(24,16777216),(28,268435456),(31,2147483648),(32,4294967296),(35,34359738368),(40,1099511627776),(42,4398046511104),(48,281474976710656),(49,562949953421312),(56,72057594037927936),(62,4611686018427387904),(63,9223372036854775808)]
def p2L:List (Nat × Int) → Nat → Option Int
 | [],_=>none
 | (i,c) :: l,n=>match Nat.beq i n with
  | true=>some c
  | false=>p2L l n
theorem p2L_aux {n:Nat} {c:Int}:∀ l:List (Nat × Int),(∀ p ∈ l,(2:Int) ^ p.1 = p.2 ∧ p.1 ≤ 63) → p2L l n = some c → (2:Int) ^ n = c ∧ n ≤ 63
 | [],_,h=>by cases h
 | (i,d) :: l,hl,h=>by
  unfold p2L at h
  split at h
  ·rename_i e
   have:=Nat.eq_of_beq_eq_true e
   cases h
   exact this ▸ hl _ List.mem_cons_self
  ·exact p2L_aux l (fun q hq=>hl q (List.mem_cons_of_mem _ hq)) h
theorem p2L_eq {n:Nat} {c:Int} (h:p2L p2T n = some c):(2:Int) ^ n = c ∧ n ≤ 63:=p2L_aux p2T (by decide) h
theorem two_cast (j:Nat):((2 ^ j:Nat):Int) = 2 ^ j:=by simp
theorem Shr.i {k:IntKind} {n m c:Int} {K:Int → Prop} (h:p2L p2T m.toNat = some c) (h0:0 ≤ m ∧ m.toNat ≤ k.bits) (hk:K (n / c)):Shr k n m K:=by
 refine ⟨h0.1,?_⟩
 rw [Nat.min_eq_left h0.2,(p2L_eq h).1,Int.fdiv_eq_ediv_of_nonneg]
 ·exact hk
 ·rw [← (p2L_eq h).1];exact Int.le_of_lt (Int.pow_pos (by decide))
theorem Shl.i {k:IntKind} {n m c:Int} {K:Int → Prop} (h:p2L p2T m.toNat = some c) (h0:0 ≤ m ∧ m.toNat ≤ k.bits) (hk:Ar k (n * c) K):Shl k n m K:=by
 refine ⟨h0.1,?_⟩
 rw [Nat.min_eq_left h0.2,(p2L_eq h).1]
 exact hk.ex
theorem Bt.raw {op:BinOp} {k:IntKind} {n m:Int} {K:Int → Prop} (hk:K (bits op k n m)):Bt op k n m K:=⟨hk⟩
theorem bits_low (k:IntKind) (i:Nat) (hi:i < k.bits) (n:Int):bits .and k n (2 ^ i - 1) = n % 2 ^ i:=by
 have hp:(0:Int) < 2 ^ i:=Int.pow_pos (by decide)
 have hb:(0:Int) < 2 ^ k.bits:=Int.pow_pos (by decide)
 have h1:(BitVec.ofInt k.bits (2 ^ i - 1)).toNat = 2 ^ i - 1:=by
  have e:((2:Int) ^ i - 1) = ((2 ^ i - 1:Nat):Int):=by
   rw [Int.natCast_sub (Nat.one_le_two_pow)];simp
  rw [e,BitVec.ofInt_natCast,BitVec.toNat_ofNat]
  have h7:2 ^ i < 2 ^ k.bits:=Nat.pow_lt_pow_right (by decide) hi
  exact Nat.mod_eq_of_lt (Nat.lt_of_le_of_lt (Nat.sub_le _ _) h7)
 have h2:((BitVec.ofInt k.bits n).toNat:Int) = n % 2 ^ k.bits:=by
  rw [BitVec.toNat_ofInt,two_cast]
  exact Int.toNat_of_nonneg (Int.emod_nonneg n (Int.ne_of_gt hb))
 have h3:(((BitVec.ofInt k.bits n).toNat % 2 ^ i:Nat):Int) = n % 2 ^ i:=by
  rw [Int.natCast_emod,h2,two_cast]
  exact Int.emod_emod_of_dvd n ⟨2 ^ (k.bits - i),by rw [← Int.pow_add];congr 1;omega⟩
 simp only [bits,BitVec.toNat_and,h1,Nat.and_two_pow_sub_one_eq_mod,h3]
 have h4:=Int.emod_nonneg n (Int.ne_of_gt hp)
 have h5:=Int.emod_lt_of_pos n hp
 have h6:(2:Int) ^ i ≤ 2 ^ (k.bits - 1):=by
  exact_mod_cast Nat.pow_le_pow_right (by decide) (show i ≤ k.bits - 1 by omega)
 cases k <;> simp only [IntKind.bits,Nat.reduceSub,Int.reducePow] at h6 <;> simp [IntKind.wrap,IntKind.bits,IntKind.signed] <;> omega
def mT:List (Nat × Int):=[(0,0),(1,1),(2,3),(3,7),(4,15),(5,31),(6,63),(7,127),(8,255),(16,65535),(32,4294967295)]
theorem Bt.low {k:IntKind} {n m:Int} {K:Int → Prop} (i:Nat) {c:Int} (h:(2:Int) ^ i - 1 = m) (hi:i < k.bits) (hc:(2:Int) ^ i = c) (hk:K (n % c)):Bt .and k n m K:=by
 subst h hc
 exact ⟨by rw [bits_low k i hi];exact hk⟩
end Go.SL
/- make, copy, parts of rows; rows with their lengths. No condition. -/
namespace Go.SL
open Go
section
variable {P:Program} {W:World} {T:Tab} {α:Type} {t:TypeId} {sz:Nat} {enc:α → List Value} {a:Option Addr} {cap:Nat} {xs:List α} {H R:HProp}
class RowN {α:outParam Type} (W:World) (H:HProp) (a:Option Addr) (n:Nat) (sz:outParam Nat) (enc:outParam (α → List Value)) (xs:outParam (List α)):Prop where
 row:RowC W H a sz enc xs
 len:n = xs.length
instance (priority:=100) RowN.whole [c:RowC W H a sz enc xs]:RowN W H a xs.length sz enc xs:=⟨c,rfl⟩
instance (priority:=90) RowN.there {X:HProp} {n:Nat} [c:RowN W R a n sz enc xs]:RowN W (X•R) a n sz enc xs:=by
 haveI:=c.row
 exact ⟨inferInstance,c.len⟩
theorem madeCells_one (z:Value) (n:Nat):madeCells #[z] n = (List.replicate n z).toArray:=by
 simp only [madeCells]
 apply Array.ext
 ·simp
 ·intro i h1 h2
  simp [Nat.mod_one]
theorem flatMap_rep {x0:α} {z:Value} (h:enc x0 = [z]):∀ n:Nat,(List.replicate n x0).flatMap enc = List.replicate n z
 | 0=>rfl
 | n + 1=>by rw [List.replicate_succ,List.flatMap_cons,h,flatMap_rep h n,List.replicate_succ];rfl
theorem OpX.make (hT:T.ok P) {st e:TypeId} {l c:Operand} {ty:TypeId} {ev:Operand → Option Value} {K:Value → HProp → Prop} {Kp:List PanicEntry → HProp → Prop} {kl kc:IntKind} {n:Int} {z:Value} {c1:List Value} {a1 a2:Bool} {s1 b1 b2:Nat} {d:TypeDesc}
  (enc:α → List Value) (x0:α) (hl:ev l = some (.int kl n)) (hc:ev c = some (.int kc n)) (h1:T st = some ⟨.slice e,c1,a1,s1,b1⟩) (h2:T e = some ⟨d,[z],a2,1,b2⟩) (hx:enc x0 = [z]) (hz:z.cells = #[z])
  (hn:0 ≤ n ∧ (b2:Int) * n ≤ 281474976710656 ∧ n ≤ 9223372036854775807)
  (k:∀ b,W.heap.size ≤ b → K (.slice (some ⟨b,0,none⟩) n.toNat n.toNat) (SL.vec e 1 enc (some ⟨b,0,none⟩) n.toNat (List.replicate n.toNat x0)•H)) :
  OpX P W (.makeSlice st l c) ty ev H K Kp:=by
 have hu1:=(hT _ _ h1).und
 obtain ⟨i,hi,hsz,hby,hzz,hone⟩:=(hT _ _ h2).info
 refine ⟨fun w ρ hs he o' ho hty=>?_⟩
 obtain ⟨dst,op,ty',pos,after,guard⟩:=o'
 simp only at ho hty
 subst ho hty
 have hzc:∃ zz:Value,i.zero = some zz ∧ zz.cells = #[z]:=by
  rw [hzz]
  cases a2 with
  | true=>exact ⟨_,rfl,rfl⟩
  | false=>exact ⟨z,rfl,hz⟩
 obtain ⟨zz,hz1,hz2⟩:=hzc
 have hm:=run_make (P:=P) w st e i zz hu1 hi hz1 kl kc n n hn.1 (Int.le_refl _) (by rw [hby];exact hn.2.1) hn.2.2
 rw [hz2,hsz,Nat.mul_one,madeCells_one] at hm
 refine ⟨.value (.slice (some ⟨w.heap.size,0,none⟩) n.toNat n.toNat),w.alloc (.cells (List.replicate n.toNat z).toArray e),_,?_,?_,k w.heap.size hs.1.size⟩
 ·simp [execOp,he _ _ hl,he _ _ hc,hm]
 ·have hv:=vec_new (t:=e) (sz:=1) (enc:=enc) (xs:=List.replicate n.toNat x0) (b:=w.heap.size) (l:=List.replicate n.toNat z) (by rw [flatMap_rep hx])
  rw [List.length_replicate] at hv
  exact (hs.alloc _).mono (Ent.left hv)

theorem OpQ.slx (hT:T.ok P) {st:TypeId} {s i j:Operand} {ty:TypeId} {ev:Operand → Option Value} {K:Value → Prop} {n c:Nat} {k k':IntKind} {z y:Int} {e:TypeId} {c1:List Value} {a1:Bool} {s1 b1:Nat} {r2:TRow} (lo m:Nat)
  (hs:ev s = some (.slice a n c)) (hi:ev i = some (.int k z)) (hj:ev j = some (.int k' y)) (h1:T st = some ⟨.slice e,c1,a1,s1,b1⟩) (h2:T e = some r2) (hz:z = (lo:Int)) (hy:y = ((lo + m:Nat):Int)) (hc:lo + m ≤ c) (hk:K (.slice (dropA a lo c r2.size) m (c - lo))) :
  OpQ P W (.slice st s (some i) (some j) none) ty ev H K:=by
 refine ⟨_,fun w ρ hw he o' ho hty=>?_,hk⟩
 obtain ⟨dst,op,ty',pos,after,guard⟩:=o'
 simp only at ho hty
 subst ho hty
 have hu:=(hT _ _ h1).und
 have hel:P.elem st = e:=by simp [Program.elem,hu]
 have hu':P.underlying st = some (.slice (P.elem st)):=by rw [hel];exact hu
 have:=run_slice_lh (P:=P) (w:=w) st a n c hu' k k' z y (by omega) (by omega) (by omega)
 have e1:z.toNat = lo:=by omega
 have e2:y.toNat = lo + m:=by omega
 have e3:lo + m - lo = m:=by omega
 rw [hel,TRow.size_run (hT _ _ h2),e1,e2] at this
 simp [execOp,he _ _ hs,he _ _ hi,he _ _ hj,run_sliceAt_slice w st _ _ _ _ hu',this,Result.andThen,sliced,dropA,e3]
theorem OpX.slx (hT:T.ok P) {st:TypeId} {s i j:Operand} {ty:TypeId} {ev:Operand → Option Value} {K:Value → HProp → Prop} {Kp:List PanicEntry → HProp → Prop} {n c:Nat} {k k':IntKind} {z y:Int} {e:TypeId} {c1:List Value} {a1:Bool} {s1 b1:Nat} {r2:TRow} (lo m:Nat)
  (hs:ev s = some (.slice a n c)) (hi:ev i = some (.int k z)) (hj:ev j = some (.int k' y)) (h1:T st = some ⟨.slice e,c1,a1,s1,b1⟩) (h2:T e = some r2) (hz:z = (lo:Int)) (hy:y = ((lo + m:Nat):Int)) (hc:lo + m ≤ c) (hk:K (.slice (dropA a lo c r2.size) m (c - lo)) H) :
  OpX P W (.slice st s (some i) (some j) none) ty ev H K Kp:=OpX.of_quiet (OpQ.slx hT lo m hs hi hj h1 h2 hz hy hc hk)

theorem RowC.sub {m:Nat} (z:Nat) [s:SizedC sz enc] [c:VecC H a t sz enc cap xs R]:RowC W H (dropA a z cap sz) sz enc ((xs.drop z).take m):=by
 refine RowC.take m ⟨fun w hs i x hx=>?_⟩
 have hl:xs.length ≤ cap:=by
  have hw:=hs
  rw [c.h.eq] at hw
  exact vec_len hw
 have hc:RowC W H a sz enc xs:=RowC.vec s.h c.at'
 exact (RowC.drop z cap hl hc).h w hs i x hx
theorem OpX.cpy (hT:T.ok P) {st yt:TypeId} {s y:Operand} {ty:TypeId} {ev:Operand → Option Value} {K:Value → HProp → Prop} {Kp:List PanicEntry → HProp → Prop} {e:TypeId} {b:Option Addr} {ys:List α}
  {z dn dc m mc:Nat} {c1 c2:List Value} {a1 a2:Bool} {s1 b1 b2:Nat} {d:TypeDesc} {enc:α → List Value}
  [c:VecC H a t 1 enc cap xs R] [sc:SizedC 1 enc] [ro:RowC W H b 1 enc ys] (hs:ev s = some (.slice (dropA a z cap 1) dn dc)) (hy:ev y = some (.slice b m mc))
  (h1:T st = some ⟨.slice e,c1,a1,s1,b1⟩) (h2:T e = some ⟨d,c2,a2,1,b2⟩) (hm:m = ys.length) (hz:z + dn ≤ xs.length)
  (hl:∀ ys:List α,∀ v ∈ ys.flatMap enc,v.oneCell' = true)
  (k:K (.int .i64 (min m dn:Nat)) (SL.vec t 1 enc a cap (xs.take z ++ ys.take (min m dn) ++ xs.drop (z + min m dn))•R)) :
  OpX P W (.call ⟨.builtin .copy,⟨[s,y]⟩,⟨[st,yt]⟩⟩) ty ev H K Kp:=by
 subst hm
 have hu1:=(hT _ _ h1).und
 obtain ⟨i2,hi2,hsz,_⟩:=(hT _ _ h2).info
 have hs1:(P.info? e).map (·.size) = some 1:=by rw [hi2];simpa using hsz
 refine ⟨fun w ρ hw he o' ho hty=>?_⟩
 obtain ⟨dst,op,ty',pos,after,guard⟩:=o'
 simp only at ho hty
 subst ho hty
 by_cases h0:min ys.length dn = 0
 ·have hv:=run_copy_none (P:=P) w st yt ty' e (dropA a z cap 1) b dn dc ys.length mc hu1 hs1 h0
  rw [h0] at k
  simp only [List.take_zero,List.append_nil,Nat.add_zero,List.take_append_drop] at k
  refine ⟨.value (.int .i64 0),w,_,?_,hw,?_⟩
  ·simp [execOp,resolve,invoke,builtin,he _ _ hs,he _ _ hy,hv,goInt]
  ·rw [c.h.eq];exact k
 ·obtain ⟨zs,hzs⟩:∃ zs,zs = ys.take (min ys.length dn):=⟨_,rfl⟩
  have hzl:zs.length = min ys.length dn:=by rw [hzs];simp
  obtain ⟨y0,hy0⟩:∃ y0,ys[0]? = some y0:=by
   cases ys with
   | nil=>simp at h0
   | cons y l=>exact ⟨y,rfl⟩
  obtain ⟨bb,bo,rfl,_⟩:=ro.h w hw 0 y0 hy0
  have hfl:∀ l:List α,(l.flatMap enc).length = l.length:=fun l=>by rw [sc.h.flat,Nat.mul_one]
  have hsrc:∀ j v,(zs.flatMap enc)[j]? = some v → w.cell? ((⟨bb,bo,none⟩:Addr).add j) = some v:=by
   intro j v hj
   have hjl:j < zs.length:=by rw [← hfl];exact (List.getElem?_eq_some_iff.1 hj).1
   have hjy:ys[j]? = some ys[j]:=List.getElem?_eq_getElem (by omega)
   have hjz:zs[j]? = some ys[j]:=by subst hzs;rw [List.getElem?_take_of_lt (by omega)];exact hjy
   obtain ⟨b',o',e',hcell⟩:=ro.h w hw j _ hjy
   cases e'
   have h3:=Sized.get sc.h zs j 0 ys[j] ((enc ys[j])[0]'(by rw [sc.h];exact Nat.one_pos)) hjz (List.getElem?_eq_getElem _)
   rw [Nat.mul_one,Nat.add_zero,hj] at h3
   have h5:(enc ys[j])[0]? = some v:=by rw [h3];exact List.getElem?_eq_getElem _
   have h4:=hcell 0 v h5
   rw [Nat.mul_one,Nat.add_zero] at h4
   rw [Addr.add_eq]
   exact h4 w hw
  have hw0:=hw
  rw [c.h.eq] at hw
  cases hw.vec with
  | nil ha hc hx hs'=>subst hx;simp at hz;omega
  | mk g off pre junk ha hp hl' hj hs' =>
   subst ha
   have hda:dropA (some ⟨g,off,none⟩) z cap 1 = some ⟨g,off + z,none⟩:=by
    unfold dropA
    rw [if_neg (by omega),Option.map_some,Addr.add_eq,Nat.mul_one]
   let cur:List Value:=pre ++ xs.flatMap enc ++ junk
   have hcur:cur.length = off + xs.length + junk.length:=by simp [cur,hp,hfl];omega
   have hcp:=run_copy_row (P:=P) w st yt ty' e g (off + z) dn dc ⟨bb,bo,none⟩ ys.length mc ⟨cur⟩ t (zs.flatMap enc) hu1 hs1 hs'.at (by rw [hfl,hzl]) hsrc (by rw [hfl,hzl];show _ ≤ cur.length;omega) (hl zs)
   rw [hfl,hzl] at hcp
   have hnew:(cur.take (off + z) ++ zs.flatMap enc ++ cur.drop (off + z + min ys.length dn)) = pre ++ (xs.take z ++ zs ++ xs.drop (z + min ys.length dn)).flatMap enc ++ junk:=by
    have e1:cur.take (off + z) = pre ++ (xs.take z).flatMap enc:=by
     have:off + z = pre.length + z:=by omega
     rw [this]
     simp only [cur,List.append_assoc,List.take_length_add_append]
     rw [List.take_append_of_le_length (by rw [hfl];omega),flatMap_take sc.h xs z (by omega),Nat.mul_one]
    have e2:cur.drop (off + z + min ys.length dn) = (xs.drop (z + min ys.length dn)).flatMap enc ++ junk:=by
     have:off + z + min ys.length dn = pre.length + (z + min ys.length dn):=by omega
     rw [this]
     simp only [cur,List.append_assoc,List.drop_length_add_append]
     rw [List.drop_append_of_le_length (by rw [hfl];omega),flatMap_drop sc.h xs _ (by omega),Nat.mul_one]
    rw [e1,e2];simp
   have hlen2:(xs.take z ++ zs ++ xs.drop (z + min ys.length dn)).length = xs.length:=by simp [hzl];omega
   subst hzs
   refine ⟨.value (.int .i64 (min ys.length dn:Nat)),w.setRow g (cur.take (off + z) ++ (ys.take (min ys.length dn)).flatMap enc ++ cur.drop (off + z + min ys.length dn)).toArray,_,?_,?_,k⟩
   ·simp [execOp,resolve,invoke,builtin,he _ _ hs,he _ _ hy,hda,hcp,goInt]
   ·have h5:=hs'.set (o':=.cells ⟨pre ++ (xs.take z ++ ys.take (min ys.length dn) ++ xs.drop (z + min ys.length dn)).flatMap enc ++ junk⟩ t (0,0)) (w':=w.setRow g (cur.take (off + z) ++ (ys.take (min ys.length dn)).flatMap enc ++ cur.drop (off + z + min ys.length dn)).toArray) ?_ ?_ ?_
    ·exact h5.mono (Ent.left (vec_some hp (by omega) (by rw [hlen2];exact hj)))
    ·exact ⟨rfl,rfl,rfl,by simp⟩
    ·rw [setRow_heap w g _ _ t _ hs'.at,hnew]
    ·intro j hj
     exact setRow_other w g j _ hj
class OneC {α:Type} (enc:α → List Value):Prop where h:∀ ys:List α,∀ v ∈ ys.flatMap enc,v.oneCell' = true
theorem OpX.appE (hT:T.ok P) {st:TypeId} {s y:Operand} {ty:TypeId} {ev:Operand → Option Value} {K:Value → HProp → Prop} {Kp:List PanicEntry → HProp → Prop} {b:Option Addr} {ys:List α} {bl:Nat} {R':HProp}
  {m cap':Nat} {c1 c2:List Value} {a1 a2:Bool} {s1 b1 b2:Nat} {d:TypeDesc}
  [p:PtsC H bl (.cells ⟨[]⟩ t (0,0)) R'] [sc:SizedC sz enc] [oc:OneC enc] [e:RowC W H b sz enc ys] (hs:ev s = some (.slice (some ⟨bl,0,none⟩) 0 0)) (hy:ev y = some (.slice b m cap'))
  (h1:T st = some ⟨.slice t,c1,a1,s1,b1⟩) (h2:T t = some ⟨d,c2,a2,sz,b2⟩) (hl:c2.length = sz) (hm:m = ys.length) (hb:2 * ys.length * b2 ≤ 281474976710656 ∧ ys.length ≤ 9223372036854775807)
  (k:∀ a' cap',K (.slice a' m cap') (SL.vec t sz enc a' cap' ys•R')) :
  OpX P W (.call ⟨.builtin .append,⟨[s,y]⟩,⟨[st,st]⟩⟩) ty ev H K Kp:=by
 subst hm
 refine OpX.appendI (xs:=([]:List α)) (R:=R') hT sc.h oc.h h1 rfl h2 rfl hl h1 (fun k e=>by cases e) hs rfl hy (ys:=ys) (RowC.src sc.h rfl) rfl ?_ (by simpa using hb) (fun a' c'=>?_)
 ·rw [p.h.eq]
  exact Imp.left (vec_new (xs:=([]:List α)) rfl).imp
 ·have:=k a' c'
  rwa [← Nat.zero_add ys.length] at this
theorem OpX.appRg (hT:T.ok P) {st:TypeId} {s y:Operand} {ty:TypeId} {ev:Operand → Option Value} {K:Value → HProp → Prop} {Kp:List PanicEntry → HProp → Prop} {b:Option Addr} {ys:List α}
  {n m cap cap':Nat} {c1 c2:List Value} {a1 a2:Bool} {s1 b1 b2:Nat} {d:TypeDesc}
  [c:VecC H a t sz enc cap xs R] [sc:SizedC sz enc] [oc:OneC enc] [e:RowC W H b sz enc ys] (hs:ev s = some (.slice a n cap)) (hy:ev y = some (.slice b m cap'))
  (h1:T st = some ⟨.slice t,c1,a1,s1,b1⟩) (h2:T t = some ⟨d,c2,a2,sz,b2⟩) (hl:c2.length = sz) (hn:n = xs.length) (hm:m = ys.length) (hb:2 * (xs.length + ys.length) * b2 ≤ 281474976710656 ∧ xs.length + ys.length ≤ 9223372036854775807)
  (k:∀ a' cap',K (.slice a' (xs ++ ys).length cap') (SL.vec t sz enc a' cap' (xs ++ ys)•R)) :
  OpX P W (.call ⟨.builtin .append,⟨[s,y]⟩,⟨[st,st]⟩⟩) ty ev H K Kp:=by
 refine OpX.appR hT hs hy h1 h2 hn hm hb ⟨hl,oc.h⟩ (fun a' c'=>?_)
 have:=k a' c'
 rwa [List.length_append,← hn,← hm] at this
theorem OpX.app1g (hT:T.ok P) {st:TypeId} {s y:Operand} {ty:TypeId} {ev:Operand → Option Value} {K:Value → HProp → Prop} {Kp:List PanicEntry → HProp → Prop}
  {n bl:Nat} {l:List Value} {c1 c2:List Value} {a1 a2:Bool} {s1 b1 b2:Nat} {d:TypeDesc} {R':HProp} {fz:Nat × Nat}
  [c:VecC H a t sz enc cap xs R] [sc:SizedC sz enc] [oc:OneC enc] (hs:ev s = some (.slice a n cap)) (hy:ev y = some (.slice (some ⟨bl,0,none⟩) 1 1))
  (h1:T st = some ⟨.slice t,c1,a1,s1,b1⟩) (h2:T t = some ⟨d,c2,a2,sz,b2⟩) (hl:c2.length = sz)
  [p:PtsC H bl (.cells ⟨l⟩ t fz) R'] {x:α} [dx:DecOf enc l x] (hn:n = xs.length) (hb:2 * (xs.length + 1) * b2 ≤ 281474976710656 ∧ xs.length + 1 ≤ 9223372036854775807)
  (k:∀ a' cap',K (.slice a' (xs ++ [x]).length cap') (SL.vec t sz enc a' cap' (xs ++ [x])•R)) :
  OpX P W (.call ⟨.builtin .append,⟨[s,y]⟩,⟨[st,st]⟩⟩) ty ev H K Kp:=by
 refine OpX.app1 hT hs hy h1 h2 x dx.h hn hb ⟨hl,oc.h⟩ (fun a' c'=>?_)
 have:=k a' c'
 rwa [List.length_append,← hn] at this
theorem Ld.rx {b off i:Nat} {K:Value → Prop} [c:RowC W H (some ⟨b,off,none⟩) 1 enc xs] (hi:i < xs.length) (hk:∀ x,xs[i]? = some x → ∃ u,enc x = [u] ∧ K u):Ld W H ⟨b,off + i * 1,none⟩ K:=by
 obtain ⟨v,e,k⟩:=hk _ (List.getElem?_eq_getElem hi)
 exact Ld.r0 (List.getElem?_eq_getElem hi) (by rw [e];rfl) k
theorem Ar.i64d {n c:Int} {K:Int → Prop} (h:0 ≤ n ∧ n ≤ 9223372036854775807) (hc:0 < c) (hk:K (n / c)):Ar .i64 (n.tdiv c) K:=by
 rw [Int.tdiv_eq_ediv_of_nonneg h.1]
 refine Ar.i64 ⟨?_,?_⟩ hk
 ·have:=Int.ediv_nonneg h.1 (Int.le_of_lt hc);omega
 ·have:=Int.ediv_le_self c h.1;omega
theorem OpQ.maxB {x y:Operand} {tys:Array TypeId} {ty:TypeId} {ev:Operand → Option Value} {K:Value → Prop} {k k':IntKind} {n m:Int} (hx:ev x = some (.int k n)) (hy:ev y = some (.int k' m)) (hk:K (.int k (max n m))):OpQ P W (.call ⟨.builtin .max,⟨[x,y]⟩,tys⟩) ty ev H K:=by
 refine ⟨_,fun w ρ hw he o' ho hty=>?_,hk⟩
 obtain ⟨dst,op,ty',pos,after,guard⟩:=o'
 simp only at ho hty
 subst ho hty
 have:(if m > n then m else n) = max n m:=by rw [Int.max_def];split <;> split <;> omega
 simp [execOp,resolve,invoke,builtin,he _ _ hx,he _ _ hy,run_max_int2,this]
theorem OpQ.minB {x y:Operand} {tys:Array TypeId} {ty:TypeId} {ev:Operand → Option Value} {K:Value → Prop} {k k':IntKind} {n m:Int} (hx:ev x = some (.int k n)) (hy:ev y = some (.int k' m)) (hk:K (.int k (min n m))):OpQ P W (.call ⟨.builtin .min,⟨[x,y]⟩,tys⟩) ty ev H K:=by
 refine ⟨_,fun w ρ hw he o' ho hty=>?_,hk⟩
 obtain ⟨dst,op,ty',pos,after,guard⟩:=o'
 simp only at ho hty
 subst ho hty
 have:(if m < n then m else n) = min n m:=by rw [Int.min_def];split <;> split <;> omega
 simp [execOp,resolve,invoke,builtin,he _ _ hx,he _ _ hy,run_min_int2,this]
theorem OpX.maxB {x y:Operand} {tys:Array TypeId} {ty:TypeId} {ev:Operand → Option Value} {K:Value → HProp → Prop} {Kp:List PanicEntry → HProp → Prop} {k k':IntKind} {n m:Int} (hx:ev x = some (.int k n)) (hy:ev y = some (.int k' m)) (hk:K (.int k (max n m)) H):OpX P W (.call ⟨.builtin .max,⟨[x,y]⟩,tys⟩) ty ev H K Kp:=OpX.of_quiet (OpQ.maxB hx hy hk)
theorem OpX.minB {x y:Operand} {tys:Array TypeId} {ty:TypeId} {ev:Operand → Option Value} {K:Value → HProp → Prop} {Kp:List PanicEntry → HProp → Prop} {k k':IntKind} {n m:Int} (hx:ev x = some (.int k n)) (hy:ev y = some (.int k' m)) (hk:K (.int k (min n m)) H):OpX P W (.call ⟨.builtin .min,⟨[x,y]⟩,tys⟩) ty ev H K Kp:=OpX.of_quiet (OpQ.minB hx hy hk)
theorem OpX.cpyW (hT:T.ok P) {st yt:TypeId} {s y:Operand} {ty:TypeId} {ev:Operand → Option Value} {K:Value → HProp → Prop} {Kp:List PanicEntry → HProp → Prop} {e:TypeId} {b:Option Addr} {ys:List α}
  {z dn dc m mc:Nat} {c1 c2:List Value} {a1 a2:Bool} {s1 b1 b2:Nat} {d:TypeDesc} {enc:α → List Value}
  [c:VecC H a t 1 enc cap xs R] [sc:SizedC 1 enc] [oc:OneC enc] (ro:RowC W H b 1 enc ys) (hs:ev s = some (.slice (dropA a z cap 1) dn dc)) (hy:ev y = some (.slice b m mc))
  (h1:T st = some ⟨.slice e,c1,a1,s1,b1⟩) (h2:T e = some ⟨d,c2,a2,1,b2⟩) (hm:m = ys.length) (hd:ys.length ≤ dn) (hz:z + dn ≤ xs.length)
  (k:K (.int .i64 m) (SL.vec t 1 enc a cap (xs.take z ++ ys ++ xs.drop (z + ys.length))•R)) :
  OpX P W (.call ⟨.builtin .copy,⟨[s,y]⟩,⟨[st,yt]⟩⟩) ty ev H K Kp:=by
 subst hm
 have e1:min ys.length dn = ys.length:=Nat.min_eq_left hd
 refine OpX.cpy hT hs hy h1 h2 rfl hz oc.h ?_
 rw [e1,List.take_of_length_le (Nat.le_refl _)]
 exact k
class MemC {α:Type} (l:List α) (x:α):Prop where h:x ∈ l
theorem bigL_mem {α:Type} (f:α → HProp) {l:List α} {x:α} (h:x ∈ l):∃ R,bigL f l = (f x•R):=by
 obtain ⟨i,hi⟩:=List.getElem?_of_mem h
 exact ⟨_,bigL_take f l i x hi⟩
theorem bigL_snoc {α:Type} (f:α → HProp) (l:List α) (x:α):bigL f (l ++ [x]) = (f x•bigL f l):=by
 rw [bigL_append,star_comm]
 show ((f x•emp)•bigL f l) = _
 rw [star_emp]
theorem Does.vlen {f:FuncId} {args:Array Value} {V:Option Addr → Nat → Value} (h:Does P W f args H (Ret fun v G=>∃ a c,v = V a c ∧ G = (SL.vec t sz enc a c xs•R))) :
  Does P W f args H (Ret fun v G=>∃ a c,xs.length ≤ c ∧ v = V a c ∧ G = (SL.vec t sz enc a c xs•R)):=by
 refine h.post fun e w H' hs hq=>?_
 obtain ⟨v,G,he,hi,a,c,hv,hG⟩:=hq
 exact ⟨H',hs,v,G,he,hi,a,c,vec_len (by have:=hs.imp hi;rw [hG] at this;exact this),hv,hG⟩
class KeepC (H:HProp) (A:outParam HProp):Prop where h:Imp H A
instance (priority:=10) KeepC.all:KeepC H H:=⟨Imp.refl _⟩
instance (priority:=50) KeepC.star {X A:HProp} [k:KeepC R A]:KeepC (X•R) (X•A):=⟨Imp.right k.h⟩
instance (priority:=100) KeepC.vec {A:HProp} [k:KeepC R A]:KeepC (SL.vec t sz enc a cap xs•R) A:=⟨Imp.trans Imp.drop k.h⟩
instance (priority:=100) KeepC.big {β:Type} {f:β → HProp} {l:List β} {A:HProp} [k:KeepC R A]:KeepC (bigL f l•R) A:=⟨Imp.trans Imp.drop k.h⟩
instance (priority:=110) KeepC.vecl:KeepC (SL.vec t sz enc a cap xs) emp:=⟨Imp.emp _⟩
theorem DrawK.introK {N:Nat} (hT:T.ok P) (hm:P.follows .mixedOrders = true) {ops:List Oper} (n:Nat) (F plan:List Nat) {A:HProp} {fr:Fr} {ds:List Deferred} {K:ContK} {Kp:PanK} [k:KeepC H A]
  (_:fstDst ops = n) (hp:plannedOk ops F plan = true) (h:execPlan P W T N A ops F plan fr ds H K fun c _ ds H=>Kp c [] ds H):DrawK P W T N ops fr ds H K Kp:=DrawK.intro hT hm F plan A hp (Sub.of k.h) h
end
end Go.SL
/- A disk, in plain words: its bytv, its pending writes, how it crashes. No condition. -/
namespace Go.SL.Sec
open Go Go.SL
def wr (z:Int):Int:=(z + 9223372036854775808) % 18446744073709551616 - 9223372036854775808
theorem wr_in (z:Int):-9223372036854775808 ≤ wr z ∧ wr z ≤ 9223372036854775807:=by unfold wr;omega
def bytv:Int → List Value:=one (Value.int .u8)
def u64s:Int → List Value:=one (Value.int .u64)
instance:SizedC 1 bytv:=⟨Sized.one _⟩
instance:SizedC 1 u64s:=⟨Sized.one _⟩
theorem bytes_one:∀ ys:List Int,∀ v ∈ ys.flatMap bytv,v.oneCell' = true:=by
 intro ys v hv
 obtain ⟨d,_,hv⟩:=List.mem_flatMap.1 hv
 simp only [bytv,one,List.mem_cons,List.not_mem_nil,or_false] at hv
 subst hv;rfl
theorem u64s_one:∀ ys:List Int,∀ v ∈ ys.flatMap u64s,v.oneCell' = true:=by
 intro ys v hv
 obtain ⟨d,_,hv⟩:=List.mem_flatMap.1 hv
 simp only [u64s,one,List.mem_cons,List.not_mem_nil,or_false] at hv
 subst hv;rfl
instance:OneC bytv:=⟨bytes_one⟩
instance:OneC u64s:=⟨u64s_one⟩
instance {z:Int}:DecOf bytv [.int .u8 z] z:=⟨rfl⟩
instance {z:Int}:DecOf u64s [.int .u64 z] z:=⟨rfl⟩
def Byt (l:List Int):Prop:=∀ b ∈ l,0 ≤ b ∧ b < 256
theorem Byt.nil:Byt []:=fun b h=>(by cases h)
theorem Byt.append {l r:List Int} (h:Byt l) (k:Byt r):Byt (l ++ r):=fun b hb=>(List.mem_append.1 hb).elim (h b) (k b)
theorem Byt.take {l:List Int} (h:Byt l) (n:Nat):Byt (l.take n):=fun b hb=>h b (List.mem_of_mem_take hb)
theorem Byt.drop {l:List Int} (h:Byt l) (n:Nat):Byt (l.drop n):=fun b hb=>h b (List.mem_of_mem_drop hb)
theorem Byt.rep (n:Nat):Byt (List.replicate n 0):=fun b hb=>by obtain rfl:=List.eq_of_mem_replicate hb;decide
structure Dev where
 img:List Int
 q:List (Int × List Int)
 step:Int
 keep:List Int
 torn:Int
 off:Int
 down:Bool
 calls:Int
def layAt (m:List Int) (i:Int) (b:List Int):List Int:=m.take (i.toNat * 512) ++ b ++ m.drop (i.toNat * 512 + b.length)
theorem layAt_len {m:List Int} {i:Int} {b:List Int} (h:i.toNat * 512 + b.length ≤ m.length):(layAt m i b).length = m.length:=by
 simp [layAt];omega
def secOf (m:List Int) (i:Int):List Int:=(m.drop (i.toNat * 512)).take 512
def lastOf (i:Int):List (Int × List Int) → Option (List Int)
 | []=>none
 | p :: q=>match lastOf i q with
  | some b=>some b
  | none=>if p.1 = i then some p.2 else none
def Dev.at (D:Dev) (i:Int):List Int:=(lastOf i D.q).getD (secOf D.img i)
def keptB (keep:List Int) (k:Nat):Bool:=match keep[k / 64]? with
 | some z=>decide (z / 2 ^ (k % 64) % 2 = 1)
 | none=>false
def fallG (keep:List Int) (torn off:Int):Nat → List (Int × List Int) → List Int → List Int
 | _,[],m=>m
 | k,p :: q,m=>fallG keep torn off (k + 1) q (if keptB keep k then layAt m p.1 p.2 else if (k:Int) = torn then layAt m p.1 (p.2.take (min (max off 0) 512).toNat) else m)
def flushG:List (Int × List Int) → List Int → List Int
 | [],m=>m
 | p :: q,m=>flushG q (layAt m p.1 p.2)
def Dev.fallen (D:Dev) (keep:List Int) (torn off:Int):Dev:={ D with img:=fallG keep torn off 0 D.q D.img,q:=[],step:=0,keep:=[],torn:=0,off:=0,down:=true }
def Dev.counted (D:Dev):Dev:={ D with calls:=wr (D.calls + 1),step:=if D.step = 0 then 0 else D.step - 1 }
def Dev.crashes (D:Dev):Bool:=decide (D.step = 1)
def Dev.secs (D:Dev):Int:=(D.img.length:Int) / 512
def Dev.write (D:Dev) (i:Int) (b:List Int):Int × Dev :=
 if D.down then (40,D) else if i < 0 ∨ i ≥ D.secs then (41,D) else if b.length ≠ 512 then (42,D) else
 if D.crashes then (40,{ D.counted with q:=D.q ++ [(i,b)] }.fallen D.keep D.torn D.off) else (0,{ D.counted with q:=D.q ++ [(i,b)] })
def Dev.sync (D:Dev):Int × Dev :=
 if D.down then (40,D) else if D.crashes then (40,D.counted.fallen D.keep D.torn D.off) else (0,{ D.counted with img:=flushG D.q D.img,q:=[] })
def Dev.read (D:Dev) (i:Int):Int × List Int:=if D.down then (40,[]) else if i < 0 ∨ i ≥ D.secs then (41,[]) else (0,D.at i)
def Dev.arm (D:Dev) (step:Int) (keep:List Int) (torn off:Int):Int × Dev :=
 if D.down then (40,D) else if step < 0 then (4,D) else (0,{ D with step:=step,keep:=keep,torn:=torn,off:=off })
def Dev.crash (D:Dev) (keep:List Int) (torn off:Int):Int × Dev:=if D.down then (40,D) else (0,D.fallen keep torn off)
def Dev.up (D:Dev):Dev:={ D with down:=false,step:=0 }
structure Dev.Ok (D:Dev):Prop where
 len:D.img.length % 512 = 0
 pos:512 ≤ D.img.length ∧ D.img.length ≤ 4194304
 byt:Byt D.img
 q:∀ p ∈ D.q,0 ≤ p.1 ∧ p.1.toNat * 512 + 512 ≤ D.img.length ∧ p.2.length = 512 ∧ Byt p.2
 step:0 ≤ D.step ∧ D.step ≤ 9223372036854775807
 calls:-9223372036854775808 ≤ D.calls ∧ D.calls ≤ 9223372036854775807
theorem layAt_byt {m:List Int} {i:Int} {b:List Int} (h:Byt m) (k:Byt b):Byt (layAt m i b):=((h.take _).append k).append (h.drop _)
theorem fallG_ok {keep:List Int} {torn off:Int}:∀ (q:List (Int × List Int)) (k:Nat) (m:List Int),(∀ p ∈ q,0 ≤ p.1 ∧ p.1.toNat * 512 + 512 ≤ m.length ∧ p.2.length = 512 ∧ Byt p.2) → Byt m → (fallG keep torn off k q m).length = m.length ∧ Byt (fallG keep torn off k q m)
 | [],_,_,_,h=>⟨rfl,h⟩
 | p :: q,k,m,hq,hm=>by
  obtain ⟨h1,h2,h3,h4⟩:=hq p List.mem_cons_self
  have key:∀ m':List Int,m'.length = m.length → Byt m' → (fallG keep torn off (k + 1) q m').length = m.length ∧ Byt (fallG keep torn off (k + 1) q m'):=fun m' hl hb=>by
   have:=fallG_ok (keep:=keep) (torn:=torn) (off:=off) q (k + 1) m' (fun p' hp'=>by rw [hl];exact hq p' (List.mem_cons_of_mem _ hp')) hb
   exact ⟨this.1.trans hl,this.2⟩
  unfold fallG
  split
  ·exact key _ (layAt_len (by omega)) (layAt_byt hm h4)
  ·split
   ·exact key _ (layAt_len (by simp;omega)) (layAt_byt hm (h4.take _))
   ·exact key _ rfl hm
theorem flushG_ok:∀ (q:List (Int × List Int)) (m:List Int),(∀ p ∈ q,0 ≤ p.1 ∧ p.1.toNat * 512 + 512 ≤ m.length ∧ p.2.length = 512 ∧ Byt p.2) → Byt m → (flushG q m).length = m.length ∧ Byt (flushG q m)
 | [],_,_,h=>⟨rfl,h⟩
 | p :: q,m,hq,hm=>by
  obtain ⟨h1,h2,h3,h4⟩:=hq p List.mem_cons_self
  have hl:=layAt_len (m:=m) (i:=p.1) (b:=p.2) (by omega)
  have:=flushG_ok q (layAt m p.1 p.2) (fun p' hp'=>by rw [hl];exact hq p' (List.mem_cons_of_mem _ hp')) (layAt_byt hm h4)
  exact ⟨this.1.trans hl,this.2⟩
theorem Dev.Ok.fallen {D:Dev} (h:D.Ok) (keep:List Int) (torn off:Int):(D.fallen keep torn off).Ok:=by
 have:=fallG_ok (keep:=keep) (torn:=torn) (off:=off) D.q 0 D.img h.q h.byt
 exact ⟨by rw [show (D.fallen keep torn off).img.length = D.img.length from this.1];exact h.len,by rw [show (D.fallen keep torn off).img.length = D.img.length from this.1];exact h.pos,this.2,fun p hp=>(by cases hp),⟨Int.le_refl _,by simp [Dev.fallen]⟩,h.calls⟩
theorem Dev.Ok.counted {D:Dev} (h:D.Ok):D.counted.Ok :=
 ⟨h.len,h.pos,h.byt,h.q,by have:=h.step;simp only [Dev.counted];split <;> omega,wr_in _⟩
theorem Dev.Ok.pushed {D:Dev} (h:D.Ok) {i:Int} {b:List Int} (h1:¬ (i < 0 ∨ i ≥ D.secs)) (h2:b.length = 512) (h3:Byt b):({ D with q:=D.q ++ [(i,b)] }:Dev).Ok :=
 ⟨h.len,h.pos,h.byt,fun p hp=>by
  rcases List.mem_append.1 hp with hp|hp
  ·exact h.q p hp
  ·obtain rfl:=List.mem_singleton.1 hp
   have:=h.len
   simp only [Dev.secs] at h1
   exact ⟨by omega,by show i.toNat * 512 + 512 ≤ D.img.length;omega,h2,h3⟩,h.step,h.calls⟩
theorem Dev.Ok.write {D:Dev} (h:D.Ok) {i:Int} {b:List Int} (hb:Byt b):(D.write i b).2.Ok:=by
 unfold Dev.write
 split
 ·exact h
 ·split
  ·exact h
  ·split
   ·exact h
   ·rename_i h1 h2
    have hp:({ D.counted with q:=D.q ++ [(i,b)] }:Dev).Ok:=Dev.Ok.pushed (D:=D.counted) h.counted h1 (by omega) hb
    split
    ·exact hp.fallen _ _ _
    ·exact hp
theorem Dev.Ok.sync {D:Dev} (h:D.Ok):D.sync.2.Ok:=by
 unfold Dev.sync
 split
 ·exact h
 ·split
  ·exact h.counted.fallen _ _ _
  ·have:=flushG_ok D.q D.img h.q h.byt
   exact ⟨by show (flushG D.q D.img).length % 512 = 0;rw [this.1];exact h.len,by show _ ≤ (flushG D.q D.img).length ∧ (flushG D.q D.img).length ≤ _;rw [this.1];exact h.pos,this.2,fun p hp=>(by cases hp),h.counted.step,wr_in _⟩
end Go.SL.Sec
/- Numbers as bytv; the checksum, in plain words. No condition. -/
namespace Go.SL.Fld
open Go Go.SL Go.SL.Sec
def leB:Nat → Int → List Int
 | 0,_=>[]
 | k + 1,n=>n % 256 :: leB k (n / 256)
def leV:List Int → Int
 | []=>0
 | b :: r=>b + 256 * leV r
theorem leB_len:∀ (k:Nat) (n:Int),(leB k n).length = k
 | 0,_=>rfl
 | k + 1,n=>by simp [leB,leB_len k]
theorem leB_byt:∀ (k:Nat) (n:Int),Byt (leB k n)
 | 0,_=>Byt.nil
 | k + 1,n=>fun b hb=>by
  rcases List.mem_cons.1 hb with rfl|hb
  ·omega
  ·exact leB_byt k _ b hb
theorem leB_snoc:∀ (k:Nat) (n:Int),leB (k + 1) n = leB k n ++ [n / 256 ^ k % 256]
 | 0,n=>by simp [leB]
 | k + 1,n=>by
  rw [leB,leB_snoc k (n / 256),leB]
  rw [List.cons_append,Int.ediv_ediv_of_nonneg (by decide),Int.pow_succ,Int.mul_comm]
theorem leV_leB:∀ (k:Nat) (n:Int),0 ≤ n → n < 256 ^ k → leV (leB k n) = n
 | 0,n,h0,h=>by simp only [Int.pow_zero] at h;simp [leB,leV];omega
 | k + 1,n,h0,h=>by
  have h1:n / 256 < 256 ^ k:=Int.ediv_lt_of_lt_mul (by decide) (by rw [← Int.pow_succ];exact h)
  rw [leB,leV,leV_leB k (n / 256) (by omega) h1]
  omega
theorem leV_bd:∀ l:List Int,Byt l → 0 ≤ leV l ∧ leV l < 256 ^ l.length
 | [],_=>by simp [leV]
 | b :: r,h=>by
  have h1:=h b List.mem_cons_self
  have h2:=leV_bd r fun x hx=>h x (List.mem_cons_of_mem _ hx)
  simp only [leV,List.length_cons,Int.pow_succ]
  omega
theorem leV_snoc:∀ (l:List Int) (b:Int),leV (l ++ [b]) = leV l + b * 256 ^ l.length
 | [],b=>by simp [leV]
 | c :: l,b=>by
  simp only [List.cons_append,leV,leV_snoc l b,List.length_cons,Int.pow_succ]
  rw [Int.mul_add,Int.mul_comm (256 ^ l.length) 256,← Int.mul_assoc,← Int.mul_assoc,Int.mul_comm 256 b,Int.add_assoc]
def putB (l:List Int) (at_ size:Nat) (n:Int):List Int:=l.take at_ ++ leB size n ++ l.drop (at_ + size)
def getB (l:List Int) (at_ size:Nat):Int:=leV ((l.drop at_).take size)
theorem putB_len {l:List Int} {at_ size:Nat} {n:Int} (h:at_ + size ≤ l.length):(putB l at_ size n).length = l.length:=by
 simp [putB,leB_len];omega
theorem putB_byt {l:List Int} {at_ size:Nat} {n:Int} (h:Byt l):Byt (putB l at_ size n):=((h.take _).append (leB_byt _ _)).append (h.drop _)
theorem putB_zero (l:List Int) (at_:Nat) (n:Int):putB l at_ 0 n = l:=by simp [putB,leB]
theorem putB_succ {l:List Int} {at_ k:Nat} {n:Int} (h:at_ + k < l.length):(putB l at_ k n).set (at_ + k) (n / 256 ^ k % 256) = putB l at_ (k + 1) n:=by
 have h1:(l.take at_ ++ leB k n).length = at_ + k:=by simp [leB_len];omega
 have h2:l.drop (at_ + k) = l[at_ + k] :: l.drop (at_ + k + 1):=List.drop_eq_getElem_cons h
 unfold putB
 rw [h2,List.set_append_right _ _ (by omega),h1,Nat.sub_self,List.set_cons_zero,leB_snoc,← List.append_assoc]
 simp [Nat.add_assoc]
theorem putB_get {l:List Int} {at_ k:Nat} {n:Int} (h:at_ + k < l.length):(putB l at_ k n)[at_ + k]? = some l[at_ + k]:=by
 have h1:(l.take at_ ++ leB k n).length = at_ + k:=by simp [leB_len];omega
 unfold putB
 rw [List.getElem?_append_right (by omega),h1,Nat.sub_self,List.getElem?_drop,Nat.add_zero,List.getElem?_eq_getElem h]
theorem getB_putB {l:List Int} {at_ size:Nat} {n:Int} (h:at_ + size ≤ l.length) (h0:0 ≤ n) (h1:n < 256 ^ size):getB (putB l at_ size n) at_ size = n:=by
 unfold getB putB
 rw [List.append_assoc,List.drop_append_of_le_length (by simp;omega),List.drop_eq_nil_of_le (by simp;omega),List.nil_append]
 rw [List.take_append_of_le_length (by rw [leB_len];exact Nat.le_refl _),List.take_of_length_le (by rw [leB_len];exact Nat.le_refl _),leV_leB _ _ h0 h1]
theorem getB_succ {l:List Int} {at_ k:Nat} {b:Int} (h:l[at_ + k]? = some b):getB l at_ (k + 1) = getB l at_ k + b * 256 ^ k:=by
 have hlt:=(List.getElem?_eq_some_iff.1 h).1
 unfold getB
 have h1:(l.drop at_)[k]? = some b:=by rw [List.getElem?_drop];exact h
 rw [List.take_add_one,h1]
 show leV (_ ++ [b]) = _
 rw [leV_snoc]
 have:((l.drop at_).take k).length = k:=by simp;omega
 rw [this]
theorem getB_bd {l:List Int} (h:Byt l) (at_ size:Nat):0 ≤ getB l at_ size ∧ getB l at_ size < 256 ^ size:=by
 have h1:=leV_bd _ ((h.drop at_).take size)
 have h2:(256:Int) ^ ((l.drop at_).take size).length ≤ 256 ^ size:=by
  have h3:=Int.ofNat_le.2 (Nat.pow_le_pow_right (show 0 < 256 by decide) (show ((l.drop at_).take size).length ≤ size from List.length_take_le _ _))
  rwa [Int.natCast_pow,Int.natCast_pow] at h3
 exact ⟨h1.1,by unfold getB;omega⟩
end Go.SL.Fld
namespace Go.SL
open Go
theorem p256 (k:Nat):(2:Int) ^ (8 * k) = 256 ^ k:=by rw [Int.pow_mul];rfl
theorem Shr.v {k:IntKind} {n m:Int} {K:Int → Prop} (j:Nat) (h:m = (j:Int)) (h0:j ≤ k.bits) (hk:K (n / 2 ^ j)):Shr k n m K:=by
 subst h
 refine ⟨by omega,?_⟩
 rw [Int.toNat_natCast,Nat.min_eq_left h0,Int.fdiv_eq_ediv_of_nonneg]
 ·exact hk
 ·exact Int.le_of_lt (Int.pow_pos (by decide))
theorem Shl.v {k:IntKind} {n m:Int} {K:Int → Prop} (j:Nat) (h:m = (j:Int)) (h0:j ≤ k.bits) (hk:Ar k (n * 2 ^ j) K):Shl k n m K:=by
 subst h
 refine ⟨by omega,?_⟩
 rw [Int.toNat_natCast,Nat.min_eq_left h0]
 exact hk.ex
theorem bits_or_add {k:IntKind} {n y:Int} (i:Nat) (h0:0 ≤ n) (h1:n < 2 ^ i) (hy:0 ≤ y) (hm:k.signed = false) (hb:n + y * 2 ^ i < 2 ^ k.bits):bits .or k n (y * 2 ^ i) = n + y * 2 ^ i:=by
 obtain ⟨n',rfl⟩:=Int.eq_ofNat_of_zero_le h0
 obtain ⟨y',rfl⟩:=Int.eq_ofNat_of_zero_le hy
 have h1':n' < 2 ^ i:=by exact_mod_cast h1
 have hb':n' + y' * 2 ^ i < 2 ^ k.bits:=by exact_mod_cast hb
 have e1:((y':Int) * 2 ^ i) = ((y' * 2 ^ i:Nat):Int):=by simp
 rw [e1]
 have hor:n' ||| (y' * 2 ^ i) = n' + y' * 2 ^ i:=by
  have:=Nat.two_pow_add_eq_or_of_lt h1' y'
  rw [Nat.mul_comm (2 ^ i) y'] at this
  rw [Nat.or_comm,← this,Nat.add_comm]
 have b1:(BitVec.ofInt k.bits (n':Int)).toNat = n':=by rw [BitVec.ofInt_natCast,BitVec.toNat_ofNat,Nat.mod_eq_of_lt (by omega)]
 have b2:(BitVec.ofInt k.bits ((y' * 2 ^ i:Nat):Int)).toNat = y' * 2 ^ i:=by rw [BitVec.ofInt_natCast,BitVec.toNat_ofNat,Nat.mod_eq_of_lt (by omega)]
 simp only [bits,BitVec.toNat_or,b1,b2,hor]
 have hw:((n' + y' * 2 ^ i:Nat):Int) % 2 ^ k.bits = ((n' + y' * 2 ^ i:Nat):Int):=Int.emod_eq_of_lt (by omega) (by exact_mod_cast hb')
 have hw2:k.wrap ((n' + y' * 2 ^ i:Nat):Int) = ((n' + y' * 2 ^ i:Nat):Int):=by
  unfold IntKind.wrap
  rw [hm]
  simpa using hw
 rw [hw2];simp
theorem Bt.orAdd {k:IntKind} {n m y:Int} {K:Int → Prop} (i:Nat) (hm:m = y * 2 ^ i) (h0:0 ≤ n) (h1:n < 2 ^ i) (hy:0 ≤ y) (hs:k.signed = false) (hb:n + y * 2 ^ i < 2 ^ k.bits) (hk:K (n + y * 2 ^ i)):Bt .or k n m K:=by
 subst hm
 exact ⟨by rw [bits_or_add i h0 h1 hy hs hb];exact hk⟩
end Go.SL
