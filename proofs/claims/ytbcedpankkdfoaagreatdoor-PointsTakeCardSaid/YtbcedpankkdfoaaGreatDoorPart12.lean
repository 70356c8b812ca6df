/- The program's Writer and Reader of numbers, walked. Conditions: in each statement. -/
import Derived.Test.YtbcedpankkdfoaaGreatDoorPart11
import Derived.Test.YtbcedpankkdfoaaGreatDoorPart8
set_option linter.unusedVariables false
set_option linter.unusedSimpArgs false
namespace Go.Proofs.YtbcedpankkdfoaaGreatDoor
open Go Go.SL Go.SL.Sec Go.SL.Fld
theorem or128 {n:Int} {K:Int → Prop} (h:0 ≤ n ∧ n < 256) (hk:K (n % 128 + 128)):Bt .or .u8 n 128 K:=by
 refine ⟨?_⟩
 have:∀ i:Fin 256,bits .or .u8 ((i.val:Nat):Int) 128 = (((i.val % 128 + 128:Nat)):Int):=by decide +kernel
 have h1:=this ⟨n.toNat,by omega⟩
 dsimp only at h1
 rw [show ((n.toNat:Nat):Int) = n by omega] at h1
 rw [h1]
 have:((n.toNat % 128 + 128:Nat):Int) = n % 128 + 128:=by omega
 rw [this];exact hk
structure WrX where
 a:Option Addr
 c:Nat
 l:List Int
def writo (w:Nat) (X:WrX):HProp:=pts w (.cells ⟨[.slice X.a X.l.length X.c]⟩ t_field_Writer)•vec t_uint8 1 bytv X.a X.c X.l
theorem newWriter_spec {W:World} {R:HProp} :
  Does prog W f_z41 ⟨[]⟩ R (Ret fun v G=>∃ w,v = ptr w ∧ G = (writo w ⟨none,0,[]⟩•R)):=by
 refine f_z41.does ?_
 conv=>whnf
 repeat' (first
  | (intro blk hblk;conv=>whnf))
 refine ⟨_,_,rfl,?_,blk,rfl,rfl⟩
 unfold writo
 rw [star_assoc]
 refine Imp.pick (Imp.vnil (Imp.refl _))
theorem wu_spec {W : World} {H R : HProp} {w : Nat} {X : WrX} {n : Int} [t : ObjC writo H w X R] (hn : 0 ≤ n ∧ n ≤ 18446744073709551615) (hl : X.l.length ≤ 16777216) :
    Does prog W f_z1k ⟨[ptr w,.int .u64 n]⟩ H (Ret fun v G=>∃ a c,v = .tuple ⟨[]⟩ ∧ G = (writo w ⟨a,c,X.l ++ encN n.toNat⟩•R)):=by
  rw [t.h.eq]
  obtain ⟨a0,c0,l0⟩:=X
  dsimp only at hl ⊢
  unfold writo
  simp only [star_assoc]
  refine f_z1k.does _ _ ?_
  conv=>whnf
  refine LoopK.at tab_ok (L:=f_z1k.live) (ι:=Nat × Option Addr × Nat × List Int) (fun i=>((i.1:Nat):Int) ≤ n ∧ i.2.2.2 ++ encN i.1 = l0 ++ encN n.toNat) (fun i=>[(1,.int .u64 i.1)])
    (fun i=>pts w (.cells ⟨[.slice i.2.1 i.2.2.2.length i.2.2.1]⟩ t_field_Writer)•vec t_uint8 1 bytv i.2.1 i.2.2.1 i.2.2.2) (fun i=>i.1) (n.toNat,a0,c0,l0) ⟨by simp;omega,rfl⟩ (fun t v h=>by
      rw [show ((((n.toNat,a0,c0,l0):Nat × Option Addr × Nat × List Int).1:Nat):Int) = n by simp;omega] at h
      exact h) (by simp only [star_assoc];exact Imp.refl _) ?_
  rintro ⟨m,a,c,l⟩ ⟨hm,hml⟩
  dsimp only at hm hml ⊢
  simp only [star_assoc]
  have hlen:l.length ≤ 16777216 + 10:=by
    have h1:=congrArg List.length hml
    have h2 : (encN n.toNat).length ≤ 10 := encN_len 9 _ (by have : (128 : Nat) ^ 10 = 1180591620717411303424 := by decide
                                                             omega)
    simp only [List.length_append] at h1
    omega
  conv=>whnf
  by_cases h1:128 ≤ m
  · repeat' (first
      | (refine spl_dec (fun hd=>?_) (fun hd=>?_) <;> first|(exfalso;omega)|(conv=>whnf))
      | ((first|refine Ld.i ?_|refine St.i ⟨rfl,rfl⟩ (List.cons_ne_nil _ _) ?_|refine Shr.i (by rfl) (by decide) ?_);conv=>whnf)
      | (intro blk hblk;conv=>whnf)
      | ((first|refine Ar.u8w ?_|refine or128 (by omega) ?_);conv=>whnf)
      | (refine OpX.app1g tab_ok rfl rfl rfl rfl rfl rfl (by omega) (fun a' c'=>?_);conv=>whnf))
    have hb:((m:Int) % 256 % 128 + 128) = ((m % 128 + 128:Nat):Int):=by omega
    refine ⟨rfl,(m / 128,a',c',l ++ [((m:Int) % 256 % 128 + 128)]),⟨by dsimp only;omega,?_⟩,fun t v h=>h,?_,by dsimp only;omega⟩
    · dsimp only
      rw [hb,← hml,encN_ge h1,List.append_assoc];rfl
    · dsimp only
      first|exact .refl _|exact .drop|exact .fin|((repeat refine .pick ?_);first|exact .refl _|exact .emp _|exact .fin)
  · repeat' (first
      | (refine spl_dec (fun hd=>?_) (fun hd=>?_) <;> first|(exfalso;omega)|(conv=>whnf))
      | ((first|refine Ld.i ?_|refine St.i ⟨rfl,rfl⟩ (List.cons_ne_nil _ _) ?_);conv=>whnf)
      | (intro blk hblk;conv=>whnf)
      | (refine Ar.u8w ?_;conv=>whnf)
      | (refine OpX.app1g tab_ok rfl rfl rfl rfl rfl rfl (by omega) (fun a' c'=>?_);conv=>whnf))
    have hb:((m:Int) % 256) = (m:Int):=by omega
    rw [hb,← hml,encN_lt (n:=m) (by omega)]
    refine ⟨_,_,rfl,?_,a',c',rfl,rfl⟩
    first|exact .refl _|exact .drop|exact .fin|((repeat refine .pick ?_);first|exact .refl _|exact .emp _|exact .fin)
theorem zig64 {n:Int} {K:Int → Prop} (h:-9223372036854775808 ≤ n ∧ n ≤ 9223372036854775807) (hk:K (zig n)):Bt .xor .u64 (n % 18446744073709551616 * 2 % 18446744073709551616) (n / 9223372036854775808 % 18446744073709551616) K:=by
 refine ⟨?_⟩
 have:bits .xor .u64 (n % 18446744073709551616 * 2 % 18446744073709551616) (n / 9223372036854775808 % 18446744073709551616) = zig n:=by
  unfold zig
  by_cases h0:0 ≤ n
  ·have e1:n / 9223372036854775808 % 18446744073709551616 = 0:=by omega
   have e2:n % 18446744073709551616 * 2 % 18446744073709551616 = 2 * n:=by omega
   rw [e1,e2,if_pos h0]
   show IntKind.u64.wrap ((BitVec.ofInt 64 (2 * n) ^^^ BitVec.ofInt 64 0).toNat:Int) = 2 * n
   rw [show BitVec.ofInt 64 0 = 0#64 by decide,BitVec.xor_zero,BitVec.toNat_ofInt,IntWalk.u64_in _ (by omega)]
   omega
  ·have e1:n / 9223372036854775808 % 18446744073709551616 = 18446744073709551615:=by omega
   have e2:n % 18446744073709551616 * 2 % 18446744073709551616 = 2 * n + 18446744073709551616:=by omega
   rw [e1,e2,if_neg h0]
   show IntKind.u64.wrap ((BitVec.ofInt 64 (2 * n + 18446744073709551616) ^^^ BitVec.ofInt 64 18446744073709551615).toNat:Int) = -2 * n - 1
   rw [show BitVec.ofInt 64 18446744073709551615 = BitVec.allOnes 64 by decide,BitVec.xor_allOnes,BitVec.toNat_not,BitVec.toNat_ofInt,IntWalk.u64_in _ (by omega)]
   omega
 rw [this];exact hk
theorem ws_spec {W:World} {H R:HProp} {w:Nat} {X:WrX} {n:Int} [t:ObjC writo H w X R] (hn:-9223372036854775808 ≤ n ∧ n ≤ 9223372036854775807) (hl:X.l.length ≤ 16777216) :
  Does prog W f_z42 ⟨[ptr w,.int .i64 n]⟩ H (Ret fun v G=>∃ a c,v = .tuple ⟨[]⟩ ∧ G = (writo w ⟨a,c,X.l ++ encN (zig n).toNat⟩•R)):=by
 have hz:0 ≤ zig n ∧ zig n ≤ 18446744073709551615:=by unfold zig;split <;> omega
 refine f_z42.does _ _ ?_
 conv=>whnf
 repeat' (first
  | ((first|refine Shr.i (by rfl) (by decide) ?_|refine Shl.i (by rfl) (by decide) ?_|refine Ar.u64w ?_|refine zig64 hn ?_);conv=>whnf)
  | (refine CallK.ret f_z1k.ok (wu_spec (by first|rfl|assumption|omega|decide|(simp;done)|(simp;omega)|(simp at *;omega)) (by first|rfl|assumption|omega|decide|(simp;done)|(simp;omega)|(simp at *;omega))) ?_;rintro v G ⟨e_a,e_c,rfl,rfl⟩;conv=>whnf))
 exact ⟨_,_,rfl,Imp.refl _,_,_,rfl,rfl⟩
theorem clone8_spec {W:World} {R:HProp} {a:Option Addr} {n cap:Nat} {l:List Int} [c:RowN W R a n 1 bytv l] (hb:l.length ≤ 16777216) :
  Does prog W f_z31 ⟨[.slice a n cap]⟩ R (Ret fun v G=>∃ a' cap',l.length ≤ cap' ∧ v = .slice a' l.length cap' ∧ G = (vec t_uint8 1 bytv a' cap' l•R)):=by
 refine Does.vlen (V:=fun a' cap'=>.slice a' l.length cap') ?_
 have hn:=c.len
 subst hn
 haveI c':=c.row
 cases a with
 | none =>
  refine Does.nil c' fun hl=>?_
  subst hl
  refine f_z31.does _ ?_
  conv=>whnf
  skip
  refine ⟨_,_,rfl,?_,none,0,rfl,rfl⟩
  refine Imp.vnil ?_
  first|exact .refl _|exact .drop|exact .fin|((repeat refine .pick ?_);first|exact .refl _|exact .emp _|exact .fin)
 | some x =>
  refine f_z31.does _ ?_
  conv=>whnf
  repeat' (first
   | (intro blk hblk;conv=>whnf)
   | (refine OpX.appE (ys:=l) tab_ok rfl rfl rfl rfl rfl rfl (by omega) (fun a' c'=>?_);conv=>whnf))
  refine ⟨_,_,rfl,?_,a',c',rfl,rfl⟩
  first|exact .refl _|exact .drop|exact .fin|((repeat refine .pick ?_);first|exact .refl _|exact .emp _|exact .fin)
theorem out_spec {W:World} {H R:HProp} {w:Nat} {X:WrX} [t:ObjC writo H w X R] (hl:X.l.length ≤ 16777216) :
  Does prog W f_z3i ⟨[ptr w]⟩ H (Ret fun v G=>∃ a c,X.l.length ≤ c ∧ v = .slice a X.l.length c ∧ G = (vec t_uint8 1 bytv a c X.l•writo w X•R)):=by
 rw [t.h.eq]
 obtain ⟨a0,c0,l0⟩:=X
 dsimp only at hl ⊢
 unfold writo
 simp only [star_assoc]
 refine f_z3i.does _ ?_
 conv=>whnf
 repeat' (first
  | (refine Ld.i ?_;conv=>whnf)
  | (refine CallK.ret f_z31.ok (clone8_spec (by first|rfl|assumption|omega|decide|(simp;done)|(simp;omega)|(simp at *;omega))) ?_;rintro v G ⟨e_a',e_cap',e_h1,rfl,rfl⟩;conv=>whnf))
 refine ⟨_,_,rfl,?_,e_a',e_cap',e_h1,rfl,rfl⟩
 first|exact .refl _|exact .drop|exact .fin|((repeat refine .pick ?_);first|exact .refl _|exact .emp _|exact .fin)
structure RdX where
 a:Option Addr
 c:Nat
 l:List Int
 at_:Nat
 err:Int
def reado (r:Nat) (X:RdX):HProp:=pts r (.cells ⟨[.slice X.a X.l.length X.c,.int .i64 X.at_,.int .i64 X.err]⟩ t_field_Reader)•vec t_uint8 1 bytv X.a X.c X.l
structure RdX.Ok (X:RdX):Prop where
 byt:Byt X.l
 len:X.l.length ≤ 16777216
 cap:X.l.length ≤ X.c
 at_:X.at_ ≤ X.l.length
theorem newReader_spec {W:World} {R:HProp} {a:Option Addr} {n c:Nat} {l:List Int} [ro:RowN W R a n 1 bytv l] (hl:l.length ≤ 16777216) :
  Does prog W f_z3n ⟨[.slice a n c]⟩ R (Ret fun v G=>∃ r a c,l.length ≤ c ∧ v = ptr r ∧ G = (reado r ⟨a,c,l,0,0⟩•R)):=by
 refine f_z3n.does _ ?_
 conv=>whnf
 repeat' (first
  | (intro blk hblk;conv=>whnf)
  | (refine CallK.ret f_z31.ok (clone8_spec (by first|rfl|assumption|omega|decide|(simp;done)|(simp;omega)|(simp at *;omega))) ?_;rintro v G ⟨e_a',e_cap',e_h1,rfl,rfl⟩;conv=>whnf))
 refine ⟨_,_,rfl,?_,blk,e_a',e_cap',e_h1,rfl,rfl⟩
 unfold reado
 simp only [star_assoc]
 first|exact .refl _|exact .drop|exact .fin|((repeat refine .pick ?_);first|exact .refl _|exact .emp _|exact .fin)
theorem p128 (k:Nat):(2:Int) ^ (7 * k) = 128 ^ k:=by rw [Int.pow_mul];rfl
theorem nextG_at {ys:List Int} {k:Nat} {b n:Int} (h:ys[k]? = some b):nextG k n (ys.drop k) = (if k = 10 then (0,0,22) else
  if b ≥ 128 then nextG (k + 1) (n + b % 128 * 128 ^ k) (ys.drop (k + 1)) else
  if (0 < k ∧ b = 0) ∨ (k = 9 ∧ 1 < b) then (0,0,22) else (n + b * 128 ^ k,(k:Int) + 1,0)):=by
 obtain ⟨hl,hg⟩:=List.getElem?_eq_some_iff.1 h
 rw [List.drop_eq_getElem_cons hl,hg,nextG]
theorem word7 {k:Nat} {b n y:Int} (hk:k ≤ 9) (h0:0 ≤ n) (h1:n < 128 ^ k) (hb:0 ≤ b ∧ b < 256) (hy:y = if k = 9 then b % 2 else b % 128) :
  b % 128 * 128 ^ k % 18446744073709551616 = y * 2 ^ (7 * k) ∧ 0 ≤ y ∧ n + y * 2 ^ (7 * k) < 18446744073709551616 ∧ (k ≠ 9 → y = b % 128 ∧ n + y * 2 ^ (7 * k) < 128 ^ (k + 1)):=by
 rw [p128]
 have:k = 0 ∨ k = 1 ∨ k = 2 ∨ k = 3 ∨ k = 4 ∨ k = 5 ∨ k = 6 ∨ k = 7 ∨ k = 8 ∨ k = 9:=by omega
 rcases this with rfl|rfl|rfl|rfl|rfl|rfl|rfl|rfl|rfl|rfl <;> simp at hy h1 ⊢ <;> omega
theorem next_spec {W:World} {H R:HProp} {r:Nat} {a:Option Addr} {n c z:Nat} {e:Int} {fz:Nat × Nat} {l:List Int} [p:PtsC H r (.cells ⟨[.slice a n c,.int .i64 z,.int .i64 e]⟩ t_field_Reader fz) R] [ro:RowN W H a n 1 bytv l] (hb:Byt l) (hl:l.length ≤ 16777216) (hc:l.length ≤ c) (hz:z ≤ l.length) :
  Does prog W f_z14 ⟨[ptr r]⟩ H (Ret fun v G=>v = .tuple ⟨[.int .u64 (nextG 0 0 (l.drop z)).1,.int .i64 (nextG 0 0 (l.drop z)).2.1,.int .i64 (nextG 0 0 (l.drop z)).2.2]⟩ ∧ G = H):=by
 have hn:=ro.len
 subst hn
 have r':=ro.row
 have he:=p.h.eq
 subst he
 clear p ro
 obtain ⟨ys,hys⟩:∃ ys,ys = l.drop z:=⟨_,rfl⟩
 have hyl:ys.length = l.length - z:=by rw [hys,List.length_drop]
 have hyb:Byt ys:=hys ▸ hb.drop z
 rw [← hys]
 have ry:RowC W (pts r (.cells ⟨[.slice a l.length c,.int .i64 z,.int .i64 e]⟩ t_field_Reader fz)•R) (dropA a z c 1) 1 bytv ys:=by
  rw [hys]
  exact RowC.drop z c hc r'
 clear r'
 refine f_z14.does _ ?_
 conv=>whnf
 repeat' (first
  | ((first|refine Ld.i ?_|refine OpQ.slr tab_ok z rfl rfl rfl rfl rfl hz ?_);conv=>whnf)
  | (refine DrawK.introH tab_ok mixed 8 f_z14.last2 f_z14.plan2 _ rfl (by kernel_rfl) (Sub.of (by first|exact .refl _|exact .drop|exact .fin|((repeat refine .pick ?_);first|exact .refl _|exact .emp _|exact .fin))) ?_;conv=>whnf))
 refine LoopK.at tab_ok (L:=f_z14.live) (ι:=Nat × Int) (fun i=>i.1 ≤ ys.length ∧ i.1 ≤ 10 ∧ (i.1 ≤ 9 → 0 ≤ i.2 ∧ i.2 < 128 ^ i.1 ∧ nextG 0 0 ys = nextG i.1 i.2 (ys.drop i.1)) ∧ (i.1 = 10 → nextG 0 0 ys = (0,0,22)))
  (fun i=>[(18,.int .i64 i.1),(5,.int .u64 i.2)]) (fun _=>emp) (fun i=>ys.length - i.1) (0,0) ⟨by simp,by simp,fun _=>⟨by simp,by simp,rfl⟩,fun h=>by simp at h⟩ (fun t v h=>h) (by rw [emp_star];exact Imp.refl _) ?_
 rintro ⟨k,n⟩ ⟨hk,hk10,h9,h10⟩
 dsimp only at hk hk10 h9 h10 ⊢
 rw [emp_star]
 conv=>whnf
 by_cases h1:k < ys.length
 ·obtain ⟨b,hbk⟩:∃ b,ys[k]? = some b:=⟨_,List.getElem?_eq_getElem h1⟩
  have hbb:=hyb b (List.mem_of_getElem? hbk)
  have hnx:=nextG_at (n:=n) hbk
  by_cases h2:k = 10
  ·repeat' (first
    | (refine spl_dec (fun hd=>?_) (fun hd=>?_) <;> first|(exfalso;omega)|(conv=>whnf))
    | (refine IxS.r (i:=k) (xs:=ys) rfl (by omega) h1 (fun ab off' ha=>?_);have rz:RowC W (pts r (.cells ⟨[.slice a l.length c,.int .i64 z,.int .i64 e]⟩ t_field_Reader fz)•R) (some ⟨ab,off',none⟩) 1 bytv ys:=ha ▸ ry;rw [ha];conv=>whnf)
    | (refine Ld.r0 hbk rfl ?_;conv=>whnf))
   rw [h10 h2]
   refine Ret.eq rfl ?_
   first|exact .refl _|exact .drop|exact .fin|((repeat refine .pick ?_);first|exact .refl _|exact .emp _|exact .fin)
  ·obtain ⟨hn0,hn1,hnn⟩:=h9 (by omega)
   obtain ⟨y,hy⟩:∃ y,y = (if k = 9 then b % 2 else b % 128):=⟨_,rfl⟩
   have hyw:b % 128 * 128 ^ k % 18446744073709551616 = y * 2 ^ (7 * k) ∧ 0 ≤ y ∧ n + y * 2 ^ (7 * k) < 18446744073709551616 ∧ (k ≠ 9 → y = b % 128 ∧ n + y * 2 ^ (7 * k) < 128 ^ (k + 1)):=word7 (by omega) hn0 hn1 hbb hy
   repeat' (first
    | (refine spl_dec (fun hd=>?_) (fun hd=>?_) <;> first|(exfalso;omega)|(conv=>whnf))
    | ((first|refine Ar.i64 (by omega) ?_|refine Ar.u64 (by omega) ?_);conv=>whnf)
    | (refine IxS.r (i:=k) (xs:=ys) rfl (by omega) h1 (fun ab off' ha=>?_);have rz:RowC W (pts r (.cells ⟨[.slice a l.length c,.int .i64 z,.int .i64 e]⟩ t_field_Reader fz)•R) (some ⟨ab,off',none⟩) 1 bytv ys:=ha ▸ ry;rw [ha];conv=>whnf)
    | ((first|refine Ld.r0 hbk rfl ?_|refine Bt.low 7 (c:=128) (by decide) (by decide) (by decide) ?_);conv=>whnf)
    | (refine Shl.v (7 * k) (by omega) (by simp [IntKind.bits];omega) ?_;rw [p128];conv=>whnf)
    | (refine Ar.u64w ?_;rw [hyw.1];conv=>whnf)
    | (refine Bt.orAdd (7 * k) (y:=y) rfl hn0 (by rw [p128];exact hn1) hyw.2.1 rfl (by show _ < (2:Int) ^ 64;omega) ?_;conv=>whnf))
   ·have hb2:b ≥ 128:=by omega
    rw [if_neg h2,if_pos hb2] at hnx
    refine ⟨rfl,(k + 1,n + y * 2 ^ (7 * k)),⟨h1,by dsimp only;omega,fun h=>?_,fun h=>?_⟩,fun t v h=>h,Imp.refl _,by dsimp only;omega⟩
    ·dsimp only at h ⊢
     obtain ⟨e1,e2⟩:=hyw.2.2.2 (by omega)
     refine ⟨?_,e2,?_⟩
     ·have:=Int.mul_nonneg hyw.2.1 (Int.le_of_lt (Int.pow_pos (n:=2) (m:=7 * k) (by decide)))
      omega
     ·rw [hnn,hnx,p128,e1]
    ·dsimp only at h
     have hk9:k = 9:=by omega
     rw [hnn,hnx]
     subst hk9
     cases ys.drop (9 + 1) with
     | nil=>rw [nextG,if_pos (by decide)]
     | cons c r=>rw [nextG,if_pos (by decide)]
   ·rw [hnn,hnx,if_neg h2,if_neg (by omega),if_pos (by omega)]
    refine Ret.eq rfl ?_
    first|exact .refl _|exact .drop|exact .fin|((repeat refine .pick ?_);first|exact .refl _|exact .emp _|exact .fin)
   ·rw [hnn,hnx,if_neg h2,if_neg (by omega),if_pos (by omega)]
    refine Ret.eq rfl ?_
    first|exact .refl _|exact .drop|exact .fin|((repeat refine .pick ?_);first|exact .refl _|exact .emp _|exact .fin)
   ·have hyb2:y = b:=by rw [hy];split <;> omega
    rw [hnn,hnx,if_neg h2,if_neg (by omega),if_neg (by omega),← p128,← hyb2]
    refine Ret.eq rfl ?_
    first|exact .refl _|exact .drop|exact .fin|((repeat refine .pick ?_);first|exact .refl _|exact .emp _|exact .fin)
   ·have hyb2:y = b:=by rw [hy];split <;> omega
    rw [hnn,hnx,if_neg h2,if_neg (by omega),if_neg (by omega),← p128,← hyb2]
    refine Ret.eq rfl ?_
    first|exact .refl _|exact .drop|exact .fin|((repeat refine .pick ?_);first|exact .refl _|exact .emp _|exact .fin)
   ·have hyb2:y = b:=by rw [hy];split <;> omega
    rw [hnn,hnx,if_neg h2,if_neg (by omega),if_neg (by omega),← p128,← hyb2]
    refine Ret.eq rfl ?_
    first|exact .refl _|exact .drop|exact .fin|((repeat refine .pick ?_);first|exact .refl _|exact .emp _|exact .fin)
 ·have hke:k = ys.length:=by omega
  have hd:ys.drop k = []:=by rw [hke];exact List.drop_length
  have hnx:k ≤ 9 → nextG 0 0 ys = (0,0,20):=fun h=>by
   rw [(h9 h).2.2,hd,nextG,if_neg (by omega)]
  repeat' (first
   | (refine spl_dec (fun hd=>?_) (fun hd=>?_) <;> first|(exfalso;omega)|(conv=>whnf))
   | ((first|refine Ld.i ?_|refine Ar.i64 (by omega) ?_);conv=>whnf)
   | (refine DrawK.introH tab_ok mixed 53 f_z14.last13 f_z14.plan13 _ rfl (by kernel_rfl) (Sub.of (by first|exact .refl _|exact .drop|exact .fin|((repeat refine .pick ?_);first|exact .refl _|exact .emp _|exact .fin))) ?_;conv=>whnf))
  ·rw [h10 (by omega)]
   refine Ret.eq rfl ?_
   first|exact .refl _|exact .drop|exact .fin|((repeat refine .pick ?_);first|exact .refl _|exact .emp _|exact .fin)
  ·rw [hnx (by omega)]
   refine Ret.eq rfl ?_
   first|exact .refl _|exact .drop|exact .fin|((repeat refine .pick ?_);first|exact .refl _|exact .emp _|exact .fin)
theorem nextG_ok:∀ (l:List Int) (k:Nat) (n:Int),k ≤ 10 → 0 ≤ n → (k ≤ 9 → n < 128 ^ k) → Byt l → (nextG k n l).2.2 = 0 →
  (k:Int) + 1 ≤ (nextG k n l).2.1 ∧ (nextG k n l).2.1 ≤ k + l.length ∧ 0 ≤ (nextG k n l).1 ∧ (nextG k n l).1 < 18446744073709551616
 | [],k,n,hk,h0,h1,hb,he=>by unfold nextG at he;split at he <;> cases he
 | b :: r,k,n,hk,h0,h1,hb,he=>by
  have hbb:=hb b List.mem_cons_self
  unfold nextG at he ⊢
  by_cases e10:k = 10
  ·rw [if_pos e10] at he;cases he
  ·rw [if_neg e10] at he ⊢
   obtain ⟨y,hy⟩:∃ y,y = (if k = 9 then b % 2 else b % 128):=⟨_,rfl⟩
   have hw:=word7 (by omega) h0 (h1 (by omega)) hbb hy
   rw [p128] at hw
   by_cases e2:b ≥ 128
   ·rw [if_pos e2] at he ⊢
    have hpos:0 ≤ b % 128 * 128 ^ k:=Int.mul_nonneg (by omega) (Int.le_of_lt (Int.pow_pos (by decide)))
    have ih:=nextG_ok r (k + 1) (n + b % 128 * 128 ^ k) (by omega) (by omega) (fun h9=>by
     obtain ⟨e3,e4⟩:=hw.2.2.2 (by omega)
     rw [← e3];exact e4) (fun x hx=>hb x (List.mem_cons_of_mem _ hx)) he
    simp only [List.length_cons]
    omega
   ·rw [if_neg e2] at he ⊢
    by_cases e3:(0 < k ∧ b = 0) ∨ (k = 9 ∧ 1 < b)
    ·rw [if_pos e3] at he;cases he
    ·rw [if_neg e3] at he ⊢
     have hyb:y = b:=by rw [hy];split <;> omega
     rw [hyb] at hw
     have hpos:0 ≤ b * 128 ^ k:=Int.mul_nonneg (by omega) (Int.le_of_lt (Int.pow_pos (by decide)))
     refine ⟨Int.le_refl _,?_,by dsimp only;omega,by dsimp only;omega⟩
     dsimp only
     simp only [List.length_cons]
     omega
def RdX.u (X:RdX) (most:Int):Int × RdX :=
 if X.err ≠ 0 then (0,X) else
 if (nextG 0 0 (X.l.drop X.at_)).2.2 ≠ 0 then (0,{ X with err:=(nextG 0 0 (X.l.drop X.at_)).2.2 }) else
 if (nextG 0 0 (X.l.drop X.at_)).1 > most then (0,{ X with err:=23 }) else
 ((nextG 0 0 (X.l.drop X.at_)).1,{ X with at_:=X.at_ + (nextG 0 0 (X.l.drop X.at_)).2.1.toNat })
theorem RdX.Ok.u {X:RdX} (h:X.Ok) (most:Int):(X.u most).2.Ok ∧ 0 ≤ (X.u most).1 ∧ (X.u most).1 < 18446744073709551616 ∧ (0 ≤ most → (X.u most).1 ≤ most):=by
 unfold RdX.u
 split
 ·exact ⟨h,by simp,by simp,fun k=>k⟩
 ·split
  ·exact ⟨⟨h.byt,h.len,h.cap,h.at_⟩,by simp,by simp,fun k=>k⟩
  ·rename_i h1 h2
   have hz:=h.at_
   have hn:=nextG_ok (X.l.drop X.at_) 0 0 (by decide) (by decide) (fun _=>by decide) (h.byt.drop _) (by omega)
   rw [List.length_drop] at hn
   split
   ·exact ⟨⟨h.byt,h.len,h.cap,h.at_⟩,by simp,by simp,fun k=>k⟩
   ·refine ⟨⟨h.byt,h.len,h.cap,?_⟩,hn.2.2.1,hn.2.2.2,fun _=>by dsimp only;omega⟩
    dsimp only
    omega
theorem ru_spec {W:World} {H R:HProp} {r:Nat} {X:RdX} {most:Int} [t:ObjC reado H r X R] (hX:X.Ok) :
  Does prog W f_z1a ⟨[ptr r,.int .u64 most]⟩ H (Ret fun v G=>v = .int .u64 (X.u most).1 ∧ G = (reado r (X.u most).2•R)):=by
 rw [t.h.eq]
 have hnx:=nextG_ok (X.l.drop X.at_) 0 0 (by decide) (by decide) (fun _=>by decide) (hX.byt.drop _)
 obtain ⟨a,c,l,z,e⟩:=X
 unfold RdX.u
 obtain ⟨hb,hl,hc,hz⟩:=hX
 dsimp only at hb hl hc hz hnx ⊢
 rw [List.length_drop] at hnx
 obtain ⟨v,hv⟩:∃ v,v = (nextG 0 0 (l.drop z)).1:=⟨_,rfl⟩
 obtain ⟨s,hs⟩:∃ s,s = (nextG 0 0 (l.drop z)).2.1:=⟨_,rfl⟩
 obtain ⟨f,hf⟩:∃ f,f = (nextG 0 0 (l.drop z)).2.2:=⟨_,rfl⟩
 unfold reado
 simp only [star_assoc]
 refine f_z1a.does _ _ ?_
 conv=>whnf
 repeat' (first
  | (refine spl_dec (fun hd=>?_) (fun hd=>?_) <;> first|(exfalso;omega)|(conv=>whnf))
  | (refine spl_ndec (fun hd=>?_) (fun hd=>?_) <;> first|(exfalso;omega)|(conv=>whnf))
  | ((first|refine Ld.i ?_|refine St.i ⟨rfl,rfl⟩ (List.cons_ne_nil _ _) ?_|refine Ar.i64 (by omega) ?_);conv=>whnf)
  | (refine CallK.ret f_z14.ok (next_spec (by first|rfl|assumption|omega|decide|(simp;done)|(simp;omega)|(simp at *;omega)) (by first|rfl|assumption|omega|decide|(simp;done)|(simp;omega)|(simp at *;omega)) (by first|rfl|assumption|omega|decide|(simp;done)|(simp;omega)|(simp at *;omega)) (by first|rfl|assumption|omega|decide|(simp;done)|(simp;omega)|(simp at *;omega))) ?_;rintro v G ⟨rfl,rfl⟩;conv=>whnf))
 ·rw [if_pos (show e ≠ 0 by omega)]
  refine Ret.eq rfl ?_
  first|exact .refl _|exact .drop|exact .fin|((repeat refine .pick ?_);first|exact .refl _|exact .emp _|exact .fin)
 ·rw [if_neg (show ¬ e ≠ 0 by omega),if_neg (by omega),if_pos (by omega)]
  refine Ret.eq rfl ?_
  first|exact .refl _|exact .drop|exact .fin|((repeat refine .pick ?_);first|exact .refl _|exact .emp _|exact .fin)
 ·rw [if_neg (show ¬ e ≠ 0 by omega),if_neg (by omega),if_neg (by omega)]
  have:(((z + (nextG 0 0 (l.drop z)).2.1.toNat:Nat)):Int) = (z:Int) + (nextG 0 0 (l.drop z)).2.1:=by omega
  dsimp only
  rw [this]
  refine Ret.eq rfl ?_
  first|exact .refl _|exact .drop|exact .fin|((repeat refine .pick ?_);first|exact .refl _|exact .emp _|exact .fin)
 ·rw [if_neg (show ¬ e ≠ 0 by omega),if_pos (by omega)]
  refine Ret.eq rfl ?_
  first|exact .refl _|exact .drop|exact .fin|((repeat refine .pick ?_);first|exact .refl _|exact .emp _|exact .fin)
theorem zag64 {n:Int} {K:Int → Prop} (h:0 ≤ n ∧ n < 18446744073709551616) (hk:K (zag n)):Bt .xor .i64 (n / 2) (0 - n % 2) K:=by
 refine ⟨?_⟩
 have:bits .xor .i64 (n / 2) (0 - n % 2) = zag n:=by
  unfold zag
  show IntKind.i64.wrap ((BitVec.ofInt 64 (n / 2) ^^^ BitVec.ofInt 64 (0 - n % 2)).toNat:Int) = _
  by_cases h0:n % 2 = 0
  ·rw [h0,if_pos rfl,show BitVec.ofInt 64 (0 - 0) = 0#64 by decide,BitVec.xor_zero,BitVec.toNat_ofInt,IntKind.wrap_i64]
   omega
  ·have h1:n % 2 = 1:=by omega
   rw [h1,if_neg (by decide),show BitVec.ofInt 64 (0 - 1) = BitVec.allOnes 64 by decide,BitVec.xor_allOnes,BitVec.toNat_not,BitVec.toNat_ofInt,IntKind.wrap_i64]
   omega
 rw [this];exact hk
theorem rs_spec {W:World} {H R:HProp} {r:Nat} {X:RdX} [t:ObjC reado H r X R] (hX:X.Ok) :
  Does prog W f_z44 ⟨[ptr r]⟩ H (Ret fun v G=>v = .int .i64 (zag (X.u 18446744073709551615).1) ∧ G = (reado r (X.u 18446744073709551615).2•R)):=by
 obtain ⟨hu1,hu2,hu3,_⟩:=hX.u 18446744073709551615
 refine f_z44.does _ ?_
 conv=>whnf
 repeat' (first
  | ((first|refine Ar.i64 (by omega) ?_|refine Shr.i (by rfl) (by decide) ?_|refine Bt.low 1 (c:=2) (by decide) (by decide) (by decide) ?_|refine zag64 ⟨hu2,hu3⟩ ?_);conv=>whnf)
  | (refine CallK.ret f_z1a.ok (ru_spec (by first|rfl|assumption|omega|decide|(simp;done)|(simp;omega)|(simp at *;omega))) ?_;rintro v G ⟨rfl,rfl⟩;conv=>whnf))
 refine Ret.eq rfl ?_
 first|exact .refl _|exact .drop|exact .fin|((repeat refine .pick ?_);first|exact .refl _|exact .emp _|exact .fin)
def RdX.fin (X:RdX):RdX:=if X.err = 0 ∧ X.at_ < X.l.length then { X with err:=21 } else X
theorem RdX.Ok.fin {X:RdX} (h:X.Ok):X.fin.Ok:=by
 unfold RdX.fin;split
 ·exact ⟨h.byt,h.len,h.cap,h.at_⟩
 ·exact h
theorem rend_spec {W:World} {H R:HProp} {r:Nat} {X:RdX} [t:ObjC reado H r X R] (hX:X.Ok) :
  Does prog W f_zs ⟨[ptr r]⟩ H (Ret fun v G=>v = .tuple ⟨[]⟩ ∧ G = (reado r X.fin•R)):=by
 rw [t.h.eq]
 obtain ⟨a,c,l,z,e⟩:=X
 unfold RdX.fin
 dsimp only
 by_cases h:e = 0 ∧ z < l.length
 ·rw [if_pos h]
  unfold reado
  simp only [star_assoc]
  refine f_zs.does _ ?_
  conv=>whnf
  repeat' (first
   | (refine spl_dec (fun hd=>?_) (fun hd=>?_) <;> first|(exfalso;omega)|(conv=>whnf))
   | ((first|refine Ld.i ?_|refine St.i ⟨rfl,rfl⟩ (List.cons_ne_nil _ _) ?_);conv=>whnf)
   | (refine DrawK.introH tab_ok mixed 2 f_zs.last0 f_zs.plan0 _ rfl (by kernel_rfl) (Sub.of (by first|exact .refl _|exact .drop|exact .fin|((repeat refine .pick ?_);first|exact .refl _|exact .emp _|exact .fin))) ?_;conv=>whnf))
  refine Ret.eq rfl ?_
  first|exact .refl _|exact .drop|exact .fin|((repeat refine .pick ?_);first|exact .refl _|exact .emp _|exact .fin)
 ·rw [if_neg h]
  unfold reado
  simp only [star_assoc]
  refine f_zs.does _ ?_
  conv=>whnf
  repeat' (first
   | (refine spl_dec (fun hd=>?_) (fun hd=>?_) <;> first|(exfalso;omega)|(conv=>whnf))
   | (refine Ld.i ?_;conv=>whnf)
   | (refine DrawK.introH tab_ok mixed 2 f_zs.last0 f_zs.plan0 _ rfl (by kernel_rfl) (Sub.of (by first|exact .refl _|exact .drop|exact .fin|((repeat refine .pick ?_);first|exact .refl _|exact .emp _|exact .fin))) ?_;conv=>whnf))
  ·refine Ret.eq rfl ?_
   first|exact .refl _|exact .drop|exact .fin|((repeat refine .pick ?_);first|exact .refl _|exact .emp _|exact .fin)
  ·refine Ret.eq rfl ?_
   first|exact .refl _|exact .drop|exact .fin|((repeat refine .pick ?_);first|exact .refl _|exact .emp _|exact .fin)
theorem rfault_spec {W:World} {H R:HProp} {r:Nat} {X:RdX} [t:ObjC reado H r X R] (hX:X.Ok) :
  Does prog W f_zk ⟨[ptr r]⟩ H (Ret fun v G=>v = .tuple ⟨[.int .i64 (if X.err = 0 then 0 else X.at_),.int .i64 X.err]⟩ ∧ G = (reado r X•R)):=by
 rw [t.h.eq]
 obtain ⟨a,c,l,z,e⟩:=X
 dsimp only
 unfold reado
 simp only [star_assoc]
 by_cases h:e = 0
 ·subst h
  rw [if_pos rfl]
  refine f_zk.does _ ?_
  conv=>whnf
  repeat' (first
   | (refine Ld.i ?_;conv=>whnf))
  refine Ret.eq rfl ?_
  first|exact .refl _|exact .drop|exact .fin|((repeat refine .pick ?_);first|exact .refl _|exact .emp _|exact .fin)
 ·rw [if_neg h]
  refine f_zk.does _ ?_
  conv=>whnf
  repeat' (first
   | (refine spl_dec (fun hd=>?_) (fun hd=>?_) <;> first|(exfalso;omega)|(conv=>whnf))
   | (refine Ld.i ?_;conv=>whnf)
   | (refine DrawK.introH tab_ok mixed 9 f_zk.last3 f_zk.plan3 _ rfl (by kernel_rfl) (Sub.of (by first|exact .refl _|exact .drop|exact .fin|((repeat refine .pick ?_);first|exact .refl _|exact .emp _|exact .fin))) ?_;conv=>whnf))
  refine Ret.eq rfl ?_
  first|exact .refl _|exact .drop|exact .fin|((repeat refine .pick ?_);first|exact .refl _|exact .emp _|exact .fin)
end Go.Proofs.YtbcedpankkdfoaaGreatDoor
