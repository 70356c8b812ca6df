/- Slices that own what they point to: reading, writing, append, reslicing. No condition. -/
import Derived.Test.YtbcedpankkdfoaaGreatDoorPart3
set_option linter.unusedVariables false
set_option linter.unusedSimpArgs false
namespace Go.SL
open Go

def vec {α:Type} (t:TypeId) (sz:Nat) (enc:α → List Value) (a:Option Addr) (cap:Nat) (xs:List α):HProp:=match a with
 | none=>pure (cap = 0 ∧ xs = [])
 | some ⟨b,off,sp⟩=>ex fun pre=>ex fun junk=>pure (sp = none ∧ pre.length = off ∧ xs.length ≤ cap ∧ (cap - xs.length) * sz ≤ junk.length)•pts b (.cells ⟨pre ++ xs.flatMap enc ++ junk⟩ t (0,0))
def one {α:Type} (f:α → Value):α → List Value:=fun x=>[f x]
def ints:Int → List Value:=one (Value.int .i64)

def Sized {α:Type} (sz:Nat) (enc:α → List Value):Prop:=∀ x,(enc x).length = sz
theorem Sized.one {α:Type} (f:α → Value):Sized 1 (one f):=fun _=>rfl
theorem Sized.flat {α:Type} {sz:Nat} {enc:α → List Value} (h:Sized sz enc):∀ xs:List α,(xs.flatMap enc).length = xs.length * sz
 | []=>by simp
 | x :: xs=>by simp [List.flatMap_cons,h x,Sized.flat h xs,Nat.succ_mul,Nat.add_comm]
theorem Sized.get {α:Type} {sz:Nat} {enc:α → List Value} (h:Sized sz enc):∀ (xs:List α) (i j:Nat) (x:α) (v:Value),xs[i]? = some x → (enc x)[j]? = some v →
  (xs.flatMap enc)[i * sz + j]? = some v
 | [],_,_,_,_,h1,_=>by simp at h1
 | y :: ys,0,j,x,v,h1,h2=>by
  simp at h1;subst h1
  have:j < (enc y).length:=by
   rcases Nat.lt_or_ge j (enc y).length with h|h
   ·exact h
   ·simp [List.getElem?_eq_none h] at h2
  rw [List.flatMap_cons,Nat.zero_mul,Nat.zero_add,List.getElem?_append_left this]
  exact h2
 | y :: ys,i + 1,j,x,v,h1,h2=>by
  have:=Sized.get h ys i j x v (by simpa using h1) h2
  rw [List.flatMap_cons,List.getElem?_append_right (by rw [h y,Nat.succ_mul];omega),h y]
  rw [show (i + 1) * sz + j - sz = i * sz + j by rw [Nat.succ_mul];omega]
  exact this

section
variable {P:Program} {W:World} {T:Tab} {α:Type} {t:TypeId} {sz:Nat} {enc:α → List Value} {a:Option Addr} {cap:Nat} {xs:List α} {H R:HProp}

inductive VecIs {α:Type} (W:World) (t:TypeId) (sz:Nat) (enc:α → List Value) (a:Option Addr) (cap:Nat) (xs:List α) (R:HProp) (w:World):Prop
 | nil (ha:a = none) (hc:cap = 0) (hx:xs = []) (hs:Sat W R w)
 | mk (b off:Nat) (pre junk:List Value) (ha:a = some ⟨b,off,none⟩) (hp:pre.length = off) (hl:xs.length ≤ cap) (hj:(cap - xs.length) * sz ≤ junk.length)
   (hs:Sat W (pts b (.cells ⟨pre ++ xs.flatMap enc ++ junk⟩ t (0,0))•R) w)
theorem Sat.vec {w:World} (h:Sat W (vec t sz enc a cap xs•R) w):VecIs W t sz enc a cap xs R w:=by
 unfold SL.vec at h
 split at h
 ·obtain ⟨⟨h1,h2⟩,h3⟩:=h.pure
  exact .nil rfl h1 h2 h3
 ·rename_i b off sp
  rw [ex_star] at h
  obtain ⟨pre,h⟩:=h.ex
  rw [ex_star] at h
  obtain ⟨junk,h⟩:=h.ex
  rw [star_assoc] at h
  obtain ⟨⟨h1,h2,h3,h4⟩,h5⟩:=h.pure
  subst h1
  exact .mk b off pre junk rfl h2 h3 h4 h5
theorem vec_some {b off:Nat} {pre junk:List Value} (hp:pre.length = off) (hl:xs.length ≤ cap) (hj:(cap - xs.length) * sz ≤ junk.length) :
  Ent (pts b (.cells ⟨pre ++ xs.flatMap enc ++ junk⟩ t (0,0))) (vec t sz enc (some ⟨b,off,none⟩) cap xs) :=
 Ent.ex pre (Ent.ex junk (Ent.pure ⟨rfl,hp,hl,hj⟩ (Ent.refl _)))
theorem vec_nil:Ent emp (vec t sz enc none 0 ([]:List α)):=fun _ hh=>⟨⟨rfl,rfl⟩,hh⟩
theorem vec_new {b:Nat} {l:List Value} (he:l = xs.flatMap enc):Ent (pts b (.cells ⟨l⟩ t (0,0))) (vec t sz enc (some ⟨b,0,none⟩) xs.length xs):=by
 have:=vec_some (t:=t) (sz:=sz) (enc:=enc) (xs:=xs) (cap:=xs.length) (b:=b) (off:=0) (pre:=[]) (junk:=[]) rfl (Nat.le_refl _) (by simp)
 simpa [he] using this

def VecAt {α:Type} (W:World) (H:HProp) (t:TypeId) (sz:Nat) (enc:α → List Value) (a:Option Addr) (cap:Nat) (xs:List α):Prop:=∀ w,Sat W H w → ∃ R,VecIs W t sz enc a cap xs R w
theorem VecAt.here:VecAt W (vec t sz enc a cap xs•R) t sz enc a cap xs:=fun _ h=>⟨R,h.vec⟩
theorem VecAt.last:VecAt W (vec t sz enc a cap xs) t sz enc a cap xs:=fun _ h=>VecAt.here (R:=emp) _ (by rw [star_emp];exact h)
theorem VecAt.there {X:HProp} (h:VecAt W R t sz enc a cap xs):VecAt W (X•R) t sz enc a cap xs:=fun w hs=>h w hs.right
theorem VecAt.left {X:HProp} (h:VecAt W X t sz enc a cap xs):VecAt W (X•R) t sz enc a cap xs:=fun w hs=>h w hs.left

theorem IxS.vec {len i size:Nat} {K:Addr → Prop} (hv:VecAt W H t sz enc a cap xs) (hlen:len = xs.length) (hi:i < xs.length)
  (k:∀ b off,a = some ⟨b,off,none⟩ → K ⟨b,off + i * size,none⟩):IxS W H a len (i:Int) size K:=by
 refine ⟨fun w hs=>?_⟩
 obtain ⟨R,hR⟩:=hv w hs
 cases hR with
 | nil _ _ hx _=>subst hx;simp at hi
 | mk b off pre junk ha hp hl hj hs =>
  refine ⟨_,ha,by omega,by omega,?_⟩
  rw [show ((i:Int)).toNat = i by simp,Addr.add_eq]
  exact k b off ha
theorem IxS.lit {b off len i size:Nat} {n:Int} {K:Addr → Prop} (hn:n = (i:Int)) (hi:i < len) (k:K ⟨b,off + i * size,none⟩):IxS W H (some ⟨b,off,none⟩) len n size K :=
 ⟨fun w _=>⟨_,rfl,by omega,by omega,by subst hn;rw [show ((i:Int)).toNat = i by simp,Addr.add_eq];exact k⟩⟩
theorem IxS.at' {b off len i size o:Nat} {n:Int} {K:Addr → Prop} (hn:n = (i:Int)) (hi:i < len) (ho:off + i * size = o) (k:K ⟨b,o,none⟩):IxS W H (some ⟨b,off,none⟩) len n size K :=
 IxS.lit hn hi (by rw [ho];exact k)
theorem Rd.vec {b off i j:Nat} {x:α} {v:Value} (hsz:Sized sz enc) (hv:VecAt W H t sz enc (some ⟨b,off,none⟩) cap xs) (hx:xs[i]? = some x) (hj:(enc x)[j]? = some v) :
  Rd W H ⟨b,off + i * sz + j,none⟩ v:=by
 intro w hs
 obtain ⟨R,hR⟩:=hv w hs
 cases hR with
 | nil ha=>cases ha
 | mk b' off' pre junk ha hp hl hjj hs =>
  cases ha
  have h:=Sized.get hsz xs i j x v hx hj
  have hlt:i * sz + j < (xs.flatMap enc).length:=by
   rcases Nat.lt_or_ge (i * sz + j) (xs.flatMap enc).length with h'|h'
   ·exact h'
   ·simp [List.getElem?_eq_none h'] at h
  refine Rd.pts ?_ w hs
  rw [List.append_assoc,List.getElem?_append_right (by omega),show off + i * sz + j - pre.length = i * sz + j by omega,List.getElem?_append_left hlt]
  exact h
theorem Rd.vec0 {b off i:Nat} {x:α} {v:Value} (hsz:Sized sz enc) (hv:VecAt W H t sz enc (some ⟨b,off,none⟩) cap xs) (hx:xs[i]? = some x) (hj:(enc x)[0]? = some v) :
  Rd W H ⟨b,off + i * sz,none⟩ v:=Rd.vec hsz hv hx hj
theorem RdL.vec {b off i:Nat} {x:α} (hsz:Sized sz enc) (hv:VecAt W H t sz enc (some ⟨b,off,none⟩) cap xs) (hx:xs[i]? = some x) :
  RdL W H b (off + i * sz) (enc x):=⟨fun _ _ h=>Rd.vec hsz hv hx h⟩

theorem flatMap_set (hsz:Sized sz enc):∀ (xs:List α) (i:Nat) (x:α),i < xs.length →
  (xs.set i x).flatMap enc = (xs.flatMap enc).take (i * sz) ++ enc x ++ (xs.flatMap enc).drop (i * sz + sz)
 | [],_,_,h=>by simp at h
 | y :: ys,0,x,_=>by
  simp only [List.set_cons_zero,List.flatMap_cons,Nat.zero_mul,List.take_zero,List.nil_append,Nat.zero_add]
  rw [List.drop_append_of_le_length (by rw [hsz y];omega),List.drop_eq_nil_of_le (by rw [hsz y];omega),List.nil_append]
 | y :: ys,i + 1,x,h=>by
  simp only [List.length_cons] at h
  have hy:=hsz y
  have e1:(i + 1) * sz = (enc y).length + i * sz:=by rw [hy,Nat.succ_mul];omega
  rw [List.set_cons_succ,List.flatMap_cons,flatMap_set hsz ys i x (by omega),List.flatMap_cons,e1,List.take_length_add_append,
   show (enc y).length + i * sz + sz = (enc y).length + (i * sz + sz) by omega,List.drop_length_add_append]
  simp
theorem St.vec {b off i j:Nat} {x y:α} {vs:List Value} {K:HProp → Prop} (hsz:Sized sz enc) (ht:Take H (SL.vec t sz enc (some ⟨b,off,none⟩) cap xs) R) (hx:xs[i]? = some x)
  (hy:enc y = (enc x).take j ++ vs ++ (enc x).drop (j + vs.length)) (hj:j + vs.length ≤ sz)
  (k:K (SL.vec t sz enc (some ⟨b,off,none⟩) cap (xs.set i y)•R)):St P W H ⟨b,off + i * sz + j,none⟩ vs K:=by
 refine ⟨fun w hs hone=>?_⟩
 rw [ht.eq] at hs
 cases hs.vec with
 | nil ha=>cases ha
 | mk b' off' pre junk ha hp hl hjj hs =>
  cases ha
  have hi:i < xs.length:=by
   rcases Nat.lt_or_ge i xs.length with h|h
   ·exact h
   ·simp [List.getElem?_eq_none h] at hx
  have hfl:=hsz.flat xs
  have him:(i + 1) * sz ≤ xs.length * sz:=Nat.mul_le_mul_right _ hi
  rw [Nat.succ_mul] at him
  have hxe:enc x = ((xs.flatMap enc).drop (i * sz)).take sz:=by
   have h1:=flatMap_set hsz xs i x hi
   have h2:xs.set i x = xs:=by
    apply List.ext_getElem?;intro m
    rw [List.getElem?_set]
    split
    ·rename_i e;subst e;exact hx.symm
    ·rfl
   rw [h2] at h1
   have h3:((xs.flatMap enc).drop (i * sz)).take sz = ((((xs.flatMap enc).take (i * sz) ++ enc x ++ (xs.flatMap enc).drop (i * sz + sz))).drop (i * sz)).take sz:=by rw [← h1]
   rw [h3,List.append_assoc,List.drop_left' (by rw [List.length_take];omega),List.take_left' (hsz x)]
  let flat:=pre ++ xs.flatMap enc ++ junk
  have hflat:flat.length = off + xs.length * sz + junk.length:=by simp [flat,hp,hfl];omega
  let flat':=pre ++ (xs.set i y).flatMap enc ++ junk
  have hst:=run_storeCells_at (P:=P) b (off + i * sz + j) t vs 0 ⟨flat⟩ w hs.at (by simp [hflat];omega) hone
  have hnew:(List.take (off + i * sz + j + 0) flat ++ vs ++ List.drop (off + i * sz + j + 0 + vs.length) flat) = flat':=by
   simp only [flat',flat,Nat.add_zero]
   rw [flatMap_set hsz xs i y hi,hy,hxe]
   generalize hF:xs.flatMap enc = F at *
   have e1:List.take (off + i * sz + j) (pre ++ F ++ junk) = pre ++ (F.take (i * sz) ++ ((F.drop (i * sz)).take sz).take j):=by
    rw [List.append_assoc,show off + i * sz + j = pre.length + (i * sz + j) by omega,List.take_length_add_append,List.take_append_of_le_length (by omega)]
    congr 1
    rw [List.take_take,Nat.min_eq_left (by omega),← List.take_add]
   have e2:List.drop (off + i * sz + j + vs.length) (pre ++ F ++ junk) = (((F.drop (i * sz)).take sz).drop (j + vs.length)) ++ F.drop (i * sz + sz) ++ junk:=by
    rw [List.append_assoc,show off + i * sz + j + vs.length = pre.length + (i * sz + (j + vs.length)) by omega,List.drop_length_add_append,List.drop_append_of_le_length (by omega)]
    congr 1
    rw [List.drop_take,List.drop_drop]
    have:=List.take_append_drop (sz - (j + vs.length)) (List.drop (i * sz + (j + vs.length)) F)
    rw [List.drop_drop,show i * sz + (j + vs.length) + (sz - (j + vs.length)) = i * sz + sz by omega] at this
    exact this.symm
   rw [e1,e2]
   simp [List.append_assoc]
  refine ⟨_,_,hst,?_,k⟩
  rw [hnew]
  have hset:=hs.set (.cells ⟨flat'⟩ t (0,0)) (w':=w.setRow b ⟨flat'⟩) ⟨rfl,rfl,rfl,by simp [World.setRow]⟩ (setRow_heap w b _ _ t (0,0) hs.at) fun m hm=>by simp [World.setRow,Array.getElem?_modify,Ne.symm hm]
  exact hset.mono (Ent.left (vec_some hp (by simpa using hl) (by simpa using hjj)))

def Src (P:Program) (W:World) (H:HProp) (v:Value) (m sz:Nat) (flat:List Value):Prop :=
 ∀ w,Sat W H w → (Builtin.firstCells sz m v).run P w = .ok ⟨flat⟩ w ∧ (Builtin.lenOf v).run P w = .ok m w
theorem Src.cells {b off m c:Nat} {flat:List Value} (h:RdL W H b off flat) (hl:flat.length = m * sz):Src P W H (.slice (some ⟨b,off,none⟩) m c) m sz flat:=by
 intro w hs
 refine ⟨?_,rfl⟩
 have:=run_loadCells_list (P:=P) (w:=w) ⟨b,off,none⟩ flat (fun j v hj=>by rw [Addr.add_eq];exact h.rd j v hj w hs)
 rw [hl] at this
 simpa [Builtin.firstCells] using this
theorem Src.nil {c:Nat}:Src P W H (.slice none 0 c) 0 sz []:=fun _ _=>⟨rfl,rfl⟩
theorem Src.vec {m c:Nat} (hsz:Sized sz enc) (h:VecAt W H t sz enc a c xs) (hm:m = xs.length):Src P W H (.slice a m c) m sz (xs.flatMap enc):=by
 intro w hs
 obtain ⟨R,hR⟩:=h w hs
 subst hm
 cases hR with
 | nil ha hc hx _=>subst ha hx hc;exact ⟨rfl,rfl⟩
 | mk b off pre junk ha hp hl hj hs' =>
  subst ha
  refine ⟨?_,rfl⟩
  have:=run_loadCells_list (P:=P) (w:=w) ⟨b,off,none⟩ (xs.flatMap enc) (fun j v hjv=>by
   rw [Addr.add_eq]
   have hlt:j < (xs.flatMap enc).length:=by
    rcases Nat.lt_or_ge j (xs.flatMap enc).length with h'|h'
    ·exact h'
    ·simp [List.getElem?_eq_none h'] at hjv
   refine Rd.pts ?_ w hs'
   rw [List.append_assoc,List.getElem?_append_right (by omega),show off + j - pre.length = j by omega,List.getElem?_append_left hlt]
   exact hjv)
  rw [hsz.flat] at this
  simpa [Builtin.firstCells] using this
theorem Src.string {s:ByteArray}:Src P W H (.string s) s.size 1 (s.data.toList.map fun b=>.int .u8 b.toNat):=by
 intro w _
 refine ⟨?_,rfl⟩
 simp only [Builtin.firstCells,ByteArray.extract_zero_size,Sem.run_pure]
 congr 1
 apply Array.ext'
 simp

theorem growBy_le (need:Nat) (h:256 ≤ need):∀ (rounds c:Nat),c < need → Builtin.growBy need rounds c ≤ 2 * need
 | 0,c,hc=>by simp [Builtin.growBy];omega
 | rounds + 1,c,hc=>by
  simp only [Builtin.growBy]
  rw [if_neg (by omega)]
  by_cases h':c + (c + 768) / 4 < need
  ·exact growBy_le need h rounds _ h'
  ·cases rounds with
   | zero=>simp [Builtin.growBy];omega
   | succ r=>simp only [Builtin.growBy];rw [if_pos (by omega)];omega
theorem nextslicecap_le (need cap:Nat) (h:cap < need):Builtin.nextslicecap need cap ≤ 2 * need:=by
 unfold Builtin.nextslicecap
 split
 ·omega
 ·split
  ·omega
  ·exact growBy_le need (by omega) 4 cap h

theorem run_zeroCells {z:List Value} (n:Nat):Builtin.zeroCells ⟨z⟩ n = ⟨(List.replicate n z).flatten⟩:=by
 unfold Builtin.zeroCells
 exact rep_eq z n

theorem OpX.appendI (hT:T.ok P) {st yt:TypeId} {s y:Operand} {ty:TypeId} {ev:Operand → Option Value} {K:Value → HProp → Prop} {Kp:List PanicEntry → HProp → Prop}
  {n m:Nat} {yv:Value} {ys:List α} {r1 r2 r3:TRow}
  (hsz:Sized sz enc) (hone:∀ ys:List α,∀ v ∈ ys.flatMap enc,v.oneCell' = true) (h1:T st = some r1) (h1':r1.und = .slice t) (h2:T t = some r2) (h2':r2.size = sz) (h2'':r2.cells.length = sz) (h3:T yt = some r3) (h3':∀ k,r3.und ≠ .int k)
  (hs:ev s = some (.slice a n cap)) (hn:n = xs.length) (hy:ev y = some yv) (hsrc:Src P W H yv m sz (ys.flatMap enc)) (hm:ys.length = m)
  (hi:Imp H (SL.vec t sz enc a cap xs•R)) (hb:2 * (n + m) * r2.bytes ≤ 281474976710656 ∧ n + m ≤ 9223372036854775807)
  (k:∀ a' cap',K (.slice a' (n + m) cap') (SL.vec t sz enc a' cap' (xs ++ ys)•R)) :
  OpX P W (.call ⟨.builtin .append,⟨[s,y]⟩,⟨[st,yt]⟩⟩) ty ev H K Kp:=by
 subst hn hm
 refine ⟨fun w ρ hw he o' ho hty=>?_⟩
 obtain ⟨dst,op,ty',pos,after,guard⟩:=o'
 simp only at ho hty
 subst ho hty
 have hu1:=(hT _ _ h1).und
 rw [h1'] at hu1
 have hu3:=(hT _ _ h3).und
 have hsize:(sizeOf t).run P w = .ok sz w:=by rw [TRow.size_run (hT _ _ h2),h2']
 obtain ⟨z,hz,hzc⟩:=TRow.zero_run (w:=w) (hT _ _ h2)
 obtain ⟨i2,hi2,_,hbytes,_⟩:=(hT _ _ h2).info
 obtain ⟨hfirst,hlen⟩:=hsrc w hw
 have hnoint:(match r3.und with|TypeDesc.int _=>true|_=>false) = false:=by
  cases hr:r3.und <;> first|rfl|exact absurd hr (h3' _)
 have hfl:=hsz.flat xs
 have hfy:=hsz.flat ys
 have hfa:∀ zs:List α,(xs ++ zs).flatMap enc = xs.flatMap enc ++ zs.flatMap enc:=fun zs=>by simp
 have hw0:=hw
 replace hw:=hw0.imp hi
 by_cases hroom:xs.length + ys.length ≤ cap
 ·cases hw.vec with
  | nil ha hc hx hs' =>
   have hy0:ys = []:=by cases ys with|nil=>rfl|cons=>simp at hroom;omega
   subst hx hy0 ha hc
   refine ⟨.value (.slice none 0 0),w,_,?_,?_,k none 0⟩
   ·simp only [List.flatMap_nil,List.length_nil] at hfirst
    simp [execOp,resolve,invoke,builtin,Builtin.append_,he _ _ hs,he _ _ hy,hu1,hu3,hsize,run_underlying,hlen,hfirst]
   ·have:=vec_nil (t:=t) (sz:=sz) (enc:=enc) (α:=α)
    have h4:Sat W (emp•R) w:=by rw [emp_star];exact hs'
    exact h4.mono (Ent.left this)
  | mk b off pre junk ha hp hl hj hs' =>
   subst ha
   have hmul:(xs.length + ys.length) * sz ≤ cap * sz:=Nat.mul_le_mul_right _ hroom
   rw [Nat.add_mul] at hmul
   have hjl:cap * sz - xs.length * sz ≤ junk.length:=by rw [← Nat.sub_mul];exact hj
   let flat:=pre ++ xs.flatMap enc ++ junk
   have hflat:flat.length = off + xs.length * sz + junk.length:=by simp [flat,hp,hfl];omega
   have hst:=run_storeCells_at (P:=P) b (off + xs.length * sz) t (ys.flatMap enc) 0 ⟨flat⟩ w hs'.at (by simp [hflat,hfy];omega) (hone ys)
   let flat':=pre ++ (xs ++ ys).flatMap enc ++ junk.drop (ys.length * sz)
   have hnew:(List.take (off + xs.length * sz + 0) flat ++ ys.flatMap enc ++ List.drop (off + xs.length * sz + 0 + (ys.flatMap enc).length) flat) = flat':=by
    simp only [flat',flat,Nat.add_zero,hfa,hfy]
    have e1:List.take (off + xs.length * sz) (pre ++ xs.flatMap enc ++ junk) = pre ++ xs.flatMap enc:=by
     rw [List.take_append_of_le_length (by simp [hp,hfl])]
     exact List.take_of_length_le (by simp [hp,hfl])
    have e2:List.drop (off + xs.length * sz + ys.length * sz) (pre ++ xs.flatMap enc ++ junk) = junk.drop (ys.length * sz):=by
     rw [← List.drop_drop,List.drop_left' (by simp [hp,hfl])]
    rw [e1,e2];simp [List.append_assoc]
   rw [hnew] at hst
   refine ⟨.value (.slice (some ⟨b,off,none⟩) (xs.length + ys.length) cap),w.setRow b ⟨flat'⟩,_,?_,?_,k (some ⟨b,off,none⟩) cap⟩
   ·have hadd:(⟨b,off,none⟩:Addr).add (xs.length * sz) = ⟨b,off + xs.length * sz,none⟩:=Addr.add_eq _ _ _
    simp [execOp,resolve,invoke,builtin,Builtin.append_,he _ _ hs,he _ _ hy,hu1,hu3,hsize,run_underlying,hlen,hfirst,hroom,hadd,hst]
   ·have hset:=hs'.set (.cells ⟨flat'⟩ t (0,0)) (w':=w.setRow b ⟨flat'⟩) ⟨rfl,rfl,rfl,by simp [World.setRow]⟩ (setRow_heap w b _ _ t (0,0) hs'.at) fun m hm=>by simp [World.setRow,Array.getElem?_modify,Ne.symm hm]
    exact hset.mono (Ent.left (vec_some hp (by simpa using hroom) (by simp only [List.length_drop,List.length_append,Nat.sub_mul,Nat.add_mul];omega)))
 ·have hcap:=nextslicecap_le (xs.length + ys.length) cap (by omega)
  have hbig:¬ 281474976710656 < Builtin.nextslicecap (xs.length + ys.length) cap * r2.bytes:=by
   have:=Nat.mul_le_mul_right r2.bytes hcap
   omega
  have hold:(Builtin.firstCells sz xs.length (.slice a xs.length cap)).run P w = .ok ⟨xs.flatMap enc⟩ w:=(Src.vec (P:=P) (H:=SL.vec t sz enc a cap xs•R) hsz VecAt.here rfl w hw).1
  have hne:¬ cap = xs.length + ys.length:=by omega
  let q:Question:=.appendCap (xs.length + ys.length) cap t
  let nc:=q.cut (w.tape w.drawn q)
  have hnc:xs.length + ys.length ≤ nc:=by simp only [nc,q,Question.cut];omega
  let w1:World:=w.drew
  have hs1:Sat W R w1:=hw.right.same ⟨rfl,rfl,rfl,Nat.le_refl _⟩ rfl
  let flat:=(xs ++ ys).flatMap enc ++ (List.replicate (nc - (xs.length + ys.length)) r2.cells).flatten
  have hold1:(Builtin.firstCells sz xs.length (.slice a xs.length cap)).run P w1 = .ok ⟨xs.flatMap enc⟩ w1:=(Src.vec (P:=P) (H:=SL.vec t sz enc a cap xs•R) hsz VecAt.here rfl w1 (hw.same ⟨rfl,rfl,rfl,Nat.le_refl _⟩ rfl)).1
  have hfirst1:(Builtin.firstCells sz ys.length yv).run P w1 = .ok ⟨ys.flatMap enc⟩ w1:=(hsrc w1 (hw0.same ⟨rfl,rfl,rfl,Nat.le_refl _⟩ rfl)).1
  obtain ⟨z1,hz1,hzc1⟩:=TRow.zero_run (w:=w1) (hT _ _ h2)
  refine ⟨.value (.slice (some ⟨w1.heap.size,0,none⟩) (xs.length + ys.length) nc),{ w1 with heap:=w1.heap.push (.cells ⟨flat⟩ t (0,0)) },_,?_,?_,k _ nc⟩
  ·have hni:¬ (9223372036854775807 < (xs.length:Int) + ys.length):=by omega
   have hold2:(Builtin.firstCells sz xs.length (.slice a xs.length cap)).run P w.drew = .ok ⟨xs.flatMap enc⟩ w.drew:=hold1
   have hfirst2:(Builtin.firstCells sz ys.length yv).run P w.drew = .ok ⟨ys.flatMap enc⟩ w.drew:=hfirst1
   have hz2:(zeroValue t).run P w.drew = .ok z1 w.drew:=hz1
   simp [execOp,resolve,invoke,builtin,Builtin.append_,he _ _ hs,he _ _ hy,hu1,hu3,hsize,run_underlying,hlen,hroom,typeInfo,hi2,hbytes,hni,hbig,Question.forced,hold2,hfirst2,hz2,newRow,hzc1,run_zeroCells]
   exact ⟨⟨rfl,rfl⟩,by simp only [flat,hfa,List.append_assoc];rfl⟩
  ·have:=(hs1.alloc (.cells ⟨flat⟩ t (0,0)))
   refine this.mono (Ent.left ?_)
   have h5:=vec_some (t:=t) (sz:=sz) (enc:=enc) (b:=w1.heap.size) (off:=0) (pre:=[]) (xs:=xs ++ ys) (cap:=nc) (junk:=(List.replicate (nc - (xs.length + ys.length)) r2.cells).flatten) rfl (by simpa using hnc) (Nat.le_of_eq (Eq.symm (by simp [h2''])))
   simpa [flat] using h5
theorem OpX.append (hT:T.ok P) {st yt:TypeId} {s y:Operand} {ty:TypeId} {ev:Operand → Option Value} {K:Value → HProp → Prop} {Kp:List PanicEntry → HProp → Prop}
  {n m:Nat} {yv:Value} {ys:List α} {r1 r2 r3:TRow}
  (hsz:Sized sz enc) (hone:∀ ys:List α,∀ v ∈ ys.flatMap enc,v.oneCell' = true) (h1:T st = some r1) (h1':r1.und = .slice t) (h2:T t = some r2) (h2':r2.size = sz) (h2'':r2.cells.length = sz) (h3:T yt = some r3) (h3':∀ k,r3.und ≠ .int k)
  (hs:ev s = some (.slice a n cap)) (hn:n = xs.length) (hy:ev y = some yv) (hsrc:Src P W H yv m sz (ys.flatMap enc)) (hm:ys.length = m)
  (ht:Take H (SL.vec t sz enc a cap xs) R) (hb:2 * (n + m) * r2.bytes ≤ 281474976710656 ∧ n + m ≤ 9223372036854775807)
  (k:∀ a' cap',K (.slice a' (n + m) cap') (SL.vec t sz enc a' cap' (xs ++ ys)•R)) :
  OpX P W (.call ⟨.builtin .append,⟨[s,y]⟩,⟨[st,yt]⟩⟩) ty ev H K Kp :=
 OpX.appendI hT hsz hone h1 h1' h2 h2' h2'' h3 h3' hs hn hy hsrc hm (by rw [ht.eq];exact Imp.refl _) hb k
end
end Go.SL
/- The rules once more, their side conditions found by instances. No condition. -/
namespace Go.SL
open Go

class LAt (l:List Value) (off:Nat) (v:outParam Value):Prop where h:l[off]? = some v
instance LAt.zero {x:Value} {l:List Value}:LAt (x :: l) 0 x:=⟨rfl⟩
instance LAt.succ {x v:Value} {l:List Value} {n:Nat} [i:LAt l n v]:LAt (x :: l) (n + 1) v:=⟨by simpa using i.h⟩
class LTake (l:List Value) (n:Nat) (vs:outParam (List Value)):Prop where h:l.take n = vs ∧ vs.length = n
instance LTake.zero {l:List Value}:LTake l 0 []:=⟨rfl,rfl⟩
instance LTake.succ {x:Value} {l vs:List Value} {n:Nat} [i:LTake l n vs]:LTake (x :: l) (n + 1) (x :: vs):=⟨by simp [i.h.1],by simp [i.h.2]⟩
class LSub (l:List Value) (off n:Nat) (vs:outParam (List Value)):Prop where h:(l.drop off).take n = vs ∧ vs.length = n
instance LSub.zero {l vs:List Value} {n:Nat} [i:LTake l n vs]:LSub l 0 n vs:=⟨i.h⟩
instance LSub.succ {x:Value} {l vs:List Value} {off n:Nat} [i:LSub l off n vs]:LSub (x :: l) (off + 1) n vs:=⟨by simpa using i.h⟩

class RdC (W:World) (H:HProp) (a:Addr) (v:outParam Value):Prop where h:Rd W H a v
section
variable {P:Program} {W:World} {T:Tab} {H R X:HProp} {b off:Nat} {l:List Value} {t:TypeId} {fz:Nat × Nat} {v:Value} {a:Addr}
instance (priority:=90) RdC.there [i:RdC W R a v]:RdC W (X•R) a v:=⟨i.h.there⟩
instance (priority:=100) RdC.here [i:LAt l off v]:RdC W (pts b (.cells ⟨l⟩ t fz)•R) ⟨b,off,none⟩ v:=⟨Rd.pts i.h⟩
instance RdC.last [i:LAt l off v]:RdC W (pts b (.cells ⟨l⟩ t fz)) ⟨b,off,none⟩ v:=⟨Rd.last i.h⟩
theorem Ld.i {K:Value → Prop} [i:RdC W H a v] (k:K v):Ld W H a K:=⟨v,i.h,k⟩

class RdLC (W:World) (H:HProp) (b off n:Nat) (vs:outParam (List Value)):Prop where h:RdL W H b off vs ∧ vs.length = n
instance (priority:=90) RdLC.there {n:Nat} {vs:List Value} [i:RdLC W R b off n vs]:RdLC W (X•R) b off n vs:=⟨i.h.1.there,i.h.2⟩
instance (priority:=100) RdLC.here {n:Nat} {vs:List Value} [i:LSub l off n vs]:RdLC W (pts b (.cells ⟨l⟩ t fz)•R) b off n vs:=⟨RdL.pts (n:=n) i.h.1,i.h.2⟩
theorem LdN.i {n:Nat} {K:Value → Prop} {vs:List Value} [i:RdLC W H b off n vs] (k:K (.agg ⟨vs⟩)):LdN W H ⟨b,off,none⟩ n K:=LdN.cells i.h.1 i.h.2 k

class PtsC (H:HProp) (b:Nat) (o:outParam Obj) (R:outParam HProp):Prop where h:Take H (pts b o) R
instance (priority:=90) PtsC.there {o:Obj} [i:PtsC H b o R]:PtsC (X•H) b o (X•R):=⟨i.h.there⟩
instance (priority:=100) PtsC.here {o:Obj}:PtsC (pts b o•R) b o R:=⟨.here⟩
instance PtsC.last {o:Obj}:PtsC (pts b o) b o emp:=⟨.last⟩
theorem St.i {vs:List Value} {n:Nat} {K:HProp → Prop} [i:PtsC H b (.cells ⟨l⟩ t (0,0)) R] (hv:vs.length = n ∧ vs.all (·.oneCell') = true) (hne:vs ≠ [])
  (h:setL l off vs fun l'=>K (pts b (.cells ⟨l'⟩ t (0,0))•R)):Req (vs.length = n ∧ vs.all (·.oneCell') = true) (St P W H ⟨b,off,none⟩ vs K):=⟨hv,St.lit i.h hne h⟩

class MapC (H:HProp) (r:Nat) (kk:outParam IntKind) (l:outParam (List (Int × Value))) (R:outParam HProp):Prop where h:Take H (mapc r kk l) R
instance (priority:=90) MapC.there {r:Nat} {kk:IntKind} {l:List (Int × Value)} [i:MapC H r kk l R]:MapC (X•H) r kk l (X•R):=⟨i.h.there⟩
instance (priority:=100) MapC.here {r:Nat} {kk:IntKind} {l:List (Int × Value)}:MapC (mapc r kk l•R) r kk l R:=⟨.here⟩
instance MapC.last {r:Nat} {kk:IntKind} {l:List (Int × Value)}:MapC (mapc r kk l) r kk l emp:=⟨.last⟩
theorem MapC.at' {r:Nat} {kk:IntKind} {l:List (Int × Value)} (i:MapC H r kk l R):MapAt W H r kk l:=by
 have:=i.h.eq;subst this;exact MapAt.here

theorem zero_ex (hT:T.ok P) {t:TypeId} {r:TRow} (hr:T t = some r):∃ z,∀ w,(zeroValue t).run P w = .ok z w:=by
 obtain ⟨i,hi,_,_,hz,_⟩:=(hT _ _ hr).info
 exact ⟨_,fun w=>by simp [zeroValue,typeInfo,hi,hz];rfl⟩

theorem OpQ.lk (hT:T.ok P) {t kt et:TypeId} {k0 kk:IntKind} {m key:Operand} {ty:TypeId} {ev:Operand → Option Value} {K:Value → Prop} {r:Nat} {k:Int} {l:List (Int × Value)} {c1 c2:List Value} {a1 a2:Bool} {s1 s2 b1 b2:Nat} {r3:TRow}
  [i:MapC H r kk l R] (h1:T t = some ⟨.map kt et,c1,a1,s1,b1⟩) (h2:T kt = some ⟨.int k0,c2,a2,s2,b2⟩) (h3:T et = some r3)
  (hm:ev m = some (.map (some r))) (hk:ev key = some (.int kk k))
  (yes:∀ v,l.lookup k = some v → K v) (no:l.lookup k = none → zK r3 K):OpQ P W (.lookup t m key false) ty ev H K:=by
 cases hl:l.lookup k with
 | none =>
  obtain ⟨z,hz,hz'⟩:=zK_elim hT h3 (no hl)
  exact OpQ.lookup hT h1 rfl h2 rfl hz hm hk i.at' yes fun _=>hz'
 | some v =>
  obtain ⟨z,hz⟩:=zero_ex hT h3
  exact OpQ.lookup hT h1 rfl h2 rfl hz hm hk i.at' yes fun e=>by rw [hl] at e;cases e
theorem OpQ.lk2 (hT:T.ok P) {t kt et:TypeId} {k0 kk:IntKind} {m key:Operand} {ty:TypeId} {ev:Operand → Option Value} {K:Value → Prop} {r:Nat} {k:Int} {l:List (Int × Value)} {c1 c2:List Value} {a1 a2:Bool} {s1 s2 b1 b2:Nat} {r3:TRow}
  [i:MapC H r kk l R] (h1:T t = some ⟨.map kt et,c1,a1,s1,b1⟩) (h2:T kt = some ⟨.int k0,c2,a2,s2,b2⟩) (h3:T et = some r3)
  (hm:ev m = some (.map (some r))) (hk:ev key = some (.int kk k))
  (yes:∀ v,l.lookup k = some v → K (.tuple ⟨[v,.bool true]⟩)) (no:l.lookup k = none → zK r3 fun z=>K (.tuple ⟨[z,.bool false]⟩)):OpQ P W (.lookup t m key true) ty ev H K:=by
 cases hl:l.lookup k with
 | none =>
  obtain ⟨z,hz,hz'⟩:=zK_elim hT h3 (no hl)
  exact OpQ.lookup_ok hT h1 rfl h2 rfl hz hm hk i.at' yes fun _=>hz'
 | some v =>
  obtain ⟨z,hz⟩:=zero_ex hT h3
  exact OpQ.lookup_ok hT h1 rfl h2 rfl hz hm hk i.at' yes fun e=>by rw [hl] at e;cases e
theorem OpQ.lm (hT:T.ok P) {t kt et:TypeId} {x:Operand} {ty:TypeId} {ev:Operand → Option Value} {K:Value → Prop} {r:Nat} {kk:IntKind} {l:List (Int × Value)} {c1:List Value} {a1:Bool} {s1 b1:Nat}
  [i:MapC H r kk l R] (h1:T t = some ⟨.map kt et,c1,a1,s1,b1⟩) (hm:ev x = some (.map (some r))) (k:K (.int .i64 l.length)) :
  OpQ P W (.call ⟨.builtin .len,⟨[x]⟩,⟨[t]⟩⟩) ty ev H K:=OpQ.len_map hT h1 rfl hm i.at' k
theorem OpX.up (hT:T.ok P) {t kt et:TypeId} {k0 kk:IntKind} {m key x:Operand} {ty:TypeId} {ev:Operand → Option Value} {K:Value → HProp → Prop} {Kp:List PanicEntry → HProp → Prop}
  {r:Nat} {k:Int} {v:Value} {l:List (Int × Value)} {c1 c2:List Value} {a1 a2:Bool} {s1 s2 b1 b2:Nat}
  [i:MapC H r kk l R] (h1:T t = some ⟨.map kt et,c1,a1,s1,b1⟩) (h2:T kt = some ⟨.int k0,c2,a2,s2,b2⟩)
  (hm:ev m = some (.map (some r))) (hk:ev key = some (.int kk k)) (hv:ev x = some v)
  (hK:K undef (mapc r kk (updKV k v l)•R)):OpX P W (.mapUpdate t m key x) ty ev H K Kp:=OpX.update hT h1 rfl h2 rfl hm hk hv i.h hK
class TkC (H Y:HProp) (R:outParam HProp):Prop where h:Take H Y R
instance (priority:=90) TkC.there {Y:HProp} [i:TkC H Y R]:TkC (X•H) Y (X•R):=⟨i.h.there⟩
instance (priority:=100) TkC.here {Y:HProp}:TkC (Y•R) Y R:=⟨.here⟩
instance (priority:=80) TkC.assoc {A B Y:HProp} [i:TkC (A•B•H) Y R]:TkC ((A•B)•H) Y R:=⟨by rw [star_assoc];exact i.h⟩
instance TkC.last {Y:HProp}:TkC Y Y emp:=⟨.last⟩
theorem Imp.pick {Y G:HProp} [i:TkC H Y R] (h:Imp R G):Imp H (Y•G):=by rw [i.h.eq];exact Imp.right h
theorem Imp.fin {Y:HProp} [i:TkC H Y R]:Imp H Y:=by rw [i.h.eq];exact Imp.drop_r
theorem Imp.assoc {A B C:HProp} (h:Imp H (A•B•C)):Imp H ((A•B)•C):=by rw [star_assoc];exact h
theorem Imp.empi {G:HProp} (h:Imp H G):Imp H (SL.emp•G):=by rw [emp_star];exact h
theorem spl_t {b:Bool} {p q:Prop} (h:b = true) (k:p):spl b p q:=by subst h;exact k
theorem spl_f {b:Bool} {p q:Prop} (h:b = false) (k:q):spl b p q:=by subst h;exact k
end
end Go.SL
