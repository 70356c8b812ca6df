/- Walking with less text: loops off the frame at hand, loops of a few rounds, rows that are read wherever they lie. No condition. -/
import Derived.Test.YtbcedpankkdfoaaGreatDoorPart5
import Derived.LoopNIn
import Derived.Shelf.SlIterI.Nil
import Derived.Shelf.SortM.Plain
import Derived.Shelf.SortM.SortNone
set_option linter.unusedVariables false
set_option linter.unusedSimpArgs false
namespace Go.SL
open Go
section
variable {P:Program} {W:World} {T:Tab} {N:Nat} {H R X:HProp}
theorem Sub.of {A:HProp} (h:Imp H A):Sub W H A:=fun _ hs=>hs.imp h
theorem Sub.on {A:HProp} {K:Prop} (h:Imp H A) (k:K):Req (Sub W H A) K:=⟨Sub.of h,k⟩
theorem Sub.emp:Sub W H emp:=Sub.of (Imp.emp _)
theorem Does.post {f:FuncId} {args:Array Value} {Q Q':Ending → HProp → Prop} (h:Does P W f args H Q) (k:∀ e w H',Sat W H' w → Q e H' → ∃ H'',Sat W H'' w ∧ Q' e H'') :
  Does P W f args H Q':=⟨fun w hs=>(h.run w hs).mono fun e w' ⟨H',h1,h2⟩=>k e w' H' h1 h2⟩
theorem Does.have {p:Prop} {f:FuncId} {args:Array Value} {Q:Ending → HProp → Prop} (h:∀ w,Sat W H w → p) (k:p → Does P W f args H Q):Does P W f args H Q:=⟨fun w hs=>(k (h w hs)).run w hs⟩
def Fr.inn (fr':Fr):Fr → Prop
 | []=>True
 | (k,v) :: r=>fr'.get k = some v ∧ Fr.inn fr' r
theorem Fr.inn_sub {fr':Fr}:∀ {fr:Fr},Fr.inn fr' fr → ∀ t v,fr.get t = some v → fr'.get t = some v
 | [],_,_,_,h=>by cases h
 | (k,u) :: fr,h,t,v,ht=>by
  rw [Fr.get_cons] at ht
  split at ht
  ·rename_i e;subst e;cases ht;exact h.1
  ·exact Fr.inn_sub h.2 t v ht

def setF (k:Nat) (v:Value):Fr → Fr
 | []=>[(k,v)]
 | (j,u) :: fr=>match Nat.beq j k with
  | true=>(k,v) :: fr
  | false=>(j,u) :: setF k v fr
def putF:List (Nat × Value) → Fr → Fr
 | [],fr=>fr
 | (k,v) :: l,fr=>setF k v (putF l fr)
theorem LoopK.at (hT:T.ok P) {L:Nat → Option (List Nat)} {c:Code} {fr:Fr} {ds:List Deferred} {Q:PostC}
  {ι:Type} (I:ι → Prop) (sl:ι → List (Nat × Value)) (A:ι → HProp) {R:HProp} (μ:ι → Nat) (i:ι) (hI:I i) (hF:∀ t v,(putF (sl i) fr).get t = some v → fr.get t = some v) (hH:Imp H (A i•R))
  (round:∀ i,I i → exec P W T N L c (fun e fr' ds' H'=>match e with
   | .normal=>ds' = ds ∧ ∃ j,I j ∧ (∀ t v,(putF (sl j) fr).get t = some v → fr'.get t = some v) ∧ Imp H' (A j•R) ∧ μ j < μ i
   | e=>Q e fr' ds' H') (putF (sl i) fr) ds (A i•R)):LoopK P W N c fr ds H Q :=
 LoopK.intro hT I (fun j=>putF (sl j) fr) (fun j=>A j•R) μ i hI hF hH round

theorem LoopK.keep (hT:T.ok P) {L:Nat → Option (List Nat)} {c:Code} {fr:Fr} {ds:List Deferred} {Q:PostC}
  {ι:Type} (I:ι → Prop) (sl:ι → List (Nat × Value)) (μ:ι → Nat) (i:ι) (hI:I i) (hF:∀ t v,(putF (sl i) fr).get t = some v → fr.get t = some v)
  (round:∀ i,I i → exec P W T N L c (fun e fr' ds' H'=>match e with
   | .normal=>ds' = ds ∧ ∃ j,I j ∧ (∀ t v,(putF (sl j) fr).get t = some v → fr'.get t = some v) ∧ Imp H' H ∧ μ j < μ i
   | e=>Q e fr' ds' H') (putF (sl i) fr) ds H):LoopK P W N c fr ds H Q :=
 LoopK.intro hT I (fun j=>putF (sl j) fr) (fun _=>H) μ i hI hF (Imp.refl _) round

def roundsK (P:Program) (W:World) (T:Tab) (N:Nat) (L:Nat → Option (List Nat)) (c:Code) (Q:PostC):Nat → Fr → List Deferred → HProp → Prop
 | 0,_,_,_=>False
 | n + 1,fr,ds,H=>exec P W T N L c (fun e fr' ds' H'=>match e with
  | .normal=>roundsK P W T N L c Q n fr' ds' H'
  | e=>Q e fr' ds' H') fr ds H
theorem LoopK.rounds (hT:T.ok P) {L:Nat → Option (List Nat)} {c:Code} {fr:Fr} {ds:List Deferred} {Q:PostC} (n:Nat) (h:roundsK P W T N L c Q n fr ds H):LoopK P W N c fr ds H Q:=by
 refine ⟨fun ρ a w hpl h1 h2 h3 h4=>wpIn_loop_rounds n ?_⟩
 induction n generalizing fr ds H a w with
 | zero=>exact h.elim
 | succ n ih =>
  refine wpIn_mono (exec_sound hT L _ _ _ _ _ h ρ a w hpl h1 h2 h3 h4) ?_
  rintro e a' w' ⟨fr',H',g1,g2,g3,g4⟩
  cases e with
  | normal=>exact ih g4 a' w' g1 g2 rfl g3
  | _=>exact ⟨fr',H',g1,g2,g3,g4⟩

theorem nbeq_self {α:Type} [BEq α] [ReflBEq α] (x:α):(!(x == x)) = false:=by simp
theorem beq_self {α:Type} [BEq α] [ReflBEq α] (x:α):(x == x) = true:=by simp
theorem ndec_self {α:Type} (x:α) [d:Decidable (x = x)]:(!decide (x = x)) = false:=by simp
theorem spl_dec {p:Prop} [d:Decidable p] {A B:Prop} (h1:p → A) (h2:¬ p → B):spl (decide p) A B:=by
 by_cases h:p
 ·rw [decide_eq_true h];exact h1 h
 ·rw [decide_eq_false h];exact h2 h
theorem spl_ndec {p:Prop} [d:Decidable p] {A B:Prop} (h1:¬ p → A) (h2:p → B):spl (!decide p) A B:=by
 by_cases h:p
 ·rw [decide_eq_true h];exact h2 h
 ·rw [decide_eq_false h];exact h1 h

theorem drop_of {α:Type} {xs:List α} {i:Nat} {x:α} (h:xs[i]? = some x):xs.drop i = x :: xs.drop (i + 1):=by
 obtain ⟨h1,h2⟩:=List.getElem?_eq_some_iff.1 h
 rw [← h2];exact List.drop_eq_getElem_cons h1
theorem drop_all {α:Type} {xs:List α} {i:Nat} (h:¬ i < xs.length):xs.drop i = []:=List.drop_eq_nil_of_le (by omega)

/-! ### Rows that are read -/
class RowC {α:outParam Type} (W:World) (H:HProp) (a:Option Addr) (sz:outParam Nat) (enc:outParam (α → List Value)) (xs:outParam (List α)):Prop where
 h:∀ w,Sat W H w → ∀ i x,xs[i]? = some x → ∃ b off,a = some ⟨b,off,none⟩ ∧ ∀ j v,(enc x)[j]? = some v → Rd W H ⟨b,off + i * sz + j,none⟩ v
variable {α:Type} {sz:Nat} {enc:α → List Value} {a:Option Addr} {xs:List α}
instance (priority:=90) RowC.there [c:RowC W R a sz enc xs]:RowC W (X•R) a sz enc xs:=⟨fun w hs i x hx=>by
 obtain ⟨b,off,ha,h⟩:=c.h w hs.right i x hx
 exact ⟨b,off,ha,fun j v hj=>(h j v hj).there⟩⟩
theorem RowC.vec {t:TypeId} {cap:Nat} (hsz:Sized sz enc) (hv:VecAt W H t sz enc a cap xs):RowC W H a sz enc xs:=⟨fun w hs i x hx=>by
 obtain ⟨R,hR⟩:=hv w hs
 cases hR with
 | nil ha hc hx' _=>subst hx';simp at hx
 | mk b off pre junk ha hp hl hj _ =>
  subst ha
  exact ⟨b,off,rfl,fun j v hj=>Rd.vec hsz hv hx hj⟩⟩
instance (priority:=100) RowC.here {t:TypeId} {cap:Nat} [s:SizedC sz enc]:RowC W (SL.vec t sz enc a cap xs•R) a sz enc xs:=RowC.vec s.h VecAt.here
instance (priority:=80) RowC.left [c:RowC W X a sz enc xs]:RowC W (X•R) a sz enc xs:=⟨fun w hs i x hx=>by
 obtain ⟨b,off,ha,h⟩:=c.h w hs.left i x hx
 exact ⟨b,off,ha,fun j v hj=>(h j v hj).left⟩⟩
theorem RowC.pts {b:Nat} {l:List Value} {t:TypeId} {fz:Nat × Nat} (hsz:Sized sz enc) (xs:List α) (h:l = xs.flatMap enc):RowC W (SL.pts b (.cells ⟨l⟩ t fz)•R) (some ⟨b,0,none⟩) sz enc xs:=⟨fun w hs i x hx=>by
 subst h
 exact ⟨b,0,rfl,fun j v hj=>by rw [Nat.zero_add];exact Rd.pts (hsz.get _ _ _ _ _ hx hj)⟩⟩
theorem RowC.nil:RowC W H none sz enc []:=⟨fun w hs i x hx=>by simp at hx⟩
class OldR {α:outParam Type} (W:World) (sz:outParam Nat) (enc:outParam (α → List Value)) (a:Option Addr) (xs:outParam (List α)):Prop where
 at':∀ i x,xs[i]? = some x → ∃ b off,a = some ⟨b,off,none⟩ ∧ ∀ j v,(enc x)[j]? = some v → W.cell? ⟨b,off + i * sz + j,none⟩ = some v
theorem OldVec.r {len cap:Nat} (h:OldVec W sz enc a len cap xs):OldR W sz enc a xs:=⟨h.at'⟩
instance (priority:=100) RowC.old [o:OldR W sz enc a xs]:RowC W (old W•R) a sz enc xs:=⟨fun w hs i x hx=>by
 obtain ⟨b,off,ha,h⟩:=o.at' i x hx
 exact ⟨b,off,ha,fun j v hj=>rd_old _ _ (h j v hj)⟩⟩
class LitL (l:List Value) (l':outParam (List Value)):Prop where h:l = l'
instance (priority:=10) LitL.same {l:List Value}:LitL l l:=⟨rfl⟩
theorem IxS.r {len i size:Nat} {n:Int} {K:Addr → Prop} [c:RowC W H a sz enc xs] (hn:n = (i:Int)) (hlen:len = xs.length) (hi:i < xs.length)
  (k:∀ b off,a = some ⟨b,off,none⟩ → K ⟨b,off + i * size,none⟩):IxS W H a len n size K:=by
 subst hn
 refine ⟨fun w hs=>?_⟩
 obtain ⟨b,off,rfl,_⟩:=c.h w hs i _ (List.getElem?_eq_getElem hi)
 exact ⟨_,rfl,by omega,by omega,by rw [show ((i:Int)).toNat = i by simp,Addr.add_eq];exact k b off rfl⟩
theorem Ld.r0 {b off i:Nat} {x:α} {v:Value} {K:Value → Prop} [c:RowC W H (some ⟨b,off,none⟩) sz enc xs] (hx:xs[i]? = some x) (hj:(enc x)[0]? = some v) (k:K v) :
  Ld W H ⟨b,off + i * sz,none⟩ K:=Ld.intro (fun w hs=>by
 obtain ⟨b',off',hb,h⟩:=c.h w hs i x hx
 cases hb
 exact h 0 v hj w hs) k
theorem Ld.r {b off i j:Nat} {x:α} {v:Value} {K:Value → Prop} [c:RowC W H (some ⟨b,off,none⟩) sz enc xs] (hx:xs[i]? = some x) (hj:(enc x)[j]? = some v) (k:K v) :
  Ld W H ⟨b,off + i * sz + j,none⟩ K:=Ld.intro (fun w hs=>by
 obtain ⟨b',off',hb,h⟩:=c.h w hs i x hx
 cases hb
 exact h j v hj w hs) k
theorem LdN.r {b off i n:Nat} {x:α} {l:List Value} {K:Value → Prop} [c:RowC W H (some ⟨b,off,none⟩) sz enc xs] [li:LitL (enc x) l] (hx:xs[i]? = some x) (hn:l.length = n) (k:K (.agg ⟨l⟩)) :
  LdN W H ⟨b,off + i * sz,none⟩ n K:=by
 have hl:=li.h
 subst hl
 exact ⟨_,hn,fun j v hj w hs=>by
  obtain ⟨b',off',hb,h⟩:=c.h w hs i x hx
  cases hb
  rw [Addr.add_eq]
  exact h j v hj w hs,k⟩
def natK:Nat → (Nat → Prop) → Prop
 | 0,K=>K 0
 | n + 1,K=>natK n fun m=>K (m + 1)
theorem natK_elim {n:Nat} {K:Nat → Prop} (h:natK n K):K n:=by
 induction n generalizing K with
 | zero=>exact h
 | succ n ih=>exact ih h
theorem IxS.at {len size b off:Nat} {n:Int} {K:Addr → Prop} (hn:0 ≤ n ∧ n < len) (k:natK (off + n.toNat * size) fun j=>K ⟨b,j,none⟩):IxS W H (some ⟨b,off,none⟩) len n size K :=
 ⟨fun _ _=>⟨_,rfl,hn.1,hn.2,by rw [Addr.add_eq];exact natK_elim k⟩⟩
theorem Imp.vnil {t:TypeId} {G:HProp} (h:Imp H G):Imp H (SL.vec t sz enc none 0 ([]:List α)•G):=by
 have h1:=(vec_nil (t:=t) (sz:=sz) (enc:=enc)).imp.left (Q:=G)
 rw [emp_star] at h1
 exact h.trans h1
theorem RowC.take (n:Nat) (c:RowC W H a sz enc xs):RowC W H a sz enc (xs.take n):=⟨fun w hs i x hx=>c.h w hs i x (by
 rw [List.getElem?_take] at hx
 split at hx
 ·exact hx
 ·cases hx)⟩
theorem RowC.src [c:RowC W H a sz enc xs] {n cap:Nat} (hsz:Sized sz enc) (hn:n = xs.length):Src P W H (.slice a n cap) n sz (xs.flatMap enc):=by
 subst hn
 intro w hs
 by_cases hx:xs = []
 ·subst hx
  cases a with
  | none=>exact ⟨rfl,rfl⟩
  | some a=>exact ⟨by simpa [Builtin.firstCells] using run_loadCells_list (P:=P) (w:=w) a [] (fun j v hj=>by simp at hj),rfl⟩
 ·obtain ⟨x,hx0⟩:∃ x,xs[0]? = some x:=by
   cases xs with
   | nil=>exact absurd rfl hx
   | cons y ys=>exact ⟨y,rfl⟩
  obtain ⟨b,off,rfl,_⟩:=c.h w hs 0 x hx0
  refine Src.cells (b:=b) (off:=off) ⟨fun j v hj=>?_⟩ (by rw [hsz.flat]) w hs
  have hlt:j < (xs.flatMap enc).length:=by
   rcases Nat.lt_or_ge j (xs.flatMap enc).length with h|h
   ·exact h
   ·simp [List.getElem?_eq_none h] at hj
  rw [hsz.flat] at hlt
  have hpos:0 < sz:=by
   rcases Nat.eq_zero_or_pos sz with h|h
   ·subst h;simp at hlt
   ·exact h
  have hi:j / sz < xs.length:=(Nat.div_lt_iff_lt_mul hpos).2 hlt
  obtain ⟨b',off',hb,h⟩:=c.h w hs (j / sz) _ (List.getElem?_eq_getElem hi)
  cases hb
  have hm:j % sz < (enc xs[j / sz]).length:=by rw [hsz];exact Nat.mod_lt _ hpos
  have h1:=hsz.get xs (j / sz) (j % sz) _ _ (List.getElem?_eq_getElem hi) (List.getElem?_eq_getElem hm)
  have h2:j / sz * sz + j % sz = j:=by rw [Nat.mul_comm];exact Nat.div_add_mod j sz
  rw [h2,hj] at h1
  have h3:=h (j % sz) v (by rw [List.getElem?_eq_getElem hm];exact h1.symm)
  rwa [Nat.add_assoc,h2] at h3

theorem OpX.appR (hT:T.ok P) {st:TypeId} {s y:Operand} {ty:TypeId} {ev:Operand → Option Value} {K:Value → HProp → Prop} {Kp:List PanicEntry → HProp → Prop} {t:TypeId} {b:Option Addr} {ys:List α}
  {n m cap cap':Nat} {c1 c2:List Value} {a1 a2:Bool} {s1 b1 b2:Nat} {d:TypeDesc}
  [c:VecC H a t sz enc cap xs R] [sc:SizedC sz enc] [e:RowC W H b sz enc ys] (hs:ev s = some (.slice a n cap)) (hy:ev y = some (.slice b m cap'))
  (h1:T st = some ⟨.slice t,c1,a1,s1,b1⟩) (h2:T t = some ⟨d,c2,a2,sz,b2⟩) (hn:n = xs.length) (hm:m = ys.length) (hb:2 * (xs.length + ys.length) * b2 ≤ 281474976710656 ∧ xs.length + ys.length ≤ 9223372036854775807)
  (hl:c2.length = sz ∧ ∀ ys:List α,∀ v ∈ ys.flatMap enc,v.oneCell' = true)
  (k:∀ a' cap',K (.slice a' (n + m) cap') (SL.vec t sz enc a' cap' (xs ++ ys)•R)) :
  OpX P W (.call ⟨.builtin .append,⟨[s,y]⟩,⟨[st,st]⟩⟩) ty ev H K Kp:=by
 refine OpX.append hT sc.h hl.2 h1 rfl h2 rfl hl.1 h1 (fun k e=>by cases e) hs hn hy (ys:=ys) (RowC.src sc.h hm) hm.symm c.h (by subst hn hm;exact hb) k
theorem OpX.appN (hT:T.ok P) {st:TypeId} {s y:Operand} {ty:TypeId} {ev:Operand → Option Value} {K:Value → HProp → Prop} {Kp:List PanicEntry → HProp → Prop} {t:TypeId} {b:Option Addr} {ys:List α}
  {m cap':Nat} {c1 c2:List Value} {a1 a2:Bool} {s1 b1 b2:Nat} {d:TypeDesc}
  [sc:SizedC sz enc] [e:RowC W H b sz enc ys] (hs:ev s = some (.slice none 0 0)) (hy:ev y = some (.slice b m cap'))
  (h1:T st = some ⟨.slice t,c1,a1,s1,b1⟩) (h2:T t = some ⟨d,c2,a2,sz,b2⟩) (hm:m = ys.length) (hb:2 * ys.length * b2 ≤ 281474976710656 ∧ ys.length ≤ 9223372036854775807)
  (hl:c2.length = sz ∧ ∀ ys:List α,∀ v ∈ ys.flatMap enc,v.oneCell' = true)
  (k:∀ a' cap',K (.slice a' m cap') (SL.vec t sz enc a' cap' ys•H)) :
  OpX P W (.call ⟨.builtin .append,⟨[s,y]⟩,⟨[st,st]⟩⟩) ty ev H K Kp:=by
 subst hm
 exact OpX.appendNil hT enc sc.h hl.2 h1 rfl h2 rfl hl.1 h1 (fun k e=>by cases e) hs hy ys (RowC.src sc.h rfl) rfl (by simpa using hb) k
theorem OpX.clr (hT:T.ok P) {t kt et:TypeId} {m:Operand} {tys:List TypeId} {ty:TypeId} {ev:Operand → Option Value} {K:Value → HProp → Prop} {Kp:List PanicEntry → HProp → Prop}
  {r:Nat} {kk:IntKind} {l:List (Int × Value)} {c1:List Value} {a1:Bool} {s1 b1:Nat} [i:MapC H r kk l R] (h1:T t = some ⟨.map kt et,c1,a1,s1,b1⟩) (hm:ev m = some (.map (some r)))
  (hK:K (.tuple ⟨[]⟩) (mapc r kk []•R)):OpX P W (.call ⟨.builtin .clear,⟨[m]⟩,⟨t :: tys⟩⟩) ty ev H K Kp:=by
 have hu1:=(hT _ _ h1).und
 refine ⟨fun w ρ hs he o' ho hty=>?_⟩
 obtain ⟨dst,op,ty',pos,after,guard⟩:=o'
 simp only at ho hty
 subst ho hty
 rw [i.h.eq] at hs
 obtain ⟨es,clock,hrep,hs⟩:=hs.map
 have hb:=hs.at
 have hlt:=hs.lt
 have hget:∀ {α:Type} (f:Obj → Sem α),(getObj r >>= f).run P w = (f (.map es clock)).run P w:=fun f=>by
  rw [Sem.run_bind];simp [getObj,Sem.run,hb]
 refine ⟨.value (.tuple ⟨[]⟩),{ w with heap:=w.heap.setIfInBounds r (.map #[] clock) },_,?_,?_,hK⟩
 ·simp only [execOp,resolve,Sem.run_bind,Sem.run_pure,Result.andThen_ok,invoke,builtin,Builtin.clear_,List.map_toArray,List.map_cons,List.map_nil,he _ _ hm]
  have hg:(getObj r).run P w = .ok (.map es clock) w:=by simp [getObj,Sem.run,hb]
  simp [run_underlying hu1,hg,Result.andThen,setObj,Sem.run,hb]
 ·exact Sat.mk_map ⟨rfl,by simp,by simp,by simp⟩ (hs.set (.map #[] clock) ⟨rfl,rfl,rfl,by simp⟩ (by simp [hlt]) fun j hj=>by simp [Ne.symm hj])
end
end Go.SL
namespace Go.SL
open Go
/-! ### Maps of what one function writes -/
theorem mapv_length {α β:Type} (f:α → β) (m:List (Int × α)):(mapv f m).length = m.length:=by simp [mapv]
section
variable {P:Program} {W:World} {T:Tab} {H R:HProp} {α:Type} {f:α → Value} {m:List (Int × α)}
theorem OpQ.lkv (hT:T.ok P) {t kt et:TypeId} {k0 kk:IntKind} {mo key:Operand} {ty:TypeId} {ev:Operand → Option Value} {K:Value → Prop} {r:Nat} {k:Int} {c1 c2:List Value} {a1 a2:Bool} {s1 s2 b1 b2:Nat} {r3:TRow}
  [i:MapC H r kk (mapv f m) R] (h1:T t = some ⟨.map kt et,c1,a1,s1,b1⟩) (h2:T kt = some ⟨.int k0,c2,a2,s2,b2⟩) (h3:T et = some r3)
  (hm:ev mo = some (.map (some r))) (hk:ev key = some (.int kk k))
  (yes:∀ u,m.lookup k = some u → K (f u)) (no:m.lookup k = none → zK r3 K):OpQ P W (.lookup t mo key false) ty ev H K:=by
 have e:=mapv_lookup f k m
 refine OpQ.lk hT h1 h2 h3 hm hk (fun v hv=>?_) (fun hn=>no ?_)
 ·rw [e] at hv
  obtain ⟨u,hu,rfl⟩:=Option.map_eq_some_iff.1 hv
  exact yes u hu
 ·rw [e] at hn
  exact Option.map_eq_none_iff.1 hn
theorem OpQ.lk2v (hT:T.ok P) {t kt et:TypeId} {k0 kk:IntKind} {mo key:Operand} {ty:TypeId} {ev:Operand → Option Value} {K:Value → Prop} {r:Nat} {k:Int} {c1 c2:List Value} {a1 a2:Bool} {s1 s2 b1 b2:Nat} {r3:TRow}
  [i:MapC H r kk (mapv f m) R] (h1:T t = some ⟨.map kt et,c1,a1,s1,b1⟩) (h2:T kt = some ⟨.int k0,c2,a2,s2,b2⟩) (h3:T et = some r3)
  (hm:ev mo = some (.map (some r))) (hk:ev key = some (.int kk k))
  (yes:∀ u,m.lookup k = some u → K (.tuple ⟨[f u,.bool true]⟩)) (no:m.lookup k = none → zK r3 fun z=>K (.tuple ⟨[z,.bool false]⟩)):OpQ P W (.lookup t mo key true) ty ev H K:=by
 have e:=mapv_lookup f k m
 refine OpQ.lk2 hT h1 h2 h3 hm hk (fun v hv=>?_) (fun hn=>no ?_)
 ·rw [e] at hv
  obtain ⟨u,hu,rfl⟩:=Option.map_eq_some_iff.1 hv
  exact yes u hu
 ·rw [e] at hn
  exact Option.map_eq_none_iff.1 hn
theorem OpX.lkv (hT:T.ok P) {t kt et:TypeId} {k0 kk:IntKind} {mo key:Operand} {ty:TypeId} {ev:Operand → Option Value} {K:Value → HProp → Prop} {Kp:List PanicEntry → HProp → Prop} {r:Nat} {k:Int} {c1 c2:List Value} {a1 a2:Bool} {s1 s2 b1 b2:Nat} {r3:TRow}
  [i:MapC H r kk (mapv f m) R] (h1:T t = some ⟨.map kt et,c1,a1,s1,b1⟩) (h2:T kt = some ⟨.int k0,c2,a2,s2,b2⟩) (h3:T et = some r3)
  (hm:ev mo = some (.map (some r))) (hk:ev key = some (.int kk k))
  (yes:∀ u,m.lookup k = some u → K (f u) H) (no:m.lookup k = none → zK r3 fun z=>K z H):OpX P W (.lookup t mo key false) ty ev H K Kp:=OpX.of_quiet (OpQ.lkv hT h1 h2 h3 hm hk yes no)
theorem OpX.lk2v (hT:T.ok P) {t kt et:TypeId} {k0 kk:IntKind} {mo key:Operand} {ty:TypeId} {ev:Operand → Option Value} {K:Value → HProp → Prop} {Kp:List PanicEntry → HProp → Prop} {r:Nat} {k:Int} {c1 c2:List Value} {a1 a2:Bool} {s1 s2 b1 b2:Nat} {r3:TRow}
  [i:MapC H r kk (mapv f m) R] (h1:T t = some ⟨.map kt et,c1,a1,s1,b1⟩) (h2:T kt = some ⟨.int k0,c2,a2,s2,b2⟩) (h3:T et = some r3)
  (hm:ev mo = some (.map (some r))) (hk:ev key = some (.int kk k))
  (yes:∀ u,m.lookup k = some u → K (.tuple ⟨[f u,.bool true]⟩) H) (no:m.lookup k = none → zK r3 fun z=>K (.tuple ⟨[z,.bool false]⟩) H):OpX P W (.lookup t mo key true) ty ev H K Kp:=OpX.of_quiet (OpQ.lk2v hT h1 h2 h3 hm hk yes no)
theorem OpX.upv (hT:T.ok P) {t kt et:TypeId} {k0 kk:IntKind} {mo key x:Operand} {ty:TypeId} {ev:Operand → Option Value} {K:Value → HProp → Prop} {Kp:List PanicEntry → HProp → Prop}
  {r:Nat} {k:Int} {v:Value} {c1 c2:List Value} {a1 a2:Bool} {s1 s2 b1 b2:Nat}
  [i:MapC H r kk (mapv f m) R] (u:α) (h1:T t = some ⟨.map kt et,c1,a1,s1,b1⟩) (h2:T kt = some ⟨.int k0,c2,a2,s2,b2⟩)
  (hm:ev mo = some (.map (some r))) (hk:ev key = some (.int kk k)) (hv:ev x = some v) (hu:v = f u)
  (hK:K undef (mapc r kk (mapv f (updKV k u m))•R)):OpX P W (.mapUpdate t mo key x) ty ev H K Kp:=by
 subst hu
 refine OpX.up hT h1 h2 hm hk hv ?_
 rw [← mapv_upd];exact hK
end
end Go.SL
/- slices.Sorted(maps.Keys(m)) of a map whose keys are ints: a new slice that holds the keys, sorted. Conditions: those of the shelf's contracts. -/
namespace Go.SL
open Go Go.Proofs Go.Shelf Go.RowKit Go.Maps

def sortI (l:List Int):List Int:=l.mergeSort leI
theorem sortI_perm {l l':List Int} (h:l.Perm l'):sortI l = sortI l':=mergeSort_of_perm_i h
theorem sortI_length (l:List Int):(sortI l).length = l.length:=by simp [sortI]
theorem sortI_mem {l:List Int} {x:Int}:x ∈ sortI l ↔ x ∈ l:=by simp [sortI]

theorem flat_one {α:Type} (f:α → Value):∀ l:List α,l.flatMap (one f) = l.map f
 | []=>rfl
 | x :: l=>by rw [List.flatMap_cons,flat_one f l];rfl

theorem Sat.fresh {W w w':World} {H:HProp} {g:Nat} {o:Obj} (h:Sat W H w) (hb:Below w.heap.size w w') (hg:w.heap.size ≤ g) (ho:w'.heap[g]? = some o):Sat W (pts g o•H) w':=by
 obtain ⟨h1,a,s,x⟩:=h
 have hlt:∀ k v,a k = some v → k < w.heap.size:=fun k v hk=>by
  have:=s k v hk
  rcases Nat.lt_or_ge k w.heap.size with h|h
  ·exact h
  ·simp [hp,Array.getElem?_eq_none h] at this
 refine ⟨h1.trans ⟨hb.os,hb.tape,hb.output,hb.size⟩,(fun k=>if k = g then some o else a k),?_,(fun k=>if k = g then some o else none),a,?_,?_,rfl,x⟩
 ·intro k v hk
  by_cases e:k = g
  ·subst e;simp only [if_true] at hk;rw [← hk];exact ho
  ·simp only [e,if_false] at hk
   show w'.heap[k]? = some v
   rw [hb.block k (hlt k v hk)];exact s k v hk
 ·intro k
  by_cases e:k = g
  ·right
   cases hv:a k with
   | none=>rfl
   | some v=>have:=hlt k v hv;omega
  ·left;simp [e]
 ·funext k
  by_cases e:k = g <;> simp [Heap.join,e]

theorem intKeys_perm {P:Program} {k:TypeId} (hk:P.underlying k = some (.int .i64)) {es:Array MapEntry} {clock:Nat} {l:List (Int × Value)} (hrep:MapRep .i64 es clock l)
  (hb:∀ x ∈ l,-9223372036854775808 ≤ x.1 ∧ x.1 ≤ 9223372036854775807) (R:Value → Option (DataW Unit × List MemPlace)) (hR:∀ v,R v = some (.lit (.bool true),[])) :
  (∀ x ∈ es.toList,∃ y,WideElems.rd P k R x = some y) ∧ (intKeys (.map ((es.toList.map (WideElems.rg P k R)).foldr DataW.insert []))).Perm (l.map (·.1)):=by
 have hkv:=hrep.kv
 have key:∀ (es:List MapEntry) (l:List (Int × Value)),es.map (fun e=>(e.key,e.val)) = l.map (fun p=>(Value.int .i64 p.1,p.2)) →
   (∀ x ∈ l,-9223372036854775808 ≤ x.1 ∧ x.1 ≤ 9223372036854775807) → (∀ x ∈ es,∃ y,WideElems.rd P k R x = some y) ∧ (es.map (WideElems.rg P k R)).map (fun p=>intOf p.1) = l.map (·.1):=by
  intro es
  induction es with
  | nil=>intro l h _;cases l <;> simp_all
  | cons e es ih =>
   intro l h hb
   cases l with
   | nil=>simp at h
   | cons p l =>
    simp only [List.map_cons,List.cons.injEq,Prod.mk.injEq] at h
    obtain ⟨⟨h1,h2⟩,h3⟩:=h
    obtain ⟨i1,i2⟩:=ih l h3 fun x hx=>hb x (List.mem_cons_of_mem _ hx)
    have hw:(Lit.int .i64 p.1).wf = true:=by
     have:=hb p (by simp)
     simp [Lit.wf,IntKind.min,IntKind.max,IntKind.signed,IntKind.bits];omega
    have hrd:WideElems.rd P k R e = some (.int .i64 p.1,.lit (.bool true)):=by
     simp [WideElems.rd,h1,keyOf_int_mk hk hw,hR]
    refine ⟨fun x hx=>?_,?_⟩
    ·rcases List.mem_cons.1 hx with rfl|hx
     ·exact ⟨_,hrd⟩
     ·exact i1 x hx
    ·rw [List.map_cons,List.map_cons,List.map_cons,i2]
     simp [WideElems.rg,hrd,intOf]
 obtain ⟨k1,k2⟩:=key es.toList l hkv hb
 refine ⟨k1,?_⟩
 show (List.map (fun p:Lit × DataW Unit=>intOf p.1) _).Perm _
 rw [← k2]
 exact (WideShapes.sorted_perm _).map _

theorem Does.sorted {P:Program} {ρs ρk ρo:Ren} {W:World} (Ls:SlLaysZI.n6 P ρs) (Lk:SlLaysZI.n7 P ρk) (Lo:SlLaysM.n5 P ρo) {fS kf:Nat} {tI tB:TypeId} (h1:ρs.f 6 = fS) (h2:ρk.f 10 = kf) (h3:ρs.f 9 = ρo.f 5) (h4:ρs.t 26 = tI)
  {H R1 R:HProp} {B r:Nat} {fz:Nat × Nat} {l:List (Int × Value)} [p:PtsC H B (.cells ⟨[.map (some r)]⟩ tB fz) R1] [m:MapC R1 r .i64 l R]
  (hl:l.length ≤ 17592186044416) (hk:∀ x ∈ l,-9223372036854775808 ≤ x.1 ∧ x.1 ≤ 9223372036854775807) :
  Does P W fS ⟨[.func (.func kf) ⟨[]⟩ ⟨[.pointer (some ⟨B,0,none⟩)]⟩]⟩ H (Ret fun v G=>∃ a cap,v = .slice a l.length cap ∧ G = (vec tI 1 ints a cap (sortI (l.map (·.1)))•mapc r .i64 l•R)):=by
 subst h1 h2 h4
 refine ⟨fun w hs=>?_⟩
 rw [p.h.eq,m.h.eq] at hs
 have hB:=hs.at
 have hBlt:=hs.lt
 have hs2:Sat W (mapc r .i64 l•R) w:=hs.right
 obtain ⟨es,clock,hrep,hs3⟩:=hs2.map
 have hr:=hs3.at
 have hsz:es.size = l.length:=by simpa using congrArg List.length hrep.kv
 obtain ⟨Rc,hRc⟩:∃ Rc:Value → Option (DataW Unit × List MemPlace),∀ v,Rc v = some (.lit (.bool true),[]):=⟨_,fun _=>rfl⟩
 obtain ⟨q1,q2⟩:=intKeys_perm Lk.t26 hrep hk Rc hRc
 have hst:MapKept.Stamped es clock:=by
  refine ⟨hrep.lt,hrep.born,?_⟩
  have:es.toList.map (·.key) = l.map fun p=>Value.int .i64 p.1:=by
   have:=congrArg (List.map Prod.fst) hrep.kv
   simpa [List.map_map,Function.comp_def] using this
  rw [this]
  have hnd:=hrep.nd
  rw [List.Nodup,List.pairwise_map] at hnd ⊢
  exact hnd.imp fun h e=>h (by simpa using e)
 obtain ⟨D0,hD0⟩:∃ D0:DataW Unit,D0 = .map ((es.toList.map (WideElems.rg P (ρk.t 26) Rc)).foldr DataW.insert []):=⟨_,rfl⟩
 rw [← hD0] at q2
 have hDs:Maps.size D0 = l.length:=by
  subst hD0
  rw [Maps.size_eq,(WideShapes.sorted_perm _).length_eq]
  simpa using hsz
 have hown:w.ownsMap P (ρk.t 26) Rc r es.size D0:=⟨es,clock,hr,⟨by unfold maxLen;omega,hst,q1⟩,Nat.le_refl _,hD0⟩
 have hseq:=AnyZI.keys_gives (ρ:=ρk) { Lk with } Fence.wide 2 trivial rfl (by omega) B r es.size D0 w hBlt (by simp [World.cell?,hB]) hown
 have sorts:AnyZI.SortsIn P ρs Fence.wide 4:=⟨fun blk off cap ss W hH hblk hsz=>callsIn_wide.2 (h3 ▸ AnyM.slices_Sort_int Lo blk off cap ss W hH hblk hsz),
  fun p cap W=>callsIn_wide.2 (h3 ▸ AnyM.slices_Sort_int_none Lo p cap W)⟩
 have cS:=AnyZI.sorted_in Ls Fence.wide 5 trivial trivial trivial trivial rfl (by omega) sorts (h3 ▸ Lo.f5.enters rfl) (ρk.f 10) #[.pointer (some ⟨B,0,none⟩)] trivial (Lk.f10.enters rfl) _ (Maps.size D0)
  (by unfold maxLen;omega) (by omega) w hseq
 refine (callsIn_wide.1 cS).mono ?_
 rintro e w' ⟨v,ss,rfl,hS,hrow,hnil,hb⟩
 have hpm:ss.Perm (l.map (·.1)):=hS.trans q2
 have hlen:ss.length = l.length:=by simpa using hpm.length_eq
 have hms:(ss.mergeSort fun x y=>decide (x ≤ y)) = sortI (l.map (·.1)):=sortI_perm hpm
 rw [hms] at hrow
 rcases hrow.2 with ⟨rfl,hz⟩|⟨g,cap,cur,rfl,hbase,hg,r1,r2,r3,r4⟩
 ·have hl0:l = []:=List.eq_nil_of_length_eq_zero (by omega)
  subst hl0
  refine ⟨_,hs2.grown ⟨hb.os,hb.tape,hb.output,hb.size⟩ fun k hk=>hb.block k hk,_,_,rfl,?_,none,0,rfl,rfl⟩
  have h:=(vec_nil (t:=ρs.t 26) (sz:=1) (enc:=ints)).imp.left (Q:=(mapc r .i64 []•R))
  rw [emp_star] at h
  simpa [sortI] using h
 ·refine ⟨_,hs2.fresh hb hbase hg,_,_,rfl,?_,some ⟨g,0,none⟩,cap,by rw [hlen],rfl⟩
  refine Imp.left (Ent.imp ?_)
  obtain ⟨cl⟩:=cur
  simp only [List.size_toArray,Nat.mul_one] at r3 r4
  have hsl:(sortI (l.map (·.1))).length = l.length:=by simp [sortI_length]
  have h5:=vec_some (t:=ρs.t 26) (sz:=1) (enc:=ints) (b:=g) (off:=0) (pre:=[]) (xs:=sortI (l.map (·.1))) (cap:=cap) (junk:=cl.drop ss.length) rfl (by omega) (by simp [hsl,hlen,r3])
  have h6:([] ++ (sortI (l.map (·.1))).flatMap ints ++ cl.drop ss.length:List Value) = cl:=by
   have:(sortI (l.map (·.1))).flatMap ints = (sortI (l.map (·.1))).map encZ:=by
    exact flat_one _ _
   rw [List.nil_append,this,← r4]
   exact List.take_append_drop _ _
  rw [h6] at h5
  exact h5
end Go.SL
/- What the points' functions compute, in plain words. No condition. -/
namespace Go.SL.Pts

abbrev DirtyV:=Int × Int
structure LiveV where
 tx:Int
 last:Int
 com:Bool
 und:Bool
 deriving DecidableEq
def lmin (m:Int):List DirtyV → Int
 | []=>m
 | d :: r=>lmin (if d.2 < m then d.2 else m) r
def leastD:List DirtyV → Int
 | []=>0
 | d :: r=>lmin d.2 r
def sinceF (m:List (Int × Int)):List DirtyV → Int × List (Int × Int)
 | []=>(0,m)
 | d :: r=>if d.1 < 0 ∨ d.1 ≥ 64 then (4,m) else if d.2 < 1 ∨ d.2 > 2147483647 then (23,m) else
  sinceF (match m.lookup d.1 with|none=>updKV d.1 d.2 m|some w=>if d.2 < w then updKV d.1 d.2 m else m) r
def mergeF (xs ys:List DirtyV):Int × List DirtyV :=
 if (sinceF [] xs).1 ≠ 0 then ((sinceF [] xs).1,[]) else if (sinceF (sinceF [] xs).2 ys).1 ≠ 0 then ((sinceF (sinceF [] xs).2 ys).1,[]) else
  (0,(sortI ((sinceF (sinceF [] xs).2 ys).2.map (·.1))).map fun p=>(p,((sinceF (sinceF [] xs).2 ys).2.lookup p).getD 0))
theorem updKV_mem {k v:Int} {p:Int × Int}:∀ {m:List (Int × Int)},p ∈ updKV k v m → p = (k,v) ∨ p ∈ m
 | [],h=>by simpa [updKV] using h
 | q :: m,h=>by
  by_cases e:k = q.1
  ·rw [updKV,if_pos e] at h
   rcases List.mem_cons.1 h with h|h
   ·exact .inl h
   ·exact .inr (List.mem_cons_of_mem _ h)
  ·rw [updKV,if_neg e] at h
   rcases List.mem_cons.1 h with h|h
   ·exact .inr (h ▸ List.mem_cons_self)
   ·rcases updKV_mem h with h|h
    ·exact .inl h
    ·exact .inr (List.mem_cons_of_mem _ h)
theorem updKV_len (k v:Int):∀ m:List (Int × Int),(updKV k v m).length ≤ m.length + 1
 | []=>by simp [updKV]
 | q :: m=>by
  by_cases e:k = q.1
  ·simp [updKV,e]
  ·have:=updKV_len k v m
   simp [updKV,e];omega
def OkM (m:List (Int × Int)):Prop:=∀ p ∈ m,(0 ≤ p.1 ∧ p.1 < 64) ∧ 1 ≤ p.2 ∧ p.2 ≤ 2147483647
theorem sinceF_ok:∀ (xs:List DirtyV) (m:List (Int × Int)),OkM m → OkM (sinceF m xs).2 ∧ (sinceF m xs).2.length ≤ m.length + xs.length
 | [],m,h=>⟨h,by simp [sinceF]⟩
 | d :: r,m,h=>by
  rw [sinceF]
  split
  ·exact ⟨h,by simp⟩
  ·split
   ·exact ⟨h,by simp⟩
   ·have hu:OkM (updKV d.1 d.2 m):=fun p hp=>by
     rcases updKV_mem hp with rfl|hp
     ·exact ⟨by dsimp only;omega,by dsimp only;omega⟩
     ·exact h p hp
    have hl:=updKV_len d.1 d.2 m
    split
    ·obtain ⟨h1,h2⟩:=sinceF_ok r _ hu
     exact ⟨h1,by simp only [List.length_cons];omega⟩
    ·split
     ·obtain ⟨h1,h2⟩:=sinceF_ok r _ hu
      exact ⟨h1,by simp only [List.length_cons];omega⟩
     ·obtain ⟨h1,h2⟩:=sinceF_ok r _ h
      exact ⟨h1,by simp only [List.length_cons];omega⟩
def cpLive (next lsn:Int):Int → List LiveV → Bool
 | _,[]=>true
 | last,x :: r=>if x.tx ≤ last ∨ x.tx ≥ next ∨ ¬ (1 ≤ x.last ∧ x.last ≤ 2147483647) ∨ ¬ (lsn = 0 ∨ x.last < lsn) then false else if x.com = true ∧ x.und = true then false else cpLive next lsn x.tx r
def cpDirty (lsn:Int):Int → List DirtyV → Bool
 | _,[]=>true
 | page,x :: r=>if x.1 ≤ page ∨ x.1 ≥ 64 ∨ ¬ (1 ≤ x.2 ∧ x.2 ≤ 2147483647) ∨ ¬ (lsn = 0 ∨ x.2 < lsn) then false else cpDirty lsn x.1 r
def cpF (next lsn:Int) (lv:List LiveV) (dv:List DirtyV):Bool :=
 if ¬ (1 ≤ next ∧ next ≤ 2147483648) ∨ lv.length > 32 ∨ dv.length > 16 then false else cpLive next lsn 0 lv && cpDirty lsn (-1) dv
end Go.SL.Pts
/- append that keeps the old row. No condition. -/
namespace Go.SL
open Go
section
variable {P:Program} {W:World} {T:Tab} {α:Type} {t:TypeId} {sz:Nat} {enc:α → List Value} {a:Option Addr} {cap:Nat} {xs:List α} {H R:HProp}
theorem OpX.conv {o:Op} {ty:TypeId} {ev:Operand → Option Value} {K0 K:Value → HProp → Prop} {Kp:List PanicEntry → HProp → Prop} (h:OpX P W o ty ev H K0 (fun _ _=>False)) (k:∀ v H',K0 v H' → ∃ H'',Imp H' H'' ∧ K v H''):OpX P W o ty ev H K Kp:=by
 refine ⟨fun w ρ hw he o' ho hty=>?_⟩
 obtain ⟨r,w',H',h1,h2,h3⟩:=h.run w ρ hw he o' ho hty
 cases r with
 | value v =>
  obtain ⟨H'',hi,hk⟩:=k v H' h3
  exact ⟨_,w',H'',h1,h2.imp hi,hk⟩
 | skip =>
  obtain ⟨H'',hi,hk⟩:=k undef H' h3
  exact ⟨_,w',H'',h1,h2.imp hi,hk⟩
 | enter f args =>
  refine ⟨_,w',H',h1,h2,?_⟩
  refine Does.post h3 ?_
  intro e w2 H2 hs hq
  cases e with
  | returned v =>
   obtain ⟨H'',hi,hk⟩:=k v H2 hq
   exact ⟨H'',hs.imp hi,hk⟩
  | panicked c=>exact hq.elim
  | outgrown=>exact hq.elim
 | _=>exact h3.elim
def appc (t:TypeId) (sz:Nat) (enc:α → List Value) (a:Option Addr) (cap:Nat) (xs:List α) (a':Option Addr) (cap':Nat) (x:α):HProp:=fun h =>
 (a' = a ∧ cap' = cap ∧ SL.vec t sz enc a cap (xs ++ [x]) h) ∨ (SL.vec t sz enc a' cap' (xs ++ [x])•SL.vec t sz enc a cap xs) h
variable {a':Option Addr} {cap':Nat} {x:α}
theorem Sat.appc {w:World} (h:Sat W (appc t sz enc a cap xs a' cap' x•R) w):(a' = a ∧ cap' = cap ∧ Sat W (SL.vec t sz enc a cap (xs ++ [x])•R) w) ∨ Sat W (SL.vec t sz enc a' cap' (xs ++ [x])•SL.vec t sz enc a cap xs•R) w:=by
 obtain ⟨h1,c,hs,d,e,hd,rfl,hp,hr⟩:=h
 rcases hp with ⟨e1,e2,hp⟩|hp
 ·exact .inl ⟨e1,e2,h1,_,hs,d,e,hd,rfl,hp,hr⟩
 ·refine .inr ?_
  rw [← star_assoc]
  exact ⟨h1,_,hs,d,e,hd,rfl,hp,hr⟩
theorem RowC.appNew (hsz:Sized sz enc):RowC W (SL.appc t sz enc a cap xs a' cap' x•R) a' sz enc (xs ++ [x]):=⟨fun w hs i y hy=>by
 have hv:∃ b off,a' = some ⟨b,off,none⟩:=by
  rcases Sat.appc hs with ⟨rfl,rfl,h⟩|h
  ·obtain ⟨b,off,h1,_⟩:=(RowC.vec (W:=W) (H:=SL.vec t sz enc a' cap' (xs ++ [x])•R) hsz VecAt.here).h w h i y hy
   exact ⟨b,off,h1⟩
  ·obtain ⟨b,off,h1,_⟩:=(RowC.vec (W:=W) (H:=SL.vec t sz enc a' cap' (xs ++ [x])•SL.vec t sz enc a cap xs•R) hsz VecAt.here).h w h i y hy
   exact ⟨b,off,h1⟩
 obtain ⟨b,off,rfl⟩:=hv
 refine ⟨b,off,rfl,fun j v hj w hs=>?_⟩
 rcases Sat.appc hs with ⟨rfl,rfl,h⟩|h
 ·exact Rd.vec hsz VecAt.here hy hj w h
 ·exact Rd.vec hsz VecAt.here hy hj w h⟩
theorem RowC.appOld (hsz:Sized sz enc):RowC W (SL.appc t sz enc a cap xs a' cap' x•R) a sz enc xs:=⟨fun w hs i y hy=>by
 have hi:i < xs.length:=by
  rcases Nat.lt_or_ge i xs.length with h|h
  ·exact h
  ·simp [List.getElem?_eq_none h] at hy
 have hy':(xs ++ [x])[i]? = some y:=by rw [List.getElem?_append_left hi];exact hy
 have hv:∃ b off,a = some ⟨b,off,none⟩:=by
  rcases Sat.appc hs with ⟨rfl,rfl,h⟩|h
  ·obtain ⟨b,off,h1,_⟩:=(RowC.vec (W:=W) (H:=SL.vec t sz enc a' cap' (xs ++ [x])•R) hsz VecAt.here).h w h i y hy'
   exact ⟨b,off,h1⟩
  ·obtain ⟨b,off,h1,_⟩:=(RowC.vec (W:=W) (H:=SL.vec t sz enc a cap xs•R) hsz VecAt.here).h w h.right i y hy
   exact ⟨b,off,h1⟩
 obtain ⟨b,off,rfl⟩:=hv
 refine ⟨b,off,rfl,fun j v hj w hs=>?_⟩
 rcases Sat.appc hs with ⟨rfl,rfl,h⟩|h
 ·exact Rd.vec hsz VecAt.here hy' hj w h
 ·exact Rd.vec hsz VecAt.here hy hj w h.right⟩
instance (priority:=100) RowC.appNewI [s:SizedC sz enc]:RowC W (SL.appc t sz enc a cap xs a' cap' x•R) a' sz enc (xs ++ [x]):=RowC.appNew s.h
instance (priority:=99) RowC.appOldI [s:SizedC sz enc]:RowC W (SL.appc t sz enc a cap xs a' cap' x•R) a sz enc xs:=RowC.appOld s.h
end
end Go.SL
/- Rows of slices; an element found by its cells. No condition. -/
namespace Go.SL
open Go
abbrev SlV:=Option Addr × Nat × Nat
def slcv (s:SlV):List Value:=[.slice s.1 s.2.1 s.2.2]
instance:SizedC 1 slcv:=⟨fun _=>rfl⟩
class DecOf {α:Type} (enc:α → List Value) (l:List Value) (x:outParam α):Prop where h:enc x = l
instance {a:Option Addr} {n c:Nat}:DecOf slcv [.slice a n c] (a,n,c):=⟨rfl⟩
section
variable {P:Program} {W:World} {T:Tab} {α:Type} {t:TypeId} {sz:Nat} {enc:α → List Value} {a:Option Addr} {cap:Nat} {xs:List α} {H R:HProp}
theorem IxS.rn {len size:Nat} {n:Int} {K:Addr → Prop} [c:RowC W H a sz enc xs] (hlen:len = xs.length) (hi:0 ≤ n ∧ n < xs.length)
  (k:∀ b off,a = some ⟨b,off,none⟩ → K ⟨b,off + n.toNat * size,none⟩):IxS W H a len n size K:=IxS.r (i:=n.toNat) (by omega) hlen (by omega) k
end
end Go.SL
/- What undo.Left computes, in plain words. No condition. -/
namespace Go.SL.Und

structure RecV where
 lsn:Int
 kind:Int
 tx:Int
 prev:Int
 wp:Int
 wi:Int
 sp:Int
 si:Int
 delta:Int
 id:Int
 grp:Int
 lo:Int
 hi:Int
 val:Int
 lv:SlV
 dt:SlV
 nxt:Int
def recv (r:RecV):List Value :=
  [.int .i64 r.lsn,.int .i64 r.kind,.int .i64 r.tx,.int .i64 r.prev,.int .i64 r.wp,.int .i64 r.wi,.int .i64 r.sp,.int .i64 r.si,.int .i64 r.delta,
   .int .i64 r.id,.int .i64 r.grp,.int .i64 r.lo,.int .i64 r.hi,.int .i64 r.val,.slice r.lv.1 r.lv.2.1 r.lv.2.2,.slice r.dt.1 r.dt.2.1 r.dt.2.2,.int .i64 r.nxt]
theorem rec_one:∀ ys:List RecV,∀ v ∈ ys.flatMap recv,v.oneCell' = true:=by
 intro ys v hv
 obtain ⟨d,_,hv⟩:=List.mem_flatMap.1 hv
 simp only [recv,List.mem_cons,List.not_mem_nil,or_false] at hv
 rcases hv with rfl|rfl|rfl|rfl|rfl|rfl|rfl|rfl|rfl|rfl|rfl|rfl|rfl|rfl|rfl|rfl|rfl <;> rfl
instance:SizedC 17 recv:=⟨fun _=>rfl⟩
def undoR (tx:Int) (r:RecV) (d:Int):RecV:=⟨0,4,tx,0,r.wp,r.wi,r.sp,r.si,d,r.id,0,0,0,0,(none,0,0),(none,0,0),0⟩
def fits (z:Int):Prop:=-9223372036854775808 ≤ z ∧ z ≤ 9223372036854775807
instance (z:Int):Decidable (fits z):=inferInstanceAs (Decidable (_ ∧ _))
def sameH (r h:RecV):Prop:=r.delta = h.delta ∧ (r.wp = h.wp ∧ r.wi = h.wi) ∧ (r.sp = h.sp ∧ r.si = h.si)
instance (r h:RecV):Decidable (sameH r h):=inferInstanceAs (Decidable (_ ∧ _ ∧ _))
def left1 (tx:Int) (m:List (Int × RecV)) (r:RecV):Int × List (Int × RecV) :=
  if r.tx ≠ tx then (0,m) else
  if r.kind = 3 then
    (match m.lookup r.id with
     | none=>(0,updKV r.id (undoR tx r r.delta) m)
     | some h=>if fits (h.delta + r.delta) then (0,updKV r.id (undoR tx r (h.delta + r.delta)) m) else (10,m))
  else if r.kind = 4 then
    (match m.lookup r.id with
     | none=>(120,m)
     | some h=>if sameH r h then (0,delKV r.id m) else (60,m))
  else if r.kind = 5 then (0,[]) else (0,m)
def leftG (tx:Int) (m:List (Int × RecV)):List RecV → Int × List (Int × RecV)
 | []=>(0,m)
 | r :: rs=>if (left1 tx m r).1 = 0 then leftG tx (left1 tx m r).2 rs else ((left1 tx m r).1,[])
def recZ:RecV:=⟨0,0,0,0,0,0,0,0,0,0,0,0,0,0,(none,0,0),(none,0,0),0⟩
def outR (m:List (Int × RecV)):List RecV:=(sortI (m.map (·.1))).map fun k=>(m.lookup k).getD recZ
def leftF (rs:List RecV) (tx:Int):Int × List RecV :=
 if tx < 1 ∨ tx > 2147483647 then (130,[]) else if (leftG tx [] rs).1 = 0 then (0,outR (leftG tx [] rs).2) else ((leftG tx [] rs).1,[])
def KeyOk (m:List (Int × RecV)):Prop:=(∀ p ∈ m,p.2.id = p.1) ∧ (m.map (·.1)).Nodup
theorem updKV_mem {k:Int} {v:RecV} {p:Int × RecV}:∀ {m:List (Int × RecV)},p ∈ updKV k v m → p = (k,v) ∨ p ∈ m
 | [],h=>by simpa [updKV] using h
 | q :: m,h=>by
  by_cases e:k = q.1
  ·rw [updKV,if_pos e] at h
   rcases List.mem_cons.1 h with h|h
   ·exact .inl h
   ·exact .inr (List.mem_cons_of_mem _ h)
  ·rw [updKV,if_neg e] at h
   rcases List.mem_cons.1 h with h|h
   ·exact .inr (h ▸ List.mem_cons_self)
   ·rcases updKV_mem h with h|h
    ·exact .inl h
    ·exact .inr (List.mem_cons_of_mem _ h)
theorem KeyOk.nil:KeyOk []:=⟨fun _ h=>(by cases h),List.nodup_nil⟩
theorem KeyOk.del {m:List (Int × RecV)} (h:KeyOk m) (k:Int):KeyOk (delKV k m) :=
 ⟨fun p hp=>h.1 p (List.mem_filter.1 hp).1,del_nodup _ _ h.2⟩
theorem updKV_len (k:Int) (v:RecV):∀ m:List (Int × RecV),(updKV k v m).length ≤ m.length + 1
 | []=>by simp [updKV]
 | q :: m=>by
  by_cases e:k = q.1
  ·simp [updKV,e]
  ·have:=updKV_len k v m
   simp [updKV,e];omega
end Go.SL.Und
