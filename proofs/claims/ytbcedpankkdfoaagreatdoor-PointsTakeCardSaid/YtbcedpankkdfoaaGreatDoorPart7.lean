/- A region that draws its order, where two loud operations may come up in either order: both are walked. No condition. -/
import Derived.Test.YtbcedpankkdfoaaGreatDoorPart3
import Derived.Test.YtbcedpankkdfoaaGreatDoorPart6
import Derived.Laws.MakeOwn
import Derived.Laws.CopyRow
import Derived.Laws.IdiomCopy
import Derived.Laws.Small
set_option linter.unusedVariables false
set_option linter.unusedSimpArgs false
namespace Go.SL
open Go
inductive PT where
 | nil
 | op (i:Nat) (t:PT)
 | two (i:Nat) (t:PT) (j:Nat) (s:PT)
def PT.size:PT → Nat
 | .nil=>0
 | .op _ t=>t.size + 1
 | .two _ t _ s=>max t.size s.size + 1
def ptOk (ops:List Oper):PT → Array Bool → Bool
 | .nil,listed=>(Region.ready .any ⟨ops⟩ listed).isEmpty
 | .op i t,listed=>match ops[i]? with
  | none=>false
  | some o=>(match quietOp o.op with
    | true=>(Region.ready .any ⟨ops⟩ listed).contains i && Region.free .any ⟨ops⟩ listed i
    | false=>Region.ready .any ⟨ops⟩ listed == [i]) && ptOk ops t (listed.setIfInBounds i true)
 | .two i t j s,listed=>Region.ready .any ⟨ops⟩ listed == [i,j] && (match ops[i]?,ops[j]? with
   | some o,some p=>!quietOp o.op && !quietOp p.op
   | _,_=>false) && ptOk ops t (listed.setIfInBounds i true) && ptOk ops s (listed.setIfInBounds j true)
def treeOk (ops:List Oper) (t:PT):Bool:=Region.noSelect ⟨ops⟩ && Nat.ble t.size ops.length && ptOk ops t (Array.replicate ops.length false)

def loudK (P:Program) (W:World) (T:Tab) (N:Nat) (A:HProp) (o:Oper) (fr:Fr) (ds:List Deferred) (H:HProp) (K:ContK) (Kp:PanK):Prop :=
 op1 P W T N o fr ds H (fun fr ds H=>Req (Sub W H A) (K fr ds H)) fun c _ ds H=>Kp c [] ds H
def execTree (P:Program) (W:World) (T:Tab) (N:Nat) (A:HProp) (all:List Oper):PT → Fr → List Deferred → HProp → ContK → PanK → Prop
 | .nil,fr,ds,H,K,_=>K fr ds H
 | .op i t,fr,ds,H,K,Kp=>match all[i]? with
  | some o=>guarded all o fr
    (fun fr=>match quietOp o.op with
     | true=>opK P W T o.op o.type fr.eval A (fun v _=>putK N fr v (fun fr=>execTree P W T N A all t fr ds H K Kp) o.dst) (fun _ _=>False)
       (OpQ P W o.op o.type fr.eval A fun v=>putK N fr v (fun fr=>execTree P W T N A all t fr ds H K Kp) o.dst)
     | false=>loudK P W T N A o fr ds H (fun fr ds H=>execTree P W T N A all t fr ds H K Kp) Kp)
    (fun fr=>putK N fr undef (fun fr=>execTree P W T N A all t fr ds H K Kp) o.dst)
  | none=>False
 | .two i t j s,fr,ds,H,K,Kp=>match all[i]?,all[j]? with
  | some o,some p =>
   guarded all o fr (fun fr=>loudK P W T N A o fr ds H (fun fr ds H=>execTree P W T N A all t fr ds H K Kp) Kp) (fun fr=>putK N fr undef (fun fr=>execTree P W T N A all t fr ds H K Kp) o.dst) ∧
   guarded all p fr (fun fr=>loudK P W T N A p fr ds H (fun fr ds H=>execTree P W T N A all s fr ds H K Kp) Kp) (fun fr=>putK N fr undef (fun fr=>execTree P W T N A all s fr ds H K Kp) p.dst)
  | _,_=>False

section
variable {P:Program} {W:World} {T:Tab} {N:Nat} {A:HProp}
theorem execTree_sound (hT:T.ok P) (all:List Oper) (hsel:Region.noSelect ⟨all⟩ = true) {K:ContK} {Kp:PanK} :
  ∀ (t:PT) (n:Nat) (listed:Array Bool) (fr:Fr) (ds:List Deferred) (H:HProp),ptOk all t listed = true → t.size ≤ n →
   execTree P W T N A all t fr ds H K Kp → Closed ⟨all⟩ listed → ∀ (a:Act) (w:World),fr.rep a.tmps → a.tmps.size = N → a.defers = ds → Sat W H w → Sat W A w →
   wpAnyF P ⟨all⟩ (LiftD W N K Kp) (Sat W A) [] n listed a w
 | .nil,n,listed,fr,ds,H,hp,_,h,_,a,w,hrep,hN,hd,hs,hA=>by
  simp only [ptOk,List.isEmpty_iff] at hp
  exact wpAnyF.done hp ⟨fr,H,hrep,hN,hs,hd ▸ h⟩ _
 | .op i t,0,_,_,_,_,_,hn,_,_,_,_,_,_,_,_,_=>by simp [PT.size] at hn
 | .two i t j s,0,_,_,_,_,_,hn,_,_,_,_,_,_,_,_,_=>by simp [PT.size] at hn
 | .op i t,n + 1,listed,fr,ds,H,hp,hn,h,hcl,a,w,hrep,hN,hd,hs,hA=>by
  have ih:=execTree_sound hT all hsel (K:=K) (Kp:=Kp) t n (listed.setIfInBounds i true)
  have hn':t.size ≤ n:=by simp [PT.size] at hn;omega
  unfold execTree at h
  split at h
  ·rename_i o ho
   have hoa:(⟨all⟩:Array Oper)[i]? = some o:=by simpa using ho
   simp only [ptOk,ho,Bool.and_eq_true] at hp
   obtain ⟨hp1,hp2⟩:=hp
   obtain ⟨fr',hrep',h⟩:=guarded_elim hrep h
   have hQ:∀ v c a w,LiftD W N K Kp (.panic c) (Act.put a o.dst v) w → LiftD W N K Kp (.panic c) a w:=by
    rintro v c a w ⟨H,h1,h2,h3⟩
    refine ⟨H,?_,h2,?_⟩
    ·cases hd:o.dst <;> simpa [Act.put,hd] using h1
    ·cases hd:o.dst <;> simpa [Act.put,hd] using h3
   have hirA:i ∈ Region.ready .any ⟨all⟩ listed:=by
    cases hq:quietOp o.op with
    | true=>simp only [hq,Bool.and_eq_true] at hp1;simpa using hp1.1
    | false=>simp only [hq,beq_iff_eq] at hp1;rw [hp1];simp
   have skipped:putK N fr' undef (fun fr=>execTree P W T N A all t fr ds H K Kp) o.dst →
     wpAnyF P ⟨all⟩ (LiftD W N K Kp) (Sat W A) [] n (listed.setIfInBounds i true) (a.put o.dst undef) w:=by
    intro h
    obtain ⟨fr'',h1,h2,h3,h4⟩:=putK_elim hN hrep' h
    exact ih _ _ _ hp2 hn' h4 (hcl.put hirA) _ w h1 h2 (by rw [h3,hd]) hs hA
   cases hq:quietOp o.op with
   | true =>
    simp only [hq,Bool.and_eq_true] at hp1
    have first:=fun v a w=>wpAnyF.first (P:=P) (S:=Sat W A) (Q:=LiftD W N K Kp) (F:=[]) (v:=v) hoa rfl (fun j hj=>by simp at hj) (Region.noSelect_spec hsel) (hQ v) n listed a w (Region.free_spec hoa hp1.2) hirA hcl
    rcases h with ⟨hw,h⟩|⟨hw,h⟩
    ·simp only [hq] at h
     have he:∀ x v,fr'.eval x = some v → a.eval x = v:=fun x v e=>Fr.rep_eval hrep' e
     have:∃ v,Runs P W o.op o.type fr'.eval A v ∧ putK N fr' v (fun fr=>execTree P W T N A all t fr ds H K Kp) o.dst:=by
      rcases opK_quiet hT ⟨w,hA⟩ hq h with h|⟨v,hr,hk⟩
      ·exact h.ex
      ·exact ⟨v,hr,hk⟩
     obtain ⟨v,hr,hk⟩:=this
     refine first v a w (.inl ⟨hw,fun w hw=>hr w a.eval hw he o rfl rfl⟩) hA ?_
     obtain ⟨fr'',h1,h2,h3,h4⟩:=putK_elim hN hrep' hk
     exact ih _ _ _ hp2 hn' h4 (hcl.put hirA) _ w h1 h2 (by rw [h3,hd]) hs hA
    ·exact first undef a w (.inr ⟨hw,rfl⟩) hA (skipped h)
   | false =>
    simp only [hq] at hp1
    refine wpAnyF.one (by simpa using hp1) ?_
    unfold wpOp
    simp only [hoa]
    rcases h with ⟨hw,h⟩|⟨hw,h⟩
    ·simp only [hw,if_true]
     simp only [hq] at h
     refine .inl (op1_sound hT hN hrep' hd hs h ?_ ?_)
     ·intro a' w' fr'' ds' H' h1 h2 h3 h4 h5
      exact ⟨fun _=>h5.p _ h4,ih _ _ _ hp2 hn' h5.k (hcl.put hirA) a' w' h1 h2 h3 h4 (h5.p _ h4)⟩
     ·intro c w' H' h1 h2
      exact ⟨H',hN,h1,hd ▸ h2⟩
    ·simp only [hw,Bool.false_eq_true,if_false]
     exact ⟨fun _=>hA,skipped h⟩
  ·exact h.elim
 | .two i t j s,n + 1,listed,fr,ds,H,hp,hn,h,hcl,a,w,hrep,hN,hd,hs,hA=>by
  have ih1:=execTree_sound hT all hsel (K:=K) (Kp:=Kp) t n (listed.setIfInBounds i true)
  have ih2:=execTree_sound hT all hsel (K:=K) (Kp:=Kp) s n (listed.setIfInBounds j true)
  have hn':t.size ≤ n ∧ s.size ≤ n:=by simp only [PT.size] at hn;omega
  unfold execTree at h
  split at h
  ·rename_i o p ho hpj
   have hoa:(⟨all⟩:Array Oper)[i]? = some o:=by simpa using ho
   have hpa:(⟨all⟩:Array Oper)[j]? = some p:=by simpa using hpj
   simp only [ptOk,ho,hpj,Bool.and_eq_true,beq_iff_eq] at hp
   obtain ⟨⟨⟨hr,_⟩,hp1⟩,hp2⟩:=hp
   have one:∀ (k:Nat) (ok:Oper) (u:PT),k ∈ Region.ready .any ⟨all⟩ listed → (⟨all⟩:Array Oper)[k]? = some ok → ptOk all u (listed.setIfInBounds k true) = true →
     (∀ (fr:Fr) (ds:List Deferred) (H:HProp),ptOk all u (listed.setIfInBounds k true) = true → u.size ≤ n → execTree P W T N A all u fr ds H K Kp → Closed ⟨all⟩ (listed.setIfInBounds k true) → ∀ (a:Act) (w:World),fr.rep a.tmps → a.tmps.size = N → a.defers = ds → Sat W H w → Sat W A w →
      wpAnyF P ⟨all⟩ (LiftD W N K Kp) (Sat W A) [] n (listed.setIfInBounds k true) a w) → u.size ≤ n →
     guarded all ok fr (fun fr=>loudK P W T N A ok fr ds H (fun fr ds H=>execTree P W T N A all u fr ds H K Kp) Kp) (fun fr=>putK N fr undef (fun fr=>execTree P W T N A all u fr ds H K Kp) ok.dst) →
     wpOp P ⟨all⟩ (LiftD W N K Kp) k (fun a' w'=>((([]:List Nat).contains k = false) → Sat W A w') ∧ wpAnyF P ⟨all⟩ (LiftD W N K Kp) (Sat W A) [] n (listed.setIfInBounds k true) a' w') a w:=by
    intro k ok u hkr hk hpu ih hu h
    obtain ⟨fr',hrep',h⟩:=guarded_elim hrep h
    unfold wpOp
    simp only [hk]
    rcases h with ⟨hw,h⟩|⟨hw,h⟩
    ·simp only [hw,if_true]
     refine .inl (op1_sound hT hN hrep' hd hs h ?_ ?_)
     ·intro a' w' fr'' ds' H' h1 h2 h3 h4 h5
      exact ⟨fun _=>h5.p _ h4,ih _ _ _ hpu hu h5.k (hcl.put hkr) a' w' h1 h2 h3 h4 (h5.p _ h4)⟩
     ·intro c w' H' h1 h2
      exact ⟨H',hN,h1,hd ▸ h2⟩
    ·simp only [hw,Bool.false_eq_true,if_false]
     obtain ⟨fr'',h1,h2,h3,h4⟩:=putK_elim hN hrep' h
     exact ⟨fun _=>hA,ih _ _ _ hpu hu h4 (hcl.put hkr) _ w h1 h2 (by rw [h3,hd]) hs hA⟩
   refine ⟨fun h0=>(by rw [hr] at h0;cases h0),fun k hk=>?_⟩
   rw [hr] at hk
   rcases List.mem_cons.1 hk with rfl|hk
   ·exact one _ o t (by rw [hr];simp) hoa hp1 ih1 hn'.1 h.1
   ·obtain rfl:k = j:=by simpa using hk
    exact one _ p s (by rw [hr];simp) hpa hp2 ih2 hn'.2 h.2
  ·exact h.elim

theorem DrawK.tree (hT:T.ok P) (hm:P.follows .mixedOrders = true) {ops:List Oper} (t:PT) (A:HProp) {fr:Fr} {ds:List Deferred} {H:HProp} {K:ContK} {Kp:PanK}
  (hp:treeOk ops t = true) (hA:Sub W H A) (h:execTree P W T N A ops t fr ds H K fun c _ ds H=>Kp c [] ds H):DrawK P W T N ops fr ds H K Kp:=by
 simp only [treeOk,Bool.and_eq_true] at hp
 obtain ⟨⟨hp1,hp2⟩,hp3⟩:=hp
 refine ⟨fun id a w h1 h2 h3 h4=>?_⟩
 have hs:Sat W H { w with drawn:=w.drawn + 1 }:=h4.same ⟨rfl,rfl,rfl,Nat.le_refl _⟩ rfl
 have:=execTree_sound hT ops hp1 t ops.length _ fr ds H hp3 (Nat.le_of_ble_eq_true hp2) h (Closed.none _) a _ h1 h2 h3 hs (hA _ hs)
 refine wp_mono (wp_region_any hm (wpAnyF.any _ _ _ _ this)) ?_
 rintro e a' w' h7
 cases e with
 | normal=>exact h7
 | panic c =>
  obtain ⟨H',g1,g2,g3⟩:=h7
  exact ⟨[],H',Fr.rep_nil _,g1,g2,g3⟩
 | _=>exact h7.elim
def fstDst:List Oper → Nat
 | []=>0
 | o :: r=>match o.dst with
  | some t=>t
  | none=>fstDst r
theorem DrawK.introH (hT:T.ok P) (hm:P.follows .mixedOrders = true) {ops:List Oper} (t:Nat) (F plan:List Nat) (A:HProp) {fr:Fr} {ds:List Deferred} {H:HProp} {K:ContK} {Kp:PanK}
  (_:fstDst ops = t) (hp:plannedOk ops F plan = true) (hA:Sub W H A) (h:execPlan P W T N A ops F plan fr ds H K fun c _ ds H=>Kp c [] ds H):DrawK P W T N ops fr ds H K Kp:=DrawK.intro hT hm F plan A hp hA h
theorem DrawK.treeH (hT:T.ok P) (hm:P.follows .mixedOrders = true) {ops:List Oper} (n:Nat) (t:PT) (A:HProp) {fr:Fr} {ds:List Deferred} {H:HProp} {K:ContK} {Kp:PanK}
  (_:fstDst ops = n) (hp:treeOk ops t = true) (hA:Sub W H A) (h:execTree P W T N A ops t fr ds H K fun c _ ds H=>Kp c [] ds H):DrawK P W T N ops fr ds H K Kp:=DrawK.tree hT hm t A hp hA h
end
end Go.SL
/- Maps whose entries are known; the rest of a row. Conditions: in each statement. -/
namespace Go.SL
open Go
section
variable {P:Program} {W:World} {T:Tab} {H R:HProp} {α:Type} {f:α → Value} {m:List (Int × α)}
theorem OpX.lk2s (hT:T.ok P) {t kt et:TypeId} {k0 kk:IntKind} {mo key:Operand} {ty:TypeId} {ev:Operand → Option Value} {K:Value → HProp → Prop} {Kp:List PanicEntry → HProp → Prop} {r:Nat} {k:Int} {u:α} {c1 c2:List Value} {a1 a2:Bool} {s1 s2 b1 b2:Nat} {r3:TRow}
  [i:MapC H r kk (mapv f m) R] (hl:m.lookup k = some u) (h1:T t = some ⟨.map kt et,c1,a1,s1,b1⟩) (h2:T kt = some ⟨.int k0,c2,a2,s2,b2⟩) (h3:T et = some r3)
  (hm:ev mo = some (.map (some r))) (hk:ev key = some (.int kk k)) (yes:K (.tuple ⟨[f u,.bool true]⟩) H):OpX P W (.lookup t mo key true) ty ev H K Kp :=
 OpX.lk2v hT h1 h2 h3 hm hk (fun u' hu=>by rw [hl] at hu;cases hu;exact yes) (fun hu=>by rw [hl] at hu;cases hu)
theorem OpX.lks (hT:T.ok P) {t kt et:TypeId} {k0 kk:IntKind} {mo key:Operand} {ty:TypeId} {ev:Operand → Option Value} {K:Value → HProp → Prop} {Kp:List PanicEntry → HProp → Prop} {r:Nat} {k:Int} {u:α} {c1 c2:List Value} {a1 a2:Bool} {s1 s2 b1 b2:Nat} {r3:TRow}
  [i:MapC H r kk (mapv f m) R] (hl:m.lookup k = some u) (h1:T t = some ⟨.map kt et,c1,a1,s1,b1⟩) (h2:T kt = some ⟨.int k0,c2,a2,s2,b2⟩) (h3:T et = some r3)
  (hm:ev mo = some (.map (some r))) (hk:ev key = some (.int kk k)) (yes:K (f u) H):OpX P W (.lookup t mo key false) ty ev H K Kp :=
 OpX.lkv hT h1 h2 h3 hm hk (fun u' hu=>by rw [hl] at hu;cases hu;exact yes) (fun hu=>by rw [hl] at hu;cases hu)
theorem OpX.delv (hT:T.ok P) {t kt et:TypeId} {k0 kk:IntKind} {mo key:Operand} {tys:List TypeId} {ty:TypeId} {ev:Operand → Option Value} {K:Value → HProp → Prop} {Kp:List PanicEntry → HProp → Prop} {r:Nat} {k:Int} {c1 c2:List Value} {a1 a2:Bool} {s1 s2 b1 b2:Nat}
  [i:MapC H r kk (mapv f m) R] (h1:T t = some ⟨.map kt et,c1,a1,s1,b1⟩) (h2:T kt = some ⟨.int k0,c2,a2,s2,b2⟩)
  (hm:ev mo = some (.map (some r))) (hk:ev key = some (.int kk k)) (hK:K (.tuple ⟨[]⟩) (mapc r kk (mapv f (delKV k m))•R)):OpX P W (.call ⟨.builtin .delete,⟨[mo,key]⟩,⟨t :: tys⟩⟩) ty ev H K Kp:=by
 refine OpX.del hT h1 h2 hm hk ?_
 rw [← mapv_del];exact hK
def dropA (a:Option Addr) (z c size:Nat):Option Addr:=if c = z then a else a.map (·.add (z * size))
theorem RowC.drop {sz:Nat} {enc:α → List Value} {a:Option Addr} {xs:List α} (z c:Nat) (hc:xs.length ≤ c) (h:RowC W H a sz enc xs):RowC W H (dropA a z c sz) sz enc (xs.drop z):=⟨fun w hs i x hx=>by
 rw [List.getElem?_drop] at hx
 have hlt:z + i < xs.length:=(List.getElem?_eq_some_iff.1 hx).1
 obtain ⟨b,off,ha,hj⟩:=h.h w hs _ x hx
 refine ⟨b,off + z * sz,?_,fun j v hv=>?_⟩
 ·unfold dropA
  rw [if_neg (by omega),ha,Option.map_some,Addr.add_eq]
 ·have:=hj j v hv
  rwa [Nat.add_mul,← Nat.add_assoc] at this⟩
theorem OpQ.slr (hT:T.ok P) {st:TypeId} {s i:Operand} {ty:TypeId} {ev:Operand → Option Value} {K:Value → Prop} {a:Option Addr} {n c:Nat} {k:IntKind} {z:Int} {e:TypeId} {c1:List Value} {a1:Bool} {s1 b1:Nat} {r2:TRow} (zn:Nat)
  (hs:ev s = some (.slice a n c)) (hi:ev i = some (.int k z)) (h1:T st = some ⟨.slice e,c1,a1,s1,b1⟩) (h2:T e = some r2) (hz:z = (zn:Int)) (hn:zn ≤ n) (hk:K (.slice (dropA a zn c r2.size) (n - zn) (c - zn))) :
  OpQ P W (.slice st s (some i) none none) ty ev H K:=by
 subst hz
 refine OpQ.sll hT hs hi h1 h2 ⟨by omega,by omega⟩ ?_
 unfold dropv
 rw [Int.toNat_natCast]
 exact hk
theorem LdN.rp {sz:Nat} {enc:α → List Value} {xs:List α} {b off i j n:Nat} {x:α} {l vs:List Value} {K:Value → Prop} [c:RowC W H (some ⟨b,off,none⟩) sz enc xs] [li:LitL (enc x) l] [s:LSub l j n vs] (hx:xs[i]? = some x) (k:K (.agg ⟨vs⟩)) :
  LdN W H ⟨b,off + i * sz + j,none⟩ n K:=⟨vs,s.h.2,fun q v hq w hs=>by
 obtain ⟨b',off',e,h⟩:=c.h w hs i x hx
 cases e
 have hq2:(enc x)[j + q]? = some v:=by
  rw [li.h]
  have h1:=s.h.1
  rw [← h1,List.getElem?_take] at hq
  split at hq
  ·rwa [List.getElem?_drop] at hq
  ·cases hq
 have:=h _ v hq2 w hs
 rwa [Addr.add_eq,Nat.add_assoc (off + i * sz)],k⟩
end
end Go.SL
/- Shifts and masks by known numbers; numbers brought to 64 bits. No condition. -/
namespace Go.SL
open Go
theorem Ar.u64w {e:Int} {K:Int → Prop} (hk:K (e % 18446744073709551616)):Ar .u64 e K:=⟨by
 have:IntKind.u64.wrap e = e % 18446744073709551616:=by simp [IntKind.wrap,IntKind.bits,IntKind.signed]
 rw [this];exact hk⟩
theorem Ar.u8w {e:Int} {K:Int → Prop} (hk:K (e % 256)):Ar .u8 e K:=⟨by rw [IntKind.wrap_u8];exact hk⟩
theorem Ar.i64w {e:Int} {K:Int → Prop} (hk:K ((e + 9223372036854775808) % 18446744073709551616 - 9223372036854775808)):Ar .i64 e K:=⟨by rw [IntKind.wrap_i64];exact hk⟩
def p2T:List (Nat × Int):=[(0,1),(1,2),(2,4),(3,8),(4,16),(5,32),(6,64),(7,128),(8,256),(12,4096),(14,16384),(16,65536),(20,1048576),(21,2097152),(24,16777216),(28,268435456),(31,2147483648),(32,4294967296),(35,34359738368),(40,1099511627776),(42,4398046511104),(48,281474976710656),(49,562949953421312),(56,72057594037927936),(62,4611686018427387904),(63,9223372036854775808)]
def p2L:List (Nat × Int) → Nat → Option Int
 | [],_=>none
 | (i,c) :: l,n=>match Nat.beq i n with
  | true=>some c
  | false=>p2L l n
theorem p2L_aux {n:Nat} {c:Int}:∀ l:List (Nat × Int),(∀ p ∈ l,(2:Int) ^ p.1 = p.2 ∧ p.1 ≤ 63) → p2L l n = some c → (2:Int) ^ n = c ∧ n ≤ 63
 | [],_,h=>by cases h
 | (i,d) :: l,hl,h=>by
  unfold p2L at h
  split at h
  ·rename_i e
   have:=Nat.eq_of_beq_eq_true e
   cases h
   exact this ▸ hl _ List.mem_cons_self
  ·exact p2L_aux l (fun q hq=>hl q (List.mem_cons_of_mem _ hq)) h
theorem p2L_eq {n:Nat} {c:Int} (h:p2L p2T n = some c):(2:Int) ^ n = c ∧ n ≤ 63:=p2L_aux p2T (by decide) h
theorem two_cast (j:Nat):((2 ^ j:Nat):Int) = 2 ^ j:=by simp
theorem Shr.i {k:IntKind} {n m c:Int} {K:Int → Prop} (h:p2L p2T m.toNat = some c) (h0:0 ≤ m ∧ m.toNat ≤ k.bits) (hk:K (n / c)):Shr k n m K:=by
 refine ⟨h0.1,?_⟩
 rw [Nat.min_eq_left h0.2,(p2L_eq h).1,Int.fdiv_eq_ediv_of_nonneg]
 ·exact hk
 ·rw [← (p2L_eq h).1];exact Int.le_of_lt (Int.pow_pos (by decide))
theorem Shl.i {k:IntKind} {n m c:Int} {K:Int → Prop} (h:p2L p2T m.toNat = some c) (h0:0 ≤ m ∧ m.toNat ≤ k.bits) (hk:Ar k (n * c) K):Shl k n m K:=by
 refine ⟨h0.1,?_⟩
 rw [Nat.min_eq_left h0.2,(p2L_eq h).1]
 exact hk.ex
theorem Bt.raw {op:BinOp} {k:IntKind} {n m:Int} {K:Int → Prop} (hk:K (bits op k n m)):Bt op k n m K:=⟨hk⟩
theorem bits_low (k:IntKind) (i:Nat) (hi:i < k.bits) (n:Int):bits .and k n (2 ^ i - 1) = n % 2 ^ i:=by
 have hp:(0:Int) < 2 ^ i:=Int.pow_pos (by decide)
 have hb:(0:Int) < 2 ^ k.bits:=Int.pow_pos (by decide)
 have h1:(BitVec.ofInt k.bits (2 ^ i - 1)).toNat = 2 ^ i - 1:=by
  have e:((2:Int) ^ i - 1) = ((2 ^ i - 1:Nat):Int):=by
   rw [Int.natCast_sub (Nat.one_le_two_pow)];simp
  rw [e,BitVec.ofInt_natCast,BitVec.toNat_ofNat]
  have h7:2 ^ i < 2 ^ k.bits:=Nat.pow_lt_pow_right (by decide) hi
  exact Nat.mod_eq_of_lt (Nat.lt_of_le_of_lt (Nat.sub_le _ _) h7)
 have h2:((BitVec.ofInt k.bits n).toNat:Int) = n % 2 ^ k.bits:=by
  rw [BitVec.toNat_ofInt,two_cast]
  exact Int.toNat_of_nonneg (Int.emod_nonneg n (Int.ne_of_gt hb))
 have h3:(((BitVec.ofInt k.bits n).toNat % 2 ^ i:Nat):Int) = n % 2 ^ i:=by
  rw [Int.natCast_emod,h2,two_cast]
  exact Int.emod_emod_of_dvd n ⟨2 ^ (k.bits - i),by rw [← Int.pow_add];congr 1;omega⟩
 simp only [bits,BitVec.toNat_and,h1,Nat.and_two_pow_sub_one_eq_mod,h3]
 have h4:=Int.emod_nonneg n (Int.ne_of_gt hp)
 have h5:=Int.emod_lt_of_pos n hp
 have h6:(2:Int) ^ i ≤ 2 ^ (k.bits - 1):=by
  exact_mod_cast Nat.pow_le_pow_right (by decide) (show i ≤ k.bits - 1 by omega)
 cases k <;> simp only [IntKind.bits,Nat.reduceSub,Int.reducePow] at h6 <;> simp [IntKind.wrap,IntKind.bits,IntKind.signed] <;> omega
def mT:List (Nat × Int):=[(0,0),(1,1),(2,3),(3,7),(4,15),(5,31),(6,63),(7,127),(8,255),(16,65535),(32,4294967295)]
theorem Bt.low {k:IntKind} {n m:Int} {K:Int → Prop} (i:Nat) {c:Int} (h:(2:Int) ^ i - 1 = m) (hi:i < k.bits) (hc:(2:Int) ^ i = c) (hk:K (n % c)):Bt .and k n m K:=by
 subst h hc
 exact ⟨by rw [bits_low k i hi];exact hk⟩
end Go.SL
/- make, copy, parts of rows; rows with their lengths. No condition. -/
namespace Go.SL
open Go
section
variable {P:Program} {W:World} {T:Tab} {α:Type} {t:TypeId} {sz:Nat} {enc:α → List Value} {a:Option Addr} {cap:Nat} {xs:List α} {H R:HProp}
class RowN {α:outParam Type} (W:World) (H:HProp) (a:Option Addr) (n:Nat) (sz:outParam Nat) (enc:outParam (α → List Value)) (xs:outParam (List α)):Prop where
 row:RowC W H a sz enc xs
 len:n = xs.length
instance (priority:=100) RowN.whole [c:RowC W H a sz enc xs]:RowN W H a xs.length sz enc xs:=⟨c,rfl⟩
instance (priority:=90) RowN.there {X:HProp} {n:Nat} [c:RowN W R a n sz enc xs]:RowN W (X•R) a n sz enc xs:=by
 haveI:=c.row
 exact ⟨inferInstance,c.len⟩
theorem madeCells_one (z:Value) (n:Nat):madeCells #[z] n = (List.replicate n z).toArray:=by
 simp only [madeCells]
 apply Array.ext
 ·simp
 ·intro i h1 h2
  simp [Nat.mod_one]
theorem flatMap_rep {x0:α} {z:Value} (h:enc x0 = [z]):∀ n:Nat,(List.replicate n x0).flatMap enc = List.replicate n z
 | 0=>rfl
 | n + 1=>by rw [List.replicate_succ,List.flatMap_cons,h,flatMap_rep h n,List.replicate_succ];rfl
theorem OpX.make (hT:T.ok P) {st e:TypeId} {l c:Operand} {ty:TypeId} {ev:Operand → Option Value} {K:Value → HProp → Prop} {Kp:List PanicEntry → HProp → Prop} {kl kc:IntKind} {n:Int} {z:Value} {c1:List Value} {a1 a2:Bool} {s1 b1 b2:Nat} {d:TypeDesc}
  (enc:α → List Value) (x0:α) (hl:ev l = some (.int kl n)) (hc:ev c = some (.int kc n)) (h1:T st = some ⟨.slice e,c1,a1,s1,b1⟩) (h2:T e = some ⟨d,[z],a2,1,b2⟩) (hx:enc x0 = [z]) (hz:z.cells = #[z])
  (hn:0 ≤ n ∧ (b2:Int) * n ≤ 281474976710656 ∧ n ≤ 9223372036854775807)
  (k:∀ b,W.heap.size ≤ b → K (.slice (some ⟨b,0,none⟩) n.toNat n.toNat) (SL.vec e 1 enc (some ⟨b,0,none⟩) n.toNat (List.replicate n.toNat x0)•H)) :
  OpX P W (.makeSlice st l c) ty ev H K Kp:=by
 have hu1:=(hT _ _ h1).und
 obtain ⟨i,hi,hsz,hby,hzz,hone⟩:=(hT _ _ h2).info
 refine ⟨fun w ρ hs he o' ho hty=>?_⟩
 obtain ⟨dst,op,ty',pos,after,guard⟩:=o'
 simp only at ho hty
 subst ho hty
 have hzc:∃ zz:Value,i.zero = some zz ∧ zz.cells = #[z]:=by
  rw [hzz]
  cases a2 with
  | true=>exact ⟨_,rfl,rfl⟩
  | false=>exact ⟨z,rfl,hz⟩
 obtain ⟨zz,hz1,hz2⟩:=hzc
 have hm:=run_make (P:=P) w st e i zz hu1 hi hz1 kl kc n n hn.1 (Int.le_refl _) (by rw [hby];exact hn.2.1) hn.2.2
 rw [hz2,hsz,Nat.mul_one,madeCells_one] at hm
 refine ⟨.value (.slice (some ⟨w.heap.size,0,none⟩) n.toNat n.toNat),w.alloc (.cells (List.replicate n.toNat z).toArray e),_,?_,?_,k w.heap.size hs.1.size⟩
 ·simp [execOp,he _ _ hl,he _ _ hc,hm]
 ·have hv:=vec_new (t:=e) (sz:=1) (enc:=enc) (xs:=List.replicate n.toNat x0) (b:=w.heap.size) (l:=List.replicate n.toNat z) (by rw [flatMap_rep hx])
  rw [List.length_replicate] at hv
  exact (hs.alloc _).mono (Ent.left hv)

theorem OpQ.slx (hT:T.ok P) {st:TypeId} {s i j:Operand} {ty:TypeId} {ev:Operand → Option Value} {K:Value → Prop} {n c:Nat} {k k':IntKind} {z y:Int} {e:TypeId} {c1:List Value} {a1:Bool} {s1 b1:Nat} {r2:TRow} (lo m:Nat)
  (hs:ev s = some (.slice a n c)) (hi:ev i = some (.int k z)) (hj:ev j = some (.int k' y)) (h1:T st = some ⟨.slice e,c1,a1,s1,b1⟩) (h2:T e = some r2) (hz:z = (lo:Int)) (hy:y = ((lo + m:Nat):Int)) (hc:lo + m ≤ c) (hk:K (.slice (dropA a lo c r2.size) m (c - lo))) :
  OpQ P W (.slice st s (some i) (some j) none) ty ev H K:=by
 refine ⟨_,fun w ρ hw he o' ho hty=>?_,hk⟩
 obtain ⟨dst,op,ty',pos,after,guard⟩:=o'
 simp only at ho hty
 subst ho hty
 have hu:=(hT _ _ h1).und
 have hel:P.elem st = e:=by simp [Program.elem,hu]
 have hu':P.underlying st = some (.slice (P.elem st)):=by rw [hel];exact hu
 have:=run_slice_lh (P:=P) (w:=w) st a n c hu' k k' z y (by omega) (by omega) (by omega)
 have e1:z.toNat = lo:=by omega
 have e2:y.toNat = lo + m:=by omega
 have e3:lo + m - lo = m:=by omega
 rw [hel,TRow.size_run (hT _ _ h2),e1,e2] at this
 simp [execOp,he _ _ hs,he _ _ hi,he _ _ hj,run_sliceAt_slice w st _ _ _ _ hu',this,Result.andThen,sliced,dropA,e3]
theorem OpX.slx (hT:T.ok P) {st:TypeId} {s i j:Operand} {ty:TypeId} {ev:Operand → Option Value} {K:Value → HProp → Prop} {Kp:List PanicEntry → HProp → Prop} {n c:Nat} {k k':IntKind} {z y:Int} {e:TypeId} {c1:List Value} {a1:Bool} {s1 b1:Nat} {r2:TRow} (lo m:Nat)
  (hs:ev s = some (.slice a n c)) (hi:ev i = some (.int k z)) (hj:ev j = some (.int k' y)) (h1:T st = some ⟨.slice e,c1,a1,s1,b1⟩) (h2:T e = some r2) (hz:z = (lo:Int)) (hy:y = ((lo + m:Nat):Int)) (hc:lo + m ≤ c) (hk:K (.slice (dropA a lo c r2.size) m (c - lo)) H) :
  OpX P W (.slice st s (some i) (some j) none) ty ev H K Kp:=OpX.of_quiet (OpQ.slx hT lo m hs hi hj h1 h2 hz hy hc hk)

theorem RowC.sub {m:Nat} (z:Nat) [s:SizedC sz enc] [c:VecC H a t sz enc cap xs R]:RowC W H (dropA a z cap sz) sz enc ((xs.drop z).take m):=by
 refine RowC.take m ⟨fun w hs i x hx=>?_⟩
 have hl:xs.length ≤ cap:=by
  have hw:=hs
  rw [c.h.eq] at hw
  exact vec_len hw
 have hc:RowC W H a sz enc xs:=RowC.vec s.h c.at'
 exact (RowC.drop z cap hl hc).h w hs i x hx
theorem OpX.cpy (hT:T.ok P) {st yt:TypeId} {s y:Operand} {ty:TypeId} {ev:Operand → Option Value} {K:Value → HProp → Prop} {Kp:List PanicEntry → HProp → Prop} {e:TypeId} {b:Option Addr} {ys:List α}
  {z dn dc m mc:Nat} {c1 c2:List Value} {a1 a2:Bool} {s1 b1 b2:Nat} {d:TypeDesc} {enc:α → List Value}
  [c:VecC H a t 1 enc cap xs R] [sc:SizedC 1 enc] [ro:RowC W H b 1 enc ys] (hs:ev s = some (.slice (dropA a z cap 1) dn dc)) (hy:ev y = some (.slice b m mc))
  (h1:T st = some ⟨.slice e,c1,a1,s1,b1⟩) (h2:T e = some ⟨d,c2,a2,1,b2⟩) (hm:m = ys.length) (hz:z + dn ≤ xs.length)
  (hl:∀ ys:List α,∀ v ∈ ys.flatMap enc,v.oneCell' = true)
  (k:K (.int .i64 (min m dn:Nat)) (SL.vec t 1 enc a cap (xs.take z ++ ys.take (min m dn) ++ xs.drop (z + min m dn))•R)) :
  OpX P W (.call ⟨.builtin .copy,⟨[s,y]⟩,⟨[st,yt]⟩⟩) ty ev H K Kp:=by
 subst hm
 have hu1:=(hT _ _ h1).und
 obtain ⟨i2,hi2,hsz,_⟩:=(hT _ _ h2).info
 have hs1:(P.info? e).map (·.size) = some 1:=by rw [hi2];simpa using hsz
 refine ⟨fun w ρ hw he o' ho hty=>?_⟩
 obtain ⟨dst,op,ty',pos,after,guard⟩:=o'
 simp only at ho hty
 subst ho hty
 by_cases h0:min ys.length dn = 0
 ·have hv:=run_copy_none (P:=P) w st yt ty' e (dropA a z cap 1) b dn dc ys.length mc hu1 hs1 h0
  rw [h0] at k
  simp only [List.take_zero,List.append_nil,Nat.add_zero,List.take_append_drop] at k
  refine ⟨.value (.int .i64 0),w,_,?_,hw,?_⟩
  ·simp [execOp,resolve,invoke,builtin,he _ _ hs,he _ _ hy,hv,goInt]
  ·rw [c.h.eq];exact k
 ·obtain ⟨zs,hzs⟩:∃ zs,zs = ys.take (min ys.length dn):=⟨_,rfl⟩
  have hzl:zs.length = min ys.length dn:=by rw [hzs];simp
  obtain ⟨y0,hy0⟩:∃ y0,ys[0]? = some y0:=by
   cases ys with
   | nil=>simp at h0
   | cons y l=>exact ⟨y,rfl⟩
  obtain ⟨bb,bo,rfl,_⟩:=ro.h w hw 0 y0 hy0
  have hfl:∀ l:List α,(l.flatMap enc).length = l.length:=fun l=>by rw [sc.h.flat,Nat.mul_one]
  have hsrc:∀ j v,(zs.flatMap enc)[j]? = some v → w.cell? ((⟨bb,bo,none⟩:Addr).add j) = some v:=by
   intro j v hj
   have hjl:j < zs.length:=by rw [← hfl];exact (List.getElem?_eq_some_iff.1 hj).1
   have hjy:ys[j]? = some ys[j]:=List.getElem?_eq_getElem (by omega)
   have hjz:zs[j]? = some ys[j]:=by subst hzs;rw [List.getElem?_take_of_lt (by omega)];exact hjy
   obtain ⟨b',o',e',hcell⟩:=ro.h w hw j _ hjy
   cases e'
   have h3:=Sized.get sc.h zs j 0 ys[j] ((enc ys[j])[0]'(by rw [sc.h];exact Nat.one_pos)) hjz (List.getElem?_eq_getElem _)
   rw [Nat.mul_one,Nat.add_zero,hj] at h3
   have h5:(enc ys[j])[0]? = some v:=by rw [h3];exact List.getElem?_eq_getElem _
   have h4:=hcell 0 v h5
   rw [Nat.mul_one,Nat.add_zero] at h4
   rw [Addr.add_eq]
   exact h4 w hw
  have hw0:=hw
  rw [c.h.eq] at hw
  cases hw.vec with
  | nil ha hc hx hs'=>subst hx;simp at hz;omega
  | mk g off pre junk ha hp hl' hj hs' =>
   subst ha
   have hda:dropA (some ⟨g,off,none⟩) z cap 1 = some ⟨g,off + z,none⟩:=by
    unfold dropA
    rw [if_neg (by omega),Option.map_some,Addr.add_eq,Nat.mul_one]
   let cur:List Value:=pre ++ xs.flatMap enc ++ junk
   have hcur:cur.length = off + xs.length + junk.length:=by simp [cur,hp,hfl];omega
   have hcp:=run_copy_row (P:=P) w st yt ty' e g (off + z) dn dc ⟨bb,bo,none⟩ ys.length mc ⟨cur⟩ t (zs.flatMap enc) hu1 hs1 hs'.at (by rw [hfl,hzl]) hsrc (by rw [hfl,hzl];show _ ≤ cur.length;omega) (hl zs)
   rw [hfl,hzl] at hcp
   have hnew:(cur.take (off + z) ++ zs.flatMap enc ++ cur.drop (off + z + min ys.length dn)) = pre ++ (xs.take z ++ zs ++ xs.drop (z + min ys.length dn)).flatMap enc ++ junk:=by
    have e1:cur.take (off + z) = pre ++ (xs.take z).flatMap enc:=by
     have:off + z = pre.length + z:=by omega
     rw [this]
     simp only [cur,List.append_assoc,List.take_length_add_append]
     rw [List.take_append_of_le_length (by rw [hfl];omega),flatMap_take sc.h xs z (by omega),Nat.mul_one]
    have e2:cur.drop (off + z + min ys.length dn) = (xs.drop (z + min ys.length dn)).flatMap enc ++ junk:=by
     have:off + z + min ys.length dn = pre.length + (z + min ys.length dn):=by omega
     rw [this]
     simp only [cur,List.append_assoc,List.drop_length_add_append]
     rw [List.drop_append_of_le_length (by rw [hfl];omega),flatMap_drop sc.h xs _ (by omega),Nat.mul_one]
    rw [e1,e2];simp
   have hlen2:(xs.take z ++ zs ++ xs.drop (z + min ys.length dn)).length = xs.length:=by simp [hzl];omega
   subst hzs
   refine ⟨.value (.int .i64 (min ys.length dn:Nat)),w.setRow g (cur.take (off + z) ++ (ys.take (min ys.length dn)).flatMap enc ++ cur.drop (off + z + min ys.length dn)).toArray,_,?_,?_,k⟩
   ·simp [execOp,resolve,invoke,builtin,he _ _ hs,he _ _ hy,hda,hcp,goInt]
   ·have h5:=hs'.set (o':=.cells ⟨pre ++ (xs.take z ++ ys.take (min ys.length dn) ++ xs.drop (z + min ys.length dn)).flatMap enc ++ junk⟩ t (0,0)) (w':=w.setRow g (cur.take (off + z) ++ (ys.take (min ys.length dn)).flatMap enc ++ cur.drop (off + z + min ys.length dn)).toArray) ?_ ?_ ?_
    ·exact h5.mono (Ent.left (vec_some hp (by omega) (by rw [hlen2];exact hj)))
    ·exact ⟨rfl,rfl,rfl,by simp⟩
    ·rw [setRow_heap w g _ _ t _ hs'.at,hnew]
    ·intro j hj
     exact setRow_other w g j _ hj
class OneC {α:Type} (enc:α → List Value):Prop where h:∀ ys:List α,∀ v ∈ ys.flatMap enc,v.oneCell' = true
theorem OpX.appE (hT:T.ok P) {st:TypeId} {s y:Operand} {ty:TypeId} {ev:Operand → Option Value} {K:Value → HProp → Prop} {Kp:List PanicEntry → HProp → Prop} {b:Option Addr} {ys:List α} {bl:Nat} {R':HProp}
  {m cap':Nat} {c1 c2:List Value} {a1 a2:Bool} {s1 b1 b2:Nat} {d:TypeDesc}
  [p:PtsC H bl (.cells ⟨[]⟩ t (0,0)) R'] [sc:SizedC sz enc] [oc:OneC enc] [e:RowC W H b sz enc ys] (hs:ev s = some (.slice (some ⟨bl,0,none⟩) 0 0)) (hy:ev y = some (.slice b m cap'))
  (h1:T st = some ⟨.slice t,c1,a1,s1,b1⟩) (h2:T t = some ⟨d,c2,a2,sz,b2⟩) (hl:c2.length = sz) (hm:m = ys.length) (hb:2 * ys.length * b2 ≤ 281474976710656 ∧ ys.length ≤ 9223372036854775807)
  (k:∀ a' cap',K (.slice a' m cap') (SL.vec t sz enc a' cap' ys•R')) :
  OpX P W (.call ⟨.builtin .append,⟨[s,y]⟩,⟨[st,st]⟩⟩) ty ev H K Kp:=by
 subst hm
 refine OpX.appendI (xs:=([]:List α)) (R:=R') hT sc.h oc.h h1 rfl h2 rfl hl h1 (fun k e=>by cases e) hs rfl hy (ys:=ys) (RowC.src sc.h rfl) rfl ?_ (by simpa using hb) (fun a' c'=>?_)
 ·rw [p.h.eq]
  exact Imp.left (vec_new (xs:=([]:List α)) rfl).imp
 ·have:=k a' c'
  rwa [← Nat.zero_add ys.length] at this
theorem OpX.appRg (hT:T.ok P) {st:TypeId} {s y:Operand} {ty:TypeId} {ev:Operand → Option Value} {K:Value → HProp → Prop} {Kp:List PanicEntry → HProp → Prop} {b:Option Addr} {ys:List α}
  {n m cap cap':Nat} {c1 c2:List Value} {a1 a2:Bool} {s1 b1 b2:Nat} {d:TypeDesc}
  [c:VecC H a t sz enc cap xs R] [sc:SizedC sz enc] [oc:OneC enc] [e:RowC W H b sz enc ys] (hs:ev s = some (.slice a n cap)) (hy:ev y = some (.slice b m cap'))
  (h1:T st = some ⟨.slice t,c1,a1,s1,b1⟩) (h2:T t = some ⟨d,c2,a2,sz,b2⟩) (hl:c2.length = sz) (hn:n = xs.length) (hm:m = ys.length) (hb:2 * (xs.length + ys.length) * b2 ≤ 281474976710656 ∧ xs.length + ys.length ≤ 9223372036854775807)
  (k:∀ a' cap',K (.slice a' (xs ++ ys).length cap') (SL.vec t sz enc a' cap' (xs ++ ys)•R)) :
  OpX P W (.call ⟨.builtin .append,⟨[s,y]⟩,⟨[st,st]⟩⟩) ty ev H K Kp:=by
 refine OpX.appR hT hs hy h1 h2 hn hm hb ⟨hl,oc.h⟩ (fun a' c'=>?_)
 have:=k a' c'
 rwa [List.length_append,← hn,← hm] at this
theorem OpX.app1g (hT:T.ok P) {st:TypeId} {s y:Operand} {ty:TypeId} {ev:Operand → Option Value} {K:Value → HProp → Prop} {Kp:List PanicEntry → HProp → Prop}
  {n bl:Nat} {l:List Value} {c1 c2:List Value} {a1 a2:Bool} {s1 b1 b2:Nat} {d:TypeDesc} {R':HProp} {fz:Nat × Nat}
  [c:VecC H a t sz enc cap xs R] [sc:SizedC sz enc] [oc:OneC enc] (hs:ev s = some (.slice a n cap)) (hy:ev y = some (.slice (some ⟨bl,0,none⟩) 1 1))
  (h1:T st = some ⟨.slice t,c1,a1,s1,b1⟩) (h2:T t = some ⟨d,c2,a2,sz,b2⟩) (hl:c2.length = sz)
  [p:PtsC H bl (.cells ⟨l⟩ t fz) R'] {x:α} [dx:DecOf enc l x] (hn:n = xs.length) (hb:2 * (xs.length + 1) * b2 ≤ 281474976710656 ∧ xs.length + 1 ≤ 9223372036854775807)
  (k:∀ a' cap',K (.slice a' (xs ++ [x]).length cap') (SL.vec t sz enc a' cap' (xs ++ [x])•R)) :
  OpX P W (.call ⟨.builtin .append,⟨[s,y]⟩,⟨[st,st]⟩⟩) ty ev H K Kp:=by
 refine OpX.app1 hT hs hy h1 h2 x dx.h hn hb ⟨hl,oc.h⟩ (fun a' c'=>?_)
 have:=k a' c'
 rwa [List.length_append,← hn] at this
theorem Ld.rx {b off i:Nat} {K:Value → Prop} [c:RowC W H (some ⟨b,off,none⟩) 1 enc xs] (hi:i < xs.length) (hk:∀ x,xs[i]? = some x → ∃ u,enc x = [u] ∧ K u):Ld W H ⟨b,off + i * 1,none⟩ K:=by
 obtain ⟨v,e,k⟩:=hk _ (List.getElem?_eq_getElem hi)
 exact Ld.r0 (List.getElem?_eq_getElem hi) (by rw [e];rfl) k
theorem Ar.i64d {n c:Int} {K:Int → Prop} (h:0 ≤ n ∧ n ≤ 9223372036854775807) (hc:0 < c) (hk:K (n / c)):Ar .i64 (n.tdiv c) K:=by
 rw [Int.tdiv_eq_ediv_of_nonneg h.1]
 refine Ar.i64 ⟨?_,?_⟩ hk
 ·have:=Int.ediv_nonneg h.1 (Int.le_of_lt hc);omega
 ·have:=Int.ediv_le_self c h.1;omega
theorem OpQ.maxB {x y:Operand} {tys:Array TypeId} {ty:TypeId} {ev:Operand → Option Value} {K:Value → Prop} {k k':IntKind} {n m:Int} (hx:ev x = some (.int k n)) (hy:ev y = some (.int k' m)) (hk:K (.int k (max n m))):OpQ P W (.call ⟨.builtin .max,⟨[x,y]⟩,tys⟩) ty ev H K:=by
 refine ⟨_,fun w ρ hw he o' ho hty=>?_,hk⟩
 obtain ⟨dst,op,ty',pos,after,guard⟩:=o'
 simp only at ho hty
 subst ho hty
 have:(if m > n then m else n) = max n m:=by rw [Int.max_def];split <;> split <;> omega
 simp [execOp,resolve,invoke,builtin,he _ _ hx,he _ _ hy,run_max_int2,this]
theorem OpQ.minB {x y:Operand} {tys:Array TypeId} {ty:TypeId} {ev:Operand → Option Value} {K:Value → Prop} {k k':IntKind} {n m:Int} (hx:ev x = some (.int k n)) (hy:ev y = some (.int k' m)) (hk:K (.int k (min n m))):OpQ P W (.call ⟨.builtin .min,⟨[x,y]⟩,tys⟩) ty ev H K:=by
 refine ⟨_,fun w ρ hw he o' ho hty=>?_,hk⟩
 obtain ⟨dst,op,ty',pos,after,guard⟩:=o'
 simp only at ho hty
 subst ho hty
 have:(if m < n then m else n) = min n m:=by rw [Int.min_def];split <;> split <;> omega
 simp [execOp,resolve,invoke,builtin,he _ _ hx,he _ _ hy,run_min_int2,this]
theorem OpX.maxB {x y:Operand} {tys:Array TypeId} {ty:TypeId} {ev:Operand → Option Value} {K:Value → HProp → Prop} {Kp:List PanicEntry → HProp → Prop} {k k':IntKind} {n m:Int} (hx:ev x = some (.int k n)) (hy:ev y = some (.int k' m)) (hk:K (.int k (max n m)) H):OpX P W (.call ⟨.builtin .max,⟨[x,y]⟩,tys⟩) ty ev H K Kp:=OpX.of_quiet (OpQ.maxB hx hy hk)
theorem OpX.minB {x y:Operand} {tys:Array TypeId} {ty:TypeId} {ev:Operand → Option Value} {K:Value → HProp → Prop} {Kp:List PanicEntry → HProp → Prop} {k k':IntKind} {n m:Int} (hx:ev x = some (.int k n)) (hy:ev y = some (.int k' m)) (hk:K (.int k (min n m)) H):OpX P W (.call ⟨.builtin .min,⟨[x,y]⟩,tys⟩) ty ev H K Kp:=OpX.of_quiet (OpQ.minB hx hy hk)
theorem OpX.cpyW (hT:T.ok P) {st yt:TypeId} {s y:Operand} {ty:TypeId} {ev:Operand → Option Value} {K:Value → HProp → Prop} {Kp:List PanicEntry → HProp → Prop} {e:TypeId} {b:Option Addr} {ys:List α}
  {z dn dc m mc:Nat} {c1 c2:List Value} {a1 a2:Bool} {s1 b1 b2:Nat} {d:TypeDesc} {enc:α → List Value}
  [c:VecC H a t 1 enc cap xs R] [sc:SizedC 1 enc] [oc:OneC enc] (ro:RowC W H b 1 enc ys) (hs:ev s = some (.slice (dropA a z cap 1) dn dc)) (hy:ev y = some (.slice b m mc))
  (h1:T st = some ⟨.slice e,c1,a1,s1,b1⟩) (h2:T e = some ⟨d,c2,a2,1,b2⟩) (hm:m = ys.length) (hd:ys.length ≤ dn) (hz:z + dn ≤ xs.length)
  (k:K (.int .i64 m) (SL.vec t 1 enc a cap (xs.take z ++ ys ++ xs.drop (z + ys.length))•R)) :
  OpX P W (.call ⟨.builtin .copy,⟨[s,y]⟩,⟨[st,yt]⟩⟩) ty ev H K Kp:=by
 subst hm
 have e1:min ys.length dn = ys.length:=Nat.min_eq_left hd
 refine OpX.cpy hT hs hy h1 h2 rfl hz oc.h ?_
 rw [e1,List.take_of_length_le (Nat.le_refl _)]
 exact k
class MemC {α:Type} (l:List α) (x:α):Prop where h:x ∈ l
theorem bigL_mem {α:Type} (f:α → HProp) {l:List α} {x:α} (h:x ∈ l):∃ R,bigL f l = (f x•R):=by
 obtain ⟨i,hi⟩:=List.getElem?_of_mem h
 exact ⟨_,bigL_take f l i x hi⟩
theorem bigL_snoc {α:Type} (f:α → HProp) (l:List α) (x:α):bigL f (l ++ [x]) = (f x•bigL f l):=by
 rw [bigL_append,star_comm]
 show ((f x•emp)•bigL f l) = _
 rw [star_emp]
theorem Does.vlen {f:FuncId} {args:Array Value} {V:Option Addr → Nat → Value} (h:Does P W f args H (Ret fun v G=>∃ a c,v = V a c ∧ G = (SL.vec t sz enc a c xs•R))) :
  Does P W f args H (Ret fun v G=>∃ a c,xs.length ≤ c ∧ v = V a c ∧ G = (SL.vec t sz enc a c xs•R)):=by
 refine h.post fun e w H' hs hq=>?_
 obtain ⟨v,G,he,hi,a,c,hv,hG⟩:=hq
 exact ⟨H',hs,v,G,he,hi,a,c,vec_len (by have:=hs.imp hi;rw [hG] at this;exact this),hv,hG⟩
class KeepC (H:HProp) (A:outParam HProp):Prop where h:Imp H A
instance (priority:=10) KeepC.all:KeepC H H:=⟨Imp.refl _⟩
instance (priority:=50) KeepC.star {X A:HProp} [k:KeepC R A]:KeepC (X•R) (X•A):=⟨Imp.right k.h⟩
instance (priority:=100) KeepC.vec {A:HProp} [k:KeepC R A]:KeepC (SL.vec t sz enc a cap xs•R) A:=⟨Imp.trans Imp.drop k.h⟩
instance (priority:=100) KeepC.big {β:Type} {f:β → HProp} {l:List β} {A:HProp} [k:KeepC R A]:KeepC (bigL f l•R) A:=⟨Imp.trans Imp.drop k.h⟩
instance (priority:=110) KeepC.vecl:KeepC (SL.vec t sz enc a cap xs) emp:=⟨Imp.emp _⟩
theorem DrawK.introK {N:Nat} (hT:T.ok P) (hm:P.follows .mixedOrders = true) {ops:List Oper} (n:Nat) (F plan:List Nat) {A:HProp} {fr:Fr} {ds:List Deferred} {K:ContK} {Kp:PanK} [k:KeepC H A]
  (_:fstDst ops = n) (hp:plannedOk ops F plan = true) (h:execPlan P W T N A ops F plan fr ds H K fun c _ ds H=>Kp c [] ds H):DrawK P W T N ops fr ds H K Kp:=DrawK.intro hT hm F plan A hp (Sub.of k.h) h
end
end Go.SL
