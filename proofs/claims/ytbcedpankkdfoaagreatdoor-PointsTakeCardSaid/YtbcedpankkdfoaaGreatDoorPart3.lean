/- A region that draws its order, in one order: quiet operations on what stays, the others one behind the other. No condition. -/
import Derived.Test.YtbcedpankkdfoaaGreatDoorPart2
import Derived.OrdersHeld
import Derived.IntWalk
set_option linter.unusedVariables false
set_option linter.unusedSimpArgs false
namespace Go.SL
open Go

def planOk (ops:List Oper) (F:List Nat):List Nat → Array Bool → Bool
 | [],listed=>(Region.ready .any ⟨ops⟩ listed).isEmpty
 | i :: rest,listed=>match ops[i]? with
  | none=>false
  | some o=>(match quietOp o.op && !F.contains i with
    | true=>(Region.ready .any ⟨ops⟩ listed).contains i && Region.free .any ⟨ops⟩ listed i
    | false=>Region.ready .any ⟨ops⟩ listed == [i]) &&
    (!F.contains i || rest.all F.contains) && planOk ops F rest (listed.setIfInBounds i true)
def maskOf (acc:List Nat):List Edge → Nat
 | []=>0
 | e :: es=>match Region.binds .any e with
  | true=>((1 <<< e.on) ||| acc.getD e.on 0) ||| maskOf acc es
  | false=>maskOf acc es
def ancs:List Oper → List Nat → List Nat
 | [],acc=>acc
 | o :: r,acc=>ancs r (acc ++ [maskOf acc o.after.toList])
def lastOk (ops:List Oper) (F:List Nat):Bool:=match F with
 | []=>true
 | _=>F.all fun j=>match (ancs ops [])[j]? with
  | none=>false
  | some m=>(List.range ops.length).all fun i=>F.contains i || m.testBit i
def Closed (ops:Array Oper) (listed:Array Bool):Prop:=∀ (k:Nat) o,listed.getD k false = true → ops[k]? = some o → ∀ e ∈ o.after,Region.binds .any e = true → listed.getD e.on false = true
def Waits (ops:Array Oper) (k i:Nat):Prop:=∀ listed,Closed ops listed → (∀ o,ops[k]? = some o → ∀ e ∈ o.after,Region.binds .any e = true → listed.getD e.on false = true) → listed.getD i false = true
theorem maskOf_bit {acc:List Nat} {i:Nat}:∀ {es:List Edge},(maskOf acc es).testBit i = true → ∃ e ∈ es,Region.binds .any e = true ∧ (e.on = i ∨ (acc.getD e.on 0).testBit i = true)
 | [],h=>by simp [maskOf] at h
 | e :: es,h=>by
  unfold maskOf at h
  split at h
  ·rename_i hb
   simp only [Nat.testBit_or,Bool.or_eq_true] at h
   rcases h with (h|h)|h
   ·rw [Nat.one_shiftLeft,Nat.testBit_two_pow] at h
    exact ⟨e,List.mem_cons_self,hb,.inl (by simpa using h)⟩
   ·exact ⟨e,List.mem_cons_self,hb,.inr h⟩
   ·obtain ⟨e',h1,h2⟩:=maskOf_bit h
    exact ⟨e',List.mem_cons_of_mem _ h1,h2⟩
  ·obtain ⟨e',h1,h2⟩:=maskOf_bit h
   exact ⟨e',List.mem_cons_of_mem _ h1,h2⟩
theorem ancs_good (ops:List Oper):∀ (r:List Oper) (acc:List Nat),ops.drop acc.length = r → (∀ (k m i:Nat),acc[k]? = some m → m.testBit i = true → Waits ⟨ops⟩ k i) →
  ∀ (k m i:Nat),(ancs r acc)[k]? = some m → m.testBit i = true → Waits ⟨ops⟩ k i
 | [],acc,_,h=>h
 | o :: r,acc,hr,h=>by
  have hlt:acc.length < ops.length:=by
   rcases Nat.lt_or_ge acc.length ops.length with h'|h'
   ·exact h'
   ·rw [List.drop_eq_nil_of_le h'] at hr;cases hr
  have hdr:ops[acc.length] :: ops.drop (acc.length + 1) = o :: r:=by rw [← hr];exact (List.drop_eq_getElem_cons hlt).symm
  have ho:ops[acc.length] = o:=(List.cons.inj hdr).1
  refine ancs_good ops r _ (by rw [List.length_append];exact (List.cons.inj hdr).2) fun k m i hk hm=>?_
  by_cases hka:k < acc.length
  ·rw [List.getElem?_append_left hka] at hk
   exact h k m i hk hm
  ·have hk':k = acc.length:=by
    have:=(List.getElem?_eq_some_iff.1 hk).1
    simp at this
    omega
   subst hk'
   rw [List.getElem?_append_right (Nat.le_refl _),Nat.sub_self] at hk
   cases hk
   obtain ⟨e,he,hb,hi⟩:=maskOf_bit hm
   intro listed hc hready
   have hoa:(⟨ops⟩:Array Oper)[acc.length]? = some o:=by simp [hlt,ho]
   have hl:=hready o hoa e (by simpa using he) hb
   rcases hi with rfl|hi
   ·exact hl
   ·cases ha:acc[e.on]? with
    | none=>simp [List.getD,ha] at hi
    | some m' =>
     have:(acc.getD e.on 0) = m':=by simp [List.getD,ha]
     rw [this] at hi
     exact h e.on m' i ha hi listed hc (fun o' ho'=>hc e.on o' hl ho')
theorem lastOk_waits {ops:List Oper} {F:List Nat} (h:lastOk ops F = true) {i j:Nat} (hi:i < ops.length) (hiF:F.contains i = false) (hj:F.contains j = true):Waits ⟨ops⟩ j i:=by
 unfold lastOk at h
 split at h
 ·simp at hj
 ·rw [List.all_eq_true] at h
  have:=h j (by simpa using hj)
  split at this
  ·cases this
  ·rename_i m hm
   rw [List.all_eq_true] at this
   have h2:=this i (by simpa using hi)
   rw [hiF,Bool.false_or] at h2
   exact ancs_good ops ops [] (by simp) (fun k m i hk _=>by simp at hk) j m i hm h2
theorem Closed.none {ops:Array Oper} (n:Nat):Closed ops (Array.replicate n false):=fun k o h=>by
 simp [Array.getD_eq_getD_getElem?,Array.getElem?_replicate] at h
 split at h <;> simp_all
theorem Closed.put {ops:Array Oper} {listed:Array Bool} {j:Nat} (h:Closed ops listed) (hj:j ∈ Region.ready .any ops listed):Closed ops (listed.setIfInBounds j true):=fun k o hk ho e he hb=>by
 refine getD_set_true ?_
 by_cases e1:k = j
 ·subst e1
  obtain ⟨_,oj,hoj,hall⟩:=mem_ready.1 hj
  rw [ho] at hoj;cases hoj
  exact hall e he hb
 ·rw [getD_set_ne false (Ne.symm e1)] at hk
  exact h k o hk ho e he hb
def plannedOk (ops:List Oper) (F plan:List Nat):Bool :=
 Region.noSelect ⟨ops⟩ && plan.length == ops.length && lastOk ops F && planOk ops F plan (Array.replicate ops.length false)

section
variable {P:Program} {ops:Array Oper} {Q:Exit → Act → World → Prop} {S:World → Prop} {F:List Nat}
def wpAnyF (P:Program) (ops:Array Oper) (Q:Exit → Act → World → Prop) (S:World → Prop) (F:List Nat):Nat → Array Bool → Act → World → Prop
 | 0,listed,a,w=>Region.ready .any ops listed = [] ∧ Q .normal a w
 | fuel + 1,listed,a,w=>(Region.ready .any ops listed = [] → Q .normal a w) ∧
  ∀ i ∈ Region.ready .any ops listed,wpOp P ops Q i (fun a' w'=>(F.contains i = false → S w') ∧ wpAnyF P ops Q S F fuel (listed.setIfInBounds i true) a' w') a w
theorem wpAnyF.any:∀ (fuel:Nat) (listed:Array Bool) (a:Act) (w:World),wpAnyF P ops Q S F fuel listed a w → wpAny P .any ops Q fuel listed a w
 | 0,_,_,_,h=>h
 | fuel + 1,_,_,_,h=>⟨h.1,fun i hi=>wpOp_mono (fun a' w' h'=>wpAnyF.any fuel _ a' w' h'.2) (h.2 i hi)⟩
theorem wpAnyF.done {listed:Array Bool} {a:Act} {w:World} (hr:Region.ready .any ops listed = []) (h:Q .normal a w):∀ fuel,wpAnyF P ops Q S F fuel listed a w
 | 0=>⟨hr,h⟩
 | _ + 1=>⟨fun _=>h,by rw [hr];simp⟩
theorem wpAnyF.one {i:Nat} {fuel:Nat} {listed:Array Bool} {a:Act} {w:World} (hr:Region.ready .any ops listed = [i])
  (h:wpOp P ops Q i (fun a' w'=>(F.contains i = false → S w') ∧ wpAnyF P ops Q S F fuel (listed.setIfInBounds i true) a' w') a w):wpAnyF P ops Q S F (fuel + 1) listed a w :=
 ⟨fun h0=>(by rw [hr] at h0;cases h0),fun j hj=>(by
  rw [hr] at hj
  obtain rfl:j = i:=by simpa using hj
  exact h)⟩
theorem wpAnyF.first {i:Nat} {oi:Oper} {v:Value} (hi:ops[i]? = some oi) (hiF:F.contains i = false)
  (hF:∀ j,F.contains j = true → Waits ops j i)
  (hsel:∀ (j:Nat) (o:Oper) cs b,ops[j]? = some o → o.op ≠ .select cs b) (hQ:∀ c a w,Q (.panic c) (a.put oi.dst v) w → Q (.panic c) a w) :
  ∀ (fuel:Nat) (listed:Array Bool) (a:Act) (w:World),
   (∀ j oj,ops[j]? = some oj → j ≠ i → listed.getD j true = false → (∀ e ∈ oj.after,Region.binds .any e = true → e.on ≠ i) → oi.apart ops oj = true) →
   i ∈ Region.ready .any ops listed → Closed ops listed → YieldsIf P ops S oi v a → S w →
   wpAnyF P ops Q S F fuel (listed.setIfInBounds i true) (a.put oi.dst v) w → wpAnyF P ops Q S F (fuel + 1) listed a w:=by
 intro fuel
 induction fuel with
 | zero =>
  intro listed a w _ hr _ hy hS h
  refine ⟨fun h0=>(by rw [h0] at hr;cases hr),fun j hj=>?_⟩
  by_cases hji:j = i
  ·subst hji;exact hy.wpOp hi hS ⟨fun _=>hS,h⟩
  ·have:=ready_mono hj hji
   rw [h.1] at this;cases this
 | succ fuel ih =>
  intro listed a w hfree hr hcl hy hS h
  refine ⟨fun h0=>(by rw [h0] at hr;cases hr),fun j hj=>?_⟩
  by_cases hji:j = i
  ·subst hji;exact hy.wpOp hi hS ⟨fun _=>hS,h⟩
  ·have h1:=h.2 j (ready_mono hj hji)
   obtain ⟨hjun,oj,hoj,hall⟩:=mem_ready.1 hj
   have hnot:∀ e ∈ oj.after,Region.binds .any e = true → e.on ≠ i:=fun e he hb heq=>by
    have h2:=hall e he hb
    have h0:=(mem_ready.1 hr).1
    rw [heq] at h2
    rcases Nat.lt_or_ge i listed.size with h'|h'
    ·simp [h'] at h0 h2;rw [h0] at h2;cases h2
    ·simp [Array.getElem?_eq_none h'] at h2
   have hjF:F.contains j = false:=by
    cases hc:F.contains j with
    | false=>rfl
    | true =>
     have h2:=hF j hc listed hcl (fun o ho=>by rw [hoj] at ho;cases ho;exact hall)
     have h0:=(mem_ready.1 hr).1
     rcases Nat.lt_or_ge i listed.size with h'|h'
     ·simp [h'] at h0 h2;rw [h0] at h2;cases h2
     ·simp [Array.getElem?_eq_none h'] at h2
   have h2:=wpOp_putIf hoj (hfree j oj hoj hji hjun hnot) (fun cs b=>hsel i oi cs b hi) (fun cs b=>hsel j oj cs b hoj) hQ hy h1
   have hfree':∀ k ok,ops[k]? = some ok → k ≠ i → (listed.setIfInBounds j true).getD k true = false →
     (∀ e ∈ ok.after,Region.binds .any e = true → e.on ≠ i) → oi.apart ops ok = true:=fun k ok hk hki hun hno=>by
    refine hfree k ok hk hki ?_ hno
    by_cases hjk:j = k
    ·subst hjk;exact hjun
    ·rw [getD_set_ne true hjk] at hun;exact hun
   refine wpOp_mono (fun a' w' h3=>?_) h2
   obtain ⟨hy',hS',h4⟩:=h3
   refine ⟨hS',ih (listed.setIfInBounds j true) a' w' hfree' (ready_mono hr (Ne.symm hji)) (hcl.put hj) hy' (hS' hjF) ?_⟩
   rw [Array.setIfInBounds_comm _ _ hji]
   exact h4
end

def Sub (W:World) (H A:HProp):Prop:=∀ w,Sat W H w → Sat W A w
theorem Sub.refl (W:World) (H:HProp):Sub W H H:=fun _ h=>h
theorem Sub.left {W:World} {P Q A:HProp} (h:Sub W P A):Sub W (P•Q) A:=fun w hs=>h w hs.left
theorem Sub.right {W:World} {P Q A:HProp} (h:Sub W Q A):Sub W (P•Q) A:=fun w hs=>h w hs.right

def guarded (all:List Oper) (o:Oper) (fr:Fr) (run skip:Fr → Prop):Prop:=match o.guard with
  | none=>run fr
  | some (j,want)=>match all[j]? with
    | some ⟨some t,_,_,_,_,_⟩=>match fr.get t with
      | some (.bool b) => spl b
          (match want with
           | true=>run ((t,.bool true) :: fr)
           | false=>skip ((t,.bool true) :: fr))
          (match want with
           | false=>run ((t,.bool false) :: fr)
           | true=>skip ((t,.bool false) :: fr))
      | some (.tuple _)=>skip fr
      | _=>False
    | _=>False

def execPlan (P:Program) (W:World) (T:Tab) (N:Nat) (A:HProp) (all:List Oper) (F:List Nat):List Nat → Fr → List Deferred → HProp → ContK → PanK → Prop
 | [],fr,ds,H,K,_=>K fr ds H
 | i :: rest,fr,ds,H,K,Kp=>match all[i]? with
  | some o=>guarded all o fr
    (fun fr=>match quietOp o.op && !F.contains i with
     | true=>opK P W T o.op o.type fr.eval A (fun v _=>putK N fr v (fun fr=>execPlan P W T N A all F rest fr ds H K Kp) o.dst) (fun _ _=>False)
       (OpQ P W o.op o.type fr.eval A fun v=>putK N fr v (fun fr=>execPlan P W T N A all F rest fr ds H K Kp) o.dst)
     | false=>op1 P W T N o fr ds H (fun fr ds H=>match F.contains i with
      | true=>execPlan P W T N A all F rest fr ds H K Kp
      | false=>Req (Sub W H A) (execPlan P W T N A all F rest fr ds H K Kp)) fun c _ ds H=>Kp c [] ds H)
    (fun fr=>putK N fr undef (fun fr=>execPlan P W T N A all F rest fr ds H K Kp) o.dst)
  | none=>False

def LiftD (W:World) (N:Nat) (K:ContK) (Kp:PanK):Exit → Act → World → Prop
 | .normal,a,w=>∃ fr H,fr.rep a.tmps ∧ a.tmps.size = N ∧ Sat W H w ∧ K fr a.defers H
 | .panic c,a,w=>∃ H,a.tmps.size = N ∧ Sat W H w ∧ Kp c [] a.defers H
 | _,_,_=>False

section
variable {P:Program} {W:World} {T:Tab} {N:Nat} {A:HProp}

theorem guarded_elim {all:List Oper} {o:Oper} {fr:Fr} {run skip:Fr → Prop} {a:Act} (hrep:fr.rep a.tmps) (h:guarded all o fr run skip) :
  ∃ fr',fr'.rep a.tmps ∧ ((Region.wanted o (yielded ⟨all⟩ a.tmps) = true ∧ run fr') ∨ (Region.wanted o (yielded ⟨all⟩ a.tmps) = false ∧ skip fr')):=by
 unfold guarded at h
 split at h
 ·rename_i hg
  exact ⟨fr,hrep,.inl ⟨by simp [Region.wanted,hg],h⟩⟩
 ·rename_i j want hg
  split at h
  ·rename_i t op ty pos after guard ho
   split at h
   ·rename_i b hb
    have hy:yielded ⟨all⟩ a.tmps j = some b:=by
     have:=hrep _ _ hb
     simp [yielded,ho,this]
    have hrep':Fr.rep ((t,.bool b) :: fr) a.tmps:=Fr.rep_cons hrep (hrep _ _ hb)
    simp only [Region.wanted,hg,hy]
    rcases spl_elim h with ⟨rfl,h⟩|⟨rfl,h⟩
    ·cases want with
     | true=>exact ⟨_,hrep',.inl ⟨rfl,h⟩⟩
     | false=>exact ⟨_,hrep',.inr ⟨rfl,h⟩⟩
    ·cases want with
     | true=>exact ⟨_,hrep',.inr ⟨rfl,h⟩⟩
     | false=>exact ⟨_,hrep',.inl ⟨rfl,h⟩⟩
   ·rename_i vs hb
    have hy:yielded ⟨all⟩ a.tmps j = none:=by
     have:=hrep _ _ hb
     simp [yielded,ho,this]
    exact ⟨fr,hrep,.inr ⟨by simp [Region.wanted,hg,hy],h⟩⟩
   ·exact h.elim
  ·exact h.elim

theorem execPlan_sound (hT:T.ok P) (all:List Oper) (F:List Nat) (hsel:Region.noSelect ⟨all⟩ = true) (hF:lastOk all F = true) {K:ContK} {Kp:PanK} :
  ∀ (plan:List Nat) (k:Nat) (listed:Array Bool) (fr:Fr) (ds:List Deferred) (H:HProp),planOk all F plan listed = true →
   execPlan P W T N A all F plan fr ds H K Kp → Closed ⟨all⟩ listed → ∀ (a:Act) (w:World),fr.rep a.tmps → a.tmps.size = N → a.defers = ds → Sat W H w → ((∃ i ∈ plan,F.contains i = false) → Sat W A w) →
   wpAnyF P ⟨all⟩ (LiftD W N K Kp) (Sat W A) F (plan.length + k) listed a w
 | [],k,listed,fr,ds,H,hp,h,_,a,w,hrep,hN,hd,hs,hA=>by
  simp only [planOk,List.isEmpty_iff] at hp
  exact wpAnyF.done hp ⟨fr,H,hrep,hN,hs,hd ▸ h⟩ _
 | i :: rest,k,listed,fr,ds,H,hp,h,hcl,a,w,hrep,hN,hd,hs,hA=>by
  have ih:=execPlan_sound hT all F hsel hF (K:=K) (Kp:=Kp) rest k (listed.setIfInBounds i true)
  unfold execPlan at h
  split at h
  ·rename_i o ho
   have hoa:(⟨all⟩:Array Oper)[i]? = some o:=by simpa using ho
   simp only [planOk,ho,Bool.and_eq_true] at hp
   obtain ⟨⟨hp1,hp0⟩,hp2⟩:=hp
   obtain ⟨fr',hrep',h⟩:=guarded_elim hrep h
   rw [show (i :: rest).length + k = (rest.length + k) + 1 by simp;omega]
   have hA':(∃ i ∈ rest,F.contains i = false) → Sat W A w:=fun ⟨j,hj,hjf⟩=>hA ⟨j,List.mem_cons_of_mem _ hj,hjf⟩
   have hQ:∀ v c a w,LiftD W N K Kp (.panic c) (Act.put a o.dst v) w → LiftD W N K Kp (.panic c) a w:=by
    rintro v c a w ⟨H,h1,h2,h3⟩
    refine ⟨H,?_,h2,?_⟩
    ·cases hd:o.dst <;> simpa [Act.put,hd] using h1
    ·cases hd:o.dst <;> simpa [Act.put,hd] using h3
   have hirA:i ∈ Region.ready .any ⟨all⟩ listed:=by
    cases hq:(quietOp o.op && !F.contains i) with
    | true=>simp only [hq,Bool.and_eq_true] at hp1;simpa using hp1.1
    | false=>simp only [hq,beq_iff_eq] at hp1;rw [hp1];simp
   have skipped:putK N fr' undef (fun fr=>execPlan P W T N A all F rest fr ds H K Kp) o.dst →
     wpAnyF P ⟨all⟩ (LiftD W N K Kp) (Sat W A) F (rest.length + k) (listed.setIfInBounds i true) (a.put o.dst undef) w:=by
    intro h
    obtain ⟨fr'',h1,h2,h3,h4⟩:=putK_elim hN hrep' h
    exact ih _ _ _ hp2 h4 (hcl.put hirA) _ w h1 h2 (by rw [h3,hd]) hs hA'
   cases hq:(quietOp o.op && !F.contains i) with
   | true =>
    simp only [hq,Bool.and_eq_true] at hp1
    have hq2:quietOp o.op = true ∧ F.contains i = false:=by simpa using hq
    have hAw:=hA ⟨i,by simp,hq2.2⟩
    have hlt:i < all.length:=by
     rcases Nat.lt_or_ge i all.length with h|h
     ·exact h
     ·simp [List.getElem?_eq_none h] at ho
    have hwait:∀ j,F.contains j = true → Waits (⟨all⟩:Array Oper) j i:=fun j hj=>lastOk_waits hF hlt hq2.2 hj
    have hir:i ∈ Region.ready .any ⟨all⟩ listed:=by simpa using hp1.1
    have first:=fun v a w=>wpAnyF.first (P:=P) (S:=Sat W A) (Q:=LiftD W N K Kp) (v:=v) hoa hq2.2 hwait (Region.noSelect_spec hsel) (hQ v) (rest.length + k) listed a w (Region.free_spec hoa hp1.2) hir hcl
    rcases h with ⟨hw,h⟩|⟨hw,h⟩
    ·simp only [hq] at h
     have he:∀ x v,fr'.eval x = some v → a.eval x = v:=fun x v e=>Fr.rep_eval hrep' e
     have:∃ v,Runs P W o.op o.type fr'.eval A v ∧ putK N fr' v (fun fr=>execPlan P W T N A all F rest fr ds H K Kp) o.dst:=by
      rcases opK_quiet hT ⟨w,hAw⟩ hq2.1 h with h|⟨v,hr,hk⟩
      ·exact h.ex
      ·exact ⟨v,hr,hk⟩
     obtain ⟨v,hr,hk⟩:=this
     refine first v a w (.inl ⟨hw,fun w hw=>hr w a.eval hw he o rfl rfl⟩) hAw ?_
     obtain ⟨fr'',h1,h2,h3,h4⟩:=putK_elim hN hrep' hk
     exact ih _ _ _ hp2 h4 (hcl.put hir) _ w h1 h2 (by rw [h3,hd]) hs hA'
    ·exact first undef a w (.inr ⟨hw,rfl⟩) hAw (skipped h)
   | false =>
    simp only [hq] at hp1
    refine wpAnyF.one (by simpa using hp1) ?_
    unfold wpOp
    simp only [hoa]
    rcases h with ⟨hw,h⟩|⟨hw,h⟩
    ·simp only [hw,if_true]
     simp only [hq] at h
     refine .inl (op1_sound hT hN hrep' hd hs h ?_ ?_)
     ·intro a' w' fr'' ds' H' h1 h2 h3 h4 h5
      cases hc:F.contains i with
      | true =>
       simp only [hc] at h5
       refine ⟨fun h=>(by cases h),ih _ _ _ hp2 h5 (hcl.put hirA) a' w' h1 h2 h3 h4 fun hx=>?_⟩
       obtain ⟨j,hj,hjf⟩:=hx
       simp only [hc,Bool.not_true,Bool.false_or,List.all_eq_true] at hp0
       rw [hp0 j hj] at hjf;cases hjf
      | false =>
       simp only [hc] at h5
       exact ⟨fun _=>h5.p _ h4,ih _ _ _ hp2 h5.k (hcl.put hirA) a' w' h1 h2 h3 h4 fun _=>h5.p _ h4⟩
     ·intro c w' H' h1 h2
      exact ⟨H',hN,h1,hd ▸ h2⟩
    ·simp only [hw,Bool.false_eq_true,if_false]
     refine ⟨fun hc=>hA ⟨i,by simp,hc⟩,skipped h⟩
  ·exact h.elim

theorem DrawK.intro (hT:T.ok P) (hm:P.follows .mixedOrders = true) {ops:List Oper} (F plan:List Nat) (A:HProp) {fr:Fr} {ds:List Deferred} {H:HProp} {K:ContK} {Kp:PanK}
  (hp:plannedOk ops F plan = true) (hA:Sub W H A) (h:execPlan P W T N A ops F plan fr ds H K fun c _ ds H=>Kp c [] ds H):DrawK P W T N ops fr ds H K Kp:=by
 simp only [plannedOk,Bool.and_eq_true,beq_iff_eq] at hp
 obtain ⟨⟨⟨hp1,hp2⟩,hp4⟩,hp3⟩:=hp
 refine ⟨fun id a w h1 h2 h3 h4=>?_⟩
 have hs:Sat W H { w with drawn:=w.drawn + 1 }:=h4.same ⟨rfl,rfl,rfl,Nat.le_refl _⟩ rfl
 have:=execPlan_sound hT ops F hp1 hp4 plan 0 _ fr ds H hp3 h (Closed.none _) a _ h1 h2 h3 hs fun _=>hA _ hs
 refine wp_mono (wp_region_any hm (wpAnyF.any _ _ _ _ (by simpa [hp2] using this))) ?_
 rintro e a' w' h7
 cases e with
 | normal=>exact h7
 | panic c =>
  obtain ⟨H',g1,g2,g3⟩:=h7
  exact ⟨[],H',Fr.rep_nil _,g1,g2,g3⟩
 | _=>exact h7.elim
end
end Go.SL
/- Rules for single operations: cells, calls, maps with whole numbers as keys. No condition. -/
namespace Go.SL
open Go

section
variable {P:Program} {W:World} {T:Tab}

theorem Rd.pts {b off:Nat} {l:List Value} {t:TypeId} {fz:Nat × Nat} {R:HProp} {v:Value} (h:l[off]? = some v) :
  Rd W (pts b (.cells ⟨l⟩ t fz)•R) ⟨b,off,none⟩ v:=fun w hs=>by simp [World.cell?,hs.at,h]
theorem Rd.last {b off:Nat} {l:List Value} {t:TypeId} {fz:Nat × Nat} {v:Value} (h:l[off]? = some v) :
  Rd W (SL.pts b (.cells ⟨l⟩ t fz)) ⟨b,off,none⟩ v:=fun w hs=>Rd.pts h w (by rw [star_emp];exact hs)
theorem Rd.there {X R:HProp} {a:Addr} {v:Value} (h:Rd W R a v):Rd W (X•R) a v:=fun w hs=>h w hs.right
theorem Rd.left {X R:HProp} {a:Addr} {v:Value} (h:Rd W X a v):Rd W (X•R) a v:=fun w hs=>h w hs.left
theorem Rd.sub {H A:HProp} {a:Addr} {v:Value} (h:Rd W A a v) (hs:Sub W H A):Rd W H a v:=fun w h'=>h w (hs w h')
theorem Ld.intro {H:HProp} {a:Addr} {K:Value → Prop} {v:Value} (h:Rd W H a v) (k:K v):Ld W H a K:=⟨v,h,k⟩
theorem LdN.intro {H:HProp} {a:Addr} {n:Nat} {K:Value → Prop} {vs:List Value} (h:∀ i v,vs[i]? = some v → Rd W H (a.add i) v) (hn:vs.length = n) (k:K (.agg ⟨vs⟩)):LdN W H a n K :=
 ⟨vs,hn,h,k⟩
structure RdL (W:World) (H:HProp) (b off:Nat) (vs:List Value):Prop where
 rd:∀ i v,vs[i]? = some v → Rd W H ⟨b,off + i,none⟩ v
theorem RdL.pts {b off:Nat} {l vs:List Value} {t:TypeId} {fz:Nat × Nat} {R:HProp} {n:Nat} (h:(l.drop off).take n = vs) :
  RdL W (pts b (.cells ⟨l⟩ t fz)•R) b off vs:=⟨fun i v hv=>Rd.pts (by
 subst h
 rw [List.getElem?_take,List.getElem?_drop] at hv
 split at hv
 ·exact hv
 ·cases hv)⟩
theorem RdL.there {X R:HProp} {b off:Nat} {vs:List Value} (h:RdL W R b off vs):RdL W (X•R) b off vs:=⟨fun i v hv=>(h.rd i v hv).there⟩
theorem RdL.left {X R:HProp} {b off:Nat} {vs:List Value} (h:RdL W X b off vs):RdL W (X•R) b off vs:=⟨fun i v hv=>(h.rd i v hv).left⟩
theorem Addr.add_eq (b off i:Nat):(⟨b,off,none⟩:Addr).add i = ⟨b,off + i,none⟩:=by
 unfold Addr.add;split <;> simp_all
theorem LdN.cells {H:HProp} {b off n:Nat} {K:Value → Prop} {vs:List Value} (h:RdL W H b off vs) (hn:vs.length = n) (k:K (.agg ⟨vs⟩)):LdN W H ⟨b,off,none⟩ n K :=
 ⟨vs,hn,fun i v hv=>by rw [Addr.add_eq];exact h.rd i v hv,k⟩

theorem Take.here {X R:HProp}:Take (X•R) X R:=⟨rfl⟩
theorem Take.last {X:HProp}:Take X X emp:=⟨(star_emp _).symm⟩
theorem Take.there {H X R Y:HProp} (h:Take H X R):Take (Y•H) X (Y•R):=⟨by rw [h.eq,star_left_comm]⟩
theorem Take.split {H A X Y R:HProp} (e:A = (X•Y)) (h:Take H A R):Take H X (Y•R):=⟨by rw [h.eq,e,star_assoc]⟩
theorem Take.two {H X Y R R':HProp} (h:Take H X R) (h':Take R Y R'):Take H (X•Y) R':=⟨by rw [h.eq,h'.eq,star_assoc]⟩

theorem Ar.i64 {e:Int} {K:Int → Prop} (h:-9223372036854775808 ≤ e ∧ e ≤ 9223372036854775807) (hk:K e):Ar .i64 e K:=⟨by rw [IntWalk.i64_in _ h];exact hk⟩
theorem Ar.u64 {e:Int} {K:Int → Prop} (h:0 ≤ e ∧ e ≤ 18446744073709551615) (hk:K e):Ar .u64 e K:=⟨by rw [IntWalk.u64_in _ h];exact hk⟩
theorem Ar.u32 {e:Int} {K:Int → Prop} (h:0 ≤ e ∧ e ≤ 4294967295) (hk:K e):Ar .u32 e K:=⟨by rw [IntWalk.u32_in _ h];exact hk⟩
theorem Ar.u8 {e:Int} {K:Int → Prop} (h:0 ≤ e ∧ e ≤ 255) (hk:K e):Ar .u8 e K:=⟨by rw [IntWalk.u8_in _ h];exact hk⟩
theorem Ar.wrap {k:IntKind} {e:Int} {K:Int → Prop} (hk:K (k.wrap e)):Ar k e K:=⟨hk⟩

def Ret (post:Value → HProp → Prop) (e:Ending) (H:HProp):Prop:=∃ v G,e = .returned v ∧ Imp H G ∧ post v G
theorem Ret.eq {A v:Value} {B H:HProp} (hv:v = A) (hi:Imp H B):Ret (fun v G=>v = A ∧ G = B) (.returned v) H:=⟨v,B,rfl,hi,hv,rfl⟩
theorem CallK.ret {f:FuncId} {args:List Value} {H:HProp} {K:Value → HProp → Prop} {Kp:List PanicEntry → HProp → Prop} {post:Value → HProp → Prop}
  (ok:Callable P f) (h:Does P W f ⟨args⟩ H (Ret post)) (k:∀ v G,post v G → K v G):CallK P W f args H K Kp :=
 ⟨.inl ⟨ok,⟨fun w hs=>(h.run w hs).mono fun e w' ⟨H',hs',v,G,he,hent,hp⟩=>⟨G,hs'.imp hent,by subst he;exact k v G hp⟩⟩⟩⟩
theorem CallK.ext {f:FuncId} {args:List Value} {H:HProp} {K:Value → HProp → Prop} {Kp:List PanicEntry → HProp → Prop} {v:Value}
  (h:∀ w,(callFunc f ⟨args⟩).run P w = .ok (.value v) w) (k:K v H):CallK P W f args H K Kp:=⟨.inr fun w hs=>⟨v,w,H,h w,hs,k⟩⟩
theorem CallK.both {f:FuncId} {args:List Value} {H:HProp} {K:Value → HProp → Prop} {Kp:List PanicEntry → HProp → Prop} {Q:Ending → HProp → Prop}
  (ok:Callable P f) (h:Does P W f ⟨args⟩ H Q) (k:∀ e G,Q e G → CallQ K Kp e G):CallK P W f args H K Kp :=
 ⟨.inl ⟨ok,⟨fun w hs=>(h.run w hs).mono fun e _ ⟨H',hs',hq⟩=>⟨H',hs',k e H' hq⟩⟩⟩⟩
theorem Does.ent {f:FuncId} {args:Array Value} {H H':HProp} {Q:Ending → HProp → Prop} (h:Does P W f args H' Q) (e:Ent H H'):Does P W f args H Q:=h.mono e fun _ _ h=>h
theorem Does.imp {f:FuncId} {args:Array Value} {H H':HProp} {Q:Ending → HProp → Prop} (e:Imp H H') (h:Does P W f args H' Q):Does P W f args H Q:=⟨fun w hs=>h.run w (hs.imp e)⟩
theorem Does.ex {α:Sort _} {f:FuncId} {args:Array Value} {G:α → HProp} {R:HProp} {Q:Ending → HProp → Prop} (h:∀ x,Does P W f args (G x•R) Q):Does P W f args (SL.ex G•R) Q :=
 ⟨fun w hs=>by rw [ex_star] at hs;obtain ⟨x,hx⟩:=hs.ex;exact (h x).run w hx⟩
theorem Does.pure {p:Prop} {f:FuncId} {args:Array Value} {R:HProp} {Q:Ending → HProp → Prop} (h:p → Does P W f args R Q):Does P W f args (SL.pure p•R) Q :=
 ⟨fun w hs=>(h hs.pure.1).run w hs.pure.2⟩

/-! ### Maps with whole numbers as keys -/
structure MapRep (kk:IntKind) (es:Array MapEntry) (clock:Nat) (l:List (Int × Value)):Prop where
 kv:es.toList.map (fun e=>(e.key,e.val)) = l.map (fun p=>(Value.int kk p.1,p.2))
 nd:(l.map (·.1)).Nodup
 born:(es.toList.map (·.born)).Nodup
 lt:∀ e ∈ es.toList,e.born < clock
def mapc (r:Nat) (kk:IntKind) (l:List (Int × Value)):HProp:=ex fun es=>ex fun clock=>SL.pure (MapRep kk es clock l)•pts r (.map es clock)
def MapAt (W:World) (H:HProp) (r:Nat) (kk:IntKind) (l:List (Int × Value)):Prop :=
 ∀ w,Sat W H w → ∃ es clock,w.heap[r]? = some (.map es clock) ∧ MapRep kk es clock l
theorem Sat.map {w:World} {r:Nat} {kk:IntKind} {l:List (Int × Value)} {R:HProp} (h:Sat W (mapc r kk l•R) w) :
  ∃ es clock,MapRep kk es clock l ∧ Sat W (pts r (.map es clock)•R) w:=by
 unfold mapc at h
 rw [ex_star] at h
 obtain ⟨es,h⟩:=h.ex
 rw [ex_star] at h
 obtain ⟨clock,h⟩:=h.ex
 rw [star_assoc] at h
 exact ⟨es,clock,h.pure.1,h.pure.2⟩
theorem Sat.mk_map {w:World} {r:Nat} {kk:IntKind} {l:List (Int × Value)} {R:HProp} {es:Array MapEntry} {clock:Nat} (hm:MapRep kk es clock l)
  (h:Sat W (pts r (.map es clock)•R) w):Sat W (mapc r kk l•R) w :=
 h.mono (Ent.left (Ent.ex es (Ent.ex clock (Ent.pure hm (Ent.refl _)))))
theorem MapAt.here {r:Nat} {kk:IntKind} {l:List (Int × Value)} {R:HProp}:MapAt W (mapc r kk l•R) r kk l:=fun _ hs =>
 let ⟨es,clock,h1,h2⟩:=hs.map;⟨es,clock,h2.at,h1⟩
theorem MapAt.last {r:Nat} {kk:IntKind} {l:List (Int × Value)}:MapAt W (mapc r kk l) r kk l:=fun _ hs=>MapAt.here _ (by rw [star_emp];exact hs)
theorem MapAt.there {X R:HProp} {r:Nat} {kk:IntKind} {l:List (Int × Value)} (h:MapAt W R r kk l):MapAt W (X•R) r kk l:=fun w hs=>h w hs.right
theorem MapAt.left {X R:HProp} {r:Nat} {kk:IntKind} {l:List (Int × Value)} (h:MapAt W X r kk l):MapAt W (X•R) r kk l:=fun w hs=>h w hs.left

def findI (k:Int):List (Int × Value) → Nat → Option (Nat × Value)
 | [],_=>none
 | p :: l,i=>if k = p.1 then some (i,p.2) else findI k l (i + 1)
theorem findI_snd (k:Int):∀ (l:List (Int × Value)) (i:Nat),(findI k l i).map (·.2) = l.lookup k
 | [],_=>rfl
 | (a,v) :: l,i=>by
  by_cases h:k = a
  ·simp [findI,List.lookup,h]
  ·have:(k == a) = false:=by simpa using h
   simp [findI,List.lookup,h,this,findI_snd k l (i + 1)]
theorem findNow_int (k0 kk:IntKind) (k:Int):∀ (es:List MapEntry) (l:List (Int × Value)) (i:Nat),es.map (fun e=>(e.key,e.val)) = l.map (fun p=>(Value.int kk p.1,p.2)) →
  Instr.findNow (.int k0) (.int kk k) es i = some (findI k l i)
 | [],[],_,_=>rfl
 | [],_ :: _,_,h=>by simp at h
 | _ :: _,[],_,h=>by simp at h
 | e :: es,p :: l,i,h=>by
  simp only [List.map_cons,List.cons.injEq,Prod.mk.injEq] at h
  obtain ⟨⟨h1,h2⟩,h3⟩:=h
  simp only [Instr.findNow,h1,Instr.sameNow,if_true,findI]
  by_cases hk:k = p.1
  ·simp [hk,h2]
  ·have:(k == p.1) = false:=by simpa using hk
   simp [this,hk,findNow_int k0 kk k es l (i + 1) h3]
theorem run_findKey_int {kt:TypeId} {k0 kk:IntKind} {k:Int} {es:Array MapEntry} {clock:Nat} {l:List (Int × Value)} (hu:P.underlying kt = some (.int k0)) (hm:MapRep kk es clock l) (w:World) :
  (Instr.findKey kt (.int kk k) es.toList).run P w = .ok (findI k l 0) w:=by
 simp only [Instr.findKey,Sem.run_bind,run_underlying hu,Result.andThen_ok,findNow_int k0 kk k es.toList l 0 hm.kv,Sem.run_pure]
theorem run_checkKey_int {kt:TypeId} {k0 kk:IntKind} {k:Int} (hu:P.underlying kt = some (.int k0)) (b:Bool) (n:Nat) (w:World) :
  (Instr.checkKey b (n + 1) kt (.int kk k)).run P w = .ok () w:=by
 simp [Instr.checkKey,run_underlying hu]

theorem OpQ.lookup (hT:T.ok P) {t kt et:TypeId} {k0 kk:IntKind} {m key:Operand} {ty:TypeId} {ev:Operand → Option Value} {H:HProp} {K:Value → Prop} {r:Nat} {k:Int} {l:List (Int × Value)}
  {r1 r2:TRow} {z:Value}
  (h1:T t = some r1) (h1':r1.und = .map kt et) (h2:T kt = some r2) (h2':r2.und = .int k0)
  (hz:∀ w,(zeroValue et).run P w = .ok z w)
  (hm:ev m = some (.map (some r))) (hk:ev key = some (.int kk k)) (ha:MapAt W H r kk l)
  (yes:∀ v,l.lookup k = some v → K v) (no:l.lookup k = none → K z):OpQ P W (.lookup t m key false) ty ev H K:=by
 have hu1:=(hT _ _ h1).und
 have hu2:=(hT _ _ h2).und
 rw [h1'] at hu1
 rw [h2'] at hu2
 have hf:=findI_snd k l 0
 refine ⟨⟨(l.lookup k).getD z,fun w ρ hs he o' ho hty=>?_,?_⟩⟩
 ·obtain ⟨es,clock,hb,hrep⟩:=ha w hs
  obtain ⟨dst,op,ty',pos,after,guard⟩:=o'
  simp only at ho hty
  subst ho hty
  simp only [execOp,Instr.lookup,Sem.run_bind,run_underlying hu1,Result.andThen_ok,he _ _ hm,he _ _ hk,getObj,Sem.run,hb,Sem.run_pure,run_checkKey_int hu2,run_findKey_int hu2 hrep]
  rw [← hf]
  cases findI k l 0 with
  | none=>simp [hz w]
  | some p=>simp
 ·cases hl:l.lookup k with
  | none=>exact no hl
  | some v=>exact yes v hl
theorem OpQ.lookup_ok (hT:T.ok P) {t kt et:TypeId} {k0 kk:IntKind} {m key:Operand} {ty:TypeId} {ev:Operand → Option Value} {H:HProp} {K:Value → Prop} {r:Nat} {k:Int} {l:List (Int × Value)}
  {r1 r2:TRow} {z:Value}
  (h1:T t = some r1) (h1':r1.und = .map kt et) (h2:T kt = some r2) (h2':r2.und = .int k0)
  (hz:∀ w,(zeroValue et).run P w = .ok z w)
  (hm:ev m = some (.map (some r))) (hk:ev key = some (.int kk k)) (ha:MapAt W H r kk l)
  (yes:∀ v,l.lookup k = some v → K (.tuple ⟨[v,.bool true]⟩)) (no:l.lookup k = none → K (.tuple ⟨[z,.bool false]⟩)):OpQ P W (.lookup t m key true) ty ev H K:=by
 have hu1:=(hT _ _ h1).und
 have hu2:=(hT _ _ h2).und
 rw [h1'] at hu1
 rw [h2'] at hu2
 have hf:=findI_snd k l 0
 refine ⟨⟨match l.lookup k with|some v=>.tuple ⟨[v,.bool true]⟩|none=>.tuple ⟨[z,.bool false]⟩,fun w ρ hs he o' ho hty=>?_,?_⟩⟩
 ·obtain ⟨es,clock,hb,hrep⟩:=ha w hs
  obtain ⟨dst,op,ty',pos,after,guard⟩:=o'
  simp only at ho hty
  subst ho hty
  simp only [execOp,Instr.lookup,Sem.run_bind,run_underlying hu1,Result.andThen_ok,he _ _ hm,he _ _ hk,getObj,Sem.run,hb,Sem.run_pure,run_checkKey_int hu2,run_findKey_int hu2 hrep]
  rw [← hf]
  cases findI k l 0 with
  | none=>simp [hz w]
  | some p=>simp
 ·cases hl:l.lookup k with
  | none=>exact no hl
  | some v=>exact yes v hl
theorem OpQ.len_map (hT:T.ok P) {t kt et:TypeId} {x:Operand} {ty:TypeId} {ev:Operand → Option Value} {H:HProp} {K:Value → Prop} {r:Nat} {kk:IntKind} {l:List (Int × Value)} {r1:TRow}
  (h1:T t = some r1) (h1':r1.und = .map kt et) (hm:ev x = some (.map (some r))) (ha:MapAt W H r kk l) (k:K (.int .i64 l.length)) :
  OpQ P W (.call ⟨.builtin .len,⟨[x]⟩,⟨[t]⟩⟩) ty ev H K:=by
 have hu1:=(hT _ _ h1).und
 rw [h1'] at hu1
 refine ⟨⟨_,fun w ρ hs he o' ho hty=>?_,k⟩⟩
 obtain ⟨es,clock,hb,hrep⟩:=ha w hs
 obtain ⟨dst,op,ty',pos,after,guard⟩:=o'
 simp only at ho hty
 subst ho hty
 have hl:es.size = l.length:=by simpa using congrArg List.length hrep.kv
 simp [execOp,resolve,invoke,builtin,Builtin.len_,he _ _ hm,run_underlying hu1,goInt,getObj,Sem.run,hb,hl]
theorem OpX.makeMap {t:TypeId} {ty:TypeId} {ev:Operand → Option Value} {H:HProp} {K:Value → HProp → Prop} {Kp:List PanicEntry → HProp → Prop} (kk:IntKind)
  (k:∀ b,W.heap.size ≤ b → K (.map (some b)) (mapc b kk []•H)):OpX P W (.makeMap t none) ty ev H K Kp:=by
 refine ⟨fun w ρ hs he o' ho hty=>⟨.value (.map (some w.heap.size)),{ w with heap:=w.heap.push (.map #[] 0) },_,?_,?_,k w.heap.size hs.1.size⟩⟩
 ·obtain ⟨dst,op,ty',pos,after,guard⟩:=o'
  simp only at ho hty
  subst ho hty
  simp [execOp,Instr.makeMap]
 ·exact Sat.mk_map ⟨rfl,by simp,by simp,by simp⟩ (hs.alloc _)

def updKV {α:Type} (k:Int) (v:α):List (Int × α) → List (Int × α)
 | []=>[(k,v)]
 | p :: l=>if k = p.1 then (k,v) :: l else p :: updKV k v l
theorem updKV_keys {α:Type} (k:Int) (v:α):∀ l:List (Int × α),(updKV k v l).map (·.1) = if k ∈ l.map (·.1) then l.map (·.1) else l.map (·.1) ++ [k]
 | []=>by simp [updKV]
 | p :: l=>by
  by_cases h:k = p.1
  ·simp [updKV,h]
  ·simp only [updKV,h,if_false,List.map_cons,updKV_keys k v l,List.mem_cons,false_or]
   split <;> simp
theorem updKV_lookup {α:Type} (k:Int) (v:α) (j:Int):∀ l:List (Int × α),(updKV k v l).lookup j = if j = k then some v else l.lookup j
 | []=>by
  by_cases h:j = k
  ·simp [updKV,h]
  ·have:(j == k) = false:=by simpa using h
   simp [updKV,h,List.lookup,this]
 | (a,u) :: l=>by
  by_cases h:k = a
  ·subst h
   by_cases hj:j = k
   ·simp [updKV,hj]
   ·have:(j == k) = false:=by simpa using hj
    simp [updKV,List.lookup,hj,this]
  ·simp only [updKV,h,if_false,List.lookup]
   by_cases hj:j = a
   ·subst hj
    have:¬ j = k:=fun e=>h e.symm
    simp [this]
   ·have:(j == a) = false:=by simpa using hj
    simp [this,updKV_lookup k v j l]
theorem findI_none (k:Int):∀ (l:List (Int × Value)) (i:Nat),findI k l i = none ↔ k ∉ l.map (·.1)
 | [],_=>by simp [findI]
 | p :: l,i=>by
  by_cases h:k = p.1
  ·simp [findI,h]
  ·have:=findI_none k l (i + 1)
   simp only [List.mem_map] at this
   simp [findI,h,this]
theorem updKV_none {α:Type} (k:Int) (v:α):∀ l:List (Int × α),k ∉ l.map (·.1) → updKV k v l = l ++ [(k,v)]
 | [],_=>rfl
 | p :: l,h=>by
  simp only [List.map_cons,List.mem_cons,not_or] at h
  simp [updKV,h.1,updKV_none k v l h.2]
theorem updKV_some (k:Int) (v:Value):∀ (l:List (Int × Value)) (i j:Nat) (u:Value),findI k l i = some (j,u) →
  i ≤ j ∧ j - i < l.length ∧ updKV k v l = l.set (j - i) (k,v) ∧ (l[j - i]?).map (·.1) = some k
 | [],_,_,_,h=>by simp [findI] at h
 | p :: l,i,j,u,h=>by
  by_cases hk:k = p.1
  ·simp only [findI,hk,if_true,Option.some.injEq,Prod.mk.injEq] at h
   obtain ⟨rfl,rfl⟩:=h
   simp [updKV,hk]
  ·simp only [findI,hk,if_false] at h
   obtain ⟨h1,h2,h3,h4⟩:=updKV_some k v l (i + 1) j u h
   have e:j - i = (j - (i + 1)) + 1:=by omega
   refine ⟨by omega,by simp;omega,?_,?_⟩
   ·rw [e];simp [updKV,hk,h3]
   ·rw [e];simpa using h4
theorem OpX.update (hT:T.ok P) {t kt et:TypeId} {k0 kk:IntKind} {m key x:Operand} {ty:TypeId} {ev:Operand → Option Value} {H R:HProp} {K:Value → HProp → Prop} {Kp:List PanicEntry → HProp → Prop}
  {r:Nat} {k:Int} {v:Value} {l:List (Int × Value)} {r1 r2:TRow}
  (h1:T t = some r1) (h1':r1.und = .map kt et) (h2:T kt = some r2) (h2':r2.und = .int k0)
  (hm:ev m = some (.map (some r))) (hk:ev key = some (.int kk k)) (hv:ev x = some v) (ht:Take H (mapc r kk l) R)
  (hK:K undef (mapc r kk (updKV k v l)•R)):OpX P W (.mapUpdate t m key x) ty ev H K Kp:=by
 have hu1:=(hT _ _ h1).und
 have hu2:=(hT _ _ h2).und
 rw [h1'] at hu1
 rw [h2'] at hu2
 refine ⟨fun w ρ hs he o' ho hty=>?_⟩
 obtain ⟨dst,op,ty',pos,after,guard⟩:=o'
 simp only at ho hty
 subst ho hty
 rw [ht.eq] at hs
 obtain ⟨es,clock,hrep,hs⟩:=hs.map
 have hb:=hs.at
 have hlt:=hs.lt
 cases hf:findI k l 0 with
 | none =>
  refine ⟨.skip,{ w with heap:=w.heap.setIfInBounds r (.map (es.push { key:=.int kk k,val:=v,born:=clock }) (clock + 1)) },_,?_,?_,hK⟩
  ·simp only [execOp,Instr.mapUpdate,Sem.run_bind,run_underlying hu1,Result.andThen_ok,he _ _ hm,he _ _ hk,he _ _ hv,getObj,setObj,Sem.run,hb,Sem.run_pure,run_checkKey_int hu2,run_findKey_int hu2 hrep,hf]
  ·have hnot:=(findI_none k l 0).1 hf
   refine Sat.mk_map ⟨?_,?_,?_,?_⟩ (hs.set (.map (es.push { key:=.int kk k,val:=v,born:=clock }) (clock + 1)) ⟨rfl,rfl,rfl,by simp⟩ (by simp [hlt]) fun j hj=>by simp [Ne.symm hj])
   ·rw [updKV_none k v l hnot];simp [hrep.kv]
   ·rw [updKV_keys,if_neg hnot]
    exact List.nodup_append.2 ⟨hrep.nd,by simp,fun a ha b hb=>by simp at hb;subst hb;exact fun e=>hnot (e ▸ ha)⟩
   ·simp only [Array.toList_push,List.map_append,List.map_cons,List.map_nil]
    refine List.nodup_append.2 ⟨hrep.born,by simp,fun a ha b hb=>?_⟩
    simp at hb;subst hb
    obtain ⟨e,he',rfl⟩:=List.mem_map.1 ha
    exact fun e'=>absurd (hrep.lt e he') (by omega)
   ·intro e he'
    simp only [Array.toList_push,List.mem_append,List.mem_singleton] at he'
    rcases he' with he'|rfl
    ·have:=hrep.lt e he';omega
    ·exact Nat.lt_succ_self _
 | some p =>
  obtain ⟨i,u⟩:=p
  obtain ⟨_,h5,h6,h7⟩:=updKV_some k v l 0 i u hf
  simp only [Nat.sub_zero] at h5 h6 h7
  have hlen:es.toList.length = l.length:=by simpa using congrArg List.length hrep.kv
  have hi:i < es.size:=by rw [← hlen] at h5;simpa using h5
  have hkey:(es[i]?).map (·.key) = some (.int kk k):=by
   have:=congrArg (fun q=>q[i]?) hrep.kv
   simp only [List.getElem?_map] at this
   have hl:l[i]? = some (l[i]'h5):=by simp [h5]
   rw [hl] at this h7
   simp only [Option.map_some,Option.some.injEq] at h7
   rw [Array.getElem?_toList] at this
   cases he':es[i]? with
   | none=>rw [he'] at this;simp at this
   | some e=>rw [he'] at this;simp at this;simp [this.1,h7]
  refine ⟨.skip,{ w with heap:=w.heap.setIfInBounds r (.map (es.modify i fun e=>{ e with key:=.int kk k,val:=v }) clock) },_,?_,?_,hK⟩
  ·simp only [execOp,Instr.mapUpdate,Sem.run_bind,run_underlying hu1,Result.andThen_ok,he _ _ hm,he _ _ hk,he _ _ hv,getObj,setObj,Sem.run,hb,Sem.run_pure,run_checkKey_int hu2,run_findKey_int hu2 hrep,hf,hkey,Option.getD_some]
   simp [Instr.keyThatStays,Instr.sameBits,hb]
  ·refine Sat.mk_map ⟨?_,?_,?_,?_⟩ (hs.set (.map (es.modify i fun e=>{ e with key:=.int kk k,val:=v }) clock) ⟨rfl,rfl,rfl,by simp⟩ (by simp [hlt]) fun j hj=>by simp [Ne.symm hj])
   ·rw [h6]
    apply List.ext_getElem?
    intro j
    have hj:=congrArg (fun q=>q[j]?) hrep.kv
    simp only [List.getElem?_map,Array.getElem?_toList] at hj
    simp only [List.getElem?_map,Array.getElem?_toList,Array.getElem?_modify,List.getElem?_set]
    by_cases hji:i = j
    ·subst hji;simp [h5,hi]
    ·simp [hji,hj]
   ·rw [updKV_keys]
    have:k ∈ l.map (·.1):=by
     have:=mt (findI_none k l 0).2 (by simp [hf])
     simpa using this
    rw [if_pos this];exact hrep.nd
   ·have:(es.modify i fun e=>{ e with key:=.int kk k,val:=v }).toList.map (·.born) = es.toList.map (·.born):=by
     apply List.ext_getElem?
     intro j
     simp only [List.getElem?_map,Array.getElem?_toList,Array.getElem?_modify]
     by_cases hji:i = j
     ·subst hji;simp [hi]
     ·simp [hji]
    rw [this];exact hrep.born
   ·intro e he'
    obtain ⟨j,hj⟩:=List.getElem?_of_mem he'
    simp only [Array.getElem?_toList,Array.getElem?_modify] at hj
    split at hj
    ·rename_i hji
     subst hji
     simp [hi] at hj
     subst hj
     exact hrep.lt es[i] (by simp)
    ·exact hrep.lt e (List.mem_of_getElem? (by rw [Array.getElem?_toList];exact hj))
end
end Go.SL
