/- The generator over code: regions, sequences, branches, blocks, loops, functions; sound. No condition. -/
import Derived.Test.YtbcedpankkdfoaaGreatDoorPart1
import Derived.RangeFuncLeaves
import Derived.TacticsIn
import Derived.Scope
set_option linter.unusedVariables false
set_option linter.unusedSimpArgs false
namespace Go.SL
open Go

abbrev PostC:=Exit → Fr → List Deferred → HProp → Prop
abbrev ContK:=Fr → List Deferred → HProp → Prop
abbrev PanK:=List PanicEntry → Fr → List Deferred → HProp → Prop

def Lift (W:World) (N:Nat) (Q:PostC):Exit → Act → World → Prop :=
 fun e a w=>∃ fr H,fr.rep a.tmps ∧ a.tmps.size = N ∧ Sat W H w ∧ Q e fr a.defers H

def putK (N:Nat) (fr:Fr) (v:Value) (K:Fr → Prop):Option Tmp → Prop
 | some d=>match Nat.blt d N with
  | true=>K ((d,v) :: fr)
  | false=>False
 | none=>K fr

def op1 (P:Program) (W:World) (T:Tab) (N:Nat) (o:Oper) (fr:Fr) (ds:List Deferred) (H:HProp) (K:ContK) (Kp:PanK):Prop :=
 match o.op with
 | .defer ⟨.value f,⟨args⟩,_⟩=>match fr.eval f with
  | some (.func fn ⟨first⟩ ⟨cap⟩)=>evs fr.eval args fun l=>putK N fr undef (fun fr=>K fr ({ target:=.fn fn ⟨cap⟩,args:=⟨first ++ l⟩ } :: ds) H) o.dst
  | _=>False
 | op=>opK P W T op o.type fr.eval H (fun v H=>putK N fr v (fun fr=>K fr ds H) o.dst) (fun c H=>Kp c fr ds H)
  (OpX P W op o.type fr.eval H (fun v H=>putK N fr v (fun fr=>K fr ds H) o.dst) (fun c H=>Kp c fr ds H))

structure YieldK (P:Program) (W:World) (l:Nat) (args:List Value) (H:HProp) (K:Value → HProp → Prop) (Kp:List PanicEntry → HProp → Prop):Prop where
 run:∀ w,Sat W H w → ∃ f tmps assign body,(Instr.yield l ⟨args⟩).run P w = .ok (.round l f tmps assign body) w ∧
  RoundIn Fence.wide 0 P l f tmps assign body w fun e w'=>∃ H',Sat W H' w' ∧ CallQ K Kp e H'
def op1Y (P:Program) (W:World) (T:Tab) (N:Nat) (o:Oper) (fr:Fr) (ds:List Deferred) (H:HProp) (K:ContK) (Kp:PanK):Prop :=
 match o.op with
 | .call ⟨.value f,⟨args⟩,_⟩=>match fr.eval f with
  | some (.func (.yield l) ⟨[]⟩ ⟨[]⟩)=>evs fr.eval args fun vs=>YieldK P W l vs H (fun v H=>putK N fr v (fun fr=>K fr ds H) o.dst) (fun c H=>Kp c fr ds H)
  | _=>op1 P W T N o fr ds H K Kp
 | _=>op1 P W T N o fr ds H K Kp

def execOps (P:Program) (W:World) (T:Tab) (N:Nat) (all:List Oper):List Oper → Fr → List Deferred → HProp → ContK → PanK → Prop
  | [],fr,ds,H,K,_=>K fr ds H
  | o :: rest,fr,ds,H,K,Kp=>match o.guard with
    | none=>op1Y P W T N o fr ds H (fun fr ds H=>execOps P W T N all rest fr ds H K Kp) Kp
    | some (j,want)=>match all[j]? with
      | some ⟨some t,_,_,_,_,_⟩=>match fr.get t with
        | some (.bool b) => spl b
            (match want with
             | true=>op1Y P W T N o ((t,.bool true) :: fr) ds H (fun fr ds H=>execOps P W T N all rest fr ds H K Kp) Kp
             | false=>putK N ((t,.bool true) :: fr) undef (fun fr=>execOps P W T N all rest fr ds H K Kp) o.dst)
            (match want with
             | false=>op1Y P W T N o ((t,.bool false) :: fr) ds H (fun fr ds H=>execOps P W T N all rest fr ds H K Kp) Kp
             | true=>putK N ((t,.bool false) :: fr) undef (fun fr=>execOps P W T N all rest fr ds H K Kp) o.dst)
        | some (.tuple _)=>putK N fr undef (fun fr=>execOps P W T N all rest fr ds H K Kp) o.dst
        | _=>False
      | _=>False

def keepK (fr:Fr):List Nat → (Fr → Prop) → Prop
 | [],K=>K []
 | k :: ks,K=>match fr.get k with
  | some v=>keepK fr ks fun r=>K ((k,v) :: r)
  | none=>keepK fr ks K
def keepO (fr:Fr) (ks:Option (List Nat)) (K:Fr → Prop):Prop:=match ks with
 | some ks=>keepK fr ks K
 | none=>K fr

def FR (ρ:Option Nat):Fence:={ Fence.wide with round:=ρ }
def plainC:Code → Bool
 | .region _ ops draw=>!draw && ops.toList.all fun o=>match o.op with|.defer _=>false|_=>true
 | .seq a b=>plainC a && plainC b
 | .cond _ a b=>plainC a && plainC b
 | .block _ c=>plainC c
 | .loop c=>plainC c
 | .rangeFunc ..=>false
 | .scope _=>false
 | _=>true
structure LoopK (P:Program) (W:World) (N:Nat) (c:Code) (fr:Fr) (ds:List Deferred) (H:HProp) (Q:PostC):Prop where
 run:∀ ρ a w,(ρ = none ∨ plainC c = true) → fr.rep a.tmps → a.tmps.size = N → a.defers = ds → Sat W H w → (Code.loop c).wpIn (FR ρ) 0 P (Lift W N Q) a w
structure RangeK (P:Program) (W:World) (N:Nat) (c:Code) (fr:Fr) (ds:List Deferred) (H:HProp) (Q:PostC):Prop where
 run:∀ a w,fr.rep a.tmps → a.tmps.size = N → a.defers = ds → Sat W H w → c.wpIn Fence.wide 0 P (Lift W N Q) a w
def LiftO (W:World) (N:Nat) (K:ContK) (Kp:PanK):Exit → Act → World → Prop :=
 Lift W N fun e fr ds H=>match e with
  | .normal=>K fr ds H
  | .panic c=>Kp c fr ds H
  | _=>False
structure DrawK (P:Program) (W:World) (T:Tab) (N:Nat) (ops:List Oper) (fr:Fr) (ds:List Deferred) (H:HProp) (K:ContK) (Kp:PanK):Prop where
 run:∀ id a w,fr.rep a.tmps → a.tmps.size = N → a.defers = ds → Sat W H w → (Code.region id ⟨ops⟩ true).wp P (LiftO W N K Kp) a w

def exec (P:Program) (W:World) (T:Tab) (N:Nat) (L:Nat → Option (List Nat)):Code → PostC → Fr → List Deferred → HProp → Prop
 | .skip,Q,fr,ds,H=>Q .normal fr ds H
 | .label _,Q,fr,ds,H=>Q .normal fr ds H
 | .region id ⟨l⟩ false,Q,fr,ds,H=>execOps P W T N l l fr ds H (fun fr ds H=>keepO fr (L id) fun fr=>Q .normal fr ds H) fun c fr ds H=>Q (.panic c) fr ds H
 | .region id ⟨l⟩ true,Q,fr,ds,H=>DrawK P W T N l fr ds H (fun fr ds H=>keepO fr (L id) fun fr=>Q .normal fr ds H) fun c fr ds H=>Q (.panic c) fr ds H
 | .seq a b,Q,fr,ds,H=>exec P W T N L a (fun e fr ds H=>match e with
  | .normal=>exec P W T N L b Q fr ds H
  | e=>Q e fr ds H) fr ds H
 | .cond (.tmp x) a b,Q,fr,ds,H=>match fr.get x with
  | some (.bool t)=>spl t (exec P W T N L a Q ((x,.bool true) :: fr) ds H) (exec P W T N L b Q ((x,.bool false) :: fr) ds H)
  | _=>False
 | .cond (.const (.bool t)) a b,Q,fr,ds,H=>spl t (exec P W T N L a Q fr ds H) (exec P W T N L b Q fr ds H)
 | .block id c,Q,fr,ds,H=>exec P W T N L c (fun e fr ds H=>match e with
  | .exit j=>match Nat.beq j id with
   | true=>Q .normal fr ds H
   | false=>Q (.exit j) fr ds H
  | e=>Q e fr ds H) fr ds H
 | .loop c,Q,fr,ds,H=>LoopK P W N c fr ds H Q
 | .rangeFunc g ps as bd,Q,fr,ds,H=>RangeK P W N (.rangeFunc g ps as bd) fr ds H Q
 | .scope c,Q,fr,ds,H=>exec P W T N L c (fun e fr ds H=>match e with
  | .goto _=>False
  | e=>Q e fr ds H) fr ds H
 | .exit id,Q,fr,ds,H=>Q (.exit id) fr ds H
 | .goto id,Q,fr,ds,H=>Q (.goto id) fr ds H
 | .ret,Q,fr,ds,H=>Q .ret fr ds H
 | _,_,_,_,_=>False

section
variable {P:Program} {W:World} {T:Tab} {N:Nat}

theorem putK_elim {fr:Fr} {v:Value} {K:Fr → Prop} {dst:Option Tmp} {a:Act} (hN:a.tmps.size = N) (hrep:fr.rep a.tmps) (h:putK N fr v K dst) :
  ∃ fr',fr'.rep (a.put dst v).tmps ∧ (a.put dst v).tmps.size = N ∧ (a.put dst v).defers = a.defers ∧ K fr':=by
 cases dst with
 | none=>exact ⟨fr,hrep,hN,rfl,h⟩
 | some d =>
  simp only [putK] at h
  split at h
  ·rename_i hb
   have hd:d < a.tmps.size:=by rw [hN];simpa using hb
   exact ⟨_,Fr.rep_put hrep hd v,by simp [Act.put,hN],rfl,h⟩
  ·exact h.elim

theorem op1_sound (hT:T.ok P) {o:Oper} {fr:Fr} {ds:List Deferred} {H:HProp} {K:ContK} {Kp:PanK} {a:Act} {w:World}
  {next:Act → World → Prop} {Q:Exit → Act → World → Prop}
  (hN:a.tmps.size = N) (hrep:fr.rep a.tmps) (hd:a.defers = ds) (hs:Sat W H w) (h:op1 P W T N o fr ds H K Kp)
  (hn:∀ a' w' fr' ds' H',fr'.rep a'.tmps → a'.tmps.size = N → a'.defers = ds' → Sat W H' w' → K fr' ds' H' → next a' w')
  (hp:∀ c w' H',Sat W H' w' → Kp c fr ds H' → Q (.panic c) a w'):o.wp P a w next Q:=by
 have he:∀ x v,fr.eval x = some v → a.eval x = v:=fun x v e=>Fr.rep_eval hrep e
 unfold op1 at h
 split at h
 ·rename_i f args tys ho
  split at h
  ·rename_i fn first cap hf
   obtain ⟨l,hl,h⟩:=evs_elim _ _ h
   obtain ⟨fr',h1,h2,h3,h4⟩:=putK_elim (a:={ a with defers:={ target:=.fn fn ⟨cap⟩,args:=⟨first ++ l⟩ } :: a.defers }) hN hrep h
   have hrun:(execOp a.eval o).run P w = .ok (.defer { target:=.fn fn ⟨cap⟩,args:=⟨first ++ l⟩ }) w:=by
    simp only [execOp,ho,resolve,he _ _ hf,Deferred.ofValue]
    simp [hl a.eval he]
   simp only [Oper.wp,hrun,Oper.upon_defer]
   exact hn _ _ _ _ _ h1 h2 (by rw [h3,hd]) hs h4
  ·exact h.elim
 ·refine opK_sound hT hrep hs h ?_ ?_
  ·intro v H' w' hk hs'
   obtain ⟨fr',h1,h2,h3,h4⟩:=putK_elim hN hrep hk
   exact hn _ _ _ _ _ h1 h2 (by rw [h3,hd]) hs' h4
  ·intro c H' w' hk hs'
   exact hp _ _ _ hs' hk

theorem calls_FR {ρ:Option Nat} {n:Nat} {f:FuncId} {args:Array Value} {w:World} {R:Ending → World → Prop} (h:Calls P f args w R):CallsIn (FR ρ) n P f args w R :=
 (callsIn_wide (n:=n)).2 h
theorem wpIn_of_wp {ρ:Option Nat} {o:Oper} {a:Act} {w:World} {next:Act → World → Prop} {Q:Exit → Act → World → Prop} (hd:ρ = none ∨ ∀ c,o.op ≠ .defer c) (h:o.wp P a w next Q):o.wpIn (FR ρ) 0 P a w next Q:=by
 refine ⟨fun f _=>trivial,?_⟩
 have e:o.semAt (FR ρ).round a.eval = execOp a.eval o:=by
  rcases hd with rfl|hd
  ·rfl
  ·exact Oper.semAt_eq _ _ _ hd
 rw [e]
 unfold Oper.wp at h
 generalize (execOp a.eval o).run P w = r at h ⊢
 cases r with
 | ok x w' =>
  cases x with
  | value v=>exact h
  | skip=>exact h
  | defer d=>exact h
  | enter f args=>exact ⟨fun hh=>(by cases hh),calls_FR h⟩
  | row row args=>exact ⟨fun hh=>(by cases hh),fun c cs _=>let ⟨v,w',r,s⟩:=h c cs;⟨v,w',r,stepsIn_wide.2 s⟩⟩
  | _=>exact h.elim
 | halt x w' =>
  cases x <;> first|exact h|exact h.elim
theorem op1Y_sound (hT:T.ok P) {ρ:Option Nat} {o:Oper} {fr:Fr} {ds:List Deferred} {H:HProp} {K:ContK} {Kp:PanK} {a:Act} {w:World}
  {next:Act → World → Prop} {Q:Exit → Act → World → Prop} (hdf:ρ = none ∨ ∀ c,o.op ≠ .defer c)
  (hN:a.tmps.size = N) (hrep:fr.rep a.tmps) (hd:a.defers = ds) (hs:Sat W H w) (h:op1Y P W T N o fr ds H K Kp)
  (hn:∀ a' w' fr' ds' H',fr'.rep a'.tmps → a'.tmps.size = N → a'.defers = ds' → Sat W H' w' → K fr' ds' H' → next a' w')
  (hp:∀ c w' H',Sat W H' w' → Kp c fr ds H' → Q (.panic c) a w'):o.wpIn (FR ρ) 0 P a w next Q:=by
 have he:∀ x v,fr.eval x = some v → a.eval x = v:=fun x v e=>Fr.rep_eval hrep e
 have old:op1 P W T N o fr ds H K Kp → o.wpIn (FR ρ) 0 P a w next Q:=fun h=>wpIn_of_wp hdf (op1_sound hT hN hrep hd hs h hn hp)
 unfold op1Y at h
 split at h
 ·rename_i f args tys ho
  split at h
  ·rename_i l hf
   obtain ⟨vs,hl,hy⟩:=evs_elim _ _ h
   obtain ⟨fn,tmps,assign,body,hrun,hround⟩:=hy.run w hs
   refine ⟨fun f _=>trivial,?_⟩
   have e:o.semAt (FR ρ).round a.eval = execOp a.eval o:=Oper.semAt_eq _ _ _ (by rw [ho];intro c e;cases e)
   have hex:(execOp a.eval o).run P w = .ok (.round l fn tmps assign body) w:=by
    simp only [execOp,ho,resolve,he _ _ hf,Deferred.ofValue,invoke,Sem.run_bind,Sem.run_pure,Result.andThen_ok]
    simp only [List.map_toArray,hl a.eval he,Array.empty_append]
    exact hrun
   rw [e,hex,Oper.uponIn_round]
   refine ⟨fun hh=>(by cases hh),RoundIn.mono (F:=Fence.wide) hround ?_⟩
   rintro e w' ⟨H',hs',hq⟩
   cases e with
   | returned v =>
    have hq':putK N fr v (fun fr=>K fr ds H') o.dst:=hq
    obtain ⟨fr',h1,h2,h3,h4⟩:=putK_elim hN hrep hq'
    exact hn _ _ _ _ _ h1 h2 (by rw [h3,hd]) hs' h4
   | panicked c=>exact hp _ _ _ hs' hq
   | outgrown=>exact hq.elim
  ·exact old h
 ·exact old h

theorem execOps_sound (hT:T.ok P) {ρ:Option Nat} (all:List Oper):∀ (l:List Oper) (fr:Fr) (ds:List Deferred) (H:HProp) (K:ContK) (Kp:PanK),
  (ρ = none ∨ ∀ o ∈ l,∀ c,o.op ≠ .defer c) → execOps P W T N all l fr ds H K Kp → ∀ (a:Act) (w:World),fr.rep a.tmps → a.tmps.size = N → a.defers = ds → Sat W H w →
   wpListIn (FR ρ) 0 P ⟨all⟩ (LiftO W N K Kp) l a w
 | [],fr,ds,H,K,Kp,_,h,a,w,hrep,hN,hd,hs=>⟨fr,H,hrep,hN,hs,hd ▸ h⟩
 | o :: rest,fr,ds,H,K,Kp,hdf,h,a,w,hrep,hN,hd,hs=>by
  have hdo:ρ = none ∨ ∀ c,o.op ≠ .defer c:=hdf.imp id fun h=>h o (by simp)
  have ih:=fun fr ds H K Kp=>execOps_sound hT (ρ:=ρ) all rest fr ds H K Kp (hdf.imp id fun h x hx=>h x (List.mem_cons_of_mem _ hx))
  unfold execOps at h
  have step:∀ fr:Fr,fr.rep a.tmps → op1Y P W T N o fr ds H (fun fr ds H=>execOps P W T N all rest fr ds H K Kp) Kp →
    o.wpIn (FR ρ) 0 P a w (wpListIn (FR ρ) 0 P ⟨all⟩ (LiftO W N K Kp) rest) (LiftO W N K Kp):=by
   intro fr hrep h
   refine op1Y_sound hT hdo hN hrep hd hs h ?_ ?_
   ·intro a' w' fr' ds' H' h1 h2 h3 h4 h5
    exact ih _ _ _ _ _ h5 a' w' h1 h2 h3 h4
   ·intro c w' H' h1 h2
    exact ⟨fr,H',hrep,hN,h1,hd ▸ h2⟩
  have skip:∀ fr:Fr,fr.rep a.tmps → putK N fr undef (fun fr=>execOps P W T N all rest fr ds H K Kp) o.dst →
    wpListIn (FR ρ) 0 P ⟨all⟩ (LiftO W N K Kp) rest (a.put o.dst undef) w:=by
   intro fr hrep h
   obtain ⟨fr',h1,h2,h3,h4⟩:=putK_elim hN hrep h
   exact ih _ _ _ _ _ h4 _ w h1 h2 (by rw [h3,hd]) hs
  split at h
  ·rename_i hg
   exact wpListIn_plain hg fun Kn hKn=>by
    have:=step fr hrep h
    refine op1Y_sound hT hdo hN hrep hd hs h ?_ ?_
    ·intro a' w' fr' ds' H' h1 h2 h3 h4 h5
     exact hKn _ _ (ih _ _ _ _ _ h5 a' w' h1 h2 h3 h4)
    ·intro c w' H' h1 h2
     exact ⟨fr,H',hrep,hN,h1,hd ▸ h2⟩
  ·rename_i j want hg
   split at h
   ·rename_i t op ty pos after guard ho
    split at h
    ·rename_i b hb
     have hy:yielded ⟨all⟩ a.tmps j = some b:=by
      have:=hrep _ _ hb
      simp [yielded,ho,this]
     have hrep':Fr.rep ((t,.bool b) :: fr) a.tmps:=Fr.rep_cons hrep (hrep _ _ hb)
     unfold wpListIn
     simp only [Region.wanted,hg,hy]
     rcases spl_elim h with ⟨rfl,h⟩|⟨rfl,h⟩
     ·cases want with
      | true=>simp only [beq_self_eq_true,if_true];exact step _ hrep' h
      | false=>simp only [show (some true == some false) = false from rfl];exact ⟨fun _ _=>trivial,skip _ hrep' h⟩
     ·cases want with
      | true=>simp only [show (some false == some true) = false from rfl];exact ⟨fun _ _=>trivial,skip _ hrep' h⟩
      | false=>simp only [beq_self_eq_true,if_true];exact step _ hrep' h
    ·rename_i vs hb
     have hy:yielded ⟨all⟩ a.tmps j = none:=by
      have:=hrep _ _ hb
      simp [yielded,ho,this]
     unfold wpListIn
     simp only [Region.wanted,hg,hy]
     exact ⟨fun _ _=>trivial,skip _ hrep h⟩
    ·exact h.elim
   ·exact h.elim

theorem keepK_elim {fr:Fr} {tmps:Array Value} (hrep:fr.rep tmps):∀ (ks:List Nat) (K:Fr → Prop),keepK fr ks K → ∃ fr',fr'.rep tmps ∧ K fr'
 | [],K,h=>⟨[],Fr.rep_nil _,h⟩
 | k :: ks,K,h=>by
  simp only [keepK] at h
  split at h
  ·rename_i v hv
   obtain ⟨fr',h1,h2⟩:=keepK_elim hrep ks _ h
   exact ⟨_,Fr.rep_cons h1 (hrep _ _ hv),h2⟩
  ·exact keepK_elim hrep ks _ h
theorem keepO_elim {fr:Fr} {tmps:Array Value} (hrep:fr.rep tmps) {ks:Option (List Nat)} {K:Fr → Prop} (h:keepO fr ks K):∃ fr',fr'.rep tmps ∧ K fr':=by
 cases ks with
 | none=>exact ⟨fr,hrep,h⟩
 | some ks=>exact keepK_elim hrep ks K h

theorem exec_sound (hT:T.ok P) (L:Nat → Option (List Nat)):∀ (c:Code) (Q:PostC) (fr:Fr) (ds:List Deferred) (H:HProp),
  exec P W T N L c Q fr ds H → ∀ (ρ:Option Nat) (a:Act) (w:World),(ρ = none ∨ plainC c = true) → fr.rep a.tmps → a.tmps.size = N → a.defers = ds → Sat W H w → c.wpIn (FR ρ) 0 P (Lift W N Q) a w:=by
 intro c
 have leaf:∀ {Q:PostC} {e:Exit} {fr:Fr} {ds:List Deferred} {H:HProp} {a:Act} {w:World},Q e fr ds H → fr.rep a.tmps → a.tmps.size = N → a.defers = ds → Sat W H w → Lift W N Q e a w :=
  fun h h1 h2 h3 h4=>⟨_,_,h1,h2,h4,h3 ▸ h⟩
 have after:∀ {Q:PostC} {ks:Option (List Nat)} (e:Exit) (a:Act) (w:World),
   LiftO W N (fun fr ds H=>keepO fr ks fun fr=>Q .normal fr ds H) (fun c fr ds H=>Q (.panic c) fr ds H) e a w → Lift W N Q e a w:=by
  rintro Q ks e a w ⟨fr,H,h1,h2,h3,h4⟩
  cases e with
  | normal =>
   obtain ⟨fr',h5,h6⟩:=keepO_elim h1 h4
   exact ⟨fr',H,h5,h2,h3,h6⟩
  | panic c=>exact ⟨fr,H,h1,h2,h3,h4⟩
  | _=>exact h4.elim
 induction c with
 | skip=>exact fun Q fr ds H h ρ a w _ h1 h2 h3 h4=>wpIn_skip (leaf h h1 h2 h3 h4)
 | label l=>exact fun Q fr ds H h ρ a w _ h1 h2 h3 h4=>wpIn_label (leaf h h1 h2 h3 h4)
 | exit id=>exact fun Q fr ds H h ρ a w _ h1 h2 h3 h4=>wpIn_exit (leaf h h1 h2 h3 h4)
 | goto id=>exact fun Q fr ds H h ρ a w _ h1 h2 h3 h4=>wpIn_goto (leaf h h1 h2 h3 h4)
 | ret=>exact fun Q fr ds H h ρ a w _ h1 h2 h3 h4=>wpIn_ret (leaf h h1 h2 h3 h4)
 | region id ops draw =>
  intro Q fr ds H h ρ a w hpl h1 h2 h3 h4
  obtain ⟨l⟩:=ops
  cases draw with
  | false =>
   have:=execOps_sound hT (ρ:=ρ) l l _ _ _ _ _ (hpl.imp (fun e=>e) fun h o ho c e=>by
    simp only [plainC,Bool.and_eq_true,List.all_eq_true] at h
    have:=h.2 o ho
    rw [e] at this
    cases this) h a w h1 h2 h3 h4
   exact wpIn_mono (wpIn_region_list this) after
  | true =>
   rcases hpl with rfl|hpl
   ·exact wpIn_mono (wpIn_wide.2 (h.run id a w h1 h2 h3 h4)) after
   ·simp [plainC] at hpl
 | seq x y ihx ihy =>
  intro Q fr ds H h ρ a w hpl h1 h2 h3 h4
  have hx:ρ = none ∨ plainC x = true:=hpl.imp (fun e=>e) fun h=>by simp only [plainC,Bool.and_eq_true] at h;exact h.1
  have hy:ρ = none ∨ plainC y = true:=hpl.imp (fun e=>e) fun h=>by simp only [plainC,Bool.and_eq_true] at h;exact h.2
  refine wpIn_seq (wpIn_mono (ihx _ _ _ _ h ρ a w hx h1 h2 h3 h4) ?_)
  rintro e a' w' ⟨fr',H',g1,g2,g3,g4⟩
  cases e with
  | normal=>exact ihy _ _ _ _ g4 ρ a' w' hy g1 g2 rfl g3
  | _=>exact ⟨fr',H',g1,g2,g3,g4⟩
 | cond c x y ihx ihy =>
  intro Q fr ds H h ρ a w hpl h1 h2 h3 h4
  have hx:ρ = none ∨ plainC x = true:=hpl.imp (fun e=>e) fun h=>by simp only [plainC,Bool.and_eq_true] at h;exact h.1
  have hy:ρ = none ∨ plainC y = true:=hpl.imp (fun e=>e) fun h=>by simp only [plainC,Bool.and_eq_true] at h;exact h.2
  cases c with
  | tmp z =>
   simp only [exec] at h
   split at h
   ·rename_i t ht
    refine wpIn_cond_split (c:=.tmp z) (Fr.rep_eval h1 ht) ?_ ?_
    ·rintro rfl;exact ihx _ _ _ _ h ρ a w hx (Fr.rep_cons h1 (h1 _ _ ht)) h2 h3 h4
    ·rintro rfl;exact ihy _ _ _ _ h ρ a w hy (Fr.rep_cons h1 (h1 _ _ ht)) h2 h3 h4
   ·exact h.elim
  | const v =>
   cases v with
   | bool t =>
    refine wpIn_cond_split (t:=t) rfl ?_ ?_
    ·rintro rfl;exact ihx _ _ _ _ h ρ a w hx h1 h2 h3 h4
    ·rintro rfl;exact ihy _ _ _ _ h ρ a w hy h1 h2 h3 h4
   | _=>exact h.elim
  | global g=>exact h.elim
  | func f=>exact h.elim
 | block id c ih =>
  intro Q fr ds H h ρ a w hpl h1 h2 h3 h4
  refine wpIn_block (wpIn_mono (ih _ _ _ _ h ρ a w hpl h1 h2 h3 h4) ?_)
  rintro e a' w' ⟨fr',H',g1,g2,g3,g4⟩
  cases e with
  | exit j =>
   simp only at g4
   by_cases hj:j = id
   ·subst hj
    simp only [Exit.inBlock,if_true]
    have:Nat.beq j j = true:=by simp
    rw [this] at g4
    exact ⟨fr',H',g1,g2,g3,g4⟩
   ·simp only [Exit.inBlock,if_neg hj]
    have:Nat.beq j id = false:=by
     cases hb:Nat.beq j id with
     | false=>rfl
     | true=>exact absurd (Nat.eq_of_beq_eq_true hb) hj
    rw [this] at g4
    exact ⟨fr',H',g1,g2,g3,g4⟩
  | _=>exact ⟨fr',H',g1,g2,g3,g4⟩
 | loop c _=>exact fun Q fr ds H h ρ a w hpl h1 h2 h3 h4=>h.run ρ a w hpl h1 h2 h3 h4
 | rangeFunc g ps as bd _ _ =>
  intro Q fr ds H h ρ a w hpl h1 h2 h3 h4
  rcases hpl with rfl|hpl
  ·exact h.run a w h1 h2 h3 h4
  ·cases hpl
 | scope c ih =>
  intro Q fr ds H h ρ a w hpl h1 h2 h3 h4
  rcases hpl with rfl|hpl
  ·refine wpIn_wide.2 (wp_scope_straight (wpIn_wide.1 (wpIn_mono (ih _ _ _ _ h none a w (.inl rfl) h1 h2 h3 h4) ?_)))
   rintro e a' w' ⟨fr',H',g1,g2,g3,g4⟩
   cases e with
   | goto l=>exact g4.elim
   | _=>exact ⟨fr',H',g1,g2,g3,g4⟩
  ·cases hpl
 | _=>intro Q fr ds H h;exact h.elim

theorem exists_least {p:Nat → Prop} (h:∃ m,p m):∃ m,p m ∧ ∀ k,p k → m ≤ k:=by
 obtain ⟨m,hm⟩:=h
 induction m using Nat.strongRecOn with
 | _ m ih =>
  by_cases hex:∃ k,k < m ∧ p k
  ·obtain ⟨k,hk,hj⟩:=hex;exact ih k hk hj
  ·exact ⟨m,hm,fun k hk=>by
    rcases Nat.lt_or_ge k m with h|h
    ·exact absurd ⟨k,h,hk⟩ hex
    ·exact h⟩
open Classical in
noncomputable def leastOf (p:Nat → Prop):Nat:=if h:∃ m,p m then Classical.choose (exists_least h) else 0
theorem leastOf_spec {p:Nat → Prop} (h:∃ m,p m):p (leastOf p) ∧ ∀ k,p k → leastOf p ≤ k:=by
 unfold leastOf
 rw [dif_pos h]
 exact Classical.choose_spec (exists_least h)

theorem LoopK.intro (hT:T.ok P) {L:Nat → Option (List Nat)} {c:Code} {fr:Fr} {ds:List Deferred} {H:HProp} {Q:PostC}
  {ι:Type} (I:ι → Prop) (F:ι → Fr) (Hs:ι → HProp) (μ:ι → Nat) (i:ι) (hI:I i) (hF:∀ t v,(F i).get t = some v → fr.get t = some v) (hH:Imp H (Hs i))
  (round:∀ i,I i → exec P W T N L c (fun e fr' ds' H'=>match e with
   | .normal=>ds' = ds ∧ ∃ j,I j ∧ (∀ t v,(F j).get t = some v → fr'.get t = some v) ∧ Imp H' (Hs j) ∧ μ j < μ i
   | e=>Q e fr' ds' H') (F i) ds (Hs i)):LoopK P W N c fr ds H Q:=by
 refine ⟨fun ρ a w hpl h1 h2 h3 h4=>?_⟩
 let J:Nat → Act → World → Prop:=fun m a w=>∃ i,μ i = m ∧ I i ∧ (F i).rep a.tmps ∧ a.tmps.size = N ∧ a.defers = ds ∧ Sat W (Hs i) w
 have key:∀ m a w,J m a w → (Code.loop c).wpIn (FR ρ) 0 P (Lift W N Q) a w:=by
  intro m a w hj
  refine wpIn_loop (fun a w=>∃ m,J m a w) (fun a w=>leastOf fun m=>J m a w) ⟨m,hj⟩ ?_
  intro a w hj
  obtain ⟨i,hm,hi,g1,g2,g3,g4⟩:=(leastOf_spec hj).1
  refine wpIn_mono (exec_sound hT L _ _ _ _ _ (round i hi) ρ a w hpl g1 g2 g3 g4) ?_
  rintro e a' w' ⟨fr',H',k1,k2,k3,k4⟩
  cases e with
  | normal =>
   obtain ⟨hd,j,hj,hf,hh,hlt⟩:=k4
   have hJ:J (μ j) a' w':=⟨j,rfl,hj,Fr.rep_sub k1 hf,k2,hd,k3.imp hh⟩
   refine ⟨⟨_,hJ⟩,?_⟩
   have:=(leastOf_spec (p:=fun m=>J m a' w') ⟨_,hJ⟩).2 _ hJ
   omega
  | _=>exact ⟨fr',H',k1,k2,k3,k4⟩
 exact key (μ i) a w ⟨i,rfl,hI,Fr.rep_sub h1 hF,h2,h3,h4.imp hH⟩
end

def resK (W:World) (T:Tab) (fr:Fr) (H:HProp):List ResultVar → (List Value → Prop) → Prop
 | [],K=>K []
 | .tmp t :: rs,K=>match fr.get t with
  | some v=>resK W T fr H rs fun l=>K (v :: l)
  | none=>False
 | .cell x t :: rs,K=>match T t,fr.get x with
  | some ⟨_,_,agg,size,_⟩,some (.pointer (some a))=>match agg with
   | true=>LdN W H a size fun v=>resK W T fr H rs fun l=>K (v :: l)
   | false=>Ld W H a fun v=>resK W T fr H rs fun l=>K (v :: l)
  | _,_=>False
def oneK (l:List Value) (K:Value → Prop):Prop:=match l with
 | [v]=>K v
 | l=>K (.tuple ⟨l⟩)
structure LeaveD (P:Program) (W:World) (rs:List ResultVar) (R:Ending → HProp → Prop) (u:FrameMode) (fr:Fr) (ds:List Deferred) (H:HProp):Prop where
 run:∀ (fn:Func) (tmps:Array Value) (w:World),fn.results = ⟨rs⟩ → fr.rep tmps → Sat W H w → LeavesInM Fence.wide 0 P fn tmps (fun e w'=>∃ H',Sat W H' w' ∧ R e H') ds u w
def bodyQ (P:Program) (W:World) (T:Tab) (rs:List ResultVar) (R:Ending → HProp → Prop):PostC
 | .normal,fr,[],H=>resK W T fr H rs fun l=>oneK l fun v=>R (.returned v) H
 | .ret,fr,[],H=>resK W T fr H rs fun l=>oneK l fun v=>R (.returned v) H
 | .panic c,_,[],H=>R (.panicked c) H
 | .normal,fr,ds,H=>LeaveD P W rs R .returning fr ds H
 | .ret,fr,ds,H=>LeaveD P W rs R .returning fr ds H
 | .panic c,fr,ds,H=>LeaveD P W rs R (.panicking c) fr ds H
 | _,_,_,_=>False
def argFr:Nat → List Value → Fr
 | _,[]=>[]
 | k,v :: vs=>(k,v) :: argFr (k + 1) vs

section
variable {P:Program} {W:World} {T:Tab}

def resOne (tmps:Array Value):ResultVar → Sem Value
 | .tmp t=>Pure.pure (tmps.getD t undef)
 | .cell a t=>do loadVar t (← asAddr (tmps.getD a undef))
theorem results_eq (fn:Func) (tmps:Array Value):results fn tmps = (do
  let vs ← fn.results.mapM (resOne tmps)
  Pure.pure (if h:vs.size = 1 then vs[0] else .tuple vs)):=by
 unfold results
 congr 1

theorem resK_elim (hT:T.ok P) {fr:Fr} {tmps:Array Value} (hrep:fr.rep tmps) {H:HProp} {w:World} (hs:Sat W H w) :
  ∀ (rs:List ResultVar) (K:List Value → Prop),resK W T fr H rs K → ∃ l,
   (rs.mapM (resOne tmps)).run P w = .ok l w ∧ K l
 | [],K,h=>⟨[],rfl,h⟩
 | .tmp t :: rs,K,h=>by
  simp only [resK] at h
  split at h
  ·rename_i v hv
   obtain ⟨l,hl,hk⟩:=resK_elim hT hrep hs rs _ h
   have:tmps.getD t undef = v:=by simp [Array.getD_eq_getD_getElem?,hrep _ _ hv]
   exact ⟨v :: l,by simp only [List.mapM_cons,Sem.run_bind,hl,resOne,Sem.run_pure,Result.andThen_ok,this],hk⟩
  ·exact h.elim
 | .cell x t :: rs,K,h=>by
  simp only [resK] at h
  split at h
  ·rename_i und cells agg size bytes ad hr hv
   have hrow:=hT _ _ hr
   have hag:=TRow.agg_run (w:=w) hrow
   have hsz:=TRow.size_run (w:=w) hrow
   have hx:tmps.getD x undef = .pointer (some ad):=by simp [Array.getD_eq_getD_getElem?,hrep _ _ hv]
   split at h
   ·obtain ⟨vs,hl,hk⟩:=h.sound (P:=P) hs
    obtain ⟨l,hl',hk⟩:=resK_elim hT hrep hs rs _ hk
    exact ⟨.agg vs :: l,by simp only [List.mapM_cons,resOne,hx,asAddr,loadVar,Sem.run_bind,Sem.run_pure,Result.andThen_ok,hag,if_true,hsz,hl,hl'],hk⟩
   ·obtain ⟨v,hl,hk⟩:=h.sound (P:=P) hs
    obtain ⟨l,hl',hk⟩:=resK_elim hT hrep hs rs _ hk
    refine ⟨v :: l,?_,hk⟩
    simp only [List.mapM_cons,resOne,hx,asAddr,loadVar,Sem.run_bind,Sem.run_pure,Result.andThen_ok,hag,Bool.false_eq_true,if_false,hl,hl']
  ·exact h.elim

theorem argFr_rep:∀ (vs:List Value) (k:Nat) (tmps:Array Value),(∀ i v,vs[i]? = some v → tmps[k + i]? = some v) → (argFr k vs).rep tmps
 | [],_,_,_=>Fr.rep_nil _
 | v :: vs,k,tmps,h=>by
  refine Fr.rep_cons (argFr_rep vs (k + 1) tmps fun i u hu=>?_) (by simpa using h 0 v rfl)
  have:=h (i + 1) u (by simpa using hu)
  rw [show k + 1 + i = k + (i + 1) by omega];exact this

def codeOf (f:Func):Code:=match f.body with|some c=>c|none=>.skip
theorem results_run (hT:T.ok P) {fr:Fr} {fn:Func} {tmps:Array Value} {rs:List ResultVar} {H:HProp} {w:World} {Q:Value → Prop} (hr:fn.results = ⟨rs⟩) (hrep:fr.rep tmps) (hs:Sat W H w)
  (h:resK W T fr H rs fun l=>oneK l Q):∃ v,(results fn tmps).run P w = .ok v w ∧ Q v:=by
 obtain ⟨l,hl,hk⟩:=resK_elim hT hrep hs rs _ h
 have hres:(results fn tmps).run P w = .ok (if h:l.length = 1 then l[0] else .tuple ⟨l⟩) w:=by
  rw [results_eq,hr,Sem.run_bind,List.mapM_toArray,Sem.run_map,hl]
  simp
 refine ⟨_,hres,?_⟩
 unfold oneK at hk
 split at hk
 ·simpa using hk
 ·rename_i hne
  have:¬ l.length = 1:=fun e=>by
   match l,e with
   | [v],_=>exact hne v rfl
  simpa [this] using hk
theorem Does.of_exec (hT:T.ok P) {f:FuncId} {fn:Func} {c:Code} {args:List Value} {H:HProp} {R:Ending → HProp → Prop} {rs:List ResultVar} {N:Nat}
  (L:Nat → Option (List Nat)) (hf:P.funcs[f]? = some fn) (hb:fn.body = some c) (hr:fn.results = ⟨rs⟩) (hN:fn.ntmps = N) (hle:args.length ≤ N)
  (h:exec P W T N L c (bodyQ P W T rs R) (argFr 0 args) [] H):Does P W f ⟨args⟩ H R:=by
 refine ⟨fun w hs=>(callsIn_wide (n:=0)).1 (callsIn_of_wp_marks hf hb trivial ?_)⟩
 have hrep:(argFr 0 args).rep (⟨args⟩ ++ Array.replicate (fn.ntmps - args.length) undef:Array Value):=by
  refine argFr_rep _ _ _ fun i v hv=>?_
  have hi:i < args.length:=by
   rcases Nat.lt_or_ge i args.length with h|h
   ·exact h
   ·simp [List.getElem?_eq_none h] at hv
  rw [Array.getElem?_append_left (by simpa using hi)]
  simpa using hv
 refine wpIn_mono (exec_sound hT L c _ _ _ _ h none _ w (.inl rfl) hrep (by simp [hN];omega) rfl hs) ?_
 rintro e a w' ⟨fr,H',h1,h2,h3,h4⟩
 have fin:∀ ds,(match ds with|[]=>resK W T fr H' rs (fun l=>oneK l fun v=>R (.returned v) H')|d :: ds=>LeaveD P W rs R .returning fr (d :: ds) H') →
   LeavesInM Fence.wide 0 P fn a.tmps (fun e w'=>∃ H',Sat W H' w' ∧ R e H') ds .returning w':=by
  intro ds h
  cases ds with
  | nil =>
   obtain ⟨v,hv,hk⟩:=results_run hT hr h1 h3 h
   exact ⟨v,hv,H',h3,hk⟩
  | cons d ds=>exact h.run fn a.tmps w' hr h1 h3
 cases e with
 | normal =>
  refine fin a.defers ?_
  cases hd:a.defers with
  | nil=>rw [hd] at h4;exact h4
  | cons d ds=>rw [hd] at h4;exact h4
 | ret =>
  refine fin a.defers ?_
  cases hd:a.defers with
  | nil=>rw [hd] at h4;exact h4
  | cons d ds=>rw [hd] at h4;exact h4
 | panic c =>
  show LeavesInM Fence.wide 0 P fn a.tmps (fun e w'=>∃ H',Sat W H' w' ∧ R e H') a.defers (.panicking c) w'
  cases hd:a.defers with
  | nil=>rw [hd] at h4;exact ⟨H',h3,h4⟩
  | cons d ds=>rw [hd] at h4;exact h4.run fn a.tmps w' hr h1 h3
 | exit id=>cases hd:a.defers <;> (rw [hd] at h4;exact h4.elim)
 | goto id=>cases hd:a.defers <;> (rw [hd] at h4;exact h4.elim)
 | outgrown=>cases hd:a.defers <;> (rw [hd] at h4;exact h4.elim)

theorem Does.mono {f:FuncId} {args:Array Value} {H H':HProp} {Q Q':Ending → HProp → Prop} (h:Does P W f args H Q) (hH:Ent H' H)
  (hq:∀ e H,Q e H → Q' e H):Does P W f args H' Q' :=
 ⟨fun w hs=>(h.run w (hs.mono hH)).mono fun _ _ ⟨H,a,b⟩=>⟨H,a,hq _ _ b⟩⟩
end
theorem callable_of {P : Program} {f : FuncId} {fn : Func} {c : Code} (hf : P.funcs[f]? = some fn) (hn : (fn.name == "runtime.NumGoroutine") = false) (hb : fn.body = some c) : Callable P f := by
 refine ⟨fun args w=>?_⟩
 unfold callFunc
 simp only [Sem.run_bind,run_program,Result.andThen_ok,hf,hn,hb]
 rfl
end Go.SL
