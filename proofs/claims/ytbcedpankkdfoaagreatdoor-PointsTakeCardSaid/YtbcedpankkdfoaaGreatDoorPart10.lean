/- Equality of the structs that the functions compare: written by a program (tools/gen.py). No condition. -/
import Derived.Test.YtbcedpankkdfoaaGreatDoorPart5
import Derived.Test.YtbcedpankkdfoaaGreatDoorPart9
import Derived.Test.YtbcedpankkdfoaaGreatDoorPart6
import Derived.RangeFuncIn
import Derived.RangeFuncRecord
import Derived.RecoverIn
set_option linter.unusedVariables false
set_option linter.unusedSimpArgs false
namespace Go.Proofs.YtbcedpankkdfoaaGreatDoor
open Go Go.SL
set_option linter.unusedSimpArgs false
theorem eqr3 (d:Nat) (a b:Int) (w:World):(Op.equalIn (d + 1) 3 (.int .i64 a) (.int .i64 b)).run prog w = .ok (decide (a = b)) w:=eqAt_int Go.Proofs.Tryz.underlying3 d a b w
theorem eqr2 (d:Nat) (a b:Int) (w:World):(Op.equalIn (d + 1) 2 (.int .i64 a) (.int .i64 b)).run prog w = .ok (decide (a = b)) w:=eqAt_int Go.Proofs.Tryz.underlying2 d a b w
theorem eqr77 (n:Nat) (a0 b0 a1 b1:Int) (w:World):(Op.equalIn (n + 2) 77 (.agg ⟨[.int .i64 a0,.int .i64 a1]⟩) (.agg ⟨[.int .i64 b0,.int .i64 b1]⟩)).run prog w = .ok (decide (a0 = b0) && decide (a1 = b1)) w:=by
 have hs:prog.stoodInHeld 77 = false:=by kernel_rfl
 rw [Op.equalIn]
 simp [hs,part,run_underlying Go.Proofs.Tryz.underlying77,Go.Proofs.Tryz.isAgg2,Go.Proofs.Tryz.sizeOf2,eqr2]
 repeat' split
 all_goals simp_all
theorem eqr79 (n:Nat) (a0 b0 a1 b1 a2 b2 a3 b3 a4 b4:Int) (w:World):(Op.equalIn (n + 3) 79 (.agg ⟨[.int .i64 a0,.int .i64 a1,.int .i64 a2,.int .i64 a3,.int .i64 a4]⟩) (.agg ⟨[.int .i64 b0,.int .i64 b1,.int .i64 b2,.int .i64 b3,.int .i64 b4]⟩)).run prog w = .ok (decide (a0 = b0) && decide (a1 = b1) && decide (a2 = b2) && decide (a3 = b3) && decide (a4 = b4)) w:=by
 have hs:prog.stoodInHeld 79 = false:=by kernel_rfl
 rw [Op.equalIn]
 simp [hs,part,run_underlying Go.Proofs.Tryz.underlying79,Go.Proofs.Tryz.isAgg2,Go.Proofs.Tryz.isAgg3,Go.Proofs.Tryz.isAgg77,Go.Proofs.Tryz.sizeOf2,Go.Proofs.Tryz.sizeOf3,Go.Proofs.Tryz.sizeOf77,eqr2,eqr3,eqr77]
 repeat' split
 all_goals simp_all
instance:EqT prog 79:=⟨by kernel_rfl⟩
instance {a0 b0 a1 b1 a2 b2 a3 b3 a4 b4:Int}:EqC prog 79 [.int .i64 a0,.int .i64 a1,.int .i64 a2,.int .i64 a3,.int .i64 a4] [.int .i64 b0,.int .i64 b1,.int .i64 b2,.int .i64 b3,.int .i64 b4] (decide (a0 = b0) && decide (a1 = b1) && decide (a2 = b2) && decide (a3 = b3) && decide (a4 = b4)):=⟨fun w=>eqr79 9997 a0 b0 a1 b1 a2 b2 a3 b3 a4 b4 w⟩
theorem eqr81 (n:Nat) (a0 b0 a1 b1:Int) (w:World):(Op.equalIn (n + 2) 81 (.agg ⟨[.int .i64 a0,.int .i64 a1]⟩) (.agg ⟨[.int .i64 b0,.int .i64 b1]⟩)).run prog w = .ok (decide (a0 = b0) && decide (a1 = b1)) w:=by
 have hs:prog.stoodInHeld 81 = false:=by kernel_rfl
 rw [Op.equalIn]
 simp [hs,part,run_underlying Go.Proofs.Tryz.underlying81,Go.Proofs.Tryz.isAgg2,Go.Proofs.Tryz.isAgg3,Go.Proofs.Tryz.sizeOf2,Go.Proofs.Tryz.sizeOf3,eqr2,eqr3]
 repeat' split
 all_goals simp_all
instance:EqT prog 81:=⟨by kernel_rfl⟩
instance {a0 b0 a1 b1:Int}:EqC prog 81 [.int .i64 a0,.int .i64 a1] [.int .i64 b0,.int .i64 b1] (decide (a0 = b0) && decide (a1 = b1)):=⟨fun w=>eqr81 9998 a0 b0 a1 b1 w⟩
theorem eqr83 (n:Nat) (a0 b0 a1 b1:Int) (w:World):(Op.equalIn (n + 2) 83 (.agg ⟨[.int .i64 a0,.int .i64 a1]⟩) (.agg ⟨[.int .i64 b0,.int .i64 b1]⟩)).run prog w = .ok (decide (a0 = b0) && decide (a1 = b1)) w:=by
 have hs:prog.stoodInHeld 83 = false:=by kernel_rfl
 rw [Op.equalIn]
 simp [hs,part,run_underlying Go.Proofs.Tryz.underlying83,Go.Proofs.Tryz.isAgg3,Go.Proofs.Tryz.sizeOf3,eqr3]
 repeat' split
 all_goals simp_all
instance:EqT prog 83:=⟨by kernel_rfl⟩
instance {a0 b0 a1 b1:Int}:EqC prog 83 [.int .i64 a0,.int .i64 a1] [.int .i64 b0,.int .i64 b1] (decide (a0 = b0) && decide (a1 = b1)):=⟨fun w=>eqr83 9998 a0 b0 a1 b1 w⟩
theorem eqr121 (n:Nat) (a0 b0 a1 b1:Int) (w:World):(Op.equalIn (n + 2) 121 (.agg ⟨[.int .i64 a0,.int .i64 a1]⟩) (.agg ⟨[.int .i64 b0,.int .i64 b1]⟩)).run prog w = .ok (decide (a0 = b0) && decide (a1 = b1)) w:=by
 have hs:prog.stoodInHeld 121 = false:=by kernel_rfl
 rw [Op.equalIn]
 simp [hs,part,run_underlying Go.Proofs.Tryz.underlying121,Go.Proofs.Tryz.isAgg3,Go.Proofs.Tryz.sizeOf3,eqr3]
 repeat' split
 all_goals simp_all
instance:EqT prog 121:=⟨by kernel_rfl⟩
instance {a0 b0 a1 b1:Int}:EqC prog 121 [.int .i64 a0,.int .i64 a1] [.int .i64 b0,.int .i64 b1] (decide (a0 = b0) && decide (a1 = b1)):=⟨fun w=>eqr121 9998 a0 b0 a1 b1 w⟩
theorem eqr4 (d:Nat) (a b:Bool) (w:World):(Op.equalIn (d + 1) 4 (.bool a) (.bool b)).run prog w = .ok (a == b) w:=eqAt_bool Go.Proofs.Tryz.underlying4 d a b w
theorem eqr158 (n:Nat) (a0 b0 a1 b1:Int) (a2 b2 a3 b3:Bool) (w:World):(Op.equalIn (n + 2) 158 (.agg ⟨[.int .i64 a0,.int .i64 a1,.bool a2,.bool a3]⟩) (.agg ⟨[.int .i64 b0,.int .i64 b1,.bool b2,.bool b3]⟩)).run prog w = .ok (decide (a0 = b0) && decide (a1 = b1) && (a2 == b2) && (a3 == b3)) w:=by
 have hs:prog.stoodInHeld 158 = false:=by kernel_rfl
 rw [Op.equalIn]
 simp [hs,part,run_underlying Go.Proofs.Tryz.underlying158,Go.Proofs.Tryz.isAgg3,Go.Proofs.Tryz.isAgg4,Go.Proofs.Tryz.sizeOf3,Go.Proofs.Tryz.sizeOf4,eqr3,eqr4]
 repeat' split
 all_goals simp_all
instance:EqT prog 158:=⟨by kernel_rfl⟩
instance {a0 b0 a1 b1:Int} {a2 b2 a3 b3:Bool}:EqC prog 158 [.int .i64 a0,.int .i64 a1,.bool a2,.bool a3] [.int .i64 b0,.int .i64 b1,.bool b2,.bool b3] (decide (a0 = b0) && decide (a1 = b1) && (a2 == b2) && (a3 == b3)):=⟨fun w=>eqr158 9998 a0 b0 a1 b1 a2 b2 a3 b3 w⟩
end Go.Proofs.YtbcedpankkdfoaaGreatDoor
/- Ranges over a function: the loop, its iterator, its rounds; the mark that a function leaves with. No condition. -/
namespace Go.SL
open Go
section
variable {P:Program} {W:World} {T:Tab} {N:Nat} {H R:HProp}

def IterSpec (P:Program) (W:World) (gf:FuncId) (lb:List Value) (n:Nat) (encs:Nat → List Value) (F:HProp):Prop :=
 ∀ (l:Nat) (J:Nat → HProp) (Jx:HProp),
  (∀ k,k < n → YieldK P W l (encs k) (F•J k) (fun v H'=>(v = .bool true ∧ Imp H' (F•J (k + 1))) ∨ (v = .bool false ∧ Imp H' (F•Jx))) (fun _ _=>False)) →
  Does P W gf ⟨.func (.yield l) ⟨[]⟩ ⟨[]⟩ :: lb⟩ (F•J 0) (Ret fun _ G=>G = (F•J n) ∨ G = (F•Jx))
def dfr (D:Nat):HProp:=pts D (.deferred (some []))
def markD (D:Nat):Deferred:={ target:=.collected D,args:=#[] }
def bindF:List Tmp → List Value → Fr → Fr
 | p :: ps,v :: vs,fr=>bindF ps vs ((p,v) :: fr)
 | _,_,fr=>fr
theorem bindF_rep:∀ (ps:List Tmp) (vs:List Value) (fr:Fr) (tmps:Array Value),fr.rep tmps → (∀ p ∈ ps,p < tmps.size) →
  (bindF ps vs fr).rep ((ps.zip vs).foldl (fun t (p,v)=>t.setIfInBounds p v) tmps)
 | [],_,fr,tmps,h,_=>by simpa [bindF] using h
 | _ :: _,[],fr,tmps,h,_=>by simpa [bindF] using h
 | p :: ps,v :: vs,fr,tmps,h,hp=>by
  simp only [bindF,List.zip_cons_cons,List.foldl_cons]
  refine bindF_rep ps vs _ _ ?_ (fun q hq=>by simpa using hp q (List.mem_cons_of_mem _ hq))
  intro t u hu
  rw [Fr.get_cons] at hu
  split at hu
  ·rename_i e;subst e;cases hu
   have:=hp p (by simp)
   simp [this]
  ·rename_i e
   rw [Array.getElem?_setIfInBounds_ne e]
   exact h t u hu
theorem foldl_size:∀ (l:List (Tmp × Value)) (tmps:Array Value),(l.foldl (fun t (p,v)=>t.setIfInBounds p v) tmps).size = tmps.size
 | [],_=>rfl
 | (p,v) :: l,tmps=>by rw [List.foldl_cons,foldl_size l];simp

def roundQ (J:Nat → HProp) (Jx:Code → HProp) (jumps:List Code) (k:Nat) (X:HProp):PostC
 | .normal,_,_,H'=>True ∧ Imp H' (X•J (k + 1))
 | .ret,_,_,H'=>Code.ret ∈ jumps ∧ Imp H' (X•Jx .ret)
 | .exit id,_,_,H'=>Code.exit id ∈ jumps ∧ Imp H' (X•Jx (.exit id))
 | .goto t,_,_,H'=>Code.goto t ∈ jumps ∧ Imp H' (X•Jx (.goto t))
 | _,_,_,_=>False
def asQ (P:Program) (W:World) (T:Tab) (N:Nat) (L:Nat → Option (List Nat)) (bd:Code) (J:Nat → HProp) (Jx:Code → HProp) (jumps:List Code) (k:Nat) (X:HProp):PostC
 | .normal,fr1,ds1,H1=>ds1 = [] ∧ ∃ E,Imp H1 (X•E) ∧ ∀ Y,exec P W T N L bd (roundQ J Jx jumps k Y) fr1 [] (Y•E)
 | _,_,_,_=>False

theorem Same.putObj {w:World} {r:Nat} {o:Obj}:Same w (w.putObj r o):=⟨rfl,rfl,rfl,by simp⟩
theorem Sat.putObj {w:World} {r:Nat} {o:Obj} (h:Sat W (pts r o•R) w) (o':Obj):Sat W (pts r o'•R) (w.putObj r o') :=
 h.set o' Same.putObj (World.putObj_heap_same h.lt) fun _ hk=>World.putObj_heap_other hk

theorem RangeK.introG (hT:T.ok P) {L:Nat → Option (List Nat)} {g:Operand} {ps:List Tmp} {asg bd:Code} {fr:Fr} {ds:List Deferred} {Q:PostC} {gf:FuncId} {lb:List Value}
  (hg:fr.eval g = some (.func (.func gf) ⟨[]⟩ ⟨lb⟩)) (hcall:Callable P gf) (n:Nat) (encs:Nat → List Value) (hps:∀ k,(encs k).length = ps.length) (hlt:∀ p ∈ ps,p < N)
  (hpa:plainC asg = true) (hpb:plainC bd = true) (J:Nat → HProp) (Jx:Code → HProp) (jumps:List Code) (F:HProp) (hH:Imp H (F•J 0)) (iter:IterSpec P W gf lb n encs F)
  (round:∀ k,k < n → ∀ X w,Sat W (X•J k) w → ∃ G,Sat W (X•G) w ∧ exec P W T N L asg (asQ P W T N L bd J Jx jumps k X) (bindF ps (encs k) fr) [] (X•G))
  (done:∀ D w,Sat W (dfr D•F•J n) w → ∃ G,Sat W (dfr D•F•G) w ∧ Q .normal fr (markD D :: ds) (dfr D•F•G))
  (stop:∀ D c w,c ∈ jumps → Sat W (dfr D•F•Jx c) w → ∃ G,Sat W (dfr D•F•G) w ∧ match c with
   | .ret=>Q .ret fr (markD D :: ds) (dfr D•F•G)
   | .exit id=>Q (.exit id) fr (markD D :: ds) (dfr D•F•G)
   | .goto t=>Q (.goto t) fr (markD D :: ds) (dfr D•F•G)
   | _=>False):RangeK P W N (.rangeFunc g ⟨ps⟩ asg bd) fr ds H Q:=by
 refine ⟨fun a w hrep hN hd hs=>wpIn_rangeFunc ?_⟩
 intro fn hfn
 obtain ⟨rec,hrec⟩:∃ rec:LoopState → Option Code → Loop,rec = fun st pe=>{ state:=st,pending:=pe,fn,tmps:=a.tmps,params:=⟨ps⟩,assign:=asg,body:=bd,defers:=w.heap.size }:=⟨_,rfl⟩
 obtain ⟨W1,hW1⟩:∃ W1,(w.alloc (.deferred (some []))).alloc (.loop (rec .ready none)) = W1:=⟨_,rfl⟩
 obtain ⟨D,hD⟩:∃ D,D = w.heap.size:=⟨_,rfl⟩
 obtain ⟨l,hl⟩:∃ l,l = w.heap.size + 1:=⟨_,rfl⟩
 have hs1:Sat W (pts l (.loop (rec .ready none))•dfr D•H) W1:=by
  have h1:=hs.alloc (.deferred (some []))
  have h2:=h1.alloc (.loop (rec .ready none))
  rw [← hW1,hl,hD]
  have h3:w.heap.size + 1 = (w.heap.push (Obj.deferred (some []))).size:=by simp
  rw [h3]
  exact h2
 have hev:a.eval g = .func (.func gf) ⟨[]⟩ ⟨lb⟩:=Fr.rep_eval hrep hg
 let pl:LoopState → Option Code → HProp:=fun st pe=>pts l (.loop (rec st pe))
 let J':Nat → HProp:=fun k=>(pl .ready none•dfr D•J k)
 let Jx':HProp:=SL.ex fun c=>(SL.pure (c ∈ jumps)•pl .done (some c)•dfr D•Jx c)
 have hyield:∀ k,k < n → YieldK P W l (encs k) (F•J' k) (fun v H'=>(v = .bool true ∧ Imp H' (F•J' (k + 1))) ∨ (v = .bool false ∧ Imp H' (F•Jx'))) (fun _ _=>False):=by
  intro k hk
  refine ⟨fun w1 hs1=>?_⟩
  have hs2:Sat W (pl .ready none•F•dfr D•J k) w1:=by rw [star_left_comm];exact hs1
  have hrd:=hs2.at
  have hy:=run_yield (P:=P) (args:=⟨encs k⟩) hrd (by rw [hrec];simpa using hps k)
  refine ⟨_,_,_,_,hy,?_⟩
  rw [hrec]
  refine roundIn_of_wpIn (F:=Fence.wide) trivial ?_
  have hsx:Sat W ((F•pl .ready none•dfr D)•J k) w1:=by simpa only [star_assoc] using hs1
  have hrep':(bindF ps (encs k) fr).rep ((((⟨ps⟩:Array Tmp).zip ⟨encs k⟩).foldl (fun tmps (t,a)=>tmps.setIfInBounds t a) a.tmps)):=by
   simpa using bindF_rep ps (encs k) fr a.tmps hrep (fun p hp=>by rw [hN];exact hlt p hp)
  have hsz:(((⟨ps⟩:Array Tmp).zip ⟨encs k⟩).foldl (fun tmps (t,a)=>tmps.setIfInBounds t a) a.tmps).size = N:=by
   have:=foldl_size (ps.zip (encs k)) a.tmps
   simp only [List.zip_toArray,List.foldl_toArray]
   rw [this];exact hN
  obtain ⟨G0,hsg,hround⟩:=round k hk (F•pl .ready none•dfr D) w1 hsx
  refine wpIn_mono (exec_sound hT L asg _ _ _ _ hround (some l) ⟨_,[]⟩ w1 (.inr hpa) hrep' hsz rfl hsg) ?_
  rintro e a1 w2 ⟨fr1,H1,g1,g2,g3,g4⟩
  cases e with
  | normal =>
   obtain ⟨hds1,E,hi,hb⟩:=g4
   have hs3:Sat W (pl .ready none•F•dfr D•E) w2:=by
    have:=g3.imp hi
    simp only [star_assoc] at this
    rw [star_left_comm] at this
    exact this
   have hbr:=run_beginRound (P:=P) hs3.at (by rw [hrec])
   refine ⟨_,hbr,?_⟩
   have hbusy:({ rec .ready none with state:=.busy }:Loop) = rec .busy none:=by rw [hrec]
   rw [hbusy]
   have hs4:=hs3.putObj (.loop (rec .busy none))
   have hs5:Sat W ((F•pl .busy none•dfr D)•E) (w2.putObj l (.loop (rec .busy none))):=by
    rw [star_assoc,star_assoc,star_left_comm];exact hs4
   have a1d:a1.defers = []:=hds1
   refine wpIn_mono (exec_sound hT L bd _ _ _ _ (hb (F•pl .busy none•dfr D)) (some l) a1 _ (.inr hpb) g1 g2 a1d hs5) ?_
   have fin:∀ (jump:Option Code) (G:HProp) (w3:World),Sat W ((F•pl .busy none•dfr D)•G) w3 →
     (Instr.endRound l jump).run P w3 = .ok (.bool jump.isNone) (w3.putObj l (.loop (rec (if jump.isNone then .ready else .done) jump))) ∧
     Sat W (F•pl (if jump.isNone then .ready else .done) jump•dfr D•G) (w3.putObj l (.loop (rec (if jump.isNone then .ready else .done) jump))):=by
    intro jump G w3 hs6
    have hs7:Sat W (pl .busy none•F•dfr D•G) w3:=by
     simp only [star_assoc] at hs6
     rw [star_left_comm] at hs6
     exact hs6
    have hr:=run_endRound (P:=P) jump hs7.at
    have he:({ rec .busy none with state:=if jump.isNone then .ready else .done,pending:=jump }:Loop) = rec (if jump.isNone then .ready else .done) jump:=by rw [hrec]
    rw [he] at hr
    refine ⟨hr,?_⟩
    rw [star_left_comm]
    exact hs7.putObj _
   rintro e2 a2 w3 ⟨fr2,H2,k1,k2,k3,k4⟩
   cases e2 with
   | normal =>
    obtain ⟨hr,hs6⟩:=fin none (J (k + 1)) w3 (k3.imp k4.2)
    exact ⟨_,_,hr,_,hs6,.inl ⟨rfl,Imp.refl _⟩⟩
   | ret =>
    obtain ⟨hm,k4⟩:=k4
    obtain ⟨hr,hs6⟩:=fin (some .ret) (Jx .ret) w3 (k3.imp k4)
    exact ⟨_,_,hr,_,hs6,.inr ⟨rfl,Imp.right (Imp.ex Code.ret (Imp.pure hm (Imp.refl _)))⟩⟩
   | exit id =>
    obtain ⟨hm,k4⟩:=k4
    obtain ⟨hr,hs6⟩:=fin (some (.exit id)) (Jx (.exit id)) w3 (k3.imp k4)
    exact ⟨_,_,hr,_,hs6,.inr ⟨rfl,Imp.right (Imp.ex (Code.exit id) (Imp.pure hm (Imp.refl _)))⟩⟩
   | goto t =>
    obtain ⟨hm,k4⟩:=k4
    obtain ⟨hr,hs6⟩:=fin (some (.goto t)) (Jx (.goto t)) w3 (k3.imp k4)
    exact ⟨_,_,hr,_,hs6,.inr ⟨rfl,Imp.right (Imp.ex (Code.goto t) (Imp.pure hm (Imp.refl _)))⟩⟩
   | panic c=>exact k4.elim
   | outgrown=>exact k4.elim
  | exit id=>exact g4.elim
  | goto t=>exact g4.elim
  | ret=>exact g4.elim
  | panic c=>exact g4.elim
  | outgrown=>exact g4.elim
 have hdoes:=iter l J' Jx' hyield
 have hs2:Sat W (F•J' 0) W1:=by
  have h3:Sat W (pl .ready none•dfr D•F•J 0) W1:=hs1.imp (Imp.right (Imp.right hH))
  show Sat W (F•pl .ready none•dfr D•J 0) W1
  rw [star_left_comm F,star_left_comm F]
  exact h3
 refine ⟨l,[markD D],W1,{ target:=.fn (.func gf) ⟨lb⟩,args:=#[.func (.yield l) #[] #[]] },W1,gf,⟨.func (.yield l) ⟨[]⟩ ⟨[]⟩ :: lb⟩,W1,?_,?_,fun _ _=>trivial,?_,fun hh=>(by cases hh),?_⟩
 ·rw [← hW1,hl,hD,hrec];exact run_enterLoop_outer _ _ _ _ _
 ·simp only [resolve,hev]
  simp [go_sem]
 ·simp only [invoke]
  rw [hcall.h]
  simp
 ·refine (callsIn_wide (n:=0 - 1)).2 ((hdoes.run W1 hs2).mono ?_)
  rintro e w3 ⟨H',hs3,v,G,rfl,hi,hG⟩
  have hs4:=hs3.imp hi
  rcases hG with rfl|rfl
  ·have hs5:Sat W (pl .ready none•F•dfr D•J n) w3:=by
    have:Sat W (F•pl .ready none•dfr D•J n) w3:=hs4
    rw [star_left_comm] at this;exact this
   have hend:=run_endLoop (P:=P) hs5.at (by rw [hrec];simp)
   obtain ⟨X,hX⟩:∃ X:Loop,X = { rec .ready none with state:=.exhausted }:=⟨_,rfl⟩
   rw [← hX,show (rec .ready none).pending = none by rw [hrec]] at hend
   refine ⟨_,_,hend,?_⟩
   have hs8:Sat W (dfr D•F•J n) (w3.putObj l (.loop X)):=by
    have h6:=(hs5.putObj (.loop X)).right
    rw [star_left_comm] at h6
    exact h6
   obtain ⟨G0,hsg,hdone⟩:=done D _ hs8
   exact ⟨fr,_,hrep,hN,hsg,by rw [← hd] at hdone;exact hdone⟩
  ·have hs5:Sat W (Jx'•F) w3:=by rw [star_comm];exact hs4
   rw [show Jx' = _ from rfl,ex_star] at hs5
   obtain ⟨c,hs6⟩:=hs5.ex
   rw [star_assoc] at hs6
   obtain ⟨hc,hs7⟩:=hs6.pure
   rw [star_assoc] at hs7
   have hend:=run_endLoop (P:=P) hs7.at (by rw [hrec];simp)
   obtain ⟨X,hX⟩:∃ X:Loop,X = { rec .done (some c) with state:=.exhausted }:=⟨_,rfl⟩
   rw [← hX,show (rec .done (some c)).pending = some c by rw [hrec]] at hend
   refine ⟨_,_,hend,?_⟩
   have hs8:Sat W (dfr D•F•Jx c) (w3.putObj l (.loop X)):=by
    have h6:=(hs7.putObj (.loop X)).right
    rw [star_assoc,star_comm (Jx c) F] at h6
    exact h6
   obtain ⟨G0,hsg,hst⟩:=stop D c _ hc hs8
   cases c with
   | ret=>exact wpIn_ret ⟨fr,_,hrep,hN,hsg,by rw [← hd] at hst;exact hst⟩
   | exit id=>exact wpIn_exit ⟨fr,_,hrep,hN,hsg,by rw [← hd] at hst;exact hst⟩
   | goto t=>exact wpIn_goto ⟨fr,_,hrep,hN,hsg,by rw [← hd] at hst;exact hst⟩
   | _=>exact hst.elim

def known {σ:Type} (φ:σ → Prop) (J:σ → HProp):HProp:=SL.ex fun s=>SL.pure (φ s)•J s
theorem known_sat {σ:Type} {φ:σ → Prop} {J:σ → HProp} {X:HProp} {w:World} (h:Sat W (X•known φ J) w):∃ s,φ s ∧ Sat W (X•J s) w:=by
 rw [star_comm,known,ex_star] at h
 obtain ⟨s,h⟩:=h.ex
 rw [star_assoc] at h
 obtain ⟨hp,h⟩:=h.pure
 rw [star_comm] at h
 exact ⟨s,hp,h⟩
theorem Imp.known {σ:Type} {φ:σ → Prop} {J:σ → HProp} (s:σ) (h:φ s) {G:HProp} (hi:Imp G (J s)):Imp G (known φ J):=Imp.ex s (Imp.pure h hi)
theorem RangeK.intro (hT:T.ok P) {L:Nat → Option (List Nat)} {g:Operand} {ps:List Tmp} {asg bd:Code} {fr:Fr} {ds:List Deferred} {Q:PostC} {gf:FuncId} {lb:List Value}
  (hg:fr.eval g = some (.func (.func gf) ⟨[]⟩ ⟨lb⟩)) (hcall:Callable P gf) (n:Nat) (encs:Nat → List Value) (hps:∀ k,(encs k).length = ps.length) (hlt:∀ p ∈ ps,p < N)
  (hpa:plainC asg = true) (hpb:plainC bd = true) {σ τ:Type} (φ:Nat → σ → Prop) (J:Nat → σ → HProp) (ψ:Code → τ → Prop) (Jx:Code → τ → HProp) (jumps:List Code) (F:HProp) (s0:σ) (h0:φ 0 s0) (hH:Imp H (F•J 0 s0)) (iter:IterSpec P W gf lb n encs F)
  (round:∀ k s,k < n → φ k s → ∀ X,exec P W T N L asg (asQ P W T N L bd (fun k=>known (φ k) (J k)) (fun c=>known (ψ c) (Jx c)) jumps k X) (bindF ps (encs k) fr) [] (X•J k s))
  (done:∀ D s,φ n s → Q .normal fr (markD D :: ds) (dfr D•F•J n s))
  (stop:∀ D c s,c ∈ jumps → ψ c s → match c with
   | .ret=>Q .ret fr (markD D :: ds) (dfr D•F•Jx .ret s)
   | .exit id=>Q (.exit id) fr (markD D :: ds) (dfr D•F•Jx (.exit id) s)
   | .goto t=>Q (.goto t) fr (markD D :: ds) (dfr D•F•Jx (.goto t) s)
   | _=>False):RangeK P W N (.rangeFunc g ⟨ps⟩ asg bd) fr ds H Q:=by
 refine RangeK.introG (L:=L) hT hg hcall n encs hps hlt hpa hpb (fun k=>known (φ k) (J k)) (fun c=>known (ψ c) (Jx c)) jumps F (Imp.trans hH (Imp.right (Imp.known s0 h0 (Imp.refl _)))) iter ?_ ?_ ?_
 ·intro k hk X w hs
  obtain ⟨s,h1,h2⟩:=known_sat hs
  exact ⟨_,h2,round k s hk h1 X⟩
 ·intro D w hs
  rw [← star_assoc] at hs
  obtain ⟨s,h1,h2⟩:=known_sat hs
  rw [star_assoc] at h2
  exact ⟨_,h2,done D s h1⟩
 ·intro D c w hc hs
  rw [← star_assoc] at hs
  obtain ⟨s,h1,h2⟩:=known_sat hs
  rw [star_assoc] at h2
  have:=stop D c s hc h1
  refine ⟨_,h2,?_⟩
  cases c <;> exact this

theorem LeaveD.mark (hT:T.ok P) {rs:List ResultVar} {Rr:Ending → HProp → Prop} {fr:Fr} {D:Nat} [t:TkC H (dfr D) R]
  (h:resK W T fr R rs fun l=>oneK l fun v=>Rr (.returned v) R):LeaveD P W rs Rr .returning fr [markD D] H:=by
 refine ⟨fun fn tmps w hr hrep hs=>?_⟩
 rw [t.h.eq] at hs
 have htk:=run_takeDeferred (P:=P) hs.at
 have hs2:=(hs.putObj (.deferred none)).right
 obtain ⟨v,hv,hk⟩:=results_run hT hr hrep hs2 h
 refine ⟨by simp,.inl ⟨D,_,rfl,htk,?_⟩⟩
 exact ⟨v,hv,R,hs2,hk⟩
theorem YieldK.use {l:Nat} {vs:List Value} {H0:HProp} {K0 K:Value → HProp → Prop} {Kp:List PanicEntry → HProp → Prop} (h:YieldK P W l vs H0 K0 (fun _ _=>False)) (hi:Imp H H0)
  (k:∀ v H',K0 v H' → ∃ H'',Imp H' H'' ∧ K v H''):YieldK P W l vs H K Kp:=by
 refine ⟨fun w hs=>?_⟩
 obtain ⟨f,tmps,asg,bd,h1,h2⟩:=h.run w (hs.imp hi)
 refine ⟨f,tmps,asg,bd,h1,h2.mono ?_⟩
 rintro e w' ⟨H',hs',hq⟩
 cases e with
 | returned v =>
  obtain ⟨H'',hi',hk⟩:=k v H' hq
  exact ⟨H'',hs'.imp hi',hk⟩
 | panicked c=>exact hq.elim
 | outgrown=>exact hq.elim
end
end Go.SL
/- Deferred calls that may recover; how a function leaves with them. No condition. -/
namespace Go.SL
open Go

abbrev PostD:=Exit → Fr → List Deferred → FrameMode → HProp → Prop
abbrev ContD:=Fr → List Deferred → FrameMode → HProp → Prop
structure DDoes (P:Program) (W:World) (f:FuncId) (args:Array Value) (u:FrameMode) (H:HProp) (Q:Ending → FrameMode → HProp → Prop):Prop where
 run:∀ w,Sat W H w → CallsDIn Fence.wide 0 P f args u w fun e u' w'=>∃ H',Sat W H' w' ∧ Q e u' H'
def recK (u:FrameMode) (K:Value → FrameMode → Prop):Prop:=match u with
 | .panicking (⟨v,false,false⟩ :: older)=>K v (.panicking (⟨v,true,false⟩ :: older))
 | .returning=>K .nilIface .returning
 | _=>False
theorem recK_elim {u:FrameMode} {K:Value → FrameMode → Prop} (h:recK u K) (c₀:Frame) (cs:List Frame) :
  (∃ v u',recoverD ({ c₀ with mode:=u } :: cs) = some (v,{ c₀ with mode:=u' } :: cs) ∧ K v u') ∨ (recoverD ({ c₀ with mode:=u } :: cs) = none ∧ K .nilIface u):=by
 unfold recK at h
 split at h
 ·rename_i v older
  exact .inl ⟨v,_,rfl,h⟩
 ·exact .inr ⟨rfl,h⟩
 ·exact h.elim
def isRec:Op → Bool
 | .call ⟨.builtin .recover,_,_⟩=>true
 | _=>false
def hasRec:Code → Bool
 | .region _ ops _=>ops.toList.any fun o=>isRec o.op
 | .seq a b=>hasRec a || hasRec b
 | .cond _ a b=>hasRec a || hasRec b
 | .block _ c=>hasRec c
 | _=>false
def execOpsD (P:Program) (W:World) (T:Tab) (N:Nat):List Oper → Fr → List Deferred → FrameMode → HProp → ContD → (List PanicEntry → Fr → List Deferred → FrameMode → HProp → Prop) → Prop
 | [],fr,ds,u,H,K,_=>K fr ds u H
 | o :: rest,fr,ds,u,H,K,Kp=>match o.guard with
  | none=>match isRec o.op with
   | true=>recK u fun v u=>putK N fr v (fun fr=>execOpsD P W T N rest fr ds u H K Kp) o.dst
   | false=>op1 P W T N o fr ds H (fun fr ds H=>execOpsD P W T N rest fr ds u H K Kp) (fun c fr ds H=>Kp c fr ds u H)
  | some _=>False
def execD (P:Program) (W:World) (T:Tab) (N:Nat) (L:Nat → Option (List Nat)):Code → PostD → Fr → List Deferred → FrameMode → HProp → Prop
 | .region id ⟨l⟩ false,Q,fr,ds,u,H=>execOpsD P W T N l fr ds u H (fun fr ds u H=>keepO fr (L id) fun fr=>Q .normal fr ds u H) fun c fr ds u H=>Q (.panic c) fr ds u H
 | .seq a b,Q,fr,ds,u,H=>execD P W T N L a (fun e fr ds u H=>match e with
  | .normal=>execD P W T N L b Q fr ds u H
  | e=>Q e fr ds u H) fr ds u H
 | .cond (.tmp x) a b,Q,fr,ds,u,H=>match fr.get x with
  | some (.bool t)=>spl t (execD P W T N L a Q ((x,.bool true) :: fr) ds u H) (execD P W T N L b Q ((x,.bool false) :: fr) ds u H)
  | _=>False
 | .block id c,Q,fr,ds,u,H=>execD P W T N L c (fun e fr ds u H=>match e with
  | .exit j=>match Nat.beq j id with
   | true=>Q .normal fr ds u H
   | false=>Q (.exit j) fr ds u H
  | e=>Q e fr ds u H) fr ds u H
 | c,Q,fr,ds,u,H=>exec P W T N L c (fun e fr ds H=>Q e fr ds u H) fr ds H

def LiftS (W:World) (N:Nat) (c₀:Frame) (cs₀:List Frame) (Q:PostD):Exit → Act → List Frame → World → Prop :=
 fun e a cs w=>∃ fr H u,fr.rep a.tmps ∧ a.tmps.size = N ∧ Sat W H w ∧ cs = { c₀ with mode:=u } :: cs₀ ∧ Q e fr a.defers u H

section
variable {P:Program} {W:World} {T:Tab} {N:Nat}
theorem wpS_mono {c:Code} {Q Q':Exit → Act → List Frame → World → Prop} {a:Act} {cs:List Frame} {w:World} (h:c.wpS P Q a cs w) (hq:∀ e a cs w,Q e a cs w → Q' e a cs w):c.wpS P Q' a cs w :=
 fun b k hb hr=>let ⟨e,a',cs',w',q,r⟩:=h b k hb hr;⟨e,a',cs',w',hq _ _ _ _ q,r⟩
def inBlockS (id:Nat) (Q:Exit → Act → List Frame → World → Prop):Exit → Act → List Frame → World → Prop
 | .exit id',a,cs,w=>if id' = id then Q .normal a cs w else Q (.exit id') a cs w
 | e,a,cs,w=>Q e a cs w
theorem wpS_block {id:Nat} {c:Code} {Q:Exit → Act → List Frame → World → Prop} {a:Act} {cs:List Frame} {w:World} (h:c.wpS P (inBlockS id Q) a cs w):(Code.block id c).wpS P Q a cs w:=by
 intro b k hb hr
 obtain ⟨e,a₁,cs₁,w₁,hq,harr⟩:=h b (.inBlock id :: k) hb hr
 cases e with
 | normal=>exact ⟨.normal,a₁,cs₁,w₁,hq,.head step_block (Steps.trans harr (.one step_inBlock))⟩
 | exit id' =>
  by_cases hid:id' = id
  ·simp only [inBlockS,hid,if_true] at hq
   exact ⟨.normal,a₁,cs₁,w₁,hq,.head step_block (harr k (by simp [exitTo,hid]))⟩
  ·simp only [inBlockS,hid,if_false] at hq
   refine ⟨.exit id',a₁,cs₁,w₁,hq,fun k' hk=>.head step_block (harr k' ?_)⟩
   have:(id == id') = false:=by simp;exact fun h=>hid h.symm
   simp [exitTo,this,hk]
 | goto l=>exact ⟨_,a₁,cs₁,w₁,hq,fun k' hk=>.head step_block (harr k' (by simp [gotoIn,hk]))⟩
 | ret=>exact ⟨_,a₁,cs₁,w₁,hq,.of_steps (.one step_block) harr⟩
 | panic ch=>exact ⟨_,a₁,cs₁,w₁,hq,.of_steps (.one step_block) harr⟩
 | outgrown=>exact ⟨_,a₁,cs₁,w₁,hq,.of_steps (b:=b) (k:=k) (cs:=cs₁) (e:=.outgrown) (.one step_block) harr⟩

theorem execOpsD_sound (hT:T.ok P) (all:List Oper) (c₀:Frame) (cs₀:List Frame) (Q:PostD):∀ (l:List Oper) (n:Nat) (fr:Fr) (ds:List Deferred) (u:FrameMode) (H:HProp),all.drop n = l →
  execOpsD P W T N l fr ds u H (fun fr ds u H=>Q .normal fr ds u H) (fun c fr ds u H=>Q (.panic c) fr ds u H) → ∀ (a:Act) (w:World),fr.rep a.tmps → a.tmps.size = N → a.defers = ds → Sat W H w →
   wpOpsS P ⟨all⟩ (LiftS W N c₀ cs₀ Q) ((List.range all.length).drop n) a ({ c₀ with mode:=u } :: cs₀) w
 | [],n,fr,ds,u,H,hl,h,a,w,hrep,hN,hd,hs=>by
  have:(List.range all.length).drop n = []:=by
   have:=congrArg List.length hl
   simp at this
   exact List.drop_eq_nil_of_le (by simp;omega)
  rw [this]
  exact ⟨fr,H,u,hrep,hN,hs,rfl,hd ▸ h⟩
 | o :: rest,n,fr,ds,u,H,hl,h,a,w,hrep,hN,hd,hs=>by
  have hn:n < all.length:=by
   rcases Nat.lt_or_ge n all.length with h|h
   ·exact h
   ·rw [List.drop_eq_nil_of_le h] at hl;cases hl
  have ho:all[n]? = some o:=by
   have:=congrArg (fun l=>l[0]?) hl
   simpa using this
  have hr:all.drop (n + 1) = rest:=by
   have:=congrArg List.tail hl
   simpa using this
  have hd':(List.range all.length).drop n = n :: (List.range all.length).drop (n + 1):=by
   rw [List.drop_eq_getElem_cons (by simpa using hn)]
   simp
  rw [hd']
  have ho':(⟨all⟩:Array Oper)[n]? = some o:=by simpa using ho
  have ih:=fun fr ds u H=>execOpsD_sound hT all c₀ cs₀ Q rest (n + 1) fr ds u H hr
  unfold execOpsD at h
  split at h
  ·rename_i hg
   have hw:Region.wanted o (yielded (⟨all⟩:Array Oper) a.tmps) = true:=by simp [Region.wanted,hg]
   simp only [wpOpsS,ho',hw,if_true]
   split at h
   ·rename_i hrec
    have hex:(execOp a.eval o).run P w = .ok .recover w:=by
     obtain ⟨dst,op,ty,pos,after,guard⟩:=o
     simp only at hrec
     unfold isRec at hrec
     split at hrec
     ·simp [execOp,resolve,invoke,builtin]
     ·cases hrec
    simp only [hex]
    rcases recK_elim h c₀ cs₀ with ⟨v,u',h1,h2⟩|⟨h1,h2⟩
    ·simp only [h1]
     obtain ⟨fr',g1,g2,g3,g4⟩:=putK_elim hN hrep h2
     exact ih _ _ _ _ g4 _ w g1 g2 (by rw [g3,hd]) hs
    ·simp only [h1]
     obtain ⟨fr',g1,g2,g3,g4⟩:=putK_elim hN hrep h2
     exact ih _ _ _ _ g4 _ w g1 g2 (by rw [g3,hd]) hs
   ·have key:o.wp P a w (fun a' w'=>wpOpsS P ⟨all⟩ (LiftS W N c₀ cs₀ Q) ((List.range all.length).drop (n + 1)) a' ({ c₀ with mode:=u } :: cs₀) w') (fun e a' w'=>LiftS W N c₀ cs₀ Q e a' ({ c₀ with mode:=u } :: cs₀) w'):=by
     refine op1_sound hT hN hrep hd hs h ?_ ?_
     ·intro a' w' fr' ds' H' h1 h2 h3 h4 h5
      exact ih _ _ _ _ h5 a' w' h1 h2 h3 h4
     ·intro c w' H' h1 h2
      exact ⟨fr,H',u,hrep,hN,h1,rfl,hd ▸ h2⟩
    unfold Oper.wp at key
    split
    ·rename_i w' hrr
     rw [hrr] at key
     exact key.elim
    ·exact key
  ·exact h.elim

theorem execD_sound (hT:T.ok P) (L:Nat → Option (List Nat)) (c₀:Frame) (cs₀:List Frame):∀ (c:Code) (Q:PostD) (fr:Fr) (ds:List Deferred) (u:FrameMode) (H:HProp),execD P W T N L c Q fr ds u H →
  ∀ (a:Act) (w:World),fr.rep a.tmps → a.tmps.size = N → a.defers = ds → Sat W H w → c.wpS P (LiftS W N c₀ cs₀ Q) a ({ c₀ with mode:=u } :: cs₀) w:=by
 have old:∀ (c:Code) (Q:PostD) (fr:Fr) (ds:List Deferred) (u:FrameMode) (H:HProp),exec P W T N L c (fun e fr ds H=>Q e fr ds u H) fr ds H →
   ∀ (a:Act) (w:World),fr.rep a.tmps → a.tmps.size = N → a.defers = ds → Sat W H w → c.wpS P (LiftS W N c₀ cs₀ Q) a ({ c₀ with mode:=u } :: cs₀) w:=by
  intro c Q fr ds u H h a w h1 h2 h3 h4
  refine wpS_of_wp (wp_mono (wpIn_wide.1 (exec_sound hT L c _ _ _ _ h none a w (.inl rfl) h1 h2 h3 h4)) ?_)
  rintro e a' w' ⟨fr',H',g1,g2,g3,g4⟩
  exact ⟨fr',H',u,g1,g2,g3,rfl,g4⟩
 intro c
 induction c with
 | region id ops draw =>
  intro Q fr ds u H h a w h1 h2 h3 h4
  obtain ⟨l⟩:=ops
  cases draw with
  | false =>
   have:=execOpsD_sound hT l c₀ cs₀ (fun e fr ds u H=>match e with|.normal=>keepO fr (L id) fun fr=>Q .normal fr ds u H|.panic c=>Q (.panic c) fr ds u H|_=>False) l 0 fr ds u H rfl h a w h1 h2 h3 h4
   refine wpS_mono (wpS_region (by simpa using this)) ?_
   rintro e a' cs' w' ⟨fr',H',u',g1,g2,g3,rfl,g4⟩
   cases e with
   | normal =>
    obtain ⟨fr'',h5,h6⟩:=keepO_elim g1 g4
    exact ⟨fr'',H',u',h5,g2,g3,rfl,h6⟩
   | panic c=>exact ⟨fr',H',u',g1,g2,g3,rfl,g4⟩
   | _=>exact g4.elim
  | true=>exact old _ _ _ _ _ _ h a w h1 h2 h3 h4
 | seq x y ihx ihy =>
  intro Q fr ds u H h a w h1 h2 h3 h4
  refine wpS_seq (wpS_mono (ihx _ _ _ _ _ h a w h1 h2 h3 h4) ?_)
  rintro e a' cs' w' ⟨fr',H',u',g1,g2,g3,rfl,g4⟩
  cases e with
  | normal=>exact ihy _ _ _ _ _ g4 a' w' g1 g2 rfl g3
  | _=>exact ⟨fr',H',u',g1,g2,g3,rfl,g4⟩
 | cond c x y ihx ihy =>
  intro Q fr ds u H h a w h1 h2 h3 h4
  cases c with
  | tmp z =>
   simp only [execD] at h
   split at h
   ·rename_i t ht
    refine wpS_cond (c:=.tmp z) (Fr.rep_eval h1 ht) ?_
    rcases spl_elim h with ⟨rfl,h⟩|⟨rfl,h⟩
    ·exact ihx _ _ _ _ _ h a w (Fr.rep_cons h1 (h1 _ _ ht)) h2 h3 h4
    ·exact ihy _ _ _ _ _ h a w (Fr.rep_cons h1 (h1 _ _ ht)) h2 h3 h4
   ·exact h.elim
  | _=>exact old _ _ _ _ _ _ h a w h1 h2 h3 h4
 | block id c ih =>
  intro Q fr ds u H h a w h1 h2 h3 h4
  refine wpS_block (wpS_mono (ih _ _ _ _ _ h a w h1 h2 h3 h4) ?_)
  rintro e a' cs' w' ⟨fr',H',u',g1,g2,g3,rfl,g4⟩
  cases e with
  | exit j =>
   simp only at g4
   by_cases hj:j = id
   ·subst hj
    simp only [inBlockS,if_true]
    have:Nat.beq j j = true:=by simp
    rw [this] at g4
    exact ⟨fr',H',u',g1,g2,g3,rfl,g4⟩
   ·simp only [inBlockS,if_neg hj]
    have:Nat.beq j id = false:=by
     cases hb:Nat.beq j id with
     | false=>rfl
     | true=>exact absurd (Nat.eq_of_beq_eq_true hb) hj
    rw [this] at g4
    exact ⟨fr',H',u',g1,g2,g3,rfl,g4⟩
  | _=>exact ⟨fr',H',u',g1,g2,g3,rfl,g4⟩
 | _=>exact fun Q fr ds u H h a w h1 h2 h3 h4=>old _ _ _ _ _ _ h a w h1 h2 h3 h4

def bodyD (W:World) (T:Tab) (rs:List ResultVar) (R:Ending → FrameMode → HProp → Prop):PostD
 | .normal,fr,[],u,H=>resK W T fr H rs fun l=>oneK l fun v=>R (.returned v) u H
 | .ret,fr,[],u,H=>resK W T fr H rs fun l=>oneK l fun v=>R (.returned v) u H
 | .panic c,_,[],u,H=>R (.panicked c) u H
 | _,_,_,_,_=>False
theorem DDoes.of_exec (hT:T.ok P) {f:FuncId} {fn:Func} {c:Code} {args:List Value} {u:FrameMode} {H:HProp} {R:Ending → FrameMode → HProp → Prop} {rs:List ResultVar}
  (L:Nat → Option (List Nat)) (hf:P.funcs[f]? = some fn) (hb:fn.body = some c) (hr:fn.results = ⟨rs⟩) (hN:fn.ntmps = N) (hle:args.length ≤ N)
  (h:execD P W T N L c (bodyD W T rs R) (argFr 0 args) [] u H):DDoes P W f ⟨args⟩ u H R:=by
 refine ⟨fun w hs=>⟨trivial,fun c₀ cs hu _=>?_⟩⟩
 let b:Frame:={ (default:Frame) with fn:=f,kind:=.deferred }
 have henter:Frame.enter P f ⟨args⟩ .deferred = b.at { tmps:=⟨args⟩ ++ Array.replicate (fn.ntmps - args.length) undef,defers:=[] } [.code c]:=by
  simp [Frame.enter,Frame.at,hf,hb,b]
 have hrep:(argFr 0 args).rep (⟨args⟩ ++ Array.replicate (fn.ntmps - args.length) undef:Array Value):=by
  refine argFr_rep _ _ _ fun i v hv=>?_
  have hi:i < args.length:=by
   rcases Nat.lt_or_ge i args.length with h|h
   ·exact h
   ·simp [List.getElem?_eq_none h] at hv
  rw [Array.getElem?_append_left (by simpa using hi)]
  simpa using hv
 have hc0:c₀ = { c₀ with mode:=u }:=by subst hu;rfl
 obtain ⟨e,a',cs',w',⟨fr,H',u',g1,g2,g3,rfl,g4⟩,harr⟩:=execD_sound hT L c₀ cs c _ _ _ _ _ h { tmps:=⟨args⟩ ++ Array.replicate (fn.ntmps - args.length) undef,defers:=[] } w hrep (by simp [hN];omega) rfl hs b [] rfl rfl
 rw [← henter,← hc0] at harr
 have res:resK W T fr H' rs (fun l=>oneK l fun v=>R (.returned v) u' H') → ∃ v,(results fn a'.tmps).run P w' = .ok v w' ∧ R (.returned v) u' H':=fun h=>results_run hT hr g1 g3 h
 cases e with
 | normal =>
  cases hd:a'.defers with
  | nil =>
   rw [hd] at g4
   obtain ⟨v,hv,hk⟩:=res g4
   exact ⟨.returned v,u',w',_,⟨H',g3,hk⟩,stepsIn_wide.2 (Steps.trans harr (.one step_end)),rfl,rfl,rfl,hd,fn,hf,hv⟩
  | cons d ds=>rw [hd] at g4;exact g4.elim
 | ret =>
  cases hd:a'.defers with
  | nil =>
   rw [hd] at g4
   obtain ⟨v,hv,hk⟩:=res g4
   obtain ⟨todo,hs'⟩:=harr
   exact ⟨.returned v,u',w',_,⟨H',g3,hk⟩,stepsIn_wide.2 hs',rfl,rfl,rfl,hd,fn,hf,hv⟩
  | cons d ds=>rw [hd] at g4;exact g4.elim
 | panic chain =>
  cases hd:a'.defers with
  | nil =>
   rw [hd] at g4
   obtain ⟨todo,hs'⟩:=harr
   exact ⟨.panicked chain,u',w',_,⟨H',g3,g4⟩,stepsIn_wide.2 hs',rfl,rfl,rfl,hd,fn,hf⟩
  | cons d ds=>rw [hd] at g4;exact g4.elim
 | exit id=>cases hd:a'.defers <;> (rw [hd] at g4;exact g4.elim)
 | goto l=>cases hd:a'.defers <;> (rw [hd] at g4;exact g4.elim)
 | outgrown=>cases hd:a'.defers <;> (rw [hd] at g4;exact g4.elim)

theorem callsD_mono {n:Nat} {f:FuncId} {args:Array Value} {u:FrameMode} {w:World} {R R':Ending → FrameMode → World → Prop} (h:CallsDIn Fence.wide n P f args u w R) (hq:∀ e u w,R e u w → R' e u w):CallsDIn Fence.wide n P f args u w R' :=
 ⟨h.1,fun c cs hc hr=>let ⟨e,u',w',fr,h1,h2⟩:=h.2 c cs hc hr;⟨e,u',w',fr,hq _ _ _ h1,h2⟩⟩
def leaveK (P:Program) (W:World) (T:Tab) (rs:List ResultVar) (R:Ending → HProp → Prop) (fr:Fr):List Deferred → FrameMode → HProp → Prop
 | [],.returning,H=>resK W T fr H rs fun l=>oneK l fun v=>R (.returned v) H
 | [],.panicking c,H=>R (.panicked c) H
 | [],.run,_=>False
 | d :: ds,u,H=>LeaveD P W rs R u fr (d :: ds) H
theorem leaveK_elim (hT:T.ok P) {rs:List ResultVar} {R:Ending → HProp → Prop} {fr:Fr} {ds:List Deferred} {u:FrameMode} {H:HProp} (h:leaveK P W T rs R fr ds u H) {fn:Func} {tmps:Array Value} {w:World}
  (hr:fn.results = ⟨rs⟩) (hrep:fr.rep tmps) (hs:Sat W H w):LeavesInM Fence.wide 0 P fn tmps (fun e w'=>∃ H',Sat W H' w' ∧ R e H') ds u w:=by
 cases ds with
 | nil =>
  cases u with
  | returning =>
   obtain ⟨v,hv,hk⟩:=results_run hT hr hrep hs h
   exact ⟨v,hv,H,hs,hk⟩
  | panicking c=>exact ⟨H,hs,h⟩
  | run=>exact h.elim
 | cons d ds=>exact h.run fn tmps w hr hrep hs
theorem LeaveD.call (hT:T.ok P) {rs:List ResultVar} {R:Ending → HProp → Prop} {u:FrameMode} {fr:Fr} {ds:List Deferred} {H:HProp} {g:FuncId} {first cap:List Value} {Q:Ending → FrameMode → HProp → Prop}
  (hu:u ≠ .run) (ok:Callable P g) (h:DDoes P W g ⟨first ++ cap⟩ u H Q)
  (k:∀ e u' H',Q e u' H' → match e with
   | .returned _=>leaveK P W T rs R fr ds (settle u') H'
   | .panicked c=>leaveK P W T rs R fr ds (raised u' c) H'
   | .outgrown=>False):LeaveD P W rs R u fr ({ target:=.fn (.func g) ⟨cap⟩,args:=⟨first⟩ } :: ds) H:=by
 refine ⟨fun fn tmps w hr hrep hs=>⟨hu,.inr ⟨fun hh=>(by cases hh),.func g,⟨cap⟩,g,⟨first ++ cap⟩,rfl,?_,fun _ _=>trivial,?_⟩⟩⟩
 ·simp only [invoke]
  rw [ok.h]
  simp
 ·refine callsD_mono (h.run w hs) ?_
  rintro e u' w' ⟨H',hs',hq⟩
  have hk:=k e u' H' hq
  cases e with
  | returned v=>exact leaveK_elim hT hk hr hrep hs'
  | panicked c=>exact leaveK_elim hT hk hr hrep hs'
  | outgrown=>exact hk.elim
theorem DDoes.imp {f:FuncId} {args:Array Value} {u:FrameMode} {H H':HProp} {Q:Ending → FrameMode → HProp → Prop} (e:Imp H H') (h:DDoes P W f args u H' Q):DDoes P W f args u H Q:=⟨fun w hs=>h.run w (hs.imp e)⟩
def RetD (post:Value → FrameMode → HProp → Prop) (e:Ending) (u:FrameMode) (H:HProp):Prop:=∃ v G,e = .returned v ∧ Imp H G ∧ post v u G
theorem RetD.eq {A v:Value} {B H:HProp} {u u':FrameMode} (hv:v = A) (hu:u = u') (hi:Imp H B):RetD (fun v u G=>v = A ∧ u = u' ∧ G = B) (.returned v) u H:=⟨v,B,rfl,hi,hv,hu,rfl⟩
theorem LeaveD.ret (hT:T.ok P) {rs:List ResultVar} {R:Ending → HProp → Prop} {u:FrameMode} {fr:Fr} {ds:List Deferred} {H:HProp} {g:FuncId} {first cap:List Value} {post:Value → FrameMode → HProp → Prop}
  (hu:u ≠ .run) (ok:Callable P g) (h:DDoes P W g ⟨first ++ cap⟩ u H (RetD post))
  (k:∀ v u' G,post v u' G → leaveK P W T rs R fr ds (settle u') G):LeaveD P W rs R u fr ({ target:=.fn (.func g) ⟨cap⟩,args:=⟨first⟩ } :: ds) H:=by
 refine LeaveD.call hT hu ok (Q:=fun e u' H'=>∃ v,e = .returned v ∧ post v u' H') ⟨fun w hs=>⟨(h.run w hs).1,fun c cs hc hr=>?_⟩⟩ ?_
 ·obtain ⟨e,u',w',fr,⟨H',hs',v,G,he,hi,hp⟩,h2⟩:=(h.run w hs).2 c cs hc hr
  exact ⟨e,u',w',fr,⟨G,hs'.imp hi,v,he,hp⟩,h2⟩
 ·rintro e u' H' ⟨v,rfl,hp⟩
  exact k v u' H' hp
def Thr (post:List PanicEntry → HProp → Prop) (e:Ending) (H:HProp):Prop:=∃ c G,e = .panicked c ∧ Imp H G ∧ post c G
theorem Thr.eq {A c:List PanicEntry} {B H:HProp} (hv:c = A) (hi:Imp H B):Thr (fun c G=>c = A ∧ G = B) (.panicked c) H:=⟨c,B,rfl,hi,hv,rfl⟩
theorem CallK.thr {f:FuncId} {args:List Value} {H:HProp} {K:Value → HProp → Prop} {Kp:List PanicEntry → HProp → Prop} {post:List PanicEntry → HProp → Prop}
  (ok:Callable P f) (h:Does P W f ⟨args⟩ H (Thr post)) (k:∀ c G,post c G → Kp c G):CallK P W f args H K Kp :=
 ⟨.inl ⟨ok,⟨fun w hs=>(h.run w hs).mono fun e w' ⟨H',hs',c,G,he,hent,hp⟩=>⟨G,hs'.imp hent,by subst he;exact k c G hp⟩⟩⟩⟩
abbrev pan (v:Value):List PanicEntry:=[{ v:=v,recovered:=false }]
end
end Go.SL
