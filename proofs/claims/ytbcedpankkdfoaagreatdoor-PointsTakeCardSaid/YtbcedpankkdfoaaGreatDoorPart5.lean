/- Deleting from a map, ranging over one. No condition. -/
import Derived.Test.YtbcedpankkdfoaaGreatDoorPart4
import Derived.Maps.RangeRun
import Derived.ProofKit
import Derived.OpenShut
import Derived.Carry
import Derived.Deep.Slices
set_option linter.unusedVariables false
set_option linter.unusedSimpArgs false
namespace Go.SL
open Go

def delKV {α:Type} (k:Int) (l:List (Int × α)):List (Int × α):=l.filter fun p=>!decide (p.1 = k)
theorem delKV_lookup {α:Type} (k j:Int):∀ l:List (Int × α),(delKV k l).lookup j = if j = k then none else l.lookup j
 | []=>by simp [delKV]
 | (a,v) :: l=>by
  have ih:=delKV_lookup k j l
  unfold delKV at ih ⊢
  by_cases h:a = k
  ·subst h
   simp only [List.filter_cons,decide_true,Bool.not_true,Bool.false_eq_true,if_false,ih]
   by_cases hj:j = a
   ·simp [hj]
   ·have:(j == a) = false:=by simpa using hj
    simp [hj,List.lookup,this]
  ·simp only [List.filter_cons,h,decide_false,Bool.not_false,if_true]
   by_cases hj:j = a
   ·subst hj;simp [List.lookup,h]
   ·have:(j == a) = false:=by simpa using hj
    simp [List.lookup,this,ih]
theorem filter_ne {α:Type} (k:Int):∀ l:List (Int × α),k ∉ l.map (·.1) → delKV k l = l
 | [],_=>rfl
 | p :: l,h=>by
  simp only [List.map_cons,List.mem_cons,not_or] at h
  have hp:¬ p.1 = k:=fun e=>h.1 e.symm
  unfold delKV
  simp only [List.filter_cons,hp,decide_false,Bool.not_false,if_true]
  have:=filter_ne k l h.2
  unfold delKV at this
  rw [this]
theorem delKV_at (k:Int):∀ (l:List (Int × Value)) (i j:Nat) (u:Value),(l.map (·.1)).Nodup → findI k l i = some (j,u) → i ≤ j ∧ j - i < l.length ∧ delKV k l = l.eraseIdx (j - i)
 | [],_,_,_,_,h=>by simp [findI] at h
 | p :: l,i,j,u,hnd,h=>by
  simp only [List.map_cons,List.nodup_cons] at hnd
  by_cases hk:k = p.1
  ·simp only [findI,hk,if_true,Option.some.injEq,Prod.mk.injEq] at h
   obtain ⟨rfl,rfl⟩:=h
   have:=filter_ne k l (hk ▸ hnd.1)
   unfold delKV at this
   simp [delKV,hk] 
   rw [hk] at this
   simpa using this
  ·simp only [findI,hk,if_false] at h
   obtain ⟨h1,h2,h3⟩:=delKV_at k l (i + 1) j u hnd.2 h
   have e:j - i = (j - (i + 1)) + 1:=by omega
   refine ⟨by omega,by simp;omega,?_⟩
   have hp:¬ p.1 = k:=fun e=>hk e.symm
   rw [e]
   unfold delKV at h3 ⊢
   simp [hp,h3]

theorem map_eraseIdx' {α β:Type} (f:α → β):∀ (l:List α) (i:Nat),(l.eraseIdx i).map f = (l.map f).eraseIdx i
 | [],_=>rfl
 | _ :: _,0=>rfl
 | a :: l,i + 1=>by simp [map_eraseIdx' f l i]

section
variable {P:Program} {W:World} {T:Tab} {H R:HProp}

theorem MapRep.size {kk:IntKind} {es:Array MapEntry} {clock:Nat} {l:List (Int × Value)} (h:MapRep kk es clock l):es.size = l.length:=by simpa using congrArg List.length h.kv

theorem OpX.del (hT:T.ok P) {t kt et:TypeId} {k0 kk:IntKind} {m key:Operand} {tys:List TypeId} {ty:TypeId} {ev:Operand → Option Value} {K:Value → HProp → Prop} {Kp:List PanicEntry → HProp → Prop}
  {r:Nat} {k:Int} {l:List (Int × Value)} {c1 c2:List Value} {a1 a2:Bool} {s1 s2 b1 b2:Nat}
  [i:MapC H r kk l R] (h1:T t = some ⟨.map kt et,c1,a1,s1,b1⟩) (h2:T kt = some ⟨.int k0,c2,a2,s2,b2⟩)
  (hm:ev m = some (.map (some r))) (hk:ev key = some (.int kk k))
  (hK:K (.tuple ⟨[]⟩) (mapc r kk (delKV k l)•R)):OpX P W (.call ⟨.builtin .delete,⟨[m,key]⟩,⟨t :: tys⟩⟩) ty ev H K Kp:=by
 have hu1:=(hT _ _ h1).und
 have hu2:=(hT _ _ h2).und
 refine ⟨fun w ρ hs he o' ho hty=>?_⟩
 obtain ⟨dst,op,ty',pos,after,guard⟩:=o'
 simp only at ho hty
 subst ho hty
 rw [i.h.eq] at hs
 obtain ⟨es,clock,hrep,hs⟩:=hs.map
 have hb:=hs.at
 have hlt:=hs.lt
 have hck:∀ b w,(Instr.checkKey b 10000 kt (.int kk k)).run P w = .ok () w:=fun b w=>run_checkKey_int hu2 b 9999 w
 have hget:∀ {α:Type} (f:Obj → Sem α),(getObj r >>= f).run P w = (f (.map es clock)).run P w:=fun f=>by
  rw [Sem.run_bind];simp [getObj,Sem.run,hb]
 cases hf:findI k l 0 with
 | none =>
  refine ⟨.value (.tuple ⟨[]⟩),{ w with heap:=w.heap.setIfInBounds r (.map es clock) },_,?_,?_,hK⟩
  ·simp only [execOp,resolve,Sem.run_bind,Sem.run_pure,Result.andThen_ok,invoke,builtin,Builtin.delete_,List.map_toArray,List.map_cons,List.map_nil,he _ _ hm,he _ _ hk]
   simp [run_underlying hu1,hget,hck,run_findKey_int hu2 hrep,hf,setObj,Sem.run,hb]
  ·have hnot:=(findI_none k l 0).1 hf
   rw [filter_ne k l hnot]
   exact Sat.mk_map hrep (hs.set (.map es clock) ⟨rfl,rfl,rfl,by simp⟩ (by simp [hlt]) fun j hj=>by simp [Ne.symm hj])
 | some p =>
  obtain ⟨j,u⟩:=p
  obtain ⟨_,h5,h6⟩:=delKV_at k l 0 j u hrep.nd hf
  simp only [Nat.sub_zero] at h5 h6
  have hj:j < es.size:=by rw [hrep.size];exact h5
  refine ⟨.value (.tuple ⟨[]⟩),{ w with heap:=w.heap.setIfInBounds r (.map (es.eraseIdxIfInBounds j) clock) },_,?_,?_,hK⟩
  ·simp only [execOp,resolve,Sem.run_bind,Sem.run_pure,Result.andThen_ok,invoke,builtin,Builtin.delete_,List.map_toArray,List.map_cons,List.map_nil,he _ _ hm,he _ _ hk]
   simp [run_underlying hu1,hget,hck,run_findKey_int hu2 hrep,hf,setObj,Sem.run,hb]
  ·have htl:(es.eraseIdxIfInBounds j).toList = es.toList.eraseIdx j:=by simp [Array.eraseIdxIfInBounds,hj]
   refine Sat.mk_map ⟨?_,?_,?_,?_⟩ (hs.set (.map (es.eraseIdxIfInBounds j) clock) ⟨rfl,rfl,rfl,by simp⟩ (by simp [hlt]) fun j hj=>by simp [Ne.symm hj])
   ·rw [htl,h6,map_eraseIdx',map_eraseIdx',hrep.kv]
   ·rw [h6,map_eraseIdx'];exact hrep.nd.eraseIdx j
   ·rw [htl,map_eraseIdx'];exact hrep.born.eraseIdx j
   ·intro e he'
    rw [htl] at he'
    exact hrep.lt e (List.mem_of_mem_eraseIdx he')

/-! ### Ranging over a map that stays as it is -/
structure IterRep (kk:IntKind) (es:Array MapEntry) (clock:Nat) (seen:Array Nat) (l todo:List (Int × Value)) (cur:Option (Int × Value)):Prop where
 rep:MapRep kk es clock l
 left:(es.toList.filter fun e=>!seen.contains e.born).map (fun e=>(e.key,e.val)) = todo.map (fun p=>(Value.int kk p.1,p.2))
 cur:match cur with
  | none=>seen = #[]
  | some p=>∃ e ∈ es.toList,seen.back? = some e.born ∧ e.key = .int kk p.1 ∧ e.val = p.2
def iterc (b r:Nat) (kk:IntKind) (l todo:List (Int × Value)) (cur:Option (Int × Value)):HProp :=
 ex fun es=>ex fun clock=>ex fun seen=>SL.pure (IterRep kk es clock seen l todo cur)•pts r (.map es clock)•pts b (.mapIter (some r) clock seen clock)
theorem Sat.iter {w:World} {b r:Nat} {kk:IntKind} {l todo:List (Int × Value)} {cur:Option (Int × Value)} (h:Sat W (iterc b r kk l todo cur•R) w) :
  ∃ es clock seen,IterRep kk es clock seen l todo cur ∧ Sat W (pts r (.map es clock)•pts b (.mapIter (some r) clock seen clock)•R) w:=by
 unfold iterc at h
 rw [ex_star] at h;obtain ⟨es,h⟩:=h.ex
 rw [ex_star] at h;obtain ⟨clock,h⟩:=h.ex
 rw [ex_star] at h;obtain ⟨seen,h⟩:=h.ex
 rw [star_assoc,star_assoc] at h
 exact ⟨es,clock,seen,h.pure.1,h.pure.2⟩
theorem Sat.mk_iter {w:World} {b r:Nat} {kk:IntKind} {l todo:List (Int × Value)} {cur:Option (Int × Value)} {es:Array MapEntry} {clock:Nat} {seen:Array Nat} (hm:IterRep kk es clock seen l todo cur)
  (h:Sat W (pts r (.map es clock)•pts b (.mapIter (some r) clock seen clock)•R) w):Sat W (iterc b r kk l todo cur•R) w:=by
 rw [← star_assoc] at h
 exact h.mono (Ent.left (Ent.ex es (Ent.ex clock (Ent.ex seen (Ent.pure hm (Ent.refl _))))))
theorem iterc_map {b r:Nat} {kk:IntKind} {l todo:List (Int × Value)} {cur:Option (Int × Value)} {w:World} (h:Sat W (iterc b r kk l todo cur•R) w):Sat W (mapc r kk l•R) w:=by
 obtain ⟨es,clock,seen,hrep,h⟩:=h.iter
 refine Sat.mk_map hrep.rep ?_
 rw [star_left_comm] at h
 exact h.right
class IterC (H:HProp) (b:Nat) (r:outParam Nat) (kk:outParam IntKind) (l todo:outParam (List (Int × Value))) (cur:outParam (Option (Int × Value))) (R:outParam HProp):Prop where h:Take H (iterc b r kk l todo cur) R
instance (priority:=90) IterC.there {X:HProp} {b r:Nat} {kk:IntKind} {l todo:List (Int × Value)} {cur:Option (Int × Value)} [i:IterC H b r kk l todo cur R]:IterC (X•H) b r kk l todo cur (X•R):=⟨i.h.there⟩
instance (priority:=100) IterC.here {b r:Nat} {kk:IntKind} {l todo:List (Int × Value)} {cur:Option (Int × Value)}:IterC (iterc b r kk l todo cur•R) b r kk l todo cur R:=⟨.here⟩

theorem OpX.rng (hT:T.ok P) {t kt et:TypeId} {x:Operand} {ty:TypeId} {ev:Operand → Option Value} {K:Value → HProp → Prop} {Kp:List PanicEntry → HProp → Prop}
  {r:Nat} {kk:IntKind} {l:List (Int × Value)} {c1:List Value} {a1:Bool} {s1 b1:Nat}
  [i:MapC H r kk l R] (h1:T t = some ⟨.map kt et,c1,a1,s1,b1⟩) (hm:ev x = some (.map (some r)))
  (hK:∀ b,W.heap.size ≤ b → K (.pointer (some ⟨b,0,none⟩)) (iterc b r kk l l none•R)):OpX P W (.range t x) ty ev H K Kp:=by
 have hu1:=(hT _ _ h1).und
 refine ⟨fun w ρ hs he o' ho hty=>?_⟩
 obtain ⟨dst,op,ty',pos,after,guard⟩:=o'
 simp only at ho hty
 subst ho hty
 rw [i.h.eq] at hs
 obtain ⟨es,clock,hrep,hs⟩:=hs.map
 have hb:=hs.at
 refine ⟨.value (.pointer (some ⟨w.heap.size,0,none⟩)),{ w with heap:=w.heap.push (.mapIter (some r) clock #[] clock) },_,?_,?_,hK w.heap.size hs.1.size⟩
 ·simp [execOp,Instr.range,he _ _ hm,run_underlying hu1,getObj,Sem.run,hb]
 ·have h:=hs.alloc (.mapIter (some r) clock #[] clock)
  rw [star_left_comm] at h
  exact Sat.mk_iter ⟨hrep,by rw [List.filter_eq_self.2 (by simp)];exact hrep.kv,rfl⟩ h

theorem filter_push (es:List MapEntry) (seen:Array Nat) (e:MapEntry):∀ (_:(es.map (·.born)).Nodup) (i:Nat),(es.filter fun x=>!seen.contains x.born)[i]? = some e →
  (es.filter fun x=>!(seen.push e.born).contains x.born) = (es.filter fun x=>!seen.contains x.born).eraseIdx i:=by
 induction es with
 | nil=>intro _ i h;simp at h
 | cons a es ih =>
  intro hnd i h
  simp only [List.map_cons,List.nodup_cons] at hnd
  by_cases ha:seen.contains a.born = true
  ·have h2:(seen.push e.born).contains a.born = true:=by
    simp only [Array.contains_iff_mem,Array.mem_push] at ha ⊢;exact .inl ha
   simp only [List.filter_cons,ha,h2,Bool.not_true,Bool.false_eq_true,if_false] at h ⊢
   exact ih hnd.2 i h
  ·have ha':seen.contains a.born = false:=by simpa using ha
   simp only [List.filter_cons,ha',Bool.not_false,if_true] at h ⊢
   cases i with
   | zero =>
    simp only [List.getElem?_cons_zero,Option.some.injEq] at h
    subst h
    have h2:(seen.push a.born).contains a.born = true:=by simp
    simp only [h2,Bool.not_true,Bool.false_eq_true,if_false,List.eraseIdx_cons_zero]
    apply List.filter_congr
    intro x hx
    have hne:¬ x.born = a.born:=fun e=>hnd.1 (e ▸ List.mem_map.2 ⟨x,hx,rfl⟩)
    have:(seen.push a.born).contains x.born = seen.contains x.born:=by
     rw [Bool.eq_iff_iff];simp [Array.mem_push,hne]
    rw [this]
   | succ i =>
    simp only [List.getElem?_cons_succ] at h
    have hmem:=List.mem_of_getElem? h
    have hin:e ∈ es:=(List.mem_filter.1 hmem).1
    have hne:¬ a.born = e.born:=fun e'=>hnd.1 (e' ▸ List.mem_map.2 ⟨e,hin,rfl⟩)
    have h2:(seen.push e.born).contains a.born = false:=by
     have:¬ a.born ∈ seen:=by simpa using ha
     simp [hne,this]
    simp only [h2,Bool.not_false,if_true,List.eraseIdx_cons_succ]
    rw [ih hnd.2 i h]

theorem OpX.nxt {x:Operand} {ty:TypeId} {ev:Operand → Option Value} {K:Value → HProp → Prop} {Kp:List PanicEntry → HProp → Prop}
  {b r:Nat} {kk:IntKind} {l todo:List (Int × Value)} {cur:Option (Int × Value)}
  [i:IterC H b r kk l todo cur R] (hm:ev x = some (.pointer (some ⟨b,0,none⟩)))
  (over:todo = [] → K (.tuple ⟨[.bool false]⟩) (mapc r kk l•R))
  (more:∀ j p,todo[j]? = some p → K (.tuple ⟨[.bool true,.int kk p.1,p.2]⟩) (iterc b r kk l (todo.eraseIdx j) (some p)•R)):OpX P W (.next x false) ty ev H K Kp:=by
 refine ⟨fun w ρ hs he o' ho hty=>?_⟩
 obtain ⟨dst,op,ty',pos,after,guard⟩:=o'
 simp only at ho hty
 subst ho hty
 rw [i.h.eq] at hs
 have hs0:=hs
 obtain ⟨es,clock,seen,hrep,hs⟩:=hs.iter
 have hr:=hs.at
 have hs2:Sat W (pts b (.mapIter (some r) clock seen clock)•pts r (.map es clock)•R) w:=by rw [star_left_comm];exact hs
 have hb:=hs2.at
 have hlt:=hs2.lt
 have hll:=hrep.left
 have hex:(execOp ρ ⟨dst,.next x false,ty',pos,after,guard⟩).run P w = ((Instr.next (.pointer (some ⟨b,0,none⟩)) false ty').run P w).andThen fun v w'=>.ok (.value v) w':=by
  simp [execOp,he _ _ hm]
 rcases run_next_at (P:=P) w ty' b r clock clock seen es clock hb hr hrep.rep.lt (Nat.le_refl _) with ⟨h0,hrun⟩|⟨e,hin,w1,hw1,hrun⟩
 ·refine ⟨.value (.tuple ⟨[.bool false]⟩),w,_,by rw [hex,hrun];rfl,iterc_map hs0,over ?_⟩
  have:(es.toList.filter fun e=>!seen.contains e.born).length = 0:=by simpa [leftOf] using h0
  rw [List.length_eq_zero_iff.1 this] at hll
  simpa using hll.symm
 ·have hin':e ∈ es.toList.filter fun e=>!seen.contains e.born:=by simpa [leftOf] using hin
  obtain ⟨j,hj⟩:=List.getElem?_of_mem hin'
  have hjt:=congrArg (fun q=>q[j]?) hll
  simp only [List.getElem?_map,hj,Option.map_some] at hjt
  cases hp:todo[j]? with
  | none=>rw [hp] at hjt;cases hjt
  | some p =>
   rw [hp] at hjt
   simp only [Option.map_some,Option.some.injEq,Prod.mk.injEq] at hjt
   refine ⟨.value (.tuple ⟨[.bool true,.int kk p.1,p.2]⟩),_,_,by rw [hex,hrun,hjt.1,hjt.2];rfl,?_,more j p hp⟩
   have hs3:Sat W (pts b (.mapIter (some r) clock seen clock)•pts r (.map es clock)•R) w1:=by
    rcases hw1 with rfl|rfl
    ·exact hs2
    ·exact hs2.same ⟨rfl,rfl,rfl,Nat.le_refl _⟩ rfl
   have hlt1:=hs3.lt
   have hs4:=hs3.set (.mapIter (some r) clock (seen.push e.born) clock) (w':=ChangeMaps.setBlock w1 b (.mapIter (some r) clock (seen.push e.born) clock)) ⟨rfl,rfl,rfl,by simp [ChangeMaps.setBlock]⟩ (by simp [ChangeMaps.setBlock,hlt1]) fun k hk=>by simp [ChangeMaps.setBlock,Ne.symm hk]
   rw [star_left_comm] at hs4
   refine Sat.mk_iter ⟨hrep.rep,?_,?_⟩ hs4
   ·rw [filter_push es.toList seen e hrep.rep.born j hj,map_eraseIdx',hll,← map_eraseIdx']
   ·exact ⟨e,(List.mem_filter.1 hin').1,by simp,hjt.1,hjt.2⟩

theorem OpX.ent {x:Operand} {ty:TypeId} {ev:Operand → Option Value} {K:Value → HProp → Prop} {Kp:List PanicEntry → HProp → Prop}
  {b r:Nat} {kk:IntKind} {l todo:List (Int × Value)} {p:Int × Value}
  [i:IterC H b r kk l todo (some p) R] (hm:ev x = some (.pointer (some ⟨b,0,none⟩))) (k:K (.tuple ⟨[.int kk p.1,p.2]⟩) H):OpX P W (.entry x) ty ev H K Kp:=by
 refine ⟨fun w ρ hs he o' ho hty=>?_⟩
 obtain ⟨dst,op,ty',pos,after,guard⟩:=o'
 simp only at ho hty
 subst ho hty
 have hs1:=hs
 rw [i.h.eq] at hs
 obtain ⟨es,clock,seen,hrep,hs⟩:=hs.iter
 have hr:=hs.at
 have hs2:Sat W (pts b (.mapIter (some r) clock seen clock)•pts r (.map es clock)•R) w:=by rw [star_left_comm];exact hs
 have hb:=hs2.at
 obtain ⟨e,hin,hback,hk,hv⟩:=hrep.cur
 have hseen:seen = seen.pop.push e.born:=by
  have hne:seen ≠ #[]:=fun h=>by rw [h] at hback;simp at hback
  have:=Array.eq_push_pop_back!_of_size_ne_zero (xs:=seen) (fun h=>hne (Array.eq_empty_of_size_eq_zero h))
  have hb!:seen.back! = e.born:=by simp [Array.back!_eq_back?,hback]
  rw [hb!] at this;exact this
 rw [hseen] at hb
 have:=run_entry_at (P:=P) w b r clock seen.pop es clock e hb hr hin hrep.rep.born
 refine ⟨.value (.tuple ⟨[.int kk p.1,p.2]⟩),w,H,?_,hs1,k⟩
 simp [execOp,he _ _ hm,this,hk,hv]
end

/-! ### Lists of keys and values, and assertions over them -/
section
variable {α β:Type}
def mapv (f:α → β) (l:List (Int × α)):List (Int × β):=l.map fun p=>(p.1,f p.2)
@[simp] theorem mapv_nil (f:α → β):mapv f [] = []:=rfl
theorem mapv_keys (f:α → β) (l:List (Int × α)):(mapv f l).map (·.1) = l.map (·.1):=by simp [mapv,Function.comp_def]
theorem mapv_lookup (f:α → β) (k:Int):∀ l:List (Int × α),(mapv f l).lookup k = (l.lookup k).map f
 | []=>rfl
 | (a,v) :: l=>by
  have:=mapv_lookup f k l
  unfold mapv at this ⊢
  by_cases h:k = a
  ·simp [List.lookup,h]
  ·have hb:(k == a) = false:=by simpa using h
   simp [List.lookup,hb,this]
theorem mapv_upd (f:α → β) (k:Int) (v:α):∀ l:List (Int × α),mapv f (updKV k v l) = updKV k (f v) (mapv f l)
 | []=>rfl
 | p :: l=>by
  have:=mapv_upd f k v l
  unfold mapv at this ⊢
  by_cases h:k = p.1
  ·simp [updKV,h]
  ·simp [updKV,h,this]
theorem mapv_del (f:α → β) (k:Int):∀ l:List (Int × α),mapv f (delKV k l) = delKV k (mapv f l)
 | []=>rfl
 | p :: l=>by
  have:=mapv_del f k l
  unfold mapv delKV at this ⊢
  by_cases h:p.1 = k
  ·simpa [h] using this
  ·simpa [h] using this
theorem lookup_none (k:Int):∀ l:List (Int × α),l.lookup k = none ↔ k ∉ l.map (·.1)
 | []=>by simp
 | (a,v) :: l=>by
  have:=lookup_none k l
  by_cases h:k = a
  ·simp [List.lookup,h]
  ·have hb:(k == a) = false:=by simpa using h
   rw [List.lookup,hb,this];simp [h]
theorem del_upd (k:Int) (v:α):∀ l:List (Int × α),(l.map (·.1)).Nodup → delKV k (updKV k v l) = delKV k l
 | [],_=>by simp [updKV,delKV]
 | p :: l,h=>by
  simp only [List.map_cons,List.nodup_cons] at h
  have ih:=del_upd k v l h.2
  unfold delKV at ih ⊢
  by_cases hk:k = p.1
  ·subst hk
   simp [updKV]
  ·have hk':¬ p.1 = k:=fun e=>hk e.symm
   simp [updKV,hk,hk',ih]

theorem upd_same (k:Int) (v:α):∀ l:List (Int × α),l.lookup k = some v → updKV k v l = l
 | [],h=>by simp at h
 | (a,u) :: l,h=>by
  by_cases hk:k = a
  ·subst hk;simp [List.lookup] at h;simp [updKV,h]
  ·have hb:(k == a) = false:=by simpa using hk
   simp only [List.lookup,hb] at h
   simp [updKV,hk,upd_same k v l h]

def bigM (f:Int → α → HProp):List (Int × α) → HProp
 | []=>emp
 | p :: l=>f p.1 p.2•bigM f l
theorem bigM_append (f:Int → α → HProp):∀ l l':List (Int × α),bigM f (l ++ l') = (bigM f l•bigM f l')
 | [],l'=>by simp [bigM,emp_star]
 | p :: l,l'=>by simp [bigM,bigM_append f l l',star_assoc]
theorem bigM_take (f:Int → α → HProp) (k:Int) (v:α):∀ l:List (Int × α),(l.map (·.1)).Nodup → l.lookup k = some v → bigM f l = (f k v•bigM f (delKV k l))
 | [],_,h=>by simp at h
 | (a,u) :: l,hnd,h=>by
  simp only [List.map_cons,List.nodup_cons] at hnd
  by_cases hk:k = a
  ·subst hk
   simp [List.lookup] at h
   subst h
   have:=filter_ne k l hnd.1
   unfold delKV at this ⊢
   simp [bigM,this]
  ·have hb:(k == a) = false:=by simpa using hk
   simp only [List.lookup,hb] at h
   have ih:=bigM_take f k v l hnd.2 h
   have hk':¬ a = k:=fun e=>hk e.symm
   unfold delKV at ih ⊢
   simp [bigM,hk',ih,star_left_comm (f k v)]
theorem bigM_upd (f:Int → α → HProp) (k:Int) (v:α) (l:List (Int × α)) (hnd:(l.map (·.1)).Nodup):bigM f (updKV k v l) = (f k v•bigM f (delKV k l)):=by
 have h1:((updKV k v l).map (·.1)).Nodup:=by
  rw [updKV_keys]
  split
  ·exact hnd
  ·rename_i h
   exact List.nodup_append.2 ⟨hnd,by simp,fun a ha b hb=>by simp at hb;subst hb;exact fun e=>h (e ▸ ha)⟩
 rw [bigM_take f k v _ h1 (by rw [updKV_lookup];simp),del_upd k v l hnd]
theorem bigM_ins (f:Int → α → HProp) (k:Int) (v:α) (l:List (Int × α)) (h:l.lookup k = none):bigM f (updKV k v l) = (f k v•bigM f l):=by
 rw [updKV_none k v l ((lookup_none k l).1 h),bigM_append]
 simp only [bigM,star_emp]
 exact star_comm _ _
theorem upd_nodup (k:Int) (v:α) (l:List (Int × α)) (hnd:(l.map (·.1)).Nodup):((updKV k v l).map (·.1)).Nodup:=by
 rw [updKV_keys]
 split
 ·exact hnd
 ·rename_i h
  exact List.nodup_append.2 ⟨hnd,by simp,fun a ha b hb=>by simp at hb;subst hb;exact fun e=>h (e ▸ ha)⟩
theorem del_nodup (k:Int) (l:List (Int × α)) (hnd:(l.map (·.1)).Nodup):((delKV k l).map (·.1)).Nodup:=by
 unfold delKV
 exact (List.filter_sublist.map _).nodup hnd
end
section
variable {P:Program} {W:World} {H R:HProp}
theorem MapC.nodup {r:Nat} {kk:IntKind} {l:List (Int × Value)} (i:MapC H r kk l R) {w:World} (hs:Sat W H w):(l.map (·.1)).Nodup:=by
 rw [i.h.eq] at hs
 obtain ⟨es,clock,hrep,_⟩:=hs.map
 exact hrep.nd
end
theorem lookup_of_mem {α:Type} (k:Int) (v:α):∀ l:List (Int × α),(l.map (·.1)).Nodup → (k,v) ∈ l → l.lookup k = some v
 | [],_,h=>by simp at h
 | (a,u) :: l,hnd,h=>by
  simp only [List.map_cons,List.nodup_cons] at hnd
  rcases List.mem_cons.1 h with h|h
  ·cases h;simp [List.lookup]
  ·have hne:¬ k = a:=fun e=>hnd.1 (e ▸ List.mem_map.2 ⟨_,h,rfl⟩)
   have hb:(k == a) = false:=by simpa using hne
   simp [List.lookup,hb,lookup_of_mem k v l hnd.2 h]
end Go.SL
/- Slices: the rules with instances; lists of assertions. No condition. -/
namespace Go.SL
open Go

class SizedC {α:Type} (sz:Nat) (enc:α → List Value):Prop where h:Sized sz enc
instance SizedC.one {α:Type} (f:α → Value):SizedC 1 (one f):=⟨Sized.one f⟩
instance SizedC.ints:SizedC 1 ints:=⟨Sized.one _⟩
class VecC {α:outParam Type} (H:HProp) (a:Option Addr) (t:outParam TypeId) (sz:outParam Nat) (enc:outParam (α → List Value)) (cap:outParam Nat) (xs:outParam (List α)) (R:outParam HProp):Prop where
 h:Take H (vec t sz enc a cap xs) R
section
variable {P:Program} {W:World} {T:Tab} {H R X:HProp} {α:Type} {t:TypeId} {sz:Nat} {enc:α → List Value} {a:Option Addr} {cap:Nat} {xs:List α}
instance (priority:=90) VecC.there [i:VecC H a t sz enc cap xs R]:VecC (X•H) a t sz enc cap xs (X•R):=⟨i.h.there⟩
instance (priority:=100) VecC.here:VecC (vec t sz enc a cap xs•R) a t sz enc cap xs R:=⟨.here⟩
instance VecC.last:VecC (vec t sz enc a cap xs) a t sz enc cap xs emp:=⟨.last⟩
theorem VecC.at' (i:VecC H a t sz enc cap xs R):VecAt W H t sz enc a cap xs:=by have:=i.h.eq;subst this;exact VecAt.here

theorem IxS.v {len i size:Nat} {n:Int} {K:Addr → Prop} [c:VecC H a t sz enc cap xs R] (hn:n = (i:Int)) (hlen:len = xs.length) (hi:i < xs.length)
  (k:∀ b off,a = some ⟨b,off,none⟩ → K ⟨b,off + i * size,none⟩):IxS W H a len n size K:=by subst hn;exact IxS.vec c.at' hlen hi k
theorem Ld.v0 {b off i:Nat} {x:α} {v:Value} {K:Value → Prop} [c:VecC H (some ⟨b,off,none⟩) t sz enc cap xs R] [s:SizedC sz enc] (hx:xs[i]? = some x) (hj:(enc x)[0]? = some v) (k:K v) :
  Ld W H ⟨b,off + i * sz,none⟩ K:=Ld.intro (Rd.vec0 s.h c.at' hx hj) k
theorem Ld.v {b off i j:Nat} {x:α} {v:Value} {K:Value → Prop} [c:VecC H (some ⟨b,off,none⟩) t sz enc cap xs R] [s:SizedC sz enc] (hx:xs[i]? = some x) (hj:(enc x)[j]? = some v) (k:K v) :
  Ld W H ⟨b,off + i * sz + j,none⟩ K:=Ld.intro (Rd.vec s.h c.at' hx hj) k
theorem LdN.v {b off i:Nat} {x:α} {l:List Value} {K:Value → Prop} [c:VecC H (some ⟨b,off,none⟩) t sz enc cap xs R] [s:SizedC sz enc] (hx:xs[i]? = some x) (hl:enc x = l) (k:K (.agg ⟨l⟩)) :
  LdN W H ⟨b,off + i * sz,none⟩ sz K:=by subst hl;exact LdN.cells (RdL.vec s.h c.at' hx) (s.h x) k
theorem St.v {b off i j n:Nat} {x:α} {vs:List Value} {K:HProp → Prop} [c:VecC H (some ⟨b,off,none⟩) t sz enc cap xs R] [s:SizedC sz enc] (hx:xs[i]? = some x)
  (y:α) (hy:enc y = (enc x).take j ++ vs ++ (enc x).drop (j + vs.length)) (hj:j + vs.length ≤ sz) (hv:vs.length = n ∧ vs.all (·.oneCell') = true)
  (k:K (SL.vec t sz enc (some ⟨b,off,none⟩) cap (xs.set i y)•R)):Req (vs.length = n ∧ vs.all (·.oneCell') = true) (St P W H ⟨b,off + i * sz + j,none⟩ vs K) :=
 ⟨hv,St.vec s.h c.h hx hy hj k⟩
theorem St.v0 {b off i n:Nat} {x:α} {vs:List Value} {K:HProp → Prop} [c:VecC H (some ⟨b,off,none⟩) t sz enc cap xs R] [s:SizedC sz enc] (hx:xs[i]? = some x)
  (y:α) (hy:enc y = vs ++ (enc x).drop vs.length) (hj:vs.length ≤ sz) (hv:vs.length = n ∧ vs.all (·.oneCell') = true)
  (k:K (SL.vec t sz enc (some ⟨b,off,none⟩) cap (xs.set i y)•R)):Req (vs.length = n ∧ vs.all (·.oneCell') = true) (St P W H ⟨b,off + i * sz,none⟩ vs K) :=
 ⟨hv,St.vec (j:=0) s.h c.h hx (by simpa using hy) (by simpa using hj) k⟩
theorem OpX.app1 (hT:T.ok P) {st:TypeId} {s y:Operand} {ty:TypeId} {ev:Operand → Option Value} {K:Value → HProp → Prop} {Kp:List PanicEntry → HProp → Prop}
  {n bl:Nat} {l:List Value} {c1 c2:List Value} {a1 a2:Bool} {s1 b1 b2:Nat} {d:TypeDesc} {R':HProp} {fz:Nat × Nat}
  [c:VecC H a t sz enc cap xs R] [sc:SizedC sz enc] (hs:ev s = some (.slice a n cap)) (hy:ev y = some (.slice (some ⟨bl,0,none⟩) 1 1))
  (h1:T st = some ⟨.slice t,c1,a1,s1,b1⟩) (h2:T t = some ⟨d,c2,a2,sz,b2⟩)
  [p:PtsC H bl (.cells ⟨l⟩ t fz) R'] (x:α) (hx:enc x = l) (hn:n = xs.length) (hb:2 * (xs.length + 1) * b2 ≤ 281474976710656 ∧ xs.length + 1 ≤ 9223372036854775807)
  (hl:c2.length = sz ∧ ∀ ys:List α,∀ v ∈ ys.flatMap enc,v.oneCell' = true)
  (k:∀ a' cap',K (.slice a' (n + 1) cap') (SL.vec t sz enc a' cap' (xs ++ [x])•R)) :
  OpX P W (.call ⟨.builtin .append,⟨[s,y]⟩,⟨[st,st]⟩⟩) ty ev H K Kp:=by
 subst hx
 refine OpX.append hT sc.h hl.2 h1 rfl h2 rfl hl.1 h1 (fun k e=>by cases e) hs hn hy (ys:=[x]) ?_ rfl c.h (by subst hn;exact hb) k
 have hd:RdL W H bl 0 (enc x):=by
  rw [p.h.eq]
  exact RdL.pts (n:=(enc x).length) (by simp)
 simpa using Src.cells (P:=P) (m:=1) (sz:=sz) (c:=1) hd (by simp [sc.h x])

def bigL (f:α → HProp):List α → HProp
 | []=>emp
 | x :: l=>f x•bigL f l
theorem bigL_append (f:α → HProp):∀ l l':List α,bigL f (l ++ l') = (bigL f l•bigL f l')
 | [],l'=>by simp [bigL,emp_star]
 | p :: l,l'=>by simp [bigL,bigL_append f l l',star_assoc]
theorem bigL_take (f:α → HProp):∀ (l:List α) (i:Nat) (x:α),l[i]? = some x → bigL f l = (f x•bigL f (l.eraseIdx i))
 | [],_,_,h=>by simp at h
 | a :: l,0,x,h=>by simp at h;subst h;rfl
 | a :: l,i + 1,x,h=>by
  have:=bigL_take f l i x (by simpa using h)
  simp [bigL,this,star_left_comm (f x)]
end
end Go.SL
/- Slices: parts of a slice, append to nil, a number's place. No condition. -/
namespace Go.SL
open Go
section
variable {P:Program} {W:World} {T:Tab} {H R X:HProp} {α:Type} {t:TypeId} {sz:Nat} {enc:α → List Value} {a:Option Addr} {cap:Nat} {xs:List α}

instance (priority:=10) RdC.ofPts {b off:Nat} {l:List Value} {fz:Nat × Nat} {v:Value} [i:PtsC H b (.cells ⟨l⟩ t fz) R] [j:LAt l off v]:RdC W H ⟨b,off,none⟩ v :=
 ⟨by have:=i.h.eq;subst this;exact Rd.pts j.h⟩
theorem OpX.ofImp {o:Op} {ty:TypeId} {ev:Operand → Option Value} {K:Value → HProp → Prop} {Kp:List PanicEntry → HProp → Prop} {H':HProp} (hi:Imp H H')
  (h:OpX P W o ty ev H' K Kp):OpX P W o ty ev H K Kp:=⟨fun w ρ hs=>h.run w ρ (hs.imp hi)⟩

theorem OpX.appendNil (hT:T.ok P) {st yt:TypeId} {s y:Operand} {ty:TypeId} {ev:Operand → Option Value} {K:Value → HProp → Prop} {Kp:List PanicEntry → HProp → Prop}
  {m:Nat} {yv:Value} {r1 r2 r3:TRow}
  (enc:α → List Value) (hsz:Sized sz enc) (hone:∀ ys:List α,∀ v ∈ ys.flatMap enc,v.oneCell' = true) (h1:T st = some r1) (h1':r1.und = .slice t) (h2:T t = some r2) (h2':r2.size = sz) (h2'':r2.cells.length = sz) (h3:T yt = some r3) (h3':∀ k,r3.und ≠ .int k)
  (hs:ev s = some (.slice none 0 0)) (hy:ev y = some yv) (ys:List α) (hsrc:Src P W H yv m sz (ys.flatMap enc)) (hm:ys.length = m)
  (hb:2 * m * r2.bytes ≤ 281474976710656 ∧ m ≤ 9223372036854775807)
  (k:∀ a' cap',K (.slice a' m cap') (SL.vec t sz enc a' cap' ys•H)) :
  OpX P W (.call ⟨.builtin .append,⟨[s,y]⟩,⟨[st,yt]⟩⟩) ty ev H K Kp:=by
 refine OpX.ofImp (H':=SL.vec t sz enc none 0 ([]:List α)•H) ?_ ?_
 ·have h:=(vec_nil (t:=t) (sz:=sz) (enc:=enc)).imp.left (Q:=H)
  rwa [emp_star] at h
 ·refine OpX.append hT hsz hone h1 h1' h2 h2' h2'' h3 h3' hs rfl hy (fun w hw=>hsrc w hw.right) hm .here (by simpa using hb) ?_
  simpa using k

theorem RdL.take {b off n:Nat} {l:List Value} (h:RdL W H b off l):RdL W H b off (l.take n):=⟨fun j v hj=>h.rd j v (by
 rw [List.getElem?_take] at hj
 split at hj
 ·exact hj
 ·cases hj)⟩
theorem RdL.drop {b off n:Nat} {l:List Value} (h:RdL W H b off l):RdL W H b (off + n) (l.drop n):=⟨fun j v hj=>by
 have:=h.rd (n + j) v (by simpa using hj)
 rwa [← Nat.add_assoc] at this⟩
theorem RdL.vecAll {b off:Nat} (hv:VecAt W H t sz enc (some ⟨b,off,none⟩) cap xs):RdL W H b off (xs.flatMap enc):=⟨fun j v hj w hs=>by
 obtain ⟨R,hR⟩:=hv w hs
 cases hR with
 | nil ha=>cases ha
 | mk b' off' pre junk ha hp hl hjj hs =>
  cases ha
  have hlt:j < (xs.flatMap enc).length:=by
   rcases Nat.lt_or_ge j (xs.flatMap enc).length with h'|h'
   ·exact h'
   ·simp [List.getElem?_eq_none h'] at hj
  refine Rd.pts ?_ w hs
  rw [List.append_assoc,List.getElem?_append_right (by omega),show off + j - pre.length = j by omega,List.getElem?_append_left hlt]
  exact hj⟩
theorem flatMap_take (hsz:Sized sz enc):∀ (xs:List α) (i:Nat),i ≤ xs.length → (xs.take i).flatMap enc = (xs.flatMap enc).take (i * sz)
 | _,0,_=>by simp
 | [],i + 1,h=>by simp at h
 | x :: xs,i + 1,h=>by
  have:=flatMap_take hsz xs i (by simpa using h)
  rw [List.take_succ_cons,List.flatMap_cons,List.flatMap_cons,this,show (i + 1) * sz = (enc x).length + i * sz by rw [hsz x,Nat.succ_mul];omega,List.take_length_add_append]
theorem flatMap_drop (hsz:Sized sz enc):∀ (xs:List α) (i:Nat),i ≤ xs.length → (xs.drop i).flatMap enc = (xs.flatMap enc).drop (i * sz)
 | _,0,_=>by simp
 | [],i + 1,h=>by simp at h
 | x :: xs,i + 1,h=>by
  have:=flatMap_drop hsz xs i (by simpa using h)
  rw [List.drop_succ_cons,List.flatMap_cons,this,show (i + 1) * sz = (enc x).length + i * sz by rw [hsz x,Nat.succ_mul];omega,List.drop_length_add_append]
theorem Src.take {i c:Nat} (hsz:Sized sz enc) (h:VecAt W H t sz enc a c xs) (hi:i ≤ xs.length):Src P W H (.slice a i c) i sz ((xs.take i).flatMap enc):=by
 intro w hs
 have hv:=h
 obtain ⟨R,hR⟩:=h w hs
 cases hR with
 | nil ha hc hx _ =>
  subst ha hx hc
  have:i = 0:=by simpa using hi
  subst this;exact ⟨rfl,rfl⟩
 | mk b off pre junk ha hp hl hj hs' =>
  subst ha
  rw [flatMap_take hsz _ _ hi]
  refine Src.cells (RdL.vecAll hv).take ?_ w hs
  have:=Nat.mul_le_mul_right sz hi
  rw [List.length_take,hsz.flat];omega
theorem vec_len {w:World} (h:Sat W (SL.vec t sz enc a cap xs•R) w):xs.length ≤ cap:=by
 cases h.vec with
 | nil ha hc hx _=>simp [hx]
 | mk b off pre junk ha hp hl hj hs=>exact hl
def dropv (a:Option Addr) (i n cap sz:Nat):Value:=.slice (if cap = i then a else a.map (·.add (i * sz))) (n - i) (cap - i)
theorem Src.drop {i c n:Nat} (hsz:Sized sz enc) (h:VecAt W H t sz enc a c xs) (hn:n = xs.length) (hi:i ≤ xs.length):Src P W H (dropv a i n c sz) (n - i) sz ((xs.drop i).flatMap enc):=by
 subst hn
 intro w hs
 have hv:=h
 obtain ⟨R,hR⟩:=h w hs
 cases hR with
 | nil ha hc hx _ =>
  subst ha hx hc
  have:i = 0:=by simpa using hi
  subst this;exact ⟨rfl,rfl⟩
 | mk b off pre junk ha hp hl hj hs' =>
  subst ha
  rw [flatMap_drop hsz _ _ hi]
  unfold dropv
  by_cases hc:c = i
  ·have hxi:xs.length = i:=by omega
   subst hc
   rw [if_pos rfl,hxi,show c * sz = (xs.flatMap enc).length by rw [hsz.flat,hxi],List.drop_length,Nat.sub_self]
   exact Src.cells (c:=0) ⟨fun _ _ hj=>by simp at hj⟩ (by simp) w hs
  ·rw [if_neg hc,Option.map_some,Addr.add_eq]
   refine Src.cells (RdL.vecAll hv).drop ?_ w hs
   rw [List.length_drop,hsz.flat,Nat.sub_mul]

theorem OpQ.slh (hT:T.ok P) {st:TypeId} {s i:Operand} {ty:TypeId} {ev:Operand → Option Value} {K:Value → Prop} {n c:Nat} {k:IntKind} {z:Int} {e:TypeId} {c1:List Value} {a1:Bool} {s1 b1:Nat} {r2:TRow}
  (hs:ev s = some (.slice a n c)) (hi:ev i = some (.int k z)) (h1:T st = some ⟨.slice e,c1,a1,s1,b1⟩) (h2:T e = some r2) (hz:0 ≤ z ∧ z ≤ c) (hk:K (.slice a z.toNat c)) :
  OpQ P W (.slice st s none (some i) none) ty ev H K:=by
 refine ⟨_,fun w ρ hw he o' ho hty=>?_,hk⟩
 obtain ⟨dst,op,ty',pos,after,guard⟩:=o'
 simp only at ho hty
 subst ho hty
 have hu:=(hT _ _ h1).und
 have hel:P.elem st = e:=by simp [Program.elem,hu]
 have hu':P.underlying st = some (.slice (P.elem st)):=by rw [hel];exact hu
 have:=run_slice_h (P:=P) (w:=w) st a n c hu' k z hz.1 hz.2
 rw [hel,TRow.size_run (hT _ _ h2)] at this
 have hadd:a.map (fun x=>x.add 0) = a:=by cases a <;> simp [Addr.add]
 simp [execOp,he _ _ hs,he _ _ hi,run_sliceAt_slice w st _ _ _ _ hu',this,Result.andThen,sliced,hadd]
theorem OpQ.sll (hT:T.ok P) {st:TypeId} {s i:Operand} {ty:TypeId} {ev:Operand → Option Value} {K:Value → Prop} {n c:Nat} {k:IntKind} {z:Int} {e:TypeId} {c1:List Value} {a1:Bool} {s1 b1:Nat} {r2:TRow}
  (hs:ev s = some (.slice a n c)) (hi:ev i = some (.int k z)) (h1:T st = some ⟨.slice e,c1,a1,s1,b1⟩) (h2:T e = some r2) (hz:0 ≤ z ∧ z ≤ n) (hk:K (dropv a z.toNat n c r2.size)) :
  OpQ P W (.slice st s (some i) none none) ty ev H K:=by
 refine ⟨_,fun w ρ hw he o' ho hty=>?_,hk⟩
 obtain ⟨dst,op,ty',pos,after,guard⟩:=o'
 simp only at ho hty
 subst ho hty
 have hu:=(hT _ _ h1).und
 have hel:P.elem st = e:=by simp [Program.elem,hu]
 have hu':P.underlying st = some (.slice (P.elem st)):=by rw [hel];exact hu
 have:=run_slice_l (P:=P) (w:=w) st a n c hu' k z hz.1 hz.2
 rw [hel,TRow.size_run (hT _ _ h2)] at this
 simp [execOp,he _ _ hs,he _ _ hi,run_sliceAt_slice w st _ _ _ _ hu',this,Result.andThen,sliced,dropv]
end
end Go.SL
/- Equality of two structs of numbers and bools. No condition. -/
namespace Go.SL
open Go
class EqC (P:Program) (t:TypeId) (as bs:List Value) (z:outParam Bool):Prop where
 run:∀ w,(Op.equal t (.agg ⟨as⟩) (.agg ⟨bs⟩)).run P w = .ok z w
class EqT (P:Program) (t:TypeId):Prop where
 h:P.eqGuardType P.depth t = false
section
variable {P:Program} {W:World} {T:Tab}
theorem eqAt_int {t:TypeId} {k k1:IntKind} (h:P.underlying t = some (.int k1)) (d:Nat) (a b:Int) (w:World):(Op.equalIn (d + 1) t (.int k a) (.int k b)).run P w = .ok (decide (a = b)) w:=by
 simp [Op.equalIn,run_underlying h,BEq.beq]
theorem eqAt_bool {t:TypeId} (h:P.underlying t = some .bool) (d:Nat) (a b:Bool) (w:World):(Op.equalIn (d + 1) t (.bool a) (.bool b)).run P w = .ok (a == b) w:=by
 simp [Op.equalIn,run_underlying h]
theorem eqGuard_agg {t:TypeId} [g:EqT P t] (op:BinOp) (x y:Operand) (as bs:Array Value) (w:World):(eqGuard op t x y (.agg as) (.agg bs)).run P w = .ok () w:=by
 cases op <;> first|rfl|(simp [eqGuard,g.h])
theorem OpQ.eqs {t:TypeId} {x y:Operand} {k:TypeId} {ty:TypeId} {ev:Operand → Option Value} {H:HProp} {K:Value → Prop} {as bs:List Value} {z:Bool} [g:EqT P t] [e:EqC P t as bs z]
  (hx:ev x = some (.agg ⟨as⟩)) (hy:ev y = some (.agg ⟨bs⟩)) (hk:K (.bool z)):OpQ P W (.binOp .eql t x y k) ty ev H K:=by
 refine ⟨_,fun w ρ hw he o' ho hty=>?_,hk⟩
 obtain ⟨dst,op,ty',pos,after,guard⟩:=o'
 simp only at ho hty
 subst ho hty
 simp [execOp,he _ _ hx,he _ _ hy,eqGuard_agg,binOp,e.run]
theorem OpQ.nes {t:TypeId} {x y:Operand} {k:TypeId} {ty:TypeId} {ev:Operand → Option Value} {H:HProp} {K:Value → Prop} {as bs:List Value} {z:Bool} [g:EqT P t] [e:EqC P t as bs z]
  (hx:ev x = some (.agg ⟨as⟩)) (hy:ev y = some (.agg ⟨bs⟩)) (hk:K (.bool (!z))):OpQ P W (.binOp .neq t x y k) ty ev H K:=by
 refine ⟨_,fun w ρ hw he o' ho hty=>?_,hk⟩
 obtain ⟨dst,op,ty',pos,after,guard⟩:=o'
 simp only at ho hty
 subst ho hty
 simp [execOp,he _ _ hx,he _ _ hy,eqGuard_agg,binOp,e.run]
end
end Go.SL
/- A law's row: what its arguments hold, and what its statement asks behind the call. No condition. -/
namespace Go.SL
open Go Go.ChangeShapes Go.WideShapes Go.ChangeAt Go.RowKit

theorem Sat.below {W w:World} {R:HProp} (h:Sat W (SL.old W•R) w):Below W.heap.size W w :=
 ⟨h.1.os,h.1.tape,h.1.output,h.1.size,fun k hk=>h.old k hk⟩
theorem Does.law {P:Program} {W:World} {f:FuncId} {args:Array Value} {v:Value} (h:Does P W f args (old W•emp) (Ret fun u G=>u = v ∧ G = (old W•emp))) :
  Calls P f args W fun e w'=>e = .returned v ∧ Below W.heap.size W w':=by
 refine (h.run W (Sat.start W)).mono fun e w' ⟨H',hs,u,G,he,hi,hu,hG⟩=>?_
 subst hu hG
 exact ⟨he,(hs.imp hi).below⟩

variable {H:Type} {enc:TypeId × Value → H} {P:Program}
theorem TrodAll.stays (hl:laidOutB P = true) {W W':World} {sp:Nat → Bool} (hb:Below W.heap.size W W') :
  ∀ (ts:List TypeId) (vs:List Value) (ds:List (DataW H)) (ps:List MemPlace),(ts.all fun t=>P.readableRec t && decide (t < P.types.size)) = true →
   DataW.TrodAll enc P W 0 (fun _=>true) true ts vs ds ps → (∀ x ∈ ps,x.block < W.heap.size) → (∀ x ∈ ps,sp x.block = true) → DataW.TrodAll enc P W' 0 sp true ts vs ds ps
 | [],[],[],_,_,h,_,_=>h
 | t :: ts,v :: vs,d :: ds,ps,hr,h,hlt,hsp=>by
  obtain ⟨p,q,h1,h2,rfl⟩:=h
  simp only [List.all_cons,Bool.and_eq_true,decide_eq_true_eq] at hr
  exact ⟨p,q,WideElems.Trod_stays hl hr.1.1 hr.1.2 h1 (fun x hx=>hb.same (hlt x (List.mem_append_left _ hx))) (fun x hx=>hsp x (List.mem_append_left _ hx)),
   TrodAll.stays hl hb ts vs ds q hr.2 h2 (fun x hx=>hlt x (List.mem_append_right _ hx)) (fun x hx=>hsp x (List.mem_append_right _ hx)),rfl⟩
 | [],_ :: _,_,_,_,h,_,_=>h.elim
 | [],[],_ :: _,_,_,h,_,_=>h.elim
 | _ :: _,[],_,_,_,h,_,_=>h.elim
 | _ :: _,_ :: _,[],_,_,h,_,_=>h.elim
theorem TrodAll.len {W : World} {sp : Nat → Bool} {hd : Bool} {b : Nat} : ∀ (ts : List TypeId) (vs : List Value) (ds : List (DataW H)) (ps : List MemPlace),
      DataW.TrodAll enc P W b sp hd ts vs ds ps → ds.length = ts.length ∧ vs.length = ts.length
  | [],[],[],_,_=>⟨rfl,rfl⟩
  | t :: ts,v :: vs,d :: ds,ps,h=>by
    obtain ⟨p,q,h1,h2,rfl⟩:=h
    have:=TrodAll.len ts vs ds q h2
    simp [this.1,this.2]
  | [],_ :: _,_,_,h=>h.elim
  | [],[],_ :: _,_,h=>h.elim
  | _ :: _,[],_,_,h=>h.elim
  | _ :: _,_ :: _,[],_,h=>h.elim

theorem law_post {f:Func} {s:ChangeSpec} {apart fresh handsOn again:Bool} {W W':World} {args:Array Value} {ds gs:List (DataW H)} {before:List MemPlace} {bt:TypeId}
  (hW:DataW.Whole enc P f.params.toList s.vars apart W args.toList ds gs before) (hv:s.vars = [])
  (hl:laidOutB P = true) (hr:(f.params.toList.all fun t=>P.readableRec t && decide (t < P.types.size)) = true)
  (hrt:f.resultTypes = #[bt]) (hbt:P.underlying bt = some .bool)
  (hfn:s.fn H (ds ++ gs) = { results:=[.lit (.bool true)],args:=ds }) (hb:Below W.heap.size W W'):s.post enc P f apart fresh handsOn again W args (.bool true) W':=by
 have hlt:∀ p ∈ before,p.block < W.heap.size:=fun p hp=>by simpa using hW.lt p hp
 have hW':=hW
 obtain ⟨pa,q,hA,hV,rfl,hz,hn⟩:=hW
 rw [hv] at hV
 have hq:gs = [] ∧ q = []:=by cases gs <;> simp_all [DataW.TrodVars]
 obtain ⟨rfl,rfl⟩:=hq
 simp only [List.append_nil] at hlt hz hn hfn hW'
 have hres:∀ (b:Nat) (sp:Nat → Bool) (hd:Bool),DataW.TrodAll enc P W' b sp hd f.resultTypes.toList ((Value.bool true).resultList f.resultTypes.size) [.lit (.bool true)] []:=fun b sp hd=>by
  rw [hrt]
  exact trodAll_cons_mk (shut_bool hbt _) trodAll_mk0
 have hargs:∀ sp:Nat → Bool,(∀ x ∈ pa,sp x.block = true) → DataW.TrodAll enc P W' 0 sp true f.params.toList args.toList ds pa:=fun sp hsp=>TrodAll.stays hl hb _ _ _ _ hr hA hlt hsp
 have hvars:∀ sp:Nat → Bool,DataW.TrodVars enc P W' sp s.vars [] []:=fun sp=>by rw [hv];rfl
 refine ⟨ds,[],pa,[],pa,[],by simpa using hW',?_,?_,?_,?_,fun _=>⟨?_,?_⟩⟩
 ·rw [List.append_nil,hfn];exact hres _ _ _
 ·rw [List.append_nil,hfn];exact hargs _ fun x hx=>by simpa using hlt x hx
 ·rw [List.append_nil,hfn,hv];rfl
 ·exact World.keptBut_mono (fun _ f=>f.elim) (hb.frame fun _=>False)
 ·intro j t r h1 h2
  rw [hrt] at h1 h2
  cases j with
  | zero =>
   have ht:t = bt:=by simpa using h1.symm
   have hr:r = .bool true:=by simpa [Value.resultList] using h2.symm
   subst ht hr
   exact okWide_bool_mk hbt _
  | succ j=>simp at h1
 ·refine ⟨[.lit (.bool true)] ++ ds,[],[] ++ pa ++ [],⟨[] ++ pa,[],trodAll_append (hargs _ fun _ _=>rfl) (hres _ _ _),hvars _,rfl,?_,?_⟩,?_⟩
  ·intro b off hp
   have hp':MemPlace.cell b off ∈ pa:=by simpa using hp
   rw [hb.frozen (hlt _ hp')]
   exact hz b off hp'
  ·intro ha;simpa using hn ha
  ·intro p hp _;simpa using hp

/-! ### What the arguments hold -/
section
variable {W:World} {α:Type} {sz:Nat} {enc':α → List Value}
structure OldVec (W:World) (sz:Nat) (enc':α → List Value) (a:Option Addr) (len cap:Nat) (xs:List α):Prop where
 hlen:len = xs.length
 hcap:len ≤ cap ∧ cap ≤ maxLen
 at':∀ i x,xs[i]? = some x → ∃ b off,a = some ⟨b,off,none⟩ ∧ ∀ j v,(enc' x)[j]? = some v → W.cell? ⟨b,off + i * sz + j,none⟩ = some v
class OldC (W:World) (H:HProp):Prop where h:∀ a v,W.cell? a = some v → Rd W H a v
instance (priority:=90) OldC.there {R X:HProp} [i:OldC W R]:OldC W (X•R):=⟨fun a v h=>(i.h a v h).there⟩
theorem rd_old {R:HProp} (a:Addr) (v:Value) (h:W.cell? a = some v):Rd W (old W•R) a v:=by
 intro w hs
 have hlt:a.block < W.heap.size:=World.block_lt_of_cell? _ _ h
 rw [World.cell?_of_block (w:=W) (hs.old a.block hlt)]
 exact h
instance (priority:=100) OldC.here {R:HProp}:OldC W (old W•R):=⟨rd_old⟩
instance OldC.last:OldC W (old W):=⟨fun a v h w hs=>by
 have hs':Sat W (old W•emp) w:=by rw [star_emp];exact hs
 exact rd_old a v h w hs'⟩
variable {HH:HProp} {a:Option Addr} {len cap:Nat} {xs:List α}
theorem IxS.o {i size:Nat} {n:Int} {K:Addr → Prop} (ho:OldVec W sz enc' a len cap xs) (hn:n = (i:Int)) (hi:i < xs.length)
  (k:∀ b off,a = some ⟨b,off,none⟩ → K ⟨b,off + i * size,none⟩):IxS W HH a len n size K:=by
 subst hn
 obtain ⟨b,off,rfl,_⟩:=ho.at' i _ (List.getElem?_eq_getElem hi)
 exact ⟨fun w _=>⟨_,rfl,by omega,by have:=ho.hlen;omega,by rw [show ((i:Int)).toNat = i by simp,Addr.add_eq];exact k b off rfl⟩⟩
theorem Ld.o {b off i j:Nat} {x:α} {v:Value} {K:Value → Prop} [c:OldC W HH] (ho:OldVec W sz enc' (some ⟨b,off,none⟩) len cap xs) (hx:xs[i]? = some x) (hj:(enc' x)[j]? = some v) (k:K v) :
  Ld W HH ⟨b,off + i * sz + j,none⟩ K:=by
 obtain ⟨b',off',hb,h⟩:=ho.at' i x hx
 cases hb
 exact Ld.intro (c.h _ _ (h j v hj)) k
theorem LdN.o {b off i n:Nat} {x:α} {l:List Value} {K:Value → Prop} [c:OldC W HH] (ho:OldVec W sz enc' (some ⟨b,off,none⟩) len cap xs) (hx:xs[i]? = some x) (hl:enc' x = l) (hn:l.length = n) (k:K (.agg ⟨l⟩)) :
  LdN W HH ⟨b,off + i * sz,none⟩ n K:=by
 subst hl
 obtain ⟨b',off',hb,h⟩:=ho.at' i x hx
 cases hb
 exact ⟨_,hn,fun j v hj=>by rw [Addr.add_eq];exact c.h _ _ (h j v hj),k⟩
end

def Decodes {H:Type} (enc:TypeId × Value → H) (P:Program) (W:World) (t:TypeId) {α:Type} (Ok:α → Prop) (enc':α → List Value):Prop :=
 ∀ n cs y,DataW.trod enc P W 0 (fun _=>true) true n t cs = some y → ∃ x,Ok x ∧ cs = enc' x
theorem list_of {α:Type} {p:Nat → α → Prop}:∀ n:Nat,(∀ i,i < n → ∃ x,p i x) → ∃ xs:List α,xs.length = n ∧ ∀ i x,xs[i]? = some x → p i x
 | 0,_=>⟨[],rfl,fun i x h=>by simp at h⟩
 | n + 1,h=>by
  obtain ⟨xs,h1,h2⟩:=list_of n fun i hi=>h i (by omega)
  obtain ⟨y,hy⟩:=h n (by omega)
  refine ⟨xs ++ [y],by simp [h1],fun i x hx=>?_⟩
  by_cases hi:i < n
  ·rw [List.getElem?_append_left (by omega)] at hx;exact h2 i x hx
  ·rw [List.getElem?_append_right (by omega),h1] at hx
   cases hk:i - n with
   | zero =>
    rw [hk] at hx
    have:i = n:=by omega
    subst this
    have:y = x:=by simpa using hx
    subst this;exact hy
   | succ k=>rw [hk] at hx;simp at hx
theorem wf_i64 {n:Int} (h:(Lit.int .i64 n).wf = true):-9223372036854775808 ≤ n ∧ n ≤ 9223372036854775807:=by
 simpa [Lit.wf,IntKind.min,IntKind.max,IntKind.signed,IntKind.bits] using h
end Go.SL
