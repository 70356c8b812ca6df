/- Separation-logic assertions over the model's heap; affine satisfaction in a world. No condition. -/
import Derived.Tactics
import Derived.Laws.BitsLemmas
import Derived.Laws.Slices
import Derived.Laws.Strings
set_option linter.unusedVariables false
set_option linter.unusedSimpArgs false
namespace Go.SL
open Go

def Heap:=Nat → Option Obj
def HProp:=Heap → Prop

def Heap.empty:Heap:=fun _=>none
def Heap.disj (a b:Heap):Prop:=∀ k,a k = none ∨ b k = none
def Heap.join (a b:Heap):Heap:=fun k=>(a k).or (b k)

theorem Heap.disj_comm {a b:Heap} (h:a.disj b):b.disj a:=fun k=>(h k).symm
theorem Heap.join_comm {a b:Heap} (h:a.disj b):a.join b = b.join a:=by
 funext k;rcases h k with e|e <;> simp [Heap.join,e]
theorem Heap.join_assoc (a b c:Heap):(a.join b).join c = a.join (b.join c):=by
 funext k;simp [Heap.join,Option.or_assoc]
theorem Heap.join_empty (a:Heap):a.join Heap.empty = a:=by funext k;simp [Heap.join,Heap.empty]
theorem Heap.empty_join (a:Heap):Heap.empty.join a = a:=by funext k;simp [Heap.join,Heap.empty]
theorem Heap.disj_empty (a:Heap):a.disj Heap.empty:=fun _=>.inr rfl
theorem Heap.disj_join {a b c:Heap}:(a.join b).disj c ↔ a.disj c ∧ b.disj c:=by
 constructor
 ·intro h
  refine ⟨fun k=>?_,fun k=>?_⟩
  ·rcases h k with e|e
   ·simp [Heap.join,Option.or_eq_none_iff] at e;exact .inl e.1
   ·exact .inr e
  ·rcases h k with e|e
   ·simp [Heap.join,Option.or_eq_none_iff] at e;exact .inl e.2
   ·exact .inr e
 ·rintro ⟨h1,h2⟩ k
  rcases h1 k with e|e
  ·rcases h2 k with e'|e'
   ·left;simp [Heap.join,e,e']
   ·exact .inr e'
  ·exact .inr e
theorem Heap.disj_join_r {a b c:Heap}:c.disj (a.join b) ↔ c.disj a ∧ c.disj b :=
  ⟨fun h=>let ⟨x,y⟩:=Heap.disj_join.1 (Heap.disj_comm h);⟨Heap.disj_comm x,Heap.disj_comm y⟩,
   fun ⟨x,y⟩=>Heap.disj_comm (Heap.disj_join.2 ⟨Heap.disj_comm x,Heap.disj_comm y⟩)⟩

def emp:HProp:=fun h=>h = Heap.empty
def star (P Q:HProp):HProp:=fun h=>∃ a b,a.disj b ∧ h = a.join b ∧ P a ∧ Q b
instance:HSMul HProp HProp HProp:=⟨star⟩
def pure (p:Prop):HProp:=fun h=>p ∧ h = Heap.empty
def ex {α:Sort _} (f:α → HProp):HProp:=fun h=>∃ x,f x h
def pts (b:Nat) (o:Obj):HProp:=fun h=>h = fun k=>if k = b then some o else none

theorem star_comm (P Q:HProp):(P•Q) = (Q•P):=by
 funext h;apply propext
 constructor
 ·rintro ⟨a,b,hd,rfl,hp,hq⟩;exact ⟨b,a,Heap.disj_comm hd,Heap.join_comm hd,hq,hp⟩
 ·rintro ⟨a,b,hd,rfl,hp,hq⟩;exact ⟨b,a,Heap.disj_comm hd,Heap.join_comm hd,hq,hp⟩
theorem star_assoc (P Q R:HProp):((P•Q)•R) = (P•Q•R):=by
 funext h;apply propext
 constructor
 ·rintro ⟨ab,c,hd,rfl,⟨a,b,hd',rfl,hp,hq⟩,hr⟩
  obtain ⟨h1,h2⟩:=Heap.disj_join.1 hd
  exact ⟨a,b.join c,Heap.disj_join_r.2 ⟨hd',h1⟩,Heap.join_assoc _ _ _,hp,b,c,h2,rfl,hq,hr⟩
 ·rintro ⟨a,bc,hd,rfl,hp,b,c,hd',rfl,hq,hr⟩
  obtain ⟨h1,h2⟩:=Heap.disj_join_r.1 hd
  exact ⟨a.join b,c,Heap.disj_join.2 ⟨h2,hd'⟩,(Heap.join_assoc _ _ _).symm,⟨a,b,h1,rfl,hp,hq⟩,hr⟩
theorem star_left_comm (P Q R:HProp):(P•Q•R) = (Q•P•R):=by
 rw [← star_assoc,star_comm P Q,star_assoc]
theorem star_emp (P:HProp):(P•emp) = P:=by
 funext h;apply propext
 constructor
 ·rintro ⟨a,b,_,rfl,hp,rfl⟩;rw [Heap.join_empty];exact hp
 ·intro hp;exact ⟨h,Heap.empty,Heap.disj_empty _,(Heap.join_empty _).symm,hp,rfl⟩
theorem emp_star (P:HProp):(emp•P) = P:=by rw [star_comm,star_emp]
instance:Std.Associative star:=⟨star_assoc⟩
instance:Std.Commutative star:=⟨star_comm⟩

def Ent (P Q:HProp):Prop:=∀ h,P h → Q h
theorem Ent.refl (P:HProp):Ent P P:=fun _ h=>h
theorem Ent.trans {P Q R:HProp} (h:Ent P Q) (k:Ent Q R):Ent P R:=fun x hx=>k x (h x hx)
theorem Ent.star {P P' Q Q':HProp} (h:Ent P P') (k:Ent Q Q'):Ent (P•Q) (P'•Q') :=
 fun _ ⟨a,b,hd,e,hp,hq⟩=>⟨a,b,hd,e,h _ hp,k _ hq⟩
theorem Ent.left {P P' Q:HProp} (h:Ent P P'):Ent (P•Q) (P'•Q):=h.star (.refl _)
theorem Ent.right {P Q Q':HProp} (h:Ent Q Q'):Ent (P•Q) (P•Q'):=(Ent.refl _).star h
theorem Ent.ex {α:Sort _} {P:HProp} {f:α → HProp} (x:α) (h:Ent P (f x)):Ent P (SL.ex f):=fun a ha=>⟨x,h a ha⟩
theorem ex_star {α:Sort _} (f:α → HProp) (Q:HProp):(ex f•Q) = ex fun x=>(f x•Q):=by
 funext h;apply propext
 constructor
 ·rintro ⟨a,b,hd,e,⟨x,hp⟩,hq⟩;exact ⟨x,a,b,hd,e,hp,hq⟩
 ·rintro ⟨x,a,b,hd,e,hp,hq⟩;exact ⟨a,b,hd,e,⟨x,hp⟩,hq⟩
theorem pure_star {p:Prop} {P:HProp} {h:Heap}:(SL.pure p•P) h ↔ p ∧ P h:=by
 constructor
 ·rintro ⟨a,b,_,rfl,⟨hp,rfl⟩,hq⟩;exact ⟨hp,by rw [Heap.empty_join];exact hq⟩
 ·rintro ⟨hp,hq⟩;exact ⟨Heap.empty,h,Heap.disj_comm (Heap.disj_empty _),(Heap.empty_join _).symm,⟨hp,rfl⟩,hq⟩
theorem Ent.pure {p:Prop} {P Q:HProp} (hp:p) (h:Ent P Q):Ent P (SL.pure p•Q):=fun x hx=>pure_star.2 ⟨hp,h x hx⟩

def Heap.sub (a b:Heap):Prop:=∀ k o,a k = some o → b k = some o
theorem Heap.sub_refl (a:Heap):a.sub a:=fun _ _ h=>h
theorem Heap.sub_trans {a b c:Heap} (h:a.sub b) (k:b.sub c):a.sub c:=fun i o hi=>k i o (h i o hi)
theorem Heap.sub_join_l (a b:Heap):a.sub (a.join b):=fun k o h=>by simp [Heap.join,h]
theorem Heap.sub_join_r {a b:Heap} (hd:a.disj b):b.sub (a.join b):=fun k o h=>by
 rcases hd k with e|e
 ·simp [Heap.join,e,h]
 ·rw [e] at h;cases h

def hp (w:World):Heap:=fun k=>w.heap[k]?

structure Same (W w:World):Prop where
 os:w.os = W.os
 tape:w.tape = W.tape
 output:w.output = W.output
 size:W.heap.size ≤ w.heap.size
theorem Same.refl (W:World):Same W W:=⟨rfl,rfl,rfl,Nat.le_refl _⟩
theorem Same.trans {a b c:World} (h:Same a b) (k:Same b c):Same a c :=
 ⟨k.os.trans h.os,k.tape.trans h.tape,k.output.trans h.output,Nat.le_trans h.size k.size⟩

def Sat (W:World) (H:HProp) (w:World):Prop:=Same W w ∧ ∃ a,a.sub (hp w) ∧ H a

theorem Sat.mono {W w:World} {H H':HProp} (h:Sat W H w) (e:Ent H H'):Sat W H' w :=
 ⟨h.1,let ⟨a,s,x⟩:=h.2;⟨a,s,e _ x⟩⟩
theorem Sat.left {W w:World} {P Q:HProp} (h:Sat W (P•Q) w):Sat W P w :=
 ⟨h.1,let ⟨_,s,a,b,_,e,p,_⟩:=h.2;⟨a,Heap.sub_trans (e ▸ Heap.sub_join_l a b) s,p⟩⟩
theorem Sat.right {W w:World} {P Q:HProp} (h:Sat W (P•Q) w):Sat W Q w:=by
 rw [star_comm] at h;exact h.left
theorem Sat.ex {W w:World} {α:Sort _} {f:α → HProp} (h:Sat W (SL.ex f) w):∃ x,Sat W (f x) w :=
 let ⟨s,a,b,x,y⟩:=h;⟨x,s,a,b,y⟩
theorem Sat.pure {W w:World} {p:Prop} {Q:HProp} (h:Sat W (SL.pure p•Q) w):p ∧ Sat W Q w :=
 let ⟨s,a,b,x⟩:=h;let ⟨y,z⟩:=pure_star.1 x;⟨y,s,a,b,z⟩
theorem Sat.at {W w:World} {b:Nat} {o:Obj} {R:HProp} (h:Sat W (pts b o•R) w):w.heap[b]? = some o:=by
 obtain ⟨_,a,s,e⟩:=h.left
 exact s b o (by rw [e];simp)
theorem Sat.lt {W w:World} {b:Nat} {o:Obj} {R:HProp} (h:Sat W (pts b o•R) w):b < w.heap.size:=by
 have:=h.at
 rcases Nat.lt_or_ge b w.heap.size with h|h
 ·exact h
 ·simp [Array.getElem?_eq_none h] at this

def Imp (P Q:HProp):Prop:=∀ h,P h → ∃ h',h'.sub h ∧ Q h'
theorem Ent.imp {P Q:HProp} (h:Ent P Q):Imp P Q:=fun x hx=>⟨x,Heap.sub_refl _,h x hx⟩
theorem Imp.refl (P:HProp):Imp P P:=(Ent.refl P).imp
theorem Imp.trans {P Q R:HProp} (h:Imp P Q) (k:Imp Q R):Imp P R:=fun x hx =>
 let ⟨y,s,hy⟩:=h x hx;let ⟨z,s',hz⟩:=k y hy;⟨z,Heap.sub_trans s' s,hz⟩
theorem Imp.star {P P' Q Q':HProp} (h:Imp P P') (k:Imp Q Q'):Imp (P•Q) (P'•Q'):=by
 rintro x ⟨a,b,hd,rfl,hp,hq⟩
 obtain ⟨a',sa,hp'⟩:=h a hp
 obtain ⟨b',sb,hq'⟩:=k b hq
 have hd':a'.disj b':=fun i=>by
  cases ha:a' i with
  | none=>exact .inl rfl
  | some o =>
   right
   cases hb:b' i with
   | none=>rfl
   | some o' =>
    rcases hd i with e|e
    ·rw [sa i o ha] at e;cases e
    ·rw [sb i o' hb] at e;cases e
 refine ⟨a'.join b',?_,a',b',hd',rfl,hp',hq'⟩
 intro i o hi
 cases ha:a' i with
 | some u =>
  simp [Heap.join,ha] at hi
  subst hi
  simp [Heap.join,sa i u ha]
 | none =>
  simp [Heap.join,ha] at hi
  exact Heap.sub_join_r hd i o (sb i o hi)
theorem Imp.left {P P' Q:HProp} (h:Imp P P'):Imp (P•Q) (P'•Q):=h.star (.refl _)
theorem Imp.right {P Q Q':HProp} (h:Imp Q Q'):Imp (P•Q) (P•Q'):=(Imp.refl _).star h
theorem Imp.drop {P Q:HProp}:Imp (P•Q) Q:=by
 rintro x ⟨a,b,hd,rfl,_,hq⟩;exact ⟨b,Heap.sub_join_r hd,hq⟩
theorem Imp.drop_r {P Q:HProp}:Imp (P•Q) P:=by
 rintro x ⟨a,b,_,rfl,hp,_⟩;exact ⟨a,Heap.sub_join_l a b,hp⟩
theorem Imp.ex {α:Sort _} {P:HProp} {f:α → HProp} (x:α) (h:Imp P (f x)):Imp P (SL.ex f):=fun a ha=>let ⟨y,s,hy⟩:=h a ha;⟨y,s,x,hy⟩
theorem Imp.pure {p:Prop} {P Q:HProp} (hp:p) (h:Imp P Q):Imp P (SL.pure p•Q):=fun x hx=>let ⟨y,s,hy⟩:=h x hx;⟨y,s,pure_star.2 ⟨hp,hy⟩⟩
theorem Imp.emp (P:HProp):Imp P SL.emp:=fun _ _=>⟨Heap.empty,fun _ _ h=>(by cases h),rfl⟩
theorem Sat.imp {W w:World} {H H':HProp} (h:Sat W H w) (e:Imp H H'):Sat W H' w :=
 ⟨h.1,let ⟨a,s,x⟩:=h.2;let ⟨b,s',y⟩:=e a x;⟨b,Heap.sub_trans s' s,y⟩⟩

theorem Sat.alloc {W w:World} {H:HProp} (h:Sat W H w) (o:Obj):Sat W (pts w.heap.size o•H) { w with heap:=w.heap.push o }:=by
 obtain ⟨⟨h1,h2,h3,h4⟩,a,s,x⟩:=h
 refine ⟨⟨h1,h2,h3,by simp;omega⟩,(fun k=>if k = w.heap.size then some o else a k),?_,(fun k=>if k = w.heap.size then some o else none),a,?_,?_,rfl,x⟩
 ·intro k v hk
  simp only [hp,Array.getElem?_push]
  by_cases e:k = w.heap.size
  ·simpa [e] using hk
  ·simp only [e,if_false] at hk ⊢;exact s k v hk
 ·intro k
  by_cases e:k = w.heap.size
  ·right
   cases hv:a k with
   | none=>rfl
   | some v=>have:=s k v hv;simp [hp,e] at this
  ·left;simp [e]
 ·funext k
  by_cases e:k = w.heap.size <;> simp [Heap.join,e]

theorem Sat.set {W w:World} {b:Nat} {o:Obj} {R:HProp} (h:Sat W (pts b o•R) w) (o':Obj) {w':World}
  (hs:Same w w') (hb:w'.heap[b]? = some o') (ho:∀ k,k ≠ b → w'.heap[k]? = w.heap[k]?):Sat W (pts b o'•R) w':=by
 obtain ⟨h1,_,s,a,c,hd,rfl,rfl,x⟩:=h
 refine ⟨h1.trans hs,_,?_,(fun k=>if k = b then some o' else none),c,?_,rfl,rfl,x⟩
 ·intro k v hk
  by_cases e:k = b
  ·subst e;simp [Heap.join] at hk;subst hk;exact hb
  ·have:c k = some v:=by simpa [Heap.join,e] using hk
   have:=s k v (by simp [Heap.join,e,this])
   show w'.heap[k]? = some v
   rw [ho k e];exact this
 ·intro k
  by_cases e:k = b
  ·subst e
   rcases hd k with e'|e'
   ·simp at e'
   ·exact .inr e'
  ·left;simp [e]

theorem Sat.same {W w w':World} {H:HProp} (h:Sat W H w) (hs:Same w w') (hh:w'.heap = w.heap):Sat W H w':=by
 obtain ⟨h1,a,s,x⟩:=h
 exact ⟨h1.trans hs,a,fun k v hk=>by show w'.heap[k]? = some v;rw [hh];exact s k v hk,x⟩
theorem Sat.grown {W w w':World} {H:HProp} (h:Sat W H w) (hs:Same w w') (hh:∀ k,k < w.heap.size → w'.heap[k]? = w.heap[k]?):Sat W H w':=by
 obtain ⟨h1,a,s,x⟩:=h
 refine ⟨h1.trans hs,a,fun k v hk=>?_,x⟩
 have e:=s k v hk
 have:k < w.heap.size:=by
  rcases Nat.lt_or_ge k w.heap.size with h|h
  ·exact h
  ·simp [hp,Array.getElem?_eq_none h] at e
 show w'.heap[k]? = some v
 rw [hh k this];exact e

def old (W:World):HProp:=fun h=>h = hp W
theorem Sat.start (W:World):Sat W (old W•emp) W:=by rw [star_emp];exact ⟨.refl W,hp W,Heap.sub_refl _,rfl⟩
theorem Sat.old {W U w:World} {R:HProp} (h:Sat W (SL.old U•R) w) (k:Nat) (hk:k < U.heap.size):w.heap[k]? = U.heap[k]?:=by
 obtain ⟨_,a,s,e⟩:=h.left
 have:U.heap[k]? = some U.heap[k]:=by simp [hk]
 rw [this]
 exact s k _ (by rw [e];exact this)

end Go.SL
/- A generator of weakest preconditions over symbolic frames and separation-logic heaps: the operations. No condition. -/
namespace Go.SL
open Go

abbrev Fr:=List (Nat × Value)
def Fr.get:Fr → Nat → Option Value
 | [],_=>none
 | (k,v) :: r,t=>match Nat.beq k t with
  | true=>some v
  | false=>Fr.get r t
def Fr.eval (fr:Fr):Operand → Option Value
 | .tmp t=>fr.get t
 | .const v=>some v
 | .global g=>some (.pointer (some ⟨g,0,none⟩))
 | .func f=>some (.func (.func f) #[] #[])
def Fr.rep (fr:Fr) (tmps:Array Value):Prop:=∀ t v,fr.get t = some v → tmps[t]? = some v

theorem Fr.rep_eval {fr:Fr} {a:Act} (h:fr.rep a.tmps) {x:Operand} {v:Value} (e:fr.eval x = some v):a.eval x = v:=by
 cases x with
 | tmp t =>
  have:=h t v e
  simp [Act.eval,Array.getD_eq_getD_getElem?,this]
 | const u=>simpa [Fr.eval,Act.eval] using e
 | global g=>simpa [Fr.eval,Act.eval] using e
 | func f=>simpa [Fr.eval,Act.eval] using e

theorem Fr.get_cons (k:Nat) (v:Value) (fr:Fr) (t:Nat):Fr.get ((k,v) :: fr) t = if k = t then some v else fr.get t:=by
 by_cases h:k = t
 ·subst h;simp [Fr.get]
 ·have:Nat.beq k t = false:=by
   cases hb:Nat.beq k t with
   | false=>rfl
   | true=>exact absurd (Nat.eq_of_beq_eq_true hb) h
  simp [Fr.get,this,h]

theorem Fr.rep_nil (tmps:Array Value):Fr.rep [] tmps:=fun _ _ h=>by simp [Fr.get] at h
theorem Fr.rep_cons {fr:Fr} {tmps:Array Value} {k:Nat} {v:Value} (h:fr.rep tmps) (e:tmps[k]? = some v):Fr.rep ((k,v) :: fr) tmps:=by
 intro t u hu
 rw [Fr.get_cons] at hu
 split at hu
 ·rename_i hk;subst hk;cases hu;exact e
 ·exact h t u hu
theorem Fr.rep_put {fr:Fr} {a:Act} (h:fr.rep a.tmps) {d:Nat} (hd:d < a.tmps.size) (v:Value):Fr.rep ((d,v) :: fr) (a.put (some d) v).tmps:=by
 intro t u hu
 rw [Fr.get_cons] at hu
 simp only [Act.put,Array.getElem?_setIfInBounds]
 split at hu
 ·rename_i hk;subst hk;simp [hd];simpa using hu
 ·rename_i hk;rw [if_neg hk];exact h t u hu
theorem Fr.rep_sub {fr fr':Fr} {tmps:Array Value} (h:fr.rep tmps) (hs:∀ t v,fr'.get t = some v → fr.get t = some v):fr'.rep tmps :=
 fun t v e=>h t v (hs t v e)

structure TRow where
 und:TypeDesc
 cells:List Value
 agg:Bool
 size:Nat
 bytes:Nat
abbrev Tab:=Nat → Option TRow
def aggD:TypeDesc → Bool
 | .struct _|.array _ _=>true
 | _=>false
structure TRow.ok (P:Program) (t:TypeId) (r:TRow):Prop where
 und:P.underlying t = some r.und
 agg:r.agg = aggD r.und
 info:∃ i,P.info? t = some i ∧ i.size = r.size ∧ i.bytes = r.bytes ∧ i.zero = some (if r.agg then .agg ⟨r.cells⟩ else r.cells.headD undef) ∧ (r.agg = false → ∃ z,r.cells = [z] ∧ z.cells = #[z])
def Tab.ok (T:Tab) (P:Program):Prop:=∀ t r,T t = some r → r.ok P t

def spl (b:Bool) (t f:Prop):Prop:=match b with|true=>t|false=>f
theorem spl_intro {b:Bool} {t f:Prop} (h:b = true → t) (k:b = false → f):spl b t f:=by
 cases b
 ·exact k rfl
 ·exact h rfl
theorem spl_elim {b:Bool} {t f:Prop} (h:spl b t f):(b = true ∧ t) ∨ (b = false ∧ f):=by
 cases b
 ·exact .inr ⟨rfl,h⟩
 ·exact .inl ⟨rfl,h⟩

def Rd (W:World) (H:HProp) (a:Addr) (v:Value):Prop:=∀ w,Sat W H w → w.cell? a = some v
def Ob (W:World) (H:HProp) (b:Nat) (o:Obj):Prop:=∀ w,Sat W H w → w.heap[b]? = some o
structure Take (H X R:HProp):Prop where
 eq:H = (X•R)

structure Ld (W:World) (H:HProp) (a:Addr) (K:Value → Prop):Prop where
 ex:∃ v,Rd W H a v ∧ K v
structure LdN (W:World) (H:HProp) (a:Addr) (n:Nat) (K:Value → Prop):Prop where
 ex:∃ vs:List Value,vs.length = n ∧ (∀ i v,vs[i]? = some v → Rd W H (a.add i) v) ∧ K (.agg ⟨vs⟩)
structure St (P:Program) (W:World) (H:HProp) (a:Addr) (vs:List Value) (K:HProp → Prop):Prop where
 run:∀ w,Sat W H w → (∀ v ∈ vs,v.oneCell' = true) → ∃ w' H',(storeCells a vs 0).run P w = .ok () w' ∧ Sat W H' w' ∧ K H'
structure Ar (k:IntKind) (e:Int) (K:Int → Prop):Prop where
 ex:K (k.wrap e)
structure Req (p:Prop) (K:Prop):Prop where
 p:p
 k:K
structure IxS (W:World) (H:HProp) (base:Option Addr) (len:Nat) (n:Int) (size:Nat) (K:Addr → Prop):Prop where
 ex:∀ w,Sat W H w → ∃ a,base = some a ∧ 0 ≤ n ∧ n < len ∧ K (a.add (n.toNat * size))
structure Does (P:Program) (W:World) (f:FuncId) (args:Array Value) (H:HProp) (Q:Ending → HProp → Prop):Prop where
 run:∀ w,Sat W H w → Calls P f args w fun e w'=>∃ H',Sat W H' w' ∧ Q e H'
structure Callable (P:Program) (f:FuncId):Prop where
 h:∀ args w,(callFunc f args).run P w = .ok (.enter f args) w
def CallQ (K:Value → HProp → Prop) (Kp:List PanicEntry → HProp → Prop):Ending → HProp → Prop
 | .returned v,H'=>K v H'
 | .panicked c,H'=>Kp c H'
 | .outgrown,_=>False
structure CallK (P:Program) (W:World) (f:FuncId) (args:List Value) (H:HProp) (K:Value → HProp → Prop) (Kp:List PanicEntry → HProp → Prop):Prop where
 go:(Callable P f ∧ Does P W f ⟨args⟩ H (CallQ K Kp)) ∨ ∀ w,Sat W H w → ∃ v w' H',(callFunc f ⟨args⟩).run P w = .ok (.value v) w' ∧ Sat W H' w' ∧ K v H'
def OpR (P:Program) (W:World) (K:Value → HProp → Prop) (Kp:List PanicEntry → HProp → Prop) (H:HProp):Next → Prop
 | .value v=>K v H
 | .skip=>K undef H
 | .enter f args=>Does P W f args H (CallQ K Kp)
 | _=>False
structure OpX (P:Program) (W:World) (o:Op) (ty:TypeId) (ev:Operand → Option Value) (H:HProp) (K:Value → HProp → Prop) (Kp:List PanicEntry → HProp → Prop):Prop where
 run:∀ w (ρ:Operand → Value),Sat W H w → (∀ x v,ev x = some v → ρ x = v) → ∀ o':Oper,o'.op = o → o'.type = ty →
  ∃ r w' H',(execOp ρ o').run P w = .ok r w' ∧ Sat W H' w' ∧ OpR P W K Kp H' r

def cellsK (v:Value) (K:List Value → Prop):Prop:=match v with
 | .agg ⟨l⟩=>K l
 | .bool b=>K [.bool b]
 | .int k n=>K [.int k n]
 | .string s=>K [.string s]
 | .pointer a=>K [.pointer a]
 | .slice a n c=>K [.slice a n c]
 | .map r=>K [.map r]
 | .chan r=>K [.chan r]
 | .func f a b=>K [.func f a b]
 | .nilFunc=>K [.nilFunc]
 | .iface t v=>K [.iface t v]
 | .nilIface=>K [.nilIface]
 | _=>False
theorem cellsK_elim {v:Value} {K:List Value → Prop} (h:cellsK v K):∃ l,v.cells = ⟨l⟩ ∧ K l:=by
 unfold cellsK at h
 split at h <;> first|exact h.elim|exact ⟨_,rfl,h⟩

def setL:List Value → Nat → List Value → (List Value → Prop) → Prop
 | cs,_,[],K=>K cs
 | [],_,_,_=>False
 | _ :: cs,0,v :: vs,K=>setL cs 0 vs fun r=>K (v :: r)
 | c :: cs,n + 1,vs,K=>setL cs n vs fun r=>K (c :: r)
def takeL:List Value → Nat → Nat → (List Value → Prop) → Prop
 | _,0,0,K=>K []
 | [],_,_,_=>False
 | c :: cs,0,n + 1,K=>takeL cs 0 n fun r=>K (c :: r)
 | _ :: cs,k + 1,n,K=>takeL cs k n K
def evs (ev:Operand → Option Value):List Operand → (List Value → Prop) → Prop
 | [],K=>K []
 | x :: xs,K=>match ev x with
  | some v=>evs ev xs fun r=>K (v :: r)
  | none=>False
def beqK (a b:Nat) (K:Prop):Prop:=match Nat.beq a b with|true=>K|false=>False
theorem beqK_elim {a b:Nat} {K:Prop} (h:beqK a b K):a = b ∧ K:=by
 unfold beqK at h
 split at h
 ·rename_i e;exact ⟨Nat.eq_of_beq_eq_true e,h⟩
 ·exact h.elim
def bleK (a b:Nat) (K:Prop):Prop:=match Nat.ble a b with|true=>K|false=>False
theorem bleK_elim {a b:Nat} {K:Prop} (h:bleK a b K):a ≤ b ∧ K:=by
 unfold bleK at h
 split at h
 ·rename_i e;exact ⟨Nat.le_of_ble_eq_true e,h⟩
 ·exact h.elim
def placesK (T:Tab):List Field → (List (Nat × Nat) → Prop) → Prop
 | [],K=>K []
 | ⟨_,ft,off,_,_,_,_⟩ :: fs,K=>match T ft with
  | some ⟨_,_,_,size,_⟩=>placesK T fs fun ps=>K ((off,size) :: ps)
  | none=>False
def fillK (ev:Operand → Option Value) (place:Nat → Option (Nat × Nat)):List (Nat × Operand) → List Value → (List Value → Prop) → Prop
 | [],cs,K=>K cs
 | (i,x) :: ps,cs,K=>match place i,ev x with
  | some (off,size),some v=>cellsK v fun l=>beqK l.length size (bleK (off + l.length) cs.length (setL cs off l fun cs=>fillK ev place ps cs K))
  | _,_=>False
def repK (z:List Value):Nat → (List Value → Prop) → Prop
 | 0,K=>K []
 | n + 1,K=>repK z n fun l=>appK z l K
where appK:List Value → List Value → (List Value → Prop) → Prop
 | [],l,K=>K l
 | x :: z,l,K=>appK z l fun l=>K (x :: l)
def kEq:IntKind → IntKind → Prop → Prop
 | .i8,.i8,K|.i16,.i16,K|.i32,.i32,K|.i64,.i64,K|.u8,.u8,K|.u16,.u16,K|.u32,.u32,K|.u64,.u64,K=>K
 | _,_,_=>False
theorem kEq_elim {k k':IntKind} {p:Prop} (h:kEq k k' p):k = k' ∧ p:=by
 unfold kEq at h
 split at h <;> first|exact h.elim|exact ⟨rfl,h⟩


def bitv (op:BinOp) (k:IntKind) (x y:Int):Int:=bits op k x y

def zK (r:TRow) (K:Value → Prop):Prop:=match r with
 | ⟨_,cells,true,_,_⟩=>K (.agg ⟨cells⟩)
 | ⟨_,cells,false,_,_⟩=>match cells with
  | z :: _=>K z
  | []=>False
structure Shr (k:IntKind) (n m:Int) (K:Int → Prop):Prop where
 p:0 ≤ m
 ex:K (n.fdiv (2 ^ (min m.toNat k.bits)))
structure Shl (k:IntKind) (n m:Int) (K:Int → Prop):Prop where
 p:0 ≤ m
 ex:K (k.wrap (n * 2 ^ (min m.toNat k.bits)))
structure Bt (op:BinOp) (k:IntKind) (n m:Int) (K:Int → Prop):Prop where
 ex:K (bits op k n m)
def eqvK (d:TypeDesc) (cst:Bool) (a b:Value) (K:Bool → Prop) (X:Prop):Prop :=
 match d,a,b with
 | .bool,.bool a,.bool b=>K (a == b)
 | .pointer _,.pointer (some _),.pointer none=>K false
 | .pointer _,.pointer a,.pointer none=>K a.isNone
 | .slice _,.slice (some _) _ _,.slice none _ _=>K false
 | .slice _,.slice a _ _,.slice none _ _=>K a.isNone
 | .map _ _,.map (some _),.map none=>K false
 | .map _ _,.map a,.map none=>K a.isNone
 | .func _ _ _,.func _ _ _,.nilFunc=>K false
 | .func _ _ _,.nilFunc,.nilFunc=>K true
 | .interface _,.iface _ _,.nilIface=>K false
 | .interface _,.nilIface,.nilIface=>match cst with
  | true=>K true
  | false=>X
 | _,_,_=>X
def isCst:Operand → Bool
 | .const _=>true
 | _=>false
def binK (T:Tab) (t:TypeId) (cst:Bool) (op:BinOp) (a b:Value) (H:HProp) (X:Prop) (K:Value → HProp → Prop):Prop :=
 match op,a,b with
 | .add,.int k n,.int k' m=>kEq k k' (Ar k (n + m) fun z=>K (.int k z) H)
 | .sub,.int k n,.int k' m=>kEq k k' (Ar k (n - m) fun z=>K (.int k z) H)
 | .mul,.int k n,.int k' m=>kEq k k' (Ar k (n * m) fun z=>K (.int k z) H)
 | .quo,.int k n,.int k' m=>kEq k k' (Req (m ≠ 0) (Ar k (n.tdiv m) fun z=>K (.int k z) H))
 | .rem,.int k n,.int k' m=>kEq k k' (Req (m ≠ 0) (K (.int k (n.tmod m)) H))
 | .and,.int k n,.int k' m=>kEq k k' (Bt .and k n m fun z=>K (.int k z) H)
 | .or,.int k n,.int k' m=>kEq k k' (Bt .or k n m fun z=>K (.int k z) H)
 | .xor,.int k n,.int k' m=>kEq k k' (Bt .xor k n m fun z=>K (.int k z) H)
 | .andNot,.int k n,.int k' m=>kEq k k' (Bt .andNot k n m fun z=>K (.int k z) H)
 | .shl,.int k n,.int _ m=>Shl k n m fun z=>K (.int k z) H
 | .shr,.int k n,.int _ m=>Shr k n m fun z=>K (.int k z) H
 | .eql,.int k n,.int k' m=>kEq k k' (K (.bool (decide (n = m))) H)
 | .neq,.int k n,.int k' m=>kEq k k' (K (.bool (!decide (n = m))) H)
 | .lss,.int k n,.int k' m=>kEq k k' (K (.bool (decide (n < m))) H)
 | .leq,.int k n,.int k' m=>kEq k k' (K (.bool (decide (n ≤ m))) H)
 | .gtr,.int k n,.int k' m=>kEq k k' (K (.bool (decide (n > m))) H)
 | .geq,.int k n,.int k' m=>kEq k k' (K (.bool (decide (n ≥ m))) H)
 | .eql,.string a,.string b=>K (.bool (a.toList == b.toList)) H
 | .neq,.string a,.string b=>K (.bool (!(a.toList == b.toList))) H
 | .eql,a,b=>match T t with
  | some ⟨d,_,_,_,_⟩=>eqvK d cst a b (fun z=>K (.bool z) H) X
  | none=>X
 | .neq,a,b=>match T t with
  | some ⟨d,_,_,_,_⟩=>eqvK d cst a b (fun z=>K (.bool (!z)) H) X
  | none=>X
 | _,_,_=>X

def opK (P:Program) (W:World) (T:Tab) (o:Op) (_ty:TypeId) (ev:Operand → Option Value) (H:HProp)
  (K:Value → HProp → Prop) (Kp:List PanicEntry → HProp → Prop) (X:Prop):Prop :=
 match o with
 | .move x|.assign x=>match ev x with
  | some v=>K v H
  | none=>False
 | .pick c a b=>match ev c with
  | some (.bool t)=>spl t (match ev a with|some v=>K v H|none=>False) (match ev b with|some v=>K v H|none=>False)
  | _=>False
 | .alloc e=>match T e with
  | some ⟨_,cells,_,_,_⟩=>∀ b,W.heap.size ≤ b → K (.pointer (some ⟨b,0,none⟩)) (pts b (.cells ⟨cells⟩ e)•H)
  | none=>False
 | .box e x=>match ev x with
  | some v=>cellsK v fun l=>∀ b,W.heap.size ≤ b → K (.pointer (some ⟨b,0,none⟩)) (pts b (.cells ⟨l⟩ e)•H)
  | none=>False
 | .load t x=>match T t,ev x with
  | some ⟨_,_,agg,size,_⟩,some (.pointer (some a))=>match agg with
   | true=>LdN W H a size fun v=>K v H
   | false=>Ld W H a fun v=>K v H
  | _,_=>False
 | .store t x y=>match T t,ev x,ev y with
  | some ⟨_,_,_,size,_⟩,some (.pointer (some a)),some v=>cellsK v fun l=>Req (l.length = size ∧ l.all (·.oneCell') = true) (St P W H a l fun H=>K undef H)
  | _,_,_=>False
 | .nilCheck x=>match ev x with
  | some (.pointer (some a))=>K (.pointer (some a)) H
  | some (.iface t v)=>K (.iface t v) H
  | some (.func (.func f) a b)=>K (.func (.func f) a b) H
  | _=>False
 | .fieldAddr t x i=>match T t,ev x with
  | some ⟨.struct ⟨fs⟩,_,_,_,_⟩,some (.pointer (some ⟨b,o,none⟩))=>match fs[i]? with
   | some ⟨_,ft,off,_,_,_,_⟩=>match T ft with
    | some ⟨_,_,_,.succ _,_⟩=>match off with
     | 0=>K (.pointer (some ⟨b,o,none⟩)) H
     | off=>K (.pointer (some ⟨b,o + off,none⟩)) H
    | _=>False
   | none=>False
  | _,_=>False
 | .field t x i=>match T t,ev x with
  | some ⟨.struct ⟨fs⟩,_,_,_,_⟩,some (.agg ⟨cs⟩)=>match fs[i]? with
   | some ⟨_,ft,off,_,_,_,_⟩=>match T ft with
    | some ⟨_,_,true,n,_⟩=>takeL cs off n fun l=>K (.agg ⟨l⟩) H
    | some ⟨_,_,false,_,_⟩=>match cs[off]? with
     | some v=>K v H
     | none=>False
    | none=>False
   | none=>False
  | _,_=>False
 | .extract x i=>match ev x with
  | some (.tuple ⟨vs⟩)=>match vs[i]? with
   | some v=>K v H
   | none=>False
  | _=>False
 | .binOp op t x y _=>match ev x,ev y with
  | some a,some b=>binK T t (match isCst x with|true=>true|false=>isCst y) op a b H X K
  | _,_=>False
 | .unOp op _ x=>match op,ev x with
  | .not,some (.bool b)=>K (.bool (!b)) H
  | .neg,some (.int k n)=>Ar k (0 - n) fun z=>K (.int k z) H
  | _,_=>X
 | .convert s d x=>match T s,T d,ev x with
  | some _,some ⟨.int k,_,_,_,_⟩,some (.int _ n)=>Ar k n fun z=>K (.int k z) H
  | _,_,_=>X
 | .build t ⟨parts⟩=>match T t with
  | some ⟨.struct ⟨fs⟩,cells,_,_,_⟩=>placesK T fs fun ps=>fillK ev (fun i=>ps[i]?) parts cells fun l=>K (.agg ⟨l⟩) H
  | _=>X
 | .buildSlice t len ⟨parts⟩=>match T t with
  | some ⟨.slice e,_,_,_,_⟩=>match T e with
   | some ⟨_,zero,_,size,_⟩=>match parts with
    | []=>match len with
     | 0=>∀ b,W.heap.size ≤ b → K (.slice (some ⟨b,0,none⟩) 0 0) (pts b (.cells ⟨[]⟩ e)•H)
     | .succ _=>X
    | p :: parts=>bleK (len * size) 16777216 (bleK 1 (len * size) (beqK zero.length size (repK zero len fun cs=>fillK ev (fun i=>some (i * size,size)) (p :: parts) cs fun l =>
     ∀ b,W.heap.size ≤ b → K (.slice (some ⟨b,0,none⟩) len len) (pts b (.cells ⟨l⟩ e)•H))))
   | none=>False
  | _=>False
 | .makeInterface t x=>match T t,ev x with
  | some ⟨.interface _,_,_,_,_⟩,_=>False
  | some _,some v=>K (.iface t v) H
  | _,_=>False
 | .makeFunc fn first captured=>match first,captured with
  | ⟨f⟩,⟨c⟩=>evs ev f fun f=>evs ev c fun c=>K (.func fn ⟨f⟩ ⟨c⟩) H
 | .indexAddr t x i=>match T t,ev x,ev i with
  | some ⟨.slice e,_,_,_,_⟩,some (.slice base len _),some (.int _ n)=>match T e with
   | some ⟨_,_,_,size,_⟩=>IxS W H base len n size fun a=>K (.pointer (some a)) H
   | none=>False
  | some ⟨.array len e,_,_,_,_⟩,some (.pointer (some a)),some (.int _ n)=>match T e with
   | some ⟨_,_,_,size,_⟩=>Req (0 ≤ n ∧ n < len) (K (.pointer (some (a.add (n.toNat * size)))) H)
   | none=>False
  | _,_,_=>False
 | .call ⟨.value f,⟨args⟩,_⟩=>match ev f with
  | some (.func (.func f) ⟨first⟩ ⟨cap⟩)=>evs ev args fun l=>CallK P W f (first ++ l ++ cap) H K Kp
  | _=>False
 | .call ⟨.builtin .len,⟨args⟩,⟨tys⟩⟩=>match args,tys with
  | [x],[t]=>match T t,ev x with
   | some ⟨.slice _,_,_,_,_⟩,some (.slice _ n _)=>K (.int .i64 n) H
   | some ⟨.string,_,_,_,_⟩,some (.string s)=>K (.int .i64 s.size) H
   | _,_=>X
  | _,_=>False
 | .typeAssert x _ t ok=>match T t,ev x with
  | some ⟨.interface _,_,_,_,_⟩,_=>X
  | some r,some (.iface t' v)=>match Nat.beq t' t,ok with
   | true,true=>K (.tuple ⟨[v,.bool true]⟩) H
   | true,false=>K v H
   | false,true=>zK r fun z=>K (.tuple ⟨[z,.bool false]⟩) H
   | false,false=>X
  | some r,some .nilIface=>match ok with
   | true=>zK r fun z=>K (.tuple ⟨[z,.bool false]⟩) H
   | false=>X
  | _,_=>X
 | .panic x=>match ev x with
  | some (.iface t v)=>Kp [{ v:=.iface t v,recovered:=false }] H
  | _=>False
 | .go _|.defer _|.send ..|.recv ..|.select ..|.ready _=>False
 | _=>X

def quietOp:Op → Bool
 | .move _|.assign _|.pick ..|.load ..|.nilCheck _|.fieldAddr ..|.field ..|.extract ..|.binOp ..|.unOp ..|.convert ..|.makeInterface ..|.makeFunc ..|.indexAddr ..
 | .index ..|.lookup ..|.slice ..|.typeAssert ..|.build ..|.call ⟨.builtin .len,_,_⟩|.call ⟨.builtin .cap,_,_⟩|.call ⟨.builtin .min,_,_⟩|.call ⟨.builtin .max,_,_⟩=>true
 | _=>false
def Runs (P:Program) (W:World) (o:Op) (ty:TypeId) (ev:Operand → Option Value) (H:HProp) (v:Value):Prop :=
 ∀ w (ρ:Operand → Value),Sat W H w → (∀ x v,ev x = some v → ρ x = v) → ∀ o':Oper,o'.op = o → o'.type = ty → (execOp ρ o').run P w = .ok (.value v) w
structure OpQ (P:Program) (W:World) (o:Op) (ty:TypeId) (ev:Operand → Option Value) (H:HProp) (K:Value → Prop):Prop where
 ex:∃ v,Runs P W o ty ev H v ∧ K v
theorem OpX.of_quiet {P:Program} {W:World} {o:Op} {ty:TypeId} {ev:Operand → Option Value} {H:HProp} {K:Value → HProp → Prop} {Kp:List PanicEntry → HProp → Prop}
  (h:OpQ P W o ty ev H fun v=>K v H):OpX P W o ty ev H K Kp:=by
 obtain ⟨v,hr,hk⟩:=h.ex
 exact ⟨fun w ρ hs he o' h1 h2=>⟨.value v,w,H,hr w ρ hs he o' h1 h2,hs,hk⟩⟩

end Go.SL
