/- What Merge's lists hold, page by page. No condition. -/
import Derived.Test.YtbcedpankkdfoaaGreatDoorPart6
import Derived.Test.YtbcedpankkdfoaaGreatDoorPart28
import Derived.Test.YtbcedpankkdfoaaGreatDoorPart27
set_option linter.unusedVariables false
set_option linter.unusedSimpArgs false
namespace Go.SL.Pts

def mn:Option Int → Option Int → Option Int
 | none,b=>b
 | some a,none=>some a
 | some a,some b=>some (min a b)
theorem mn_none (a:Option Int):mn a none = a:=by cases a <;> rfl
theorem mn_assoc (a b c:Option Int):mn (mn a b) c = mn a (mn b c):=by cases a <;> cases b <;> cases c <;> simp [mn,Int.min_assoc]
def mAt (n:Int):List DirtyV → Option Int
 | []=>none
 | d :: r=>mn (if d.1 = n then some d.2 else none) (mAt n r)
theorem mAt_append (n:Int):∀ a b:List DirtyV,mAt n (a ++ b) = mn (mAt n a) (mAt n b)
 | [],_=>rfl
 | d :: r,b=>by simp only [List.cons_append,mAt,mAt_append n r b,mn_assoc]
def errD:List DirtyV → Int
 | []=>0
 | d :: r=>if d.1 < 0 ∨ d.1 ≥ 64 then 4 else if d.2 < 1 ∨ d.2 > 2147483647 then 23 else errD r
theorem errD_append:∀ a b:List DirtyV,errD (a ++ b) = if errD a ≠ 0 then errD a else errD b
 | [],_=>rfl
 | d :: r,b=>by
  simp only [List.cons_append,errD]
  split
  ·simp
  ·split
   ·simp
   ·exact errD_append r b
def outL (f:Int → Option Int):List DirtyV:=(List.range 64).filterMap fun (n:Nat)=>(f n).map fun s=>((n:Int),s)
theorem outL_mem {f:Int → Option Int} {p:DirtyV}:p ∈ outL f ↔ (0 ≤ p.1 ∧ p.1 < 64) ∧ f p.1 = some p.2:=by
 simp only [outL,List.mem_filterMap,List.mem_range,Option.map_eq_some_iff]
 constructor
 ·rintro ⟨n,hn,s,hs,rfl⟩
  exact ⟨⟨by simp,by simp;omega⟩,hs⟩
 ·rintro ⟨⟨h1,h2⟩,h3⟩
  refine ⟨p.1.toNat,by omega,p.2,?_,?_⟩
  ·rw [show ((p.1.toNat:Nat):Int) = p.1 by omega];exact h3
  ·rw [show ((p.1.toNat:Nat):Int) = p.1 by omega]
theorem outL_sorted (f:Int → Option Int):(outL f).Pairwise fun a b=>a.1 < b.1:=by
 unfold outL
 rw [List.pairwise_filterMap]
 refine List.Pairwise.imp ?_ (List.pairwise_lt_range (n:=64))
 intro a b hab x hx y hy
 simp only [Option.map_eq_some_iff] at hx hy
 obtain ⟨_,_,rfl⟩:=hx
 obtain ⟨_,_,rfl⟩:=hy
 simp;omega
theorem sorted_ext {l l':List DirtyV} (h:l.Pairwise fun a b=>a.1 < b.1) (h':l'.Pairwise fun a b=>a.1 < b.1) (hm:∀ p,p ∈ l ↔ p ∈ l'):l = l':=by
 have nd:∀ {l:List DirtyV},l.Pairwise (fun a b=>a.1 < b.1) → l.Nodup:=fun h=>h.imp fun hlt e=>by subst e;omega
 refine List.Perm.eq_of_pairwise (le:=fun a b=>a.1 < b.1) (fun a b _ _ h1 h2=>by omega) h h' ((List.perm_ext_iff_of_nodup (nd h) (nd h')).2 hm)
/-! ### The map -/
theorem updKV_nodup {k v:Int} {m:List (Int × Int)} (h:(m.map (·.1)).Nodup):((updKV k v m).map (·.1)).Nodup:=by
 rw [updKV_keys]
 split
 ·exact h
 ·rename_i hk
  exact List.nodup_append.2 ⟨h,by simp,fun a ha b hb=>by simp at hb;subst hb;exact fun e=>hk (e ▸ ha)⟩
theorem sinceF_law:∀ (xs:List DirtyV) (m:List (Int × Int)),(m.map (·.1)).Nodup → (sinceF m xs).1 = errD xs ∧ ((sinceF m xs).2.map (·.1)).Nodup ∧ (errD xs = 0 → ∀ n,(sinceF m xs).2.lookup n = mn (m.lookup n) (mAt n xs))
 | [],m,h=>⟨rfl,h,fun _ n=>by simp [sinceF,mAt,mn_none]⟩
 | d :: r,m,h=>by
  rw [sinceF,errD]
  split
  ·exact ⟨rfl,h,fun e=>by cases e⟩
  ·split
   ·exact ⟨rfl,h,fun e=>by cases e⟩
   ·have hu:=updKV_nodup (k:=d.1) (v:=d.2) h
    have key:∀ m':List (Int × Int),(m'.map (·.1)).Nodup → (∀ n,m'.lookup n = mn (m.lookup n) (if d.1 = n then some d.2 else none)) →
      (sinceF m' r).1 = errD r ∧ ((sinceF m' r).2.map (·.1)).Nodup ∧ (errD r = 0 → ∀ n,(sinceF m' r).2.lookup n = mn (m.lookup n) (mAt n (d :: r))):=by
     intro m' h1 h2
     obtain ⟨i1,i2,i3⟩:=sinceF_law r m' h1
     exact ⟨i1,i2,fun e n=>by rw [i3 e n,h2 n,mAt,mn_assoc]⟩
    split
    ·rename_i hl
     refine key _ hu fun n=>?_
     rw [updKV_lookup]
     by_cases e:d.1 = n
     ·subst e;simp [hl,mn]
     ·rw [if_neg (fun e'=>e e'.symm),if_neg e,mn_none]
    ·rename_i w hl
     split
     ·rename_i hlt
      refine key _ hu fun n=>?_
      rw [updKV_lookup]
      by_cases e:d.1 = n
      ·subst e
       simp only [if_true,hl,mn,Option.some.injEq]
       omega
      ·rw [if_neg (fun e'=>e e'.symm),if_neg e,mn_none]
     ·rename_i hlt
      refine key _ h fun n=>?_
      by_cases e:d.1 = n
      ·subst e
       simp only [if_true,hl,mn,Option.some.injEq]
       omega
      ·rw [if_neg e,mn_none]
theorem sortI_pairwise (l:List Int):(sortI l).Pairwise fun a b=>a ≤ b:=by
 have h:=List.pairwise_mergeSort (le:=leI) (fun a b c h1 h2=>by simp only [leI,decide_eq_true_eq] at *;omega) (fun a b=>by simp only [leI,Bool.or_eq_true,decide_eq_true_eq];omega) l
 exact h.imp fun h=>by simpa [leI] using h
theorem sortI_nodup {l:List Int} (h:l.Nodup):(sortI l).Nodup:=(List.mergeSort_perm l leI).nodup_iff.2 h
theorem lookup_mem {m:List (Int × Int)} {k:Int}:k ∈ m.map (·.1) ↔ ∃ v,m.lookup k = some v:=by
 induction m with
 | nil=>simp
 | cons p m ih =>
  by_cases e:k = p.1
  ·subst e;simp [List.lookup]
  ·have:(k == p.1) = false:=by simpa using e
   simp [List.lookup,this,e,← ih]
theorem mergeF_eq (xs ys:List DirtyV):mergeF xs ys = if errD (xs ++ ys) ≠ 0 then (errD (xs ++ ys),[]) else (0,outL fun n=>mAt n (xs ++ ys)):=by
 obtain ⟨a1,a2,a3⟩:=sinceF_law xs [] (by simp)
 obtain ⟨b1,b2,b3⟩:=sinceF_law ys (sinceF [] xs).2 a2
 have hok:=sinceF_ok xs [] (fun p h=>by cases h)
 have hok2:=(sinceF_ok ys _ hok.1).1
 unfold mergeF
 rw [a1,b1,errD_append]
 by_cases e:errD xs ≠ 0
 ·simp [e]
 ·rw [if_neg e,if_neg e]
  by_cases e':errD ys ≠ 0
  ·simp [e']
  ·rw [if_neg e',if_neg e']
   have hx:errD xs = 0:=by omega
   have hy:errD ys = 0:=by omega
   have hl:∀ n,(sinceF (sinceF [] xs).2 ys).2.lookup n = mAt n (xs ++ ys):=fun n=>by rw [b3 hy n,a3 hx n,mAt_append];simp [mn]
   obtain ⟨M,hM⟩:∃ M,M = (sinceF (sinceF [] xs).2 ys).2:=⟨_,rfl⟩
   rw [← hM] at b2 hok2 hl ⊢
   congr 1
   refine sorted_ext ?_ (outL_sorted _) fun p=>?_
   ·rw [List.pairwise_map]
    exact (sortI_pairwise _).imp₂ (fun a b h1 h2=>by show a < b;have h2:a ≠ b:=h2;omega) (sortI_nodup b2)
   ·rw [outL_mem,List.mem_map]
    constructor
    ·rintro ⟨k,hk,rfl⟩
     rw [sortI_mem] at hk
     obtain ⟨v,hv⟩:=lookup_mem.1 hk
     obtain ⟨q,hq,rfl⟩:=List.mem_map.1 hk
     refine ⟨(hok2 q hq).1,?_⟩
     dsimp only
     rw [← hl,hv];rfl
    ·rintro ⟨h1,h2⟩
     rw [← hl] at h2
     refine ⟨p.1,sortI_mem.2 (lookup_mem.2 ⟨_,h2⟩),?_⟩
     rw [h2];rfl
end Go.SL.Pts
/- A small store and its table of live transactions, in plain words. Conditions: in each statement. -/
namespace Go.SL.Pool
open Go Go.SL Go.SL.Sec Go.SL.Fld Go.SL.Rec Go.SL.Twn Go.SL.Pg Go.SL.Mst Go.SL.Pts
/-! ### The table -/
def lvm (L:List LiveV):List (Int × LiveV):=L.map fun x=>(x.tx,x)
theorem lvm_keys (L:List LiveV):(lvm L).map (·.1) = L.map (·.tx):=by simp [lvm,Function.comp_def]
theorem lvm_len (L:List LiveV):(lvm L).length = L.length:=List.length_map ..
theorem lvm_new:∀ {L:List LiveV} {y:LiveV},(∀ x ∈ L,x.tx ≠ y.tx) → updKV y.tx y (lvm L) = lvm (L ++ [y])
 | [],y,_=>rfl
 | x :: L,y,h=>by
  have h1:¬ y.tx = x.tx:=fun e=>h x List.mem_cons_self e.symm
  show updKV y.tx y ((x.tx,x) :: lvm L) = (x.tx,x) :: lvm (L ++ [y])
  rw [updKV,if_neg h1,lvm_new fun z hz=>h z (List.mem_cons_of_mem _ hz)]
theorem lvm_set:∀ {L:List LiveV} {k:Nat} {x y:LiveV},(L.map (·.tx)).Nodup → L[k]? = some x → y.tx = x.tx → updKV x.tx y (lvm L) = lvm (L.set k y)
 | [],_,_,_,_,h,_=>by simp at h
 | z :: L,0,x,y,_,h,e=>by
  cases h
  show updKV z.tx y ((z.tx,z) :: lvm L) = (y.tx,y) :: lvm L
  rw [updKV,if_pos rfl,e]
 | z :: L,k + 1,x,y,hn,h,e=>by
  rw [List.map_cons,List.nodup_cons] at hn
  have hx:x ∈ L:=List.mem_of_getElem? (by simpa using h)
  have h1:¬ x.tx = z.tx:=fun e=>hn.1 (e ▸ List.mem_map.2 ⟨x,hx,rfl⟩)
  show updKV x.tx y ((z.tx,z) :: lvm L) = (z.tx,z) :: lvm (L.set k y)
  rw [updKV,if_neg h1,lvm_set hn.2 (by simpa using h) e]
theorem lvm_look {L:List LiveV} {x:LiveV} (hn:(L.map (·.tx)).Nodup) (h:x ∈ L):(lvm L).lookup x.tx = some x :=
 lookup_of_mem _ _ _ (by rw [lvm_keys];exact hn) (List.mem_map.2 ⟨x,h,rfl⟩)
structure LvOk (L:List LiveV) (next:Int) (n:Nat):Prop where
 sort:L.Pairwise fun a b=>a.tx < b.tx
 one:∀ x ∈ L,(1 ≤ x.tx ∧ x.tx < next) ∧ (1 ≤ x.last ∧ x.last ≤ n) ∧ ¬ (x.com = true ∧ x.und = true)
 len:L.length ≤ 32
 nx:1 ≤ next
theorem LvOk.nil {next:Int} {n:Nat} (h:1 ≤ next):LvOk [] next n:=⟨List.Pairwise.nil,fun x hx=>(by cases hx),by simp,h⟩
theorem LvOk.nd {L:List LiveV} {next:Int} {n:Nat} (h:LvOk L next n):(L.map (·.tx)).Nodup:=by
 rw [List.Nodup,List.pairwise_map]
 exact h.sort.imp fun hab=>by omega
theorem LvOk.up {L:List LiveV} {next:Int} {n m:Nat} (h:LvOk L next n) (hm:n ≤ m):LvOk L next m :=
 ⟨h.sort,fun x hx=>by obtain ⟨h1,h2,h3⟩:=h.one x hx;exact ⟨h1,⟨h2.1,by omega⟩,h3⟩,h.len,h.nx⟩
theorem LvOk.beg {L:List LiveV} {next:Int} {n:Nat} (h:LvOk L next n) (hl:L.length < 32):LvOk (L ++ [⟨next,(n:Int) + 1,false,false⟩]) (next + 1) (n + 1):=by
 refine ⟨?_,fun x hx=>?_,by simp;omega,by have:=h.nx;omega⟩
 ·rw [List.pairwise_append]
  refine ⟨h.sort,List.pairwise_singleton _ _,fun a ha b hb=>?_⟩
  cases List.mem_singleton.1 hb
  exact (h.one a ha).1.2
 ·rcases List.mem_append.1 hx with k|k
  ·obtain ⟨h1,h2,h3⟩:=h.one x k
   exact ⟨by omega,⟨h2.1,by omega⟩,h3⟩
  ·cases List.mem_singleton.1 k
   have:=h.nx
   exact ⟨by dsimp only;omega,by dsimp only;omega,by simp⟩
theorem LvOk.set {L:List LiveV} {next:Int} {n k:Nat} {x:LiveV} (h:LvOk L next n) (hx:L[k]? = some x) {c u:Bool} (hc:¬ (c = true ∧ u = true)):LvOk (L.set k ⟨x.tx,(n:Int) + 1,c,u⟩) next (n + 1):=by
 have e:(L.set k ⟨x.tx,(n:Int) + 1,c,u⟩).map (·.tx) = L.map (·.tx):=by
  rw [List.map_set]
  show (L.map (·.tx)).set k x.tx = _
  refine List.ext_getElem? fun i=>?_
  rw [List.getElem?_set]
  split
  ·rename_i hki
   subst hki
   split
   ·rw [List.getElem?_map,hx];rfl
   ·rw [List.getElem?_map,hx];rename_i q;rw [List.length_map] at q;rw [List.getElem?_eq_none (by omega)] at hx;cases hx
  ·rfl
 refine ⟨?_,fun y hy=>?_,by rw [List.length_set];exact h.len,h.nx⟩
 ·have h1:(L.map (·.tx)).Pairwise fun a b=>a < b:=List.pairwise_map.2 h.sort
  rw [← e] at h1
  exact List.pairwise_map.1 h1
 ·rcases List.mem_or_eq_of_mem_set hy with k1|rfl
  ·obtain ⟨h1,h2,h3⟩:=h.one y k1
   exact ⟨h1,⟨h2.1,by omega⟩,h3⟩
  ·exact ⟨(h.one x (List.mem_of_getElem? hx)).1,by dsimp only;omega,hc⟩
theorem LvOk.live {next lsn:Int}:∀ {L:List LiveV} {n:Nat} {last:Int},L.Pairwise (fun a b=>a.tx < b.tx) → (∀ x ∈ L,(1 ≤ x.tx ∧ x.tx < next) ∧ (1 ≤ x.last ∧ x.last ≤ n) ∧ ¬ (x.com = true ∧ x.und = true)) → (∀ x ∈ L,last < x.tx) → (n:Int) ≤ 1000000 → lsn = 0 → cpLive next lsn last L = true
 | [],_,_,_,_,_,_,_=>rfl
 | x :: L,n,last,hs,h1,h2,hn,hl=>by
  obtain ⟨a1,a2,a3⟩:=h1 x List.mem_cons_self
  have a4:=h2 x List.mem_cons_self
  rw [List.pairwise_cons] at hs
  rw [cpLive,if_neg (by omega),if_neg a3]
  exact LvOk.live hs.2 (fun y hy=>h1 y (List.mem_cons_of_mem _ hy)) hs.1 hn hl
theorem cpDirty_ok {lsn:Int} {n:Nat}:∀ {D:List DirtyV} {page:Int},D.Pairwise (fun a b=>a.1 < b.1) → (∀ x ∈ D,x.1 < 64 ∧ 1 ≤ x.2 ∧ x.2 ≤ n) → (∀ x ∈ D,page < x.1) → (n:Int) ≤ 1000000 → lsn = 0 → cpDirty lsn page D = true
 | [],_,_,_,_,_,_=>rfl
 | x :: D,page,hs,h1,h2,hn,hl=>by
  have a1:=h1 x List.mem_cons_self
  have a4:=h2 x List.mem_cons_self
  rw [List.pairwise_cons] at hs
  rw [cpDirty,if_neg (by omega)]
  exact cpDirty_ok hs.2 (fun y hy=>h1 y (List.mem_cons_of_mem _ hy)) hs.1 hn hl
/-! ### The least -/
def lstF (m:Int):List DirtyV → Int
 | []=>m
 | d :: r=>lstF (if m = 0 ∨ d.2 < m then d.2 else m) r
theorem lstF_min:∀ {l:List DirtyV} {m:Int},1 ≤ m → (∀ d ∈ l,1 ≤ d.2) → lstF m l = lmin m l
 | [],_,_,_=>rfl
 | d :: r,m,hm,h=>by
  have h1:=h d List.mem_cons_self
  rw [lstF,lmin]
  by_cases c:d.2 < m
  ·rw [if_pos (.inr c),if_pos c]
   exact lstF_min h1 fun x hx=>h x (List.mem_cons_of_mem _ hx)
  ·rw [if_neg (by omega),if_neg c]
   exact lstF_min hm fun x hx=>h x (List.mem_cons_of_mem _ hx)
theorem lstF_least {l:List DirtyV} (h:∀ d ∈ l,1 ≤ d.2):lstF 0 l = leastD l:=by
 cases l with
 | nil=>rfl
 | cons d r =>
  rw [lstF,if_pos (.inl rfl),leastD]
  exact lstF_min (h d List.mem_cons_self) fun x hx=>h x (List.mem_cons_of_mem _ hx)
/-! ### The pool's frames -/
structure FrAll (Q:FrM → Prop) (S:Sto):Prop where
 all:∀ n f,S.P.held.lookup n = some f → Q f
structure FrK (Q:FrM → Prop):Prop where
 used:∀ f u,Q f → Q { f with used:=u }
 clean:∀ f,Q f → Q { f with dirty:=false,since:=0 }
 new:∀ p u,Q ⟨p,0,false,0,u⟩
section
variable {Q:FrM → Prop} {S:Sto}
theorem FrAll.lg (h:FrAll Q S) (L:LogM) (D:Dev):FrAll Q ⟨S.P,L,D⟩:=⟨h.all⟩
theorem FrAll.ends (S:Sto):FrAll Q S.ends:=⟨fun n f hf=>by cases hf⟩
theorem FrAll.seen (h:FrAll Q S) (e:Int):FrAll Q (S.seen e):=by unfold Sto.seen;split;exact FrAll.ends S;exact h
theorem FrAll.fr (h:FrAll Q S) {n:Int} {f:FrM} (hf:Q f):FrAll Q { S with P:=S.P.put n f } :=
 ⟨fun m g hg=>by
  have hg':(updKV n f S.P.held).lookup m = some g:=hg
  rw [updKV_lookup] at hg'
  split at hg'
  ·cases hg';exact hf
  ·exact h.all m g hg'⟩
theorem FrAll.us (h:FrAll Q S) {n:Int} {f:FrM} (hf:∀ u,Q { f with used:=u }):FrAll Q { S with P:=S.P.use n f } :=
 ⟨fun m g hg=>by
  have hg':(updKV n { f with used:=S.P.clock + 1 } S.P.held).lookup m = some g:=hg
  rw [updKV_lookup] at hg'
  split at hg'
  ·cases hg';exact hf _
  ·exact h.all m g hg'⟩
theorem FrAll.del (h:FrAll Q S) (n:Int):FrAll Q { S with P:=S.P.del n } :=
 ⟨fun m g hg=>by
  have hg':(delKV n S.P.held).lookup m = some g:=hg
  rw [delKV_lookup] at hg'
  split at hg'
  ·cases hg'
  ·exact h.all m g hg'⟩
theorem FrAll.write (k:FrK Q) (h:FrAll Q S) {n:Int} {f:FrM} (hf:Q f):FrAll Q (S.write n f).2:=by
 unfold Sto.write
 split
 ·exact h
 dsimp only
 split
 ·exact (h.lg _ _).seen _
 split
 ·exact (h.lg _ _).seen _
 ·exact (h.fr (n:=n) (f:={ f with dirty:=false,since:=0 }) (k.clean _ hf)).lg _ _
theorem FrAll.leave (k:FrK Q) (h:FrAll Q S) {n:Int} {f:FrM} (hf:Q f):FrAll Q (S.leave n f).2:=by
 unfold Sto.leave
 split
 ·exact h.write k hf
 ·exact (h.write k hf).del n
theorem FrAll.load (k:FrK Q) (h:FrAll Q S) (n:Int):FrAll Q (S.load n).2:=by
 unfold Sto.load
 split
 ·exact FrAll.ends S
 dsimp only
 split
 ·exact h
 ·exact h.us (f:=⟨_,0,false,0,0⟩) fun u=>k.new _ u
theorem FrAll.get (k:FrK Q) (h:FrAll Q S) (nd:(S.P.held.map (·.1)).Nodup) (n:Int):FrAll Q (S.get n).2:=by
 unfold Sto.get
 split
 ·exact h
 cases hl:S.P.held.lookup n with
 | some f=>exact h.us fun u=>k.used _ u (h.all n f hl)
 | none =>
  dsimp only
  split
  ·cases ho:oldest S.P.held with
   | none=>exact h
   | some o =>
    dsimp only
    have hp:=h.all o.1 o.2 (lookup_of_mem o.1 o.2 _ nd (oldest_mem ho))
    split
    ·exact h.leave k hp
    ·exact (h.leave k hp).load k n
  ·exact h.load k n
theorem FrAll.sput (h:FrAll Q S) {x:PgM} (kx:∀ f u,Q f → Q { f with pg:=x,dirty:=true,since:=if f.dirty then f.since else x.lsn,used:=u }):FrAll Q (S.put x).2:=by
 unfold Sto.put
 split
 ·exact h
 split
 ·exact h
 cases hl:S.P.held.lookup x.num with
 | none=>exact h
 | some f =>
  dsimp only
  split
  ·exact h
  ·exact h.us (f:={ f with pg:=x,dirty:=true,since:=_ }) fun u=>kx f u (h.all _ f hl)
end
theorem oldG_none:∀ {l:List (Int × FrM)} {o:Option (Int × FrM)},oldG l o = none → o = none ∧ ∀ p ∈ l,p.2.pins ≠ 0
 | [],o,h=>⟨h,fun p hp=>by cases hp⟩
 | q :: l,o,h=>by
  unfold oldG at h
  obtain ⟨h1,h2⟩:=oldG_none h
  by_cases c:q.2.pins = 0
  ·rw [if_pos c] at h1
   split at h1
   ·cases h1
   ·split at h1
    ·cases h1
    ·cases h1
  ·rw [if_neg c] at h1
   refine ⟨h1,fun p hp=>?_⟩
   rcases List.mem_cons.1 hp with rfl|hp
   ·exact c
   ·exact h2 p hp
theorem Keeps.get_in {S:Sto} {last:Int → PgM} (K:Keeps S last) {n:Int} (hn:0 ≤ n ∧ n < S.P.pages) (hp:∀ p ∈ S.P.held,p.2.pins = 0) (hf:1 ≤ S.P.frames):(S.get n).1 = 0:=by
 unfold Sto.get
 rw [K.place hn,if_neg (fun k=>k rfl)]
 cases h:S.P.held.lookup n with
 | some f=>rfl
 | none =>
  dsimp only
  by_cases c:(S.P.held.length:Int) ≥ S.P.frames
  ·rw [if_pos c]
   cases ho:oldest S.P.held with
   | none =>
    have h1:=(oldG_none ho).2
    cases hh:S.P.held with
    | nil=>rw [hh] at c;simp at c;omega
    | cons p l=>exact absurd (hp p (by rw [hh];exact List.mem_cons_self)) (h1 p (by rw [hh];exact List.mem_cons_self))
   | some o =>
    dsimp only
    have hm:=lookup_of_mem o.1 o.2 _ K.nd (oldest_mem ho)
    obtain ⟨h1,K',h2,h3,h4⟩:=K.leave hm
    rw [if_neg (fun k=>k h1)]
    have hpg:(S.leave o.1 o.2).2.P.pages = S.P.pages:=by rw [h2];rfl
    have hno:(S.leave o.1 o.2).2.P.held.lookup n = none:=by
     rw [h2]
     show (delKV o.1 S.P.held).lookup n = none
     rw [delKV_lookup]
     split
     ·rfl
     ·exact h
    exact (K'.load (by rw [hpg];exact hn) hno).1
  ·rw [if_neg c]
   exact (K.load hn h).1
def DirtQ (n:Nat) (f:FrM):Prop:=f.dirty = true → 1 ≤ f.since ∧ f.since ≤ n
theorem dirtK (n:Nat):FrK (DirtQ n):=⟨fun f u h=>h,fun f h k=>(by cases k),fun p u k=>(by cases k)⟩
structure TkI (S:Sto) (L:List LiveV) (next:Int) (k:Nat) (c:Int) (last:Int → PgM):Prop where
 keeps:Keeps S last
 bd:Bd 6 0 c S
 fr:S.P.frames = 4
 cnt:S.L.count = 60
 n:S.L.recs.length ≤ k
 dirt:FrAll (DirtQ S.L.recs.length) S
 live:LvOk L next S.L.recs.length
 nx:next ≤ 1048576 + k
theorem TkI.up {S:Sto} {L:List LiveV} {next c d:Int} {k m:Nat} {last:Int → PgM} (h:TkI S L next k c last) (hm:k ≤ m) (hc:c ≤ d):TkI S L next m d last :=
 ⟨h.keeps,h.bd.up (Int.le_refl _) hc,h.fr,h.cnt,by have:=h.n;omega,h.dirt,h.live,by have:=h.nx;omega⟩
theorem TkI.zero {next:Int} (h:1 ≤ next ∧ next ≤ 1048576):TkI (sto0 6 60 4) [] next 0 0 last0 :=
 ⟨keeps0 (by unfold MayP;decide),⟨rfl,⟨Int.le_refl _,Int.le_refl _⟩,fun n f hf=>by cases hf⟩,rfl,rfl,Nat.le_refl _,⟨fun n f hf=>by cases hf⟩,.nil h.1,by omega⟩
theorem get_frames {S:Sto} {last:Int → PgM} (K:Keeps S last) {n:Int} (hn:0 ≤ n ∧ n < S.P.pages):(S.get n).2.P.frames = S.P.frames:=by
 unfold Sto.get
 rw [K.place hn,if_neg (fun k=>k rfl)]
 cases h:S.P.held.lookup n with
 | some f=>rfl
 | none =>
  dsimp only
  by_cases c:(S.P.held.length:Int) ≥ S.P.frames
  ·rw [if_pos c]
   cases ho:oldest S.P.held with
   | none=>rfl
   | some o =>
    dsimp only
    have hm:=lookup_of_mem o.1 o.2 _ K.nd (oldest_mem ho)
    obtain ⟨h1,K',h2,h3,h4⟩:=K.leave hm
    rw [if_neg (fun k=>k h1)]
    have hpg:(S.leave o.1 o.2).2.P.pages = S.P.pages:=by rw [h2];rfl
    have hno:(S.leave o.1 o.2).2.P.held.lookup n = none:=by
     rw [h2]
     show (delKV o.1 S.P.held).lookup n = none
     rw [delKV_lookup]
     split
     ·rfl
     ·exact h
    rw [K'.load_eq (by rw [hpg];exact hn) hno]
    show (S.leave o.1 o.2).2.P.frames = _
    rw [h2];rfl
  ·rw [if_neg c,K.load_eq hn h]
   rfl
section
variable {S:Sto} {L:List LiveV} {next c:Int} {k:Nat} {last:Int → PgM}
theorem TkI.beg (h:TkI S L next k c last) (hk:k < 60) {t:Int} (ht:1 ≤ t ∧ t ≤ 1000000) {L':List LiveV} {next':Int} (hl:LvOk L' next' (S.L.recs.length + 1)) (hx:next' ≤ next + 1):(S.beg t).1 = 0 ∧ TkI (S.beg t).2 L' next' (k + 1) c last ∧ (S.beg t).2.P = S.P ∧ (S.beg t).2.L.recs.length = S.L.recs.length + 1:=by
 have hn:=h.n
 have hc:=h.cnt
 have hxx:=h.nx
 unfold Sto.beg
 rw [if_neg (by omega)]
 dsimp only
 have h4:(S.app ⟨begN S.L.recs.length t,[],[]⟩ (encR (begN S.L.recs.length t) [] [])).L.recs.length = S.L.recs.length + 1:=by
  show (S.L.recs ++ [_]).length = _
  rw [List.length_append,List.length_singleton]
 refine ⟨rfl,⟨h.keeps.app (by omega) (begN_enc _ ht),⟨h.bd.pages,h.bd.clock,h.bd.pins⟩,h.fr,hc,by omega,⟨fun n f hf hd=>?_⟩,by rw [h4];exact hl,by omega⟩,rfl,h4⟩
 have:=h.dirt.all n f hf hd
 rw [h4];omega
theorem TkI.get (h:TkI S L next k c last) {n:Int} (hn:0 ≤ n ∧ n < 6):(S.get n).1 = 0 ∧ TkI (S.get n).2 L next k (c + 1) last ∧ (S.get n).2.L.recs = S.L.recs ∧ ∃ f,(S.get n).2.P.held.lookup n = some f:=by
 have hp:S.P.pages = 6:=h.bd.pages
 have hn':0 ≤ n ∧ n < S.P.pages:=by rw [hp];exact hn
 have h0:=h.keeps.get_in hn' (fun p hp=>by
  have:=h.bd.pins p.1 p.2 (lookup_of_mem _ _ _ h.keeps.nd hp)
  omega) (by rw [h.fr];decide)
 obtain ⟨k1,k2,k3,k4,k5⟩:=h.keeps.get hn'
 refine ⟨h0,⟨k2,h.bd.get (by decide) h.keeps.nd n,by rw [get_frames h.keeps hn'];exact h.fr,by rw [k4];exact h.cnt,by rw [k3];exact h.n,by rw [k3];exact h.dirt.get (dirtK _) h.keeps.nd n,by rw [k3];exact h.live,h.nx⟩,k3,?_⟩
 rcases k1 with k1|k1
 ·omega
 ·exact k1.2
def pgT (k:Int) (n:Int):PgM:=⟨k,n,[],[⟨1,n⟩]⟩
theorem pgT_ok {k n:Int} (hk:0 ≤ k ∧ k < 6) (hn:1 ≤ n ∧ n ≤ 1000000):(pgT k n).fault = 0 ∧ (pgT k n).In:=by
 refine ⟨?_,by unfold In64 pgT;dsimp only;omega,by unfold In64 pgT;dsimp only;omega,fun c hc=>(by cases hc),fun c hc=>?_⟩
 ·unfold PgM.fault pgT
  dsimp only
  rw [if_neg (by omega),if_neg (by simp),if_neg (by simp),if_neg (by simp;omega)]
  exact cont_zero (fun c hc=>by cases hc) (fun g hg=>by cases List.mem_singleton.1 hg;rfl)
 ·cases List.mem_singleton.1 hc
  unfold GrpIn In64
  dsimp only
  omega
theorem put_frames (S:Sto) (x:PgM):(S.put x).2.P.frames = S.P.frames:=by
 unfold Sto.put
 split
 ·rfl
 split
 ·rfl
 cases S.P.held.lookup x.num with
 | none=>rfl
 | some f =>
  dsimp only
  split
  ·rfl
  ·rfl
theorem TkI.put (h:TkI S L next k c last) (hk:k ≤ 1000) {n:Int} (hn:0 ≤ n ∧ n < 6) {f:FrM} (hf:S.P.held.lookup n = some f) (h1:1 ≤ S.L.recs.length) (hlt:(last n).lsn < S.L.recs.length):(S.put (pgT n S.L.recs.length)).1 = 0 ∧ ∃ last',TkI (S.put (pgT n S.L.recs.length)).2 L next k (c + 1) last':=by
 have hp:S.P.pages = 6:=h.bd.pages
 have hkn:=h.n
 obtain ⟨p1,p2⟩:=pgT_ok (k:=n) (n:=S.L.recs.length) hn (by omega)
 have hu:=h.keeps.puts (x:=pgT n S.L.recs.length) (f:=f) (by rw [hp];exact hn) hf p1 p2 hlt
 rw [if_neg (by show ¬ ((S.L.recs.length:Nat):Int) > S.L.recs.length;omega)] at hu
 obtain ⟨u1,u2,u3,u4⟩:=hu
 have hq:∀ (g:FrM) (u:Int),DirtQ S.L.recs.length g → DirtQ S.L.recs.length { g with pg:=pgT n S.L.recs.length,dirty:=true,since:=if g.dirty then g.since else (pgT n S.L.recs.length).lsn,used:=u }:=fun g u hg _=>by
  show 1 ≤ (if g.dirty = true then g.since else ((S.L.recs.length:Nat):Int)) ∧ (if g.dirty = true then g.since else ((S.L.recs.length:Nat):Int)) ≤ _
  split
  ·rename_i hd;exact hg hd
  ·omega
 exact ⟨u1,_,⟨u2,h.bd.sput _,by rw [put_frames];exact h.fr,by rw [u3];exact h.cnt,by rw [u3];exact hkn,by rw [u3];exact h.dirt.sput hq,by rw [u3];exact h.live,h.nx⟩⟩
theorem TkI.step (h:TkI S L next k c last) (hk:k < 60) {t:Int} (ht:1 ≤ t ∧ t ≤ 1000000) {n:Int} (hn:0 ≤ n ∧ n < 6) :
  (S.beg t).1 = 0 ∧ ((S.beg t).2.get n).1 = 0 ∧ (0 ≤ (S.beg t).2.P.clock ∧ (S.beg t).2.P.clock ≤ c) ∧ (0 ≤ ((S.beg t).2.get n).2.P.clock ∧ ((S.beg t).2.get n).2.P.clock ≤ c + 1) ∧ (∀ f,((S.beg t).2.get n).2.P.held.lookup n = some f → f.pg.lsn < (S.L.recs.length:Int) + 1) ∧
  (((S.beg t).2.get n).2.put (pgT n ((S.L.recs.length:Int) + 1))).1 = 0 ∧ ∃ last',TkI (((S.beg t).2.get n).2.put (pgT n ((S.L.recs.length:Int) + 1))).2 L next (k + 1) (c + 2) last':=by
 obtain ⟨b1,b2,b3,b4⟩:=h.beg hk ht (h.live.up (Nat.le_succ _)) (by omega)
 obtain ⟨g1,g2,g3,f,hf⟩:=b2.get hn
 have hg:=(h.keeps.good n (by rw [h.bd.pages];exact hn)).2.2.2
 have e:(((S.beg t).2.get n).2.L.recs.length:Int) = (S.L.recs.length:Int) + 1:=by rw [g3,b4];rfl
 obtain ⟨p1,p2⟩:=g2.put (by omega) hn hf (by omega) (by omega)
 rw [e] at p1 p2
 refine ⟨b1,g1,b2.bd.clock,g2.bd.clock,fun f' hf'=>?_,p1,?_⟩
 ·obtain ⟨_,hk2,_⟩:=g2.keeps.key n f' hf'
  rw [hk2];omega
 ·obtain ⟨l',hl'⟩:=p2
  exact ⟨l',hl'.up (Nat.le_refl _) (by omega)⟩
theorem TkI.keys (h:TkI S L next k c last):(S.P.held.map (·.1)).length ≤ 6 ∧ ∀ x ∈ S.P.held.map (·.1),0 ≤ x ∧ x < 6:=by
 have hk:∀ x ∈ S.P.held.map (·.1),0 ≤ x ∧ x < 6:=fun x hx=>by
  obtain ⟨p,hp,rfl⟩:=List.mem_map.1 hx
  have:=(h.keeps.key p.1 p.2 (lookup_of_mem _ _ _ h.keeps.nd hp)).1
  rw [h.bd.pages] at this
  exact this
 exact ⟨Go.Proofs.YtbcedpankkdfoaaGreatDoor.nodup_bd 6 _ h.keeps.nd fun x hx=>hk x hx,hk⟩
theorem TkI.dirty (h:TkI S L next k c last):(S.P.dirtyL (sortI (S.P.held.map (·.1)))).Pairwise (fun a b=>a.1 < b.1) ∧ (∀ x ∈ S.P.dirtyL (sortI (S.P.held.map (·.1))),(0 ≤ x.1 ∧ x.1 < 6) ∧ 1 ≤ x.2 ∧ x.2 ≤ S.L.recs.length) ∧ (S.P.dirtyL (sortI (S.P.held.map (·.1)))).length ≤ 6:=by
 obtain ⟨k1,k2⟩:=h.keys
 have hs:(sortI (S.P.held.map (·.1))).Pairwise fun a b=>a < b:=by
  have h1:(sortI (S.P.held.map (·.1))).Pairwise fun a b=>a ≤ b:=by
   have:=sortI_pairwise (S.P.held.map (·.1))
   exact this
  have h2:(sortI (S.P.held.map (·.1))).Nodup:=sortI_nodup h.keeps.nd
  exact (h1.and h2).imp fun ⟨a1,a2⟩=>by omega
 unfold PoolM.dirtyL
 refine ⟨?_,fun x hx=>?_,?_⟩
 ·refine List.Pairwise.filterMap _ (fun a a' haa b hb b' hb'=>?_) hs
  split at hb
  ·split at hb
   ·cases hb
    split at hb'
    ·split at hb'
     ·cases hb';exact haa
     ·cases hb'
    ·cases hb'
   ·cases hb
  ·cases hb
 ·obtain ⟨m,hm,hx⟩:=List.mem_filterMap.1 hx
  have hm':=k2 m (sortI_mem.1 hm)
  split at hx
  ·rename_i f hf
   split at hx
   ·rename_i hd
    cases hx
    exact ⟨hm',h.dirt.all m f hf hd⟩
   ·cases hx
  ·cases hx
 ·refine Nat.le_trans (List.length_filterMap_le _ _) ?_
  rw [sortI_length];exact k1
theorem TkI.cp (h:TkI S L next k c last) (hk:k ≤ 1000):cpF next 0 L (S.P.dirtyL (sortI (S.P.held.map (·.1)))) = true:=by
 obtain ⟨d1,d2,d3⟩:=h.dirty
 have hl:=h.live
 have hn:=h.n
 have hx:=h.nx
 unfold cpF
 have hl1:=hl.len
 have hl2:=hl.nx
 rw [if_neg (by omega),Bool.and_eq_true]
 exact ⟨LvOk.live hl.sort hl.one (fun x hx=>(hl.one x hx).1.1) (by omega) rfl,cpDirty_ok (n:=S.L.recs.length) d1 (fun x hx=>by have:=d2 x hx;omega) (fun x hx=>by have:=d2 x hx;omega) (by omega) rfl⟩
end
end Go.SL.Pool
