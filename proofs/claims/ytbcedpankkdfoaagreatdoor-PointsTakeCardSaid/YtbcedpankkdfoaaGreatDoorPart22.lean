/- What every call of a pool leaves right: plain words. Conditions: in each statement. -/
import Derived.Test.YtbcedpankkdfoaaGreatDoorPart21
import Derived.Test.YtbcedpankkdfoaaGreatDoorPart9
import Derived.Test.YtbcedpankkdfoaaGreatDoorPart18
import Derived.LaidEql
import Derived.Stop.Asserts
import Derived.RowKitTokens
set_option linter.unusedVariables false
set_option linter.unusedSimpArgs false
namespace Go.SL.Pool
open Go Go.SL Go.SL.Sec Go.SL.Fld Go.SL.Rec Go.SL.Twn Go.SL.Pg Go.SL.Mst
theorem wls_down:∀ (l:List (Int × List Int)) {D:Dev},D.down = true → wls l D = (40,D)
 | [],D,h=>by unfold wls Dev.sync;rw [if_pos h]
 | p :: l,D,h=>by
  have:D.write p.1 p.2 = (40,D):=by unfold Dev.write;rw [if_pos h]
  unfold wls
  rw [this,if_neg (show ¬ (40:Int) = 0 by decide)]
theorem wls_any2 {l:List (Int × List Int)} {D:Dev} (ho:D.Ok) (hq:D.q = []) (hl:WrOk D.img.length l):(wls l D).2.q = [] ∧ (wls l D).2.Ok ∧ (wls l D).2.img.length = D.img.length ∧ ((wls l D).1 = 0 ∨ (wls l D).1 = 40):=by
 cases hd:D.down with
 | true=>rw [wls_down l hd];exact ⟨hq,ho,rfl,.inr rfl⟩
 | false=>exact wls_q ho hq hl hd
theorem recS_ok {D:Dev} (ho:D.Ok) (first:Int):∀ (l:List (List Int)) (n:Nat),0 ≤ first + n - 1 → first + n - 1 + l.length ≤ D.secs → (∀ b ∈ l,Byt b ∧ b.length ≤ 505) → WrOk D.img.length (recS first n l)
 | [],_,_,_,_=>fun p hp=>(by cases hp)
 | b :: l,n,h0,hs,hb=>by
  rw [List.length_cons] at hs
  obtain ⟨hby,hbl⟩:=hb b List.mem_cons_self
  have hlen:=ho.len
  intro p hp
  rcases List.mem_cons.1 hp with rfl|hp
  ·unfold Dev.secs at hs
   exact ⟨h0,by dsimp only;omega,laidB_len hbl,laidB_byt hby⟩
  ·exact recS_ok ho first l (n + 1) (by omega) (by omega) (fun x hx=>hb x (List.mem_cons_of_mem _ hx)) p hp
structure LogOk (L:LogM):Prop where
 forced:L.forced + L.bys.length = L.recs.length
 recs:(L.recs.length:Int) ≤ L.count
 bys:∀ b ∈ L.bys,Byt b ∧ b.length ≤ 505
structure ForceOk (L:LogM) (D:Dev) (r:Int × LogM × Dev):Prop where
 first:r.2.1.first = L.first
 count:r.2.1.count = L.count
 recs:r.2.1.recs = L.recs
 log:LogOk r.2.1
 dok:r.2.2.Ok
 q:r.2.2.q = []
 len:r.2.2.img.length = D.img.length
theorem force_ok {L:LogM} {D:Dev} (lsn:Int) (ho:D.Ok) (hq:D.q = []) (h0:0 ≤ L.first) (hs:L.first + L.count ≤ D.secs) (hl:LogOk L):ForceOk L D (L.force D lsn):=by
 have hf:=hl.forced
 have hr:=hl.recs
 unfold LogM.force
 by_cases c1:L.err.isSome = true
 ·rw [if_pos c1];exact ⟨rfl,rfl,rfl,hl,ho,hq,rfl⟩
 rw [if_neg c1]
 by_cases c2:lsn < 0 ∨ lsn > L.recs.length
 ·rw [if_pos c2];exact ⟨rfl,rfl,rfl,hl,ho,hq,rfl⟩
 rw [if_neg c2]
 by_cases c3:lsn ≤ L.forced
 ·rw [if_pos c3];exact ⟨rfl,rfl,rfl,hl,ho,hq,rfl⟩
 rw [if_neg c3]
 dsimp only
 rw [wrs_wls]
 obtain ⟨k1,k2,k3,k4⟩:=wls_any2 (l:=recS L.first (L.forced + 1) (L.bys.take (lsn.toNat - L.forced))) ho hq (recS_ok ho L.first _ _ (by omega) (by rw [List.length_take];omega) fun b hb=>hl.bys b (List.mem_of_mem_take hb))
 split
 ·exact ⟨rfl,rfl,rfl,⟨by dsimp only;rw [List.length_drop];omega,hr,fun b hb=>hl.bys b (List.mem_of_mem_drop hb)⟩,k2,k1,k3⟩
 ·exact ⟨rfl,rfl,rfl,⟨hf,hr,hl.bys⟩,k2,k1,k3⟩
theorem twW_ok {D:Dev} {h:Int} {b:List Int} (ho:D.Ok) (hq:D.q = []) (hh:5 ≤ h ∧ h + 2 ≤ D.secs) (hb:b.length = 1024) (hy:Byt b):(twW D 2 h b).2.Ok ∧ (twW D 2 h b).2.q = [] ∧ (twW D 2 h b).2.img.length = D.img.length ∧ ((twW D 2 h b).1 = 0 ∨ (twW D 2 h b).1 = 40):=by
 have sec:∀ {A B:Dev},A.img.length = B.img.length → A.secs = B.secs:=fun e=>by unfold Dev.secs;rw [e]
 unfold twW
 by_cases hd:D.down = true
 ·rw [if_pos hd];exact ⟨ho,hq,rfl,.inr rfl⟩
 rw [if_neg hd,if_neg (fun q=>q ⟨⟨by omega,by omega,by omega⟩,⟨by omega,by omega,by omega⟩,by omega⟩),if_neg (fun q=>q hb)]
 dsimp only
 have w1:=wls_any2 ho hq (two_ok ho (z:=2 + 1) (b:=b) (by omega) hb hy)
 rw [← pws_wls] at w1
 obtain ⟨R1,hR1⟩:∃ R,R = pws (2 + 1) b 2 0 D:=⟨_,rfl⟩
 rw [← hR1] at w1 ⊢
 obtain ⟨q1,o1,n1,e1⟩:=w1
 split
 ·rename_i k;exact ⟨o1,q1,n1,.inr (e1.resolve_left k)⟩
 have w2:=wls_any2 o1 q1 (one_ok o1 (z:=2) (b:=Twn.mark h 165) (by rw [sec n1];omega) (mark_len _ _) (mark_byt (by omega)))
 rw [← pws_wls] at w2
 obtain ⟨R2,hR2⟩:∃ R,R = pws 2 (Twn.mark h 165) 1 0 R1.2:=⟨_,rfl⟩
 rw [← hR2] at w2 ⊢
 obtain ⟨q2,o2,n2,e2⟩:=w2
 split
 ·rename_i k;exact ⟨o2,q2,n2.trans n1,.inr (e2.resolve_left k)⟩
 have w3:=wls_any2 o2 q2 (two_ok o2 (z:=h) (b:=b) (by rw [sec (n2.trans n1)];omega) hb hy)
 rw [← pws_wls] at w3
 obtain ⟨R3,hR3⟩:∃ R,R = pws h b 2 0 R2.2:=⟨_,rfl⟩
 rw [← hR3] at w3 ⊢
 obtain ⟨q3,o3,n3,e3⟩:=w3
 split
 ·rename_i k;exact ⟨o3,q3,n3.trans (n2.trans n1),.inr (e3.resolve_left k)⟩
 have w4:=wls_any2 o3 q3 (one_ok o3 (z:=2) (b:=Twn.mark h 0) (by rw [sec (n3.trans (n2.trans n1))];omega) (mark_len _ _) (mark_byt (by omega)))
 rw [← pws_wls] at w4
 exact ⟨w4.2.1,w4.1,w4.2.2.1.trans (n3.trans (n2.trans n1)),w4.2.2.2⟩
theorem Sto.Ok.log {S:Sto} (h:S.Ok):LogOk S.L:=⟨h.forced,h.recs,h.bys⟩
theorem Sto.Ok.page {S:Sto} (h:S.Ok) {n:Int} (hn:0 ≤ n ∧ n < S.P.pages):5 ≤ 5 + 2 * n ∧ 5 + 2 * n + 2 ≤ S.D.secs:=by
 have h1:=h.secs
 have h2:=h.may
 unfold MayP at h2
 omega
theorem Sto.Ok.ends {S:Sto} (h:S.Ok):S.ends.Ok :=
 ⟨h.may,h.dok,h.q,h.secs,h.first,h.cnt,h.forced,h.recs,h.bys,List.nodup_nil,fun n f hf=>(by cases hf),fun n m f g hf=>(by cases hf)⟩
theorem Sto.Ok.seen {S:Sto} (h:S.Ok) (e:Int):(S.seen e).Ok:=by unfold Sto.seen;split;exact h.ends;exact h
theorem Sto.Ok.over {S:Sto} (h:S.Ok) {L:LogM} {D:Dev} (l1:L.first = S.L.first) (l2:L.count = S.L.count) (l3:L.recs = S.L.recs) (l4:LogOk L) (d1:D.Ok) (d2:D.q = []) (d3:D.img.length = S.D.img.length):(⟨S.P,L,D⟩:Sto).Ok :=
 ⟨h.may,d1,d2,by have:=h.secs;unfold Dev.secs at *;dsimp only;rw [d3];exact this,by dsimp only;rw [l1];exact h.first,by dsimp only;rw [l2];exact h.cnt,l4.forced,l4.recs,l4.bys,h.nd,by dsimp only;rw [l3];exact h.fr,h.us⟩
theorem Sto.Ok.put {S:Sto} (h:S.Ok) {n:Int} {g:FrM} (hg:FrOk S.P.pages S.L.recs.length S.P.clock n g) (hu:∀ m f,S.P.held.lookup m = some f → f.used = g.used → m = n):({ S with P:=S.P.put n g }:Sto).Ok:=by
 have hlk:∀ m,(S.P.put n g).held.lookup m = if m = n then some g else S.P.held.lookup m:=fun m=>updKV_lookup n _ m S.P.held
 refine ⟨h.may,h.dok,h.q,h.secs,h.first,h.cnt,h.forced,h.recs,h.bys,upd_nodup n _ _ h.nd,fun m f hf=>?_,fun m k f e hf he hu'=>?_⟩
 ·dsimp only at hf ⊢
  rw [hlk] at hf
  by_cases c:m = n
  ·rw [if_pos c] at hf;cases hf;subst c;exact hg
  ·rw [if_neg c] at hf;exact h.fr m f hf
 ·dsimp only at hf he
  rw [hlk] at hf he
  by_cases c:m = n
  ·rw [if_pos c] at hf
   cases hf
   by_cases c2:k = n
   ·rw [c,c2]
   ·rw [if_neg c2] at he;rw [c];exact (hu k e he hu'.symm).symm
  ·rw [if_neg c] at hf
   by_cases c2:k = n
   ·rw [if_pos c2] at he;cases he;rw [c2];exact hu m f hf hu'
   ·rw [if_neg c2] at he;exact h.us m k f e hf he hu'
theorem Sto.Ok.use {S:Sto} (h:S.Ok) {n:Int} {g:FrM} (hg:FrOk S.P.pages S.L.recs.length (S.P.clock + 1) n { g with used:=S.P.clock + 1 }):({ S with P:=S.P.use n g }:Sto).Ok:=by
 have h':({ S with P:={ S.P with clock:=S.P.clock + 1 } }:Sto).Ok :=
  ⟨h.may,h.dok,h.q,h.secs,h.first,h.cnt,h.forced,h.recs,h.bys,h.nd,fun m f hf=>by
   have k:=h.fr m f hf
   exact ⟨k.num,k.pin,k.C,k.G,k.lsn,k.key,k.dirty,by have:=k.used;dsimp only;omega⟩,h.us⟩
 exact h'.put (g:={ g with used:=S.P.clock + 1 }) hg fun m f hf hu=>by
  have:=(h.fr m f hf).used
  dsimp only at hu
  omega
theorem Sto.Ok.del {S:Sto} (h:S.Ok) (n:Int):({ S with P:=S.P.del n }:Sto).Ok:=by
 have hlk:∀ m,(S.P.del n).held.lookup m = if m = n then none else S.P.held.lookup m:=fun m=>delKV_lookup n m _
 have hold:∀ m f,(S.P.del n).held.lookup m = some f → S.P.held.lookup m = some f:=fun m f hf=>by
  rw [hlk] at hf
  split at hf
  ·cases hf
  ·exact hf
 exact ⟨h.may,h.dok,h.q,h.secs,h.first,h.cnt,h.forced,h.recs,h.bys,del_nodup n _ h.nd,fun m f hf=>h.fr m f (hold m f hf),fun m k f e hf he hu=>h.us m k f e (hold m f hf) (hold k e he) hu⟩
theorem Sto.Ok.write {S:Sto} (h:S.Ok) {n:Int} {f:FrM} (hf:S.P.held.lookup n = some f):(S.write n f).2.Ok ∧ (S.write n f).2.L.recs = S.L.recs ∧ (S.write n f).2.P.clock = S.P.clock:=by
 have k:=h.fr n f hf
 unfold Sto.write
 by_cases c:f.dirty = false
 ·rw [if_pos c];exact ⟨h,rfl,rfl⟩
 rw [if_neg c]
 dsimp only
 have hk:=k.dirty (by simpa using c)
 have hpg:=h.page k.key
 have hm:=h.may
 unfold MayP at hm
 have r:=force_ok (L:=S.L) (D:=S.D) f.pg.lsn h.dok h.q (by rw [h.first];omega) (by rw [h.first,h.cnt,h.secs];omega) h.log
 obtain ⟨T,hT⟩:∃ T,T = S.L.force S.D f.pg.lsn:=⟨_,rfl⟩
 rw [← hT] at r ⊢
 have hov:=h.over r.first r.count r.recs r.log r.dok r.q r.len
 split
 ·refine ⟨hov.seen _,?_,?_⟩
  ·dsimp only;unfold Sto.seen;split <;> exact r.recs
  ·dsimp only;unfold Sto.seen;split <;> rfl
 obtain ⟨t1,t2,t3,t4⟩:=twW_ok (h:=5 + 2 * n) (b:=encP f.pg) r.dok r.q (by rw [show T.2.2.secs = S.D.secs from by unfold Dev.secs;rw [r.len]];exact hpg) (encP_len hk.1) (encP_byt hk.1)
 have hov2:=h.over r.first r.count r.recs r.log t1 t2 (t3.trans r.len)
 split
 ·refine ⟨hov2.seen _,?_,?_⟩
  ·dsimp only;unfold Sto.seen;split <;> exact r.recs
  ·dsimp only;unfold Sto.seen;split <;> rfl
 ·refine ⟨hov2.put (n:=n) (g:={ f with dirty:=false,since:=0 }) ?_ fun m g hg hu=>?_,r.recs,rfl⟩
  ·dsimp only
   rw [r.recs]
   exact ⟨k.num,k.pin,k.C,k.G,k.lsn,k.key,fun e=>(by cases e),k.used⟩
  ·exact h.us m n g f hg hf hu
theorem Sto.Ok.leave {S:Sto} (h:S.Ok) {n:Int} {f:FrM} (hf:S.P.held.lookup n = some f):(S.leave n f).2.Ok ∧ (S.leave n f).2.L.recs = S.L.recs ∧ (S.leave n f).2.P.clock = S.P.clock:=by
 obtain ⟨h1,h2,h3⟩:=h.write hf
 unfold Sto.leave
 split
 ·exact ⟨h1,h2,h3⟩
 ·exact ⟨h1.del n,h2,h3⟩
theorem Sto.Ok.load {S:Sto} (h:S.Ok) {n:Int} (hn:0 ≤ n ∧ n < S.P.pages):(S.load n).2.Ok ∧ (S.load n).2.L.recs = S.L.recs ∧ (S.load n).2.P.clock ≤ S.P.clock + 1:=by
 unfold Sto.load
 split
 ·exact ⟨h.ends,rfl,by dsimp only [Sto.ends,PoolM.gone];omega⟩
 dsimp only
 split
 ·exact ⟨h,rfl,by dsimp only;omega⟩
 ·rename_i hd
  have hb:Byt (S.D.at (5 + 2 * n) ++ S.D.at (5 + 2 * n + 1)):=by
   have:∀ i,Byt (S.D.at i):=fun i=>by
    unfold Dev.at
    rw [h.q]
    exact (h.dok.byt.drop _).take _
   exact (this _).append (this _)
  obtain ⟨p,hp⟩:∃ p,decP (S.D.at (5 + 2 * n) ++ S.D.at (5 + 2 * n + 1)) n = (0,p):=⟨_,Prod.ext (Decidable.not_not.1 hd) rfl⟩
  obtain ⟨k1,k2,k3,k4,k5,k6⟩:=decP_ok hb hp
  rw [hp]
  exact ⟨h.use ⟨k1,k2,k3,k4,k5,hn,fun e=>(by cases e),Int.le_refl _⟩,rfl,Int.le_refl _⟩
theorem Sto.Ok.get {S:Sto} (h:S.Ok) (n:Int):(S.get n).2.Ok ∧ (S.get n).2.L.recs = S.L.recs ∧ (S.get n).2.P.clock ≤ S.P.clock + 1:=by
 unfold Sto.get
 by_cases c:S.P.place n ≠ 0
 ·rw [if_pos c];exact ⟨h,rfl,by dsimp only;omega⟩
 rw [if_neg c]
 have hn:0 ≤ n ∧ n < S.P.pages:=by
  have c:=Decidable.not_not.1 c
  unfold PoolM.place at c
  split at c
  ·cases c
  ·split at c
   ·cases c
   ·omega
 cases hl:S.P.held.lookup n with
 | some f =>
  have k:=h.fr n f hl
  exact ⟨h.use ⟨k.num,k.pin,k.C,k.G,k.lsn,k.key,k.dirty,Int.le_refl _⟩,rfl,Int.le_refl _⟩
 | none =>
  dsimp only
  split
  ·cases ho:oldest S.P.held with
   | none=>exact ⟨h,rfl,by dsimp only;omega⟩
   | some o =>
    dsimp only
    obtain ⟨k1,k2,k3⟩:=h.leave (lookup_of_mem o.1 o.2 _ h.nd (oldest_mem ho))
    split
    ·exact ⟨k1,k2,by rw [k3];omega⟩
    ·rename_i he
     have hpg:(S.leave o.1 o.2).2.P.pages = S.P.pages:=by
      have e1:∀ f:FrM,(S.write o.1 f).2.P.pages = S.P.pages:=fun f=>by
       unfold Sto.write
       split
       ·rfl
       ·dsimp only
        split
        ·unfold Sto.seen;split <;> rfl
        ·split
         ·unfold Sto.seen;split <;> rfl
         ·rfl
      unfold Sto.leave
      split
      ·exact e1 _
      ·exact e1 _
     obtain ⟨j1,j2,j3⟩:=k1.load (n:=n) (by rw [hpg];exact hn)
     exact ⟨j1,j2.trans k2,by omega⟩
  ·exact h.load hn
end Go.SL.Pool
/- How many package-level variables there are: written by a program (tools/gen.py). No condition. -/
namespace Go.Proofs.YtbcedpankkdfoaaGreatDoor
abbrev g_count:Nat:=5
abbrev t_rtype:Nat:=385
abbrev x_internal_reflectlite_ValueOf:Nat:=198
theorem x_internal_reflectlite_ValueOf.fn:prog.funcs[x_internal_reflectlite_ValueOf]? = some Go.Proofs.Tryz.f198:=Go.Proofs.Tryz.func198
abbrev x_internal_reflectlite_Value_Type:Nat:=199
theorem x_internal_reflectlite_Value_Type.fn:prog.funcs[x_internal_reflectlite_Value_Type]? = some Go.Proofs.Tryz.f199:=Go.Proofs.Tryz.func199
abbrev x_internal_reflectlite_Value_IsNil:Nat:=200
theorem x_internal_reflectlite_Value_IsNil.fn:prog.funcs[x_internal_reflectlite_Value_IsNil]? = some Go.Proofs.Tryz.f200:=Go.Proofs.Tryz.func200
abbrev x_internal_reflectlite_TypeOf:Nat:=278
theorem x_internal_reflectlite_TypeOf.fn:prog.funcs[x_internal_reflectlite_TypeOf]? = some Go.Proofs.Tryz.f278:=Go.Proofs.Tryz.func278
abbrev x_internal_reflectlite_Value_Elem:Nat:=279
theorem x_internal_reflectlite_Value_Elem.fn:prog.funcs[x_internal_reflectlite_Value_Elem]? = some Go.Proofs.Tryz.f279:=Go.Proofs.Tryz.func279
abbrev x_internal_reflectlite_Value_Set:Nat:=280
theorem x_internal_reflectlite_Value_Set.fn:prog.funcs[x_internal_reflectlite_Value_Set]? = some Go.Proofs.Tryz.f280:=Go.Proofs.Tryz.func280
abbrev x_internal_reflectlite_flag_mustBeAssignable:Nat:=402
theorem x_internal_reflectlite_flag_mustBeAssignable.fn:prog.funcs[x_internal_reflectlite_flag_mustBeAssignable]? = some Go.Proofs.Tryz.f402:=Go.Proofs.Tryz.func402
abbrev x_internal_reflectlite_Value_Kind:Nat:=403
theorem x_internal_reflectlite_Value_Kind.fn:prog.funcs[x_internal_reflectlite_Value_Kind]? = some Go.Proofs.Tryz.f403:=Go.Proofs.Tryz.func403
abbrev x_internal_reflectlite_rtype_AssignableTo:Nat:=406
theorem x_internal_reflectlite_rtype_AssignableTo.fn:prog.funcs[x_internal_reflectlite_rtype_AssignableTo]? = some Go.Proofs.Tryz.f406:=Go.Proofs.Tryz.func406
abbrev x_internal_reflectlite_rtype_Comparable:Nat:=407
theorem x_internal_reflectlite_rtype_Comparable.fn:prog.funcs[x_internal_reflectlite_rtype_Comparable]? = some Go.Proofs.Tryz.f407:=Go.Proofs.Tryz.func407
abbrev x_internal_reflectlite_rtype_Elem:Nat:=408
theorem x_internal_reflectlite_rtype_Elem.fn:prog.funcs[x_internal_reflectlite_rtype_Elem]? = some Go.Proofs.Tryz.f408:=Go.Proofs.Tryz.func408
abbrev x_internal_reflectlite_rtype_Implements:Nat:=409
theorem x_internal_reflectlite_rtype_Implements.fn:prog.funcs[x_internal_reflectlite_rtype_Implements]? = some Go.Proofs.Tryz.f409:=Go.Proofs.Tryz.func409
abbrev x_internal_reflectlite_rtype_Name:Nat:=410
theorem x_internal_reflectlite_rtype_Name.fn:prog.funcs[x_internal_reflectlite_rtype_Name]? = some Go.Proofs.Tryz.f410:=Go.Proofs.Tryz.func410
abbrev x_internal_reflectlite_rtype_PkgPath:Nat:=411
theorem x_internal_reflectlite_rtype_PkgPath.fn:prog.funcs[x_internal_reflectlite_rtype_PkgPath]? = some Go.Proofs.Tryz.f411:=Go.Proofs.Tryz.func411
abbrev x_internal_reflectlite_rtype_String:Nat:=412
theorem x_internal_reflectlite_rtype_String.fn:prog.funcs[x_internal_reflectlite_rtype_String]? = some Go.Proofs.Tryz.f412:=Go.Proofs.Tryz.func412
abbrev x_internal_reflectlite_rtype_common:Nat:=413
theorem x_internal_reflectlite_rtype_common.fn:prog.funcs[x_internal_reflectlite_rtype_common]? = some Go.Proofs.Tryz.f413:=Go.Proofs.Tryz.func413
abbrev x_internal_reflectlite_rtype_uncommon:Nat:=414
theorem x_internal_reflectlite_rtype_uncommon.fn:prog.funcs[x_internal_reflectlite_rtype_uncommon]? = some Go.Proofs.Tryz.f414:=Go.Proofs.Tryz.func414
abbrev x_internal_reflectlite_ValueError_Error:Nat:=415
theorem x_internal_reflectlite_ValueError_Error.fn:prog.funcs[x_internal_reflectlite_ValueError_Error]? = some Go.Proofs.Tryz.f415:=Go.Proofs.Tryz.func415
end Go.Proofs.YtbcedpankkdfoaaGreatDoor
/- What the model carries out by itself in errors.As at *api.Errno. Conditions: in each statement. -/
namespace Go.SL
open Go
section
variable {P:Program} {W:World} {H:HProp} {ev:Operand → Option Value} {K:Value → HProp → Prop} {Kp:List PanicEntry → HProp → Prop}
theorem inv_run {x:Operand} {args:List Operand} {tys:Array TypeId} {name:String} {t:TypeId} {v:Value} {l:List Value} {ρ:Operand → Value} {o':Oper}
  (hx:ev x = some (.iface t v)) (ha:args.mapM ev = some l) (he:∀ x v,ev x = some v → ρ x = v) (ho:o'.op = .call ⟨.invoke x name,⟨args⟩,tys⟩) (w:World) :
  (execOp ρ o').run P w = (callMethod (.iface t v) name ⟨l⟩).run P w:=by
 have hm:args.map ρ = l:=by
  clear ho
  induction args generalizing l with
  | nil=>simp at ha;subst ha;rfl
  | cons y r ih =>
   simp only [List.mapM_cons] at ha
   cases hy:ev y with
   | none=>rw [hy] at ha;cases ha
   | some u =>
    rw [hy] at ha
    cases hr:r.mapM ev with
    | none=>rw [hr] at ha;cases ha
    | some l2 =>
     rw [hr] at ha
     cases ha
     rw [List.map_cons,ih hr,he _ _ hy]
 simp [execOp,ho,resolve,invoke,he _ _ hx,hm]
theorem OpX.inv {x:Operand} {args:List Operand} {tys:Array TypeId} {name:String} {ty:TypeId} {t:TypeId} {v u:Value} {l:List Value}
  (hx:ev x = some (.iface t v)) (ha:args.mapM ev = some l) (h:∀ w,(callMethod (.iface t v) name ⟨l⟩).run P w = .ok (.value u) w) (k:K u H):OpX P W (.call ⟨.invoke x name,⟨args⟩,tys⟩) ty ev H K Kp :=
 ⟨fun w _ hs he _ ho _=>⟨.value u,w,H,(inv_run hx ha he ho w).trans (h w),hs,k⟩⟩
theorem OpX.invD {x:Operand} {args:List Operand} {tys:Array TypeId} {name:String} {ty:TypeId} {t:TypeId} {v:Value} {l:List Value} {f:FuncId} {a:List Value} {post:Value → HProp → Prop}
  (hx:ev x = some (.iface t v)) (ha:args.mapM ev = some l) (h:∀ w,(callMethod (.iface t v) name ⟨l⟩).run P w = .ok (.enter f ⟨a⟩) w) (hd:Does P W f ⟨a⟩ H (Ret post)) (k:∀ v G,post v G → K v G):OpX P W (.call ⟨.invoke x name,⟨args⟩,tys⟩) ty ev H K Kp :=
 ⟨fun w _ hs he _ ho _=>⟨.enter f ⟨a⟩,w,H,(inv_run hx ha he ho w).trans (h w),hs,⟨fun w hs=>(hd.run w hs).mono fun e w' ⟨H',hs',v,G,he,hent,hp⟩=>⟨G,hs'.imp hent,by subst he;exact k v G hp⟩⟩⟩⟩
theorem CallK.extA {f:FuncId} {args:List Value} {o:Obj} {u:Nat → Value} (h:∀ w,(callFunc f ⟨args⟩).run P w = .ok (.value (u w.heap.size)) { w with heap:=w.heap.push o }) (k:∀ b,W.heap.size ≤ b → K (u b) (pts b o•H)):CallK P W f args H K Kp :=
 ⟨.inr fun w hs=>⟨_,_,_,h w,hs.alloc o,k _ hs.1.size⟩⟩
theorem CallK.extS {f:FuncId} {args:List Value} {a:Addr} {vs:List Value} {v:Value} {b k:Nat} {u:Value} [r:RdC W H ⟨b,k,none⟩ u] (h:∀ w,w.cell? ⟨b,k,none⟩ = some u → (callFunc f ⟨args⟩).run P w = ((storeCells a vs 0).run P w).andThen fun _ w'=>.ok (.value v) w') (ho:∀ v ∈ vs,v.oneCell' = true) (st:St P W H a vs (fun H'=>K v H')):CallK P W f args H K Kp :=
 ⟨.inr fun w hs=>by
  obtain ⟨w',H',h1,h2,h3⟩:=st.run w hs ho
  exact ⟨v,w',H',by rw [h w (r.h w hs),h1];rfl,h2,h3⟩⟩
theorem CallK.extR {f:FuncId} {args:List Value} {b k:Nat} {u v:Value} [r:RdC W H ⟨b,k,none⟩ u] (h:∀ w,w.cell? ⟨b,k,none⟩ = some u → (callFunc f ⟨args⟩).run P w = .ok (.value v) w) (kk:K v H):CallK P W f args H K Kp :=
 ⟨.inr fun w hs=>⟨v,w,H,h w (r.h w hs),hs,kk⟩⟩
theorem OpX.asr {x:Operand} {s t:TypeId} {ok:Bool} {ty:TypeId} {u v:Value} (hx:ev x = some u) (h:∀ w,(Instr.typeAssert u s t ok).run P w = .ok v w) (k:K v H):OpX P W (.typeAssert x s t ok) ty ev H K Kp :=
 ⟨fun w ρ hs he o' ho hty=>⟨.value v,w,H,by
  obtain ⟨dst,op,ty',pos,after,guard⟩:=o'
  simp only at ho hty
  subst ho hty
  simp [execOp,he _ _ hx,h],hs,k⟩⟩
end
end Go.SL
namespace Go.Proofs.YtbcedpankkdfoaaGreatDoor
open Go Go.SL Go.SL.Sec Go.SL.Fld Go.SL.Pts Go.SL.Rec Go.SL.Twn Go.Extern.Stop Go.Stop Go.Extern
abbrev thd (t:TypeId):Value:=.agg ⟨[.pointer (some ⟨g_count,t,none⟩)]⟩
abbrev rty (t:TypeId):Value:=.iface t_rtype (thd t)
theorem x_valueOf (b:Nat) (w:World):(callFunc x_internal_reflectlite_ValueOf ⟨[.iface t_zl (ptr b)]⟩).run prog w = .ok (.value (.agg ⟨[.pointer (some ⟨g_count,t_zl,none⟩),ptr w.heap.size,.int .u64 150]⟩)) { w with heap:=w.heap.push (.cells ⟨[ptr b]⟩ t_zl) }:=by
 rw [@run_callFunc_extern prog x_internal_reflectlite_ValueOf _ (fun args=>ReflectliteValue.unpack (args.getD 0 (.tuple #[]))) x_internal_reflectlite_ValueOf.fn (by kernel_rfl) (by kernel_rfl) (by kernel_rfl) (by kernel_rfl)]
 kernel_rfl
theorem x_valueOfE (e:Int) (w:World):(callFunc x_internal_reflectlite_ValueOf ⟨[.iface t_z1 (.int .i64 e)]⟩).run prog w = .ok (.value (.agg ⟨[.pointer (some ⟨g_count,t_z1,none⟩),ptr w.heap.size,.int .u64 130]⟩)) { w with heap:=w.heap.push (.cells ⟨[.int .i64 e]⟩ t_z1) }:=by
 rw [@run_callFunc_extern prog x_internal_reflectlite_ValueOf _ (fun args=>ReflectliteValue.unpack (args.getD 0 (.tuple #[]))) x_internal_reflectlite_ValueOf.fn (by kernel_rfl) (by kernel_rfl) (by kernel_rfl) (by kernel_rfl)]
 kernel_rfl
theorem x_type (b:Nat) (w:World):(callFunc x_internal_reflectlite_Value_Type ⟨[.agg ⟨[.pointer (some ⟨g_count,t_zl,none⟩),ptr b,.int .u64 150]⟩]⟩).run prog w = .ok (.value (rty t_zl)) w:=by
 rw [@run_callFunc_extern prog x_internal_reflectlite_Value_Type _ (ReflectliteValue.methodAny (ReflectliteValue.valueError "reflectlite.Value.Type" 0) (fun t _ _ _ => ReflectliteType.toType t)) x_internal_reflectlite_Value_Type.fn (by kernel_rfl) (by kernel_rfl) (by kernel_rfl) (by kernel_rfl)]
 kernel_rfl
theorem x_kind (w : World) : (callMethod (rty t_zl) "Kind" #[]).run prog w = .ok (.value (.int .u8 22)) w := by kernel_rfl
theorem x_kindE (w : World) : (callMethod (rty t_z1) "Kind" #[]).run prog w = .ok (.value (.int .u8 2)) w := by kernel_rfl
theorem x_elem (w : World) : (callMethod (rty t_zl) "Elem" #[]).run prog w = .ok (.value (rty t_z1)) w := by kernel_rfl
theorem x_implements (w : World) : (callMethod (rty t_z1) "Implements" #[rty t_error]).run prog w = .ok (.value (.bool true)) w := by kernel_rfl
theorem x_assignN (w : World) : (callMethod (rty t_z8) "AssignableTo" #[rty t_z1]).run prog w = .ok (.value (.bool false)) w := by kernel_rfl
theorem x_assignY (w : World) : (callMethod (rty t_z1) "AssignableTo" #[rty t_z1]).run prog w = .ok (.value (.bool true)) w := by kernel_rfl
theorem x_unwrap (b : Nat) (w : World) : (callMethod (.iface t_z8 (ptr b)) "Unwrap" #[]).run prog w = .ok (.enter f_z3o ⟨[ptr b]⟩) w := by kernel_rfl
theorem x_typeOfF (b:Nat) (w:World):(callFunc x_internal_reflectlite_TypeOf ⟨[.iface t_z8 (ptr b)]⟩).run prog w = .ok (.value (rty t_z8)) w:=by
 rw [@run_callFunc_extern prog x_internal_reflectlite_TypeOf _ ReflectliteType.typeOf x_internal_reflectlite_TypeOf.fn (by kernel_rfl) (by kernel_rfl) (by kernel_rfl) (by kernel_rfl)]
 kernel_rfl
theorem x_typeOfE (e:Int) (w:World):(callFunc x_internal_reflectlite_TypeOf ⟨[.iface t_z1 (.int .i64 e)]⟩).run prog w = .ok (.value (rty t_z1)) w:=by
 rw [@run_callFunc_extern prog x_internal_reflectlite_TypeOf _ ReflectliteType.typeOf x_internal_reflectlite_TypeOf.fn (by kernel_rfl) (by kernel_rfl) (by kernel_rfl) (by kernel_rfl)]
 kernel_rfl
theorem rlm (z:Sem Value) (f:TypeId → Addr → Nat → Nat → Sem Value) (v:Value) :
  ReflectliteValue.method z f #[v] = (do match ← ReflectliteValue.parts v with|none=>z|some (t,a,fl)=>f t a fl (fl % 32)):=rfl
theorem x_parts (b:Nat) (w:World):(ReflectliteValue.parts (.agg ⟨[.pointer (some ⟨g_count,t_zl,none⟩),ptr b,.int .u64 150]⟩)).run prog w = .ok (some (t_zl,⟨b,0,none⟩,150)) w:=by kernel_rfl
theorem x_isNil (b t:Nat) (w:World) (h:w.cell? ⟨b,0,none⟩ = some (ptr t)):(callFunc x_internal_reflectlite_Value_IsNil ⟨[.agg ⟨[.pointer (some ⟨g_count,t_zl,none⟩),ptr b,.int .u64 150]⟩]⟩).run prog w = .ok (.value (.bool false)) w:=by
 rw [@run_callFunc_extern prog x_internal_reflectlite_Value_IsNil _ (ReflectliteValue.method (ReflectliteValue.valueError "reflectlite.Value.IsNil" 0) ReflectliteValue.isNil) x_internal_reflectlite_Value_IsNil.fn (by kernel_rfl) (by kernel_rfl) (by kernel_rfl) (by kernel_rfl)]
 rw [rlm]
 simp only [Sem.run_bind,x_parts,Result.andThen]
 simp [ReflectliteValue.isNil,loadVar,isAgg,underlying,h,Result.andThen]
theorem x_elemOf (w:World):(Rtype.elem? t_zl).run prog w = .ok (some t_z1) w:=by kernel_rfl
theorem x_mk (p:Addr) (w:World):(ReflectliteValue.mk t_z1 p ReflectliteValue.flagAddr).run prog w = .ok (.agg ⟨[.pointer (some ⟨g_count,t_z1,none⟩),.pointer (some p),.int .u64 386]⟩) w:=by kernel_rfl
theorem x_elemV (b t:Nat) (w:World) (h:w.cell? ⟨b,0,none⟩ = some (ptr t)):(callFunc x_internal_reflectlite_Value_Elem ⟨[.agg ⟨[.pointer (some ⟨g_count,t_zl,none⟩),ptr b,.int .u64 150]⟩]⟩).run prog w = .ok (.value (.agg ⟨[.pointer (some ⟨g_count,t_z1,none⟩),ptr t,.int .u64 386]⟩)) w:=by
 rw [@run_callFunc_extern prog x_internal_reflectlite_Value_Elem _ (ReflectliteValue.method (ReflectliteValue.valueError "reflectlite.Value.Elem" 0) ReflectliteValue.elem) x_internal_reflectlite_Value_Elem.fn (by kernel_rfl) (by kernel_rfl) (by kernel_rfl) (by kernel_rfl)]
 rw [rlm]
 simp only [Sem.run_bind,x_parts,Result.andThen]
 simp [ReflectliteValue.elem,loadVar,isAgg,underlying,h,Result.andThen,x_elemOf,x_mk]
theorem rls (v x:Value):ReflectliteValue.set #[v,x] = (do
  let (some (dst,a,fl),some (src,b,_)):=(← ReflectliteValue.parts v,← ReflectliteValue.parts x)
   | unsupported (.noEntry "extern/(internal/reflectlite.Value).Set.zeroValue")
  if fl / ReflectliteValue.flagAddr % 2 == 0 then unsupported (.noEntry "extern/(internal/reflectlite.Value).Set.unaddressable")
  let val ← loadVar src b
  if ← Rtype.directlyAssignable dst src then storeVar dst a val
  else if ← Rtype.implements dst src then
   if (← Rtype.kind src) == 20 then
    match val with
    | .nilIface => unsupported (.noEntry "extern/reflectlite: a nil value of one interface type handed on as a value of another")
    | _=>storeVar dst a val
   else storeVar dst a (.iface src val)
  else panicString ("reflectlite.Set: value of type " ++ (← Rtype.spelt src) ++ " is not assignable to type " ++ (← Rtype.spelt dst))
  pure (.tuple #[])):=rfl
theorem x_partsA (b:Nat) (w:World):(ReflectliteValue.parts (.agg ⟨[.pointer (some ⟨g_count,t_z1,none⟩),ptr b,.int .u64 386]⟩)).run prog w = .ok (some (t_z1,⟨b,0,none⟩,386)) w:=by kernel_rfl
theorem x_partsE (b:Nat) (w:World):(ReflectliteValue.parts (.agg ⟨[.pointer (some ⟨g_count,t_z1,none⟩),ptr b,.int .u64 130]⟩)).run prog w = .ok (some (t_z1,⟨b,0,none⟩,130)) w:=by kernel_rfl
theorem x_direct (w:World):(Rtype.directlyAssignable t_z1 t_z1).run prog w = .ok true w:=by kernel_rfl
theorem x_set (tb sb:Nat) (e:Int) (w:World) (h:w.cell? ⟨sb,0,none⟩ = some (.int .i64 e)) :
  (callFunc x_internal_reflectlite_Value_Set ⟨[.agg ⟨[.pointer (some ⟨g_count,t_z1,none⟩),ptr tb,.int .u64 386]⟩,.agg ⟨[.pointer (some ⟨g_count,t_z1,none⟩),ptr sb,.int .u64 130]⟩]⟩).run prog w = ((storeCells ⟨tb,0,none⟩ [.int .i64 e] 0).run prog w).andThen fun _ w'=>.ok (.value (.tuple #[])) w':=by
 rw [@run_callFunc_extern prog x_internal_reflectlite_Value_Set _ ReflectliteValue.set x_internal_reflectlite_Value_Set.fn (by kernel_rfl) (by kernel_rfl) (by kernel_rfl) (by kernel_rfl)]
 rw [rls]
 simp only [Sem.run_bind,x_partsA,x_partsE,Result.andThen]
 simp [ReflectliteValue.flagAddr,loadVar,isAgg,underlying,h,Result.andThen,x_direct,storeVar,Value.cells]
 cases Sem.run prog (storeCells ⟨tb,0,none⟩ [Value.int IntKind.i64 e]) w <;> rfl
end Go.Proofs.YtbcedpankkdfoaaGreatDoor
/- The number within an error: errors.As at *api.Errno, walked. Conditions: in each statement. -/
namespace Go.Proofs.YtbcedpankkdfoaaGreatDoor
open Go Go.SL Go.SL.Sec Go.SL.Fld Go.SL.Pts Go.SL.Rec Go.SL.Twn
class LaidE (W:World):Prop where
 et:W.cell? ⟨g_errors_errorType,0,none⟩ = some (rty t_error)
instance (priority:=70) RdC.ety {W:World} {H:HProp} [l:LaidE W] [oc:OldC W H]:RdC W H ⟨g_errors_errorType,0,none⟩ (rty t_error):=⟨oc.h _ _ l.et⟩
theorem unwrap_spec {W:World} {R:HProp} {b:Nat} {w:ByteArray} {z e:Int}:Does prog W f_z3o ⟨[ptr b]⟩ (fltc b w z e•R) (Ret fun v G=>v = .iface t_z1 (.int .i64 e) ∧ G = (fltc b w z e•R)):=by
 unfold fltc
 refine f_z3o.does _ ?_
 conv=>whnf
 repeat' (first
  | (refine Ld.i ?_;conv=>whnf))
 refine Ret.eq rfl ?_
 first|exact .refl _|exact .drop|exact .fin|((repeat refine .pick ?_);first|exact .refl _|exact .emp _|exact .fin)
theorem x_asrA (b:Nat) (w:World):(Instr.typeAssert (.iface t_z8 (ptr b)) t_error t_z51 true).run prog w = .ok (.tuple ⟨[.nilIface,.bool false]⟩) w:=Go.run_typeAssert_lacksB u_interface_Asinterface_bool (by kernel_rfl) (by kernel_rfl) _ _ w
theorem x_asrU (b:Nat) (w:World):(Instr.typeAssert (.iface t_z8 (ptr b)) t_error t_interface_Unwrap_error true).run prog w = .ok (.tuple ⟨[.iface t_z8 (ptr b),.bool true]⟩) w:=Go.run_typeAssert_hasB u_interface_Unwrap_error (by kernel_rfl) _ _ w
abbrev tval (b:Nat):Value:=.agg ⟨[.pointer (some ⟨g_count,t_zl,none⟩),ptr b,.int .u64 150]⟩
theorem as_fault {W:World} {R:HProp} {vb tb b:Nat} {e o z:Int} {wd:ByteArray} {tg:Value} :
  Does prog W f_z3b ⟨[.iface t_z8 (ptr b),tg,tval vb,rty t_z1]⟩ (pts vb (.cells ⟨[ptr tb]⟩ t_zl)•pts tb (.cells ⟨[.int .i64 o]⟩ t_z1)•fltc b wd z e•R)
   (Ret fun v G=>v = .bool true ∧ G = (pts vb (.cells ⟨[ptr tb]⟩ t_zl)•pts tb (.cells ⟨[.int .i64 e]⟩ t_z1)•fltc b wd z e•R)):=by
 refine f_z3b.does _ _ _ _ ?_
 conv=>whnf
 repeat' (first
  | (intro blk hblk;conv=>whnf))
 refine LoopK.rounds tab_ok (L:=f_z3b.live) 2 ?_
 conv=>whnf
 skip
 refine CallK.ext (x_typeOfF b) ?_
 conv=>whnf
 skip
 refine OpX.inv (t:=t_rtype) (v:=thd t_z8) (l:=[rty t_z1]) rfl rfl x_assignN ?_
 conv=>whnf
 skip
 refine OpX.asr rfl (x_asrA b) ?_
 conv=>whnf
 skip
 refine OpX.asr rfl (x_asrU b) ?_
 conv=>whnf
 skip
 refine OpX.invD (t:=t_z8) (v:=ptr b) (l:=[]) (f:=f_z3o) (a:=[ptr b]) rfl rfl (x_unwrap b) (Does.imp (H':=fltc b wd z e•pts vb (.cells ⟨[ptr tb]⟩ t_zl)•pts tb (.cells ⟨[.int .i64 o]⟩ t_z1)•pts blk (.cells ⟨[.pointer (some ⟨g_count,t_zl,none⟩),ptr vb,.int .u64 150]⟩ t_reflectlite_Value)•R) (by first|exact .refl _|exact .drop|exact .fin|((repeat refine .pick ?_);first|exact .refl _|exact .emp _|exact .fin)) unwrap_spec) ?_
 rintro v G ⟨rfl,rfl⟩
 conv=>whnf
 skip
 refine CallK.ext (x_typeOfE e) ?_
 conv=>whnf
 skip
 refine OpX.inv (t:=t_rtype) (v:=thd t_z1) (l:=[rty t_z1]) rfl rfl x_assignY ?_
 conv=>whnf
 repeat' (first
  | (refine LdN.i ?_;conv=>whnf))
 refine CallK.extR (b:=vb) (k:=0) (u:=ptr tb) (x_elemV vb tb) ?_
 conv=>whnf
 skip
 refine CallK.extA (o:=.cells ⟨[.int .i64 e]⟩ t_z1) (u:=fun n=>.agg ⟨[.pointer (some ⟨g_count,t_z1,none⟩),ptr n,.int .u64 130]⟩) (x_valueOfE e) (fun sb hsb=>?_)
 conv=>whnf
 skip
 refine CallK.extS (a:=⟨tb,0,none⟩) (vs:=[.int .i64 e]) (v:=.tuple ⟨[]⟩) (b:=sb) (k:=0) (u:=.int .i64 e) (x_set tb sb e) (by simp [Value.oneCell']) ?_
 refine (St.i (n:=1) ⟨rfl,rfl⟩ (List.cons_ne_nil _ _) ?_).k
 conv=>whnf
 skip
 refine ⟨_,_,rfl,?_,rfl,rfl⟩
 first|exact .refl _|exact .drop|exact .fin|((repeat refine .pick ?_);first|exact .refl _|exact .emp _|exact .fin)
theorem eas_fault {W:World} {R:HProp} {tb b:Nat} {e o z:Int} {wd:ByteArray} [le:LaidE W] [oc:OldC W (fltc b wd z e•R)] :
  Does prog W f_z3s ⟨[.iface t_z8 (ptr b),.iface t_zl (ptr tb)]⟩ (pts tb (.cells ⟨[.int .i64 o]⟩ t_z1)•fltc b wd z e•R) (Ret fun v G=>v = .bool true ∧ G = (pts tb (.cells ⟨[.int .i64 e]⟩ t_z1)•fltc b wd z e•R)):=by
 refine f_z3s.does _ _ ?_
 conv=>whnf
 skip
 refine CallK.extA (o:=.cells ⟨[ptr tb]⟩ t_zl) (u:=fun n=>.agg ⟨[.pointer (some ⟨g_count,t_zl,none⟩),ptr n,.int .u64 150]⟩) (x_valueOf tb) (fun vb hvb=>?_)
 conv=>whnf
 repeat' (first
  | ((first|refine LdN.i ?_|refine St.i ⟨rfl,rfl⟩ (List.cons_ne_nil _ _) ?_);conv=>whnf)
  | (intro blk hblk;conv=>whnf))
 refine CallK.ext (x_type vb) ?_
 conv=>whnf
 skip
 refine OpX.inv (t:=t_rtype) (v:=thd t_zl) (l:=[]) rfl rfl x_kind ?_
 conv=>whnf
 repeat' (first
  | (refine LdN.i ?_;conv=>whnf))
 refine CallK.extR (b:=vb) (k:=0) (u:=ptr tb) (x_isNil vb tb) ?_
 conv=>whnf
 skip
 refine OpX.inv (t:=t_rtype) (v:=thd t_zl) (l:=[]) rfl rfl x_elem ?_
 conv=>whnf
 skip
 refine OpX.inv (t:=t_rtype) (v:=thd t_z1) (l:=[]) rfl rfl x_kindE ?_
 conv=>whnf
 repeat' (first
  | (refine Ld.i ?_;conv=>whnf))
 refine OpX.inv (t:=t_rtype) (v:=thd t_z1) (l:=[rty t_error]) rfl rfl x_implements ?_
 conv=>whnf
 repeat' (first
  | (refine LdN.i ?_;conv=>whnf))
 refine CallK.ret f_z3b.ok (Does.imp (H':=pts vb (.cells ⟨[ptr tb]⟩ t_zl)•pts tb (.cells ⟨[.int .i64 o]⟩ t_z1)•fltc b wd z e•R) (by first|exact .refl _|exact .drop|exact .fin|((repeat refine .pick ?_);first|exact .refl _|exact .emp _|exact .fin)) as_fault) ?_
 rintro v G ⟨rfl,rfl⟩
 conv=>whnf
 skip
 refine ⟨_,_,rfl,?_,rfl,rfl⟩
 first|exact .refl _|exact .drop|exact .fin|((repeat refine .pick ?_);first|exact .refl _|exact .emp _|exact .fin)
theorem code_fault {W:World} {R:HProp} {b:Nat} {e z:Int} {wd:ByteArray} [le:LaidE W] [oc:OldC W (fltc b wd z e•R)] :
  Does prog W f_z24 ⟨[.iface t_z8 (ptr b)]⟩ (fltc b wd z e•R) (Ret fun v G=>v = .int .i64 e ∧ G = (fltc b wd z e•R)):=by
 refine f_z24.does _ ?_
 conv=>whnf
 repeat' (first
  | (intro blk hblk;conv=>whnf))
 refine CallK.ret f_z3s.ok (eas_fault (R:=R) (tb:=blk) (o:=0) (e:=e) (b:=b) (z:=z) (wd:=wd)) ?_
 rintro v G ⟨rfl,rfl⟩
 conv=>whnf
 repeat' (first
  | (refine Ld.i ?_;conv=>whnf))
 refine ⟨_,_,rfl,?_,rfl,rfl⟩
 first|exact .refl _|exact .drop|exact .fin|((repeat refine .pick ?_);first|exact .refl _|exact .emp _|exact .fin)
theorem code_nil {W:World} {R:HProp}:Does prog W f_z24 ⟨[.nilIface]⟩ R (Ret fun v G=>v = i0 ∧ G = R):=by
 refine f_z24.does _ ?_
 conv=>whnf
 skip
 refine Ret.eq rfl ?_
 first|exact .refl _|exact .drop|exact .fin|((repeat refine .pick ?_);first|exact .refl _|exact .emp _|exact .fin)
def ErrV (e:Int) (v:Value) (G:HProp):Prop:=(e = 0 ∧ v = .nilIface) ∨ (e ≠ 0 ∧ ∃ b w z G0,v = .iface t_z8 (ptr b) ∧ G = (fltc b w z e•G0))
theorem code_any {W:World} {G:HProp} {e:Int} {v:Value} [le:LaidE W] [oc:OldC W G] (h:ErrV e v G):Does prog W f_z24 ⟨[v]⟩ G (Ret fun u Q=>u = .int .i64 e ∧ Q = G):=by
 rcases h with ⟨rfl,rfl⟩|⟨_,b,w,z,G0,rfl,rfl⟩
 ·exact code_nil
 ·exact code_fault
end Go.Proofs.YtbcedpankkdfoaaGreatDoor
