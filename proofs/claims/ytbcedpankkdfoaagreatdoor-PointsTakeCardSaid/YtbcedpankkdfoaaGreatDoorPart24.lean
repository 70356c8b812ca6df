/- The program's pool: the page that was used longest ago; walked. Conditions: in each statement. -/
import Derived.Test.YtbcedpankkdfoaaGreatDoorPart23
set_option linter.unusedVariables false
set_option linter.unusedSimpArgs false
namespace Go.SL
open Go
section
variable {P:Program} {W:World} {T:Tab} {H R:HProp}
theorem OpQ.lkA (hT:T.ok P) {t kt et:TypeId} {k0 kk:IntKind} {mo key:Operand} {ty:TypeId} {ev:Operand → Option Value} {K:Value → Prop} {r:Nat} {k:Int} {l:List (Int × Value)} {c1 c2:List Value} {a1 a2:Bool} {s1 s2 b1 b2:Nat} {r3:TRow} {v:Value}
  (a:MapAt W H r kk l) (hl:l.lookup k = some v) (h1:T t = some ⟨.map kt et,c1,a1,s1,b1⟩) (h2:T kt = some ⟨.int k0,c2,a2,s2,b2⟩) (h3:T et = some r3)
  (hm:ev mo = some (.map (some r))) (hk:ev key = some (.int kk k)) (hv:K v):OpQ P W (.lookup t mo key false) ty ev H K:=by
 obtain ⟨z,hz⟩:=zero_ex hT h3
 exact OpQ.lookup hT h1 rfl h2 rfl hz hm hk a (fun v' hv'=>by rw [hl] at hv';cases hv';exact hv) (fun e=>by rw [hl] at e;cases e)
theorem OpQ.lkZ (hT:T.ok P) {t kt et:TypeId} {k0 kk:IntKind} {mo key:Operand} {ty:TypeId} {ev:Operand → Option Value} {K:Value → Prop} {r:Nat} {k:Int} {l:List (Int × Value)} {c1 c2:List Value} {a1 a2:Bool} {s1 s2 b1 b2:Nat} {r3:TRow}
  (a:MapAt W H r kk l) (hl:l.lookup k = none) (h1:T t = some ⟨.map kt et,c1,a1,s1,b1⟩) (h2:T kt = some ⟨.int k0,c2,a2,s2,b2⟩) (h3:T et = some r3)
  (hm:ev mo = some (.map (some r))) (hk:ev key = some (.int kk k)) (hv:zK r3 K):OpQ P W (.lookup t mo key false) ty ev H K:=by
 obtain ⟨z,hz,hz'⟩:=zK_elim hT h3 hv
 exact OpQ.lookup hT h1 rfl h2 rfl hz hm hk a (fun v' hv'=>by rw [hl] at hv';cases hv') fun _=>hz'
theorem MapAt.iter {b r:Nat} {kk:IntKind} {l todo:List (Int × Value)} {cur:Option (Int × Value)}:MapAt W (iterc b r kk l todo cur•R) r kk l:=fun _ hs=>MapAt.here _ (iterc_map hs)
end
theorem mem_erase_iff {α:Type} {l:List (Int × α)} (hnd:(l.map (·.1)).Nodup):∀ {todo:List (Int × α)} {j:Nat} {x:Int × α},(todo.map (·.1)).Nodup → todo[j]? = some x → ∀ y,y ∉ todo.eraseIdx j ↔ y = x ∨ y ∉ todo
 | [],j,x,_,h,y=>by simp at h
 | z :: todo,0,x,hn,h,y=>by
  simp at h;subst h
  simp only [List.map_cons,List.nodup_cons] at hn
  simp only [List.eraseIdx_cons_zero,List.mem_cons,not_or]
  refine ⟨fun k=>?_,fun k=>?_⟩
  ·by_cases e:y = z
   ·exact .inl e
   ·exact .inr ⟨e,k⟩
  ·rcases k with rfl|k
   ·exact fun hm=>hn.1 (List.mem_map.2 ⟨_,hm,rfl⟩)
   ·exact k.2
 | z :: todo,j + 1,x,hn,h,y=>by
  simp only [List.map_cons,List.nodup_cons] at hn
  have hx:todo[j]? = some x:=by simpa using h
  have ih:=mem_erase_iff hnd hn.2 hx y
  simp only [List.eraseIdx_cons_succ,List.mem_cons,not_or]
  rw [ih]
  refine ⟨fun k=>?_,fun k=>?_⟩
  ·rcases k.2 with e|e
   ·exact .inl e
   ·exact .inr ⟨k.1,e⟩
  ·rcases k with rfl|k
   ·exact ⟨fun e=>hn.1 (e ▸ List.mem_map.2 ⟨_,List.mem_of_getElem? hx,rfl⟩),.inl rfl⟩
   ·exact ⟨k.1,.inr k.2⟩
end Go.SL
namespace Go.Proofs.YtbcedpankkdfoaaGreatDoor
open Go Go.SL Go.SL.Sec Go.SL.Fld Go.SL.Pts Go.SL.Rec Go.SL.Twn Go.SL.Pg Go.SL.Mst Go.SL.Pool
def BestP (held todo:List (Int × FrX)) (best:Int) (found:Bool):Prop :=
 (found = false → best = 0 ∧ ∀ n f,(n,f) ∈ held → (n,f) ∉ todo → f.pins ≠ 0) ∧
 (found = true → ∃ f,(best,f) ∈ held ∧ f.pins = 0 ∧ ∀ n g,(n,g) ∈ held → (n,g) ∉ todo → g.pins = 0 → f.used ≤ g.used)
theorem best_end {X:PoolX} (hnd:(X.held.map (·.1)).Nodup) (hus:∀ n m f g,X.held.lookup n = some f → X.held.lookup m = some g → f.used = g.used → n = m) {best:Int} {found:Bool} (h:BestP X.held [] best found) :
  match oldest X.val.held with
  | none=>found = false ∧ best = 0
  | some o=>found = true ∧ best = o.1:=by
 have hs:=oldG_spec X.val.held none (fun q hq=>by cases hq)
 unfold oldest
 have hmem:∀ n f,(n,f) ∈ X.held → (n,f.val) ∈ X.val.held:=fun n f hm=>List.mem_map.2 ⟨(n,f),hm,rfl⟩
 have hmem2:∀ p,p ∈ X.val.held → ∃ f,(p.1,f) ∈ X.held ∧ p.2 = f.val:=fun p hp=>by
  obtain ⟨q,hq,rfl⟩:=List.mem_map.1 hp
  exact ⟨q.2,hq,rfl⟩
 cases ho:oldG X.val.held none with
 | none =>
  rw [ho] at hs
  cases found with
  | false=>exact ⟨rfl,(h.1 rfl).1⟩
  | true =>
   obtain ⟨f,hf,hp,_⟩:=h.2 rfl
   exact absurd hp (hs.2 _ (hmem _ _ hf))
 | some o =>
  rw [ho] at hs
  obtain ⟨k1,k2,k3,_⟩:=hs
  obtain ⟨g,hg,hg2⟩:=hmem2 o (k2.resolve_right (by simp))
  have hgp:g.pins = 0:=by rw [hg2] at k1;exact k1
  cases found with
  | false=>exact absurd hgp ((h.1 rfl).2 _ _ hg (by simp))
  | true =>
   obtain ⟨f,hf,hp,hl⟩:=h.2 rfl
   have h1:=hl _ _ hg (by simp) hgp
   have h2:=k3 _ (hmem _ _ hf) hp
   rw [hg2] at h2
   have h3:f.used = g.used:=Int.le_antisymm h1 h2
   exact ⟨rfl,hus _ _ f g (lookup_of_mem _ _ _ hnd hf) (lookup_of_mem _ _ _ hnd hg) h3⟩
set_option maxHeartbeats 1000000 in
theorem poldest_spec {W:World} {R:HProp} {p:Nat} {X:PoolX} (hnd:(X.held.map (·.1)).Nodup) (hus:∀ n m f g,X.held.lookup n = some f → X.held.lookup m = some g → f.used = g.used → n = m) :
  Does prog W f_zm ⟨[ptr p]⟩ (poolo p X•R) (Ret fun v G=>v = (match oldest X.val.held with|none=>.tuple ⟨[i0,.bool false]⟩|some o=>.tuple ⟨[.int .i64 o.1,.bool true]⟩) ∧ G = (poolo p X•R)):=by
 rw [poolo_eq]
 refine f_zm.does _ ?_
 conv=>whnf
 repeat' (first
  | (refine Ld.i ?_;conv=>whnf))
 refine OpX.rng tab_ok rfl rfl (fun it hit=>?_)
 conv=>whnf
 refine LoopK.at tab_ok (L:=f_zm.live) (ι:=Int × Bool × List (Int × FrX) × Option (Int × Value)) (fun i=>BestP X.held i.2.2.1 i.1 i.2.1 ∧ (i.2.2.1.map (·.1)).Nodup ∧ ∀ x ∈ i.2.2.1,x ∈ X.held) (fun i=>[(4,.int .i64 i.1),(5,.bool i.2.1)])
  (fun i=>iterc it X.r .i64 (mapv fptr X.held) (mapv fptr i.2.2.1) i.2.2.2) (fun i=>i.2.2.1.length) (0,false,X.held,none) ⟨⟨fun _=>⟨rfl,fun n f h k=>absurd h k⟩,fun e=>(by cases e)⟩,hnd,fun x h=>h⟩ (fun t v h=>h) (Imp.refl _) ?_
 rintro ⟨best,found,todo,cur⟩ ⟨hB,htd,hsub⟩
 dsimp only at hB htd hsub ⊢
 conv=>whnf
 refine OpX.nxt rfl (fun h0=>?_) (fun j pv hp=>?_)
 ·have h0':todo = []:=by simpa [mapv] using h0
  subst h0'
  have hend:=best_end hnd hus hB
  conv=>whnf
  skip
  refine ⟨_,_,rfl,?_,?_,rfl⟩
  ·first|exact .refl _|exact .drop|exact .fin|((repeat refine .pick ?_);first|exact .refl _|exact .emp _|exact .fin)
  ·cases ho:oldest X.val.held with
   | none=>rw [ho] at hend;rw [hend.1,hend.2]
   | some o=>rw [ho] at hend;rw [hend.1,hend.2]
 ·obtain ⟨x,hx,rfl⟩:∃ x,todo[j]? = some x ∧ (x.1,fptr x.2) = pv:=by
   simp only [mapv,List.getElem?_map] at hp
   exact Option.map_eq_some_iff.1 hp
  obtain ⟨n,f⟩:=x
  have hmem:=hsub _ (List.mem_of_getElem? hx)
  have hlk:=lookup_of_mem n f _ hnd hmem
  haveI rf:∀ (A B:HProp) (k:Nat) (v:Value) [LAt (frv f) k v],RdC W (A•B•bigM (fun _ f=>frc f) X.held•R) ⟨f.b,k,none⟩ v:=fun A B k v _=>by rw [bigM_at hnd hlk];infer_instance
  have hlen2:(todo.eraseIdx j).length < todo.length:=by
   have:j < todo.length:=(List.getElem?_eq_some_iff.1 hx).1
   rw [List.length_eraseIdx];simp [this];omega
  have htd2:((todo.eraseIdx j).map (·.1)).Nodup:=by rw [map_eraseIdx'];exact htd.eraseIdx j
  have her:=mem_erase_iff (l:=X.held) hnd htd hx
  have hsub2:∀ x ∈ todo.eraseIdx j,x ∈ X.held:=fun x hx=>hsub x (List.mem_of_mem_eraseIdx hx)
  conv=>whnf
  refine OpX.ent rfl ?_
  conv=>whnf
  by_cases c1:f.pins = 0
  rotate_left
  ·repeat' (first
    | (rw [decide_eq_false c1];conv=>whnf)
    | (refine Ld.i ?_;conv=>whnf)
    | (refine DrawK.introH tab_ok mixed 18 f_zm.last5 f_zm.plan5 _ rfl (by kernel_rfl) (Sub.of (by first|exact .refl _|exact .drop|exact .fin|((repeat refine .pick ?_);first|exact .refl _|exact .emp _|exact .fin))) ?_;conv=>whnf))
   refine ⟨rfl,(best,found,todo.eraseIdx j,some (n,fptr f)),⟨⟨fun e=>⟨(hB.1 e).1,fun m g hg hn=>((her (m,g)).1 hn).elim (fun e=>by cases e;exact c1) ((hB.1 e).2 m g hg)⟩,fun e=>let ⟨fb,h1,h2,h3⟩:=hB.2 e;⟨fb,h1,h2,fun m g hg hn hp=>((her (m,g)).1 hn).elim (fun e=>by cases e;exact absurd hp c1) fun k=>h3 m g hg k hp⟩⟩,htd2,hsub2⟩,Fr.inn_sub ⟨rfl,rfl,rfl,rfl,trivial⟩,?_,hlen2⟩
   dsimp only
   rw [show mapv fptr (todo.eraseIdx j) = (mapv fptr todo).eraseIdx j from map_eraseIdx' ..]
   first|exact .refl _|exact .drop|exact .fin|((repeat refine .pick ?_);first|exact .refl _|exact .emp _|exact .fin)
  cases found with
  | false =>
   repeat' (first
    | (rw [decide_eq_true c1];conv=>whnf)
    | (refine Ld.i ?_;conv=>whnf)
    | (refine DrawK.introH tab_ok mixed 18 f_zm.last5 f_zm.plan5 _ rfl (by kernel_rfl) (Sub.of (by first|exact .refl _|exact .drop|exact .fin|((repeat refine .pick ?_);first|exact .refl _|exact .emp _|exact .fin))) ?_;conv=>whnf))
   refine ⟨rfl,(n,true,todo.eraseIdx j,some (n,fptr f)),⟨⟨fun e=>(by cases e),fun _=>⟨f,hmem,c1,fun m g hg hn hp=>((her (m,g)).1 hn).elim (fun e=>by cases e;exact Int.le_refl _) fun k=>absurd hp ((hB.1 rfl).2 m g hg k)⟩⟩,htd2,hsub2⟩,Fr.inn_sub ⟨rfl,rfl,rfl,rfl,trivial⟩,?_,hlen2⟩
   dsimp only
   rw [show mapv fptr (todo.eraseIdx j) = (mapv fptr todo).eraseIdx j from map_eraseIdx' ..]
   first|exact .refl _|exact .drop|exact .fin|((repeat refine .pick ?_);first|exact .refl _|exact .emp _|exact .fin)
  | true =>
   obtain ⟨fb,hb1,hb2,hb3⟩:=hB.2 rfl
   have hlb:=lookup_of_mem best fb _ hnd hb1
   have hlv:(mapv fptr X.held).lookup best = some (fptr fb):=by rw [mapv_lookup,hlb];rfl
   haveI rb:∀ (A B:HProp) (k:Nat) (v:Value) [LAt (frv fb) k v],RdC W (A•B•bigM (fun _ f=>frc f) X.held•R) ⟨fb.b,k,none⟩ v:=fun A B k v _=>by rw [bigM_at hnd hlb];infer_instance
   by_cases c2:f.used < fb.used
   ·repeat' (first
     | (rw [decide_eq_true c1];conv=>whnf)
     | (refine spl_dec (fun hd=>?_) (fun hd=>?_) <;> first|(exfalso;omega)|(conv=>whnf))
     | ((first|refine Ld.i ?_|refine OpQ.lkA tab_ok MapAt.iter hlv rfl rfl rfl rfl rfl ?_);conv=>whnf)
     | (refine DrawK.introH tab_ok mixed 18 f_zm.last5 f_zm.plan5 _ rfl (by kernel_rfl) (Sub.of (by first|exact .refl _|exact .drop|exact .fin|((repeat refine .pick ?_);first|exact .refl _|exact .emp _|exact .fin))) ?_;conv=>whnf))
    refine ⟨rfl,(n,true,todo.eraseIdx j,some (n,fptr f)),⟨⟨fun e=>(by cases e),fun _=>⟨f,hmem,c1,fun m g hg hn hp=>((her (m,g)).1 hn).elim (fun e=>by cases e;exact Int.le_refl _) fun k=>by have:=hb3 m g hg k hp;omega⟩⟩,htd2,hsub2⟩,Fr.inn_sub ⟨rfl,rfl,rfl,rfl,trivial⟩,?_,hlen2⟩
    dsimp only
    rw [show mapv fptr (todo.eraseIdx j) = (mapv fptr todo).eraseIdx j from map_eraseIdx' ..]
    first|exact .refl _|exact .drop|exact .fin|((repeat refine .pick ?_);first|exact .refl _|exact .emp _|exact .fin)
   ·repeat' (first
     | (rw [decide_eq_true c1];conv=>whnf)
     | (refine spl_dec (fun hd=>?_) (fun hd=>?_) <;> first|(exfalso;omega)|(conv=>whnf))
     | ((first|refine Ld.i ?_|refine OpQ.lkA tab_ok MapAt.iter hlv rfl rfl rfl rfl rfl ?_);conv=>whnf)
     | (refine DrawK.introH tab_ok mixed 18 f_zm.last5 f_zm.plan5 _ rfl (by kernel_rfl) (Sub.of (by first|exact .refl _|exact .drop|exact .fin|((repeat refine .pick ?_);first|exact .refl _|exact .emp _|exact .fin))) ?_;conv=>whnf))
    refine ⟨rfl,(best,true,todo.eraseIdx j,some (n,fptr f)),⟨⟨fun e=>(by cases e),fun _=>⟨fb,hb1,hb2,fun m g hg hn hp=>((her (m,g)).1 hn).elim (fun e=>by cases e;omega) fun k=>hb3 m g hg k hp⟩⟩,htd2,hsub2⟩,Fr.inn_sub ⟨rfl,rfl,rfl,rfl,trivial⟩,?_,hlen2⟩
    dsimp only
    rw [show mapv fptr (todo.eraseIdx j) = (mapv fptr todo).eraseIdx j from map_eraseIdx' ..]
    first|exact .refl _|exact .drop|exact .fin|((repeat refine .pick ?_);first|exact .refl _|exact .emp _|exact .fin)
end Go.Proofs.YtbcedpankkdfoaaGreatDoor
/- The program's pool: a page goes home; walked. Conditions: in each statement. -/
namespace Go.Proofs.YtbcedpankkdfoaaGreatDoor
open Go Go.SL Go.SL.Sec Go.SL.Fld Go.SL.Pts Go.SL.Rec Go.SL.Twn Go.SL.Pg Go.SL.Mst Go.SL.Pool
instance (priority:=130) keepc_logo {R A:HProp} {l:Nat} {X:LogX} [k:KeepC R A]:KeepC (logo l X•R) A:=⟨Imp.trans Imp.drop k.h⟩
instance (priority:=130) keepc_devo {R A:HProp} {d:Nat} {X:DevX} [k:KeepC R A]:KeepC (devo d X•R) A:=⟨Imp.trans Imp.drop k.h⟩
def StoQ (p:Nat) (S:StoX) (T:Int × Sto) (R:HProp) (v:Value) (G:HProp):Prop:=∃ S':StoX,S'.Ok ∧ S.Same S' ∧ S'.val = T.2 ∧ v = .int .i64 T.1 ∧ G = (stoo p S'•R)
theorem pseen2_spec {W:World} {A J R R':HProp} {p:Nat} {X:PoolX} {e:Int} {v:Value} [le:LaidE W] [oc:OldC W R] [t:ObjC poolo R p X R'] (hJ:J = R ∨ ∃ b w z e,J = (fltc b w z e•R)) (h:ErrV e v (A•J)) :
  Does prog W f_z1s ⟨[ptr p,v]⟩ (A•J) (Ret fun u G=>u = .int .i64 e ∧ G = (poolo p (if e = 40 then X.gone else X)•A•R')):=by
 rcases hJ with rfl|⟨b,w,z,k,rfl⟩
 ·exact pseen_spec h
 ·refine (pseen_spec h).post fun en w' H' hs hQ=>?_
  obtain ⟨u,G,h1,h2,h3,h4⟩:=hQ
  refine ⟨H',hs,u,_,h1,Imp.trans h2 ?_,h3,rfl⟩
  rw [h4]
  exact Imp.right (Imp.right Imp.drop)
def StoX.seen (S:StoX) (L:LogX) (D:DevX) (e:Int):StoX:=⟨if e = 40 then S.P.gone else S.P,L,D⟩
theorem seen_val (S:StoX) (L:LogX) (D:DevX) (e:Int):(S.seen L D e).val = Sto.seen ⟨S.P.val,L.val,D.val⟩ e:=by
 unfold StoX.seen Sto.seen StoX.val
 by_cases c:e = 40
 ·rw [if_pos c,if_pos c];rfl
 ·rw [if_neg c,if_neg c]
theorem seen_same (S:StoX) (L:LogX) (D:DevX) (e:Int):S.Same (S.seen L D e):=by
 unfold StoX.seen
 by_cases c:e = 40
 ·rw [if_pos c];exact ⟨rfl,rfl⟩
 ·rw [if_neg c];exact ⟨rfl,rfl⟩
set_option maxHeartbeats 1000000 in
theorem pwrite_spec {W:World} {R:HProp} {p:Nat} {S:StoX} {n:Int} {f:FrX} [le:LaidE W] [lc:LaidC W] [lp:LaidP W] [oc:OldC W R] (hS:S.Ok) (hf:S.P.held.lookup n = some f) :
  Does prog W f_z2b ⟨[ptr p,.int .i64 n]⟩ (stoo p S•R) (Ret (StoQ p S (S.val.write n f.val) R)):=by
 have hnd:=hS.nd
 have hok:=(hS.val.write (look_val hf)).1
 have fk:=hS.val.fr n f.val (look_val hf)
 obtain ⟨T,hT⟩:∃ T,T = S.val.write n f.val:=⟨_,rfl⟩
 rw [← hT] at hok ⊢
 unfold Sto.write at hT
 rw [show f.val.dirty = f.dirty from rfl,show f.val.pg = f.pg.m from rfl,show S.val.L = S.L.val from rfl,show S.val.D = S.D.val from rfl,show S.val.P = S.P.val from rfl] at hT
 haveI rf:∀ (Q:HProp) (k:Nat) (v:Value) [LAt (frv f) k v],RdC W (poolo p S.P•Q) ⟨f.b,k,none⟩ v:=fun Q k v _=>rd_frame hnd hf
 haveI rl:∀ (Q:HProp) (k m:Nat) (vs:List Value) [LSub (frv f) k m vs],RdLC W (poolo p S.P•Q) f.b k m vs:=fun Q k m vs _=>rdl_frame hnd hf
 haveI rC:∀ Q:HProp,RowC W (poolo p S.P•Q) f.pg.ca 5 cntv f.pg.m.C:=fun Q=>rowC_frame hnd hf
 haveI rG:∀ Q:HProp,RowC W (poolo p S.P•Q) f.pg.ga 2 grpv f.pg.m.G:=fun Q=>rowG_frame hnd hf
 rw [stoo_eq]
 refine f_z2b.does _ _ ?_
 conv=>whnf
 cases hd:f.dirty with
 | false =>
  rw [hd,if_pos rfl] at hT
  subst hT
  repeat' (first
   | (rw [hd];conv=>whnf)
   | ((first|refine Ld.i ?_|refine OpX.lks tab_ok hf rfl rfl rfl rfl rfl ?_);conv=>whnf))
  refine ⟨_,_,rfl,Imp.refl _,S,hS,.refl S,rfl,rfl,?_⟩
  rw [stoo_eq]
 | true =>
 rw [hd,if_neg (by decide)] at hT
 dsimp only at hT
 obtain ⟨hfault,hlsn⟩:=fk.dirty hd
 have hpg:=hS.val.page fk.key
 have hmay:=hS.val.may
 have hmay':=hmay
 unfold MayP at hmay'
 have hfi:=hS.val.first
 obtain ⟨T1,hT1⟩:∃ T1,T1 = S.L.val.force S.D.val f.pg.m.lsn:=⟨_,rfl⟩
 have r1:=force_ok (L:=S.L.val) (D:=S.D.val) f.pg.m.lsn hS.val.dok hS.val.q (by rw [show S.L.val.first = 5 + 2 * S.P.pages from hfi];have:S.val.P.pages = S.P.pages:=rfl;omega) (by have h1:=hS.val.secs;have h2:=hS.val.cnt;have h3:S.val.L = S.L.val:=rfl;have h4:S.val.D = S.D.val:=rfl;rw [h3] at h2 hfi;rw [h4] at h1;omega) hS.val.log
 rw [← hT1] at hT r1
 repeat' (first
  | (rw [hd];conv=>whnf)
  | ((first|refine DrawK.introK tab_ok mixed 22 f_z2b.last4 f_z2b.plan4 rfl (by kernel_rfl) ?_|refine Ld.i ?_|refine OpX.lks tab_ok hf rfl rfl rfl rfl rfl ?_);conv=>whnf))
 refine CallK.imp (H':=logo S.P.l S.L•devo S.P.d S.D•poolo p S.P•R) (by first|exact .refl _|exact .drop|exact .fin|((repeat refine .pick ?_);first|exact .refl _|exact .emp _|exact .fin)) ?_
 refine CallK.ret f_z4.ok (pforce_spec hS.L hS.D (by rw [hS.ps];omega) hS.ld (by have:S.L.first = 5 + 2 * S.P.pages:=hfi;have:S.val.P.pages = S.P.pages:=rfl;omega) f.pg.m.lsn) ?_
 rintro v G ⟨L1,D1,J,hL1d,hL1,hD1,hL1v,hD1v,hJ,hEr,rfl⟩
 rw [← hT1] at hL1v hD1v hEr
 rw [← star_assoc] at hEr ⊢
 have hJ':J = (poolo p S.P•R) ∨ ∃ b w z e,J = (fltc b w z e•poolo p S.P•R):=hJ.imp_right fun ⟨b,e,h⟩=>⟨b,wForce,0,e,h⟩
 have hSub:Imp ((logo S.P.l L1•devo S.P.d D1)•J) (poolo p S.P•R):=by
  refine Imp.trans Imp.drop ?_
  rcases hJ' with rfl|⟨_,_,_,_,rfl⟩
  ·exact Imp.refl _
  ·exact Imp.drop
 conv=>whnf
 refine Sub.on hSub ?_
 conv=>whnf
 refine CallK.ret f_z1s.ok (pseen2_spec hJ' hEr) ?_
 rintro u G ⟨rfl,rfl⟩
 rw [star_assoc]
 have e1v:S.val.P = S.P.val:=rfl
 by_cases e0:T1.1 = 0
 rotate_left
 ·rw [if_pos e0] at hT
  have hv:(S.seen L1 D1 T1.1).val = T.2:=by rw [seen_val,hL1v,hD1v,hT]
  repeat' (first
   | (refine spl_ndec (fun hd=>?_) (fun hd=>?_) <;> first|(exfalso;omega)|(conv=>whnf)))
  refine ⟨_,_,rfl,Imp.refl _,S.seen L1 D1 T1.1,⟨by rw [hv];exact hok,hL1,hD1,?_⟩,seen_same _ _ _ _,hv,?_,?_⟩
  ·exact (hL1d.trans hS.ld).trans (seen_same S L1 D1 T1.1).d.symm
  ·rw [hT]
  ·rw [stoo_eq,(seen_same S L1 D1 T1.1).l,(seen_same S L1 D1 T1.1).d]
   rfl
 rw [if_neg (fun k=>k e0)] at hT
 rw [if_neg (by omega)]
 rw [e0]
 have hD1q:D1.ps.length = 0:=by
  have h1:=r1.q
  rw [← hD1v] at h1
  have h2:D1.val.q = D1.ps.map fun p=>(p.sec,p.b):=rfl
  rw [h2] at h1
  simpa using congrArg List.length h1
 have hD1s:D1.val.secs = S.val.D.secs:=by rw [hD1v];unfold Dev.secs;rw [r1.len];rfl
 have hEl:(encP f.pg.m).length = 1024:=encP_len hfault
 have hEb:Byt (encP f.pg.m):=encP_byt hfault
 obtain ⟨E,hE⟩:∃ E,E = encP f.pg.m:=⟨_,rfl⟩
 rw [← hE] at hT hEl hEb
 have hin:PgM.In ⟨f.pg.m.num,f.pg.m.lsn,f.pg.m.C,f.pg.m.G⟩:=fk.pin
 have hmP:MayP S.P.pages S.P.log S.P.frames:=hmay
 conv=>whnf
 repeat' (first
  | (refine CallK.ret f_zg.ok (pencode_yes (num:=f.pg.m.num) (lsn:=f.pg.m.lsn) (C:=f.pg.m.C) (G:=f.pg.m.G) (rc:=⟨inferInstance,rfl⟩) (rg:=⟨inferInstance,rfl⟩) hfault) ?_;rw [show encP ⟨f.pg.m.num,f.pg.m.lsn,f.pg.m.C,f.pg.m.G⟩ = E from hE.symm];rintro v G ⟨ba,bc,hbc,rfl,rfl⟩;conv=>whnf)
  | (refine CallK.ret f_z25.ok (home_yes hmP fk.key) ?_;rintro v G ⟨rfl,rfl⟩;conv=>whnf)
  | ((first|refine Ld.i ?_|refine LdN.i ?_);conv=>whnf))
 obtain ⟨T2,hT2⟩:∃ T2,T2 = twW T1.2.2 2 (5 + 2 * n) E:=⟨_,rfl⟩
 rw [← hT2] at hT
 refine CallK.imp (H':=devo S.P.d D1•vec t_uint8 1 bytv ba bc E•poolo p S.P•logo S.P.l L1•R) (by first|exact .refl _|exact .drop|exact .fin|((repeat refine .pick ?_);first|exact .refl _|exact .emp _|exact .fin)) ?_
 refine CallK.ret f_z2e.ok (pwr_spec (D:=D1) (b:=E) (h:=5 + 2 * n) (c:=bc) inferInstance hD1 (by omega) hEl hbc hEb (by rw [hD1s];exact hpg)) ?_
 rw [hD1v,← hT2]
 rintro v2 G ⟨D2,J2,hD2,hD2v,hJ2,hEr2,rfl⟩
 have hJ2':J2 = (vec t_uint8 1 bytv ba bc E•poolo p S.P•logo S.P.l L1•R) ∨ ∃ b w z e,J2 = (fltc b w z e•vec t_uint8 1 bytv ba bc E•poolo p S.P•logo S.P.l L1•R):=hJ2.imp_right fun ⟨b,e,h⟩=>⟨b,wWrite,0,e,h⟩
 conv=>whnf
 refine CallK.ret f_z1s.ok (pseen2_spec hJ2' hEr2) ?_
 rintro u G ⟨rfl,rfl⟩
 have hL1d':L1.d = S.P.d:=hL1d.trans hS.ld
 by_cases e2:T2.1 = 0
 rotate_left
 ·rw [if_pos e2] at hT
  have hv:(S.seen L1 D2 T2.1).val = T.2:=by rw [seen_val,hL1v,hD2v,hT]
  conv=>whnf
  repeat' (first
   | (refine spl_ndec (fun hd=>?_) (fun hd=>?_) <;> first|(exfalso;omega)|(conv=>whnf)))
  refine ⟨_,_,rfl,?_,S.seen L1 D2 T2.1,⟨by rw [hv];exact hok,hL1,hD2,?_⟩,seen_same _ _ _ _,hv,?_,rfl⟩
  ·rw [stoo_eq,(seen_same S L1 D2 T2.1).l,(seen_same S L1 D2 T2.1).d]
   unfold StoX.seen
   first|exact .refl _|exact .drop|exact .fin|((repeat refine .pick ?_);first|exact .refl _|exact .emp _|exact .fin)
  ·exact hL1d'.trans (seen_same S L1 D2 T2.1).d.symm
  ·rw [hT]
 rw [if_neg (fun k=>k e2)] at hT
 rw [if_neg (by omega),e2]
 have hdl:(S.P.held.map (·.1)).Nodup:=hnd
 rw [poolo_eq,bigM_at hnd hf]
 conv=>whnf
 repeat' (first
  | (refine St.i ⟨rfl,rfl⟩ (List.cons_ne_nil _ _) ?_;conv=>whnf))
 have hv:(⟨S.P.put n { f with dirty:=false,since:=0 },L1,D2⟩:StoX).val = T.2:=by
  unfold StoX.val
  dsimp only
  rw [put_val,hL1v,hD2v,hT]
  rfl
 have e1:mapv fptr (updKV n { f with dirty:=false,since:=0 } S.P.held) = mapv fptr S.P.held:=by
  rw [mapv_upd]
  refine upd_same n _ _ ?_
  rw [mapv_lookup,hf];rfl
 refine ⟨_,_,rfl,?_,⟨S.P.put n { f with dirty:=false,since:=0 },L1,D2⟩,⟨by rw [hv];exact hok,hL1,hD2,hL1d'⟩,⟨rfl,rfl⟩,hv,?_,rfl⟩
 ·rw [stoo_eq,poolo_eq]
  unfold PoolX.put
  dsimp only
  rw [e1,bigM_upd _ n _ _ hnd,star_assoc,frc_eq]
  first|exact .refl _|exact .drop|exact .fin|((repeat refine .pick ?_);first|exact .refl _|exact .emp _|exact .fin)
 ·rw [hT]
end Go.Proofs.YtbcedpankkdfoaaGreatDoor
/- The program's pool: a page leaves; walked. Conditions: in each statement. -/
namespace Go.SL
theorem upd_upd {α:Type} (k:Int) (u v:α):∀ l:List (Int × α),updKV k v (updKV k u l) = updKV k v l
 | []=>by simp [updKV]
 | p :: l=>by
  unfold updKV
  by_cases c:k = p.1
  ·simp [c,updKV]
  ·simp [c,updKV,upd_upd k u v l]
end Go.SL
namespace Go.Proofs.YtbcedpankkdfoaaGreatDoor
open Go Go.SL Go.SL.Sec Go.SL.Fld Go.SL.Pts Go.SL.Rec Go.SL.Twn Go.SL.Pg Go.SL.Mst Go.SL.Pool
theorem Imp.stoo {p l d:Nat} {S:StoX} {H R:HProp} (hl:S.P.l = l) (hd:S.P.d = d) (h:Imp H (poolo p S.P•logo l S.L•devo d S.D•R)):Imp H (stoo p S•R):=by rw [stoo_eq,hl,hd];exact h
theorem bigM_del {α:Type} (f:Int → α → HProp) (n:Int) {l:List (Int × α)} (hnd:(l.map (·.1)).Nodup):Imp (bigM f l) (bigM f (delKV n l)):=by
 cases h:l.lookup n with
 | none=>rw [filter_ne n l ((lookup_none n l).1 h)];exact Imp.refl _
 | some v=>rw [bigM_take f n v l hnd h];exact Imp.drop
theorem pleave_spec {W:World} {R:HProp} {p:Nat} {S:StoX} {n:Int} {f:FrX} [le:LaidE W] [lc:LaidC W] [lp:LaidP W] [oc:OldC W R] (hS:S.Ok) (hf:S.P.held.lookup n = some f) :
  Does prog W f_z3r ⟨[ptr p,.int .i64 n]⟩ (stoo p S•R) (Ret (StoQ p S (S.val.leave n f.val) R)):=by
 have hok:=(hS.val.leave (look_val hf)).1
 obtain ⟨T,hT⟩:∃ T,T = S.val.leave n f.val:=⟨_,rfl⟩
 rw [← hT] at hok ⊢
 unfold Sto.leave at hT
 obtain ⟨T1,hT1⟩:∃ T1,T1 = S.val.write n f.val:=⟨_,rfl⟩
 rw [← hT1] at hT
 refine f_z3r.does _ _ ?_
 conv=>whnf
 skip
 refine CallK.ret f_z2b.ok (pwrite_spec hS hf) ?_
 rw [← hT1]
 rintro v G ⟨S1,hS1,hs1,hv1,rfl,rfl⟩
 by_cases e0:T1.1 = 0
 rotate_left
 ·rw [if_pos e0] at hT
  subst hT
  conv=>whnf
  repeat' (first
   | (refine spl_ndec (fun hd=>?_) (fun hd=>?_) <;> first|(exfalso;omega)|(conv=>whnf)))
  exact ⟨_,_,rfl,Imp.refl _,S1,hS1,hs1,hv1,rfl,rfl⟩
 rw [if_neg (fun k=>k e0)] at hT
 subst hT
 rw [e0,stoo_eq]
 conv=>whnf
 repeat' (first
  | ((first|refine Ld.i ?_|refine OpX.delv tab_ok rfl rfl rfl rfl ?_);conv=>whnf))
 have hv:(⟨S1.P.del n,S1.L,S1.D⟩:StoX).val = { T1.2 with P:=T1.2.P.del n }:=by
  rw [← hv1]
  unfold StoX.val
  dsimp only
  rw [del_val]
 refine ⟨_,_,rfl,?_,⟨S1.P.del n,S1.L,S1.D⟩,⟨by rw [hv];exact hok,hS1.L,hS1.D,hS1.ld⟩,⟨hs1.l,hs1.d⟩,hv,rfl,rfl⟩
 rw [stoo_eq,poolo_eq]
 unfold PoolX.del
 dsimp only
 refine Imp.trans (Q:=pts p (.cells ⟨poolv S1.P⟩ t_pool_Pool)•mapc S1.P.r .i64 (mapv fptr (delKV n S1.P.held))•bigM (fun _ f=>frc f) S1.P.held•logo S1.P.l S1.L•devo S1.P.d S1.D•R) (by first|exact .refl _|exact .drop|exact .fin|((repeat refine .pick ?_);first|exact .refl _|exact .emp _|exact .fin)) ?_
 exact Imp.right (Imp.right (Imp.left (bigM_del _ n hS1.nd)))
end Go.Proofs.YtbcedpankkdfoaaGreatDoor
/- The program's pool: a page's younger state; walked. Conditions: in each statement. -/
namespace Go.SL.Pool
open Go Go.SL Go.SL.Sec Go.SL.Fld Go.SL.Rec Go.SL.Twn Go.SL.Pg
theorem Sto.Ok.puts {S:Sto} (h:S.Ok) {x:PgM} (hi:x.In):(S.put x).2.Ok:=by
 unfold Sto.put
 split
 ·exact h
 split
 ·exact h
 rename_i c1 c2
 have hx:x.fault = 0:=by omega
 have hf:=PgM.fault_ok hx
 cases hl:S.P.held.lookup x.num with
 | none=>exact h
 | some f =>
  dsimp only
  split
  ·exact h
  ·rename_i c3
   have k:=h.fr _ f hl
   refine Sto.Ok.use h ⟨rfl,hi,?_,?_,?_,k.key,fun _=>⟨hx,?_⟩,?_⟩
   all_goals dsimp only
   all_goals omega
end Go.SL.Pool
namespace Go.Proofs.YtbcedpankkdfoaaGreatDoor
open Go Go.SL Go.SL.Sec Go.SL.Fld Go.SL.Pts Go.SL.Rec Go.SL.Twn Go.SL.Pg Go.SL.Mst Go.SL.Pool
set_option maxHeartbeats 2000000 in
theorem pput0_spec {W:World} {R:HProp} {p:Nat} {S:StoX} {num lsn:Int} {ca ga:Option Addr} {nC cc nG gc:Nat} {C:List CntV} {G:List GrpV} [le:LaidE W] [lc:LaidC W] [lp:LaidP W] [oc:OldC W R] [rc:RowN W R ca nC 5 cntv C] [rg:RowN W R ga nG 2 grpv G] (hC:C.length ≤ 1000000000) (hG:G.length ≤ 1000000000) (hS:S.Ok) (hi:PgM.In ⟨num,lsn,C,G⟩) (hc:0 ≤ S.P.clock ∧ S.P.clock ≤ 1000000000) :
  Does prog W f_z7 ⟨[ptr p,.agg ⟨[.int .i64 num,.int .i64 lsn,.slice ca nC cc,.slice ga nG gc]⟩]⟩ (stoo p S•R) (Ret (StoQ p S (S.val.put ⟨num,lsn,C,G⟩) R)):=by
 have hnd:=hS.nd
 have hok:=hS.val.puts hi
 obtain ⟨T,hT⟩:∃ T,T = S.val.put ⟨num,lsn,C,G⟩:=⟨_,rfl⟩
 rw [← hT] at hok ⊢
 unfold Sto.put at hT
 have epl:S.val.P = S.P.val:=rfl
 have erl:S.val.L.recs.length = S.L.recs.length:=List.length_map ..
 rw [epl,erl] at hT
 dsimp only at hT
 obtain ⟨pl,hpl⟩:∃ e,e = S.P.val.place num:=⟨_,rfl⟩
 obtain ⟨fl,hfl⟩:∃ e,e = PgM.fault ⟨num,lsn,C,G⟩:=⟨_,rfl⟩
 rw [← hpl,← hfl] at hT
 rw [stoo_eq]
 refine f_z7.does _ _ ?_
 conv=>whnf
 by_cases c1:pl = 0
 rotate_left
 ·rw [if_pos c1] at hT
  subst hT
  repeat' (first
   | (refine CallK.ret f_zo.ok (pplace_spec (X:=S.P)) ?_;rw [← hpl];rintro v G ⟨rfl,rfl⟩;conv=>whnf)
   | (rw [decide_eq_false c1];conv=>whnf)
   | (refine Ld.i ?_;conv=>whnf)
   | (intro blk hblk;conv=>whnf))
  exact ⟨_,_,rfl,(by first|exact .refl _|exact .drop|exact .fin|((repeat refine .pick ?_);first|exact .refl _|exact .emp _|exact .fin)),S,hS,.refl S,rfl,rfl,(stoo_eq p S R).symm⟩
 rw [if_neg (fun k=>k c1)] at hT
 by_cases c2:fl = 0
 rotate_left
 ·rw [if_pos c2] at hT
  subst hT
  repeat' (first
   | (refine CallK.ret f_zo.ok (pplace_spec (X:=S.P)) ?_;rw [← hpl,c1];rintro v G ⟨rfl,rfl⟩;conv=>whnf)
   | (refine CallK.ret f_zg.ok (pencode_no (num:=num) (lsn:=lsn) (C:=C) (G:=G) hC hG (by rw [← hfl];exact c2)) ?_;rw [← hfl];rintro v G ⟨rfl,rfl⟩;conv=>whnf)
   | (rw [decide_eq_false c2];conv=>whnf)
   | ((first|refine Ld.i ?_|refine LdN.i ?_);conv=>whnf)
   | (intro blk hblk;conv=>whnf))
  exact ⟨_,_,rfl,(by first|exact .refl _|exact .drop|exact .fin|((repeat refine .pick ?_);first|exact .refl _|exact .emp _|exact .fin)),S,hS,.refl S,rfl,rfl,(stoo_eq p S R).symm⟩
 rw [if_neg (fun k=>k c2)] at hT
 repeat' (first
  | (refine CallK.ret f_zo.ok (pplace_spec (X:=S.P)) ?_;rw [← hpl,c1];rintro v G ⟨rfl,rfl⟩;conv=>whnf)
  | ((first|refine Ld.i ?_|refine LdN.i ?_);conv=>whnf)
  | (intro blk hblk;conv=>whnf))
 refine CallK.ret f_zg.ok (pencode_yes (num:=num) (lsn:=lsn) (C:=C) (G:=G) (by rw [← hfl];exact c2)) ?_
 rintro v G' ⟨ba,bc,hbc,rfl,rfl⟩
 conv=>whnf
 cases hlk:S.P.held.lookup num with
 | none =>
  rw [look_none hlk] at hT
  dsimp only at hT
  subst hT
  repeat' (first
   | (refine Ld.i ?_;conv=>whnf)
   | (refine OpX.of_quiet (OpQ.lkZ tab_ok (MapC.at' (inferInstance:MapC _ S.P.r .i64 (mapv fptr S.P.held) _)) ((mapv_lookup fptr num S.P.held).trans (by rw [hlk];rfl)) rfl rfl rfl rfl rfl ?_);conv=>whnf)
   | (refine DrawK.introH tab_ok mixed 24 f_z7.last7 f_z7.plan7 _ rfl (by kernel_rfl) (Sub.of (by first|exact .refl _|exact .drop|exact .fin|((repeat refine .pick ?_);first|exact .refl _|exact .emp _|exact .fin))) ?_;conv=>whnf))
  exact ⟨_,_,rfl,(by first|exact .refl _|exact .drop|exact .fin|((repeat refine .pick ?_);first|exact .refl _|exact .emp _|exact .fin)),S,hS,.refl S,rfl,rfl,(stoo_eq p S R).symm⟩
 | some f =>
 rw [look_val hlk] at hT
 dsimp only at hT
 have hlv:(mapv fptr S.P.held).lookup num = some (fptr f):=by rw [mapv_lookup,hlk];rfl
 have fk:=hS.val.fr num f.val (look_val hlk)
 haveI rf:∀ (Q:HProp) (k:Nat) (v:Value) [LAt (frv f) k v],RdC W (poolo p S.P•Q) ⟨f.b,k,none⟩ v:=fun Q k v _=>rd_frame hnd hlk
 haveI rl:∀ (Q:HProp) (k m:Nat) (vs:List Value) [LSub (frv f) k m vs],RdLC W (poolo p S.P•Q) f.b k m vs:=fun Q k m vs _=>rdl_frame hnd hlk
 by_cases c3:lsn ≤ f.pg.m.lsn
 ·rw [if_pos (.inl c3)] at hT
  subst hT
  repeat' (first
   | (refine DrawK.introK tab_ok mixed 33 f_z7.last10 f_z7.plan10 rfl (by kernel_rfl) ?_;conv=>whnf)
   | (rw [decide_eq_true c3];conv=>whnf)
   | (refine Ld.i ?_;conv=>whnf)
   | (refine OpX.of_quiet (OpQ.lkA tab_ok (MapC.at' (inferInstance:MapC _ S.P.r .i64 (mapv fptr S.P.held) _)) hlv rfl rfl rfl rfl rfl ?_);conv=>whnf)
   | (refine DrawK.introH tab_ok mixed 24 f_z7.last7 f_z7.plan7 _ rfl (by kernel_rfl) (Sub.of (by first|exact .refl _|exact .drop|exact .fin|((repeat refine .pick ?_);first|exact .refl _|exact .emp _|exact .fin))) ?_;conv=>whnf))
  exact ⟨_,_,rfl,(by first|exact .refl _|exact .drop|exact .fin|((repeat refine .pick ?_);first|exact .refl _|exact .emp _|exact .fin)),S,hS,.refl S,rfl,rfl,(stoo_eq p S R).symm⟩
 by_cases c4:lsn > S.L.recs.length
 ·rw [if_pos (.inr c4)] at hT
  subst hT
  repeat' (first
   | (refine DrawK.introK tab_ok mixed 33 f_z7.last10 f_z7.plan10 rfl (by kernel_rfl) ?_;conv=>whnf)
   | (rw [decide_eq_false c3];conv=>whnf)
   | (refine CallK.ret f_z1w.ok (last_spec (X:=S.L)) ?_;rintro v G ⟨rfl,rfl⟩;conv=>whnf)
   | (rw [decide_eq_true c4];conv=>whnf)
   | (refine Ld.i ?_;conv=>whnf)
   | (refine OpX.of_quiet (OpQ.lkA tab_ok (MapC.at' (inferInstance:MapC _ S.P.r .i64 (mapv fptr S.P.held) _)) hlv rfl rfl rfl rfl rfl ?_);conv=>whnf)
   | (refine Sub.on (by first|exact .refl _|exact .drop|exact .fin|((repeat refine .pick ?_);first|exact .refl _|exact .emp _|exact .fin)) ?_;conv=>whnf)
   | (refine DrawK.introH tab_ok mixed 24 f_z7.last7 f_z7.plan7 _ rfl (by kernel_rfl) (Sub.of (by first|exact .refl _|exact .drop|exact .fin|((repeat refine .pick ?_);first|exact .refl _|exact .emp _|exact .fin))) ?_;conv=>whnf))
  exact ⟨_,_,rfl,(by first|exact .refl _|exact .drop|exact .fin|((repeat refine .pick ?_);first|exact .refl _|exact .emp _|exact .fin)),S,hS,.refl S,rfl,rfl,(stoo_eq p S R).symm⟩
 rw [if_neg (by have:f.val.pg.lsn = f.pg.m.lsn:=rfl;omega)] at hT
 repeat' (first
  | (refine DrawK.introK tab_ok mixed 33 f_z7.last10 f_z7.plan10 rfl (by kernel_rfl) ?_;conv=>whnf)
  | (rw [decide_eq_false c3];conv=>whnf)
  | (refine CallK.ret f_z1w.ok (last_spec (X:=S.L)) ?_;rintro v G ⟨rfl,rfl⟩;conv=>whnf)
  | (rw [decide_eq_false c4];conv=>whnf)
  | ((first|refine Ld.i ?_|refine LdN.i ?_);conv=>whnf)
  | (refine OpX.of_quiet (OpQ.lkA tab_ok (MapC.at' (inferInstance:MapC _ S.P.r .i64 (mapv fptr S.P.held) _)) hlv rfl rfl rfl rfl rfl ?_);conv=>whnf)
  | (refine Sub.on (by first|exact .refl _|exact .drop|exact .fin|((repeat refine .pick ?_);first|exact .refl _|exact .emp _|exact .fin)) ?_;conv=>whnf)
  | (refine DrawK.introH tab_ok mixed 24 f_z7.last7 f_z7.plan7 _ rfl (by kernel_rfl) (Sub.of (by first|exact .refl _|exact .drop|exact .fin|((repeat refine .pick ?_);first|exact .refl _|exact .emp _|exact .fin))) ?_;conv=>whnf))
 refine CallK.ret f_z1y.ok (pcopy_spec (num:=num) (lsn:=lsn) (C:=C) (G:=G) hC hG) ?_
 rintro v G' ⟨x,hx,rfl,rfl⟩
 rw [poolo_eq,bigM_at hnd hlk]
 obtain ⟨sn,hsn⟩:∃ z,z = (if f.dirty then f.since else lsn):=⟨_,rfl⟩
 rw [show f.val.dirty = f.dirty from rfl,show f.val.since = f.since from rfl,← hsn] at hT
 have hxl:x.m.lsn = lsn:=by rw [hx]
 have hxn:x.m.num = num:=by rw [hx]
 have e1:∀ g:FrX,g.b = f.b → mapv fptr (updKV num g S.P.held) = mapv fptr S.P.held:=fun g hg=>by
  rw [mapv_upd]
  refine upd_same num _ _ ?_
  rw [mapv_lookup,hlk]
  show some (fptr f) = some (fptr g)
  unfold fptr
  rw [hg]
 cases hfd:f.dirty with
 | true =>
  rw [hfd] at hsn
  rw [if_pos rfl] at hsn
  conv=>whnf
  repeat' (first
   | (rw [hfd];conv=>whnf)
   | ((first|refine Ld.i ?_|refine St.i ⟨rfl,rfl⟩ (List.cons_ne_nil _ _) ?_);conv=>whnf))
  refine CallK.imp (H':=poolo p (S.P.put num ⟨f.b,x,f.pins,true,sn,f.used⟩)•logo S.P.l S.L•devo S.P.d S.D•R) ?_ ?_
  ·rw [poolo_eq]
   unfold PoolX.put
   dsimp only
   rw [e1 ⟨f.b,x,f.pins,true,sn,f.used⟩ rfl,bigM_upd _ num _ _ hnd,star_assoc,frc_eq]
   subst hsn
   dsimp only
   first|exact .refl _|exact .drop|exact .fin|((repeat refine .pick ?_);first|exact .refl _|exact .emp _|exact .fin)
  refine CallK.ret f_z2c.ok (puse_spec (X:=S.P.put num ⟨f.b,x,f.pins,true,sn,f.used⟩) (n:=num) (f:=⟨f.b,x,f.pins,true,sn,f.used⟩) (upd_nodup num _ _ hS.nd) ((updKV_lookup num _ num S.P.held).trans (if_pos rfl)) (show 0 ≤ S.P.clock ∧ S.P.clock ≤ 4000000000000 by omega)) ?_
  rintro v G' ⟨rfl,rfl⟩
  conv=>whnf
  skip
  have hv:(⟨(S.P.put num ⟨f.b,x,f.pins,true,sn,f.used⟩).use num ⟨f.b,x,f.pins,true,sn,f.used⟩,S.L,S.D⟩:StoX).val = T.2:=by
   rw [hT]
   unfold StoX.val
   dsimp only
   rw [use_val,put_val]
   unfold PoolM.use PoolM.put FrX.val
   dsimp only
   rw [upd_upd,hx]
  refine ⟨_,_,rfl,?_,⟨(S.P.put num ⟨f.b,x,f.pins,true,sn,f.used⟩).use num ⟨f.b,x,f.pins,true,sn,f.used⟩,S.L,S.D⟩,⟨by rw [hv];exact hok,hS.L,hS.D,hS.ld⟩,(StoX.Same.refl S).trans ⟨rfl,rfl⟩,hv,by rw [hT],rfl⟩
  refine Imp.stoo (l:=S.P.l) (d:=S.P.d) (by rfl) (by rfl) ?_
  dsimp only
  first|exact .refl _|exact .drop|exact .fin|((repeat refine .pick ?_);first|exact .refl _|exact .emp _|exact .fin)
 | false =>
  rw [hfd] at hsn
  rw [if_neg (by decide)] at hsn
  conv=>whnf
  repeat' (first
   | (rw [hfd];conv=>whnf)
   | (refine DrawK.introH tab_ok mixed 61 f_z7.last14 f_z7.plan14 (pts blk (.cells ⟨[.int .i64 num,.int .i64 lsn,.slice ca nC cc,.slice ga nG gc]⟩ t_page_Page)•emp) rfl (by kernel_rfl) (Sub.of (by first|exact .refl _|exact .drop|exact .fin|((repeat refine .pick ?_);first|exact .refl _|exact .emp _|exact .fin))) ?_;conv=>whnf)
   | ((first|refine Ld.i ?_|refine St.i ⟨rfl,rfl⟩ (List.cons_ne_nil _ _) ?_);conv=>whnf)
   | (refine Sub.on (by first|exact .refl _|exact .drop|exact .fin|((repeat refine .pick ?_);first|exact .refl _|exact .emp _|exact .fin)) ?_;conv=>whnf))
  refine CallK.imp (H':=poolo p (S.P.put num ⟨f.b,x,f.pins,true,sn,f.used⟩)•logo S.P.l S.L•devo S.P.d S.D•R) ?_ ?_
  ·rw [poolo_eq]
   unfold PoolX.put
   dsimp only
   rw [e1 ⟨f.b,x,f.pins,true,sn,f.used⟩ rfl,bigM_upd _ num _ _ hnd,star_assoc,frc_eq]
   subst hsn
   dsimp only
   first|exact .refl _|exact .drop|exact .fin|((repeat refine .pick ?_);first|exact .refl _|exact .emp _|exact .fin)
  refine CallK.ret f_z2c.ok (puse_spec (X:=S.P.put num ⟨f.b,x,f.pins,true,sn,f.used⟩) (n:=num) (f:=⟨f.b,x,f.pins,true,sn,f.used⟩) (upd_nodup num _ _ hS.nd) ((updKV_lookup num _ num S.P.held).trans (if_pos rfl)) (show 0 ≤ S.P.clock ∧ S.P.clock ≤ 4000000000000 by omega)) ?_
  rintro v G' ⟨rfl,rfl⟩
  conv=>whnf
  skip
  have hv:(⟨(S.P.put num ⟨f.b,x,f.pins,true,sn,f.used⟩).use num ⟨f.b,x,f.pins,true,sn,f.used⟩,S.L,S.D⟩:StoX).val = T.2:=by
   rw [hT]
   unfold StoX.val
   dsimp only
   rw [use_val,put_val]
   unfold PoolM.use PoolM.put FrX.val
   dsimp only
   rw [upd_upd,hx]
  refine ⟨_,_,rfl,?_,⟨(S.P.put num ⟨f.b,x,f.pins,true,sn,f.used⟩).use num ⟨f.b,x,f.pins,true,sn,f.used⟩,S.L,S.D⟩,⟨by rw [hv];exact hok,hS.L,hS.D,hS.ld⟩,(StoX.Same.refl S).trans ⟨rfl,rfl⟩,hv,by rw [hT],rfl⟩
  refine Imp.stoo (l:=S.P.l) (d:=S.P.d) (by rfl) (by rfl) ?_
  dsimp only
  first|exact .refl _|exact .drop|exact .fin|((repeat refine .pick ?_);first|exact .refl _|exact .emp _|exact .fin)
end Go.Proofs.YtbcedpankkdfoaaGreatDoor
namespace Go.SL.Pool
open Go Go.SL Go.SL.Sec Go.SL.Fld Go.SL.Rec Go.SL.Twn Go.SL.Pg
theorem Sto.Ok.unpin {S:Sto} (h:S.Ok) (n:Int):(S.unpin n).2.Ok:=by
 unfold Sto.unpin
 split
 ·exact h
 cases hl:S.P.held.lookup n with
 | none=>exact h
 | some f =>
  dsimp only
  split
  ·exact h
  ·have k:=h.fr n f hl
   refine Sto.Ok.put h ⟨k.num,k.pin,k.C,k.G,k.lsn,k.key,k.dirty,k.used⟩ fun m g hm hu=>?_
   exact h.us m n g f hm hl hu
end Go.SL.Pool
/- The program's pool: its calls' answers; Put, Unpin, Evict, Flush; walked. Conditions: in each statement. -/
namespace Go.Proofs.YtbcedpankkdfoaaGreatDoor
open Go Go.SL Go.SL.Sec Go.SL.Fld Go.SL.Pts Go.SL.Rec Go.SL.Twn Go.SL.Pg Go.SL.Mst Go.SL.Pool
def ErrR (w:ByteArray) (n e:Int) (R:HProp) (v:Value) (G:HProp):Prop:=(e = 0 ∧ v = .nilIface ∧ G = R) ∨ (e ≠ 0 ∧ ∃ b,v = .iface t_z8 (ptr b) ∧ G = (fltc b w n e•R))
theorem presult_spec {W:World} {R:HProp} {w:ByteArray} {n e:Int}:Does prog W f_z36 ⟨[.string w,.int .i64 n,.int .i64 e]⟩ R (Ret (ErrR w n e R)):=by
 refine f_z36.does _ _ _ ?_
 conv=>whnf
 by_cases c:e = 0
 ·subst c
  skip
  exact ⟨_,_,rfl,Imp.refl _,.inl ⟨rfl,rfl,rfl⟩⟩
 ·repeat' (first
   | (rw [decide_eq_false c];conv=>whnf)
   | (intro blk hblk;conv=>whnf))
  exact ⟨_,_,rfl,Imp.refl _,.inr ⟨c,_,rfl,rfl⟩⟩
def StoE (p:Nat) (S:StoX) (w:ByteArray) (n:Int) (T:Int × Sto) (R:HProp) (v:Value) (G:HProp):Prop:=∃ S':StoX,S'.Ok ∧ S.Same S' ∧ S'.val = T.2 ∧ ErrR w n T.1 (stoo p S'•R) v G
abbrev wGet:ByteArray:=⟨#[71,101,116]⟩
abbrev wPut:ByteArray:=⟨#[80,117,116]⟩
abbrev wPin:ByteArray:=⟨#[80,105,110]⟩
abbrev wEvict:ByteArray:=⟨#[69,118,105,99,116]⟩
abbrev wFlush:ByteArray:=⟨#[70,108,117,115,104]⟩
set_option maxHeartbeats 1000000 in
theorem pput_spec {W:World} {R:HProp} {p:Nat} {S:StoX} {num lsn:Int} {ca ga:Option Addr} {nC cc nG gc:Nat} {C:List CntV} {G:List GrpV} [le:LaidE W] [lc:LaidC W] [lp:LaidP W] [oc:OldC W R] [rc:RowN W R ca nC 5 cntv C] [rg:RowN W R ga nG 2 grpv G] (hC:C.length ≤ 1000000000) (hG:G.length ≤ 1000000000) (hS:S.Ok) (hi:PgM.In ⟨num,lsn,C,G⟩) (hc:0 ≤ S.P.clock ∧ S.P.clock ≤ 1000000000) :
  Does prog W f_z1p ⟨[ptr p,.agg ⟨[.int .i64 num,.int .i64 lsn,.slice ca nC cc,.slice ga nG gc]⟩]⟩ (stoo p S•R) (Ret (StoE p S wPut num (S.val.put ⟨num,lsn,C,G⟩) R)):=by
 refine f_z1p.does _ _ ?_
 conv=>whnf
 repeat' (first
  | (refine DrawK.introH tab_ok mixed 5 f_z1p.last1 f_z1p.plan1 (pts blk (.cells ⟨[.int .i64 num,.int .i64 lsn,.slice ca nC cc,.slice ga nG gc]⟩ t_page_Page)•emp) rfl (by kernel_rfl) (Sub.of (by first|exact .refl _|exact .drop|exact .fin|((repeat refine .pick ?_);first|exact .refl _|exact .emp _|exact .fin))) ?_;conv=>whnf)
  | ((first|refine Ld.i ?_|refine LdN.i ?_);conv=>whnf)
  | (intro blk hblk;conv=>whnf))
 refine CallK.imp (H':=stoo p S•pts blk (.cells ⟨[.int .i64 num,.int .i64 lsn,.slice ca nC cc,.slice ga nG gc]⟩ t_page_Page)•R) (by first|exact .refl _|exact .drop|exact .fin|((repeat refine .pick ?_);first|exact .refl _|exact .emp _|exact .fin)) ?_
 refine CallK.ret f_z7.ok (pput0_spec hC hG hS hi hc) ?_
 rintro v G' ⟨S1,hS1,hs1,hv1,rfl,rfl⟩
 conv=>whnf
 repeat' (first
  | (refine CallK.ret f_z36.ok (presult_spec (w:=wPut)) ?_;rintro v G' hE;conv=>whnf)
  | (refine Sub.on (by first|exact .refl _|exact .drop|exact .fin|((repeat refine .pick ?_);first|exact .refl _|exact .emp _|exact .fin)) ?_;conv=>whnf))
 rcases hE with ⟨h1,rfl,rfl⟩|⟨h1,b,rfl,rfl⟩
 ·exact ⟨_,_,rfl,(by first|exact .refl _|exact .drop|exact .fin|((repeat refine .pick ?_);first|exact .refl _|exact .emp _|exact .fin)),S1,hS1,hs1,hv1,.inl ⟨h1,rfl,rfl⟩⟩
 ·exact ⟨_,_,rfl,(by first|exact .refl _|exact .drop|exact .fin|((repeat refine .pick ?_);first|exact .refl _|exact .emp _|exact .fin)),S1,hS1,hs1,hv1,.inr ⟨h1,_,rfl,rfl⟩⟩
theorem punpin_spec {W:World} {R:HProp} {p:Nat} {S:StoX} {n:Int} (hS:S.Ok) (hp:∀ f,S.P.held.lookup n = some f → -1000000000 ≤ f.pins ∧ f.pins ≤ 1000000000) :
  Does prog W f_z32 ⟨[ptr p,.int .i64 n]⟩ (stoo p S•R) (Ret (StoQ p S (S.val.unpin n) R)):=by
 have hnd:=hS.nd
 have hok:=hS.val.unpin n
 obtain ⟨T,hT⟩:∃ T,T = S.val.unpin n:=⟨_,rfl⟩
 rw [← hT] at hok ⊢
 unfold Sto.unpin at hT
 have epl:S.val.P = S.P.val:=rfl
 rw [epl] at hT
 obtain ⟨pl,hpl⟩:∃ e,e = S.P.val.place n:=⟨_,rfl⟩
 rw [← hpl] at hT
 rw [stoo_eq]
 refine f_z32.does _ _ ?_
 conv=>whnf
 by_cases c1:pl = 0
 rotate_left
 ·rw [if_pos c1] at hT
  subst hT
  repeat' (first
   | (refine CallK.ret f_zo.ok (pplace_spec (X:=S.P)) ?_;rw [← hpl];rintro v G ⟨rfl,rfl⟩;conv=>whnf)
   | (rw [decide_eq_false c1];conv=>whnf))
  exact ⟨_,_,rfl,Imp.refl _,S,hS,.refl S,rfl,rfl,(stoo_eq p S R).symm⟩
 rw [if_neg (fun k=>k c1)] at hT
 cases hlk:S.P.held.lookup n with
 | none =>
  rw [look_none hlk] at hT
  dsimp only at hT
  subst hT
  repeat' (first
   | (refine CallK.ret f_zo.ok (pplace_spec (X:=S.P)) ?_;rw [← hpl,c1];rintro v G ⟨rfl,rfl⟩;conv=>whnf)
   | (refine Ld.i ?_;conv=>whnf)
   | (refine OpX.of_quiet (OpQ.lkZ tab_ok (MapC.at' (inferInstance:MapC _ S.P.r .i64 (mapv fptr S.P.held) _)) ((mapv_lookup fptr n S.P.held).trans (by rw [hlk];rfl)) rfl rfl rfl rfl rfl ?_);conv=>whnf))
  exact ⟨_,_,rfl,Imp.refl _,S,hS,.refl S,rfl,rfl,(stoo_eq p S R).symm⟩
 | some f =>
 rw [look_val hlk] at hT
 dsimp only at hT
 rw [show f.val.pins = f.pins from rfl] at hT
 have hpi:=hp f hlk
 by_cases c2:f.pins = 0
 ·rw [if_pos c2] at hT
  subst hT
  repeat' (first
   | (refine CallK.ret f_zo.ok (pplace_spec (X:=S.P)) ?_;rw [← hpl,c1];rintro v G ⟨rfl,rfl⟩;rw [poolo_eq,bigM_at hnd hlk];conv=>whnf)
   | (rw [decide_eq_true c2];conv=>whnf)
   | ((first|refine Ld.i ?_|refine OpX.lks tab_ok hlk rfl rfl rfl rfl rfl ?_);conv=>whnf))
  refine ⟨_,_,rfl,?_,S,hS,.refl S,rfl,rfl,rfl⟩
  rw [stoo_eq,poolo_eq,bigM_at hnd hlk]
  first|exact .refl _|exact .drop|exact .fin|((repeat refine .pick ?_);first|exact .refl _|exact .emp _|exact .fin)
 rw [if_neg c2] at hT
 repeat' (first
  | (refine CallK.ret f_zo.ok (pplace_spec (X:=S.P)) ?_;rw [← hpl,c1];rintro v G ⟨rfl,rfl⟩;rw [poolo_eq,bigM_at hnd hlk];conv=>whnf)
  | (rw [decide_eq_false c2];conv=>whnf)
  | ((first|refine Ld.i ?_|refine St.i ⟨rfl,rfl⟩ (List.cons_ne_nil _ _) ?_|refine Ar.i64 (by omega) ?_|refine OpX.lks tab_ok hlk rfl rfl rfl rfl rfl ?_);conv=>whnf))
 have hv:(⟨S.P.put n { f with pins:=f.pins - 1 },S.L,S.D⟩:StoX).val = T.2:=by
  unfold StoX.val
  dsimp only
  rw [put_val,hT]
  rfl
 have e1:mapv fptr (updKV n { f with pins:=f.pins - 1 } S.P.held) = mapv fptr S.P.held:=by
  rw [mapv_upd]
  refine upd_same n _ _ ?_
  rw [mapv_lookup,hlk];rfl
 refine ⟨_,_,rfl,?_,⟨S.P.put n { f with pins:=f.pins - 1 },S.L,S.D⟩,⟨by rw [hv];exact hok,hS.L,hS.D,hS.ld⟩,⟨rfl,rfl⟩,hv,by rw [hT],rfl⟩
 refine Imp.stoo (l:=S.P.l) (d:=S.P.d) (by rfl) (by rfl) ?_
 rw [poolo_eq]
 unfold PoolX.put
 dsimp only
 rw [e1,bigM_upd _ n _ _ hnd,star_assoc,frc_eq]
 first|exact .refl _|exact .drop|exact .fin|((repeat refine .pick ?_);first|exact .refl _|exact .emp _|exact .fin)
def ThereQ (n:Int) (X:PoolX) (v:Value):Prop:=(X.val.there n = 0 ∧ ∃ f,X.held.lookup n = some f ∧ v = .tuple ⟨[ptr f.b,i0]⟩) ∨ (X.val.there n ≠ 0 ∧ v = .tuple ⟨[.pointer none,.int .i64 (X.val.there n)]⟩)
end Go.Proofs.YtbcedpankkdfoaaGreatDoor
