/- The generator's operations are sound. No condition. -/
import Derived.Test.YtbcedpankkdfoaaGreatDoorPart0
import Derived.Laws.CopyRow
set_option linter.unusedVariables false
set_option linter.unusedSimpArgs false
namespace Go.SL
open Go

section
variable {P:Program} {W:World} {T:Tab} {a:Act} {w:World} {H:HProp} {fr:Fr}

theorem Upon.value {o:Oper} {next:Act → World → Prop} {Q:Exit → Act → World → Prop} {v:Value} {w':World}
  (h:(execOp a.eval o).run P w = .ok (.value v) w') (hn:next (a.put o.dst v) w'):o.wp P a w next Q:=by
 simp only [Oper.wp,h];exact hn
theorem Upon.skip {o:Oper} {next:Act → World → Prop} {Q:Exit → Act → World → Prop} {w':World}
  (h:(execOp a.eval o).run P w = .ok .skip w') (hn:next (a.put o.dst undef) w'):o.wp P a w next Q:=by
 simp only [Oper.wp,h];exact hn
theorem Upon.panic {o:Oper} {next:Act → World → Prop} {Q:Exit → Act → World → Prop} {v:Value} {w':World}
  (h:(execOp a.eval o).run P w = .halt (.panic v) w') (hn:Q (.panic [{ v,recovered:=false }]) a w'):o.wp P a w next Q:=by
 simp only [Oper.wp,h];exact hn

theorem evs_elim {ev:Operand → Option Value}:∀ (xs:List Operand) (K:List Value → Prop),evs ev xs K →
  ∃ l,(∀ ρ:Operand → Value,(∀ x v,ev x = some v → ρ x = v) → xs.map ρ = l) ∧ K l
 | [],_,h=>⟨[],fun _ _=>rfl,h⟩
 | x :: xs,K,h=>by
  simp only [evs] at h
  split at h
  ·rename_i v hv
   obtain ⟨l,hl,hk⟩:=evs_elim xs _ h
   exact ⟨v :: l,fun ρ he=>by rw [List.map_cons,he x v hv,hl ρ he],hk⟩
  ·exact h.elim
theorem takeL_elim:∀ (cs:List Value) (k n:Nat) (K:List Value → Prop),takeL cs k n K → K ((cs.drop k).take n) ∧ k + n ≤ cs.length
 | [],0,0,_,h=>by simpa [takeL] using h
 | c :: cs,0,0,_,h=>by simpa [takeL] using h
 | [],0,n + 1,_,h=>by simp [takeL] at h
 | [],k + 1,n,_,h=>by simp [takeL] at h
 | c :: cs,0,n + 1,K,h=>by
  simp only [takeL] at h
  have:=takeL_elim cs 0 n _ h
  simp only [List.drop_zero] at this
  simp only [List.drop_zero,List.take_succ_cons,List.length_cons]
  exact ⟨this.1,by omega⟩
 | c :: cs,k + 1,n,K,h=>by
  cases n with
  | zero =>
   simp only [takeL] at h
   have:=takeL_elim cs k 0 _ h
   simp only [List.drop_succ_cons,List.length_cons]
   exact ⟨this.1,by omega⟩
  | succ n =>
   simp only [takeL] at h
   have:=takeL_elim cs k (n + 1) _ h
   simp only [List.drop_succ_cons,List.length_cons]
   exact ⟨this.1,by omega⟩

theorem TRow.size_run {t:TypeId} {r:TRow} (h:r.ok P t):(sizeOf t).run P w = .ok r.size w:=by
 obtain ⟨i,hi,hs,_⟩:=h.info
 simp [sizeOf,typeInfo,hi,hs]
theorem TRow.zero_run {t:TypeId} {r:TRow} (h:r.ok P t) :
  ∃ z,(zeroValue t).run P w = .ok z w ∧ z.cells = ⟨r.cells⟩:=by
 obtain ⟨i,hi,_,_,hz,ho⟩:=h.info
 refine ⟨_,by simp [zeroValue,typeInfo,hi,hz];rfl,?_⟩
 cases hr:r.agg with
 | true=>simp [Value.cells]
 | false =>
  obtain ⟨z,e,e'⟩:=ho hr
  simp [e,e']
theorem TRow.agg_run {t:TypeId} {r:TRow} (h:r.ok P t):(isAgg t).run P w = .ok r.agg w:=by
 simp only [isAgg,Sem.run_bind,run_underlying h.und,Result.andThen_ok,h.agg]
 cases r.und <;> rfl

theorem setL_elim:∀ (cs:List Value) (k:Nat) (vs:List Value) (K:List Value → Prop),setL cs k vs K → K (cs.take k ++ vs ++ cs.drop (k + vs.length)) ∧ k + vs.length ≤ cs.length ∨ vs = [] ∧ K cs
 | cs,k,[],K,h=>by simp only [setL] at h;exact .inr ⟨rfl,h⟩
 | [],k,v :: vs,K,h=>by simp [setL] at h
 | c :: cs,0,v :: vs,K,h=>by
  simp only [setL] at h
  left
  rcases setL_elim cs 0 vs _ h with ⟨h,hl⟩|⟨rfl,h⟩
  ·simp only [List.take_zero,List.nil_append,Nat.zero_add] at h
   simp only [List.take_zero,List.nil_append,Nat.zero_add,List.length_cons,List.drop_succ_cons,List.cons_append]
   exact ⟨h,by omega⟩
  ·simpa [setL] using h
 | c :: cs,n + 1,v :: vs,K,h=>by
  simp only [setL] at h
  left
  rcases setL_elim cs n (v :: vs) _ h with ⟨h,hl⟩|⟨h,_⟩
  ·have e:n + 1 + (v :: vs).length = (n + (v :: vs).length) + 1:=by omega
   rw [e,List.drop_succ_cons,List.take_succ_cons]
   exact ⟨by simpa using h,by simp only [List.length_cons] at hl ⊢;omega⟩
  ·cases h
theorem St.lit {vs:List Value} {b off:Nat} {K:HProp → Prop} {l:List Value} {T:TypeId} {R:HProp}
  (ht:Take H (pts b (.cells ⟨l⟩ T (0,0))) R) (hne:vs ≠ []) (h:setL l off vs fun l'=>K (pts b (.cells ⟨l'⟩ T (0,0))•R)):St P W H ⟨b,off,none⟩ vs K:=by
 refine ⟨fun w hs hv=>?_⟩
 rw [ht.eq] at hs
 rcases setL_elim l off vs _ h with ⟨hk,hle⟩|⟨h,_⟩
 ·refine ⟨_,_,run_storeCells_at (P:=P) b off T vs 0 ⟨l⟩ w hs.at (by simpa using hle) hv,?_,hk⟩
  refine hs.set _ ⟨rfl,rfl,rfl,by simp [World.setRow]⟩ ?_ ?_
  ·have:=setRow_heap w b ⟨l⟩ (List.take off l ++ vs ++ List.drop (off + vs.length) l).toArray T (0,0) hs.at
   simpa using this
  ·intro k hk
   simp [World.setRow,Array.getElem?_modify,Ne.symm hk]
 ·exact (hne h).elim

theorem Ld.run {ad:Addr} {v:Value} (hr:Rd W H ad v) (hs:Sat W H w):(load ad).run P w = .ok v w:=by simp [run_load,hr w hs]
theorem LdN.run {ad:Addr} {n:Nat} {vs:List Value} (hn:vs.length = n) (hr:∀ i v,vs[i]? = some v → Rd W H (ad.add i) v) (hs:Sat W H w) :
  (loadCells ad n).run P w = .ok ⟨vs⟩ w:=by
 subst hn
 have:=run_loadCells_list (P:=P) (w:=w) ad vs (fun j v hj=>hr j v hj w hs)
 simpa using this
theorem Ld.sound {ad:Addr} {K:Value → Prop} (h:Ld W H ad K) (hs:Sat W H w):∃ v,(load ad).run P w = .ok v w ∧ K v:=by
 obtain ⟨v,hr,hk⟩:=h.ex
 exact ⟨v,Ld.run hr hs,hk⟩
theorem LdN.sound {ad:Addr} {n:Nat} {K:Value → Prop} (h:LdN W H ad n K) (hs:Sat W H w) :
  ∃ vs:Array Value,(loadCells ad n).run P w = .ok vs w ∧ K (.agg vs):=by
 obtain ⟨vs,hn,hr,hk⟩:=h.ex
 exact ⟨⟨vs⟩,LdN.run hn hr hs,hk⟩

theorem foldl_setIf (k:Nat):∀ (vs:List Value) (i:Nat) (a:Array Value),k + i + vs.length ≤ a.size →
  (vs.zipIdx i).foldl (fun (cs:Array Value) (x:Value × Nat)=>cs.setIfInBounds (k + x.2) x.1) a = ⟨a.toList.take (k + i) ++ vs ++ a.toList.drop (k + i + vs.length)⟩:=by
 intro vs
 induction vs with
 | nil=>intro i a _;simp
 | cons v vs ih =>
  intro i a hl
  simp only [List.length_cons] at hl
  simp only [List.zipIdx_cons,List.foldl_cons]
  rw [ih (i + 1) _ (by simp;omega)]
  have h1:(a.setIfInBounds (k + i) v).toList.take (k + (i + 1)) = a.toList.take (k + i) ++ [v]:=by
   rw [Array.toList_setIfInBounds,show k + (i + 1) = (k + i) + 1 by omega,List.take_succ_eq_append_getElem (by simp;omega),List.take_set_of_le (Nat.le_refl _)]
   simp
  have h2:(a.setIfInBounds (k + i) v).toList.drop (k + (i + 1) + vs.length) = a.toList.drop (k + i + (v :: vs).length):=by
   rw [Array.toList_setIfInBounds,List.drop_set_of_lt (by omega),List.length_cons]
   congr 1;omega
  rw [h1,h2];simp
theorem setL_spec (cs:List Value) (k:Nat) (vs:List Value) (K:List Value → Prop) (hle:k + vs.length ≤ cs.length) (h:setL cs k vs K) :
  ∃ cs',vs.zipIdx.foldl (fun (cs:Array Value) (x:Value × Nat)=>cs.setIfInBounds (k + x.2) x.1) ⟨cs⟩ = ⟨cs'⟩ ∧ K cs':=by
 refine ⟨_,foldl_setIf k vs 0 ⟨cs⟩ (by simpa using hle),?_⟩
 rcases setL_elim cs k vs K h with ⟨h,_⟩|⟨rfl,h⟩
 ·simpa using h
 ·simpa [setL] using h
theorem fillK_elim {ev:Operand → Option Value} {place:Nat → Option (Nat × Nat)}:∀ (ps:List (Nat × Operand)) (cs:List Value) (K:List Value → Prop),fillK ev place ps cs K →
  ∃ l,(∀ ρ:Operand → Value,(∀ x v,ev x = some v → ρ x = v) → Instr.fill place ⟨cs⟩ (ps.map fun p=>(p.1,ρ p.2)) = some ⟨l⟩) ∧ K l
 | [],cs,K,h=>⟨cs,fun _ _=>rfl,h⟩
 | (i,x) :: ps,cs,K,h=>by
  simp only [fillK] at h
  split at h
  ·rename_i off size v hp hv
   obtain ⟨l,hl,h⟩:=cellsK_elim h
   obtain ⟨hlen,h⟩:=beqK_elim h
   obtain ⟨hle,h⟩:=bleK_elim h
   obtain ⟨cs',hcs,h⟩:=setL_spec _ _ _ _ hle h
   obtain ⟨l',hl',hk⟩:=fillK_elim ps cs' K h
   refine ⟨l',fun ρ he=>?_,hk⟩
   simp only [List.map_cons,Instr.fill,hp,he x v hv,hl]
   have hf:=hl' ρ he
   rw [if_neg (by simp [hlen];omega)]
   rw [← hf,← hcs]
   simp
  ·exact h.elim
def placeOf (f:Field):Sem (Nat × Nat):=do Pure.pure (f.offset,← sizeOf f.type)
theorem placesK_elim (hT:T.ok P):∀ (fs:List Field) (K:List (Nat × Nat) → Prop),placesK T fs K →
  ∃ ps,(∀ w,(fs.mapM placeOf).run P w = .ok ps w) ∧ K ps
 | [],K,h=>⟨[],fun _=>rfl,h⟩
 | ⟨nm,ft,off,emb,tag,pp,bo⟩ :: fs,K,h=>by
  simp only [placesK] at h
  split at h
  ·rename_i und cells agg size bytes hr
   obtain ⟨ps,hp,hk⟩:=placesK_elim hT fs _ h
   have hsz:=fun w:World=>TRow.size_run (P:=P) (w:=w) (hT _ _ hr)
   exact ⟨_,fun w=>by simp only [List.mapM_cons,placeOf,Sem.run_bind,hsz w,Sem.run_pure,Result.andThen_ok];rw [hp w];rfl,hk⟩
  ·exact h.elim
theorem appK_elim:∀ (z l:List Value) (K:List Value → Prop),repK.appK z l K → K (z ++ l)
 | [],_,_,h=>h
 | x :: z,l,K,h=>by
  simp only [repK.appK] at h
  exact appK_elim z l _ h
theorem repK_elim (z:List Value):∀ (n:Nat) (K:List Value → Prop),repK z n K → K (List.replicate n z).flatten
 | 0,_,h=>h
 | n + 1,K,h=>by
  simp only [repK] at h
  have:=appK_elim _ _ _ (repK_elim z n _ h)
  simpa [List.replicate_succ] using this
theorem rep_eq (z:List Value) (n:Nat):((Array.range (n * z.length)).map fun i=>(⟨z⟩:Array Value)[i % z.length]!) = ⟨(List.replicate n z).flatten⟩:=by
 apply Array.ext'
 simp only [Array.toList_map,Array.toList_range]
 induction n with
 | zero=>simp
 | succ n ih =>
  rw [List.replicate_succ,List.flatten_cons,Nat.succ_mul,Nat.add_comm,List.range_add,List.map_append,List.map_map]
  congr 1
  ·apply List.ext_getElem
   ·simp
   ·intro i h1 h2
    simp at h1 h2 ⊢
    rw [Nat.mod_eq_of_lt h2]
    simp [h2]
  ·rw [← ih]
   apply List.map_congr_left
   intro i _
   simp

theorem equal_of {t:TypeId} {u v:Value} {z:Bool} (h:∀ d,(Op.equalIn (d + 1) t u v).run P w = .ok z w):(Op.equal t u v).run P w = .ok z w:=h 9999
theorem zK_elim {P:Program} {T:Tab} (hT:T.ok P) {t:TypeId} {r:TRow} (hr:T t = some r) {K:Value → Prop} (h:zK r K):∃ z,(∀ w,(zeroValue t).run P w = .ok z w) ∧ K z:=by
 obtain ⟨und,cells,agg,size,bytes⟩:=r
 obtain ⟨i,hi,_,_,hz,_⟩:=(hT _ _ hr).info
 cases agg with
 | true=>exact ⟨_,fun w=>by simp [zeroValue,typeInfo,hi,hz],h⟩
 | false =>
  cases cells with
  | nil=>exact h.elim
  | cons z zs=>exact ⟨_,fun w=>by simp [zeroValue,typeInfo,hi,hz],h⟩
theorem eqvK_elim {t:TypeId} {d:TypeDesc} (hu:P.underlying t = some d) {x y:Operand} {u v:Value} {K:Bool → Prop} {X:Prop}
  (h:eqvK d (match isCst x with|true=>true|false=>isCst y) u v K X) :
  X ∨ ∃ z,K z ∧ (∀ w,(Op.equal t u v).run P w = .ok z w) ∧ (∀ w op,(eqGuard op t x y u v).run P w = .ok () w) ∧
   (∀ w,(binOp .eql t u v).run P w = ((Op.equal t u v).run P w).andThen fun z w=>.ok (.bool z) w) ∧ (∀ w,(binOp .neq t u v).run P w = ((Op.equal t u v).run P w).andThen fun z w=>.ok (.bool (!z)) w):=by
 have tru:∀ (op:BinOp),(isCst x = true ∨ isCst y = true) → eqGuard op t x y .nilIface .nilIface = Pure.pure ():=by
  intro op h
  cases op <;> first|rfl|(cases x <;> cases y <;> first|rfl|(simp [isCst] at h))
 unfold eqvK at h
 split at h
 ·rename_i a b;exact .inr ⟨_,h,fun w=>equal_of fun d=>by simp [Op.equalIn,run_underlying hu],fun w op=>by simp [go_sem],fun w=>by simp [binOp],fun w=>by simp [binOp]⟩
 ·rename_i e a;exact .inr ⟨_,h,fun w=>equal_of fun d=>by simp [Op.equalIn,run_underlying hu],fun w op=>by simp [go_sem],fun w=>by simp [binOp],fun w=>by simp [binOp]⟩
 ·rename_i e a hne;exact .inr ⟨_,h,fun w=>equal_of fun d=>by cases a <;> simp [Op.equalIn,run_underlying hu],fun w op=>by simp [go_sem],fun w=>by simp [binOp],fun w=>by simp [binOp]⟩
 ·exact .inr ⟨_,h,fun w=>equal_of fun d=>by simp [Op.equalIn,run_underlying hu],fun w op=>by simp [go_sem],fun w=>by simp [binOp],fun w=>by simp [binOp]⟩
 ·rename_i e a n c n' c' hne;exact .inr ⟨_,h,fun w=>equal_of fun d=>by cases a <;> simp [Op.equalIn,run_underlying hu],fun w op=>by simp [go_sem],fun w=>by simp [binOp],fun w=>by simp [binOp]⟩
 ·exact .inr ⟨_,h,fun w=>equal_of fun d=>by simp [Op.equalIn,run_underlying hu],fun w op=>by simp [go_sem],fun w=>by simp [binOp],fun w=>by simp [binOp]⟩
 ·rename_i e a f hne;exact .inr ⟨_,h,fun w=>equal_of fun d=>by cases f <;> simp [Op.equalIn,run_underlying hu],fun w op=>by simp [go_sem],fun w=>by simp [binOp],fun w=>by simp [binOp]⟩
 ·exact .inr ⟨_,h,fun w=>equal_of fun d=>by simp [Op.equalIn,run_underlying hu],fun w op=>by simp [go_sem],fun w=>by simp [binOp],fun w=>by simp [binOp]⟩
 ·exact .inr ⟨_,h,fun w=>equal_of fun d=>by simp [Op.equalIn,run_underlying hu],fun w op=>by simp [go_sem],fun w=>by simp [binOp],fun w=>by simp [binOp]⟩
 ·exact .inr ⟨_,h,fun w=>equal_of fun d=>by simp [Op.equalIn,run_underlying hu],fun w op=>by simp [go_sem],fun w=>by simp [binOp],fun w=>by simp [binOp]⟩
 ·split at h
  ·rename_i hc
   refine .inr ⟨_,h,fun w=>equal_of fun d=>by simp [Op.equalIn,run_underlying hu],fun w op=>?_,fun w=>by simp [binOp],fun w=>by simp [binOp]⟩
   rw [tru op (by revert hc;cases isCst x <;> simp)];rfl
  ·exact .inl h
 ·exact .inl h

theorem opK_quiet {o:Op} {ty:TypeId} {ev:Operand → Option Value} {K:Value → HProp → Prop} {Kp:List PanicEntry → HProp → Prop} {X:Prop}
  (hT:T.ok P) (hw:∃ w,Sat W H w) (hq:quietOp o = true) (h:opK P W T o ty ev H K Kp X):X ∨ ∃ v,Runs P W o ty ev H v ∧ K v H:=by
 have pureOp:∀ v,(∀ w (ρ:Operand → Value) dst pos after guard,Sat W H w → (∀ x v,ev x = some v → ρ x = v) → (execOp ρ ⟨dst,o,ty,pos,after,guard⟩).run P w = .ok (.value v) w) → K v H →
   X ∨ ∃ v,Runs P W o ty ev H v ∧ K v H:=fun v hr hk=>.inr ⟨v,fun w ρ hs he o' h1 h2=>by
  obtain ⟨dst,op,ty,pos,after,guard⟩:=o'
  simp only at h1 h2
  subst h1 h2
  exact hr w ρ dst pos after guard hs he,hk⟩
 cases o with
 | move x =>
  simp only [opK] at h
  split at h
  ·rename_i v hv;exact pureOp v (fun w ρ dst pos after guard hs he=>by simp [execOp,he x v hv]) h
  ·exact h.elim
 | assign x =>
  simp only [opK] at h
  split at h
  ·rename_i v hv;exact pureOp v (fun w ρ dst pos after guard hs he=>by simp [execOp,he x v hv]) h
  ·exact h.elim
 | pick c x y =>
  simp only [opK] at h
  split at h
  ·rename_i t ht
   rcases spl_elim h with ⟨rfl,h⟩|⟨rfl,h⟩
   ·cases hv:ev x with
    | some v=>rw [hv] at h;exact pureOp v (fun w ρ dst pos after guard hs he=>by simp [execOp,he _ _ ht,he _ _ hv,asBool]) h
    | none=>rw [hv] at h;exact h.elim
   ·cases hv:ev y with
    | some v=>rw [hv] at h;exact pureOp v (fun w ρ dst pos after guard hs he=>by simp [execOp,he _ _ ht,he _ _ hv,asBool]) h
    | none=>rw [hv] at h;exact h.elim
  ·exact h.elim
 | load t x =>
  simp only [opK] at h
  split at h
  ·rename_i und cells agg size bytes ad hr hv
   have hrow:=hT _ _ hr
   have hag:=fun w:World=>TRow.agg_run (P:=P) (w:=w) hrow
   have hsz:=fun w:World=>TRow.size_run (P:=P) (w:=w) hrow
   split at h
   ·obtain ⟨vs,hlen,hl,hk⟩:=h.ex
    exact pureOp _ (fun w ρ dst pos after guard hs he=>by simp [execOp,Instr.loadAt,he _ _ hv,Instr.sureAddr,loadVar,hag,hsz,LdN.run (P:=P) hlen hl hs]) hk
   ·obtain ⟨v,hl,hk⟩:=h.ex
    exact pureOp v (fun w ρ dst pos after guard hs he=>by simp only [execOp,Instr.loadAt,he _ _ hv,Instr.sureAddr,loadVar,Sem.run_bind,Sem.run_pure,Result.andThen_ok,hag,Bool.false_eq_true,if_false,Ld.run (P:=P) hl hs]) hk
  ·exact h.elim
 | nilCheck x =>
  simp only [opK] at h
  split at h
  ·rename_i ad hv;exact pureOp _ (fun w ρ dst pos after guard hs he=>by simp [execOp,he _ _ hv]) h
  ·rename_i t v hv;exact pureOp _ (fun w ρ dst pos after guard hs he=>by simp [execOp,he _ _ hv]) h
  ·rename_i f x y hv;exact pureOp _ (fun w ρ dst pos after guard hs he=>by simp [execOp,he _ _ hv]) h
  ·exact h.elim
 | fieldAddr t x i =>
  simp only [opK] at h
  split at h
  ·rename_i fs cells agg size bytes b off hr hv
   have hrow:=hT _ _ hr
   split at h
   ·rename_i nm ft foff emb tag pp bo hf
    split at h
    ·rename_i und2 cells2 agg2 n2 bytes2 hr2
     have hsz:=fun w:World=>TRow.size_run (P:=P) (w:=w) (hT _ _ hr2)
     have hu:=hrow.und
     have key:∀ ad:Addr,ad = ⟨b,off + foff,none⟩ → K (.pointer (some ad)) H → X ∨ ∃ v,Runs P W (.fieldAddr t x i) ty ev H v ∧ K v H:=by
      rintro ad rfl hk
      refine pureOp _ (fun w ρ dst pos after guard hs he=>?_) hk
      simp only [execOp,Instr.fieldAt,Sem.run_bind,run_underlying hu,Result.andThen_ok,he _ _ hv]
      simp only [List.getElem?_toArray,hf,Instr.sureAddr,fieldPlace,Sem.run_bind,Sem.run_pure,Result.andThen_ok,hsz]
      simp [Addr.add]
     split at h
     ·exact key _ rfl h
     ·exact key _ rfl h
    ·exact h.elim
   ·exact h.elim
  ·exact h.elim
 | field t x i =>
  simp only [opK] at h
  split at h
  ·rename_i fs cells agg size bytes cs hr hv
   have hu:=(hT _ _ hr).und
   split at h
   ·rename_i nm ft foff emb tag pp bo hf
    split at h
    ·rename_i und2 cells2 n2 bytes2 hr2
     have hsz:=fun w:World=>TRow.size_run (P:=P) (w:=w) (hT _ _ hr2)
     have hag:=fun w:World=>TRow.agg_run (P:=P) (w:=w) (hT _ _ hr2)
     obtain ⟨h,hle⟩:=takeL_elim _ _ _ _ h
     refine pureOp _ (fun w ρ dst pos after guard hs he=>?_) h
     simp only [execOp,Instr.field,Sem.run_bind,run_underlying hu,Result.andThen_ok,he _ _ hv]
     simp only [List.getElem?_toArray,hf,asAgg,part,Sem.run_bind,Sem.run_pure,Result.andThen_ok,hsz,hag,if_true,List.extract_toArray,List.extract_eq_take_drop]
     congr 5
     omega
    ·rename_i und2 cells2 n2 bytes2 hr2
     have hsz:=fun w:World=>TRow.size_run (P:=P) (w:=w) (hT _ _ hr2)
     have hag:=fun w:World=>TRow.agg_run (P:=P) (w:=w) (hT _ _ hr2)
     split at h
     ·rename_i v hvv
      refine pureOp v (fun w ρ dst pos after guard hs he=>?_) h
      simp only [execOp,Instr.field,Sem.run_bind,run_underlying hu,Result.andThen_ok,he _ _ hv]
      simp only [List.getElem?_toArray,hf,asAgg,part,Sem.run_bind,Sem.run_pure,Result.andThen_ok,hag,Bool.false_eq_true,if_false,hvv]
     ·exact h.elim
    ·exact h.elim
   ·exact h.elim
  ·exact h.elim
 | extract x i =>
  simp only [opK] at h
  split at h
  ·rename_i vs hv
   split at h
   ·rename_i v hvv
    exact pureOp v (fun w ρ dst pos after guard hs he=>by simp [execOp,he _ _ hv,Instr.extract,hvv]) h
   ·exact h.elim
  ·exact h.elim
 | binOp op t x y ty' =>
  simp only [opK] at h
  split at h
  ·rename_i u v hu hv
   have run:∀ z,(∀ w,(binOp op t u v).run P w = .ok z w) → (∀ w,(eqGuard op t x y u v).run P w = .ok () w) → K z H → X ∨ ∃ v,Runs P W (.binOp op t x y ty') ty ev H v ∧ K v H:=fun z hz hg hk =>
    pureOp z (fun w ρ dst pos after guard hs he=>by simp [execOp,he _ _ hu,he _ _ hv,hz,hg]) hk
   have ar:∀ {k:IntKind} {e:Int},(Ar k e fun z=>K (.int k z) H) → (∀ w,(binOp op t u v).run P w = .ok (.int k (k.wrap e)) w) → (∀ w,(eqGuard op t x y u v).run P w = .ok () w) → X ∨ ∃ v,Runs P W (.binOp op t x y ty') ty ev H v ∧ K v H :=
    fun hk hz hg=>run _ hz hg hk.ex
   unfold binK at h
   split at h
   ·obtain ⟨rfl,hk⟩:=kEq_elim h;exact ar hk (fun w=>by simp [go_sem]) (fun w=>by simp [go_sem])
   ·obtain ⟨rfl,hk⟩:=kEq_elim h;exact ar hk (fun w=>by simp [go_sem]) (fun w=>by simp [go_sem])
   ·obtain ⟨rfl,hk⟩:=kEq_elim h;exact ar hk (fun w=>by simp [go_sem]) (fun w=>by simp [go_sem])
   ·obtain ⟨rfl,h0,hk⟩:=kEq_elim h;exact ar hk (fun w=>by simp [go_sem,h0]) (fun w=>by simp [go_sem])
   ·obtain ⟨rfl,h0,hk⟩:=kEq_elim h;exact run _ (fun w=>by simp [go_sem,h0]) (fun w=>by simp [go_sem]) hk
   ·obtain ⟨rfl,hk⟩:=kEq_elim h;exact run _ (fun w=>by simp [go_sem]) (fun w=>by simp [go_sem]) hk.ex
   ·obtain ⟨rfl,hk⟩:=kEq_elim h;exact run _ (fun w=>by simp [go_sem]) (fun w=>by simp [go_sem]) hk.ex
   ·obtain ⟨rfl,hk⟩:=kEq_elim h;exact run _ (fun w=>by simp [go_sem]) (fun w=>by simp [go_sem]) hk.ex
   ·obtain ⟨rfl,hk⟩:=kEq_elim h;exact run _ (fun w=>by simp [go_sem]) (fun w=>by simp [go_sem]) hk.ex
   ·obtain ⟨h0,hk⟩:=h;exact run _ (fun w=>by simp [go_sem,Op.shift,Int.not_lt.2 h0]) (fun w=>by simp [go_sem]) hk
   ·obtain ⟨h0,hk⟩:=h;exact run _ (fun w=>by simp [go_sem,Op.shift,Int.not_lt.2 h0]) (fun w=>by simp [go_sem]) hk
   ·obtain ⟨rfl,hk⟩:=kEq_elim h;exact run _ (fun w=>by simp [go_sem];rfl) (fun w=>by simp [go_sem]) hk
   ·obtain ⟨rfl,hk⟩:=kEq_elim h;exact run _ (fun w=>by simp [go_sem,bne];rfl) (fun w=>by simp [go_sem]) hk
   ·obtain ⟨rfl,hk⟩:=kEq_elim h;exact run _ (fun w=>by simp [go_sem]) (fun w=>by simp [go_sem]) hk
   ·obtain ⟨rfl,hk⟩:=kEq_elim h;exact run _ (fun w=>by simp [go_sem]) (fun w=>by simp [go_sem]) hk
   ·obtain ⟨rfl,hk⟩:=kEq_elim h;exact run _ (fun w=>by simp [go_sem]) (fun w=>by simp [go_sem]) hk
   ·obtain ⟨rfl,hk⟩:=kEq_elim h;exact run _ (fun w=>by simp [go_sem]) (fun w=>by simp [go_sem]) hk
   ·exact run _ (fun w=>by simp [go_sem,binOp,Op.stringOp]) (fun w=>by simp [eqGuard]) h
   ·exact run _ (fun w=>by simp [go_sem,binOp,Op.stringOp]) (fun w=>by simp [eqGuard]) h
   ·rename_i hne
    split at h
    ·rename_i d cells agg size bytes hr
     rcases eqvK_elim (hT _ _ hr).und h with h|⟨z,hk,h1,h2,h3,h4⟩
     ·exact .inl h
     ·refine run _ (fun w=>?_) (fun w=>h2 w _) hk
      rw [h3,h1];rfl
    ·exact .inl h
   ·rename_i hne
    split at h
    ·rename_i d cells agg size bytes hr
     rcases eqvK_elim (hT _ _ hr).und h with h|⟨z,hk,h1,h2,h3,h4⟩
     ·exact .inl h
     ·refine run _ (fun w=>?_) (fun w=>h2 w _) hk
      rw [h4,h1];rfl
    ·exact .inl h
   ·exact .inl h
  ·exact h.elim
 | unOp op t x =>
  simp only [opK] at h
  split at h
  ·rename_i b hv;exact pureOp _ (fun w ρ dst pos after guard hs he=>by simp [execOp,he _ _ hv,Op.unary]) h
  ·rename_i k n hv;exact pureOp _ (fun w ρ dst pos after guard hs he=>by simp [execOp,he _ _ hv,Op.unary,Op.intArith]) h.ex
  ·exact .inl h
 | convert s d x =>
  simp only [opK] at h
  split at h
  ·rename_i rs k cells agg size bytes kk n hs' hd hv
   refine pureOp (.int k (k.wrap n)) (fun w ρ dst pos after guard hs he=>?_) h.ex
   simp [execOp,he _ _ hv,convert,run_underlying (hT _ _ hs').und,run_underlying (hT _ _ hd).und,Conv.intToInt]
  ·exact .inl h
 | makeInterface t x =>
  simp only [opK] at h
  split at h
  ·exact h.elim
  ·rename_i r v hne hr hv
   refine pureOp _ (fun w ρ dst pos after guard hs he=>?_) h
   simp only [execOp,he _ _ hv,Instr.makeInterface,Sem.run_bind,run_underlying (hT _ _ hr).und,Result.andThen_ok]
   obtain ⟨und,cells,agg,size,bytes⟩:=r
   cases und <;> first|rfl|(exact (hne _ _ _ _ _ rfl).elim)
  ·exact h.elim
 | makeFunc f x y =>
  obtain ⟨x⟩:=x
  obtain ⟨y⟩:=y
  simp only [opK] at h
  obtain ⟨l1,e1,h1⟩:=evs_elim _ _ h
  obtain ⟨l2,e2,h2⟩:=evs_elim _ _ h1
  exact pureOp _ (fun w ρ dst pos after guard hs he=>by simp [execOp,Instr.makeFunc,e1 ρ he,e2 ρ he]) h2
 | indexAddr t x i =>
  simp only [opK] at h
  split at h
  ·rename_i e cells agg size bytes base len cap k n hr hv hi
   split at h
   ·rename_i und2 cells2 agg2 size2 bytes2 hr2
    have hsz:=fun w:World=>TRow.size_run (P:=P) (w:=w) (hT _ _ hr2)
    obtain ⟨w0,hw0⟩:=hw
    obtain ⟨ad,rfl,h0,h1,h⟩:=h.ex w0 hw0
    refine pureOp _ (fun w ρ dst pos after guard hs he=>?_) h
    simp [execOp,he _ _ hv,he _ _ hi,Instr.indexAt,run_underlying (hT _ _ hr).und,asIntOf,h0,h1,hsz]
   ·exact h.elim
  ·rename_i len e cells agg size bytes ad k n hr hv hi
   split at h
   ·rename_i und2 cells2 agg2 size2 bytes2 hr2
    have hsz:=fun w:World=>TRow.size_run (P:=P) (w:=w) (hT _ _ hr2)
    obtain ⟨⟨h0,h1⟩,h⟩:=h
    refine pureOp _ (fun w ρ dst pos after guard hs he=>?_) h
    simp [execOp,he _ _ hv,he _ _ hi,Instr.indexAt,Instr.sureAddr,run_underlying (hT _ _ hr).und,asIntOf,h0,h1,hsz]
   ·exact h.elim
  ·exact h.elim
 | call c =>
  obtain ⟨callee,⟨args⟩,⟨tys⟩⟩:=c
  cases callee with
  | value f=>simp [quietOp] at hq
  | invoke r m=>simp [quietOp] at hq
  | builtin b =>
   cases b with
   | len =>
    simp only [opK] at h
    split at h
    ·rename_i x t
     split at h
     ·rename_i e cells agg size bytes base n cap hr hv
      refine pureOp _ (fun w ρ dst pos after guard hs he=>?_) h
      simp [execOp,resolve,invoke,builtin,Builtin.len_,he _ _ hv,run_underlying (hT _ _ hr).und,goInt]
     ·rename_i cells agg size bytes st hr hv
      refine pureOp _ (fun w ρ dst pos after guard hs he=>?_) h
      simp [execOp,resolve,invoke,builtin,Builtin.len_,he _ _ hv,run_underlying (hT _ _ hr).und,goInt]
     ·exact .inl h
    ·exact h.elim
   | cap=>exact .inl h
   | min=>exact .inl h
   | max=>exact .inl h
   | _=>simp [quietOp] at hq
 | typeAssert x xt t ok =>
  simp only [opK] at h
  split at h
  ·exact .inl h
  ·rename_i r t' v hne hr hv
   have hu:=(hT _ _ hr).und
   have hnu:∀ m,r.und ≠ .interface m:=by
    intro m e
    obtain ⟨und,cells,agg,size,bytes⟩:=r
    subst e
    exact hne _ _ _ _ _ rfl
   have hb:∀ b,Nat.beq t' t = b → (t' = t ↔ b = true):=fun b hb=>by
    subst hb
    exact ⟨fun e=>by subst e;simp,fun e=>Nat.eq_of_beq_eq_true e⟩
   split at h
   ·rename_i e1
    have e2:=(hb _ e1).2 rfl
    subst e2
    refine pureOp _ (fun w ρ dst pos after guard hs he=>?_) h
    simp only [execOp,he _ _ hv,Instr.typeAssert,Sem.run_bind,run_underlying hu,Result.andThen_ok]
    generalize r.und = d at hnu
    cases d <;> first|(simp;done)|exact absurd rfl (hnu _)
   ·rename_i e1
    have e2:=(hb _ e1).2 rfl
    subst e2
    refine pureOp _ (fun w ρ dst pos after guard hs he=>?_) h
    simp only [execOp,he _ _ hv,Instr.typeAssert,Sem.run_bind,run_underlying hu,Result.andThen_ok]
    generalize r.und = d at hnu
    cases d <;> first|(simp;done)|exact absurd rfl (hnu _)
   ·rename_i e1
    have e2:¬ t' = t:=fun e=>by have:=(hb _ e1).1 e;cases this
    obtain ⟨z,hz,hk⟩:=zK_elim hT hr h
    refine pureOp _ (fun w ρ dst pos after guard hs he=>?_) hk
    simp only [execOp,he _ _ hv,Instr.typeAssert,Sem.run_bind,run_underlying hu,Result.andThen_ok]
    generalize r.und = d at hnu
    cases d <;> first|(simp [e2,hz];done)|exact absurd rfl (hnu _)
   ·exact .inl h
  ·rename_i r hne hr hv
   have hu:=(hT _ _ hr).und
   have hnu:∀ m,r.und ≠ .interface m:=by
    intro m e
    obtain ⟨und,cells,agg,size,bytes⟩:=r
    subst e
    exact hne _ _ _ _ _ rfl
   split at h
   ·obtain ⟨z,hz,hk⟩:=zK_elim hT hr h
    refine pureOp _ (fun w ρ dst pos after guard hs he=>?_) hk
    simp only [execOp,he _ _ hv,Instr.typeAssert,Sem.run_bind,run_underlying hu,Result.andThen_ok]
    generalize r.und = d at hnu
    cases d <;> first|(simp [hz];done)|exact absurd rfl (hnu _)
   ·exact .inl h
  ·exact .inl h
 | index=>exact .inl h
 | lookup=>exact .inl h
 | slice=>exact .inl h
 | build t parts =>
  obtain ⟨parts⟩:=parts
  simp only [opK] at h
  split at h
  ·rename_i fs cells agg size bytes hr
   obtain ⟨ps,hps,h⟩:=placesK_elim hT fs _ h
   obtain ⟨l,hl,h⟩:=fillK_elim _ _ _ h
   refine pureOp _ (fun w ρ dst pos after guard hs he=>?_) h
   obtain ⟨z,hz,hc⟩:=TRow.zero_run (w:=w) (hT _ _ hr)
   have hm:(Array.mapM placeOf ⟨fs⟩).run P w = .ok ⟨ps⟩ w:=by
    rw [List.mapM_toArray,Sem.run_map,hps w];rfl
   have hf:Instr.fill (fun i=>(⟨ps⟩:Array (Nat × Nat))[i]?) ⟨cells⟩ (parts.map fun p=>(p.1,ρ p.2)) = some ⟨l⟩:=by
    simpa using hl ρ he
   simp only [execOp,Instr.build,Sem.run_bind,hz,Result.andThen_ok,run_underlying (hT _ _ hr).und,hc]
   rw [show (fun f:Field=>do let a ← sizeOf f.type;Pure.pure (f.offset,a)) = placeOf from rfl,hm]
   simp only [Result.andThen_ok,List.map_toArray,hf]
   rfl
  ·exact .inl h
 | _=>simp [quietOp] at hq

theorem opK_sound {o:Oper} {next:Act → World → Prop} {Q:Exit → Act → World → Prop} {K:Value → HProp → Prop} {Kp:List PanicEntry → HProp → Prop}
  (hT:T.ok P) (hrep:fr.rep a.tmps) (hs:Sat W H w) (h:opK P W T o.op o.type fr.eval H K Kp (OpX P W o.op o.type fr.eval H K Kp))
  (hn:∀ v H' w',K v H' → Sat W H' w' → next (a.put o.dst v) w')
  (hp:∀ c H' w',Kp c H' → Sat W H' w' → Q (.panic c) a w'):o.wp P a w next Q:=by
 have he:∀ x v,fr.eval x = some v → a.eval x = v:=fun x v e=>Fr.rep_eval hrep e
 have hx:OpX P W o.op o.type fr.eval H K Kp → o.wp P a w next Q:=by
  rintro ⟨hr⟩
  obtain ⟨r,w',H',hr,hs',hk⟩:=hr w a.eval hs he o rfl rfl
  cases r with
  | value v=>exact Upon.value hr (hn _ _ _ hk hs')
  | skip=>exact Upon.skip hr (hn _ _ _ hk hs')
  | enter f args =>
   simp only [Oper.wp,hr,Oper.upon_enter]
   refine (hk.run w' hs').mono ?_
   rintro e w'' ⟨H'',hs'',hq⟩
   cases e with
   | returned v=>exact hn _ _ _ hq hs''
   | panicked ch=>exact hp _ _ _ hq hs''
   | outgrown=>exact hq.elim
  | _=>exact hk.elim
 by_cases hq:quietOp o.op = true
 ·rcases opK_quiet hT ⟨w,hs⟩ hq h with h|⟨v,hr,hk⟩
  ·exact hx h
  ·exact Upon.value (hr w a.eval hs he o rfl rfl) (hn _ _ _ hk hs)
 obtain ⟨dst,op,ty,pos,after,guard⟩:=o
 simp only at h hx hq
 cases op with
 | alloc e =>
  simp only [opK] at h
  split at h
  ·rename_i und cells agg size bytes hr
   obtain ⟨z,hz,hc⟩:=TRow.zero_run (w:=w) (hT _ _ hr)
   have:=hs.alloc (.cells ⟨cells⟩ e)
   refine Upon.value (w':={ w with heap:=w.heap.push (.cells ⟨cells⟩ e) }) ?_ (hn _ _ _ (h w.heap.size hs.1.size) this)
   simp [execOp,Instr.alloc,hz,newVar,newRow,hc]
  ·exact h.elim
 | box e x =>
  simp only [opK] at h
  split at h
  ·rename_i v hv
   obtain ⟨l,hl,h⟩:=cellsK_elim h
   have:=hs.alloc (.cells ⟨l⟩ e)
   refine Upon.value (w':={ w with heap:=w.heap.push (.cells ⟨l⟩ e) }) ?_ (hn _ _ _ (h w.heap.size hs.1.size) this)
   simp [execOp,Instr.box,he _ _ hv,newVar,newRow,hl]
  ·exact h.elim
 | store t x y =>
  simp only [opK] at h
  split at h
  ·rename_i und cells agg size bytes ad v hr hv hy
   obtain ⟨l,hl,⟨⟨hsize,hone⟩,h⟩⟩:=cellsK_elim h
   have hsz:=TRow.size_run (w:=w) (hT _ _ hr)
   obtain ⟨w',H',hst,hs',hk⟩:=h.run w hs (by simpa using hone)
   refine Upon.skip (w':=w') ?_ (hn _ _ _ hk hs')
   simp only [execOp,Instr.storeAt,he _ _ hv,he _ _ hy,Instr.sureAddr,storeVar,Sem.run_bind,Sem.run_pure,Result.andThen_ok,hsz,hl]
   simp [hsize,hst]
  ·exact h.elim
 | panic x =>
  simp only [opK] at h
  split at h
  ·rename_i t v hv
   refine Upon.panic (w':=w) ?_ (hp _ _ _ h hs)
   simp [execOp,he _ _ hv,Instr.panic]
  ·exact h.elim
 | call c =>
  obtain ⟨callee,⟨args⟩,⟨tys⟩⟩:=c
  cases callee with
  | value f =>
   simp only [opK] at h
   split at h
   ·rename_i g first cap hf
    obtain ⟨l,hl,hc⟩:=evs_elim _ _ h
    rcases hc.go with ⟨hok,hfn⟩|hx
    ·have hrun:(execOp a.eval ⟨dst,.call ⟨.value f,⟨args⟩,⟨tys⟩⟩,ty,pos,after,guard⟩).run P w = .ok (.enter g ⟨first ++ l ++ cap⟩) w:=by
      simp only [execOp,resolve,he _ _ hf,Deferred.ofValue,invoke,Sem.run_bind,Sem.run_pure,Result.andThen_ok]
      rw [hok.h]
      simp [hl a.eval he]
     simp only [Oper.wp,hrun,Oper.upon_enter]
     refine (hfn.run w hs).mono ?_
     rintro e w' ⟨H',hs',hq⟩
     cases e with
     | returned v=>exact hn _ _ _ hq hs'
     | panicked ch=>exact hp _ _ _ hq hs'
     | outgrown=>exact hq.elim
    ·obtain ⟨v,w',H',hr,hs',hk⟩:=hx w hs
     have hrun:(execOp a.eval ⟨dst,.call ⟨.value f,⟨args⟩,⟨tys⟩⟩,ty,pos,after,guard⟩).run P w = .ok (.value v) w':=by
      simp only [execOp,resolve,he _ _ hf,Deferred.ofValue,invoke,Sem.run_bind,Sem.run_pure,Result.andThen_ok]
      rw [← hr]
      simp [hl a.eval he]
     exact Upon.value hrun (hn _ _ _ hk hs')
   ·exact h.elim
  | builtin b=>cases b <;> first|exact (hq rfl).elim|exact hx h
  | invoke r m=>exact hx h
 | go=>exact h.elim
 | defer=>exact h.elim
 | send=>exact h.elim
 | recv=>exact h.elim
 | select=>exact h.elim
 | ready=>exact h.elim
 | buildSlice t len parts =>
  obtain ⟨parts⟩:=parts
  simp only [opK] at h
  split at h
  ·rename_i e cells agg size bytes hr
   split at h
   ·rename_i und zero agg2 size2 bytes2 hr2
    have hsz:=TRow.size_run (w:=w) (hT _ _ hr2)
    cases parts with
    | nil =>
     cases len with
     | zero =>
      refine Upon.value (w':={ w with heap:=w.heap.push (.cells ⟨[]⟩ e) }) ?_ (hn _ _ _ (h w.heap.size hs.1.size) (hs.alloc _))
      simp [execOp,Instr.buildSlice,run_underlying (hT _ _ hr).und,hsz,Instr.fill,newRow,run_newObj]
      rw [show Array.range 0 = #[] from by simp];simp
     | succ n=>exact hx h
    | cons p parts =>
     simp only at h
     obtain ⟨hle,h⟩:=bleK_elim h
     obtain ⟨hpos,h⟩:=bleK_elim h
     obtain ⟨hzl,h⟩:=beqK_elim h
     have h:=repK_elim _ _ _ h
     obtain ⟨l,hl,h⟩:=fillK_elim _ _ _ h
     have hsz:=TRow.size_run (w:=w) (hT _ _ hr2)
     obtain ⟨z,hz,hc⟩:=TRow.zero_run (w:=w) (hT _ _ hr2)
     refine Upon.value (w':={ w with heap:=w.heap.push (.cells ⟨l⟩ e) }) ?_ (hn _ _ _ (h w.heap.size hs.1.size) (hs.alloc _))
     have hf:Instr.fill (fun i=>some (i * size2,size2)) ((Array.range (len * size2)).map fun i=>(⟨zero⟩:Array Value)[i % (⟨zero⟩:Array Value).size]!) ((p :: parts).map fun p=>(p.1,a.eval p.2)) = some ⟨l⟩:=by
      have:=hl a.eval he
      subst hzl
      rw [← rep_eq] at this
      simpa using this
     simp only [execOp,Instr.buildSlice,Sem.run_bind,run_underlying (hT _ _ hr).und,Result.andThen_ok,hsz]
     rw [if_neg (by omega)]
     have hne:¬ len * size2 = 0:=by omega
     simp only [Sem.run_bind,Sem.run_pure,Result.andThen_ok,hne,if_false,hz,hc,List.map_toArray,hf,newRow,run_newObj]
   ·exact h.elim
  ·exact h.elim
 | _=>first|exact (hq rfl).elim|exact hx h
end
end Go.SL
