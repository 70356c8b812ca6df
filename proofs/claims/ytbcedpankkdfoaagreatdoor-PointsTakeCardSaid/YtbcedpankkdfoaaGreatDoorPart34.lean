/- What an argument of any shape holds: numbers, bools, structs, slices, one inside the other; and that no slice is greater than a machine. No condition. -/
import Derived.Test.YtbcedpankkdfoaaGreatDoorPart6
import Derived.SizedLaws
import Derived.Test.YtbcedpankkdfoaaGreatDoorPart33
import Derived.LaidMore
import Derived.Test.YtbcedpankkdfoaaGreatDoorPart28
import Derived.Test.YtbcedpankkdfoaaGreatDoorRows
import Derived.ProofKit
import Derived.LaidSub
import Derived.OpenShut
import Derived.Stop.Joined
import Derived.Test.YtbcedpankkdfoaaGreatDoorTie
import Derived.Test.YtbcedpankkdfoaaGreatDoorCards
import Derived.SevenTiedAt
set_option linter.unusedVariables false
set_option linter.unusedSimpArgs false
namespace Go.SL
open Go Go.RowKit
theorem len1 {α:Type} {l:List α} (h:l.length = 1):∃ a0,l = [a0]:=by
 match l,h with
 | [a0],_=>exact ⟨a0,rfl⟩
theorem len2 {α:Type} {l:List α} (h:l.length = 2):∃ a0 a1,l = [a0,a1]:=by
 match l,h with
 | a0 :: l,h =>
  obtain ⟨a1,rfl⟩:=len1 (Nat.succ.inj h)
  exact ⟨a0,a1,rfl⟩
section
variable {H:Type} {enc:TypeId × Value → H} {P:Program} {W:World}
def DecR (enc:TypeId × Value → H) (P:Program) (W:World) (t:TypeId) (cs:List Value) (d:DataW H):Prop:=∃ n ps,DataW.trod enc P W 0 (fun _=>true) true n t cs = some (d,ps)
def Fits (P:Program) (t:TypeId) (d:DataW H):Prop:=∀ n ∈ d.weights P t,n ≤ reachBytes
theorem DecR.of_trod {t:TypeId} {v:Value} {d:DataW H} {ps:List MemPlace} (h:DataW.Trod enc P W 0 (fun _=>true) true t v d ps):DecR enc P W t v.cells.toList d:=by
 obtain ⟨n,hn⟩:=h
 exact ⟨n,ps,hn⟩
theorem Fits.of_each {ts:List TypeId} {ds:List (DataW H)} (h:(DataW.weightsEach P ts ds).all (· ≤ reachBytes) = true) {j:Nat} {t:TypeId} {d:DataW H} (ht:ts[j]? = some t) (hd:ds[j]? = some d):Fits P t d:=fun n hn=>by
 have:=List.all_eq_true.1 h _ (DataW.weights_mem_each ht hd n hn)
 simpa using this
theorem DecR.int {t:TypeId} {k:IntKind} {cs:List Value} {d:DataW H} (ht:P.underlying t = some (.int k)) (h:DecR enc P W t cs d):∃ z,cs = [.int k z] ∧ (Lit.int k z).wf = true:=by
 obtain ⟨n,ps,h⟩:=h
 obtain ⟨z,h1,_,h2⟩:=DataW.trod_int ht h
 exact ⟨z,h1,h2⟩
theorem DecR.bool {t:TypeId} {cs:List Value} {d:DataW H} (ht:P.underlying t = some .bool) (h:DecR enc P W t cs d):∃ z,cs = [.bool z]:=by
 obtain ⟨n,ps,h⟩:=h
 obtain ⟨z,h1,_⟩:=DataW.trod_bool ht h
 exact ⟨z,h1⟩
theorem DecR.string {t:TypeId} {cs:List Value} {d:DataW H} (ht:P.underlying t = some .string) (h:DecR enc P W t cs d):∃ s,cs = [.string s] ∧ s.size ≤ maxLen ∧ (Fits P t d → s.size ≤ reachBytes):=by
  obtain ⟨n,ps,h⟩:=h
  cases n with
  | zero=>simp [DataW.trod] at h
  | succ n =>
    simp only [DataW.trod,ht] at h
    split at h <;> try (rename_i e _;cases e;done)
    all_goals first
      | (rename_i s heq;cases heq)
      | skip
    all_goals first
      | (split at h
         · rename_i hs
           cases h
           exact ⟨_,rfl,hs,fun hf=>by simpa using hf _ (by simp [DataW.weights])⟩
         · cases h)
      | simp_all
theorem DecR.struct {t:TypeId} {fs:Array Field} {cs:List Value} {d:DataW H} (ht:P.underlying t = some (.struct fs)) (h:DecR enc P W t cs d) :
  cs.length = P.cellsOf t ∧ ∀ (i:Nat) (f:Field),fs.toList[i]? = some f → ∃ y,DecR enc P W f.type ((cs.drop f.offset).take (P.cellsOf f.type)) y ∧ (Fits P t d → Fits P f.type y):=by
 obtain ⟨n,ps,h⟩:=h
 cases n with
 | zero=>simp [DataW.trod] at h
 | succ k =>
  simp only [DataW.trod,ht] at h
  split at h
  ·rename_i hl
   obtain ⟨xs,hxs,he⟩:=Option.map_eq_some_iff.1 h
   have hd:d = .agg (xs.map (·.1)):=by cases he;rfl
   subst hd
   have key:∀ (l:List Field) (ys:List (DataW H × List MemPlace)),l.mapM (fun f=>DataW.trod enc P W 0 (fun _=>true) true k f.type ((cs.drop f.offset).take (P.cellsOf f.type))) = some ys →
     ∀ (i:Nat) (f:Field),l[i]? = some f → ∃ y,ys[i]? = some y ∧ DataW.trod enc P W 0 (fun _=>true) true k f.type ((cs.drop f.offset).take (P.cellsOf f.type)) = some y:=by
    intro l
    induction l with
    | nil=>intro _ _ i f hf;simp at hf
    | cons g l ih =>
     intro ys hys i f hf
     simp only [List.mapM_cons,Option.bind_eq_bind,Option.bind_eq_some_iff] at hys
     obtain ⟨y,hy,ys',hys',e⟩:=hys
     cases e
     cases i with
     | zero=>simp at hf;subst hf;exact ⟨y,rfl,hy⟩
     | succ i =>
      obtain ⟨z,h1,h2⟩:=ih ys' hys' i f (by simpa using hf)
      exact ⟨z,by simpa using h1,h2⟩
   refine ⟨hl,fun i f hf=>?_⟩
   obtain ⟨y,h1,h2⟩:=key _ _ hxs i f hf
   refine ⟨y.1,⟨k,y.2,by rw [h2]⟩,fun hb m hm=>hb m ?_⟩
   simp only [DataW.weights,ht]
   exact DataW.weights_mem_each (j:=i) (by simp [hf]) (by simp [h1]) m hm
  ·cases h
theorem weightsAll_mem:∀ {e:TypeId} {ds:List (DataW H)} {j:Nat} {d:DataW H},ds[j]? = some d → ∀ n ∈ d.weights P e,n ∈ DataW.weightsAll P e ds
 | e,d0 :: ds,0,d,hd,n,hn=>by
  simp only [List.getElem?_cons_zero,Option.some.injEq] at hd
  subst hd
  simp only [DataW.weightsAll,List.mem_append]
  exact Or.inl hn
 | e,d0 :: ds,j + 1,d,hd,n,hn=>by
  simp only [List.getElem?_cons_succ] at hd
  simp only [DataW.weightsAll,List.mem_append]
  exact Or.inr (weightsAll_mem hd n hn)
 | _,[],_,_,hd,_,_=>by simp at hd
theorem DecR.slice {α:Type} {Ok:α → Prop} {enc':α → List Value} {t e:TypeId} {cs:List Value} {d:DataW H} (ht:P.underlying t = some (.slice e)) (dec:∀ cs d,DecR enc P W e cs d → Fits P e d → ∃ x,Ok x ∧ cs = enc' x)
  (hsz:∀ x,(enc' x).length = P.cellsOf e) (hpos:0 < P.cellsOf e) (h:DecR enc P W t cs d) (hb:Fits P t d) :
  ∃ a len cap xs,cs = [.slice a len cap] ∧ OldVec W (P.cellsOf e) enc' a len cap xs ∧ (∀ x ∈ xs,Ok x) ∧ cap * P.bytesOf e ≤ reachBytes:=by
 obtain ⟨n,ps,hf⟩:=h
 rcases Deep.open_slice ht hf with ⟨rfl,_⟩|⟨a',len',cap',m,n,D,Pl,rfl,_,hl,hm,hmm,hx0,hx⟩
 ·exact ⟨none,0,0,[],rfl,⟨rfl,⟨Nat.le_refl _,Nat.zero_le _⟩,fun i x h=>by simp at h⟩,fun x h=>by simp at h,by simp⟩
 ·simp only [if_true] at hmm
  subst hmm
  have hd:d = .slice ((List.range len').map D) ((List.range (m - len')).map fun j=>D (len' + j)):=by cases hx0;rfl
  subst hd
  have hw:(len' + (m - len')) * P.bytesOf e ≤ reachBytes:=hb _ (by simp [DataW.weights,ht])
  have hfit:∀ i,i < len' → Fits P e (D i):=fun i hi q hq=>hb q (by
   simp only [DataW.weights,ht,List.mem_cons,List.mem_append]
   exact Or.inr (Or.inl (weightsAll_mem (j:=i) (by simp [hi]) q hq)))
  obtain ⟨xs,h1,h2⟩:=list_of (p:=fun i (x:α)=>Ok x ∧ W.cells? 0 (a'.add (i * P.cellsOf e)) (P.cellsOf e) = some (enc' x)) len' fun i hi=>by
   obtain ⟨cs',h3,h4⟩:=hx i (by omega)
   obtain ⟨x,hok,rfl⟩:=dec _ _ ⟨_,_,h4⟩ (hfit i hi)
   exact ⟨x,hok,h3⟩
  refine ⟨some a',len',m,xs,rfl,⟨h1.symm,⟨hl,hm⟩,fun i x hi=>?_⟩,fun x hx=>?_,by rwa [show len' + (m - len') = m by omega] at hw⟩
  ·obtain ⟨_,h3⟩:=h2 i x hi
   obtain ⟨_,h4,h5⟩:=World.cells?_some h3
   obtain ⟨b,off,sp⟩:=a'
   have h6:sp = none:=by
    obtain ⟨x0,hx0⟩:∃ x0,xs[0]? = some x0:=by
     cases xs with
     | nil=>simp at hi
     | cons y ys=>exact ⟨y,rfl⟩
    obtain ⟨_,h3'⟩:=h2 0 x0 hx0
    obtain ⟨_,_,h5'⟩:=World.cells?_some h3'
    have h7:=h5' 0 hpos
    have h8:0 < (enc' x0).length:=by rw [hsz];exact hpos
    rw [List.getElem?_eq_getElem h8] at h7
    simp only [Nat.zero_mul,Addr.add,if_true] at h7
    unfold World.cell? at h7
    split at h7
    ·cases sp with
     | none=>rfl
     | some k=>simp at h7
    ·cases h7
   subst h6
   refine ⟨b,off,rfl,fun j v hj=>?_⟩
   have hjl:j < P.cellsOf e:=by
    rcases Nat.lt_or_ge j (enc' x).length with h|h
    ·rw [← hsz x];exact h
    ·simp [List.getElem?_eq_none h] at hj
   have:=h5 j hjl
   rw [hj,Addr.add_eq,Addr.add_eq] at this
   exact this
  ·obtain ⟨i,hi⟩:=List.getElem?_of_mem hx
   exact (h2 i x hi).1
theorem DecR.agg {t:TypeId} {fs:Array Field} {r:Reach} {b0:Nat} {v:Value} {d:DataW H} {ps:List MemPlace} (ht:P.underlying t = some (.struct fs)) (hval:Value.okWide P W r b0 t v) (hd:DataW.Trod enc P W 0 (fun _=>true) true t v d ps) :
  ∃ cs,v = .agg ⟨cs⟩ ∧ DecR enc P W t cs d:=by
 simp only [Value.okWide,ht] at hval
 obtain ⟨⟨cs⟩,rfl,_⟩:=hval
 obtain ⟨fuel,hf⟩:=hd
 exact ⟨cs,rfl,fuel,ps,hf⟩
theorem DecR.slc {t e:TypeId} {r:Reach} {b0:Nat} {v:Value} {d:DataW H} {ps:List MemPlace} (ht:P.underlying t = some (.slice e)) (hval:Value.okWide P W r b0 t v) (hd:DataW.Trod enc P W 0 (fun _=>true) true t v d ps) :
  ∃ a len cap,v = .slice a len cap ∧ DecR enc P W t [.slice a len cap] d:=by
 obtain ⟨a,len,cap,rfl⟩:=WideShapes.okWide_slice ht hval
 obtain ⟨fuel,hf⟩:=hd
 exact ⟨a,len,cap,rfl,fuel,ps,hf⟩
theorem DecR.num {t:TypeId} {k:IntKind} {r:Reach} {b0:Nat} {v:Value} {d:DataW H} {ps:List MemPlace} (ht:P.underlying t = some (.int k)) (hval:Value.okWide P W r b0 t v) (hd:DataW.Trod enc P W 0 (fun _=>true) true t v d ps) :
  ∃ z,v = .int k z ∧ (Lit.int k z).wf = true:=by
 obtain ⟨n,rfl⟩:=WideShapes.okWide_int ht hval
 obtain ⟨z,h1,h2⟩:=DecR.int ht (DecR.of_trod hd)
 simp [Value.cells] at h1
 subst h1
 exact ⟨n,rfl,h2⟩
end
end Go.SL
/- What the law's calls among the arguments hold. No condition. -/
namespace Go.Proofs.YtbcedpankkdfoaaGreatDoor
open Go Go.SL Go.SL.Sec Go.SL.Fld Go.SL.Pts Go.SL.Rec Go.SL.Twn Go.SL.Pg Go.SL.Mst Go.SL.Pool Go.ChangeShapes Go.WideShapes Go.ChangeAt Go.RowKit
section
variable {HT:Type} {enc:TypeId × Value → HT} {W:World}
theorem d_int:prog.cellsOf t_int = 1:=by kernel_rfl
theorem int_dec {t:TypeId} (ht:prog.underlying t = some (.int .i64)) {cs:List Value} {d:DataW HT} (h:DecR enc prog W t cs d):∃ z,cs = [.int .i64 z] ∧ In64 z:=by
 obtain ⟨z,h1,h2⟩:=DecR.int ht h
 exact ⟨z,h1,wf_i64 h2⟩
def InU (z:Int):Prop:=0 ≤ z ∧ z ≤ 18446744073709551615
structure LossV where
 ka:Option Addr
 kc:Nat
 K:List Int
 torn:Int
 off:Int
abbrev lossl (l:LossV):List Value:=[.slice l.ka l.K.length l.kc,.int .i64 l.torn,.int .i64 l.off]
structure OkLoss (W:World) (l:LossV):Prop where
 row:OldVec W 1 u64s l.ka l.K.length l.kc l.K
 words:∀ z ∈ l.K,InU z
 torn:In64 l.torn
 off:In64 l.off
structure OkOp (W:World) (o:OpV):Prop where
 rc:OldVec W 5 cntv o.ca o.m.pg.C.length o.cc o.m.pg.C
 rg:OldVec W 2 grpv o.ga o.m.pg.G.length o.gc o.m.pg.G
 pin:o.m.pg.In
 a:In64 o.m.a
end
end Go.Proofs.YtbcedpankkdfoaaGreatDoor
/- What the listed package-level variables hold at the start. No condition. -/
namespace Go.SL
open Go
theorem cell_spot {w:World} {a:Addr} {v:Value} (h:w.cell? a = some v):a.spot = none:=by
 obtain ⟨b,off,sp⟩:=a
 unfold World.cell? at h
 split at h
 ·cases sp with
  | none=>rfl
  | some k=>simp at h
 ·cases h
theorem var_cell {P:Program} {w:World} {n:String} {g:Nat} {cs:Array Value} (hg:P.globalNamed n = some g) (h:w.var? P n = some cs) (j:Nat):w.cell? ⟨g,j,none⟩ = cs[j]?:=by
 unfold World.var? at h
 rw [hg] at h
 dsimp only [Option.bind_some] at h
 unfold World.cell?
 split at h
 ·rename_i c t z hh
  dsimp only
  rw [hh]
  cases h
  rfl
 ·cases h
section
variable {H:Type} {enc:TypeId × Value → H} {P:Program} {w:World} {base:Nat} {sp:Nat → Bool} {held:Bool}
theorem laid_ints {t e:TypeId} {fuel:Nat} {cs:List Value} {xs:List Int} {p:List MemPlace} (ht:P.underlying t = some (.slice e)) (he:P.underlying e = some (.int .i64)) (hc:P.cellsOf e = 1)
  (h:DataW.trod enc P w base sp held fuel t cs = some (.slice (xs.map fun z=>.lit (.int .i64 z)) [],p)):∃ a cap,cs = [.slice a xs.length cap] ∧ OldR w 1 ints a xs:=by
 obtain ⟨a,cap,h1,_,h2⟩:=open_row ht hc h
 rw [List.length_map] at h1
 refine ⟨some a,cap,h1,⟨fun i x hx=>?_⟩⟩
 obtain ⟨v,n,q,h3,h4⟩:=h2 i (.lit (.int .i64 x)) (by rw [List.getElem?_map,hx];rfl)
 obtain ⟨z,h5,h6,_⟩:=DataW.trod_int he h4
 have hs':a.spot = none:=by
  obtain ⟨x0,hx0⟩:∃ x0,xs[0]? = some x0:=by
   cases xs with
   | nil=>simp at hx
   | cons y ys=>exact ⟨y,rfl⟩
  obtain ⟨v0,_,_,h30,_⟩:=h2 0 (.lit (.int .i64 x0)) (by rw [List.getElem?_map,hx0];rfl)
  have:=cell_spot h30
  unfold Addr.add at this
  rwa [if_pos rfl] at this
 obtain ⟨b,off,s⟩:=a
 dsimp only at hs'
 subst hs'
 rw [Addr.add_eq] at h3
 cases h6
 cases h5
 refine ⟨b,off,rfl,fun j v hj=>?_⟩
 cases j with
 | zero =>
  cases hj
  rw [Nat.mul_one,Nat.add_zero]
  exact h3
 | succ j=>cases hj
theorem laid_arr {t e:TypeId} {fuel N:Nat} {cs:List Value} {xs:List Int} {p:List MemPlace} (ht:P.underlying t = some (.array N e)) (he:P.underlying e = some (.int .u32)) (hc:P.cellsOf e = 1)
  (h:DataW.trod enc P w base sp held fuel t cs = some (.agg (xs.map fun z=>.lit (.int .u32 z)),p)):∀ (i:Nat) (x:Int),xs[i]? = some x → cs[i]? = some (Value.int .u32 x):=by
 obtain ⟨ys,m,_,h1,_,h2,h3⟩:=DataW.trod_array ht h
 intro i x hx
 have h4:(xs.map fun z=>(DataW.lit (.int .u32 z):DataW H)) = ys.map (·.1):=by
  have:=(Prod.mk.inj h1).1
  injection this
 have hi:i < xs.length:=(List.getElem?_eq_some_iff.1 hx).1
 have hlen:xs.length = ys.length:=by have:=congrArg List.length h4;simpa using this
 have h5:=congrArg (fun l=>l[i]?) h4
 simp only [List.getElem?_map,hx,Option.map_some] at h5
 obtain ⟨y,hy,hy2⟩:=Option.map_eq_some_iff.1 h5.symm
 have h6:=h3 i (by omega)
 rw [hc,hy,Nat.mul_one] at h6
 obtain ⟨z,h7,h8,_⟩:=DataW.trod_int he h6
 rw [h8] at hy2
 cases hy2
 have h9:=congrArg (fun l=>l[0]?) h7
 simp only [List.getElem?_take,List.getElem?_drop] at h9
 simpa using h9
end
end Go.SL
namespace Go.Proofs.YtbcedpankkdfoaaGreatDoor
open Go Go.SL Go.SL.Sec Go.SL.Fld Go.SL.Pts Go.SL.Rec Go.SL.Twn Go.SL.Pg Go.SL.Mst Go.SL.Pool
def nibL:List Int:=[0,498536548,997073096,651767980,1994146192,1802195444,1303535960,1342533948,3988292384,4027552580,3604390888,3412177804,2607071920,2262029012,2685067896,3183342108]
abbrev laidL : List (String × DataW Unit) := [("errors.errorType", Rows.laid_errors_errorType), ("quota/field.nibbles", Rows.laid_quota_field_nibbles), ("quota/page.headSizes", Rows.laid_quota_page_headSizes), ("quota/page.counterSizes", Rows.laid_quota_page_counterSizes), ("quota/page.groupSizes", Rows.laid_quota_page_groupSizes)]
theorem laid_none : (laidL.filter fun x => x.2.handleName?.isNone) = [("quota/field.nibbles", Rows.laid_quota_field_nibbles), ("quota/page.headSizes", Rows.laid_quota_page_headSizes), ("quota/page.counterSizes", Rows.laid_quota_page_counterSizes), ("quota/page.groupSizes", Rows.laid_quota_page_groupSizes)] := by kernel_rfl
theorem laid_some : (laidL.filter fun x => x.2.handleName?.isSome) = [("errors.errorType", Rows.laid_errors_errorType)] := by kernel_rfl
theorem row_error:((List.range prog.types.size).all fun ty=>!prog.rowNamed ty [101,114,114,111,114] || ty == t_error) = true:=by kernel_rfl
theorem laid_err {W:World} (h:laidMetH prog laidL W):LaidE W:=by
 obtain ⟨_,h2⟩:=laidMetH_iff.1 h
 rw [laid_some] at h2
 have h3:=h2 _ List.mem_cons_self
 rw [show (("errors.errorType", Rows.laid_errors_errorType) : String × DataW Unit).2.funcsIn? = none by kernel_rfl] at h3
 obtain ⟨name,u,ty,e1,e2,e3,e4,e5⟩:=h3
 have n1:name = [101,114,114,111,114]:=by
  have : (("errors.errorType", Rows.laid_errors_errorType) : String × DataW Unit).2.handleName? = some [101, 114, 114, 111, 114] := by kernel_rfl
  rw [this] at e1
  exact (Option.some.inj e1).symm
 have n2:u = t_rtype:=by
  have : (prog.cutTypes.find? (·.1 == "internal/reflectlite.rtype")).map (·.2) = some t_rtype := by kernel_rfl
  rw [this] at e2
  exact (Option.some.inj e2).symm
 subst n1 n2
 have n3:ty = t_error:=by
  have:=List.all_eq_true.1 row_error ty (List.mem_range.2 e3)
  rw [e4] at this
  simpa using this
 subst n3
 have hg : prog.globalNamed "errors.errorType" = some g_errors_errorType := by kernel_rfl
 have hc:=var_cell hg e5 0
 refine ⟨hc.trans ?_⟩
 kernel_rfl
theorem laid_nib {W:World} (h:laidMetH prog laidL W):LaidC W:=by
 obtain ⟨h1,_⟩:=laidMetH_iff.1 h
 rw [laid_none] at h1
 obtain ⟨ps,⟨g,t,cs,fuel,p,q,hg,ht,hv,htr,_,_⟩,_⟩:=h1
 have n1 : prog.globalNamed "quota/field.nibbles" = some g_field_nibbles := by kernel_rfl
 rw [n1] at hg
 cases hg
 have n2:(prog.globals[g_field_nibbles]?).map (·.type) = some t_16_uint32:=by kernel_rfl
 rw [n2] at ht
 cases ht
 have k:=laid_arr (xs:=nibL) u_16_uint32 u_uint32 (by kernel_rfl) htr
 refine ⟨fun j hj=>?_⟩
 rw [var_cell n1 hv j]
 have hx:nibL[j]? = some (w32 (nib j)):=by
  have:∀ j,j < 16 → nibL[j]? = some (w32 (nib j)):=by decide
  exact this j hj
 have:=k j _ hx
 rw [Array.getElem?_toList] at this
 exact this
theorem laid_pg {W:World} (h:laidMetH prog laidL W):Nonempty (LaidP W):=by
 obtain ⟨h1,_⟩:=laidMetH_iff.1 h
 rw [laid_none] at h1
 obtain ⟨ps,⟨_,_,_,_,_,_,_,_,_,_,⟨g1,t1,cs1,f1,p1,q1,hg1,ht1,hv1,htr1,⟨g2,t2,cs2,f2,p2,q2,hg2,ht2,hv2,htr2,⟨g3,t3,cs3,f3,p3,q3,hg3,ht3,hv3,htr3,_,_⟩,_⟩,_⟩,_⟩,_⟩:=h1
 have n1 : prog.globalNamed "quota/page.headSizes" = some g_page_headSizes := by kernel_rfl
 have n2 : prog.globalNamed "quota/page.counterSizes" = some g_page_counterSizes := by kernel_rfl
 have n3 : prog.globalNamed "quota/page.groupSizes" = some g_page_groupSizes := by kernel_rfl
 rw [n1] at hg1
 rw [n2] at hg2
 rw [n3] at hg3
 cases hg1
 cases hg2
 cases hg3
 rw [show (prog.globals[g_page_headSizes]?).map (·.type) = some t_S_int by kernel_rfl] at ht1
 rw [show (prog.globals[g_page_counterSizes]?).map (·.type) = some t_S_int by kernel_rfl] at ht2
 rw [show (prog.globals[g_page_groupSizes]?).map (·.type) = some t_S_int by kernel_rfl] at ht3
 cases ht1
 cases ht2
 cases ht3
 have hc:prog.cellsOf t_int = 1:=by kernel_rfl
 obtain ⟨a1,c1,k1,o1⟩:=laid_ints (xs:=[1,1,2,2,2,4]) u_S_int u_int hc htr1
 obtain ⟨a2,c2,k2,o2⟩:=laid_ints (xs:=[4,4,8,8,8]) u_S_int u_int hc htr2
 obtain ⟨a3,c3,k3,o3⟩:=laid_ints (xs:=[4,8]) u_S_int u_int hc htr3
 refine ⟨⟨a1,c1,a2,c2,a3,c3,?_,?_,?_,o1,o2,o3⟩⟩
 ·rw [var_cell n1 hv1 0,← Array.getElem?_toList,k1];rfl
 ·rw [var_cell n2 hv2 0,← Array.getElem?_toList,k2];rfl
 ·rw [var_cell n3 hv3 0,← Array.getElem?_toList,k3];rfl
end Go.Proofs.YtbcedpankkdfoaaGreatDoor
/- The package-level variables at the start: the door's own heap meets the condition. No condition. -/
namespace Go.Proofs.YtbcedpankkdfoaaGreatDoor
open Go Go.SL Go.ChangeShapes Go.WideShapes Go.ChangeAt Go.RowKit
theorem own_knob:ownKnob prog.godebug = none:=by kernel_rfl
theorem laid_out:laidOutB prog = true:=by kernel_rfl
theorem door_met (os:Os) (args:Array Value):laidMetH prog laidL ((World.doorLaid prog 600 os).forCall (fun _ _=>0) ⟨#[],args,[]⟩).memory :=
 laidMetH_of_parts3 (fuel:=8) (laidMet_of_run' 8 (by kernel_rfl) (by kernel_rfl)) (by kernel_rfl) (by kernel_rfl)
end Go.Proofs.YtbcedpankkdfoaaGreatDoor
/- What the rows say of the program. No condition. -/
namespace Go.Proofs.YtbcedpankkdfoaaGreatDoor
open Go Go.SL
theorem andT {a b:Bool} (h:a = true) (k:b = true):(a && b) = true:=by rw [h,k];rfl
theorem g2:(laidOutB Tryz.prog) = true:=by kernel_rfl
theorem g3:(mapsRowed Tryz.prog) = true:=by kernel_rfl
theorem g7:(Tryz.prog.stops == []) = true:=by kernel_rfl
theorem g9:(Tryz.prog.stopKnobs == []) = true:=by kernel_rfl
theorem g23:(Rows.poolNamesRow.plainKeys == Tryz.prog.plainKeys) = true:=by kernel_rfl
theorem g25:(Tryz.prog.stopsHeard) = true:=by kernel_rfl
theorem g26:(Tryz.prog.mayEnter) = true:=by kernel_rfl
theorem g27:(Rows.poolNamesRow.lifted == Tryz.prog.liftsFinal) = true:=by kernel_rfl
theorem g28:(Tryz.prog.make == some Rows.poolNamesRow.make) = true:=by kernel_rfl
end Go.Proofs.YtbcedpankkdfoaaGreatDoor
/- What the row of PointsTake says of the program, one by one. No condition. -/
namespace Go.Proofs.YtbcedpankkdfoaaGreatDoor.pointsTake
open Go Go.SL
theorem j1:(Rows.pointsTakeRow.wf (OpenSpec.ofChange Rows.pointsTakeSpec)) = true:=by kernel_rfl
theorem j4:(Tryz.f14.params.all (Tryz.prog.readableRec ·)) = true:=by kernel_rfl
theorem j5:(namedTie Tryz.prog Rows.pointsTakeRow.named Rows.pointsTakeSpec.vars) = true:=by kernel_rfl
theorem j6:(Rows.pointsTakeRow.stops == []) = true:=by kernel_rfl
theorem j8:(Rows.pointsTakeRow.knobs == []) = true:=by kernel_rfl
theorem j10:(Rows.pointsTakeRow.inPlace == Tryz.prog.inPlace 14) = true:=by kernel_rfl
theorem j11:(Rows.pointsTakeRow.unfollowed == Tryz.prog.unfollowed 14) = true:=by kernel_rfl
theorem j12:(Rows.pointsTakeRow.recurses == Tryz.prog.recurses 14) = true:=by kernel_rfl
theorem j13:(Rows.pointsTakeRow.named == Tryz.prog.varsNamed 14) = true:=by kernel_rfl
theorem j14:(Rows.pointsTakeRow.maps == (Tryz.f14.params.toList ++ Rows.pointsTakeSpec.plain.varTypes Tryz.prog).any (Tryz.prog.mapsRec ·)) = true:=by kernel_rfl
theorem j15:(Rows.pointsTakeRow.ifaces == (Tryz.f14.params.toList ++ Rows.pointsTakeSpec.plain.varTypes Tryz.prog).any (Tryz.prog.ifacesRec ·)) = true:=by kernel_rfl
theorem j16:(Rows.pointsTakeRow.mapsOut == Tryz.prog.mapsAmong Tryz.f14.resultTypes.toList) = true:=by kernel_rfl
theorem j17:(Rows.pointsTakeRow.loops == (Tryz.f14.params.toList ++ Rows.pointsTakeSpec.plain.varTypes Tryz.prog).any (Tryz.prog.loopsFrom ·)) = true:=by kernel_rfl
theorem j18:(Rows.pointsTakeRow.wideKeys == (Tryz.f14.params.toList ++ Rows.pointsTakeSpec.plain.varTypes Tryz.prog ++ Tryz.f14.resultTypes.toList).any (Tryz.prog.wideKeysFrom ·)) = true:=by kernel_rfl
theorem j19:(Rows.pointsTakeSpec.vars.all (Tryz.prog.varReadable ·)) = true:=by kernel_rfl
theorem j20:(Tryz.f14.resultTypes.all (fun t=>Tryz.prog.readableRec t && decide (t < Tryz.prog.types.size))) = true:=by kernel_rfl
theorem j21:(Rows.pointsTakeRow.ifacesOut == Tryz.f14.resultTypes.toList.any (Tryz.prog.ifacesRec ·)) = true:=by kernel_rfl
theorem j22:(Rows.pointsTakeRow.loopsOut == Tryz.f14.resultTypes.toList.any (Tryz.prog.loopsFrom ·)) = true:=by kernel_rfl
theorem j24:(Rows.pointsTakeRow.shortTexts.isNone) = true:=by kernel_rfl
theorem j29:(Rows.pointsTakeRow.kinds == (if Rows.pointsTakeRow.domain.isEmpty then [] else Tryz.f14.params.toList.map fun t=>match Tryz.prog.underlying t with|some (.int k)=>some k|_=>none)) = true:=by kernel_rfl
theorem j30:(Rows.pointsTakeRow.pinned == Rows.pointsTakeRow.pinnedBy) = true:=by kernel_rfl
theorem j31:(Rows.pointsTakeRow.veiled == (Tryz.f14.params.toList ++ Rows.pointsTakeSpec.plain.varTypes Tryz.prog ++ Tryz.f14.resultTypes.toList).any (Tryz.prog.veiledRec ·)) = true:=by kernel_rfl
theorem j32:(Rows.pointsTakeRow.veiledFits Tryz.prog Tryz.f14.params.toList (Tryz.f14.params.toList ++ Rows.pointsTakeSpec.plain.varTypes Tryz.prog ++ Tryz.f14.resultTypes.toList)) = true:=by kernel_rfl
end Go.Proofs.YtbcedpankkdfoaaGreatDoor.pointsTake
/- What the row of PointsTake says of the program. No condition. -/
namespace Go.Proofs.YtbcedpankkdfoaaGreatDoor.pointsTake
open Go Go.SL
theorem j2:(laidOutB Tryz.prog) = true:=g2
theorem j3:(mapsRowed Tryz.prog) = true:=g3
theorem j7:(Tryz.prog.stops == []) = true:=g7
theorem j9:(Tryz.prog.stopKnobs == []) = true:=g9
theorem j23:(Rows.pointsTakeRow.plainKeys == Tryz.prog.plainKeys) = true:=g23
theorem j25:(Tryz.prog.stopsHeard) = true:=g25
theorem j26:(Tryz.prog.mayEnter) = true:=g26
theorem j27:(Rows.pointsTakeRow.lifted == Tryz.prog.liftsFinal) = true:=g27
theorem j28:(Tryz.prog.make == some Rows.pointsTakeRow.make) = true:=g28
set_option maxRecDepth 100000 in
theorem facts:joinedFacts Tryz.prog 14 Tryz.f14 Rows.pointsTakeSpec Rows.pointsTakeRow = true :=
 (andT (andT (andT (andT (andT (andT (andT (andT (andT (andT (andT (andT (andT (andT (andT (andT (andT (andT (andT (andT (andT (andT (andT (andT (andT (andT (andT (andT (andT (andT (andT j1 j2) j3) j4) j5) j6) j7) j8) j9) j10) j11) j12) j13) j14) j15) j16) j17) j18) j19) j20) j21) j22) j23) j24) j25) j26) j27) j28) j29) j30) j31) j32)
end Go.Proofs.YtbcedpankkdfoaaGreatDoor.pointsTake
/- What the tied card of PointsTake says of the program. No condition. -/
namespace Go.Proofs.YtbcedpankkdfoaaGreatDoor.pointsTake
open Go
theorem c_main:Tryz.prog.mainIs = some (Rows.pointsTakeCard.stood.harness.1,Rows.pointsTakeCard.stood.harness.2.toList):=by kernel_rfl
theorem c_looks:true = Tryz.prog.looks []:=by kernel_rfl
theorem c_wf:Rows.pointsTakeRow.wfByText (OpenSpec.ofChange Rows.pointsTakeSpec) = true:=by kernel_rfl
end Go.Proofs.YtbcedpankkdfoaaGreatDoor.pointsTake
/- What the tied card of PointsTake says of the program. No condition. -/
namespace Go.Proofs.YtbcedpankkdfoaaGreatDoor.pointsTake
open Go
theorem c_goes:false = Rows.pointsTakeRow.goesBy Tryz.prog:=by kernel_rfl
end Go.Proofs.YtbcedpankkdfoaaGreatDoor.pointsTake
