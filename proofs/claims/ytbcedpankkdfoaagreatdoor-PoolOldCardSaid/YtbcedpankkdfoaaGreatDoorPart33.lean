/- What an argument of any shape holds: numbers, bools, structs, slices, one inside the other; and that no slice is greater than a machine. No condition. -/
import Derived.Test.YtbcedpankkdfoaaGreatDoorPart6
import Derived.SizedLaws
import Derived.Test.YtbcedpankkdfoaaGreatDoorPart31
import Derived.LaidMore
import Derived.Test.YtbcedpankkdfoaaGreatDoorPart29
import Derived.Test.YtbcedpankkdfoaaGreatDoorPart32
namespace Go.SL
open Go Go.RowKit
theorem len1 {α:Type} {l:List α} (h:l.length = 1):∃ a0,l = [a0]:=by
 match l,h with
 | [a0],_=>exact ⟨a0,rfl⟩
theorem len2 {α:Type} {l:List α} (h:l.length = 2):∃ a0 a1,l = [a0,a1]:=by
 match l,h with
 | a0 :: l,h =>
  obtain ⟨a1,rfl⟩:=len1 (Nat.succ.inj h)
  exact ⟨a0,a1,rfl⟩
theorem len3 {α:Type} {l:List α} (h:l.length = 3):∃ a0 a1 a2,l = [a0,a1,a2]:=by
 match l,h with
 | a0 :: l,h =>
  obtain ⟨a1,a2,rfl⟩:=len2 (Nat.succ.inj h)
  exact ⟨a0,a1,a2,rfl⟩
theorem len4 {α:Type} {l:List α} (h:l.length = 4):∃ a0 a1 a2 a3,l = [a0,a1,a2,a3]:=by
 match l,h with
 | a0 :: l,h =>
  obtain ⟨a1,a2,a3,rfl⟩:=len3 (Nat.succ.inj h)
  exact ⟨a0,a1,a2,a3,rfl⟩
theorem len5 {α:Type} {l:List α} (h:l.length = 5):∃ a0 a1 a2 a3 a4,l = [a0,a1,a2,a3,a4]:=by
 match l,h with
 | a0 :: l,h =>
  obtain ⟨a1,a2,a3,a4,rfl⟩:=len4 (Nat.succ.inj h)
  exact ⟨a0,a1,a2,a3,a4,rfl⟩
theorem len6 {α:Type} {l:List α} (h:l.length = 6):∃ a0 a1 a2 a3 a4 a5,l = [a0,a1,a2,a3,a4,a5]:=by
 match l,h with
 | a0 :: l,h =>
  obtain ⟨a1,a2,a3,a4,a5,rfl⟩:=len5 (Nat.succ.inj h)
  exact ⟨a0,a1,a2,a3,a4,a5,rfl⟩
theorem len7 {α:Type} {l:List α} (h:l.length = 7):∃ a0 a1 a2 a3 a4 a5 a6,l = [a0,a1,a2,a3,a4,a5,a6]:=by
 match l,h with
 | a0 :: l,h =>
  obtain ⟨a1,a2,a3,a4,a5,a6,rfl⟩:=len6 (Nat.succ.inj h)
  exact ⟨a0,a1,a2,a3,a4,a5,a6,rfl⟩
theorem len8 {α:Type} {l:List α} (h:l.length = 8):∃ a0 a1 a2 a3 a4 a5 a6 a7,l = [a0,a1,a2,a3,a4,a5,a6,a7]:=by
 match l,h with
 | a0 :: l,h =>
  obtain ⟨a1,a2,a3,a4,a5,a6,a7,rfl⟩:=len7 (Nat.succ.inj h)
  exact ⟨a0,a1,a2,a3,a4,a5,a6,a7,rfl⟩
theorem len9 {α:Type} {l:List α} (h:l.length = 9):∃ a0 a1 a2 a3 a4 a5 a6 a7 a8,l = [a0,a1,a2,a3,a4,a5,a6,a7,a8]:=by
 match l,h with
 | a0 :: l,h =>
  obtain ⟨a1,a2,a3,a4,a5,a6,a7,a8,rfl⟩:=len8 (Nat.succ.inj h)
  exact ⟨a0,a1,a2,a3,a4,a5,a6,a7,a8,rfl⟩
theorem len10 {α:Type} {l:List α} (h:l.length = 10):∃ a0 a1 a2 a3 a4 a5 a6 a7 a8 a9,l = [a0,a1,a2,a3,a4,a5,a6,a7,a8,a9]:=by
 match l,h with
 | a0 :: l,h =>
  obtain ⟨a1,a2,a3,a4,a5,a6,a7,a8,a9,rfl⟩:=len9 (Nat.succ.inj h)
  exact ⟨a0,a1,a2,a3,a4,a5,a6,a7,a8,a9,rfl⟩
theorem len11 {α:Type} {l:List α} (h:l.length = 11):∃ a0 a1 a2 a3 a4 a5 a6 a7 a8 a9 a10,l = [a0,a1,a2,a3,a4,a5,a6,a7,a8,a9,a10]:=by
 match l,h with
 | a0 :: l,h =>
  obtain ⟨a1,a2,a3,a4,a5,a6,a7,a8,a9,a10,rfl⟩:=len10 (Nat.succ.inj h)
  exact ⟨a0,a1,a2,a3,a4,a5,a6,a7,a8,a9,a10,rfl⟩
section
variable {H:Type} {enc:TypeId × Value → H} {P:Program} {W:World}
def DecR (enc:TypeId × Value → H) (P:Program) (W:World) (t:TypeId) (cs:List Value) (d:DataW H):Prop:=∃ n ps,DataW.trod enc P W 0 (fun _=>true) true n t cs = some (d,ps)
def Fits (P:Program) (t:TypeId) (d:DataW H):Prop:=∀ n ∈ d.weights P t,n ≤ reachBytes
theorem DecR.of_trod {t:TypeId} {v:Value} {d:DataW H} {ps:List MemPlace} (h:DataW.Trod enc P W 0 (fun _=>true) true t v d ps):DecR enc P W t v.cells.toList d:=by
 obtain ⟨n,hn⟩:=h
 exact ⟨n,ps,hn⟩
theorem Fits.of_each {ts:List TypeId} {ds:List (DataW H)} (h:(DataW.weightsEach P ts ds).all (· ≤ reachBytes) = true) {j:Nat} {t:TypeId} {d:DataW H} (ht:ts[j]? = some t) (hd:ds[j]? = some d):Fits P t d:=fun n hn=>by
 have:=List.all_eq_true.1 h _ (DataW.weights_mem_each ht hd n hn)
 simpa using this
theorem DecR.int {t:TypeId} {k:IntKind} {cs:List Value} {d:DataW H} (ht:P.underlying t = some (.int k)) (h:DecR enc P W t cs d):∃ z,cs = [.int k z] ∧ (Lit.int k z).wf = true:=by
 obtain ⟨n,ps,h⟩:=h
 obtain ⟨z,h1,_,h2⟩:=DataW.trod_int ht h
 exact ⟨z,h1,h2⟩
theorem DecR.bool {t:TypeId} {cs:List Value} {d:DataW H} (ht:P.underlying t = some .bool) (h:DecR enc P W t cs d):∃ z,cs = [.bool z]:=by
 obtain ⟨n,ps,h⟩:=h
 obtain ⟨z,h1,_⟩:=DataW.trod_bool ht h
 exact ⟨z,h1⟩
theorem DecR.string {t:TypeId} {cs:List Value} {d:DataW H} (ht:P.underlying t = some .string) (h:DecR enc P W t cs d):∃ s,cs = [.string s] ∧ s.size ≤ maxLen ∧ (Fits P t d → s.size ≤ reachBytes):=by
  obtain ⟨n,ps,h⟩:=h
  cases n with
  | zero=>simp [DataW.trod] at h
  | succ n =>
    simp only [DataW.trod,ht] at h
    split at h <;> try (rename_i e _;cases e;done)
    all_goals first
      | (rename_i s heq;cases heq)
      | skip
    all_goals first
      | (split at h
         · rename_i hs
           cases h
           exact ⟨_,rfl,hs,fun hf=>by simpa using hf _ (by simp [DataW.weights])⟩
         · cases h)
      | simp_all
theorem DecR.struct {t:TypeId} {fs:Array Field} {cs:List Value} {d:DataW H} (ht:P.underlying t = some (.struct fs)) (h:DecR enc P W t cs d) :
  cs.length = P.cellsOf t ∧ ∀ (i:Nat) (f:Field),fs.toList[i]? = some f → ∃ y,DecR enc P W f.type ((cs.drop f.offset).take (P.cellsOf f.type)) y ∧ (Fits P t d → Fits P f.type y):=by
 obtain ⟨n,ps,h⟩:=h
 cases n with
 | zero=>simp [DataW.trod] at h
 | succ k =>
  simp only [DataW.trod,ht] at h
  split at h
  ·rename_i hl
   obtain ⟨xs,hxs,he⟩:=Option.map_eq_some_iff.1 h
   have hd:d = .agg (xs.map (·.1)):=by cases he;rfl
   subst hd
   have key:∀ (l:List Field) (ys:List (DataW H × List MemPlace)),l.mapM (fun f=>DataW.trod enc P W 0 (fun _=>true) true k f.type ((cs.drop f.offset).take (P.cellsOf f.type))) = some ys →
     ∀ (i:Nat) (f:Field),l[i]? = some f → ∃ y,ys[i]? = some y ∧ DataW.trod enc P W 0 (fun _=>true) true k f.type ((cs.drop f.offset).take (P.cellsOf f.type)) = some y:=by
    intro l
    induction l with
    | nil=>intro _ _ i f hf;simp at hf
    | cons g l ih =>
     intro ys hys i f hf
     simp only [List.mapM_cons,Option.bind_eq_bind,Option.bind_eq_some_iff] at hys
     obtain ⟨y,hy,ys',hys',e⟩:=hys
     cases e
     cases i with
     | zero=>simp at hf;subst hf;exact ⟨y,rfl,hy⟩
     | succ i =>
      obtain ⟨z,h1,h2⟩:=ih ys' hys' i f (by simpa using hf)
      exact ⟨z,by simpa using h1,h2⟩
   refine ⟨hl,fun i f hf=>?_⟩
   obtain ⟨y,h1,h2⟩:=key _ _ hxs i f hf
   refine ⟨y.1,⟨k,y.2,by rw [h2]⟩,fun hb m hm=>hb m ?_⟩
   simp only [DataW.weights,ht]
   exact DataW.weights_mem_each (j:=i) (by simp [hf]) (by simp [h1]) m hm
  ·cases h
theorem weightsAll_mem:∀ {e:TypeId} {ds:List (DataW H)} {j:Nat} {d:DataW H},ds[j]? = some d → ∀ n ∈ d.weights P e,n ∈ DataW.weightsAll P e ds
 | e,d0 :: ds,0,d,hd,n,hn=>by
  simp only [List.getElem?_cons_zero,Option.some.injEq] at hd
  subst hd
  simp only [DataW.weightsAll,List.mem_append]
  exact Or.inl hn
 | e,d0 :: ds,j + 1,d,hd,n,hn=>by
  simp only [List.getElem?_cons_succ] at hd
  simp only [DataW.weightsAll,List.mem_append]
  exact Or.inr (weightsAll_mem hd n hn)
 | _,[],_,_,hd,_,_=>by simp at hd
theorem DecR.slice {α:Type} {Ok:α → Prop} {enc':α → List Value} {t e:TypeId} {cs:List Value} {d:DataW H} (ht:P.underlying t = some (.slice e)) (dec:∀ cs d,DecR enc P W e cs d → Fits P e d → ∃ x,Ok x ∧ cs = enc' x)
  (hsz:∀ x,(enc' x).length = P.cellsOf e) (hpos:0 < P.cellsOf e) (h:DecR enc P W t cs d) (hb:Fits P t d) :
  ∃ a len cap xs,cs = [.slice a len cap] ∧ OldVec W (P.cellsOf e) enc' a len cap xs ∧ (∀ x ∈ xs,Ok x) ∧ cap * P.bytesOf e ≤ reachBytes:=by
 obtain ⟨n,ps,hf⟩:=h
 rcases Deep.open_slice ht hf with ⟨rfl,_⟩|⟨a',len',cap',m,n,D,Pl,rfl,_,hl,hm,hmm,hx0,hx⟩
 ·exact ⟨none,0,0,[],rfl,⟨rfl,⟨Nat.le_refl _,Nat.zero_le _⟩,fun i x h=>by simp at h⟩,fun x h=>by simp at h,by simp⟩
 ·simp only [if_true] at hmm
  subst hmm
  have hd:d = .slice ((List.range len').map D) ((List.range (m - len')).map fun j=>D (len' + j)):=by cases hx0;rfl
  subst hd
  have hw:(len' + (m - len')) * P.bytesOf e ≤ reachBytes:=hb _ (by simp [DataW.weights,ht])
  have hfit:∀ i,i < len' → Fits P e (D i):=fun i hi q hq=>hb q (by
   simp only [DataW.weights,ht,List.mem_cons,List.mem_append]
   exact Or.inr (Or.inl (weightsAll_mem (j:=i) (by simp [hi]) q hq)))
  obtain ⟨xs,h1,h2⟩:=list_of (p:=fun i (x:α)=>Ok x ∧ W.cells? 0 (a'.add (i * P.cellsOf e)) (P.cellsOf e) = some (enc' x)) len' fun i hi=>by
   obtain ⟨cs',h3,h4⟩:=hx i (by omega)
   obtain ⟨x,hok,rfl⟩:=dec _ _ ⟨_,_,h4⟩ (hfit i hi)
   exact ⟨x,hok,h3⟩
  refine ⟨some a',len',m,xs,rfl,⟨h1.symm,⟨hl,hm⟩,fun i x hi=>?_⟩,fun x hx=>?_,by rwa [show len' + (m - len') = m by omega] at hw⟩
  ·obtain ⟨_,h3⟩:=h2 i x hi
   obtain ⟨_,h4,h5⟩:=World.cells?_some h3
   obtain ⟨b,off,sp⟩:=a'
   have h6:sp = none:=by
    obtain ⟨x0,hx0⟩:∃ x0,xs[0]? = some x0:=by
     cases xs with
     | nil=>simp at hi
     | cons y ys=>exact ⟨y,rfl⟩
    obtain ⟨_,h3'⟩:=h2 0 x0 hx0
    obtain ⟨_,_,h5'⟩:=World.cells?_some h3'
    have h7:=h5' 0 hpos
    have h8:0 < (enc' x0).length:=by rw [hsz];exact hpos
    rw [List.getElem?_eq_getElem h8] at h7
    simp only [Nat.zero_mul,Addr.add,if_true] at h7
    unfold World.cell? at h7
    split at h7
    ·cases sp with
     | none=>rfl
     | some k=>simp at h7
    ·cases h7
   subst h6
   refine ⟨b,off,rfl,fun j v hj=>?_⟩
   have hjl:j < P.cellsOf e:=by
    rcases Nat.lt_or_ge j (enc' x).length with h|h
    ·rw [← hsz x];exact h
    ·simp [List.getElem?_eq_none h] at hj
   have:=h5 j hjl
   rw [hj,Addr.add_eq,Addr.add_eq] at this
   exact this
  ·obtain ⟨i,hi⟩:=List.getElem?_of_mem hx
   exact (h2 i x hi).1
theorem DecR.agg {t:TypeId} {fs:Array Field} {r:Reach} {b0:Nat} {v:Value} {d:DataW H} {ps:List MemPlace} (ht:P.underlying t = some (.struct fs)) (hval:Value.okWide P W r b0 t v) (hd:DataW.Trod enc P W 0 (fun _=>true) true t v d ps) :
  ∃ cs,v = .agg ⟨cs⟩ ∧ DecR enc P W t cs d:=by
 simp only [Value.okWide,ht] at hval
 obtain ⟨⟨cs⟩,rfl,_⟩:=hval
 obtain ⟨fuel,hf⟩:=hd
 exact ⟨cs,rfl,fuel,ps,hf⟩
theorem DecR.slc {t e:TypeId} {r:Reach} {b0:Nat} {v:Value} {d:DataW H} {ps:List MemPlace} (ht:P.underlying t = some (.slice e)) (hval:Value.okWide P W r b0 t v) (hd:DataW.Trod enc P W 0 (fun _=>true) true t v d ps) :
  ∃ a len cap,v = .slice a len cap ∧ DecR enc P W t [.slice a len cap] d:=by
 obtain ⟨a,len,cap,rfl⟩:=WideShapes.okWide_slice ht hval
 obtain ⟨fuel,hf⟩:=hd
 exact ⟨a,len,cap,rfl,fuel,ps,hf⟩
theorem DecR.num {t:TypeId} {k:IntKind} {r:Reach} {b0:Nat} {v:Value} {d:DataW H} {ps:List MemPlace} (ht:P.underlying t = some (.int k)) (hval:Value.okWide P W r b0 t v) (hd:DataW.Trod enc P W 0 (fun _=>true) true t v d ps) :
  ∃ z,v = .int k z ∧ (Lit.int k z).wf = true:=by
 obtain ⟨n,rfl⟩:=WideShapes.okWide_int ht hval
 obtain ⟨z,h1,h2⟩:=DecR.int ht (DecR.of_trod hd)
 simp [Value.cells] at h1
 subst h1
 exact ⟨n,rfl,h2⟩
end
end Go.SL
/- What the law's calls among the arguments hold. No condition. -/
namespace Go.Proofs.YtbcedpankkdfoaaGreatDoor
open Go Go.SL Go.SL.Sec Go.SL.Fld Go.SL.Pts Go.SL.Rec Go.SL.Twn Go.SL.Pg Go.SL.Mst Go.SL.Pool Go.ChangeShapes Go.WideShapes Go.ChangeAt Go.RowKit
section
variable {HT:Type} {enc:TypeId × Value → HT} {W:World}
theorem d_int:prog.cellsOf t_int = 1:=by kernel_rfl
theorem d_int64:prog.cellsOf t_int64 = 1:=by kernel_rfl
theorem d_bool:prog.cellsOf t_bool = 1:=by kernel_rfl
theorem d_S_api_Counter:prog.cellsOf t_S_api_Counter = 1:=by kernel_rfl
theorem d_S_api_Group:prog.cellsOf t_S_api_Group = 1:=by kernel_rfl
theorem d_S_uint64:prog.cellsOf t_S_uint64 = 1:=by kernel_rfl
theorem d_api_Range:prog.cellsOf t_api_Range = 2:=by kernel_rfl
theorem d_api_Counter:prog.cellsOf t_z17 = 5:=by kernel_rfl
theorem d_api_Group:prog.cellsOf t_zq = 2:=by kernel_rfl
theorem d_api_Loss:prog.cellsOf t_api_Loss = 3:=by kernel_rfl
theorem d_page:prog.cellsOf t_z1d = 4:=by kernel_rfl
theorem d_op:prog.cellsOf t_z42 = 11:=by kernel_rfl
theorem d_uint64:prog.cellsOf t_uint64 = 1:=by kernel_rfl
theorem int_dec {t:TypeId} (ht:prog.underlying t = some (.int .i64)) {cs:List Value} {d:DataW HT} (h:DecR enc prog W t cs d):∃ z,cs = [.int .i64 z] ∧ In64 z:=by
 obtain ⟨z,h1,h2⟩:=DecR.int ht h
 exact ⟨z,h1,wf_i64 h2⟩
theorem range_dec {cs:List Value} {d:DataW HT} (h:DecR enc prog W t_api_Range cs d):∃ a b,cs = [.int .i64 a,.int .i64 b] ∧ In64 a ∧ In64 b:=by
 obtain ⟨hl,hf⟩:=DecR.struct u_api_Range h
 rw [d_api_Range] at hl
 obtain ⟨a0,a1,rfl⟩:=len2 hl
 obtain ⟨y0,h0,_⟩:=hf 0 _ rfl
 obtain ⟨y1,h1,_⟩:=hf 1 _ rfl
 obtain ⟨z0,e0,w0⟩:=int_dec u_int64 h0
 obtain ⟨z1,e1,w1⟩:=int_dec u_int64 h1
 simp [d_int64] at e0 e1
 exact ⟨z0,z1,by rw [e0,e1],w0,w1⟩
theorem counter_dec:∀ cs d,DecR enc prog W t_z17 cs d → Fits prog t_z17 d → ∃ x:CntV,CntIn x ∧ cs = cntv x:=by
 intro cs d h _
 obtain ⟨hl,hf⟩:=DecR.struct u_api_Counter h
 rw [d_api_Counter] at hl
 obtain ⟨a0,a1,a2,a3,a4,rfl⟩:=len5 hl
 obtain ⟨y0,h0,_⟩:=hf 0 _ rfl
 obtain ⟨y1,h1,_⟩:=hf 1 _ rfl
 obtain ⟨y2,h2,_⟩:=hf 2 _ rfl
 obtain ⟨y3,h3,_⟩:=hf 3 _ rfl
 obtain ⟨z0,e0,w0⟩:=int_dec u_int h0
 obtain ⟨z1,e1,w1⟩:=int_dec u_int h1
 obtain ⟨z2,z3,e2,w2,w3⟩:=range_dec h2
 obtain ⟨z4,e3,w4⟩:=int_dec u_int64 h3
 simp [d_int,d_int64,d_api_Range] at e0 e1 e2 e3
 exact ⟨⟨z0,z1,z2,z3,z4⟩,⟨w0,w1,w2,w3,w4⟩,by simp [cntv,e0,e1,e2.1,e2.2,e3]⟩
theorem group_dec:∀ cs d,DecR enc prog W t_zq cs d → Fits prog t_zq d → ∃ x:GrpV,GrpIn x ∧ cs = grpv x:=by
 intro cs d h _
 obtain ⟨hl,hf⟩:=DecR.struct u_api_Group h
 rw [d_api_Group] at hl
 obtain ⟨a0,a1,rfl⟩:=len2 hl
 obtain ⟨y0,h0,_⟩:=hf 0 _ rfl
 obtain ⟨y1,h1,_⟩:=hf 1 _ rfl
 obtain ⟨z0,e0,w0⟩:=int_dec u_int h0
 obtain ⟨z1,e1,w1⟩:=int_dec u_int64 h1
 simp [d_int,d_int64] at e0 e1
 exact ⟨⟨z0,z1⟩,⟨w0,w1⟩,by simp [grpv,e0,e1]⟩
def InU (z:Int):Prop:=0 ≤ z ∧ z ≤ 18446744073709551615
theorem word_dec:∀ cs d,DecR enc prog W t_uint64 cs d → Fits prog t_uint64 d → ∃ z:Int,InU z ∧ cs = u64s z:=by
 intro cs d h _
 obtain ⟨z,h1,h2⟩:=DecR.int (show prog.underlying t_uint64 = some (.int .u64) from u_uint64) h
 refine ⟨z,?_,h1⟩
 unfold InU
 simpa [Lit.wf,IntKind.min,IntKind.max,IntKind.signed,IntKind.bits] using h2
structure LossV where
 ka:Option Addr
 kc:Nat
 K:List Int
 torn:Int
 off:Int
abbrev lossl (l:LossV):List Value:=[.slice l.ka l.K.length l.kc,.int .i64 l.torn,.int .i64 l.off]
structure OkLoss (W:World) (l:LossV):Prop where
 row:OldVec W 1 u64s l.ka l.K.length l.kc l.K
 words:∀ z ∈ l.K,InU z
 torn:In64 l.torn
 off:In64 l.off
theorem loss_dec {cs:List Value} {d:DataW HT} (h:DecR enc prog W t_api_Loss cs d) (hf0:Fits prog t_api_Loss d):∃ l:LossV,OkLoss W l ∧ cs = lossl l:=by
 obtain ⟨hl,hf⟩:=DecR.struct u_api_Loss h
 rw [d_api_Loss] at hl
 obtain ⟨a0,a1,a2,rfl⟩:=len3 hl
 obtain ⟨y0,h0,f0⟩:=hf 0 _ rfl
 obtain ⟨y1,h1,_⟩:=hf 1 _ rfl
 obtain ⟨y2,h2,_⟩:=hf 2 _ rfl
 obtain ⟨a,n,c,xs,e0,o0,w0,_⟩:=DecR.slice u_S_uint64 word_dec (fun _=>d_uint64.symm) (by rw [d_uint64];decide) h0 (f0 hf0)
 obtain ⟨z1,e1,w1⟩:=int_dec u_int h1
 obtain ⟨z2,e2,w2⟩:=int_dec u_int h2
 have hn:=o0.hlen
 subst hn
 rw [d_uint64] at o0
 simp [d_int,d_S_uint64] at e0 e1 e2
 exact ⟨⟨a,c,xs,z1,z2⟩,⟨o0,w0,w1,w2⟩,by simp [lossl,e0,e1,e2]⟩
structure OkOp (W:World) (o:OpV):Prop where
 rc:OldVec W 5 cntv o.ca o.m.pg.C.length o.cc o.m.pg.C
 rg:OldVec W 2 grpv o.ga o.m.pg.G.length o.gc o.m.pg.G
 pin:o.m.pg.In
 a:In64 o.m.a
theorem op_dec:∀ cs d,DecR enc prog W t_z42 cs d → Fits prog t_z42 d → ∃ o:OpV,OkOp W o ∧ cs = opl o:=by
 intro cs d h hF
 obtain ⟨hl,hf⟩:=DecR.struct u_quotalaw09_Op h
 rw [d_op] at hl
 obtain ⟨y0,h0,_⟩:=hf 0 _ rfl
 obtain ⟨y1,h1,_⟩:=hf 1 _ rfl
 obtain ⟨y2,h2,_⟩:=hf 2 _ rfl
 obtain ⟨y3,h3,f3⟩:=hf 3 _ rfl
 obtain ⟨y4,h4,_⟩:=hf 4 _ rfl
 obtain ⟨y5,h5,f5⟩:=hf 5 _ rfl
 obtain ⟨z0,e0,_⟩:=int_dec u_int h0
 obtain ⟨z1,e1,_⟩:=int_dec u_int h1
 obtain ⟨z2,e2,w2⟩:=int_dec u_int h2
 obtain ⟨z4,e4⟩:=DecR.bool u_bool h4
 obtain ⟨l,_,e5⟩:=loss_dec h5 (f5 hF)
 obtain ⟨_,hg⟩:=DecR.struct u_quotaref07_Page h3
 obtain ⟨x0,g0,_⟩:=hg 0 _ rfl
 obtain ⟨x1,g1,_⟩:=hg 1 _ rfl
 obtain ⟨x2,g2,k2⟩:=hg 2 _ rfl
 obtain ⟨x3,g3,k3⟩:=hg 3 _ rfl
 obtain ⟨p0,q0,v0⟩:=int_dec u_int g0
 obtain ⟨p1,q1,v1⟩:=int_dec u_int g1
 obtain ⟨ca,nC,cc,C,q2,o2,v2,_⟩:=DecR.slice u_S_api_Counter counter_dec (fun _=>d_api_Counter.symm) (by show 0 < prog.cellsOf t_z17;rw [d_api_Counter];decide) g2 (k2 (f3 hF))
 obtain ⟨ga,nG,gc,G,q3,o3,v3,_⟩:=DecR.slice u_S_api_Group group_dec (fun _=>d_api_Group.symm) (by show 0 < prog.cellsOf t_zq;rw [d_api_Group];decide) g3 (k3 (f3 hF))
 have hn2:=o2.hlen
 have hn3:=o3.hlen
 subst hn2 hn3
 have o2':OldVec W 5 cntv ca C.length cc C:=by rw [← d_api_Counter];exact o2
 have o3':OldVec W 2 grpv ga G.length gc G:=by rw [← d_api_Group];exact o3
 clear h0 h1 h2 h3 h4 h5 g0 g1 g2 g3 hf hg h f3 f5 k2 k3
 obtain ⟨a0,a1,a2,a3,a4,a5,a6,a7,a8,a9,a10,rfl⟩:=len11 hl
 simp [d_int,d_bool,d_S_api_Counter,d_S_api_Group,d_api_Loss,d_page] at e0 e1 e2 e4 e5 q0 q1 q2 q3
 exact ⟨⟨⟨z0,z1,z2,⟨p0,p1,C,G⟩⟩,ca,cc,ga,gc,z4,l.ka,l.K.length,l.kc,l.torn,l.off⟩,⟨o2',o3',⟨v0,v1,v2,v3⟩,w2⟩,by simp [opl,e0,e1,e2,e4,e5,q0,q1,q2,q3]⟩
end
end Go.Proofs.YtbcedpankkdfoaaGreatDoor
/- A call played keeps the bounds; plain words. Conditions: in each statement. -/
namespace Go.SL.Pool
open Go Go.SL Go.SL.Sec Go.SL.Fld Go.SL.Rec Go.SL.Twn Go.SL.Pg Go.SL.Mst
theorem play_bd {X:StM} {p k c:Int} (h:Bd p k c X.S) (hk:0 ≤ k) (ok:X.S.Ok) (o:OpM):Bd p (k + 1) (c + 2) (X.play o).2.S:=by
 have h0:=h.up (show k ≤ k + 1 by omega) (show c ≤ c + 2 by omega)
 unfold StM.play
 split
 ·have h1:=(h.get hk ok.nd (o.n % X.S.P.pages)).up (show k ≤ k + 1 by omega) (show c + 1 ≤ c + 2 by omega)
  unfold StM.gets
  dsimp only
  split
  ·exact h1
  ·exact h1
 split
 ·exact (h.pin hk ok.nd _).up (Int.le_refl _) (by omega)
 split
 ·have h1:=h.get hk ok.nd (o.n % X.S.P.pages)
  have h1':=h1.up (show k ≤ k + 1 by omega) (show c + 1 ≤ c + 2 by omega)
  have h2:=(h1.sput (putP o (o.n % X.S.P.pages) (lastP X.had (o.n % X.S.P.pages)))).up (show k ≤ k + 1 by omega) (show c + 1 + 1 ≤ c + 2 by omega)
  unfold StM.puts
  dsimp only
  split
  ·exact h1'
  ·split
   ·exact h2
   ·split
    ·exact h2
    ·exact h2
 split
 ·exact (h.unpin _).up (by omega) (by omega)
 split
 ·exact (h.evict _).up (by omega) (by omega)
 split
 ·exact (h.flush _).up (by omega) (by omega)
 split
 ·exact (h.begE _).up (by omega) (by omega)
 split
 ·exact (h.force _).up (by omega) (by omega)
 ·exact h0
theorem play_rl {X:StM} {k:Nat} (h:∀ l ∈ X.had,l.length ≤ k) (o:OpM):∀ l ∈ (X.play o).2.had,l.length ≤ k + 1:=by
 have h0:∀ l ∈ X.had,l.length ≤ k + 1:=fun l hl=>Nat.le_succ_of_le (h l hl)
 unfold StM.play
 split
 ·unfold StM.gets
  dsimp only
  split
  ·exact h0
  ·exact h0
 split
 ·exact h0
 split
 ·unfold StM.puts
  dsimp only
  split
  ·exact h0
  ·split
   ·exact h0
   ·split
    ·exact h0
    ·intro l hl
     rcases List.mem_or_eq_of_mem_set hl with hl|rfl
     ·exact h0 l hl
     ·rw [List.length_append,List.length_singleton]
      cases hg:X.had[(o.n % X.S.P.pages).toNat]? with
      | none=>simp
      | some m =>
       have:=h m (List.mem_of_getElem? hg)
       show m.length + 1 ≤ k + 1
       omega
 split
 ·exact h0
 split
 ·exact h0
 split
 ·exact h0
 split
 ·exact h0
 split
 ·exact h0
 ·exact h0
end Go.SL.Pool
/- The law's store at its end: unpinned, evicted; plain words. Conditions: in each statement. -/
namespace Go.SL.Pool
open Go Go.SL Go.SL.Sec Go.SL.Fld Go.SL.Rec Go.SL.Twn Go.SL.Pg Go.SL.Mst
def pinsOf (S:Sto) (n:Int):Nat:=match S.P.held.lookup n with
 | some f=>f.pins.toNat
 | none=>0
theorem Keeps.read {S:Sto} {last:Int → PgM} {n:Int} (K:Keeps S last) (hn:0 ≤ n ∧ n < S.P.pages) (h:S.P.held.lookup n = none):decP (S.D.at (5 + 2 * n) ++ S.D.at (5 + 2 * n + 1)) n = (0,last n):=by
 obtain ⟨g1,g2,g3,g4⟩:=K.good n hn
 have e:=K.home n hn h
 unfold pageOf at e
 rw [e]
 have:=dec_enc g2 g3
 rw [g1] at this
 exact this
end Go.SL.Pool
/- PoolKeeps, walked: it answers true. Conditions: in each statement. -/
namespace Go.Proofs.YtbcedpankkdfoaaGreatDoor
open Go Go.SL Go.SL.Sec Go.SL.Fld Go.SL.Pts Go.SL.Rec Go.SL.Twn Go.SL.Pg Go.SL.Mst Go.SL.Pool
instance:SizedC 11 opl:=⟨fun _=>rfl⟩
section
variable {W:World} {R:HProp} {b:Nat} {X:StX} {S:StoX} {o:OpV}
theorem plays_spec [le:LaidE W] [lc:LaidC W] [lp:LaidP W] [oc:OldC W R] (ho:OkOp W o) (hX:X.Ok S) (hb:SmallX X S) :
  Does prog W f_z0 ⟨[ptr b,.agg ⟨opl o⟩]⟩ (storec b X•stoo X.q S•R) (Ret (PlayQ b X ((stmOf X S).play o.m) R)):=by
 by_cases k1:o.m.kind = 1
 ·exact plays_get hX hb k1
 by_cases k2:o.m.kind = 2
 ·have hpg:=hX.pages
  have hc1:=ho.rc.hcap
  have hc2:=ho.rg.hcap
  unfold maxLen at hc1 hc2
  have e:(stmOf X S).play o.m = (stmOf X S).puts o.m:=by
   unfold StM.play
   rw [if_neg (by omega),if_neg (by omega),if_pos k2]
  rw [e]
  refine f_z0.does _ _ ?_
  conv=>whnf
  repeat' (first
   | (refine spl_dec (fun hd=>?_) (fun hd=>?_) <;> first|(exfalso;omega)|(conv=>whnf))
   | ((first|refine Ld.i ?_|refine LdN.i ?_);conv=>whnf)
   | (intro blk hblk;conv=>whnf)
   | (refine DrawK.introH tab_ok mixed 10 f_z0.last1 f_z0.plan1 _ rfl (by kernel_rfl) (Sub.of (by first|exact .refl _|exact .drop|exact .fin|((repeat refine .pick ?_);first|exact .refl _|exact .emp _|exact .fin))) ?_;conv=>whnf)
   | (refine CallK.ret f_zf.ok (qbrought_spec (by first|rfl|assumption|omega|decide|(simp;done)|(simp;omega)|(simp at *;omega))) ?_;rintro v G ⟨rfl,rfl⟩;conv=>whnf))
  refine CallK.imp (H':=storec b X•stoo X.q S•R) (by first|exact .refl _|exact .drop|exact .fin|((repeat refine .pick ?_);first|exact .refl _|exact .emp _|exact .fin)) ?_
  refine CallK.ret f_z1.ok (puts_spec ho.rc.r ho.rg.r (by omega) (by omega) ho.pin ho.a hX hb) ?_
  rintro v G ⟨X',S',h1,h2,h3,rfl,rfl⟩
  conv=>whnf
  skip
  exact ⟨_,_,rfl,Imp.refl _,X',S',h1,h2,h3,rfl,rfl⟩
 by_cases k3:o.m.kind = 3
 ·exact plays_pin hX hb k3
 by_cases k4:o.m.kind = 4
 ·exact plays_unpin hX hb k4
 by_cases k5:o.m.kind = 5
 ·exact plays_evict hX hb k5
 by_cases k6:o.m.kind = 6
 ·exact plays_flush hX hb k6
 by_cases k8:o.m.kind = 8
 ·exact plays_app hX hb k8
 by_cases k9:o.m.kind = 9
 ·exact plays_force hX hb k9
 exact plays_else hX ⟨k1,k2,k3,k4,k5,k6,k8,k9⟩
theorem StoX.bytes (hS:S.Ok) (hdn:S.D.down = false) {z:Int} (hz:0 ≤ z ∧ z + 2 ≤ S.val.D.secs):Byt (S.val.D.at z ++ S.val.D.at (z + 1)) ∧ (S.val.D.at z ++ S.val.D.at (z + 1)).length = 1024:=by
 have hz':0 ≤ z ∧ z + 2 ≤ S.D.val.secs:=hz
 refine ⟨(Dev.at_byt hS.D.val).append (Dev.at_byt hS.D.val),?_⟩
 have l1:=(Dev.read_len (i:=z) hS.D.val (by rw [read_of hdn (by omega)])).1
 have l2:=(Dev.read_len (i:=z + 1) hS.D.val (by rw [read_of hdn (by omega)])).1
 rw [read_of hdn (by omega)] at l1 l2
 rw [List.length_append]
 have e:S.val.D = S.D.val:=rfl
 rw [e]
 dsimp only at l1 l2
 omega
theorem sread_spec {p d:Nat} {z:Int} (hd:S.P.d = d) (hS:S.Ok) (hdn:S.D.down = false) (hz:0 ≤ z ∧ z + 2 ≤ S.val.D.secs) :
  Does prog W f_z1e ⟨[ptr d,.int .i64 z]⟩ (stoo p S•R) (Ret fun v G=>∃ a c,(S.val.D.at z ++ S.val.D.at (z + 1)).length ≤ c ∧ v = .tuple ⟨[.slice a 1024 c,.nilIface]⟩ ∧ G = (vec t_uint8 1 bytv a c (S.val.D.at z ++ S.val.D.at (z + 1))•stoo p S•R)):=by
 subst hd
 refine Does.vlen (V:=fun a c=>.tuple ⟨[.slice a 1024 c,.nilIface]⟩) ?_
 rw [stoo_eq]
 have hz':0 ≤ z ∧ z + 2 ≤ S.D.val.secs:=hz
 have hs:S.D.val.secs ≤ 8192:=by
  have:=hS.D.len
  unfold Dev.secs DevX.val
  dsimp only
  omega
 refine (twread_yes (X:=S.D) (d:=S.P.d) (z:=z) hS.D (by rw [hS.ps];omega) hdn ⟨by omega,by omega,by omega⟩).post fun en w H' hs hQ=>?_
 obtain ⟨v,G,h1,h2,a,c,h3,rfl⟩:=hQ
 refine ⟨H',hs,v,_,h1,h2,a,c,h3,?_⟩
 rw [star_left_comm (devo _ _) (poolo _ _),star_left_comm (devo _ _) (logo _ _)]
 rfl
structure KeepI (X0 X:StX) (S:StoX) (i:Nat):Prop where
 ok:X.Ok S
 same:X0.Same X
 keeps:KeepsO (stmOf X S)
 bd:Bd S.P.pages i (2 * i) S.val
 rl:∀ l ∈ X.had,l.length ≤ i + 1
theorem KeepI.small {X0:StX} {i:Nat} (h:KeepI X0 X S i) (hi:i ≤ 1000):SmallX X S:=⟨h.bd.up (by omega) (by omega),fun l hl=>by have:=h.rl l hl;omega⟩
theorem KeepI.next {X0 X':StX} {S':StoX} {i:Nat} (h:KeepI X0 X S i) (ho:OkOp W o) (h1:X'.Ok S') (h2:X.Same X') (h3:stmOf X' S' = ((stmOf X S).play o.m).2):KeepI X0 X' S' (i + 1):=by
 have k:=h.keeps.play ho.pin ho.a
 have hb:=play_bd (X:=stmOf X S) (p:=S.P.pages) (k:=i) (c:=2 * i) h.bd (by omega) h.ok.sto.val o.m
 have hr:=play_rl (X:=stmOf X S) (k:=i + 1) h.rl o.m
 rw [← h3] at k hb hr
 have hp:S'.P.pages = S.P.pages:=hb.pages
 refine ⟨h1,h.same.trans h2,k.2,?_,hr⟩
 rw [hp]
 have hb':Bd S.P.pages (i + 1) (2 * i + 2) S'.val:=hb
 exact hb'.up (by omega) (by omega)
end
end Go.Proofs.YtbcedpankkdfoaaGreatDoor
