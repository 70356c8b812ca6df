/- The table of live transactions, walked. Conditions: in each statement. -/
import Derived.Test.YtbcedpankkdfoaaGreatDoorPart29
import Derived.Test.YtbcedpankkdfoaaGreatDoorPart30
set_option linter.unusedVariables false
set_option linter.unusedSimpArgs false
namespace Go.SL
open Go
theorem OpQ.lk2s {P:Program} {W:World} {T:Tab} {H R:HProp} {α:Type} {f:α → Value} {m:List (Int × α)} (hT:T.ok P) {t kt et:TypeId} {k0 kk:IntKind} {mo key:Operand} {ty:TypeId} {ev:Operand → Option Value} {K:Value → Prop} {r:Nat} {k:Int} {u:α} {c1 c2:List Value} {a1 a2:Bool} {s1 s2 b1 b2:Nat} {r3:TRow}
  [i:MapC H r kk (mapv f m) R] (hl:m.lookup k = some u) (h1:T t = some ⟨.map kt et,c1,a1,s1,b1⟩) (h2:T kt = some ⟨.int k0,c2,a2,s2,b2⟩) (h3:T et = some r3)
  (hm:ev mo = some (.map (some r))) (hk:ev key = some (.int kk k)) {v:Value} (hv:f u = v) (yes:K (.tuple ⟨[v,.bool true]⟩)):OpQ P W (.lookup t mo key true) ty ev H K :=
 OpQ.lk2v hT h1 h2 h3 hm hk (fun u' hu=>by rw [hl] at hu;cases hu;rw [hv];exact yes) (fun hu=>by rw [hl] at hu;cases hu)
end Go.SL
namespace Go.Proofs.YtbcedpankkdfoaaGreatDoor
open Go Go.SL Go.SL.Sec Go.SL.Fld Go.SL.Pts Go.SL.Rec Go.SL.Twn Go.SL.Pg Go.SL.Mst Go.SL.Pool
open Go.SL.Und (RecV recv)
structure TabX where
 r:Nat
 L:List LiveV
 next:Int
def liveA (x:LiveV):Value:=.agg ⟨[.int .i64 x.tx,.int .i64 x.last,.bool x.com,.bool x.und]⟩
def tabo (t:Nat) (X:TabX):HProp:=pts t (.cells ⟨[.map (some X.r),.int .i64 X.next]⟩ t_txns_Table)•mapc X.r .i64 (mapv liveA (lvm X.L))
theorem tabo_eq (t:Nat) (X:TabX) (R:HProp):(tabo t X•R) = (pts t (.cells ⟨[.map (some X.r),.int .i64 X.next]⟩ t_txns_Table)•mapc X.r .i64 (mapv liveA (lvm X.L))•R):=by unfold tabo;rw [star_assoc]
section
variable {W:World} {H R:HProp} {t:Nat} {X:TabX}
theorem txin_spec {n lo hi:Int}:Does prog W f_txns_in ⟨[.int .i64 n,.int .i64 lo,.int .i64 hi]⟩ R (Ret fun v G=>v = .bool (decide (lo ≤ n ∧ n ≤ hi)) ∧ G = R):=by
 refine f_txns_in.does _ _ _ ?_
 conv=>whnf
 repeat' (first
  | ((first|refine spl_f (by with_reducible exact ndec_self _) ?_|refine spl_f (by with_reducible exact nbeq_self _) ?_|refine spl_t (by with_reducible exact beq_self _) ?_);conv=>whnf)
  | (refine spl_dec (fun hd=>?_) (fun hd=>?_) <;> first|(exfalso;omega)|(conv=>whnf))
  | (refine spl_ndec (fun hd=>?_) (fun hd=>?_) <;> first|(exfalso;omega)|(conv=>whnf))
  | (refine spl_intro (fun hd=>?_) (fun hd=>?_) <;> (conv=>whnf))
  | ((first|refine Ld.i ?_|refine LdN.i ?_|refine St.i ⟨rfl,rfl⟩ (List.cons_ne_nil _ _) ?_|refine Ar.i64 (by omega) ?_|refine Ar.u64 (by omega) ?_|refine Ar.i64d (by omega) (by omega) ?_|refine Shr.i (by rfl) (by decide) ?_|refine Shl.i (by rfl) (by decide) ?_|refine Req.mk (by omega) ?_);conv=>whnf)
  | (intro blk hblk;conv=>whnf))
 ·refine Ret.eq (congrArg Value.bool (decide_eq_decide.2 (by omega))) (Imp.refl _)
 ·refine Ret.eq (congrArg Value.bool (decide_eq_false (by omega)).symm) (Imp.refl _)
theorem tnew_spec {R:HProp} {next:Int} (h:1 ≤ next ∧ next ≤ 2147483648):Does prog W f_txns_New ⟨[.int .i64 next]⟩ R (Ret fun v G=>∃ t r,v = .tuple ⟨[ptr t,i0]⟩ ∧ G = (tabo t ⟨r,[],next⟩•R)):=by
 refine f_txns_New.does _ ?_
 conv=>whnf
 repeat' (first
  | (rw [decide_eq_true (show 1 ≤ next ∧ next ≤ 2147483648 from h)];conv=>whnf)
  | ((first|refine spl_f (by with_reducible exact ndec_self _) ?_|refine spl_f (by with_reducible exact nbeq_self _) ?_|refine spl_t (by with_reducible exact beq_self _) ?_);conv=>whnf)
  | (refine spl_dec (fun hd=>?_) (fun hd=>?_) <;> first|(exfalso;omega)|(conv=>whnf))
  | (refine spl_ndec (fun hd=>?_) (fun hd=>?_) <;> first|(exfalso;omega)|(conv=>whnf))
  | (refine spl_intro (fun hd=>?_) (fun hd=>?_) <;> (conv=>whnf))
  | ((first|refine Ld.i ?_|refine LdN.i ?_|refine St.i ⟨rfl,rfl⟩ (List.cons_ne_nil _ _) ?_|refine Ar.i64 (by omega) ?_|refine Ar.u64 (by omega) ?_|refine Ar.i64d (by omega) (by omega) ?_|refine Shr.i (by rfl) (by decide) ?_|refine Shl.i (by rfl) (by decide) ?_|refine Req.mk (by omega) ?_);conv=>whnf)
  | (intro blk hblk;conv=>whnf)
  | (refine OpX.makeMap .i64 (fun r hr=>?_);conv=>whnf)
  | (refine Sub.on (by first|exact .refl _|exact .drop|exact .fin|((repeat refine .pick ?_);first|exact .refl _|exact .emp _|exact .fin)) ?_;conv=>whnf)
  | (refine Sub.on (Imp.trans KeepC.h (by first|exact .refl _|exact .drop|exact .fin|((repeat refine .pick ?_);first|exact .refl _|exact .emp _|exact .fin))) ?_;conv=>whnf)
  | (refine CallK.ret f_txns_in.ok (txin_spec) ?_;rintro v G ⟨rfl,rfl⟩;conv=>whnf))
 refine ⟨_,_,rfl,?_,blk,r,rfl,rfl⟩
 rw [tabo_eq]
 show Imp _ (pts blk (.cells ⟨[.map (some r),.int .i64 next]⟩ t_txns_Table)•mapc r .i64 []•_)
 first|exact .refl _|exact .drop|exact .fin|((repeat refine .pick ?_);first|exact .refl _|exact .emp _|exact .fin)
theorem tnext_spec [o:ObjC tabo H t X R]:Does prog W f_z2q ⟨[ptr t]⟩ H (Ret fun v G=>v = .int .i64 X.next ∧ G = (tabo t X•R)):=by
 rw [o.h.eq,tabo_eq]
 refine f_z2q.does _ ?_
 conv=>whnf
 repeat' (first
  | ((first|refine spl_f (by with_reducible exact ndec_self _) ?_|refine spl_f (by with_reducible exact nbeq_self _) ?_|refine spl_t (by with_reducible exact beq_self _) ?_);conv=>whnf)
  | (refine spl_dec (fun hd=>?_) (fun hd=>?_) <;> first|(exfalso;omega)|(conv=>whnf))
  | (refine spl_ndec (fun hd=>?_) (fun hd=>?_) <;> first|(exfalso;omega)|(conv=>whnf))
  | (refine spl_intro (fun hd=>?_) (fun hd=>?_) <;> (conv=>whnf))
  | ((first|refine Ld.i ?_|refine LdN.i ?_|refine St.i ⟨rfl,rfl⟩ (List.cons_ne_nil _ _) ?_|refine Ar.i64 (by omega) ?_|refine Ar.u64 (by omega) ?_|refine Ar.i64d (by omega) (by omega) ?_|refine Shr.i (by rfl) (by decide) ?_|refine Shl.i (by rfl) (by decide) ?_|refine Req.mk (by omega) ?_);conv=>whnf)
  | (intro blk hblk;conv=>whnf))
 refine Ret.eq rfl ?_
 first|exact .refl _|exact .drop|exact .fin|((repeat refine .pick ?_);first|exact .refl _|exact .emp _|exact .fin)
theorem tbeg_spec {lsn:Int} [o:ObjC tabo H t X R] (hl:1 ≤ lsn ∧ lsn ≤ 2147483647) (hx:1 ≤ X.next ∧ X.next ≤ 2147483647) (hL:X.L.length ≤ 32) (hk:∀ x ∈ X.L,x.tx < X.next) :
  Does prog W f_z3v ⟨[ptr t,.int .i64 lsn]⟩ H (Ret fun v G=>(X.L.length = 32 ∧ v = .tuple ⟨[i0,.int .i64 131]⟩ ∧ G = (tabo t X•R)) ∨ (X.L.length < 32 ∧ v = .tuple ⟨[.int .i64 X.next,i0]⟩ ∧ G = (tabo t ⟨X.r,X.L ++ [⟨X.next,lsn,false,false⟩],X.next + 1⟩•R))):=by
 have hlen:(mapv liveA (lvm X.L)).length = X.L.length:=by rw [mapv_length,lvm_len]
 have hup:updKV X.next ⟨X.next,lsn,false,false⟩ (lvm X.L) = lvm (X.L ++ [⟨X.next,lsn,false,false⟩]):=lvm_new (y:=⟨X.next,lsn,false,false⟩) fun x hx'=>by have:=hk x hx';dsimp only;omega
 rw [o.h.eq,tabo_eq]
 refine f_z3v.does _ _ ?_
 conv=>whnf
 by_cases c:X.L.length = 32
 ·repeat' (first
   | (rw [decide_eq_true (show 1 ≤ lsn ∧ lsn ≤ 2147483647 from hl)];conv=>whnf)
   | (refine OpX.of_quiet (OpQ.lm tab_ok rfl rfl ?_);rw [hlen];conv=>whnf)
   | ((first|refine spl_f (by with_reducible exact ndec_self _) ?_|refine spl_f (by with_reducible exact nbeq_self _) ?_|refine spl_t (by with_reducible exact beq_self _) ?_);conv=>whnf)
   | (refine spl_dec (fun hd=>?_) (fun hd=>?_) <;> first|(exfalso;omega)|(conv=>whnf))
   | (refine spl_ndec (fun hd=>?_) (fun hd=>?_) <;> first|(exfalso;omega)|(conv=>whnf))
   | (refine spl_intro (fun hd=>?_) (fun hd=>?_) <;> (conv=>whnf))
   | ((first|refine Ld.i ?_|refine LdN.i ?_|refine St.i ⟨rfl,rfl⟩ (List.cons_ne_nil _ _) ?_|refine Ar.i64 (by omega) ?_|refine Ar.u64 (by omega) ?_|refine Ar.i64d (by omega) (by omega) ?_|refine Shr.i (by rfl) (by decide) ?_|refine Shl.i (by rfl) (by decide) ?_|refine Req.mk (by omega) ?_);conv=>whnf)
   | (intro blk hblk;conv=>whnf)
   | (refine Sub.on (by first|exact .refl _|exact .drop|exact .fin|((repeat refine .pick ?_);first|exact .refl _|exact .emp _|exact .fin)) ?_;conv=>whnf)
   | (refine Sub.on (Imp.trans KeepC.h (by first|exact .refl _|exact .drop|exact .fin|((repeat refine .pick ?_);first|exact .refl _|exact .emp _|exact .fin))) ?_;conv=>whnf)
   | (refine CallK.ret f_txns_in.ok (txin_spec) ?_;rintro v G ⟨rfl,rfl⟩;conv=>whnf))
  exact ⟨_,_,rfl,(by first|exact .refl _|exact .drop|exact .fin|((repeat refine .pick ?_);first|exact .refl _|exact .emp _|exact .fin)),.inl ⟨c,rfl,rfl⟩⟩
 ·repeat' (first
   | (rw [decide_eq_true (show 1 ≤ lsn ∧ lsn ≤ 2147483647 from hl)];conv=>whnf)
   | (refine OpX.of_quiet (OpQ.lm tab_ok rfl rfl ?_);rw [hlen];conv=>whnf)
   | ((first|refine spl_f (by with_reducible exact ndec_self _) ?_|refine spl_f (by with_reducible exact nbeq_self _) ?_|refine spl_t (by with_reducible exact beq_self _) ?_);conv=>whnf)
   | (refine spl_dec (fun hd=>?_) (fun hd=>?_) <;> first|(exfalso;omega)|(conv=>whnf))
   | (refine spl_ndec (fun hd=>?_) (fun hd=>?_) <;> first|(exfalso;omega)|(conv=>whnf))
   | (refine spl_intro (fun hd=>?_) (fun hd=>?_) <;> (conv=>whnf))
   | ((first|refine Ld.i ?_|refine LdN.i ?_|refine St.i ⟨rfl,rfl⟩ (List.cons_ne_nil _ _) ?_|refine Ar.i64 (by omega) ?_|refine Ar.u64 (by omega) ?_|refine Ar.i64d (by omega) (by omega) ?_|refine Shr.i (by rfl) (by decide) ?_|refine Shl.i (by rfl) (by decide) ?_|refine Req.mk (by omega) ?_);conv=>whnf)
   | (intro blk hblk;conv=>whnf)
   | (refine OpX.upv tab_ok (⟨X.next,lsn,false,false⟩:LiveV) rfl rfl rfl rfl rfl rfl ?_;conv=>whnf)
   | (refine Sub.on (by first|exact .refl _|exact .drop|exact .fin|((repeat refine .pick ?_);first|exact .refl _|exact .emp _|exact .fin)) ?_;conv=>whnf)
   | (refine Sub.on (Imp.trans KeepC.h (by first|exact .refl _|exact .drop|exact .fin|((repeat refine .pick ?_);first|exact .refl _|exact .emp _|exact .fin))) ?_;conv=>whnf)
   | (refine CallK.ret f_txns_in.ok (txin_spec) ?_;rintro v G ⟨rfl,rfl⟩;conv=>whnf))
  refine ⟨_,_,rfl,?_,.inr ⟨by omega,rfl,rfl⟩⟩
  rw [tabo_eq,hup]
  first|exact .refl _|exact .drop|exact .fin|((repeat refine .pick ?_);first|exact .refl _|exact .emp _|exact .fin)
theorem lkeys_spec {r:Nat}:Does prog W f_z3g ⟨[.map (some r)]⟩ H (Ret fun v G=>∃ B,v = .func (.func f_z4f) ⟨[]⟩ ⟨[ptr B]⟩ ∧ G = (pts B (.cells ⟨[.map (some r)]⟩ t_M_int_api_Live)•H)):=by
 refine f_z3g.does _ ?_
 conv=>whnf
 repeat' (first
  | ((first|refine spl_f (by with_reducible exact ndec_self _) ?_|refine spl_f (by with_reducible exact nbeq_self _) ?_|refine spl_t (by with_reducible exact beq_self _) ?_);conv=>whnf)
  | (refine spl_dec (fun hd=>?_) (fun hd=>?_) <;> first|(exfalso;omega)|(conv=>whnf))
  | (refine spl_ndec (fun hd=>?_) (fun hd=>?_) <;> first|(exfalso;omega)|(conv=>whnf))
  | (refine spl_intro (fun hd=>?_) (fun hd=>?_) <;> (conv=>whnf))
  | ((first|refine Ld.i ?_|refine LdN.i ?_|refine St.i ⟨rfl,rfl⟩ (List.cons_ne_nil _ _) ?_|refine Ar.i64 (by omega) ?_|refine Ar.u64 (by omega) ?_|refine Ar.i64d (by omega) (by omega) ?_|refine Shr.i (by rfl) (by decide) ?_|refine Shl.i (by rfl) (by decide) ?_|refine Req.mk (by omega) ?_);conv=>whnf)
  | (intro blk hblk;conv=>whnf))
 exact ⟨_,_,rfl,Imp.refl _,_,rfl,rfl⟩
theorem tlive_spec (hs:X.L.Pairwise fun a b=>a.tx < b.tx) (hL:X.L.length ≤ 32) (hk:∀ x ∈ X.L,1 ≤ x.tx ∧ x.tx ≤ 2147483647) :
  Does prog W f_z3a ⟨[ptr t]⟩ (tabo t X•R) (Ret fun v G=>∃ a c,v = .slice a X.L.length c ∧ G = (vec t_z23 4 livev a c X.L•tabo t X•R)):=by
 have hnd:(X.L.map (·.tx)).Nodup:=by
  rw [List.Nodup,List.pairwise_map]
  exact hs.imp fun hab=>by omega
 have hso:sortI ((lvm X.L).map (·.1)) = X.L.map (·.tx):=by
  rw [lvm_keys]
  refine List.mergeSort_of_pairwise ?_
  rw [List.pairwise_map]
  exact hs.imp fun hab=>by simp [leI];omega
 rw [tabo_eq]
 refine f_z3a.does _ ?_
 conv=>whnf
 repeat' (first
  | ((first|refine spl_f (by with_reducible exact ndec_self _) ?_|refine spl_f (by with_reducible exact nbeq_self _) ?_|refine spl_t (by with_reducible exact beq_self _) ?_);conv=>whnf)
  | (refine spl_dec (fun hd=>?_) (fun hd=>?_) <;> first|(exfalso;omega)|(conv=>whnf))
  | (refine spl_ndec (fun hd=>?_) (fun hd=>?_) <;> first|(exfalso;omega)|(conv=>whnf))
  | (refine spl_intro (fun hd=>?_) (fun hd=>?_) <;> (conv=>whnf))
  | ((first|refine Ld.i ?_|refine LdN.i ?_|refine St.i ⟨rfl,rfl⟩ (List.cons_ne_nil _ _) ?_|refine Ar.i64 (by omega) ?_|refine Ar.u64 (by omega) ?_|refine Ar.i64d (by omega) (by omega) ?_|refine Shr.i (by rfl) (by decide) ?_|refine Shl.i (by rfl) (by decide) ?_|refine Req.mk (by omega) ?_);conv=>whnf)
  | (intro blk hblk;conv=>whnf))
 refine CallK.ret f_z3g.ok lkeys_spec ?_
 rintro v G ⟨B,rfl,rfl⟩
 conv=>whnf
 repeat' (first
  | ((first|refine spl_f (by with_reducible exact ndec_self _) ?_|refine spl_f (by with_reducible exact nbeq_self _) ?_|refine spl_t (by with_reducible exact beq_self _) ?_);conv=>whnf)
  | (refine spl_dec (fun hd=>?_) (fun hd=>?_) <;> first|(exfalso;omega)|(conv=>whnf))
  | (refine spl_ndec (fun hd=>?_) (fun hd=>?_) <;> first|(exfalso;omega)|(conv=>whnf))
  | (refine spl_intro (fun hd=>?_) (fun hd=>?_) <;> (conv=>whnf))
  | ((first|refine Ld.i ?_|refine LdN.i ?_|refine St.i ⟨rfl,rfl⟩ (List.cons_ne_nil _ _) ?_|refine Ar.i64 (by omega) ?_|refine Ar.u64 (by omega) ?_|refine Ar.i64d (by omega) (by omega) ?_|refine Shr.i (by rfl) (by decide) ?_|refine Shl.i (by rfl) (by decide) ?_|refine Req.mk (by omega) ?_);conv=>whnf)
  | (intro blk hblk;conv=>whnf))
 refine CallK.ret f_z3t.ok (Does.sorted laySorted layKeys_api_Live laySort rfl rfl rfl rfl (l:=mapv liveA (lvm X.L)) (by rw [mapv_length,lvm_len];omega) (fun z hz=>by
  obtain ⟨q,hq,rfl⟩:=List.mem_map.1 hz
  obtain ⟨x,hx,rfl⟩:=List.mem_map.1 hq
  have:=hk x hx
  dsimp only
  omega)) ?_
 rintro v G ⟨ka,kc,rfl,rfl⟩
 rw [mapv_keys,mapv_length,lvm_len,hso,show laySorted_ren.t 26 = t_int from rfl]
 obtain ⟨K,hK⟩:∃ K:List Int,K = X.L.map (·.tx):=⟨_,rfl⟩
 have hml:X.L.length = K.length:=by rw [hK,List.length_map]
 rw [← hK]
 conv=>whnf
 repeat' (first
  | ((first|refine spl_f (by with_reducible exact ndec_self _) ?_|refine spl_f (by with_reducible exact nbeq_self _) ?_|refine spl_t (by with_reducible exact beq_self _) ?_);conv=>whnf)
  | (refine spl_dec (fun hd=>?_) (fun hd=>?_) <;> first|(exfalso;omega)|(conv=>whnf))
  | (refine spl_ndec (fun hd=>?_) (fun hd=>?_) <;> first|(exfalso;omega)|(conv=>whnf))
  | (refine spl_intro (fun hd=>?_) (fun hd=>?_) <;> (conv=>whnf))
  | ((first|refine Ld.i ?_|refine LdN.i ?_|refine St.i ⟨rfl,rfl⟩ (List.cons_ne_nil _ _) ?_|refine Ar.i64 (by omega) ?_|refine Ar.u64 (by omega) ?_|refine Ar.i64d (by omega) (by omega) ?_|refine Shr.i (by rfl) (by decide) ?_|refine Shl.i (by rfl) (by decide) ?_|refine Req.mk (by omega) ?_);conv=>whnf)
  | (intro blk hblk;conv=>whnf))
 refine LoopK.at tab_ok (L:=f_z3a.live) (ι:=Nat × Option Addr × Nat) (fun i=>i.1 ≤ X.L.length)
  (fun i=>[(13,.int .i64 i.1),(3,.slice i.2.1 i.1 i.2.2)]) (fun i=>vec t_z23 4 livev i.2.1 i.2.2 (X.L.take i.1)) (fun i=>X.L.length - i.1) (0,none,0) (by simp) (fun t v h=>h) (Imp.vnil (Imp.refl _)) ?_
 rintro ⟨i,oa,oc⟩ hi
 dsimp only at hi ⊢
 conv=>whnf
 by_cases h1:i < X.L.length
 ·obtain ⟨x,hx⟩:∃ x,X.L[i]? = some x:=⟨_,List.getElem?_eq_getElem h1⟩
  have hxk:K[i]? = some x.tx:=by rw [hK,List.getElem?_map,hx];rfl
  have hlk:=lvm_look hnd (List.mem_of_getElem? hx)
  have hT:X.L.take (i + 1) = X.L.take i ++ [x]:=by rw [List.take_add_one,hx];rfl
  have hlen:(X.L.take i).length = i:=by rw [List.length_take];omega
  have h1':i < K.length:=by rw [← hml];exact h1
  repeat' (first
   | ((first|refine spl_f (by with_reducible exact ndec_self _) ?_|refine spl_f (by with_reducible exact nbeq_self _) ?_|refine spl_t (by with_reducible exact beq_self _) ?_);conv=>whnf)
   | (refine spl_dec (fun hd=>?_) (fun hd=>?_) <;> first|(exfalso;omega)|(conv=>whnf))
   | (refine spl_ndec (fun hd=>?_) (fun hd=>?_) <;> first|(exfalso;omega)|(conv=>whnf))
   | (refine spl_intro (fun hd=>?_) (fun hd=>?_) <;> (conv=>whnf))
   | ((first|refine Ld.i ?_|refine LdN.i ?_|refine St.i ⟨rfl,rfl⟩ (List.cons_ne_nil _ _) ?_|refine Ar.i64 (by omega) ?_|refine Ar.u64 (by omega) ?_|refine Ar.i64d (by omega) (by omega) ?_|refine Shr.i (by rfl) (by decide) ?_|refine Shl.i (by rfl) (by decide) ?_|refine Req.mk (by omega) ?_);conv=>whnf)
   | (intro blk hblk;conv=>whnf)
   | (refine IxS.r (xs:=K) (i:=i) rfl hml h1' (fun ab off ha=>?_);subst ha;conv=>whnf)
   | ((first|refine Ld.r0 hxk rfl ?_|refine OpX.lks tab_ok hlk rfl rfl rfl rfl rfl ?_);conv=>whnf)
   | (refine Sub.on (by first|exact .refl _|exact .drop|exact .fin|((repeat refine .pick ?_);first|exact .refl _|exact .emp _|exact .fin)) ?_;conv=>whnf)
   | (refine Sub.on (Imp.trans KeepC.h (by first|exact .refl _|exact .drop|exact .fin|((repeat refine .pick ?_);first|exact .refl _|exact .emp _|exact .fin))) ?_;conv=>whnf)
   | (refine CallK.ret f_z3g.ok (lkeys_spec) ?_;rintro v G ⟨e_B,rfl,rfl⟩;conv=>whnf))
  refine OpX.app1 (xs:=X.L.take i) tab_ok rfl rfl rfl rfl x rfl hlen.symm (by rw [hlen];omega) ⟨rfl,OneC.h⟩ (fun a' c'=>?_)
  rw [← hT]
  repeat' (first
   | ((first|refine spl_f (by with_reducible exact ndec_self _) ?_|refine spl_f (by with_reducible exact nbeq_self _) ?_|refine spl_t (by with_reducible exact beq_self _) ?_);conv=>whnf)
   | (refine spl_dec (fun hd=>?_) (fun hd=>?_) <;> first|(exfalso;omega)|(conv=>whnf))
   | (refine spl_ndec (fun hd=>?_) (fun hd=>?_) <;> first|(exfalso;omega)|(conv=>whnf))
   | (refine spl_intro (fun hd=>?_) (fun hd=>?_) <;> (conv=>whnf))
   | ((first|refine Ld.i ?_|refine LdN.i ?_|refine St.i ⟨rfl,rfl⟩ (List.cons_ne_nil _ _) ?_|refine Ar.i64 (by omega) ?_|refine Ar.u64 (by omega) ?_|refine Ar.i64d (by omega) (by omega) ?_|refine Shr.i (by rfl) (by decide) ?_|refine Shl.i (by rfl) (by decide) ?_|refine Req.mk (by omega) ?_);conv=>whnf)
   | (intro blk hblk;conv=>whnf))
  refine ⟨rfl,(i + 1,a',c'),h1,fun t v h=>h,?_,by dsimp only;omega⟩
  first|exact .refl _|exact .drop|exact .fin|((repeat refine .pick ?_);first|exact .refl _|exact .emp _|exact .fin)
 ·have hi':i = X.L.length:=by omega
  subst hi'
  repeat' (first
   | ((first|refine spl_f (by with_reducible exact ndec_self _) ?_|refine spl_f (by with_reducible exact nbeq_self _) ?_|refine spl_t (by with_reducible exact beq_self _) ?_);conv=>whnf)
   | (refine spl_dec (fun hd=>?_) (fun hd=>?_) <;> first|(exfalso;omega)|(conv=>whnf))
   | (refine spl_ndec (fun hd=>?_) (fun hd=>?_) <;> first|(exfalso;omega)|(conv=>whnf))
   | (refine spl_intro (fun hd=>?_) (fun hd=>?_) <;> (conv=>whnf))
   | ((first|refine Ld.i ?_|refine LdN.i ?_|refine St.i ⟨rfl,rfl⟩ (List.cons_ne_nil _ _) ?_|refine Ar.i64 (by omega) ?_|refine Ar.u64 (by omega) ?_|refine Ar.i64d (by omega) (by omega) ?_|refine Shr.i (by rfl) (by decide) ?_|refine Shl.i (by rfl) (by decide) ?_|refine Req.mk (by omega) ?_);conv=>whnf)
   | (intro blk hblk;conv=>whnf))
  rw [List.take_length]
  refine ⟨_,_,rfl,?_,oa,oc,rfl,rfl⟩
  first|exact .refl _|exact .drop|exact .fin|((repeat refine .pick ?_);first|exact .refl _|exact .emp _|exact .fin)
/-! ### Note -/
theorem topen_spec {x:LiveV}:Does prog W f_z12 ⟨[liveA x]⟩ R (Ret fun v G=>v = .bool (!x.com && !x.und) ∧ G = R):=by
 unfold liveA
 obtain ⟨tx,last,com,und⟩:=x
 refine f_z12.does _ ?_
 conv=>whnf
 rcases com with _|_ <;> rcases und with _|_
 all_goals
  repeat' (first
   | ((first|refine spl_f (by with_reducible exact ndec_self _) ?_|refine spl_f (by with_reducible exact nbeq_self _) ?_|refine spl_t (by with_reducible exact beq_self _) ?_);conv=>whnf)
   | (refine spl_dec (fun hd=>?_) (fun hd=>?_) <;> first|(exfalso;omega)|(conv=>whnf))
   | (refine spl_ndec (fun hd=>?_) (fun hd=>?_) <;> first|(exfalso;omega)|(conv=>whnf))
   | (refine spl_intro (fun hd=>?_) (fun hd=>?_) <;> (conv=>whnf))
   | ((first|refine Ld.i ?_|refine LdN.i ?_|refine St.i ⟨rfl,rfl⟩ (List.cons_ne_nil _ _) ?_|refine Ar.i64 (by omega) ?_|refine Ar.u64 (by omega) ?_|refine Ar.i64d (by omega) (by omega) ?_|refine Shr.i (by rfl) (by decide) ?_|refine Shl.i (by rfl) (by decide) ?_|refine Req.mk (by omega) ?_);conv=>whnf)
   | (intro blk hblk;conv=>whnf))
  refine Ret.eq rfl ?_
  first|exact .refl _|exact .drop|exact .fin|((repeat refine .pick ?_);first|exact .refl _|exact .emp _|exact .fin)
theorem moves5_spec:Does prog W f_z5 ⟨[.int .i64 5]⟩ R (Ret fun v G=>v = .tuple ⟨[.agg ⟨[.func (.func f_z12) ⟨[]⟩ ⟨[]⟩,.func (.func f_z3l) ⟨[]⟩ ⟨[]⟩]⟩,.bool true]⟩ ∧ G = R):=by
 refine f_z5.does _ ?_
 conv=>whnf
 repeat' (first
  | ((first|refine spl_f (by with_reducible exact ndec_self _) ?_|refine spl_f (by with_reducible exact nbeq_self _) ?_|refine spl_t (by with_reducible exact beq_self _) ?_);conv=>whnf)
  | (refine spl_dec (fun hd=>?_) (fun hd=>?_) <;> first|(exfalso;omega)|(conv=>whnf))
  | (refine spl_ndec (fun hd=>?_) (fun hd=>?_) <;> first|(exfalso;omega)|(conv=>whnf))
  | (refine spl_intro (fun hd=>?_) (fun hd=>?_) <;> (conv=>whnf))
  | ((first|refine Ld.i ?_|refine LdN.i ?_|refine St.i ⟨rfl,rfl⟩ (List.cons_ne_nil _ _) ?_|refine Ar.i64 (by omega) ?_|refine Ar.u64 (by omega) ?_|refine Ar.i64d (by omega) (by omega) ?_|refine Shr.i (by rfl) (by decide) ?_|refine Shl.i (by rfl) (by decide) ?_|refine Req.mk (by omega) ?_);conv=>whnf)
  | (intro blk hblk;conv=>whnf))
 refine Ret.eq rfl ?_
 first|exact .refl _|exact .drop|exact .fin|((repeat refine .pick ?_);first|exact .refl _|exact .emp _|exact .fin)
theorem moves6_spec:Does prog W f_z5 ⟨[.int .i64 6]⟩ R (Ret fun v G=>v = .tuple ⟨[.agg ⟨[.func (.func f_z12) ⟨[]⟩ ⟨[]⟩,.func (.func f_z3m) ⟨[]⟩ ⟨[]⟩]⟩,.bool true]⟩ ∧ G = R):=by
 refine f_z5.does _ ?_
 conv=>whnf
 repeat' (first
  | ((first|refine spl_f (by with_reducible exact ndec_self _) ?_|refine spl_f (by with_reducible exact nbeq_self _) ?_|refine spl_t (by with_reducible exact beq_self _) ?_);conv=>whnf)
  | (refine spl_dec (fun hd=>?_) (fun hd=>?_) <;> first|(exfalso;omega)|(conv=>whnf))
  | (refine spl_ndec (fun hd=>?_) (fun hd=>?_) <;> first|(exfalso;omega)|(conv=>whnf))
  | (refine spl_intro (fun hd=>?_) (fun hd=>?_) <;> (conv=>whnf))
  | ((first|refine Ld.i ?_|refine LdN.i ?_|refine St.i ⟨rfl,rfl⟩ (List.cons_ne_nil _ _) ?_|refine Ar.i64 (by omega) ?_|refine Ar.u64 (by omega) ?_|refine Ar.i64d (by omega) (by omega) ?_|refine Shr.i (by rfl) (by decide) ?_|refine Shl.i (by rfl) (by decide) ?_|refine Req.mk (by omega) ?_);conv=>whnf)
  | (intro blk hblk;conv=>whnf))
 refine Ret.eq rfl ?_
 first|exact .refl _|exact .drop|exact .fin|((repeat refine .pick ?_);first|exact .refl _|exact .emp _|exact .fin)
theorem then5_spec {b:Nat} {tx last:Int} {com und:Bool} [p:PtsC H b (.cells ⟨[.int .i64 tx,.int .i64 last,.bool com,.bool und]⟩ t_z23) R]:Does prog W f_z3l ⟨[ptr b]⟩ H (Ret fun v G=>v = .tuple ⟨[]⟩ ∧ G = (pts b (.cells ⟨[.int .i64 tx,.int .i64 last,.bool true,.bool und]⟩ t_z23)•R)):=by
 rw [p.h.eq]
 refine f_z3l.does _ ?_
 conv=>whnf
 repeat' (first
  | ((first|refine spl_f (by with_reducible exact ndec_self _) ?_|refine spl_f (by with_reducible exact nbeq_self _) ?_|refine spl_t (by with_reducible exact beq_self _) ?_);conv=>whnf)
  | (refine spl_dec (fun hd=>?_) (fun hd=>?_) <;> first|(exfalso;omega)|(conv=>whnf))
  | (refine spl_ndec (fun hd=>?_) (fun hd=>?_) <;> first|(exfalso;omega)|(conv=>whnf))
  | (refine spl_intro (fun hd=>?_) (fun hd=>?_) <;> (conv=>whnf))
  | ((first|refine Ld.i ?_|refine LdN.i ?_|refine St.i ⟨rfl,rfl⟩ (List.cons_ne_nil _ _) ?_|refine Ar.i64 (by omega) ?_|refine Ar.u64 (by omega) ?_|refine Ar.i64d (by omega) (by omega) ?_|refine Shr.i (by rfl) (by decide) ?_|refine Shl.i (by rfl) (by decide) ?_|refine Req.mk (by omega) ?_);conv=>whnf)
  | (intro blk hblk;conv=>whnf))
 refine Ret.eq rfl ?_
 first|exact .refl _|exact .drop|exact .fin|((repeat refine .pick ?_);first|exact .refl _|exact .emp _|exact .fin)
theorem then6_spec {b:Nat} {tx last:Int} {com und:Bool} [p:PtsC H b (.cells ⟨[.int .i64 tx,.int .i64 last,.bool com,.bool und]⟩ t_z23) R]:Does prog W f_z3m ⟨[ptr b]⟩ H (Ret fun v G=>v = .tuple ⟨[]⟩ ∧ G = (pts b (.cells ⟨[.int .i64 tx,.int .i64 last,.bool com,.bool true]⟩ t_z23)•R)):=by
 rw [p.h.eq]
 refine f_z3m.does _ ?_
 conv=>whnf
 repeat' (first
  | ((first|refine spl_f (by with_reducible exact ndec_self _) ?_|refine spl_f (by with_reducible exact nbeq_self _) ?_|refine spl_t (by with_reducible exact beq_self _) ?_);conv=>whnf)
  | (refine spl_dec (fun hd=>?_) (fun hd=>?_) <;> first|(exfalso;omega)|(conv=>whnf))
  | (refine spl_ndec (fun hd=>?_) (fun hd=>?_) <;> first|(exfalso;omega)|(conv=>whnf))
  | (refine spl_intro (fun hd=>?_) (fun hd=>?_) <;> (conv=>whnf))
  | ((first|refine Ld.i ?_|refine LdN.i ?_|refine St.i ⟨rfl,rfl⟩ (List.cons_ne_nil _ _) ?_|refine Ar.i64 (by omega) ?_|refine Ar.u64 (by omega) ?_|refine Ar.i64d (by omega) (by omega) ?_|refine Shr.i (by rfl) (by decide) ?_|refine Shl.i (by rfl) (by decide) ?_|refine Req.mk (by omega) ?_);conv=>whnf)
  | (intro blk hblk;conv=>whnf))
 refine Ret.eq rfl ?_
 first|exact .refl _|exact .drop|exact .fin|((repeat refine .pick ?_);first|exact .refl _|exact .emp _|exact .fin)
abbrev endA (kind tx prev lsn:Int):Value:=.agg ⟨[.int .i64 lsn,.int .i64 kind,.int .i64 tx,.int .i64 prev,i0,i0,i0,i0,i0,i0,i0,i0,i0,i0,.slice none 0 0,.slice none 0 0,i0]⟩
theorem note5_spec {k:Nat} {x:LiveV} {lsn:Int} [o:ObjC tabo H t X R] (hl:x.last < lsn ∧ 1 ≤ lsn ∧ lsn ≤ 2147483647) (hnd:(X.L.map (·.tx)).Nodup) (hx:X.L[k]? = some x) :
  Does prog W f_z0 ⟨[ptr t,endA 5 x.tx x.last lsn]⟩ H (Ret fun v G=>((x.com = true ∨ x.und = true) ∧ v = .int .i64 70 ∧ G = (tabo t X•R)) ∨ (x.com = false ∧ x.und = false ∧ v = i0 ∧ G = (tabo t ⟨X.r,X.L.set k ⟨x.tx,lsn,true,false⟩,X.next⟩•R))):=by
 have hlk:=lvm_look hnd (List.mem_of_getElem? hx)
 have hup:=lvm_set (y:=⟨x.tx,lsn,true,false⟩) hnd hx rfl
 rw [o.h.eq,tabo_eq]
 obtain ⟨tx,last,com,und⟩:=x
 dsimp only at hl hlk hup ⊢
 obtain ⟨hl1,hl2,hl3⟩:=hl
 have e1:decide (1 ≤ lsn ∧ lsn ≤ 2147483647) = true:=decide_eq_true ⟨hl2,hl3⟩
 refine f_z0.does _ _ ?_
 conv=>whnf
 rcases com with _|_ <;> rcases und with _|_
 ·repeat' (first
   | (rw [e1];conv=>whnf)
   | (refine CallK.ret f_z5.ok moves5_spec ?_;rintro v G ⟨rfl,rfl⟩;conv=>whnf)
   | (refine OpQ.lk2s tab_ok hlk rfl rfl rfl rfl rfl (v:=.agg ⟨[.int .i64 tx,.int .i64 last,.bool false,.bool false]⟩) rfl ?_;conv=>whnf)
   | (refine CallK.ret f_z12.ok (topen_spec (x:=⟨tx,last,false,false⟩)) ?_;rintro v G ⟨rfl,rfl⟩;conv=>whnf)
   | (refine CallK.ret f_z3l.ok (then5_spec (tx:=tx) (last:=last) (com:=false) (und:=false)) ?_;rintro v G ⟨rfl,rfl⟩;conv=>whnf)
   | ((first|refine spl_f (by with_reducible exact ndec_self _) ?_|refine spl_f (by with_reducible exact nbeq_self _) ?_|refine spl_t (by with_reducible exact beq_self _) ?_);conv=>whnf)
   | (refine spl_dec (fun hd=>?_) (fun hd=>?_) <;> first|(exfalso;omega)|(conv=>whnf))
   | (refine spl_ndec (fun hd=>?_) (fun hd=>?_) <;> first|(exfalso;omega)|(conv=>whnf))
   | (refine spl_intro (fun hd=>?_) (fun hd=>?_) <;> (conv=>whnf))
   | ((first|refine Ld.i ?_|refine LdN.i ?_|refine St.i ⟨rfl,rfl⟩ (List.cons_ne_nil _ _) ?_|refine Ar.i64 (by omega) ?_|refine Ar.u64 (by omega) ?_|refine Ar.i64d (by omega) (by omega) ?_|refine Shr.i (by rfl) (by decide) ?_|refine Shl.i (by rfl) (by decide) ?_|refine Req.mk (by omega) ?_);conv=>whnf)
   | (intro blk hblk;conv=>whnf)
   | (refine OpX.upv tab_ok (⟨tx,lsn,true,false⟩:LiveV) rfl rfl rfl rfl rfl rfl ?_;conv=>whnf)
   | (refine Sub.on (by first|exact .refl _|exact .drop|exact .fin|((repeat refine .pick ?_);first|exact .refl _|exact .emp _|exact .fin)) ?_;conv=>whnf)
   | (refine Sub.on (Imp.trans KeepC.h (by first|exact .refl _|exact .drop|exact .fin|((repeat refine .pick ?_);first|exact .refl _|exact .emp _|exact .fin))) ?_;conv=>whnf)
   | (refine CallK.ret f_txns_in.ok (txin_spec) ?_;rintro v G ⟨rfl,rfl⟩;conv=>whnf)
   | (refine DrawK.introH tab_ok mixed 22 f_z0.last8 f_z0.plan8 _ rfl (by kernel_rfl) (Sub.of (by first|exact .refl _|exact .drop|exact .fin|((repeat refine .pick ?_);first|exact .refl _|exact .emp _|exact .fin))) ?_;conv=>whnf)
   | (refine CallK.ret f_z5.ok (moves5_spec) ?_;rintro v G ⟨rfl,rfl⟩;conv=>whnf)
   | (refine CallK.ret f_z5.ok (moves6_spec) ?_;rintro v G ⟨rfl,rfl⟩;conv=>whnf)
   | (refine DrawK.introH tab_ok mixed 44 f_z0.last13 f_z0.plan13 _ rfl (by kernel_rfl) (Sub.of (by first|exact .refl _|exact .drop|exact .fin|((repeat refine .pick ?_);first|exact .refl _|exact .emp _|exact .fin))) ?_;conv=>whnf)
   | (refine DrawK.introH tab_ok mixed 84 f_z0.last24 f_z0.plan24 _ rfl (by kernel_rfl) (Sub.of (by first|exact .refl _|exact .drop|exact .fin|((repeat refine .pick ?_);first|exact .refl _|exact .emp _|exact .fin))) ?_;conv=>whnf)
   | (refine DrawK.introH tab_ok mixed 94 f_z0.last26 f_z0.plan26 _ rfl (by kernel_rfl) (Sub.of (by first|exact .refl _|exact .drop|exact .fin|((repeat refine .pick ?_);first|exact .refl _|exact .emp _|exact .fin))) ?_;conv=>whnf))
  refine ⟨_,_,rfl,?_,.inr ⟨rfl,rfl,rfl,rfl⟩⟩
  rw [tabo_eq,hup]
  first|exact .refl _|exact .drop|exact .fin|((repeat refine .pick ?_);first|exact .refl _|exact .emp _|exact .fin)
 ·repeat' (first
   | (rw [e1];conv=>whnf)
   | (refine CallK.ret f_z5.ok moves5_spec ?_;rintro v G ⟨rfl,rfl⟩;conv=>whnf)
   | (refine OpQ.lk2s tab_ok hlk rfl rfl rfl rfl rfl (v:=.agg ⟨[.int .i64 tx,.int .i64 last,.bool false,.bool true]⟩) rfl ?_;conv=>whnf)
   | (refine CallK.ret f_z12.ok (topen_spec (x:=⟨tx,last,false,true⟩)) ?_;rintro v G ⟨rfl,rfl⟩;conv=>whnf)
   | ((first|refine spl_f (by with_reducible exact ndec_self _) ?_|refine spl_f (by with_reducible exact nbeq_self _) ?_|refine spl_t (by with_reducible exact beq_self _) ?_);conv=>whnf)
   | (refine spl_dec (fun hd=>?_) (fun hd=>?_) <;> first|(exfalso;omega)|(conv=>whnf))
   | (refine spl_ndec (fun hd=>?_) (fun hd=>?_) <;> first|(exfalso;omega)|(conv=>whnf))
   | (refine spl_intro (fun hd=>?_) (fun hd=>?_) <;> (conv=>whnf))
   | ((first|refine Ld.i ?_|refine LdN.i ?_|refine St.i ⟨rfl,rfl⟩ (List.cons_ne_nil _ _) ?_|refine Ar.i64 (by omega) ?_|refine Ar.u64 (by omega) ?_|refine Ar.i64d (by omega) (by omega) ?_|refine Shr.i (by rfl) (by decide) ?_|refine Shl.i (by rfl) (by decide) ?_|refine Req.mk (by omega) ?_);conv=>whnf)
   | (intro blk hblk;conv=>whnf)
   | (refine Sub.on (by first|exact .refl _|exact .drop|exact .fin|((repeat refine .pick ?_);first|exact .refl _|exact .emp _|exact .fin)) ?_;conv=>whnf)
   | (refine Sub.on (Imp.trans KeepC.h (by first|exact .refl _|exact .drop|exact .fin|((repeat refine .pick ?_);first|exact .refl _|exact .emp _|exact .fin))) ?_;conv=>whnf)
   | (refine CallK.ret f_txns_in.ok (txin_spec) ?_;rintro v G ⟨rfl,rfl⟩;conv=>whnf)
   | (refine DrawK.introH tab_ok mixed 22 f_z0.last8 f_z0.plan8 _ rfl (by kernel_rfl) (Sub.of (by first|exact .refl _|exact .drop|exact .fin|((repeat refine .pick ?_);first|exact .refl _|exact .emp _|exact .fin))) ?_;conv=>whnf)
   | (refine CallK.ret f_z5.ok (moves5_spec) ?_;rintro v G ⟨rfl,rfl⟩;conv=>whnf)
   | (refine CallK.ret f_z5.ok (moves6_spec) ?_;rintro v G ⟨rfl,rfl⟩;conv=>whnf)
   | (refine DrawK.introH tab_ok mixed 44 f_z0.last13 f_z0.plan13 _ rfl (by kernel_rfl) (Sub.of (by first|exact .refl _|exact .drop|exact .fin|((repeat refine .pick ?_);first|exact .refl _|exact .emp _|exact .fin))) ?_;conv=>whnf)
   | (refine DrawK.introH tab_ok mixed 84 f_z0.last24 f_z0.plan24 _ rfl (by kernel_rfl) (Sub.of (by first|exact .refl _|exact .drop|exact .fin|((repeat refine .pick ?_);first|exact .refl _|exact .emp _|exact .fin))) ?_;conv=>whnf)
   | (refine DrawK.introH tab_ok mixed 94 f_z0.last26 f_z0.plan26 _ rfl (by kernel_rfl) (Sub.of (by first|exact .refl _|exact .drop|exact .fin|((repeat refine .pick ?_);first|exact .refl _|exact .emp _|exact .fin))) ?_;conv=>whnf))
  refine ⟨_,_,rfl,?_,.inl ⟨by simp,rfl,rfl⟩⟩
  first|exact .refl _|exact .drop|exact .fin|((repeat refine .pick ?_);first|exact .refl _|exact .emp _|exact .fin)
 ·repeat' (first
   | (rw [e1];conv=>whnf)
   | (refine CallK.ret f_z5.ok moves5_spec ?_;rintro v G ⟨rfl,rfl⟩;conv=>whnf)
   | (refine OpQ.lk2s tab_ok hlk rfl rfl rfl rfl rfl (v:=.agg ⟨[.int .i64 tx,.int .i64 last,.bool true,.bool false]⟩) rfl ?_;conv=>whnf)
   | (refine CallK.ret f_z12.ok (topen_spec (x:=⟨tx,last,true,false⟩)) ?_;rintro v G ⟨rfl,rfl⟩;conv=>whnf)
   | ((first|refine spl_f (by with_reducible exact ndec_self _) ?_|refine spl_f (by with_reducible exact nbeq_self _) ?_|refine spl_t (by with_reducible exact beq_self _) ?_);conv=>whnf)
   | (refine spl_dec (fun hd=>?_) (fun hd=>?_) <;> first|(exfalso;omega)|(conv=>whnf))
   | (refine spl_ndec (fun hd=>?_) (fun hd=>?_) <;> first|(exfalso;omega)|(conv=>whnf))
   | (refine spl_intro (fun hd=>?_) (fun hd=>?_) <;> (conv=>whnf))
   | ((first|refine Ld.i ?_|refine LdN.i ?_|refine St.i ⟨rfl,rfl⟩ (List.cons_ne_nil _ _) ?_|refine Ar.i64 (by omega) ?_|refine Ar.u64 (by omega) ?_|refine Ar.i64d (by omega) (by omega) ?_|refine Shr.i (by rfl) (by decide) ?_|refine Shl.i (by rfl) (by decide) ?_|refine Req.mk (by omega) ?_);conv=>whnf)
   | (intro blk hblk;conv=>whnf)
   | (refine Sub.on (by first|exact .refl _|exact .drop|exact .fin|((repeat refine .pick ?_);first|exact .refl _|exact .emp _|exact .fin)) ?_;conv=>whnf)
   | (refine Sub.on (Imp.trans KeepC.h (by first|exact .refl _|exact .drop|exact .fin|((repeat refine .pick ?_);first|exact .refl _|exact .emp _|exact .fin))) ?_;conv=>whnf)
   | (refine CallK.ret f_txns_in.ok (txin_spec) ?_;rintro v G ⟨rfl,rfl⟩;conv=>whnf)
   | (refine DrawK.introH tab_ok mixed 22 f_z0.last8 f_z0.plan8 _ rfl (by kernel_rfl) (Sub.of (by first|exact .refl _|exact .drop|exact .fin|((repeat refine .pick ?_);first|exact .refl _|exact .emp _|exact .fin))) ?_;conv=>whnf)
   | (refine CallK.ret f_z5.ok (moves5_spec) ?_;rintro v G ⟨rfl,rfl⟩;conv=>whnf)
   | (refine CallK.ret f_z5.ok (moves6_spec) ?_;rintro v G ⟨rfl,rfl⟩;conv=>whnf)
   | (refine DrawK.introH tab_ok mixed 44 f_z0.last13 f_z0.plan13 _ rfl (by kernel_rfl) (Sub.of (by first|exact .refl _|exact .drop|exact .fin|((repeat refine .pick ?_);first|exact .refl _|exact .emp _|exact .fin))) ?_;conv=>whnf)
   | (refine DrawK.introH tab_ok mixed 84 f_z0.last24 f_z0.plan24 _ rfl (by kernel_rfl) (Sub.of (by first|exact .refl _|exact .drop|exact .fin|((repeat refine .pick ?_);first|exact .refl _|exact .emp _|exact .fin))) ?_;conv=>whnf)
   | (refine DrawK.introH tab_ok mixed 94 f_z0.last26 f_z0.plan26 _ rfl (by kernel_rfl) (Sub.of (by first|exact .refl _|exact .drop|exact .fin|((repeat refine .pick ?_);first|exact .refl _|exact .emp _|exact .fin))) ?_;conv=>whnf))
  refine ⟨_,_,rfl,?_,.inl ⟨by simp,rfl,rfl⟩⟩
  first|exact .refl _|exact .drop|exact .fin|((repeat refine .pick ?_);first|exact .refl _|exact .emp _|exact .fin)
 ·repeat' (first
   | (rw [e1];conv=>whnf)
   | (refine CallK.ret f_z5.ok moves5_spec ?_;rintro v G ⟨rfl,rfl⟩;conv=>whnf)
   | (refine OpQ.lk2s tab_ok hlk rfl rfl rfl rfl rfl (v:=.agg ⟨[.int .i64 tx,.int .i64 last,.bool true,.bool true]⟩) rfl ?_;conv=>whnf)
   | (refine CallK.ret f_z12.ok (topen_spec (x:=⟨tx,last,true,true⟩)) ?_;rintro v G ⟨rfl,rfl⟩;conv=>whnf)
   | ((first|refine spl_f (by with_reducible exact ndec_self _) ?_|refine spl_f (by with_reducible exact nbeq_self _) ?_|refine spl_t (by with_reducible exact beq_self _) ?_);conv=>whnf)
   | (refine spl_dec (fun hd=>?_) (fun hd=>?_) <;> first|(exfalso;omega)|(conv=>whnf))
   | (refine spl_ndec (fun hd=>?_) (fun hd=>?_) <;> first|(exfalso;omega)|(conv=>whnf))
   | (refine spl_intro (fun hd=>?_) (fun hd=>?_) <;> (conv=>whnf))
   | ((first|refine Ld.i ?_|refine LdN.i ?_|refine St.i ⟨rfl,rfl⟩ (List.cons_ne_nil _ _) ?_|refine Ar.i64 (by omega) ?_|refine Ar.u64 (by omega) ?_|refine Ar.i64d (by omega) (by omega) ?_|refine Shr.i (by rfl) (by decide) ?_|refine Shl.i (by rfl) (by decide) ?_|refine Req.mk (by omega) ?_);conv=>whnf)
   | (intro blk hblk;conv=>whnf)
   | (refine Sub.on (by first|exact .refl _|exact .drop|exact .fin|((repeat refine .pick ?_);first|exact .refl _|exact .emp _|exact .fin)) ?_;conv=>whnf)
   | (refine Sub.on (Imp.trans KeepC.h (by first|exact .refl _|exact .drop|exact .fin|((repeat refine .pick ?_);first|exact .refl _|exact .emp _|exact .fin))) ?_;conv=>whnf)
   | (refine CallK.ret f_txns_in.ok (txin_spec) ?_;rintro v G ⟨rfl,rfl⟩;conv=>whnf)
   | (refine DrawK.introH tab_ok mixed 22 f_z0.last8 f_z0.plan8 _ rfl (by kernel_rfl) (Sub.of (by first|exact .refl _|exact .drop|exact .fin|((repeat refine .pick ?_);first|exact .refl _|exact .emp _|exact .fin))) ?_;conv=>whnf)
   | (refine CallK.ret f_z5.ok (moves5_spec) ?_;rintro v G ⟨rfl,rfl⟩;conv=>whnf)
   | (refine CallK.ret f_z5.ok (moves6_spec) ?_;rintro v G ⟨rfl,rfl⟩;conv=>whnf)
   | (refine DrawK.introH tab_ok mixed 44 f_z0.last13 f_z0.plan13 _ rfl (by kernel_rfl) (Sub.of (by first|exact .refl _|exact .drop|exact .fin|((repeat refine .pick ?_);first|exact .refl _|exact .emp _|exact .fin))) ?_;conv=>whnf)
   | (refine DrawK.introH tab_ok mixed 84 f_z0.last24 f_z0.plan24 _ rfl (by kernel_rfl) (Sub.of (by first|exact .refl _|exact .drop|exact .fin|((repeat refine .pick ?_);first|exact .refl _|exact .emp _|exact .fin))) ?_;conv=>whnf)
   | (refine DrawK.introH tab_ok mixed 94 f_z0.last26 f_z0.plan26 _ rfl (by kernel_rfl) (Sub.of (by first|exact .refl _|exact .drop|exact .fin|((repeat refine .pick ?_);first|exact .refl _|exact .emp _|exact .fin))) ?_;conv=>whnf))
  refine ⟨_,_,rfl,?_,.inl ⟨by simp,rfl,rfl⟩⟩
  first|exact .refl _|exact .drop|exact .fin|((repeat refine .pick ?_);first|exact .refl _|exact .emp _|exact .fin)
theorem note6_spec {k:Nat} {x:LiveV} {lsn:Int} [o:ObjC tabo H t X R] (hl:x.last < lsn ∧ 1 ≤ lsn ∧ lsn ≤ 2147483647) (hnd:(X.L.map (·.tx)).Nodup) (hx:X.L[k]? = some x) :
  Does prog W f_z0 ⟨[ptr t,endA 6 x.tx x.last lsn]⟩ H (Ret fun v G=>((x.com = true ∨ x.und = true) ∧ v = .int .i64 70 ∧ G = (tabo t X•R)) ∨ (x.com = false ∧ x.und = false ∧ v = i0 ∧ G = (tabo t ⟨X.r,X.L.set k ⟨x.tx,lsn,false,true⟩,X.next⟩•R))):=by
 have hlk:=lvm_look hnd (List.mem_of_getElem? hx)
 have hup:=lvm_set (y:=⟨x.tx,lsn,false,true⟩) hnd hx rfl
 rw [o.h.eq,tabo_eq]
 obtain ⟨tx,last,com,und⟩:=x
 dsimp only at hl hlk hup ⊢
 obtain ⟨hl1,hl2,hl3⟩:=hl
 have e1:decide (1 ≤ lsn ∧ lsn ≤ 2147483647) = true:=decide_eq_true ⟨hl2,hl3⟩
 refine f_z0.does _ _ ?_
 conv=>whnf
 rcases com with _|_ <;> rcases und with _|_
 ·repeat' (first
   | (rw [e1];conv=>whnf)
   | (refine CallK.ret f_z5.ok moves6_spec ?_;rintro v G ⟨rfl,rfl⟩;conv=>whnf)
   | (refine OpQ.lk2s tab_ok hlk rfl rfl rfl rfl rfl (v:=.agg ⟨[.int .i64 tx,.int .i64 last,.bool false,.bool false]⟩) rfl ?_;conv=>whnf)
   | (refine CallK.ret f_z12.ok (topen_spec (x:=⟨tx,last,false,false⟩)) ?_;rintro v G ⟨rfl,rfl⟩;conv=>whnf)
   | (refine CallK.ret f_z3m.ok (then6_spec (tx:=tx) (last:=last) (com:=false) (und:=false)) ?_;rintro v G ⟨rfl,rfl⟩;conv=>whnf)
   | ((first|refine spl_f (by with_reducible exact ndec_self _) ?_|refine spl_f (by with_reducible exact nbeq_self _) ?_|refine spl_t (by with_reducible exact beq_self _) ?_);conv=>whnf)
   | (refine spl_dec (fun hd=>?_) (fun hd=>?_) <;> first|(exfalso;omega)|(conv=>whnf))
   | (refine spl_ndec (fun hd=>?_) (fun hd=>?_) <;> first|(exfalso;omega)|(conv=>whnf))
   | (refine spl_intro (fun hd=>?_) (fun hd=>?_) <;> (conv=>whnf))
   | ((first|refine Ld.i ?_|refine LdN.i ?_|refine St.i ⟨rfl,rfl⟩ (List.cons_ne_nil _ _) ?_|refine Ar.i64 (by omega) ?_|refine Ar.u64 (by omega) ?_|refine Ar.i64d (by omega) (by omega) ?_|refine Shr.i (by rfl) (by decide) ?_|refine Shl.i (by rfl) (by decide) ?_|refine Req.mk (by omega) ?_);conv=>whnf)
   | (intro blk hblk;conv=>whnf)
   | (refine OpX.upv tab_ok (⟨tx,lsn,false,true⟩:LiveV) rfl rfl rfl rfl rfl rfl ?_;conv=>whnf)
   | (refine Sub.on (by first|exact .refl _|exact .drop|exact .fin|((repeat refine .pick ?_);first|exact .refl _|exact .emp _|exact .fin)) ?_;conv=>whnf)
   | (refine Sub.on (Imp.trans KeepC.h (by first|exact .refl _|exact .drop|exact .fin|((repeat refine .pick ?_);first|exact .refl _|exact .emp _|exact .fin))) ?_;conv=>whnf)
   | (refine CallK.ret f_txns_in.ok (txin_spec) ?_;rintro v G ⟨rfl,rfl⟩;conv=>whnf)
   | (refine DrawK.introH tab_ok mixed 22 f_z0.last8 f_z0.plan8 _ rfl (by kernel_rfl) (Sub.of (by first|exact .refl _|exact .drop|exact .fin|((repeat refine .pick ?_);first|exact .refl _|exact .emp _|exact .fin))) ?_;conv=>whnf)
   | (refine CallK.ret f_z5.ok (moves5_spec) ?_;rintro v G ⟨rfl,rfl⟩;conv=>whnf)
   | (refine CallK.ret f_z5.ok (moves6_spec) ?_;rintro v G ⟨rfl,rfl⟩;conv=>whnf)
   | (refine DrawK.introH tab_ok mixed 44 f_z0.last13 f_z0.plan13 _ rfl (by kernel_rfl) (Sub.of (by first|exact .refl _|exact .drop|exact .fin|((repeat refine .pick ?_);first|exact .refl _|exact .emp _|exact .fin))) ?_;conv=>whnf)
   | (refine DrawK.introH tab_ok mixed 84 f_z0.last24 f_z0.plan24 _ rfl (by kernel_rfl) (Sub.of (by first|exact .refl _|exact .drop|exact .fin|((repeat refine .pick ?_);first|exact .refl _|exact .emp _|exact .fin))) ?_;conv=>whnf)
   | (refine DrawK.introH tab_ok mixed 94 f_z0.last26 f_z0.plan26 _ rfl (by kernel_rfl) (Sub.of (by first|exact .refl _|exact .drop|exact .fin|((repeat refine .pick ?_);first|exact .refl _|exact .emp _|exact .fin))) ?_;conv=>whnf))
  refine ⟨_,_,rfl,?_,.inr ⟨rfl,rfl,rfl,rfl⟩⟩
  rw [tabo_eq,hup]
  first|exact .refl _|exact .drop|exact .fin|((repeat refine .pick ?_);first|exact .refl _|exact .emp _|exact .fin)
 ·repeat' (first
   | (rw [e1];conv=>whnf)
   | (refine CallK.ret f_z5.ok moves6_spec ?_;rintro v G ⟨rfl,rfl⟩;conv=>whnf)
   | (refine OpQ.lk2s tab_ok hlk rfl rfl rfl rfl rfl (v:=.agg ⟨[.int .i64 tx,.int .i64 last,.bool false,.bool true]⟩) rfl ?_;conv=>whnf)
   | (refine CallK.ret f_z12.ok (topen_spec (x:=⟨tx,last,false,true⟩)) ?_;rintro v G ⟨rfl,rfl⟩;conv=>whnf)
   | ((first|refine spl_f (by with_reducible exact ndec_self _) ?_|refine spl_f (by with_reducible exact nbeq_self _) ?_|refine spl_t (by with_reducible exact beq_self _) ?_);conv=>whnf)
   | (refine spl_dec (fun hd=>?_) (fun hd=>?_) <;> first|(exfalso;omega)|(conv=>whnf))
   | (refine spl_ndec (fun hd=>?_) (fun hd=>?_) <;> first|(exfalso;omega)|(conv=>whnf))
   | (refine spl_intro (fun hd=>?_) (fun hd=>?_) <;> (conv=>whnf))
   | ((first|refine Ld.i ?_|refine LdN.i ?_|refine St.i ⟨rfl,rfl⟩ (List.cons_ne_nil _ _) ?_|refine Ar.i64 (by omega) ?_|refine Ar.u64 (by omega) ?_|refine Ar.i64d (by omega) (by omega) ?_|refine Shr.i (by rfl) (by decide) ?_|refine Shl.i (by rfl) (by decide) ?_|refine Req.mk (by omega) ?_);conv=>whnf)
   | (intro blk hblk;conv=>whnf)
   | (refine Sub.on (by first|exact .refl _|exact .drop|exact .fin|((repeat refine .pick ?_);first|exact .refl _|exact .emp _|exact .fin)) ?_;conv=>whnf)
   | (refine Sub.on (Imp.trans KeepC.h (by first|exact .refl _|exact .drop|exact .fin|((repeat refine .pick ?_);first|exact .refl _|exact .emp _|exact .fin))) ?_;conv=>whnf)
   | (refine CallK.ret f_txns_in.ok (txin_spec) ?_;rintro v G ⟨rfl,rfl⟩;conv=>whnf)
   | (refine DrawK.introH tab_ok mixed 22 f_z0.last8 f_z0.plan8 _ rfl (by kernel_rfl) (Sub.of (by first|exact .refl _|exact .drop|exact .fin|((repeat refine .pick ?_);first|exact .refl _|exact .emp _|exact .fin))) ?_;conv=>whnf)
   | (refine CallK.ret f_z5.ok (moves5_spec) ?_;rintro v G ⟨rfl,rfl⟩;conv=>whnf)
   | (refine CallK.ret f_z5.ok (moves6_spec) ?_;rintro v G ⟨rfl,rfl⟩;conv=>whnf)
   | (refine DrawK.introH tab_ok mixed 44 f_z0.last13 f_z0.plan13 _ rfl (by kernel_rfl) (Sub.of (by first|exact .refl _|exact .drop|exact .fin|((repeat refine .pick ?_);first|exact .refl _|exact .emp _|exact .fin))) ?_;conv=>whnf)
   | (refine DrawK.introH tab_ok mixed 84 f_z0.last24 f_z0.plan24 _ rfl (by kernel_rfl) (Sub.of (by first|exact .refl _|exact .drop|exact .fin|((repeat refine .pick ?_);first|exact .refl _|exact .emp _|exact .fin))) ?_;conv=>whnf)
   | (refine DrawK.introH tab_ok mixed 94 f_z0.last26 f_z0.plan26 _ rfl (by kernel_rfl) (Sub.of (by first|exact .refl _|exact .drop|exact .fin|((repeat refine .pick ?_);first|exact .refl _|exact .emp _|exact .fin))) ?_;conv=>whnf))
  refine ⟨_,_,rfl,?_,.inl ⟨by simp,rfl,rfl⟩⟩
  first|exact .refl _|exact .drop|exact .fin|((repeat refine .pick ?_);first|exact .refl _|exact .emp _|exact .fin)
 ·repeat' (first
   | (rw [e1];conv=>whnf)
   | (refine CallK.ret f_z5.ok moves6_spec ?_;rintro v G ⟨rfl,rfl⟩;conv=>whnf)
   | (refine OpQ.lk2s tab_ok hlk rfl rfl rfl rfl rfl (v:=.agg ⟨[.int .i64 tx,.int .i64 last,.bool true,.bool false]⟩) rfl ?_;conv=>whnf)
   | (refine CallK.ret f_z12.ok (topen_spec (x:=⟨tx,last,true,false⟩)) ?_;rintro v G ⟨rfl,rfl⟩;conv=>whnf)
   | ((first|refine spl_f (by with_reducible exact ndec_self _) ?_|refine spl_f (by with_reducible exact nbeq_self _) ?_|refine spl_t (by with_reducible exact beq_self _) ?_);conv=>whnf)
   | (refine spl_dec (fun hd=>?_) (fun hd=>?_) <;> first|(exfalso;omega)|(conv=>whnf))
   | (refine spl_ndec (fun hd=>?_) (fun hd=>?_) <;> first|(exfalso;omega)|(conv=>whnf))
   | (refine spl_intro (fun hd=>?_) (fun hd=>?_) <;> (conv=>whnf))
   | ((first|refine Ld.i ?_|refine LdN.i ?_|refine St.i ⟨rfl,rfl⟩ (List.cons_ne_nil _ _) ?_|refine Ar.i64 (by omega) ?_|refine Ar.u64 (by omega) ?_|refine Ar.i64d (by omega) (by omega) ?_|refine Shr.i (by rfl) (by decide) ?_|refine Shl.i (by rfl) (by decide) ?_|refine Req.mk (by omega) ?_);conv=>whnf)
   | (intro blk hblk;conv=>whnf)
   | (refine Sub.on (by first|exact .refl _|exact .drop|exact .fin|((repeat refine .pick ?_);first|exact .refl _|exact .emp _|exact .fin)) ?_;conv=>whnf)
   | (refine Sub.on (Imp.trans KeepC.h (by first|exact .refl _|exact .drop|exact .fin|((repeat refine .pick ?_);first|exact .refl _|exact .emp _|exact .fin))) ?_;conv=>whnf)
   | (refine CallK.ret f_txns_in.ok (txin_spec) ?_;rintro v G ⟨rfl,rfl⟩;conv=>whnf)
   | (refine DrawK.introH tab_ok mixed 22 f_z0.last8 f_z0.plan8 _ rfl (by kernel_rfl) (Sub.of (by first|exact .refl _|exact .drop|exact .fin|((repeat refine .pick ?_);first|exact .refl _|exact .emp _|exact .fin))) ?_;conv=>whnf)
   | (refine CallK.ret f_z5.ok (moves5_spec) ?_;rintro v G ⟨rfl,rfl⟩;conv=>whnf)
   | (refine CallK.ret f_z5.ok (moves6_spec) ?_;rintro v G ⟨rfl,rfl⟩;conv=>whnf)
   | (refine DrawK.introH tab_ok mixed 44 f_z0.last13 f_z0.plan13 _ rfl (by kernel_rfl) (Sub.of (by first|exact .refl _|exact .drop|exact .fin|((repeat refine .pick ?_);first|exact .refl _|exact .emp _|exact .fin))) ?_;conv=>whnf)
   | (refine DrawK.introH tab_ok mixed 84 f_z0.last24 f_z0.plan24 _ rfl (by kernel_rfl) (Sub.of (by first|exact .refl _|exact .drop|exact .fin|((repeat refine .pick ?_);first|exact .refl _|exact .emp _|exact .fin))) ?_;conv=>whnf)
   | (refine DrawK.introH tab_ok mixed 94 f_z0.last26 f_z0.plan26 _ rfl (by kernel_rfl) (Sub.of (by first|exact .refl _|exact .drop|exact .fin|((repeat refine .pick ?_);first|exact .refl _|exact .emp _|exact .fin))) ?_;conv=>whnf))
  refine ⟨_,_,rfl,?_,.inl ⟨by simp,rfl,rfl⟩⟩
  first|exact .refl _|exact .drop|exact .fin|((repeat refine .pick ?_);first|exact .refl _|exact .emp _|exact .fin)
 ·repeat' (first
   | (rw [e1];conv=>whnf)
   | (refine CallK.ret f_z5.ok moves6_spec ?_;rintro v G ⟨rfl,rfl⟩;conv=>whnf)
   | (refine OpQ.lk2s tab_ok hlk rfl rfl rfl rfl rfl (v:=.agg ⟨[.int .i64 tx,.int .i64 last,.bool true,.bool true]⟩) rfl ?_;conv=>whnf)
   | (refine CallK.ret f_z12.ok (topen_spec (x:=⟨tx,last,true,true⟩)) ?_;rintro v G ⟨rfl,rfl⟩;conv=>whnf)
   | ((first|refine spl_f (by with_reducible exact ndec_self _) ?_|refine spl_f (by with_reducible exact nbeq_self _) ?_|refine spl_t (by with_reducible exact beq_self _) ?_);conv=>whnf)
   | (refine spl_dec (fun hd=>?_) (fun hd=>?_) <;> first|(exfalso;omega)|(conv=>whnf))
   | (refine spl_ndec (fun hd=>?_) (fun hd=>?_) <;> first|(exfalso;omega)|(conv=>whnf))
   | (refine spl_intro (fun hd=>?_) (fun hd=>?_) <;> (conv=>whnf))
   | ((first|refine Ld.i ?_|refine LdN.i ?_|refine St.i ⟨rfl,rfl⟩ (List.cons_ne_nil _ _) ?_|refine Ar.i64 (by omega) ?_|refine Ar.u64 (by omega) ?_|refine Ar.i64d (by omega) (by omega) ?_|refine Shr.i (by rfl) (by decide) ?_|refine Shl.i (by rfl) (by decide) ?_|refine Req.mk (by omega) ?_);conv=>whnf)
   | (intro blk hblk;conv=>whnf)
   | (refine Sub.on (by first|exact .refl _|exact .drop|exact .fin|((repeat refine .pick ?_);first|exact .refl _|exact .emp _|exact .fin)) ?_;conv=>whnf)
   | (refine Sub.on (Imp.trans KeepC.h (by first|exact .refl _|exact .drop|exact .fin|((repeat refine .pick ?_);first|exact .refl _|exact .emp _|exact .fin))) ?_;conv=>whnf)
   | (refine CallK.ret f_txns_in.ok (txin_spec) ?_;rintro v G ⟨rfl,rfl⟩;conv=>whnf)
   | (refine DrawK.introH tab_ok mixed 22 f_z0.last8 f_z0.plan8 _ rfl (by kernel_rfl) (Sub.of (by first|exact .refl _|exact .drop|exact .fin|((repeat refine .pick ?_);first|exact .refl _|exact .emp _|exact .fin))) ?_;conv=>whnf)
   | (refine CallK.ret f_z5.ok (moves5_spec) ?_;rintro v G ⟨rfl,rfl⟩;conv=>whnf)
   | (refine CallK.ret f_z5.ok (moves6_spec) ?_;rintro v G ⟨rfl,rfl⟩;conv=>whnf)
   | (refine DrawK.introH tab_ok mixed 44 f_z0.last13 f_z0.plan13 _ rfl (by kernel_rfl) (Sub.of (by first|exact .refl _|exact .drop|exact .fin|((repeat refine .pick ?_);first|exact .refl _|exact .emp _|exact .fin))) ?_;conv=>whnf)
   | (refine DrawK.introH tab_ok mixed 84 f_z0.last24 f_z0.plan24 _ rfl (by kernel_rfl) (Sub.of (by first|exact .refl _|exact .drop|exact .fin|((repeat refine .pick ?_);first|exact .refl _|exact .emp _|exact .fin))) ?_;conv=>whnf)
   | (refine DrawK.introH tab_ok mixed 94 f_z0.last26 f_z0.plan26 _ rfl (by kernel_rfl) (Sub.of (by first|exact .refl _|exact .drop|exact .fin|((repeat refine .pick ?_);first|exact .refl _|exact .emp _|exact .fin))) ?_;conv=>whnf))
  refine ⟨_,_,rfl,?_,.inl ⟨by simp,rfl,rfl⟩⟩
  first|exact .refl _|exact .drop|exact .fin|((repeat refine .pick ?_);first|exact .refl _|exact .emp _|exact .fin)
end
end Go.Proofs.YtbcedpankkdfoaaGreatDoor
