/- A pool over a new disk; a log that grows; plain words. Conditions: in each statement. -/
import Derived.Test.YtbcedpankkdfoaaGreatDoorPart28
import Derived.Test.YtbcedpankkdfoaaGreatDoorPart21
import Derived.Test.YtbcedpankkdfoaaGreatDoorPart20
namespace Go.Proofs.YtbcedpankkdfoaaGreatDoor
open Go Go.SL Go.SL.Sec Go.SL.Fld Go.SL.Pts Go.SL.Rec Go.SL.Twn Go.SL.Pg Go.SL.Mst Go.SL.Pool
def zeroD (n:Int):Dev:=(freshX none 0 (List.replicate (n * 512).toNat 0)).val
theorem zeroD_secs {n:Int} (h:0 ≤ n):(zeroD n).secs = n:=by
 unfold Dev.secs zeroD
 show ((List.replicate (n * 512).toNat (0:Int)).length:Int) / 512 = n
 rw [List.length_replicate];omega
theorem zeroD_ok {n:Int} (h:1 ≤ n ∧ n ≤ 8192):(zeroD n).Ok:=by
 refine (fresh_ok (a:=none) (c:=(n * 512).toNat) (img:=List.replicate (n * 512).toNat 0) ?_ ?_ (Byt.rep _) ?_).val
 ·rw [List.length_replicate];omega
 ·rw [List.length_replicate];omega
 ·rw [List.length_replicate];exact Nat.le_refl _
theorem zeroD_at {n i:Int} (h:0 ≤ i ∧ i < n):(zeroD n).at i = z512:=by
 show secOf (List.replicate (n * 512).toNat (0:Int)) i = z512
 unfold secOf
 rw [List.drop_replicate,List.take_replicate,z512_eq]
 congr 1
 omega
theorem secsL_zero {n first:Int}:∀ {k:Nat},(∀ i:Nat,i < k → (0 ≤ first + (i:Nat) ∧ first + (i:Nat) < n)) → secsL (zeroD n) first k = List.replicate k z512
 | 0,_=>rfl
 | k + 1,h=>by rw [secsL_succ,secsL_zero fun i hi=>h i (by omega),zeroD_at (h k (by omega)),List.replicate_succ']
theorem foundG_zero:∀ k:Nat,foundG 0 (List.replicate k z512) = []
 | 0=>rfl
 | k + 1=>by
  rw [List.replicate_succ,foundG]
  have:okS 0 z512 = none:=by
   unfold okS
   refine if_pos (.inl ?_)
   show ¬ (List.replicate 512 (0:Int))[0]? = some 108
   rw [List.getElem?_replicate,if_pos (by decide)]
   decide
  rw [this]
theorem wipG_zero (first:Int) (D:Dev):∀ k i:Nat,wipG first i (List.replicate k z512) false D = (0,D)
 | 0,_=>rfl
 | k + 1,i=>by
  rw [List.replicate_succ,wipG]
  have:zerosB z512 = true:=by unfold zerosB;rw [z512_eq];exact List.all_eq_true.2 fun x hx=>by rw [List.mem_replicate] at hx;simpa using hx.2
  rw [if_pos this]
  exact wipG_zero first D k (i + 1)
theorem openF_zero {n first:Int} {k:Nat} (h:∀ i:Nat,i < k → (0 ≤ first + (i:Nat) ∧ first + (i:Nat) < n)):openF (zeroD n) first k = ((0,0),⟨first,k,[],[],0,none⟩,zeroD n):=by
 unfold openF
 rw [secsL_zero h,foundG_zero]
 show (if (0:Int) ≠ 0 then _ else _) = _
 rw [if_neg (by decide)]
 show ((0,(wipG first 0 (List.replicate k z512) false (zeroD n)).1),(⟨first,k,[],[],0,none⟩:LogM),(wipG first 0 (List.replicate k z512) false (zeroD n)).2) = _
 rw [wipG_zero]
end Go.Proofs.YtbcedpankkdfoaaGreatDoor
namespace Go.SL.Pool
open Go Go.SL Go.SL.Sec Go.SL.Fld Go.SL.Rec Go.SL.Twn Go.SL.Pg Go.SL.Mst
open Go.Proofs.YtbcedpankkdfoaaGreatDoor (zeroD zeroD_ok zeroD_at zeroD_secs)
def sto0 (p lg f:Int):Sto:=⟨⟨p,lg,f,[],0,false⟩,⟨5 + 2 * p,lg,[],[],0,none⟩,zeroD (5 + 2 * p + lg)⟩
def last0 (n:Int):PgM:=⟨n,0,[],[]⟩
theorem last0_fault {n:Int} (h:0 ≤ n ∧ n ≤ 63):(last0 n).fault = 0:=by
 unfold PgM.fault last0
 dsimp only
 rw [if_neg (fun k=>k h),if_neg (by simp),if_neg (by simp),if_neg (by simp)]
 rfl
theorem last0_in {n:Int} (h:0 ≤ n ∧ n ≤ 63):(last0 n).In:=⟨by unfold In64 last0;dsimp only;omega,by unfold In64 last0;dsimp only;omega,fun c hc=>(by cases hc),fun c hc=>(by cases hc)⟩
theorem enc_last0 (n:Int):encP (last0 n) = z1024:=if_pos rfl
theorem ok0 {p lg f:Int} (h:MayP p lg f):(sto0 p lg f).Ok:=by
 have h':=h
 unfold MayP at h'
 exact ⟨h,zeroD_ok (by omega),rfl,zeroD_secs (by omega),rfl,rfl,rfl,by show (0:Int) ≤ lg;omega,fun b hb=>(by cases hb),List.nodup_nil,fun n f hf=>(by cases hf),fun n m f g hf=>(by cases hf)⟩
theorem keeps0 {p lg f:Int} (h:MayP p lg f):Keeps (sto0 p lg f) last0:=by
 have h':=h
 unfold MayP at h'
 refine ⟨rfl,h'.1,⟨rfl,rfl⟩,zeroD_ok (by omega),zeroD_secs (by omega),rfl,rfl,rfl,by show (0:Int) ≤ lg;omega,fun b hb=>(by cases hb),List.nodup_nil,fun n f hf=>(by cases hf),fun n hn _=>?_,fun n hn=>?_⟩
 ·have hn':0 ≤ n ∧ n < p:=hn
  rw [enc_last0]
  show (zeroD (5 + 2 * p + lg)).at (5 + 2 * n) ++ (zeroD (5 + 2 * p + lg)).at (5 + 2 * n + 1) = z1024
  rw [zeroD_at (by omega),zeroD_at (by omega),z512_eq,z1024_eq,List.replicate_append_replicate]
 ·have hn':0 ≤ n ∧ n < p:=hn
  exact ⟨rfl,last0_fault (by omega),last0_in (by omega),Int.le_refl _⟩
def Sto.app (S:Sto) (r:RecM) (b:List Int):Sto:={ S with L:={ S.L with recs:=S.L.recs ++ [r],bys:=S.L.bys ++ [b] } }
theorem Keeps.app {S:Sto} {last:Int → PgM} (K:Keeps S last) {r:RecM} {b:List Int} (hc:(S.L.recs.length:Int) + 1 ≤ S.L.count) (hb:Byt b ∧ b.length ≤ 505):Keeps (S.app r b) last:=by
 have hl:(S.L.recs ++ [r]).length = S.L.recs.length + 1:=by simp
 refine ⟨K.run,K.pages,K.calm,K.dok,K.secs,K.first,K.err,?_,?_,?_,K.nd,K.key,K.home,fun n hn=>?_⟩
 ·show S.L.forced + (S.L.bys ++ [b]).length = (S.L.recs ++ [r]).length
  rw [hl,List.length_append,List.length_singleton];have:=K.forced;omega
 ·show ((S.L.recs ++ [r]).length:Int) ≤ S.L.count
  rw [hl];omega
 ·intro x hx
  rcases List.mem_append.1 hx with h|h
  ·exact K.bys x h
  ·cases List.mem_singleton.1 h;exact hb
 ·obtain ⟨h1,h2,h3,h4⟩:=K.good n hn
  refine ⟨h1,h2,h3,?_⟩
  show (last n).lsn ≤ ((S.L.recs ++ [r]).length:Int)
  rw [hl];omega
theorem Sto.Ok.app {S:Sto} (h:S.Ok) {r:RecM} {b:List Int} (hc:(S.L.recs.length:Int) + 1 ≤ S.L.count) (hb:Byt b ∧ b.length ≤ 505):(S.app r b).Ok:=by
 have hl:(S.L.recs ++ [r]).length = S.L.recs.length + 1:=by simp
 refine ⟨h.may,h.dok,h.q,h.secs,h.first,h.cnt,?_,?_,?_,h.nd,fun n f hf=>?_,h.us⟩
 ·show S.L.forced + (S.L.bys ++ [b]).length = (S.L.recs ++ [r]).length
  rw [hl,List.length_append,List.length_singleton];have:=h.forced;omega
 ·show ((S.L.recs ++ [r]).length:Int) ≤ S.L.count
  rw [hl];omega
 ·intro x hx
  rcases List.mem_append.1 hx with k|k
  ·exact h.bys x k
  ·cases List.mem_singleton.1 k;exact hb
 ·have k:=h.fr n f hf
  refine ⟨k.num,k.pin,k.C,k.G,k.lsn,k.key,fun hd=>?_,k.used⟩
  obtain ⟨k1,k2⟩:=k.dirty hd
  refine ⟨k1,?_⟩
  show f.pg.lsn ≤ ((S.L.recs ++ [r]).length:Int)
  rw [hl];omega
def Sto.force (S:Sto) (n:Int):Int × Sto:=((S.L.force S.D n).1,⟨S.P,(S.L.force S.D n).2.1,(S.L.force S.D n).2.2⟩)
theorem Keeps.force {S:Sto} {last:Int → PgM} (K:Keeps S last) {n:Int} (hn:0 ≤ n ∧ n ≤ S.L.recs.length):(S.force n).1 = 0 ∧ Keeps (S.force n).2 last ∧ (S.force n).2.L.recs = S.L.recs ∧ (S.force n).2.L.count = S.L.count ∧ n ≤ (S.force n).2.L.forced:=by
 obtain ⟨a1,a2,a3,a4,a5,a6,a7,a8',F,a8,a9⟩:=force_calm K.calm K.dok K.err (by rw [K.first];have:=K.pages;omega) (by rw [K.first,K.secs];omega) K.forced K.recs K.bys hn
 have hat:∀ m,0 ≤ m ∧ m < S.P.pages → pageOf (S.L.force S.D n).2.2 m = pageOf S.D m:=fun m hm=>by
  have e1:=K.first
  unfold pageOf
  rw [a8.sec _ (by omega),a8.sec _ (by omega),a9 _ (by omega),a9 _ (by omega)]
  rfl
 refine ⟨a1,⟨K.run,K.pages,a8.calm,a8.ok,?_,?_,a2,?_,?_,a7,K.nd,fun m f hm=>?_,fun m hm hno=>?_,fun m hm=>?_⟩,a5,a4,a8'⟩
 ·show (S.L.force S.D n).2.2.secs = 5 + 2 * S.P.pages + (S.L.force S.D n).2.1.count
  rw [a8.secs,a4];exact K.secs
 ·show (S.L.force S.D n).2.1.first = _
  rw [a3];exact K.first
 ·show (S.L.force S.D n).2.1.forced + (S.L.force S.D n).2.1.bys.length = (S.L.force S.D n).2.1.recs.length
  rw [a5];exact a6
 ·show ((S.L.force S.D n).2.1.recs.length:Int) ≤ (S.L.force S.D n).2.1.count
  rw [a5,a4];exact K.recs
 ·obtain ⟨k1,k2,k3⟩:=K.key m f hm
  exact ⟨k1,k2,fun hd=>by show pageOf (S.L.force S.D n).2.2 m = _;rw [hat m k1];exact k3 hd⟩
 ·show pageOf (S.L.force S.D n).2.2 m = _
  rw [hat m hm];exact K.home m hm hno
 ·have:=K.good m hm
  show _ ∧ _ ∧ _ ∧ (last m).lsn ≤ ((S.L.force S.D n).2.1.recs.length:Int)
  rw [a5];exact this
end Go.SL.Pool
/- The log under the pool: a record more, Force; walked. Conditions: in each statement. -/
namespace Go.SL.Pool
open Go Go.SL Go.SL.Sec Go.SL.Fld Go.SL.Rec Go.SL.Twn Go.SL.Pg Go.SL.Mst
open Go.SL.Und (RecV recv fits)
def begR (t:Int):RecV:={ Rec.recZ with kind:=1,tx:=t }
def begN (n:Nat) (t:Int):RecV:={ begR t with lsn:=(n:Int) + 1 }
theorem begN_chk {n:Nat} {t:Int} (hn:n ≤ 1000000) (ht:1 ≤ t ∧ t ≤ 1000000):chkF (begN n t) [] [] = 0:=by
 unfold chkF
 rw [if_neg (show ¬ ((begN n t).kind < 1 ∨ (begN n t).kind > 8) by show ¬ ((1:Int) < 1 ∨ (1:Int) > 8);decide)]
 rw [if_pos ((FieldsP.one (show (begN n t).kind = 1 from rfl)).2 ⟨?_,?_,?_⟩)]
 ·show 0 ≤ (n:Int) + 1 ∧ (n:Int) + 1 ≤ 2147483647
  omega
 ·show 1 ≤ t ∧ t ≤ 2147483647
  omega
 ·unfold BlankP begN begR Rec.recZ
  simp
theorem begN_enc (n:Nat) {t:Int} (ht:1 ≤ t ∧ t ≤ 1000000):Byt (encR (begN n t) [] []) ∧ (encR (begN n t) [] []).length ≤ 505:=by
 have e:encR (begN n t) [] [] = encN 1 ++ (encN t.toNat ++ []) ++ [] ++ []:=rfl
 rw [e]
 have h1:=encN_len10 (n:=1) (by decide)
 have h2:=encN_len10 (n:=t.toNat) (by omega)
 refine ⟨((((encN_byt 1).append ((encN_byt _).append Byt.nil)).append Byt.nil).append Byt.nil),?_⟩
 simp only [List.length_append,List.length_nil]
 omega
def Sto.beg (S:Sto) (t:Int):Int × Sto:=if S.L.count - S.L.recs.length = 0 then (6,S) else (0,S.app ⟨begN S.L.recs.length t,[],[]⟩ (encR (begN S.L.recs.length t) [] []))
end Go.SL.Pool
namespace Go.Proofs.YtbcedpankkdfoaaGreatDoor
open Go Go.SL Go.SL.Sec Go.SL.Fld Go.SL.Pts Go.SL.Rec Go.SL.Twn Go.SL.Pg Go.SL.Mst Go.SL.Pool
theorem logok_val {X:LogX} {M:LogM} (h:X.val = M) (h1:0 ≤ M.count ∧ M.count ≤ 4096) (h2:∀ m ∈ M.recs,m.L.length ≤ 32 ∧ m.D.length ≤ 16 ∧ bare m.r = m.r) (h3:(M.recs.length:Int) ≤ M.count) (h4:M.forced + M.bys.length = M.recs.length) (h5:∀ b ∈ M.bys,Byt b ∧ b.length ≤ 505):X.Ok:=by
 subst h
 have e1:X.val.recs.length = X.recs.length:=List.length_map ..
 have e2:X.val.bys.length = X.bys.length:=List.length_map ..
 rw [e1] at h3 h4
 rw [e2] at h4
 exact ⟨h1,fun x hx=>h2 x.m (List.mem_map.2 ⟨x,hx,rfl⟩),h3,h4,fun x hx=>h5 x.b (List.mem_map.2 ⟨x,hx,rfl⟩)⟩
theorem pbeg_spec {W:World} {R:HProp} {p:Nat} {S:StoX} {t:Int} (hS:S.Ok) (he:S.L.err = none) (ht:1 ≤ t ∧ t ≤ 1000000) :
  Does prog W f_zo ⟨[ptr S.P.l,recA (begR t)]⟩ (stoo p S•R) (Ret fun v G=>∃ S':StoX,S'.Ok ∧ S.Same S' ∧ S'.val = (S.val.beg t).2 ∧ v = .tuple ⟨[.int .i64 (if (S.val.beg t).1 = 0 then (S.L.recs.length:Int) + 1 else 0),.int .i64 (S.val.beg t).1]⟩ ∧ G = (stoo p S'•R)):=by
 have hcnt:=hS.L.cnt
 have hlen:=hS.L.len
 have hc:=begN_chk (n:=S.L.recs.length) (t:=t) (by omega) ht
 have erl:S.val.L.recs.length = S.L.recs.length:=List.length_map ..
 have hz:∀ (α:Type) (Q:HProp) (sz:Nat) (enc:α → List Value),RowC W Q none sz enc []:=fun α Q sz enc=>⟨fun w hs i x hx=>by cases hx⟩
 haveI rl:∀ Q:HProp,RowN W Q (begR t).lv.1 (begR t).lv.2.1 4 livev []:=fun Q=>⟨hz _ _ _ _,rfl⟩
 haveI rd:∀ Q:HProp,RowN W Q (begR t).dt.1 (begR t).dt.2.1 2 dirtyv []:=fun Q=>⟨hz _ _ _ _,rfl⟩
 unfold Sto.beg
 rw [erl,show S.val.L.count = S.L.count from rfl,stoo_eq,star_left_comm (poolo p S.P)]
 by_cases c:S.L.count - S.L.recs.length = 0
 ·rw [if_pos c]
  refine (append_no (X:=S.L) (r:=begR t) (L:=[]) (D:=[]) (e:=6) hS.L he (.inr ⟨hc,c,rfl⟩)).post fun en w H' hs hQ=>?_
  obtain ⟨v,G,h1,h2,rfl,rfl⟩:=hQ
  exact ⟨H',hs,_,_,h1,h2,S,hS,.refl S,rfl,rfl,((stoo_eq p S R).trans (star_left_comm _ _ _)).symm⟩
 ·rw [if_neg c]
  refine (append_yes (X:=S.L) (r:=begR t) (L:=[]) (D:=[]) hS.L he (fun o ho=>by cases ho) hc c).post fun en w H' hs hQ=>?_
  obtain ⟨v,G,h1,h2,X',hd,hv,rfl,rfl⟩:=hQ
  have hok:=hS.val.app (r:=⟨begN S.L.recs.length t,[],[]⟩) (b:=encR (begN S.L.recs.length t) [] []) (by rw [erl];have:S.val.L.count = S.L.count:=rfl;omega) (begN_enc _ ht)
  have hval:(⟨S.P,X',S.D⟩:StoX).val = S.val.app ⟨begN S.L.recs.length t,[],[]⟩ (encR (begN S.L.recs.length t) [] []):=by
   show (⟨S.P.val,X'.val,S.D.val⟩:Sto) = _
   rw [hv];rfl
  refine ⟨H',hs,_,_,h1,h2,⟨S.P,X',S.D⟩,⟨by rw [hval];exact hok,?_,hS.D,hd.trans hS.ld⟩,⟨rfl,rfl⟩,hval,rfl,((stoo_eq p ⟨S.P,X',S.D⟩ R).trans (star_left_comm _ _ _)).symm⟩
  refine logok_val hv hcnt (fun m hm=>?_) ?_ ?_ ?_
  ·rcases List.mem_append.1 hm with k|k
   ·obtain ⟨x,hx,rfl⟩:=List.mem_map.1 k
    exact hS.L.recs x hx
   ·cases List.mem_singleton.1 k
    exact ⟨Nat.zero_le _,Nat.zero_le _,rfl⟩
  ·exact hok.recs
  ·exact hok.forced
  ·exact hok.bys
def StoF (p:Nat) (S:StoX) (T:Int × Sto) (R:HProp) (v:Value) (G:HProp):Prop:=∃ (S':StoX) (J:HProp),S'.Ok ∧ S.Same S' ∧ S'.val = T.2 ∧ (J = R ∨ ∃ b e,J = (fltc b wForce 0 e•R)) ∧ ErrV T.1 v G ∧ G = (stoo p S'•J)
end Go.Proofs.YtbcedpankkdfoaaGreatDoor
/- The law's store in plain words: right pages made of any, each call; bounds that all calls keep. Conditions: in each statement. -/
namespace Go.SL.Pool
open Go Go.SL Go.SL.Sec Go.SL.Fld Go.SL.Rec Go.SL.Twn Go.SL.Pg Go.SL.Mst
def pickI (n lo hi:Int):Int:=lo + n % (hi - lo + 1)
def madeC (c:CntV):CntV:=⟨pickI c.id 1 1048576,pickI c.grp 1 1048576,if c.lo > c.hi then c.hi else c.lo,if c.lo > c.hi then c.lo else c.hi,c.val⟩
def madeG (g:GrpV):GrpV:=⟨pickI g.id 1 1048576,g.sum⟩
def madeP (p:PgM):PgM :=
 let C:=(p.C.take 31).map madeC
 let G:=if C.length = 0 then (p.G.take 84).map madeG else []
 ⟨pickI p.num 0 63,if C.length + G.length > 0 then pickI p.lsn 1 2147483647 else 0,C,G⟩
structure OpM where
 kind:Int
 n:Int
 a:Int
 pg:PgM
def putP (o:OpM) (n:Int) (last:PgM):PgM :=
 ⟨n,last.lsn + 1 + o.a % 3,(madeP o.pg).C,if (madeP o.pg).C.length + (madeP o.pg).G.length = 0 then [⟨1,o.a⟩] else (madeP o.pg).G⟩
structure StM where
 S:Sto
 had:List (List PgM)
 done:List Int
def lastP (h:List (List PgM)) (n:Int):PgM:=match h[n.toNat]? with
 | some l=>l.getLastD (last0 n)
 | none=>last0 n
def downE (e:Int) (S:Sto):Bool:=decide (e = 40) && S.D.down
def StM.puts (X:StM) (o:OpM):Bool × StM :=
 let n:=o.n % X.S.P.pages
 let g:=X.S.get n
 if g.1 ≠ 0 then (downE g.1 g.2 || decide (g.1 = 6),{ X with S:=g.2 }) else
 let p:=putP o n (lastP X.had n)
 let r:=g.2.put p
 if p.lsn > r.2.L.recs.length then (decide (r.1 = 4) || downE r.1 r.2,{ X with S:=r.2 }) else
 if r.1 ≠ 0 then (false,{ X with S:=r.2 }) else (true,{ X with S:=r.2,had:=X.had.set n.toNat ((X.had[n.toNat]?).getD [] ++ [p]) })
def StM.gets (X:StM) (o:OpM):Bool × StM :=
 let n:=o.n % X.S.P.pages
 let g:=X.S.get n
 if g.1 ≠ 0 then (downE g.1 g.2 || decide (g.1 = 6),{ X with S:=g.2 }) else
 (decide ((g.2.P.held.lookup n).map (·.pg) = some (lastP X.had n)),{ X with S:=g.2 })
def StM.pins (X:StM) (o:OpM):Bool × StM :=
 let r:=X.S.pin (o.n % X.S.P.pages)
 (decide (r.1 = 0) || downE r.1 r.2 || decide (r.1 = 6),{ X with S:=r.2 })
def StM.outs (X:StM) (n:Int) (r:Int × Sto):Bool × StM :=
 (decide (r.1 = 0) || downE r.1 r.2 || decide (r.1 = 100) || decide (r.1 = 101),{ X with S:=r.2,done:=if r.1 = 0 then X.done.set n.toNat (lastP X.had n).lsn else X.done })
def Sto.begE (S:Sto) (t:Int):Sto:=if S.L.err.isSome then S else (S.beg t).2
def StM.play (X:StM) (o:OpM):Bool × StM :=
 if o.kind = 1 then X.gets o else if o.kind = 3 then X.pins o else if o.kind = 2 then X.puts o else
 if o.kind = 4 then (true,{ X with S:=(X.S.unpin (o.n % X.S.P.pages)).2 }) else
 if o.kind = 5 then X.outs (o.n % X.S.P.pages) (X.S.evict (o.n % X.S.P.pages)) else
 if o.kind = 6 then X.outs (o.n % X.S.P.pages) (X.S.flush (o.n % X.S.P.pages)) else
 if o.kind = 8 then (true,{ X with S:=X.S.begE (1 + o.a % 1000) }) else
 if o.kind = 9 then (true,{ X with S:=(X.S.force (o.a % (X.S.L.recs.length + 1))).2 }) else (true,X)
/-! ### What Made makes -/
theorem pick_bd {n lo hi:Int} (h:lo ≤ hi):lo ≤ pickI n lo hi ∧ pickI n lo hi ≤ hi:=by
 unfold pickI
 have h1:=Int.emod_nonneg n (show hi - lo + 1 ≠ 0 by omega)
 have h2:=Int.emod_lt_of_pos n (show 0 < hi - lo + 1 by omega)
 omega
theorem firstF_zero {α:Type} {f:α → Int}:∀ {l:List α},(∀ x ∈ l,f x = 0) → firstF f l = 0
 | [],_=>rfl
 | x :: l,h=>by
  unfold firstF
  rw [if_neg (fun k=>k (h x List.mem_cons_self))]
  exact firstF_zero fun y hy=>h y (List.mem_cons_of_mem _ hy)
theorem madeC_ok (c:CntV):cntF (madeC c) = 0:=by
 unfold cntF madeC
 have h1:=pick_bd (n:=c.id) (show (1:Int) ≤ 1048576 by decide)
 have h2:=pick_bd (n:=c.grp) (show (1:Int) ≤ 1048576 by decide)
 dsimp only
 rw [if_neg (fun k=>k ⟨h1,h2⟩),if_neg]
 by_cases c':c.lo > c.hi
 ·rw [if_pos c',if_pos c'];omega
 ·rw [if_neg c',if_neg c'];omega
theorem madeG_ok (g:GrpV):grpF (madeG g) = 0:=by
 unfold grpF madeG
 exact if_neg (fun k=>k (pick_bd (by decide)))
theorem cont_zero {C:List CntV} {G:List GrpV} (h:∀ c ∈ C,cntF c = 0) (k:∀ g ∈ G,grpF g = 0):contF C G = 0:=by
 unfold contF
 rw [firstF_zero h,if_neg (fun k=>k rfl),firstF_zero k]
theorem madeP_C (p:PgM):(madeP p).C = (p.C.take 31).map madeC:=rfl
theorem madeP_G (p:PgM):(madeP p).G = if (madeP p).C.length = 0 then (p.G.take 84).map madeG else []:=rfl
theorem madeC_in {c:CntV} (h:CntIn c):CntIn (madeC c):=by
 obtain ⟨h1,h2,h3,h4,h5⟩:=h
 have k1:=pick_bd (n:=c.id) (show (1:Int) ≤ 1048576 by decide)
 have k2:=pick_bd (n:=c.grp) (show (1:Int) ≤ 1048576 by decide)
 unfold madeC
 refine ⟨by unfold In64;dsimp only;omega,by unfold In64;dsimp only;omega,?_,?_,h5⟩
 ·dsimp only;split
  ·exact h4
  ·exact h3
 ·dsimp only;split
  ·exact h3
  ·exact h4
theorem madeG_in {g:GrpV} (h:GrpIn g):GrpIn (madeG g):=by
 have k1:=pick_bd (n:=g.id) (show (1:Int) ≤ 1048576 by decide)
 unfold madeG
 exact ⟨by unfold In64;dsimp only;omega,h.2⟩
theorem madeP_len (p:PgM):(madeP p).C.length ≤ 31 ∧ (madeP p).G.length ≤ 84 ∧ ((madeP p).C.length = 0 ∨ (madeP p).G.length = 0):=by
 have h1:(madeP p).C.length ≤ 31:=by rw [madeP_C,List.length_map,List.length_take];omega
 rw [madeP_G]
 refine ⟨h1,?_,?_⟩
 ·split
  ·rw [List.length_map,List.length_take];omega
  ·exact Nat.zero_le _
 ·split
  ·rename_i c;exact .inl c
  ·exact .inr rfl
theorem putP_G (o:OpM) (n:Int) (l:PgM):(putP o n l).G = if (madeP o.pg).C.length + (madeP o.pg).G.length = 0 then [⟨1,o.a⟩] else (madeP o.pg).G:=rfl
theorem putP_bd (o:OpM) (n:Int) (l:PgM):(putP o n l).C.length ≤ 31 ∧ (putP o n l).G.length ≤ 84 ∧ ((putP o n l).C.length = 0 ∨ (putP o n l).G.length = 0) ∧ (putP o n l).C.length + (putP o n l).G.length ≠ 0 ∧ l.lsn < (putP o n l).lsn ∧ (putP o n l).lsn ≤ l.lsn + 3:=by
 obtain ⟨h1,h2,h3⟩:=madeP_len o.pg
 have e1:(putP o n l).C = (madeP o.pg).C:=rfl
 have e2:(putP o n l).lsn = l.lsn + 1 + o.a % 3:=rfl
 rw [putP_G,e1,e2]
 refine ⟨h1,?_,?_,?_,by omega,by omega⟩
 ·split
  ·simp
  ·exact h2
 ·split
  ·left;omega
  ·exact h3
 ·split
  ·simp
  ·omega
theorem putP_fault (o:OpM) {n:Int} {l:PgM} (hn:0 ≤ n ∧ n ≤ 63) (hl:0 ≤ l.lsn ∧ l.lsn ≤ 10000):(putP o n l).fault = 0:=by
 obtain ⟨h1,h2,h3,h4,h5,h6⟩:=putP_bd o n l
 have e0:(putP o n l).num = n:=rfl
 have hc:contF (putP o n l).C (putP o n l).G = 0:=by
  refine cont_zero (fun c hc=>?_) fun g hg=>?_
  ·obtain ⟨x,_,rfl⟩:=List.mem_map.1 (show c ∈ (o.pg.C.take 31).map madeC from hc)
   exact madeC_ok x
  ·rw [putP_G] at hg
   split at hg
   ·cases List.mem_singleton.1 hg;rfl
   ·rw [madeP_G] at hg
    split at hg
    ·obtain ⟨x,_,rfl⟩:=List.mem_map.1 hg
     exact madeG_ok x
    ·cases hg
 unfold PgM.fault
 rw [if_neg (fun k=>k (by rw [e0];exact hn)),if_neg (by omega),if_neg (by omega),if_neg (by omega)]
 exact hc
theorem putP_in {o:OpM} {n:Int} {l:PgM} (hi:o.pg.In) (ha:In64 o.a) (hn:0 ≤ n ∧ n ≤ 63) (hl:0 ≤ l.lsn ∧ l.lsn ≤ 10000):(putP o n l).In:=by
 have e2:(putP o n l).lsn = l.lsn + 1 + o.a % 3:=rfl
 refine ⟨by show In64 n;unfold In64;omega,by rw [e2];unfold In64;omega,fun c hc=>?_,fun g hg=>?_⟩
 ·obtain ⟨x,hx,rfl⟩:=List.mem_map.1 (show c ∈ (o.pg.C.take 31).map madeC from hc)
  exact madeC_in (hi.C x (List.mem_of_mem_take hx))
 ·rw [putP_G] at hg
  split at hg
  ·cases List.mem_singleton.1 hg
   exact ⟨show In64 (1:Int) by unfold In64;decide,ha⟩
  ·rw [madeP_G] at hg
   split at hg
   ·obtain ⟨x,hx,rfl⟩:=List.mem_map.1 hg
    exact madeG_in (hi.G x (List.mem_of_mem_take hx))
   ·cases hg
/-! ### Bounds -/
structure Bd (p k c:Int) (S:Sto):Prop where
 pages:S.P.pages = p
 clock:0 ≤ S.P.clock ∧ S.P.clock ≤ c
 pins:∀ n f,S.P.held.lookup n = some f → 0 ≤ f.pins ∧ f.pins ≤ k
theorem Bd.up {p k c k' c':Int} {S:Sto} (h:Bd p k c S) (hk:k ≤ k') (hc:c ≤ c'):Bd p k' c' S :=
 ⟨h.pages,⟨h.clock.1,by have:=h.clock;omega⟩,fun n f hf=>by have:=h.pins n f hf;omega⟩
theorem Bd.lg {p k c:Int} {S:Sto} (h:Bd p k c S) (L:LogM) (D:Dev):Bd p k c ⟨S.P,L,D⟩:=⟨h.pages,h.clock,h.pins⟩
theorem Bd.ends {p k c:Int} {S:Sto} (h:Bd p k c S):Bd p k c S.ends:=⟨h.pages,h.clock,fun n f hf=>by cases hf⟩
theorem Bd.seen {p k c:Int} {S:Sto} (h:Bd p k c S) (e:Int):Bd p k c (S.seen e):=by unfold Sto.seen;split;exact h.ends;exact h
theorem Bd.fr {p k c:Int} {S:Sto} (h:Bd p k c S) {n:Int} {f:FrM} (hf:0 ≤ f.pins ∧ f.pins ≤ k):Bd p k c { S with P:=S.P.put n f } :=
 ⟨h.pages,h.clock,fun m g hg=>by
  have hg':(updKV n f S.P.held).lookup m = some g:=hg
  rw [updKV_lookup] at hg'
  split at hg'
  ·cases hg';exact hf
  ·exact h.pins m g hg'⟩
theorem Bd.us {p k c:Int} {S:Sto} (h:Bd p k c S) {n:Int} {f:FrM} (hf:0 ≤ f.pins ∧ f.pins ≤ k):Bd p k (c + 1) { S with P:=S.P.use n f } :=
 ⟨h.pages,by have:=h.clock;show 0 ≤ S.P.clock + 1 ∧ S.P.clock + 1 ≤ c + 1;omega,fun m g hg=>by
  have hg':(updKV n { f with used:=S.P.clock + 1 } S.P.held).lookup m = some g:=hg
  rw [updKV_lookup] at hg'
  split at hg'
  ·cases hg';exact hf
  ·exact h.pins m g hg'⟩
theorem Bd.del {p k c:Int} {S:Sto} (h:Bd p k c S) (n:Int):Bd p k c { S with P:=S.P.del n } :=
 ⟨h.pages,h.clock,fun m g hg=>by
  have hg':(delKV n S.P.held).lookup m = some g:=hg
  rw [delKV_lookup] at hg'
  split at hg'
  ·cases hg'
  ·exact h.pins m g hg'⟩
theorem Bd.write {p k c:Int} {S:Sto} (h:Bd p k c S) {n:Int} {f:FrM} (hf:0 ≤ f.pins ∧ f.pins ≤ k):Bd p k c (S.write n f).2:=by
 unfold Sto.write
 split
 ·exact h
 dsimp only
 split
 ·exact (h.lg _ _).seen _
 split
 ·exact (h.lg _ _).seen _
 ·exact (h.fr (n:=n) (f:={ f with dirty:=false,since:=0 }) hf).lg _ _
theorem Bd.leave {p k c:Int} {S:Sto} (h:Bd p k c S) {n:Int} {f:FrM} (hf:0 ≤ f.pins ∧ f.pins ≤ k):Bd p k c (S.leave n f).2:=by
 unfold Sto.leave
 split
 ·exact h.write hf
 ·exact (h.write hf).del n
theorem Bd.load {p k c:Int} {S:Sto} (h:Bd p k c S) (hk:0 ≤ k) (n:Int):Bd p k (c + 1) (S.load n).2:=by
 have h':=h.up (Int.le_refl k) (show c ≤ c + 1 by omega)
 unfold Sto.load
 split
 ·exact h'.ends
 dsimp only
 split
 ·exact h'
 ·exact h.us (f:=⟨_,0,false,0,0⟩) ⟨Int.le_refl _,hk⟩
theorem Bd.get {p k c:Int} {S:Sto} (h:Bd p k c S) (hk:0 ≤ k) (nd:(S.P.held.map (·.1)).Nodup) (n:Int):Bd p k (c + 1) (S.get n).2:=by
 have h':=h.up (Int.le_refl k) (show c ≤ c + 1 by omega)
 unfold Sto.get
 split
 ·exact h'
 cases hl:S.P.held.lookup n with
 | some f=>exact h.us (h.pins n f hl)
 | none =>
  dsimp only
  split
  ·cases ho:oldest S.P.held with
   | none=>exact h'
   | some o =>
    dsimp only
    have hp:=h.pins o.1 o.2 (lookup_of_mem o.1 o.2 _ nd (oldest_mem ho))
    split
    ·exact (h.leave hp).up (Int.le_refl _) (by omega)
    ·exact (h.leave hp).load hk n
  ·exact h.load hk n
theorem Bd.sput {p k c:Int} {S:Sto} (h:Bd p k c S) (x:PgM):Bd p k (c + 1) (S.put x).2:=by
 have h':=h.up (Int.le_refl k) (show c ≤ c + 1 by omega)
 unfold Sto.put
 split
 ·exact h'
 split
 ·exact h'
 cases hl:S.P.held.lookup x.num with
 | none=>exact h'
 | some f =>
  dsimp only
  split
  ·exact h'
  ·exact h.us (f:={ f with pg:=x,dirty:=true,since:=_ }) (h.pins _ f hl)
theorem Bd.pin {p k c:Int} {S:Sto} (h:Bd p k c S) (hk:0 ≤ k) (nd:(S.P.held.map (·.1)).Nodup) (n:Int):Bd p (k + 1) (c + 1) (S.pin n).2:=by
 have hg:=h.get hk nd n
 have hg':=hg.up (show k ≤ k + 1 by omega) (Int.le_refl (c + 1))
 unfold Sto.pin
 dsimp only
 split
 ·exact hg'
 cases hl:(S.get n).2.P.held.lookup n with
 | none=>exact hg'
 | some f =>
  have:=hg.pins n f hl
  exact hg'.fr (f:={ f with pins:=f.pins + 1 }) (by dsimp only;omega)
theorem Bd.unpin {p k c:Int} {S:Sto} (h:Bd p k c S) (n:Int):Bd p k c (S.unpin n).2:=by
 unfold Sto.unpin
 split
 ·exact h
 cases hl:S.P.held.lookup n with
 | none=>exact h
 | some f =>
  dsimp only
  split
  ·exact h
  ·have:=h.pins n f hl
   exact h.fr (f:={ f with pins:=f.pins - 1 }) (by dsimp only;omega)
theorem Bd.evict {p k c:Int} {S:Sto} (h:Bd p k c S) (n:Int):Bd p k c (S.evict n).2:=by
 unfold Sto.evict
 split
 ·exact h
 cases hl:S.P.held.lookup n with
 | none=>exact h
 | some f =>
  dsimp only
  split
  ·exact h
  ·exact h.leave (h.pins n f hl)
theorem Bd.flush {p k c:Int} {S:Sto} (h:Bd p k c S) (n:Int):Bd p k c (S.flush n).2:=by
 unfold Sto.flush
 split
 ·exact h
 cases hl:S.P.held.lookup n with
 | none=>exact h
 | some f=>exact h.write (h.pins n f hl)
theorem Bd.begE {p k c:Int} {S:Sto} (h:Bd p k c S) (t:Int):Bd p k c (S.begE t):=by
 unfold Sto.begE
 split
 ·exact h
 unfold Sto.beg
 split
 ·exact h
 ·exact ⟨h.pages,h.clock,h.pins⟩
theorem Bd.force {p k c:Int} {S:Sto} (h:Bd p k c S) (n:Int):Bd p k c (S.force n).2:=h.lg _ _
end Go.SL.Pool
/- A pool whose disk runs: exact states; the run of the law's first line; plain words. Conditions: in each statement. -/
namespace Go.SL.Pool
open Go Go.SL Go.SL.Sec Go.SL.Fld Go.SL.Rec Go.SL.Twn Go.SL.Pg Go.SL.Mst
theorem Keeps.place {S:Sto} {last:Int → PgM} (K:Keeps S last) {n:Int} (hn:0 ≤ n ∧ n < S.P.pages):S.P.place n = 0:=by
 unfold PoolM.place;rw [if_neg (by rw [K.run];decide),if_neg (by omega)]
theorem Keeps.load_eq {S:Sto} {last:Int → PgM} (K:Keeps S last) {n:Int} (hn:0 ≤ n ∧ n < S.P.pages) (h:S.P.held.lookup n = none):S.load n = (0,{ S with P:=S.P.use n ⟨last n,0,false,0,0⟩ }):=by
 obtain ⟨g1,g2,g3,g4⟩:=K.good n hn
 have hd:decP (S.D.at (5 + 2 * n) ++ S.D.at (5 + 2 * n + 1)) n = (0,last n):=by
  have e:=K.home n hn h
  unfold pageOf at e
  rw [e]
  have:=dec_enc g2 g3
  rw [g1] at this
  exact this
 unfold Sto.load
 rw [if_neg (by rw [K.calm.down];decide)]
 dsimp only
 rw [hd,if_neg (fun k=>k rfl)]
theorem Keeps.get_load {S:Sto} {last:Int → PgM} (K:Keeps S last) {n:Int} (hn:0 ≤ n ∧ n < S.P.pages) (h:S.P.held.lookup n = none) (hl:(S.P.held.length:Int) < S.P.frames):S.get n = (0,{ S with P:=S.P.use n ⟨last n,0,false,0,0⟩ }):=by
 unfold Sto.get
 rw [K.place hn,if_neg (fun k=>k rfl),h]
 dsimp only
 rw [if_neg (by omega)]
 exact K.load_eq hn h
theorem Keeps.leave_L {S:Sto} {last:Int → PgM} (K:Keeps S last) {n:Int} {f:FrM} (h:S.P.held.lookup n = some f):(f.dirty = true → f.pg.lsn ≤ (S.leave n f).2.L.forced):=by
 intro hd
 obtain ⟨hn,hp,_⟩:=K.key n f h
 obtain ⟨g1,g2,g3,g4⟩:=K.good n hn
 have g5:=(PgM.fault_ok g2).2.2.2.1
 have h1:=(K.write h).1
 have e:(S.leave n f).2.L = (S.write n f).2.L:=by unfold Sto.leave;rw [if_neg (fun k=>k h1)]
 rw [e]
 obtain ⟨a1,a2,a3,a4,a5,a6,a7,a8,F,a9⟩:=force_calm K.calm K.dok K.err (by rw [K.first];have:=K.pages;omega) (by rw [K.first,K.secs];omega) K.forced K.recs K.bys (lsn:=f.pg.lsn) ⟨by rw [hp];omega,by rw [hp];exact g4⟩
 unfold Sto.write at h1 ⊢
 rw [hd,if_neg (by decide)] at h1 ⊢
 dsimp only at h1 ⊢
 rw [if_neg (fun k=>k a1)] at h1 ⊢
 split at h1
 ·rename_i k;exact absurd h1 k
 ·rename_i k
  rw [if_neg k]
  exact a8
theorem Keeps.get_swap {S:Sto} {last:Int → PgM} (K:Keeps S last) {n:Int} (hn:0 ≤ n ∧ n < S.P.pages) (h:S.P.held.lookup n = none) (hl:(S.P.held.length:Int) ≥ S.P.frames) {o:Int × FrM} (ho:oldest S.P.held = some o) :
  ∃ L D,S.get n = (0,⟨(S.P.del o.1).use n ⟨last n,0,false,0,0⟩,L,D⟩) ∧ L.recs = S.L.recs ∧ (o.2.dirty = true → o.2.pg.lsn ≤ L.forced):=by
 have hm:=lookup_of_mem o.1 o.2 _ K.nd (oldest_mem ho)
 obtain ⟨h1,K',h2,h3,h4⟩:=K.leave hm
 have hf:=K.leave_L hm
 have hno:(S.leave o.1 o.2).2.P.held.lookup n = none:=by
  rw [h2]
  show (delKV o.1 S.P.held).lookup n = none
  rw [delKV_lookup]
  split
  ·rfl
  ·exact h
 refine ⟨(S.leave o.1 o.2).2.L,(S.leave o.1 o.2).2.D,?_,h3,hf⟩
 unfold Sto.get
 rw [K.place hn,if_neg (fun k=>k rfl),h]
 dsimp only
 rw [if_pos hl,ho]
 dsimp only
 rw [if_neg (fun k=>k h1),K'.load_eq (by rw [h2];exact hn) hno,h2]
/-! ### The law's first line -/
def xA:PgM:=⟨0,1,[],[⟨5,-3⟩]⟩
def lastA (m:Int):PgM:=if m = 0 then xA else last0 m
def pA1:PoolM:=⟨3,4,2,[(0,⟨last0 0,0,false,0,1⟩)],1,false⟩
def pA2:PoolM:=⟨3,4,2,[(0,⟨xA,0,true,1,2⟩)],2,false⟩
def pA3:PoolM:=⟨3,4,2,[(0,⟨xA,0,true,1,2⟩),(1,⟨last0 1,0,false,0,3⟩)],3,false⟩
def pA4:PoolM:=⟨3,4,2,[(1,⟨last0 1,0,false,0,3⟩),(2,⟨last0 2,0,false,0,4⟩)],4,false⟩
def pA5:PoolM:=⟨3,4,2,[(2,⟨last0 2,0,false,0,4⟩),(0,⟨xA,0,false,0,5⟩)],5,false⟩
theorem awake_run:∃ S1 S2 S3 S4 S5 S6:Sto,(sto0 3 4 2).beg 1 = (0,S1) ∧ S1.P = ⟨3,4,2,[],0,false⟩ ∧ S1.get 0 = (0,S2) ∧ S2.P = pA1 ∧ S2.put xA = (0,S3) ∧ S3.P = pA2 ∧ S3.get 1 = (0,S4) ∧ S4.P = pA3 ∧ S4.get 2 = (0,S5) ∧ S5.P = pA4 ∧ S5.L.forced = 1 ∧ S5.get 0 = (0,S6) ∧ S6.P = pA5 ∧ S6.unpin 0 = (101,S6):=by
 have hm:MayP 3 4 2:=by unfold MayP;decide
 have K0:=keeps0 hm
 obtain ⟨S1,hS1⟩:∃ S1,S1 = (sto0 3 4 2).app ⟨begN 0 1,[],[]⟩ (encR (begN 0 1) [] []):=⟨_,rfl⟩
 have K1:Keeps S1 last0:=by rw [hS1];exact K0.app (by show (0:Int) + 1 ≤ 4;decide) (begN_enc 0 (by decide))
 have hP1:S1.P = ⟨3,4,2,[],0,false⟩:=by rw [hS1];rfl
 have hR1:S1.L.recs.length = 1:=by rw [hS1];rfl
 have e0:(sto0 3 4 2).beg 1 = (0,S1):=by
  unfold Sto.beg
  rw [if_neg (by show ¬ (4:Int) - 0 = 0;decide),hS1]
  rfl
 have e1:=K1.get_load (n:=0) (by rw [hP1];decide) (by rw [hP1];rfl) (by rw [hP1];decide)
 have k1:=(K1.get (n:=0) (by rw [hP1];decide)).2.1
 rw [e1] at k1
 obtain ⟨S2,hS2⟩:∃ S2,S2 = ({ S1 with P:=S1.P.use 0 ⟨last0 0,0,false,0,0⟩ }:Sto):=⟨_,rfl⟩
 rw [← hS2] at e1 k1
 have hP2:S2.P = pA1:=by rw [hS2];dsimp only;rw [hP1];rfl
 have hR2:S2.L.recs.length = 1:=by rw [hS2];exact hR1
 have K2:Keeps S2 last0:=k1
 have hp:=K2.puts (x:=xA) (f:=⟨last0 0,0,false,0,1⟩) (by rw [hP2];decide) (by rw [hP2];rfl) (by decide) ⟨by unfold In64;decide,by unfold In64;decide,fun c hc=>(by cases hc),fun c hc=>by cases List.mem_singleton.1 hc;unfold GrpIn In64;decide⟩ (by decide)
 rw [if_neg (by rw [hR2];decide)] at hp
 have ep:S2.put xA = (0,{ S2 with P:=pA2 }):=by
  unfold Sto.put
  rw [K2.place (n:=xA.num) (by rw [hP2];decide),if_neg (fun k=>k rfl),if_neg (by decide),hP2]
  show (if xA.lsn ≤ (0:Int) ∨ xA.lsn > (S2.L.recs.length:Int) then _ else _) = _
  rw [hR2,if_neg (by decide)]
  rfl
 rw [ep] at hp
 obtain ⟨S3,hS3⟩:∃ S3,S3 = ({ S2 with P:=pA2 }:Sto):=⟨_,rfl⟩
 rw [← hS3] at hp ep
 have hP3:S3.P = pA2:=by rw [hS3]
 have K3:Keeps S3 lastA:=hp.2.1
 have hR3:S3.L.recs.length = 1:=by rw [hS3];exact hR2
 have e3:=K3.get_load (n:=1) (by rw [hP3];decide) (by rw [hP3];rfl) (by rw [hP3];decide)
 have k3:=(K3.get (n:=1) (by rw [hP3];decide)).2.1
 rw [e3] at k3
 obtain ⟨S4,hS4⟩:∃ S4,S4 = ({ S3 with P:=S3.P.use 1 ⟨lastA 1,0,false,0,0⟩ }:Sto):=⟨_,rfl⟩
 rw [← hS4] at e3 k3
 have hP4:S4.P = pA3:=by rw [hS4];dsimp only;rw [hP3];rfl
 have hR4:S4.L.recs.length = 1:=by rw [hS4];exact hR3
 have K4:Keeps S4 lastA:=k3
 obtain ⟨L5,D5,e4,r5,f5⟩:=K4.get_swap (n:=2) (by rw [hP4];decide) (by rw [hP4];rfl) (by rw [hP4];decide) (o:=(0,⟨xA,0,true,1,2⟩)) (by rw [hP4];rfl)
 have k4:=(K4.get (n:=2) (by rw [hP4];decide)).2.1
 rw [e4] at k4
 have hP5:(S4.P.del 0).use 2 ⟨lastA 2,0,false,0,0⟩ = pA4:=by rw [hP4];rfl
 have hf5:=f5 rfl
 have hf5':(1:Int) ≤ L5.forced:=hf5
 have K5:Keeps ⟨(S4.P.del 0).use 2 ⟨lastA 2,0,false,0,0⟩,L5,D5⟩ lastA:=k4
 have hfo:=K5.forced
 dsimp only at hfo
 rw [r5,hR4] at hfo
 obtain ⟨S5,hS5⟩:∃ S5,S5 = (⟨(S4.P.del 0).use 2 ⟨lastA 2,0,false,0,0⟩,L5,D5⟩:Sto):=⟨_,rfl⟩
 have e4':S4.get 2 = (0,S5):=by rw [hS5];exact e4
 rw [← hS5] at K5
 have hP5':S5.P = pA4:=by rw [hS5];exact hP5
 have hF:S5.L.forced = 1:=by rw [hS5];dsimp only;omega
 obtain ⟨L6,D6,e5,r6,_⟩:=K5.get_swap (n:=0) (by rw [hP5'];decide) (by rw [hP5'];rfl) (by rw [hP5'];decide) (o:=(1,⟨last0 1,0,false,0,3⟩)) (by rw [hP5'];rfl)
 have k5:=(K5.get (n:=0) (by rw [hP5'];decide)).2.1
 rw [e5] at k5
 obtain ⟨S6,hS6⟩:∃ S6,S6 = (⟨(S5.P.del 1).use 0 ⟨lastA 0,0,false,0,0⟩,L6,D6⟩:Sto):=⟨_,rfl⟩
 have e5':S5.get 0 = (0,S6):=by rw [hS6];exact e5
 have hP6:S6.P = pA5:=by rw [hS6];dsimp only;rw [hP5'];rfl
 refine ⟨S1,S2,S3,S4,S5,S6,e0,hP1,e1,hP2,ep,hP3,e3,hP4,e4',hP5',hF,e5',hP6,?_⟩
 unfold Sto.unpin
 rw [hP6]
 rfl
end Go.SL.Pool
/- The law's store over a disk that runs: every call is answered as it must be; plain words. Conditions: in each statement. -/
namespace Go.SL.Pool
open Go Go.SL Go.SL.Sec Go.SL.Fld Go.SL.Rec Go.SL.Twn Go.SL.Pg Go.SL.Mst
theorem Keeps.congr {S:Sto} {last last':Int → PgM} (K:Keeps S last) (h:∀ m,0 ≤ m ∧ m < S.P.pages → last m = last' m):Keeps S last' :=
 ⟨K.run,K.pages,K.calm,K.dok,K.secs,K.first,K.err,K.forced,K.recs,K.bys,K.nd,fun n f hf=>by
  obtain ⟨k1,k2,k3⟩:=K.key n f hf
  exact ⟨k1,k2.trans (h n k1),fun hd=>by rw [← h n k1];exact k3 hd⟩,fun n hn hno=>by rw [← h n hn];exact K.home n hn hno,fun n hn=>by rw [← h n hn];exact K.good n hn⟩
structure HadOk (p:Int) (had:List (List PgM)):Prop where
 len:(had.length:Int) = p
 row:∀ (i:Nat) l,had[i]? = some l → l ≠ [] ∧ ∀ q ∈ l,0 ≤ q.lsn ∧ q.lsn ≤ 10000
theorem HadOk.get {p:Int} {had:List (List PgM)} (h:HadOk p had) {n:Int} (hn:0 ≤ n ∧ n < p):∃ l,had[n.toNat]? = some l ∧ ∃ (i:Nat) (q:PgM),l.length = i + 1 ∧ l[i]? = some q ∧ lastP had n = q ∧ q ∈ l ∧ 0 ≤ q.lsn ∧ q.lsn ≤ 10000:=by
 have hlt:n.toNat < had.length:=by have:=h.len;omega
 refine ⟨had[n.toNat],List.getElem?_eq_getElem hlt,?_⟩
 obtain ⟨h1,h2⟩:=h.row n.toNat _ (List.getElem?_eq_getElem hlt)
 obtain ⟨l,hl⟩:∃ l,l = had[n.toNat]:=⟨_,rfl⟩
 rw [← hl] at h1 h2 ⊢
 have hm:=List.getLast_mem h1
 have hlen:0 < l.length:=List.length_pos_iff.2 h1
 refine ⟨l.length - 1,l.getLast h1,by omega,?_,?_,hm,h2 _ hm⟩
 ·rw [List.getLast_eq_getElem]
  exact List.getElem?_eq_getElem (by omega)
 ·unfold lastP
  rw [List.getElem?_eq_getElem hlt,← hl]
  dsimp only
  rw [List.getLastD_eq_getLast?,List.getLast?_eq_some_getLast h1]
  rfl
theorem HadOk.set {p:Int} {had:List (List PgM)} (h:HadOk p had) {n:Int} {q:PgM} (hq:0 ≤ q.lsn ∧ q.lsn ≤ 10000):HadOk p (had.set n.toNat ((had[n.toNat]?).getD [] ++ [q])):=by
 refine ⟨by rw [List.length_set];exact h.len,fun i l hl=>?_⟩
 rw [List.getElem?_set] at hl
 split at hl
 ·rename_i e
  split at hl
  ·rename_i hlt
   cases hl
   refine ⟨by simp,fun x hx=>?_⟩
   rcases List.mem_append.1 hx with k|k
   ·rw [List.getElem?_eq_getElem hlt] at k
    exact (h.row _ _ (List.getElem?_eq_getElem hlt)).2 x k
   ·cases List.mem_singleton.1 k;exact hq
  ·cases hl
 ·exact h.row i l hl
theorem lastP_set {p:Int} {had:List (List PgM)} (h:HadOk p had) {n m:Int} (hn:0 ≤ n ∧ n < p) (hm:0 ≤ m ∧ m < p) (q:PgM) :
  lastP (had.set n.toNat ((had[n.toNat]?).getD [] ++ [q])) m = if m = n then q else lastP had m:=by
 have hlt:n.toNat < had.length:=by have:=h.len;omega
 unfold lastP
 rw [List.getElem?_set]
 by_cases e:m = n
 ·subst e
  rw [if_pos rfl,if_pos hlt,if_pos rfl]
  dsimp only
  rw [List.getLastD_eq_getLast?,List.getLast?_append]
  rfl
 ·rw [if_neg (by omega),if_neg e]
structure KeepsO (X:StM):Prop where
 keeps:Keeps X.S (lastP X.had)
 had:HadOk X.S.P.pages X.had
 cnt:X.S.L.count ≤ 4096
theorem mod_bd {a p:Int} (h:0 < p):0 ≤ a % p ∧ a % p < p:=⟨Int.emod_nonneg a (by omega),Int.emod_lt_of_pos a h⟩
theorem KeepsO.gets {X:StM} (K:KeepsO X) (o:OpM):(X.gets o).1 = true ∧ KeepsO (X.gets o).2:=by
 have hp:=K.keeps.pages
 have hn:=mod_bd (a:=o.n) (show 0 < X.S.P.pages by omega)
 obtain ⟨h1,h2,h3,h4,h5⟩:=K.keeps.get hn
 unfold StM.gets
 dsimp only
 rcases h1 with h1|⟨h1,f,hf⟩
 ·rw [if_pos (by omega)]
  exact ⟨by dsimp only;rw [h1];simp,⟨h2,by dsimp only;rw [h5];exact K.had,by dsimp only;rw [h4];exact K.cnt⟩⟩
 ·rw [if_neg (by omega)]
  refine ⟨?_,⟨h2,by dsimp only;rw [h5];exact K.had,by dsimp only;rw [h4];exact K.cnt⟩⟩
  dsimp only
  rw [hf,decide_eq_true_eq]
  exact congrArg some (h2.key _ f hf).2.1
theorem KeepsO.puts {X:StM} (K:KeepsO X) {o:OpM} (hi:o.pg.In) (ha:In64 o.a):(X.puts o).1 = true ∧ KeepsO (X.puts o).2:=by
 have hp:=K.keeps.pages
 have hn:=mod_bd (a:=o.n) (show 0 < X.S.P.pages by omega)
 obtain ⟨h1,h2,h3,h4,h5⟩:=K.keeps.get hn
 unfold StM.puts
 dsimp only
 rcases h1 with h1|⟨h1,f,hf⟩
 ·rw [if_pos (by omega)]
  exact ⟨by dsimp only;rw [h1];simp,⟨h2,by dsimp only;rw [h5];exact K.had,by dsimp only;rw [h4];exact K.cnt⟩⟩
 ·rw [if_neg (by omega)]
  obtain ⟨l,_,i,q,_,_,hlast,_,hq1,hq2⟩:=K.had.get hn
  obtain ⟨b1,b2,b3,b4,b5,b6⟩:=putP_bd o (o.n % X.S.P.pages) (lastP X.had (o.n % X.S.P.pages))
  have hl0:0 ≤ (lastP X.had (o.n % X.S.P.pages)).lsn ∧ (lastP X.had (o.n % X.S.P.pages)).lsn ≤ 10000:=by rw [hlast];exact ⟨hq1,hq2⟩
  have hpu:=h2.puts (x:=putP o (o.n % X.S.P.pages) (lastP X.had (o.n % X.S.P.pages))) (f:=f) (by rw [h5];exact hn) hf (putP_fault o (by omega) hl0) (putP_in hi ha (by omega) hl0) b5
  by_cases c:(putP o (o.n % X.S.P.pages) (lastP X.had (o.n % X.S.P.pages))).lsn > (X.S.get (o.n % X.S.P.pages)).2.L.recs.length
  ·rw [if_pos c] at hpu
   rw [hpu,if_pos c]
   exact ⟨by simp,⟨h2,by dsimp only;rw [h5];exact K.had,by dsimp only;rw [h4];exact K.cnt⟩⟩
  ·rw [if_neg c] at hpu
   obtain ⟨p1,p2,p3,p4⟩:=hpu
   rw [if_neg (by rw [p3];exact c),if_neg (fun k=>k p1)]
   have hlsn:(putP o (o.n % X.S.P.pages) (lastP X.had (o.n % X.S.P.pages))).lsn ≤ 10000:=by
    have r1:=K.keeps.recs
    have r2:=K.cnt
    rw [h3] at c
    omega
   refine ⟨rfl,⟨p2.congr fun m hm=>?_,?_,?_⟩⟩
   ·rw [p4,h5] at hm
    exact (lastP_set K.had hn hm _).symm
   ·dsimp only
    rw [p4,h5]
    exact K.had.set ⟨by omega,hlsn⟩
   ·dsimp only
    rw [p3,h4];exact K.cnt
theorem KeepsO.pins {X:StM} (K:KeepsO X) (o:OpM):(X.pins o).1 = true ∧ KeepsO (X.pins o).2:=by
 have hp:=K.keeps.pages
 have hn:=mod_bd (a:=o.n) (show 0 < X.S.P.pages by omega)
 obtain ⟨h1,h2,h3,h4,h5⟩:=K.keeps.get hn
 unfold StM.pins Sto.pin
 dsimp only
 rcases h1 with h1|⟨h1,f,hf⟩
 ·rw [if_pos (by omega)]
  exact ⟨by rw [h1];simp,⟨h2,by dsimp only;rw [h5];exact K.had,by dsimp only;rw [h4];exact K.cnt⟩⟩
 ·rw [if_neg (by omega),hf]
  obtain ⟨k1,k2,k3⟩:=h2.key _ f hf
  exact ⟨rfl,⟨h2.put k1 k2 k3,by show HadOk (X.S.get (o.n % X.S.P.pages)).2.P.pages X.had;rw [h5];exact K.had,by show (X.S.get (o.n % X.S.P.pages)).2.L.count ≤ 4096;rw [h4];exact K.cnt⟩⟩
theorem Keeps.unpin {S:Sto} {last:Int → PgM} (K:Keeps S last) (n:Int):Keeps (S.unpin n).2 last ∧ (S.unpin n).2.L = S.L ∧ (S.unpin n).2.P.pages = S.P.pages:=by
 unfold Sto.unpin
 split
 ·exact ⟨K,rfl,rfl⟩
 cases hl:S.P.held.lookup n with
 | none=>exact ⟨K,rfl,rfl⟩
 | some f =>
  dsimp only
  split
  ·exact ⟨K,rfl,rfl⟩
  ·obtain ⟨k1,k2,k3⟩:=K.key _ f hl
   exact ⟨K.put (f:={ f with pins:=f.pins - 1 }) k1 k2 k3,rfl,rfl⟩
theorem Keeps.evict {S:Sto} {last:Int → PgM} (K:Keeps S last) {n:Int} (hn:0 ≤ n ∧ n < S.P.pages):((S.evict n).1 = 0 ∨ (S.evict n).1 = 100 ∨ (S.evict n).1 = 101) ∧ Keeps (S.evict n).2 last ∧ (S.evict n).2.L.count = S.L.count ∧ (S.evict n).2.P.pages = S.P.pages ∧ ((S.evict n).1 ≠ 100 → (S.evict n).2.P = S.P.del n):=by
 unfold Sto.evict
 rw [K.place hn,if_neg (fun k=>k rfl)]
 cases hl:S.P.held.lookup n with
 | none =>
  refine ⟨.inr (.inr rfl),K,rfl,rfl,fun _=>?_⟩
  show S.P = S.P.del n
  unfold PoolM.del
  rw [filter_ne n S.P.held ((lookup_none n _).1 hl)]
 | some f =>
  dsimp only
  split
  ·exact ⟨.inr (.inl rfl),K,rfl,rfl,fun h=>absurd rfl h⟩
  ·obtain ⟨h1,h2,h3,h4,h5⟩:=K.leave hl
   exact ⟨.inl h1,h2,h5,by rw [h3];rfl,fun _=>h3⟩
theorem Keeps.flush {S:Sto} {last:Int → PgM} (K:Keeps S last) {n:Int} (hn:0 ≤ n ∧ n < S.P.pages):((S.flush n).1 = 0 ∨ (S.flush n).1 = 101) ∧ Keeps (S.flush n).2 last ∧ (S.flush n).2.L.count = S.L.count ∧ (S.flush n).2.P.pages = S.P.pages:=by
 unfold Sto.flush
 rw [K.place hn,if_neg (fun k=>k rfl)]
 cases hl:S.P.held.lookup n with
 | none=>exact ⟨.inr rfl,K,rfl,rfl⟩
 | some f =>
  obtain ⟨h1,h2,h3,h4,h5,h6⟩:=K.write hl
  refine ⟨.inl h1,h2,h5,?_⟩
  show (S.write n f).2.P.pages = _
  rw [h3];split <;> rfl
theorem KeepsO.play {X:StM} (K:KeepsO X) {o:OpM} (hi:o.pg.In) (ha:In64 o.a):(X.play o).1 = true ∧ KeepsO (X.play o).2:=by
 have hp:=K.keeps.pages
 have hn:=mod_bd (a:=o.n) (show 0 < X.S.P.pages by omega)
 unfold StM.play
 split
 ·exact K.gets o
 split
 ·exact K.pins o
 split
 ·exact K.puts hi ha
 split
 ·obtain ⟨h1,h2,h3⟩:=K.keeps.unpin (o.n % X.S.P.pages)
  exact ⟨rfl,⟨h1,by dsimp only;rw [h3];exact K.had,by dsimp only;rw [h2];exact K.cnt⟩⟩
 split
 ·obtain ⟨h1,h2,h3,h4,_⟩:=K.keeps.evict hn
  unfold StM.outs
  refine ⟨?_,⟨h2,by dsimp only;rw [h4];exact K.had,by dsimp only;rw [h3];exact K.cnt⟩⟩
  rcases h1 with h1|h1|h1 <;> rw [h1] <;> simp
 split
 ·obtain ⟨h1,h2,h3,h4⟩:=K.keeps.flush hn
  unfold StM.outs
  refine ⟨?_,⟨h2,by dsimp only;rw [h4];exact K.had,by dsimp only;rw [h3];exact K.cnt⟩⟩
  rcases h1 with h1|h1 <;> rw [h1] <;> simp
 split
 ·unfold Sto.begE Sto.beg
  rw [show X.S.L.err.isSome = false by rw [K.keeps.err];rfl,if_neg (by decide)]
  split
  ·exact ⟨rfl,K⟩
  ·have:=K.keeps.recs
   have ht:=mod_bd (a:=o.a) (show (0:Int) < 1000 by decide)
   exact ⟨rfl,⟨K.keeps.app (by omega) (begN_enc _ (by omega)),K.had,K.cnt⟩⟩
 split
 ·have hm:=mod_bd (a:=o.a) (show (0:Int) < X.S.L.recs.length + 1 by omega)
  obtain ⟨h1,h2,h3,h4,h5⟩:=K.keeps.force (n:=o.a % (X.S.L.recs.length + 1)) (by omega)
  exact ⟨rfl,⟨h2,K.had,by dsimp only;rw [h4];exact K.cnt⟩⟩
 ·exact ⟨rfl,K⟩
def stm0 (p lg f:Int):StM:=⟨sto0 p lg f,(List.range p.toNat).map fun i=>[last0 (i:Nat)],List.replicate p.toNat 0⟩
theorem had0 {p:Int} (h:0 ≤ p):HadOk p ((List.range p.toNat).map fun i=>[last0 (i:Nat)]):=by
 refine ⟨by rw [List.length_map,List.length_range];omega,fun i l hl=>?_⟩
 rw [List.getElem?_map] at hl
 obtain ⟨k,_,rfl⟩:=Option.map_eq_some_iff.1 hl
 exact ⟨by simp,fun q hq=>by cases List.mem_singleton.1 hq;exact ⟨Int.le_refl _,by show (0:Int) ≤ 10000;decide⟩⟩
theorem lastP0 {p m:Int} (hm:0 ≤ m ∧ m < p):lastP ((List.range p.toNat).map fun i=>[last0 (i:Nat)]) m = last0 m:=by
 unfold lastP
 rw [List.getElem?_map,List.getElem?_range (by omega)]
 show last0 ((m.toNat:Nat):Int) = last0 m
 rw [show ((m.toNat:Nat):Int) = m by omega]
end Go.SL.Pool
