/- What the law's calls among the arguments hold. No condition. -/
import Derived.Test.YtgcknlpkhhpkjaaGreatDoorPart31
import Derived.Test.YtgcknlpkhhpkjaaGreatDoorPart33
import Derived.LaidMore
import Derived.Test.YtgcknlpkhhpkjaaGreatDoorPart29
import Derived.Test.YtgcknlpkhhpkjaaGreatDoorPart30
import Derived.Test.YtgcknlpkhhpkjaaGreatDoorRows
import Derived.ProofKit
import Derived.LaidSub
import Derived.OpenShut
import Derived.Stop.Joined
import Derived.Test.YtgcknlpkhhpkjaaGreatDoorTie
import Derived.Test.YtgcknlpkhhpkjaaGreatDoorCards
import Derived.SevenTiedAt
namespace Go.Proofs.YtgcknlpkhhpkjaaGreatDoor
open Go Go.SL Go.SL.Sec Go.SL.Fld Go.SL.Pts Go.SL.Rec Go.SL.Twn Go.SL.Pg Go.SL.Mst Go.SL.Pool Go.ChangeShapes Go.WideShapes Go.ChangeAt Go.RowKit
section
variable {HT : Type} {enc : TypeId × Value → HT} {W : World}
theorem d_int : prog.cellsOf t_int = 1 := by kernel_rfl
theorem d_int64 : prog.cellsOf t_int64 = 1 := by kernel_rfl
theorem d_bool : prog.cellsOf t_bool = 1 := by kernel_rfl
theorem d_S_api_Counter : prog.cellsOf t_S_api_Counter = 1 := by kernel_rfl
theorem d_S_api_Group : prog.cellsOf t_S_api_Group = 1 := by kernel_rfl
theorem d_S_uint64 : prog.cellsOf t_S_uint64 = 1 := by kernel_rfl
theorem d_api_Range : prog.cellsOf t_api_Range = 2 := by kernel_rfl
theorem d_api_Counter : prog.cellsOf t_z1a = 5 := by kernel_rfl
theorem d_api_Group : prog.cellsOf t_zt = 2 := by kernel_rfl
theorem d_api_Loss : prog.cellsOf t_api_Loss = 3 := by kernel_rfl
theorem d_page : prog.cellsOf t_z19 = 4 := by kernel_rfl
theorem d_op : prog.cellsOf t_z3w = 11 := by kernel_rfl
theorem d_uint64 : prog.cellsOf 172 = 1 := by kernel_rfl
theorem int_dec {t : TypeId} (ht : prog.underlying t = some (.int .i64)) {cs : List Value} {d : DataW HT} (h : DecR enc prog W t cs d) : ∃ z, cs = [.int .i64 z] ∧ In64 z := by
 obtain ⟨z, h1, h2⟩ := DecR.int ht h
 exact ⟨z, h1, wf_i64 h2⟩
theorem range_dec {cs : List Value} {d : DataW HT} (h : DecR enc prog W t_api_Range cs d) : ∃ a b, cs = [.int .i64 a, .int .i64 b] ∧ In64 a ∧ In64 b := by
 obtain ⟨hl, hf⟩ := DecR.struct u_api_Range h
 rw [d_api_Range] at hl
 obtain ⟨a0, a1, rfl⟩ := len2 hl
 obtain ⟨y0, h0, _⟩ := hf 0 _ rfl
 obtain ⟨y1, h1, _⟩ := hf 1 _ rfl
 obtain ⟨z0, e0, w0⟩ := int_dec u_int64 h0
 obtain ⟨z1, e1, w1⟩ := int_dec u_int64 h1
 simp [d_int64] at e0 e1
 exact ⟨z0, z1, by rw [e0, e1], w0, w1⟩
theorem counter_dec : ∀ cs d, DecR enc prog W t_z1a cs d → Fits prog t_z1a d → ∃ x : CntV, CntIn x ∧ cs = cntv x := by
 intro cs d h _
 obtain ⟨hl, hf⟩ := DecR.struct u_api_Counter h
 rw [d_api_Counter] at hl
 obtain ⟨a0, a1, a2, a3, a4, rfl⟩ := len5 hl
 obtain ⟨y0, h0, _⟩ := hf 0 _ rfl
 obtain ⟨y1, h1, _⟩ := hf 1 _ rfl
 obtain ⟨y2, h2, _⟩ := hf 2 _ rfl
 obtain ⟨y3, h3, _⟩ := hf 3 _ rfl
 obtain ⟨z0, e0, w0⟩ := int_dec u_int h0
 obtain ⟨z1, e1, w1⟩ := int_dec u_int h1
 obtain ⟨z2, z3, e2, w2, w3⟩ := range_dec h2
 obtain ⟨z4, e3, w4⟩ := int_dec u_int64 h3
 simp [d_int, d_int64, d_api_Range] at e0 e1 e2 e3
 exact ⟨⟨z0, z1, z2, z3, z4⟩, ⟨w0, w1, w2, w3, w4⟩, by simp [cntv, e0, e1, e2.1, e2.2, e3]⟩
theorem group_dec : ∀ cs d, DecR enc prog W t_zt cs d → Fits prog t_zt d → ∃ x : GrpV, GrpIn x ∧ cs = grpv x := by
 intro cs d h _
 obtain ⟨hl, hf⟩ := DecR.struct u_api_Group h
 rw [d_api_Group] at hl
 obtain ⟨a0, a1, rfl⟩ := len2 hl
 obtain ⟨y0, h0, _⟩ := hf 0 _ rfl
 obtain ⟨y1, h1, _⟩ := hf 1 _ rfl
 obtain ⟨z0, e0, w0⟩ := int_dec u_int h0
 obtain ⟨z1, e1, w1⟩ := int_dec u_int64 h1
 simp [d_int, d_int64] at e0 e1
 exact ⟨⟨z0, z1⟩, ⟨w0, w1⟩, by simp [grpv, e0, e1]⟩
def InU (z : Int) : Prop := 0 ≤ z ∧ z ≤ 18446744073709551615
theorem word_dec : ∀ cs d, DecR enc prog W 172 cs d → Fits prog 172 d → ∃ z : Int, InU z ∧ cs = u64s z := by
 intro cs d h _
 obtain ⟨z, h1, h2⟩ := DecR.int (show prog.underlying 172 = some (.int .u64) from u_uint64) h
 refine ⟨z, ?_, h1⟩
 unfold InU
 simpa [Lit.wf, IntKind.min, IntKind.max, IntKind.signed, IntKind.bits] using h2
structure LossV where
 ka : Option Addr
 kc : Nat
 K : List Int
 torn : Int
 off : Int
abbrev lossl (l : LossV) : List Value := [.slice l.ka l.K.length l.kc, .int .i64 l.torn, .int .i64 l.off]
structure OkLoss (W : World) (l : LossV) : Prop where
 row : OldVec W 1 u64s l.ka l.K.length l.kc l.K
 words : ∀ z ∈ l.K, InU z
 torn : In64 l.torn
 off : In64 l.off
theorem loss_dec {cs : List Value} {d : DataW HT} (h : DecR enc prog W t_api_Loss cs d) (hf0 : Fits prog t_api_Loss d) : ∃ l : LossV, OkLoss W l ∧ cs = lossl l := by
 obtain ⟨hl, hf⟩ := DecR.struct u_api_Loss h
 rw [d_api_Loss] at hl
 obtain ⟨a0, a1, a2, rfl⟩ := len3 hl
 obtain ⟨y0, h0, f0⟩ := hf 0 _ rfl
 obtain ⟨y1, h1, _⟩ := hf 1 _ rfl
 obtain ⟨y2, h2, _⟩ := hf 2 _ rfl
 obtain ⟨a, n, c, xs, e0, o0, w0, _⟩ := DecR.slice u_S_uint64 word_dec (fun _ => d_uint64.symm) (by rw [d_uint64]; decide) h0 (f0 hf0)
 obtain ⟨z1, e1, w1⟩ := int_dec u_int h1
 obtain ⟨z2, e2, w2⟩ := int_dec u_int h2
 have hn := o0.hlen
 subst hn
 rw [d_uint64] at o0
 simp [d_int, d_S_uint64] at e0 e1 e2
 exact ⟨⟨a, c, xs, z1, z2⟩, ⟨o0, w0, w1, w2⟩, by simp [lossl, e0, e1, e2]⟩
structure OkOp (W : World) (o : OpV) : Prop where
 rc : OldVec W 5 cntv o.ca o.m.pg.C.length o.cc o.m.pg.C
 rg : OldVec W 2 grpv o.ga o.m.pg.G.length o.gc o.m.pg.G
 pin : o.m.pg.In
 a : In64 o.m.a
theorem op_dec : ∀ cs d, DecR enc prog W t_z3w cs d → Fits prog t_z3w d → ∃ o : OpV, OkOp W o ∧ cs = opl o := by
 intro cs d h hF
 obtain ⟨hl, hf⟩ := DecR.struct u_quotalaw09_Op h
 rw [d_op] at hl
 obtain ⟨y0, h0, _⟩ := hf 0 _ rfl
 obtain ⟨y1, h1, _⟩ := hf 1 _ rfl
 obtain ⟨y2, h2, _⟩ := hf 2 _ rfl
 obtain ⟨y3, h3, f3⟩ := hf 3 _ rfl
 obtain ⟨y4, h4, _⟩ := hf 4 _ rfl
 obtain ⟨y5, h5, f5⟩ := hf 5 _ rfl
 obtain ⟨z0, e0, _⟩ := int_dec u_int h0
 obtain ⟨z1, e1, _⟩ := int_dec u_int h1
 obtain ⟨z2, e2, w2⟩ := int_dec u_int h2
 obtain ⟨z4, e4⟩ := DecR.bool u_bool h4
 obtain ⟨l, _, e5⟩ := loss_dec h5 (f5 hF)
 obtain ⟨_, hg⟩ := DecR.struct u_quotaref07_Page h3
 obtain ⟨x0, g0, _⟩ := hg 0 _ rfl
 obtain ⟨x1, g1, _⟩ := hg 1 _ rfl
 obtain ⟨x2, g2, k2⟩ := hg 2 _ rfl
 obtain ⟨x3, g3, k3⟩ := hg 3 _ rfl
 obtain ⟨p0, q0, v0⟩ := int_dec u_int g0
 obtain ⟨p1, q1, v1⟩ := int_dec u_int g1
 obtain ⟨ca, nC, cc, C, q2, o2, v2, _⟩ := DecR.slice u_S_api_Counter counter_dec (fun _ => d_api_Counter.symm) (by show 0 < prog.cellsOf t_z1a; rw [d_api_Counter]; decide) g2 (k2 (f3 hF))
 obtain ⟨ga, nG, gc, G, q3, o3, v3, _⟩ := DecR.slice u_S_api_Group group_dec (fun _ => d_api_Group.symm) (by show 0 < prog.cellsOf t_zt; rw [d_api_Group]; decide) g3 (k3 (f3 hF))
 have hn2 := o2.hlen
 have hn3 := o3.hlen
 subst hn2 hn3
 have o2' : OldVec W 5 cntv ca C.length cc C := by rw [← d_api_Counter]; exact o2
 have o3' : OldVec W 2 grpv ga G.length gc G := by rw [← d_api_Group]; exact o3
 clear h0 h1 h2 h3 h4 h5 g0 g1 g2 g3 hf hg h f3 f5 k2 k3
 obtain ⟨a0, a1, a2, a3, a4, a5, a6, a7, a8, a9, a10, rfl⟩ := len11 hl
 simp [d_int, d_bool, d_S_api_Counter, d_S_api_Group, d_api_Loss, d_page] at e0 e1 e2 e4 e5 q0 q1 q2 q3
 exact ⟨⟨⟨z0, z1, z2, ⟨p0, p1, C, G⟩⟩, ca, cc, ga, gc, z4, l.ka, l.K.length, l.kc, l.torn, l.off⟩, ⟨o2', o3', ⟨v0, v1, v2, v3⟩, w2⟩, by simp [opl, e0, e1, e2, e4, e5, q0, q1, q2, q3]⟩
end
end Go.Proofs.YtgcknlpkhhpkjaaGreatDoor
/- A call played keeps the bounds; plain words. Conditions: in each statement. -/
namespace Go.SL.Pool
open Go Go.SL Go.SL.Sec Go.SL.Fld Go.SL.Rec Go.SL.Twn Go.SL.Pg Go.SL.Mst
theorem play_bd {X : StM} {p k c : Int} (h : Bd p k c X.S) (hk : 0 ≤ k) (ok : X.S.Ok) (o : OpM) : Bd p (k + 1) (c + 2) (X.play o).2.S := by
 have h0 := h.up (show k ≤ k + 1 by omega) (show c ≤ c + 2 by omega)
 unfold StM.play
 split
 ·have h1 := (h.get hk ok.nd (o.n % X.S.P.pages)).up (show k ≤ k + 1 by omega) (show c + 1 ≤ c + 2 by omega)
  unfold StM.gets
  dsimp only
  split
  ·exact h1
  ·exact h1
 split
 ·exact (h.pin hk ok.nd _).up (Int.le_refl _) (by omega)
 split
 ·have h1 := h.get hk ok.nd (o.n % X.S.P.pages)
  have h1' := h1.up (show k ≤ k + 1 by omega) (show c + 1 ≤ c + 2 by omega)
  have h2 := (h1.sput (putP o (o.n % X.S.P.pages) (lastP X.had (o.n % X.S.P.pages)))).up (show k ≤ k + 1 by omega) (show c + 1 + 1 ≤ c + 2 by omega)
  unfold StM.puts
  dsimp only
  split
  ·exact h1'
  ·split
   ·exact h2
   ·split
    ·exact h2
    ·exact h2
 split
 ·exact (h.unpin _).up (by omega) (by omega)
 split
 ·exact (h.evict _).up (by omega) (by omega)
 split
 ·exact (h.flush _).up (by omega) (by omega)
 split
 ·exact (h.begE _).up (by omega) (by omega)
 split
 ·exact (h.force _).up (by omega) (by omega)
 ·exact h0
theorem play_rl {X : StM} {k : Nat} (h : ∀ l ∈ X.had, l.length ≤ k) (o : OpM) : ∀ l ∈ (X.play o).2.had, l.length ≤ k + 1 := by
 have h0 : ∀ l ∈ X.had, l.length ≤ k + 1 := fun l hl => Nat.le_succ_of_le (h l hl)
 unfold StM.play
 split
 ·unfold StM.gets
  dsimp only
  split
  ·exact h0
  ·exact h0
 split
 ·exact h0
 split
 ·unfold StM.puts
  dsimp only
  split
  ·exact h0
  ·split
   ·exact h0
   ·split
    ·exact h0
    ·intro l hl
     rcases List.mem_or_eq_of_mem_set hl with hl | rfl
     ·exact h0 l hl
     ·rw [List.length_append, List.length_singleton]
      cases hg : X.had[(o.n % X.S.P.pages).toNat]? with
      | none => simp
      | some m =>
       have := h m (List.mem_of_getElem? hg)
       show m.length + 1 ≤ k + 1
       omega
 split
 ·exact h0
 split
 ·exact h0
 split
 ·exact h0
 split
 ·exact h0
 split
 ·exact h0
 ·exact h0
end Go.SL.Pool
/- The law's store at its end: unpinned, evicted; plain words. Conditions: in each statement. -/
namespace Go.SL.Pool
open Go Go.SL Go.SL.Sec Go.SL.Fld Go.SL.Rec Go.SL.Twn Go.SL.Pg Go.SL.Mst
def pinsOf (S : Sto) (n : Int) : Nat := match S.P.held.lookup n with
 | some f => f.pins.toNat
 | none => 0
theorem unpin_cases {S : Sto} {n p k c : Int} (hp : S.P.place n = 0) (hb : Bd p k c S) :
  ((S.unpin n).1 = 101 ∧ (S.unpin n).2 = S ∧ pinsOf S n = 0) ∨ ((S.unpin n).1 = 0 ∧ pinsOf (S.unpin n).2 n < pinsOf S n ∧ ∀ m, m ≠ n → (S.unpin n).2.P.held.lookup m = S.P.held.lookup m) := by
 unfold Sto.unpin
 rw [if_neg (fun h => h hp)]
 cases hl : S.P.held.lookup n with
 | none => exact .inl ⟨rfl, rfl, by unfold pinsOf; rw [hl]⟩
 | some f =>
  dsimp only
  have hf := hb.pins n f hl
  by_cases c0 : f.pins = 0
  ·rw [if_pos c0]
   exact .inl ⟨rfl, rfl, by unfold pinsOf; rw [hl]; dsimp only; omega⟩
  ·rw [if_neg c0]
   refine .inr ⟨rfl, ?_, fun m hm => ?_⟩
   ·have e1 : ({ S with P := S.P.put n { f with pins := f.pins - 1 } } : Sto).P.held.lookup n = some { f with pins := f.pins - 1 } := (updKV_lookup n _ n S.P.held).trans (if_pos rfl)
    unfold pinsOf
    rw [e1, hl]
    dsimp only
    omega
   ·exact (updKV_lookup n _ m S.P.held).trans (if_neg hm)
theorem evict_end {S : Sto} {last : Int → PgM} {n p k c : Int} (K : Keeps S last) (hb : Bd p k c S) (hn : 0 ≤ n ∧ n < S.P.pages) (h0 : pinsOf S n = 0) : ((S.evict n).1 = 0 ∨ (S.evict n).1 = 101) ∧ Keeps (S.evict n).2 last ∧ (S.evict n).2.P = S.P.del n := by
 obtain ⟨h1, h2, _, _, h5⟩ := K.evict hn
 have h100 : (S.evict n).1 ≠ 100 := by
  unfold Sto.evict
  rw [K.place hn, if_neg (fun k => k rfl)]
  cases hl : S.P.held.lookup n with
  | none => dsimp only; decide
  | some f =>
   have hf := hb.pins n f hl
   unfold pinsOf at h0
   rw [hl] at h0
   dsimp only at h0 ⊢
   rw [if_neg (by omega)]
   have := (K.leave hl).1
   rw [this]
   decide
 refine ⟨?_, h2, h5 h100⟩
 rcases h1 with h1 | h1 | h1
 ·exact .inl h1
 ·exact absurd h1 h100
 ·exact .inr h1
theorem Keeps.read {S : Sto} {last : Int → PgM} {n : Int} (K : Keeps S last) (hn : 0 ≤ n ∧ n < S.P.pages) (h : S.P.held.lookup n = none) : decP (S.D.at (5 + 2 * n) ++ S.D.at (5 + 2 * n + 1)) n = (0, last n) := by
 obtain ⟨g1, g2, g3, g4⟩ := K.good n hn
 have e := K.home n hn h
 unfold pageOf at e
 rw [e]
 have := dec_enc g2 g3
 rw [g1] at this
 exact this
theorem held_nil {S : Sto} {last : Int → PgM} (K : Keeps S last) (h : ∀ m, 0 ≤ m ∧ m < S.P.pages → S.P.held.lookup m = none) : S.P.held = [] := by
 cases hl : S.P.held with
 | nil => rfl
 | cons x l =>
  have hx := lookup_of_mem x.1 x.2 _ K.nd (by rw [hl]; exact List.mem_cons_self)
  rw [h x.1 (K.key _ _ hx).1] at hx
  cases hx
end Go.SL.Pool
/- PoolKeeps, walked: it answers true. Conditions: in each statement. -/
namespace Go.Proofs.YtgcknlpkhhpkjaaGreatDoor
open Go Go.SL Go.SL.Sec Go.SL.Fld Go.SL.Pts Go.SL.Rec Go.SL.Twn Go.SL.Pg Go.SL.Mst Go.SL.Pool
instance : SizedC 11 opl := ⟨fun _ => rfl⟩
section
variable {W : World} {R : HProp} {b : Nat} {X : StX} {S : StoX} {o : OpV}
-- @noauto
theorem plays_spec [le : LaidE W] [lc : LaidC W] [lp : LaidP W] [oc : OldC W R] (ho : OkOp W o) (hX : X.Ok S) (hb : SmallX X S) :
  Does prog W f_z0 ⟨[ptr b, .agg ⟨opl o⟩]⟩ (storec b X • stoo X.q S • R) (Ret (PlayQ b X ((stmOf X S).play o.m) R)) := by
 by_cases k1 : o.m.kind = 1
 ·exact plays_get hX hb k1
 by_cases k2 : o.m.kind = 2
 ·have hpg := hX.pages
  have hc1 := ho.rc.hcap
  have hc2 := ho.rg.hcap
  unfold maxLen at hc1 hc2
  have e : (stmOf X S).play o.m = (stmOf X S).puts o.m := by
   unfold StM.play
   rw [if_neg (by omega), if_neg (by omega), if_pos k2]
  rw [e]
  refine f_z0.does _ _ ?_
  conv => whnf
  repeat' (first
   | (refine spl_dec (fun hd => ?_) (fun hd => ?_) <;> first | (exfalso; omega) | (conv => whnf))
   | ((first | refine Ld.i ?_ | refine LdN.i ?_); conv => whnf)
   | (intro blk hblk; conv => whnf)
   | (refine DrawK.introH tab_ok mixed 10 f_z0.last1 f_z0.plan1 _ rfl (by kernel_rfl) (Sub.of (by first | exact .refl _ | exact .drop | exact .fin | ((repeat refine .pick ?_); first | exact .refl _ | exact .emp _ | exact .fin))) ?_; conv => whnf)
   | (refine CallK.ret f_zk.ok (qbrought_spec (by first | rfl | assumption | omega | decide | (simp; done) | (simp; omega) | (simp at *; omega))) ?_; rintro v G ⟨rfl, rfl⟩; conv => whnf))
  refine CallK.imp (H' := storec b X • stoo X.q S • R) (by first | exact .refl _ | exact .drop | exact .fin | ((repeat refine .pick ?_); first | exact .refl _ | exact .emp _ | exact .fin)) ?_
  refine CallK.ret f_z1.ok (puts_spec ho.rc.r ho.rg.r (by omega) (by omega) ho.pin ho.a hX hb) ?_
  rintro v G ⟨X', S', h1, h2, h3, rfl, rfl⟩
  conv => whnf
  skip
  exact ⟨_, _, rfl, Imp.refl _, X', S', h1, h2, h3, rfl, rfl⟩
 by_cases k3 : o.m.kind = 3
 ·exact plays_pin hX hb k3
 by_cases k4 : o.m.kind = 4
 ·exact plays_unpin hX hb k4
 by_cases k5 : o.m.kind = 5
 ·exact plays_evict hX hb k5
 by_cases k6 : o.m.kind = 6
 ·exact plays_flush hX hb k6
 by_cases k8 : o.m.kind = 8
 ·exact plays_app hX hb k8
 by_cases k9 : o.m.kind = 9
 ·exact plays_force hX hb k9
 exact plays_else hX ⟨k1, k2, k3, k4, k5, k6, k8, k9⟩
theorem StoX.bytes (hS : S.Ok) (hdn : S.D.down = false) {z : Int} (hz : 0 ≤ z ∧ z + 2 ≤ S.val.D.secs) : Byt (S.val.D.at z ++ S.val.D.at (z + 1)) ∧ (S.val.D.at z ++ S.val.D.at (z + 1)).length = 1024 := by
 have hz' : 0 ≤ z ∧ z + 2 ≤ S.D.val.secs := hz
 refine ⟨(Dev.at_byt hS.D.val).append (Dev.at_byt hS.D.val), ?_⟩
 have l1 := (Dev.read_len (i := z) hS.D.val (by rw [read_of hdn (by omega)])).1
 have l2 := (Dev.read_len (i := z + 1) hS.D.val (by rw [read_of hdn (by omega)])).1
 rw [read_of hdn (by omega)] at l1 l2
 rw [List.length_append]
 have e : S.val.D = S.D.val := rfl
 rw [e]
 dsimp only at l1 l2
 omega
-- @noauto
theorem sread_spec {p d : Nat} {z : Int} (hd : S.P.d = d) (hS : S.Ok) (hdn : S.D.down = false) (hz : 0 ≤ z ∧ z + 2 ≤ S.val.D.secs) :
  Does prog W f_z12 ⟨[ptr d, .int .i64 z]⟩ (stoo p S • R) (Ret fun v G => ∃ a c, (S.val.D.at z ++ S.val.D.at (z + 1)).length ≤ c ∧ v = .tuple ⟨[.slice a 1024 c, .nilIface]⟩ ∧ G = (vec t_uint8 1 bytv a c (S.val.D.at z ++ S.val.D.at (z + 1)) • stoo p S • R)) := by
 subst hd
 refine Does.vlen (V := fun a c => .tuple ⟨[.slice a 1024 c, .nilIface]⟩) ?_
 rw [stoo_eq]
 have hz' : 0 ≤ z ∧ z + 2 ≤ S.D.val.secs := hz
 have hs : S.D.val.secs ≤ 8192 := by
  have := hS.D.len
  unfold Dev.secs DevX.val
  dsimp only
  omega
 refine (twread_yes (X := S.D) (d := S.P.d) (z := z) hS.D (by rw [hS.ps]; omega) hdn ⟨by omega, by omega, by omega⟩).post fun en w H' hs hQ => ?_
 obtain ⟨v, G, h1, h2, a, c, h3, rfl⟩ := hQ
 refine ⟨H', hs, v, _, h1, h2, a, c, h3, ?_⟩
 rw [star_left_comm (devo _ _) (poolo _ _), star_left_comm (devo _ _) (logo _ _)]
 rfl
structure KeepI (X0 X : StX) (S : StoX) (i : Nat) : Prop where
 ok : X.Ok S
 same : X0.Same X
 keeps : KeepsO (stmOf X S)
 bd : Bd S.P.pages i (2 * i) S.val
 rl : ∀ l ∈ X.had, l.length ≤ i + 1
theorem KeepI.small {X0 : StX} {i : Nat} (h : KeepI X0 X S i) (hi : i ≤ 1000) : SmallX X S := ⟨h.bd.up (by omega) (by omega), fun l hl => by have := h.rl l hl; omega⟩
theorem KeepI.next {X0 X' : StX} {S' : StoX} {i : Nat} (h : KeepI X0 X S i) (ho : OkOp W o) (h1 : X'.Ok S') (h2 : X.Same X') (h3 : stmOf X' S' = ((stmOf X S).play o.m).2) : KeepI X0 X' S' (i + 1) := by
 have k := h.keeps.play ho.pin ho.a
 have hb := play_bd (X := stmOf X S) (p := S.P.pages) (k := i) (c := 2 * i) h.bd (by omega) h.ok.sto.val o.m
 have hr := play_rl (X := stmOf X S) (k := i + 1) h.rl o.m
 rw [← h3] at k hb hr
 have hp : S'.P.pages = S.P.pages := hb.pages
 refine ⟨h1, h.same.trans h2, k.2, ?_, hr⟩
 rw [hp]
 have hb' : Bd S.P.pages (i + 1) (2 * i + 2) S'.val := hb
 exact hb'.up (by omega) (by omega)
end
end Go.Proofs.YtgcknlpkhhpkjaaGreatDoor
/- PoolKeeps, walked: it answers true. Conditions: in each statement. -/
namespace Go.Proofs.YtgcknlpkhhpkjaaGreatDoor
open Go Go.SL Go.SL.Sec Go.SL.Fld Go.SL.Pts Go.SL.Rec Go.SL.Twn Go.SL.Pg Go.SL.Mst Go.SL.Pool
structure KeepE (X : StX) (S : StoX) (n : Nat) : Prop where
 ok : X.Ok S
 keeps : Keeps S.val (lastP X.had)
 bd : Bd S.P.pages 1000000 1000000 S.val
 gone : ∀ m, 0 ≤ m ∧ m < (n : Int) → S.val.P.held.lookup m = none
set_option maxHeartbeats 8000000 in
-- @noauto
theorem keeps_walk {W : World} {R : HProp} {rp rl rf : Int} {sa : Option Addr} {sc : Nat} {L : List OpV} [le : LaidE W] [lc : LaidC W] [lp : LaidP W] [oc : OldC W R] (ro : OldR W 11 opl sa L) (hL : L.length ≤ 9223372036854775807) (hok : ∀ o ∈ L, OkOp W o) :
  Does prog W f_z2k ⟨[.agg ⟨[.int .i64 rp, .int .i64 rl, .int .i64 rf]⟩, .slice sa L.length sc]⟩ R (Ret fun v G => v = .bool true ∧ G = R) := by
 haveI rS : ∀ (Q : HProp) [OldC W Q], RowC W Q sa 11 opl L := fun Q _ => RowC.oldC ro inferInstance
 refine f_z2k.does _ _ ?_
 conv => whnf
 repeat' (first
  | (refine LdN.i ?_; conv => whnf)
  | (intro blk hblk; conv => whnf))
 refine CallK.ret f_z2y.ok opened_spec ?_
 rintro v G ⟨b, X0, S0, hX0, hlg, hf, hst, rfl, rfl⟩
 have hS0 : S0.val = sto0 (2 + rp % 6) (4 + rl % 20) (2 + rf % 4) := congrArg StM.S hst
 have hH0 : X0.had = (stm0 (2 + rp % 6) (4 + rl % 20) (2 + rf % 4)).had := congrArg StM.had hst
 have hm0 : MayP (2 + rp % 6) (4 + rl % 20) (2 + rf % 4) := by unfold MayP; omega
 have hI0 : KeepI X0 X0 S0 0 := by
  refine ⟨hX0, .refl X0, by rw [hst]; exact keepsO0 hm0, ?_, fun l hl => ?_⟩
  ·rw [show S0.P.pages = S0.val.P.pages from rfl, hS0]
   exact bd0 _ _ _
  ·rw [hH0] at hl
   obtain ⟨k, _, rfl⟩ := List.mem_map.1 hl
   exact Nat.le_refl 1
 clear hst hS0 hH0 hm0
 conv => whnf
 repeat' (first
  | (refine CallK.ret f_z3l.ok awake_spec ?_; rintro v G ⟨rfl, rfl⟩; conv => whnf))
 refine LoopK.at tab_ok (L := f_z2k.live) (ι := Int × StX × StoX) (fun i => (0 ≤ i.1 ∧ i.1 ≤ L.length ∧ i.1 ≤ 150) ∧ KeepI X0 i.2.1 i.2.2 i.1.toNat) (fun i => [(6, .int .i64 i.1)])
  (fun i => storec b i.2.1 • stoo i.2.1.q i.2.2) (fun i => L.length - i.1.toNat) (0, X0, S0) ⟨⟨Int.le_refl 0, by show (0 : Int) ≤ L.length; omega, by show (0 : Int) ≤ 150; omega⟩, hI0⟩ (fun t v h => h) (Imp.assoc (Imp.refl _)) ?_
 rintro ⟨i, X, S⟩ ⟨⟨hi0, hi1, hi2⟩, hI⟩
 dsimp only at hi0 hi1 hi2 hI ⊢
 simp only [star_assoc]
 conv => whnf
 by_cases h3 : i < L.length ∧ i < 150
 ·have h31 := h3.1
  have h32 := h3.2
  obtain ⟨o, ho⟩ : ∃ o, L[i.toNat]? = some o := ⟨_, List.getElem?_eq_getElem (by omega)⟩
  have hoo := hok o (List.mem_of_getElem? ho)
  have hpl := hI.keeps.play hoo.pin hoo.a
  repeat' (first
   | (refine spl_t (by simp; omega) ?_; conv => whnf)
   | (refine IxS.r (xs := L) (i := i.toNat) (by omega) rfl (by omega) (fun ab off ha => ?_); cases ha; conv => whnf)
   | (refine LdN.r ho rfl ?_; conv => whnf))
  refine CallK.ret f_z0.ok (plays_spec (X := X) (S := S) hoo hI.ok (hI.small (by omega))) ?_
  rintro v G ⟨X', S', hX', hs', hst', rfl, rfl⟩
  rw [hpl.1]
  conv => whnf
  repeat' (first
   | (refine Ar.i64 (by omega) ?_; conv => whnf))
  exact ⟨rfl, (i + 1, X', S'), ⟨⟨by dsimp only; omega, by dsimp only; omega, by dsimp only; omega⟩, by dsimp only; rw [show (i + 1).toNat = i.toNat + 1 by omega]; exact hI.next hoo hX' hs' hst'⟩, fun t v h => h, (by first | exact .refl _ | exact .drop | exact .fin | ((repeat refine .pick ?_); first | exact .refl _ | exact .emp _ | exact .fin)), by dsimp only; omega⟩
 ·have hpX := hI.ok.pages
  have hE0 : KeepE X S 0 := ⟨hI.ok, hI.keeps.keeps, hI.bd.up (by omega) (by omega), fun m hm => by omega⟩
  have hmX : MayP X.p X.lg X.f := by
   have e1 := hI.same.lg
   have e2 := hI.same.f
   unfold MayP
   omega
  repeat' (first
   | (refine spl_f (by simp; omega) ?_; conv => whnf)
   | (refine spl_dec (fun hd => ?_) (fun hd => ?_) <;> first | (exfalso; omega) | (conv => whnf)))
  all_goals
   refine LoopK.at tab_ok (L := f_z2k.live) (ι := Nat × StoX) (fun j => (j.1 : Int) ≤ X.p ∧ KeepE X j.2 j.1) (fun j => [(8, .int .i64 j.1)]) (fun j => stoo X.q j.2) (fun j => X.p.toNat - j.1) (0, S) ⟨by show (0 : Int) ≤ X.p; omega, hE0⟩ (fun t v h => h)
    (show Imp _ (stoo X.q S • storec b X • R) from (by first | exact .refl _ | exact .drop | exact .fin | ((repeat refine .pick ?_); first | exact .refl _ | exact .emp _ | exact .fin))) ?_
   rintro ⟨n, S1⟩ ⟨hn1, hE⟩
   dsimp only at hn1 hE ⊢
   conv => whnf
   by_cases h4 : (n : Int) < X.p
   ·have hnX : 0 ≤ (n : Int) ∧ (n : Int) < X.p := by omega
    obtain ⟨r, i', x, hr, hi, hx, hlp, hx1, hx2⟩ := hI.ok.last hnX
    have hm := List.mem_of_getElem? hr
    have hxm := List.mem_of_getElem? hx
    have hrl := (hI.small (by omega)).row hm
    haveI c1 : ∀ Q : HProp, RowC W (storec b X • Q) x.ca 5 cntv x.m.C := fun Q => (rowPC hm hxm).1
    haveI c2 : ∀ Q : HProp, RowC W (storec b X • Q) x.ga 2 grpv x.m.G := fun Q => (rowPC hm hxm).2
    repeat' (first
     | (refine spl_dec (fun hd => ?_) (fun hd => ?_) <;> first | (exfalso; omega) | (conv => whnf))
     | (refine Ld.i ?_; conv => whnf))
    refine LoopK.intro tab_ok (L := f_z2k.live) (ι := StoX) (fun T => KeepE X T n) (fun _ => [(5, ptr b), (8, .int .i64 n)]) (fun T => stoo X.q T • storec b X • R) (fun T => pinsOf T.val n) S1 hE (Fr.inn_sub ⟨rfl, rfl, trivial⟩) (Imp.refl _) ?_
    rintro S2 hE2
    have hp2 : S2.val.P.pages = X.p := hE2.ok.p.symm
    have hn2 : 0 ≤ (n : Int) ∧ (n : Int) < S2.val.P.pages := by rw [hp2]; exact hnX
    have hpi : ∀ f, S2.P.held.lookup (n : Int) = some f → -1000000000 ≤ f.pins ∧ f.pins ≤ 1000000000 := fun f hf => by
     have := hE2.bd.pins n f.val (look_val hf)
     have e : f.val.pins = f.pins := rfl
     omega
    conv => whnf
    repeat' (first
     | (refine Ld.i ?_; conv => whnf))
    refine CallK.ret f_z2e.ok (sunpin_spec (S := S2) hE2.ok.sto hpi) ?_
    rintro v G ⟨S3, hS3, hs3, hv3, rfl, rfl⟩
    have hp3 : S3.val.P.pages = S2.val.P.pages := by rw [hv3]; exact (hE2.keeps.unpin n).2.2
    have hE3 : (∀ m, 0 ≤ m ∧ m < (n : Int) → S3.val.P.held.lookup m = none) → KeepE X S3 n := fun hg => by
     refine ⟨hE2.ok.next hS3 hs3 hp3, by rw [hv3]; exact (hE2.keeps.unpin n).1, ?_, hg⟩
     rw [show S3.P.pages = S2.P.pages from hp3, hv3]
     exact hE2.bd.unpin n
    rcases unpin_cases (n := n) (hE2.keeps.place hn2) hE2.bd with ⟨u1, u2, u3⟩ | ⟨u1, u2, u3⟩
    rotate_left
    ·rw [u1]
     conv => whnf
     repeat' (first
      | (refine CallK.ret f_z8.ok qnum_spec ?_; rintro v G ⟨rfl, rfl⟩; conv => whnf))
     exact ⟨rfl, S3, hE3 fun m hm => by rw [hv3, u3 m (by omega)]; exact hE2.gone m hm, Fr.inn_sub ⟨rfl, rfl, trivial⟩, (by first | exact .refl _ | exact .drop | exact .fin | ((repeat refine .pick ?_); first | exact .refl _ | exact .emp _ | exact .fin)), by rw [hv3]; exact u2⟩
    have hE3' : KeepE X S3 n := hE3 fun m hm => by rw [hv3, u2]; exact hE2.gone m hm
    have hv3' : S3.val = S2.val := by rw [hv3, u2]
    have hn3 : 0 ≤ (n : Int) ∧ (n : Int) < S3.val.P.pages := by rw [hp3]; exact hn2
    have hev := evict_end hE3'.keeps hE3'.bd hn3 (by rw [hv3']; exact u3)
    rw [u1]
    conv => whnf
    repeat' (first
     | (refine CallK.ret f_z8.ok qnum_spec ?_; rintro v G ⟨rfl, rfl⟩; conv => whnf)
     | (refine Ld.i ?_; conv => whnf))
    refine CallK.ret f_z2l.ok (sevict_spec (S := S3) hS3) ?_
    rintro v G ⟨S4, hS4, hs4, hv4, hEr⟩
    have hK4 : Keeps S4.val (lastP X.had) := by rw [hv4]; exact hev.2.1
    have hP4 : S4.val.P = S3.val.P.del n := by rw [hv4]; exact hev.2.2
    have hp4 : S4.val.P.pages = S3.val.P.pages := by rw [hP4]; rfl
    have hn4 : 0 ≤ (n : Int) ∧ (n : Int) < S4.val.P.pages := by rw [hp4]; exact hn3
    have hlk4 : ∀ m, S4.val.P.held.lookup m = if m = (n : Int) then none else S3.val.P.held.lookup m := fun m => by rw [hP4]; exact delKV_lookup _ m _
    have hno4 : S4.val.P.held.lookup (n : Int) = none := (hlk4 n).trans (if_pos rfl)
    have hE4 : KeepE X S4 (n + 1) := by
     refine ⟨hE3'.ok.next hS4 hs4 hp4, hK4, ?_, fun m hm => ?_⟩
     ·rw [show S4.P.pages = S3.P.pages from hp4, hv4]
      exact hE3'.bd.evict n
     ·rw [hlk4]
      by_cases e : m = (n : Int)
      ·rw [if_pos e]
      ·rw [if_neg e]; exact hE3'.gone m (by omega)
    have hdn4 : S4.D.down = false := hK4.calm.down
    have hz4 : 0 ≤ 5 + 2 * (n : Int) ∧ 5 + 2 * (n : Int) + 2 ≤ S4.val.D.secs := by have := hS4.val.page hn4; omega
    obtain ⟨hBy, hBl⟩ := StoX.bytes hS4 hdn4 hz4
    have hrd := hK4.read hn4 hno4
    rw [hlp] at hrd
    have hd4 : S4.P.d = X.d := hE4.ok.d
    have hlen := (PgM.fault_ok (hK4.good n hn4).2.1).2.2.1
    rw [hlp] at hlen
    rcases hEr with ⟨g0, rfl, rfl⟩ | ⟨g0, k, rfl, rfl⟩
    ·conv => whnf
     repeat' (first
      | (refine CallK.ret f_z1o.ok (home_yes hmX hnX) ?_; rintro v G ⟨rfl, rfl⟩; conv => whnf)
      | ((first | refine Ld.i ?_ | refine LdN.i ?_); conv => whnf))
     refine CallK.imp (H' := stoo X.q S4 • storec b X • R) (by first | exact .refl _ | exact .drop | exact .fin | ((repeat refine .pick ?_); first | exact .refl _ | exact .emp _ | exact .fin)) ?_
     refine CallK.ret f_z12.ok (sread_spec (S := S4) hd4 hS4 hdn4 hz4) ?_
     obtain ⟨B, hB⟩ : ∃ B, B = S4.val.D.at (5 + 2 * (n : Int)) ++ S4.val.D.at (5 + 2 * (n : Int) + 1) := ⟨_, rfl⟩
     rw [← hB] at hBy hBl hrd ⊢
     rintro v G ⟨ra, rcc, hrc, rfl, rfl⟩
     conv => whnf
     skip
     refine CallK.ret f_z9.ok (pdecode_spec (b := B) ⟨inferInstance, hBl.symm⟩ (by omega) (by omega) hBy) ?_
     rw [hrd]
     rintro v G ⟨y, hy, rfl, rfl⟩
     have hyx : y.m = x.m := hy
     rw [pgc_eq y]
     conv => whnf
     repeat' (first
      | (refine CallK.ret f_z8.ok qnum_spec ?_; rintro v G ⟨rfl, rfl⟩; conv => whnf)
      | (refine CallK.ret f_z2n.ok qback_spec ?_; rintro v G ⟨rfl, rfl⟩; conv => whnf)
      | (refine CallK.ret f_zu.ok (qlastO_spec (X := X) (by omega) hr hi hx (by omega)) ?_; rintro v G ⟨rfl, rfl⟩; conv => whnf)
      | ((first | refine LdN.i ?_ | refine St.i ⟨rfl, rfl⟩ (List.cons_ne_nil _ _) ?_); conv => whnf)
      | (intro blk hblk; conv => whnf))
     refine CallK.ret f_z2m.ok (same_spec (C := y.m.C) (G := y.m.G) (C' := x.m.C) (G' := x.m.G) (by infer_instance) (by infer_instance) (by infer_instance) (by infer_instance) (by rw [hyx]; omega) (by rw [hyx]; omega)) ?_
     rw [decide_eq_true (show (⟨y.m.num, y.m.lsn, y.m.C, y.m.G⟩ : PgM) = ⟨x.m.num, x.m.lsn, x.m.C, x.m.G⟩ from hyx)]
     rintro v G ⟨rfl, rfl⟩
     conv => whnf
     repeat' (first
      | (refine Ar.i64 (by omega) ?_; conv => whnf))
     exact ⟨rfl, (n + 1, S4), ⟨by dsimp only; omega, hE4⟩, Fr.inn_sub ⟨rfl, rfl, trivial⟩, (by first | exact .refl _ | exact .drop | exact .fin | ((repeat refine .pick ?_); first | exact .refl _ | exact .emp _ | exact .fin)), by dsimp only; omega⟩
    ·rw [hev.1.resolve_left g0]
     conv => whnf
     repeat' (first
      | (refine CallK.ret f_zn.ok (code_fault (e := 101)) ?_; rintro v G ⟨rfl, rfl⟩; conv => whnf)
      | (refine CallK.ret f_z8.ok qnum_spec ?_; rintro v G ⟨rfl, rfl⟩; conv => whnf)
      | (refine CallK.ret f_z1o.ok (home_yes hmX hnX) ?_; rintro v G ⟨rfl, rfl⟩; conv => whnf)
      | ((first | refine Ld.i ?_ | refine LdN.i ?_); conv => whnf))
     refine CallK.imp (H' := stoo X.q S4 • storec b X • R) (by first | exact .refl _ | exact .drop | exact .fin | ((repeat refine .pick ?_); first | exact .refl _ | exact .emp _ | exact .fin)) ?_
     refine CallK.ret f_z12.ok (sread_spec (S := S4) hd4 hS4 hdn4 hz4) ?_
     obtain ⟨B, hB⟩ : ∃ B, B = S4.val.D.at (5 + 2 * (n : Int)) ++ S4.val.D.at (5 + 2 * (n : Int) + 1) := ⟨_, rfl⟩
     rw [← hB] at hBy hBl hrd ⊢
     rintro v G ⟨ra, rcc, hrc, rfl, rfl⟩
     conv => whnf
     skip
     refine CallK.ret f_z9.ok (pdecode_spec (b := B) ⟨inferInstance, hBl.symm⟩ (by omega) (by omega) hBy) ?_
     rw [hrd]
     rintro v G ⟨y, hy, rfl, rfl⟩
     have hyx : y.m = x.m := hy
     rw [pgc_eq y]
     conv => whnf
     repeat' (first
      | (refine CallK.ret f_z8.ok qnum_spec ?_; rintro v G ⟨rfl, rfl⟩; conv => whnf)
      | (refine CallK.ret f_z2n.ok qback_spec ?_; rintro v G ⟨rfl, rfl⟩; conv => whnf)
      | (refine CallK.ret f_zu.ok (qlastO_spec (X := X) (by omega) hr hi hx (by omega)) ?_; rintro v G ⟨rfl, rfl⟩; conv => whnf)
      | ((first | refine LdN.i ?_ | refine St.i ⟨rfl, rfl⟩ (List.cons_ne_nil _ _) ?_); conv => whnf)
      | (intro blk hblk; conv => whnf))
     refine CallK.ret f_z2m.ok (same_spec (C := y.m.C) (G := y.m.G) (C' := x.m.C) (G' := x.m.G) (by infer_instance) (by infer_instance) (by infer_instance) (by infer_instance) (by rw [hyx]; omega) (by rw [hyx]; omega)) ?_
     rw [decide_eq_true (show (⟨y.m.num, y.m.lsn, y.m.C, y.m.G⟩ : PgM) = ⟨x.m.num, x.m.lsn, x.m.C, x.m.G⟩ from hyx)]
     rintro v G ⟨rfl, rfl⟩
     conv => whnf
     repeat' (first
      | (refine Ar.i64 (by omega) ?_; conv => whnf))
     exact ⟨rfl, (n + 1, S4), ⟨by dsimp only; omega, hE4⟩, Fr.inn_sub ⟨rfl, rfl, trivial⟩, (by first | exact .refl _ | exact .drop | exact .fin | ((repeat refine .pick ?_); first | exact .refl _ | exact .emp _ | exact .fin)), by dsimp only; omega⟩
   ·have hall : ∀ m, 0 ≤ m ∧ m < S1.val.P.pages → S1.val.P.held.lookup m = none := fun m hm => hE.gone m (by
     have : S1.val.P.pages = X.p := hE.ok.p.symm
     omega)
    have hnil := held_nil hE.keeps hall
    have hnil' : S1.P.held = [] := by
     have h9 : S1.val.P.held.length = S1.P.held.length := List.length_map ..
     rw [hnil] at h9
     exact List.length_eq_zero_iff.1 h9.symm
    repeat' (first
     | (refine spl_dec (fun hd => ?_) (fun hd => ?_) <;> first | (exfalso; omega) | (conv => whnf))
     | (refine Ld.i ?_; conv => whnf))
    refine CallK.ret f_z22.ok (sheld_spec (S := S1) hE.ok.sto) ?_
    rw [hnil']
    rintro v G ⟨a1, a2, rfl, rfl⟩
    conv => whnf
    repeat' (first
     | (refine Ld.i ?_; conv => whnf))
    refine CallK.ret f_z23.ok (sdirty_spec (S := S1) hE.ok.sto) ?_
    rw [hnil', show sortI (([] : List (Int × FrX)).map (·.1)) = [] from sortI_of List.Pairwise.nil, show S1.val.P.dirtyL [] = [] from rfl]
    rintro v G ⟨a3, a4, rfl, rfl⟩
    conv => whnf
    skip
    refine ⟨_, _, rfl, ?_, rfl, rfl⟩
    first | exact .refl _ | exact .drop | exact .fin | ((repeat refine .pick ?_); first | exact .refl _ | exact .emp _ | exact .fin)
end Go.Proofs.YtgcknlpkhhpkjaaGreatDoor
/- What the listed package-level variables hold at the start. No condition. -/
namespace Go.SL
open Go
theorem cell_spot {w : World} {a : Addr} {v : Value} (h : w.cell? a = some v) : a.spot = none := by
 obtain ⟨b, off, sp⟩ := a
 unfold World.cell? at h
 split at h
 ·cases sp with
  | none => rfl
  | some k => simp at h
 ·cases h
theorem var_cell {P : Program} {w : World} {n : String} {g : Nat} {cs : Array Value} (hg : P.globalNamed n = some g) (h : w.var? P n = some cs) (j : Nat) : w.cell? ⟨g, j, none⟩ = cs[j]? := by
 unfold World.var? at h
 rw [hg] at h
 dsimp only [Option.bind_some] at h
 unfold World.cell?
 split at h
 ·rename_i c t z hh
  dsimp only
  rw [hh]
  cases h
  rfl
 ·cases h
section
variable {H : Type} {enc : TypeId × Value → H} {P : Program} {w : World} {base : Nat} {sp : Nat → Bool} {held : Bool}
theorem laid_ints {t e : TypeId} {fuel : Nat} {cs : List Value} {xs : List Int} {p : List MemPlace} (ht : P.underlying t = some (.slice e)) (he : P.underlying e = some (.int .i64)) (hc : P.cellsOf e = 1)
  (h : DataW.trod enc P w base sp held fuel t cs = some (.slice (xs.map fun z => .lit (.int .i64 z)) [], p)) : ∃ a cap, cs = [.slice a xs.length cap] ∧ OldR w 1 ints a xs := by
 obtain ⟨a, cap, h1, _, h2⟩ := open_row ht hc h
 rw [List.length_map] at h1
 refine ⟨some a, cap, h1, ⟨fun i x hx => ?_⟩⟩
 obtain ⟨v, n, q, h3, h4⟩ := h2 i (.lit (.int .i64 x)) (by rw [List.getElem?_map, hx]; rfl)
 obtain ⟨z, h5, h6, _⟩ := DataW.trod_int he h4
 have hs' : a.spot = none := by
  obtain ⟨x0, hx0⟩ : ∃ x0, xs[0]? = some x0 := by
   cases xs with
   | nil => simp at hx
   | cons y ys => exact ⟨y, rfl⟩
  obtain ⟨v0, _, _, h30, _⟩ := h2 0 (.lit (.int .i64 x0)) (by rw [List.getElem?_map, hx0]; rfl)
  have := cell_spot h30
  unfold Addr.add at this
  rwa [if_pos rfl] at this
 obtain ⟨b, off, s⟩ := a
 dsimp only at hs'
 subst hs'
 rw [Addr.add_eq] at h3
 cases h6
 cases h5
 refine ⟨b, off, rfl, fun j v hj => ?_⟩
 cases j with
 | zero =>
  cases hj
  rw [Nat.mul_one, Nat.add_zero]
  exact h3
 | succ j => cases hj
theorem laid_arr {t e : TypeId} {fuel N : Nat} {cs : List Value} {xs : List Int} {p : List MemPlace} (ht : P.underlying t = some (.array N e)) (he : P.underlying e = some (.int .u32)) (hc : P.cellsOf e = 1)
  (h : DataW.trod enc P w base sp held fuel t cs = some (.agg (xs.map fun z => .lit (.int .u32 z)), p)) : ∀ (i : Nat) (x : Int), xs[i]? = some x → cs[i]? = some (Value.int .u32 x) := by
 obtain ⟨ys, m, _, h1, _, h2, h3⟩ := DataW.trod_array ht h
 intro i x hx
 have h4 : (xs.map fun z => (DataW.lit (.int .u32 z) : DataW H)) = ys.map (·.1) := by
  have := (Prod.mk.inj h1).1
  injection this
 have hi : i < xs.length := (List.getElem?_eq_some_iff.1 hx).1
 have hlen : xs.length = ys.length := by have := congrArg List.length h4; simpa using this
 have h5 := congrArg (fun l => l[i]?) h4
 simp only [List.getElem?_map, hx, Option.map_some] at h5
 obtain ⟨y, hy, hy2⟩ := Option.map_eq_some_iff.1 h5.symm
 have h6 := h3 i (by omega)
 rw [hc, hy, Nat.mul_one] at h6
 obtain ⟨z, h7, h8, _⟩ := DataW.trod_int he h6
 rw [h8] at hy2
 cases hy2
 have h9 := congrArg (fun l => l[0]?) h7
 simp only [List.getElem?_take, List.getElem?_drop] at h9
 simpa using h9
end
end Go.SL
namespace Go.Proofs.YtgcknlpkhhpkjaaGreatDoor
open Go Go.SL Go.SL.Sec Go.SL.Fld Go.SL.Pts Go.SL.Rec Go.SL.Twn Go.SL.Pg Go.SL.Mst Go.SL.Pool
def nibL : List Int := [0, 498536548, 997073096, 651767980, 1994146192, 1802195444, 1303535960, 1342533948, 3988292384, 4027552580, 3604390888, 3412177804, 2607071920, 2262029012, 2685067896, 3183342108]
abbrev laidL : List (String × DataW Unit) := [("errors.errorType", Rows.laid_errors_errorType), ("quota/field.nibbles", Rows.laid_quota_field_nibbles), ("quota/page.headSizes", Rows.laid_quota_page_headSizes), ("quota/page.counterSizes", Rows.laid_quota_page_counterSizes), ("quota/page.groupSizes", Rows.laid_quota_page_groupSizes)]
theorem laid_none : (laidL.filter fun x => x.2.handleName?.isNone) = [("quota/field.nibbles", Rows.laid_quota_field_nibbles), ("quota/page.headSizes", Rows.laid_quota_page_headSizes), ("quota/page.counterSizes", Rows.laid_quota_page_counterSizes), ("quota/page.groupSizes", Rows.laid_quota_page_groupSizes)] := by kernel_rfl
theorem laid_some : (laidL.filter fun x => x.2.handleName?.isSome) = [("errors.errorType", Rows.laid_errors_errorType)] := by kernel_rfl
theorem row_error : ((List.range prog.types.size).all fun ty => !prog.rowNamed ty [101, 114, 114, 111, 114] || ty == t_error) = true := by kernel_rfl
theorem laid_err {W : World} (h : laidMetH prog laidL W) : LaidE W := by
 obtain ⟨_, h2⟩ := laidMetH_iff.1 h
 rw [laid_some] at h2
 have h3 := h2 _ List.mem_cons_self
 rw [show (("errors.errorType", Rows.laid_errors_errorType) : String × DataW Unit).2.funcsIn? = none by kernel_rfl] at h3
 obtain ⟨name, u, ty, e1, e2, e3, e4, e5⟩ := h3
 have n1 : name = [101, 114, 114, 111, 114] := by
  have : (("errors.errorType", Rows.laid_errors_errorType) : String × DataW Unit).2.handleName? = some [101, 114, 114, 111, 114] := by kernel_rfl
  rw [this] at e1
  exact (Option.some.inj e1).symm
 have n2 : u = t_rtype := by
  have : (prog.cutTypes.find? (·.1 == "internal/reflectlite.rtype")).map (·.2) = some t_rtype := by kernel_rfl
  rw [this] at e2
  exact (Option.some.inj e2).symm
 subst n1 n2
 have n3 : ty = t_error := by
  have := List.all_eq_true.1 row_error ty (List.mem_range.2 e3)
  rw [e4] at this
  simpa using this
 subst n3
 have hg : prog.globalNamed "errors.errorType" = some g_errors_errorType := by kernel_rfl
 have hc := var_cell hg e5 0
 refine ⟨hc.trans ?_⟩
 kernel_rfl
theorem laid_nib {W : World} (h : laidMetH prog laidL W) : LaidC W := by
 obtain ⟨h1, _⟩ := laidMetH_iff.1 h
 rw [laid_none] at h1
 obtain ⟨ps, ⟨g, t, cs, fuel, p, q, hg, ht, hv, htr, _, _⟩, _⟩ := h1
 have n1 : prog.globalNamed "quota/field.nibbles" = some g_field_nibbles := by kernel_rfl
 rw [n1] at hg
 cases hg
 have n2 : (prog.globals[g_field_nibbles]?).map (·.type) = some t_16_uint32 := by kernel_rfl
 rw [n2] at ht
 cases ht
 have k := laid_arr (xs := nibL) u_16_uint32 u_uint32 (by kernel_rfl) htr
 refine ⟨fun j hj => ?_⟩
 rw [var_cell n1 hv j]
 have hx : nibL[j]? = some (w32 (nib j)) := by
  have : ∀ j, j < 16 → nibL[j]? = some (w32 (nib j)) := by decide
  exact this j hj
 have := k j _ hx
 rw [Array.getElem?_toList] at this
 exact this
theorem laid_pg {W : World} (h : laidMetH prog laidL W) : Nonempty (LaidP W) := by
 obtain ⟨h1, _⟩ := laidMetH_iff.1 h
 rw [laid_none] at h1
 obtain ⟨ps, ⟨_, _, _, _, _, _, _, _, _, _, ⟨g1, t1, cs1, f1, p1, q1, hg1, ht1, hv1, htr1, ⟨g2, t2, cs2, f2, p2, q2, hg2, ht2, hv2, htr2, ⟨g3, t3, cs3, f3, p3, q3, hg3, ht3, hv3, htr3, _, _⟩, _⟩, _⟩, _⟩, _⟩ := h1
 have n1 : prog.globalNamed "quota/page.headSizes" = some g_page_headSizes := by kernel_rfl
 have n2 : prog.globalNamed "quota/page.counterSizes" = some g_page_counterSizes := by kernel_rfl
 have n3 : prog.globalNamed "quota/page.groupSizes" = some g_page_groupSizes := by kernel_rfl
 rw [n1] at hg1
 rw [n2] at hg2
 rw [n3] at hg3
 cases hg1
 cases hg2
 cases hg3
 rw [show (prog.globals[g_page_headSizes]?).map (·.type) = some t_S_int by kernel_rfl] at ht1
 rw [show (prog.globals[g_page_counterSizes]?).map (·.type) = some t_S_int by kernel_rfl] at ht2
 rw [show (prog.globals[g_page_groupSizes]?).map (·.type) = some t_S_int by kernel_rfl] at ht3
 cases ht1
 cases ht2
 cases ht3
 have hc : prog.cellsOf t_int = 1 := by kernel_rfl
 obtain ⟨a1, c1, k1, o1⟩ := laid_ints (xs := [1, 1, 2, 2, 2, 4]) u_S_int u_int hc htr1
 obtain ⟨a2, c2, k2, o2⟩ := laid_ints (xs := [4, 4, 8, 8, 8]) u_S_int u_int hc htr2
 obtain ⟨a3, c3, k3, o3⟩ := laid_ints (xs := [4, 8]) u_S_int u_int hc htr3
 refine ⟨⟨a1, c1, a2, c2, a3, c3, ?_, ?_, ?_, o1, o2, o3⟩⟩
 ·rw [var_cell n1 hv1 0, ← Array.getElem?_toList, k1]; rfl
 ·rw [var_cell n2 hv2 0, ← Array.getElem?_toList, k2]; rfl
 ·rw [var_cell n3 hv3 0, ← Array.getElem?_toList, k3]; rfl
end Go.Proofs.YtgcknlpkhhpkjaaGreatDoor
/- The package-level variables at the start: the door's own heap meets the condition. No condition. -/
namespace Go.Proofs.YtgcknlpkhhpkjaaGreatDoor
open Go Go.SL Go.ChangeShapes Go.WideShapes Go.ChangeAt Go.RowKit
theorem own_knob : ownKnob prog.godebug = none := by kernel_rfl
theorem laid_out : laidOutB prog = true := by kernel_rfl
theorem door_met (os : Os) (args : Array Value) : laidMetH prog laidL ((World.doorLaid prog 600 os).forCall (fun _ _ => 0) ⟨#[], args, []⟩).memory :=
 laidMetH_of_parts3 (fuel := 8) (laidMet_of_run' 8 (by kernel_rfl) (by kernel_rfl)) (by kernel_rfl) (by kernel_rfl)
end Go.Proofs.YtgcknlpkhhpkjaaGreatDoor
/- What the row of PoolKeeps says of the program. No condition. -/
namespace Go.Proofs.YtgcknlpkhhpkjaaGreatDoor.poolKeeps
open Go Go.SL
theorem k1 : Tryz.prog.inPlace 4 = ["internal/reflectlite.ValueOf", "(internal/reflectlite.Value).Type", "(internal/reflectlite.Value).IsNil", "internal/reflectlite.TypeOf", "(internal/reflectlite.Value).Elem", "(internal/reflectlite.Value).Set"] := by kernel_rfl
theorem k2 : Tryz.prog.unfollowed 4 = true := by kernel_rfl
theorem k3 : Tryz.prog.recurses 4 = true := by kernel_rfl
theorem k4 : Tryz.prog.varsNamed 4 = ["errors.errorType", "quota/page.headSizes", "quota/page.counterSizes", "quota/page.groupSizes", "quota/field.nibbles"] := by kernel_rfl
theorem k5 : mapsRowed Tryz.prog = true := by kernel_rfl
theorem k7 : Tryz.prog.stopsHeard = true := by kernel_rfl
theorem k8 : Tryz.prog.mayEnter = true := by kernel_rfl
theorem facts : joinedFacts Tryz.prog 4 Tryz.f4 Rows.poolKeepsSpec Rows.poolKeepsRow = true := by
 unfold joinedFacts
 rw [k1, k2, k3, k4, k5, k7, k8]
 kernel_rfl
end Go.Proofs.YtgcknlpkhhpkjaaGreatDoor.poolKeeps
/- What the tied card of PoolKeeps says of the program. No condition. -/
namespace Go.Proofs.YtgcknlpkhhpkjaaGreatDoor.poolKeeps
open Go
theorem c_main : Tryz.prog.mainIs = some (Rows.poolKeepsCard.stood.harness.1, Rows.poolKeepsCard.stood.harness.2.toList) := by kernel_rfl
theorem c_looks : true = Tryz.prog.looks [] := by kernel_rfl
theorem c_wf : Rows.poolKeepsRow.wfByText (OpenSpec.ofChange Rows.poolKeepsSpec) = true := by kernel_rfl
end Go.Proofs.YtgcknlpkhhpkjaaGreatDoor.poolKeeps
/- What the tied card of PoolKeeps says of the program. No condition. -/
namespace Go.Proofs.YtgcknlpkhhpkjaaGreatDoor.poolKeeps
open Go
theorem c_goes : false = Rows.poolKeepsRow.goesBy Tryz.prog := by kernel_rfl
end Go.Proofs.YtgcknlpkhhpkjaaGreatDoor.poolKeeps
