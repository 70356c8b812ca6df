/- UndoOwn answers true, and nothing that was there turns. No condition. -/
import Derived.Test.YtacpnjlijjgbmaaGreatDoorUndArgs
import Derived.Test.YtacpnjlijjgbmaaGreatDoorUndRows
import Derived.Test.YtacpnjlijjgbmaaGreatDoorTie
import Derived.Test.YtacpnjlijjgbmaaGreatDoorCards
import Derived.SevenTiedAt
namespace Go.Proofs.YtacpnjlijjgbmaaGreatDoor.undoOwn
open Go Go.SL Go.SL.Und Go.ChangeShapes Go.WideShapes Go.ChangeAt Go.RowKit
theorem tdiv2_bd {z : Int} (h : fits z) : -4611686018427387904 ≤ z.tdiv 2 ∧ z.tdiv 2 ≤ 4611686018427387904 := by
  unfold fits at h
  rcases Int.le_total 0 z with h0 | h0
  · rw [Int.tdiv_eq_ediv_of_nonneg h0]; omega
  · have : z.tdiv 2 = -((-z).tdiv 2) := by rw [Int.neg_tdiv]; omega
    rw [this, Int.tdiv_eq_ediv_of_nonneg (by omega)]; omega
/-- What stands behind a round: the list, and the rows that have been handed out. -/
structure OwnS where
  L : List RecV
  gs : List RowV
  ws : List RowV
  ga : Option Addr
  gc : Nat
  wa : Option Addr
  wc : Nat
structure OwnS.Ok (n0 m : Nat) (t : OwnS) : Prop where
  ok : ∀ r ∈ t.L, OkR r
  len : t.L.length = n0
  eq : t.gs.map (·.xs) = t.ws.map (·.xs)
  gl : t.gs.length ≤ m
  wl : t.ws.length = t.gs.length
  b : ∀ g ∈ t.gs, g.xs.length ≤ n0
def ownc (pa : Option Addr) (pc : Nat) (t : OwnS) : HProp := lentc pa pc t.L • vec t_S_api_Record 1 rv t.ga t.gc t.gs • vec t_S_api_Record 1 rv t.wa t.wc t.ws • bigL rowc t.gs • bigL rowc t.ws
theorem leftG_len {tx : Int} : ∀ (xs : List RecV) (m : List (Int × RecV)), (leftG tx m xs).2.length ≤ m.length + xs.length
  | [], m => by simp [leftG]
  | r :: rs, m => by
    have h1 := left1_len (tx := tx) (m := m) r
    unfold leftG
    split
    · have := leftG_len (tx := tx) rs (left1 tx m r).2
      simp only [List.length_cons]; omega
    · simp
theorem leftF_len (xs : List RecV) (tx : Int) : (leftF xs tx).2.length ≤ xs.length := by
  unfold leftF
  split
  · simp
  · split
    · have := leftG_len (tx := tx) xs []
      simp only [outR, List.length_map, sortI_length, List.length_nil] at *
      omega
    · simp
theorem okR_of {r : RecV} (h : Tld.FitR r) : OkR r := h
set_option maxHeartbeats 8000000 in
theorem walk {W : World} {p l f : Int} {a1 a2 a3 : Option Addr} {n1 n2 n3 c1 c2 c3 : Nat} {D : List Tld.DeedV} {txs : List Int} (o1 : OldVec W 4 Tld.deedv a1 n1 c1 D) (o3 : OldVec W 1 ints a3 n3 c3 txs) (hD : D.length ≤ 9223372036854775807) :
    Does prog W f_quotalaw19_UndoOwn ⟨[.agg ⟨[.int .i64 p, .int .i64 l, .int .i64 f, .slice a1 n1 c1, .slice a2 n2 c2]⟩, .slice a3 n3 c3]⟩ (old W • emp) (Ret fun v G => v = .bool true ∧ G = (old W • emp)) := by
  haveI r1 : OldR W 4 Tld.deedv a1 D := o1.r
  haveI r3 : OldR W 1 ints a3 txs := o3.r
  have hn1 := o1.hlen
  have hn3 := o3.hlen
  subst hn1 hn3
  refine f_quotalaw19_UndoOwn.does _ _ ?_
  conv => whnf
  repeat' (first
    | (refine spl_f (by with_reducible exact ndec_self _) ?_; conv => whnf)
    | (refine spl_f (by with_reducible exact nbeq_self _) ?_; conv => whnf)
    | (refine spl_t (by with_reducible exact beq_self _) ?_; conv => whnf)
    | (refine spl_dec (fun hd => ?_) (fun hd => ?_) <;> first | (exfalso; omega) | (conv => whnf))
    | (refine spl_ndec (fun hd => ?_) (fun hd => ?_) <;> first | (exfalso; omega) | (conv => whnf))
    | (refine spl_intro (fun hd => ?_) (fun hd => ?_) <;> (conv => whnf))
    | (refine Ld.i ?_; conv => whnf)
    | (refine LdN.i ?_; conv => whnf)
    | (refine St.i ⟨rfl, rfl⟩ (List.cons_ne_nil _ _) ?_; conv => whnf)
    | (refine Ar.i64 (by omega) ?_; conv => whnf)
    | (refine Ar.u64 (by omega) ?_; conv => whnf)
    | (refine Ar.i64d (by omega) (by omega) ?_; conv => whnf)
    | (refine Shr.i (by rfl) (by decide) ?_; conv => whnf)
    | (refine Shl.i (by rfl) (by decide) ?_; conv => whnf)
    | (refine Req.mk (by omega) ?_; conv => whnf)
    | (intro blk hblk; conv => whnf)
    | (refine CallK.ret f_quotalaw19_first.ok (first_spec) ?_; rintro v G ⟨rfl, rfl⟩; conv => whnf)
    | (refine DrawK.intro tab_ok mixed f_quotalaw19_UndoOwn.last3 f_quotalaw19_UndoOwn.plan3 _ (by kernel_rfl) (Sub.of (by first | exact Imp.refl _ | exact Imp.drop | exact Imp.fin | ((repeat (refine Imp.pick ?_)); first | exact Imp.refl _ | exact Imp.emp _ | exact Imp.fin))) ?_; conv => whnf)
    | (refine CallK.ret f_quotalaw19_Life_wide.ok (lwide_spec) ?_; rintro v G ⟨rfl, rfl⟩; conv => whnf)
    | (refine CallK.ret f_quotalaw19_Life_told.ok (ltold_spec (D := D) (by omega) hD) ?_; rintro v G ⟨s, X, hX, rfl, rfl⟩; conv => whnf)
    | (refine Sub.on (by first | exact Imp.refl _ | exact Imp.drop | exact Imp.fin | ((repeat (refine Imp.pick ?_)); first | exact Imp.refl _ | exact Imp.emp _ | exact Imp.fin)) ?_; conv => whnf)
    | (refine Sub.on (Imp.trans KeepC.h (by first | exact Imp.refl _ | exact Imp.drop | exact Imp.fin | ((repeat (refine Imp.pick ?_)); first | exact Imp.refl _ | exact Imp.emp _ | exact Imp.fin))) ?_; conv => whnf)
    | fail)
  have hRl : X.R.length ≤ 60 := by
    have : X.val.R.length ≤ 60 := by rw [hX]; exact Tld.plays_len (most := 60) D (Tld.told0 (2 + p % 6)) (by simp [Tld.told0])
    exact this
  have hRo : ∀ r ∈ X.R, OkR r := by
    have := Tld.told_fit (2 + p % 6) 60 D (by omega)
    rw [← hX] at this
    exact this
  obtain ⟨n0, hn0⟩ : ∃ n0, n0 = X.R.length := ⟨_, rfl⟩
  have hn60 : n0 ≤ 60 := by omega
  repeat' (first
    | (refine spl_f (by with_reducible exact ndec_self _) ?_; conv => whnf)
    | (refine spl_f (by with_reducible exact nbeq_self _) ?_; conv => whnf)
    | (refine spl_t (by with_reducible exact beq_self _) ?_; conv => whnf)
    | (refine spl_dec (fun hd => ?_) (fun hd => ?_) <;> first | (exfalso; omega) | (conv => whnf))
    | (refine spl_ndec (fun hd => ?_) (fun hd => ?_) <;> first | (exfalso; omega) | (conv => whnf))
    | (refine spl_intro (fun hd => ?_) (fun hd => ?_) <;> (conv => whnf))
    | (refine Ld.i ?_; conv => whnf)
    | (refine LdN.i ?_; conv => whnf)
    | (refine St.i ⟨rfl, rfl⟩ (List.cons_ne_nil _ _) ?_; conv => whnf)
    | (refine Ar.i64 (by omega) ?_; conv => whnf)
    | (refine Ar.u64 (by omega) ?_; conv => whnf)
    | (refine Ar.i64d (by omega) (by omega) ?_; conv => whnf)
    | (refine Shr.i (by rfl) (by decide) ?_; conv => whnf)
    | (refine Shl.i (by rfl) (by decide) ?_; conv => whnf)
    | (refine Req.mk (by omega) ?_; conv => whnf)
    | (intro blk hblk; conv => whnf)
    | (refine CallK.ret f_quotalaw19_lent.ok (lent_spec (xs := X.R) rfl (by omega)) ?_; rintro v G ⟨pa, pc, rfl, rfl⟩; conv => whnf)
    | (refine Sub.on (by first | exact Imp.refl _ | exact Imp.drop | exact Imp.fin | ((repeat (refine Imp.pick ?_)); first | exact Imp.refl _ | exact Imp.emp _ | exact Imp.fin)) ?_; conv => whnf)
    | (refine Sub.on (Imp.trans KeepC.h (by first | exact Imp.refl _ | exact Imp.drop | exact Imp.fin | ((repeat (refine Imp.pick ?_)); first | exact Imp.refl _ | exact Imp.emp _ | exact Imp.fin))) ?_; conv => whnf)
    | fail)
  rw [← hn0]
  refine LoopK.at tab_ok (L := f_quotalaw19_UndoOwn.live) (ι := Nat × OwnS) (fun i => i.1 ≤ 2 ∧ i.2.Ok n0 (40 * i.1)) (fun i => [(8, .int .i64 i.1), (6, .slice i.2.ga i.2.gs.length i.2.gc), (7, .slice i.2.wa i.2.ws.length i.2.wc)])
    (fun i => ownc pa pc i.2) (fun i => 2 - i.1) (0, ⟨X.R, [], [], none, 0, none, 0⟩) ⟨by simp, hRo, hn0.symm, rfl, by simp, rfl, by simp⟩ (fun t v h => h)
    (Imp.assoc (Imp.pick (Imp.assoc (Imp.vnil (Imp.assoc (Imp.vnil (Imp.assoc (Imp.empi (Imp.empi (Imp.refl _))))))))))  ?_
  rintro ⟨turn, S⟩ ⟨ht2, hS⟩
  dsimp only at ht2 hS ⊢
  conv => whnf
  by_cases h2 : turn < 2
  · repeat' (first
      | (refine spl_f (by with_reducible exact ndec_self _) ?_; conv => whnf)
      | (refine spl_f (by with_reducible exact nbeq_self _) ?_; conv => whnf)
      | (refine spl_t (by with_reducible exact beq_self _) ?_; conv => whnf)
      | (refine spl_dec (fun hd => ?_) (fun hd => ?_) <;> first | (exfalso; omega) | (conv => whnf))
      | (refine spl_ndec (fun hd => ?_) (fun hd => ?_) <;> first | (exfalso; omega) | (conv => whnf))
      | (refine spl_intro (fun hd => ?_) (fun hd => ?_) <;> (conv => whnf))
      | (refine Ld.i ?_; conv => whnf)
      | (refine LdN.i ?_; conv => whnf)
      | (refine St.i ⟨rfl, rfl⟩ (List.cons_ne_nil _ _) ?_; conv => whnf)
      | (refine Ar.i64 (by omega) ?_; conv => whnf)
      | (refine Ar.u64 (by omega) ?_; conv => whnf)
      | (refine Ar.i64d (by omega) (by omega) ?_; conv => whnf)
      | (refine Shr.i (by rfl) (by decide) ?_; conv => whnf)
      | (refine Shl.i (by rfl) (by decide) ?_; conv => whnf)
      | (refine Req.mk (by omega) ?_; conv => whnf)
      | (intro blk hblk; conv => whnf)
      | fail)
    refine LoopK.at tab_ok (L := f_quotalaw19_UndoOwn.live) (ι := Nat × OwnS) (fun i => i.1 ≤ txs.length ∧ i.1 ≤ 20 ∧ i.2.Ok n0 (40 * turn + 2 * i.1)) (fun i => [(9, .int .i64 i.1), (6, .slice i.2.ga i.2.gs.length i.2.gc), (7, .slice i.2.wa i.2.ws.length i.2.wc)])
      (fun i => ownc pa pc i.2) (fun i => txs.length - i.1) (0, S) ⟨by simp, by simp, hS⟩ (fun t v h => h) (Imp.refl _) ?_
    rintro ⟨i, S1⟩ ⟨hi1, hi20, hS1⟩
    dsimp only at hi1 hi20 hS1 ⊢
    clear hS
    conv => whnf
    by_cases h3 : i < txs.length ∧ i < 20
    · obtain ⟨tx, htx⟩ : ∃ tx, txs[i]? = some tx := ⟨_, List.getElem?_eq_getElem h3.1⟩
      have h31 := h3.1
      have h32 := h3.2
      repeat' (first
        | (refine spl_f (by with_reducible exact ndec_self _) ?_; conv => whnf)
        | (refine spl_f (by with_reducible exact nbeq_self _) ?_; conv => whnf)
        | (refine spl_t (by with_reducible exact beq_self _) ?_; conv => whnf)
        | (refine spl_dec (fun hd => ?_) (fun hd => ?_) <;> first | (exfalso; omega) | (conv => whnf))
        | (refine spl_ndec (fun hd => ?_) (fun hd => ?_) <;> first | (exfalso; omega) | (conv => whnf))
        | (refine spl_intro (fun hd => ?_) (fun hd => ?_) <;> (conv => whnf))
        | (refine Ld.i ?_; conv => whnf)
        | (refine LdN.i ?_; conv => whnf)
        | (refine St.i ⟨rfl, rfl⟩ (List.cons_ne_nil _ _) ?_; conv => whnf)
        | (refine Ar.i64 (by omega) ?_; conv => whnf)
        | (refine Ar.u64 (by omega) ?_; conv => whnf)
        | (refine Ar.i64d (by omega) (by omega) ?_; conv => whnf)
        | (refine Shr.i (by rfl) (by decide) ?_; conv => whnf)
        | (refine Shl.i (by rfl) (by decide) ?_; conv => whnf)
        | (refine Req.mk (by omega) ?_; conv => whnf)
        | (intro blk hblk; conv => whnf)
        | (refine spl_t (by simp; omega) ?_; conv => whnf)
        | fail)
      refine LoopK.at tab_ok (L := f_quotalaw19_UndoOwn.live) (ι := Nat × OwnS) (fun i' => i'.1 ≤ 2 ∧ i'.2.Ok n0 (40 * turn + 2 * i + i'.1)) (fun i => [(10, .int .i64 i.1), (6, .slice i.2.ga i.2.gs.length i.2.gc), (7, .slice i.2.wa i.2.ws.length i.2.wc)])
        (fun i => ownc pa pc i.2) (fun i => 2 - i.1) (0, S1) ⟨by simp, hS1⟩ (fun t v h => h) (Imp.refl _) ?_
      rintro ⟨k, S2⟩ ⟨hk2, hS2⟩
      dsimp only at hk2 hS2 ⊢
      clear hS1
      conv => whnf
      by_cases h4 : k < 2
      · obtain ⟨L, gs, ws, ga, gc, wa, wc⟩ := S2
        obtain ⟨g1, g2, g3, g4, g5, g6⟩ := hS2
        dsimp only at g1 g2 g3 g4 g5 g6 ⊢
        have hlL := leftF_len L tx
        obtain ⟨Y, hY⟩ : ∃ Y, Y = (leftF L tx).2 := ⟨_, rfl⟩
        rw [← hY] at hlL
        unfold ownc
        simp only [star_assoc]
        repeat' (first
          | (refine spl_f (by with_reducible exact ndec_self _) ?_; conv => whnf)
          | (refine spl_f (by with_reducible exact nbeq_self _) ?_; conv => whnf)
          | (refine spl_t (by with_reducible exact beq_self _) ?_; conv => whnf)
          | (refine spl_dec (fun hd => ?_) (fun hd => ?_) <;> first | (exfalso; omega) | (conv => whnf))
          | (refine spl_ndec (fun hd => ?_) (fun hd => ?_) <;> first | (exfalso; omega) | (conv => whnf))
          | (refine spl_intro (fun hd => ?_) (fun hd => ?_) <;> (conv => whnf))
          | (refine Ld.i ?_; conv => whnf)
          | (refine LdN.i ?_; conv => whnf)
          | (refine St.i ⟨rfl, rfl⟩ (List.cons_ne_nil _ _) ?_; conv => whnf)
          | (refine Ar.i64 (by omega) ?_; conv => whnf)
          | (refine Ar.u64 (by omega) ?_; conv => whnf)
          | (refine Ar.i64d (by omega) (by omega) ?_; conv => whnf)
          | (refine Shr.i (by rfl) (by decide) ?_; conv => whnf)
          | (refine Shl.i (by rfl) (by decide) ?_; conv => whnf)
          | (refine Req.mk (by omega) ?_; conv => whnf)
          | (intro blk hblk; conv => whnf)
          | (refine DrawK.intro tab_ok mixed f_quotalaw19_UndoOwn.last15 f_quotalaw19_UndoOwn.plan15 _ (by kernel_rfl) (Sub.of (by first | exact Imp.refl _ | exact Imp.drop | exact Imp.fin | ((repeat (refine Imp.pick ?_)); first | exact Imp.refl _ | exact Imp.emp _ | exact Imp.fin))) ?_; conv => whnf)
          | (refine IxS.r (xs := txs) (i := i) rfl rfl h31 (fun ab off ha => ?_); have rt : OldR W 1 ints (some ⟨ab, off, none⟩) txs := ha ▸ r3; conv => whnf)
          | (refine LdN.r htx rfl ?_; conv => whnf)
          | (refine Ld.r htx rfl ?_; conv => whnf)
          | (refine Ld.r0 htx rfl ?_; conv => whnf)
          | (refine LdN.rp htx ?_; conv => whnf)
          | (refine CallK.ret f_undo_Left.ok (left_spec (xs := L) g2.symm g1 (by omega)) ?_; rintro v G ⟨la, lc, rfl, rfl⟩; rw [← hY]; conv => whnf)
          | (refine CallK.ret f_undo_Left.ok (left_spec (xs := L) rfl g1 (by omega)) ?_; rintro v G ⟨ma, mc, rfl, rfl⟩; rw [← hY]; conv => whnf)
          | (refine CallK.ret f_quotalaw19_lent.ok (lent_spec (xs := L) g2.symm (by omega)) ?_; rintro v G ⟨qa, qc, rfl, rfl⟩; conv => whnf)
          | (refine Sub.on (by first | exact Imp.refl _ | exact Imp.drop | exact Imp.fin | ((repeat (refine Imp.pick ?_)); first | exact Imp.refl _ | exact Imp.emp _ | exact Imp.fin)) ?_; conv => whnf)
          | (refine Sub.on (Imp.trans KeepC.h (by first | exact Imp.refl _ | exact Imp.drop | exact Imp.fin | ((repeat (refine Imp.pick ?_)); first | exact Imp.refl _ | exact Imp.emp _ | exact Imp.fin))) ?_; conv => whnf)
          | (refine CallK.ret f_quotalaw19_same.ok ((same_true (xs := Y) inferInstance rfl rfl (by omega))) ?_; rintro v G ⟨rfl, rfl⟩; conv => whnf)
          | fail)
        refine OpX.app1 (xs := gs) tab_ok rfl rfl rfl rfl (⟨la, lc, Y⟩ : RowV) rfl rfl (by omega) ⟨rfl, rv_one⟩ (fun ga' gc' => ?_)
        rw [show gs.length + 1 = (gs ++ [(⟨la, lc, Y⟩ : RowV)]).length by simp]
        repeat' (first
          | (refine spl_f (by with_reducible exact ndec_self _) ?_; conv => whnf)
          | (refine spl_f (by with_reducible exact nbeq_self _) ?_; conv => whnf)
          | (refine spl_t (by with_reducible exact beq_self _) ?_; conv => whnf)
          | (refine spl_dec (fun hd => ?_) (fun hd => ?_) <;> first | (exfalso; omega) | (conv => whnf))
          | (refine spl_ndec (fun hd => ?_) (fun hd => ?_) <;> first | (exfalso; omega) | (conv => whnf))
          | (refine spl_intro (fun hd => ?_) (fun hd => ?_) <;> (conv => whnf))
          | (refine Ld.i ?_; conv => whnf)
          | (refine LdN.i ?_; conv => whnf)
          | (refine St.i ⟨rfl, rfl⟩ (List.cons_ne_nil _ _) ?_; conv => whnf)
          | (refine Ar.i64 (by omega) ?_; conv => whnf)
          | (refine Ar.u64 (by omega) ?_; conv => whnf)
          | (refine Ar.i64d (by omega) (by omega) ?_; conv => whnf)
          | (refine Shr.i (by rfl) (by decide) ?_; conv => whnf)
          | (refine Shl.i (by rfl) (by decide) ?_; conv => whnf)
          | (refine Req.mk (by omega) ?_; conv => whnf)
          | (intro blk hblk; conv => whnf)
          | fail)
        refine OpX.appN (ys := Y) tab_ok rfl rfl rfl rfl rfl (by omega) ⟨rfl, rec_one⟩ (fun w wc' => ?_)
        repeat' (first
          | (refine spl_f (by with_reducible exact ndec_self _) ?_; conv => whnf)
          | (refine spl_f (by with_reducible exact nbeq_self _) ?_; conv => whnf)
          | (refine spl_t (by with_reducible exact beq_self _) ?_; conv => whnf)
          | (refine spl_dec (fun hd => ?_) (fun hd => ?_) <;> first | (exfalso; omega) | (conv => whnf))
          | (refine spl_ndec (fun hd => ?_) (fun hd => ?_) <;> first | (exfalso; omega) | (conv => whnf))
          | (refine spl_intro (fun hd => ?_) (fun hd => ?_) <;> (conv => whnf))
          | (refine Ld.i ?_; conv => whnf)
          | (refine LdN.i ?_; conv => whnf)
          | (refine St.i ⟨rfl, rfl⟩ (List.cons_ne_nil _ _) ?_; conv => whnf)
          | (refine Ar.i64 (by omega) ?_; conv => whnf)
          | (refine Ar.u64 (by omega) ?_; conv => whnf)
          | (refine Ar.i64d (by omega) (by omega) ?_; conv => whnf)
          | (refine Shr.i (by rfl) (by decide) ?_; conv => whnf)
          | (refine Shl.i (by rfl) (by decide) ?_; conv => whnf)
          | (refine Req.mk (by omega) ?_; conv => whnf)
          | (intro blk hblk; conv => whnf)
          | fail)
        refine OpX.app1 (xs := ws) tab_ok rfl rfl rfl rfl (⟨w, wc', Y⟩ : RowV) rfl rfl (by omega) ⟨rfl, rv_one⟩ (fun wa' wc2 => ?_)
        rw [show ws.length + 1 = (ws ++ [(⟨w, wc', Y⟩ : RowV)]).length by simp]
        repeat' (first
          | (refine spl_f (by with_reducible exact ndec_self _) ?_; conv => whnf)
          | (refine spl_f (by with_reducible exact nbeq_self _) ?_; conv => whnf)
          | (refine spl_t (by with_reducible exact beq_self _) ?_; conv => whnf)
          | (refine spl_dec (fun hd => ?_) (fun hd => ?_) <;> first | (exfalso; omega) | (conv => whnf))
          | (refine spl_ndec (fun hd => ?_) (fun hd => ?_) <;> first | (exfalso; omega) | (conv => whnf))
          | (refine spl_intro (fun hd => ?_) (fun hd => ?_) <;> (conv => whnf))
          | (refine Ld.i ?_; conv => whnf)
          | (refine LdN.i ?_; conv => whnf)
          | (refine St.i ⟨rfl, rfl⟩ (List.cons_ne_nil _ _) ?_; conv => whnf)
          | (refine Ar.i64 (by omega) ?_; conv => whnf)
          | (refine Ar.u64 (by omega) ?_; conv => whnf)
          | (refine Ar.i64d (by omega) (by omega) ?_; conv => whnf)
          | (refine Shr.i (by rfl) (by decide) ?_; conv => whnf)
          | (refine Shl.i (by rfl) (by decide) ?_; conv => whnf)
          | (refine Req.mk (by omega) ?_; conv => whnf)
          | (intro blk hblk; conv => whnf)
          | fail)
        have l1 : (gs ++ [(⟨la, lc, Y⟩ : RowV)]).length = gs.length + 1 := by simp
        have l2 : (ws ++ [(⟨w, wc', Y⟩ : RowV)]).length = ws.length + 1 := by simp
        refine ⟨rfl, (k + 1, ⟨L, gs ++ [(⟨la, lc, Y⟩ : RowV)], ws ++ [(⟨w, wc', Y⟩ : RowV)], ga', gc', wa', wc2⟩), ⟨by dsimp only; omega, g1, g2, by simp [g3], by dsimp only; omega, by dsimp only; omega, fun g hg => ?_⟩, fun t v h => h, ?_, by dsimp only; omega⟩
        · rcases List.mem_append.1 hg with hg | hg
          · exact g6 g hg
          · obtain rfl := List.mem_singleton.1 hg; dsimp only; omega
        · dsimp only
          rw [bigL_snoc, bigL_snoc]
          simp only [star_assoc]
          unfold rowc
          first | exact Imp.refl _ | exact Imp.drop | exact Imp.fin | ((repeat (refine Imp.pick ?_)); first | exact Imp.refl _ | exact Imp.emp _ | exact Imp.fin)
      · have hk : k = 2 := by omega
        subst hk
        repeat' (first
          | (refine spl_f (by with_reducible exact ndec_self _) ?_; conv => whnf)
          | (refine spl_f (by with_reducible exact nbeq_self _) ?_; conv => whnf)
          | (refine spl_t (by with_reducible exact beq_self _) ?_; conv => whnf)
          | (refine spl_dec (fun hd => ?_) (fun hd => ?_) <;> first | (exfalso; omega) | (conv => whnf))
          | (refine spl_ndec (fun hd => ?_) (fun hd => ?_) <;> first | (exfalso; omega) | (conv => whnf))
          | (refine spl_intro (fun hd => ?_) (fun hd => ?_) <;> (conv => whnf))
          | (refine Ld.i ?_; conv => whnf)
          | (refine LdN.i ?_; conv => whnf)
          | (refine St.i ⟨rfl, rfl⟩ (List.cons_ne_nil _ _) ?_; conv => whnf)
          | (refine Ar.i64 (by omega) ?_; conv => whnf)
          | (refine Ar.u64 (by omega) ?_; conv => whnf)
          | (refine Ar.i64d (by omega) (by omega) ?_; conv => whnf)
          | (refine Shr.i (by rfl) (by decide) ?_; conv => whnf)
          | (refine Shl.i (by rfl) (by decide) ?_; conv => whnf)
          | (refine Req.mk (by omega) ?_; conv => whnf)
          | (intro blk hblk; conv => whnf)
          | fail)
        exact ⟨rfl, (i + 1, S2), ⟨h31, by dsimp only; omega, hS2⟩, fun t v h => h, Imp.refl _, by dsimp only; omega⟩
    · obtain ⟨L, gs, ws, ga, gc, wa, wc⟩ := S1
      obtain ⟨g1, g2, g3, g4, g5, g6⟩ := hS1
      dsimp only at g1 g2 g3 g4 g5 g6 ⊢
      repeat' (first
        | (refine spl_f (by with_reducible exact ndec_self _) ?_; conv => whnf)
        | (refine spl_f (by with_reducible exact nbeq_self _) ?_; conv => whnf)
        | (refine spl_t (by with_reducible exact beq_self _) ?_; conv => whnf)
        | (refine spl_dec (fun hd => ?_) (fun hd => ?_) <;> first | (exfalso; omega) | (conv => whnf))
        | (refine spl_ndec (fun hd => ?_) (fun hd => ?_) <;> first | (exfalso; omega) | (conv => whnf))
        | (refine spl_intro (fun hd => ?_) (fun hd => ?_) <;> (conv => whnf))
        | (refine Ld.i ?_; conv => whnf)
        | (refine LdN.i ?_; conv => whnf)
        | (refine St.i ⟨rfl, rfl⟩ (List.cons_ne_nil _ _) ?_; conv => whnf)
        | (refine Ar.i64 (by omega) ?_; conv => whnf)
        | (refine Ar.u64 (by omega) ?_; conv => whnf)
        | (refine Ar.i64d (by omega) (by omega) ?_; conv => whnf)
        | (refine Shr.i (by rfl) (by decide) ?_; conv => whnf)
        | (refine Shl.i (by rfl) (by decide) ?_; conv => whnf)
        | (refine Req.mk (by omega) ?_; conv => whnf)
        | (intro blk hblk; conv => whnf)
        | (refine spl_f (by simp; omega) ?_; conv => whnf)
        | fail)
      all_goals
        refine LoopK.at tab_ok (L := f_quotalaw19_UndoOwn.live) (ι := Nat × List RecV) (fun i => i.1 ≤ n0 ∧ (∀ r ∈ i.2, OkR r) ∧ i.2.length = n0) (fun i => [(16, .int .i64 i.1)])
          (fun i => lentc pa pc i.2) (fun i => n0 - i.1) (0, L) ⟨by simp, g1, g2⟩ (fun t v h => h) (by unfold ownc; simp only [star_assoc]; exact Imp.refl _) ?_
        rintro ⟨m, M⟩ ⟨hm, hM, hMl⟩
        dsimp only at hm hM hMl ⊢
        conv => whnf
        by_cases h5 : m < n0
        · obtain ⟨x, hx⟩ : ∃ x, M[m]? = some x := ⟨_, List.getElem?_eq_getElem (by omega)⟩
          have hxo := hM x (List.mem_of_getElem? hx)
          have hxb := tdiv2_bd hxo.2
          have hx2 : (M ++ [mark77])[m]? = some x := by rw [List.getElem?_append_left (by omega)]; exact hx
          have hlM : (M ++ [mark77]).length = n0 + 1 := by simp [hMl]
          unfold lentc
          repeat' (first
            | (refine spl_f (by with_reducible exact ndec_self _) ?_; conv => whnf)
            | (refine spl_f (by with_reducible exact nbeq_self _) ?_; conv => whnf)
            | (refine spl_t (by with_reducible exact beq_self _) ?_; conv => whnf)
            | (refine spl_dec (fun hd => ?_) (fun hd => ?_) <;> first | (exfalso; omega) | (conv => whnf))
            | (refine spl_ndec (fun hd => ?_) (fun hd => ?_) <;> first | (exfalso; omega) | (conv => whnf))
            | (refine spl_intro (fun hd => ?_) (fun hd => ?_) <;> (conv => whnf))
            | (refine Ld.i ?_; conv => whnf)
            | (refine LdN.i ?_; conv => whnf)
            | (refine St.i ⟨rfl, rfl⟩ (List.cons_ne_nil _ _) ?_; conv => whnf)
            | (refine Ar.i64 (by omega) ?_; conv => whnf)
            | (refine Ar.u64 (by omega) ?_; conv => whnf)
            | (refine Ar.i64d (by omega) (by omega) ?_; conv => whnf)
            | (refine Shr.i (by rfl) (by decide) ?_; conv => whnf)
            | (refine Shl.i (by rfl) (by decide) ?_; conv => whnf)
            | (refine Req.mk (by omega) ?_; conv => whnf)
            | (intro blk hblk; conv => whnf)
            | (refine IxS.vn (i := m) (xs := M ++ [mark77]) rfl h5 (by omega) (fun ab off ha => ?_); cases ha; conv => whnf)
            | (refine LdN.r hx2 rfl ?_; conv => whnf)
            | (refine Ld.r hx2 rfl ?_; conv => whnf)
            | (refine Ld.r0 hx2 rfl ?_; conv => whnf)
            | (refine LdN.rp hx2 ?_; conv => whnf)
            | (refine St.v (j := 8) hx2 ({ x with delta := x.delta.tdiv 2 + 1 } : RecV) rfl (by simp) ⟨rfl, rfl⟩ ?_; conv => whnf)
            | fail)
          · refine ⟨rfl, (m + 1, M.set m { x with delta := x.delta.tdiv 2 + 1 }), ⟨h5, fun r hr => ?_, by simpa using hMl⟩, fun t v h => h, ?_, by dsimp only; omega⟩
            · rcases Tld.set_mem' hr with rfl | hr
              · exact ⟨hxo.1, by unfold fits; dsimp only; omega⟩
              · exact hM r hr
            · dsimp only
              rw [List.set_append_left _ _ (by omega)]
              exact Imp.refl _
          · exact ⟨rfl, (m + 1, M), ⟨h5, hM, hMl⟩, fun t v h => h, by dsimp only; exact Imp.refl _, by dsimp only; omega⟩
        · repeat' (first
            | (refine spl_f (by with_reducible exact ndec_self _) ?_; conv => whnf)
            | (refine spl_f (by with_reducible exact nbeq_self _) ?_; conv => whnf)
            | (refine spl_t (by with_reducible exact beq_self _) ?_; conv => whnf)
            | (refine spl_dec (fun hd => ?_) (fun hd => ?_) <;> first | (exfalso; omega) | (conv => whnf))
            | (refine spl_ndec (fun hd => ?_) (fun hd => ?_) <;> first | (exfalso; omega) | (conv => whnf))
            | (refine spl_intro (fun hd => ?_) (fun hd => ?_) <;> (conv => whnf))
            | (refine Ld.i ?_; conv => whnf)
            | (refine LdN.i ?_; conv => whnf)
            | (refine St.i ⟨rfl, rfl⟩ (List.cons_ne_nil _ _) ?_; conv => whnf)
            | (refine Ar.i64 (by omega) ?_; conv => whnf)
            | (refine Ar.u64 (by omega) ?_; conv => whnf)
            | (refine Ar.i64d (by omega) (by omega) ?_; conv => whnf)
            | (refine Shr.i (by rfl) (by decide) ?_; conv => whnf)
            | (refine Shl.i (by rfl) (by decide) ?_; conv => whnf)
            | (refine Req.mk (by omega) ?_; conv => whnf)
            | (intro blk hblk; conv => whnf)
            | fail)
          refine ⟨rfl, (turn + 1, ⟨M, gs, ws, ga, gc, wa, wc⟩), ⟨h2, hM, hMl, g3, by dsimp only; omega, g5, g6⟩, fun t v h => h, ?_, by dsimp only; omega⟩
          dsimp only
          unfold ownc
          simp only [star_assoc]
          exact Imp.refl _
  · obtain ⟨L, Gs, Ws, ga, gc, wa, wc⟩ := S
    obtain ⟨g1, g2, g3, g4, g5, g6⟩ := hS
    dsimp only at g1 g2 g3 g4 g5 g6 ⊢
    unfold ownc
    simp only [star_assoc]
    obtain ⟨N, hN⟩ : ∃ N, N = Gs.length := ⟨_, rfl⟩
    have lG : Gs.length = N := hN.symm
    have lW : Ws.length = N := by omega
    have hN80 : N ≤ 80 := by omega
    have hGW : ∀ (k : Nat) (r s : RowV), Gs[k]? = some r → Ws[k]? = some s → r.xs = s.xs := fun k r s hr hs => by
      have := congrArg (fun l => l[k]?) g3
      simpa [hr, hs] using this
    have lens : ∀ (k : Nat) (r : RowV), Gs[k]? = some r → r.xs.length ≤ 60 := fun k r h => by
      have := g6 r (List.mem_of_getElem? h); omega
    rw [lG, lW]
    repeat' (first
      | (refine spl_f (by with_reducible exact ndec_self _) ?_; conv => whnf)
      | (refine spl_f (by with_reducible exact nbeq_self _) ?_; conv => whnf)
      | (refine spl_t (by with_reducible exact beq_self _) ?_; conv => whnf)
      | (refine spl_dec (fun hd => ?_) (fun hd => ?_) <;> first | (exfalso; omega) | (conv => whnf))
      | (refine spl_ndec (fun hd => ?_) (fun hd => ?_) <;> first | (exfalso; omega) | (conv => whnf))
      | (refine spl_intro (fun hd => ?_) (fun hd => ?_) <;> (conv => whnf))
      | (refine Ld.i ?_; conv => whnf)
      | (refine LdN.i ?_; conv => whnf)
      | (refine St.i ⟨rfl, rfl⟩ (List.cons_ne_nil _ _) ?_; conv => whnf)
      | (refine Ar.i64 (by omega) ?_; conv => whnf)
      | (refine Ar.u64 (by omega) ?_; conv => whnf)
      | (refine Ar.i64d (by omega) (by omega) ?_; conv => whnf)
      | (refine Shr.i (by rfl) (by decide) ?_; conv => whnf)
      | (refine Shl.i (by rfl) (by decide) ?_; conv => whnf)
      | (refine Req.mk (by omega) ?_; conv => whnf)
      | (intro blk hblk; conv => whnf)
      | fail)
    refine LoopK.keep tab_ok (L := f_quotalaw19_UndoOwn.live) (ι := Nat) (fun i => i ≤ N) (fun i => [(17, .int .i64 i)]) (fun i => N - i) 0 (by simp) (fun t v h => h) ?_
    intro k hk
    conv => whnf
    by_cases h6' : k < N
    · obtain ⟨r, hr⟩ : ∃ r, Gs[k]? = some r := ⟨_, List.getElem?_eq_getElem (by omega)⟩
      obtain ⟨s', hs⟩ : ∃ s, Ws[k]? = some s := ⟨_, List.getElem?_eq_getElem (by omega)⟩
      haveI mr : MemC Gs r := ⟨List.mem_of_getElem? hr⟩
      haveI ms : MemC Ws s' := ⟨List.mem_of_getElem? hs⟩
      have e1 : s'.xs = r.xs := (hGW k r s' hr hs).symm
      have hl := lens k r hr
      haveI rs : ∀ Q : HProp, RowC W (bigL rowc Ws • Q) s'.a 17 recv r.xs := fun Q => e1 ▸ inferInstance
      repeat' (first
        | (refine spl_f (by with_reducible exact ndec_self _) ?_; conv => whnf)
        | (refine spl_f (by with_reducible exact nbeq_self _) ?_; conv => whnf)
        | (refine spl_t (by with_reducible exact beq_self _) ?_; conv => whnf)
        | (refine spl_dec (fun hd => ?_) (fun hd => ?_) <;> first | (exfalso; omega) | (conv => whnf))
        | (refine spl_ndec (fun hd => ?_) (fun hd => ?_) <;> first | (exfalso; omega) | (conv => whnf))
        | (refine spl_intro (fun hd => ?_) (fun hd => ?_) <;> (conv => whnf))
        | (refine Ld.i ?_; conv => whnf)
        | (refine LdN.i ?_; conv => whnf)
        | (refine St.i ⟨rfl, rfl⟩ (List.cons_ne_nil _ _) ?_; conv => whnf)
        | (refine Ar.i64 (by omega) ?_; conv => whnf)
        | (refine Ar.u64 (by omega) ?_; conv => whnf)
        | (refine Ar.i64d (by omega) (by omega) ?_; conv => whnf)
        | (refine Shr.i (by rfl) (by decide) ?_; conv => whnf)
        | (refine Shl.i (by rfl) (by decide) ?_; conv => whnf)
        | (refine Req.mk (by omega) ?_; conv => whnf)
        | (intro blk hblk; conv => whnf)
        | (refine DrawK.intro tab_ok mixed f_quotalaw19_UndoOwn.last29 f_quotalaw19_UndoOwn.plan29 _ (by kernel_rfl) (Sub.of (by first | exact Imp.refl _ | exact Imp.drop | exact Imp.fin | ((repeat (refine Imp.pick ?_)); first | exact Imp.refl _ | exact Imp.emp _ | exact Imp.fin))) ?_; conv => whnf)
        | (refine Sub.on (by first | exact Imp.refl _ | exact Imp.drop | exact Imp.fin | ((repeat (refine Imp.pick ?_)); first | exact Imp.refl _ | exact Imp.emp _ | exact Imp.fin)) ?_; conv => whnf)
        | (refine Sub.on (Imp.trans KeepC.h (by first | exact Imp.refl _ | exact Imp.drop | exact Imp.fin | ((repeat (refine Imp.pick ?_)); first | exact Imp.refl _ | exact Imp.emp _ | exact Imp.fin))) ?_; conv => whnf)
        | (refine IxS.r (xs := Gs) (i := k) rfl lG.symm (by omega) (fun ab off ha => ?_); cases ha; conv => whnf)
        | (refine IxS.r (xs := Ws) (i := k) rfl lW.symm (by omega) (fun ab off ha => ?_); cases ha; conv => whnf)
        | (refine LdN.r hr rfl ?_; conv => whnf)
        | (refine Ld.r hr rfl ?_; conv => whnf)
        | (refine Ld.r0 hr rfl ?_; conv => whnf)
        | (refine LdN.rp hr ?_; conv => whnf)
        | (refine LdN.r hs rfl ?_; conv => whnf)
        | (refine Ld.r hs rfl ?_; conv => whnf)
        | (refine Ld.r0 hs rfl ?_; conv => whnf)
        | (refine LdN.rp hs ?_; conv => whnf)
        | (refine CallK.ret f_quotalaw19_same.ok (same_true (xs := r.xs) inferInstance rfl (congrArg List.length e1) (by omega)) ?_; rintro v G ⟨rfl, rfl⟩; conv => whnf)
        | fail)
      exact ⟨rfl, k + 1, by omega, fun t v h => h, Imp.refl _, by omega⟩
    · repeat' (first
        | (refine spl_f (by with_reducible exact ndec_self _) ?_; conv => whnf)
        | (refine spl_f (by with_reducible exact nbeq_self _) ?_; conv => whnf)
        | (refine spl_t (by with_reducible exact beq_self _) ?_; conv => whnf)
        | (refine spl_dec (fun hd => ?_) (fun hd => ?_) <;> first | (exfalso; omega) | (conv => whnf))
        | (refine spl_ndec (fun hd => ?_) (fun hd => ?_) <;> first | (exfalso; omega) | (conv => whnf))
        | (refine spl_intro (fun hd => ?_) (fun hd => ?_) <;> (conv => whnf))
        | (refine Ld.i ?_; conv => whnf)
        | (refine LdN.i ?_; conv => whnf)
        | (refine St.i ⟨rfl, rfl⟩ (List.cons_ne_nil _ _) ?_; conv => whnf)
        | (refine Ar.i64 (by omega) ?_; conv => whnf)
        | (refine Ar.u64 (by omega) ?_; conv => whnf)
        | (refine Ar.i64d (by omega) (by omega) ?_; conv => whnf)
        | (refine Shr.i (by rfl) (by decide) ?_; conv => whnf)
        | (refine Shl.i (by rfl) (by decide) ?_; conv => whnf)
        | (refine Req.mk (by omega) ?_; conv => whnf)
        | (intro blk hblk; conv => whnf)
        | fail)
      refine LoopK.at tab_ok (L := f_quotalaw19_UndoOwn.live) (ι := Nat × List RowV) (fun i => i.1 ≤ N ∧ i.2.length = N ∧ (∀ (j : Nat) (r r' : RowV), Gs[j]? = some r → i.2[j]? = some r' → r'.a = r.a ∧ r'.cap = r.cap ∧ r'.xs.length = r.xs.length) ∧ ∀ (j : Nat) (r' : RowV), j < i.1 → i.2[j]? = some r' → ∀ m : Nat, m < r'.xs.length → r'.xs[m]? = some (lsnR (0 - (j : Int))))
        (fun i => [(18, .int .i64 i.1)]) (fun i => bigL rowc i.2) (fun i => N - i.1) (0, Gs) ⟨by simp, lG, fun j r r' h h' => by dsimp only at h'; rw [h] at h'; cases h'; exact ⟨rfl, rfl, rfl⟩, fun j r' h => by simp at h⟩ (fun t v h => h) (Imp.pick (Imp.refl _)) ?_
      rintro ⟨k, Xs⟩ ⟨hk, lX, hX', hmk⟩
      dsimp only at hk lX hX' hmk ⊢
      conv => whnf
      by_cases h6' : k < N
      · obtain ⟨r, hr⟩ : ∃ r, Gs[k]? = some r := ⟨_, List.getElem?_eq_getElem (by omega)⟩
        obtain ⟨q, hq⟩ : ∃ q, Xs[k]? = some q := ⟨_, List.getElem?_eq_getElem (by omega)⟩
        obtain ⟨qa, qc, ql⟩ := hX' k r q hr hq
        have hl := lens k r hr
        repeat' (first
          | (refine spl_f (by with_reducible exact ndec_self _) ?_; conv => whnf)
          | (refine spl_f (by with_reducible exact nbeq_self _) ?_; conv => whnf)
          | (refine spl_t (by with_reducible exact beq_self _) ?_; conv => whnf)
          | (refine spl_dec (fun hd => ?_) (fun hd => ?_) <;> first | (exfalso; omega) | (conv => whnf))
          | (refine spl_ndec (fun hd => ?_) (fun hd => ?_) <;> first | (exfalso; omega) | (conv => whnf))
          | (refine spl_intro (fun hd => ?_) (fun hd => ?_) <;> (conv => whnf))
          | (refine Ld.i ?_; conv => whnf)
          | (refine LdN.i ?_; conv => whnf)
          | (refine St.i ⟨rfl, rfl⟩ (List.cons_ne_nil _ _) ?_; conv => whnf)
          | (refine Ar.i64 (by omega) ?_; conv => whnf)
          | (refine Ar.u64 (by omega) ?_; conv => whnf)
          | (refine Ar.i64d (by omega) (by omega) ?_; conv => whnf)
          | (refine Shr.i (by rfl) (by decide) ?_; conv => whnf)
          | (refine Shl.i (by rfl) (by decide) ?_; conv => whnf)
          | (refine Req.mk (by omega) ?_; conv => whnf)
          | (intro blk hblk; conv => whnf)
          | fail)
        refine LoopK.at tab_ok (L := f_quotalaw19_UndoOwn.live) (ι := Nat × List RecV) (fun i => i.1 ≤ r.xs.length ∧ i.2.length = r.xs.length ∧ ∀ m, m < i.1 → i.2[m]? = some (lsnR (0 - (k : Int)))) (fun i => [(19, .int .i64 i.1)]) (fun i => vec t_api_Record 17 recv r.a r.cap i.2)
          (fun i => r.xs.length - i.1) (0, q.xs) ⟨by simp, ql, fun m h => by simp at h⟩ (fun t v h => h)
          (by
            rw [bigL_take rowc Xs k q hq, star_assoc, show rowc q = vec t_api_Record 17 recv r.a r.cap q.xs by rw [← qa, ← qc]; rfl]
            exact Imp.pick (Imp.refl _)) ?_
        rintro ⟨i, L1⟩ ⟨hi2, lL, hL⟩
        dsimp only at hi2 lL hL ⊢
        conv => whnf
        by_cases h2 : i < r.xs.length
        · obtain ⟨x, hx⟩ : ∃ x, L1[i]? = some x := ⟨_, List.getElem?_eq_getElem (by omega)⟩
          repeat' (first
            | (refine spl_f (by with_reducible exact ndec_self _) ?_; conv => whnf)
            | (refine spl_f (by with_reducible exact nbeq_self _) ?_; conv => whnf)
            | (refine spl_t (by with_reducible exact beq_self _) ?_; conv => whnf)
            | (refine spl_dec (fun hd => ?_) (fun hd => ?_) <;> first | (exfalso; omega) | (conv => whnf))
            | (refine spl_ndec (fun hd => ?_) (fun hd => ?_) <;> first | (exfalso; omega) | (conv => whnf))
            | (refine spl_intro (fun hd => ?_) (fun hd => ?_) <;> (conv => whnf))
            | (refine Ld.i ?_; conv => whnf)
            | (refine LdN.i ?_; conv => whnf)
            | (refine St.i ⟨rfl, rfl⟩ (List.cons_ne_nil _ _) ?_; conv => whnf)
            | (refine Ar.i64 (by omega) ?_; conv => whnf)
            | (refine Ar.u64 (by omega) ?_; conv => whnf)
            | (refine Ar.i64d (by omega) (by omega) ?_; conv => whnf)
            | (refine Shr.i (by rfl) (by decide) ?_; conv => whnf)
            | (refine Shl.i (by rfl) (by decide) ?_; conv => whnf)
            | (refine Req.mk (by omega) ?_; conv => whnf)
            | (intro blk hblk; conv => whnf)
            | (refine IxS.r (xs := Gs) (i := k) rfl lG.symm (by omega) (fun ab off ha => ?_); cases ha; conv => whnf)
            | (refine LdN.r hr rfl ?_; conv => whnf)
            | (refine Ld.r hr rfl ?_; conv => whnf)
            | (refine Ld.r0 hr rfl ?_; conv => whnf)
            | (refine LdN.rp hr ?_; conv => whnf)
            | (refine IxS.v (xs := L1) (i := i) rfl lL.symm (by omega) (fun ab off ha => ?_); rw [ha]; conv => whnf)
            | (refine St.v0 hx (lsnR (0 - (k : Int))) rfl (by simp) ⟨rfl, rfl⟩ ?_; conv => whnf)
            | fail)
          refine ⟨rfl, (i + 1, L1.set i (lsnR (0 - (k : Int)))), ⟨by dsimp only; omega, by simp [lL], fun m hm => ?_⟩, fun t v h => h, ?_, by dsimp only; omega⟩
          · dsimp only at hm ⊢
            rw [List.getElem?_set]
            by_cases e : i = m
            · subst e
              rw [if_pos rfl, if_pos (by omega)]
            · rw [if_neg e]; exact hL m (by omega)
          · first | exact Imp.refl _ | exact Imp.drop | exact Imp.fin | ((repeat (refine Imp.pick ?_)); first | exact Imp.refl _ | exact Imp.emp _ | exact Imp.fin)
        · repeat' (first
            | (refine spl_f (by with_reducible exact ndec_self _) ?_; conv => whnf)
            | (refine spl_f (by with_reducible exact nbeq_self _) ?_; conv => whnf)
            | (refine spl_t (by with_reducible exact beq_self _) ?_; conv => whnf)
            | (refine spl_dec (fun hd => ?_) (fun hd => ?_) <;> first | (exfalso; omega) | (conv => whnf))
            | (refine spl_ndec (fun hd => ?_) (fun hd => ?_) <;> first | (exfalso; omega) | (conv => whnf))
            | (refine spl_intro (fun hd => ?_) (fun hd => ?_) <;> (conv => whnf))
            | (refine Ld.i ?_; conv => whnf)
            | (refine LdN.i ?_; conv => whnf)
            | (refine St.i ⟨rfl, rfl⟩ (List.cons_ne_nil _ _) ?_; conv => whnf)
            | (refine Ar.i64 (by omega) ?_; conv => whnf)
            | (refine Ar.u64 (by omega) ?_; conv => whnf)
            | (refine Ar.i64d (by omega) (by omega) ?_; conv => whnf)
            | (refine Shr.i (by rfl) (by decide) ?_; conv => whnf)
            | (refine Shl.i (by rfl) (by decide) ?_; conv => whnf)
            | (refine Req.mk (by omega) ?_; conv => whnf)
            | (intro blk hblk; conv => whnf)
            | (refine IxS.r (xs := Gs) (i := k) rfl lG.symm (by omega) (fun ab off ha => ?_); cases ha; conv => whnf)
            | (refine LdN.r hr rfl ?_; conv => whnf)
            | (refine Ld.r hr rfl ?_; conv => whnf)
            | (refine Ld.r0 hr rfl ?_; conv => whnf)
            | (refine LdN.rp hr ?_; conv => whnf)
            | fail)
          refine ⟨rfl, (k + 1, Xs.set k ⟨r.a, r.cap, L1⟩), ⟨by dsimp only; omega, by simp [lX], fun j r1 r1' hj hj' => ?_, fun j r' hj hj' m hm => ?_⟩, fun t v h => h, ?_, by dsimp only; omega⟩
          · dsimp only at hj'
            rw [List.getElem?_set] at hj'
            by_cases e : k = j
            · subst e
              rw [if_pos rfl, if_pos (by omega)] at hj'
              cases hj'
              rw [hr] at hj
              cases hj
              exact ⟨rfl, rfl, lL⟩
            · rw [if_neg e] at hj'
              exact hX' j r1 r1' hj hj'
          · dsimp only at hj hj'
            rw [List.getElem?_set] at hj'
            by_cases e : k = j
            · subst e
              rw [if_pos rfl, if_pos (by omega)] at hj'
              cases hj'
              dsimp only at hm ⊢
              exact hL m (by omega)
            · rw [if_neg e] at hj'
              exact hmk j r' (by omega) hj' m hm
          · dsimp only
            rw [bigL_set rowc _ Xs k q hq, star_assoc]
            exact Imp.refl _
      have e6 : k = N := by omega
      subst e6
      repeat' (first
        | (refine spl_f (by with_reducible exact ndec_self _) ?_; conv => whnf)
        | (refine spl_f (by with_reducible exact nbeq_self _) ?_; conv => whnf)
        | (refine spl_t (by with_reducible exact beq_self _) ?_; conv => whnf)
        | (refine spl_dec (fun hd => ?_) (fun hd => ?_) <;> first | (exfalso; omega) | (conv => whnf))
        | (refine spl_ndec (fun hd => ?_) (fun hd => ?_) <;> first | (exfalso; omega) | (conv => whnf))
        | (refine spl_intro (fun hd => ?_) (fun hd => ?_) <;> (conv => whnf))
        | (refine Ld.i ?_; conv => whnf)
        | (refine LdN.i ?_; conv => whnf)
        | (refine St.i ⟨rfl, rfl⟩ (List.cons_ne_nil _ _) ?_; conv => whnf)
        | (refine Ar.i64 (by omega) ?_; conv => whnf)
        | (refine Ar.u64 (by omega) ?_; conv => whnf)
        | (refine Ar.i64d (by omega) (by omega) ?_; conv => whnf)
        | (refine Shr.i (by rfl) (by decide) ?_; conv => whnf)
        | (refine Shl.i (by rfl) (by decide) ?_; conv => whnf)
        | (refine Req.mk (by omega) ?_; conv => whnf)
        | (intro blk hblk; conv => whnf)
        | fail)
      refine LoopK.at tab_ok (L := f_quotalaw19_UndoOwn.live) (ι := Nat × List MoreV × (Option Addr × Nat)) (fun i => i.1 ≤ k ∧ i.2.1.map (·.r) = Xs.take i.1 ∧ ∀ (j : Nat) (m : MoreV), i.2.1[j]? = some m → m.x = lsnR (0 - (j : Int)))
        (fun i => [(21, .int .i64 i.1), (20, .slice i.2.2.1 i.1 i.2.2.2)]) (fun i => vec t_S_api_Record 1 mv i.2.2.1 i.2.2.2 i.2.1 • bigL morec i.2.1 • bigL rowc (Xs.drop i.1)) (fun i => k - i.1) (0, [], (none, 0)) ⟨by simp, by simp, fun j m h => by simp at h⟩ (fun t v h => h)
        (Imp.assoc (Imp.vnil (Imp.assoc (Imp.empi (Imp.refl _))))) ?_
      rintro ⟨j0, Ms, ma, mc⟩ ⟨hj0, hM, hx⟩
      dsimp only at hj0 hM hx ⊢
      have lM : Ms.length = j0 := by
        have := congrArg List.length hM
        simp [lX] at this
        omega
      simp only [star_assoc]
      conv => whnf
      by_cases h6' : j0 < k
      · obtain ⟨r, hr⟩ : ∃ r, Gs[j0]? = some r := ⟨_, List.getElem?_eq_getElem (by omega)⟩
        obtain ⟨q, hq⟩ : ∃ q, Xs[j0]? = some q := ⟨_, List.getElem?_eq_getElem (by omega)⟩
        obtain ⟨qa, qc, ql⟩ := hX' j0 r q hr hq
        have hl := lens j0 r hr
        have hsplit : bigL rowc (Xs.drop j0) = (vec t_api_Record 17 recv r.a r.cap q.xs • bigL rowc (Xs.drop (j0 + 1))) := by
          rw [drop_of hq, ← qa, ← qc]; rfl
        rw [hsplit]
        simp only [star_assoc]
        repeat' (first
          | (refine spl_f (by with_reducible exact ndec_self _) ?_; conv => whnf)
          | (refine spl_f (by with_reducible exact nbeq_self _) ?_; conv => whnf)
          | (refine spl_t (by with_reducible exact beq_self _) ?_; conv => whnf)
          | (refine spl_dec (fun hd => ?_) (fun hd => ?_) <;> first | (exfalso; omega) | (conv => whnf))
          | (refine spl_ndec (fun hd => ?_) (fun hd => ?_) <;> first | (exfalso; omega) | (conv => whnf))
          | (refine spl_intro (fun hd => ?_) (fun hd => ?_) <;> (conv => whnf))
          | (refine Ld.i ?_; conv => whnf)
          | (refine LdN.i ?_; conv => whnf)
          | (refine St.i ⟨rfl, rfl⟩ (List.cons_ne_nil _ _) ?_; conv => whnf)
          | (refine Ar.i64 (by omega) ?_; conv => whnf)
          | (refine Ar.u64 (by omega) ?_; conv => whnf)
          | (refine Ar.i64d (by omega) (by omega) ?_; conv => whnf)
          | (refine Shr.i (by rfl) (by decide) ?_; conv => whnf)
          | (refine Shl.i (by rfl) (by decide) ?_; conv => whnf)
          | (refine Req.mk (by omega) ?_; conv => whnf)
          | (intro blk hblk; conv => whnf)
          | (refine IxS.r (xs := Gs) (i := j0) rfl lG.symm (by omega) (fun ab off ha => ?_); cases ha; conv => whnf)
          | (refine LdN.r hr rfl ?_; conv => whnf)
          | (refine Ld.r hr rfl ?_; conv => whnf)
          | (refine Ld.r0 hr rfl ?_; conv => whnf)
          | (refine LdN.rp hr ?_; conv => whnf)
          | fail)
        refine OpX.app1b (xs := q.xs) tab_ok rfl rfl rfl rfl (lsnR (0 - (j0 : Int))) rfl ql.symm (by omega) ⟨rfl, rec_one⟩ (fun a' c' => ?_)
        repeat' (first
          | (refine spl_f (by with_reducible exact ndec_self _) ?_; conv => whnf)
          | (refine spl_f (by with_reducible exact nbeq_self _) ?_; conv => whnf)
          | (refine spl_t (by with_reducible exact beq_self _) ?_; conv => whnf)
          | (refine spl_dec (fun hd => ?_) (fun hd => ?_) <;> first | (exfalso; omega) | (conv => whnf))
          | (refine spl_ndec (fun hd => ?_) (fun hd => ?_) <;> first | (exfalso; omega) | (conv => whnf))
          | (refine spl_intro (fun hd => ?_) (fun hd => ?_) <;> (conv => whnf))
          | (refine Ld.i ?_; conv => whnf)
          | (refine LdN.i ?_; conv => whnf)
          | (refine St.i ⟨rfl, rfl⟩ (List.cons_ne_nil _ _) ?_; conv => whnf)
          | (refine Ar.i64 (by omega) ?_; conv => whnf)
          | (refine Ar.u64 (by omega) ?_; conv => whnf)
          | (refine Ar.i64d (by omega) (by omega) ?_; conv => whnf)
          | (refine Shr.i (by rfl) (by decide) ?_; conv => whnf)
          | (refine Shl.i (by rfl) (by decide) ?_; conv => whnf)
          | (refine Req.mk (by omega) ?_; conv => whnf)
          | (intro blk hblk; conv => whnf)
          | fail)
        refine OpX.app1 (xs := Ms) tab_ok rfl rfl rfl rfl (⟨q, a', c', lsnR (0 - (j0 : Int))⟩ : MoreV) (by simp only [mv, ql]) lM.symm (by omega) ⟨rfl, mv_one⟩ (fun a2 c2 => ?_)
        repeat' (first
          | (refine spl_f (by with_reducible exact ndec_self _) ?_; conv => whnf)
          | (refine spl_f (by with_reducible exact nbeq_self _) ?_; conv => whnf)
          | (refine spl_t (by with_reducible exact beq_self _) ?_; conv => whnf)
          | (refine spl_dec (fun hd => ?_) (fun hd => ?_) <;> first | (exfalso; omega) | (conv => whnf))
          | (refine spl_ndec (fun hd => ?_) (fun hd => ?_) <;> first | (exfalso; omega) | (conv => whnf))
          | (refine spl_intro (fun hd => ?_) (fun hd => ?_) <;> (conv => whnf))
          | (refine Ld.i ?_; conv => whnf)
          | (refine LdN.i ?_; conv => whnf)
          | (refine St.i ⟨rfl, rfl⟩ (List.cons_ne_nil _ _) ?_; conv => whnf)
          | (refine Ar.i64 (by omega) ?_; conv => whnf)
          | (refine Ar.u64 (by omega) ?_; conv => whnf)
          | (refine Ar.i64d (by omega) (by omega) ?_; conv => whnf)
          | (refine Shr.i (by rfl) (by decide) ?_; conv => whnf)
          | (refine Shl.i (by rfl) (by decide) ?_; conv => whnf)
          | (refine Req.mk (by omega) ?_; conv => whnf)
          | (intro blk hblk; conv => whnf)
          | fail)
        refine ⟨rfl, (j0 + 1, Ms ++ [⟨q, a', c', lsnR (0 - (j0 : Int))⟩], (a2, c2)), ⟨by dsimp only; omega, ?_, fun j m hj => ?_⟩, fun t v h => h, ?_, by dsimp only; omega⟩
        · dsimp only
          rw [List.map_append, hM, List.take_add_one, hq]; rfl
        · dsimp only at hj
          by_cases e : j < Ms.length
          · rw [List.getElem?_append_left e] at hj
            exact hx j m hj
          · rw [List.getElem?_append_right (by omega)] at hj
            have e0 : j - Ms.length = 0 := by
              rcases Nat.eq_zero_or_pos (j - Ms.length) with h | h
              · exact h
              · rw [List.getElem?_eq_none (by simp; omega)] at hj; cases hj
            rw [e0] at hj
            cases hj
            dsimp only
            rw [show j = j0 by omega]
        · dsimp only
          rw [bigL_snoc]
          have e2 : morec ⟨q, a', c', lsnR (0 - (j0 : Int))⟩ = appc t_api_Record 17 recv r.a r.cap q.xs a' c' (lsnR (0 - (j0 : Int))) := by rw [← qa, ← qc]; rfl
          rw [e2]
          simp only [star_assoc]
          first | exact Imp.refl _ | exact Imp.drop | exact Imp.fin | ((repeat (refine Imp.pick ?_)); first | exact Imp.refl _ | exact Imp.emp _ | exact Imp.fin)
      have e6 : j0 = k := by omega
      subst e6
      repeat' (first
        | (refine spl_f (by with_reducible exact ndec_self _) ?_; conv => whnf)
        | (refine spl_f (by with_reducible exact nbeq_self _) ?_; conv => whnf)
        | (refine spl_t (by with_reducible exact beq_self _) ?_; conv => whnf)
        | (refine spl_dec (fun hd => ?_) (fun hd => ?_) <;> first | (exfalso; omega) | (conv => whnf))
        | (refine spl_ndec (fun hd => ?_) (fun hd => ?_) <;> first | (exfalso; omega) | (conv => whnf))
        | (refine spl_intro (fun hd => ?_) (fun hd => ?_) <;> (conv => whnf))
        | (refine Ld.i ?_; conv => whnf)
        | (refine LdN.i ?_; conv => whnf)
        | (refine St.i ⟨rfl, rfl⟩ (List.cons_ne_nil _ _) ?_; conv => whnf)
        | (refine Ar.i64 (by omega) ?_; conv => whnf)
        | (refine Ar.u64 (by omega) ?_; conv => whnf)
        | (refine Ar.i64d (by omega) (by omega) ?_; conv => whnf)
        | (refine Shr.i (by rfl) (by decide) ?_; conv => whnf)
        | (refine Shl.i (by rfl) (by decide) ?_; conv => whnf)
        | (refine Req.mk (by omega) ?_; conv => whnf)
        | (intro blk hblk; conv => whnf)
        | fail)
      refine LoopK.keep tab_ok (L := f_quotalaw19_UndoOwn.live) (ι := Nat) (fun i => i ≤ j0) (fun i => [(22, .int .i64 i)]) (fun i => j0 - i) 0 (by simp) (fun t v h => h) ?_
      intro k hk5
      conv => whnf
      by_cases h6' : k < j0
      · obtain ⟨r, hr⟩ : ∃ r, Gs[k]? = some r := ⟨_, List.getElem?_eq_getElem (by omega)⟩
        obtain ⟨q, hq⟩ : ∃ q, Xs[k]? = some q := ⟨_, List.getElem?_eq_getElem (by omega)⟩
        obtain ⟨m, hm⟩ : ∃ m, Ms[k]? = some m := ⟨_, List.getElem?_eq_getElem (by omega)⟩
        obtain ⟨qa, qc, ql⟩ := hX' k r q hr hq
        have hmr : m.r = q := by
          have := congrArg (fun l => l[k]?) hM
          simp only [List.getElem?_map, hm, Option.map_some] at this
          rw [List.getElem?_take_of_lt (by omega), hq] at this
          exact Option.some.inj this
        have hmx := hx k m hm
        have hl := lens k r hr
        obtain ⟨M2, hM2⟩ : ∃ M2, M2 = q.xs ++ [m.x] := ⟨_, rfl⟩
        have hNl : m.r.xs.length + 1 = M2.length := by rw [hM2, hmr]; simp
        have hNi : ∀ i, i < M2.length → M2[i]? = some (lsnR (0 - (k : Int))) := fun i hi => by
          rw [hM2]
          by_cases e : i < q.xs.length
          · rw [List.getElem?_append_left e]; exact hmk k q (by omega) hq i e
          · rw [List.getElem?_append_right (by omega), hmx]
            have : i = q.xs.length := by rw [hmr] at hNl; omega
            subst this
            simp
        have hOi : ∀ i, i < r.xs.length → q.xs[i]? = some (lsnR (0 - (k : Int))) := fun i hi => hmk k q (by omega) hq i (by omega)
        have i1 : MemN Ms m.a M2 := ⟨m, List.mem_of_getElem? hm, rfl, by rw [hM2, hmr]⟩
        have i2 : MemO Ms r.a q.xs := ⟨m, List.mem_of_getElem? hm, by rw [hmr, qa], by rw [hmr]⟩
        have hNn : M2.length = r.xs.length + 1 := by rw [← hNl, hmr, ql]
        clear hmr hmx hM2 qa qc
        repeat' (first
          | (refine spl_f (by with_reducible exact ndec_self _) ?_; conv => whnf)
          | (refine spl_f (by with_reducible exact nbeq_self _) ?_; conv => whnf)
          | (refine spl_t (by with_reducible exact beq_self _) ?_; conv => whnf)
          | (refine spl_dec (fun hd => ?_) (fun hd => ?_) <;> first | (exfalso; omega) | (conv => whnf))
          | (refine spl_ndec (fun hd => ?_) (fun hd => ?_) <;> first | (exfalso; omega) | (conv => whnf))
          | (refine spl_intro (fun hd => ?_) (fun hd => ?_) <;> (conv => whnf))
          | (refine Ld.i ?_; conv => whnf)
          | (refine LdN.i ?_; conv => whnf)
          | (refine St.i ⟨rfl, rfl⟩ (List.cons_ne_nil _ _) ?_; conv => whnf)
          | (refine Ar.i64 (by omega) ?_; conv => whnf)
          | (refine Ar.u64 (by omega) ?_; conv => whnf)
          | (refine Ar.i64d (by omega) (by omega) ?_; conv => whnf)
          | (refine Shr.i (by rfl) (by decide) ?_; conv => whnf)
          | (refine Shl.i (by rfl) (by decide) ?_; conv => whnf)
          | (refine Req.mk (by omega) ?_; conv => whnf)
          | (intro blk hblk; conv => whnf)
          | fail)
        refine LoopK.keep tab_ok (L := f_quotalaw19_UndoOwn.live) (ι := Nat) (fun i => i ≤ M2.length) (fun i => [(23, .int .i64 i)]) (fun i => M2.length - i) 0 (by simp) (fun t v h => h) ?_
        intro i hi5
        conv => whnf
        by_cases h7 : i < M2.length
        · have hn := hNi i h7
          have hls : (lsnR (0 - (k : Int))).lsn = 0 - (k : Int) := rfl
          by_cases h8 : i < r.xs.length
          · have ho := hOi i h8
            repeat' (first
              | (refine spl_f (by with_reducible exact ndec_self _) ?_; conv => whnf)
              | (refine spl_f (by with_reducible exact nbeq_self _) ?_; conv => whnf)
              | (refine spl_t (by with_reducible exact beq_self _) ?_; conv => whnf)
              | (refine spl_dec (fun hd => ?_) (fun hd => ?_) <;> first | (exfalso; omega) | (conv => whnf))
              | (refine spl_ndec (fun hd => ?_) (fun hd => ?_) <;> first | (exfalso; omega) | (conv => whnf))
              | (refine spl_intro (fun hd => ?_) (fun hd => ?_) <;> (conv => whnf))
              | (refine Ld.i ?_; conv => whnf)
              | (refine LdN.i ?_; conv => whnf)
              | (refine St.i ⟨rfl, rfl⟩ (List.cons_ne_nil _ _) ?_; conv => whnf)
              | (refine Ar.i64 (by omega) ?_; conv => whnf)
              | (refine Ar.u64 (by omega) ?_; conv => whnf)
              | (refine Ar.i64d (by omega) (by omega) ?_; conv => whnf)
              | (refine Shr.i (by rfl) (by decide) ?_; conv => whnf)
              | (refine Shl.i (by rfl) (by decide) ?_; conv => whnf)
              | (refine Req.mk (by omega) ?_; conv => whnf)
              | (intro blk hblk; conv => whnf)
              | (refine IxS.r (xs := Ms) (i := k) rfl lM.symm (by omega) (fun ab off ha => ?_); cases ha; conv => whnf)
              | (refine LdN.r hm rfl ?_; conv => whnf)
              | (refine Ld.r hm rfl ?_; conv => whnf)
              | (refine Ld.r0 hm rfl ?_; conv => whnf)
              | (refine LdN.rp hm ?_; conv => whnf)
              | (refine IxS.r (xs := Gs) (i := k) rfl lG.symm (by omega) (fun ab off ha => ?_); cases ha; conv => whnf)
              | (refine LdN.r hr rfl ?_; conv => whnf)
              | (refine Ld.r hr rfl ?_; conv => whnf)
              | (refine Ld.r0 hr rfl ?_; conv => whnf)
              | (refine LdN.rp hr ?_; conv => whnf)
              | (refine IxS.r (xs := M2) (i := i) rfl hNl h7 (fun ab off ha => ?_); have i1' := i1; rw [ha] at i1' ⊢; conv => whnf)
              | (refine LdN.r hn rfl ?_; conv => whnf)
              | (refine Ld.r hn rfl ?_; conv => whnf)
              | (refine Ld.r0 hn rfl ?_; conv => whnf)
              | (refine LdN.rp hn ?_; conv => whnf)
              | (refine IxS.r (xs := q.xs) (i := i) rfl ql.symm (by omega) (fun ab off ha => ?_); have i2' := i2; rw [ha] at i2' ⊢; conv => whnf)
              | (refine LdN.r ho rfl ?_; conv => whnf)
              | (refine Ld.r ho rfl ?_; conv => whnf)
              | (refine Ld.r0 ho rfl ?_; conv => whnf)
              | (refine LdN.rp ho ?_; conv => whnf)
              | fail)
            exact ⟨rfl, i + 1, h7, fun t v h => h, Imp.refl _, by omega⟩
          · repeat' (first
              | (refine spl_f (by with_reducible exact ndec_self _) ?_; conv => whnf)
              | (refine spl_f (by with_reducible exact nbeq_self _) ?_; conv => whnf)
              | (refine spl_t (by with_reducible exact beq_self _) ?_; conv => whnf)
              | (refine spl_dec (fun hd => ?_) (fun hd => ?_) <;> first | (exfalso; omega) | (conv => whnf))
              | (refine spl_ndec (fun hd => ?_) (fun hd => ?_) <;> first | (exfalso; omega) | (conv => whnf))
              | (refine spl_intro (fun hd => ?_) (fun hd => ?_) <;> (conv => whnf))
              | (refine Ld.i ?_; conv => whnf)
              | (refine LdN.i ?_; conv => whnf)
              | (refine St.i ⟨rfl, rfl⟩ (List.cons_ne_nil _ _) ?_; conv => whnf)
              | (refine Ar.i64 (by omega) ?_; conv => whnf)
              | (refine Ar.u64 (by omega) ?_; conv => whnf)
              | (refine Ar.i64d (by omega) (by omega) ?_; conv => whnf)
              | (refine Shr.i (by rfl) (by decide) ?_; conv => whnf)
              | (refine Shl.i (by rfl) (by decide) ?_; conv => whnf)
              | (refine Req.mk (by omega) ?_; conv => whnf)
              | (intro blk hblk; conv => whnf)
              | (refine IxS.r (xs := Ms) (i := k) rfl lM.symm (by omega) (fun ab off ha => ?_); cases ha; conv => whnf)
              | (refine LdN.r hm rfl ?_; conv => whnf)
              | (refine Ld.r hm rfl ?_; conv => whnf)
              | (refine Ld.r0 hm rfl ?_; conv => whnf)
              | (refine LdN.rp hm ?_; conv => whnf)
              | (refine IxS.r (xs := Gs) (i := k) rfl lG.symm (by omega) (fun ab off ha => ?_); cases ha; conv => whnf)
              | (refine LdN.r hr rfl ?_; conv => whnf)
              | (refine Ld.r hr rfl ?_; conv => whnf)
              | (refine Ld.r0 hr rfl ?_; conv => whnf)
              | (refine LdN.rp hr ?_; conv => whnf)
              | (refine IxS.r (xs := M2) (i := i) rfl hNl h7 (fun ab off ha => ?_); have i1' := i1; rw [ha] at i1' ⊢; conv => whnf)
              | (refine LdN.r hn rfl ?_; conv => whnf)
              | (refine Ld.r hn rfl ?_; conv => whnf)
              | (refine Ld.r0 hn rfl ?_; conv => whnf)
              | (refine LdN.rp hn ?_; conv => whnf)
              | fail)
            exact ⟨rfl, i + 1, h7, fun t v h => h, Imp.refl _, by omega⟩
        · repeat' (first
            | (refine spl_f (by with_reducible exact ndec_self _) ?_; conv => whnf)
            | (refine spl_f (by with_reducible exact nbeq_self _) ?_; conv => whnf)
            | (refine spl_t (by with_reducible exact beq_self _) ?_; conv => whnf)
            | (refine spl_dec (fun hd => ?_) (fun hd => ?_) <;> first | (exfalso; omega) | (conv => whnf))
            | (refine spl_ndec (fun hd => ?_) (fun hd => ?_) <;> first | (exfalso; omega) | (conv => whnf))
            | (refine spl_intro (fun hd => ?_) (fun hd => ?_) <;> (conv => whnf))
            | (refine Ld.i ?_; conv => whnf)
            | (refine LdN.i ?_; conv => whnf)
            | (refine St.i ⟨rfl, rfl⟩ (List.cons_ne_nil _ _) ?_; conv => whnf)
            | (refine Ar.i64 (by omega) ?_; conv => whnf)
            | (refine Ar.u64 (by omega) ?_; conv => whnf)
            | (refine Ar.i64d (by omega) (by omega) ?_; conv => whnf)
            | (refine Shr.i (by rfl) (by decide) ?_; conv => whnf)
            | (refine Shl.i (by rfl) (by decide) ?_; conv => whnf)
            | (refine Req.mk (by omega) ?_; conv => whnf)
            | (intro blk hblk; conv => whnf)
            | (refine IxS.r (xs := Ms) (i := k) rfl lM.symm (by omega) (fun ab off ha => ?_); cases ha; conv => whnf)
            | (refine LdN.r hm rfl ?_; conv => whnf)
            | (refine Ld.r hm rfl ?_; conv => whnf)
            | (refine Ld.r0 hm rfl ?_; conv => whnf)
            | (refine LdN.rp hm ?_; conv => whnf)
            | fail)
          exact ⟨rfl, k + 1, by omega, fun t v h => h, Imp.refl _, by omega⟩
      · repeat' (first
          | (refine spl_f (by with_reducible exact ndec_self _) ?_; conv => whnf)
          | (refine spl_f (by with_reducible exact nbeq_self _) ?_; conv => whnf)
          | (refine spl_t (by with_reducible exact beq_self _) ?_; conv => whnf)
          | (refine spl_dec (fun hd => ?_) (fun hd => ?_) <;> first | (exfalso; omega) | (conv => whnf))
          | (refine spl_ndec (fun hd => ?_) (fun hd => ?_) <;> first | (exfalso; omega) | (conv => whnf))
          | (refine spl_intro (fun hd => ?_) (fun hd => ?_) <;> (conv => whnf))
          | (refine Ld.i ?_; conv => whnf)
          | (refine LdN.i ?_; conv => whnf)
          | (refine St.i ⟨rfl, rfl⟩ (List.cons_ne_nil _ _) ?_; conv => whnf)
          | (refine Ar.i64 (by omega) ?_; conv => whnf)
          | (refine Ar.u64 (by omega) ?_; conv => whnf)
          | (refine Ar.i64d (by omega) (by omega) ?_; conv => whnf)
          | (refine Shr.i (by rfl) (by decide) ?_; conv => whnf)
          | (refine Shl.i (by rfl) (by decide) ?_; conv => whnf)
          | (refine Req.mk (by omega) ?_; conv => whnf)
          | (intro blk hblk; conv => whnf)
          | fail)
        refine Ret.eq rfl ?_
        first | exact Imp.refl _ | exact Imp.drop | exact Imp.fin | ((repeat (refine Imp.pick ?_)); first | exact Imp.refl _ | exact Imp.emp _ | exact Imp.fin)
end Go.Proofs.YtacpnjlijjgbmaaGreatDoor.undoOwn
