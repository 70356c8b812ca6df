/- The pool's calls wherever the store lies. Conditions: in each statement. -/
import Derived.Test.YtgcknlpkhhpkjaaGreatDoorPart31
import Derived.Test.YtgcknlpkhhpkjaaGreatDoorPart6
import Derived.SizedLaws
import Derived.Test.YtgcknlpkhhpkjaaGreatDoorRows
import Derived.ProofKit
import Derived.LaidMore
import Derived.LaidSub
import Derived.OpenShut
import Derived.Stop.Joined
import Derived.Test.YtgcknlpkhhpkjaaGreatDoorTie
import Derived.Test.YtgcknlpkhhpkjaaGreatDoorCards
import Derived.SevenTiedAt
namespace Go.Proofs.YtgcknlpkhhpkjaaGreatDoor
open Go Go.SL Go.SL.Sec Go.SL.Fld Go.SL.Pts Go.SL.Rec Go.SL.Twn Go.SL.Pg Go.SL.Mst Go.SL.Pool
theorem nodup_bd : ∀ (N : Nat) (l : List Int), l.Nodup → (∀ x ∈ l, 0 ≤ x ∧ x < (N : Int)) → l.length ≤ N
  | 0, [], _, _ => Nat.le_refl _
  | 0, x :: l, _, h => by have := h x List.mem_cons_self; omega
  | N + 1, l, hn, h => by
    have h1 : l.length ≤ (l.erase (N : Int)).length + 1 := by rw [List.length_erase]; split <;> omega
    have h2 := nodup_bd N (l.erase (N : Int)) (hn.erase _) fun x hx => by
      obtain ⟨k1, k2⟩ := hn.mem_erase_iff.1 hx
      have := h x k2
      omega
    omega
section
variable {W : World} {H R : HProp} {p : Nat} {S : StoX}
theorem StoX.Ok.held {S : StoX} (h : S.Ok) : S.P.held.length ≤ 1000000 ∧ ∀ x ∈ S.P.held, 0 ≤ x.1 ∧ x.1 ≤ 1000000 := by
  have hm := h.val.may
  unfold MayP at hm
  have hk : ∀ x ∈ S.P.held, 0 ≤ x.1 ∧ x.1 < S.P.pages := fun x hx => (h.val.fr x.1 x.2.val (look_val (lookup_of_mem x.1 x.2 _ h.nd hx))).key
  have hp : S.val.P.pages = S.P.pages := rfl
  refine ⟨?_, fun x hx => ?_⟩
  · have h1 := nodup_bd 64 (S.P.held.map (·.1)) h.nd fun z hz => by
      obtain ⟨x, hx, rfl⟩ := List.mem_map.1 hz
      have := hk x hx
      omega
    rw [List.length_map] at h1
    omega
  · have := hk x hx
    omega
theorem sget_spec {n : Int} [le : LaidE W] [lc : LaidC W] [lp : LaidP W] [t : ObjC stoo H p S R] [oc : OldC W R] (hS : S.Ok) (hc : 0 ≤ S.P.clock ∧ S.P.clock ≤ 1000000000) :
    Does prog W f_pool_Pool_Get ⟨[ptr p, .int .i64 n]⟩ H (Ret (GetE p n S (S.val.get n) R)) := by rw [t.h.eq]; exact pget_spec hS hc
theorem sput_spec {num lsn : Int} {ca ga : Option Addr} {nC cc nG gc : Nat} {C : List CntV} {G : List GrpV} [le : LaidE W] [lc : LaidC W] [lp : LaidP W] [t : ObjC stoo H p S R] [oc : OldC W R] [rc : RowN W R ca nC 5 cntv C] [rg : RowN W R ga nG 2 grpv G] (hC : C.length ≤ 1000000000) (hG : G.length ≤ 1000000000) (hS : S.Ok) (hi : PgM.In ⟨num, lsn, C, G⟩) (hc : 0 ≤ S.P.clock ∧ S.P.clock ≤ 1000000000) :
    Does prog W f_pool_Pool_Put ⟨[ptr p, .agg ⟨[.int .i64 num, .int .i64 lsn, .slice ca nC cc, .slice ga nG gc]⟩]⟩ H (Ret (StoE p S wPut num (S.val.put ⟨num, lsn, C, G⟩) R)) := by rw [t.h.eq]; exact pput_spec hC hG hS hi hc
theorem sunpin_spec {n : Int} [t : ObjC stoo H p S R] (hS : S.Ok) (hp : ∀ f, S.P.held.lookup n = some f → -1000000000 ≤ f.pins ∧ f.pins ≤ 1000000000) :
    Does prog W f_pool_Pool_Unpin ⟨[ptr p, .int .i64 n]⟩ H (Ret (StoQ p S (S.val.unpin n) R)) := by rw [t.h.eq]; exact punpin_spec hS hp
theorem sheld_spec [t : ObjC stoo H p S R] (hS : S.Ok) :
    Does prog W f_pool_Pool_Held ⟨[ptr p]⟩ H (Ret fun v G => ∃ a c, v = .slice a S.P.held.length c ∧ G = (vec t_int 1 ints a c (sortI (S.P.held.map (·.1))) • stoo p S • R)) := by
  rw [t.h.eq, stoo_eq]
  exact pheld_spec hS.held.1 hS.held.2
theorem sdirty_spec [t : ObjC stoo H p S R] (hS : S.Ok) :
    Does prog W f_pool_Pool_Dirty ⟨[ptr p]⟩ H (Ret fun v G => ∃ a c, v = .slice a (S.val.P.dirtyL (sortI (S.P.held.map (·.1)))).length c ∧ G = (vec t_api_Dirty 2 dirtyv a c (S.val.P.dirtyL (sortI (S.P.held.map (·.1)))) • stoo p S • R)) := by
  rw [t.h.eq, stoo_eq]
  exact pdirty_spec hS.nd hS.held.1 hS.held.2
theorem sbeg_spec {l : Nat} {b : Int} [t : ObjC stoo H p S R] (hl : S.P.l = l) (hS : S.Ok) (he : S.L.err = none) (hb : 1 ≤ b ∧ b ≤ 1000000) :
    Does prog W f_log_Log_Append ⟨[ptr l, recA (begR b)]⟩ H (Ret fun v G => ∃ S' : StoX, S'.Ok ∧ S.Same S' ∧ S'.val = (S.val.beg b).2 ∧ v = .tuple ⟨[.int .i64 (if (S.val.beg b).1 = 0 then (S.L.recs.length : Int) + 1 else 0), .int .i64 (S.val.beg b).1]⟩ ∧ G = (stoo p S' • R)) := by
  subst hl
  rw [t.h.eq]
  exact pbeg_spec hS he hb
theorem sforced_spec {l : Nat} [t : ObjC stoo H p S R] (hl : S.P.l = l) : Does prog W f_log_Log_Forced ⟨[ptr l]⟩ H (Ret fun v G => v = .int .i64 S.L.forced ∧ G = (stoo p S • R)) := by
  subst hl
  rw [t.h.eq, stoo_eq]
  refine (forced_spec (X := S.L) (l := S.P.l)).post fun en w H' hs hQ => ?_
  obtain ⟨v, G, h1, h2, rfl, rfl⟩ := hQ
  exact ⟨H', hs, _, _, h1, h2, rfl, (star_left_comm _ _ _).symm⟩
end
end Go.Proofs.YtgcknlpkhhpkjaaGreatDoor
/- The law's first line, walked. Conditions: in each statement. -/
namespace Go.Proofs.YtgcknlpkhhpkjaaGreatDoor
open Go Go.SL Go.SL.Sec Go.SL.Fld Go.SL.Pts Go.SL.Rec Go.SL.Twn Go.SL.Pg Go.SL.Mst Go.SL.Pool
theorem sortI_of {l : List Int} (h : l.Pairwise fun a b => leI a b = true) : sortI l = l := List.mergeSort_of_pairwise h
theorem StoX.keys {S : StoX} {T : Sto} {P : PoolM} (h : S.val = T) (k : T.P = P) : S.P.held.map (·.1) = P.held.map (·.1) := by
  rw [← k, ← h]
  exact (mapv_keys _ _).symm
theorem qnum_spec {W : World} {H : HProp} {e : Int} : Does prog W f_quotalaw09_num ⟨[.int .i64 e]⟩ H (Ret fun v G => v = .int .i64 e ∧ G = H) := by
  refine f_quotalaw09_num.does _ ?_
  conv => whnf
  skip
  refine Ret.eq rfl ?_
  first | exact Imp.refl _ | exact Imp.drop | exact Imp.fin | ((repeat (refine Imp.pick ?_)); first | exact Imp.refl _ | exact Imp.emp _ | exact Imp.fin)
theorem StoX.errn {S : StoX} {T : Sto} (h : S.val = T) (k : T.L.err = none) : S.L.err = none := by
  have e : S.val.L.err = S.L.err.map (·.2) := rfl
  rw [h, k] at e
  exact Option.map_eq_none_iff.1 e.symm
set_option maxHeartbeats 4000000 in
-- @noauto
theorem awake_spec {W : World} {R : HProp} [le : LaidE W] [lc : LaidC W] [lp : LaidP W] [oc : OldC W R] : Does prog W f_quotalaw09_awake ⟨[]⟩ R (Ret fun v G => v = .bool true ∧ G = R) := by
  have hm : MayP 3 4 2 := by unfold MayP; decide
  obtain ⟨T1, T2, T3, T4, T5, T6, e1, p1, e2, p2, e3, p3, e4, p4, e5, p5, f5', e6, p6, e7⟩ := awake_run
  refine f_quotalaw09_awake.does ?_
  conv => whnf
  repeat' (first
    | (refine St.i ⟨rfl, rfl⟩ (List.cons_ne_nil _ _) ?_; conv => whnf)
    | (intro blk hblk; conv => whnf)
    | fail)
  refine CallK.ret f_sectors_New.ok (new_yes (n := 15) (by decide)) ?_
  rintro v G ⟨d, a, c, hc, rfl, rfl⟩
  obtain ⟨t1, ht1⟩ : ∃ t1, t1 = blk := ⟨_, rfl⟩
  rw [← ht1]
  have hXok : (freshX a c (List.replicate ((15 : Int) * 512).toNat 0)).Ok := fresh_ok (by rw [List.length_replicate]; decide) (by rw [List.length_replicate]; decide) (Byt.rep _) hc
  obtain ⟨X, hX⟩ : ∃ X, X = freshX a c (List.replicate ((15 : Int) * 512).toNat 0) := ⟨_, rfl⟩
  have hXv : X.val = zeroD 15 := by rw [hX]; rfl
  have hXd : X.down = false := by rw [hX]; rfl
  have hXp : X.ps = [] := by rw [hX]; rfl
  rw [← hX] at hXok ⊢
  have hop : openF X.val 11 4 = ((0, 0), ⟨11, 4, [], [], 0, none⟩, zeroD 15) := by rw [hXv]; exact openF_zero (fun i hi => by omega)
  conv => whnf
  repeat' (first
    | (refine CallK.ret f_quotalaw09_num.ok qnum_spec ?_; rintro v G ⟨rfl, rfl⟩; conv => whnf)
    | fail)
  refine CallK.ret f_log_Open.ok (open_spec (X := X) (first := 11) (n := 4) hXok hXd hXp (by decide) (by decide) (by rw [hXv, zeroD_secs (by decide)]; decide)) ?_
  rw [hop]
  rintro v G ⟨L, Y, hLd, hY, hLv, hLok, hYv, hYp, ⟨h0, l, rfl, rfl⟩ | ⟨h0, _⟩⟩
  rotate_left
  · exact absurd rfl h0
  conv => whnf
  repeat' (first
    | (refine LdN.i ?_; conv => whnf)
    | fail)
  refine CallK.imp (H' := devo d Y • logo l L • pts t1 (.cells ⟨[.int .i64 3, .int .i64 4, .int .i64 2]⟩ t_api_Shape) • R) (by first | exact Imp.refl _ | exact Imp.drop | exact Imp.fin | ((repeat (refine Imp.pick ?_)); first | exact Imp.refl _ | exact Imp.emp _ | exact Imp.fin)) ?_
  refine CallK.ret f_pool_New.ok (pnew_spec (X := Y) (p := 3) (lg := 4) (f := 2) hY hm (by rw [hYv]; exact zeroD_secs (by decide))) ?_
  rintro v G ⟨p, r, rfl, rfl⟩
  obtain ⟨S, hS⟩ : ∃ S : StoX, S = ⟨pool0 d l 3 4 2 r, L, Y⟩ := ⟨_, rfl⟩
  have hSv : S.val = sto0 3 4 2 := by rw [hS]; show (⟨_, L.val, Y.val⟩ : Sto) = _; rw [hLv, hYv]; rfl
  have hSl : S.P.l = l := by rw [hS]
  have hSok : S.Ok := by rw [hS] at hSv ⊢; exact ⟨by rw [hSv]; exact ok0 hm, hLok rfl, hY, hLd⟩
  conv => whnf
  repeat' (first
    | (refine CallK.ret f_pool_New.ok pnew_nil ?_; rintro v G ⟨rfl, rfl⟩; conv => whnf)
    | (refine LdN.i ?_; conv => whnf)
    | (refine CallK.ret f_quotalaw09_num.ok qnum_spec ?_; rintro v G ⟨rfl, rfl⟩; conv => whnf)
    | fail)
  refine CallK.imp (H' := stoo p S • R) ?_ ?_
  · refine Imp.stoo (l := l) (d := d) hSl (by rw [hS]) ?_
    rw [hS]
    first | exact Imp.refl _ | exact Imp.drop | exact Imp.fin | ((repeat (refine Imp.pick ?_)); first | exact Imp.refl _ | exact Imp.emp _ | exact Imp.fin)
  have hb1 : (S.val.beg 1).1 = 0 := by rw [hSv, e1]
  have hb2 : (S.val.beg 1).2 = T1 := by rw [hSv, e1]
  have hr0 : (S.L.recs.length : Int) = 0 := by
    have h1 : S.L.val.recs.length = S.L.recs.length := List.length_map ..
    have h2 : S.L.val = (sto0 3 4 2).L := congrArg Sto.L hSv
    rw [h2] at h1
    exact_mod_cast h1.symm
  refine CallK.ret f_log_Log_Append.ok (sbeg_spec (p := p) (b := 1) hSl hSok (StoX.errn hSv rfl) (by decide)) ?_
  rw [hb1, hb2, if_pos rfl, hr0]
  rintro v G ⟨S1, k1, m1, v1, rfl, rfl⟩
  conv => whnf
  skip
  have c1 : S1.P.clock = 0 := by have := congrArg (fun T : Sto => T.P.clock) v1; rw [p1] at this; exact this
  refine CallK.ret f_pool_Pool_Get.ok (sget_spec (S := S1) k1 (by rw [c1]; decide)) ?_
  rw [v1, e2]
  rintro v G ⟨S2, k2, m2, v2, ⟨_, f2, ⟨x2, ca2, cc2, ga2, gc2⟩, hl2, hx2, rfl, rfl⟩ | ⟨h0, _⟩⟩
  rotate_left
  · exact absurd rfl h0
  have hf2 : f2.pg.m = last0 0 := by
    have h1 := look_val hl2
    have h2 : S2.P.val = pA1 := by have := congrArg Sto.P v2; rw [← p2]; exact this
    rw [h2] at h1
    exact (congrArg FrM.pg (Option.some.inj h1)).symm
  dsimp only at hx2
  rw [hf2] at hx2
  subst hx2
  have c2 : S2.P.clock = 1 := by have := congrArg (fun T : Sto => T.P.clock) v2; rw [p2] at this; exact this
  haveI rg : ∀ (b : Nat) (Q : HProp), RowN W (pts b (.cells ⟨[.int .i64 5, .int .i64 (-3)]⟩ t_api_Group) • Q) (some ⟨b, 0, none⟩) 1 2 grpv [⟨5, -3⟩] := fun b Q => ⟨RowC.pts SizedC.h _ rfl, rfl⟩
  have hz : ∀ (Q : HProp), RowN W Q none 0 5 cntv [] := fun Q => ⟨⟨fun w hs i x hx => by cases hx⟩, rfl⟩
  conv => whnf
  repeat' (first
    | (refine CallK.ret f_quotalaw09_num.ok qnum_spec ?_; rintro v G ⟨rfl, rfl⟩; conv => whnf)
    | (refine Ld.i ?_; conv => whnf)
    | (refine St.i ⟨rfl, rfl⟩ (List.cons_ne_nil _ _) ?_; conv => whnf)
    | (intro blk hblk; conv => whnf)
    | fail)
  have v2' : S2.val = T2 := v2
  refine CallK.ret f_pool_Pool_Put.ok (sput_spec (S := S2) (num := 0) (lsn := 1) (C := []) (G := [⟨5, -3⟩]) (by decide) (by decide) k2 ⟨by unfold In64; decide, by unfold In64; decide, fun c hc => (by cases hc), fun c hc => by cases List.mem_singleton.1 hc; unfold GrpIn In64; decide⟩ (by rw [c2]; decide)) ?_
  rw [v2', show (⟨0, 1, [], [⟨5, -3⟩]⟩ : PgM) = xA from rfl, e3]
  rintro v G ⟨S3, k3, m3, v3, ⟨_, rfl, rfl⟩ | ⟨h0, _⟩⟩
  rotate_left
  · exact absurd rfl h0
  have v3' : S3.val = T3 := v3
  conv => whnf
  skip
  have d3 : S3.val.P.dirtyL (sortI (S3.P.held.map (·.1))) = [(0, 1)] := by
    rw [StoX.keys v3' p3, v3', p3]
    show PoolM.dirtyL pA2 (sortI [0]) = _
    rw [sortI_of (by decide)]
    rfl
  refine CallK.ret f_pool_Pool_Dirty.ok (sdirty_spec (S := S3) k3) ?_
  rw [d3]
  rintro v G ⟨da, dc, rfl, rfl⟩
  conv => whnf
  skip
  have c3 : S3.P.clock = 2 := by have := congrArg (fun T : Sto => T.P.clock) v3'; rw [p3] at this; exact this
  refine CallK.ret f_pool_Pool_Get.ok (sget_spec (S := S3) k3 (by rw [c3]; decide)) ?_
  rw [v3', e4]
  rintro v G ⟨S4, k4, m4, v4, ⟨_, f4, x4, hl4, hx4, rfl, rfl⟩ | ⟨h0, _⟩⟩
  rotate_left
  · exact absurd rfl h0
  have v4' : S4.val = T4 := v4
  conv => whnf
  skip
  have c4 : S4.P.clock = 3 := by have := congrArg (fun T : Sto => T.P.clock) v4'; rw [p4] at this; exact this
  refine CallK.ret f_pool_Pool_Get.ok (sget_spec (S := S4) k4 (by rw [c4]; decide)) ?_
  rw [v4', e5]
  rintro v G ⟨S5, k5, m5, v5, ⟨_, f5, x5, hl5, hx5, rfl, rfl⟩ | ⟨h0, _⟩⟩
  rotate_left
  · exact absurd rfl h0
  have v5' : S5.val = T5 := v5
  have hk5 : S5.P.held.map (·.1) = [1, 2] := StoX.keys v5' p5
  have hn5 : S5.P.held.length = 2 := by have := congrArg List.length hk5; simpa using this
  have hs5 : sortI [1, 2] = [1, 2] := sortI_of (by decide)
  conv => whnf
  repeat' (first
    | (refine St.i ⟨rfl, rfl⟩ (List.cons_ne_nil _ _) ?_; conv => whnf)
    | (intro blk hblk; conv => whnf)
    | fail)
  refine CallK.ret f_pool_Pool_Held.ok (sheld_spec (S := S5) k5) ?_
  rw [hk5, hn5, hs5]
  rintro v G ⟨ha, hcc, rfl, rfl⟩
  conv => whnf
  skip
  refine CallK.ret f_pool_Pool_Held.ok (sheld_spec (S := S5) k5) ?_
  rw [hk5, hn5, hs5]
  rintro v G ⟨hb, hcb, rfl, rfl⟩
  conv => whnf
  repeat' (first
    | (refine IxS.r (xs := ([1, 2] : List Int)) (i := 0) rfl rfl (by decide) (fun ab off ha => ?_); subst ha; conv => whnf)
    | (refine Ld.r0 (xs := ([1, 2] : List Int)) (i := 0) (x := 1) rfl rfl ?_; conv => whnf)
    | fail)
  have d5 : S5.val.P.dirtyL (sortI (S5.P.held.map (·.1))) = [] := by
    rw [hk5, hs5, v5', p5]
    rfl
  refine CallK.ret f_pool_Pool_Dirty.ok (sdirty_spec (S := S5) k5) ?_
  rw [d5]
  rintro v G ⟨db, dcb, rfl, rfl⟩
  conv => whnf
  skip
  have hF : S5.L.forced = 1 := by have := congrArg (fun T : Sto => T.L.forced) v5'; rw [f5'] at this; exact this
  have hl5' : S5.P.l = l := by rw [m5.l, m4.l, m3.l, m2.l, m1.l]; exact hSl
  refine CallK.ret f_log_Log_Forced.ok (sforced_spec (p := p) (S := S5) hl5') ?_
  rw [hF]
  rintro v G ⟨rfl, rfl⟩
  conv => whnf
  skip
  have c5 : S5.P.clock = 4 := by have := congrArg (fun T : Sto => T.P.clock) v5'; rw [p5] at this; exact this
  refine CallK.ret f_pool_Pool_Get.ok (sget_spec (S := S5) k5 (by rw [c5]; decide)) ?_
  rw [v5', e6]
  rintro v G ⟨S6, k6, m6, v6, ⟨_, f6, ⟨x6, ca6, cc6, ga6, gc6⟩, hl6, hx6, rfl, rfl⟩ | ⟨h0, _⟩⟩
  rotate_left
  · exact absurd rfl h0
  have v6' : S6.val = T6 := v6
  have hf6 : f6.val = ⟨xA, 0, false, 0, 5⟩ := by
    have h1 := look_val hl6
    have h2 : S6.P.val = pA5 := by have := congrArg Sto.P v6'; rw [← p6]; exact this
    rw [h2] at h1
    exact (Option.some.inj h1).symm
  have hm6 : f6.pg.m = xA := congrArg FrM.pg hf6
  have hp6 : f6.pins = 0 := congrArg FrM.pins hf6
  dsimp only at hx6
  rw [hm6] at hx6
  subst hx6
  rw [pgc_eq]
  have hg0 : ([⟨5, -3⟩] : List GrpV)[0]? = some ⟨5, -3⟩ := rfl
  haveI rg6 : ∀ (R' : HProp), RowC W (vec t_api_Group 2 grpv ga6 gc6 xA.G • R') ga6 2 grpv [⟨5, -3⟩] := fun R' => inferInstanceAs (RowC W (vec t_api_Group 2 grpv ga6 gc6 [⟨5, -3⟩] • R') ga6 2 grpv [⟨5, -3⟩])
  conv => whnf
  repeat' (first
    | (refine Ld.i ?_; conv => whnf)
    | (refine St.i ⟨rfl, rfl⟩ (List.cons_ne_nil _ _) ?_; conv => whnf)
    | (refine IxS.r (xs := ([⟨5, -3⟩] : List GrpV)) (i := 0) rfl rfl (by decide) (fun ab off ha => ?_); cases ha; conv => whnf)
    | (refine Ld.r hg0 rfl ?_; conv => whnf)
    | fail)
  refine CallK.ret f_pool_Pool_Unpin.ok (sunpin_spec (S := S6) k6 (fun f hf => by rw [hl6] at hf; cases hf; rw [hp6]; decide)) ?_
  rw [v6', e7]
  rintro v G ⟨S7, k7, m7, v7, rfl, rfl⟩
  conv => whnf
  repeat' (first
    | (refine CallK.ret f_quotalaw09_num.ok qnum_spec ?_; rintro v G ⟨rfl, rfl⟩; conv => whnf)
    | fail)
  exact ⟨_, _, rfl, (by first | exact Imp.refl _ | exact Imp.drop | exact Imp.fin | ((repeat (refine Imp.pick ?_)); first | exact Imp.refl _ | exact Imp.emp _ | exact Imp.fin)), rfl, rfl⟩
end Go.Proofs.YtgcknlpkhhpkjaaGreatDoor
/- What an argument of any shape holds: numbers, bools, structs, slices, one inside the other; and that no slice is greater than a machine. No condition. -/
namespace Go.SL
open Go Go.RowKit
section
variable {H : Type} {enc : TypeId × Value → H} {P : Program} {W : World}
/-- The cells read as the datum. -/
def DecR (enc : TypeId × Value → H) (P : Program) (W : World) (t : TypeId) (cs : List Value) (d : DataW H) : Prop := ∃ n ps, DataW.trod enc P W 0 (fun _ => true) true n t cs = some (d, ps)
/-- No part of it is greater than a machine's memory. -/
def Fits (P : Program) (t : TypeId) (d : DataW H) : Prop := ∀ n ∈ d.weights P t, n ≤ reachBytes
theorem DecR.of_trod {t : TypeId} {v : Value} {d : DataW H} {ps : List MemPlace} (h : DataW.Trod enc P W 0 (fun _ => true) true t v d ps) : DecR enc P W t v.cells.toList d := by
  obtain ⟨n, hn⟩ := h
  exact ⟨n, ps, hn⟩
theorem DecR.int {t : TypeId} {k : IntKind} {cs : List Value} {d : DataW H} (ht : P.underlying t = some (.int k)) (h : DecR enc P W t cs d) : ∃ z, cs = [.int k z] ∧ (Lit.int k z).wf = true := by
  obtain ⟨n, ps, h⟩ := h
  obtain ⟨z, h1, _, h2⟩ := DataW.trod_int ht h
  exact ⟨z, h1, h2⟩
theorem DecR.bool {t : TypeId} {cs : List Value} {d : DataW H} (ht : P.underlying t = some .bool) (h : DecR enc P W t cs d) : ∃ z, cs = [.bool z] := by
  obtain ⟨n, ps, h⟩ := h
  obtain ⟨z, h1, _⟩ := DataW.trod_bool ht h
  exact ⟨z, h1⟩
theorem DecR.string {t : TypeId} {cs : List Value} {d : DataW H} (ht : P.underlying t = some .string) (h : DecR enc P W t cs d) : ∃ s, cs = [.string s] ∧ s.size ≤ maxLen ∧ (Fits P t d → s.size ≤ reachBytes) := by
  obtain ⟨n, ps, h⟩ := h
  cases n with
  | zero => simp [DataW.trod] at h
  | succ n =>
    simp only [DataW.trod, ht] at h
    split at h <;> try (rename_i e _; cases e; done)
    all_goals first
      | (rename_i s heq; cases heq)
      | skip
    all_goals first
      | (split at h
         · rename_i hs
           cases h
           exact ⟨_, rfl, hs, fun hf => by simpa using hf _ (by simp [DataW.weights])⟩
         · cases h)
      | simp_all
/-- A struct: field by field. -/
theorem DecR.struct {t : TypeId} {fs : Array Field} {cs : List Value} {d : DataW H} (ht : P.underlying t = some (.struct fs)) (h : DecR enc P W t cs d) :
    cs.length = P.cellsOf t ∧ ∀ (i : Nat) (f : Field), fs.toList[i]? = some f → ∃ y, DecR enc P W f.type ((cs.drop f.offset).take (P.cellsOf f.type)) y ∧ (Fits P t d → Fits P f.type y) := by
  obtain ⟨n, ps, h⟩ := h
  cases n with
  | zero => simp [DataW.trod] at h
  | succ k =>
    simp only [DataW.trod, ht] at h
    split at h
    · rename_i hl
      obtain ⟨xs, hxs, he⟩ := Option.map_eq_some_iff.1 h
      have hd : d = .agg (xs.map (·.1)) := by cases he; rfl
      subst hd
      have key : ∀ (l : List Field) (ys : List (DataW H × List MemPlace)), l.mapM (fun f => DataW.trod enc P W 0 (fun _ => true) true k f.type ((cs.drop f.offset).take (P.cellsOf f.type))) = some ys →
          ∀ (i : Nat) (f : Field), l[i]? = some f → ∃ y, ys[i]? = some y ∧ DataW.trod enc P W 0 (fun _ => true) true k f.type ((cs.drop f.offset).take (P.cellsOf f.type)) = some y := by
        intro l
        induction l with
        | nil => intro _ _ i f hf; simp at hf
        | cons g l ih =>
          intro ys hys i f hf
          simp only [List.mapM_cons, Option.bind_eq_bind, Option.bind_eq_some_iff] at hys
          obtain ⟨y, hy, ys', hys', e⟩ := hys
          cases e
          cases i with
          | zero => simp at hf; subst hf; exact ⟨y, rfl, hy⟩
          | succ i =>
            obtain ⟨z, h1, h2⟩ := ih ys' hys' i f (by simpa using hf)
            exact ⟨z, by simpa using h1, h2⟩
      refine ⟨hl, fun i f hf => ?_⟩
      obtain ⟨y, h1, h2⟩ := key _ _ hxs i f hf
      refine ⟨y.1, ⟨k, y.2, by rw [h2]⟩, fun hb m hm => hb m ?_⟩
      simp only [DataW.weights, ht]
      exact DataW.weights_mem_each (j := i) (by simp [hf]) (by simp [h1]) m hm
    · cases h
theorem weightsAll_mem : ∀ {e : TypeId} {ds : List (DataW H)} {j : Nat} {d : DataW H}, ds[j]? = some d → ∀ n ∈ d.weights P e, n ∈ DataW.weightsAll P e ds
  | e, d0 :: ds, 0, d, hd, n, hn => by
    simp only [List.getElem?_cons_zero, Option.some.injEq] at hd
    subst hd
    simp only [DataW.weightsAll, List.mem_append]
    exact Or.inl hn
  | e, d0 :: ds, j + 1, d, hd, n, hn => by
    simp only [List.getElem?_cons_succ] at hd
    simp only [DataW.weightsAll, List.mem_append]
    exact Or.inr (weightsAll_mem hd n hn)
  | _, [], _, _, hd, _, _ => by simp at hd
/-- A slice: element by element. -/
theorem DecR.slice {α : Type} {Ok : α → Prop} {enc' : α → List Value} {t e : TypeId} {cs : List Value} {d : DataW H} (ht : P.underlying t = some (.slice e)) (dec : ∀ cs d, DecR enc P W e cs d → Fits P e d → ∃ x, Ok x ∧ cs = enc' x)
    (hsz : ∀ x, (enc' x).length = P.cellsOf e) (hpos : 0 < P.cellsOf e) (h : DecR enc P W t cs d) (hb : Fits P t d) :
    ∃ a len cap xs, cs = [.slice a len cap] ∧ OldVec W (P.cellsOf e) enc' a len cap xs ∧ (∀ x ∈ xs, Ok x) ∧ cap * P.bytesOf e ≤ reachBytes := by
  obtain ⟨n, ps, hf⟩ := h
  rcases Deep.open_slice ht hf with ⟨rfl, _⟩ | ⟨a', len', cap', m, n, D, Pl, rfl, _, hl, hm, hmm, hx0, hx⟩
  · exact ⟨none, 0, 0, [], rfl, ⟨rfl, ⟨Nat.le_refl _, Nat.zero_le _⟩, fun i x h => by simp at h⟩, fun x h => by simp at h, by simp⟩
  · simp only [if_true] at hmm
    subst hmm
    have hd : d = .slice ((List.range len').map D) ((List.range (m - len')).map fun j => D (len' + j)) := by cases hx0; rfl
    subst hd
    have hw : (len' + (m - len')) * P.bytesOf e ≤ reachBytes := hb _ (by simp [DataW.weights, ht])
    have hfit : ∀ i, i < len' → Fits P e (D i) := fun i hi q hq => hb q (by
      simp only [DataW.weights, ht, List.mem_cons, List.mem_append]
      exact Or.inr (Or.inl (weightsAll_mem (j := i) (by simp [hi]) q hq)))
    obtain ⟨xs, h1, h2⟩ := list_of (p := fun i (x : α) => Ok x ∧ W.cells? 0 (a'.add (i * P.cellsOf e)) (P.cellsOf e) = some (enc' x)) len' fun i hi => by
      obtain ⟨cs', h3, h4⟩ := hx i (by omega)
      obtain ⟨x, hok, rfl⟩ := dec _ _ ⟨_, _, h4⟩ (hfit i hi)
      exact ⟨x, hok, h3⟩
    refine ⟨some a', len', m, xs, rfl, ⟨h1.symm, ⟨hl, hm⟩, fun i x hi => ?_⟩, fun x hx => ?_, by rwa [show len' + (m - len') = m by omega] at hw⟩
    · obtain ⟨_, h3⟩ := h2 i x hi
      obtain ⟨_, h4, h5⟩ := World.cells?_some h3
      obtain ⟨b, off, sp⟩ := a'
      have h6 : sp = none := by
        obtain ⟨x0, hx0⟩ : ∃ x0, xs[0]? = some x0 := by
          cases xs with
          | nil => simp at hi
          | cons y ys => exact ⟨y, rfl⟩
        obtain ⟨_, h3'⟩ := h2 0 x0 hx0
        obtain ⟨_, _, h5'⟩ := World.cells?_some h3'
        have h7 := h5' 0 hpos
        have h8 : 0 < (enc' x0).length := by rw [hsz]; exact hpos
        rw [List.getElem?_eq_getElem h8] at h7
        simp only [Nat.zero_mul, Addr.add, if_true] at h7
        unfold World.cell? at h7
        split at h7
        · cases sp with
          | none => rfl
          | some k => simp at h7
        · cases h7
      subst h6
      refine ⟨b, off, rfl, fun j v hj => ?_⟩
      have hjl : j < P.cellsOf e := by
        rcases Nat.lt_or_ge j (enc' x).length with h | h
        · rw [← hsz x]; exact h
        · simp [List.getElem?_eq_none h] at hj
      have := h5 j hjl
      rw [hj, Addr.add_eq, Addr.add_eq] at this
      exact this
    · obtain ⟨i, hi⟩ := List.getElem?_of_mem hx
      exact (h2 i x hi).1
/-- A value that is its own cells. -/
theorem DecR.agg {t : TypeId} {fs : Array Field} {r : Reach} {b0 : Nat} {v : Value} {d : DataW H} {ps : List MemPlace} (ht : P.underlying t = some (.struct fs)) (hval : Value.okWide P W r b0 t v) (hd : DataW.Trod enc P W 0 (fun _ => true) true t v d ps) :
    ∃ cs, v = .agg ⟨cs⟩ ∧ DecR enc P W t cs d := by
  simp only [Value.okWide, ht] at hval
  obtain ⟨⟨cs⟩, rfl, _⟩ := hval
  obtain ⟨fuel, hf⟩ := hd
  exact ⟨cs, rfl, fuel, ps, hf⟩
theorem DecR.num {t : TypeId} {k : IntKind} {r : Reach} {b0 : Nat} {v : Value} {d : DataW H} {ps : List MemPlace} (ht : P.underlying t = some (.int k)) (hval : Value.okWide P W r b0 t v) (hd : DataW.Trod enc P W 0 (fun _ => true) true t v d ps) :
    ∃ z, v = .int k z ∧ (Lit.int k z).wf = true := by
  obtain ⟨n, rfl⟩ := WideShapes.okWide_int ht hval
  obtain ⟨z, h1, h2⟩ := DecR.int ht (DecR.of_trod hd)
  simp [Value.cells] at h1
  subst h1
  exact ⟨n, rfl, h2⟩
end
end Go.SL
/- What the listed package-level variables hold at the start. No condition. -/
namespace Go.SL
open Go
theorem cell_spot {w : World} {a : Addr} {v : Value} (h : w.cell? a = some v) : a.spot = none := by
  obtain ⟨b, off, sp⟩ := a
  unfold World.cell? at h
  split at h
  · cases sp with
    | none => rfl
    | some k => simp at h
  · cases h
theorem var_cell {P : Program} {w : World} {n : String} {g : Nat} {cs : Array Value} (hg : P.globalNamed n = some g) (h : w.var? P n = some cs) (j : Nat) : w.cell? ⟨g, j, none⟩ = cs[j]? := by
  unfold World.var? at h
  rw [hg] at h
  dsimp only [Option.bind_some] at h
  unfold World.cell?
  split at h
  · rename_i c t z hh
    dsimp only
    rw [hh]
    cases h
    rfl
  · cases h
section
variable {H : Type} {enc : TypeId × Value → H} {P : Program} {w : World} {base : Nat} {sp : Nat → Bool} {held : Bool}
theorem laid_ints {t e : TypeId} {fuel : Nat} {cs : List Value} {xs : List Int} {p : List MemPlace} (ht : P.underlying t = some (.slice e)) (he : P.underlying e = some (.int .i64)) (hc : P.cellsOf e = 1)
    (h : DataW.trod enc P w base sp held fuel t cs = some (.slice (xs.map fun z => .lit (.int .i64 z)) [], p)) : ∃ a cap, cs = [.slice a xs.length cap] ∧ OldR w 1 ints a xs := by
  obtain ⟨a, cap, h1, _, h2⟩ := open_row ht hc h
  rw [List.length_map] at h1
  refine ⟨some a, cap, h1, ⟨fun i x hx => ?_⟩⟩
  obtain ⟨v, n, q, h3, h4⟩ := h2 i (.lit (.int .i64 x)) (by rw [List.getElem?_map, hx]; rfl)
  obtain ⟨z, h5, h6, _⟩ := DataW.trod_int he h4
  have hs' : a.spot = none := by
    obtain ⟨x0, hx0⟩ : ∃ x0, xs[0]? = some x0 := by
      cases xs with
      | nil => simp at hx
      | cons y ys => exact ⟨y, rfl⟩
    obtain ⟨v0, _, _, h30, _⟩ := h2 0 (.lit (.int .i64 x0)) (by rw [List.getElem?_map, hx0]; rfl)
    have := cell_spot h30
    unfold Addr.add at this
    rwa [if_pos rfl] at this
  obtain ⟨b, off, s⟩ := a
  dsimp only at hs'
  subst hs'
  rw [Addr.add_eq] at h3
  cases h6
  cases h5
  refine ⟨b, off, rfl, fun j v hj => ?_⟩
  cases j with
  | zero =>
    cases hj
    rw [Nat.mul_one, Nat.add_zero]
    exact h3
  | succ j => cases hj
theorem laid_arr {t e : TypeId} {fuel N : Nat} {cs : List Value} {xs : List Int} {p : List MemPlace} (ht : P.underlying t = some (.array N e)) (he : P.underlying e = some (.int .u32)) (hc : P.cellsOf e = 1)
    (h : DataW.trod enc P w base sp held fuel t cs = some (.agg (xs.map fun z => .lit (.int .u32 z)), p)) : ∀ (i : Nat) (x : Int), xs[i]? = some x → cs[i]? = some (Value.int .u32 x) := by
  obtain ⟨ys, m, _, h1, _, h2, h3⟩ := DataW.trod_array ht h
  intro i x hx
  have h4 : (xs.map fun z => (DataW.lit (.int .u32 z) : DataW H)) = ys.map (·.1) := by
    have := (Prod.mk.inj h1).1
    injection this
  have hi : i < xs.length := (List.getElem?_eq_some_iff.1 hx).1
  have hlen : xs.length = ys.length := by have := congrArg List.length h4; simpa using this
  have h5 := congrArg (fun l => l[i]?) h4
  simp only [List.getElem?_map, hx, Option.map_some] at h5
  obtain ⟨y, hy, hy2⟩ := Option.map_eq_some_iff.1 h5.symm
  have h6 := h3 i (by omega)
  rw [hc, hy, Nat.mul_one] at h6
  obtain ⟨z, h7, h8, _⟩ := DataW.trod_int he h6
  rw [h8] at hy2
  cases hy2
  have h9 := congrArg (fun l => l[0]?) h7
  simp only [List.getElem?_take, List.getElem?_drop] at h9
  simpa using h9
end
end Go.SL
namespace Go.Proofs.YtgcknlpkhhpkjaaGreatDoor
open Go Go.SL Go.SL.Sec Go.SL.Fld Go.SL.Pts Go.SL.Rec Go.SL.Twn Go.SL.Pg Go.SL.Mst Go.SL.Pool
def nibL : List Int := [0, 498536548, 997073096, 651767980, 1994146192, 1802195444, 1303535960, 1342533948, 3988292384, 4027552580, 3604390888, 3412177804, 2607071920, 2262029012, 2685067896, 3183342108]
/-- The variables as the rows list them. -/
abbrev laidL : List (String × DataW Unit) := [("errors.errorType", Rows.laid_errors_errorType), ("quota/field.nibbles", Rows.laid_quota_field_nibbles), ("quota/page.headSizes", Rows.laid_quota_page_headSizes), ("quota/page.counterSizes", Rows.laid_quota_page_counterSizes), ("quota/page.groupSizes", Rows.laid_quota_page_groupSizes)]
theorem laid_none : (laidL.filter fun x => x.2.handleName?.isNone) = [("quota/field.nibbles", Rows.laid_quota_field_nibbles), ("quota/page.headSizes", Rows.laid_quota_page_headSizes), ("quota/page.counterSizes", Rows.laid_quota_page_counterSizes), ("quota/page.groupSizes", Rows.laid_quota_page_groupSizes)] := by kernel_rfl
theorem laid_some : (laidL.filter fun x => x.2.handleName?.isSome) = [("errors.errorType", Rows.laid_errors_errorType)] := by kernel_rfl
theorem row_error : ((List.range prog.types.size).all fun ty => !prog.rowNamed ty [101, 114, 114, 111, 114] || ty == t_error) = true := by kernel_rfl
theorem laid_err {W : World} (h : laidMetH prog laidL W) : LaidE W := by
  obtain ⟨_, h2⟩ := laidMetH_iff.1 h
  rw [laid_some] at h2
  have h3 := h2 _ List.mem_cons_self
  rw [show (("errors.errorType", Rows.laid_errors_errorType) : String × DataW Unit).2.funcsIn? = none by kernel_rfl] at h3
  obtain ⟨name, u, ty, e1, e2, e3, e4, e5⟩ := h3
  have n1 : name = [101, 114, 114, 111, 114] := by
    have : (("errors.errorType", Rows.laid_errors_errorType) : String × DataW Unit).2.handleName? = some [101, 114, 114, 111, 114] := by kernel_rfl
    rw [this] at e1
    exact (Option.some.inj e1).symm
  have n2 : u = t_rtype := by
    have : (prog.cutTypes.find? (·.1 == "internal/reflectlite.rtype")).map (·.2) = some t_rtype := by kernel_rfl
    rw [this] at e2
    exact (Option.some.inj e2).symm
  subst n1 n2
  have n3 : ty = t_error := by
    have := List.all_eq_true.1 row_error ty (List.mem_range.2 e3)
    rw [e4] at this
    simpa using this
  subst n3
  have hg : prog.globalNamed "errors.errorType" = some g_errors_errorType := by kernel_rfl
  have hc := var_cell hg e5 0
  refine ⟨hc.trans ?_⟩
  kernel_rfl
theorem laid_nib {W : World} (h : laidMetH prog laidL W) : LaidC W := by
  obtain ⟨h1, _⟩ := laidMetH_iff.1 h
  rw [laid_none] at h1
  obtain ⟨ps, ⟨g, t, cs, fuel, p, q, hg, ht, hv, htr, _, _⟩, _⟩ := h1
  have n1 : prog.globalNamed "quota/field.nibbles" = some g_field_nibbles := by kernel_rfl
  rw [n1] at hg
  cases hg
  have n2 : (prog.globals[g_field_nibbles]?).map (·.type) = some t_16_uint32 := by kernel_rfl
  rw [n2] at ht
  cases ht
  have k := laid_arr (xs := nibL) u_16_uint32 u_uint32 (by kernel_rfl) htr
  refine ⟨fun j hj => ?_⟩
  rw [var_cell n1 hv j]
  have hx : nibL[j]? = some (w32 (nib j)) := by
    have : ∀ j, j < 16 → nibL[j]? = some (w32 (nib j)) := by decide
    exact this j hj
  have := k j _ hx
  rw [Array.getElem?_toList] at this
  exact this
theorem laid_pg {W : World} (h : laidMetH prog laidL W) : Nonempty (LaidP W) := by
  obtain ⟨h1, _⟩ := laidMetH_iff.1 h
  rw [laid_none] at h1
  obtain ⟨ps, ⟨_, _, _, _, _, _, _, _, _, _, ⟨g1, t1, cs1, f1, p1, q1, hg1, ht1, hv1, htr1, ⟨g2, t2, cs2, f2, p2, q2, hg2, ht2, hv2, htr2, ⟨g3, t3, cs3, f3, p3, q3, hg3, ht3, hv3, htr3, _, _⟩, _⟩, _⟩, _⟩, _⟩ := h1
  have n1 : prog.globalNamed "quota/page.headSizes" = some g_page_headSizes := by kernel_rfl
  have n2 : prog.globalNamed "quota/page.counterSizes" = some g_page_counterSizes := by kernel_rfl
  have n3 : prog.globalNamed "quota/page.groupSizes" = some g_page_groupSizes := by kernel_rfl
  rw [n1] at hg1
  rw [n2] at hg2
  rw [n3] at hg3
  cases hg1
  cases hg2
  cases hg3
  rw [show (prog.globals[g_page_headSizes]?).map (·.type) = some t_S_int by kernel_rfl] at ht1
  rw [show (prog.globals[g_page_counterSizes]?).map (·.type) = some t_S_int by kernel_rfl] at ht2
  rw [show (prog.globals[g_page_groupSizes]?).map (·.type) = some t_S_int by kernel_rfl] at ht3
  cases ht1
  cases ht2
  cases ht3
  have hc : prog.cellsOf t_int = 1 := by kernel_rfl
  obtain ⟨a1, c1, k1, o1⟩ := laid_ints (xs := [1, 1, 2, 2, 2, 4]) u_S_int u_int hc htr1
  obtain ⟨a2, c2, k2, o2⟩ := laid_ints (xs := [4, 4, 8, 8, 8]) u_S_int u_int hc htr2
  obtain ⟨a3, c3, k3, o3⟩ := laid_ints (xs := [4, 8]) u_S_int u_int hc htr3
  refine ⟨⟨a1, c1, a2, c2, a3, c3, ?_, ?_, ?_, o1, o2, o3⟩⟩
  · rw [var_cell n1 hv1 0, ← Array.getElem?_toList, k1]; rfl
  · rw [var_cell n2 hv2 0, ← Array.getElem?_toList, k2]; rfl
  · rw [var_cell n3 hv3 0, ← Array.getElem?_toList, k3]; rfl
end Go.Proofs.YtgcknlpkhhpkjaaGreatDoor
/- The package-level variables at the start: the door's own heap meets the condition. No condition. -/
namespace Go.Proofs.YtgcknlpkhhpkjaaGreatDoor
open Go Go.SL Go.ChangeShapes Go.WideShapes Go.ChangeAt Go.RowKit
theorem own_knob : ownKnob prog.godebug = none := by kernel_rfl
theorem laid_out : laidOutB prog = true := by kernel_rfl
theorem door_met (os : Os) (args : Array Value) : laidMetH prog laidL ((World.doorLaid prog 600 os).forCall (fun _ _ => 0) ⟨#[], args, []⟩).memory :=
  laidMetH_of_parts3 (fuel := 8) (laidMet_of_run' 8 (by kernel_rfl) (by kernel_rfl)) (by kernel_rfl) (by kernel_rfl)
end Go.Proofs.YtgcknlpkhhpkjaaGreatDoor
/- What the row of PoolNames says of the program. No condition. -/
namespace Go.Proofs.YtgcknlpkhhpkjaaGreatDoor.poolNames
open Go Go.SL
theorem k1 : Tryz.prog.inPlace 3 = ["internal/reflectlite.ValueOf", "(internal/reflectlite.Value).Type", "(internal/reflectlite.Value).IsNil", "internal/reflectlite.TypeOf", "(internal/reflectlite.Value).Elem", "(internal/reflectlite.Value).Set"] := by kernel_rfl
theorem k2 : Tryz.prog.unfollowed 3 = true := by kernel_rfl
theorem k3 : Tryz.prog.recurses 3 = true := by kernel_rfl
theorem k4 : Tryz.prog.varsNamed 3 = ["errors.errorType", "quota/page.headSizes", "quota/page.counterSizes", "quota/page.groupSizes", "quota/field.nibbles"] := by kernel_rfl
theorem k5 : mapsRowed Tryz.prog = true := by kernel_rfl
theorem k7 : Tryz.prog.stopsHeard = true := by kernel_rfl
theorem k8 : Tryz.prog.mayEnter = true := by kernel_rfl
theorem facts : joinedFacts Tryz.prog 3 Tryz.f3 Rows.poolNamesSpec Rows.poolNamesRow = true := by
  unfold joinedFacts
  rw [k1, k2, k3, k4, k5, k7, k8]
  kernel_rfl
end Go.Proofs.YtgcknlpkhhpkjaaGreatDoor.poolNames
/- What the tied card of PoolNames says of the program. No condition. -/
namespace Go.Proofs.YtgcknlpkhhpkjaaGreatDoor.poolNames
open Go
theorem c_main : Tryz.prog.mainIs = some (Rows.poolNamesCard.stood.harness.1, Rows.poolNamesCard.stood.harness.2.toList) := by kernel_rfl
theorem c_looks : true = Tryz.prog.looks [] := by kernel_rfl
theorem c_wf : Rows.poolNamesRow.wfByText (OpenSpec.ofChange Rows.poolNamesSpec) = true := by kernel_rfl
end Go.Proofs.YtgcknlpkhhpkjaaGreatDoor.poolNames
/- What the tied card of PoolNames says of the program. No condition. -/
namespace Go.Proofs.YtgcknlpkhhpkjaaGreatDoor.poolNames
open Go
theorem c_goes : false = Rows.poolNamesRow.goesBy Tryz.prog := by kernel_rfl
end Go.Proofs.YtgcknlpkhhpkjaaGreatDoor.poolNames
