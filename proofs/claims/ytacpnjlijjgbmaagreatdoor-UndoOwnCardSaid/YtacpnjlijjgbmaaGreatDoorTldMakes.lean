/- Stories: a counter is made. Conditions: in the statement. -/
import Derived.Test.YtacpnjlijjgbmaaGreatDoorTldWalk
namespace Go.Proofs.YtacpnjlijjgbmaaGreatDoor
open Go Go.SL Go.SL.Sec Go.SL.Rec Go.SL.Tld
open Go.SL.Und (RecV recv rec_one fits)
set_option maxHeartbeats 2000000 in
theorem makes_spec {W : World} {H R : HProp} {s : Nat} {X : StoryX} {k a b d : Int} [tk : ObjC storyo H s X R] (hX : X.val.Ok) (hb : X.R.length ≤ 10000000) :
    Does prog W f_quotaref18_Story_makes ⟨[tptr s, .agg ⟨[.int .i64 k, .int .i64 a, .int .i64 b, .int .i64 d]⟩]⟩ H (Ret fun v G => ∃ X', X'.val = X.val.makes a d ∧ v = .tuple ⟨[]⟩ ∧ G = (storyo s X' • R)) := by
  rw [tk.h.eq]
  clear tk
  obtain ⟨pg, ra, rc, RR, la, lc, LL, ga, gc, GG, ia, ic, II, va, vc, VV, nx, sa, sc, SS⟩ := X
  have hp := hX.pages
  have hll := hX.ll
  have hil := hX.il
  have hgl := hX.gl
  have hsl := hX.sl
  dsimp only [StoryX.val] at hp hll hil hgl hsl hb
  have e5 := Int.emod_nonneg a (show (5 : Int) ≠ 0 by decide)
  have e6 := Int.emod_lt_of_pos a (show (0 : Int) < 5 by decide)
  obtain ⟨g, hg⟩ : ∃ g, g = 1 + a % 5 := ⟨_, rfl⟩
  obtain ⟨A, hA⟩ : ∃ A, A = lastAt g II 0 (-1) := ⟨_, rfl⟩
  have hAb := lastAt_bd g II 0 (-1) (by omega) (by omega) (by omega)
  rw [← hA] at hAb
  rw [storyo_eq]
  unfold tptr
  dsimp only
  refine f_quotaref18_Story_makes.does _ _ ?_
  conv => whnf
  repeat' (first
    | (refine spl_f (by with_reducible exact ndec_self _) ?_; conv => whnf)
    | (refine spl_f (by with_reducible exact nbeq_self _) ?_; conv => whnf)
    | (refine spl_t (by with_reducible exact beq_self _) ?_; conv => whnf)
    | (refine spl_dec (fun hd => ?_) (fun hd => ?_) <;> first | (exfalso; omega) | (conv => whnf))
    | (refine spl_ndec (fun hd => ?_) (fun hd => ?_) <;> first | (exfalso; omega) | (conv => whnf))
    | (refine spl_intro (fun hd => ?_) (fun hd => ?_) <;> (conv => whnf))
    | (refine Ld.i ?_; conv => whnf)
    | (refine LdN.i ?_; conv => whnf)
    | (refine St.i ⟨rfl, rfl⟩ (List.cons_ne_nil _ _) ?_; conv => whnf)
    | (refine Ar.i64 (by omega) ?_; conv => whnf)
    | (refine Ar.u64 (by omega) ?_; conv => whnf)
    | (refine Ar.i64d (by omega) (by omega) ?_; conv => whnf)
    | (refine Shr.i (by rfl) (by decide) ?_; conv => whnf)
    | (refine Shl.i (by rfl) (by decide) ?_; conv => whnf)
    | (refine Req.mk (by omega) ?_; conv => whnf)
    | (intro blk hblk; conv => whnf)
    | (refine Sub.on (by first | exact Imp.refl _ | exact Imp.drop | exact Imp.fin | ((repeat (refine Imp.pick ?_)); first | exact Imp.refl _ | exact Imp.emp _ | exact Imp.fin)) ?_; conv => whnf)
    | (refine Sub.on (Imp.trans KeepC.h (by first | exact Imp.refl _ | exact Imp.drop | exact Imp.fin | ((repeat (refine Imp.pick ?_)); first | exact Imp.refl _ | exact Imp.emp _ | exact Imp.fin))) ?_; conv => whnf)
    | (refine CallK.ret f_quotaref18_brought.ok (tbrought_spec (by first | rfl | assumption | omega | decide | (simp; done) | (simp; omega) | (simp at *; omega))) ?_; rintro v G ⟨rfl, rfl⟩; conv => whnf)
    | (refine CallK.ret f_quotaref18_brought.ok (tbrought_spec (by first | rfl | assumption | omega | decide | (simp; done) | (simp; omega) | (simp at *; omega))) ?_; rintro v G ⟨e_z, hz0, hz1, rfl, rfl⟩; conv => whnf)
    | (refine DrawK.introH tab_ok mixed 74 f_quotaref18_Story_makes.last14 f_quotaref18_Story_makes.plan14 _ rfl (by kernel_rfl) (Sub.of (by first | exact Imp.refl _ | exact Imp.drop | exact Imp.fin | ((repeat (refine Imp.pick ?_)); first | exact Imp.refl _ | exact Imp.emp _ | exact Imp.fin))) ?_; conv => whnf)
    | (refine DrawK.introK tab_ok mixed 94 f_quotaref18_Story_makes.last18 f_quotaref18_Story_makes.plan18 rfl (by kernel_rfl) ?_; conv => whnf)
    | (refine DrawK.introH tab_ok mixed 123 f_quotaref18_Story_makes.last20 f_quotaref18_Story_makes.plan20 _ rfl (by kernel_rfl) (Sub.of (by first | exact Imp.refl _ | exact Imp.drop | exact Imp.fin | ((repeat (refine Imp.pick ?_)); first | exact Imp.refl _ | exact Imp.emp _ | exact Imp.fin))) ?_; conv => whnf)
    | (refine CallK.ret f_quotaref18_Story_writes.ok (writes_spec (by first | rfl | assumption | omega | decide | (simp; done) | (simp; omega) | (simp at *; omega))) ?_; rintro v G ⟨e_ra', e_rc', rfl, rfl⟩; conv => whnf)
    | (refine CallK.ret f_quotaref18_Story_writes.ok (writes_spec (by first | rfl | assumption | omega | decide | (simp; done) | (simp; omega) | (simp at *; omega))) ?_; rintro v G ⟨e_ra', e_rc', rfl, rfl⟩; conv => whnf)
    | fail)
  rw [← hg]
  refine LoopK.keep tab_ok (L := f_quotaref18_Story_makes.live) (ι := Nat × Int) (fun i => i.1 ≤ II.length ∧ lastAt g (II.drop i.1) i.1 i.2 = A ∧ -1 ≤ i.2 ∧ i.2 < i.1) (fun i => [(6, .int .i64 i.1), (5, .int .i64 i.2)]) (fun i => II.length - i.1) (0, -1) ⟨by simp, hA.symm, by simp, by simp⟩ (fun t v h => h) ?_
  rintro ⟨i, z⟩ ⟨hi, hz, hz1, hz2⟩
  dsimp only at hi hz hz1 hz2 ⊢
  conv => whnf
  by_cases h1 : i < II.length
  · obtain ⟨x, hx⟩ : ∃ x, II[i]? = some x := ⟨_, List.getElem?_eq_getElem h1⟩
    rw [drop_at hx, lastAt] at hz
    repeat' (first
      | (refine spl_f (by with_reducible exact ndec_self _) ?_; conv => whnf)
      | (refine spl_f (by with_reducible exact nbeq_self _) ?_; conv => whnf)
      | (refine spl_t (by with_reducible exact beq_self _) ?_; conv => whnf)
      | (refine spl_dec (fun hd => ?_) (fun hd => ?_) <;> first | (exfalso; omega) | (conv => whnf))
      | (refine spl_ndec (fun hd => ?_) (fun hd => ?_) <;> first | (exfalso; omega) | (conv => whnf))
      | (refine spl_intro (fun hd => ?_) (fun hd => ?_) <;> (conv => whnf))
      | (refine Ld.i ?_; conv => whnf)
      | (refine LdN.i ?_; conv => whnf)
      | (refine St.i ⟨rfl, rfl⟩ (List.cons_ne_nil _ _) ?_; conv => whnf)
      | (refine Ar.i64 (by omega) ?_; conv => whnf)
      | (refine Ar.u64 (by omega) ?_; conv => whnf)
      | (refine Ar.i64d (by omega) (by omega) ?_; conv => whnf)
      | (refine Shr.i (by rfl) (by decide) ?_; conv => whnf)
      | (refine Shl.i (by rfl) (by decide) ?_; conv => whnf)
      | (refine Req.mk (by omega) ?_; conv => whnf)
      | (intro blk hblk; conv => whnf)
      | (refine IxS.r (xs := II) (i := i) rfl rfl h1 (fun ab off ha => ?_); cases ha; conv => whnf)
      | (refine LdN.r hx rfl ?_; conv => whnf)
      | (refine Ld.r hx rfl ?_; conv => whnf)
      | (refine Ld.r0 hx rfl ?_; conv => whnf)
      | (refine LdN.rp hx ?_; conv => whnf)
      | (refine Sub.on (by first | exact Imp.refl _ | exact Imp.drop | exact Imp.fin | ((repeat (refine Imp.pick ?_)); first | exact Imp.refl _ | exact Imp.emp _ | exact Imp.fin)) ?_; conv => whnf)
      | (refine Sub.on (Imp.trans KeepC.h (by first | exact Imp.refl _ | exact Imp.drop | exact Imp.fin | ((repeat (refine Imp.pick ?_)); first | exact Imp.refl _ | exact Imp.emp _ | exact Imp.fin))) ?_; conv => whnf)
      | (refine CallK.ret f_quotaref18_brought.ok (tbrought_spec (by first | rfl | assumption | omega | decide | (simp; done) | (simp; omega) | (simp at *; omega))) ?_; rintro v G ⟨rfl, rfl⟩; conv => whnf)
      | (refine CallK.ret f_quotaref18_brought.ok (tbrought_spec (by first | rfl | assumption | omega | decide | (simp; done) | (simp; omega) | (simp at *; omega))) ?_; rintro v G ⟨e_z, hz0, hz1, rfl, rfl⟩; conv => whnf)
      | (refine DrawK.introH tab_ok mixed 74 f_quotaref18_Story_makes.last14 f_quotaref18_Story_makes.plan14 _ rfl (by kernel_rfl) (Sub.of (by first | exact Imp.refl _ | exact Imp.drop | exact Imp.fin | ((repeat (refine Imp.pick ?_)); first | exact Imp.refl _ | exact Imp.emp _ | exact Imp.fin))) ?_; conv => whnf)
      | (refine DrawK.introK tab_ok mixed 94 f_quotaref18_Story_makes.last18 f_quotaref18_Story_makes.plan18 rfl (by kernel_rfl) ?_; conv => whnf)
      | (refine DrawK.introH tab_ok mixed 123 f_quotaref18_Story_makes.last20 f_quotaref18_Story_makes.plan20 _ rfl (by kernel_rfl) (Sub.of (by first | exact Imp.refl _ | exact Imp.drop | exact Imp.fin | ((repeat (refine Imp.pick ?_)); first | exact Imp.refl _ | exact Imp.emp _ | exact Imp.fin))) ?_; conv => whnf)
      | (refine CallK.ret f_quotaref18_Story_writes.ok (writes_spec (by first | rfl | assumption | omega | decide | (simp; done) | (simp; omega) | (simp at *; omega))) ?_; rintro v G ⟨e_ra', e_rc', rfl, rfl⟩; conv => whnf)
      | (refine CallK.ret f_quotaref18_Story_writes.ok (writes_spec (by first | rfl | assumption | omega | decide | (simp; done) | (simp; omega) | (simp at *; omega))) ?_; rintro v G ⟨e_ra', e_rc', rfl, rfl⟩; conv => whnf)
      | fail)
    · rw [if_pos hd] at hz
      refine ⟨rfl, (i + 1, i), ⟨h1, hz, by dsimp only; omega, by dsimp only; omega⟩, fun t v h => h, ?_, by dsimp only; omega⟩
      first | exact Imp.refl _ | exact Imp.drop | exact Imp.fin | ((repeat (refine Imp.pick ?_)); first | exact Imp.refl _ | exact Imp.emp _ | exact Imp.fin)
    · rw [if_neg hd] at hz
      refine ⟨rfl, (i + 1, z), ⟨h1, hz, hz1, by dsimp only; omega⟩, fun t v h => h, ?_, by dsimp only; omega⟩
      first | exact Imp.refl _ | exact Imp.drop | exact Imp.fin | ((repeat (refine Imp.pick ?_)); first | exact Imp.refl _ | exact Imp.emp _ | exact Imp.fin)
  · have hie : i = II.length := by omega
    rw [hie, List.drop_length, lastAt] at hz
    subst hz
    obtain ⟨M, hM⟩ : ∃ M, M = (LL.length : Int).tmod ((pg + 1) / 2) := ⟨_, rfl⟩
    obtain ⟨D, hD⟩ : ∃ D, D = (LL.length : Int) / ((pg + 1) / 2) := ⟨_, rfl⟩
    have hm : (LL.length : Int) % ((pg + 1) / 2) = M := by rw [hM, Int.tmod_eq_emod_of_nonneg (by omega)]
    have hM1 : 0 ≤ M := hm ▸ Int.emod_nonneg _ (by omega)
    have hM2 : M < (pg + 1) / 2 := hm ▸ Int.emod_lt_of_pos _ (by omega)
    by_cases hz0 : z < 0
    · have hgx : (GG ++ [((1 : Int), (II.length : Int))])[II.length]? = some (1, (II.length : Int)) := by rw [← hgl]; simp
      have hgrp : Story.group (⟨pg, RR, LL, GG, II, VV.map (·.o), nx, SS⟩ : Story) g = (⟨pg, RR, LL, GG ++ [(1, (II.length : Int))], II ++ [g], VV.map (·.o), nx, SS⟩, (1, (II.length : Int))) := by
        unfold Story.group
        dsimp only
        rw [← hA, if_pos hz0]
      repeat' (first
        | (refine DrawK.introK (k := KeepC.cut la) tab_ok mixed 94 f_quotaref18_Story_makes.last18 f_quotaref18_Story_makes.plan18 rfl (by kernel_rfl) ?_; conv => whnf)
        | (refine spl_f (by with_reducible exact ndec_self _) ?_; conv => whnf)
        | (refine spl_f (by with_reducible exact nbeq_self _) ?_; conv => whnf)
        | (refine spl_t (by with_reducible exact beq_self _) ?_; conv => whnf)
        | (refine spl_dec (fun hd => ?_) (fun hd => ?_) <;> first | (exfalso; omega) | (conv => whnf))
        | (refine spl_ndec (fun hd => ?_) (fun hd => ?_) <;> first | (exfalso; omega) | (conv => whnf))
        | (refine spl_intro (fun hd => ?_) (fun hd => ?_) <;> (conv => whnf))
        | (refine Ld.i ?_; conv => whnf)
        | (refine LdN.i ?_; conv => whnf)
        | (refine St.i ⟨rfl, rfl⟩ (List.cons_ne_nil _ _) ?_; conv => whnf)
        | (refine Ar.i64 (by omega) ?_; conv => whnf)
        | (refine Ar.u64 (by omega) ?_; conv => whnf)
        | (refine Ar.i64d (by omega) (by omega) ?_; conv => whnf)
        | (refine Shr.i (by rfl) (by decide) ?_; conv => whnf)
        | (refine Shl.i (by rfl) (by decide) ?_; conv => whnf)
        | (refine Req.mk (by omega) ?_; conv => whnf)
        | (intro blk hblk; conv => whnf)
        | (refine IxS.r (i := II.length) rfl rfl (by simp; omega) (fun ab off ha => ?_); cases ha; conv => whnf)
        | (refine LdN.r hgx rfl ?_; conv => whnf)
        | (refine Ld.r hgx rfl ?_; conv => whnf)
        | (refine Ld.r0 hgx rfl ?_; conv => whnf)
        | (refine LdN.rp hgx ?_; conv => whnf)
        | (refine OpX.app1g (xs := LL) tab_ok rfl rfl rfl rfl rfl rfl (by first | rfl | assumption | omega | decide | (simp; done) | (simp; omega) | (simp at *; omega)) (fun la' lc' => ?_); conv => whnf)
        | (refine OpX.app1g (xs := SS) tab_ok rfl rfl rfl rfl rfl rfl (by first | rfl | assumption | omega | decide | (simp; done) | (simp; omega) | (simp at *; omega)) (fun sa' sc' => ?_); conv => whnf)
        | (refine OpX.app1g (xs := II) tab_ok rfl rfl rfl rfl rfl rfl (by first | rfl | assumption | omega | decide | (simp; done) | (simp; omega) | (simp at *; omega)) (fun ia' ic' => ?_); conv => whnf)
        | (refine OpX.app1g (xs := GG) tab_ok rfl rfl rfl rfl rfl rfl (by first | rfl | assumption | omega | decide | (simp; done) | (simp; omega) | (simp at *; omega)) (fun ga' gc' => ?_); conv => whnf)
        | (refine Sub.on (by first | exact Imp.refl _ | exact Imp.drop | exact Imp.fin | ((repeat (refine Imp.pick ?_)); first | exact Imp.refl _ | exact Imp.emp _ | exact Imp.fin)) ?_; conv => whnf)
        | (refine Sub.on (Imp.trans KeepC.h (by first | exact Imp.refl _ | exact Imp.drop | exact Imp.fin | ((repeat (refine Imp.pick ?_)); first | exact Imp.refl _ | exact Imp.emp _ | exact Imp.fin))) ?_; conv => whnf)
        | (refine CallK.ret f_quotaref18_brought.ok (tbrought_spec (by first | rfl | assumption | omega | decide | (simp; done) | (simp; omega) | (simp at *; omega))) ?_; rintro v G ⟨rfl, rfl⟩; conv => whnf)
        | (refine CallK.ret f_quotaref18_brought.ok (tbrought_spec (by first | rfl | assumption | omega | decide | (simp; done) | (simp; omega) | (simp at *; omega))) ?_; rintro v G ⟨e_z, hz0, hz1, rfl, rfl⟩; conv => whnf)
        | (refine DrawK.introH tab_ok mixed 74 f_quotaref18_Story_makes.last14 f_quotaref18_Story_makes.plan14 _ rfl (by kernel_rfl) (Sub.of (by first | exact Imp.refl _ | exact Imp.drop | exact Imp.fin | ((repeat (refine Imp.pick ?_)); first | exact Imp.refl _ | exact Imp.emp _ | exact Imp.fin))) ?_; conv => whnf)
        | (refine DrawK.introK tab_ok mixed 94 f_quotaref18_Story_makes.last18 f_quotaref18_Story_makes.plan18 rfl (by kernel_rfl) ?_; conv => whnf)
        | (refine DrawK.introH tab_ok mixed 123 f_quotaref18_Story_makes.last20 f_quotaref18_Story_makes.plan20 _ rfl (by kernel_rfl) (Sub.of (by first | exact Imp.refl _ | exact Imp.drop | exact Imp.fin | ((repeat (refine Imp.pick ?_)); first | exact Imp.refl _ | exact Imp.emp _ | exact Imp.fin))) ?_; conv => whnf)
        | (refine CallK.ret f_quotaref18_Story_writes.ok (writes_spec (by first | rfl | assumption | omega | decide | (simp; done) | (simp; omega) | (simp at *; omega))) ?_; rintro v G ⟨e_ra', e_rc', rfl, rfl⟩; conv => whnf)
        | (refine CallK.ret f_quotaref18_Story_writes.ok (writes_spec (by first | rfl | assumption | omega | decide | (simp; done) | (simp; omega) | (simp at *; omega))) ?_; rintro v G ⟨e_ra', e_rc', rfl, rfl⟩; conv => whnf)
        | fail)
      · refine ⟨_, _, rfl, Imp.trans ?_ (storyo_fold s ⟨pg, ra, rc, RR, la, lc, LL, ga', gc', (GG ++ [(1, (II.length : Int))]), ia', ic', (II ++ [g]), va, vc, VV, nx, sa, sc, SS⟩ R), _, ?_, rfl, rfl⟩
        · first | exact Imp.refl _ | exact Imp.drop | exact Imp.fin | ((repeat (refine Imp.pick ?_)); first | exact Imp.refl _ | exact Imp.emp _ | exact Imp.fin)
        · unfold Story.makes
          dsimp only [StoryX.val]
          rw [if_pos (by omega), ← hg, hgrp]
      · rw [← hM, ← hD]
        refine CallK.imp (H' := storyo s ⟨pg, ra, rc, RR, la', lc', LL ++ [⟨(LL.length : Int) + 1, g, -1099511627776, 1099511627776, d.tmod 1000, 2 * M, D, ((1 : Int), (II.length : Int)).1, ((1 : Int), (II.length : Int)).2⟩], some ⟨ab, off, none⟩, gc', (GG ++ [(1, (II.length : Int))]), ia', ic', (II ++ [g]), va, vc, VV, nx, sa', sc', SS ++ [d.tmod 1000]⟩ • R) (Imp.trans (by first | exact Imp.refl _ | exact Imp.drop | exact Imp.fin | ((repeat (refine Imp.pick ?_)); first | exact Imp.refl _ | exact Imp.emp _ | exact Imp.fin)) (storyo_fold _ _ _)) (CallK.ret f_quotaref18_Story_writes.ok (writes_spec (r := recC ⟨(LL.length : Int) + 1, g, -1099511627776, 1099511627776, d.tmod 1000, 2 * M, D, ((1 : Int), (II.length : Int)).1, ((1 : Int), (II.length : Int)).2⟩) (by exact hb)) ?_)
        rintro v G ⟨ra', rc', rfl, rfl⟩
        conv => whnf
        refine ⟨_, _, rfl, Imp.refl _, _, ?_, rfl, rfl⟩
        unfold Story.makes
        dsimp only [StoryX.val]
        rw [if_neg (by omega), ← hg, hgrp, ← hD, hm]
        rfl
    · obtain ⟨z, rfl⟩ := Int.eq_ofNat_of_zero_le (show 0 ≤ z by omega)
      obtain ⟨sl, hgx⟩ : ∃ x, GG[z]? = some x := ⟨_, List.getElem?_eq_getElem (by omega)⟩
      have hgrp : Story.group (⟨pg, RR, LL, GG, II, VV.map (·.o), nx, SS⟩ : Story) g = (⟨pg, RR, LL, GG, II, VV.map (·.o), nx, SS⟩, sl) := by
        unfold Story.group
        dsimp only
        rw [← hA, if_neg hz0, Int.toNat_natCast, hgx]
        rfl
      repeat' (first
        | (refine DrawK.introK (k := KeepC.cut la) tab_ok mixed 94 f_quotaref18_Story_makes.last18 f_quotaref18_Story_makes.plan18 rfl (by kernel_rfl) ?_; conv => whnf)
        | (refine spl_f (by with_reducible exact ndec_self _) ?_; conv => whnf)
        | (refine spl_f (by with_reducible exact nbeq_self _) ?_; conv => whnf)
        | (refine spl_t (by with_reducible exact beq_self _) ?_; conv => whnf)
        | (refine spl_dec (fun hd => ?_) (fun hd => ?_) <;> first | (exfalso; omega) | (conv => whnf))
        | (refine spl_ndec (fun hd => ?_) (fun hd => ?_) <;> first | (exfalso; omega) | (conv => whnf))
        | (refine spl_intro (fun hd => ?_) (fun hd => ?_) <;> (conv => whnf))
        | (refine Ld.i ?_; conv => whnf)
        | (refine LdN.i ?_; conv => whnf)
        | (refine St.i ⟨rfl, rfl⟩ (List.cons_ne_nil _ _) ?_; conv => whnf)
        | (refine Ar.i64 (by omega) ?_; conv => whnf)
        | (refine Ar.u64 (by omega) ?_; conv => whnf)
        | (refine Ar.i64d (by omega) (by omega) ?_; conv => whnf)
        | (refine Shr.i (by rfl) (by decide) ?_; conv => whnf)
        | (refine Shl.i (by rfl) (by decide) ?_; conv => whnf)
        | (refine Req.mk (by omega) ?_; conv => whnf)
        | (intro blk hblk; conv => whnf)
        | (refine IxS.r (i := z) rfl rfl (by omega) (fun ab off ha => ?_); cases ha; conv => whnf)
        | (refine LdN.r hgx rfl ?_; conv => whnf)
        | (refine Ld.r hgx rfl ?_; conv => whnf)
        | (refine Ld.r0 hgx rfl ?_; conv => whnf)
        | (refine LdN.rp hgx ?_; conv => whnf)
        | (refine OpX.app1g (xs := LL) tab_ok rfl rfl rfl rfl rfl rfl (by first | rfl | assumption | omega | decide | (simp; done) | (simp; omega) | (simp at *; omega)) (fun la' lc' => ?_); conv => whnf)
        | (refine OpX.app1g (xs := SS) tab_ok rfl rfl rfl rfl rfl rfl (by first | rfl | assumption | omega | decide | (simp; done) | (simp; omega) | (simp at *; omega)) (fun sa' sc' => ?_); conv => whnf)
        | (refine OpX.app1g (xs := II) tab_ok rfl rfl rfl rfl rfl rfl (by first | rfl | assumption | omega | decide | (simp; done) | (simp; omega) | (simp at *; omega)) (fun ia' ic' => ?_); conv => whnf)
        | (refine OpX.app1g (xs := GG) tab_ok rfl rfl rfl rfl rfl rfl (by first | rfl | assumption | omega | decide | (simp; done) | (simp; omega) | (simp at *; omega)) (fun ga' gc' => ?_); conv => whnf)
        | (refine Sub.on (by first | exact Imp.refl _ | exact Imp.drop | exact Imp.fin | ((repeat (refine Imp.pick ?_)); first | exact Imp.refl _ | exact Imp.emp _ | exact Imp.fin)) ?_; conv => whnf)
        | (refine Sub.on (Imp.trans KeepC.h (by first | exact Imp.refl _ | exact Imp.drop | exact Imp.fin | ((repeat (refine Imp.pick ?_)); first | exact Imp.refl _ | exact Imp.emp _ | exact Imp.fin))) ?_; conv => whnf)
        | (refine CallK.ret f_quotaref18_brought.ok (tbrought_spec (by first | rfl | assumption | omega | decide | (simp; done) | (simp; omega) | (simp at *; omega))) ?_; rintro v G ⟨rfl, rfl⟩; conv => whnf)
        | (refine CallK.ret f_quotaref18_brought.ok (tbrought_spec (by first | rfl | assumption | omega | decide | (simp; done) | (simp; omega) | (simp at *; omega))) ?_; rintro v G ⟨e_z, hz0, hz1, rfl, rfl⟩; conv => whnf)
        | (refine DrawK.introH tab_ok mixed 74 f_quotaref18_Story_makes.last14 f_quotaref18_Story_makes.plan14 _ rfl (by kernel_rfl) (Sub.of (by first | exact Imp.refl _ | exact Imp.drop | exact Imp.fin | ((repeat (refine Imp.pick ?_)); first | exact Imp.refl _ | exact Imp.emp _ | exact Imp.fin))) ?_; conv => whnf)
        | (refine DrawK.introK tab_ok mixed 94 f_quotaref18_Story_makes.last18 f_quotaref18_Story_makes.plan18 rfl (by kernel_rfl) ?_; conv => whnf)
        | (refine DrawK.introH tab_ok mixed 123 f_quotaref18_Story_makes.last20 f_quotaref18_Story_makes.plan20 _ rfl (by kernel_rfl) (Sub.of (by first | exact Imp.refl _ | exact Imp.drop | exact Imp.fin | ((repeat (refine Imp.pick ?_)); first | exact Imp.refl _ | exact Imp.emp _ | exact Imp.fin))) ?_; conv => whnf)
        | (refine CallK.ret f_quotaref18_Story_writes.ok (writes_spec (by first | rfl | assumption | omega | decide | (simp; done) | (simp; omega) | (simp at *; omega))) ?_; rintro v G ⟨e_ra', e_rc', rfl, rfl⟩; conv => whnf)
        | (refine CallK.ret f_quotaref18_Story_writes.ok (writes_spec (by first | rfl | assumption | omega | decide | (simp; done) | (simp; omega) | (simp at *; omega))) ?_; rintro v G ⟨e_ra', e_rc', rfl, rfl⟩; conv => whnf)
        | fail)
      · refine ⟨_, _, rfl, Imp.trans ?_ (storyo_fold s ⟨pg, ra, rc, RR, la, lc, LL, ga, gc, GG, ia, ic, II, va, vc, VV, nx, sa, sc, SS⟩ R), _, ?_, rfl, rfl⟩
        · first | exact Imp.refl _ | exact Imp.drop | exact Imp.fin | ((repeat (refine Imp.pick ?_)); first | exact Imp.refl _ | exact Imp.emp _ | exact Imp.fin)
        · unfold Story.makes
          dsimp only [StoryX.val]
          rw [if_pos (by omega), ← hg, hgrp]
      · rw [← hM, ← hD]
        refine CallK.imp (H' := storyo s ⟨pg, ra, rc, RR, la', lc', LL ++ [⟨(LL.length : Int) + 1, g, -1099511627776, 1099511627776, d.tmod 1000, 2 * M, D, sl.1, sl.2⟩], some ⟨ab, off, none⟩, gc, GG, ia, ic, II, va, vc, VV, nx, sa', sc', SS ++ [d.tmod 1000]⟩ • R) (Imp.trans (by first | exact Imp.refl _ | exact Imp.drop | exact Imp.fin | ((repeat (refine Imp.pick ?_)); first | exact Imp.refl _ | exact Imp.emp _ | exact Imp.fin)) (storyo_fold _ _ _)) (CallK.ret f_quotaref18_Story_writes.ok (writes_spec (r := recC ⟨(LL.length : Int) + 1, g, -1099511627776, 1099511627776, d.tmod 1000, 2 * M, D, sl.1, sl.2⟩) (by exact hb)) ?_)
        rintro v G ⟨ra', rc', rfl, rfl⟩
        conv => whnf
        refine ⟨_, _, rfl, Imp.refl _, _, ?_, rfl, rfl⟩
        unfold Story.makes
        dsimp only [StoryX.val]
        rw [if_neg (by omega), ← hg, hgrp, ← hD, hm]
        rfl
end Go.Proofs.YtacpnjlijjgbmaaGreatDoor
