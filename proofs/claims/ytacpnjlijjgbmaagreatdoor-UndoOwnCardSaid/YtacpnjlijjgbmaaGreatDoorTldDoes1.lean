/- Stories: a deed: a counter, a transaction, an end. Conditions: in each statement. -/
import Derived.Test.YtacpnjlijjgbmaaGreatDoorTldMakes
namespace Go.Proofs.YtacpnjlijjgbmaaGreatDoor
open Go Go.SL Go.SL.Sec Go.SL.Rec Go.SL.Tld
open Go.SL.Und (RecV recv rec_one fits)
theorem len_snocX (l : List OpenX) (x : OpenX) : (l ++ [x]).length = l.length + 1 := by simp
set_option maxHeartbeats 2000000 in
-- @noauto
theorem does_make {W : World} {H R : HProp} {s : Nat} {X : StoryX} {x : DeedV} [tk : ObjC storyo H s X R] (hX : X.val.Ok) (hb : X.R.length ≤ 9000000) (hk : x.kind % 10 < 2) :
    Does prog W f_quotaref18_Story_does ⟨[tptr s, deedA x]⟩ H (Ret fun v G => ∃ X' c, X'.val = X.val.does x ∧ v = .bool c ∧ G = (storyo s X' • R)) := by
  rw [tk.h.eq]
  clear tk
  unfold deedA
  refine f_quotaref18_Story_does.does _ _ ?_
  conv => whnf
  repeat' (first
    | (refine spl_f (by with_reducible exact ndec_self _) ?_; conv => whnf)
    | (refine spl_f (by with_reducible exact nbeq_self _) ?_; conv => whnf)
    | (refine spl_t (by with_reducible exact beq_self _) ?_; conv => whnf)
    | (refine spl_dec (fun hd => ?_) (fun hd => ?_) <;> first | (exfalso; omega) | (conv => whnf))
    | (refine spl_ndec (fun hd => ?_) (fun hd => ?_) <;> first | (exfalso; omega) | (conv => whnf))
    | (refine spl_intro (fun hd => ?_) (fun hd => ?_) <;> (conv => whnf))
    | (refine Ld.i ?_; conv => whnf)
    | (refine LdN.i ?_; conv => whnf)
    | (refine St.i ⟨rfl, rfl⟩ (List.cons_ne_nil _ _) ?_; conv => whnf)
    | (refine Ar.i64 (by omega) ?_; conv => whnf)
    | (refine Ar.u64 (by omega) ?_; conv => whnf)
    | (refine Ar.i64d (by omega) (by omega) ?_; conv => whnf)
    | (refine Shr.i (by rfl) (by decide) ?_; conv => whnf)
    | (refine Shl.i (by rfl) (by decide) ?_; conv => whnf)
    | (refine Req.mk (by omega) ?_; conv => whnf)
    | (intro blk hblk; conv => whnf)
    | (refine Sub.on (by first | exact Imp.refl _ | exact Imp.drop | exact Imp.fin | ((repeat (refine Imp.pick ?_)); first | exact Imp.refl _ | exact Imp.emp _ | exact Imp.fin)) ?_; conv => whnf)
    | (refine Sub.on (Imp.trans KeepC.h (by first | exact Imp.refl _ | exact Imp.drop | exact Imp.fin | ((repeat (refine Imp.pick ?_)); first | exact Imp.refl _ | exact Imp.emp _ | exact Imp.fin))) ?_; conv => whnf)
    | (refine CallK.ret f_quotaref18_brought.ok (tbrought_spec (by first | rfl | assumption | omega | decide | (simp; done) | (simp; omega) | (simp at *; omega))) ?_; rintro v G ⟨rfl, rfl⟩; conv => whnf)
    | (refine CallK.ret f_quotaref18_brought.ok (tbrought_spec (by first | rfl | assumption | omega | decide | (simp; done) | (simp; omega) | (simp at *; omega))) ?_; rintro v G ⟨e_z, hz0, hz1, rfl, rfl⟩; conv => whnf)
    | (refine CallK.ret f_quotaref18_Story_makes.ok (makes_spec (by first | rfl | assumption | omega | decide | (simp; done) | (simp; omega) | (simp at *; omega)) (by first | rfl | assumption | omega | decide | (simp; done) | (simp; omega) | (simp at *; omega))) ?_; rintro v G ⟨e_X', e_h1, rfl, rfl⟩; conv => whnf)
    | (refine CallK.ret f_quotaref18_Story_writes.ok (writes_spec (by first | rfl | assumption | omega | decide | (simp; done) | (simp; omega) | (simp at *; omega))) ?_; rintro v G ⟨e_ra', e_rc', rfl, rfl⟩; conv => whnf)
    | (refine CallK.ret f_quotaref18_Story_writes.ok (writes_spec (by first | rfl | assumption | omega | decide | (simp; done) | (simp; omega) | (simp at *; omega))) ?_; rintro v G ⟨e_ra', e_rc', rfl, rfl⟩; conv => whnf)
    | (refine DrawK.treeH tab_ok mixed 36 f_quotaref18_Story_does.tree8 _ rfl (by kernel_rfl) (Sub.of (by first | exact Imp.refl _ | exact Imp.drop | exact Imp.fin | ((repeat (refine Imp.pick ?_)); first | exact Imp.refl _ | exact Imp.emp _ | exact Imp.fin))) ?_; conv => whnf)
    | (refine And.intro ?_ ?_ <;> conv => whnf)
    | (refine DrawK.introH tab_ok mixed 66 f_quotaref18_Story_does.last13 f_quotaref18_Story_does.plan13 _ rfl (by kernel_rfl) (Sub.of (by first | exact Imp.refl _ | exact Imp.drop | exact Imp.fin | ((repeat (refine Imp.pick ?_)); first | exact Imp.refl _ | exact Imp.emp _ | exact Imp.fin))) ?_; conv => whnf)
    | (refine CallK.ret f_quotaref18_Story_leaves.ok (leaves_spec (by first | rfl | assumption | omega | decide | (simp; done) | (simp; omega) | (simp at *; omega)) (by first | rfl | assumption | omega | decide | (simp; done) | (simp; omega) | (simp at *; omega))) ?_; rintro v G ⟨e_X', e_h1, rfl, rfl⟩; conv => whnf)
    | (refine CallK.ret f_quotaref18_Story_leaves.ok (leaves_spec (by first | rfl | assumption | omega | decide | (simp; done) | (simp; omega) | (simp at *; omega)) (by first | rfl | assumption | omega | decide | (simp; done) | (simp; omega) | (simp at *; omega))) ?_; rintro v G ⟨e_va', e_vc', rfl, rfl⟩; conv => whnf)
    | (refine DrawK.introH tab_ok mixed 97 f_quotaref18_Story_does.last19 f_quotaref18_Story_does.plan19 _ rfl (by kernel_rfl) (Sub.of (by first | exact Imp.refl _ | exact Imp.drop | exact Imp.fin | ((repeat (refine Imp.pick ?_)); first | exact Imp.refl _ | exact Imp.emp _ | exact Imp.fin))) ?_; conv => whnf)
    | (refine DrawK.introH tab_ok mixed 127 f_quotaref18_Story_does.last24 f_quotaref18_Story_does.plan24 _ rfl (by kernel_rfl) (Sub.of (by first | exact Imp.refl _ | exact Imp.drop | exact Imp.fin | ((repeat (refine Imp.pick ?_)); first | exact Imp.refl _ | exact Imp.emp _ | exact Imp.fin))) ?_; conv => whnf)
    | (refine DrawK.introH tab_ok mixed 149 f_quotaref18_Story_does.last26 f_quotaref18_Story_does.plan26 _ rfl (by kernel_rfl) (Sub.of (by first | exact Imp.refl _ | exact Imp.drop | exact Imp.fin | ((repeat (refine Imp.pick ?_)); first | exact Imp.refl _ | exact Imp.emp _ | exact Imp.fin))) ?_; conv => whnf)
    | (refine CallK.ret f_quotaref18_Story_change.ok (change_spec (by first | rfl | assumption | omega | decide | (simp; done) | (simp; omega) | (simp at *; omega)) (by first | rfl | assumption | omega | decide | (simp; done) | (simp; omega) | (simp at *; omega)) (by first | rfl | assumption | omega | decide | (simp; done) | (simp; omega) | (simp at *; omega))) ?_; rintro v G ⟨e_X', e_h1, e_h2, e_h3⟩; conv => whnf)
    | (refine DrawK.introH tab_ok mixed 186 f_quotaref18_Story_does.last32 f_quotaref18_Story_does.plan32 _ rfl (by kernel_rfl) (Sub.of (by first | exact Imp.refl _ | exact Imp.drop | exact Imp.fin | ((repeat (refine Imp.pick ?_)); first | exact Imp.refl _ | exact Imp.emp _ | exact Imp.fin))) ?_; conv => whnf)
    | (refine DrawK.introH tab_ok mixed 209 f_quotaref18_Story_does.last35 f_quotaref18_Story_does.plan35 _ rfl (by kernel_rfl) (Sub.of (by first | exact Imp.refl _ | exact Imp.drop | exact Imp.fin | ((repeat (refine Imp.pick ?_)); first | exact Imp.refl _ | exact Imp.emp _ | exact Imp.fin))) ?_; conv => whnf)
    | (refine DrawK.introH tab_ok mixed 225 f_quotaref18_Story_does.last38 f_quotaref18_Story_does.plan38 _ rfl (by kernel_rfl) (Sub.of (by first | exact Imp.refl _ | exact Imp.drop | exact Imp.fin | ((repeat (refine Imp.pick ?_)); first | exact Imp.refl _ | exact Imp.emp _ | exact Imp.fin))) ?_; conv => whnf)
    | fail)
  refine ⟨_, _, rfl, ?_, e_X', _, ?_, rfl, rfl⟩
  · first | exact Imp.refl _ | exact Imp.drop | exact Imp.fin | ((repeat (refine Imp.pick ?_)); first | exact Imp.refl _ | exact Imp.emp _ | exact Imp.fin)
  · rw [e_h1]; unfold Story.does; rw [if_pos hk]
set_option maxHeartbeats 2000000 in
-- @noauto
theorem does_begin {W : World} {H R : HProp} {s : Nat} {X : StoryX} {x : DeedV} [tk : ObjC storyo H s X R] (hX : X.val.Ok) (hb : X.R.length ≤ 9000000) (hk : 2 ≤ x.kind % 10 ∧ x.kind % 10 < 4) :
    Does prog W f_quotaref18_Story_does ⟨[tptr s, deedA x]⟩ H (Ret fun v G => ∃ X' c, X'.val = X.val.does x ∧ v = .bool c ∧ G = (storyo s X' • R)) := by
  rw [tk.h.eq]
  clear tk
  unfold deedA
  have hv := hX.live
  rw [val_len] at hv
  by_cases h20 : X.V.length < 20
  · refine f_quotaref18_Story_does.does _ _ ?_
    conv => whnf
    repeat' (first
      | (refine CallK.ret f_quotaref18_Story_writes.ok (writes_spec (r := rec1 1 X.nxt 0) (by omega)) ?_; rintro v G ⟨ra', rc', rfl, rfl⟩; rw [storyo_eq]; conv => whnf)
      | (refine DrawK.treeF tab_ok mixed 36 [17] f_quotaref18_Story_does.tree8 _ rfl (by kernel_rfl) (Sub.of (KeepC.cut X.va).h) ?_; conv => whnf)
      | (refine spl_f (by with_reducible exact ndec_self _) ?_; conv => whnf)
      | (refine spl_f (by with_reducible exact nbeq_self _) ?_; conv => whnf)
      | (refine spl_t (by with_reducible exact beq_self _) ?_; conv => whnf)
      | (refine spl_dec (fun hd => ?_) (fun hd => ?_) <;> first | (exfalso; omega) | (conv => whnf))
      | (refine spl_ndec (fun hd => ?_) (fun hd => ?_) <;> first | (exfalso; omega) | (conv => whnf))
      | (refine spl_intro (fun hd => ?_) (fun hd => ?_) <;> (conv => whnf))
      | (refine Ld.i ?_; conv => whnf)
      | (refine LdN.i ?_; conv => whnf)
      | (refine St.i ⟨rfl, rfl⟩ (List.cons_ne_nil _ _) ?_; conv => whnf)
      | (refine Ar.i64 (by omega) ?_; conv => whnf)
      | (refine Ar.u64 (by omega) ?_; conv => whnf)
      | (refine Ar.i64d (by omega) (by omega) ?_; conv => whnf)
      | (refine Shr.i (by rfl) (by decide) ?_; conv => whnf)
      | (refine Shl.i (by rfl) (by decide) ?_; conv => whnf)
      | (refine Req.mk (by omega) ?_; conv => whnf)
      | (intro blk hblk; conv => whnf)
      | (refine OpX.make tab_ok ints 0 rfl rfl rfl rfl rfl rfl (by omega) (fun na' hna => ?_); conv => whnf)
      | (refine OpX.make tab_ok bls false rfl rfl rfl rfl rfl rfl (by omega) (fun ha' hha => ?_); conv => whnf)
      | (refine OpX.app1 (xs := X.V) tab_ok rfl rfl rfl rfl (⟨⟨X.nxt, (X.R.length : Int) + 1, false, List.replicate 200 0, List.replicate 200 false⟩, some ⟨na', 0, none⟩, 200, some ⟨ha', 0, none⟩, 200⟩ : OpenX) rfl rfl (by first | rfl | assumption | omega | decide | (simp; done) | (simp; omega) | (simp at *; omega)) ⟨rfl, OneC.h⟩ (fun va' vc' => ?_); conv => whnf)
      | (refine Ar.u64w ?_; conv => whnf)
      | (refine Ar.i64w ?_; conv => whnf)
      | (refine Sub.on (by first | exact Imp.refl _ | exact Imp.drop | exact Imp.fin | ((repeat (refine Imp.pick ?_)); first | exact Imp.refl _ | exact Imp.emp _ | exact Imp.fin)) ?_; conv => whnf)
      | (refine Sub.on (Imp.trans KeepC.h (by first | exact Imp.refl _ | exact Imp.drop | exact Imp.fin | ((repeat (refine Imp.pick ?_)); first | exact Imp.refl _ | exact Imp.emp _ | exact Imp.fin))) ?_; conv => whnf)
      | (refine CallK.ret f_quotaref18_brought.ok (tbrought_spec (by first | rfl | assumption | omega | decide | (simp; done) | (simp; omega) | (simp at *; omega))) ?_; rintro v G ⟨rfl, rfl⟩; conv => whnf)
      | (refine CallK.ret f_quotaref18_brought.ok (tbrought_spec (by first | rfl | assumption | omega | decide | (simp; done) | (simp; omega) | (simp at *; omega))) ?_; rintro v G ⟨e_z, hz0, hz1, rfl, rfl⟩; conv => whnf)
      | (refine CallK.ret f_quotaref18_Story_makes.ok (makes_spec (by first | rfl | assumption | omega | decide | (simp; done) | (simp; omega) | (simp at *; omega)) (by first | rfl | assumption | omega | decide | (simp; done) | (simp; omega) | (simp at *; omega))) ?_; rintro v G ⟨e_X', e_h1, rfl, rfl⟩; conv => whnf)
      | (refine CallK.ret f_quotaref18_Story_writes.ok (writes_spec (by first | rfl | assumption | omega | decide | (simp; done) | (simp; omega) | (simp at *; omega))) ?_; rintro v G ⟨e_ra', e_rc', rfl, rfl⟩; conv => whnf)
      | (refine CallK.ret f_quotaref18_Story_writes.ok (writes_spec (by first | rfl | assumption | omega | decide | (simp; done) | (simp; omega) | (simp at *; omega))) ?_; rintro v G ⟨e_ra', e_rc', rfl, rfl⟩; conv => whnf)
      | (refine DrawK.treeH tab_ok mixed 36 f_quotaref18_Story_does.tree8 _ rfl (by kernel_rfl) (Sub.of (by first | exact Imp.refl _ | exact Imp.drop | exact Imp.fin | ((repeat (refine Imp.pick ?_)); first | exact Imp.refl _ | exact Imp.emp _ | exact Imp.fin))) ?_; conv => whnf)
      | (refine And.intro ?_ ?_ <;> conv => whnf)
      | (refine DrawK.introH tab_ok mixed 66 f_quotaref18_Story_does.last13 f_quotaref18_Story_does.plan13 _ rfl (by kernel_rfl) (Sub.of (by first | exact Imp.refl _ | exact Imp.drop | exact Imp.fin | ((repeat (refine Imp.pick ?_)); first | exact Imp.refl _ | exact Imp.emp _ | exact Imp.fin))) ?_; conv => whnf)
      | (refine CallK.ret f_quotaref18_Story_leaves.ok (leaves_spec (by first | rfl | assumption | omega | decide | (simp; done) | (simp; omega) | (simp at *; omega)) (by first | rfl | assumption | omega | decide | (simp; done) | (simp; omega) | (simp at *; omega))) ?_; rintro v G ⟨e_X', e_h1, rfl, rfl⟩; conv => whnf)
      | (refine CallK.ret f_quotaref18_Story_leaves.ok (leaves_spec (by first | rfl | assumption | omega | decide | (simp; done) | (simp; omega) | (simp at *; omega)) (by first | rfl | assumption | omega | decide | (simp; done) | (simp; omega) | (simp at *; omega))) ?_; rintro v G ⟨e_va', e_vc', rfl, rfl⟩; conv => whnf)
      | (refine DrawK.introH tab_ok mixed 97 f_quotaref18_Story_does.last19 f_quotaref18_Story_does.plan19 _ rfl (by kernel_rfl) (Sub.of (by first | exact Imp.refl _ | exact Imp.drop | exact Imp.fin | ((repeat (refine Imp.pick ?_)); first | exact Imp.refl _ | exact Imp.emp _ | exact Imp.fin))) ?_; conv => whnf)
      | (refine DrawK.introH tab_ok mixed 127 f_quotaref18_Story_does.last24 f_quotaref18_Story_does.plan24 _ rfl (by kernel_rfl) (Sub.of (by first | exact Imp.refl _ | exact Imp.drop | exact Imp.fin | ((repeat (refine Imp.pick ?_)); first | exact Imp.refl _ | exact Imp.emp _ | exact Imp.fin))) ?_; conv => whnf)
      | (refine DrawK.introH tab_ok mixed 149 f_quotaref18_Story_does.last26 f_quotaref18_Story_does.plan26 _ rfl (by kernel_rfl) (Sub.of (by first | exact Imp.refl _ | exact Imp.drop | exact Imp.fin | ((repeat (refine Imp.pick ?_)); first | exact Imp.refl _ | exact Imp.emp _ | exact Imp.fin))) ?_; conv => whnf)
      | (refine CallK.ret f_quotaref18_Story_change.ok (change_spec (by first | rfl | assumption | omega | decide | (simp; done) | (simp; omega) | (simp at *; omega)) (by first | rfl | assumption | omega | decide | (simp; done) | (simp; omega) | (simp at *; omega)) (by first | rfl | assumption | omega | decide | (simp; done) | (simp; omega) | (simp at *; omega))) ?_; rintro v G ⟨e_X', e_h1, e_h2, e_h3⟩; conv => whnf)
      | (refine DrawK.introH tab_ok mixed 186 f_quotaref18_Story_does.last32 f_quotaref18_Story_does.plan32 _ rfl (by kernel_rfl) (Sub.of (by first | exact Imp.refl _ | exact Imp.drop | exact Imp.fin | ((repeat (refine Imp.pick ?_)); first | exact Imp.refl _ | exact Imp.emp _ | exact Imp.fin))) ?_; conv => whnf)
      | (refine DrawK.introH tab_ok mixed 209 f_quotaref18_Story_does.last35 f_quotaref18_Story_does.plan35 _ rfl (by kernel_rfl) (Sub.of (by first | exact Imp.refl _ | exact Imp.drop | exact Imp.fin | ((repeat (refine Imp.pick ?_)); first | exact Imp.refl _ | exact Imp.emp _ | exact Imp.fin))) ?_; conv => whnf)
      | (refine DrawK.introH tab_ok mixed 225 f_quotaref18_Story_does.last38 f_quotaref18_Story_does.plan38 _ rfl (by kernel_rfl) (Sub.of (by first | exact Imp.refl _ | exact Imp.drop | exact Imp.fin | ((repeat (refine Imp.pick ?_)); first | exact Imp.refl _ | exact Imp.emp _ | exact Imp.fin))) ?_; conv => whnf)
      | fail)
    all_goals
      refine ⟨_, _, rfl, Imp.trans ?_ (storyo_fold s ⟨X.pages, ra', rc', X.R ++ [{ rec1 1 X.nxt 0 with lsn := (X.R.length : Int) + 1 }], X.la, X.lc, X.L, X.ga, X.gc, X.G, X.ia, X.ic, X.I, va', vc', X.V ++ [(⟨⟨X.nxt, (X.R.length : Int) + 1, false, List.replicate 200 0, List.replicate 200 false⟩, some ⟨na', 0, none⟩, 200, some ⟨ha', 0, none⟩, 200⟩ : OpenX)], wr (X.nxt + 1), X.sa, X.sc, X.S⟩ R), _, _, ?_, rfl, rfl⟩
      · rw [bigL_snoc]
        unfold openc wr
        dsimp only
        rw [len_snocX]
        simp only [star_assoc, Int.reduceToNat]
        first | exact Imp.refl _ | exact Imp.drop | exact Imp.fin | ((repeat (refine Imp.pick ?_)); first | exact Imp.refl _ | exact Imp.emp _ | exact Imp.fin)
      · unfold Story.does Story.begins
        dsimp only
        rw [if_neg (by omega), if_pos hk.2, if_pos (by rw [val_len]; omega)]
        simp [StoryX.val, Story.writes]
  · refine f_quotaref18_Story_does.does _ _ ?_
    conv => whnf
    repeat' (first
      | (refine spl_f (by with_reducible exact ndec_self _) ?_; conv => whnf)
      | (refine spl_f (by with_reducible exact nbeq_self _) ?_; conv => whnf)
      | (refine spl_t (by with_reducible exact beq_self _) ?_; conv => whnf)
      | (refine spl_dec (fun hd => ?_) (fun hd => ?_) <;> first | (exfalso; omega) | (conv => whnf))
      | (refine spl_ndec (fun hd => ?_) (fun hd => ?_) <;> first | (exfalso; omega) | (conv => whnf))
      | (refine spl_intro (fun hd => ?_) (fun hd => ?_) <;> (conv => whnf))
      | (refine Ld.i ?_; conv => whnf)
      | (refine LdN.i ?_; conv => whnf)
      | (refine St.i ⟨rfl, rfl⟩ (List.cons_ne_nil _ _) ?_; conv => whnf)
      | (refine Ar.i64 (by omega) ?_; conv => whnf)
      | (refine Ar.u64 (by omega) ?_; conv => whnf)
      | (refine Ar.i64d (by omega) (by omega) ?_; conv => whnf)
      | (refine Shr.i (by rfl) (by decide) ?_; conv => whnf)
      | (refine Shl.i (by rfl) (by decide) ?_; conv => whnf)
      | (refine Req.mk (by omega) ?_; conv => whnf)
      | (intro blk hblk; conv => whnf)
      | (refine Sub.on (by first | exact Imp.refl _ | exact Imp.drop | exact Imp.fin | ((repeat (refine Imp.pick ?_)); first | exact Imp.refl _ | exact Imp.emp _ | exact Imp.fin)) ?_; conv => whnf)
      | (refine Sub.on (Imp.trans KeepC.h (by first | exact Imp.refl _ | exact Imp.drop | exact Imp.fin | ((repeat (refine Imp.pick ?_)); first | exact Imp.refl _ | exact Imp.emp _ | exact Imp.fin))) ?_; conv => whnf)
      | (refine CallK.ret f_quotaref18_brought.ok (tbrought_spec (by first | rfl | assumption | omega | decide | (simp; done) | (simp; omega) | (simp at *; omega))) ?_; rintro v G ⟨rfl, rfl⟩; conv => whnf)
      | (refine CallK.ret f_quotaref18_brought.ok (tbrought_spec (by first | rfl | assumption | omega | decide | (simp; done) | (simp; omega) | (simp at *; omega))) ?_; rintro v G ⟨e_z, hz0, hz1, rfl, rfl⟩; conv => whnf)
      | (refine CallK.ret f_quotaref18_Story_makes.ok (makes_spec (by first | rfl | assumption | omega | decide | (simp; done) | (simp; omega) | (simp at *; omega)) (by first | rfl | assumption | omega | decide | (simp; done) | (simp; omega) | (simp at *; omega))) ?_; rintro v G ⟨e_X', e_h1, rfl, rfl⟩; conv => whnf)
      | (refine CallK.ret f_quotaref18_Story_writes.ok (writes_spec (by first | rfl | assumption | omega | decide | (simp; done) | (simp; omega) | (simp at *; omega))) ?_; rintro v G ⟨e_ra', e_rc', rfl, rfl⟩; conv => whnf)
      | (refine CallK.ret f_quotaref18_Story_writes.ok (writes_spec (by first | rfl | assumption | omega | decide | (simp; done) | (simp; omega) | (simp at *; omega))) ?_; rintro v G ⟨e_ra', e_rc', rfl, rfl⟩; conv => whnf)
      | (refine DrawK.treeH tab_ok mixed 36 f_quotaref18_Story_does.tree8 _ rfl (by kernel_rfl) (Sub.of (by first | exact Imp.refl _ | exact Imp.drop | exact Imp.fin | ((repeat (refine Imp.pick ?_)); first | exact Imp.refl _ | exact Imp.emp _ | exact Imp.fin))) ?_; conv => whnf)
      | (refine And.intro ?_ ?_ <;> conv => whnf)
      | (refine DrawK.introH tab_ok mixed 66 f_quotaref18_Story_does.last13 f_quotaref18_Story_does.plan13 _ rfl (by kernel_rfl) (Sub.of (by first | exact Imp.refl _ | exact Imp.drop | exact Imp.fin | ((repeat (refine Imp.pick ?_)); first | exact Imp.refl _ | exact Imp.emp _ | exact Imp.fin))) ?_; conv => whnf)
      | (refine CallK.ret f_quotaref18_Story_leaves.ok (leaves_spec (by first | rfl | assumption | omega | decide | (simp; done) | (simp; omega) | (simp at *; omega)) (by first | rfl | assumption | omega | decide | (simp; done) | (simp; omega) | (simp at *; omega))) ?_; rintro v G ⟨e_X', e_h1, rfl, rfl⟩; conv => whnf)
      | (refine CallK.ret f_quotaref18_Story_leaves.ok (leaves_spec (by first | rfl | assumption | omega | decide | (simp; done) | (simp; omega) | (simp at *; omega)) (by first | rfl | assumption | omega | decide | (simp; done) | (simp; omega) | (simp at *; omega))) ?_; rintro v G ⟨e_va', e_vc', rfl, rfl⟩; conv => whnf)
      | (refine DrawK.introH tab_ok mixed 97 f_quotaref18_Story_does.last19 f_quotaref18_Story_does.plan19 _ rfl (by kernel_rfl) (Sub.of (by first | exact Imp.refl _ | exact Imp.drop | exact Imp.fin | ((repeat (refine Imp.pick ?_)); first | exact Imp.refl _ | exact Imp.emp _ | exact Imp.fin))) ?_; conv => whnf)
      | (refine DrawK.introH tab_ok mixed 127 f_quotaref18_Story_does.last24 f_quotaref18_Story_does.plan24 _ rfl (by kernel_rfl) (Sub.of (by first | exact Imp.refl _ | exact Imp.drop | exact Imp.fin | ((repeat (refine Imp.pick ?_)); first | exact Imp.refl _ | exact Imp.emp _ | exact Imp.fin))) ?_; conv => whnf)
      | (refine DrawK.introH tab_ok mixed 149 f_quotaref18_Story_does.last26 f_quotaref18_Story_does.plan26 _ rfl (by kernel_rfl) (Sub.of (by first | exact Imp.refl _ | exact Imp.drop | exact Imp.fin | ((repeat (refine Imp.pick ?_)); first | exact Imp.refl _ | exact Imp.emp _ | exact Imp.fin))) ?_; conv => whnf)
      | (refine CallK.ret f_quotaref18_Story_change.ok (change_spec (by first | rfl | assumption | omega | decide | (simp; done) | (simp; omega) | (simp at *; omega)) (by first | rfl | assumption | omega | decide | (simp; done) | (simp; omega) | (simp at *; omega)) (by first | rfl | assumption | omega | decide | (simp; done) | (simp; omega) | (simp at *; omega))) ?_; rintro v G ⟨e_X', e_h1, e_h2, e_h3⟩; conv => whnf)
      | (refine DrawK.introH tab_ok mixed 186 f_quotaref18_Story_does.last32 f_quotaref18_Story_does.plan32 _ rfl (by kernel_rfl) (Sub.of (by first | exact Imp.refl _ | exact Imp.drop | exact Imp.fin | ((repeat (refine Imp.pick ?_)); first | exact Imp.refl _ | exact Imp.emp _ | exact Imp.fin))) ?_; conv => whnf)
      | (refine DrawK.introH tab_ok mixed 209 f_quotaref18_Story_does.last35 f_quotaref18_Story_does.plan35 _ rfl (by kernel_rfl) (Sub.of (by first | exact Imp.refl _ | exact Imp.drop | exact Imp.fin | ((repeat (refine Imp.pick ?_)); first | exact Imp.refl _ | exact Imp.emp _ | exact Imp.fin))) ?_; conv => whnf)
      | (refine DrawK.introH tab_ok mixed 225 f_quotaref18_Story_does.last38 f_quotaref18_Story_does.plan38 _ rfl (by kernel_rfl) (Sub.of (by first | exact Imp.refl _ | exact Imp.drop | exact Imp.fin | ((repeat (refine Imp.pick ?_)); first | exact Imp.refl _ | exact Imp.emp _ | exact Imp.fin))) ?_; conv => whnf)
      | fail)
    refine ⟨_, _, rfl, ?_, X, _, ?_, rfl, rfl⟩
    · first | exact Imp.refl _ | exact Imp.drop | exact Imp.fin | ((repeat (refine Imp.pick ?_)); first | exact Imp.refl _ | exact Imp.emp _ | exact Imp.fin)
    · unfold Story.does Story.begins
      dsimp only
      rw [if_neg (by omega), if_pos hk.2, if_neg (by rw [val_len]; omega)]
set_option maxHeartbeats 2000000 in
-- @noauto
theorem does_none {W : World} {H R : HProp} {s : Nat} {X : StoryX} {x : DeedV} [tk : ObjC storyo H s X R] (hk : 4 ≤ x.kind % 10) (hv : X.V.length = 0) :
    Does prog W f_quotaref18_Story_does ⟨[tptr s, deedA x]⟩ H (Ret fun v G => ∃ X' c, X'.val = X.val.does x ∧ v = .bool c ∧ G = (storyo s X' • R)) := by
  rw [tk.h.eq]
  clear tk
  unfold deedA
  refine f_quotaref18_Story_does.does _ _ ?_
  conv => whnf
  repeat' (first
    | (refine spl_f (by with_reducible exact ndec_self _) ?_; conv => whnf)
    | (refine spl_f (by with_reducible exact nbeq_self _) ?_; conv => whnf)
    | (refine spl_t (by with_reducible exact beq_self _) ?_; conv => whnf)
    | (refine spl_dec (fun hd => ?_) (fun hd => ?_) <;> first | (exfalso; omega) | (conv => whnf))
    | (refine spl_ndec (fun hd => ?_) (fun hd => ?_) <;> first | (exfalso; omega) | (conv => whnf))
    | (refine spl_intro (fun hd => ?_) (fun hd => ?_) <;> (conv => whnf))
    | (refine Ld.i ?_; conv => whnf)
    | (refine LdN.i ?_; conv => whnf)
    | (refine St.i ⟨rfl, rfl⟩ (List.cons_ne_nil _ _) ?_; conv => whnf)
    | (refine Ar.i64 (by omega) ?_; conv => whnf)
    | (refine Ar.u64 (by omega) ?_; conv => whnf)
    | (refine Ar.i64d (by omega) (by omega) ?_; conv => whnf)
    | (refine Shr.i (by rfl) (by decide) ?_; conv => whnf)
    | (refine Shl.i (by rfl) (by decide) ?_; conv => whnf)
    | (refine Req.mk (by omega) ?_; conv => whnf)
    | (intro blk hblk; conv => whnf)
    | (refine Sub.on (by first | exact Imp.refl _ | exact Imp.drop | exact Imp.fin | ((repeat (refine Imp.pick ?_)); first | exact Imp.refl _ | exact Imp.emp _ | exact Imp.fin)) ?_; conv => whnf)
    | (refine Sub.on (Imp.trans KeepC.h (by first | exact Imp.refl _ | exact Imp.drop | exact Imp.fin | ((repeat (refine Imp.pick ?_)); first | exact Imp.refl _ | exact Imp.emp _ | exact Imp.fin))) ?_; conv => whnf)
    | (refine CallK.ret f_quotaref18_brought.ok (tbrought_spec (by first | rfl | assumption | omega | decide | (simp; done) | (simp; omega) | (simp at *; omega))) ?_; rintro v G ⟨rfl, rfl⟩; conv => whnf)
    | (refine CallK.ret f_quotaref18_brought.ok (tbrought_spec (by first | rfl | assumption | omega | decide | (simp; done) | (simp; omega) | (simp at *; omega))) ?_; rintro v G ⟨e_z, hz0, hz1, rfl, rfl⟩; conv => whnf)
    | (refine CallK.ret f_quotaref18_Story_makes.ok (makes_spec (by first | rfl | assumption | omega | decide | (simp; done) | (simp; omega) | (simp at *; omega)) (by first | rfl | assumption | omega | decide | (simp; done) | (simp; omega) | (simp at *; omega))) ?_; rintro v G ⟨e_X', e_h1, rfl, rfl⟩; conv => whnf)
    | (refine CallK.ret f_quotaref18_Story_writes.ok (writes_spec (by first | rfl | assumption | omega | decide | (simp; done) | (simp; omega) | (simp at *; omega))) ?_; rintro v G ⟨e_ra', e_rc', rfl, rfl⟩; conv => whnf)
    | (refine CallK.ret f_quotaref18_Story_writes.ok (writes_spec (by first | rfl | assumption | omega | decide | (simp; done) | (simp; omega) | (simp at *; omega))) ?_; rintro v G ⟨e_ra', e_rc', rfl, rfl⟩; conv => whnf)
    | (refine DrawK.treeH tab_ok mixed 36 f_quotaref18_Story_does.tree8 _ rfl (by kernel_rfl) (Sub.of (by first | exact Imp.refl _ | exact Imp.drop | exact Imp.fin | ((repeat (refine Imp.pick ?_)); first | exact Imp.refl _ | exact Imp.emp _ | exact Imp.fin))) ?_; conv => whnf)
    | (refine And.intro ?_ ?_ <;> conv => whnf)
    | (refine DrawK.introH tab_ok mixed 66 f_quotaref18_Story_does.last13 f_quotaref18_Story_does.plan13 _ rfl (by kernel_rfl) (Sub.of (by first | exact Imp.refl _ | exact Imp.drop | exact Imp.fin | ((repeat (refine Imp.pick ?_)); first | exact Imp.refl _ | exact Imp.emp _ | exact Imp.fin))) ?_; conv => whnf)
    | (refine CallK.ret f_quotaref18_Story_leaves.ok (leaves_spec (by first | rfl | assumption | omega | decide | (simp; done) | (simp; omega) | (simp at *; omega)) (by first | rfl | assumption | omega | decide | (simp; done) | (simp; omega) | (simp at *; omega))) ?_; rintro v G ⟨e_X', e_h1, rfl, rfl⟩; conv => whnf)
    | (refine CallK.ret f_quotaref18_Story_leaves.ok (leaves_spec (by first | rfl | assumption | omega | decide | (simp; done) | (simp; omega) | (simp at *; omega)) (by first | rfl | assumption | omega | decide | (simp; done) | (simp; omega) | (simp at *; omega))) ?_; rintro v G ⟨e_va', e_vc', rfl, rfl⟩; conv => whnf)
    | (refine DrawK.introH tab_ok mixed 97 f_quotaref18_Story_does.last19 f_quotaref18_Story_does.plan19 _ rfl (by kernel_rfl) (Sub.of (by first | exact Imp.refl _ | exact Imp.drop | exact Imp.fin | ((repeat (refine Imp.pick ?_)); first | exact Imp.refl _ | exact Imp.emp _ | exact Imp.fin))) ?_; conv => whnf)
    | (refine DrawK.introH tab_ok mixed 127 f_quotaref18_Story_does.last24 f_quotaref18_Story_does.plan24 _ rfl (by kernel_rfl) (Sub.of (by first | exact Imp.refl _ | exact Imp.drop | exact Imp.fin | ((repeat (refine Imp.pick ?_)); first | exact Imp.refl _ | exact Imp.emp _ | exact Imp.fin))) ?_; conv => whnf)
    | (refine DrawK.introH tab_ok mixed 149 f_quotaref18_Story_does.last26 f_quotaref18_Story_does.plan26 _ rfl (by kernel_rfl) (Sub.of (by first | exact Imp.refl _ | exact Imp.drop | exact Imp.fin | ((repeat (refine Imp.pick ?_)); first | exact Imp.refl _ | exact Imp.emp _ | exact Imp.fin))) ?_; conv => whnf)
    | (refine CallK.ret f_quotaref18_Story_change.ok (change_spec (by first | rfl | assumption | omega | decide | (simp; done) | (simp; omega) | (simp at *; omega)) (by first | rfl | assumption | omega | decide | (simp; done) | (simp; omega) | (simp at *; omega)) (by first | rfl | assumption | omega | decide | (simp; done) | (simp; omega) | (simp at *; omega))) ?_; rintro v G ⟨e_X', e_h1, e_h2, e_h3⟩; conv => whnf)
    | (refine DrawK.introH tab_ok mixed 186 f_quotaref18_Story_does.last32 f_quotaref18_Story_does.plan32 _ rfl (by kernel_rfl) (Sub.of (by first | exact Imp.refl _ | exact Imp.drop | exact Imp.fin | ((repeat (refine Imp.pick ?_)); first | exact Imp.refl _ | exact Imp.emp _ | exact Imp.fin))) ?_; conv => whnf)
    | (refine DrawK.introH tab_ok mixed 209 f_quotaref18_Story_does.last35 f_quotaref18_Story_does.plan35 _ rfl (by kernel_rfl) (Sub.of (by first | exact Imp.refl _ | exact Imp.drop | exact Imp.fin | ((repeat (refine Imp.pick ?_)); first | exact Imp.refl _ | exact Imp.emp _ | exact Imp.fin))) ?_; conv => whnf)
    | (refine DrawK.introH tab_ok mixed 225 f_quotaref18_Story_does.last38 f_quotaref18_Story_does.plan38 _ rfl (by kernel_rfl) (Sub.of (by first | exact Imp.refl _ | exact Imp.drop | exact Imp.fin | ((repeat (refine Imp.pick ?_)); first | exact Imp.refl _ | exact Imp.emp _ | exact Imp.fin))) ?_; conv => whnf)
    | fail)
  refine ⟨_, _, rfl, ?_, X, _, ?_, rfl, rfl⟩
  · first | exact Imp.refl _ | exact Imp.drop | exact Imp.fin | ((repeat (refine Imp.pick ?_)); first | exact Imp.refl _ | exact Imp.emp _ | exact Imp.fin)
  · unfold Story.does
    dsimp only
    rw [if_neg (by omega), if_neg (by omega), if_pos (by rw [val_len]; omega)]
set_option maxHeartbeats 2000000 in
-- @noauto
theorem does_end {W : World} {H R : HProp} {s : Nat} {X : StoryX} {x : DeedV} {t : Nat} {o : OpenX} [tk : ObjC storyo H s X R] (hX : X.val.Ok) (hb : X.R.length ≤ 9000000) (hk : 4 ≤ x.kind % 10) (hv : ¬ X.V.length = 0) (ht : (t : Int) = x.a % X.V.length) (ho : X.V[t]? = some o) (hc : o.o.com = true) :
    Does prog W f_quotaref18_Story_does ⟨[tptr s, deedA x]⟩ H (Ret fun v G => ∃ X' c, X'.val = X.val.does x ∧ v = .bool c ∧ G = (storyo s X' • R)) := by
  rw [tk.h.eq]
  clear tk
  unfold deedA
  have hlv := hX.live
  rw [val_len] at hlv
  have htl := (List.getElem?_eq_some_iff.1 ho).1
  refine f_quotaref18_Story_does.does _ _ ?_
  conv => whnf
  repeat' (first
    | (refine CallK.ret f_quotaref18_Story_writes.ok (writes_spec (r := rec1 7 o.o.tx o.o.last) (by omega)) ?_; rintro v G ⟨ra', rc', rfl, rfl⟩; conv => whnf)
    | (refine spl_t hc ?_; conv => whnf)
    | (rw [← ht]; refine CallK.ret f_quotaref18_Story_leaves.ok (leaves_spec (t := t) (by exact htl) (by exact hlv)) ?_; rintro v G ⟨X', hX', rfl, rfl⟩; conv => whnf)
    | (refine spl_f (by with_reducible exact ndec_self _) ?_; conv => whnf)
    | (refine spl_f (by with_reducible exact nbeq_self _) ?_; conv => whnf)
    | (refine spl_t (by with_reducible exact beq_self _) ?_; conv => whnf)
    | (refine spl_dec (fun hd => ?_) (fun hd => ?_) <;> first | (exfalso; omega) | (conv => whnf))
    | (refine spl_ndec (fun hd => ?_) (fun hd => ?_) <;> first | (exfalso; omega) | (conv => whnf))
    | (refine spl_intro (fun hd => ?_) (fun hd => ?_) <;> (conv => whnf))
    | (refine Ld.i ?_; conv => whnf)
    | (refine LdN.i ?_; conv => whnf)
    | (refine St.i ⟨rfl, rfl⟩ (List.cons_ne_nil _ _) ?_; conv => whnf)
    | (refine Ar.i64 (by omega) ?_; conv => whnf)
    | (refine Ar.u64 (by omega) ?_; conv => whnf)
    | (refine Ar.i64d (by omega) (by omega) ?_; conv => whnf)
    | (refine Shr.i (by rfl) (by decide) ?_; conv => whnf)
    | (refine Shl.i (by rfl) (by decide) ?_; conv => whnf)
    | (refine Req.mk (by omega) ?_; conv => whnf)
    | (intro blk hblk; conv => whnf)
    | (rw [← ht]; refine IxS.r (xs := X.V) (i := t) rfl rfl htl (fun ab off ha => ?_); have rv : RowC W (storyo s X • R) (some ⟨ab, off, none⟩) 5 openv X.V := ha ▸ inferInstance; conv => whnf)
    | (refine LdN.r ho rfl ?_; conv => whnf)
    | (refine Ld.r ho rfl ?_; conv => whnf)
    | (refine Ld.r0 ho rfl ?_; conv => whnf)
    | (refine LdN.rp ho ?_; conv => whnf)
    | (refine Sub.on (by first | exact Imp.refl _ | exact Imp.drop | exact Imp.fin | ((repeat (refine Imp.pick ?_)); first | exact Imp.refl _ | exact Imp.emp _ | exact Imp.fin)) ?_; conv => whnf)
    | (refine Sub.on (Imp.trans KeepC.h (by first | exact Imp.refl _ | exact Imp.drop | exact Imp.fin | ((repeat (refine Imp.pick ?_)); first | exact Imp.refl _ | exact Imp.emp _ | exact Imp.fin))) ?_; conv => whnf)
    | (refine CallK.ret f_quotaref18_brought.ok (tbrought_spec (by first | rfl | assumption | omega | decide | (simp; done) | (simp; omega) | (simp at *; omega))) ?_; rintro v G ⟨rfl, rfl⟩; conv => whnf)
    | (refine CallK.ret f_quotaref18_brought.ok (tbrought_spec (by first | rfl | assumption | omega | decide | (simp; done) | (simp; omega) | (simp at *; omega))) ?_; rintro v G ⟨e_z, hz0, hz1, rfl, rfl⟩; conv => whnf)
    | (refine CallK.ret f_quotaref18_Story_makes.ok (makes_spec (by first | rfl | assumption | omega | decide | (simp; done) | (simp; omega) | (simp at *; omega)) (by first | rfl | assumption | omega | decide | (simp; done) | (simp; omega) | (simp at *; omega))) ?_; rintro v G ⟨e_X', e_h1, rfl, rfl⟩; conv => whnf)
    | (refine CallK.ret f_quotaref18_Story_writes.ok (writes_spec (by first | rfl | assumption | omega | decide | (simp; done) | (simp; omega) | (simp at *; omega))) ?_; rintro v G ⟨e_ra', e_rc', rfl, rfl⟩; conv => whnf)
    | (refine CallK.ret f_quotaref18_Story_writes.ok (writes_spec (by first | rfl | assumption | omega | decide | (simp; done) | (simp; omega) | (simp at *; omega))) ?_; rintro v G ⟨e_ra', e_rc', rfl, rfl⟩; conv => whnf)
    | (refine DrawK.treeH tab_ok mixed 36 f_quotaref18_Story_does.tree8 _ rfl (by kernel_rfl) (Sub.of (by first | exact Imp.refl _ | exact Imp.drop | exact Imp.fin | ((repeat (refine Imp.pick ?_)); first | exact Imp.refl _ | exact Imp.emp _ | exact Imp.fin))) ?_; conv => whnf)
    | (refine And.intro ?_ ?_ <;> conv => whnf)
    | (refine DrawK.introH tab_ok mixed 66 f_quotaref18_Story_does.last13 f_quotaref18_Story_does.plan13 _ rfl (by kernel_rfl) (Sub.of (by first | exact Imp.refl _ | exact Imp.drop | exact Imp.fin | ((repeat (refine Imp.pick ?_)); first | exact Imp.refl _ | exact Imp.emp _ | exact Imp.fin))) ?_; conv => whnf)
    | (refine CallK.ret f_quotaref18_Story_leaves.ok (leaves_spec (by first | rfl | assumption | omega | decide | (simp; done) | (simp; omega) | (simp at *; omega)) (by first | rfl | assumption | omega | decide | (simp; done) | (simp; omega) | (simp at *; omega))) ?_; rintro v G ⟨e_X', e_h1, rfl, rfl⟩; conv => whnf)
    | (refine CallK.ret f_quotaref18_Story_leaves.ok (leaves_spec (by first | rfl | assumption | omega | decide | (simp; done) | (simp; omega) | (simp at *; omega)) (by first | rfl | assumption | omega | decide | (simp; done) | (simp; omega) | (simp at *; omega))) ?_; rintro v G ⟨e_va', e_vc', rfl, rfl⟩; conv => whnf)
    | (refine DrawK.introH tab_ok mixed 97 f_quotaref18_Story_does.last19 f_quotaref18_Story_does.plan19 _ rfl (by kernel_rfl) (Sub.of (by first | exact Imp.refl _ | exact Imp.drop | exact Imp.fin | ((repeat (refine Imp.pick ?_)); first | exact Imp.refl _ | exact Imp.emp _ | exact Imp.fin))) ?_; conv => whnf)
    | (refine DrawK.introH tab_ok mixed 127 f_quotaref18_Story_does.last24 f_quotaref18_Story_does.plan24 _ rfl (by kernel_rfl) (Sub.of (by first | exact Imp.refl _ | exact Imp.drop | exact Imp.fin | ((repeat (refine Imp.pick ?_)); first | exact Imp.refl _ | exact Imp.emp _ | exact Imp.fin))) ?_; conv => whnf)
    | (refine DrawK.introH tab_ok mixed 149 f_quotaref18_Story_does.last26 f_quotaref18_Story_does.plan26 _ rfl (by kernel_rfl) (Sub.of (by first | exact Imp.refl _ | exact Imp.drop | exact Imp.fin | ((repeat (refine Imp.pick ?_)); first | exact Imp.refl _ | exact Imp.emp _ | exact Imp.fin))) ?_; conv => whnf)
    | (refine CallK.ret f_quotaref18_Story_change.ok (change_spec (by first | rfl | assumption | omega | decide | (simp; done) | (simp; omega) | (simp at *; omega)) (by first | rfl | assumption | omega | decide | (simp; done) | (simp; omega) | (simp at *; omega)) (by first | rfl | assumption | omega | decide | (simp; done) | (simp; omega) | (simp at *; omega))) ?_; rintro v G ⟨e_X', e_h1, e_h2, e_h3⟩; conv => whnf)
    | (refine DrawK.introH tab_ok mixed 186 f_quotaref18_Story_does.last32 f_quotaref18_Story_does.plan32 _ rfl (by kernel_rfl) (Sub.of (by first | exact Imp.refl _ | exact Imp.drop | exact Imp.fin | ((repeat (refine Imp.pick ?_)); first | exact Imp.refl _ | exact Imp.emp _ | exact Imp.fin))) ?_; conv => whnf)
    | (refine DrawK.introH tab_ok mixed 209 f_quotaref18_Story_does.last35 f_quotaref18_Story_does.plan35 _ rfl (by kernel_rfl) (Sub.of (by first | exact Imp.refl _ | exact Imp.drop | exact Imp.fin | ((repeat (refine Imp.pick ?_)); first | exact Imp.refl _ | exact Imp.emp _ | exact Imp.fin))) ?_; conv => whnf)
    | (refine DrawK.introH tab_ok mixed 225 f_quotaref18_Story_does.last38 f_quotaref18_Story_does.plan38 _ rfl (by kernel_rfl) (Sub.of (by first | exact Imp.refl _ | exact Imp.drop | exact Imp.fin | ((repeat (refine Imp.pick ?_)); first | exact Imp.refl _ | exact Imp.emp _ | exact Imp.fin))) ?_; conv => whnf)
    | fail)
  refine ⟨_, _, rfl, ?_, e_X', _, ?_, rfl, rfl⟩
  · first | exact Imp.refl _ | exact Imp.drop | exact Imp.fin | ((repeat (refine Imp.pick ?_)); first | exact Imp.refl _ | exact Imp.emp _ | exact Imp.fin)
  · rw [e_h1]
    unfold Story.does
    dsimp only
    have e1 : (x.a % (X.val.V.length : Int)).toNat = t := by rw [val_len, ← ht]; rfl
    rw [if_neg (by omega), if_neg (by omega), if_neg (by rw [val_len]; omega), e1, val_get ho]
    dsimp only
    rw [if_pos hc]
    rfl
end Go.Proofs.YtacpnjlijjgbmaaGreatDoor
namespace Go.Proofs.YtacpnjlijjgbmaaGreatDoor
open Go Go.SL Go.SL.Sec Go.SL.Rec Go.SL.Tld
open Go.SL.Und (RecV recv rec_one fits)
set_option maxHeartbeats 2000000 in
-- @noauto
theorem does_add {W : World} {H R : HProp} {s : Nat} {X : StoryX} {x : DeedV} {t k : Nat} {o : OpenX} [tk : ObjC storyo H s X R] (hX : X.val.Ok) (hb : X.R.length ≤ 9000000) (hk : 4 ≤ x.kind % 10 ∧ x.kind % 10 ≠ 8 ∧ x.kind % 10 ≠ 9) (hv : ¬ X.V.length = 0) (ht : (t : Int) = x.a % X.V.length) (ho : X.V[t]? = some o) (hc : o.o.com = false) (hl : 0 < X.L.length) (hkk : (k : Int) = x.b % X.L.length) :
    Does prog W f_quotaref18_Story_does ⟨[tptr s, deedA x]⟩ H (Ret fun v G => ∃ X' c, X'.val = X.val.does x ∧ v = .bool c ∧ G = (storyo s X' • R)) := by
  rw [tk.h.eq]
  clear tk
  unfold deedA
  have hlv := hX.live
  rw [val_len] at hlv
  have htl := (List.getElem?_eq_some_iff.1 ho).1
  have hnl : o.o.nets.length = 200 ∧ o.o.holds.length = 200 := hX.op o.o (by
    have := List.mem_of_getElem? (val_get ho)
    exact this)
  have hll : X.L.length ≤ 60 := hX.ll
  have e1 : (x.a % (X.val.V.length : Int)).toNat = t := by rw [val_len, ← ht]; rfl
  have hkl : k < X.L.length := by
    have := Int.emod_lt_of_pos x.b (show (0 : Int) < X.L.length by omega)
    omega
  obtain ⟨p, hp⟩ : ∃ p, X.L[k]? = some p := ⟨_, List.getElem?_eq_getElem hkl⟩
  obtain ⟨y, hy⟩ : ∃ y, o.o.nets[k]? = some y := ⟨_, List.getElem?_eq_getElem (by omega)⟩
  obtain ⟨o1, ho1⟩ : ∃ o1 : OpenX, o1 = { o with o := { o.o with last := (X.R.length : Int) + 1 } } := ⟨_, rfl⟩
  have hn1 : o1.o.nets.length = 200 ∧ o1.o.holds.length = 200 := by rw [ho1]; exact hnl
  refine f_quotaref18_Story_does.does _ _ ?_
  conv => whnf
  repeat' (first
    | (refine spl_f hc ?_; conv => whnf)
    | (refine spl_f (by with_reducible exact ndec_self _) ?_; conv => whnf)
    | (refine spl_f (by with_reducible exact nbeq_self _) ?_; conv => whnf)
    | (refine spl_t (by with_reducible exact beq_self _) ?_; conv => whnf)
    | (refine spl_dec (fun hd => ?_) (fun hd => ?_) <;> first | (exfalso; omega) | (conv => whnf))
    | (refine spl_ndec (fun hd => ?_) (fun hd => ?_) <;> first | (exfalso; omega) | (conv => whnf))
    | (refine spl_intro (fun hd => ?_) (fun hd => ?_) <;> (conv => whnf))
    | (refine Ld.i ?_; conv => whnf)
    | (refine LdN.i ?_; conv => whnf)
    | (refine St.i ⟨rfl, rfl⟩ (List.cons_ne_nil _ _) ?_; conv => whnf)
    | (refine Ar.i64 (by omega) ?_; conv => whnf)
    | (refine Ar.u64 (by omega) ?_; conv => whnf)
    | (refine Ar.i64d (by omega) (by omega) ?_; conv => whnf)
    | (refine Shr.i (by rfl) (by decide) ?_; conv => whnf)
    | (refine Shl.i (by rfl) (by decide) ?_; conv => whnf)
    | (refine Req.mk (by omega) ?_; conv => whnf)
    | (intro blk hblk; conv => whnf)
    | (rw [← ht]; refine IxS.r (xs := X.V) (i := t) rfl rfl htl (fun ab off ha => ?_); have rv : ∀ Q : HProp, RowC W (storyo s X • Q) (some ⟨ab, off, none⟩) 5 openv X.V := fun Q => ha ▸ inferInstance; conv => whnf)
    | (refine IxS.r (i := t) rfl rfl (by first | exact htl | (rw [List.length_set]; exact htl)) (fun ab off ha => ?_); conv => whnf)
    | (refine LdN.r ho rfl ?_; conv => whnf)
    | (refine Ld.r ho rfl ?_; conv => whnf)
    | (refine Ld.r0 ho rfl ?_; conv => whnf)
    | (refine LdN.rp ho ?_; conv => whnf)
    | (rw [← hkk]; refine CallK.ret f_quotaref18_Story_change.ok (change_spec (X := X) (t := t) (k := k) (x := o) (p := p) ho hp (by omega)) ?_; rintro v G ⟨X1, hX1, _, hX1t, rfl, rfl⟩; conv => whnf)
    | (refine Sub.on (by first | exact Imp.refl _ | exact Imp.drop | exact Imp.fin | ((repeat (refine Imp.pick ?_)); first | exact Imp.refl _ | exact Imp.emp _ | exact Imp.fin)) ?_; conv => whnf)
    | (refine Sub.on (Imp.trans KeepC.h (by first | exact Imp.refl _ | exact Imp.drop | exact Imp.fin | ((repeat (refine Imp.pick ?_)); first | exact Imp.refl _ | exact Imp.emp _ | exact Imp.fin))) ?_; conv => whnf)
    | (refine CallK.ret f_quotaref18_brought.ok (tbrought_spec (by first | rfl | assumption | omega | decide | (simp; done) | (simp; omega) | (simp at *; omega))) ?_; rintro v G ⟨rfl, rfl⟩; conv => whnf)
    | (refine CallK.ret f_quotaref18_brought.ok (tbrought_spec (by first | rfl | assumption | omega | decide | (simp; done) | (simp; omega) | (simp at *; omega))) ?_; rintro v G ⟨e_z, hz0, hz1, rfl, rfl⟩; conv => whnf)
    | (refine CallK.ret f_quotaref18_Story_makes.ok (makes_spec (by first | rfl | assumption | omega | decide | (simp; done) | (simp; omega) | (simp at *; omega)) (by first | rfl | assumption | omega | decide | (simp; done) | (simp; omega) | (simp at *; omega))) ?_; rintro v G ⟨e_X', e_h1, rfl, rfl⟩; conv => whnf)
    | (refine CallK.ret f_quotaref18_Story_writes.ok (writes_spec (by first | rfl | assumption | omega | decide | (simp; done) | (simp; omega) | (simp at *; omega))) ?_; rintro v G ⟨e_ra', e_rc', rfl, rfl⟩; conv => whnf)
    | (refine CallK.ret f_quotaref18_Story_writes.ok (writes_spec (by first | rfl | assumption | omega | decide | (simp; done) | (simp; omega) | (simp at *; omega))) ?_; rintro v G ⟨e_ra', e_rc', rfl, rfl⟩; conv => whnf)
    | (refine DrawK.treeH tab_ok mixed 36 f_quotaref18_Story_does.tree8 _ rfl (by kernel_rfl) (Sub.of (by first | exact Imp.refl _ | exact Imp.drop | exact Imp.fin | ((repeat (refine Imp.pick ?_)); first | exact Imp.refl _ | exact Imp.emp _ | exact Imp.fin))) ?_; conv => whnf)
    | (refine And.intro ?_ ?_ <;> conv => whnf)
    | (refine DrawK.introH tab_ok mixed 66 f_quotaref18_Story_does.last13 f_quotaref18_Story_does.plan13 _ rfl (by kernel_rfl) (Sub.of (by first | exact Imp.refl _ | exact Imp.drop | exact Imp.fin | ((repeat (refine Imp.pick ?_)); first | exact Imp.refl _ | exact Imp.emp _ | exact Imp.fin))) ?_; conv => whnf)
    | (refine CallK.ret f_quotaref18_Story_leaves.ok (leaves_spec (by first | rfl | assumption | omega | decide | (simp; done) | (simp; omega) | (simp at *; omega)) (by first | rfl | assumption | omega | decide | (simp; done) | (simp; omega) | (simp at *; omega))) ?_; rintro v G ⟨e_X', e_h1, rfl, rfl⟩; conv => whnf)
    | (refine CallK.ret f_quotaref18_Story_leaves.ok (leaves_spec (by first | rfl | assumption | omega | decide | (simp; done) | (simp; omega) | (simp at *; omega)) (by first | rfl | assumption | omega | decide | (simp; done) | (simp; omega) | (simp at *; omega))) ?_; rintro v G ⟨e_va', e_vc', rfl, rfl⟩; conv => whnf)
    | (refine DrawK.introH tab_ok mixed 97 f_quotaref18_Story_does.last19 f_quotaref18_Story_does.plan19 _ rfl (by kernel_rfl) (Sub.of (by first | exact Imp.refl _ | exact Imp.drop | exact Imp.fin | ((repeat (refine Imp.pick ?_)); first | exact Imp.refl _ | exact Imp.emp _ | exact Imp.fin))) ?_; conv => whnf)
    | (refine DrawK.introH tab_ok mixed 127 f_quotaref18_Story_does.last24 f_quotaref18_Story_does.plan24 _ rfl (by kernel_rfl) (Sub.of (by first | exact Imp.refl _ | exact Imp.drop | exact Imp.fin | ((repeat (refine Imp.pick ?_)); first | exact Imp.refl _ | exact Imp.emp _ | exact Imp.fin))) ?_; conv => whnf)
    | (refine DrawK.introH tab_ok mixed 149 f_quotaref18_Story_does.last26 f_quotaref18_Story_does.plan26 _ rfl (by kernel_rfl) (Sub.of (by first | exact Imp.refl _ | exact Imp.drop | exact Imp.fin | ((repeat (refine Imp.pick ?_)); first | exact Imp.refl _ | exact Imp.emp _ | exact Imp.fin))) ?_; conv => whnf)
    | (refine CallK.ret f_quotaref18_Story_change.ok (change_spec (by first | rfl | assumption | omega | decide | (simp; done) | (simp; omega) | (simp at *; omega)) (by first | rfl | assumption | omega | decide | (simp; done) | (simp; omega) | (simp at *; omega)) (by first | rfl | assumption | omega | decide | (simp; done) | (simp; omega) | (simp at *; omega))) ?_; rintro v G ⟨e_X', e_h1, e_h2, e_h3⟩; conv => whnf)
    | (refine DrawK.introH tab_ok mixed 186 f_quotaref18_Story_does.last32 f_quotaref18_Story_does.plan32 _ rfl (by kernel_rfl) (Sub.of (by first | exact Imp.refl _ | exact Imp.drop | exact Imp.fin | ((repeat (refine Imp.pick ?_)); first | exact Imp.refl _ | exact Imp.emp _ | exact Imp.fin))) ?_; conv => whnf)
    | (refine DrawK.introH tab_ok mixed 209 f_quotaref18_Story_does.last35 f_quotaref18_Story_does.plan35 _ rfl (by kernel_rfl) (Sub.of (by first | exact Imp.refl _ | exact Imp.drop | exact Imp.fin | ((repeat (refine Imp.pick ?_)); first | exact Imp.refl _ | exact Imp.emp _ | exact Imp.fin))) ?_; conv => whnf)
    | (refine DrawK.introH tab_ok mixed 225 f_quotaref18_Story_does.last38 f_quotaref18_Story_does.plan38 _ rfl (by kernel_rfl) (Sub.of (by first | exact Imp.refl _ | exact Imp.drop | exact Imp.fin | ((repeat (refine Imp.pick ?_)); first | exact Imp.refl _ | exact Imp.emp _ | exact Imp.fin))) ?_; conv => whnf)
    | fail)
  rw [← ho1] at hX1t
  have hv1 : X1.V.length = X.V.length := by
    have := congrArg (fun z : Story => z.V.length) hX1
    rw [(change_same X.val 3 t k (x.d.tmod 1000)).2.2.1, val_len, val_len] at this
    exact this
  have htl1 : t < X1.V.length := by omega
  have hy1 : o1.o.nets[k]? = some y := by rw [ho1]; exact hy
  have hna : o1.na = o.na := by rw [ho1]
  haveI rn : ∀ Q : HProp, RowC W (storyo s X1 • Q) o1.na 1 ints o1.o.nets := fun Q => RowC.storyN (t := t) (x := o1) (h := ⟨hX1t⟩)
  haveI rn0 : ∀ Q : HProp, RowC W (storyo s X1 • Q) o.na 1 ints o1.o.nets := fun Q => hna ▸ rn Q
  have hnl0 : o.o.nets.length = o1.o.nets.length := by omega
  repeat' (first
    | (refine spl_f (by with_reducible exact ndec_self _) ?_; conv => whnf)
    | (refine spl_f (by with_reducible exact nbeq_self _) ?_; conv => whnf)
    | (refine spl_t (by with_reducible exact beq_self _) ?_; conv => whnf)
    | (refine spl_dec (fun hd => ?_) (fun hd => ?_) <;> first | (exfalso; omega) | (conv => whnf))
    | (refine spl_ndec (fun hd => ?_) (fun hd => ?_) <;> first | (exfalso; omega) | (conv => whnf))
    | (refine spl_intro (fun hd => ?_) (fun hd => ?_) <;> (conv => whnf))
    | (refine Ld.i ?_; conv => whnf)
    | (refine LdN.i ?_; conv => whnf)
    | (refine St.i ⟨rfl, rfl⟩ (List.cons_ne_nil _ _) ?_; conv => whnf)
    | (refine Ar.i64 (by omega) ?_; conv => whnf)
    | (refine Ar.u64 (by omega) ?_; conv => whnf)
    | (refine Ar.i64d (by omega) (by omega) ?_; conv => whnf)
    | (refine Shr.i (by rfl) (by decide) ?_; conv => whnf)
    | (refine Shl.i (by rfl) (by decide) ?_; conv => whnf)
    | (refine Req.mk (by omega) ?_; conv => whnf)
    | (intro blk hblk; conv => whnf)
    | (refine IxS.r (xs := X1.V) (i := t) rfl rfl htl1 (fun ab off ha => ?_); have rv : ∀ Q : HProp, RowC W (storyo s X1 • Q) (some ⟨ab, off, none⟩) 5 openv X1.V := fun Q => ha ▸ inferInstance; conv => whnf)
    | (refine LdN.r hX1t rfl ?_; conv => whnf)
    | (refine Ld.r hX1t rfl ?_; conv => whnf)
    | (refine Ld.r0 hX1t rfl ?_; conv => whnf)
    | (refine LdN.rp hX1t ?_; conv => whnf)
    | (refine IxS.r (xs := o1.o.nets) (i := k) rfl hnl0 (by omega) (fun ab off ha => ?_); have rv : ∀ Q : HProp, RowC W (storyo s X1 • Q) (some ⟨ab, off, none⟩) 1 ints o1.o.nets := fun Q => ha ▸ rn0 Q; conv => whnf)
    | (refine IxS.r (xs := o1.o.nets) (i := k) rfl rfl (by omega) (fun ab off ha => ?_); have rv : ∀ Q : HProp, RowC W (storyo s X1 • Q) (some ⟨ab, off, none⟩) 1 ints o1.o.nets := fun Q => ha ▸ rn Q; conv => whnf)
    | (refine LdN.r hy1 rfl ?_; conv => whnf)
    | (refine Ld.r hy1 rfl ?_; conv => whnf)
    | (refine Ld.r0 hy1 rfl ?_; conv => whnf)
    | (refine LdN.rp hy1 ?_; conv => whnf)
    | (refine Ar.u64w ?_; conv => whnf)
    | (refine Ar.i64w ?_; conv => whnf)
    | (refine Sub.on (by first | exact Imp.refl _ | exact Imp.drop | exact Imp.fin | ((repeat (refine Imp.pick ?_)); first | exact Imp.refl _ | exact Imp.emp _ | exact Imp.fin)) ?_; conv => whnf)
    | (refine Sub.on (Imp.trans KeepC.h (by first | exact Imp.refl _ | exact Imp.drop | exact Imp.fin | ((repeat (refine Imp.pick ?_)); first | exact Imp.refl _ | exact Imp.emp _ | exact Imp.fin))) ?_; conv => whnf)
    | (refine CallK.ret f_quotaref18_brought.ok (tbrought_spec (by first | rfl | assumption | omega | decide | (simp; done) | (simp; omega) | (simp at *; omega))) ?_; rintro v G ⟨rfl, rfl⟩; conv => whnf)
    | (refine CallK.ret f_quotaref18_brought.ok (tbrought_spec (by first | rfl | assumption | omega | decide | (simp; done) | (simp; omega) | (simp at *; omega))) ?_; rintro v G ⟨e_z, hz0, hz1, rfl, rfl⟩; conv => whnf)
    | (refine CallK.ret f_quotaref18_Story_makes.ok (makes_spec (by first | rfl | assumption | omega | decide | (simp; done) | (simp; omega) | (simp at *; omega)) (by first | rfl | assumption | omega | decide | (simp; done) | (simp; omega) | (simp at *; omega))) ?_; rintro v G ⟨e_X', e_h1, rfl, rfl⟩; conv => whnf)
    | (refine CallK.ret f_quotaref18_Story_writes.ok (writes_spec (by first | rfl | assumption | omega | decide | (simp; done) | (simp; omega) | (simp at *; omega))) ?_; rintro v G ⟨e_ra', e_rc', rfl, rfl⟩; conv => whnf)
    | (refine CallK.ret f_quotaref18_Story_writes.ok (writes_spec (by first | rfl | assumption | omega | decide | (simp; done) | (simp; omega) | (simp at *; omega))) ?_; rintro v G ⟨e_ra', e_rc', rfl, rfl⟩; conv => whnf)
    | (refine DrawK.treeH tab_ok mixed 36 f_quotaref18_Story_does.tree8 _ rfl (by kernel_rfl) (Sub.of (by first | exact Imp.refl _ | exact Imp.drop | exact Imp.fin | ((repeat (refine Imp.pick ?_)); first | exact Imp.refl _ | exact Imp.emp _ | exact Imp.fin))) ?_; conv => whnf)
    | (refine And.intro ?_ ?_ <;> conv => whnf)
    | (refine DrawK.introH tab_ok mixed 66 f_quotaref18_Story_does.last13 f_quotaref18_Story_does.plan13 _ rfl (by kernel_rfl) (Sub.of (by first | exact Imp.refl _ | exact Imp.drop | exact Imp.fin | ((repeat (refine Imp.pick ?_)); first | exact Imp.refl _ | exact Imp.emp _ | exact Imp.fin))) ?_; conv => whnf)
    | (refine CallK.ret f_quotaref18_Story_leaves.ok (leaves_spec (by first | rfl | assumption | omega | decide | (simp; done) | (simp; omega) | (simp at *; omega)) (by first | rfl | assumption | omega | decide | (simp; done) | (simp; omega) | (simp at *; omega))) ?_; rintro v G ⟨e_X', e_h1, rfl, rfl⟩; conv => whnf)
    | (refine CallK.ret f_quotaref18_Story_leaves.ok (leaves_spec (by first | rfl | assumption | omega | decide | (simp; done) | (simp; omega) | (simp at *; omega)) (by first | rfl | assumption | omega | decide | (simp; done) | (simp; omega) | (simp at *; omega))) ?_; rintro v G ⟨e_va', e_vc', rfl, rfl⟩; conv => whnf)
    | (refine DrawK.introH tab_ok mixed 97 f_quotaref18_Story_does.last19 f_quotaref18_Story_does.plan19 _ rfl (by kernel_rfl) (Sub.of (by first | exact Imp.refl _ | exact Imp.drop | exact Imp.fin | ((repeat (refine Imp.pick ?_)); first | exact Imp.refl _ | exact Imp.emp _ | exact Imp.fin))) ?_; conv => whnf)
    | (refine DrawK.introH tab_ok mixed 127 f_quotaref18_Story_does.last24 f_quotaref18_Story_does.plan24 _ rfl (by kernel_rfl) (Sub.of (by first | exact Imp.refl _ | exact Imp.drop | exact Imp.fin | ((repeat (refine Imp.pick ?_)); first | exact Imp.refl _ | exact Imp.emp _ | exact Imp.fin))) ?_; conv => whnf)
    | (refine DrawK.introH tab_ok mixed 149 f_quotaref18_Story_does.last26 f_quotaref18_Story_does.plan26 _ rfl (by kernel_rfl) (Sub.of (by first | exact Imp.refl _ | exact Imp.drop | exact Imp.fin | ((repeat (refine Imp.pick ?_)); first | exact Imp.refl _ | exact Imp.emp _ | exact Imp.fin))) ?_; conv => whnf)
    | (refine CallK.ret f_quotaref18_Story_change.ok (change_spec (by first | rfl | assumption | omega | decide | (simp; done) | (simp; omega) | (simp at *; omega)) (by first | rfl | assumption | omega | decide | (simp; done) | (simp; omega) | (simp at *; omega)) (by first | rfl | assumption | omega | decide | (simp; done) | (simp; omega) | (simp at *; omega))) ?_; rintro v G ⟨e_X', e_h1, e_h2, e_h3⟩; conv => whnf)
    | (refine DrawK.introH tab_ok mixed 186 f_quotaref18_Story_does.last32 f_quotaref18_Story_does.plan32 _ rfl (by kernel_rfl) (Sub.of (by first | exact Imp.refl _ | exact Imp.drop | exact Imp.fin | ((repeat (refine Imp.pick ?_)); first | exact Imp.refl _ | exact Imp.emp _ | exact Imp.fin))) ?_; conv => whnf)
    | (refine DrawK.introH tab_ok mixed 209 f_quotaref18_Story_does.last35 f_quotaref18_Story_does.plan35 _ rfl (by kernel_rfl) (Sub.of (by first | exact Imp.refl _ | exact Imp.drop | exact Imp.fin | ((repeat (refine Imp.pick ?_)); first | exact Imp.refl _ | exact Imp.emp _ | exact Imp.fin))) ?_; conv => whnf)
    | (refine DrawK.introH tab_ok mixed 225 f_quotaref18_Story_does.last38 f_quotaref18_Story_does.plan38 _ rfl (by kernel_rfl) (Sub.of (by first | exact Imp.refl _ | exact Imp.drop | exact Imp.fin | ((repeat (refine Imp.pick ?_)); first | exact Imp.refl _ | exact Imp.emp _ | exact Imp.fin))) ?_; conv => whnf)
    | fail)
  refine St.net (n := wr (y + x.d.tmod 1000)) hX1t (by assumption) (by omega) ?_
  obtain ⟨o2, ho2⟩ : ∃ o2 : OpenX, o2 = { o1 with o := { o1.o with nets := o1.o.nets.set k (wr (y + x.d.tmod 1000)) } } := ⟨_, rfl⟩
  obtain ⟨X2, hX2⟩ : ∃ X2 : StoryX, X2 = { X1 with V := X1.V.set t o2 } := ⟨_, rfl⟩
  rw [← ho2, ← hX2]
  have hX2t : X2.V[t]? = some o2 := by rw [hX2]; exact List.getElem?_set_self htl1
  have htl2 : t < X2.V.length := (List.getElem?_eq_some_iff.1 hX2t).1
  have hhl : k < o2.o.holds.length := by rw [ho2]; show k < o1.o.holds.length; omega
  haveI rh : ∀ Q : HProp, RowC W (storyo s X2 • Q) o2.ha 1 bls o2.o.holds := fun Q => RowC.storyH (t := t) (x := o2) (h := ⟨hX2t⟩)
  conv => whnf
  repeat' (first
    | (refine spl_f (by with_reducible exact ndec_self _) ?_; conv => whnf)
    | (refine spl_f (by with_reducible exact nbeq_self _) ?_; conv => whnf)
    | (refine spl_t (by with_reducible exact beq_self _) ?_; conv => whnf)
    | (refine spl_dec (fun hd => ?_) (fun hd => ?_) <;> first | (exfalso; omega) | (conv => whnf))
    | (refine spl_ndec (fun hd => ?_) (fun hd => ?_) <;> first | (exfalso; omega) | (conv => whnf))
    | (refine spl_intro (fun hd => ?_) (fun hd => ?_) <;> (conv => whnf))
    | (refine Ld.i ?_; conv => whnf)
    | (refine LdN.i ?_; conv => whnf)
    | (refine St.i ⟨rfl, rfl⟩ (List.cons_ne_nil _ _) ?_; conv => whnf)
    | (refine Ar.i64 (by omega) ?_; conv => whnf)
    | (refine Ar.u64 (by omega) ?_; conv => whnf)
    | (refine Ar.i64d (by omega) (by omega) ?_; conv => whnf)
    | (refine Shr.i (by rfl) (by decide) ?_; conv => whnf)
    | (refine Shl.i (by rfl) (by decide) ?_; conv => whnf)
    | (refine Req.mk (by omega) ?_; conv => whnf)
    | (intro blk hblk; conv => whnf)
    | (refine IxS.r (xs := X2.V) (i := t) rfl rfl htl2 (fun ab off ha => ?_); have rv : ∀ Q : HProp, RowC W (storyo s X2 • Q) (some ⟨ab, off, none⟩) 5 openv X2.V := fun Q => ha ▸ inferInstance; conv => whnf)
    | (refine LdN.r hX2t rfl ?_; conv => whnf)
    | (refine Ld.r hX2t rfl ?_; conv => whnf)
    | (refine Ld.r0 hX2t rfl ?_; conv => whnf)
    | (refine LdN.rp hX2t ?_; conv => whnf)
    | (refine IxS.r (xs := o2.o.holds) (i := k) rfl rfl hhl (fun ab off ha => ?_); conv => whnf)
    | (refine St.hold hX2t (by assumption) hhl ?_; conv => whnf)
    | (refine Sub.on (by first | exact Imp.refl _ | exact Imp.drop | exact Imp.fin | ((repeat (refine Imp.pick ?_)); first | exact Imp.refl _ | exact Imp.emp _ | exact Imp.fin)) ?_; conv => whnf)
    | (refine Sub.on (Imp.trans KeepC.h (by first | exact Imp.refl _ | exact Imp.drop | exact Imp.fin | ((repeat (refine Imp.pick ?_)); first | exact Imp.refl _ | exact Imp.emp _ | exact Imp.fin))) ?_; conv => whnf)
    | (refine CallK.ret f_quotaref18_brought.ok (tbrought_spec (by first | rfl | assumption | omega | decide | (simp; done) | (simp; omega) | (simp at *; omega))) ?_; rintro v G ⟨rfl, rfl⟩; conv => whnf)
    | (refine CallK.ret f_quotaref18_brought.ok (tbrought_spec (by first | rfl | assumption | omega | decide | (simp; done) | (simp; omega) | (simp at *; omega))) ?_; rintro v G ⟨e_z, hz0, hz1, rfl, rfl⟩; conv => whnf)
    | (refine CallK.ret f_quotaref18_Story_makes.ok (makes_spec (by first | rfl | assumption | omega | decide | (simp; done) | (simp; omega) | (simp at *; omega)) (by first | rfl | assumption | omega | decide | (simp; done) | (simp; omega) | (simp at *; omega))) ?_; rintro v G ⟨e_X', e_h1, rfl, rfl⟩; conv => whnf)
    | (refine CallK.ret f_quotaref18_Story_writes.ok (writes_spec (by first | rfl | assumption | omega | decide | (simp; done) | (simp; omega) | (simp at *; omega))) ?_; rintro v G ⟨e_ra', e_rc', rfl, rfl⟩; conv => whnf)
    | (refine CallK.ret f_quotaref18_Story_writes.ok (writes_spec (by first | rfl | assumption | omega | decide | (simp; done) | (simp; omega) | (simp at *; omega))) ?_; rintro v G ⟨e_ra', e_rc', rfl, rfl⟩; conv => whnf)
    | (refine DrawK.treeH tab_ok mixed 36 f_quotaref18_Story_does.tree8 _ rfl (by kernel_rfl) (Sub.of (by first | exact Imp.refl _ | exact Imp.drop | exact Imp.fin | ((repeat (refine Imp.pick ?_)); first | exact Imp.refl _ | exact Imp.emp _ | exact Imp.fin))) ?_; conv => whnf)
    | (refine And.intro ?_ ?_ <;> conv => whnf)
    | (refine DrawK.introH tab_ok mixed 66 f_quotaref18_Story_does.last13 f_quotaref18_Story_does.plan13 _ rfl (by kernel_rfl) (Sub.of (by first | exact Imp.refl _ | exact Imp.drop | exact Imp.fin | ((repeat (refine Imp.pick ?_)); first | exact Imp.refl _ | exact Imp.emp _ | exact Imp.fin))) ?_; conv => whnf)
    | (refine CallK.ret f_quotaref18_Story_leaves.ok (leaves_spec (by first | rfl | assumption | omega | decide | (simp; done) | (simp; omega) | (simp at *; omega)) (by first | rfl | assumption | omega | decide | (simp; done) | (simp; omega) | (simp at *; omega))) ?_; rintro v G ⟨e_X', e_h1, rfl, rfl⟩; conv => whnf)
    | (refine CallK.ret f_quotaref18_Story_leaves.ok (leaves_spec (by first | rfl | assumption | omega | decide | (simp; done) | (simp; omega) | (simp at *; omega)) (by first | rfl | assumption | omega | decide | (simp; done) | (simp; omega) | (simp at *; omega))) ?_; rintro v G ⟨e_va', e_vc', rfl, rfl⟩; conv => whnf)
    | (refine DrawK.introH tab_ok mixed 97 f_quotaref18_Story_does.last19 f_quotaref18_Story_does.plan19 _ rfl (by kernel_rfl) (Sub.of (by first | exact Imp.refl _ | exact Imp.drop | exact Imp.fin | ((repeat (refine Imp.pick ?_)); first | exact Imp.refl _ | exact Imp.emp _ | exact Imp.fin))) ?_; conv => whnf)
    | (refine DrawK.introH tab_ok mixed 127 f_quotaref18_Story_does.last24 f_quotaref18_Story_does.plan24 _ rfl (by kernel_rfl) (Sub.of (by first | exact Imp.refl _ | exact Imp.drop | exact Imp.fin | ((repeat (refine Imp.pick ?_)); first | exact Imp.refl _ | exact Imp.emp _ | exact Imp.fin))) ?_; conv => whnf)
    | (refine DrawK.introH tab_ok mixed 149 f_quotaref18_Story_does.last26 f_quotaref18_Story_does.plan26 _ rfl (by kernel_rfl) (Sub.of (by first | exact Imp.refl _ | exact Imp.drop | exact Imp.fin | ((repeat (refine Imp.pick ?_)); first | exact Imp.refl _ | exact Imp.emp _ | exact Imp.fin))) ?_; conv => whnf)
    | (refine CallK.ret f_quotaref18_Story_change.ok (change_spec (by first | rfl | assumption | omega | decide | (simp; done) | (simp; omega) | (simp at *; omega)) (by first | rfl | assumption | omega | decide | (simp; done) | (simp; omega) | (simp at *; omega)) (by first | rfl | assumption | omega | decide | (simp; done) | (simp; omega) | (simp at *; omega))) ?_; rintro v G ⟨e_X', e_h1, e_h2, e_h3⟩; conv => whnf)
    | (refine DrawK.introH tab_ok mixed 186 f_quotaref18_Story_does.last32 f_quotaref18_Story_does.plan32 _ rfl (by kernel_rfl) (Sub.of (by first | exact Imp.refl _ | exact Imp.drop | exact Imp.fin | ((repeat (refine Imp.pick ?_)); first | exact Imp.refl _ | exact Imp.emp _ | exact Imp.fin))) ?_; conv => whnf)
    | (refine DrawK.introH tab_ok mixed 209 f_quotaref18_Story_does.last35 f_quotaref18_Story_does.plan35 _ rfl (by kernel_rfl) (Sub.of (by first | exact Imp.refl _ | exact Imp.drop | exact Imp.fin | ((repeat (refine Imp.pick ?_)); first | exact Imp.refl _ | exact Imp.emp _ | exact Imp.fin))) ?_; conv => whnf)
    | (refine DrawK.introH tab_ok mixed 225 f_quotaref18_Story_does.last38 f_quotaref18_Story_does.plan38 _ rfl (by kernel_rfl) (Sub.of (by first | exact Imp.refl _ | exact Imp.drop | exact Imp.fin | ((repeat (refine Imp.pick ?_)); first | exact Imp.refl _ | exact Imp.emp _ | exact Imp.fin))) ?_; conv => whnf)
    | fail)
  refine ⟨_, _, rfl, Imp.right (Q' := R) ?_, _, _, ?_, rfl, rfl⟩
  · first | exact Imp.refl _ | exact Imp.drop | exact Imp.fin | ((repeat (refine Imp.pick ?_)); first | exact Imp.refl _ | exact Imp.emp _ | exact Imp.fin)
  · unfold Story.does
    dsimp only
    rw [if_neg (by omega), if_neg (by omega), if_neg (by rw [val_len]; omega), e1, val_get ho]
    dsimp only
    rw [if_neg (by rw [hc]; decide), if_neg hk.2.1, if_neg hk.2.2, if_pos (by exact hl)]
    unfold Story.adds
    dsimp only
    have e3 : (x.b % (X.val.L.length : Int)).toNat = k := by show (x.b % (X.L.length : Int)).toNat = k; rw [← hkk]; rfl
    rw [e3, ← hX1, val_get hX1t, hy, hX2, ho2]
    simp [StoryX.val, List.map_set]
set_option maxHeartbeats 2000000 in
-- @noauto
theorem does_idle {W : World} {H R : HProp} {s : Nat} {X : StoryX} {x : DeedV} {t : Nat} {o : OpenX} [tk : ObjC storyo H s X R] (hX : X.val.Ok) (hk : 4 ≤ x.kind % 10 ∧ x.kind % 10 ≠ 8 ∧ x.kind % 10 ≠ 9) (hv : ¬ X.V.length = 0) (ht : (t : Int) = x.a % X.V.length) (ho : X.V[t]? = some o) (hc : o.o.com = false) (hl : X.L.length = 0) :
    Does prog W f_quotaref18_Story_does ⟨[tptr s, deedA x]⟩ H (Ret fun v G => ∃ X' c, X'.val = X.val.does x ∧ v = .bool c ∧ G = (storyo s X' • R)) := by
  rw [tk.h.eq]
  clear tk
  unfold deedA
  have hlv := hX.live
  rw [val_len] at hlv
  have htl := (List.getElem?_eq_some_iff.1 ho).1
  have hnl : o.o.nets.length = 200 ∧ o.o.holds.length = 200 := hX.op o.o (by
    have := List.mem_of_getElem? (val_get ho)
    exact this)
  have hll : X.L.length ≤ 60 := hX.ll
  have e1 : (x.a % (X.val.V.length : Int)).toNat = t := by rw [val_len, ← ht]; rfl
  refine f_quotaref18_Story_does.does _ _ ?_
  conv => whnf
  repeat' (first
    | (refine spl_f hc ?_; conv => whnf)
    | (refine spl_f (by with_reducible exact ndec_self _) ?_; conv => whnf)
    | (refine spl_f (by with_reducible exact nbeq_self _) ?_; conv => whnf)
    | (refine spl_t (by with_reducible exact beq_self _) ?_; conv => whnf)
    | (refine spl_dec (fun hd => ?_) (fun hd => ?_) <;> first | (exfalso; omega) | (conv => whnf))
    | (refine spl_ndec (fun hd => ?_) (fun hd => ?_) <;> first | (exfalso; omega) | (conv => whnf))
    | (refine spl_intro (fun hd => ?_) (fun hd => ?_) <;> (conv => whnf))
    | (refine Ld.i ?_; conv => whnf)
    | (refine LdN.i ?_; conv => whnf)
    | (refine St.i ⟨rfl, rfl⟩ (List.cons_ne_nil _ _) ?_; conv => whnf)
    | (refine Ar.i64 (by omega) ?_; conv => whnf)
    | (refine Ar.u64 (by omega) ?_; conv => whnf)
    | (refine Ar.i64d (by omega) (by omega) ?_; conv => whnf)
    | (refine Shr.i (by rfl) (by decide) ?_; conv => whnf)
    | (refine Shl.i (by rfl) (by decide) ?_; conv => whnf)
    | (refine Req.mk (by omega) ?_; conv => whnf)
    | (intro blk hblk; conv => whnf)
    | (rw [← ht]; refine IxS.r (xs := X.V) (i := t) rfl rfl htl (fun ab off ha => ?_); have rv : ∀ Q : HProp, RowC W (storyo s X • Q) (some ⟨ab, off, none⟩) 5 openv X.V := fun Q => ha ▸ inferInstance; conv => whnf)
    | (refine IxS.r (i := t) rfl rfl (by first | exact htl | (rw [List.length_set]; exact htl)) (fun ab off ha => ?_); conv => whnf)
    | (refine LdN.r ho rfl ?_; conv => whnf)
    | (refine Ld.r ho rfl ?_; conv => whnf)
    | (refine Ld.r0 ho rfl ?_; conv => whnf)
    | (refine LdN.rp ho ?_; conv => whnf)
    | (refine Sub.on (by first | exact Imp.refl _ | exact Imp.drop | exact Imp.fin | ((repeat (refine Imp.pick ?_)); first | exact Imp.refl _ | exact Imp.emp _ | exact Imp.fin)) ?_; conv => whnf)
    | (refine Sub.on (Imp.trans KeepC.h (by first | exact Imp.refl _ | exact Imp.drop | exact Imp.fin | ((repeat (refine Imp.pick ?_)); first | exact Imp.refl _ | exact Imp.emp _ | exact Imp.fin))) ?_; conv => whnf)
    | (refine CallK.ret f_quotaref18_brought.ok (tbrought_spec (by first | rfl | assumption | omega | decide | (simp; done) | (simp; omega) | (simp at *; omega))) ?_; rintro v G ⟨rfl, rfl⟩; conv => whnf)
    | (refine CallK.ret f_quotaref18_brought.ok (tbrought_spec (by first | rfl | assumption | omega | decide | (simp; done) | (simp; omega) | (simp at *; omega))) ?_; rintro v G ⟨e_z, hz0, hz1, rfl, rfl⟩; conv => whnf)
    | (refine CallK.ret f_quotaref18_Story_makes.ok (makes_spec (by first | rfl | assumption | omega | decide | (simp; done) | (simp; omega) | (simp at *; omega)) (by first | rfl | assumption | omega | decide | (simp; done) | (simp; omega) | (simp at *; omega))) ?_; rintro v G ⟨e_X', e_h1, rfl, rfl⟩; conv => whnf)
    | (refine CallK.ret f_quotaref18_Story_writes.ok (writes_spec (by first | rfl | assumption | omega | decide | (simp; done) | (simp; omega) | (simp at *; omega))) ?_; rintro v G ⟨e_ra', e_rc', rfl, rfl⟩; conv => whnf)
    | (refine CallK.ret f_quotaref18_Story_writes.ok (writes_spec (by first | rfl | assumption | omega | decide | (simp; done) | (simp; omega) | (simp at *; omega))) ?_; rintro v G ⟨e_ra', e_rc', rfl, rfl⟩; conv => whnf)
    | (refine DrawK.treeH tab_ok mixed 36 f_quotaref18_Story_does.tree8 _ rfl (by kernel_rfl) (Sub.of (by first | exact Imp.refl _ | exact Imp.drop | exact Imp.fin | ((repeat (refine Imp.pick ?_)); first | exact Imp.refl _ | exact Imp.emp _ | exact Imp.fin))) ?_; conv => whnf)
    | (refine And.intro ?_ ?_ <;> conv => whnf)
    | (refine DrawK.introH tab_ok mixed 66 f_quotaref18_Story_does.last13 f_quotaref18_Story_does.plan13 _ rfl (by kernel_rfl) (Sub.of (by first | exact Imp.refl _ | exact Imp.drop | exact Imp.fin | ((repeat (refine Imp.pick ?_)); first | exact Imp.refl _ | exact Imp.emp _ | exact Imp.fin))) ?_; conv => whnf)
    | (refine CallK.ret f_quotaref18_Story_leaves.ok (leaves_spec (by first | rfl | assumption | omega | decide | (simp; done) | (simp; omega) | (simp at *; omega)) (by first | rfl | assumption | omega | decide | (simp; done) | (simp; omega) | (simp at *; omega))) ?_; rintro v G ⟨e_X', e_h1, rfl, rfl⟩; conv => whnf)
    | (refine CallK.ret f_quotaref18_Story_leaves.ok (leaves_spec (by first | rfl | assumption | omega | decide | (simp; done) | (simp; omega) | (simp at *; omega)) (by first | rfl | assumption | omega | decide | (simp; done) | (simp; omega) | (simp at *; omega))) ?_; rintro v G ⟨e_va', e_vc', rfl, rfl⟩; conv => whnf)
    | (refine DrawK.introH tab_ok mixed 97 f_quotaref18_Story_does.last19 f_quotaref18_Story_does.plan19 _ rfl (by kernel_rfl) (Sub.of (by first | exact Imp.refl _ | exact Imp.drop | exact Imp.fin | ((repeat (refine Imp.pick ?_)); first | exact Imp.refl _ | exact Imp.emp _ | exact Imp.fin))) ?_; conv => whnf)
    | (refine DrawK.introH tab_ok mixed 127 f_quotaref18_Story_does.last24 f_quotaref18_Story_does.plan24 _ rfl (by kernel_rfl) (Sub.of (by first | exact Imp.refl _ | exact Imp.drop | exact Imp.fin | ((repeat (refine Imp.pick ?_)); first | exact Imp.refl _ | exact Imp.emp _ | exact Imp.fin))) ?_; conv => whnf)
    | (refine DrawK.introH tab_ok mixed 149 f_quotaref18_Story_does.last26 f_quotaref18_Story_does.plan26 _ rfl (by kernel_rfl) (Sub.of (by first | exact Imp.refl _ | exact Imp.drop | exact Imp.fin | ((repeat (refine Imp.pick ?_)); first | exact Imp.refl _ | exact Imp.emp _ | exact Imp.fin))) ?_; conv => whnf)
    | (refine CallK.ret f_quotaref18_Story_change.ok (change_spec (by first | rfl | assumption | omega | decide | (simp; done) | (simp; omega) | (simp at *; omega)) (by first | rfl | assumption | omega | decide | (simp; done) | (simp; omega) | (simp at *; omega)) (by first | rfl | assumption | omega | decide | (simp; done) | (simp; omega) | (simp at *; omega))) ?_; rintro v G ⟨e_X', e_h1, e_h2, e_h3⟩; conv => whnf)
    | (refine DrawK.introH tab_ok mixed 186 f_quotaref18_Story_does.last32 f_quotaref18_Story_does.plan32 _ rfl (by kernel_rfl) (Sub.of (by first | exact Imp.refl _ | exact Imp.drop | exact Imp.fin | ((repeat (refine Imp.pick ?_)); first | exact Imp.refl _ | exact Imp.emp _ | exact Imp.fin))) ?_; conv => whnf)
    | (refine DrawK.introH tab_ok mixed 209 f_quotaref18_Story_does.last35 f_quotaref18_Story_does.plan35 _ rfl (by kernel_rfl) (Sub.of (by first | exact Imp.refl _ | exact Imp.drop | exact Imp.fin | ((repeat (refine Imp.pick ?_)); first | exact Imp.refl _ | exact Imp.emp _ | exact Imp.fin))) ?_; conv => whnf)
    | (refine DrawK.introH tab_ok mixed 225 f_quotaref18_Story_does.last38 f_quotaref18_Story_does.plan38 _ rfl (by kernel_rfl) (Sub.of (by first | exact Imp.refl _ | exact Imp.drop | exact Imp.fin | ((repeat (refine Imp.pick ?_)); first | exact Imp.refl _ | exact Imp.emp _ | exact Imp.fin))) ?_; conv => whnf)
    | fail)
  refine ⟨_, _, rfl, ?_, X, _, ?_, rfl, rfl⟩
  · first | exact Imp.refl _ | exact Imp.drop | exact Imp.fin | ((repeat (refine Imp.pick ?_)); first | exact Imp.refl _ | exact Imp.emp _ | exact Imp.fin)
  · unfold Story.does
    dsimp only
    rw [if_neg (by omega), if_neg (by omega), if_neg (by rw [val_len]; omega), e1, val_get ho]
    dsimp only
    rw [if_neg (by rw [hc]; decide), if_neg hk.2.1, if_neg hk.2.2, if_neg (by show ¬ X.L.length > 0; omega)]
end Go.Proofs.YtacpnjlijjgbmaaGreatDoor
