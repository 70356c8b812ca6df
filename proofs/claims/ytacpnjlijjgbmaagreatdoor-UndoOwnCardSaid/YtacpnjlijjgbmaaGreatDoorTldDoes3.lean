/- Stories: a deed: an abort. Conditions: in the statement. -/
import Derived.Test.YtacpnjlijjgbmaaGreatDoorTldMakes
namespace Go.Proofs.YtacpnjlijjgbmaaGreatDoor
open Go Go.SL Go.SL.Sec Go.SL.Rec Go.SL.Tld
open Go.SL.Und (RecV recv rec_one fits)
set_option maxHeartbeats 2000000 in
-- @noauto
theorem does_abort {W : World} {H R : HProp} {s : Nat} {X : StoryX} {x : DeedV} {t : Nat} {o : OpenX} [tk : ObjC storyo H s X R] (hX : X.val.Ok) (hb : X.R.length ≤ 9000000) (hk : x.kind % 10 = 9) (hv : ¬ X.V.length = 0) (ht : (t : Int) = x.a % X.V.length) (ho : X.V[t]? = some o) (hc : o.o.com = false) :
    Does prog W f_quotaref18_Story_does ⟨[tptr s, deedA x]⟩ H (Ret fun v G => ∃ X' c, X'.val = X.val.does x ∧ v = .bool c ∧ G = (storyo s X' • R)) := by
  rw [tk.h.eq]
  clear tk
  unfold deedA
  have hlv := hX.live
  rw [val_len] at hlv
  have htl := (List.getElem?_eq_some_iff.1 ho).1
  have hnl : o.o.nets.length = 200 ∧ o.o.holds.length = 200 := hX.op o.o (by
    have := List.mem_of_getElem? (val_get ho)
    exact this)
  have hll : X.L.length ≤ 60 := hX.ll
  have e1 : (x.a % (X.val.V.length : Int)).toNat = t := by rw [val_len, ← ht]; rfl
  refine f_quotaref18_Story_does.does _ _ ?_
  conv => whnf
  repeat' (first
    | (refine DrawK.introK tab_ok mixed 149 f_quotaref18_Story_does.last26 f_quotaref18_Story_does.plan26 rfl (by kernel_rfl) ?_; conv => whnf)
    | (refine CallK.ret f_quotaref18_Story_writes.ok (writes_spec (r := rec1 6 o.o.tx o.o.last) (by omega)) ?_; rintro v G ⟨ra', rc', rfl, rfl⟩; conv => whnf)
    | (refine spl_f hc ?_; conv => whnf)
    | (refine spl_f (by with_reducible exact ndec_self _) ?_; conv => whnf)
    | (refine spl_f (by with_reducible exact nbeq_self _) ?_; conv => whnf)
    | (refine spl_t (by with_reducible exact beq_self _) ?_; conv => whnf)
    | (refine spl_dec (fun hd => ?_) (fun hd => ?_) <;> first | (exfalso; omega) | (conv => whnf))
    | (refine spl_ndec (fun hd => ?_) (fun hd => ?_) <;> first | (exfalso; omega) | (conv => whnf))
    | (refine spl_intro (fun hd => ?_) (fun hd => ?_) <;> (conv => whnf))
    | (refine Ld.i ?_; conv => whnf)
    | (refine LdN.i ?_; conv => whnf)
    | (refine St.i ⟨rfl, rfl⟩ (List.cons_ne_nil _ _) ?_; conv => whnf)
    | (refine Ar.i64 (by omega) ?_; conv => whnf)
    | (refine Ar.u64 (by omega) ?_; conv => whnf)
    | (refine Ar.i64d (by omega) (by omega) ?_; conv => whnf)
    | (refine Shr.i (by rfl) (by decide) ?_; conv => whnf)
    | (refine Shl.i (by rfl) (by decide) ?_; conv => whnf)
    | (refine Req.mk (by omega) ?_; conv => whnf)
    | (intro blk hblk; conv => whnf)
    | (rw [← ht]; refine IxS.r (xs := X.V) (i := t) rfl rfl htl (fun ab off ha => ?_); have rv : ∀ Q : HProp, RowC W (storyo s X • Q) (some ⟨ab, off, none⟩) 5 openv X.V := fun Q => ha ▸ inferInstance; conv => whnf)
    | (refine IxS.r (i := t) rfl rfl (by first | exact htl | (rw [List.length_set]; exact htl)) (fun ab off ha => ?_); conv => whnf)
    | (refine LdN.r ho rfl ?_; conv => whnf)
    | (refine Ld.r ho rfl ?_; conv => whnf)
    | (refine Ld.r0 ho rfl ?_; conv => whnf)
    | (refine LdN.rp ho ?_; conv => whnf)
    | (refine St.last (by assumption) ho ?_; conv => whnf)
    | (refine Sub.on (by first | exact Imp.refl _ | exact Imp.drop | exact Imp.fin | ((repeat (refine Imp.pick ?_)); first | exact Imp.refl _ | exact Imp.emp _ | exact Imp.fin)) ?_; conv => whnf)
    | (refine Sub.on (Imp.trans KeepC.h (by first | exact Imp.refl _ | exact Imp.drop | exact Imp.fin | ((repeat (refine Imp.pick ?_)); first | exact Imp.refl _ | exact Imp.emp _ | exact Imp.fin))) ?_; conv => whnf)
    | (refine CallK.ret f_quotaref18_brought.ok (tbrought_spec (by first | rfl | assumption | omega | decide | (simp; done) | (simp; omega) | (simp at *; omega))) ?_; rintro v G ⟨rfl, rfl⟩; conv => whnf)
    | (refine CallK.ret f_quotaref18_brought.ok (tbrought_spec (by first | rfl | assumption | omega | decide | (simp; done) | (simp; omega) | (simp at *; omega))) ?_; rintro v G ⟨e_z, hz0, hz1, rfl, rfl⟩; conv => whnf)
    | (refine CallK.ret f_quotaref18_Story_makes.ok (makes_spec (by first | rfl | assumption | omega | decide | (simp; done) | (simp; omega) | (simp at *; omega)) (by first | rfl | assumption | omega | decide | (simp; done) | (simp; omega) | (simp at *; omega))) ?_; rintro v G ⟨e_X', e_h1, rfl, rfl⟩; conv => whnf)
    | (refine CallK.ret f_quotaref18_Story_writes.ok (writes_spec (by first | rfl | assumption | omega | decide | (simp; done) | (simp; omega) | (simp at *; omega))) ?_; rintro v G ⟨e_ra', e_rc', rfl, rfl⟩; conv => whnf)
    | (refine CallK.ret f_quotaref18_Story_writes.ok (writes_spec (by first | rfl | assumption | omega | decide | (simp; done) | (simp; omega) | (simp at *; omega))) ?_; rintro v G ⟨e_ra', e_rc', rfl, rfl⟩; conv => whnf)
    | (refine DrawK.treeH tab_ok mixed 36 f_quotaref18_Story_does.tree8 _ rfl (by kernel_rfl) (Sub.of (by first | exact Imp.refl _ | exact Imp.drop | exact Imp.fin | ((repeat (refine Imp.pick ?_)); first | exact Imp.refl _ | exact Imp.emp _ | exact Imp.fin))) ?_; conv => whnf)
    | (refine And.intro ?_ ?_ <;> conv => whnf)
    | (refine DrawK.introH tab_ok mixed 66 f_quotaref18_Story_does.last13 f_quotaref18_Story_does.plan13 _ rfl (by kernel_rfl) (Sub.of (by first | exact Imp.refl _ | exact Imp.drop | exact Imp.fin | ((repeat (refine Imp.pick ?_)); first | exact Imp.refl _ | exact Imp.emp _ | exact Imp.fin))) ?_; conv => whnf)
    | (refine CallK.ret f_quotaref18_Story_leaves.ok (leaves_spec (by first | rfl | assumption | omega | decide | (simp; done) | (simp; omega) | (simp at *; omega)) (by first | rfl | assumption | omega | decide | (simp; done) | (simp; omega) | (simp at *; omega))) ?_; rintro v G ⟨e_X', e_h1, rfl, rfl⟩; conv => whnf)
    | (refine CallK.ret f_quotaref18_Story_leaves.ok (leaves_spec (by first | rfl | assumption | omega | decide | (simp; done) | (simp; omega) | (simp at *; omega)) (by first | rfl | assumption | omega | decide | (simp; done) | (simp; omega) | (simp at *; omega))) ?_; rintro v G ⟨e_va', e_vc', rfl, rfl⟩; conv => whnf)
    | (refine DrawK.introH tab_ok mixed 97 f_quotaref18_Story_does.last19 f_quotaref18_Story_does.plan19 _ rfl (by kernel_rfl) (Sub.of (by first | exact Imp.refl _ | exact Imp.drop | exact Imp.fin | ((repeat (refine Imp.pick ?_)); first | exact Imp.refl _ | exact Imp.emp _ | exact Imp.fin))) ?_; conv => whnf)
    | (refine DrawK.introH tab_ok mixed 127 f_quotaref18_Story_does.last24 f_quotaref18_Story_does.plan24 _ rfl (by kernel_rfl) (Sub.of (by first | exact Imp.refl _ | exact Imp.drop | exact Imp.fin | ((repeat (refine Imp.pick ?_)); first | exact Imp.refl _ | exact Imp.emp _ | exact Imp.fin))) ?_; conv => whnf)
    | (refine DrawK.introH tab_ok mixed 149 f_quotaref18_Story_does.last26 f_quotaref18_Story_does.plan26 _ rfl (by kernel_rfl) (Sub.of (by first | exact Imp.refl _ | exact Imp.drop | exact Imp.fin | ((repeat (refine Imp.pick ?_)); first | exact Imp.refl _ | exact Imp.emp _ | exact Imp.fin))) ?_; conv => whnf)
    | (refine CallK.ret f_quotaref18_Story_change.ok (change_spec (by first | rfl | assumption | omega | decide | (simp; done) | (simp; omega) | (simp at *; omega)) (by first | rfl | assumption | omega | decide | (simp; done) | (simp; omega) | (simp at *; omega)) (by first | rfl | assumption | omega | decide | (simp; done) | (simp; omega) | (simp at *; omega))) ?_; rintro v G ⟨e_X', e_h1, e_h2, e_h3⟩; conv => whnf)
    | (refine DrawK.introH tab_ok mixed 186 f_quotaref18_Story_does.last32 f_quotaref18_Story_does.plan32 _ rfl (by kernel_rfl) (Sub.of (by first | exact Imp.refl _ | exact Imp.drop | exact Imp.fin | ((repeat (refine Imp.pick ?_)); first | exact Imp.refl _ | exact Imp.emp _ | exact Imp.fin))) ?_; conv => whnf)
    | (refine DrawK.introH tab_ok mixed 209 f_quotaref18_Story_does.last35 f_quotaref18_Story_does.plan35 _ rfl (by kernel_rfl) (Sub.of (by first | exact Imp.refl _ | exact Imp.drop | exact Imp.fin | ((repeat (refine Imp.pick ?_)); first | exact Imp.refl _ | exact Imp.emp _ | exact Imp.fin))) ?_; conv => whnf)
    | (refine DrawK.introH tab_ok mixed 225 f_quotaref18_Story_does.last38 f_quotaref18_Story_does.plan38 _ rfl (by kernel_rfl) (Sub.of (by first | exact Imp.refl _ | exact Imp.drop | exact Imp.fin | ((repeat (refine Imp.pick ?_)); first | exact Imp.refl _ | exact Imp.emp _ | exact Imp.fin))) ?_; conv => whnf)
    | fail)
  obtain ⟨V2, hV2⟩ : ∃ V2, V2 = X.V.set t { o with o := { o.o with last := (X.R.length : Int) + 1 } } := ⟨_, rfl⟩
  have hVt : V2[t]? = some { o with o := { o.o with last := (X.R.length : Int) + 1 } } := by
    rw [hV2]; exact List.getElem?_set_self htl
  obtain ⟨R2, hR2⟩ : ∃ R2, R2 = X.R ++ [{ rec1 6 o.o.tx o.o.last with lsn := (X.R.length : Int) + 1 }] := ⟨_, rfl⟩
  obtain ⟨Y0, hY0⟩ : ∃ Y0, Y0 = X.upd ra' rc' R2 V2 X.S := ⟨_, rfl⟩
  refine LoopK.at tab_ok (L := f_quotaref18_Story_does.live) (ι := Nat × StoryX) (fun i => i.1 ≤ X.L.length ∧ Story.undos o.o t (X.L.length - i.1) i.1 i.2.val = Story.undos o.o t X.L.length 0 Y0.val ∧ (∃ n, i.2.V[t]? = some { o with o := { o.o with last := n } }) ∧ i.2.L = X.L ∧ i.2.V.length = X.V.length ∧ i.2.R.length ≤ X.R.length + 1 + i.1)
    (fun i => [(10, .int .i64 i.1)]) (fun i => storyo s i.2) (fun i => X.L.length - i.1) (0, Y0) ⟨by simp, rfl, ⟨_, by rw [hY0]; exact hVt⟩, by rw [hY0]; rfl, by rw [hY0]; show V2.length = _; rw [hV2, List.length_set], by rw [hY0]; show R2.length ≤ _; rw [hR2]; simp⟩ (fun t v h => h) (by
      rw [hY0, hV2, hR2]
      exact Imp.refl _) ?_
  rintro ⟨i, Y⟩ ⟨hi, hu, ⟨n, hn⟩, hL, hVl, hRl⟩
  dsimp only at hi hu hn hL hVl hRl ⊢
  have htl2 : t < Y.V.length := by omega
  have hLl : Y.L.length = X.L.length := by rw [hL]
  conv => whnf
  by_cases h1 : i < X.L.length
  · obtain ⟨b, hb1⟩ : ∃ b, o.o.holds[i]? = some b := ⟨_, List.getElem?_eq_getElem (by omega)⟩
    obtain ⟨y, hy⟩ : ∃ y, o.o.nets[i]? = some y := ⟨_, List.getElem?_eq_getElem (by omega)⟩
    obtain ⟨p, hp⟩ : ∃ p, Y.L[i]? = some p := ⟨_, List.getElem?_eq_getElem (by omega)⟩
    haveI rn : ∀ Q : HProp, RowC W (storyo s Y • Q) o.na 1 ints o.o.nets := fun Q => RowC.storyN (t := t) (x := { o with o := { o.o with last := n } }) (h := ⟨hn⟩)
    haveI rh : ∀ Q : HProp, RowC W (storyo s Y • Q) o.ha 1 bls o.o.holds := fun Q => RowC.storyH (t := t) (x := { o with o := { o.o with last := n } }) (h := ⟨hn⟩)
    rw [undos_next h1] at hu
    have hcs := change_same Y.val 4 t i y
    cases b with
    | true =>
      have hu1 : Story.undo1 o.o t i Y.val = Y.val.change 4 t i y := by unfold Story.undo1; rw [if_pos hb1, hy]; rfl
      rw [hu1] at hu
      repeat' (first
        | (refine CallK.ret f_quotaref18_Story_change.ok (change_spec (t := t) (k := i) hn hp (by omega)) ?_; rintro v G ⟨Y', hY', _, hY2, rfl, rfl⟩; conv => whnf)
        | (refine spl_f (by with_reducible exact ndec_self _) ?_; conv => whnf)
        | (refine spl_f (by with_reducible exact nbeq_self _) ?_; conv => whnf)
        | (refine spl_t (by with_reducible exact beq_self _) ?_; conv => whnf)
        | (refine spl_dec (fun hd => ?_) (fun hd => ?_) <;> first | (exfalso; omega) | (conv => whnf))
        | (refine spl_ndec (fun hd => ?_) (fun hd => ?_) <;> first | (exfalso; omega) | (conv => whnf))
        | (refine spl_intro (fun hd => ?_) (fun hd => ?_) <;> (conv => whnf))
        | (refine Ld.i ?_; conv => whnf)
        | (refine LdN.i ?_; conv => whnf)
        | (refine St.i ⟨rfl, rfl⟩ (List.cons_ne_nil _ _) ?_; conv => whnf)
        | (refine Ar.i64 (by omega) ?_; conv => whnf)
        | (refine Ar.u64 (by omega) ?_; conv => whnf)
        | (refine Ar.i64d (by omega) (by omega) ?_; conv => whnf)
        | (refine Shr.i (by rfl) (by decide) ?_; conv => whnf)
        | (refine Shl.i (by rfl) (by decide) ?_; conv => whnf)
        | (refine Req.mk (by omega) ?_; conv => whnf)
        | (intro blk hblk; conv => whnf)
        | (refine IxS.r (xs := o.o.holds) (i := i) rfl rfl (by omega) (fun ab off ha => ?_); have rv : ∀ Q : HProp, RowC W (storyo s Y • Q) (some ⟨ab, off, none⟩) 1 bls o.o.holds := fun Q => ha ▸ rh Q; conv => whnf)
        | (refine IxS.r (xs := o.o.nets) (i := i) rfl rfl (by omega) (fun ab off ha => ?_); have rv : ∀ Q : HProp, RowC W (storyo s Y • Q) (some ⟨ab, off, none⟩) 1 ints o.o.nets := fun Q => ha ▸ rn Q; conv => whnf)
        | (refine LdN.r hb1 rfl ?_; conv => whnf)
        | (refine Ld.r hb1 rfl ?_; conv => whnf)
        | (refine Ld.r0 hb1 rfl ?_; conv => whnf)
        | (refine LdN.rp hb1 ?_; conv => whnf)
        | (refine LdN.r hy rfl ?_; conv => whnf)
        | (refine Ld.r hy rfl ?_; conv => whnf)
        | (refine Ld.r0 hy rfl ?_; conv => whnf)
        | (refine LdN.rp hy ?_; conv => whnf)
        | (refine Sub.on (by first | exact Imp.refl _ | exact Imp.drop | exact Imp.fin | ((repeat (refine Imp.pick ?_)); first | exact Imp.refl _ | exact Imp.emp _ | exact Imp.fin)) ?_; conv => whnf)
        | (refine Sub.on (Imp.trans KeepC.h (by first | exact Imp.refl _ | exact Imp.drop | exact Imp.fin | ((repeat (refine Imp.pick ?_)); first | exact Imp.refl _ | exact Imp.emp _ | exact Imp.fin))) ?_; conv => whnf)
        | (refine CallK.ret f_quotaref18_brought.ok (tbrought_spec (by first | rfl | assumption | omega | decide | (simp; done) | (simp; omega) | (simp at *; omega))) ?_; rintro v G ⟨rfl, rfl⟩; conv => whnf)
        | (refine CallK.ret f_quotaref18_brought.ok (tbrought_spec (by first | rfl | assumption | omega | decide | (simp; done) | (simp; omega) | (simp at *; omega))) ?_; rintro v G ⟨e_z, hz0, hz1, rfl, rfl⟩; conv => whnf)
        | (refine CallK.ret f_quotaref18_Story_makes.ok (makes_spec (by first | rfl | assumption | omega | decide | (simp; done) | (simp; omega) | (simp at *; omega)) (by first | rfl | assumption | omega | decide | (simp; done) | (simp; omega) | (simp at *; omega))) ?_; rintro v G ⟨e_X', e_h1, rfl, rfl⟩; conv => whnf)
        | (refine CallK.ret f_quotaref18_Story_writes.ok (writes_spec (by first | rfl | assumption | omega | decide | (simp; done) | (simp; omega) | (simp at *; omega))) ?_; rintro v G ⟨e_ra', e_rc', rfl, rfl⟩; conv => whnf)
        | (refine CallK.ret f_quotaref18_Story_writes.ok (writes_spec (by first | rfl | assumption | omega | decide | (simp; done) | (simp; omega) | (simp at *; omega))) ?_; rintro v G ⟨e_ra', e_rc', rfl, rfl⟩; conv => whnf)
        | (refine DrawK.treeH tab_ok mixed 36 f_quotaref18_Story_does.tree8 _ rfl (by kernel_rfl) (Sub.of (by first | exact Imp.refl _ | exact Imp.drop | exact Imp.fin | ((repeat (refine Imp.pick ?_)); first | exact Imp.refl _ | exact Imp.emp _ | exact Imp.fin))) ?_; conv => whnf)
        | (refine And.intro ?_ ?_ <;> conv => whnf)
        | (refine DrawK.introH tab_ok mixed 66 f_quotaref18_Story_does.last13 f_quotaref18_Story_does.plan13 _ rfl (by kernel_rfl) (Sub.of (by first | exact Imp.refl _ | exact Imp.drop | exact Imp.fin | ((repeat (refine Imp.pick ?_)); first | exact Imp.refl _ | exact Imp.emp _ | exact Imp.fin))) ?_; conv => whnf)
        | (refine CallK.ret f_quotaref18_Story_leaves.ok (leaves_spec (by first | rfl | assumption | omega | decide | (simp; done) | (simp; omega) | (simp at *; omega)) (by first | rfl | assumption | omega | decide | (simp; done) | (simp; omega) | (simp at *; omega))) ?_; rintro v G ⟨e_X', e_h1, rfl, rfl⟩; conv => whnf)
        | (refine CallK.ret f_quotaref18_Story_leaves.ok (leaves_spec (by first | rfl | assumption | omega | decide | (simp; done) | (simp; omega) | (simp at *; omega)) (by first | rfl | assumption | omega | decide | (simp; done) | (simp; omega) | (simp at *; omega))) ?_; rintro v G ⟨e_va', e_vc', rfl, rfl⟩; conv => whnf)
        | (refine DrawK.introH tab_ok mixed 97 f_quotaref18_Story_does.last19 f_quotaref18_Story_does.plan19 _ rfl (by kernel_rfl) (Sub.of (by first | exact Imp.refl _ | exact Imp.drop | exact Imp.fin | ((repeat (refine Imp.pick ?_)); first | exact Imp.refl _ | exact Imp.emp _ | exact Imp.fin))) ?_; conv => whnf)
        | (refine DrawK.introH tab_ok mixed 127 f_quotaref18_Story_does.last24 f_quotaref18_Story_does.plan24 _ rfl (by kernel_rfl) (Sub.of (by first | exact Imp.refl _ | exact Imp.drop | exact Imp.fin | ((repeat (refine Imp.pick ?_)); first | exact Imp.refl _ | exact Imp.emp _ | exact Imp.fin))) ?_; conv => whnf)
        | (refine DrawK.introH tab_ok mixed 149 f_quotaref18_Story_does.last26 f_quotaref18_Story_does.plan26 _ rfl (by kernel_rfl) (Sub.of (by first | exact Imp.refl _ | exact Imp.drop | exact Imp.fin | ((repeat (refine Imp.pick ?_)); first | exact Imp.refl _ | exact Imp.emp _ | exact Imp.fin))) ?_; conv => whnf)
        | (refine CallK.ret f_quotaref18_Story_change.ok (change_spec (by first | rfl | assumption | omega | decide | (simp; done) | (simp; omega) | (simp at *; omega)) (by first | rfl | assumption | omega | decide | (simp; done) | (simp; omega) | (simp at *; omega)) (by first | rfl | assumption | omega | decide | (simp; done) | (simp; omega) | (simp at *; omega))) ?_; rintro v G ⟨e_X', e_h1, e_h2, e_h3⟩; conv => whnf)
        | (refine DrawK.introH tab_ok mixed 186 f_quotaref18_Story_does.last32 f_quotaref18_Story_does.plan32 _ rfl (by kernel_rfl) (Sub.of (by first | exact Imp.refl _ | exact Imp.drop | exact Imp.fin | ((repeat (refine Imp.pick ?_)); first | exact Imp.refl _ | exact Imp.emp _ | exact Imp.fin))) ?_; conv => whnf)
        | (refine DrawK.introH tab_ok mixed 209 f_quotaref18_Story_does.last35 f_quotaref18_Story_does.plan35 _ rfl (by kernel_rfl) (Sub.of (by first | exact Imp.refl _ | exact Imp.drop | exact Imp.fin | ((repeat (refine Imp.pick ?_)); first | exact Imp.refl _ | exact Imp.emp _ | exact Imp.fin))) ?_; conv => whnf)
        | (refine DrawK.introH tab_ok mixed 225 f_quotaref18_Story_does.last38 f_quotaref18_Story_does.plan38 _ rfl (by kernel_rfl) (Sub.of (by first | exact Imp.refl _ | exact Imp.drop | exact Imp.fin | ((repeat (refine Imp.pick ?_)); first | exact Imp.refl _ | exact Imp.emp _ | exact Imp.fin))) ?_; conv => whnf)
        | fail)
      refine ⟨(i + 1, Y'), ⟨h1, by rw [hY']; exact hu, ⟨_, hY2⟩, ?_, ?_, ?_⟩, fun t v h => h, ?_, by dsimp only; omega⟩
      · exact (congrArg Story.L hY').trans (hcs.2.1.trans hL)
      · have := congrArg (fun z : Story => z.V.length) hY'
        rw [hcs.2.2.1, val_len, val_len] at this
        show Y'.V.length = X.V.length
        omega
      · have : Y'.R.length = (Y.val.change 4 t i y).R.length := congrArg (fun z : Story => z.R.length) hY'
        have h3 : Y.val.R.length = Y.R.length := rfl
        have h4 := hcs.2.2.2.1
        show Y'.R.length ≤ X.R.length + 1 + (i + 1)
        omega
      · exact Imp.refl _
    | false =>
      have hu1 : Story.undo1 o.o t i Y.val = Y.val := by unfold Story.undo1; rw [if_neg (by rw [hb1]; simp)]
      rw [hu1] at hu
      repeat' (first
        | (refine spl_f (by with_reducible exact ndec_self _) ?_; conv => whnf)
        | (refine spl_f (by with_reducible exact nbeq_self _) ?_; conv => whnf)
        | (refine spl_t (by with_reducible exact beq_self _) ?_; conv => whnf)
        | (refine spl_dec (fun hd => ?_) (fun hd => ?_) <;> first | (exfalso; omega) | (conv => whnf))
        | (refine spl_ndec (fun hd => ?_) (fun hd => ?_) <;> first | (exfalso; omega) | (conv => whnf))
        | (refine spl_intro (fun hd => ?_) (fun hd => ?_) <;> (conv => whnf))
        | (refine Ld.i ?_; conv => whnf)
        | (refine LdN.i ?_; conv => whnf)
        | (refine St.i ⟨rfl, rfl⟩ (List.cons_ne_nil _ _) ?_; conv => whnf)
        | (refine Ar.i64 (by omega) ?_; conv => whnf)
        | (refine Ar.u64 (by omega) ?_; conv => whnf)
        | (refine Ar.i64d (by omega) (by omega) ?_; conv => whnf)
        | (refine Shr.i (by rfl) (by decide) ?_; conv => whnf)
        | (refine Shl.i (by rfl) (by decide) ?_; conv => whnf)
        | (refine Req.mk (by omega) ?_; conv => whnf)
        | (intro blk hblk; conv => whnf)
        | (refine IxS.r (xs := o.o.holds) (i := i) rfl rfl (by omega) (fun ab off ha => ?_); have rv : ∀ Q : HProp, RowC W (storyo s Y • Q) (some ⟨ab, off, none⟩) 1 bls o.o.holds := fun Q => ha ▸ rh Q; conv => whnf)
        | (refine LdN.r hb1 rfl ?_; conv => whnf)
        | (refine Ld.r hb1 rfl ?_; conv => whnf)
        | (refine Ld.r0 hb1 rfl ?_; conv => whnf)
        | (refine LdN.rp hb1 ?_; conv => whnf)
        | (refine Sub.on (by first | exact Imp.refl _ | exact Imp.drop | exact Imp.fin | ((repeat (refine Imp.pick ?_)); first | exact Imp.refl _ | exact Imp.emp _ | exact Imp.fin)) ?_; conv => whnf)
        | (refine Sub.on (Imp.trans KeepC.h (by first | exact Imp.refl _ | exact Imp.drop | exact Imp.fin | ((repeat (refine Imp.pick ?_)); first | exact Imp.refl _ | exact Imp.emp _ | exact Imp.fin))) ?_; conv => whnf)
        | (refine CallK.ret f_quotaref18_brought.ok (tbrought_spec (by first | rfl | assumption | omega | decide | (simp; done) | (simp; omega) | (simp at *; omega))) ?_; rintro v G ⟨rfl, rfl⟩; conv => whnf)
        | (refine CallK.ret f_quotaref18_brought.ok (tbrought_spec (by first | rfl | assumption | omega | decide | (simp; done) | (simp; omega) | (simp at *; omega))) ?_; rintro v G ⟨e_z, hz0, hz1, rfl, rfl⟩; conv => whnf)
        | (refine CallK.ret f_quotaref18_Story_makes.ok (makes_spec (by first | rfl | assumption | omega | decide | (simp; done) | (simp; omega) | (simp at *; omega)) (by first | rfl | assumption | omega | decide | (simp; done) | (simp; omega) | (simp at *; omega))) ?_; rintro v G ⟨e_X', e_h1, rfl, rfl⟩; conv => whnf)
        | (refine CallK.ret f_quotaref18_Story_writes.ok (writes_spec (by first | rfl | assumption | omega | decide | (simp; done) | (simp; omega) | (simp at *; omega))) ?_; rintro v G ⟨e_ra', e_rc', rfl, rfl⟩; conv => whnf)
        | (refine CallK.ret f_quotaref18_Story_writes.ok (writes_spec (by first | rfl | assumption | omega | decide | (simp; done) | (simp; omega) | (simp at *; omega))) ?_; rintro v G ⟨e_ra', e_rc', rfl, rfl⟩; conv => whnf)
        | (refine DrawK.treeH tab_ok mixed 36 f_quotaref18_Story_does.tree8 _ rfl (by kernel_rfl) (Sub.of (by first | exact Imp.refl _ | exact Imp.drop | exact Imp.fin | ((repeat (refine Imp.pick ?_)); first | exact Imp.refl _ | exact Imp.emp _ | exact Imp.fin))) ?_; conv => whnf)
        | (refine And.intro ?_ ?_ <;> conv => whnf)
        | (refine DrawK.introH tab_ok mixed 66 f_quotaref18_Story_does.last13 f_quotaref18_Story_does.plan13 _ rfl (by kernel_rfl) (Sub.of (by first | exact Imp.refl _ | exact Imp.drop | exact Imp.fin | ((repeat (refine Imp.pick ?_)); first | exact Imp.refl _ | exact Imp.emp _ | exact Imp.fin))) ?_; conv => whnf)
        | (refine CallK.ret f_quotaref18_Story_leaves.ok (leaves_spec (by first | rfl | assumption | omega | decide | (simp; done) | (simp; omega) | (simp at *; omega)) (by first | rfl | assumption | omega | decide | (simp; done) | (simp; omega) | (simp at *; omega))) ?_; rintro v G ⟨e_X', e_h1, rfl, rfl⟩; conv => whnf)
        | (refine CallK.ret f_quotaref18_Story_leaves.ok (leaves_spec (by first | rfl | assumption | omega | decide | (simp; done) | (simp; omega) | (simp at *; omega)) (by first | rfl | assumption | omega | decide | (simp; done) | (simp; omega) | (simp at *; omega))) ?_; rintro v G ⟨e_va', e_vc', rfl, rfl⟩; conv => whnf)
        | (refine DrawK.introH tab_ok mixed 97 f_quotaref18_Story_does.last19 f_quotaref18_Story_does.plan19 _ rfl (by kernel_rfl) (Sub.of (by first | exact Imp.refl _ | exact Imp.drop | exact Imp.fin | ((repeat (refine Imp.pick ?_)); first | exact Imp.refl _ | exact Imp.emp _ | exact Imp.fin))) ?_; conv => whnf)
        | (refine DrawK.introH tab_ok mixed 127 f_quotaref18_Story_does.last24 f_quotaref18_Story_does.plan24 _ rfl (by kernel_rfl) (Sub.of (by first | exact Imp.refl _ | exact Imp.drop | exact Imp.fin | ((repeat (refine Imp.pick ?_)); first | exact Imp.refl _ | exact Imp.emp _ | exact Imp.fin))) ?_; conv => whnf)
        | (refine DrawK.introH tab_ok mixed 149 f_quotaref18_Story_does.last26 f_quotaref18_Story_does.plan26 _ rfl (by kernel_rfl) (Sub.of (by first | exact Imp.refl _ | exact Imp.drop | exact Imp.fin | ((repeat (refine Imp.pick ?_)); first | exact Imp.refl _ | exact Imp.emp _ | exact Imp.fin))) ?_; conv => whnf)
        | (refine CallK.ret f_quotaref18_Story_change.ok (change_spec (by first | rfl | assumption | omega | decide | (simp; done) | (simp; omega) | (simp at *; omega)) (by first | rfl | assumption | omega | decide | (simp; done) | (simp; omega) | (simp at *; omega)) (by first | rfl | assumption | omega | decide | (simp; done) | (simp; omega) | (simp at *; omega))) ?_; rintro v G ⟨e_X', e_h1, e_h2, e_h3⟩; conv => whnf)
        | (refine DrawK.introH tab_ok mixed 186 f_quotaref18_Story_does.last32 f_quotaref18_Story_does.plan32 _ rfl (by kernel_rfl) (Sub.of (by first | exact Imp.refl _ | exact Imp.drop | exact Imp.fin | ((repeat (refine Imp.pick ?_)); first | exact Imp.refl _ | exact Imp.emp _ | exact Imp.fin))) ?_; conv => whnf)
        | (refine DrawK.introH tab_ok mixed 209 f_quotaref18_Story_does.last35 f_quotaref18_Story_does.plan35 _ rfl (by kernel_rfl) (Sub.of (by first | exact Imp.refl _ | exact Imp.drop | exact Imp.fin | ((repeat (refine Imp.pick ?_)); first | exact Imp.refl _ | exact Imp.emp _ | exact Imp.fin))) ?_; conv => whnf)
        | (refine DrawK.introH tab_ok mixed 225 f_quotaref18_Story_does.last38 f_quotaref18_Story_does.plan38 _ rfl (by kernel_rfl) (Sub.of (by first | exact Imp.refl _ | exact Imp.drop | exact Imp.fin | ((repeat (refine Imp.pick ?_)); first | exact Imp.refl _ | exact Imp.emp _ | exact Imp.fin))) ?_; conv => whnf)
        | fail)
      refine ⟨(i + 1, Y), ⟨h1, hu, ⟨_, hn⟩, hL, hVl, by dsimp only; omega⟩, fun t v h => h, ?_, by dsimp only; omega⟩
      exact Imp.refl _
  · have hie : X.L.length - i = 0 := by omega
    rw [hie, Story.undos] at hu
    repeat' (first
      | (refine CallK.ret f_quotaref18_Story_writes.ok (writes_spec (r := rec1 7 o.o.tx n) (by omega)) ?_; rintro v G ⟨ra2, rc2, rfl, rfl⟩; conv => whnf)
      | (refine CallK.ret f_quotaref18_Story_leaves.ok (leaves_spec (t := t) (by exact htl2) (by exact (by omega : Y.V.length ≤ 20))) ?_; rintro v G ⟨X', hX', rfl, rfl⟩; conv => whnf)
      | (refine spl_f (by with_reducible exact ndec_self _) ?_; conv => whnf)
      | (refine spl_f (by with_reducible exact nbeq_self _) ?_; conv => whnf)
      | (refine spl_t (by with_reducible exact beq_self _) ?_; conv => whnf)
      | (refine spl_dec (fun hd => ?_) (fun hd => ?_) <;> first | (exfalso; omega) | (conv => whnf))
      | (refine spl_ndec (fun hd => ?_) (fun hd => ?_) <;> first | (exfalso; omega) | (conv => whnf))
      | (refine spl_intro (fun hd => ?_) (fun hd => ?_) <;> (conv => whnf))
      | (refine Ld.i ?_; conv => whnf)
      | (refine LdN.i ?_; conv => whnf)
      | (refine St.i ⟨rfl, rfl⟩ (List.cons_ne_nil _ _) ?_; conv => whnf)
      | (refine Ar.i64 (by omega) ?_; conv => whnf)
      | (refine Ar.u64 (by omega) ?_; conv => whnf)
      | (refine Ar.i64d (by omega) (by omega) ?_; conv => whnf)
      | (refine Shr.i (by rfl) (by decide) ?_; conv => whnf)
      | (refine Shl.i (by rfl) (by decide) ?_; conv => whnf)
      | (refine Req.mk (by omega) ?_; conv => whnf)
      | (intro blk hblk; conv => whnf)
      | (refine IxS.r (xs := Y.V) (i := t) rfl rfl htl2 (fun ab off ha => ?_); have rv : ∀ Q : HProp, RowC W (storyo s Y • Q) (some ⟨ab, off, none⟩) 5 openv Y.V := fun Q => ha ▸ inferInstance; conv => whnf)
      | (refine LdN.r hn rfl ?_; conv => whnf)
      | (refine Ld.r hn rfl ?_; conv => whnf)
      | (refine Ld.r0 hn rfl ?_; conv => whnf)
      | (refine LdN.rp hn ?_; conv => whnf)
      | (refine Sub.on (by first | exact Imp.refl _ | exact Imp.drop | exact Imp.fin | ((repeat (refine Imp.pick ?_)); first | exact Imp.refl _ | exact Imp.emp _ | exact Imp.fin)) ?_; conv => whnf)
      | (refine Sub.on (Imp.trans KeepC.h (by first | exact Imp.refl _ | exact Imp.drop | exact Imp.fin | ((repeat (refine Imp.pick ?_)); first | exact Imp.refl _ | exact Imp.emp _ | exact Imp.fin))) ?_; conv => whnf)
      | (refine CallK.ret f_quotaref18_brought.ok (tbrought_spec (by first | rfl | assumption | omega | decide | (simp; done) | (simp; omega) | (simp at *; omega))) ?_; rintro v G ⟨rfl, rfl⟩; conv => whnf)
      | (refine CallK.ret f_quotaref18_brought.ok (tbrought_spec (by first | rfl | assumption | omega | decide | (simp; done) | (simp; omega) | (simp at *; omega))) ?_; rintro v G ⟨e_z, hz0, hz1, rfl, rfl⟩; conv => whnf)
      | (refine CallK.ret f_quotaref18_Story_makes.ok (makes_spec (by first | rfl | assumption | omega | decide | (simp; done) | (simp; omega) | (simp at *; omega)) (by first | rfl | assumption | omega | decide | (simp; done) | (simp; omega) | (simp at *; omega))) ?_; rintro v G ⟨e_X', e_h1, rfl, rfl⟩; conv => whnf)
      | (refine CallK.ret f_quotaref18_Story_writes.ok (writes_spec (by first | rfl | assumption | omega | decide | (simp; done) | (simp; omega) | (simp at *; omega))) ?_; rintro v G ⟨e_ra', e_rc', rfl, rfl⟩; conv => whnf)
      | (refine CallK.ret f_quotaref18_Story_writes.ok (writes_spec (by first | rfl | assumption | omega | decide | (simp; done) | (simp; omega) | (simp at *; omega))) ?_; rintro v G ⟨e_ra', e_rc', rfl, rfl⟩; conv => whnf)
      | (refine DrawK.treeH tab_ok mixed 36 f_quotaref18_Story_does.tree8 _ rfl (by kernel_rfl) (Sub.of (by first | exact Imp.refl _ | exact Imp.drop | exact Imp.fin | ((repeat (refine Imp.pick ?_)); first | exact Imp.refl _ | exact Imp.emp _ | exact Imp.fin))) ?_; conv => whnf)
      | (refine And.intro ?_ ?_ <;> conv => whnf)
      | (refine DrawK.introH tab_ok mixed 66 f_quotaref18_Story_does.last13 f_quotaref18_Story_does.plan13 _ rfl (by kernel_rfl) (Sub.of (by first | exact Imp.refl _ | exact Imp.drop | exact Imp.fin | ((repeat (refine Imp.pick ?_)); first | exact Imp.refl _ | exact Imp.emp _ | exact Imp.fin))) ?_; conv => whnf)
      | (refine CallK.ret f_quotaref18_Story_leaves.ok (leaves_spec (by first | rfl | assumption | omega | decide | (simp; done) | (simp; omega) | (simp at *; omega)) (by first | rfl | assumption | omega | decide | (simp; done) | (simp; omega) | (simp at *; omega))) ?_; rintro v G ⟨e_X', e_h1, rfl, rfl⟩; conv => whnf)
      | (refine CallK.ret f_quotaref18_Story_leaves.ok (leaves_spec (by first | rfl | assumption | omega | decide | (simp; done) | (simp; omega) | (simp at *; omega)) (by first | rfl | assumption | omega | decide | (simp; done) | (simp; omega) | (simp at *; omega))) ?_; rintro v G ⟨e_va', e_vc', rfl, rfl⟩; conv => whnf)
      | (refine DrawK.introH tab_ok mixed 97 f_quotaref18_Story_does.last19 f_quotaref18_Story_does.plan19 _ rfl (by kernel_rfl) (Sub.of (by first | exact Imp.refl _ | exact Imp.drop | exact Imp.fin | ((repeat (refine Imp.pick ?_)); first | exact Imp.refl _ | exact Imp.emp _ | exact Imp.fin))) ?_; conv => whnf)
      | (refine DrawK.introH tab_ok mixed 127 f_quotaref18_Story_does.last24 f_quotaref18_Story_does.plan24 _ rfl (by kernel_rfl) (Sub.of (by first | exact Imp.refl _ | exact Imp.drop | exact Imp.fin | ((repeat (refine Imp.pick ?_)); first | exact Imp.refl _ | exact Imp.emp _ | exact Imp.fin))) ?_; conv => whnf)
      | (refine DrawK.introH tab_ok mixed 149 f_quotaref18_Story_does.last26 f_quotaref18_Story_does.plan26 _ rfl (by kernel_rfl) (Sub.of (by first | exact Imp.refl _ | exact Imp.drop | exact Imp.fin | ((repeat (refine Imp.pick ?_)); first | exact Imp.refl _ | exact Imp.emp _ | exact Imp.fin))) ?_; conv => whnf)
      | (refine CallK.ret f_quotaref18_Story_change.ok (change_spec (by first | rfl | assumption | omega | decide | (simp; done) | (simp; omega) | (simp at *; omega)) (by first | rfl | assumption | omega | decide | (simp; done) | (simp; omega) | (simp at *; omega)) (by first | rfl | assumption | omega | decide | (simp; done) | (simp; omega) | (simp at *; omega))) ?_; rintro v G ⟨e_X', e_h1, e_h2, e_h3⟩; conv => whnf)
      | (refine DrawK.introH tab_ok mixed 186 f_quotaref18_Story_does.last32 f_quotaref18_Story_does.plan32 _ rfl (by kernel_rfl) (Sub.of (by first | exact Imp.refl _ | exact Imp.drop | exact Imp.fin | ((repeat (refine Imp.pick ?_)); first | exact Imp.refl _ | exact Imp.emp _ | exact Imp.fin))) ?_; conv => whnf)
      | (refine DrawK.introH tab_ok mixed 209 f_quotaref18_Story_does.last35 f_quotaref18_Story_does.plan35 _ rfl (by kernel_rfl) (Sub.of (by first | exact Imp.refl _ | exact Imp.drop | exact Imp.fin | ((repeat (refine Imp.pick ?_)); first | exact Imp.refl _ | exact Imp.emp _ | exact Imp.fin))) ?_; conv => whnf)
      | (refine DrawK.introH tab_ok mixed 225 f_quotaref18_Story_does.last38 f_quotaref18_Story_does.plan38 _ rfl (by kernel_rfl) (Sub.of (by first | exact Imp.refl _ | exact Imp.drop | exact Imp.fin | ((repeat (refine Imp.pick ?_)); first | exact Imp.refl _ | exact Imp.emp _ | exact Imp.fin))) ?_; conv => whnf)
      | fail)
    refine ⟨_, _, rfl, ?_, X', _, ?_, rfl, rfl⟩
    · first | exact Imp.refl _ | exact Imp.drop | exact Imp.fin | ((repeat (refine Imp.pick ?_)); first | exact Imp.refl _ | exact Imp.emp _ | exact Imp.fin)
    · rw [hX']
      unfold Story.does
      dsimp only
      rw [if_neg (by omega), if_neg (by omega), if_neg (by rw [val_len]; omega), e1, val_get ho]
      dsimp only
      rw [if_neg (by rw [hc]; decide), if_neg (by omega), if_pos hk]
      unfold Story.aborts
      dsimp only
      have hs1 : ({ X.val.writes (rec1 6 o.o.tx o.o.last) with V := X.val.V.set t { o.o with last := (X.val.R.length : Int) + 1 } } : Story) = Y0.val := by
        rw [hY0, hV2, hR2]
        simp [StoryX.val, StoryX.upd, Story.writes, List.map_set]
      rw [hs1, show X.val.L.length = X.L.length from rfl, ← hu, val_get hn]
      rfl
end Go.Proofs.YtacpnjlijjgbmaaGreatDoor
