/- Stories: a deed: a commit, an abort, an add. Conditions: in each statement. -/
import Derived.Test.YtacpnjlijjgbmaaGreatDoorTldMakes
namespace Go.Proofs.YtacpnjlijjgbmaaGreatDoor
open Go Go.SL Go.SL.Sec Go.SL.Rec Go.SL.Tld
open Go.SL.Und (RecV recv rec_one fits)
set_option maxHeartbeats 2000000 in
-- @noauto
theorem does_commit {W : World} {H R : HProp} {s : Nat} {X : StoryX} {x : DeedV} {t : Nat} {o : OpenX} [tk : ObjC storyo H s X R] (hX : X.val.Ok) (hb : X.R.length ≤ 9000000) (hk : x.kind % 10 = 8) (hv : ¬ X.V.length = 0) (ht : (t : Int) = x.a % X.V.length) (ho : X.V[t]? = some o) (hc : o.o.com = false) :
    Does prog W f_quotaref18_Story_does ⟨[tptr s, deedA x]⟩ H (Ret fun v G => ∃ X' c, X'.val = X.val.does x ∧ v = .bool c ∧ G = (storyo s X' • R)) := by
  rw [tk.h.eq]
  clear tk
  unfold deedA
  have hlv := hX.live
  rw [val_len] at hlv
  have htl := (List.getElem?_eq_some_iff.1 ho).1
  have hnl : o.o.nets.length = 200 ∧ o.o.holds.length = 200 := hX.op o.o (by
    have := List.mem_of_getElem? (val_get ho)
    exact this)
  have hll : X.L.length ≤ 60 := hX.ll
  have hsl : X.S.length = X.L.length := hX.sl
  refine f_quotaref18_Story_does.does _ _ ?_
  conv => whnf
  repeat' (first
    | (refine DrawK.introK tab_ok mixed 97 f_quotaref18_Story_does.last19 f_quotaref18_Story_does.plan19 rfl (by kernel_rfl) ?_; conv => whnf)
    | (refine CallK.ret f_quotaref18_Story_writes.ok (writes_spec (r := rec1 5 o.o.tx o.o.last) (by omega)) ?_; rintro v G ⟨ra', rc', rfl, rfl⟩; conv => whnf)
    | (refine spl_f hc ?_; conv => whnf)
    | (refine spl_f (by with_reducible exact ndec_self _) ?_; conv => whnf)
    | (refine spl_f (by with_reducible exact nbeq_self _) ?_; conv => whnf)
    | (refine spl_t (by with_reducible exact beq_self _) ?_; conv => whnf)
    | (refine spl_dec (fun hd => ?_) (fun hd => ?_) <;> first | (exfalso; omega) | (conv => whnf))
    | (refine spl_ndec (fun hd => ?_) (fun hd => ?_) <;> first | (exfalso; omega) | (conv => whnf))
    | (refine spl_intro (fun hd => ?_) (fun hd => ?_) <;> (conv => whnf))
    | (refine Ld.i ?_; conv => whnf)
    | (refine LdN.i ?_; conv => whnf)
    | (refine St.i ⟨rfl, rfl⟩ (List.cons_ne_nil _ _) ?_; conv => whnf)
    | (refine Ar.i64 (by omega) ?_; conv => whnf)
    | (refine Ar.u64 (by omega) ?_; conv => whnf)
    | (refine Ar.i64d (by omega) (by omega) ?_; conv => whnf)
    | (refine Shr.i (by rfl) (by decide) ?_; conv => whnf)
    | (refine Shl.i (by rfl) (by decide) ?_; conv => whnf)
    | (refine Req.mk (by omega) ?_; conv => whnf)
    | (intro blk hblk; conv => whnf)
    | (rw [← ht]; refine IxS.r (xs := X.V) (i := t) rfl rfl htl (fun ab off ha => ?_); have rv : RowC W (storyo s X • R) (some ⟨ab, off, none⟩) 5 openv X.V := ha ▸ inferInstance; conv => whnf)
    | (refine IxS.r (i := t) rfl rfl (by first | exact htl | (rw [List.length_set]; exact htl)) (fun ab off ha => ?_); conv => whnf)
    | (refine LdN.r ho rfl ?_; conv => whnf)
    | (refine Ld.r ho rfl ?_; conv => whnf)
    | (refine Ld.r0 ho rfl ?_; conv => whnf)
    | (refine LdN.rp ho ?_; conv => whnf)
    | (refine St.last (by assumption) ho ?_; conv => whnf)
    | (refine St.com (by assumption) (List.getElem?_set_self htl) ?_; conv => whnf)
    | (refine Sub.on (by first | exact Imp.refl _ | exact Imp.drop | exact Imp.fin | ((repeat (refine Imp.pick ?_)); first | exact Imp.refl _ | exact Imp.emp _ | exact Imp.fin)) ?_; conv => whnf)
    | (refine Sub.on (Imp.trans KeepC.h (by first | exact Imp.refl _ | exact Imp.drop | exact Imp.fin | ((repeat (refine Imp.pick ?_)); first | exact Imp.refl _ | exact Imp.emp _ | exact Imp.fin))) ?_; conv => whnf)
    | (refine CallK.ret f_quotaref18_brought.ok (tbrought_spec (by first | rfl | assumption | omega | decide | (simp; done) | (simp; omega) | (simp at *; omega))) ?_; rintro v G ⟨rfl, rfl⟩; conv => whnf)
    | (refine CallK.ret f_quotaref18_brought.ok (tbrought_spec (by first | rfl | assumption | omega | decide | (simp; done) | (simp; omega) | (simp at *; omega))) ?_; rintro v G ⟨e_z, hz0, hz1, rfl, rfl⟩; conv => whnf)
    | (refine CallK.ret f_quotaref18_Story_makes.ok (makes_spec (by first | rfl | assumption | omega | decide | (simp; done) | (simp; omega) | (simp at *; omega)) (by first | rfl | assumption | omega | decide | (simp; done) | (simp; omega) | (simp at *; omega))) ?_; rintro v G ⟨e_X', e_h1, rfl, rfl⟩; conv => whnf)
    | (refine CallK.ret f_quotaref18_Story_writes.ok (writes_spec (by first | rfl | assumption | omega | decide | (simp; done) | (simp; omega) | (simp at *; omega))) ?_; rintro v G ⟨e_ra', e_rc', rfl, rfl⟩; conv => whnf)
    | (refine CallK.ret f_quotaref18_Story_writes.ok (writes_spec (by first | rfl | assumption | omega | decide | (simp; done) | (simp; omega) | (simp at *; omega))) ?_; rintro v G ⟨e_ra', e_rc', rfl, rfl⟩; conv => whnf)
    | (refine DrawK.treeH tab_ok mixed 36 f_quotaref18_Story_does.tree8 _ rfl (by kernel_rfl) (Sub.of (by first | exact Imp.refl _ | exact Imp.drop | exact Imp.fin | ((repeat (refine Imp.pick ?_)); first | exact Imp.refl _ | exact Imp.emp _ | exact Imp.fin))) ?_; conv => whnf)
    | (refine And.intro ?_ ?_ <;> conv => whnf)
    | (refine DrawK.introH tab_ok mixed 66 f_quotaref18_Story_does.last13 f_quotaref18_Story_does.plan13 _ rfl (by kernel_rfl) (Sub.of (by first | exact Imp.refl _ | exact Imp.drop | exact Imp.fin | ((repeat (refine Imp.pick ?_)); first | exact Imp.refl _ | exact Imp.emp _ | exact Imp.fin))) ?_; conv => whnf)
    | (refine CallK.ret f_quotaref18_Story_leaves.ok (leaves_spec (by first | rfl | assumption | omega | decide | (simp; done) | (simp; omega) | (simp at *; omega)) (by first | rfl | assumption | omega | decide | (simp; done) | (simp; omega) | (simp at *; omega))) ?_; rintro v G ⟨e_X', e_h1, rfl, rfl⟩; conv => whnf)
    | (refine CallK.ret f_quotaref18_Story_leaves.ok (leaves_spec (by first | rfl | assumption | omega | decide | (simp; done) | (simp; omega) | (simp at *; omega)) (by first | rfl | assumption | omega | decide | (simp; done) | (simp; omega) | (simp at *; omega))) ?_; rintro v G ⟨e_va', e_vc', rfl, rfl⟩; conv => whnf)
    | (refine DrawK.introH tab_ok mixed 97 f_quotaref18_Story_does.last19 f_quotaref18_Story_does.plan19 _ rfl (by kernel_rfl) (Sub.of (by first | exact Imp.refl _ | exact Imp.drop | exact Imp.fin | ((repeat (refine Imp.pick ?_)); first | exact Imp.refl _ | exact Imp.emp _ | exact Imp.fin))) ?_; conv => whnf)
    | (refine DrawK.introH tab_ok mixed 127 f_quotaref18_Story_does.last24 f_quotaref18_Story_does.plan24 _ rfl (by kernel_rfl) (Sub.of (by first | exact Imp.refl _ | exact Imp.drop | exact Imp.fin | ((repeat (refine Imp.pick ?_)); first | exact Imp.refl _ | exact Imp.emp _ | exact Imp.fin))) ?_; conv => whnf)
    | (refine DrawK.introH tab_ok mixed 149 f_quotaref18_Story_does.last26 f_quotaref18_Story_does.plan26 _ rfl (by kernel_rfl) (Sub.of (by first | exact Imp.refl _ | exact Imp.drop | exact Imp.fin | ((repeat (refine Imp.pick ?_)); first | exact Imp.refl _ | exact Imp.emp _ | exact Imp.fin))) ?_; conv => whnf)
    | (refine CallK.ret f_quotaref18_Story_change.ok (change_spec (by first | rfl | assumption | omega | decide | (simp; done) | (simp; omega) | (simp at *; omega)) (by first | rfl | assumption | omega | decide | (simp; done) | (simp; omega) | (simp at *; omega)) (by first | rfl | assumption | omega | decide | (simp; done) | (simp; omega) | (simp at *; omega))) ?_; rintro v G ⟨e_X', e_h1, e_h2, e_h3⟩; conv => whnf)
    | (refine DrawK.introH tab_ok mixed 186 f_quotaref18_Story_does.last32 f_quotaref18_Story_does.plan32 _ rfl (by kernel_rfl) (Sub.of (by first | exact Imp.refl _ | exact Imp.drop | exact Imp.fin | ((repeat (refine Imp.pick ?_)); first | exact Imp.refl _ | exact Imp.emp _ | exact Imp.fin))) ?_; conv => whnf)
    | (refine DrawK.introH tab_ok mixed 209 f_quotaref18_Story_does.last35 f_quotaref18_Story_does.plan35 _ rfl (by kernel_rfl) (Sub.of (by first | exact Imp.refl _ | exact Imp.drop | exact Imp.fin | ((repeat (refine Imp.pick ?_)); first | exact Imp.refl _ | exact Imp.emp _ | exact Imp.fin))) ?_; conv => whnf)
    | (refine DrawK.introH tab_ok mixed 225 f_quotaref18_Story_does.last38 f_quotaref18_Story_does.plan38 _ rfl (by kernel_rfl) (Sub.of (by first | exact Imp.refl _ | exact Imp.drop | exact Imp.fin | ((repeat (refine Imp.pick ?_)); first | exact Imp.refl _ | exact Imp.emp _ | exact Imp.fin))) ?_; conv => whnf)
    | fail)
  have hAl := addUp_len X.S o.o.nets
  obtain ⟨A, hA⟩ : ∃ A, A = addUp X.S o.o.nets := ⟨_, rfl⟩
  rw [← hA] at hAl
  obtain ⟨V2, hV2⟩ : ∃ V2, V2 = (X.V.set t { o with o := { o.o with last := (X.R.length : Int) + 1 } }).set t { o with o := { o.o with last := (X.R.length : Int) + 1, com := true } } := ⟨_, rfl⟩
  have hVt : V2[t]? = some { o with o := { o.o with last := (X.R.length : Int) + 1, com := true } } := by
    rw [hV2]; exact List.getElem?_set_self (by rw [List.length_set]; exact htl)
  obtain ⟨R2, hR2⟩ : ∃ R2, R2 = X.R ++ [{ rec1 5 o.o.tx o.o.last with lsn := (X.R.length : Int) + 1 }] := ⟨_, rfl⟩
  refine LoopK.at tab_ok (L := f_quotaref18_Story_does.live) (ι := Nat) (fun i => i ≤ X.L.length) (fun i => [(9, .int .i64 i)]) (fun i => storyo s (X.upd ra' rc' R2 V2 (A.take i ++ X.S.drop i))) (fun i => X.L.length - i) 0 (by simp) (fun t v h => h) (by
      rw [List.take_zero, List.nil_append, List.drop_zero, hV2, hR2]
      exact Imp.refl _) ?_
  intro i hi
  have hSl : (A.take i ++ X.S.drop i).length = X.L.length := by simp; omega
  have hUL : (X.upd ra' rc' R2 V2 (A.take i ++ X.S.drop i)).L.length = X.L.length := rfl
  conv => whnf
  by_cases h1 : i < X.L.length
  · obtain ⟨z, hz⟩ : ∃ z, X.S[i]? = some z := ⟨_, List.getElem?_eq_getElem (by omega)⟩
    obtain ⟨y, hy⟩ : ∃ y, o.o.nets[i]? = some y := ⟨_, List.getElem?_eq_getElem (by omega)⟩
    have hSi : (A.take i ++ X.S.drop i)[i]? = some z := by rw [get_take_drop hAl (by omega)]; exact hz
    have hAi : A[i]? = some (wr (z + y)) := by rw [hA]; exact addUp_get hz hy
    have hnx := set_take_drop hAl (by omega) hAi
    have h1s : i < (A.take i ++ X.S.drop i).length := by omega
    obtain ⟨Si, hSie⟩ : ∃ Si, Si = A.take i ++ X.S.drop i := ⟨_, rfl⟩
    rw [← hSie] at hSi hnx h1s hSl hUL ⊢
    haveI rn : ∀ Q : HProp, RowC W (storyo s (X.upd ra' rc' R2 V2 Si) • Q) o.na 1 ints o.o.nets := fun Q => RowC.storyN (X := X.upd ra' rc' R2 V2 Si) (t := t) (x := { o with o := { o.o with last := (X.R.length : Int) + 1, com := true } }) (h := ⟨hVt⟩)
    repeat' (first
      | (refine spl_f (by with_reducible exact ndec_self _) ?_; conv => whnf)
      | (refine spl_f (by with_reducible exact nbeq_self _) ?_; conv => whnf)
      | (refine spl_t (by with_reducible exact beq_self _) ?_; conv => whnf)
      | (refine spl_dec (fun hd => ?_) (fun hd => ?_) <;> first | (exfalso; omega) | (conv => whnf))
      | (refine spl_ndec (fun hd => ?_) (fun hd => ?_) <;> first | (exfalso; omega) | (conv => whnf))
      | (refine spl_intro (fun hd => ?_) (fun hd => ?_) <;> (conv => whnf))
      | (refine Ld.i ?_; conv => whnf)
      | (refine LdN.i ?_; conv => whnf)
      | (refine St.i ⟨rfl, rfl⟩ (List.cons_ne_nil _ _) ?_; conv => whnf)
      | (refine Ar.i64 (by omega) ?_; conv => whnf)
      | (refine Ar.u64 (by omega) ?_; conv => whnf)
      | (refine Ar.i64d (by omega) (by omega) ?_; conv => whnf)
      | (refine Shr.i (by rfl) (by decide) ?_; conv => whnf)
      | (refine Shl.i (by rfl) (by decide) ?_; conv => whnf)
      | (refine Req.mk (by omega) ?_; conv => whnf)
      | (intro blk hblk; conv => whnf)
      | (refine IxS.r (xs := Si) (i := i) rfl rfl h1s (fun ab off ha => ?_); have rs : ∀ Q : HProp, RowC W (storyo s (X.upd ra' rc' R2 V2 Si) • Q) (some ⟨ab, off, none⟩) 1 ints Si := fun Q => ha ▸ RowC.storyS (X := X.upd ra' rc' R2 V2 Si); conv => whnf)
      | (refine IxS.r (xs := o.o.nets) (i := i) rfl rfl (by omega) (fun ab off ha => ?_); have rv : ∀ Q : HProp, RowC W (storyo s (X.upd ra' rc' R2 V2 Si) • Q) (some ⟨ab, off, none⟩) 1 ints o.o.nets := fun Q => ha ▸ rn Q; conv => whnf)
      | (refine LdN.r hSi rfl ?_; conv => whnf)
      | (refine Ld.r hSi rfl ?_; conv => whnf)
      | (refine Ld.r0 hSi rfl ?_; conv => whnf)
      | (refine LdN.rp hSi ?_; conv => whnf)
      | (refine LdN.r hy rfl ?_; conv => whnf)
      | (refine Ld.r hy rfl ?_; conv => whnf)
      | (refine Ld.r0 hy rfl ?_; conv => whnf)
      | (refine LdN.rp hy ?_; conv => whnf)
      | (refine Ar.u64w ?_; conv => whnf)
      | (refine Ar.i64w ?_; conv => whnf)
      | (refine St.settled (by assumption) h1s ?_; conv => whnf)
      | (refine Sub.on (by first | exact Imp.refl _ | exact Imp.drop | exact Imp.fin | ((repeat (refine Imp.pick ?_)); first | exact Imp.refl _ | exact Imp.emp _ | exact Imp.fin)) ?_; conv => whnf)
      | (refine Sub.on (Imp.trans KeepC.h (by first | exact Imp.refl _ | exact Imp.drop | exact Imp.fin | ((repeat (refine Imp.pick ?_)); first | exact Imp.refl _ | exact Imp.emp _ | exact Imp.fin))) ?_; conv => whnf)
      | (refine CallK.ret f_quotaref18_brought.ok (tbrought_spec (by first | rfl | assumption | omega | decide | (simp; done) | (simp; omega) | (simp at *; omega))) ?_; rintro v G ⟨rfl, rfl⟩; conv => whnf)
      | (refine CallK.ret f_quotaref18_brought.ok (tbrought_spec (by first | rfl | assumption | omega | decide | (simp; done) | (simp; omega) | (simp at *; omega))) ?_; rintro v G ⟨e_z, hz0, hz1, rfl, rfl⟩; conv => whnf)
      | (refine CallK.ret f_quotaref18_Story_makes.ok (makes_spec (by first | rfl | assumption | omega | decide | (simp; done) | (simp; omega) | (simp at *; omega)) (by first | rfl | assumption | omega | decide | (simp; done) | (simp; omega) | (simp at *; omega))) ?_; rintro v G ⟨e_X', e_h1, rfl, rfl⟩; conv => whnf)
      | (refine CallK.ret f_quotaref18_Story_writes.ok (writes_spec (by first | rfl | assumption | omega | decide | (simp; done) | (simp; omega) | (simp at *; omega))) ?_; rintro v G ⟨e_ra', e_rc', rfl, rfl⟩; conv => whnf)
      | (refine CallK.ret f_quotaref18_Story_writes.ok (writes_spec (by first | rfl | assumption | omega | decide | (simp; done) | (simp; omega) | (simp at *; omega))) ?_; rintro v G ⟨e_ra', e_rc', rfl, rfl⟩; conv => whnf)
      | (refine DrawK.treeH tab_ok mixed 36 f_quotaref18_Story_does.tree8 _ rfl (by kernel_rfl) (Sub.of (by first | exact Imp.refl _ | exact Imp.drop | exact Imp.fin | ((repeat (refine Imp.pick ?_)); first | exact Imp.refl _ | exact Imp.emp _ | exact Imp.fin))) ?_; conv => whnf)
      | (refine And.intro ?_ ?_ <;> conv => whnf)
      | (refine DrawK.introH tab_ok mixed 66 f_quotaref18_Story_does.last13 f_quotaref18_Story_does.plan13 _ rfl (by kernel_rfl) (Sub.of (by first | exact Imp.refl _ | exact Imp.drop | exact Imp.fin | ((repeat (refine Imp.pick ?_)); first | exact Imp.refl _ | exact Imp.emp _ | exact Imp.fin))) ?_; conv => whnf)
      | (refine CallK.ret f_quotaref18_Story_leaves.ok (leaves_spec (by first | rfl | assumption | omega | decide | (simp; done) | (simp; omega) | (simp at *; omega)) (by first | rfl | assumption | omega | decide | (simp; done) | (simp; omega) | (simp at *; omega))) ?_; rintro v G ⟨e_X', e_h1, rfl, rfl⟩; conv => whnf)
      | (refine CallK.ret f_quotaref18_Story_leaves.ok (leaves_spec (by first | rfl | assumption | omega | decide | (simp; done) | (simp; omega) | (simp at *; omega)) (by first | rfl | assumption | omega | decide | (simp; done) | (simp; omega) | (simp at *; omega))) ?_; rintro v G ⟨e_va', e_vc', rfl, rfl⟩; conv => whnf)
      | (refine DrawK.introH tab_ok mixed 97 f_quotaref18_Story_does.last19 f_quotaref18_Story_does.plan19 _ rfl (by kernel_rfl) (Sub.of (by first | exact Imp.refl _ | exact Imp.drop | exact Imp.fin | ((repeat (refine Imp.pick ?_)); first | exact Imp.refl _ | exact Imp.emp _ | exact Imp.fin))) ?_; conv => whnf)
      | (refine DrawK.introH tab_ok mixed 127 f_quotaref18_Story_does.last24 f_quotaref18_Story_does.plan24 _ rfl (by kernel_rfl) (Sub.of (by first | exact Imp.refl _ | exact Imp.drop | exact Imp.fin | ((repeat (refine Imp.pick ?_)); first | exact Imp.refl _ | exact Imp.emp _ | exact Imp.fin))) ?_; conv => whnf)
      | (refine DrawK.introH tab_ok mixed 149 f_quotaref18_Story_does.last26 f_quotaref18_Story_does.plan26 _ rfl (by kernel_rfl) (Sub.of (by first | exact Imp.refl _ | exact Imp.drop | exact Imp.fin | ((repeat (refine Imp.pick ?_)); first | exact Imp.refl _ | exact Imp.emp _ | exact Imp.fin))) ?_; conv => whnf)
      | (refine CallK.ret f_quotaref18_Story_change.ok (change_spec (by first | rfl | assumption | omega | decide | (simp; done) | (simp; omega) | (simp at *; omega)) (by first | rfl | assumption | omega | decide | (simp; done) | (simp; omega) | (simp at *; omega)) (by first | rfl | assumption | omega | decide | (simp; done) | (simp; omega) | (simp at *; omega))) ?_; rintro v G ⟨e_X', e_h1, e_h2, e_h3⟩; conv => whnf)
      | (refine DrawK.introH tab_ok mixed 186 f_quotaref18_Story_does.last32 f_quotaref18_Story_does.plan32 _ rfl (by kernel_rfl) (Sub.of (by first | exact Imp.refl _ | exact Imp.drop | exact Imp.fin | ((repeat (refine Imp.pick ?_)); first | exact Imp.refl _ | exact Imp.emp _ | exact Imp.fin))) ?_; conv => whnf)
      | (refine DrawK.introH tab_ok mixed 209 f_quotaref18_Story_does.last35 f_quotaref18_Story_does.plan35 _ rfl (by kernel_rfl) (Sub.of (by first | exact Imp.refl _ | exact Imp.drop | exact Imp.fin | ((repeat (refine Imp.pick ?_)); first | exact Imp.refl _ | exact Imp.emp _ | exact Imp.fin))) ?_; conv => whnf)
      | (refine DrawK.introH tab_ok mixed 225 f_quotaref18_Story_does.last38 f_quotaref18_Story_does.plan38 _ rfl (by kernel_rfl) (Sub.of (by first | exact Imp.refl _ | exact Imp.drop | exact Imp.fin | ((repeat (refine Imp.pick ?_)); first | exact Imp.refl _ | exact Imp.emp _ | exact Imp.fin))) ?_; conv => whnf)
      | fail)
    refine ⟨i + 1, h1, fun t v h => h, ?_, by omega⟩
    rw [← hnx]
    exact Imp.refl _
  · have hie : i = X.L.length := by omega
    repeat' (first
      | (refine spl_f (by with_reducible exact ndec_self _) ?_; conv => whnf)
      | (refine spl_f (by with_reducible exact nbeq_self _) ?_; conv => whnf)
      | (refine spl_t (by with_reducible exact beq_self _) ?_; conv => whnf)
      | (refine spl_dec (fun hd => ?_) (fun hd => ?_) <;> first | (exfalso; omega) | (conv => whnf))
      | (refine spl_ndec (fun hd => ?_) (fun hd => ?_) <;> first | (exfalso; omega) | (conv => whnf))
      | (refine spl_intro (fun hd => ?_) (fun hd => ?_) <;> (conv => whnf))
      | (refine Ld.i ?_; conv => whnf)
      | (refine LdN.i ?_; conv => whnf)
      | (refine St.i ⟨rfl, rfl⟩ (List.cons_ne_nil _ _) ?_; conv => whnf)
      | (refine Ar.i64 (by omega) ?_; conv => whnf)
      | (refine Ar.u64 (by omega) ?_; conv => whnf)
      | (refine Ar.i64d (by omega) (by omega) ?_; conv => whnf)
      | (refine Shr.i (by rfl) (by decide) ?_; conv => whnf)
      | (refine Shl.i (by rfl) (by decide) ?_; conv => whnf)
      | (refine Req.mk (by omega) ?_; conv => whnf)
      | (intro blk hblk; conv => whnf)
      | (refine Sub.on (by first | exact Imp.refl _ | exact Imp.drop | exact Imp.fin | ((repeat (refine Imp.pick ?_)); first | exact Imp.refl _ | exact Imp.emp _ | exact Imp.fin)) ?_; conv => whnf)
      | (refine Sub.on (Imp.trans KeepC.h (by first | exact Imp.refl _ | exact Imp.drop | exact Imp.fin | ((repeat (refine Imp.pick ?_)); first | exact Imp.refl _ | exact Imp.emp _ | exact Imp.fin))) ?_; conv => whnf)
      | (refine CallK.ret f_quotaref18_brought.ok (tbrought_spec (by first | rfl | assumption | omega | decide | (simp; done) | (simp; omega) | (simp at *; omega))) ?_; rintro v G ⟨rfl, rfl⟩; conv => whnf)
      | (refine CallK.ret f_quotaref18_brought.ok (tbrought_spec (by first | rfl | assumption | omega | decide | (simp; done) | (simp; omega) | (simp at *; omega))) ?_; rintro v G ⟨e_z, hz0, hz1, rfl, rfl⟩; conv => whnf)
      | (refine CallK.ret f_quotaref18_Story_makes.ok (makes_spec (by first | rfl | assumption | omega | decide | (simp; done) | (simp; omega) | (simp at *; omega)) (by first | rfl | assumption | omega | decide | (simp; done) | (simp; omega) | (simp at *; omega))) ?_; rintro v G ⟨e_X', e_h1, rfl, rfl⟩; conv => whnf)
      | (refine CallK.ret f_quotaref18_Story_writes.ok (writes_spec (by first | rfl | assumption | omega | decide | (simp; done) | (simp; omega) | (simp at *; omega))) ?_; rintro v G ⟨e_ra', e_rc', rfl, rfl⟩; conv => whnf)
      | (refine CallK.ret f_quotaref18_Story_writes.ok (writes_spec (by first | rfl | assumption | omega | decide | (simp; done) | (simp; omega) | (simp at *; omega))) ?_; rintro v G ⟨e_ra', e_rc', rfl, rfl⟩; conv => whnf)
      | (refine DrawK.treeH tab_ok mixed 36 f_quotaref18_Story_does.tree8 _ rfl (by kernel_rfl) (Sub.of (by first | exact Imp.refl _ | exact Imp.drop | exact Imp.fin | ((repeat (refine Imp.pick ?_)); first | exact Imp.refl _ | exact Imp.emp _ | exact Imp.fin))) ?_; conv => whnf)
      | (refine And.intro ?_ ?_ <;> conv => whnf)
      | (refine DrawK.introH tab_ok mixed 66 f_quotaref18_Story_does.last13 f_quotaref18_Story_does.plan13 _ rfl (by kernel_rfl) (Sub.of (by first | exact Imp.refl _ | exact Imp.drop | exact Imp.fin | ((repeat (refine Imp.pick ?_)); first | exact Imp.refl _ | exact Imp.emp _ | exact Imp.fin))) ?_; conv => whnf)
      | (refine CallK.ret f_quotaref18_Story_leaves.ok (leaves_spec (by first | rfl | assumption | omega | decide | (simp; done) | (simp; omega) | (simp at *; omega)) (by first | rfl | assumption | omega | decide | (simp; done) | (simp; omega) | (simp at *; omega))) ?_; rintro v G ⟨e_X', e_h1, rfl, rfl⟩; conv => whnf)
      | (refine CallK.ret f_quotaref18_Story_leaves.ok (leaves_spec (by first | rfl | assumption | omega | decide | (simp; done) | (simp; omega) | (simp at *; omega)) (by first | rfl | assumption | omega | decide | (simp; done) | (simp; omega) | (simp at *; omega))) ?_; rintro v G ⟨e_va', e_vc', rfl, rfl⟩; conv => whnf)
      | (refine DrawK.introH tab_ok mixed 97 f_quotaref18_Story_does.last19 f_quotaref18_Story_does.plan19 _ rfl (by kernel_rfl) (Sub.of (by first | exact Imp.refl _ | exact Imp.drop | exact Imp.fin | ((repeat (refine Imp.pick ?_)); first | exact Imp.refl _ | exact Imp.emp _ | exact Imp.fin))) ?_; conv => whnf)
      | (refine DrawK.introH tab_ok mixed 127 f_quotaref18_Story_does.last24 f_quotaref18_Story_does.plan24 _ rfl (by kernel_rfl) (Sub.of (by first | exact Imp.refl _ | exact Imp.drop | exact Imp.fin | ((repeat (refine Imp.pick ?_)); first | exact Imp.refl _ | exact Imp.emp _ | exact Imp.fin))) ?_; conv => whnf)
      | (refine DrawK.introH tab_ok mixed 149 f_quotaref18_Story_does.last26 f_quotaref18_Story_does.plan26 _ rfl (by kernel_rfl) (Sub.of (by first | exact Imp.refl _ | exact Imp.drop | exact Imp.fin | ((repeat (refine Imp.pick ?_)); first | exact Imp.refl _ | exact Imp.emp _ | exact Imp.fin))) ?_; conv => whnf)
      | (refine CallK.ret f_quotaref18_Story_change.ok (change_spec (by first | rfl | assumption | omega | decide | (simp; done) | (simp; omega) | (simp at *; omega)) (by first | rfl | assumption | omega | decide | (simp; done) | (simp; omega) | (simp at *; omega)) (by first | rfl | assumption | omega | decide | (simp; done) | (simp; omega) | (simp at *; omega))) ?_; rintro v G ⟨e_X', e_h1, e_h2, e_h3⟩; conv => whnf)
      | (refine DrawK.introH tab_ok mixed 186 f_quotaref18_Story_does.last32 f_quotaref18_Story_does.plan32 _ rfl (by kernel_rfl) (Sub.of (by first | exact Imp.refl _ | exact Imp.drop | exact Imp.fin | ((repeat (refine Imp.pick ?_)); first | exact Imp.refl _ | exact Imp.emp _ | exact Imp.fin))) ?_; conv => whnf)
      | (refine DrawK.introH tab_ok mixed 209 f_quotaref18_Story_does.last35 f_quotaref18_Story_does.plan35 _ rfl (by kernel_rfl) (Sub.of (by first | exact Imp.refl _ | exact Imp.drop | exact Imp.fin | ((repeat (refine Imp.pick ?_)); first | exact Imp.refl _ | exact Imp.emp _ | exact Imp.fin))) ?_; conv => whnf)
      | (refine DrawK.introH tab_ok mixed 225 f_quotaref18_Story_does.last38 f_quotaref18_Story_does.plan38 _ rfl (by kernel_rfl) (Sub.of (by first | exact Imp.refl _ | exact Imp.drop | exact Imp.fin | ((repeat (refine Imp.pick ?_)); first | exact Imp.refl _ | exact Imp.emp _ | exact Imp.fin))) ?_; conv => whnf)
      | fail)
    refine ⟨_, _, rfl, ?_, X.upd ra' rc' R2 V2 (A.take i ++ X.S.drop i), _, ?_, rfl, rfl⟩
    · first | exact Imp.refl _ | exact Imp.drop | exact Imp.fin | ((repeat (refine Imp.pick ?_)); first | exact Imp.refl _ | exact Imp.emp _ | exact Imp.fin)
    · have e1 : (x.a % (X.val.V.length : Int)).toNat = t := by rw [val_len, ← ht]; rfl
      have e2 : A.take i ++ X.S.drop i = A := by
        rw [List.take_of_length_le (by omega), List.drop_eq_nil_of_le (by omega), List.append_nil]
      unfold Story.does
      dsimp only
      rw [if_neg (by omega), if_neg (by omega), if_neg (by rw [val_len]; omega), e1, val_get ho, e2]
      dsimp only
      rw [if_neg (by rw [hc]; decide), if_pos hk, hV2, hR2, hA]
      simp [StoryX.val, StoryX.upd, Story.commits, Story.writes, List.map_set]
end Go.Proofs.YtacpnjlijjgbmaaGreatDoor
