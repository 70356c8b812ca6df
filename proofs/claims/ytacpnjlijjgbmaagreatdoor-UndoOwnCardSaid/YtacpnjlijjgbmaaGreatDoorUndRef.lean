/- The document's Left, walked. Conditions: in each statement. -/
import Derived.Test.YtacpnjlijjgbmaaGreatDoorUndLeft
namespace Go.Proofs.YtacpnjlijjgbmaaGreatDoor
open Go Go.SL Go.SL.Und
theorem rat_spec {W : World} {R : HProp} {a : Option Addr} {n cap : Nat} {xs : List RecV} {id : Int} [c : RowC W R a 17 recv xs] (hn : n = xs.length) (hb : xs.length ≤ 9223372036854775806) :
    Does prog W f_quotaref19_at ⟨[.slice a n cap, .int .i64 id]⟩ R (Ret fun v G => v = .int .i64 (atI id xs) ∧ G = R) := by
  subst hn
  refine f_quotaref19_at.does _ _ ?_
  conv => whnf
  repeat' (first
    | (refine spl_f (by with_reducible exact ndec_self _) ?_; conv => whnf)
    | (refine spl_f (by with_reducible exact nbeq_self _) ?_; conv => whnf)
    | (refine spl_t (by with_reducible exact beq_self _) ?_; conv => whnf)
    | (refine spl_dec (fun hd => ?_) (fun hd => ?_) <;> first | (exfalso; omega) | (conv => whnf))
    | (refine spl_ndec (fun hd => ?_) (fun hd => ?_) <;> first | (exfalso; omega) | (conv => whnf))
    | (refine spl_intro (fun hd => ?_) (fun hd => ?_) <;> (conv => whnf))
    | (refine Ld.i ?_; conv => whnf)
    | (refine LdN.i ?_; conv => whnf)
    | (refine St.i ⟨rfl, rfl⟩ (List.cons_ne_nil _ _) ?_; conv => whnf)
    | (refine Ar.i64 (by omega) ?_; conv => whnf)
    | (refine Ar.u64 (by omega) ?_; conv => whnf)
    | (refine Ar.i64d (by omega) (by omega) ?_; conv => whnf)
    | (refine Shr.i (by rfl) (by decide) ?_; conv => whnf)
    | (refine Shl.i (by rfl) (by decide) ?_; conv => whnf)
    | (refine Req.mk (by omega) ?_; conv => whnf)
    | (intro blk hblk; conv => whnf)
    | fail)
  refine LoopK.keep tab_ok (L := f_quotaref19_at.live) (ι := Nat) (fun i => i ≤ xs.length ∧ ∀ (j : Nat) y, j < i → xs[j]? = some y → y.id ≠ id) (fun i => [(5, .int .i64 i)]) (fun i => xs.length - i) 0 ⟨by simp, fun j y h => by omega⟩ (fun t v h => h) ?_
  rintro i ⟨hi, hm⟩
  conv => whnf
  by_cases h1 : i < xs.length
  · obtain ⟨x, hx⟩ : ∃ x, xs[i]? = some x := ⟨_, List.getElem?_eq_getElem h1⟩
    repeat' (first
      | (refine spl_f (by with_reducible exact ndec_self _) ?_; conv => whnf)
      | (refine spl_f (by with_reducible exact nbeq_self _) ?_; conv => whnf)
      | (refine spl_t (by with_reducible exact beq_self _) ?_; conv => whnf)
      | (refine spl_dec (fun hd => ?_) (fun hd => ?_) <;> first | (exfalso; omega) | (conv => whnf))
      | (refine spl_ndec (fun hd => ?_) (fun hd => ?_) <;> first | (exfalso; omega) | (conv => whnf))
      | (refine spl_intro (fun hd => ?_) (fun hd => ?_) <;> (conv => whnf))
      | (refine Ld.i ?_; conv => whnf)
      | (refine LdN.i ?_; conv => whnf)
      | (refine St.i ⟨rfl, rfl⟩ (List.cons_ne_nil _ _) ?_; conv => whnf)
      | (refine Ar.i64 (by omega) ?_; conv => whnf)
      | (refine Ar.u64 (by omega) ?_; conv => whnf)
      | (refine Ar.i64d (by omega) (by omega) ?_; conv => whnf)
      | (refine Shr.i (by rfl) (by decide) ?_; conv => whnf)
      | (refine Shl.i (by rfl) (by decide) ?_; conv => whnf)
      | (refine Req.mk (by omega) ?_; conv => whnf)
      | (intro blk hblk; conv => whnf)
      | (refine IxS.r (i := i) rfl rfl h1 (fun ab off ha => ?_); cases ha; conv => whnf)
      | (refine LdN.r hx rfl ?_; conv => whnf)
      | (refine Ld.r hx rfl ?_; conv => whnf)
      | (refine Ld.r0 hx rfl ?_; conv => whnf)
      | (refine LdN.rp hx ?_; conv => whnf)
      | fail)
    · refine Ret.eq (congrArg (Value.int .i64) (atI_first id xs i x hx (by assumption) hm).symm) ?_
      first | exact Imp.refl _ | exact Imp.drop | exact Imp.fin | ((repeat (refine Imp.pick ?_)); first | exact Imp.refl _ | exact Imp.emp _ | exact Imp.fin)
    · refine ⟨rfl, i + 1, ⟨h1, fun j y hj hy => ?_⟩, fun t v h => h, Imp.refl _, by omega⟩
      by_cases e : j = i
      · subst e; rw [hx] at hy; cases hy; assumption
      · exact hm j y (by omega) hy
  · repeat' (first
      | (refine spl_f (by with_reducible exact ndec_self _) ?_; conv => whnf)
      | (refine spl_f (by with_reducible exact nbeq_self _) ?_; conv => whnf)
      | (refine spl_t (by with_reducible exact beq_self _) ?_; conv => whnf)
      | (refine spl_dec (fun hd => ?_) (fun hd => ?_) <;> first | (exfalso; omega) | (conv => whnf))
      | (refine spl_ndec (fun hd => ?_) (fun hd => ?_) <;> first | (exfalso; omega) | (conv => whnf))
      | (refine spl_intro (fun hd => ?_) (fun hd => ?_) <;> (conv => whnf))
      | (refine Ld.i ?_; conv => whnf)
      | (refine LdN.i ?_; conv => whnf)
      | (refine St.i ⟨rfl, rfl⟩ (List.cons_ne_nil _ _) ?_; conv => whnf)
      | (refine Ar.i64 (by omega) ?_; conv => whnf)
      | (refine Ar.u64 (by omega) ?_; conv => whnf)
      | (refine Ar.i64d (by omega) (by omega) ?_; conv => whnf)
      | (refine Shr.i (by rfl) (by decide) ?_; conv => whnf)
      | (refine Shl.i (by rfl) (by decide) ?_; conv => whnf)
      | (refine Req.mk (by omega) ?_; conv => whnf)
      | (intro blk hblk; conv => whnf)
      | fail)
    refine Ret.eq (congrArg (Value.int .i64) (atI_none id xs fun j y hy => hm j y ?_ hy).symm) ?_
    · have := (List.getElem?_eq_some_iff.1 hy).1; omega
    · first | exact Imp.refl _ | exact Imp.drop | exact Imp.fin | ((repeat (refine Imp.pick ?_)); first | exact Imp.refl _ | exact Imp.emp _ | exact Imp.fin)
theorem rising_spec {W : World} {H R : HProp} {a : Option Addr} {n cap : Nat} {m : List (Int × RecV)} [t : TkC H (vec t_api_Record 17 recv a cap (recs m)) R] (hn : n = (recs m).length) (hk : KeyOk m) (hb : 336 * ((recs m).length + 1) ≤ 281474976710656) :
    Does prog W f_quotaref19_rising ⟨[.slice a n cap]⟩ H (Ret fun v G => ∃ a' cap', v = .slice a' (outR m).length cap' ∧ G = (vec t_api_Record 17 recv a' cap' (outR m) • R)) := by
  subst hn
  refine Does.imp (by rw [t.h.eq]; exact Imp.refl _) ?_
  refine f_quotaref19_rising.does _ ?_
  conv => whnf
  repeat' (first
    | (refine spl_f (by with_reducible exact ndec_self _) ?_; conv => whnf)
    | (refine spl_f (by with_reducible exact nbeq_self _) ?_; conv => whnf)
    | (refine spl_t (by with_reducible exact beq_self _) ?_; conv => whnf)
    | (refine spl_dec (fun hd => ?_) (fun hd => ?_) <;> first | (exfalso; omega) | (conv => whnf))
    | (refine spl_ndec (fun hd => ?_) (fun hd => ?_) <;> first | (exfalso; omega) | (conv => whnf))
    | (refine spl_intro (fun hd => ?_) (fun hd => ?_) <;> (conv => whnf))
    | (refine Ld.i ?_; conv => whnf)
    | (refine LdN.i ?_; conv => whnf)
    | (refine St.i ⟨rfl, rfl⟩ (List.cons_ne_nil _ _) ?_; conv => whnf)
    | (refine Ar.i64 (by omega) ?_; conv => whnf)
    | (refine Ar.u64 (by omega) ?_; conv => whnf)
    | (refine Ar.i64d (by omega) (by omega) ?_; conv => whnf)
    | (refine Shr.i (by rfl) (by decide) ?_; conv => whnf)
    | (refine Shl.i (by rfl) (by decide) ?_; conv => whnf)
    | (refine Req.mk (by omega) ?_; conv => whnf)
    | (intro blk hblk; conv => whnf)
    | fail)
  refine LoopK.at tab_ok (L := f_quotaref19_rising.live) (ι := (List RecV × Option Addr × Nat) × (List RecV × Option Addr × Nat)) (fun i => Rise (recs m) i.1.1 i.2.1)
    (fun i => [(3, .slice i.1.2.1 i.1.1.length i.1.2.2), (0, .slice i.2.2.1 i.2.1.length i.2.2.2)]) (fun i => vec t_api_Record 17 recv i.1.2.1 i.1.2.2 i.1.1 • vec t_api_Record 17 recv i.2.2.1 i.2.2.2 i.2.1) (fun i => i.2.1.length) (([], none, 0), (recs m, a, cap)) (Rise.start hk) (fun t v h => h)
    (Imp.assoc (Imp.vnil (Imp.refl _))) ?_
  rintro ⟨⟨out, oa, oc⟩, L, la, lc⟩ hR
  dsimp only at hR ⊢
  have hlen : out.length + L.length = (recs m).length := by
    have := hR.perm.length_eq
    rwa [List.length_append] at this
  simp only [star_assoc]
  conv => whnf
  by_cases h0 : L.length = 0
  · have : L = [] := List.eq_nil_of_length_eq_zero h0
    subst this
    repeat' (first
      | (refine spl_f (by with_reducible exact ndec_self _) ?_; conv => whnf)
      | (refine spl_f (by with_reducible exact nbeq_self _) ?_; conv => whnf)
      | (refine spl_t (by with_reducible exact beq_self _) ?_; conv => whnf)
      | (refine spl_dec (fun hd => ?_) (fun hd => ?_) <;> first | (exfalso; omega) | (conv => whnf))
      | (refine spl_ndec (fun hd => ?_) (fun hd => ?_) <;> first | (exfalso; omega) | (conv => whnf))
      | (refine spl_intro (fun hd => ?_) (fun hd => ?_) <;> (conv => whnf))
      | (refine Ld.i ?_; conv => whnf)
      | (refine LdN.i ?_; conv => whnf)
      | (refine St.i ⟨rfl, rfl⟩ (List.cons_ne_nil _ _) ?_; conv => whnf)
      | (refine Ar.i64 (by omega) ?_; conv => whnf)
      | (refine Ar.u64 (by omega) ?_; conv => whnf)
      | (refine Ar.i64d (by omega) (by omega) ?_; conv => whnf)
      | (refine Shr.i (by rfl) (by decide) ?_; conv => whnf)
      | (refine Shl.i (by rfl) (by decide) ?_; conv => whnf)
      | (refine Req.mk (by omega) ?_; conv => whnf)
      | (intro blk hblk; conv => whnf)
      | fail)
    have e := hR.done hk
    subst e
    refine ⟨_, _, rfl, ?_, oa, oc, rfl, rfl⟩
    first | exact Imp.refl _ | exact Imp.drop | exact Imp.fin | ((repeat (refine Imp.pick ?_)); first | exact Imp.refl _ | exact Imp.emp _ | exact Imp.fin)
  repeat' (first
    | (refine spl_f (by with_reducible exact ndec_self _) ?_; conv => whnf)
    | (refine spl_f (by with_reducible exact nbeq_self _) ?_; conv => whnf)
    | (refine spl_t (by with_reducible exact beq_self _) ?_; conv => whnf)
    | (refine spl_dec (fun hd => ?_) (fun hd => ?_) <;> first | (exfalso; omega) | (conv => whnf))
    | (refine spl_ndec (fun hd => ?_) (fun hd => ?_) <;> first | (exfalso; omega) | (conv => whnf))
    | (refine spl_intro (fun hd => ?_) (fun hd => ?_) <;> (conv => whnf))
    | (refine Ld.i ?_; conv => whnf)
    | (refine LdN.i ?_; conv => whnf)
    | (refine St.i ⟨rfl, rfl⟩ (List.cons_ne_nil _ _) ?_; conv => whnf)
    | (refine Ar.i64 (by omega) ?_; conv => whnf)
    | (refine Ar.u64 (by omega) ?_; conv => whnf)
    | (refine Ar.i64d (by omega) (by omega) ?_; conv => whnf)
    | (refine Shr.i (by rfl) (by decide) ?_; conv => whnf)
    | (refine Shl.i (by rfl) (by decide) ?_; conv => whnf)
    | (refine Req.mk (by omega) ?_; conv => whnf)
    | (intro blk hblk; conv => whnf)
    | fail)
  refine LoopK.keep tab_ok (L := f_quotaref19_rising.live) (ι := Nat × Nat) (fun i => i.1 ≤ L.length ∧ i.2 < L.length ∧ ∀ (j : Nat) x y, j < i.1 → L[i.2]? = some x → L[j]? = some y → x.id ≤ y.id) (fun i => [(5, .int .i64 i.1), (4, .int .i64 i.2)]) (fun i => L.length - i.1) (0, 0) ⟨by simp, by dsimp only; omega, fun j x y h => by simp at h⟩ (fun t v h => h) ?_
  rintro ⟨i, k⟩ ⟨hi, hk2, hm⟩
  dsimp only at hi hk2 hm ⊢
  obtain ⟨x, hx⟩ : ∃ x, L[k]? = some x := ⟨_, List.getElem?_eq_getElem hk2⟩
  conv => whnf
  by_cases h1 : i < L.length
  · obtain ⟨y, hy⟩ : ∃ y, L[i]? = some y := ⟨_, List.getElem?_eq_getElem h1⟩
    repeat' (first
      | (refine spl_f (by with_reducible exact ndec_self _) ?_; conv => whnf)
      | (refine spl_f (by with_reducible exact nbeq_self _) ?_; conv => whnf)
      | (refine spl_t (by with_reducible exact beq_self _) ?_; conv => whnf)
      | (refine spl_dec (fun hd => ?_) (fun hd => ?_) <;> first | (exfalso; omega) | (conv => whnf))
      | (refine spl_ndec (fun hd => ?_) (fun hd => ?_) <;> first | (exfalso; omega) | (conv => whnf))
      | (refine spl_intro (fun hd => ?_) (fun hd => ?_) <;> (conv => whnf))
      | (refine Ld.i ?_; conv => whnf)
      | (refine LdN.i ?_; conv => whnf)
      | (refine St.i ⟨rfl, rfl⟩ (List.cons_ne_nil _ _) ?_; conv => whnf)
      | (refine Ar.i64 (by omega) ?_; conv => whnf)
      | (refine Ar.u64 (by omega) ?_; conv => whnf)
      | (refine Ar.i64d (by omega) (by omega) ?_; conv => whnf)
      | (refine Shr.i (by rfl) (by decide) ?_; conv => whnf)
      | (refine Shl.i (by rfl) (by decide) ?_; conv => whnf)
      | (refine Req.mk (by omega) ?_; conv => whnf)
      | (intro blk hblk; conv => whnf)
      | (refine IxS.r (a := la) (i := i) rfl rfl h1 (fun ab off ha => ?_); subst ha; conv => whnf)
      | (refine IxS.r (i := k) rfl rfl hk2 (fun ab off ha => ?_); cases ha; conv => whnf)
      | (refine LdN.r hy rfl ?_; conv => whnf)
      | (refine Ld.r hy rfl ?_; conv => whnf)
      | (refine Ld.r0 hy rfl ?_; conv => whnf)
      | (refine LdN.rp hy ?_; conv => whnf)
      | (refine LdN.r hx rfl ?_; conv => whnf)
      | (refine Ld.r hx rfl ?_; conv => whnf)
      | (refine Ld.r0 hx rfl ?_; conv => whnf)
      | (refine LdN.rp hx ?_; conv => whnf)
      | (refine DrawK.intro tab_ok mixed f_quotaref19_rising.last7 f_quotaref19_rising.plan7 _ (by kernel_rfl) (Sub.of (by first | exact Imp.refl _ | exact Imp.drop | exact Imp.fin | ((repeat (refine Imp.pick ?_)); first | exact Imp.refl _ | exact Imp.emp _ | exact Imp.fin))) ?_; conv => whnf)
      | (refine Sub.on (by first | exact Imp.refl _ | exact Imp.drop | exact Imp.fin | ((repeat (refine Imp.pick ?_)); first | exact Imp.refl _ | exact Imp.emp _ | exact Imp.fin)) ?_; conv => whnf)
      | (refine Sub.on (Imp.trans KeepC.h (by first | exact Imp.refl _ | exact Imp.drop | exact Imp.fin | ((repeat (refine Imp.pick ?_)); first | exact Imp.refl _ | exact Imp.emp _ | exact Imp.fin))) ?_; conv => whnf)
      | fail)
    · refine ⟨rfl, (i + 1, i), ⟨h1, h1, fun j x' y' hj hx' hy' => ?_⟩, fun t v h => h, ?_, by dsimp only; omega⟩
      · dsimp only at hj hx'
        rw [hy] at hx'
        cases hx'
        by_cases e : j = i
        · subst e; rw [hy] at hy'; cases hy'; exact Int.le_refl _
        · have := hm j x y' (by omega) hx hy'; omega
      · first | exact Imp.refl _ | exact Imp.drop | exact Imp.fin | ((repeat (refine Imp.pick ?_)); first | exact Imp.refl _ | exact Imp.emp _ | exact Imp.fin)
    · refine ⟨rfl, (i + 1, k), ⟨h1, hk2, fun j x' y' hj hx' hy' => ?_⟩, fun t v h => h, ?_, by dsimp only; omega⟩
      · dsimp only at hj hx'
        rw [hx] at hx'
        cases hx'
        by_cases e : j = i
        · subst e; rw [hy] at hy'; cases hy'; omega
        · exact hm j x y' (by omega) hx hy'
      · first | exact Imp.refl _ | exact Imp.drop | exact Imp.fin | ((repeat (refine Imp.pick ?_)); first | exact Imp.refl _ | exact Imp.emp _ | exact Imp.fin)
  · have hmin : ∀ (j : Nat) y, L[j]? = some y → x.id ≤ y.id := fun j y hy => by
      have := (List.getElem?_eq_some_iff.1 hy).1
      exact hm j x y (by omega) hx hy
    have hst := hR.step hx hmin
    have hl2 : k + (L.length - (k + 1)) = (L.take k ++ L.drop (k + 1)).length := by simp; omega
    repeat' (first
      | (refine spl_f (by with_reducible exact ndec_self _) ?_; conv => whnf)
      | (refine spl_f (by with_reducible exact nbeq_self _) ?_; conv => whnf)
      | (refine spl_t (by with_reducible exact beq_self _) ?_; conv => whnf)
      | (refine spl_dec (fun hd => ?_) (fun hd => ?_) <;> first | (exfalso; omega) | (conv => whnf))
      | (refine spl_ndec (fun hd => ?_) (fun hd => ?_) <;> first | (exfalso; omega) | (conv => whnf))
      | (refine spl_intro (fun hd => ?_) (fun hd => ?_) <;> (conv => whnf))
      | (refine Ld.i ?_; conv => whnf)
      | (refine LdN.i ?_; conv => whnf)
      | (refine St.i ⟨rfl, rfl⟩ (List.cons_ne_nil _ _) ?_; conv => whnf)
      | (refine Ar.i64 (by omega) ?_; conv => whnf)
      | (refine Ar.u64 (by omega) ?_; conv => whnf)
      | (refine Ar.i64d (by omega) (by omega) ?_; conv => whnf)
      | (refine Shr.i (by rfl) (by decide) ?_; conv => whnf)
      | (refine Shl.i (by rfl) (by decide) ?_; conv => whnf)
      | (refine Req.mk (by omega) ?_; conv => whnf)
      | (intro blk hblk; conv => whnf)
      | (refine IxS.r (a := la) (i := k) rfl rfl hk2 (fun ab off ha => ?_); cases ha; conv => whnf)
      | (refine LdN.r hx rfl ?_; conv => whnf)
      | (refine Ld.r hx rfl ?_; conv => whnf)
      | (refine Ld.r0 hx rfl ?_; conv => whnf)
      | (refine LdN.rp hx ?_; conv => whnf)
      | fail)
    refine OpX.app1 tab_ok rfl rfl rfl rfl x rfl rfl (by omega) ⟨rfl, rec_one⟩ (fun oa' oc' => ?_)
    conv => whnf
    repeat' (first
      | (refine spl_f (by with_reducible exact ndec_self _) ?_; conv => whnf)
      | (refine spl_f (by with_reducible exact nbeq_self _) ?_; conv => whnf)
      | (refine spl_t (by with_reducible exact beq_self _) ?_; conv => whnf)
      | (refine spl_dec (fun hd => ?_) (fun hd => ?_) <;> first | (exfalso; omega) | (conv => whnf))
      | (refine spl_ndec (fun hd => ?_) (fun hd => ?_) <;> first | (exfalso; omega) | (conv => whnf))
      | (refine spl_intro (fun hd => ?_) (fun hd => ?_) <;> (conv => whnf))
      | (refine Ld.i ?_; conv => whnf)
      | (refine LdN.i ?_; conv => whnf)
      | (refine St.i ⟨rfl, rfl⟩ (List.cons_ne_nil _ _) ?_; conv => whnf)
      | (refine Ar.i64 (by omega) ?_; conv => whnf)
      | (refine Ar.u64 (by omega) ?_; conv => whnf)
      | (refine Ar.i64d (by omega) (by omega) ?_; conv => whnf)
      | (refine Shr.i (by rfl) (by decide) ?_; conv => whnf)
      | (refine Shl.i (by rfl) (by decide) ?_; conv => whnf)
      | (refine Req.mk (by omega) ?_; conv => whnf)
      | (intro blk hblk; conv => whnf)
      | (refine OpX.of_quiet (OpQ.slv tab_ok rfl rfl rfl rfl (by omega) ?_); conv => whnf)
      | fail)
    refine OpX.appNt (ys := L) tab_ok k rfl rfl rfl rfl (by omega) (by omega) (by omega) ⟨rfl, rec_one⟩ (fun ra rc => ?_)
    conv => whnf
    repeat' (first
      | (refine spl_f (by with_reducible exact ndec_self _) ?_; conv => whnf)
      | (refine spl_f (by with_reducible exact nbeq_self _) ?_; conv => whnf)
      | (refine spl_t (by with_reducible exact beq_self _) ?_; conv => whnf)
      | (refine spl_dec (fun hd => ?_) (fun hd => ?_) <;> first | (exfalso; omega) | (conv => whnf))
      | (refine spl_ndec (fun hd => ?_) (fun hd => ?_) <;> first | (exfalso; omega) | (conv => whnf))
      | (refine spl_intro (fun hd => ?_) (fun hd => ?_) <;> (conv => whnf))
      | (refine Ld.i ?_; conv => whnf)
      | (refine LdN.i ?_; conv => whnf)
      | (refine St.i ⟨rfl, rfl⟩ (List.cons_ne_nil _ _) ?_; conv => whnf)
      | (refine Ar.i64 (by omega) ?_; conv => whnf)
      | (refine Ar.u64 (by omega) ?_; conv => whnf)
      | (refine Ar.i64d (by omega) (by omega) ?_; conv => whnf)
      | (refine Shr.i (by rfl) (by decide) ?_; conv => whnf)
      | (refine Shl.i (by rfl) (by decide) ?_; conv => whnf)
      | (refine Req.mk (by omega) ?_; conv => whnf)
      | (intro blk hblk; conv => whnf)
      | (refine OpX.of_quiet (OpQ.slr tab_ok (k + 1) rfl rfl rfl rfl (by simp) (by omega) ?_); conv => whnf)
      | fail)
    refine OpX.appRd (ys := L) tab_ok rfl rfl rfl rfl (by simp; omega) rfl (by simp; omega) ⟨rfl, rec_one⟩ (fun na nc => ?_)
    repeat' (first
      | (refine spl_f (by with_reducible exact ndec_self _) ?_; conv => whnf)
      | (refine spl_f (by with_reducible exact nbeq_self _) ?_; conv => whnf)
      | (refine spl_t (by with_reducible exact beq_self _) ?_; conv => whnf)
      | (refine spl_dec (fun hd => ?_) (fun hd => ?_) <;> first | (exfalso; omega) | (conv => whnf))
      | (refine spl_ndec (fun hd => ?_) (fun hd => ?_) <;> first | (exfalso; omega) | (conv => whnf))
      | (refine spl_intro (fun hd => ?_) (fun hd => ?_) <;> (conv => whnf))
      | (refine Ld.i ?_; conv => whnf)
      | (refine LdN.i ?_; conv => whnf)
      | (refine St.i ⟨rfl, rfl⟩ (List.cons_ne_nil _ _) ?_; conv => whnf)
      | (refine Ar.i64 (by omega) ?_; conv => whnf)
      | (refine Ar.u64 (by omega) ?_; conv => whnf)
      | (refine Ar.i64d (by omega) (by omega) ?_; conv => whnf)
      | (refine Shr.i (by rfl) (by decide) ?_; conv => whnf)
      | (refine Shl.i (by rfl) (by decide) ?_; conv => whnf)
      | (refine Req.mk (by omega) ?_; conv => whnf)
      | (intro blk hblk; conv => whnf)
      | fail)
    refine ⟨rfl, ((out ++ [x], oa', oc'), (L.take k ++ L.drop (k + 1), na, nc)), hst, ?_, ?_, ?_⟩
    · dsimp only
      rw [List.length_append]
      exact fun t v h => h
    · first | exact Imp.refl _ | exact Imp.drop | exact Imp.fin | ((repeat (refine Imp.pick ?_)); first | exact Imp.refl _ | exact Imp.emp _ | exact Imp.fin)
    · dsimp only; omega
theorem and_of {a b : Prop} [Decidable a] [Decidable b] (h : (!(decide a && decide b)) = false) : a ∧ b := by simpa using h
theorem rfits_of {W : World} {R : HProp} {h l : Int} {b : Bool} (hb : decide (-2147483648 ≤ h ∧ h < 2147483648) = b) : Does prog W f_quotaref10_Wide_Fits ⟨[.agg ⟨[.int .i64 h, .int .i64 l]⟩]⟩ R (Ret fun u G => u = .bool b ∧ G = R) := by
  subst hb
  exact rfits_spec
theorem rat_none {W : World} {R : HProp} {a : Option Addr} {n cap : Nat} {xs : List RecV} {id : Int} [c : RowC W R a 17 recv xs] (h : atI id xs = -1) (hn : n = xs.length) (hb : xs.length ≤ 9223372036854775806) :
    Does prog W f_quotaref19_at ⟨[.slice a n cap, .int .i64 id]⟩ R (Ret fun v G => v = .int .i64 (-1) ∧ G = R) := by
  rw [← h]; exact rat_spec hn hb
theorem rat_some {W : World} {R : HProp} {a : Option Addr} {n cap k : Nat} {xs : List RecV} {id : Int} [c : RowC W R a 17 recv xs] (h : atI id xs = k) (hn : n = xs.length) (hb : xs.length ≤ 9223372036854775806) :
    Does prog W f_quotaref19_at ⟨[.slice a n cap, .int .i64 id]⟩ R (Ret fun v G => v = .int .i64 (k : Int) ∧ G = R) := by
  rw [← h]; exact rat_spec hn hb
set_option maxHeartbeats 4000000 in
theorem rleft_spec {W : World} {R : HProp} {a : Option Addr} {n cap : Nat} {xs : List RecV} {tx : Int} [c : RowC W R a 17 recv xs] (hn : n = xs.length) (hx : ∀ r ∈ xs, OkR r) (hb : 336 * (xs.length + 1) ≤ 281474976710656) :
    Does prog W f_quotaref19_Left ⟨[.slice a n cap, .int .i64 tx]⟩ R (Ret fun v G => ∃ a' cap', v = .tuple ⟨[.slice a' (leftF xs tx).2.length cap', .int .i64 (leftF xs tx).1]⟩ ∧ G = (vec t_api_Record 17 recv a' cap' (leftF xs tx).2 • R)) := by
  subst hn
  rw [leftF]
  refine f_quotaref19_Left.does _ _ ?_
  conv => whnf
  by_cases htx : tx < 1 ∨ tx > 2147483647
  · rw [if_pos htx]
    repeat' (first
      | (refine spl_f (by with_reducible exact ndec_self _) ?_; conv => whnf)
      | (refine spl_f (by with_reducible exact nbeq_self _) ?_; conv => whnf)
      | (refine spl_t (by with_reducible exact beq_self _) ?_; conv => whnf)
      | (refine spl_dec (fun hd => ?_) (fun hd => ?_) <;> first | (exfalso; omega) | (conv => whnf))
      | (refine spl_ndec (fun hd => ?_) (fun hd => ?_) <;> first | (exfalso; omega) | (conv => whnf))
      | (refine spl_intro (fun hd => ?_) (fun hd => ?_) <;> (conv => whnf))
      | (refine Ld.i ?_; conv => whnf)
      | (refine LdN.i ?_; conv => whnf)
      | (refine St.i ⟨rfl, rfl⟩ (List.cons_ne_nil _ _) ?_; conv => whnf)
      | (refine Ar.i64 (by omega) ?_; conv => whnf)
      | (refine Ar.u64 (by omega) ?_; conv => whnf)
      | (refine Ar.i64d (by omega) (by omega) ?_; conv => whnf)
      | (refine Shr.i (by rfl) (by decide) ?_; conv => whnf)
      | (refine Shl.i (by rfl) (by decide) ?_; conv => whnf)
      | (refine Req.mk (by omega) ?_; conv => whnf)
      | (intro blk hblk; conv => whnf)
      | fail)
    all_goals
      refine ⟨_, _, rfl, ?_, none, 0, rfl, rfl⟩
      refine Imp.vnil ?_
      first | exact Imp.refl _ | exact Imp.drop | exact Imp.fin | ((repeat (refine Imp.pick ?_)); first | exact Imp.refl _ | exact Imp.emp _ | exact Imp.fin)
  rw [if_neg htx]
  repeat' (first
    | (refine spl_f (by with_reducible exact ndec_self _) ?_; conv => whnf)
    | (refine spl_f (by with_reducible exact nbeq_self _) ?_; conv => whnf)
    | (refine spl_t (by with_reducible exact beq_self _) ?_; conv => whnf)
    | (refine spl_dec (fun hd => ?_) (fun hd => ?_) <;> first | (exfalso; omega) | (conv => whnf))
    | (refine spl_ndec (fun hd => ?_) (fun hd => ?_) <;> first | (exfalso; omega) | (conv => whnf))
    | (refine spl_intro (fun hd => ?_) (fun hd => ?_) <;> (conv => whnf))
    | (refine Ld.i ?_; conv => whnf)
    | (refine LdN.i ?_; conv => whnf)
    | (refine St.i ⟨rfl, rfl⟩ (List.cons_ne_nil _ _) ?_; conv => whnf)
    | (refine Ar.i64 (by omega) ?_; conv => whnf)
    | (refine Ar.u64 (by omega) ?_; conv => whnf)
    | (refine Ar.i64d (by omega) (by omega) ?_; conv => whnf)
    | (refine Shr.i (by rfl) (by decide) ?_; conv => whnf)
    | (refine Shl.i (by rfl) (by decide) ?_; conv => whnf)
    | (refine Req.mk (by omega) ?_; conv => whnf)
    | (intro blk hblk; conv => whnf)
    | fail)
  refine LoopK.at tab_ok (L := f_quotaref19_Left.live) (ι := Nat × List (Int × RecV) × Option Addr × Nat) (fun i => i.1 ≤ xs.length ∧ KeyOk i.2.1 ∧ OkH i.2.1 ∧ i.2.1.length ≤ i.1 ∧ leftG tx i.2.1 (xs.drop i.1) = leftG tx [] xs)
    (fun i => [(7, .int .i64 i.1), (6, .slice i.2.2.1 (recs i.2.1).length i.2.2.2)]) (fun i => vec t_api_Record 17 recv i.2.2.1 i.2.2.2 (recs i.2.1)) (fun i => xs.length - i.1) (0, [], none, 0) ⟨by simp, KeyOk.nil, fun p h => (by cases h), by simp, by simp⟩ (fun t v h => h) (Imp.vnil (Imp.refl _)) ?_
  rintro ⟨i, m, ha, hc⟩ ⟨hi, hk, hh, hl, hm⟩
  dsimp only at hi hk hh hl hm ⊢
  have hrl : (recs m).length = m.length := List.length_map ..
  conv => whnf
  by_cases h1 : i < xs.length
  · obtain ⟨x, hxi⟩ : ∃ x, xs[i]? = some x := ⟨_, List.getElem?_eq_getElem h1⟩
    have hox := hx x (List.mem_of_getElem? hxi)
    have hk' := left1_ok (tx := tx) x hk
    have hh' := left1_okH (tx := tx) hh hox
    have hl' := left1_len (tx := tx) (m := m) x
    rw [drop_of hxi, leftG] at hm
    by_cases h2 : x.tx = tx
    · by_cases k3 : x.kind = 3
      · rcases find_split x.id hk with ⟨hlk, hat, hup⟩ | ⟨j, u, hlk, hju, hat, hup, hde⟩
        · have e1 : left1 tx m x = (0, updKV x.id (undoR tx x x.delta) m) := by rw [left1, if_neg (by simpa using h2), if_pos k3, hlk]
          rw [e1] at hm hk' hh' hl'
          rw [if_pos rfl] at hm
          repeat' (first
            | (refine spl_f (by with_reducible exact ndec_self _) ?_; conv => whnf)
            | (refine spl_f (by with_reducible exact nbeq_self _) ?_; conv => whnf)
            | (refine spl_t (by with_reducible exact beq_self _) ?_; conv => whnf)
            | (refine spl_dec (fun hd => ?_) (fun hd => ?_) <;> first | (exfalso; omega) | (conv => whnf))
            | (refine spl_ndec (fun hd => ?_) (fun hd => ?_) <;> first | (exfalso; omega) | (conv => whnf))
            | (refine spl_intro (fun hd => ?_) (fun hd => ?_) <;> (conv => whnf))
            | (refine Ld.i ?_; conv => whnf)
            | (refine LdN.i ?_; conv => whnf)
            | (refine St.i ⟨rfl, rfl⟩ (List.cons_ne_nil _ _) ?_; conv => whnf)
            | (refine Ar.i64 (by omega) ?_; conv => whnf)
            | (refine Ar.u64 (by omega) ?_; conv => whnf)
            | (refine Ar.i64d (by omega) (by omega) ?_; conv => whnf)
            | (refine Shr.i (by rfl) (by decide) ?_; conv => whnf)
            | (refine Shl.i (by rfl) (by decide) ?_; conv => whnf)
            | (refine Req.mk (by omega) ?_; conv => whnf)
            | (intro blk hblk; conv => whnf)
            | (refine IxS.r (i := i) rfl rfl h1 (fun ab off ha => ?_); subst ha; conv => whnf)
            | (refine LdN.r hxi rfl ?_; conv => whnf)
            | (refine Ld.r hxi rfl ?_; conv => whnf)
            | (refine Ld.r0 hxi rfl ?_; conv => whnf)
            | (refine LdN.rp hxi ?_; conv => whnf)
            | (refine CallK.ret f_quotaref19_at.ok ((rat_none hat rfl (by omega))) ?_; rintro v G ⟨rfl, rfl⟩; conv => whnf)
            | fail)
          refine OpX.app1 tab_ok rfl rfl rfl rfl (undoR tx x x.delta) rfl rfl (by omega) ⟨rfl, rec_one⟩ (fun na nc => ?_)
          repeat' (first
            | (refine spl_f (by with_reducible exact ndec_self _) ?_; conv => whnf)
            | (refine spl_f (by with_reducible exact nbeq_self _) ?_; conv => whnf)
            | (refine spl_t (by with_reducible exact beq_self _) ?_; conv => whnf)
            | (refine spl_dec (fun hd => ?_) (fun hd => ?_) <;> first | (exfalso; omega) | (conv => whnf))
            | (refine spl_ndec (fun hd => ?_) (fun hd => ?_) <;> first | (exfalso; omega) | (conv => whnf))
            | (refine spl_intro (fun hd => ?_) (fun hd => ?_) <;> (conv => whnf))
            | (refine Ld.i ?_; conv => whnf)
            | (refine LdN.i ?_; conv => whnf)
            | (refine St.i ⟨rfl, rfl⟩ (List.cons_ne_nil _ _) ?_; conv => whnf)
            | (refine Ar.i64 (by omega) ?_; conv => whnf)
            | (refine Ar.u64 (by omega) ?_; conv => whnf)
            | (refine Ar.i64d (by omega) (by omega) ?_; conv => whnf)
            | (refine Shr.i (by rfl) (by decide) ?_; conv => whnf)
            | (refine Shl.i (by rfl) (by decide) ?_; conv => whnf)
            | (refine Req.mk (by omega) ?_; conv => whnf)
            | (intro blk hblk; conv => whnf)
            | fail)
          refine ⟨rfl, (i + 1, updKV x.id (undoR tx x x.delta) m, na, nc), ⟨h1, hk', hh', by dsimp only; dsimp only at hl'; omega, hm⟩, ?_, ?_, by dsimp only; omega⟩
          · dsimp only
            rw [hup, List.length_append]
            exact fun t v h => h
          · dsimp only
            rw [hup]
            first | exact Imp.refl _ | exact Imp.drop | exact Imp.fin | ((repeat (refine Imp.pick ?_)); first | exact Imp.refl _ | exact Imp.emp _ | exact Imp.fin)
        · have hou := hh _ (mem_of_lookup _ _ _ hlk)
          have hjl := (List.getElem?_eq_some_iff.1 hju).1
          by_cases hf : fits (u.delta + x.delta)
          · have e1 : left1 tx m x = (0, updKV x.id (undoR tx x (u.delta + x.delta)) m) := by rw [left1, if_neg (by simpa using h2), if_pos k3, hlk]; exact if_pos hf
            rw [e1] at hm hk' hh' hl'
            rw [if_pos rfl] at hm
            have hf2 := hf
            have ho1 : fits u.delta := hou.2
            have ho2 := hox.2
            unfold fits at hf2 ho1 ho2
            repeat' (first
              | (refine spl_f (by with_reducible exact ndec_self _) ?_; conv => whnf)
              | (refine spl_f (by with_reducible exact nbeq_self _) ?_; conv => whnf)
              | (refine spl_t (by with_reducible exact beq_self _) ?_; conv => whnf)
              | (refine spl_dec (fun hd => ?_) (fun hd => ?_) <;> first | (exfalso; omega) | (conv => whnf))
              | (refine spl_ndec (fun hd => ?_) (fun hd => ?_) <;> first | (exfalso; omega) | (conv => whnf))
              | (refine spl_intro (fun hd => ?_) (fun hd => ?_) <;> (conv => whnf))
              | (refine Ld.i ?_; conv => whnf)
              | (refine LdN.i ?_; conv => whnf)
              | (refine St.i ⟨rfl, rfl⟩ (List.cons_ne_nil _ _) ?_; conv => whnf)
              | (refine Ar.i64 (by omega) ?_; conv => whnf)
              | (refine Ar.u64 (by omega) ?_; conv => whnf)
              | (refine Ar.i64d (by omega) (by omega) ?_; conv => whnf)
              | (refine Shr.i (by rfl) (by decide) ?_; conv => whnf)
              | (refine Shl.i (by rfl) (by decide) ?_; conv => whnf)
              | (refine Req.mk (by omega) ?_; conv => whnf)
              | (intro blk hblk; conv => whnf)
              | (refine IxS.r (i := i) rfl rfl h1 (fun ab off ha => ?_); subst ha; conv => whnf)
              | (refine LdN.r hxi rfl ?_; conv => whnf)
              | (refine Ld.r hxi rfl ?_; conv => whnf)
              | (refine Ld.r0 hxi rfl ?_; conv => whnf)
              | (refine LdN.rp hxi ?_; conv => whnf)
              | (refine CallK.ret f_quotaref19_at.ok ((rat_some hat rfl (by omega))) ?_; rintro v G ⟨rfl, rfl⟩; conv => whnf)
              | fail)
            refine DrawK.intro tab_ok mixed f_quotaref19_Left.last15 f_quotaref19_Left.plan15 _ (by kernel_rfl) (Sub.of (by first | exact Imp.refl _ | exact Imp.drop | exact Imp.fin | ((repeat (refine Imp.pick ?_)); first | exact Imp.refl _ | exact Imp.emp _ | exact Imp.fin))) ?_
            conv => whnf
            repeat' (first
              | (refine spl_f (by with_reducible exact ndec_self _) ?_; conv => whnf)
              | (refine spl_f (by with_reducible exact nbeq_self _) ?_; conv => whnf)
              | (refine spl_t (by with_reducible exact beq_self _) ?_; conv => whnf)
              | (refine spl_dec (fun hd => ?_) (fun hd => ?_) <;> first | (exfalso; omega) | (conv => whnf))
              | (refine spl_ndec (fun hd => ?_) (fun hd => ?_) <;> first | (exfalso; omega) | (conv => whnf))
              | (refine spl_intro (fun hd => ?_) (fun hd => ?_) <;> (conv => whnf))
              | (refine Ld.i ?_; conv => whnf)
              | (refine LdN.i ?_; conv => whnf)
              | (refine St.i ⟨rfl, rfl⟩ (List.cons_ne_nil _ _) ?_; conv => whnf)
              | (refine Ar.i64 (by omega) ?_; conv => whnf)
              | (refine Ar.u64 (by omega) ?_; conv => whnf)
              | (refine Ar.i64d (by omega) (by omega) ?_; conv => whnf)
              | (refine Shr.i (by rfl) (by decide) ?_; conv => whnf)
              | (refine Shl.i (by rfl) (by decide) ?_; conv => whnf)
              | (refine Req.mk (by omega) ?_; conv => whnf)
              | (intro blk hblk; conv => whnf)
              | (refine IxS.r (i := j) rfl rfl hjl (fun ab off ha => ?_); cases ha; conv => whnf)
              | (refine LdN.r hju rfl ?_; conv => whnf)
              | (refine Ld.r hju rfl ?_; conv => whnf)
              | (refine Ld.r0 hju rfl ?_; conv => whnf)
              | (refine LdN.rp hju ?_; conv => whnf)
              | (refine Sub.on (by first | exact Imp.refl _ | exact Imp.drop | exact Imp.fin | ((repeat (refine Imp.pick ?_)); first | exact Imp.refl _ | exact Imp.emp _ | exact Imp.fin)) ?_; conv => whnf)
              | (refine Sub.on (Imp.trans KeepC.h (by first | exact Imp.refl _ | exact Imp.drop | exact Imp.fin | ((repeat (refine Imp.pick ?_)); first | exact Imp.refl _ | exact Imp.emp _ | exact Imp.fin))) ?_; conv => whnf)
              | (refine CallK.ret f_quotaref10_Of.ok (rof_spec) ?_; rintro v G ⟨rfl, rfl⟩; conv => whnf)
              | (refine CallK.ret f_quotaref10_Wide_Plus.ok ((rplus_spec (by omega) (by omega) hox.2)) ?_; rintro v G ⟨rfl, rfl⟩; conv => whnf)
              | (refine CallK.ret f_quotaref10_Wide_Fits.ok ((rfits_of (b := true) (decide_eq_true (by omega)))) ?_; rintro v G ⟨rfl, rfl⟩; conv => whnf)
              | fail)
            have hcm : x.delta + u.delta = u.delta + x.delta := Int.add_comm _ _
            refine DrawK.intro tab_ok mixed f_quotaref19_Left.last17 f_quotaref19_Left.plan17 _ (by kernel_rfl) (Sub.of (by first | exact Imp.refl _ | exact Imp.drop | exact Imp.fin | ((repeat (refine Imp.pick ?_)); first | exact Imp.refl _ | exact Imp.emp _ | exact Imp.fin))) ?_
            conv => whnf
            repeat' (first
              | (refine spl_f (by with_reducible exact ndec_self _) ?_; conv => whnf)
              | (refine spl_f (by with_reducible exact nbeq_self _) ?_; conv => whnf)
              | (refine spl_t (by with_reducible exact beq_self _) ?_; conv => whnf)
              | (refine spl_dec (fun hd => ?_) (fun hd => ?_) <;> first | (exfalso; omega) | (conv => whnf))
              | (refine spl_ndec (fun hd => ?_) (fun hd => ?_) <;> first | (exfalso; omega) | (conv => whnf))
              | (refine spl_intro (fun hd => ?_) (fun hd => ?_) <;> (conv => whnf))
              | (refine Ld.i ?_; conv => whnf)
              | (refine LdN.i ?_; conv => whnf)
              | (refine St.i ⟨rfl, rfl⟩ (List.cons_ne_nil _ _) ?_; conv => whnf)
              | (refine Ar.i64 (by omega) ?_; conv => whnf)
              | (refine Ar.u64 (by omega) ?_; conv => whnf)
              | (refine Ar.i64d (by omega) (by omega) ?_; conv => whnf)
              | (refine Shr.i (by rfl) (by decide) ?_; conv => whnf)
              | (refine Shl.i (by rfl) (by decide) ?_; conv => whnf)
              | (refine Req.mk (by omega) ?_; conv => whnf)
              | (intro blk hblk; conv => whnf)
              | (refine IxS.r (i := j) rfl rfl hjl (fun ab off ha => ?_); cases ha; conv => whnf)
              | (refine LdN.r hju rfl ?_; conv => whnf)
              | (refine Ld.r hju rfl ?_; conv => whnf)
              | (refine Ld.r0 hju rfl ?_; conv => whnf)
              | (refine LdN.rp hju ?_; conv => whnf)
              | (refine Sub.on (by first | exact Imp.refl _ | exact Imp.drop | exact Imp.fin | ((repeat (refine Imp.pick ?_)); first | exact Imp.refl _ | exact Imp.emp _ | exact Imp.fin)) ?_; conv => whnf)
              | (refine Sub.on (Imp.trans KeepC.h (by first | exact Imp.refl _ | exact Imp.drop | exact Imp.fin | ((repeat (refine Imp.pick ?_)); first | exact Imp.refl _ | exact Imp.emp _ | exact Imp.fin))) ?_; conv => whnf)
              | (refine St.v0 hju (undoR tx x (u.delta + x.delta)) (by rw [hcm]; rfl) (by simp) ⟨rfl, rfl⟩ ?_; conv => whnf)
              | fail)
            refine ⟨rfl, (i + 1, updKV x.id (undoR tx x (u.delta + x.delta)) m, some ⟨ab, off, none⟩, hc), ⟨h1, hk', hh', by dsimp only; dsimp only at hl'; omega, hm⟩, ?_, ?_, by dsimp only; omega⟩
            · dsimp only
              rw [hup, List.length_set]
              exact fun t v h => h
            · dsimp only
              rw [hup]
              first | exact Imp.refl _ | exact Imp.drop | exact Imp.fin | ((repeat (refine Imp.pick ?_)); first | exact Imp.refl _ | exact Imp.emp _ | exact Imp.fin)
          · have e1 : left1 tx m x = (10, m) := by rw [left1, if_neg (by simpa using h2), if_pos k3, hlk]; exact if_neg hf
            rw [e1, if_neg (show ¬ (10 : Int) = 0 by decide)] at hm
            rw [if_neg (by rw [← hm]; exact (show ¬ (10 : Int) = 0 by decide)), ← hm]
            have hf2 := hf
            have ho1 : fits u.delta := hou.2
            have ho2 := hox.2
            unfold fits at hf2 ho1 ho2
            repeat' (first
              | (refine spl_f (by with_reducible exact ndec_self _) ?_; conv => whnf)
              | (refine spl_f (by with_reducible exact nbeq_self _) ?_; conv => whnf)
              | (refine spl_t (by with_reducible exact beq_self _) ?_; conv => whnf)
              | (refine spl_dec (fun hd => ?_) (fun hd => ?_) <;> first | (exfalso; omega) | (conv => whnf))
              | (refine spl_ndec (fun hd => ?_) (fun hd => ?_) <;> first | (exfalso; omega) | (conv => whnf))
              | (refine spl_intro (fun hd => ?_) (fun hd => ?_) <;> (conv => whnf))
              | (refine Ld.i ?_; conv => whnf)
              | (refine LdN.i ?_; conv => whnf)
              | (refine St.i ⟨rfl, rfl⟩ (List.cons_ne_nil _ _) ?_; conv => whnf)
              | (refine Ar.i64 (by omega) ?_; conv => whnf)
              | (refine Ar.u64 (by omega) ?_; conv => whnf)
              | (refine Ar.i64d (by omega) (by omega) ?_; conv => whnf)
              | (refine Shr.i (by rfl) (by decide) ?_; conv => whnf)
              | (refine Shl.i (by rfl) (by decide) ?_; conv => whnf)
              | (refine Req.mk (by omega) ?_; conv => whnf)
              | (intro blk hblk; conv => whnf)
              | (refine IxS.r (i := i) rfl rfl h1 (fun ab off ha => ?_); subst ha; conv => whnf)
              | (refine LdN.r hxi rfl ?_; conv => whnf)
              | (refine Ld.r hxi rfl ?_; conv => whnf)
              | (refine Ld.r0 hxi rfl ?_; conv => whnf)
              | (refine LdN.rp hxi ?_; conv => whnf)
              | (refine CallK.ret f_quotaref19_at.ok ((rat_some hat rfl (by omega))) ?_; rintro v G ⟨rfl, rfl⟩; conv => whnf)
              | fail)
            refine DrawK.intro tab_ok mixed f_quotaref19_Left.last15 f_quotaref19_Left.plan15 _ (by kernel_rfl) (Sub.of (by first | exact Imp.refl _ | exact Imp.drop | exact Imp.fin | ((repeat (refine Imp.pick ?_)); first | exact Imp.refl _ | exact Imp.emp _ | exact Imp.fin))) ?_
            conv => whnf
            repeat' (first
              | (refine spl_f (by with_reducible exact ndec_self _) ?_; conv => whnf)
              | (refine spl_f (by with_reducible exact nbeq_self _) ?_; conv => whnf)
              | (refine spl_t (by with_reducible exact beq_self _) ?_; conv => whnf)
              | (refine spl_dec (fun hd => ?_) (fun hd => ?_) <;> first | (exfalso; omega) | (conv => whnf))
              | (refine spl_ndec (fun hd => ?_) (fun hd => ?_) <;> first | (exfalso; omega) | (conv => whnf))
              | (refine spl_intro (fun hd => ?_) (fun hd => ?_) <;> (conv => whnf))
              | (refine Ld.i ?_; conv => whnf)
              | (refine LdN.i ?_; conv => whnf)
              | (refine St.i ⟨rfl, rfl⟩ (List.cons_ne_nil _ _) ?_; conv => whnf)
              | (refine Ar.i64 (by omega) ?_; conv => whnf)
              | (refine Ar.u64 (by omega) ?_; conv => whnf)
              | (refine Ar.i64d (by omega) (by omega) ?_; conv => whnf)
              | (refine Shr.i (by rfl) (by decide) ?_; conv => whnf)
              | (refine Shl.i (by rfl) (by decide) ?_; conv => whnf)
              | (refine Req.mk (by omega) ?_; conv => whnf)
              | (intro blk hblk; conv => whnf)
              | (refine IxS.r (i := j) rfl rfl hjl (fun ab off ha => ?_); cases ha; conv => whnf)
              | (refine LdN.r hju rfl ?_; conv => whnf)
              | (refine Ld.r hju rfl ?_; conv => whnf)
              | (refine Ld.r0 hju rfl ?_; conv => whnf)
              | (refine LdN.rp hju ?_; conv => whnf)
              | (refine Sub.on (by first | exact Imp.refl _ | exact Imp.drop | exact Imp.fin | ((repeat (refine Imp.pick ?_)); first | exact Imp.refl _ | exact Imp.emp _ | exact Imp.fin)) ?_; conv => whnf)
              | (refine Sub.on (Imp.trans KeepC.h (by first | exact Imp.refl _ | exact Imp.drop | exact Imp.fin | ((repeat (refine Imp.pick ?_)); first | exact Imp.refl _ | exact Imp.emp _ | exact Imp.fin))) ?_; conv => whnf)
              | (refine CallK.ret f_quotaref10_Of.ok (rof_spec) ?_; rintro v G ⟨rfl, rfl⟩; conv => whnf)
              | (refine CallK.ret f_quotaref10_Wide_Plus.ok ((rplus_spec (by omega) (by omega) hox.2)) ?_; rintro v G ⟨rfl, rfl⟩; conv => whnf)
              | (refine CallK.ret f_quotaref10_Wide_Fits.ok ((rfits_of (b := false) (decide_eq_false (by omega)))) ?_; rintro v G ⟨rfl, rfl⟩; conv => whnf)
              | fail)
            refine ⟨_, _, rfl, ?_, none, 0, rfl, rfl⟩
            refine Imp.vnil ?_
            first | exact Imp.refl _ | exact Imp.drop | exact Imp.fin | ((repeat (refine Imp.pick ?_)); first | exact Imp.refl _ | exact Imp.emp _ | exact Imp.fin)
      · by_cases k4 : x.kind = 4
        · rcases find_split x.id hk with ⟨hlk, hat, hup⟩ | ⟨j, u, hlk, hju, hat, hup, hde⟩
          · have e1 : left1 tx m x = (120, m) := by rw [left1, if_neg (by simpa using h2), if_neg k3, if_pos k4, hlk]
            rw [e1, if_neg (show ¬ (120 : Int) = 0 by decide)] at hm
            rw [if_neg (by rw [← hm]; exact (show ¬ (120 : Int) = 0 by decide)), ← hm]
            repeat' (first
              | (refine spl_f (by with_reducible exact ndec_self _) ?_; conv => whnf)
              | (refine spl_f (by with_reducible exact nbeq_self _) ?_; conv => whnf)
              | (refine spl_t (by with_reducible exact beq_self _) ?_; conv => whnf)
              | (refine spl_dec (fun hd => ?_) (fun hd => ?_) <;> first | (exfalso; omega) | (conv => whnf))
              | (refine spl_ndec (fun hd => ?_) (fun hd => ?_) <;> first | (exfalso; omega) | (conv => whnf))
              | (refine spl_intro (fun hd => ?_) (fun hd => ?_) <;> (conv => whnf))
              | (refine Ld.i ?_; conv => whnf)
              | (refine LdN.i ?_; conv => whnf)
              | (refine St.i ⟨rfl, rfl⟩ (List.cons_ne_nil _ _) ?_; conv => whnf)
              | (refine Ar.i64 (by omega) ?_; conv => whnf)
              | (refine Ar.u64 (by omega) ?_; conv => whnf)
              | (refine Ar.i64d (by omega) (by omega) ?_; conv => whnf)
              | (refine Shr.i (by rfl) (by decide) ?_; conv => whnf)
              | (refine Shl.i (by rfl) (by decide) ?_; conv => whnf)
              | (refine Req.mk (by omega) ?_; conv => whnf)
              | (intro blk hblk; conv => whnf)
              | (refine IxS.r (i := i) rfl rfl h1 (fun ab off ha => ?_); subst ha; conv => whnf)
              | (refine LdN.r hxi rfl ?_; conv => whnf)
              | (refine Ld.r hxi rfl ?_; conv => whnf)
              | (refine Ld.r0 hxi rfl ?_; conv => whnf)
              | (refine LdN.rp hxi ?_; conv => whnf)
              | (refine CallK.ret f_quotaref19_at.ok ((rat_none hat rfl (by omega))) ?_; rintro v G ⟨rfl, rfl⟩; conv => whnf)
              | fail)
            refine ⟨_, _, rfl, ?_, none, 0, rfl, rfl⟩
            refine Imp.vnil ?_
            first | exact Imp.refl _ | exact Imp.drop | exact Imp.fin | ((repeat (refine Imp.pick ?_)); first | exact Imp.refl _ | exact Imp.emp _ | exact Imp.fin)
          · have hjl := (List.getElem?_eq_some_iff.1 hju).1
            by_cases hf : sameH x u
            · have e1 : left1 tx m x = (0, delKV x.id m) := by rw [left1, if_neg (by simpa using h2), if_neg k3, if_pos k4, hlk]; exact if_pos hf
              rw [e1] at hm hk' hh' hl'
              rw [if_pos rfl] at hm
              obtain ⟨f1, ⟨f2, f3⟩, f4, f5⟩ := hf
              repeat' (first
                | (refine spl_f (by with_reducible exact ndec_self _) ?_; conv => whnf)
                | (refine spl_f (by with_reducible exact nbeq_self _) ?_; conv => whnf)
                | (refine spl_t (by with_reducible exact beq_self _) ?_; conv => whnf)
                | (refine spl_dec (fun hd => ?_) (fun hd => ?_) <;> first | (exfalso; omega) | (conv => whnf))
                | (refine spl_ndec (fun hd => ?_) (fun hd => ?_) <;> first | (exfalso; omega) | (conv => whnf))
                | (refine spl_intro (fun hd => ?_) (fun hd => ?_) <;> (conv => whnf))
                | (refine Ld.i ?_; conv => whnf)
                | (refine LdN.i ?_; conv => whnf)
                | (refine St.i ⟨rfl, rfl⟩ (List.cons_ne_nil _ _) ?_; conv => whnf)
                | (refine Ar.i64 (by omega) ?_; conv => whnf)
                | (refine Ar.u64 (by omega) ?_; conv => whnf)
                | (refine Ar.i64d (by omega) (by omega) ?_; conv => whnf)
                | (refine Shr.i (by rfl) (by decide) ?_; conv => whnf)
                | (refine Shl.i (by rfl) (by decide) ?_; conv => whnf)
                | (refine Req.mk (by omega) ?_; conv => whnf)
                | (intro blk hblk; conv => whnf)
                | (refine IxS.r (i := i) rfl rfl h1 (fun ab off ha => ?_); subst ha; conv => whnf)
                | (refine LdN.r hxi rfl ?_; conv => whnf)
                | (refine Ld.r hxi rfl ?_; conv => whnf)
                | (refine Ld.r0 hxi rfl ?_; conv => whnf)
                | (refine LdN.rp hxi ?_; conv => whnf)
                | (refine CallK.ret f_quotaref19_at.ok ((rat_some hat rfl (by omega))) ?_; rintro v G ⟨rfl, rfl⟩; conv => whnf)
                | fail)
              refine DrawK.intro tab_ok mixed f_quotaref19_Left.last22 f_quotaref19_Left.plan22 _ (by kernel_rfl) (Sub.of (by first | exact Imp.refl _ | exact Imp.drop | exact Imp.fin | ((repeat (refine Imp.pick ?_)); first | exact Imp.refl _ | exact Imp.emp _ | exact Imp.fin))) ?_
              conv => whnf
              repeat' (first
                | (refine spl_f (by rw [f2, f3]; simp) ?_; conv => whnf)
                | (refine spl_f (by rw [f4, f5]; simp) ?_; conv => whnf)
                | (refine spl_f (by with_reducible exact ndec_self _) ?_; conv => whnf)
                | (refine spl_f (by with_reducible exact nbeq_self _) ?_; conv => whnf)
                | (refine spl_t (by with_reducible exact beq_self _) ?_; conv => whnf)
                | (refine spl_dec (fun hd => ?_) (fun hd => ?_) <;> first | (exfalso; omega) | (conv => whnf))
                | (refine spl_ndec (fun hd => ?_) (fun hd => ?_) <;> first | (exfalso; omega) | (conv => whnf))
                | (refine spl_intro (fun hd => ?_) (fun hd => ?_) <;> (conv => whnf))
                | (refine Ld.i ?_; conv => whnf)
                | (refine LdN.i ?_; conv => whnf)
                | (refine St.i ⟨rfl, rfl⟩ (List.cons_ne_nil _ _) ?_; conv => whnf)
                | (refine Ar.i64 (by omega) ?_; conv => whnf)
                | (refine Ar.u64 (by omega) ?_; conv => whnf)
                | (refine Ar.i64d (by omega) (by omega) ?_; conv => whnf)
                | (refine Shr.i (by rfl) (by decide) ?_; conv => whnf)
                | (refine Shl.i (by rfl) (by decide) ?_; conv => whnf)
                | (refine Req.mk (by omega) ?_; conv => whnf)
                | (intro blk hblk; conv => whnf)
                | (refine IxS.r (i := j) rfl rfl hjl (fun ab off ha => ?_); cases ha; conv => whnf)
                | (refine LdN.r hju rfl ?_; conv => whnf)
                | (refine Ld.r hju rfl ?_; conv => whnf)
                | (refine Ld.r0 hju rfl ?_; conv => whnf)
                | (refine LdN.rp hju ?_; conv => whnf)
                | (refine Sub.on (by first | exact Imp.refl _ | exact Imp.drop | exact Imp.fin | ((repeat (refine Imp.pick ?_)); first | exact Imp.refl _ | exact Imp.emp _ | exact Imp.fin)) ?_; conv => whnf)
                | (refine Sub.on (Imp.trans KeepC.h (by first | exact Imp.refl _ | exact Imp.drop | exact Imp.fin | ((repeat (refine Imp.pick ?_)); first | exact Imp.refl _ | exact Imp.emp _ | exact Imp.fin))) ?_; conv => whnf)
                | (refine OpX.of_quiet (OpQ.eqs rfl rfl ?_); conv => whnf)
                | (refine OpX.of_quiet (OpQ.nes rfl rfl ?_); conv => whnf)
                | (refine OpQ.eqs rfl rfl ?_; conv => whnf)
                | (refine OpQ.nes rfl rfl ?_; conv => whnf)
                | fail)
              repeat' (first
                | (refine spl_f (by with_reducible exact ndec_self _) ?_; conv => whnf)
                | (refine spl_f (by with_reducible exact nbeq_self _) ?_; conv => whnf)
                | (refine spl_t (by with_reducible exact beq_self _) ?_; conv => whnf)
                | (refine spl_dec (fun hd => ?_) (fun hd => ?_) <;> first | (exfalso; omega) | (conv => whnf))
                | (refine spl_ndec (fun hd => ?_) (fun hd => ?_) <;> first | (exfalso; omega) | (conv => whnf))
                | (refine spl_intro (fun hd => ?_) (fun hd => ?_) <;> (conv => whnf))
                | (refine Ld.i ?_; conv => whnf)
                | (refine LdN.i ?_; conv => whnf)
                | (refine St.i ⟨rfl, rfl⟩ (List.cons_ne_nil _ _) ?_; conv => whnf)
                | (refine Ar.i64 (by omega) ?_; conv => whnf)
                | (refine Ar.u64 (by omega) ?_; conv => whnf)
                | (refine Ar.i64d (by omega) (by omega) ?_; conv => whnf)
                | (refine Shr.i (by rfl) (by decide) ?_; conv => whnf)
                | (refine Shl.i (by rfl) (by decide) ?_; conv => whnf)
                | (refine Req.mk (by omega) ?_; conv => whnf)
                | (intro blk hblk; conv => whnf)
                | (refine OpX.of_quiet (OpQ.slv tab_ok rfl rfl rfl rfl (by omega) ?_); conv => whnf)
                | fail)
              refine OpX.appNt (ys := recs m) tab_ok j rfl rfl rfl rfl (by omega) (by omega) (by omega) ⟨rfl, rec_one⟩ (fun ra rc => ?_)
              conv => whnf
              repeat' (first
                | (refine spl_f (by with_reducible exact ndec_self _) ?_; conv => whnf)
                | (refine spl_f (by with_reducible exact nbeq_self _) ?_; conv => whnf)
                | (refine spl_t (by with_reducible exact beq_self _) ?_; conv => whnf)
                | (refine spl_dec (fun hd => ?_) (fun hd => ?_) <;> first | (exfalso; omega) | (conv => whnf))
                | (refine spl_ndec (fun hd => ?_) (fun hd => ?_) <;> first | (exfalso; omega) | (conv => whnf))
                | (refine spl_intro (fun hd => ?_) (fun hd => ?_) <;> (conv => whnf))
                | (refine Ld.i ?_; conv => whnf)
                | (refine LdN.i ?_; conv => whnf)
                | (refine St.i ⟨rfl, rfl⟩ (List.cons_ne_nil _ _) ?_; conv => whnf)
                | (refine Ar.i64 (by omega) ?_; conv => whnf)
                | (refine Ar.u64 (by omega) ?_; conv => whnf)
                | (refine Ar.i64d (by omega) (by omega) ?_; conv => whnf)
                | (refine Shr.i (by rfl) (by decide) ?_; conv => whnf)
                | (refine Shl.i (by rfl) (by decide) ?_; conv => whnf)
                | (refine Req.mk (by omega) ?_; conv => whnf)
                | (intro blk hblk; conv => whnf)
                | (refine OpX.of_quiet (OpQ.slr tab_ok (j + 1) rfl rfl rfl rfl (by simp) (by omega) ?_); conv => whnf)
                | fail)
              refine OpX.appRd (ys := recs m) tab_ok rfl rfl rfl rfl (by simp; omega) rfl (by simp; omega) ⟨rfl, rec_one⟩ (fun na nc => ?_)
              repeat' (first
                | (refine spl_f (by with_reducible exact ndec_self _) ?_; conv => whnf)
                | (refine spl_f (by with_reducible exact nbeq_self _) ?_; conv => whnf)
                | (refine spl_t (by with_reducible exact beq_self _) ?_; conv => whnf)
                | (refine spl_dec (fun hd => ?_) (fun hd => ?_) <;> first | (exfalso; omega) | (conv => whnf))
                | (refine spl_ndec (fun hd => ?_) (fun hd => ?_) <;> first | (exfalso; omega) | (conv => whnf))
                | (refine spl_intro (fun hd => ?_) (fun hd => ?_) <;> (conv => whnf))
                | (refine Ld.i ?_; conv => whnf)
                | (refine LdN.i ?_; conv => whnf)
                | (refine St.i ⟨rfl, rfl⟩ (List.cons_ne_nil _ _) ?_; conv => whnf)
                | (refine Ar.i64 (by omega) ?_; conv => whnf)
                | (refine Ar.u64 (by omega) ?_; conv => whnf)
                | (refine Ar.i64d (by omega) (by omega) ?_; conv => whnf)
                | (refine Shr.i (by rfl) (by decide) ?_; conv => whnf)
                | (refine Shl.i (by rfl) (by decide) ?_; conv => whnf)
                | (refine Req.mk (by omega) ?_; conv => whnf)
                | (intro blk hblk; conv => whnf)
                | fail)
              refine ⟨rfl, (i + 1, delKV x.id m, na, nc), ⟨h1, hk', hh', by dsimp only; dsimp only at hl'; omega, hm⟩, ?_, ?_, by dsimp only; omega⟩
              · dsimp only
                rw [hde]
                exact fun t v h => h
              · dsimp only
                rw [hde]
                first | exact Imp.refl _ | exact Imp.drop | exact Imp.fin | ((repeat (refine Imp.pick ?_)); first | exact Imp.refl _ | exact Imp.emp _ | exact Imp.fin)
            · have e1 : left1 tx m x = (60, m) := by rw [left1, if_neg (by simpa using h2), if_neg k3, if_pos k4, hlk]; exact if_neg hf
              rw [e1, if_neg (show ¬ (60 : Int) = 0 by decide)] at hm
              rw [if_neg (by rw [← hm]; exact (show ¬ (60 : Int) = 0 by decide)), ← hm]
              repeat' (first
                | (refine spl_f (by with_reducible exact ndec_self _) ?_; conv => whnf)
                | (refine spl_f (by with_reducible exact nbeq_self _) ?_; conv => whnf)
                | (refine spl_t (by with_reducible exact beq_self _) ?_; conv => whnf)
                | (refine spl_dec (fun hd => ?_) (fun hd => ?_) <;> first | (exfalso; omega) | (conv => whnf))
                | (refine spl_ndec (fun hd => ?_) (fun hd => ?_) <;> first | (exfalso; omega) | (conv => whnf))
                | (refine spl_intro (fun hd => ?_) (fun hd => ?_) <;> (conv => whnf))
                | (refine Ld.i ?_; conv => whnf)
                | (refine LdN.i ?_; conv => whnf)
                | (refine St.i ⟨rfl, rfl⟩ (List.cons_ne_nil _ _) ?_; conv => whnf)
                | (refine Ar.i64 (by omega) ?_; conv => whnf)
                | (refine Ar.u64 (by omega) ?_; conv => whnf)
                | (refine Ar.i64d (by omega) (by omega) ?_; conv => whnf)
                | (refine Shr.i (by rfl) (by decide) ?_; conv => whnf)
                | (refine Shl.i (by rfl) (by decide) ?_; conv => whnf)
                | (refine Req.mk (by omega) ?_; conv => whnf)
                | (intro blk hblk; conv => whnf)
                | (refine IxS.r (i := i) rfl rfl h1 (fun ab off ha => ?_); subst ha; conv => whnf)
                | (refine LdN.r hxi rfl ?_; conv => whnf)
                | (refine Ld.r hxi rfl ?_; conv => whnf)
                | (refine Ld.r0 hxi rfl ?_; conv => whnf)
                | (refine LdN.rp hxi ?_; conv => whnf)
                | (refine CallK.ret f_quotaref19_at.ok ((rat_some hat rfl (by omega))) ?_; rintro v G ⟨rfl, rfl⟩; conv => whnf)
                | fail)
              refine DrawK.intro tab_ok mixed f_quotaref19_Left.last22 f_quotaref19_Left.plan22 _ (by kernel_rfl) (Sub.of (by first | exact Imp.refl _ | exact Imp.drop | exact Imp.fin | ((repeat (refine Imp.pick ?_)); first | exact Imp.refl _ | exact Imp.emp _ | exact Imp.fin))) ?_
              conv => whnf
              repeat' (first
                | (refine spl_f (by with_reducible exact ndec_self _) ?_; conv => whnf)
                | (refine spl_f (by with_reducible exact nbeq_self _) ?_; conv => whnf)
                | (refine spl_t (by with_reducible exact beq_self _) ?_; conv => whnf)
                | (refine spl_dec (fun hd => ?_) (fun hd => ?_) <;> first | (exfalso; omega) | (conv => whnf))
                | (refine spl_ndec (fun hd => ?_) (fun hd => ?_) <;> first | (exfalso; omega) | (conv => whnf))
                | (refine spl_intro (fun hd => ?_) (fun hd => ?_) <;> (conv => whnf))
                | (refine Ld.i ?_; conv => whnf)
                | (refine LdN.i ?_; conv => whnf)
                | (refine St.i ⟨rfl, rfl⟩ (List.cons_ne_nil _ _) ?_; conv => whnf)
                | (refine Ar.i64 (by omega) ?_; conv => whnf)
                | (refine Ar.u64 (by omega) ?_; conv => whnf)
                | (refine Ar.i64d (by omega) (by omega) ?_; conv => whnf)
                | (refine Shr.i (by rfl) (by decide) ?_; conv => whnf)
                | (refine Shl.i (by rfl) (by decide) ?_; conv => whnf)
                | (refine Req.mk (by omega) ?_; conv => whnf)
                | (intro blk hblk; conv => whnf)
                | (refine IxS.r (i := j) rfl rfl hjl (fun ab off ha => ?_); cases ha; conv => whnf)
                | (refine LdN.r hju rfl ?_; conv => whnf)
                | (refine Ld.r hju rfl ?_; conv => whnf)
                | (refine Ld.r0 hju rfl ?_; conv => whnf)
                | (refine LdN.rp hju ?_; conv => whnf)
                | (refine Sub.on (by first | exact Imp.refl _ | exact Imp.drop | exact Imp.fin | ((repeat (refine Imp.pick ?_)); first | exact Imp.refl _ | exact Imp.emp _ | exact Imp.fin)) ?_; conv => whnf)
                | (refine Sub.on (Imp.trans KeepC.h (by first | exact Imp.refl _ | exact Imp.drop | exact Imp.fin | ((repeat (refine Imp.pick ?_)); first | exact Imp.refl _ | exact Imp.emp _ | exact Imp.fin))) ?_; conv => whnf)
                | (refine OpX.of_quiet (OpQ.eqs rfl rfl ?_); conv => whnf)
                | (refine OpX.of_quiet (OpQ.nes rfl rfl ?_); conv => whnf)
                | (refine OpQ.eqs rfl rfl ?_; conv => whnf)
                | (refine OpQ.nes rfl rfl ?_; conv => whnf)
                | fail)
              iterate 3
                · refine ⟨_, _, rfl, ?_, none, 0, rfl, rfl⟩
                  refine Imp.vnil ?_
                  first | exact Imp.refl _ | exact Imp.drop | exact Imp.fin | ((repeat (refine Imp.pick ?_)); first | exact Imp.refl _ | exact Imp.emp _ | exact Imp.fin)
              · exact absurd (show sameH x u from ⟨by assumption, and_of (by assumption), and_of (by assumption)⟩) hf
        · by_cases k5 : x.kind = 5
          · have e1 : left1 tx m x = (0, []) := by rw [left1, if_neg (by simpa using h2), if_neg k3, if_neg k4, if_pos k5]
            rw [e1] at hm hk' hh' hl'
            rw [if_pos rfl] at hm
            repeat' (first
              | (refine spl_f (by with_reducible exact ndec_self _) ?_; conv => whnf)
              | (refine spl_f (by with_reducible exact nbeq_self _) ?_; conv => whnf)
              | (refine spl_t (by with_reducible exact beq_self _) ?_; conv => whnf)
              | (refine spl_dec (fun hd => ?_) (fun hd => ?_) <;> first | (exfalso; omega) | (conv => whnf))
              | (refine spl_ndec (fun hd => ?_) (fun hd => ?_) <;> first | (exfalso; omega) | (conv => whnf))
              | (refine spl_intro (fun hd => ?_) (fun hd => ?_) <;> (conv => whnf))
              | (refine Ld.i ?_; conv => whnf)
              | (refine LdN.i ?_; conv => whnf)
              | (refine St.i ⟨rfl, rfl⟩ (List.cons_ne_nil _ _) ?_; conv => whnf)
              | (refine Ar.i64 (by omega) ?_; conv => whnf)
              | (refine Ar.u64 (by omega) ?_; conv => whnf)
              | (refine Ar.i64d (by omega) (by omega) ?_; conv => whnf)
              | (refine Shr.i (by rfl) (by decide) ?_; conv => whnf)
              | (refine Shl.i (by rfl) (by decide) ?_; conv => whnf)
              | (refine Req.mk (by omega) ?_; conv => whnf)
              | (intro blk hblk; conv => whnf)
              | (refine IxS.r (i := i) rfl rfl h1 (fun ab off ha => ?_); subst ha; conv => whnf)
              | (refine LdN.r hxi rfl ?_; conv => whnf)
              | (refine Ld.r hxi rfl ?_; conv => whnf)
              | (refine Ld.r0 hxi rfl ?_; conv => whnf)
              | (refine LdN.rp hxi ?_; conv => whnf)
              | (refine CallK.ret f_quotaref19_at.ok ((rat_spec rfl (by omega))) ?_; rintro v G ⟨rfl, rfl⟩; conv => whnf)
              | fail)
            refine ⟨rfl, (i + 1, [], none, 0), ⟨h1, KeyOk.nil, hh', by simp, hm⟩, fun t v h => h, ?_, by dsimp only; omega⟩
            refine Imp.vnil ?_
            first | exact Imp.refl _ | exact Imp.drop | exact Imp.fin | ((repeat (refine Imp.pick ?_)); first | exact Imp.refl _ | exact Imp.emp _ | exact Imp.fin)
          · have e1 : left1 tx m x = (0, m) := by rw [left1, if_neg (by simpa using h2), if_neg k3, if_neg k4, if_neg k5]
            rw [e1] at hm
            rw [if_pos rfl] at hm
            repeat' (first
              | (refine spl_f (by with_reducible exact ndec_self _) ?_; conv => whnf)
              | (refine spl_f (by with_reducible exact nbeq_self _) ?_; conv => whnf)
              | (refine spl_t (by with_reducible exact beq_self _) ?_; conv => whnf)
              | (refine spl_dec (fun hd => ?_) (fun hd => ?_) <;> first | (exfalso; omega) | (conv => whnf))
              | (refine spl_ndec (fun hd => ?_) (fun hd => ?_) <;> first | (exfalso; omega) | (conv => whnf))
              | (refine spl_intro (fun hd => ?_) (fun hd => ?_) <;> (conv => whnf))
              | (refine Ld.i ?_; conv => whnf)
              | (refine LdN.i ?_; conv => whnf)
              | (refine St.i ⟨rfl, rfl⟩ (List.cons_ne_nil _ _) ?_; conv => whnf)
              | (refine Ar.i64 (by omega) ?_; conv => whnf)
              | (refine Ar.u64 (by omega) ?_; conv => whnf)
              | (refine Ar.i64d (by omega) (by omega) ?_; conv => whnf)
              | (refine Shr.i (by rfl) (by decide) ?_; conv => whnf)
              | (refine Shl.i (by rfl) (by decide) ?_; conv => whnf)
              | (refine Req.mk (by omega) ?_; conv => whnf)
              | (intro blk hblk; conv => whnf)
              | (refine IxS.r (i := i) rfl rfl h1 (fun ab off ha => ?_); subst ha; conv => whnf)
              | (refine LdN.r hxi rfl ?_; conv => whnf)
              | (refine Ld.r hxi rfl ?_; conv => whnf)
              | (refine Ld.r0 hxi rfl ?_; conv => whnf)
              | (refine LdN.rp hxi ?_; conv => whnf)
              | (refine CallK.ret f_quotaref19_at.ok ((rat_spec rfl (by omega))) ?_; rintro v G ⟨rfl, rfl⟩; conv => whnf)
              | fail)
            refine ⟨rfl, (i + 1, m, ha, hc), ⟨h1, hk, hh, by dsimp only; omega, hm⟩, fun t v h => h, ?_, by dsimp only; omega⟩
            first | exact Imp.refl _ | exact Imp.drop | exact Imp.fin | ((repeat (refine Imp.pick ?_)); first | exact Imp.refl _ | exact Imp.emp _ | exact Imp.fin)
    · have e1 : left1 tx m x = (0, m) := by rw [left1, if_pos h2]
      rw [e1] at hm
      rw [if_pos rfl] at hm
      repeat' (first
        | (refine spl_f (by with_reducible exact ndec_self _) ?_; conv => whnf)
        | (refine spl_f (by with_reducible exact nbeq_self _) ?_; conv => whnf)
        | (refine spl_t (by with_reducible exact beq_self _) ?_; conv => whnf)
        | (refine spl_dec (fun hd => ?_) (fun hd => ?_) <;> first | (exfalso; omega) | (conv => whnf))
        | (refine spl_ndec (fun hd => ?_) (fun hd => ?_) <;> first | (exfalso; omega) | (conv => whnf))
        | (refine spl_intro (fun hd => ?_) (fun hd => ?_) <;> (conv => whnf))
        | (refine Ld.i ?_; conv => whnf)
        | (refine LdN.i ?_; conv => whnf)
        | (refine St.i ⟨rfl, rfl⟩ (List.cons_ne_nil _ _) ?_; conv => whnf)
        | (refine Ar.i64 (by omega) ?_; conv => whnf)
        | (refine Ar.u64 (by omega) ?_; conv => whnf)
        | (refine Ar.i64d (by omega) (by omega) ?_; conv => whnf)
        | (refine Shr.i (by rfl) (by decide) ?_; conv => whnf)
        | (refine Shl.i (by rfl) (by decide) ?_; conv => whnf)
        | (refine Req.mk (by omega) ?_; conv => whnf)
        | (intro blk hblk; conv => whnf)
        | (refine IxS.r (i := i) rfl rfl h1 (fun ab off ha => ?_); subst ha; conv => whnf)
        | (refine LdN.r hxi rfl ?_; conv => whnf)
        | (refine Ld.r hxi rfl ?_; conv => whnf)
        | (refine Ld.r0 hxi rfl ?_; conv => whnf)
        | (refine LdN.rp hxi ?_; conv => whnf)
        | fail)
      refine ⟨rfl, (i + 1, m, ha, hc), ⟨h1, hk, hh, by dsimp only; omega, hm⟩, fun t v h => h, ?_, by dsimp only; omega⟩
      first | exact Imp.refl _ | exact Imp.drop | exact Imp.fin | ((repeat (refine Imp.pick ?_)); first | exact Imp.refl _ | exact Imp.emp _ | exact Imp.fin)
  · rw [drop_all h1, leftG] at hm
    rw [← hm, if_pos rfl]
    repeat' (first
      | (refine spl_f (by with_reducible exact ndec_self _) ?_; conv => whnf)
      | (refine spl_f (by with_reducible exact nbeq_self _) ?_; conv => whnf)
      | (refine spl_t (by with_reducible exact beq_self _) ?_; conv => whnf)
      | (refine spl_dec (fun hd => ?_) (fun hd => ?_) <;> first | (exfalso; omega) | (conv => whnf))
      | (refine spl_ndec (fun hd => ?_) (fun hd => ?_) <;> first | (exfalso; omega) | (conv => whnf))
      | (refine spl_intro (fun hd => ?_) (fun hd => ?_) <;> (conv => whnf))
      | (refine Ld.i ?_; conv => whnf)
      | (refine LdN.i ?_; conv => whnf)
      | (refine St.i ⟨rfl, rfl⟩ (List.cons_ne_nil _ _) ?_; conv => whnf)
      | (refine Ar.i64 (by omega) ?_; conv => whnf)
      | (refine Ar.u64 (by omega) ?_; conv => whnf)
      | (refine Ar.i64d (by omega) (by omega) ?_; conv => whnf)
      | (refine Shr.i (by rfl) (by decide) ?_; conv => whnf)
      | (refine Shl.i (by rfl) (by decide) ?_; conv => whnf)
      | (refine Req.mk (by omega) ?_; conv => whnf)
      | (intro blk hblk; conv => whnf)
      | fail)
    refine CallK.ret f_quotaref19_rising.ok (rising_spec (m := m) rfl hk (by omega)) ?_
    rintro v G ⟨oa, oc, rfl, rfl⟩
    repeat' (first
      | (refine spl_f (by with_reducible exact ndec_self _) ?_; conv => whnf)
      | (refine spl_f (by with_reducible exact nbeq_self _) ?_; conv => whnf)
      | (refine spl_t (by with_reducible exact beq_self _) ?_; conv => whnf)
      | (refine spl_dec (fun hd => ?_) (fun hd => ?_) <;> first | (exfalso; omega) | (conv => whnf))
      | (refine spl_ndec (fun hd => ?_) (fun hd => ?_) <;> first | (exfalso; omega) | (conv => whnf))
      | (refine spl_intro (fun hd => ?_) (fun hd => ?_) <;> (conv => whnf))
      | (refine Ld.i ?_; conv => whnf)
      | (refine LdN.i ?_; conv => whnf)
      | (refine St.i ⟨rfl, rfl⟩ (List.cons_ne_nil _ _) ?_; conv => whnf)
      | (refine Ar.i64 (by omega) ?_; conv => whnf)
      | (refine Ar.u64 (by omega) ?_; conv => whnf)
      | (refine Ar.i64d (by omega) (by omega) ?_; conv => whnf)
      | (refine Shr.i (by rfl) (by decide) ?_; conv => whnf)
      | (refine Shl.i (by rfl) (by decide) ?_; conv => whnf)
      | (refine Req.mk (by omega) ?_; conv => whnf)
      | (intro blk hblk; conv => whnf)
      | fail)
    refine ⟨_, _, rfl, ?_, oa, oc, rfl, rfl⟩
    first | exact Imp.refl _ | exact Imp.drop | exact Imp.fin | ((repeat (refine Imp.pick ?_)); first | exact Imp.refl _ | exact Imp.emp _ | exact Imp.fin)
end Go.Proofs.YtacpnjlijjgbmaaGreatDoor
