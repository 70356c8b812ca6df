/- The document's Check of a checkpoint, walked. Conditions: in each statement. -/
import Derived.Test.YtijnojaneheaeaaPtsCheck
namespace Go.Proofs.Ytijnojaneheaeaa
open Go Go.SL Go.SL.Pts
theorem rdirty_spec {W : World} {R : HProp} {a : Option Addr} {n cap : Nat} {dv : List DirtyV} [c : RowC W R a 2 dirtyv dv] (hn : n = dv.length) :
    Does prog W f_quotaref05_Dirty ⟨[.slice a n cap]⟩ R (Ret fun v G => v = .bool (if dv.length > 16 then false else cpDirty 0 (-1) dv) ∧ G = R) := by
  subst hn
  refine f_quotaref05_Dirty.does _ ?_
  conv => whnf
  repeat' (first
    | (refine Ld.i ?_; conv => whnf)
    | (refine LdN.i ?_; conv => whnf)
    | (refine St.i ⟨rfl, rfl⟩ (List.cons_ne_nil _ _) ?_; conv => whnf)
    | (refine Ar.i64 (by omega) ?_; conv => whnf)
    | (intro blk hblk; conv => whnf)
    | (refine spl_f (by simp only [decide_true, Bool.not_true]) ?_; conv => whnf)
    | (refine spl_dec (fun hd => ?_) (fun hd => ?_) <;> first | (exfalso; omega) | (conv => whnf))
    | (refine spl_ndec (fun hd => ?_) (fun hd => ?_) <;> first | (exfalso; omega) | (conv => whnf))
    | (refine spl_intro (fun hd => ?_) (fun hd => ?_) <;> conv => whnf)
    | fail)
  · refine Ret.eq (congrArg Value.bool (if_pos (by omega)).symm) (Imp.refl _)
  rw [if_neg (by omega)]
  refine LoopK.keep tab_ok (L := f_quotaref05_Dirty.live) (ι := Nat × Int) (fun i => i.1 ≤ dv.length ∧ cpDirty 0 i.2 (dv.drop i.1) = cpDirty 0 (-1) dv ∧ ((i.1 = 0 ∧ i.2 = -1) ∨ ∃ k y, i.1 = k + 1 ∧ dv[k]? = some y ∧ y.1 = i.2 ∧ 0 ≤ i.2)) (fun i => [(3, .int .i64 i.1)]) (fun i => dv.length - i.1) (0, -1) (by simp) (fun t v h => h) ?_
  rintro ⟨i, last⟩ ⟨hi, hm, hl⟩
  dsimp only at hi hm hl ⊢
  conv => whnf
  by_cases h1 : i < dv.length
  · obtain ⟨x, hx⟩ : ∃ x, dv[i]? = some x := ⟨_, List.getElem?_eq_getElem h1⟩
    rw [drop_of hx, cpDirty] at hm
    rcases hl with ⟨rfl, rfl⟩ | ⟨k, y, rfl, hy, hyl, hy1⟩
    · repeat' (first
        | (refine Ld.i ?_; conv => whnf)
        | (refine LdN.i ?_; conv => whnf)
        | (refine St.i ⟨rfl, rfl⟩ (List.cons_ne_nil _ _) ?_; conv => whnf)
        | (refine Ar.i64 (by omega) ?_; conv => whnf)
        | (intro blk hblk; conv => whnf)
        | (refine spl_f (by simp only [decide_true, Bool.not_true]) ?_; conv => whnf)
        | (refine spl_dec (fun hd => ?_) (fun hd => ?_) <;> first | (exfalso; omega) | (conv => whnf))
        | (refine spl_ndec (fun hd => ?_) (fun hd => ?_) <;> first | (exfalso; omega) | (conv => whnf))
        | (refine spl_intro (fun hd => ?_) (fun hd => ?_) <;> conv => whnf)
        | (refine IxS.r (i := 0) rfl rfl h1 (fun ab off ha => ?_); cases ha; conv => whnf)
        | (refine LdN.r hx rfl ?_; conv => whnf)
        | (refine Ld.r hx rfl ?_; conv => whnf)
        | (refine Ld.r0 hx rfl ?_; conv => whnf)
        | (refine CallK.ret f_quotaref05_within.ok (within_spec) ?_; rintro v G ⟨rfl, rfl⟩; conv => whnf)
        | (refine DrawK.intro tab_ok mixed f_quotaref05_Dirty.last6 f_quotaref05_Dirty.plan6 _ (by kernel_rfl) (Sub.of (by first | exact Imp.refl _ | exact Imp.drop | exact Imp.fin | ((repeat (refine Imp.pick ?_)); first | exact Imp.refl _ | exact Imp.emp _ | exact Imp.fin))) ?_; conv => whnf)
        | (refine Sub.on (by first | exact Imp.refl _ | exact Imp.drop | exact Imp.fin | ((repeat (refine Imp.pick ?_)); first | exact Imp.refl _ | exact Imp.emp _ | exact Imp.fin)) ?_; conv => whnf)
        | fail)
      iterate 2
        · rw [if_pos (by omega)] at hm
          refine Ret.eq (congrArg Value.bool hm) ?_
          first | exact Imp.refl _ | exact Imp.drop | exact Imp.fin | ((repeat (refine Imp.pick ?_)); first | exact Imp.refl _ | exact Imp.emp _ | exact Imp.fin)
      · rw [if_neg (by omega)] at hm
        refine ⟨rfl, (0 + 1, x.1), ⟨h1, hm, .inr ⟨0, x, rfl, hx, rfl, by dsimp only; omega⟩⟩, fun t v h => h, ?_, by dsimp only; omega⟩
        first | exact Imp.refl _ | exact Imp.drop | exact Imp.fin | ((repeat (refine Imp.pick ?_)); first | exact Imp.refl _ | exact Imp.emp _ | exact Imp.fin)
    · repeat' (first
        | (refine Ld.i ?_; conv => whnf)
        | (refine LdN.i ?_; conv => whnf)
        | (refine St.i ⟨rfl, rfl⟩ (List.cons_ne_nil _ _) ?_; conv => whnf)
        | (refine Ar.i64 (by omega) ?_; conv => whnf)
        | (intro blk hblk; conv => whnf)
        | (refine spl_f (by simp only [decide_true, Bool.not_true]) ?_; conv => whnf)
        | (refine spl_dec (fun hd => ?_) (fun hd => ?_) <;> first | (exfalso; omega) | (conv => whnf))
        | (refine spl_ndec (fun hd => ?_) (fun hd => ?_) <;> first | (exfalso; omega) | (conv => whnf))
        | (refine spl_intro (fun hd => ?_) (fun hd => ?_) <;> conv => whnf)
        | (refine IxS.r (i := (k+1)) rfl rfl h1 (fun ab off ha => ?_); cases ha; conv => whnf)
        | (refine LdN.r hx rfl ?_; conv => whnf)
        | (refine Ld.r hx rfl ?_; conv => whnf)
        | (refine Ld.r0 hx rfl ?_; conv => whnf)
        | (refine CallK.ret f_quotaref05_within.ok (within_spec) ?_; rintro v G ⟨rfl, rfl⟩; conv => whnf)
        | (refine DrawK.intro tab_ok mixed f_quotaref05_Dirty.last6 f_quotaref05_Dirty.plan6 _ (by kernel_rfl) (Sub.of (by first | exact Imp.refl _ | exact Imp.drop | exact Imp.fin | ((repeat (refine Imp.pick ?_)); first | exact Imp.refl _ | exact Imp.emp _ | exact Imp.fin))) ?_; conv => whnf)
        | (refine Sub.on (by first | exact Imp.refl _ | exact Imp.drop | exact Imp.fin | ((repeat (refine Imp.pick ?_)); first | exact Imp.refl _ | exact Imp.emp _ | exact Imp.fin)) ?_; conv => whnf)
        | (refine IxS.r (i := k) (by omega) rfl (by omega) (fun ab off ha => ?_); cases ha; conv => whnf)
        | (refine LdN.r hy rfl ?_; conv => whnf)
        | (refine Ld.r hy rfl ?_; conv => whnf)
        | (refine Ld.r0 hy rfl ?_; conv => whnf)
        | fail)
      iterate 3
        · rw [if_pos (by omega)] at hm
          refine Ret.eq (congrArg Value.bool hm) ?_
          first | exact Imp.refl _ | exact Imp.drop | exact Imp.fin | ((repeat (refine Imp.pick ?_)); first | exact Imp.refl _ | exact Imp.emp _ | exact Imp.fin)
      · rw [if_neg (by omega)] at hm
        refine ⟨rfl, ((k + 1) + 1, x.1), ⟨h1, hm, .inr ⟨k + 1, x, rfl, hx, rfl, by dsimp only; omega⟩⟩, fun t v h => h, ?_, by dsimp only; omega⟩
        first | exact Imp.refl _ | exact Imp.drop | exact Imp.fin | ((repeat (refine Imp.pick ?_)); first | exact Imp.refl _ | exact Imp.emp _ | exact Imp.fin)
  · rw [drop_all h1, cpDirty] at hm
    repeat' (first
      | (refine Ld.i ?_; conv => whnf)
      | (refine LdN.i ?_; conv => whnf)
      | (refine St.i ⟨rfl, rfl⟩ (List.cons_ne_nil _ _) ?_; conv => whnf)
      | (refine Ar.i64 (by omega) ?_; conv => whnf)
      | (intro blk hblk; conv => whnf)
      | (refine spl_f (by simp only [decide_true, Bool.not_true]) ?_; conv => whnf)
      | (refine spl_dec (fun hd => ?_) (fun hd => ?_) <;> first | (exfalso; omega) | (conv => whnf))
      | (refine spl_ndec (fun hd => ?_) (fun hd => ?_) <;> first | (exfalso; omega) | (conv => whnf))
      | (refine spl_intro (fun hd => ?_) (fun hd => ?_) <;> conv => whnf)
      | fail)
    refine Ret.eq (congrArg Value.bool hm) ?_
    first | exact Imp.refl _ | exact Imp.drop | exact Imp.fin | ((repeat (refine Imp.pick ?_)); first | exact Imp.refl _ | exact Imp.emp _ | exact Imp.fin)
theorem rpoints_spec {W : World} {R : HProp} {a b : Option Addr} {n n' cap cap' : Nat} {nx : Int} {lv : List LiveV} {dv : List DirtyV} [c : RowC W R a 4 livev lv] [d : RowC W R b 2 dirtyv dv] (hn : n = lv.length) (hn' : n' = dv.length) :
    Does prog W f_quotaref05_points ⟨[.agg ⟨[.slice a n cap, .slice b n' cap', .int .i64 nx]⟩, i0]⟩ R (Ret fun v G => v = .bool (cpF nx 0 lv dv) ∧ G = R) := by
  subst hn hn'
  rw [cpF]
  refine f_quotaref05_points.does _ _ ?_
  conv => whnf
  repeat' (first
    | (refine Ld.i ?_; conv => whnf)
    | (refine LdN.i ?_; conv => whnf)
    | (refine St.i ⟨rfl, rfl⟩ (List.cons_ne_nil _ _) ?_; conv => whnf)
    | (refine Ar.i64 (by omega) ?_; conv => whnf)
    | (intro blk hblk; conv => whnf)
    | (refine spl_f (by simp only [decide_true, Bool.not_true]) ?_; conv => whnf)
    | (refine spl_dec (fun hd => ?_) (fun hd => ?_) <;> first | (exfalso; omega) | (conv => whnf))
    | (refine spl_ndec (fun hd => ?_) (fun hd => ?_) <;> first | (exfalso; omega) | (conv => whnf))
    | (refine spl_intro (fun hd => ?_) (fun hd => ?_) <;> conv => whnf)
    | (refine CallK.ret f_quotaref05_Live.ok ((rlive_spec (lv := lv) rfl (by omega))) ?_; rintro v G ⟨rfl, rfl⟩; conv => whnf)
    | (refine CallK.ret f_quotaref05_Dirty.ok ((rdirty_spec (dv := dv) rfl)) ?_; rintro v G ⟨rfl, rfl⟩; conv => whnf)
    | fail)
  iterate 2
    · refine Ret.eq (congrArg Value.bool (if_pos (by omega)).symm) ?_
      first | exact Imp.refl _ | exact Imp.drop | exact Imp.fin | ((repeat (refine Imp.pick ?_)); first | exact Imp.refl _ | exact Imp.emp _ | exact Imp.fin)
  · refine Ret.eq (congrArg Value.bool ?_) ?_
    · by_cases h5 : lv.length > 32
      · rw [if_pos (by omega)]
      · have hd' : (!if lv.length > 32 then false else cpLive nx 0 0 lv) = true := by assumption
        rw [if_neg h5] at hd'
        have : cpLive nx 0 0 lv = false := by simpa using hd'
        split <;> simp [this]
    · first | exact Imp.refl _ | exact Imp.drop | exact Imp.fin | ((repeat (refine Imp.pick ?_)); first | exact Imp.refl _ | exact Imp.emp _ | exact Imp.fin)
  · refine Ret.eq (congrArg Value.bool ?_) ?_
    · by_cases h5 : dv.length > 16
      · rw [if_pos (by omega)]
      · have hd' : (!if dv.length > 16 then false else cpDirty 0 (-1) dv) = true := by assumption
        rw [if_neg h5] at hd'
        have : cpDirty 0 (-1) dv = false := by simpa using hd'
        split <;> simp [this]
    · first | exact Imp.refl _ | exact Imp.drop | exact Imp.fin | ((repeat (refine Imp.pick ?_)); first | exact Imp.refl _ | exact Imp.emp _ | exact Imp.fin)
  have e1 : (!if lv.length > 32 then false else cpLive nx 0 0 lv) = false := by assumption
  have e2 : (!if dv.length > 16 then false else cpDirty 0 (-1) dv) = false := by assumption
  have h1 : ¬ lv.length > 32 := fun h => by rw [if_pos h] at e1; cases e1
  have h2 : ¬ dv.length > 16 := fun h => by rw [if_pos h] at e2; cases e2
  rw [if_neg h1] at e1
  rw [if_neg h2] at e2
  rw [if_neg (by omega), show cpLive nx 0 0 lv = true by simpa using e1, show cpDirty 0 (-1) dv = true by simpa using e2]
  refine LoopK.keep tab_ok (L := f_quotaref05_points.live) (ι := Nat) (fun i => i ≤ lv.length) (fun i => [(5, .int .i64 i)]) (fun i => lv.length - i) 0 (by simp) (fun t v h => h) ?_
  intro i hi
  conv => whnf
  repeat' (first
    | (refine Ld.i ?_; conv => whnf)
    | (refine LdN.i ?_; conv => whnf)
    | (refine St.i ⟨rfl, rfl⟩ (List.cons_ne_nil _ _) ?_; conv => whnf)
    | (refine Ar.i64 (by omega) ?_; conv => whnf)
    | (intro blk hblk; conv => whnf)
    | (refine spl_f (by simp only [decide_true, Bool.not_true]) ?_; conv => whnf)
    | (refine spl_dec (fun hd => ?_) (fun hd => ?_) <;> first | (exfalso; omega) | (conv => whnf))
    | (refine spl_ndec (fun hd => ?_) (fun hd => ?_) <;> first | (exfalso; omega) | (conv => whnf))
    | (refine spl_intro (fun hd => ?_) (fun hd => ?_) <;> conv => whnf)
    | fail)
  · exact ⟨rfl, i + 1, by omega, fun t v h => h, Imp.refl _, by omega⟩
  refine LoopK.keep tab_ok (L := f_quotaref05_points.live) (ι := Nat) (fun i => i ≤ dv.length) (fun i => [(6, .int .i64 i)]) (fun i => dv.length - i) 0 (by simp) (fun t v h => h) ?_
  intro i hi
  conv => whnf
  repeat' (first
    | (refine Ld.i ?_; conv => whnf)
    | (refine LdN.i ?_; conv => whnf)
    | (refine St.i ⟨rfl, rfl⟩ (List.cons_ne_nil _ _) ?_; conv => whnf)
    | (refine Ar.i64 (by omega) ?_; conv => whnf)
    | (intro blk hblk; conv => whnf)
    | (refine spl_f (by simp only [decide_true, Bool.not_true]) ?_; conv => whnf)
    | (refine spl_dec (fun hd => ?_) (fun hd => ?_) <;> first | (exfalso; omega) | (conv => whnf))
    | (refine spl_ndec (fun hd => ?_) (fun hd => ?_) <;> first | (exfalso; omega) | (conv => whnf))
    | (refine spl_intro (fun hd => ?_) (fun hd => ?_) <;> conv => whnf)
    | fail)
  · exact ⟨rfl, i + 1, by omega, fun t v h => h, Imp.refl _, by omega⟩
  · refine Ret.eq rfl ?_
    first | exact Imp.refl _ | exact Imp.drop | exact Imp.fin | ((repeat (refine Imp.pick ?_)); first | exact Imp.refl _ | exact Imp.emp _ | exact Imp.fin)
theorem apart_spec {W : World} {R : HProp} {lv dv nx kind lsn tx pv : Value} : Does prog W f_quotaref05_apart ⟨[.agg ⟨[lsn, kind, tx, pv, i0, i0, i0, i0, i0, i0, i0, i0, i0, i0, lv, dv, nx]⟩]⟩ R (Ret fun v G => v = .bool true ∧ G = R) := by
  refine f_quotaref05_apart.does _ ?_
  conv => whnf
  repeat' (first
    | (refine Ld.i ?_; conv => whnf)
    | (refine LdN.i ?_; conv => whnf)
    | (refine St.i ⟨rfl, rfl⟩ (List.cons_ne_nil _ _) ?_; conv => whnf)
    | (refine Ar.i64 (by omega) ?_; conv => whnf)
    | (intro blk hblk; conv => whnf)
    | (refine spl_f (by simp only [decide_true, Bool.not_true]) ?_; conv => whnf)
    | (refine spl_dec (fun hd => ?_) (fun hd => ?_) <;> first | (exfalso; omega) | (conv => whnf))
    | (refine spl_ndec (fun hd => ?_) (fun hd => ?_) <;> first | (exfalso; omega) | (conv => whnf))
    | (refine spl_intro (fun hd => ?_) (fun hd => ?_) <;> conv => whnf)
    | (refine OpX.of_quiet (OpQ.eqs rfl rfl ?_); conv => whnf)
    | (refine OpX.of_quiet (OpQ.nes rfl rfl ?_); conv => whnf)
    | (refine OpQ.eqs rfl rfl ?_; conv => whnf)
    | (refine OpQ.nes rfl rfl ?_; conv => whnf)
    | fail)
  refine Ret.eq rfl ?_
  first | exact Imp.refl _ | exact Imp.drop | exact Imp.fin | ((repeat (refine Imp.pick ?_)); first | exact Imp.refl _ | exact Imp.emp _ | exact Imp.fin)
theorem fields_spec {W : World} {R : HProp} {a b : Option Addr} {n n' cap cap' : Nat} {nx : Int} {lv : List LiveV} {dv : List DirtyV} [c : RowC W R a 4 livev lv] [d : RowC W R b 2 dirtyv dv] (hn : n = lv.length) (hn' : n' = dv.length) :
    Does prog W f_quotaref05_fields ⟨[.agg ⟨[i0, .int .i64 8, i0, i0, i0, i0, i0, i0, i0, i0, i0, i0, i0, i0, .slice a n cap, .slice b n' cap', .int .i64 nx]⟩]⟩ R (Ret fun v G => v = .bool (cpF nx 0 lv dv) ∧ G = R) := by
  refine f_quotaref05_fields.does _ ?_
  conv => whnf
  repeat' (first
    | (refine Ld.i ?_; conv => whnf)
    | (refine LdN.i ?_; conv => whnf)
    | (refine St.i ⟨rfl, rfl⟩ (List.cons_ne_nil _ _) ?_; conv => whnf)
    | (refine Ar.i64 (by omega) ?_; conv => whnf)
    | (intro blk hblk; conv => whnf)
    | (refine spl_f (by simp only [decide_true, Bool.not_true]) ?_; conv => whnf)
    | (refine spl_dec (fun hd => ?_) (fun hd => ?_) <;> first | (exfalso; omega) | (conv => whnf))
    | (refine spl_ndec (fun hd => ?_) (fun hd => ?_) <;> first | (exfalso; omega) | (conv => whnf))
    | (refine spl_intro (fun hd => ?_) (fun hd => ?_) <;> conv => whnf)
    | (refine CallK.ret f_quotaref05_within.ok (within_spec) ?_; rintro v G ⟨rfl, rfl⟩; conv => whnf)
    | (refine OpX.of_quiet (OpQ.eqs rfl rfl ?_); conv => whnf)
    | (refine OpX.of_quiet (OpQ.nes rfl rfl ?_); conv => whnf)
    | (refine OpQ.eqs rfl rfl ?_; conv => whnf)
    | (refine OpQ.nes rfl rfl ?_; conv => whnf)
    | (refine CallK.ret f_quotaref05_apart.ok (apart_spec) ?_; rintro v G ⟨rfl, rfl⟩; conv => whnf)
    | (refine CallK.ret f_quotaref05_points.ok ((rpoints_spec (lv := lv) (dv := dv) hn hn')) ?_; rintro v G ⟨rfl, rfl⟩; conv => whnf)
    | fail)
  refine Ret.eq rfl ?_
  first | exact Imp.refl _ | exact Imp.drop | exact Imp.fin | ((repeat (refine Imp.pick ?_)); first | exact Imp.refl _ | exact Imp.emp _ | exact Imp.fin)
theorem r5check_spec {W : World} {R : HProp} {a b : Option Addr} {n n' cap cap' : Nat} {nx : Int} {lv : List LiveV} {dv : List DirtyV} [c : RowC W R a 4 livev lv] [d : RowC W R b 2 dirtyv dv] (hn : n = lv.length) (hn' : n' = dv.length) :
    Does prog W f_quotaref05_Check ⟨[.agg ⟨[i0, .int .i64 8, i0, i0, i0, i0, i0, i0, i0, i0, i0, i0, i0, i0, .slice a n cap, .slice b n' cap', .int .i64 nx]⟩]⟩ R (Ret fun v G => v = .int .i64 (if cpF nx 0 lv dv = true then 0 else 23) ∧ G = R) := by
  refine f_quotaref05_Check.does _ ?_
  conv => whnf
  repeat' (first
    | (refine Ld.i ?_; conv => whnf)
    | (refine LdN.i ?_; conv => whnf)
    | (refine St.i ⟨rfl, rfl⟩ (List.cons_ne_nil _ _) ?_; conv => whnf)
    | (refine Ar.i64 (by omega) ?_; conv => whnf)
    | (intro blk hblk; conv => whnf)
    | (refine spl_f (by simp only [decide_true, Bool.not_true]) ?_; conv => whnf)
    | (refine spl_dec (fun hd => ?_) (fun hd => ?_) <;> first | (exfalso; omega) | (conv => whnf))
    | (refine spl_ndec (fun hd => ?_) (fun hd => ?_) <;> first | (exfalso; omega) | (conv => whnf))
    | (refine spl_intro (fun hd => ?_) (fun hd => ?_) <;> conv => whnf)
    | (refine CallK.ret f_quotaref05_fields.ok ((fields_spec (lv := lv) (dv := dv) hn hn')) ?_; rintro v G ⟨rfl, rfl⟩; conv => whnf)
    | fail)
  · have hd' : cpF nx 0 lv dv = false := by simp_all
    refine Ret.eq (by rw [hd']; rfl) ?_
    first | exact Imp.refl _ | exact Imp.drop | exact Imp.fin | ((repeat (refine Imp.pick ?_)); first | exact Imp.refl _ | exact Imp.emp _ | exact Imp.fin)
  · have hd' : cpF nx 0 lv dv = true := by simp_all
    refine Ret.eq (by rw [hd']; rfl) ?_
    first | exact Imp.refl _ | exact Imp.drop | exact Imp.fin | ((repeat (refine Imp.pick ?_)); first | exact Imp.refl _ | exact Imp.emp _ | exact Imp.fin)
theorem r16check_spec {W : World} {R : HProp} {a b : Option Addr} {n n' cap cap' : Nat} {nx : Int} {lv : List LiveV} {dv : List DirtyV} [c : RowC W R a 4 livev lv] [d : RowC W R b 2 dirtyv dv] (hn : n = lv.length) (hn' : n' = dv.length) :
    Does prog W f_quotaref16_Check ⟨[.agg ⟨[.slice a n cap, .slice b n' cap', .int .i64 nx]⟩]⟩ R (Ret fun v G => v = .int .i64 (if cpF nx 0 lv dv = true then 0 else 23) ∧ G = R) := by
  refine f_quotaref16_Check.does _ ?_
  conv => whnf
  repeat' (first
    | (refine Ld.i ?_; conv => whnf)
    | (refine LdN.i ?_; conv => whnf)
    | (refine St.i ⟨rfl, rfl⟩ (List.cons_ne_nil _ _) ?_; conv => whnf)
    | (refine Ar.i64 (by omega) ?_; conv => whnf)
    | (intro blk hblk; conv => whnf)
    | (refine spl_f (by simp only [decide_true, Bool.not_true]) ?_; conv => whnf)
    | (refine spl_dec (fun hd => ?_) (fun hd => ?_) <;> first | (exfalso; omega) | (conv => whnf))
    | (refine spl_ndec (fun hd => ?_) (fun hd => ?_) <;> first | (exfalso; omega) | (conv => whnf))
    | (refine spl_intro (fun hd => ?_) (fun hd => ?_) <;> conv => whnf)
    | (refine CallK.ret f_quotaref05_Check.ok ((r5check_spec (lv := lv) (dv := dv) hn hn')) ?_; rintro v G ⟨rfl, rfl⟩; conv => whnf)
    | fail)
  refine Ret.eq rfl ?_
  first | exact Imp.refl _ | exact Imp.drop | exact Imp.fin | ((repeat (refine Imp.pick ?_)); first | exact Imp.refl _ | exact Imp.emp _ | exact Imp.fin)
end Go.Proofs.Ytijnojaneheaeaa
