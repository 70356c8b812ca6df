/- record.Check of a checkpoint, walked. Conditions: in each statement. -/
import Derived.Test.YtijnojaneheaeaaPtsFrom
namespace Go.Proofs.Ytijnojaneheaeaa
open Go Go.SL Go.SL.Pts

theorem in_spec {W : World} {R : HProp} {n lo hi : Int} : Does prog W f_record_in ⟨[.int .i64 n, .int .i64 lo, .int .i64 hi]⟩ R (Ret fun v G => v = .bool (decide (lo ≤ n ∧ n ≤ hi)) ∧ G = R) := by
  refine f_record_in.does _ _ _ ?_
  conv => whnf
  repeat' (first
    | (refine spl_f (by with_reducible exact ndec_self _) ?_; conv => whnf)
    | (refine spl_f (by with_reducible exact nbeq_self _) ?_; conv => whnf)
    | (refine spl_t (by with_reducible exact beq_self _) ?_; conv => whnf)
    | (refine spl_dec (fun hd => ?_) (fun hd => ?_) <;> first | (exfalso; omega) | (conv => whnf))
    | (refine spl_ndec (fun hd => ?_) (fun hd => ?_) <;> first | (exfalso; omega) | (conv => whnf))
    | (refine spl_intro (fun hd => ?_) (fun hd => ?_) <;> (conv => whnf))
    | (refine Ld.i ?_; conv => whnf)
    | (refine LdN.i ?_; conv => whnf)
    | (refine St.i ⟨rfl, rfl⟩ (List.cons_ne_nil _ _) ?_; conv => whnf)
    | (refine Ar.i64 (by omega) ?_; conv => whnf)
    | (refine Ar.u64 (by omega) ?_; conv => whnf)
    | (refine Shr.i (by rfl) (by decide) ?_; conv => whnf)
    | (refine Shl.i (by rfl) (by decide) ?_; conv => whnf)
    | (refine Req.mk (by omega) ?_; conv => whnf)
    | (intro blk hblk; conv => whnf)
    | fail)
  · refine Ret.eq (congrArg Value.bool (decide_eq_decide.2 (by omega))) (Imp.refl _)
  · refine Ret.eq (congrArg Value.bool (decide_eq_false (by omega)).symm) (Imp.refl _)
theorem below_spec {W : World} {R : HProp} {n l : Int} : Does prog W f_record_below ⟨[.int .i64 n, .int .i64 l]⟩ R (Ret fun v G => v = .bool (decide (l = 0 ∨ n < l)) ∧ G = R) := by
  refine f_record_below.does _ _ ?_
  conv => whnf
  repeat' (first
    | (refine spl_f (by with_reducible exact ndec_self _) ?_; conv => whnf)
    | (refine spl_f (by with_reducible exact nbeq_self _) ?_; conv => whnf)
    | (refine spl_t (by with_reducible exact beq_self _) ?_; conv => whnf)
    | (refine spl_dec (fun hd => ?_) (fun hd => ?_) <;> first | (exfalso; omega) | (conv => whnf))
    | (refine spl_ndec (fun hd => ?_) (fun hd => ?_) <;> first | (exfalso; omega) | (conv => whnf))
    | (refine spl_intro (fun hd => ?_) (fun hd => ?_) <;> (conv => whnf))
    | (refine Ld.i ?_; conv => whnf)
    | (refine LdN.i ?_; conv => whnf)
    | (refine St.i ⟨rfl, rfl⟩ (List.cons_ne_nil _ _) ?_; conv => whnf)
    | (refine Ar.i64 (by omega) ?_; conv => whnf)
    | (refine Ar.u64 (by omega) ?_; conv => whnf)
    | (refine Shr.i (by rfl) (by decide) ?_; conv => whnf)
    | (refine Shl.i (by rfl) (by decide) ?_; conv => whnf)
    | (refine Req.mk (by omega) ?_; conv => whnf)
    | (intro blk hblk; conv => whnf)
    | fail)
  · refine Ret.eq (congrArg Value.bool (decide_eq_true (by omega)).symm) (Imp.refl _)
  · refine Ret.eq (congrArg Value.bool (decide_eq_decide.2 (by omega))) (Imp.refl _)
theorem checkpoint_spec {W : World} {R : HProp} {a b : Option Addr} {n n' cap cap' : Nat} {nx lsn : Int} {lv : List LiveV} {dv : List DirtyV} [c : RowC W R a 4 livev lv] [d : RowC W R b 2 dirtyv dv] (hn : n = lv.length) (hn' : n' = dv.length) :
    Does prog W f_record_checkpoint ⟨[.agg ⟨[.slice a n cap, .slice b n' cap', .int .i64 nx]⟩, .int .i64 lsn]⟩ R (Ret fun v G => v = .bool (cpF nx lsn lv dv) ∧ G = R) := by
  subst hn hn'
  refine f_record_checkpoint.does _ _ ?_
  conv => whnf
  repeat' (first
    | (refine spl_f (by with_reducible exact ndec_self _) ?_; conv => whnf)
    | (refine spl_f (by with_reducible exact nbeq_self _) ?_; conv => whnf)
    | (refine spl_t (by with_reducible exact beq_self _) ?_; conv => whnf)
    | (refine spl_dec (fun hd => ?_) (fun hd => ?_) <;> first | (exfalso; omega) | (conv => whnf))
    | (refine spl_ndec (fun hd => ?_) (fun hd => ?_) <;> first | (exfalso; omega) | (conv => whnf))
    | (refine spl_intro (fun hd => ?_) (fun hd => ?_) <;> (conv => whnf))
    | (refine Ld.i ?_; conv => whnf)
    | (refine LdN.i ?_; conv => whnf)
    | (refine St.i ⟨rfl, rfl⟩ (List.cons_ne_nil _ _) ?_; conv => whnf)
    | (refine Ar.i64 (by omega) ?_; conv => whnf)
    | (refine Ar.u64 (by omega) ?_; conv => whnf)
    | (refine Shr.i (by rfl) (by decide) ?_; conv => whnf)
    | (refine Shl.i (by rfl) (by decide) ?_; conv => whnf)
    | (refine Req.mk (by omega) ?_; conv => whnf)
    | (intro blk hblk; conv => whnf)
    | (refine CallK.ret f_record_in.ok (in_spec) ?_; rintro v G ⟨rfl, rfl⟩; conv => whnf)
    | fail)
  iterate 3
    · refine Ret.eq (congrArg Value.bool ?_) ?_
      · rw [cpF, if_pos (by omega)]
      · first | exact Imp.refl _ | exact Imp.drop | exact Imp.fin | ((repeat (refine Imp.pick ?_)); first | exact Imp.refl _ | exact Imp.emp _ | exact Imp.fin)
  rw [show cpF nx lsn lv dv = (cpLive nx lsn 0 lv && cpDirty lsn (-1) dv) by rw [cpF, if_neg (by omega)]]
  refine LoopK.keep tab_ok (L := f_record_checkpoint.live) (ι := Nat × Int) (fun i => i.1 ≤ lv.length ∧ cpLive nx lsn i.2 (lv.drop i.1) = cpLive nx lsn 0 lv) (fun i => [(30, .int .i64 i.1), (5, .int .i64 i.2)]) (fun i => lv.length - i.1) (0, 0) (by simp) (fun t v h => h) ?_
  rintro ⟨i, last⟩ ⟨hi, hm⟩
  dsimp only at hi hm ⊢
  conv => whnf
  by_cases h1 : i < lv.length
  · obtain ⟨x, hx⟩ : ∃ x, lv[i]? = some x := ⟨_, List.getElem?_eq_getElem h1⟩
    rw [drop_of hx, cpLive] at hm
    repeat' (first
      | (refine spl_f (by with_reducible exact ndec_self _) ?_; conv => whnf)
      | (refine spl_f (by with_reducible exact nbeq_self _) ?_; conv => whnf)
      | (refine spl_t (by with_reducible exact beq_self _) ?_; conv => whnf)
      | (refine spl_dec (fun hd => ?_) (fun hd => ?_) <;> first | (exfalso; omega) | (conv => whnf))
      | (refine spl_ndec (fun hd => ?_) (fun hd => ?_) <;> first | (exfalso; omega) | (conv => whnf))
      | (refine spl_intro (fun hd => ?_) (fun hd => ?_) <;> (conv => whnf))
      | (refine Ld.i ?_; conv => whnf)
      | (refine LdN.i ?_; conv => whnf)
      | (refine St.i ⟨rfl, rfl⟩ (List.cons_ne_nil _ _) ?_; conv => whnf)
      | (refine Ar.i64 (by omega) ?_; conv => whnf)
      | (refine Ar.u64 (by omega) ?_; conv => whnf)
      | (refine Shr.i (by rfl) (by decide) ?_; conv => whnf)
      | (refine Shl.i (by rfl) (by decide) ?_; conv => whnf)
      | (refine Req.mk (by omega) ?_; conv => whnf)
      | (intro blk hblk; conv => whnf)
      | (refine IxS.r (i := i) rfl rfl h1 (fun ab off ha => ?_); cases ha; conv => whnf)
      | (refine LdN.r hx rfl ?_; conv => whnf)
      | (refine Ld.r hx rfl ?_; conv => whnf)
      | (refine Ld.r0 hx rfl ?_; conv => whnf)
      | (refine LdN.rp hx ?_; conv => whnf)
      | (refine CallK.ret f_record_in.ok (in_spec) ?_; rintro v G ⟨rfl, rfl⟩; conv => whnf)
      | (refine CallK.ret f_record_below.ok (below_spec) ?_; rintro v G ⟨rfl, rfl⟩; conv => whnf)
      | fail)
    iterate 4
      · rw [if_pos (by omega)] at hm
        refine Ret.eq (congrArg Value.bool (by rw [← hm]; rfl)) ?_
        first | exact Imp.refl _ | exact Imp.drop | exact Imp.fin | ((repeat (refine Imp.pick ?_)); first | exact Imp.refl _ | exact Imp.emp _ | exact Imp.fin)
    · rw [if_neg (by omega), if_pos (by constructor <;> assumption)] at hm
      refine Ret.eq (congrArg Value.bool (by rw [← hm]; rfl)) ?_
      first | exact Imp.refl _ | exact Imp.drop | exact Imp.fin | ((repeat (refine Imp.pick ?_)); first | exact Imp.refl _ | exact Imp.emp _ | exact Imp.fin)
    iterate 2
      · rw [if_neg (by omega), if_neg (by simp_all)] at hm
        refine ⟨rfl, (i + 1, x.tx), ⟨h1, hm⟩, fun t v h => h, ?_, by dsimp only; omega⟩
        first | exact Imp.refl _ | exact Imp.drop | exact Imp.fin | ((repeat (refine Imp.pick ?_)); first | exact Imp.refl _ | exact Imp.emp _ | exact Imp.fin)
  · rw [drop_all h1, cpLive] at hm
    rw [← hm, Bool.true_and]
    repeat' (first
      | (refine spl_f (by with_reducible exact ndec_self _) ?_; conv => whnf)
      | (refine spl_f (by with_reducible exact nbeq_self _) ?_; conv => whnf)
      | (refine spl_t (by with_reducible exact beq_self _) ?_; conv => whnf)
      | (refine spl_dec (fun hd => ?_) (fun hd => ?_) <;> first | (exfalso; omega) | (conv => whnf))
      | (refine spl_ndec (fun hd => ?_) (fun hd => ?_) <;> first | (exfalso; omega) | (conv => whnf))
      | (refine spl_intro (fun hd => ?_) (fun hd => ?_) <;> (conv => whnf))
      | (refine Ld.i ?_; conv => whnf)
      | (refine LdN.i ?_; conv => whnf)
      | (refine St.i ⟨rfl, rfl⟩ (List.cons_ne_nil _ _) ?_; conv => whnf)
      | (refine Ar.i64 (by omega) ?_; conv => whnf)
      | (refine Ar.u64 (by omega) ?_; conv => whnf)
      | (refine Shr.i (by rfl) (by decide) ?_; conv => whnf)
      | (refine Shl.i (by rfl) (by decide) ?_; conv => whnf)
      | (refine Req.mk (by omega) ?_; conv => whnf)
      | (intro blk hblk; conv => whnf)
      | fail)
    refine LoopK.keep tab_ok (L := f_record_checkpoint.live) (ι := Nat × Int) (fun i => i.1 ≤ dv.length ∧ cpDirty lsn i.2 (dv.drop i.1) = cpDirty lsn (-1) dv) (fun i => [(72, .int .i64 i.1), (8, .int .i64 i.2)]) (fun i => dv.length - i.1) (0, -1) (by simp) (fun t v h => h) ?_
    rintro ⟨i, page⟩ ⟨hi, hm⟩
    dsimp only at hi hm ⊢
    conv => whnf
    by_cases h1 : i < dv.length
    · obtain ⟨x, hx⟩ : ∃ x, dv[i]? = some x := ⟨_, List.getElem?_eq_getElem h1⟩
      rw [drop_of hx, cpDirty] at hm
      repeat' (first
        | (refine spl_f (by with_reducible exact ndec_self _) ?_; conv => whnf)
        | (refine spl_f (by with_reducible exact nbeq_self _) ?_; conv => whnf)
        | (refine spl_t (by with_reducible exact beq_self _) ?_; conv => whnf)
        | (refine spl_dec (fun hd => ?_) (fun hd => ?_) <;> first | (exfalso; omega) | (conv => whnf))
        | (refine spl_ndec (fun hd => ?_) (fun hd => ?_) <;> first | (exfalso; omega) | (conv => whnf))
        | (refine spl_intro (fun hd => ?_) (fun hd => ?_) <;> (conv => whnf))
        | (refine Ld.i ?_; conv => whnf)
        | (refine LdN.i ?_; conv => whnf)
        | (refine St.i ⟨rfl, rfl⟩ (List.cons_ne_nil _ _) ?_; conv => whnf)
        | (refine Ar.i64 (by omega) ?_; conv => whnf)
        | (refine Ar.u64 (by omega) ?_; conv => whnf)
        | (refine Shr.i (by rfl) (by decide) ?_; conv => whnf)
        | (refine Shl.i (by rfl) (by decide) ?_; conv => whnf)
        | (refine Req.mk (by omega) ?_; conv => whnf)
        | (intro blk hblk; conv => whnf)
        | (refine IxS.r (i := i) rfl rfl h1 (fun ab off ha => ?_); cases ha; conv => whnf)
        | (refine LdN.r hx rfl ?_; conv => whnf)
        | (refine Ld.r hx rfl ?_; conv => whnf)
        | (refine Ld.r0 hx rfl ?_; conv => whnf)
        | (refine LdN.rp hx ?_; conv => whnf)
        | (refine CallK.ret f_record_in.ok (in_spec) ?_; rintro v G ⟨rfl, rfl⟩; conv => whnf)
        | (refine CallK.ret f_record_below.ok (below_spec) ?_; rintro v G ⟨rfl, rfl⟩; conv => whnf)
        | fail)
      iterate 4
        · rw [if_pos (by omega)] at hm
          refine Ret.eq (congrArg Value.bool hm) ?_
          first | exact Imp.refl _ | exact Imp.drop | exact Imp.fin | ((repeat (refine Imp.pick ?_)); first | exact Imp.refl _ | exact Imp.emp _ | exact Imp.fin)
      · rw [if_neg (by omega)] at hm
        refine ⟨rfl, (i + 1, x.1), ⟨h1, hm⟩, fun t v h => h, ?_, by dsimp only; omega⟩
        first | exact Imp.refl _ | exact Imp.drop | exact Imp.fin | ((repeat (refine Imp.pick ?_)); first | exact Imp.refl _ | exact Imp.emp _ | exact Imp.fin)
    · rw [drop_all h1, cpDirty] at hm
      repeat' (first
        | (refine spl_f (by with_reducible exact ndec_self _) ?_; conv => whnf)
        | (refine spl_f (by with_reducible exact nbeq_self _) ?_; conv => whnf)
        | (refine spl_t (by with_reducible exact beq_self _) ?_; conv => whnf)
        | (refine spl_dec (fun hd => ?_) (fun hd => ?_) <;> first | (exfalso; omega) | (conv => whnf))
        | (refine spl_ndec (fun hd => ?_) (fun hd => ?_) <;> first | (exfalso; omega) | (conv => whnf))
        | (refine spl_intro (fun hd => ?_) (fun hd => ?_) <;> (conv => whnf))
        | (refine Ld.i ?_; conv => whnf)
        | (refine LdN.i ?_; conv => whnf)
        | (refine St.i ⟨rfl, rfl⟩ (List.cons_ne_nil _ _) ?_; conv => whnf)
        | (refine Ar.i64 (by omega) ?_; conv => whnf)
        | (refine Ar.u64 (by omega) ?_; conv => whnf)
        | (refine Shr.i (by rfl) (by decide) ?_; conv => whnf)
        | (refine Shl.i (by rfl) (by decide) ?_; conv => whnf)
        | (refine Req.mk (by omega) ?_; conv => whnf)
        | (intro blk hblk; conv => whnf)
        | fail)
      refine Ret.eq (congrArg Value.bool hm) ?_
      first | exact Imp.refl _ | exact Imp.drop | exact Imp.fin | ((repeat (refine Imp.pick ?_)); first | exact Imp.refl _ | exact Imp.emp _ | exact Imp.fin)
abbrev i0 : Value := .int .i64 0
theorem blank_spec {W : World} {R : HProp} : Does prog W f_record_blank ⟨[.agg ⟨[i0, .int .i64 8, i0, i0, i0, i0, i0, i0, i0, i0, i0, i0, i0, i0, .slice none 0 0, .slice none 0 0, i0]⟩]⟩ R (Ret fun v G => v = .bool true ∧ G = R) := by
  refine f_record_blank.does _ ?_
  conv => whnf
  repeat' (first
    | (refine spl_f (by with_reducible exact ndec_self _) ?_; conv => whnf)
    | (refine spl_f (by with_reducible exact nbeq_self _) ?_; conv => whnf)
    | (refine spl_t (by with_reducible exact beq_self _) ?_; conv => whnf)
    | (refine spl_dec (fun hd => ?_) (fun hd => ?_) <;> first | (exfalso; omega) | (conv => whnf))
    | (refine spl_ndec (fun hd => ?_) (fun hd => ?_) <;> first | (exfalso; omega) | (conv => whnf))
    | (refine spl_intro (fun hd => ?_) (fun hd => ?_) <;> (conv => whnf))
    | (refine Ld.i ?_; conv => whnf)
    | (refine LdN.i ?_; conv => whnf)
    | (refine St.i ⟨rfl, rfl⟩ (List.cons_ne_nil _ _) ?_; conv => whnf)
    | (refine Ar.i64 (by omega) ?_; conv => whnf)
    | (refine Ar.u64 (by omega) ?_; conv => whnf)
    | (refine Shr.i (by rfl) (by decide) ?_; conv => whnf)
    | (refine Shl.i (by rfl) (by decide) ?_; conv => whnf)
    | (refine Req.mk (by omega) ?_; conv => whnf)
    | (intro blk hblk; conv => whnf)
    | (refine OpX.of_quiet (OpQ.eqs rfl rfl ?_); conv => whnf)
    | (refine OpX.of_quiet (OpQ.nes rfl rfl ?_); conv => whnf)
    | (refine OpQ.eqs rfl rfl ?_; conv => whnf)
    | (refine OpQ.nes rfl rfl ?_; conv => whnf)
    | fail)
  refine Ret.eq rfl ?_
  first | exact Imp.refl _ | exact Imp.drop | exact Imp.fin | ((repeat (refine Imp.pick ?_)); first | exact Imp.refl _ | exact Imp.emp _ | exact Imp.fin)
theorem rcheck_spec {W : World} {R : HProp} {a b : Option Addr} {n n' cap cap' : Nat} {nx : Int} {lv : List LiveV} {dv : List DirtyV} [c : RowC W R a 4 livev lv] [d : RowC W R b 2 dirtyv dv] (hn : n = lv.length) (hn' : n' = dv.length) :
    Does prog W f_record_Check ⟨[.agg ⟨[i0, .int .i64 8, i0, i0, i0, i0, i0, i0, i0, i0, i0, i0, i0, i0, .slice a n cap, .slice b n' cap', .int .i64 nx]⟩]⟩ R (Ret fun v G => v = .int .i64 (if cpF nx 0 lv dv = true then 0 else 23) ∧ G = R) := by
  subst hn hn'
  refine f_record_Check.does _ ?_
  conv => whnf
  repeat' (first
    | (refine spl_f (by with_reducible exact ndec_self _) ?_; conv => whnf)
    | (refine spl_f (by with_reducible exact nbeq_self _) ?_; conv => whnf)
    | (refine spl_t (by with_reducible exact beq_self _) ?_; conv => whnf)
    | (refine spl_dec (fun hd => ?_) (fun hd => ?_) <;> first | (exfalso; omega) | (conv => whnf))
    | (refine spl_ndec (fun hd => ?_) (fun hd => ?_) <;> first | (exfalso; omega) | (conv => whnf))
    | (refine spl_intro (fun hd => ?_) (fun hd => ?_) <;> (conv => whnf))
    | (refine Ld.i ?_; conv => whnf)
    | (refine LdN.i ?_; conv => whnf)
    | (refine St.i ⟨rfl, rfl⟩ (List.cons_ne_nil _ _) ?_; conv => whnf)
    | (refine Ar.i64 (by omega) ?_; conv => whnf)
    | (refine Ar.u64 (by omega) ?_; conv => whnf)
    | (refine Shr.i (by rfl) (by decide) ?_; conv => whnf)
    | (refine Shl.i (by rfl) (by decide) ?_; conv => whnf)
    | (refine Req.mk (by omega) ?_; conv => whnf)
    | (intro blk hblk; conv => whnf)
    | (refine CallK.ret f_record_in.ok (in_spec) ?_; rintro v G ⟨rfl, rfl⟩; conv => whnf)
    | (refine CallK.ret f_record_checkpoint.ok ((checkpoint_spec (lv := lv) (dv := dv) rfl rfl)) ?_; rintro v G ⟨rfl, rfl⟩; conv => whnf)
    | (refine CallK.ret f_record_blank.ok (blank_spec) ?_; rintro v G ⟨rfl, rfl⟩; conv => whnf)
    | fail)
  · have hd' : cpF nx 0 lv dv = false := by simp_all
    refine Ret.eq (by rw [hd']; rfl) ?_
    first | exact Imp.refl _ | exact Imp.drop | exact Imp.fin | ((repeat (refine Imp.pick ?_)); first | exact Imp.refl _ | exact Imp.emp _ | exact Imp.fin)
  · have hd' : cpF nx 0 lv dv = true := by simp_all
    refine Ret.eq (by rw [hd']; rfl) ?_
    first | exact Imp.refl _ | exact Imp.drop | exact Imp.fin | ((repeat (refine Imp.pick ?_)); first | exact Imp.refl _ | exact Imp.emp _ | exact Imp.fin)
theorem pcheck_spec {W : World} {R : HProp} {a b : Option Addr} {n n' cap cap' : Nat} {nx : Int} {lv : List LiveV} {dv : List DirtyV} [c : RowC W R a 4 livev lv] [d : RowC W R b 2 dirtyv dv] (hn : n = lv.length) (hn' : n' = dv.length) :
    Does prog W f_points_Check ⟨[.agg ⟨[.slice a n cap, .slice b n' cap', .int .i64 nx]⟩]⟩ R (Ret fun v G => v = .int .i64 (if cpF nx 0 lv dv = true then 0 else 23) ∧ G = R) := by
  refine f_points_Check.does _ ?_
  conv => whnf
  repeat' (first
    | (refine spl_f (by with_reducible exact ndec_self _) ?_; conv => whnf)
    | (refine spl_f (by with_reducible exact nbeq_self _) ?_; conv => whnf)
    | (refine spl_t (by with_reducible exact beq_self _) ?_; conv => whnf)
    | (refine spl_dec (fun hd => ?_) (fun hd => ?_) <;> first | (exfalso; omega) | (conv => whnf))
    | (refine spl_ndec (fun hd => ?_) (fun hd => ?_) <;> first | (exfalso; omega) | (conv => whnf))
    | (refine spl_intro (fun hd => ?_) (fun hd => ?_) <;> (conv => whnf))
    | (refine Ld.i ?_; conv => whnf)
    | (refine LdN.i ?_; conv => whnf)
    | (refine St.i ⟨rfl, rfl⟩ (List.cons_ne_nil _ _) ?_; conv => whnf)
    | (refine Ar.i64 (by omega) ?_; conv => whnf)
    | (refine Ar.u64 (by omega) ?_; conv => whnf)
    | (refine Shr.i (by rfl) (by decide) ?_; conv => whnf)
    | (refine Shl.i (by rfl) (by decide) ?_; conv => whnf)
    | (refine Req.mk (by omega) ?_; conv => whnf)
    | (intro blk hblk; conv => whnf)
    | (refine CallK.ret f_record_Check.ok ((rcheck_spec (lv := lv) (dv := dv) hn hn')) ?_; rintro v G ⟨rfl, rfl⟩; conv => whnf)
    | fail)
  refine Ret.eq rfl ?_
  first | exact Imp.refl _ | exact Imp.drop | exact Imp.fin | ((repeat (refine Imp.pick ?_)); first | exact Imp.refl _ | exact Imp.emp _ | exact Imp.fin)
theorem within_spec {W : World} {R : HProp} {n lo hi : Int} : Does prog W f_quotaref05_within ⟨[.int .i64 n, .int .i64 lo, .int .i64 hi]⟩ R (Ret fun v G => v = .bool (decide (lo ≤ n ∧ n ≤ hi)) ∧ G = R) := by
  refine f_quotaref05_within.does _ _ _ ?_
  conv => whnf
  repeat' (first
    | (refine spl_f (by with_reducible exact ndec_self _) ?_; conv => whnf)
    | (refine spl_f (by with_reducible exact nbeq_self _) ?_; conv => whnf)
    | (refine spl_t (by with_reducible exact beq_self _) ?_; conv => whnf)
    | (refine spl_dec (fun hd => ?_) (fun hd => ?_) <;> first | (exfalso; omega) | (conv => whnf))
    | (refine spl_ndec (fun hd => ?_) (fun hd => ?_) <;> first | (exfalso; omega) | (conv => whnf))
    | (refine spl_intro (fun hd => ?_) (fun hd => ?_) <;> (conv => whnf))
    | (refine Ld.i ?_; conv => whnf)
    | (refine LdN.i ?_; conv => whnf)
    | (refine St.i ⟨rfl, rfl⟩ (List.cons_ne_nil _ _) ?_; conv => whnf)
    | (refine Ar.i64 (by omega) ?_; conv => whnf)
    | (refine Ar.u64 (by omega) ?_; conv => whnf)
    | (refine Shr.i (by rfl) (by decide) ?_; conv => whnf)
    | (refine Shl.i (by rfl) (by decide) ?_; conv => whnf)
    | (refine Req.mk (by omega) ?_; conv => whnf)
    | (intro blk hblk; conv => whnf)
    | fail)
  · refine Ret.eq (congrArg Value.bool (decide_eq_decide.2 (by omega))) (Imp.refl _)
  · refine Ret.eq (congrArg Value.bool (decide_eq_false (by omega)).symm) (Imp.refl _)
theorem rlive_spec {W : World} {R : HProp} {a : Option Addr} {n cap : Nat} {nx : Int} {lv : List LiveV} [c : RowC W R a 4 livev lv] (hn : n = lv.length) (hnx : 1 ≤ nx ∧ nx ≤ 2147483648) :
    Does prog W f_quotaref05_Live ⟨[.slice a n cap, .int .i64 nx]⟩ R (Ret fun v G => v = .bool (if lv.length > 32 then false else cpLive nx 0 0 lv) ∧ G = R) := by
  subst hn
  refine f_quotaref05_Live.does _ _ ?_
  conv => whnf
  repeat' (first
    | (refine spl_f (by with_reducible exact ndec_self _) ?_; conv => whnf)
    | (refine spl_f (by with_reducible exact nbeq_self _) ?_; conv => whnf)
    | (refine spl_t (by with_reducible exact beq_self _) ?_; conv => whnf)
    | (refine spl_dec (fun hd => ?_) (fun hd => ?_) <;> first | (exfalso; omega) | (conv => whnf))
    | (refine spl_ndec (fun hd => ?_) (fun hd => ?_) <;> first | (exfalso; omega) | (conv => whnf))
    | (refine spl_intro (fun hd => ?_) (fun hd => ?_) <;> (conv => whnf))
    | (refine Ld.i ?_; conv => whnf)
    | (refine LdN.i ?_; conv => whnf)
    | (refine St.i ⟨rfl, rfl⟩ (List.cons_ne_nil _ _) ?_; conv => whnf)
    | (refine Ar.i64 (by omega) ?_; conv => whnf)
    | (refine Ar.u64 (by omega) ?_; conv => whnf)
    | (refine Shr.i (by rfl) (by decide) ?_; conv => whnf)
    | (refine Shl.i (by rfl) (by decide) ?_; conv => whnf)
    | (refine Req.mk (by omega) ?_; conv => whnf)
    | (intro blk hblk; conv => whnf)
    | fail)
  · refine Ret.eq (congrArg Value.bool (if_pos (by omega)).symm) (Imp.refl _)
  rw [if_neg (by omega)]
  refine LoopK.keep tab_ok (L := f_quotaref05_Live.live) (ι := Nat × Int) (fun i => i.1 ≤ lv.length ∧ cpLive nx 0 i.2 (lv.drop i.1) = cpLive nx 0 0 lv ∧ ((i.1 = 0 ∧ i.2 = 0) ∨ ∃ k y, i.1 = k + 1 ∧ lv[k]? = some y ∧ y.tx = i.2 ∧ 1 ≤ i.2)) (fun i => [(5, .int .i64 i.1)]) (fun i => lv.length - i.1) (0, 0) (by simp) (fun t v h => h) ?_
  rintro ⟨i, last⟩ ⟨hi, hm, hl⟩
  dsimp only at hi hm hl ⊢
  conv => whnf
  by_cases h1 : i < lv.length
  · obtain ⟨x, hx⟩ : ∃ x, lv[i]? = some x := ⟨_, List.getElem?_eq_getElem h1⟩
    rw [drop_of hx, cpLive] at hm
    rcases hl with ⟨rfl, rfl⟩ | ⟨k, y, rfl, hy, hyl, hy1⟩
    · repeat' (first
        | (refine spl_f (by with_reducible exact ndec_self _) ?_; conv => whnf)
        | (refine spl_f (by with_reducible exact nbeq_self _) ?_; conv => whnf)
        | (refine spl_t (by with_reducible exact beq_self _) ?_; conv => whnf)
        | (refine spl_dec (fun hd => ?_) (fun hd => ?_) <;> first | (exfalso; omega) | (conv => whnf))
        | (refine spl_ndec (fun hd => ?_) (fun hd => ?_) <;> first | (exfalso; omega) | (conv => whnf))
        | (refine spl_intro (fun hd => ?_) (fun hd => ?_) <;> (conv => whnf))
        | (refine Ld.i ?_; conv => whnf)
        | (refine LdN.i ?_; conv => whnf)
        | (refine St.i ⟨rfl, rfl⟩ (List.cons_ne_nil _ _) ?_; conv => whnf)
        | (refine Ar.i64 (by omega) ?_; conv => whnf)
        | (refine Ar.u64 (by omega) ?_; conv => whnf)
        | (refine Shr.i (by rfl) (by decide) ?_; conv => whnf)
        | (refine Shl.i (by rfl) (by decide) ?_; conv => whnf)
        | (refine Req.mk (by omega) ?_; conv => whnf)
        | (intro blk hblk; conv => whnf)
        | (refine IxS.r (i := 0) rfl rfl h1 (fun ab off ha => ?_); cases ha; conv => whnf)
        | (refine LdN.r hx rfl ?_; conv => whnf)
        | (refine Ld.r hx rfl ?_; conv => whnf)
        | (refine Ld.r0 hx rfl ?_; conv => whnf)
        | (refine LdN.rp hx ?_; conv => whnf)
        | (refine CallK.ret f_quotaref05_within.ok (within_spec) ?_; rintro v G ⟨rfl, rfl⟩; conv => whnf)
        | (refine DrawK.intro tab_ok mixed f_quotaref05_Live.last7 f_quotaref05_Live.plan7 _ (by kernel_rfl) (Sub.of (by first | exact Imp.refl _ | exact Imp.drop | exact Imp.fin | ((repeat (refine Imp.pick ?_)); first | exact Imp.refl _ | exact Imp.emp _ | exact Imp.fin))) ?_; conv => whnf)
        | (refine Sub.on (by first | exact Imp.refl _ | exact Imp.drop | exact Imp.fin | ((repeat (refine Imp.pick ?_)); first | exact Imp.refl _ | exact Imp.emp _ | exact Imp.fin)) ?_; conv => whnf)
        | fail)
      iterate 3
        · rw [if_pos (by omega)] at hm
          refine Ret.eq (congrArg Value.bool hm) ?_
          first | exact Imp.refl _ | exact Imp.drop | exact Imp.fin | ((repeat (refine Imp.pick ?_)); first | exact Imp.refl _ | exact Imp.emp _ | exact Imp.fin)
      · rw [if_neg (by omega), if_pos (by constructor <;> assumption)] at hm
        refine Ret.eq (congrArg Value.bool hm) ?_
        first | exact Imp.refl _ | exact Imp.drop | exact Imp.fin | ((repeat (refine Imp.pick ?_)); first | exact Imp.refl _ | exact Imp.emp _ | exact Imp.fin)
      iterate 2
        · rw [if_neg (by omega), if_neg (by simp_all)] at hm
          refine ⟨rfl, (0 + 1, x.tx), ⟨h1, hm, .inr ⟨0, x, rfl, hx, rfl, by dsimp only; omega⟩⟩, fun t v h => h, ?_, by dsimp only; omega⟩
          first | exact Imp.refl _ | exact Imp.drop | exact Imp.fin | ((repeat (refine Imp.pick ?_)); first | exact Imp.refl _ | exact Imp.emp _ | exact Imp.fin)
    · repeat' (first
        | (refine spl_f (by with_reducible exact ndec_self _) ?_; conv => whnf)
        | (refine spl_f (by with_reducible exact nbeq_self _) ?_; conv => whnf)
        | (refine spl_t (by with_reducible exact beq_self _) ?_; conv => whnf)
        | (refine spl_dec (fun hd => ?_) (fun hd => ?_) <;> first | (exfalso; omega) | (conv => whnf))
        | (refine spl_ndec (fun hd => ?_) (fun hd => ?_) <;> first | (exfalso; omega) | (conv => whnf))
        | (refine spl_intro (fun hd => ?_) (fun hd => ?_) <;> (conv => whnf))
        | (refine Ld.i ?_; conv => whnf)
        | (refine LdN.i ?_; conv => whnf)
        | (refine St.i ⟨rfl, rfl⟩ (List.cons_ne_nil _ _) ?_; conv => whnf)
        | (refine Ar.i64 (by omega) ?_; conv => whnf)
        | (refine Ar.u64 (by omega) ?_; conv => whnf)
        | (refine Shr.i (by rfl) (by decide) ?_; conv => whnf)
        | (refine Shl.i (by rfl) (by decide) ?_; conv => whnf)
        | (refine Req.mk (by omega) ?_; conv => whnf)
        | (intro blk hblk; conv => whnf)
        | (refine IxS.r (i := (k+1)) rfl rfl h1 (fun ab off ha => ?_); cases ha; conv => whnf)
        | (refine LdN.r hx rfl ?_; conv => whnf)
        | (refine Ld.r hx rfl ?_; conv => whnf)
        | (refine Ld.r0 hx rfl ?_; conv => whnf)
        | (refine LdN.rp hx ?_; conv => whnf)
        | (refine CallK.ret f_quotaref05_within.ok (within_spec) ?_; rintro v G ⟨rfl, rfl⟩; conv => whnf)
        | (refine DrawK.intro tab_ok mixed f_quotaref05_Live.last7 f_quotaref05_Live.plan7 _ (by kernel_rfl) (Sub.of (by first | exact Imp.refl _ | exact Imp.drop | exact Imp.fin | ((repeat (refine Imp.pick ?_)); first | exact Imp.refl _ | exact Imp.emp _ | exact Imp.fin))) ?_; conv => whnf)
        | (refine Sub.on (by first | exact Imp.refl _ | exact Imp.drop | exact Imp.fin | ((repeat (refine Imp.pick ?_)); first | exact Imp.refl _ | exact Imp.emp _ | exact Imp.fin)) ?_; conv => whnf)
        | (refine IxS.r (i := k) (by omega) rfl (by omega) (fun ab off ha => ?_); cases ha; conv => whnf)
        | (refine LdN.r hy rfl ?_; conv => whnf)
        | (refine Ld.r hy rfl ?_; conv => whnf)
        | (refine Ld.r0 hy rfl ?_; conv => whnf)
        | (refine LdN.rp hy ?_; conv => whnf)
        | fail)
      iterate 4
        · rw [if_pos (by omega)] at hm
          refine Ret.eq (congrArg Value.bool hm) ?_
          first | exact Imp.refl _ | exact Imp.drop | exact Imp.fin | ((repeat (refine Imp.pick ?_)); first | exact Imp.refl _ | exact Imp.emp _ | exact Imp.fin)
      · rw [if_neg (by omega), if_pos (by constructor <;> assumption)] at hm
        refine Ret.eq (congrArg Value.bool hm) ?_
        first | exact Imp.refl _ | exact Imp.drop | exact Imp.fin | ((repeat (refine Imp.pick ?_)); first | exact Imp.refl _ | exact Imp.emp _ | exact Imp.fin)
      iterate 2
        · rw [if_neg (by omega), if_neg (by simp_all)] at hm
          refine ⟨rfl, ((k + 1) + 1, x.tx), ⟨h1, hm, .inr ⟨(k + 1), x, rfl, hx, rfl, by dsimp only; omega⟩⟩, fun t v h => h, ?_, by dsimp only; omega⟩
          first | exact Imp.refl _ | exact Imp.drop | exact Imp.fin | ((repeat (refine Imp.pick ?_)); first | exact Imp.refl _ | exact Imp.emp _ | exact Imp.fin)
  · rw [drop_all h1, cpLive] at hm
    repeat' (first
      | (refine spl_f (by with_reducible exact ndec_self _) ?_; conv => whnf)
      | (refine spl_f (by with_reducible exact nbeq_self _) ?_; conv => whnf)
      | (refine spl_t (by with_reducible exact beq_self _) ?_; conv => whnf)
      | (refine spl_dec (fun hd => ?_) (fun hd => ?_) <;> first | (exfalso; omega) | (conv => whnf))
      | (refine spl_ndec (fun hd => ?_) (fun hd => ?_) <;> first | (exfalso; omega) | (conv => whnf))
      | (refine spl_intro (fun hd => ?_) (fun hd => ?_) <;> (conv => whnf))
      | (refine Ld.i ?_; conv => whnf)
      | (refine LdN.i ?_; conv => whnf)
      | (refine St.i ⟨rfl, rfl⟩ (List.cons_ne_nil _ _) ?_; conv => whnf)
      | (refine Ar.i64 (by omega) ?_; conv => whnf)
      | (refine Ar.u64 (by omega) ?_; conv => whnf)
      | (refine Shr.i (by rfl) (by decide) ?_; conv => whnf)
      | (refine Shl.i (by rfl) (by decide) ?_; conv => whnf)
      | (refine Req.mk (by omega) ?_; conv => whnf)
      | (intro blk hblk; conv => whnf)
      | fail)
    refine Ret.eq (congrArg Value.bool hm) ?_
    first | exact Imp.refl _ | exact Imp.drop | exact Imp.fin | ((repeat (refine Imp.pick ?_)); first | exact Imp.refl _ | exact Imp.emp _ | exact Imp.fin)
end Go.Proofs.Ytijnojaneheaeaa
