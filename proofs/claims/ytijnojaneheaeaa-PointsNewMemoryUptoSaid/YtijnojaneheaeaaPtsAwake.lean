/- The examples, walked. No condition. -/
import Derived.Test.YtijnojaneheaeaaPtsMerge
import Derived.Test.YtijnojaneheaeaaPtsLaw
import Derived.Test.YtijnojaneheaeaaPtsCheck
namespace Go.Proofs.Ytijnojaneheaeaa
open Go Go.SL Go.SL.Pts
theorem num_spec {W : World} {R : HProp} {n : Int} : Does prog W f_quotalaw16_num ⟨[.int .i64 n]⟩ R (Ret fun v G => v = .int .i64 n ∧ G = R) := by
  refine f_quotalaw16_num.does _ ?_
  conv => whnf
  repeat' (first
    | (refine spl_f (by with_reducible exact ndec_self _) ?_; conv => whnf)
    | (refine spl_f (by with_reducible exact nbeq_self _) ?_; conv => whnf)
    | (refine spl_t (by with_reducible exact beq_self _) ?_; conv => whnf)
    | (refine spl_dec (fun hd => ?_) (fun hd => ?_) <;> first | (exfalso; omega) | (conv => whnf))
    | (refine spl_ndec (fun hd => ?_) (fun hd => ?_) <;> first | (exfalso; omega) | (conv => whnf))
    | (refine spl_intro (fun hd => ?_) (fun hd => ?_) <;> (conv => whnf))
    | (refine Ld.i ?_; conv => whnf)
    | (refine LdN.i ?_; conv => whnf)
    | (refine St.i ⟨rfl, rfl⟩ (List.cons_ne_nil _ _) ?_; conv => whnf)
    | (refine Ar.i64 (by omega) ?_; conv => whnf)
    | (refine Ar.u64 (by omega) ?_; conv => whnf)
    | (refine Shr.i (by rfl) (by decide) ?_; conv => whnf)
    | (refine Shl.i (by rfl) (by decide) ?_; conv => whnf)
    | (refine Req.mk (by omega) ?_; conv => whnf)
    | (intro blk hblk; conv => whnf)
    | fail)
  exact Ret.eq rfl (Imp.refl _)
theorem take_nil {W : World} {R : HProp} : Does prog W f_points_Take ⟨[.pointer none, .pointer none]⟩ R (Ret fun v G => v = .tuple ⟨[.agg ⟨[.slice none 0 0, .slice none 0 0, i0]⟩, .int .i64 3]⟩ ∧ G = R) := by
  refine f_points_Take.does _ _ ?_
  conv => whnf
  repeat' (first
    | (refine spl_f (by with_reducible exact ndec_self _) ?_; conv => whnf)
    | (refine spl_f (by with_reducible exact nbeq_self _) ?_; conv => whnf)
    | (refine spl_t (by with_reducible exact beq_self _) ?_; conv => whnf)
    | (refine spl_dec (fun hd => ?_) (fun hd => ?_) <;> first | (exfalso; omega) | (conv => whnf))
    | (refine spl_ndec (fun hd => ?_) (fun hd => ?_) <;> first | (exfalso; omega) | (conv => whnf))
    | (refine spl_intro (fun hd => ?_) (fun hd => ?_) <;> (conv => whnf))
    | (refine Ld.i ?_; conv => whnf)
    | (refine LdN.i ?_; conv => whnf)
    | (refine St.i ⟨rfl, rfl⟩ (List.cons_ne_nil _ _) ?_; conv => whnf)
    | (refine Ar.i64 (by omega) ?_; conv => whnf)
    | (refine Ar.u64 (by omega) ?_; conv => whnf)
    | (refine Shr.i (by rfl) (by decide) ?_; conv => whnf)
    | (refine Shl.i (by rfl) (by decide) ?_; conv => whnf)
    | (refine Req.mk (by omega) ?_; conv => whnf)
    | (intro blk hblk; conv => whnf)
    | fail)
  refine Ret.eq rfl ?_
  first | exact Imp.refl _ | exact Imp.drop | exact Imp.fin | ((repeat (refine Imp.pick ?_)); first | exact Imp.refl _ | exact Imp.emp _ | exact Imp.fin)
theorem merge_as {W : World} {R : HProp} {a b : Option Addr} {n n' cap cap' : Nat} {xs ys L : List DirtyV} {e : Int} [c : RowC W R a 2 dirtyv xs] [d : RowC W R b 2 dirtyv ys] (h : mergeF xs ys = (e, L)) (hn : n = xs.length) (hn' : n' = ys.length) (hb : xs.length + ys.length ≤ 1000000) :
    Does prog W f_points_Merge ⟨[.slice a n cap, .slice b n' cap']⟩ R (Ret fun v G => ∃ a cap, v = .tuple ⟨[.slice a L.length cap, .int .i64 e]⟩ ∧ G = (vec t_api_Dirty 2 dirtyv a cap L • R)) := by
  have := merge_spec (W := W) (R := R) (a := a) (b := b) (cap := cap) (cap' := cap') hn hn' hb
  rwa [h] at this
theorem m1 : mergeF [(3, 9), (1, 4)] [(3, 2)] = (0, [(1, 4), (3, 2)]) := by rw [mergeF_eq]; rfl
theorem m2 : mergeF [(3, 0)] [(64, 1)] = (23, []) := by rw [mergeF_eq]; rfl
theorem pcheck_as {W : World} {R : HProp} {a b : Option Addr} {n n' cap cap' : Nat} {nx z : Int} {lv : List LiveV} {dv : List DirtyV} (c : RowC W R a 4 livev lv) (d : RowC W R b 2 dirtyv dv) (h : (if cpF nx 0 lv dv = true then (0 : Int) else 23) = z) (hn : n = lv.length) (hn' : n' = dv.length) :
    Does prog W f_points_Check ⟨[.agg ⟨[.slice a n cap, .slice b n' cap', .int .i64 nx]⟩]⟩ R (Ret fun v G => v = .int .i64 z ∧ G = R) := by
  subst h
  exact pcheck_spec hn hn'
theorem awake_spec {W : World} {R : HProp} : Does prog W f_quotalaw16_awake ⟨[]⟩ R (Ret fun v G => v = .bool true ∧ G = R) := by
  refine f_quotalaw16_awake.does ?_
  conv => whnf
  repeat' (first
    | (refine spl_f (by with_reducible exact ndec_self _) ?_; conv => whnf)
    | (refine spl_f (by with_reducible exact nbeq_self _) ?_; conv => whnf)
    | (refine spl_t (by with_reducible exact beq_self _) ?_; conv => whnf)
    | (refine spl_dec (fun hd => ?_) (fun hd => ?_) <;> first | (exfalso; omega) | (conv => whnf))
    | (refine spl_ndec (fun hd => ?_) (fun hd => ?_) <;> first | (exfalso; omega) | (conv => whnf))
    | (refine spl_intro (fun hd => ?_) (fun hd => ?_) <;> (conv => whnf))
    | (refine Ld.i ?_; conv => whnf)
    | (refine LdN.i ?_; conv => whnf)
    | (refine St.i ⟨rfl, rfl⟩ (List.cons_ne_nil _ _) ?_; conv => whnf)
    | (refine Ar.i64 (by omega) ?_; conv => whnf)
    | (refine Ar.u64 (by omega) ?_; conv => whnf)
    | (refine Shr.i (by rfl) (by decide) ?_; conv => whnf)
    | (refine Shl.i (by rfl) (by decide) ?_; conv => whnf)
    | (refine Req.mk (by omega) ?_; conv => whnf)
    | (intro blk hblk; conv => whnf)
    | (refine CallK.ret f_points_Merge.ok ((merge_as m1 rfl rfl (by simp))) ?_; rintro v G ⟨la, lc, rfl, rfl⟩; conv => whnf)
    | (refine CallK.ret f_points_Merge.ok ((merge_as m2 rfl rfl (by simp))) ?_; rintro v G ⟨la, lc, rfl, rfl⟩; conv => whnf)
    | (refine CallK.ret f_points_Take.ok (take_nil) ?_; rintro v G ⟨rfl, rfl⟩; conv => whnf)
    | (refine CallK.ret f_quotalaw16_num.ok (num_spec) ?_; rintro v G ⟨rfl, rfl⟩; conv => whnf)
    | (refine OpX.of_quiet (OpQ.eqs rfl rfl ?_); conv => whnf)
    | (refine OpX.of_quiet (OpQ.nes rfl rfl ?_); conv => whnf)
    | (refine OpQ.eqs rfl rfl ?_; conv => whnf)
    | (refine OpQ.nes rfl rfl ?_; conv => whnf)
    | (refine IxS.r (i := 1) rfl rfl (by simp) (fun ab off ha => ?_); cases ha; conv => whnf)
    | (refine LdN.r (i := 1) rfl rfl ?_; conv => whnf)
    | (refine CallK.ret f_points_Check.ok ((pcheck_as (nx := 1) (z := 0) (lv := []) (dv := []) RowC.nil RowC.nil rfl rfl rfl)) ?_; rintro v G ⟨rfl, rfl⟩; conv => whnf)
    | (refine CallK.ret f_points_Check.ok ((pcheck_as (nx := 0) (z := 23) (lv := []) (dv := []) RowC.nil RowC.nil rfl rfl rfl)) ?_; rintro v G ⟨rfl, rfl⟩; conv => whnf)
    | (refine CallK.ret f_points_From.ok ((from_spec rfl (by simp))) ?_; rintro v G ⟨rfl, rfl⟩; conv => whnf)
    | fail)
  refine Ret.eq rfl ?_
  first | exact Imp.refl _ | exact Imp.drop | exact Imp.fin | ((repeat (refine Imp.pick ?_)); first | exact Imp.refl _ | exact Imp.emp _ | exact Imp.fin)
end Go.Proofs.Ytijnojaneheaeaa
