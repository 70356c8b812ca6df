/- PointsExact answers true, and nothing that was there turns. No condition. -/
import Derived.Test.YtijnojaneheaeaaRows
import Derived.Test.YtijnojaneheaeaaPtsLent
import Derived.Test.YtijnojaneheaeaaPtsRef
import Derived.Test.YtijnojaneheaeaaPtsRCheck
import Derived.Test.YtijnojaneheaeaaPtsArgs
import Derived.Test.YtijnojaneheaeaaDec
namespace Go.Proofs.Ytijnojaneheaeaa.pointsExact
open Go Go.SL Go.SL.Pts Go.ChangeShapes Go.WideShapes Go.ChangeAt Go.RowKit
theorem laid : laidOutB Try.prog = true := by kernel_rfl
instance {R : HProp} {a : Option Addr} {cap : Nat} {L : List DirtyV} : VecC (lentc a cap L • R) a t_api_Dirty 2 dirtyv cap (L ++ [((-7 : Int), (-8 : Int))]) R := ⟨.here⟩
theorem live_one : ∀ ys : List LiveV, ∀ v ∈ ys.flatMap livev, v.oneCell' = true := by
  intro ys v hv
  obtain ⟨d, _, hv⟩ := List.mem_flatMap.1 hv
  simp only [livev, List.mem_cons, List.not_mem_nil, or_false] at hv
  rcases hv with rfl | rfl | rfl | rfl <;> rfl
theorem set_mark (L : List DirtyV) (m : DirtyV) (i : Nat) (y : DirtyV) (h : i < L.length) : (L ++ [m]).set i y = L.set i y ++ [m] := List.set_append_left _ _ h

theorem merge_len (X Y : List DirtyV) : (mergeF X Y).2.length ≤ 9223372036854775807 := by
  rw [mergeF_eq]
  split
  · simp
  · have : (outL fun n => mAt n (X ++ Y)).length ≤ 64 := by
      unfold outL
      exact Nat.le_trans (List.length_filterMap_le _ _) (by simp)
    dsimp only; omega
theorem walk {W : World} {la da a b : Option Addr} {ln lc dn dc an ac bn bc : Nat} {nx : Int} {lx : List LiveV} {dx xa xb : List DirtyV} (o0 : OldVec W 4 livev la ln lc lx) (o1 : OldVec W 2 dirtyv da dn dc dx) (o2 : OldVec W 2 dirtyv a an ac xa) (o3 : OldVec W 2 dirtyv b bn bc xb) (hbig : lc * 24 ≤ 140737488351232) :
    Does prog W f_quotalaw16_PointsExact ⟨[.agg ⟨[.slice la ln lc, .slice da dn dc, .int .i64 nx]⟩, .slice a an ac, .slice b bn bc]⟩ (old W • emp) (Ret fun v G => v = .bool true ∧ G = (old W • emp)) := by
  haveI r0 : OldR W 4 livev la lx := o0.r
  haveI r1 : OldR W 2 dirtyv da dx := o1.r
  haveI r2 : OldR W 2 dirtyv a xa := o2.r
  haveI r3 : OldR W 2 dirtyv b xb := o3.r
  have hln := o0.hlen
  have hlc := o0.hcap.1
  have hd2 : (dx.take 2000).length ≤ 2000 := by simp; omega
  have ha2 : (xa.take 2000).length ≤ 2000 := by simp; omega
  have hb2 : (xb.take 2000).length ≤ 2000 := by simp; omega
  obtain ⟨D, hD⟩ : ∃ D, D = dx.take 2000 := ⟨_, rfl⟩
  obtain ⟨X, hX⟩ : ∃ X, X = xa.take 2000 := ⟨_, rfl⟩
  obtain ⟨Y, hY⟩ : ∃ Y, Y = xb.take 2000 := ⟨_, rfl⟩
  rw [← hD] at hd2
  rw [← hX] at ha2
  rw [← hY] at hb2
  refine f_quotalaw16_PointsExact.does _ _ _ ?_
  conv => whnf
  repeat' (first
    | (refine Ld.i ?_; conv => whnf)
    | (refine LdN.i ?_; conv => whnf)
    | (refine St.i ⟨rfl, rfl⟩ (List.cons_ne_nil _ _) ?_; conv => whnf)
    | (refine Ar.i64 (by omega) ?_; conv => whnf)
    | (intro blk hblk; conv => whnf)
    | (refine spl_f (by simp only [decide_true, Bool.not_true]) ?_; conv => whnf)
    | (refine spl_dec (fun hd => ?_) (fun hd => ?_) <;> first | (exfalso; omega) | (conv => whnf))
    | (refine spl_ndec (fun hd => ?_) (fun hd => ?_) <;> first | (exfalso; omega) | (conv => whnf))
    | (refine spl_intro (fun hd => ?_) (fun hd => ?_) <;> conv => whnf)
    | (refine CallK.ret f_quotalaw16_awake.ok (awake_spec) ?_; rintro v G ⟨rfl, rfl⟩; conv => whnf)
    | fail)
  refine CallK.ret f_quotalaw16_lent.ok (lent_spec (c := RowC.there (c := RowC.old (o := r1))) o1.hlen o1.hcap.1) ?_
  rintro v G ⟨pa, ca, rfl, rfl⟩
  rw [← hD]
  repeat' (first
    | (refine Ld.i ?_; conv => whnf)
    | (refine LdN.i ?_; conv => whnf)
    | (refine St.i ⟨rfl, rfl⟩ (List.cons_ne_nil _ _) ?_; conv => whnf)
    | (refine Ar.i64 (by omega) ?_; conv => whnf)
    | (intro blk hblk; conv => whnf)
    | (refine spl_f (by simp only [decide_true, Bool.not_true]) ?_; conv => whnf)
    | (refine spl_dec (fun hd => ?_) (fun hd => ?_) <;> first | (exfalso; omega) | (conv => whnf))
    | (refine spl_ndec (fun hd => ?_) (fun hd => ?_) <;> first | (exfalso; omega) | (conv => whnf))
    | (refine spl_intro (fun hd => ?_) (fun hd => ?_) <;> conv => whnf)
    | fail)
  refine OpX.appN (ys := D) tab_ok rfl rfl rfl rfl rfl (by omega) ⟨rfl, dirty_one⟩ (fun wa wc => ?_)
  repeat' (first
    | (refine Ld.i ?_; conv => whnf)
    | (refine LdN.i ?_; conv => whnf)
    | (refine St.i ⟨rfl, rfl⟩ (List.cons_ne_nil _ _) ?_; conv => whnf)
    | (refine Ar.i64 (by omega) ?_; conv => whnf)
    | (intro blk hblk; conv => whnf)
    | (refine spl_f (by simp only [decide_true, Bool.not_true]) ?_; conv => whnf)
    | (refine spl_dec (fun hd => ?_) (fun hd => ?_) <;> first | (exfalso; omega) | (conv => whnf))
    | (refine spl_ndec (fun hd => ?_) (fun hd => ?_) <;> first | (exfalso; omega) | (conv => whnf))
    | (refine spl_intro (fun hd => ?_) (fun hd => ?_) <;> conv => whnf)
    | fail)
  refine OpX.appN (ys := lx) tab_ok rfl rfl rfl rfl hln (by omega) ⟨rfl, live_one⟩ (fun va vc => ?_)
  repeat' (first
    | (refine Ld.i ?_; conv => whnf)
    | (refine LdN.i ?_; conv => whnf)
    | (refine St.i ⟨rfl, rfl⟩ (List.cons_ne_nil _ _) ?_; conv => whnf)
    | (refine Ar.i64 (by omega) ?_; conv => whnf)
    | (intro blk hblk; conv => whnf)
    | (refine spl_f (by simp only [decide_true, Bool.not_true]) ?_; conv => whnf)
    | (refine spl_dec (fun hd => ?_) (fun hd => ?_) <;> first | (exfalso; omega) | (conv => whnf))
    | (refine spl_ndec (fun hd => ?_) (fun hd => ?_) <;> first | (exfalso; omega) | (conv => whnf))
    | (refine spl_intro (fun hd => ?_) (fun hd => ?_) <;> conv => whnf)
    | (refine DrawK.intro tab_ok mixed f_quotalaw16_PointsExact.last6 f_quotalaw16_PointsExact.plan6 _ (by kernel_rfl) (Sub.of (by first | exact Imp.refl _ | exact Imp.drop | exact Imp.fin | ((repeat (refine Imp.pick ?_)); first | exact Imp.refl _ | exact Imp.emp _ | exact Imp.fin))) ?_; conv => whnf)
    | (refine Sub.on (by first | exact Imp.refl _ | exact Imp.drop | exact Imp.fin | ((repeat (refine Imp.pick ?_)); first | exact Imp.refl _ | exact Imp.emp _ | exact Imp.fin)) ?_; conv => whnf)
    | (refine CallK.ret f_points_Check.ok ((pcheck_spec (lv := lx) (dv := D) hln rfl)) ?_; rintro v G ⟨rfl, rfl⟩; conv => whnf)
    | (refine CallK.ret f_quotalaw16_num.ok (num_spec) ?_; rintro v G ⟨rfl, rfl⟩; conv => whnf)
    | (refine CallK.ret f_quotaref16_Check.ok ((r16check_spec (lv := lx) (dv := D) hln rfl)) ?_; rintro v G ⟨rfl, rfl⟩; conv => whnf)
    | (refine CallK.ret f_points_From.ok ((from_spec (xs := D) rfl (by omega))) ?_; rintro v G ⟨rfl, rfl⟩; conv => whnf)
    | (refine CallK.ret f_quotaref16_From.ok ((rfrom_spec (xs := D) rfl (by omega))) ?_; rintro v G ⟨rfl, rfl⟩; conv => whnf)
    | (refine CallK.ret f_quotalaw16_kept.ok ((kept_spec (L := D) rfl rfl rfl (by omega))) ?_; rintro v G ⟨rfl, rfl⟩; conv => whnf)
    | (refine CallK.ret f_quotalaw16_sameLive.ok ((sameLive_spec (xs := lx) (ys := lx) hln hln (by omega))) ?_; rintro v G ⟨rfl, rfl⟩; conv => whnf)
    | fail)
  refine LoopK.keep tab_ok (L := f_quotalaw16_PointsExact.live) (ι := Nat) (fun i => i ≤ 2) (fun i => [(9, .int .i64 i)]) (fun i => 2 - i) 0 (by simp) (fun t v h => h) ?_
  intro turn ht
  conv => whnf
  refine spl_dec (fun hturn => ?_) (fun hturn => ?_)
  rotate_left 1
  · conv => whnf
    repeat' (first
      | (refine Ld.i ?_; conv => whnf)
      | (refine LdN.i ?_; conv => whnf)
      | (refine St.i ⟨rfl, rfl⟩ (List.cons_ne_nil _ _) ?_; conv => whnf)
      | (refine Ar.i64 (by omega) ?_; conv => whnf)
      | (intro blk hblk; conv => whnf)
      | (refine spl_f (by simp only [decide_true, Bool.not_true]) ?_; conv => whnf)
      | (refine spl_dec (fun hd => ?_) (fun hd => ?_) <;> first | (exfalso; omega) | (conv => whnf))
      | (refine spl_ndec (fun hd => ?_) (fun hd => ?_) <;> first | (exfalso; omega) | (conv => whnf))
      | (refine spl_intro (fun hd => ?_) (fun hd => ?_) <;> conv => whnf)
      | fail)
    refine Ret.eq rfl ?_
    first | exact Imp.refl _ | exact Imp.drop | exact Imp.fin | ((repeat (refine Imp.pick ?_)); first | exact Imp.refl _ | exact Imp.emp _ | exact Imp.fin)
  conv => whnf
  refine CallK.ret f_quotalaw16_lent.ok (lent_spec (xs := xa) o2.hlen o2.hcap.1) ?_
  rintro v G ⟨xp, xc, rfl, rfl⟩
  rw [← hX]
  conv => whnf
  refine CallK.ret f_quotalaw16_lent.ok (lent_spec (xs := xb) o3.hlen o3.hcap.1) ?_
  rintro v G ⟨yp, yc, rfl, rfl⟩
  rw [← hY]
  conv => whnf
  refine OpX.appN (ys := X) tab_ok rfl rfl rfl rfl rfl (by omega) ⟨rfl, dirty_one⟩ (fun xa' xc' => ?_)
  conv => whnf
  refine OpX.appN (ys := Y) tab_ok rfl rfl rfl rfl rfl (by omega) ⟨rfl, dirty_one⟩ (fun ya' yc' => ?_)
  conv => whnf
  repeat' (first
    | (refine Ld.i ?_; conv => whnf)
    | (refine LdN.i ?_; conv => whnf)
    | (refine St.i ⟨rfl, rfl⟩ (List.cons_ne_nil _ _) ?_; conv => whnf)
    | (refine Ar.i64 (by omega) ?_; conv => whnf)
    | (intro blk hblk; conv => whnf)
    | (refine spl_f (by simp only [decide_true, Bool.not_true]) ?_; conv => whnf)
    | (refine spl_dec (fun hd => ?_) (fun hd => ?_) <;> first | (exfalso; omega) | (conv => whnf))
    | (refine spl_ndec (fun hd => ?_) (fun hd => ?_) <;> first | (exfalso; omega) | (conv => whnf))
    | (refine spl_intro (fun hd => ?_) (fun hd => ?_) <;> conv => whnf)
    | (refine CallK.ret f_points_Merge.ok ((merge_spec (xs := X) (ys := Y) rfl rfl (by omega))) ?_; rintro v G ⟨pm, cm, rfl, rfl⟩; conv => whnf)
    | (refine CallK.ret f_quotaref16_Merge.ok ((rmerge_spec (xs := X) (ys := Y) rfl rfl (by omega))) ?_; rintro v G ⟨pm, cm, rfl, rfl⟩; conv => whnf)
    | (refine CallK.ret f_quotalaw16_num.ok (num_spec) ?_; rintro v G ⟨rfl, rfl⟩; conv => whnf)
    | (refine CallK.ret f_quotalaw16_same.ok ((same_spec rfl rfl (merge_len X Y))) ?_; rintro v G ⟨rfl, rfl⟩; conv => whnf)
    | (refine CallK.ret f_quotalaw16_kept.ok ((kept_spec (L := X) rfl rfl rfl (by omega))) ?_; rintro v G ⟨rfl, rfl⟩; conv => whnf)
    | (refine CallK.ret f_quotalaw16_kept.ok ((kept_spec (L := Y) rfl rfl rfl (by omega))) ?_; rintro v G ⟨rfl, rfl⟩; conv => whnf)
    | fail)
  · refine LoopK.at tab_ok (L := f_quotalaw16_PointsExact.live) (ι := Nat × List DirtyV) (fun i => i.1 ≤ X.length ∧ i.2.length = X.length) (fun i => [(18, .int .i64 i.1)]) (fun i => lentc xp xc i.2) (fun i => X.length - i.1) (0, X) ⟨by simp, rfl⟩ (fun t v h => h) (Imp.pick (Imp.refl _)) ?_
    rintro ⟨i, L⟩ ⟨hi, hL⟩
    dsimp only at hi hL ⊢
    conv => whnf
    refine spl_dec (fun h1 => ?_) (fun h1 => ?_)
    · obtain ⟨x, hx⟩ : ∃ x, L[i]? = some x := ⟨_, List.getElem?_eq_getElem (by omega)⟩
      have hx2 : (L ++ [((-7 : Int), (-8 : Int))])[i]? = some x := by rw [List.getElem?_append_left (by omega)]; exact hx
      have b1 := Int.emod_nonneg (i : Int) (show (9 : Int) ≠ 0 by omega)
      have b3 := Int.emod_lt_of_pos (i : Int) (show (0 : Int) < 9 by omega)
      conv => whnf
      repeat' (first
        | (refine Ld.i ?_; conv => whnf)
        | (refine LdN.i ?_; conv => whnf)
        | (refine St.i ⟨rfl, rfl⟩ (List.cons_ne_nil _ _) ?_; conv => whnf)
        | (refine Ar.i64 (by omega) ?_; conv => whnf)
        | (intro blk hblk; conv => whnf)
        | (refine spl_f (by simp only [decide_true, Bool.not_true]) ?_; conv => whnf)
        | (refine spl_dec (fun hd => ?_) (fun hd => ?_) <;> first | (exfalso; omega) | (conv => whnf))
        | (refine spl_ndec (fun hd => ?_) (fun hd => ?_) <;> first | (exfalso; omega) | (conv => whnf))
        | (refine spl_intro (fun hd => ?_) (fun hd => ?_) <;> conv => whnf)
        | (refine CallK.ret f_quotalaw16_brought.ok ((brought_spec (by omega))) ?_; rintro v G ⟨rfl, rfl⟩; conv => whnf)
        | (refine IxS.r (i := i) rfl hL.symm (by omega) (fun ab off ha => ?_); cases ha; conv => whnf)
        | fail)
      refine St.v hx2 (x.1, 1 + (i : Int) % 9) rfl (by simp) ⟨rfl, rfl⟩ ?_
      rw [set_mark _ _ _ _ (by omega)]
      repeat' (first
        | (refine Ld.i ?_; conv => whnf)
        | (refine LdN.i ?_; conv => whnf)
        | (refine St.i ⟨rfl, rfl⟩ (List.cons_ne_nil _ _) ?_; conv => whnf)
        | (refine Ar.i64 (by omega) ?_; conv => whnf)
        | (intro blk hblk; conv => whnf)
        | (refine spl_f (by simp only [decide_true, Bool.not_true]) ?_; conv => whnf)
        | (refine spl_dec (fun hd => ?_) (fun hd => ?_) <;> first | (exfalso; omega) | (conv => whnf))
        | (refine spl_ndec (fun hd => ?_) (fun hd => ?_) <;> first | (exfalso; omega) | (conv => whnf))
        | (refine spl_intro (fun hd => ?_) (fun hd => ?_) <;> conv => whnf)
        | fail)
      refine ⟨rfl, (i + 1, L.set i (x.1, 1 + (i : Int) % 9)), ⟨by dsimp only; omega, by simp [hL]⟩, fun t v h => h, ?_, by dsimp only; omega⟩
      unfold lentc
      first | exact Imp.refl _ | exact Imp.drop | exact Imp.fin | ((repeat (refine Imp.pick ?_)); first | exact Imp.refl _ | exact Imp.emp _ | exact Imp.fin)
    conv => whnf
    repeat' (first
      | (refine Ld.i ?_; conv => whnf)
      | (refine LdN.i ?_; conv => whnf)
      | (refine St.i ⟨rfl, rfl⟩ (List.cons_ne_nil _ _) ?_; conv => whnf)
      | (refine Ar.i64 (by omega) ?_; conv => whnf)
      | (intro blk hblk; conv => whnf)
      | (refine spl_f (by simp only [decide_true, Bool.not_true]) ?_; conv => whnf)
      | (refine spl_dec (fun hd => ?_) (fun hd => ?_) <;> first | (exfalso; omega) | (conv => whnf))
      | (refine spl_ndec (fun hd => ?_) (fun hd => ?_) <;> first | (exfalso; omega) | (conv => whnf))
      | (refine spl_intro (fun hd => ?_) (fun hd => ?_) <;> conv => whnf)
      | fail)
    refine LoopK.at tab_ok (L := f_quotalaw16_PointsExact.live) (ι := Nat × List DirtyV) (fun i => i.1 ≤ Y.length ∧ i.2.length = Y.length) (fun i => [(19, .int .i64 i.1)]) (fun i => lentc yp yc i.2) (fun i => Y.length - i.1) (0, Y) ⟨by simp, rfl⟩ (fun t v h => h) (Imp.pick (Imp.refl _)) ?_
    rintro ⟨i, M⟩ ⟨hi, hM⟩
    dsimp only at hi hM ⊢
    conv => whnf
    refine spl_dec (fun h1 => ?_) (fun h1 => ?_)
    · obtain ⟨x, hx⟩ : ∃ x, M[i]? = some x := ⟨_, List.getElem?_eq_getElem (by omega)⟩
      have hx2 : (M ++ [((-7 : Int), (-8 : Int))])[i]? = some x := by rw [List.getElem?_append_left (by omega)]; exact hx
      have b1 := Int.emod_nonneg (i : Int) (show (64 : Int) ≠ 0 by omega)
      have b3 := Int.emod_lt_of_pos (i : Int) (show (0 : Int) < 64 by omega)
      conv => whnf
      repeat' (first
        | (refine Ld.i ?_; conv => whnf)
        | (refine LdN.i ?_; conv => whnf)
        | (refine St.i ⟨rfl, rfl⟩ (List.cons_ne_nil _ _) ?_; conv => whnf)
        | (refine Ar.i64 (by omega) ?_; conv => whnf)
        | (intro blk hblk; conv => whnf)
        | (refine spl_f (by simp only [decide_true, Bool.not_true]) ?_; conv => whnf)
        | (refine spl_dec (fun hd => ?_) (fun hd => ?_) <;> first | (exfalso; omega) | (conv => whnf))
        | (refine spl_ndec (fun hd => ?_) (fun hd => ?_) <;> first | (exfalso; omega) | (conv => whnf))
        | (refine spl_intro (fun hd => ?_) (fun hd => ?_) <;> conv => whnf)
        | (refine CallK.ret f_quotalaw16_brought.ok ((brought_spec (by omega))) ?_; rintro v G ⟨rfl, rfl⟩; conv => whnf)
        | (refine IxS.r (i := i) rfl hM.symm (by omega) (fun ab off ha => ?_); cases ha; conv => whnf)
        | fail)
      refine St.v0 hx2 ((i : Int) % 64, x.2) rfl (by simp) ⟨rfl, rfl⟩ ?_
      rw [set_mark _ _ _ _ (by omega)]
      repeat' (first
        | (refine Ld.i ?_; conv => whnf)
        | (refine LdN.i ?_; conv => whnf)
        | (refine St.i ⟨rfl, rfl⟩ (List.cons_ne_nil _ _) ?_; conv => whnf)
        | (refine Ar.i64 (by omega) ?_; conv => whnf)
        | (intro blk hblk; conv => whnf)
        | (refine spl_f (by simp only [decide_true, Bool.not_true]) ?_; conv => whnf)
        | (refine spl_dec (fun hd => ?_) (fun hd => ?_) <;> first | (exfalso; omega) | (conv => whnf))
        | (refine spl_ndec (fun hd => ?_) (fun hd => ?_) <;> first | (exfalso; omega) | (conv => whnf))
        | (refine spl_intro (fun hd => ?_) (fun hd => ?_) <;> conv => whnf)
        | fail)
      refine ⟨rfl, (i + 1, M.set i ((i : Int) % 64, x.2)), ⟨by dsimp only; omega, by simp [hM]⟩, fun t v h => h, ?_, by dsimp only; omega⟩
      unfold lentc
      first | exact Imp.refl _ | exact Imp.drop | exact Imp.fin | ((repeat (refine Imp.pick ?_)); first | exact Imp.refl _ | exact Imp.emp _ | exact Imp.fin)
    conv => whnf
    repeat' (first
      | (refine Ld.i ?_; conv => whnf)
      | (refine LdN.i ?_; conv => whnf)
      | (refine St.i ⟨rfl, rfl⟩ (List.cons_ne_nil _ _) ?_; conv => whnf)
      | (refine Ar.i64 (by omega) ?_; conv => whnf)
      | (intro blk hblk; conv => whnf)
      | (refine spl_f (by simp only [decide_true, Bool.not_true]) ?_; conv => whnf)
      | (refine spl_dec (fun hd => ?_) (fun hd => ?_) <;> first | (exfalso; omega) | (conv => whnf))
      | (refine spl_ndec (fun hd => ?_) (fun hd => ?_) <;> first | (exfalso; omega) | (conv => whnf))
      | (refine spl_intro (fun hd => ?_) (fun hd => ?_) <;> conv => whnf)
      | fail)
    repeat' (first
      | (refine Ld.i ?_; conv => whnf)
      | (refine LdN.i ?_; conv => whnf)
      | (refine St.i ⟨rfl, rfl⟩ (List.cons_ne_nil _ _) ?_; conv => whnf)
      | (refine Ar.i64 (by omega) ?_; conv => whnf)
      | (intro blk hblk; conv => whnf)
      | (refine spl_f (by simp only [decide_true, Bool.not_true]) ?_; conv => whnf)
      | (refine spl_dec (fun hd => ?_) (fun hd => ?_) <;> first | (exfalso; omega) | (conv => whnf))
      | (refine spl_ndec (fun hd => ?_) (fun hd => ?_) <;> first | (exfalso; omega) | (conv => whnf))
      | (refine spl_intro (fun hd => ?_) (fun hd => ?_) <;> conv => whnf)
      | (refine CallK.ret f_points_Merge.ok ((merge_spec (xs := L) (ys := M) hL.symm hM.symm (by omega))) ?_; rintro v G ⟨pm, cm, rfl, rfl⟩; conv => whnf)
      | (refine CallK.ret f_quotaref16_Merge.ok ((rmerge_spec (xs := L) (ys := M) hL.symm hM.symm (by omega))) ?_; rintro v G ⟨pm, cm, rfl, rfl⟩; conv => whnf)
      | (refine CallK.ret f_quotalaw16_num.ok (num_spec) ?_; rintro v G ⟨rfl, rfl⟩; conv => whnf)
      | (refine CallK.ret f_quotalaw16_same.ok ((same_spec rfl rfl (merge_len L M))) ?_; rintro v G ⟨rfl, rfl⟩; conv => whnf)
      | fail)
    refine ⟨rfl, turn + 1, by omega, fun t v h => h, ?_, by omega⟩
    first | exact Imp.refl _ | exact Imp.drop | exact Imp.fin | ((repeat (refine Imp.pick ?_)); first | exact Imp.refl _ | exact Imp.emp _ | exact Imp.fin)

theorem live_bd {H : Type} {enc : TypeId × Value → H} {W : World} : ∀ cs d, DecR enc Try.prog W t_api_Live cs d → Fits Try.prog t_api_Live d → ∃ x : LiveV, True ∧ cs = livev x := by
  intro cs d h _
  obtain ⟨hl, hf⟩ := DecR.struct Try.underlying59 h
  have hl : cs.length = 4 := hl.trans (by kernel_rfl)
  have c3 : Try.prog.cellsOf 3 = 1 := by kernel_rfl
  have c4 : Try.prog.cellsOf 4 = 1 := by kernel_rfl
  obtain ⟨y0, h0, _⟩ := hf 0 _ rfl
  obtain ⟨y1, h1, _⟩ := hf 1 _ rfl
  obtain ⟨y2, h2, _⟩ := hf 2 _ rfl
  obtain ⟨y3, h3, _⟩ := hf 3 _ rfl
  obtain ⟨z0, e0, _⟩ := DecR.int Try.underlying3 h0
  obtain ⟨z1, e1, _⟩ := DecR.int Try.underlying3 h1
  obtain ⟨z2, e2⟩ := DecR.bool Try.underlying4 h2
  obtain ⟨z3, e3⟩ := DecR.bool Try.underlying4 h3
  clear h0 h1 h2 h3 hf h
  obtain ⟨a0, a1, a2, a3, rfl⟩ := len4 hl
  simp [c3, c4] at e0 e1 e2 e3
  exact ⟨⟨z0, z1, z2, z3⟩, trivial, by simp [livev, e0, e1, e2, e3]⟩
theorem dirty_bd' {H : Type} {enc : TypeId × Value → H} {W : World} : ∀ cs d, DecR enc Try.prog W t_api_Dirty cs d → Fits Try.prog t_api_Dirty d → ∃ x : DirtyV, True ∧ cs = dirtyv x := fun cs d ⟨n, ps, h⟩ _ => dirty_bd n cs (d, ps) h

set_option maxRecDepth 100000 in
theorem lifted (os : Os) (started : os.Started) (H : Type) (enc : TypeId × Value → H) :
    ReturnsInHanded {} Try.checked os 4 .any (Rows.pointsExactSpec.pre6 enc Try.prog Try.f4 Rows.pointsExactRow.domain false) (Rows.pointsExactSpec.post enc Try.prog Try.f4 false true false false) := by
  refine returnsInHanded_of_change_sized (C := Try.checked) (by kernel_rfl) started (by kernel_rfl) Try.func4
    (ChangeSpec.witness6 (enc := enc) (C := Try.checked) false ⟨#[], #[.agg #[.slice none 0 0, .slice none 0 0, .int .i64 0], .slice none 0 0, .slice none 0 0], []⟩ 8 (by kernel_rfl) (by kernel_rfl) (by kernel_rfl) (by kernel_rfl)) ?_
  intro W base args ds gs before hval0 hW _ hbig0 _
  have hval : ∀ (j : Nat) t v, Try.f4.params[j]? = some t → args[j]? = some v → Value.okWide Try.prog W .any base t v := hval0
  have hW' := hW
  obtain ⟨p, q, hA0, hV, rfl, _, _⟩ := hW'
  have hA : DataW.TrodAll enc Try.prog W 0 (fun _ => true) true Try.f4.params.toList args.toList ds p := hA0
  have hbig : (DataW.weightsEach Try.prog (Try.f4.params.toList ++ Rows.pointsExactSpec.plain.varTypes Try.prog) (ds ++ gs)).all (· ≤ reachBytes) = true := hbig0
  rw [Try.params4] at hA hval hbig
  obtain ⟨v0, v1, v2, d0, d1, d2, q0, q1, q2, rfl, rfl, rfl, h0, h1, h2⟩ := trodAll_three hA
  obtain ⟨rfl, rfl⟩ := trodVars_none hV
  have s24 : ∀ x : DirtyV, (dirtyv x).length = Try.prog.cellsOf 40 := fun _ => by show 2 = _; kernel_rfl
  have s59 : ∀ x : LiveV, (livev x).length = Try.prog.cellsOf 59 := fun _ => by show 4 = _; kernel_rfl
  have p40 : 0 < Try.prog.cellsOf 40 := of_decide_eq_true (by kernel_rfl)
  have p59 : 0 < Try.prog.cellsOf 59 := of_decide_eq_true (by kernel_rfl)
  have c23 : Try.prog.cellsOf 23 = 1 := by kernel_rfl
  have c24 : Try.prog.cellsOf 24 = 1 := by kernel_rfl
  have c3 : Try.prog.cellsOf 3 = 1 := by kernel_rfl
  obtain ⟨cs, rfl, hp⟩ := DecR.agg Try.underlying26 (hval 0 26 v0 rfl rfl) h0
  obtain ⟨a1, n1, k1, rfl, hs1⟩ := DecR.slc Try.underlying24 (hval 1 24 v1 rfl rfl) h1
  obtain ⟨a2, n2, k2, rfl, hs2⟩ := DecR.slc Try.underlying24 (hval 2 24 v2 rfl rfl) h2
  have f0 : Fits Try.prog 26 d0 := Fits.of_each hbig (j := 0) rfl rfl
  have f1 : Fits Try.prog 24 d1 := Fits.of_each hbig (j := 1) rfl rfl
  have f2 : Fits Try.prog 24 d2 := Fits.of_each hbig (j := 2) rfl rfl
  obtain ⟨hl, hf⟩ := DecR.struct Try.underlying26 hp
  have hl : cs.length = 3 := hl.trans (by kernel_rfl)
  obtain ⟨y0, g0, w0⟩ := hf 0 _ rfl
  obtain ⟨y1, g1, w1⟩ := hf 1 _ rfl
  obtain ⟨y2, g2, w2⟩ := hf 2 _ rfl
  obtain ⟨b0, b1, b2, rfl⟩ := len3 hl
  simp only [c23, c24, c3] at g0 g1 g2
  obtain ⟨z2, e2, _⟩ := DecR.int Try.underlying3 g2
  obtain ⟨la, ln, lc, lx, e0, o0, _, hb0⟩ := DecR.slice Try.underlying23 live_bd s59 p59 g0 (w0 f0)
  obtain ⟨da, dn, dc, dx, e1, o1, _, _⟩ := DecR.slice Try.underlying24 dirty_bd' s24 p40 g1 (w1 f0)
  obtain ⟨a1', n1', k1', x1, e3, o2, _, _⟩ := DecR.slice Try.underlying24 dirty_bd' s24 p40 hs1 f1
  obtain ⟨a2', n2', k2', x2, e4, o3, _, _⟩ := DecR.slice Try.underlying24 dirty_bd' s24 p40 hs2 f2
  have h24 : Try.prog.bytesOf 59 = 24 := by kernel_rfl
  rw [h24] at hb0
  simp at e0 e1 e2 e3 e4
  obtain ⟨rfl, rfl, rfl⟩ := e3
  obtain ⟨rfl, rfl, rfl⟩ := e4
  subst e0 e1 e2
  exact (Does.law (walk o0 o1 o2 o3 (by simpa [reachBytes] using hb0))).mono fun e W' ⟨he, hb⟩ => ⟨_, he, law_post hW rfl laid (by kernel_rfl) rfl Try.underlying4 rfl hb⟩

theorem proved : Rows.PointsExactSaid :=
  OpenClaim.holds_of_wide 4 Try.f4 rfl rfl rfl rfl rfl rfl rfl ⟨rfl, rfl, rfl, rfl, rfl⟩ rfl rfl rfl rfl rfl (by kernel_rfl) Try.func4 (by kernel_rfl)
    (of_decide_eq_true (by kernel_rfl)) (by unfold Func.isWrapper; first | (rw [if_pos (by decide +kernel)]; kernel_rfl) | (rw [if_neg (by decide +kernel)]; exact ⟨rfl, rfl⟩))
    (fun os started H enc _ => lifted os started H enc)
end Go.Proofs.Ytijnojaneheaeaa.pointsExact
