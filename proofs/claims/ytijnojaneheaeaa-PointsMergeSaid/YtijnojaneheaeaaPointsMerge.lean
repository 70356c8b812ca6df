/- PointsMerge answers true, and nothing that was there turns. No condition. -/
import Derived.Test.YtijnojaneheaeaaRows
import Derived.Test.YtijnojaneheaeaaPtsLaw2
import Derived.Test.YtijnojaneheaeaaPtsArgs
namespace Go.Proofs.Ytijnojaneheaeaa.pointsMerge
open Go Go.SL Go.SL.Pts Go.ChangeShapes Go.WideShapes Go.ChangeAt Go.RowKit
theorem laid : laidOutB Try.prog = true := by kernel_rfl

theorem merged_as {W : World} {R : HProp} {a b : Option Addr} {n n' cap cap' : Nat} {xs ys : List DirtyV} (f : Int → Option Int) [c : RowC W R a 2 dirtyv xs] [d : RowC W R b 2 dirtyv ys] (hx : OkM xs) (hy : OkM ys) (hf : ∀ k, 0 ≤ k ∧ k < 64 → mn (mAt k xs) (mAt k ys) = f k) (hb : xs.length + ys.length ≤ 1000000) (hn : n = xs.length) (hn' : n' = ys.length) :
    Does prog W f_quotalaw16_merged ⟨[.slice a n cap, .slice b n' cap']⟩ R (Ret fun v G => ∃ a' cap', v = .slice a' (outL f).length cap' ∧ G = (vec t_api_Dirty 2 dirtyv a' cap' (outL f) • R)) := by
  have h := merged_spec (W := W) (R := R) (a := a) (b := b) (cap := cap) (cap' := cap') hn hn' hb hx hy
  have e : (outL fun k => mAt k (xs ++ ys)) = outL f := outL_congr fun k hk => by rw [mAt_append]; exact hf k hk
  rwa [e] at h

theorem walk {W : World} {a1 a2 a3 : Option Addr} {n1 n2 n3 c1 c2 c3 : Nat} {x1 x2 x3 : List DirtyV} (o1 : OldVec W 2 dirtyv a1 n1 c1 x1) (o2 : OldVec W 2 dirtyv a2 n2 c2 x2) (o3 : OldVec W 2 dirtyv a3 n3 c3 x3) :
    Does prog W f_quotalaw16_PointsMerge ⟨[.slice a1 n1 c1, .slice a2 n2 c2, .slice a3 n3 c3]⟩ (old W • emp) (Ret fun v G => v = .bool true ∧ G = (old W • emp)) := by
  obtain ⟨A, hA⟩ : ∃ A, A = fitF x1 := ⟨_, rfl⟩
  obtain ⟨B, hB⟩ : ∃ B, B = fitF x2 := ⟨_, rfl⟩
  obtain ⟨C, hC⟩ : ∃ C, C = fitF x3 := ⟨_, rfl⟩
  have okA : OkM A ∧ A.length ≤ 2000 := hA ▸ fit_ok x1
  have okB : OkM B ∧ B.length ≤ 2000 := hB ▸ fit_ok x2
  have okC : OkM C ∧ C.length ≤ 2000 := hC ▸ fit_ok x3
  have vA := ok_mAt okA.1
  have vB := ok_mAt okB.1
  have vC := ok_mAt okC.1
  have lens : ∀ f, (outL f).length ≤ 64 := outL_len
  obtain ⟨AB, hAB⟩ : ∃ AB, AB = fun k => mn (mAt k A) (mAt k B) := ⟨_, rfl⟩
  obtain ⟨BC, hBC⟩ : ∃ BC, BC = fun k => mn (mAt k B) (mAt k C) := ⟨_, rfl⟩
  obtain ⟨ABC, hABC⟩ : ∃ ABC, ABC = fun k => mn (AB k) (mAt k C) := ⟨_, rfl⟩
  have okAB : OkM (outL AB) := ok_outL (hAB ▸ ok_mn vA vB)
  have okBC : OkM (outL BC) := ok_outL (hBC ▸ ok_mn vB vC)
  have g1 : ∀ k, 0 ≤ k ∧ k < 64 → mAt k (outL AB) = AB k := fun k hk => mAt_outL AB k hk
  have g2 : ∀ k, 0 ≤ k ∧ k < 64 → mAt k (outL BC) = BC k := fun k hk => mAt_outL BC k hk
  haveI r1 : OldR W 2 dirtyv a1 x1 := o1.r
  haveI r2 : OldR W 2 dirtyv a2 x2 := o2.r
  haveI r3 : OldR W 2 dirtyv a3 x3 := o3.r
  refine f_quotalaw16_PointsMerge.does _ _ _ ?_
  conv => whnf
  repeat' (first
    | (refine Ld.i ?_; conv => whnf)
    | (refine LdN.i ?_; conv => whnf)
    | (refine St.i ⟨rfl, rfl⟩ (List.cons_ne_nil _ _) ?_; conv => whnf)
    | (refine Ar.i64 (by omega) ?_; conv => whnf)
    | (intro blk hblk; conv => whnf)
    | (refine spl_f (by simp only [decide_true, Bool.not_true]) ?_; conv => whnf)
    | (refine spl_dec (fun hd => ?_) (fun hd => ?_) <;> first | (exfalso; omega) | (conv => whnf))
    | (refine spl_ndec (fun hd => ?_) (fun hd => ?_) <;> first | (exfalso; omega) | (conv => whnf))
    | (refine spl_intro (fun hd => ?_) (fun hd => ?_) <;> conv => whnf)
    | (refine CallK.ret f_quotalaw16_awake.ok (awake_spec) ?_; rintro v G ⟨rfl, rfl⟩; conv => whnf)
    | fail)
  refine CallK.ret f_quotalaw16_fit.ok (fit_spec (c := RowC.old (o := r1)) o1.hlen) ?_
  rintro v G ⟨pa, ca, rfl, rfl⟩
  rw [← hA]
  repeat' (first
    | (refine Ld.i ?_; conv => whnf)
    | (refine LdN.i ?_; conv => whnf)
    | (refine St.i ⟨rfl, rfl⟩ (List.cons_ne_nil _ _) ?_; conv => whnf)
    | (refine Ar.i64 (by omega) ?_; conv => whnf)
    | (intro blk hblk; conv => whnf)
    | (refine spl_f (by simp only [decide_true, Bool.not_true]) ?_; conv => whnf)
    | (refine spl_dec (fun hd => ?_) (fun hd => ?_) <;> first | (exfalso; omega) | (conv => whnf))
    | (refine spl_ndec (fun hd => ?_) (fun hd => ?_) <;> first | (exfalso; omega) | (conv => whnf))
    | (refine spl_intro (fun hd => ?_) (fun hd => ?_) <;> conv => whnf)
    | fail)
  refine CallK.ret f_quotalaw16_fit.ok (fit_spec (c := RowC.there (c := RowC.old (o := r2))) o2.hlen) ?_
  rintro v G ⟨pb, cb, rfl, rfl⟩
  rw [← hB]
  repeat' (first
    | (refine Ld.i ?_; conv => whnf)
    | (refine LdN.i ?_; conv => whnf)
    | (refine St.i ⟨rfl, rfl⟩ (List.cons_ne_nil _ _) ?_; conv => whnf)
    | (refine Ar.i64 (by omega) ?_; conv => whnf)
    | (intro blk hblk; conv => whnf)
    | (refine spl_f (by simp only [decide_true, Bool.not_true]) ?_; conv => whnf)
    | (refine spl_dec (fun hd => ?_) (fun hd => ?_) <;> first | (exfalso; omega) | (conv => whnf))
    | (refine spl_ndec (fun hd => ?_) (fun hd => ?_) <;> first | (exfalso; omega) | (conv => whnf))
    | (refine spl_intro (fun hd => ?_) (fun hd => ?_) <;> conv => whnf)
    | fail)
  refine CallK.ret f_quotalaw16_fit.ok (fit_spec (c := RowC.there (c := RowC.there (c := RowC.old (o := r3)))) o3.hlen) ?_
  rintro v G ⟨pc, cc, rfl, rfl⟩
  rw [← hC]
  clear r1 r2 r3
  repeat' (first
    | (refine Ld.i ?_; conv => whnf)
    | (refine LdN.i ?_; conv => whnf)
    | (refine St.i ⟨rfl, rfl⟩ (List.cons_ne_nil _ _) ?_; conv => whnf)
    | (refine Ar.i64 (by omega) ?_; conv => whnf)
    | (intro blk hblk; conv => whnf)
    | (refine spl_f (by simp only [decide_true, Bool.not_true]) ?_; conv => whnf)
    | (refine spl_dec (fun hd => ?_) (fun hd => ?_) <;> first | (exfalso; omega) | (conv => whnf))
    | (refine spl_ndec (fun hd => ?_) (fun hd => ?_) <;> first | (exfalso; omega) | (conv => whnf))
    | (refine spl_intro (fun hd => ?_) (fun hd => ?_) <;> conv => whnf)
    | (refine CallK.ret f_quotalaw16_merged.ok ((merged_as (xs := A) (ys := B) AB okA.1 okB.1 (fun k hk => by rw [hAB]) (by first | omega | (have := lens AB; have := lens BC; omega) | (simp only [List.length_nil]; omega)) rfl rfl)) ?_; rintro v G ⟨pm, cm, rfl, rfl⟩; conv => whnf)
    | (refine CallK.ret f_quotalaw16_merged.ok ((merged_as (xs := B) (ys := A) AB okB.1 okA.1 (fun k hk => by rw [hAB, mn_comm]) (by first | omega | (have := lens AB; have := lens BC; omega) | (simp only [List.length_nil]; omega)) rfl rfl)) ?_; rintro v G ⟨pm, cm, rfl, rfl⟩; conv => whnf)
    | (refine CallK.ret f_quotalaw16_merged.ok ((merged_as (xs := (outL AB)) (ys := C) ABC okAB okC.1 (fun k hk => by rw [hABC, g1 k hk]) (by first | omega | (have := lens AB; have := lens BC; omega) | (simp only [List.length_nil]; omega)) rfl rfl)) ?_; rintro v G ⟨pm, cm, rfl, rfl⟩; conv => whnf)
    | (refine CallK.ret f_quotalaw16_merged.ok ((merged_as (xs := B) (ys := C) BC okB.1 okC.1 (fun k hk => by rw [hBC]) (by first | omega | (have := lens AB; have := lens BC; omega) | (simp only [List.length_nil]; omega)) rfl rfl)) ?_; rintro v G ⟨pm, cm, rfl, rfl⟩; conv => whnf)
    | (refine CallK.ret f_quotalaw16_merged.ok ((merged_as (xs := A) (ys := (outL BC)) ABC okA.1 okBC (fun k hk => by rw [hABC, g2 k hk, hBC, hAB]; dsimp only; rw [mn_assoc]) (by first | omega | (have := lens AB; have := lens BC; omega) | (simp only [List.length_nil]; omega)) rfl rfl)) ?_; rintro v G ⟨pm, cm, rfl, rfl⟩; conv => whnf)
    | (refine CallK.ret f_quotalaw16_merged.ok ((merged_as (xs := A) (ys := A) (fun k => mAt k A) okA.1 okA.1 (fun k hk => by rw [mn_self]) (by first | omega | (have := lens AB; have := lens BC; omega) | (simp only [List.length_nil]; omega)) rfl rfl)) ?_; rintro v G ⟨pm, cm, rfl, rfl⟩; conv => whnf)
    | (refine CallK.ret f_quotalaw16_merged.ok ((merged_as (xs := A) (ys := []) (d := RowC.nil) (fun k => mAt k A) okA.1 (fun p h => by cases h) (fun k hk => by rw [show mAt k [] = none from rfl, mn_none]) (by first | omega | (have := lens AB; have := lens BC; omega) | (simp only [List.length_nil]; omega)) rfl rfl)) ?_; rintro v G ⟨pm, cm, rfl, rfl⟩; conv => whnf)
    | (refine CallK.ret f_quotalaw16_merged.ok ((merged_as (xs := (outL AB)) (ys := (outL AB)) AB okAB okAB (fun k hk => by rw [g1 k hk, mn_self]) (by first | omega | (have := lens AB; have := lens BC; omega) | (simp only [List.length_nil]; omega)) rfl rfl)) ?_; rintro v G ⟨pm, cm, rfl, rfl⟩; conv => whnf)
    | (refine CallK.ret f_quotalaw16_merged.ok ((merged_as (xs := (outL AB)) (ys := A) AB okAB okA.1 (fun k hk => by rw [g1 k hk, hAB]; dsimp only; rw [mn_comm, ← mn_assoc, mn_self]) (by first | omega | (have := lens AB; have := lens BC; omega) | (simp only [List.length_nil]; omega)) rfl rfl)) ?_; rintro v G ⟨pm, cm, rfl, rfl⟩; conv => whnf)
    | (refine CallK.ret f_quotalaw16_same.ok ((same_spec rfl rfl (Nat.le_trans (lens _) (by decide)))) ?_; rintro v G ⟨rfl, rfl⟩; conv => whnf)
    | fail)
  obtain ⟨L, hL⟩ : ∃ L, L = outL AB := ⟨_, rfl⟩
  have hsrt : L.Pairwise fun a b => a.1 < b.1 := hL ▸ outL_sorted AB
  have hlen : L.length ≤ 64 := hL ▸ lens AB
  have hleast : leastD L = if A = [] then leastD B else if B = [] then leastD A else min (leastD A) (leastD B) := by
    rw [hL, ← least_merge okA.1 okB.1]
    exact congrArg leastD (outL_congr fun k _ => by rw [hAB, mAt_append])
  rw [← hL]
  refine LoopK.keep tab_ok (L := f_quotalaw16_PointsMerge.live) (ι := Nat) (fun i => i ≤ L.length) (fun i => [(8, .int .i64 i)]) (fun i => L.length - i) 0 (by simp) (fun t v h => h) ?_
  intro i hi
  conv => whnf
  by_cases h1 : i < L.length
  · obtain ⟨x, hx⟩ : ∃ x, L[i]? = some x := ⟨_, List.getElem?_eq_getElem h1⟩
    cases i with
    | zero =>
      repeat' (first
        | (refine Ld.i ?_; conv => whnf)
        | (refine LdN.i ?_; conv => whnf)
        | (refine St.i ⟨rfl, rfl⟩ (List.cons_ne_nil _ _) ?_; conv => whnf)
        | (refine Ar.i64 (by omega) ?_; conv => whnf)
        | (intro blk hblk; conv => whnf)
        | (refine spl_f (by simp only [decide_true, Bool.not_true]) ?_; conv => whnf)
        | (refine spl_dec (fun hd => ?_) (fun hd => ?_) <;> first | (exfalso; omega) | (conv => whnf))
        | (refine spl_ndec (fun hd => ?_) (fun hd => ?_) <;> first | (exfalso; omega) | (conv => whnf))
        | (refine spl_intro (fun hd => ?_) (fun hd => ?_) <;> conv => whnf)
        | (refine IxS.r (i := 0) rfl rfl h1 (fun ab off ha => ?_); cases ha; conv => whnf)
        | (refine LdN.r hx rfl ?_; conv => whnf)
        | (refine Ld.r hx rfl ?_; conv => whnf)
        | (refine Ld.r0 hx rfl ?_; conv => whnf)
        | (refine DrawK.intro tab_ok mixed f_quotalaw16_PointsMerge.last12 f_quotalaw16_PointsMerge.plan12 _ (by kernel_rfl) (Sub.of (by first | exact Imp.refl _ | exact Imp.drop | exact Imp.fin | ((repeat (refine Imp.pick ?_)); first | exact Imp.refl _ | exact Imp.emp _ | exact Imp.fin))) ?_; conv => whnf)
        | fail)
      exact ⟨rfl, 1, h1, fun t v h => h, Imp.refl _, by omega⟩
    | succ k =>
      obtain ⟨y, hy⟩ : ∃ y, L[k]? = some y := ⟨_, List.getElem?_eq_getElem (by omega)⟩
      have hlt : y.1 < x.1 := by
        obtain ⟨h2, h3⟩ := List.getElem?_eq_some_iff.1 hx
        obtain ⟨h4, h5⟩ := List.getElem?_eq_some_iff.1 hy
        have := List.pairwise_iff_getElem.1 hsrt k (k + 1) h4 h2 (by omega)
        rw [h3, h5] at this
        exact this
      repeat' (first
        | (refine Ld.i ?_; conv => whnf)
        | (refine LdN.i ?_; conv => whnf)
        | (refine St.i ⟨rfl, rfl⟩ (List.cons_ne_nil _ _) ?_; conv => whnf)
        | (refine Ar.i64 (by omega) ?_; conv => whnf)
        | (intro blk hblk; conv => whnf)
        | (refine spl_f (by simp only [decide_true, Bool.not_true]) ?_; conv => whnf)
        | (refine spl_dec (fun hd => ?_) (fun hd => ?_) <;> first | (exfalso; omega) | (conv => whnf))
        | (refine spl_ndec (fun hd => ?_) (fun hd => ?_) <;> first | (exfalso; omega) | (conv => whnf))
        | (refine spl_intro (fun hd => ?_) (fun hd => ?_) <;> conv => whnf)
        | (refine IxS.r (i := k) (by omega) rfl (by omega) (fun ab off ha => ?_); cases ha; conv => whnf)
        | (refine IxS.r (i := (k+1)) rfl rfl h1 (fun ab off ha => ?_); cases ha; conv => whnf)
        | (refine LdN.r hx rfl ?_; conv => whnf)
        | (refine Ld.r hx rfl ?_; conv => whnf)
        | (refine Ld.r0 hx rfl ?_; conv => whnf)
        | (refine LdN.r hy rfl ?_; conv => whnf)
        | (refine Ld.r hy rfl ?_; conv => whnf)
        | (refine Ld.r0 hy rfl ?_; conv => whnf)
        | (refine DrawK.intro tab_ok mixed f_quotalaw16_PointsMerge.last12 f_quotalaw16_PointsMerge.plan12 _ (by kernel_rfl) (Sub.of (by first | exact Imp.refl _ | exact Imp.drop | exact Imp.fin | ((repeat (refine Imp.pick ?_)); first | exact Imp.refl _ | exact Imp.emp _ | exact Imp.fin))) ?_; conv => whnf)
        | fail)
      exact ⟨rfl, k + 1 + 1, h1, fun t v h => h, Imp.refl _, by omega⟩
  · repeat' (first
      | (refine Ld.i ?_; conv => whnf)
      | (refine LdN.i ?_; conv => whnf)
      | (refine St.i ⟨rfl, rfl⟩ (List.cons_ne_nil _ _) ?_; conv => whnf)
      | (refine Ar.i64 (by omega) ?_; conv => whnf)
      | (intro blk hblk; conv => whnf)
      | (refine spl_f (by simp only [decide_true, Bool.not_true]) ?_; conv => whnf)
      | (refine spl_dec (fun hd => ?_) (fun hd => ?_) <;> first | (exfalso; omega) | (conv => whnf))
      | (refine spl_ndec (fun hd => ?_) (fun hd => ?_) <;> first | (exfalso; omega) | (conv => whnf))
      | (refine spl_intro (fun hd => ?_) (fun hd => ?_) <;> conv => whnf)
      | (refine CallK.ret f_points_From.ok ((from_spec rfl (by omega))) ?_; rintro v G ⟨rfl, rfl⟩; conv => whnf)
      | (refine OpX.of_quiet (OpQ.min2 rfl rfl ?_); conv => whnf)
      | fail)
    · have h2 : A = [] := List.eq_nil_of_length_eq_zero (by omega)
      rw [if_pos h2] at hleast
      refine Ret.eq (congrArg Value.bool (decide_eq_true hleast)) ?_
      first | exact Imp.refl _ | exact Imp.drop | exact Imp.fin | ((repeat (refine Imp.pick ?_)); first | exact Imp.refl _ | exact Imp.emp _ | exact Imp.fin)
    · have h2 : ¬ A = [] := fun e => by have := congrArg List.length e; simp only [List.length_nil] at this; omega
      have h3 : B = [] := List.eq_nil_of_length_eq_zero (by omega)
      rw [if_neg h2, if_pos h3] at hleast
      refine Ret.eq (congrArg Value.bool (decide_eq_true hleast)) ?_
      first | exact Imp.refl _ | exact Imp.drop | exact Imp.fin | ((repeat (refine Imp.pick ?_)); first | exact Imp.refl _ | exact Imp.emp _ | exact Imp.fin)
    · have h2 : ¬ A = [] := fun e => by have := congrArg List.length e; simp only [List.length_nil] at this; omega
      have h3 : ¬ B = [] := fun e => by have := congrArg List.length e; simp only [List.length_nil] at this; omega
      rw [if_neg h2, if_neg h3] at hleast
      refine Ret.eq (congrArg Value.bool (decide_eq_true hleast)) ?_
      first | exact Imp.refl _ | exact Imp.drop | exact Imp.fin | ((repeat (refine Imp.pick ?_)); first | exact Imp.refl _ | exact Imp.emp _ | exact Imp.fin)

set_option maxRecDepth 100000 in
theorem lifted (os : Os) (started : os.Started) (H : Type) (enc : TypeId × Value → H) :
    ReturnsInHanded {} Try.checked os 5 .any (Rows.pointsMergeSpec.pre6 enc Try.prog Try.f5 Rows.pointsMergeRow.domain false) (Rows.pointsMergeSpec.post enc Try.prog Try.f5 false true false false) := by
  refine returnsInHanded_of_change (C := Try.checked) (by kernel_rfl) started (by kernel_rfl) Try.func5
    (ChangeSpec.witness6 (enc := enc) (C := Try.checked) false ⟨#[], #[.slice none 0 0, .slice none 0 0, .slice none 0 0], []⟩ 8 (by kernel_rfl) (by kernel_rfl) (by kernel_rfl) (by kernel_rfl)) ?_
  intro W base args ds gs before hval0 hW _ _
  have hval : ∀ (j : Nat) t v, Try.f5.params[j]? = some t → args[j]? = some v → Value.okWide Try.prog W .any base t v := hval0
  have hW' := hW
  obtain ⟨p, q, hA0, hV, rfl, _, _⟩ := hW'
  have hA : DataW.TrodAll enc Try.prog W 0 (fun _ => true) true Try.f5.params.toList args.toList ds p := hA0
  rw [Try.params5] at hA hval
  obtain ⟨v0, v1, v2, d0, d1, d2, q0, q1, q2, rfl, rfl, rfl, h0, h1, h2⟩ := trodAll_three hA
  obtain ⟨rfl, rfl⟩ := trodVars_none hV
  obtain ⟨a0, n0, c0, x0, rfl, o0, _⟩ := arg_slice Try.underlying24 (hval 0 24 v0 rfl rfl) h0 dirty_bd (fun _ => by show 2 = _; kernel_rfl) (of_decide_eq_true (by kernel_rfl))
  obtain ⟨a1, n1, c1, x1, rfl, o1, _⟩ := arg_slice Try.underlying24 (hval 1 24 v1 rfl rfl) h1 dirty_bd (fun _ => by show 2 = _; kernel_rfl) (of_decide_eq_true (by kernel_rfl))
  obtain ⟨a2, n2, c2, x2, rfl, o2, _⟩ := arg_slice Try.underlying24 (hval 2 24 v2 rfl rfl) h2 dirty_bd (fun _ => by show 2 = _; kernel_rfl) (of_decide_eq_true (by kernel_rfl))
  exact (Does.law (walk o0 o1 o2)).mono fun e W' ⟨he, hb⟩ => ⟨_, he, law_post hW rfl laid (by kernel_rfl) rfl Try.underlying4 rfl hb⟩

theorem proved : Rows.PointsMergeSaid :=
  OpenClaim.holds_of_wide 5 Try.f5 rfl rfl rfl rfl rfl rfl rfl ⟨rfl, rfl, rfl, rfl, rfl⟩ rfl rfl rfl rfl rfl (by kernel_rfl) Try.func5 (by kernel_rfl)
    (of_decide_eq_true (by kernel_rfl)) (by unfold Func.isWrapper; first | (rw [if_pos (by decide +kernel)]; kernel_rfl) | (rw [if_neg (by decide +kernel)]; exact ⟨rfl, rfl⟩))
    (fun os started H enc _ => lifted os started H enc)
end Go.Proofs.Ytijnojaneheaeaa.pointsMerge
