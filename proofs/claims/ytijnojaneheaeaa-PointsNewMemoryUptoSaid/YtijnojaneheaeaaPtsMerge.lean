/- points.Merge and the document's, walked. Conditions: in each statement. -/
import Derived.Test.YtijnojaneheaeaaPtsFrom
import Derived.Test.YtijnojaneheaeaaLay
namespace Go.Proofs.Ytijnojaneheaeaa
open Go Go.SL Go.SL.Pts

theorem dirty_one : ∀ ys : List DirtyV, ∀ v ∈ ys.flatMap dirtyv, v.oneCell' = true := by
  intro ys v hv
  obtain ⟨d, _, hv⟩ := List.mem_flatMap.1 hv
  simp only [dirtyv, List.mem_cons, List.not_mem_nil, or_false] at hv
  rcases hv with rfl | rfl <;> rfl
theorem since_spec {W : World} {H R : HProp} {r : Nat} {m : List (Int × Int)} {a : Option Addr} {n cap : Nat} {xs : List DirtyV} [c : RowC W R a 2 dirtyv xs] [i : MapC H r .i64 (mapv (Value.int .i64) m) R] (hn : n = xs.length) (hb : xs.length ≤ 9223372036854775807) :
    Does prog W f_points_since ⟨[.map (some r), .slice a n cap]⟩ H (Ret fun v G => v = .int .i64 (sinceF m xs).1 ∧ G = (mapc r .i64 (mapv (Value.int .i64) (sinceF m xs).2) • R)) := by
  subst hn
  refine Does.imp (by rw [i.h.eq]; exact Imp.refl _) ?_
  refine f_points_since.does _ _ ?_
  conv => whnf
  refine LoopK.at tab_ok (L := f_points_since.live) (ι := Nat × List (Int × Int)) (fun i => i.1 ≤ xs.length ∧ sinceF i.2 (xs.drop i.1) = sinceF m xs)
    (fun i => [(11, .int .i64 i.1)]) (fun i => mapc r .i64 (mapv (Value.int .i64) i.2)) (fun i => xs.length - i.1) (0, m) (by simp) (fun t v h => h) (Imp.pick (Imp.refl _)) ?_
  rintro ⟨i, m'⟩ ⟨hi, hm⟩
  dsimp only at hi hm ⊢
  conv => whnf
  by_cases h1 : i < xs.length
  · obtain ⟨x, hx⟩ : ∃ x, xs[i]? = some x := ⟨_, List.getElem?_eq_getElem h1⟩
    have hdr := drop_of hx
    rw [hdr, sinceF] at hm
    repeat' (first
      | (refine spl_f (by with_reducible exact ndec_self _) ?_; conv => whnf)
      | (refine spl_f (by with_reducible exact nbeq_self _) ?_; conv => whnf)
      | (refine spl_t (by with_reducible exact beq_self _) ?_; conv => whnf)
      | (refine spl_dec (fun hd => ?_) (fun hd => ?_) <;> first | (exfalso; omega) | (conv => whnf))
      | (refine spl_ndec (fun hd => ?_) (fun hd => ?_) <;> first | (exfalso; omega) | (conv => whnf))
      | (refine spl_intro (fun hd => ?_) (fun hd => ?_) <;> (conv => whnf))
      | (refine Ld.i ?_; conv => whnf)
      | (refine LdN.i ?_; conv => whnf)
      | (refine St.i ⟨rfl, rfl⟩ (List.cons_ne_nil _ _) ?_; conv => whnf)
      | (refine Ar.i64 (by omega) ?_; conv => whnf)
      | (refine Ar.u64 (by omega) ?_; conv => whnf)
      | (refine Shr.i (by rfl) (by decide) ?_; conv => whnf)
      | (refine Shl.i (by rfl) (by decide) ?_; conv => whnf)
      | (refine Req.mk (by omega) ?_; conv => whnf)
      | (intro blk hblk; conv => whnf)
      | (refine IxS.r (i := i) rfl rfl h1 (fun ab off ha => ?_); subst ha; conv => whnf)
      | (refine LdN.r hx rfl ?_; conv => whnf)
      | (refine OpX.lk2v tab_ok rfl rfl rfl rfl rfl (fun u hu => ?_) (fun hu => ?_) <;> conv => whnf)
      | (refine OpX.upv tab_ok x.2 rfl rfl rfl rfl rfl rfl ?_; conv => whnf)
      | fail)
    iterate 2
      · rw [if_pos (by omega)] at hm
        refine Ret.eq (by rw [← hm]) ?_
        rw [← hm]
        first | exact Imp.refl _ | exact Imp.drop | exact Imp.fin | ((repeat (refine Imp.pick ?_)); first | exact Imp.refl _ | exact Imp.emp _ | exact Imp.fin)
    iterate 2
      · rw [if_neg (by omega), if_pos (by omega)] at hm
        refine Ret.eq (by rw [← hm]) ?_
        rw [← hm]
        first | exact Imp.refl _ | exact Imp.drop | exact Imp.fin | ((repeat (refine Imp.pick ?_)); first | exact Imp.refl _ | exact Imp.emp _ | exact Imp.fin)
    · rw [if_neg (by omega), if_neg (by omega), hu] at hm
      dsimp only at hm
      rw [if_pos (by omega)] at hm
      refine ⟨rfl, (i + 1, _), ⟨h1, hm⟩, fun t v h => h, ?_, by dsimp only; omega⟩
      first | exact Imp.refl _ | exact Imp.drop | exact Imp.fin | ((repeat (refine Imp.pick ?_)); first | exact Imp.refl _ | exact Imp.emp _ | exact Imp.fin)
    · rw [if_neg (by omega), if_neg (by omega), hu] at hm
      dsimp only at hm
      rw [if_neg (by omega)] at hm
      refine ⟨rfl, (i + 1, _), ⟨h1, hm⟩, fun t v h => h, ?_, by dsimp only; omega⟩
      first | exact Imp.refl _ | exact Imp.drop | exact Imp.fin | ((repeat (refine Imp.pick ?_)); first | exact Imp.refl _ | exact Imp.emp _ | exact Imp.fin)
    · rw [if_neg (by omega), if_neg (by omega), hu] at hm
      refine ⟨rfl, (i + 1, _), ⟨h1, hm⟩, fun t v h => h, ?_, by dsimp only; omega⟩
      first | exact Imp.refl _ | exact Imp.drop | exact Imp.fin | ((repeat (refine Imp.pick ?_)); first | exact Imp.refl _ | exact Imp.emp _ | exact Imp.fin)
  · rw [drop_all h1] at hm
    repeat' (first
      | (refine spl_f (by with_reducible exact ndec_self _) ?_; conv => whnf)
      | (refine spl_f (by with_reducible exact nbeq_self _) ?_; conv => whnf)
      | (refine spl_t (by with_reducible exact beq_self _) ?_; conv => whnf)
      | (refine spl_dec (fun hd => ?_) (fun hd => ?_) <;> first | (exfalso; omega) | (conv => whnf))
      | (refine spl_ndec (fun hd => ?_) (fun hd => ?_) <;> first | (exfalso; omega) | (conv => whnf))
      | (refine spl_intro (fun hd => ?_) (fun hd => ?_) <;> (conv => whnf))
      | (refine Ld.i ?_; conv => whnf)
      | (refine LdN.i ?_; conv => whnf)
      | (refine St.i ⟨rfl, rfl⟩ (List.cons_ne_nil _ _) ?_; conv => whnf)
      | (refine Ar.i64 (by omega) ?_; conv => whnf)
      | (refine Ar.u64 (by omega) ?_; conv => whnf)
      | (refine Shr.i (by rfl) (by decide) ?_; conv => whnf)
      | (refine Shl.i (by rfl) (by decide) ?_; conv => whnf)
      | (refine Req.mk (by omega) ?_; conv => whnf)
      | (intro blk hblk; conv => whnf)
      | fail)
    rw [sinceF] at hm
    refine Ret.eq (by rw [← hm]) ?_
    rw [← hm]
    first | exact Imp.refl _ | exact Imp.drop | exact Imp.fin | ((repeat (refine Imp.pick ?_)); first | exact Imp.refl _ | exact Imp.emp _ | exact Imp.fin)
theorem keys_spec {W : World} {H : HProp} {r : Nat} : Does prog W f_maps_Keys_M_int_int_int_int ⟨[.map (some r)]⟩ H (Ret fun v G => ∃ B, v = .func (.func f_maps_Keys_M_int_int_int_int_1) ⟨[]⟩ ⟨[ptr B]⟩ ∧ G = (pts B (.cells ⟨[.map (some r)]⟩ 60) • H)) := by
  refine f_maps_Keys_M_int_int_int_int.does _ ?_
  conv => whnf
  repeat' (first
    | (refine spl_f (by with_reducible exact ndec_self _) ?_; conv => whnf)
    | (refine spl_f (by with_reducible exact nbeq_self _) ?_; conv => whnf)
    | (refine spl_t (by with_reducible exact beq_self _) ?_; conv => whnf)
    | (refine spl_dec (fun hd => ?_) (fun hd => ?_) <;> first | (exfalso; omega) | (conv => whnf))
    | (refine spl_ndec (fun hd => ?_) (fun hd => ?_) <;> first | (exfalso; omega) | (conv => whnf))
    | (refine spl_intro (fun hd => ?_) (fun hd => ?_) <;> (conv => whnf))
    | (refine Ld.i ?_; conv => whnf)
    | (refine LdN.i ?_; conv => whnf)
    | (refine St.i ⟨rfl, rfl⟩ (List.cons_ne_nil _ _) ?_; conv => whnf)
    | (refine Ar.i64 (by omega) ?_; conv => whnf)
    | (refine Ar.u64 (by omega) ?_; conv => whnf)
    | (refine Shr.i (by rfl) (by decide) ?_; conv => whnf)
    | (refine Shl.i (by rfl) (by decide) ?_; conv => whnf)
    | (refine Req.mk (by omega) ?_; conv => whnf)
    | (intro blk hblk; conv => whnf)
    | fail)
  exact ⟨_, _, rfl, Imp.refl _, _, rfl, rfl⟩
theorem merge_spec {W : World} {R : HProp} {a b : Option Addr} {n n' cap cap' : Nat} {xs ys : List DirtyV} [c : RowC W R a 2 dirtyv xs] [d : RowC W R b 2 dirtyv ys] (hn : n = xs.length) (hn' : n' = ys.length) (hb : xs.length + ys.length ≤ 1000000) :
    Does prog W f_points_Merge ⟨[.slice a n cap, .slice b n' cap']⟩ R (Ret fun v G => ∃ a cap, v = .tuple ⟨[.slice a (mergeF xs ys).2.length cap, .int .i64 (mergeF xs ys).1]⟩ ∧ G = (vec t_api_Dirty 2 dirtyv a cap (mergeF xs ys).2 • R)) := by
  subst hn hn'
  refine f_points_Merge.does _ _ ?_
  conv => whnf
  repeat' (first
    | (refine spl_f (by with_reducible exact ndec_self _) ?_; conv => whnf)
    | (refine spl_f (by with_reducible exact nbeq_self _) ?_; conv => whnf)
    | (refine spl_t (by with_reducible exact beq_self _) ?_; conv => whnf)
    | (refine spl_dec (fun hd => ?_) (fun hd => ?_) <;> first | (exfalso; omega) | (conv => whnf))
    | (refine spl_ndec (fun hd => ?_) (fun hd => ?_) <;> first | (exfalso; omega) | (conv => whnf))
    | (refine spl_intro (fun hd => ?_) (fun hd => ?_) <;> (conv => whnf))
    | (refine Ld.i ?_; conv => whnf)
    | (refine LdN.i ?_; conv => whnf)
    | (refine St.i ⟨rfl, rfl⟩ (List.cons_ne_nil _ _) ?_; conv => whnf)
    | (refine Ar.i64 (by omega) ?_; conv => whnf)
    | (refine Ar.u64 (by omega) ?_; conv => whnf)
    | (refine Shr.i (by rfl) (by decide) ?_; conv => whnf)
    | (refine Shl.i (by rfl) (by decide) ?_; conv => whnf)
    | (refine Req.mk (by omega) ?_; conv => whnf)
    | (intro blk hblk; conv => whnf)
    | (refine OpX.makeMap .i64 (fun r hr => ?_); conv => whnf)
    | fail)
  refine LoopK.rounds tab_ok (L := f_points_Merge.live) 3 ?_
  conv => whnf
  repeat' (first
    | (refine spl_f (by with_reducible exact ndec_self _) ?_; conv => whnf)
    | (refine spl_f (by with_reducible exact nbeq_self _) ?_; conv => whnf)
    | (refine spl_t (by with_reducible exact beq_self _) ?_; conv => whnf)
    | (refine spl_dec (fun hd => ?_) (fun hd => ?_) <;> first | (exfalso; omega) | (conv => whnf))
    | (refine spl_ndec (fun hd => ?_) (fun hd => ?_) <;> first | (exfalso; omega) | (conv => whnf))
    | (refine spl_intro (fun hd => ?_) (fun hd => ?_) <;> (conv => whnf))
    | (refine Ld.i ?_; conv => whnf)
    | (refine LdN.i ?_; conv => whnf)
    | (refine St.i ⟨rfl, rfl⟩ (List.cons_ne_nil _ _) ?_; conv => whnf)
    | (refine Ar.i64 (by omega) ?_; conv => whnf)
    | (refine Ar.u64 (by omega) ?_; conv => whnf)
    | (refine Shr.i (by rfl) (by decide) ?_; conv => whnf)
    | (refine Shl.i (by rfl) (by decide) ?_; conv => whnf)
    | (refine Req.mk (by omega) ?_; conv => whnf)
    | (intro blk hblk; conv => whnf)
    | (refine IxS.at (by omega) ?_; conv => whnf)
    | (refine CallK.ret f_points_since.ok (since_spec (m := []) (xs := xs) rfl (by omega)) ?_; rintro v G ⟨rfl, rfl⟩; conv => whnf)
    | (refine CallK.ret f_points_since.ok (since_spec (xs := ys) rfl (by omega)) ?_; rintro v G ⟨rfl, rfl⟩; conv => whnf)
    | (refine OpX.clr tab_ok rfl rfl ?_; conv => whnf)
    | fail)
  · have e1 : mergeF xs ys = ((sinceF [] xs).1, []) := by rw [mergeF, if_pos hd]
    rw [e1]
    refine ⟨_, _, rfl, ?_, none, 0, rfl, rfl⟩
    refine Imp.vnil ?_
    first | exact Imp.refl _ | exact Imp.drop | exact Imp.fin | ((repeat (refine Imp.pick ?_)); first | exact Imp.refl _ | exact Imp.emp _ | exact Imp.fin)
  · have hd0 : (sinceF [] xs).1 = 0 := by assumption
    have e1 : mergeF xs ys = ((sinceF (sinceF [] xs).2 ys).1, []) := by rw [mergeF, if_neg (by simpa using hd0), if_pos hd]
    rw [e1]
    refine ⟨_, _, rfl, ?_, none, 0, rfl, rfl⟩
    refine Imp.vnil ?_
    first | exact Imp.refl _ | exact Imp.drop | exact Imp.fin | ((repeat (refine Imp.pick ?_)); first | exact Imp.refl _ | exact Imp.emp _ | exact Imp.fin)
  · have hd0 : (sinceF [] xs).1 = 0 := by assumption
    obtain ⟨M, hM⟩ : ∃ M, M = (sinceF (sinceF [] xs).2 ys).2 := ⟨_, rfl⟩
    have e1 : mergeF xs ys = (0, (sortI (M.map (·.1))).map fun p => (p, (M.lookup p).getD 0)) := by rw [mergeF, if_neg (by simpa using hd0), if_neg (by simpa using hd), hM]
    have hok := sinceF_ok xs [] (fun p h => by cases h)
    have hok2 := sinceF_ok ys _ hok.1
    rw [← hM] at hok2 ⊢
    simp only [List.length_nil, Nat.zero_add] at hok
    rw [e1]
    refine CallK.ret f_maps_Keys_M_int_int_int_int.ok (keys_spec) ?_
    rintro v G ⟨B, rfl, rfl⟩
    conv => whnf
    refine CallK.ret f_slices_Sorted_int.ok ((Does.sorted laySorted layKeys27 laySort rfl rfl rfl rfl (l := mapv (Value.int .i64) M) (by rw [mapv_length]; omega) (fun x hx => by obtain ⟨p, hp, rfl⟩ := List.mem_map.1 hx; have := hok2.1 p hp; dsimp only; omega))) ?_
    rintro v G ⟨ka, kc, rfl, rfl⟩
    conv => whnf
    obtain ⟨K, hK⟩ : ∃ K, K = sortI (M.map (·.1)) := ⟨_, rfl⟩
    have hKl : K.length = M.length := by rw [hK, sortI_length, List.length_map]
    rw [mapv_keys, mapv_length, ← hKl, ← hK]
    refine LoopK.at tab_ok (L := f_points_Merge.live) (ι := Nat × Option Addr × Nat) (fun i => i.1 ≤ K.length)
      (fun i => [(34, .int .i64 i.1), (10, .slice i.2.1 i.1 i.2.2)]) (fun i => vec t_api_Dirty 2 dirtyv i.2.1 i.2.2 ((K.take i.1).map fun p => (p, (M.lookup p).getD 0))) (fun i => K.length - i.1) (0, none, 0) (by simp) (fun t v h => h) (Imp.vnil (Imp.refl _)) ?_
    rintro ⟨i, oa, oc⟩ hi
    dsimp only at hi ⊢
    conv => whnf
    by_cases h1 : i < K.length
    · obtain ⟨x, hx⟩ : ∃ x, K[i]? = some x := ⟨_, List.getElem?_eq_getElem h1⟩
      have hT : ∀ y, y = (x, (M.lookup x).getD 0) → (K.take i).map (fun p => (p, (M.lookup p).getD 0)) ++ [y] = (K.take (i + 1)).map (fun p => (p, (M.lookup p).getD 0)) := fun y hy => by
        subst hy
        rw [List.take_add_one, hx]; simp
      have hlen : ((K.take i).map fun p => (p, (M.lookup p).getD 0)).length = i := by simp; omega
      repeat' (first
        | (refine spl_f (by with_reducible exact ndec_self _) ?_; conv => whnf)
        | (refine spl_f (by with_reducible exact nbeq_self _) ?_; conv => whnf)
        | (refine spl_t (by with_reducible exact beq_self _) ?_; conv => whnf)
        | (refine spl_dec (fun hd => ?_) (fun hd => ?_) <;> first | (exfalso; omega) | (conv => whnf))
        | (refine spl_ndec (fun hd => ?_) (fun hd => ?_) <;> first | (exfalso; omega) | (conv => whnf))
        | (refine spl_intro (fun hd => ?_) (fun hd => ?_) <;> (conv => whnf))
        | (refine Ld.i ?_; conv => whnf)
        | (refine LdN.i ?_; conv => whnf)
        | (refine St.i ⟨rfl, rfl⟩ (List.cons_ne_nil _ _) ?_; conv => whnf)
        | (refine Ar.i64 (by omega) ?_; conv => whnf)
        | (refine Ar.u64 (by omega) ?_; conv => whnf)
        | (refine Shr.i (by rfl) (by decide) ?_; conv => whnf)
        | (refine Shl.i (by rfl) (by decide) ?_; conv => whnf)
        | (refine Req.mk (by omega) ?_; conv => whnf)
        | (intro blk hblk; conv => whnf)
        | (refine IxS.r (i := i) rfl rfl h1 (fun ab off ha => ?_); subst ha; conv => whnf)
        | (refine Ld.r0 hx rfl ?_; conv => whnf)
        | (refine OpX.lkv tab_ok rfl rfl rfl rfl rfl (fun u hu => ?_) (fun hu => ?_) <;> conv => whnf)
        | fail)
      · refine OpX.app1 tab_ok rfl rfl rfl rfl (x, u) rfl hlen.symm (by rw [hlen]; omega) ⟨rfl, dirty_one⟩ (fun a' c' => ?_)
        rw [hT _ (by rw [hu]; rfl)]
        repeat' (first
          | (refine spl_f (by with_reducible exact ndec_self _) ?_; conv => whnf)
          | (refine spl_f (by with_reducible exact nbeq_self _) ?_; conv => whnf)
          | (refine spl_t (by with_reducible exact beq_self _) ?_; conv => whnf)
          | (refine spl_dec (fun hd => ?_) (fun hd => ?_) <;> first | (exfalso; omega) | (conv => whnf))
          | (refine spl_ndec (fun hd => ?_) (fun hd => ?_) <;> first | (exfalso; omega) | (conv => whnf))
          | (refine spl_intro (fun hd => ?_) (fun hd => ?_) <;> (conv => whnf))
          | (refine Ld.i ?_; conv => whnf)
          | (refine LdN.i ?_; conv => whnf)
          | (refine St.i ⟨rfl, rfl⟩ (List.cons_ne_nil _ _) ?_; conv => whnf)
          | (refine Ar.i64 (by omega) ?_; conv => whnf)
          | (refine Ar.u64 (by omega) ?_; conv => whnf)
          | (refine Shr.i (by rfl) (by decide) ?_; conv => whnf)
          | (refine Shl.i (by rfl) (by decide) ?_; conv => whnf)
          | (refine Req.mk (by omega) ?_; conv => whnf)
          | (intro blk hblk; conv => whnf)
          | fail)
        refine ⟨rfl, (i + 1, a', c'), h1, fun t v h => h, ?_, by dsimp only; omega⟩
        first | exact Imp.refl _ | exact Imp.drop | exact Imp.fin | ((repeat (refine Imp.pick ?_)); first | exact Imp.refl _ | exact Imp.emp _ | exact Imp.fin)
      · refine OpX.app1 tab_ok rfl rfl rfl rfl (x, 0) rfl hlen.symm (by rw [hlen]; omega) ⟨rfl, dirty_one⟩ (fun a' c' => ?_)
        rw [hT _ (by rw [hu]; rfl)]
        repeat' (first
          | (refine spl_f (by with_reducible exact ndec_self _) ?_; conv => whnf)
          | (refine spl_f (by with_reducible exact nbeq_self _) ?_; conv => whnf)
          | (refine spl_t (by with_reducible exact beq_self _) ?_; conv => whnf)
          | (refine spl_dec (fun hd => ?_) (fun hd => ?_) <;> first | (exfalso; omega) | (conv => whnf))
          | (refine spl_ndec (fun hd => ?_) (fun hd => ?_) <;> first | (exfalso; omega) | (conv => whnf))
          | (refine spl_intro (fun hd => ?_) (fun hd => ?_) <;> (conv => whnf))
          | (refine Ld.i ?_; conv => whnf)
          | (refine LdN.i ?_; conv => whnf)
          | (refine St.i ⟨rfl, rfl⟩ (List.cons_ne_nil _ _) ?_; conv => whnf)
          | (refine Ar.i64 (by omega) ?_; conv => whnf)
          | (refine Ar.u64 (by omega) ?_; conv => whnf)
          | (refine Shr.i (by rfl) (by decide) ?_; conv => whnf)
          | (refine Shl.i (by rfl) (by decide) ?_; conv => whnf)
          | (refine Req.mk (by omega) ?_; conv => whnf)
          | (intro blk hblk; conv => whnf)
          | fail)
        refine ⟨rfl, (i + 1, a', c'), h1, fun t v h => h, ?_, by dsimp only; omega⟩
        first | exact Imp.refl _ | exact Imp.drop | exact Imp.fin | ((repeat (refine Imp.pick ?_)); first | exact Imp.refl _ | exact Imp.emp _ | exact Imp.fin)
    · have hi' : i = K.length := by omega
      subst hi'
      repeat' (first
        | (refine spl_f (by with_reducible exact ndec_self _) ?_; conv => whnf)
        | (refine spl_f (by with_reducible exact nbeq_self _) ?_; conv => whnf)
        | (refine spl_t (by with_reducible exact beq_self _) ?_; conv => whnf)
        | (refine spl_dec (fun hd => ?_) (fun hd => ?_) <;> first | (exfalso; omega) | (conv => whnf))
        | (refine spl_ndec (fun hd => ?_) (fun hd => ?_) <;> first | (exfalso; omega) | (conv => whnf))
        | (refine spl_intro (fun hd => ?_) (fun hd => ?_) <;> (conv => whnf))
        | (refine Ld.i ?_; conv => whnf)
        | (refine LdN.i ?_; conv => whnf)
        | (refine St.i ⟨rfl, rfl⟩ (List.cons_ne_nil _ _) ?_; conv => whnf)
        | (refine Ar.i64 (by omega) ?_; conv => whnf)
        | (refine Ar.u64 (by omega) ?_; conv => whnf)
        | (refine Shr.i (by rfl) (by decide) ?_; conv => whnf)
        | (refine Shl.i (by rfl) (by decide) ?_; conv => whnf)
        | (refine Req.mk (by omega) ?_; conv => whnf)
        | (intro blk hblk; conv => whnf)
        | fail)
      rw [List.take_length]
      refine ⟨_, _, rfl, ?_, oa, oc, by simp, rfl⟩
      first | exact Imp.refl _ | exact Imp.drop | exact Imp.fin | ((repeat (refine Imp.pick ?_)); first | exact Imp.refl _ | exact Imp.emp _ | exact Imp.fin)
end Go.Proofs.Ytijnojaneheaeaa
