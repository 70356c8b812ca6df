/- The document's Merge, walked. Conditions: in each statement. -/
import Derived.Test.YtijnojaneheaeaaPtsMerge
import Derived.Test.YtijnojaneheaeaaPtsLaw
namespace Go.Proofs.Ytijnojaneheaeaa
open Go Go.SL Go.SL.Pts

/-- What the document calls 0. -/
def tos (s : Int) : Option Int := if s = 0 then none else some s
theorem tos_pos {s : Int} (h : 1 ≤ s) : tos s = some s := by simp [tos]; omega
theorem mn_lt {x s : Int} (h : x < s) (hs : 1 ≤ s) : mn (tos s) (some x) = some x := by rw [tos_pos hs]; simp [mn]; omega
theorem mn_ge {x s : Int} (h : ¬ x < s) (hs : 1 ≤ s) : mn (tos s) (some x) = tos s := by rw [tos_pos hs]; simp [mn]; omega
theorem rmerge_spec {W : World} {R : HProp} {a b : Option Addr} {n n' cap cap' : Nat} {xs ys : List DirtyV} [c : RowC W R a 2 dirtyv xs] [d : RowC W R b 2 dirtyv ys] (hn : n = xs.length) (hn' : n' = ys.length) (hb : xs.length + ys.length ≤ 1000000) :
    Does prog W f_quotaref16_Merge ⟨[.slice a n cap, .slice b n' cap']⟩ R (Ret fun v G => ∃ a cap, v = .tuple ⟨[.slice a (mergeF xs ys).2.length cap, .int .i64 (mergeF xs ys).1]⟩ ∧ G = (vec t_api_Dirty 2 dirtyv a cap (mergeF xs ys).2 • R)) := by
  subst hn hn'
  rw [mergeF_eq]
  refine f_quotaref16_Merge.does _ _ ?_
  conv => whnf
  refine OpX.appN tab_ok rfl rfl rfl rfl rfl (by omega) ⟨rfl, dirty_one⟩ (fun a1 c1 => ?_)
  conv => whnf
  refine OpX.appR tab_ok rfl rfl rfl rfl rfl rfl (by omega) ⟨rfl, dirty_one⟩ (fun a2 c2 => ?_)
  conv => whnf
  obtain ⟨l, hl⟩ : ∃ l, l = xs ++ ys := ⟨_, rfl⟩
  have hll : xs.length + ys.length = l.length := by rw [hl, List.length_append]
  rw [← hl, hll]
  rw [hll] at hb
  refine LoopK.keep tab_ok (L := f_quotaref16_Merge.live) (ι := Nat) (fun i => i ≤ l.length ∧ errD (l.drop i) = errD l) (fun i => [(7, .int .i64 i)]) (fun i => l.length - i) 0 (by simp) (fun t v h => h) ?_
  rintro i ⟨hi, he⟩
  conv => whnf
  by_cases h1 : i < l.length
  · obtain ⟨x, hx⟩ : ∃ x, l[i]? = some x := ⟨_, List.getElem?_eq_getElem h1⟩
    have hdr := drop_of hx
    rw [hdr, errD] at he
    repeat' (first
      | (refine Ld.i ?_; conv => whnf)
      | (refine LdN.i ?_; conv => whnf)
      | (refine St.i ⟨rfl, rfl⟩ (List.cons_ne_nil _ _) ?_; conv => whnf)
      | (refine Ar.i64 (by omega) ?_; conv => whnf)
      | (intro blk hblk; conv => whnf)
      | (refine spl_f (by simp only [decide_true, Bool.not_true]) ?_; conv => whnf)
      | (refine spl_dec (fun hd => ?_) (fun hd => ?_) <;> first | (exfalso; omega) | (conv => whnf))
      | (refine spl_ndec (fun hd => ?_) (fun hd => ?_) <;> first | (exfalso; omega) | (conv => whnf))
      | (refine spl_intro (fun hd => ?_) (fun hd => ?_) <;> conv => whnf)
      | (refine IxS.r (i := i) rfl rfl h1 (fun ab off ha => ?_); cases ha; conv => whnf)
      | (refine Ld.r hx rfl ?_; conv => whnf)
      | (refine Ld.r0 hx rfl ?_; conv => whnf)
      | fail)
    iterate 2
      · rw [if_pos (by omega)] at he
        rw [if_pos (by omega), ← he]
        refine ⟨_, _, rfl, ?_, none, 0, rfl, rfl⟩
        refine Imp.vnil ?_
        first | exact Imp.refl _ | exact Imp.drop | exact Imp.fin | ((repeat (refine Imp.pick ?_)); first | exact Imp.refl _ | exact Imp.emp _ | exact Imp.fin)
    iterate 2
      · rw [if_neg (by omega), if_pos (by omega)] at he
        rw [if_pos (by omega), ← he]
        refine ⟨_, _, rfl, ?_, none, 0, rfl, rfl⟩
        refine Imp.vnil ?_
        first | exact Imp.refl _ | exact Imp.drop | exact Imp.fin | ((repeat (refine Imp.pick ?_)); first | exact Imp.refl _ | exact Imp.emp _ | exact Imp.fin)
    · rw [if_neg (by omega), if_neg (by omega)] at he
      refine ⟨rfl, i + 1, ⟨h1, he⟩, fun t v h => h, Imp.refl _, by omega⟩
  · rw [drop_all h1] at he
    have hok := errD_ok he.symm
    rw [if_neg (by rw [← he]; simp [errD])]
    repeat' (first
      | (refine Ld.i ?_; conv => whnf)
      | (refine LdN.i ?_; conv => whnf)
      | (refine St.i ⟨rfl, rfl⟩ (List.cons_ne_nil _ _) ?_; conv => whnf)
      | (refine Ar.i64 (by omega) ?_; conv => whnf)
      | (intro blk hblk; conv => whnf)
      | (refine spl_f (by simp only [decide_true, Bool.not_true]) ?_; conv => whnf)
      | (refine spl_dec (fun hd => ?_) (fun hd => ?_) <;> first | (exfalso; omega) | (conv => whnf))
      | (refine spl_ndec (fun hd => ?_) (fun hd => ?_) <;> first | (exfalso; omega) | (conv => whnf))
      | (refine spl_intro (fun hd => ?_) (fun hd => ?_) <;> conv => whnf)
      | fail)
    refine LoopK.at tab_ok (L := f_quotaref16_Merge.live) (ι := Nat × Int × List DirtyV × Option Addr × Nat) (fun i => i.2.1 = (i.1 : Int) ∧ i.1 ≤ 64 ∧ i.2.2.1 = (List.range i.1).filterMap fun (n : Nat) => (mAt n l).map fun s => ((n : Int), s))
      (fun i => [(9, .int .i64 i.2.1), (8, .slice i.2.2.2.1 i.2.2.1.length i.2.2.2.2)]) (fun i => vec t_api_Dirty 2 dirtyv i.2.2.2.1 i.2.2.2.2 i.2.2.1) (fun i => 64 - i.1) (0, 0, [], none, 0) (by simp) (fun t v h => h) (Imp.vnil (Imp.refl _)) ?_
    rintro ⟨k, z, out, oa, oc⟩ ⟨hz, hk, hout⟩
    dsimp only at hz hk hout ⊢
    conv => whnf
    by_cases hk2 : k < 64
    · repeat' (first
        | (refine Ld.i ?_; conv => whnf)
        | (refine LdN.i ?_; conv => whnf)
        | (refine St.i ⟨rfl, rfl⟩ (List.cons_ne_nil _ _) ?_; conv => whnf)
        | (refine Ar.i64 (by omega) ?_; conv => whnf)
        | (intro blk hblk; conv => whnf)
        | (refine spl_f (by simp only [decide_true, Bool.not_true]) ?_; conv => whnf)
        | (refine spl_dec (fun hd => ?_) (fun hd => ?_) <;> first | (exfalso; omega) | (conv => whnf))
        | (refine spl_ndec (fun hd => ?_) (fun hd => ?_) <;> first | (exfalso; omega) | (conv => whnf))
        | (refine spl_intro (fun hd => ?_) (fun hd => ?_) <;> conv => whnf)
        | fail)
      refine LoopK.keep tab_ok (L := f_quotaref16_Merge.live) (ι := Nat × Int) (fun i => i.1 ≤ l.length ∧ 0 ≤ i.2 ∧ mn (tos i.2) (mAt k (l.drop i.1)) = mAt k l) (fun i => [(11, .int .i64 i.1), (10, .int .i64 i.2)]) (fun i => l.length - i.1) (0, 0) (by simp [tos, mn]) (fun t v h => h) ?_
      rintro ⟨i, s⟩ ⟨hi2, hs, hm⟩
      dsimp only at hi2 hs hm ⊢
      conv => whnf
      by_cases h2 : i < l.length
      · obtain ⟨x, hx⟩ : ∃ x, l[i]? = some x := ⟨_, List.getElem?_eq_getElem h2⟩
        have hdr := drop_of hx
        rw [hdr, mAt] at hm
        repeat' (first
          | (refine Ld.i ?_; conv => whnf)
          | (refine LdN.i ?_; conv => whnf)
          | (refine St.i ⟨rfl, rfl⟩ (List.cons_ne_nil _ _) ?_; conv => whnf)
          | (refine Ar.i64 (by omega) ?_; conv => whnf)
          | (intro blk hblk; conv => whnf)
          | (refine spl_f (by simp only [decide_true, Bool.not_true]) ?_; conv => whnf)
          | (refine spl_dec (fun hd => ?_) (fun hd => ?_) <;> first | (exfalso; omega) | (conv => whnf))
          | (refine spl_ndec (fun hd => ?_) (fun hd => ?_) <;> first | (exfalso; omega) | (conv => whnf))
          | (refine spl_intro (fun hd => ?_) (fun hd => ?_) <;> conv => whnf)
          | (refine IxS.r (i := i) rfl rfl h2 (fun ab off ha => ?_); cases ha; conv => whnf)
          | (refine Ld.r hx rfl ?_; conv => whnf)
          | (refine Ld.r0 hx rfl ?_; conv => whnf)
          | fail)
        all_goals have hx1 := hok x (List.mem_of_getElem? hx)
        · rw [if_pos (by omega), show tos s = none from if_pos (by assumption), none_mn] at hm
          refine ⟨rfl, (i + 1, x.2), ⟨h2, by dsimp only; omega, by rw [tos_pos (by dsimp only; omega)]; exact hm⟩, fun t v h => h, Imp.refl _, by dsimp only; omega⟩
        · rw [if_pos (by omega), ← mn_assoc, mn_lt (by assumption) (by omega)] at hm
          refine ⟨rfl, (i + 1, x.2), ⟨h2, by dsimp only; omega, by rw [tos_pos (by dsimp only; omega)]; exact hm⟩, fun t v h => h, Imp.refl _, by dsimp only; omega⟩
        · rw [if_pos (by omega), ← mn_assoc, mn_ge (by assumption) (by omega)] at hm
          refine ⟨rfl, (i + 1, s), ⟨h2, hs, hm⟩, fun t v h => h, Imp.refl _, by dsimp only; omega⟩
        · rw [if_neg (by omega), none_mn] at hm
          refine ⟨rfl, (i + 1, s), ⟨h2, hs, hm⟩, fun t v h => h, Imp.refl _, by dsimp only; omega⟩
      · rw [drop_all h2] at hm
        rw [mAt, mn_none] at hm
        have ho : out.length ≤ k := by rw [hout]; exact Nat.le_trans (List.length_filterMap_le _ _) (by simp)
        repeat' (first
          | (refine Ld.i ?_; conv => whnf)
          | (refine LdN.i ?_; conv => whnf)
          | (refine St.i ⟨rfl, rfl⟩ (List.cons_ne_nil _ _) ?_; conv => whnf)
          | (refine Ar.i64 (by omega) ?_; conv => whnf)
          | (intro blk hblk; conv => whnf)
          | (refine spl_f (by simp only [decide_true, Bool.not_true]) ?_; conv => whnf)
          | (refine spl_dec (fun hd => ?_) (fun hd => ?_) <;> first | (exfalso; omega) | (conv => whnf))
          | (refine spl_ndec (fun hd => ?_) (fun hd => ?_) <;> first | (exfalso; omega) | (conv => whnf))
          | (refine spl_intro (fun hd => ?_) (fun hd => ?_) <;> conv => whnf)
          | fail)
        · have hout' : out ++ [((k : Int), s)] = (List.range (k + 1)).filterMap fun (n : Nat) => (mAt n l).map fun s => ((n : Int), s) := by
            rw [hout, List.range_succ, List.filterMap_append]
            simp only [List.filterMap_cons, List.filterMap_nil, ← hm, tos_pos (show 1 ≤ s by omega), Option.map_some]
          refine OpX.app1 tab_ok rfl rfl rfl rfl ((k : Int), s) (by rw [hz]; rfl) rfl (by omega) ⟨rfl, dirty_one⟩ (fun a' c' => ?_)
          repeat' (first
            | (refine Ld.i ?_; conv => whnf)
            | (refine LdN.i ?_; conv => whnf)
            | (refine St.i ⟨rfl, rfl⟩ (List.cons_ne_nil _ _) ?_; conv => whnf)
            | (refine Ar.i64 (by omega) ?_; conv => whnf)
            | (intro blk hblk; conv => whnf)
            | (refine spl_f (by simp only [decide_true, Bool.not_true]) ?_; conv => whnf)
            | (refine spl_dec (fun hd => ?_) (fun hd => ?_) <;> first | (exfalso; omega) | (conv => whnf))
            | (refine spl_ndec (fun hd => ?_) (fun hd => ?_) <;> first | (exfalso; omega) | (conv => whnf))
            | (refine spl_intro (fun hd => ?_) (fun hd => ?_) <;> conv => whnf)
            | fail)
          refine ⟨rfl, (k + 1, z + 1, out ++ [((k : Int), s)], a', c'), ⟨by dsimp only; omega, by dsimp only; omega, hout'⟩, ?_, ?_, by dsimp only; omega⟩
          · dsimp only
            rw [List.length_append]
            exact fun t v h => h
          · first | exact Imp.refl _ | exact Imp.drop | exact Imp.fin | ((repeat (refine Imp.pick ?_)); first | exact Imp.refl _ | exact Imp.emp _ | exact Imp.fin)
        · have hout' : out = (List.range (k + 1)).filterMap fun (n : Nat) => (mAt n l).map fun s => ((n : Int), s) := by
            rw [List.range_succ, List.filterMap_append, ← hout]
            simp only [List.filterMap_cons, List.filterMap_nil, ← hm, show tos s = none from if_pos (by omega), Option.map_none, List.append_nil]
          refine ⟨rfl, (k + 1, z + 1, out, oa, oc), ⟨by dsimp only; omega, by dsimp only; omega, hout'⟩, fun t v h => h, Imp.refl _, by dsimp only; omega⟩
    · have hk3 : k = 64 := by omega
      subst hk3
      repeat' (first
        | (refine Ld.i ?_; conv => whnf)
        | (refine LdN.i ?_; conv => whnf)
        | (refine St.i ⟨rfl, rfl⟩ (List.cons_ne_nil _ _) ?_; conv => whnf)
        | (refine Ar.i64 (by omega) ?_; conv => whnf)
        | (intro blk hblk; conv => whnf)
        | (refine spl_f (by simp only [decide_true, Bool.not_true]) ?_; conv => whnf)
        | (refine spl_dec (fun hd => ?_) (fun hd => ?_) <;> first | (exfalso; omega) | (conv => whnf))
        | (refine spl_ndec (fun hd => ?_) (fun hd => ?_) <;> first | (exfalso; omega) | (conv => whnf))
        | (refine spl_intro (fun hd => ?_) (fun hd => ?_) <;> conv => whnf)
        | fail)
      subst hout
      refine ⟨_, _, rfl, ?_, oa, oc, rfl, rfl⟩
      unfold outL
      first | exact Imp.refl _ | exact Imp.drop | exact Imp.fin | ((repeat (refine Imp.pick ?_)); first | exact Imp.refl _ | exact Imp.emp _ | exact Imp.fin)
end Go.Proofs.Ytijnojaneheaeaa
