/- The law's own helpers, walked. Conditions: in each statement. -/
import Derived.Test.YtijnojaneheaeaaPtsAwake
namespace Go.Proofs.Ytijnojaneheaeaa
open Go Go.SL Go.SL.Pts
theorem same_spec {W : World} {R : HProp} {a b : Option Addr} {n m cap cap' : Nat} {xs ys : List DirtyV} [c : RowC W R a 2 dirtyv xs] [d : RowC W R b 2 dirtyv ys] (hn : n = xs.length) (hm : m = ys.length) (hb : xs.length ≤ 9223372036854775807) :
    Does prog W f_quotalaw16_same ⟨[.slice a n cap, .slice b m cap']⟩ R (Ret fun v G => v = .bool (decide (xs = ys)) ∧ G = R) := by
  subst hn hm
  refine f_quotalaw16_same.does _ _ ?_
  conv => whnf
  repeat' (first
    | (refine spl_f (by with_reducible exact ndec_self _) ?_; conv => whnf)
    | (refine spl_f (by with_reducible exact nbeq_self _) ?_; conv => whnf)
    | (refine spl_t (by with_reducible exact beq_self _) ?_; conv => whnf)
    | (refine spl_dec (fun hd => ?_) (fun hd => ?_) <;> first | (exfalso; omega) | (conv => whnf))
    | (refine spl_ndec (fun hd => ?_) (fun hd => ?_) <;> first | (exfalso; omega) | (conv => whnf))
    | (refine spl_intro (fun hd => ?_) (fun hd => ?_) <;> (conv => whnf))
    | (refine Ld.i ?_; conv => whnf)
    | (refine LdN.i ?_; conv => whnf)
    | (refine St.i ⟨rfl, rfl⟩ (List.cons_ne_nil _ _) ?_; conv => whnf)
    | (refine Ar.i64 (by omega) ?_; conv => whnf)
    | (refine Ar.u64 (by omega) ?_; conv => whnf)
    | (refine Shr.i (by rfl) (by decide) ?_; conv => whnf)
    | (refine Shl.i (by rfl) (by decide) ?_; conv => whnf)
    | (refine Req.mk (by omega) ?_; conv => whnf)
    | (intro blk hblk; conv => whnf)
    | fail)
  · refine Ret.eq (congrArg Value.bool (decide_eq_false fun e => ?_).symm) (Imp.refl _)
    subst e; omega
  have hl : xs.length = ys.length := by omega
  refine LoopK.keep tab_ok (L := f_quotalaw16_same.live) (ι := Nat) (fun i => i ≤ xs.length ∧ (xs = ys ↔ xs.drop i = ys.drop i)) (fun i => [(5, .int .i64 i)]) (fun i => xs.length - i) 0 (by simp) (fun t v h => h) ?_
  rintro i ⟨hi, he⟩
  conv => whnf
  by_cases h1 : i < xs.length
  · obtain ⟨x, hx⟩ : ∃ x, xs[i]? = some x := ⟨_, List.getElem?_eq_getElem h1⟩
    obtain ⟨y, hy⟩ : ∃ y, ys[i]? = some y := ⟨_, List.getElem?_eq_getElem (hl ▸ h1)⟩
    rw [drop_of hx, drop_of hy] at he
    repeat' (first
      | (refine spl_f (by with_reducible exact ndec_self _) ?_; conv => whnf)
      | (refine spl_f (by with_reducible exact nbeq_self _) ?_; conv => whnf)
      | (refine spl_t (by with_reducible exact beq_self _) ?_; conv => whnf)
      | (refine spl_dec (fun hd => ?_) (fun hd => ?_) <;> first | (exfalso; omega) | (conv => whnf))
      | (refine spl_ndec (fun hd => ?_) (fun hd => ?_) <;> first | (exfalso; omega) | (conv => whnf))
      | (refine spl_intro (fun hd => ?_) (fun hd => ?_) <;> (conv => whnf))
      | (refine Ld.i ?_; conv => whnf)
      | (refine LdN.i ?_; conv => whnf)
      | (refine St.i ⟨rfl, rfl⟩ (List.cons_ne_nil _ _) ?_; conv => whnf)
      | (refine Ar.i64 (by omega) ?_; conv => whnf)
      | (refine Ar.u64 (by omega) ?_; conv => whnf)
      | (refine Shr.i (by rfl) (by decide) ?_; conv => whnf)
      | (refine Shl.i (by rfl) (by decide) ?_; conv => whnf)
      | (refine Req.mk (by omega) ?_; conv => whnf)
      | (intro blk hblk; conv => whnf)
      | (refine IxS.r (i := i) rfl rfl h1 (fun ab off ha => ?_); cases ha; conv => whnf)
      | (refine IxS.r (i := i) rfl rfl (hl▸h1) (fun ab off ha => ?_); cases ha; conv => whnf)
      | (refine LdN.r hx rfl ?_; conv => whnf)
      | (refine Ld.r hx rfl ?_; conv => whnf)
      | (refine Ld.r0 hx rfl ?_; conv => whnf)
      | (refine LdN.rp hx ?_; conv => whnf)
      | (refine LdN.r hy rfl ?_; conv => whnf)
      | (refine Ld.r hy rfl ?_; conv => whnf)
      | (refine Ld.r0 hy rfl ?_; conv => whnf)
      | (refine LdN.rp hy ?_; conv => whnf)
      | (refine DrawK.intro tab_ok mixed f_quotalaw16_same.last6 f_quotalaw16_same.plan6 _ (by kernel_rfl) (Sub.of (by first | exact Imp.refl _ | exact Imp.drop | exact Imp.fin | ((repeat (refine Imp.pick ?_)); first | exact Imp.refl _ | exact Imp.emp _ | exact Imp.fin))) ?_; conv => whnf)
      | (refine OpX.of_quiet (OpQ.eqs rfl rfl ?_); conv => whnf)
      | (refine OpX.of_quiet (OpQ.nes rfl rfl ?_); conv => whnf)
      | (refine OpQ.eqs rfl rfl ?_; conv => whnf)
      | (refine OpQ.nes rfl rfl ?_; conv => whnf)
      | fail)
    · have hne : x ≠ y := fun e => by subst e; simp at hd
      refine Ret.eq (congrArg Value.bool (decide_eq_false fun e => hne (List.cons.inj (he.1 e)).1).symm) ?_
      first | exact Imp.refl _ | exact Imp.drop | exact Imp.fin | ((repeat (refine Imp.pick ?_)); first | exact Imp.refl _ | exact Imp.emp _ | exact Imp.fin)
    · have hxy : x = y := by
        simp only [Bool.not_eq_false', Bool.and_eq_true, decide_eq_true_eq] at hd
        cases x; cases y; simp_all
      subst hxy
      refine ⟨rfl, i + 1, ⟨h1, he.trans ⟨fun e => (List.cons.inj e).2, fun e => by rw [e]⟩⟩, fun t v h => h, ?_, by omega⟩
      first | exact Imp.refl _ | exact Imp.drop | exact Imp.fin | ((repeat (refine Imp.pick ?_)); first | exact Imp.refl _ | exact Imp.emp _ | exact Imp.fin)
  · rw [drop_all h1, drop_all (hl ▸ h1)] at he
    repeat' (first
      | (refine spl_f (by with_reducible exact ndec_self _) ?_; conv => whnf)
      | (refine spl_f (by with_reducible exact nbeq_self _) ?_; conv => whnf)
      | (refine spl_t (by with_reducible exact beq_self _) ?_; conv => whnf)
      | (refine spl_dec (fun hd => ?_) (fun hd => ?_) <;> first | (exfalso; omega) | (conv => whnf))
      | (refine spl_ndec (fun hd => ?_) (fun hd => ?_) <;> first | (exfalso; omega) | (conv => whnf))
      | (refine spl_intro (fun hd => ?_) (fun hd => ?_) <;> (conv => whnf))
      | (refine Ld.i ?_; conv => whnf)
      | (refine LdN.i ?_; conv => whnf)
      | (refine St.i ⟨rfl, rfl⟩ (List.cons_ne_nil _ _) ?_; conv => whnf)
      | (refine Ar.i64 (by omega) ?_; conv => whnf)
      | (refine Ar.u64 (by omega) ?_; conv => whnf)
      | (refine Shr.i (by rfl) (by decide) ?_; conv => whnf)
      | (refine Shl.i (by rfl) (by decide) ?_; conv => whnf)
      | (refine Req.mk (by omega) ?_; conv => whnf)
      | (intro blk hblk; conv => whnf)
      | fail)
    refine Ret.eq (congrArg Value.bool (decide_eq_true (he.2 rfl)).symm) ?_
    first | exact Imp.refl _ | exact Imp.drop | exact Imp.fin | ((repeat (refine Imp.pick ?_)); first | exact Imp.refl _ | exact Imp.emp _ | exact Imp.fin)
theorem sameLive_spec {W : World} {R : HProp} {a b : Option Addr} {n m cap cap' : Nat} {xs ys : List LiveV} [c : RowC W R a 4 livev xs] [d : RowC W R b 4 livev ys] (hn : n = xs.length) (hm : m = ys.length) (hb : xs.length ≤ 9223372036854775807) :
    Does prog W f_quotalaw16_sameLive ⟨[.slice a n cap, .slice b m cap']⟩ R (Ret fun v G => v = .bool (decide (xs = ys)) ∧ G = R) := by
  subst hn hm
  refine f_quotalaw16_sameLive.does _ _ ?_
  conv => whnf
  repeat' (first
    | (refine spl_f (by with_reducible exact ndec_self _) ?_; conv => whnf)
    | (refine spl_f (by with_reducible exact nbeq_self _) ?_; conv => whnf)
    | (refine spl_t (by with_reducible exact beq_self _) ?_; conv => whnf)
    | (refine spl_dec (fun hd => ?_) (fun hd => ?_) <;> first | (exfalso; omega) | (conv => whnf))
    | (refine spl_ndec (fun hd => ?_) (fun hd => ?_) <;> first | (exfalso; omega) | (conv => whnf))
    | (refine spl_intro (fun hd => ?_) (fun hd => ?_) <;> (conv => whnf))
    | (refine Ld.i ?_; conv => whnf)
    | (refine LdN.i ?_; conv => whnf)
    | (refine St.i ⟨rfl, rfl⟩ (List.cons_ne_nil _ _) ?_; conv => whnf)
    | (refine Ar.i64 (by omega) ?_; conv => whnf)
    | (refine Ar.u64 (by omega) ?_; conv => whnf)
    | (refine Shr.i (by rfl) (by decide) ?_; conv => whnf)
    | (refine Shl.i (by rfl) (by decide) ?_; conv => whnf)
    | (refine Req.mk (by omega) ?_; conv => whnf)
    | (intro blk hblk; conv => whnf)
    | fail)
  · refine Ret.eq (congrArg Value.bool (decide_eq_false fun e => ?_).symm) (Imp.refl _)
    subst e; omega
  have hl : xs.length = ys.length := by omega
  refine LoopK.keep tab_ok (L := f_quotalaw16_sameLive.live) (ι := Nat) (fun i => i ≤ xs.length ∧ (xs = ys ↔ xs.drop i = ys.drop i)) (fun i => [(5, .int .i64 i)]) (fun i => xs.length - i) 0 (by simp) (fun t v h => h) ?_
  rintro i ⟨hi, he⟩
  conv => whnf
  by_cases h1 : i < xs.length
  · obtain ⟨x, hx⟩ : ∃ x, xs[i]? = some x := ⟨_, List.getElem?_eq_getElem h1⟩
    obtain ⟨y, hy⟩ : ∃ y, ys[i]? = some y := ⟨_, List.getElem?_eq_getElem (hl ▸ h1)⟩
    rw [drop_of hx, drop_of hy] at he
    repeat' (first
      | (refine spl_f (by with_reducible exact ndec_self _) ?_; conv => whnf)
      | (refine spl_f (by with_reducible exact nbeq_self _) ?_; conv => whnf)
      | (refine spl_t (by with_reducible exact beq_self _) ?_; conv => whnf)
      | (refine spl_dec (fun hd => ?_) (fun hd => ?_) <;> first | (exfalso; omega) | (conv => whnf))
      | (refine spl_ndec (fun hd => ?_) (fun hd => ?_) <;> first | (exfalso; omega) | (conv => whnf))
      | (refine spl_intro (fun hd => ?_) (fun hd => ?_) <;> (conv => whnf))
      | (refine Ld.i ?_; conv => whnf)
      | (refine LdN.i ?_; conv => whnf)
      | (refine St.i ⟨rfl, rfl⟩ (List.cons_ne_nil _ _) ?_; conv => whnf)
      | (refine Ar.i64 (by omega) ?_; conv => whnf)
      | (refine Ar.u64 (by omega) ?_; conv => whnf)
      | (refine Shr.i (by rfl) (by decide) ?_; conv => whnf)
      | (refine Shl.i (by rfl) (by decide) ?_; conv => whnf)
      | (refine Req.mk (by omega) ?_; conv => whnf)
      | (intro blk hblk; conv => whnf)
      | (refine IxS.r (i := i) rfl rfl h1 (fun ab off ha => ?_); cases ha; conv => whnf)
      | (refine IxS.r (i := i) rfl rfl (hl▸h1) (fun ab off ha => ?_); cases ha; conv => whnf)
      | (refine LdN.r hx rfl ?_; conv => whnf)
      | (refine Ld.r hx rfl ?_; conv => whnf)
      | (refine Ld.r0 hx rfl ?_; conv => whnf)
      | (refine LdN.rp hx ?_; conv => whnf)
      | (refine LdN.r hy rfl ?_; conv => whnf)
      | (refine Ld.r hy rfl ?_; conv => whnf)
      | (refine Ld.r0 hy rfl ?_; conv => whnf)
      | (refine LdN.rp hy ?_; conv => whnf)
      | (refine DrawK.intro tab_ok mixed f_quotalaw16_sameLive.last6 f_quotalaw16_sameLive.plan6 _ (by kernel_rfl) (Sub.of (by first | exact Imp.refl _ | exact Imp.drop | exact Imp.fin | ((repeat (refine Imp.pick ?_)); first | exact Imp.refl _ | exact Imp.emp _ | exact Imp.fin))) ?_; conv => whnf)
      | (refine OpX.of_quiet (OpQ.eqs rfl rfl ?_); conv => whnf)
      | (refine OpX.of_quiet (OpQ.nes rfl rfl ?_); conv => whnf)
      | (refine OpQ.eqs rfl rfl ?_; conv => whnf)
      | (refine OpQ.nes rfl rfl ?_; conv => whnf)
      | fail)
    · have hne : x ≠ y := fun e => by subst e; simp at hd
      refine Ret.eq (congrArg Value.bool (decide_eq_false fun e => hne (List.cons.inj (he.1 e)).1).symm) ?_
      first | exact Imp.refl _ | exact Imp.drop | exact Imp.fin | ((repeat (refine Imp.pick ?_)); first | exact Imp.refl _ | exact Imp.emp _ | exact Imp.fin)
    · have hxy : x = y := by
        simp only [Bool.not_eq_false', Bool.and_eq_true, decide_eq_true_eq, beq_iff_eq] at hd
        cases x; cases y; simp_all
      subst hxy
      refine ⟨rfl, i + 1, ⟨h1, he.trans ⟨fun e => (List.cons.inj e).2, fun e => by rw [e]⟩⟩, fun t v h => h, ?_, by omega⟩
      first | exact Imp.refl _ | exact Imp.drop | exact Imp.fin | ((repeat (refine Imp.pick ?_)); first | exact Imp.refl _ | exact Imp.emp _ | exact Imp.fin)
  · rw [drop_all h1, drop_all (hl ▸ h1)] at he
    repeat' (first
      | (refine spl_f (by with_reducible exact ndec_self _) ?_; conv => whnf)
      | (refine spl_f (by with_reducible exact nbeq_self _) ?_; conv => whnf)
      | (refine spl_t (by with_reducible exact beq_self _) ?_; conv => whnf)
      | (refine spl_dec (fun hd => ?_) (fun hd => ?_) <;> first | (exfalso; omega) | (conv => whnf))
      | (refine spl_ndec (fun hd => ?_) (fun hd => ?_) <;> first | (exfalso; omega) | (conv => whnf))
      | (refine spl_intro (fun hd => ?_) (fun hd => ?_) <;> (conv => whnf))
      | (refine Ld.i ?_; conv => whnf)
      | (refine LdN.i ?_; conv => whnf)
      | (refine St.i ⟨rfl, rfl⟩ (List.cons_ne_nil _ _) ?_; conv => whnf)
      | (refine Ar.i64 (by omega) ?_; conv => whnf)
      | (refine Ar.u64 (by omega) ?_; conv => whnf)
      | (refine Shr.i (by rfl) (by decide) ?_; conv => whnf)
      | (refine Shl.i (by rfl) (by decide) ?_; conv => whnf)
      | (refine Req.mk (by omega) ?_; conv => whnf)
      | (intro blk hblk; conv => whnf)
      | fail)
    refine Ret.eq (congrArg Value.bool (decide_eq_true (he.2 rfl)).symm) ?_
    first | exact Imp.refl _ | exact Imp.drop | exact Imp.fin | ((repeat (refine Imp.pick ?_)); first | exact Imp.refl _ | exact Imp.emp _ | exact Imp.fin)
theorem tmod_fix (x n : Int) (hn : 1 ≤ n) : (if x.tmod n < 0 then x.tmod n + n else x.tmod n) = x % n := by
  rcases Int.lt_or_le x 0 with h | h
  · have h1 := Int.tmod_eq_emod (a := x) (b := n)
    have h2 := Int.emod_nonneg x (show n ≠ 0 by omega)
    have h3 := Int.emod_lt_of_pos x (show 0 < n by omega)
    rw [h1]
    split <;> split <;> omega
  · rw [Int.tmod_eq_emod_of_nonneg h]
    have h2 := Int.emod_nonneg x (show n ≠ 0 by omega)
    rw [if_neg (by omega)]
theorem brought_spec {W : World} {R : HProp} {x n : Int} (hn : 1 ≤ n ∧ n ≤ 9223372036854775807) : Does prog W f_quotalaw16_brought ⟨[.int .i64 x, .int .i64 n]⟩ R (Ret fun v G => v = .int .i64 (x % n) ∧ G = R) := by
  have hf := tmod_fix x n hn.1
  have h2 := Int.emod_nonneg x (show n ≠ 0 by omega)
  have h3 := Int.emod_lt_of_pos x (show 0 < n by omega)
  have h4 : x.tmod n ≤ n ∧ - n ≤ x.tmod n := by split at hf <;> omega
  refine f_quotalaw16_brought.does _ _ ?_
  conv => whnf
  repeat' (first
    | (refine spl_f (by with_reducible exact ndec_self _) ?_; conv => whnf)
    | (refine spl_f (by with_reducible exact nbeq_self _) ?_; conv => whnf)
    | (refine spl_t (by with_reducible exact beq_self _) ?_; conv => whnf)
    | (refine spl_dec (fun hd => ?_) (fun hd => ?_) <;> first | (exfalso; omega) | (conv => whnf))
    | (refine spl_ndec (fun hd => ?_) (fun hd => ?_) <;> first | (exfalso; omega) | (conv => whnf))
    | (refine spl_intro (fun hd => ?_) (fun hd => ?_) <;> (conv => whnf))
    | (refine Ld.i ?_; conv => whnf)
    | (refine LdN.i ?_; conv => whnf)
    | (refine St.i ⟨rfl, rfl⟩ (List.cons_ne_nil _ _) ?_; conv => whnf)
    | (refine Ar.i64 (by omega) ?_; conv => whnf)
    | (refine Ar.u64 (by omega) ?_; conv => whnf)
    | (refine Shr.i (by rfl) (by decide) ?_; conv => whnf)
    | (refine Shl.i (by rfl) (by decide) ?_; conv => whnf)
    | (refine Req.mk (by omega) ?_; conv => whnf)
    | (intro blk hblk; conv => whnf)
    | (refine ⟨by omega, ?_⟩; conv => whnf)
    | fail)
  · rw [if_pos (by assumption)] at hf
    exact Ret.eq (congrArg (Value.int .i64) hf) (Imp.refl _)
  · rw [if_neg (by assumption)] at hf
    exact Ret.eq (congrArg (Value.int .i64) hf) (Imp.refl _)
/-- fit: out of any. -/
def fitD (d : DirtyV) : DirtyV := (d.1 % 64, 1 + d.2 % 2147483647)
def fitF (l : List DirtyV) : List DirtyV := (l.take 2000).map fitD
theorem fit_spec {W : World} {R : HProp} {a : Option Addr} {n cap : Nat} {xs : List DirtyV} [c : RowC W R a 2 dirtyv xs] (hn : n = xs.length) :
    Does prog W f_quotalaw16_fit ⟨[.slice a n cap]⟩ R (Ret fun v G => ∃ a' cap', v = .slice a' (fitF xs).length cap' ∧ G = (vec t_api_Dirty 2 dirtyv a' cap' (fitF xs) • R)) := by
  subst hn
  refine f_quotalaw16_fit.does _ ?_
  conv => whnf
  refine LoopK.at tab_ok (L := f_quotalaw16_fit.live) (ι := Nat × Int × Option Addr × Nat) (fun i => i.2.1 = (i.1 : Int) ∧ i.1 ≤ xs.length ∧ i.1 ≤ 2000)
    (fun i => [(4, .int .i64 i.2.1), (3, .slice i.2.2.1 i.1 i.2.2.2)]) (fun i => vec t_api_Dirty 2 dirtyv i.2.2.1 i.2.2.2 ((xs.take i.1).map fitD)) (fun i => 2000 - i.1) (0, 0, none, 0) (by simp) (fun t v h => h) (Imp.vnil (Imp.refl _)) ?_
  rintro ⟨i, z, oa, oc⟩ ⟨hz, hi, hi2⟩
  dsimp only at hz hi hi2 ⊢
  conv => whnf
  by_cases h1 : i < xs.length ∧ i < 2000
  · obtain ⟨x, hx⟩ : ∃ x, xs[i]? = some x := ⟨_, List.getElem?_eq_getElem h1.1⟩
    have hT : (xs.take i).map fitD ++ [fitD x] = (xs.take (i + 1)).map fitD := by rw [List.take_add_one, hx]; simp
    have hlen : ((xs.take i).map fitD).length = i := by simp; omega
    have b1 := Int.emod_nonneg x.1 (show (64 : Int) ≠ 0 by omega)
    have b2 := Int.emod_nonneg x.2 (show (2147483647 : Int) ≠ 0 by omega)
    have b3 := Int.emod_lt_of_pos x.2 (show (0 : Int) < 2147483647 by omega)
    repeat' (first
      | (refine spl_f (by with_reducible exact ndec_self _) ?_; conv => whnf)
      | (refine spl_f (by with_reducible exact nbeq_self _) ?_; conv => whnf)
      | (refine spl_t (by with_reducible exact beq_self _) ?_; conv => whnf)
      | (refine spl_dec (fun hd => ?_) (fun hd => ?_) <;> first | (exfalso; omega) | (conv => whnf))
      | (refine spl_ndec (fun hd => ?_) (fun hd => ?_) <;> first | (exfalso; omega) | (conv => whnf))
      | (refine spl_intro (fun hd => ?_) (fun hd => ?_) <;> (conv => whnf))
      | (refine Ld.i ?_; conv => whnf)
      | (refine LdN.i ?_; conv => whnf)
      | (refine St.i ⟨rfl, rfl⟩ (List.cons_ne_nil _ _) ?_; conv => whnf)
      | (refine Ar.i64 (by omega) ?_; conv => whnf)
      | (refine Ar.u64 (by omega) ?_; conv => whnf)
      | (refine Shr.i (by rfl) (by decide) ?_; conv => whnf)
      | (refine Shl.i (by rfl) (by decide) ?_; conv => whnf)
      | (refine Req.mk (by omega) ?_; conv => whnf)
      | (intro blk hblk; conv => whnf)
      | (refine IxS.r (i := i) hz rfl h1.1 (fun ab off ha => ?_); cases ha; conv => whnf)
      | (refine LdN.r hx rfl ?_; conv => whnf)
      | (refine Ld.r hx rfl ?_; conv => whnf)
      | (refine Ld.r0 hx rfl ?_; conv => whnf)
      | (refine LdN.rp hx ?_; conv => whnf)
      | (refine DrawK.intro tab_ok mixed f_quotalaw16_fit.last5 f_quotalaw16_fit.plan5 (R) (by kernel_rfl) (Sub.of (by first | exact Imp.refl _ | exact Imp.drop | exact Imp.fin | ((repeat (refine Imp.pick ?_)); first | exact Imp.refl _ | exact Imp.emp _ | exact Imp.fin))) ?_; conv => whnf)
      | (refine Sub.on (by first | exact Imp.refl _ | exact Imp.drop | exact Imp.fin | ((repeat (refine Imp.pick ?_)); first | exact Imp.refl _ | exact Imp.emp _ | exact Imp.fin)) ?_; conv => whnf)
      | (refine CallK.ret f_quotalaw16_brought.ok ((brought_spec (by omega))) ?_; rintro v G ⟨rfl, rfl⟩; conv => whnf)
      | fail)
    refine OpX.app1 tab_ok rfl rfl rfl rfl (fitD x) rfl hlen.symm (by rw [hlen]; omega) ⟨rfl, dirty_one⟩ (fun a' c' => ?_)
    rw [hT]
    repeat' (first
      | (refine spl_f (by with_reducible exact ndec_self _) ?_; conv => whnf)
      | (refine spl_f (by with_reducible exact nbeq_self _) ?_; conv => whnf)
      | (refine spl_t (by with_reducible exact beq_self _) ?_; conv => whnf)
      | (refine spl_dec (fun hd => ?_) (fun hd => ?_) <;> first | (exfalso; omega) | (conv => whnf))
      | (refine spl_ndec (fun hd => ?_) (fun hd => ?_) <;> first | (exfalso; omega) | (conv => whnf))
      | (refine spl_intro (fun hd => ?_) (fun hd => ?_) <;> (conv => whnf))
      | (refine Ld.i ?_; conv => whnf)
      | (refine LdN.i ?_; conv => whnf)
      | (refine St.i ⟨rfl, rfl⟩ (List.cons_ne_nil _ _) ?_; conv => whnf)
      | (refine Ar.i64 (by omega) ?_; conv => whnf)
      | (refine Ar.u64 (by omega) ?_; conv => whnf)
      | (refine Shr.i (by rfl) (by decide) ?_; conv => whnf)
      | (refine Shl.i (by rfl) (by decide) ?_; conv => whnf)
      | (refine Req.mk (by omega) ?_; conv => whnf)
      | (intro blk hblk; conv => whnf)
      | (refine Sub.on (by first | exact Imp.refl _ | exact Imp.drop | exact Imp.fin | ((repeat (refine Imp.pick ?_)); first | exact Imp.refl _ | exact Imp.emp _ | exact Imp.fin)) ?_; conv => whnf)
      | fail)
    refine ⟨rfl, (i + 1, z + 1, a', c'), ⟨by dsimp only; omega, by dsimp only; omega, by dsimp only; omega⟩, fun t v h => h, ?_, by dsimp only; omega⟩
    first | exact Imp.refl _ | exact Imp.drop | exact Imp.fin | ((repeat (refine Imp.pick ?_)); first | exact Imp.refl _ | exact Imp.emp _ | exact Imp.fin)
  · have hT : (xs.take i).map fitD = fitF xs := by
      rw [fitF]
      by_cases h2 : i < xs.length
      · have : i = 2000 := by omega
        subst this; rfl
      · rw [List.take_of_length_le (by omega), List.take_of_length_le (by omega)]
    have hlen : (fitF xs).length = i := by rw [← hT]; simp; omega
    repeat' (first
      | (refine spl_f (by with_reducible exact ndec_self _) ?_; conv => whnf)
      | (refine spl_f (by with_reducible exact nbeq_self _) ?_; conv => whnf)
      | (refine spl_t (by with_reducible exact beq_self _) ?_; conv => whnf)
      | (refine spl_dec (fun hd => ?_) (fun hd => ?_) <;> first | (exfalso; omega) | (conv => whnf))
      | (refine spl_ndec (fun hd => ?_) (fun hd => ?_) <;> first | (exfalso; omega) | (conv => whnf))
      | (refine spl_intro (fun hd => ?_) (fun hd => ?_) <;> (conv => whnf))
      | (refine Ld.i ?_; conv => whnf)
      | (refine LdN.i ?_; conv => whnf)
      | (refine St.i ⟨rfl, rfl⟩ (List.cons_ne_nil _ _) ?_; conv => whnf)
      | (refine Ar.i64 (by omega) ?_; conv => whnf)
      | (refine Ar.u64 (by omega) ?_; conv => whnf)
      | (refine Shr.i (by rfl) (by decide) ?_; conv => whnf)
      | (refine Shl.i (by rfl) (by decide) ?_; conv => whnf)
      | (refine Req.mk (by omega) ?_; conv => whnf)
      | (intro blk hblk; conv => whnf)
      | fail)
    all_goals
      rw [hT]
      refine ⟨_, _, rfl, Imp.refl _, oa, oc, by rw [hlen], rfl⟩
theorem fit_ok (l : List DirtyV) : OkM (fitF l) ∧ (fitF l).length ≤ 2000 := by
  refine ⟨fun p hp => ?_, by simp [fitF]; omega⟩
  obtain ⟨d, _, rfl⟩ := List.mem_map.1 hp
  have b1 := Int.emod_nonneg d.1 (show (64 : Int) ≠ 0 by omega)
  have b2 := Int.emod_nonneg d.2 (show (2147483647 : Int) ≠ 0 by omega)
  have b3 := Int.emod_lt_of_pos d.2 (show (0 : Int) < 2147483647 by omega)
  have b4 := Int.emod_lt_of_pos d.1 (show (0 : Int) < 64 by omega)
  simp only [fitD]
  omega
/-- merged. -/
theorem merged_spec {W : World} {R : HProp} {a b : Option Addr} {n n' cap cap' : Nat} {xs ys : List DirtyV} [c : RowC W R a 2 dirtyv xs] [d : RowC W R b 2 dirtyv ys] (hn : n = xs.length) (hn' : n' = ys.length) (hb : xs.length + ys.length ≤ 1000000) (hx : OkM xs) (hy : OkM ys) :
    Does prog W f_quotalaw16_merged ⟨[.slice a n cap, .slice b n' cap']⟩ R (Ret fun v G => ∃ a' cap', v = .slice a' (outL fun k => mAt k (xs ++ ys)).length cap' ∧ G = (vec t_api_Dirty 2 dirtyv a' cap' (outL fun k => mAt k (xs ++ ys)) • R)) := by
  have hm : mergeF xs ys = (0, outL fun k => mAt k (xs ++ ys)) := by
    rw [mergeF_eq, if_neg]
    rw [errD_append, ok_errD hx, ok_errD hy]; simp
  refine f_quotalaw16_merged.does _ _ ?_
  conv => whnf
  repeat' (first
    | (refine spl_f (by with_reducible exact ndec_self _) ?_; conv => whnf)
    | (refine spl_f (by with_reducible exact nbeq_self _) ?_; conv => whnf)
    | (refine spl_t (by with_reducible exact beq_self _) ?_; conv => whnf)
    | (refine spl_dec (fun hd => ?_) (fun hd => ?_) <;> first | (exfalso; omega) | (conv => whnf))
    | (refine spl_ndec (fun hd => ?_) (fun hd => ?_) <;> first | (exfalso; omega) | (conv => whnf))
    | (refine spl_intro (fun hd => ?_) (fun hd => ?_) <;> (conv => whnf))
    | (refine Ld.i ?_; conv => whnf)
    | (refine LdN.i ?_; conv => whnf)
    | (refine St.i ⟨rfl, rfl⟩ (List.cons_ne_nil _ _) ?_; conv => whnf)
    | (refine Ar.i64 (by omega) ?_; conv => whnf)
    | (refine Ar.u64 (by omega) ?_; conv => whnf)
    | (refine Shr.i (by rfl) (by decide) ?_; conv => whnf)
    | (refine Shl.i (by rfl) (by decide) ?_; conv => whnf)
    | (refine Req.mk (by omega) ?_; conv => whnf)
    | (intro blk hblk; conv => whnf)
    | (refine CallK.ret f_points_Merge.ok ((merge_as hm hn hn' hb)) ?_; rintro v G ⟨la, lc, rfl, rfl⟩; conv => whnf)
    | (refine CallK.ret f_quotalaw16_num.ok (num_spec) ?_; rintro v G ⟨rfl, rfl⟩; conv => whnf)
    | fail)
  exact ⟨_, _, rfl, Imp.refl _, la, lc, rfl, rfl⟩
end Go.Proofs.Ytijnojaneheaeaa
