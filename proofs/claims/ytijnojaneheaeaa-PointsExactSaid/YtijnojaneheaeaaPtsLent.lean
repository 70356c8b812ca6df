/- Lists with a mark behind them. Conditions: in each statement. -/
import Derived.Test.YtijnojaneheaeaaPtsTest
namespace Go.Proofs.Ytijnojaneheaeaa
open Go Go.SL Go.SL.Pts
/-- A list with the mark in the room behind it. -/
def lentc (a : Option Addr) (cap : Nat) (L : List DirtyV) : HProp := vec t_api_Dirty 2 dirtyv a cap (L ++ [(-7, -8)])
theorem RowC.pre {W : World} {H : HProp} {a : Option Addr} {L M : List DirtyV} (c : RowC W H a 2 dirtyv (L ++ M)) : RowC W H a 2 dirtyv L := by
  have := RowC.take L.length c
  rwa [List.take_left] at this
instance (priority := 100) RowC.lent {W : World} {R : HProp} {a : Option Addr} {cap : Nat} {L : List DirtyV} : RowC W (lentc a cap L • R) a 2 dirtyv L := RowC.pre (M := [(-7, -8)]) (RowC.here (s := ⟨sized_dirty⟩))
theorem lent_spec {W : World} {R : HProp} {a : Option Addr} {n cap : Nat} {xs : List DirtyV} [c : RowC W R a 2 dirtyv xs] (hn : n = xs.length) (hc : n ≤ cap) :
    Does prog W f_quotalaw16_lent ⟨[.slice a n cap]⟩ R (Ret fun v G => ∃ a' cap', v = .slice a' (xs.take 2000).length cap' ∧ G = (lentc a' cap' (xs.take 2000) • R)) := by
  subst hn
  refine f_quotalaw16_lent.does _ ?_
  conv => whnf
  repeat' (first
    | (refine Ld.i ?_; conv => whnf)
    | (refine LdN.i ?_; conv => whnf)
    | (refine St.i ⟨rfl, rfl⟩ (List.cons_ne_nil _ _) ?_; conv => whnf)
    | (refine Ar.i64 (by omega) ?_; conv => whnf)
    | (intro blk hblk; conv => whnf)
    | (refine spl_f (by simp only [decide_true, Bool.not_true]) ?_; conv => whnf)
    | (refine spl_dec (fun hd => ?_) (fun hd => ?_) <;> first | (exfalso; omega) | (conv => whnf))
    | (refine spl_ndec (fun hd => ?_) (fun hd => ?_) <;> first | (exfalso; omega) | (conv => whnf))
    | (refine spl_intro (fun hd => ?_) (fun hd => ?_) <;> conv => whnf)
    | (refine OpX.of_quiet (OpQ.slh tab_ok rfl rfl rfl rfl (by omega) ?_); conv => whnf)
    | fail)
  · haveI c' := RowC.take 2000 c
    have hl : (xs.take 2000).length = 2000 := by simp; omega
    refine OpX.appN tab_ok rfl rfl rfl rfl hl.symm (by omega) ⟨rfl, dirty_one⟩ (fun a1 c1 => ?_)
    repeat' (first
      | (refine Ld.i ?_; conv => whnf)
      | (refine LdN.i ?_; conv => whnf)
      | (refine St.i ⟨rfl, rfl⟩ (List.cons_ne_nil _ _) ?_; conv => whnf)
      | (refine Ar.i64 (by omega) ?_; conv => whnf)
      | (intro blk hblk; conv => whnf)
      | (refine spl_f (by simp only [decide_true, Bool.not_true]) ?_; conv => whnf)
      | (refine spl_dec (fun hd => ?_) (fun hd => ?_) <;> first | (exfalso; omega) | (conv => whnf))
      | (refine spl_ndec (fun hd => ?_) (fun hd => ?_) <;> first | (exfalso; omega) | (conv => whnf))
      | (refine spl_intro (fun hd => ?_) (fun hd => ?_) <;> conv => whnf)
      | fail)
    refine OpX.app1 tab_ok rfl rfl rfl rfl (-7, -8) rfl hl.symm (by omega) ⟨rfl, dirty_one⟩ (fun a2 c2 => ?_)
    conv => whnf
    repeat' (first
      | (refine Ld.i ?_; conv => whnf)
      | (refine LdN.i ?_; conv => whnf)
      | (refine St.i ⟨rfl, rfl⟩ (List.cons_ne_nil _ _) ?_; conv => whnf)
      | (refine Ar.i64 (by omega) ?_; conv => whnf)
      | (intro blk hblk; conv => whnf)
      | (refine spl_f (by simp only [decide_true, Bool.not_true]) ?_; conv => whnf)
      | (refine spl_dec (fun hd => ?_) (fun hd => ?_) <;> first | (exfalso; omega) | (conv => whnf))
      | (refine spl_ndec (fun hd => ?_) (fun hd => ?_) <;> first | (exfalso; omega) | (conv => whnf))
      | (refine spl_intro (fun hd => ?_) (fun hd => ?_) <;> conv => whnf)
      | (refine OpX.of_quiet (OpQ.slv tab_ok rfl rfl rfl rfl (by simp; omega) ?_); conv => whnf)
      | fail)
    refine ⟨_, _, rfl, ?_, a2, c2, by rw [hl]; rfl, rfl⟩
    unfold lentc
    first | exact Imp.refl _ | exact Imp.drop | exact Imp.fin | ((repeat (refine Imp.pick ?_)); first | exact Imp.refl _ | exact Imp.emp _ | exact Imp.fin)
  · have hl : xs.take 2000 = xs := List.take_of_length_le (by omega)
    rw [hl]
    refine OpX.appN tab_ok rfl rfl rfl rfl rfl (by omega) ⟨rfl, dirty_one⟩ (fun a1 c1 => ?_)
    repeat' (first
      | (refine Ld.i ?_; conv => whnf)
      | (refine LdN.i ?_; conv => whnf)
      | (refine St.i ⟨rfl, rfl⟩ (List.cons_ne_nil _ _) ?_; conv => whnf)
      | (refine Ar.i64 (by omega) ?_; conv => whnf)
      | (intro blk hblk; conv => whnf)
      | (refine spl_f (by simp only [decide_true, Bool.not_true]) ?_; conv => whnf)
      | (refine spl_dec (fun hd => ?_) (fun hd => ?_) <;> first | (exfalso; omega) | (conv => whnf))
      | (refine spl_ndec (fun hd => ?_) (fun hd => ?_) <;> first | (exfalso; omega) | (conv => whnf))
      | (refine spl_intro (fun hd => ?_) (fun hd => ?_) <;> conv => whnf)
      | fail)
    refine OpX.app1 tab_ok rfl rfl rfl rfl (-7, -8) rfl rfl (by omega) ⟨rfl, dirty_one⟩ (fun a2 c2 => ?_)
    conv => whnf
    repeat' (first
      | (refine Ld.i ?_; conv => whnf)
      | (refine LdN.i ?_; conv => whnf)
      | (refine St.i ⟨rfl, rfl⟩ (List.cons_ne_nil _ _) ?_; conv => whnf)
      | (refine Ar.i64 (by omega) ?_; conv => whnf)
      | (intro blk hblk; conv => whnf)
      | (refine spl_f (by simp only [decide_true, Bool.not_true]) ?_; conv => whnf)
      | (refine spl_dec (fun hd => ?_) (fun hd => ?_) <;> first | (exfalso; omega) | (conv => whnf))
      | (refine spl_ndec (fun hd => ?_) (fun hd => ?_) <;> first | (exfalso; omega) | (conv => whnf))
      | (refine spl_intro (fun hd => ?_) (fun hd => ?_) <;> conv => whnf)
      | (refine OpX.of_quiet (OpQ.slv tab_ok rfl rfl rfl rfl (by simp; omega) ?_); conv => whnf)
      | fail)
    refine ⟨_, _, rfl, ?_, a2, c2, rfl, rfl⟩
    unfold lentc
    first | exact Imp.refl _ | exact Imp.drop | exact Imp.fin | ((repeat (refine Imp.pick ?_)); first | exact Imp.refl _ | exact Imp.emp _ | exact Imp.fin)
theorem kept_spec {W : World} {H R : HProp} {a b : Option Addr} {n m cap cap' : Nat} {L ys : List DirtyV} [t : TkC H (lentc a cap L) R] [d : RowC W R b 2 dirtyv ys] (hn : n = L.length) (hm : m = ys.length) (hy : L.length = ys.length) (hb : L.length ≤ 9223372036854775806) :
    Does prog W f_quotalaw16_kept ⟨[.slice a n cap, .slice b m cap']⟩ H (Ret fun v G => v = .bool (decide (L = ys)) ∧ G = (lentc a cap L • R)) := by
  subst hn hm
  refine Does.imp (H' := vec t_api_Dirty 2 dirtyv a cap (L ++ [(-7, -8)]) • R) (by rw [t.h.eq]; exact Imp.refl _) ?_
  unfold lentc
  refine f_quotalaw16_kept.does _ _ ?_
  conv => whnf
  repeat' (first
    | (refine Ld.i ?_; conv => whnf)
    | (refine LdN.i ?_; conv => whnf)
    | (refine St.i ⟨rfl, rfl⟩ (List.cons_ne_nil _ _) ?_; conv => whnf)
    | (refine Ar.i64 (by omega) ?_; conv => whnf)
    | (intro blk hblk; conv => whnf)
    | (refine spl_f (by simp only [decide_true, Bool.not_true]) ?_; conv => whnf)
    | (refine spl_dec (fun hd => ?_) (fun hd => ?_) <;> first | (exfalso; omega) | (conv => whnf))
    | (refine spl_ndec (fun hd => ?_) (fun hd => ?_) <;> first | (exfalso; omega) | (conv => whnf))
    | (refine spl_intro (fun hd => ?_) (fun hd => ?_) <;> conv => whnf)
    | (refine OpX.of_quiet (OpQ.slv tab_ok rfl rfl rfl rfl (by simp; omega) ?_); conv => whnf)
    | fail)
  have hz : ((L.length : Int) + 1).toNat = (L ++ [((-7 : Int), (-8 : Int))]).length := by rw [List.length_append]; show _ = _ + 1; omega
  have hz2 : (L ++ [((-7 : Int), (-8 : Int))]).length = L.length + 1 := List.length_append
  refine LoopK.keep tab_ok (L := f_quotalaw16_kept.live) (ι := Nat) (fun i => i ≤ L.length ∧ (L = ys ↔ L.drop i = ys.drop i)) (fun i => [(6, .int .i64 i)]) (fun i => L.length - i) 0 (by simp) (fun t v h => h) ?_
  rintro i ⟨hi, he⟩
  conv => whnf
  by_cases h1 : i < L.length
  · obtain ⟨x, hx⟩ : ∃ x, L[i]? = some x := ⟨_, List.getElem?_eq_getElem h1⟩
    obtain ⟨y, hy'⟩ : ∃ y, ys[i]? = some y := ⟨_, List.getElem?_eq_getElem (hy ▸ h1)⟩
    have hx2 : (L ++ [((-7 : Int), (-8 : Int))])[i]? = some x := by rw [List.getElem?_append_left h1]; exact hx
    rw [drop_of hx, drop_of hy'] at he
    repeat' (first
      | (refine Ld.i ?_; conv => whnf)
      | (refine LdN.i ?_; conv => whnf)
      | (refine St.i ⟨rfl, rfl⟩ (List.cons_ne_nil _ _) ?_; conv => whnf)
      | (refine Ar.i64 (by omega) ?_; conv => whnf)
      | (intro blk hblk; conv => whnf)
      | (refine spl_f (by simp only [decide_true, Bool.not_true]) ?_; conv => whnf)
      | (refine spl_dec (fun hd => ?_) (fun hd => ?_) <;> first | (exfalso; omega) | (conv => whnf))
      | (refine spl_ndec (fun hd => ?_) (fun hd => ?_) <;> first | (exfalso; omega) | (conv => whnf))
      | (refine spl_intro (fun hd => ?_) (fun hd => ?_) <;> conv => whnf)
      | (refine IxS.r (i := i) (xs := L ++ [((-7 : Int), (-8 : Int))]) rfl hz (by omega) (fun ab off ha => ?_); cases ha; conv => whnf)
      | (refine IxS.r (i := i) rfl rfl (hy▸h1) (fun ab off ha => ?_); cases ha; conv => whnf)
      | (refine LdN.r hx2 rfl ?_; conv => whnf)
      | (refine Ld.r hx2 rfl ?_; conv => whnf)
      | (refine Ld.r0 hx2 rfl ?_; conv => whnf)
      | (refine LdN.r hy' rfl ?_; conv => whnf)
      | (refine Ld.r hy' rfl ?_; conv => whnf)
      | (refine Ld.r0 hy' rfl ?_; conv => whnf)
      | (refine DrawK.intro tab_ok mixed f_quotalaw16_kept.last5 f_quotalaw16_kept.plan5 _ (by kernel_rfl) (Sub.of (by first | exact Imp.refl _ | exact Imp.drop | exact Imp.fin | ((repeat (refine Imp.pick ?_)); first | exact Imp.refl _ | exact Imp.emp _ | exact Imp.fin))) ?_; conv => whnf)
      | (refine OpX.of_quiet (OpQ.eqs rfl rfl ?_); conv => whnf)
      | (refine OpX.of_quiet (OpQ.nes rfl rfl ?_); conv => whnf)
      | (refine OpQ.eqs rfl rfl ?_; conv => whnf)
      | (refine OpQ.nes rfl rfl ?_; conv => whnf)
      | fail)
    · have hne : x ≠ y := fun e => by subst e; simp at hd
      refine Ret.eq (congrArg Value.bool (decide_eq_false fun e => hne (List.cons.inj (he.1 e)).1).symm) ?_
      first | exact Imp.refl _ | exact Imp.drop | exact Imp.fin | ((repeat (refine Imp.pick ?_)); first | exact Imp.refl _ | exact Imp.emp _ | exact Imp.fin)
    · have hxy : x = y := by
        simp only [Bool.not_eq_false', Bool.and_eq_true, decide_eq_true_eq] at hd
        cases x; cases y; simp_all
      subst hxy
      refine ⟨rfl, i + 1, ⟨h1, he.trans ⟨fun e => (List.cons.inj e).2, fun e => by rw [e]⟩⟩, fun t v h => h, ?_, by omega⟩
      first | exact Imp.refl _ | exact Imp.drop | exact Imp.fin | ((repeat (refine Imp.pick ?_)); first | exact Imp.refl _ | exact Imp.emp _ | exact Imp.fin)
  · rw [drop_all h1, drop_all (hy ▸ h1)] at he
    have hx2 : (L ++ [((-7 : Int), (-8 : Int))])[L.length]? = some (-7, -8) := by simp
    repeat' (first
      | (refine Ld.i ?_; conv => whnf)
      | (refine LdN.i ?_; conv => whnf)
      | (refine St.i ⟨rfl, rfl⟩ (List.cons_ne_nil _ _) ?_; conv => whnf)
      | (refine Ar.i64 (by omega) ?_; conv => whnf)
      | (intro blk hblk; conv => whnf)
      | (refine spl_f (by simp only [decide_true, Bool.not_true]) ?_; conv => whnf)
      | (refine spl_dec (fun hd => ?_) (fun hd => ?_) <;> first | (exfalso; omega) | (conv => whnf))
      | (refine spl_ndec (fun hd => ?_) (fun hd => ?_) <;> first | (exfalso; omega) | (conv => whnf))
      | (refine spl_intro (fun hd => ?_) (fun hd => ?_) <;> conv => whnf)
      | (refine IxS.r (i := L.length) (xs := L ++ [((-7 : Int), (-8 : Int))]) rfl hz (by omega) (fun ab off ha => ?_); cases ha; conv => whnf)
      | (refine LdN.r hx2 rfl ?_; conv => whnf)
      | (refine Ld.r hx2 rfl ?_; conv => whnf)
      | (refine Ld.r0 hx2 rfl ?_; conv => whnf)
      | (refine OpX.of_quiet (OpQ.eqs rfl rfl ?_); conv => whnf)
      | (refine OpX.of_quiet (OpQ.nes rfl rfl ?_); conv => whnf)
      | (refine OpQ.eqs rfl rfl ?_; conv => whnf)
      | (refine OpQ.nes rfl rfl ?_; conv => whnf)
      | fail)
    refine Ret.eq (congrArg Value.bool ?_) ?_
    · rw [decide_eq_true (he.2 rfl)]; rfl
    · first | exact Imp.refl _ | exact Imp.drop | exact Imp.fin | ((repeat (refine Imp.pick ?_)); first | exact Imp.refl _ | exact Imp.emp _ | exact Imp.fin)
end Go.Proofs.Ytijnojaneheaeaa
