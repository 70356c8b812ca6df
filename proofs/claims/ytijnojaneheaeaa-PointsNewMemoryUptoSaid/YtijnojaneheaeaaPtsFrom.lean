/- points.From and the document's, walked. Conditions: in each statement. -/
import Derived.Test.YtijnojaneheaeaaWalk
import Derived.Test.YtijnojaneheaeaaPtsModel
import Derived.Test.YtijnojaneheaeaaTabEq
namespace Go.Proofs.Ytijnojaneheaeaa
open Go Go.SL Go.SL.Pts
abbrev ptr (b : Nat) : Value := .pointer (some ⟨b, 0, none⟩)
def dirtyv (d : DirtyV) : List Value := [.int .i64 d.1, .int .i64 d.2]
instance : SizedC 2 dirtyv := ⟨fun _ => rfl⟩
instance {d : DirtyV} : LitL (dirtyv d) [.int .i64 d.1, .int .i64 d.2] := ⟨rfl⟩
theorem sized_dirty : Sized 2 dirtyv := fun _ => rfl
def livev (d : LiveV) : List Value := [.int .i64 d.tx, .int .i64 d.last, .bool d.com, .bool d.und]
instance : SizedC 4 livev := ⟨fun _ => rfl⟩
instance {d : LiveV} : LitL (livev d) [.int .i64 d.tx, .int .i64 d.last, .bool d.com, .bool d.und] := ⟨rfl⟩
theorem sized_live : Sized 4 livev := fun _ => rfl

class DecD (l : List Value) (xs : outParam (List DirtyV)) : Prop where h : l = xs.flatMap dirtyv
instance : DecD [] [] := ⟨rfl⟩
instance {x y : Int} {l : List Value} {xs : List DirtyV} [i : DecD l xs] : DecD (.int .i64 x :: .int .i64 y :: l) ((x, y) :: xs) := ⟨by rw [i.h]; rfl⟩
instance (priority := 70) RowC.lit {W : World} {R : HProp} {b : Nat} {l : List Value} {t : TypeId} {fz : Nat × Nat} {xs : List DirtyV} [i : DecD l xs] : RowC W (pts b (.cells ⟨l⟩ t fz) • R) (some ⟨b, 0, none⟩) 2 dirtyv xs := RowC.pts sized_dirty xs i.h
theorem from_spec {W : World} {R : HProp} {lv : Value} {a : Option Addr} {n cap : Nat} {nx : Int} {xs : List DirtyV} [c : RowC W R a 2 dirtyv xs] (hn : n = xs.length) (hb : xs.length ≤ 9223372036854775807) :
    Does prog W f_points_From ⟨[.agg ⟨[lv, .slice a n cap, .int .i64 nx]⟩]⟩ R (Ret fun v G => v = .int .i64 (leastD xs) ∧ G = R) := by
  subst hn
  refine f_points_From.does _ ?_
  conv => whnf
  repeat (first
    | (refine Ld.i ?_; conv => whnf)
    | (refine LdN.i ?_; conv => whnf)
    | (refine St.i ⟨rfl, rfl⟩ (List.cons_ne_nil _ _) ?_; conv => whnf)
    | (refine Ar.i64 (by omega) ?_; conv => whnf)
    | (refine Ar.u64 (by omega) ?_; conv => whnf)
    | (refine Shr.i (by rfl) (by decide) ?_; conv => whnf)
    | (refine Shl.i (by rfl) (by decide) ?_; conv => whnf)
    | (refine Req.mk (by omega) ?_; conv => whnf)
    | (intro blk hblk; conv => whnf)
    | fail)
  refine LoopK.keep tab_ok (L := f_points_From.live) (ι := Nat × Int) (fun i => i.1 ≤ xs.length ∧ ((i.1 = 0 ∧ i.2 = 0) ∨ (1 ≤ i.1 ∧ lmin i.2 (xs.drop i.1) = leastD xs)))
    (fun i => [(9, .int .i64 i.1), (3, .int .i64 i.2)]) (fun i => xs.length - i.1) (0, 0) (by simp) (fun t v h => h) ?_
  rintro ⟨i, m⟩ ⟨hi, hm⟩
  dsimp only at hi hm ⊢
  conv => whnf
  by_cases h1 : i < xs.length
  · obtain ⟨x, hx⟩ : ∃ x, xs[i]? = some x := ⟨_, List.getElem?_eq_getElem h1⟩
    have hdr := drop_of hx
    rw [hdr] at hm
    repeat' (first
      | (refine spl_f (by with_reducible exact ndec_self _) ?_; conv => whnf)
      | (refine spl_f (by with_reducible exact nbeq_self _) ?_; conv => whnf)
      | (refine spl_t (by with_reducible exact beq_self _) ?_; conv => whnf)
      | (refine spl_dec (fun hd => ?_) (fun hd => ?_) <;> first | (exfalso; omega) | (conv => whnf))
      | (refine spl_ndec (fun hd => ?_) (fun hd => ?_) <;> first | (exfalso; omega) | (conv => whnf))
      | (refine spl_intro (fun hd => ?_) (fun hd => ?_) <;> (conv => whnf))
      | (refine Ld.i ?_; conv => whnf)
      | (refine LdN.i ?_; conv => whnf)
      | (refine St.i ⟨rfl, rfl⟩ (List.cons_ne_nil _ _) ?_; conv => whnf)
      | (refine Ar.i64 (by omega) ?_; conv => whnf)
      | (refine Ar.u64 (by omega) ?_; conv => whnf)
      | (refine Shr.i (by rfl) (by decide) ?_; conv => whnf)
      | (refine Shl.i (by rfl) (by decide) ?_; conv => whnf)
      | (refine Req.mk (by omega) ?_; conv => whnf)
      | (intro blk hblk; conv => whnf)
      | (refine IxS.r (i := i) rfl rfl h1 (fun ab off ha => ?_); subst ha; conv => whnf)
      | (refine LdN.r hx rfl ?_; conv => whnf)
      | fail)
    · refine ⟨rfl, (i + 1, x.2), ⟨h1, .inr ⟨by simp, ?_⟩⟩, fun t v h => h, ?_, by dsimp only; omega⟩
      · have h0 : i = 0 := by omega
        subst h0
        rw [← List.drop_zero (l := xs), hdr]
        rfl
      · first | exact Imp.refl _ | exact Imp.drop | exact Imp.fin | ((repeat (refine Imp.pick ?_)); first | exact Imp.refl _ | exact Imp.emp _ | exact Imp.fin)
    · refine ⟨rfl, (i + 1, x.2), ⟨h1, .inr ⟨by simp, ?_⟩⟩, fun t v h => h, ?_, by dsimp only; omega⟩
      · have := (hm.resolve_left (by omega)).2
        rw [lmin, if_pos (by assumption)] at this
        exact this
      · first | exact Imp.refl _ | exact Imp.drop | exact Imp.fin | ((repeat (refine Imp.pick ?_)); first | exact Imp.refl _ | exact Imp.emp _ | exact Imp.fin)
    · refine ⟨rfl, (i + 1, m), ⟨h1, .inr ⟨by simp, ?_⟩⟩, fun t v h => h, ?_, by dsimp only; omega⟩
      · have := (hm.resolve_left (by omega)).2
        rw [lmin, if_neg (by assumption)] at this
        exact this
      · first | exact Imp.refl _ | exact Imp.drop | exact Imp.fin | ((repeat (refine Imp.pick ?_)); first | exact Imp.refl _ | exact Imp.emp _ | exact Imp.fin)
  · rw [drop_all h1] at hm
    repeat' (first
      | (refine spl_f (by with_reducible exact ndec_self _) ?_; conv => whnf)
      | (refine spl_f (by with_reducible exact nbeq_self _) ?_; conv => whnf)
      | (refine spl_t (by with_reducible exact beq_self _) ?_; conv => whnf)
      | (refine spl_dec (fun hd => ?_) (fun hd => ?_) <;> first | (exfalso; omega) | (conv => whnf))
      | (refine spl_ndec (fun hd => ?_) (fun hd => ?_) <;> first | (exfalso; omega) | (conv => whnf))
      | (refine spl_intro (fun hd => ?_) (fun hd => ?_) <;> (conv => whnf))
      | (refine Ld.i ?_; conv => whnf)
      | (refine LdN.i ?_; conv => whnf)
      | (refine St.i ⟨rfl, rfl⟩ (List.cons_ne_nil _ _) ?_; conv => whnf)
      | (refine Ar.i64 (by omega) ?_; conv => whnf)
      | (refine Ar.u64 (by omega) ?_; conv => whnf)
      | (refine Shr.i (by rfl) (by decide) ?_; conv => whnf)
      | (refine Shl.i (by rfl) (by decide) ?_; conv => whnf)
      | (refine Req.mk (by omega) ?_; conv => whnf)
      | (intro blk hblk; conv => whnf)
      | fail)
    refine Ret.eq (congrArg (Value.int .i64) ?_) ?_
    · rcases hm with ⟨h2, h3⟩ | ⟨_, h3⟩
      · have : xs = [] := List.eq_nil_of_length_eq_zero (by omega)
        subst this; exact h3
      · exact h3
    · first | exact Imp.refl _ | exact Imp.drop | exact Imp.fin | ((repeat (refine Imp.pick ?_)); first | exact Imp.refl _ | exact Imp.emp _ | exact Imp.fin)
theorem rfrom_spec {W : World} {R : HProp} {lv : Value} {a : Option Addr} {n cap : Nat} {nx : Int} {xs : List DirtyV} [c : RowC W R a 2 dirtyv xs] (hn : n = xs.length) (hb : xs.length ≤ 9223372036854775807) :
    Does prog W f_quotaref16_From ⟨[.agg ⟨[lv, .slice a n cap, .int .i64 nx]⟩]⟩ R (Ret fun v G => v = .int .i64 (leastD xs) ∧ G = R) := by
  subst hn
  refine f_quotaref16_From.does _ ?_
  conv => whnf
  cases xs with
  | nil =>
    repeat' (first
      | (refine spl_f (by with_reducible exact ndec_self _) ?_; conv => whnf)
      | (refine spl_f (by with_reducible exact nbeq_self _) ?_; conv => whnf)
      | (refine spl_t (by with_reducible exact beq_self _) ?_; conv => whnf)
      | (refine spl_dec (fun hd => ?_) (fun hd => ?_) <;> first | (exfalso; omega) | (conv => whnf))
      | (refine spl_ndec (fun hd => ?_) (fun hd => ?_) <;> first | (exfalso; omega) | (conv => whnf))
      | (refine spl_intro (fun hd => ?_) (fun hd => ?_) <;> (conv => whnf))
      | (refine Ld.i ?_; conv => whnf)
      | (refine LdN.i ?_; conv => whnf)
      | (refine St.i ⟨rfl, rfl⟩ (List.cons_ne_nil _ _) ?_; conv => whnf)
      | (refine Ar.i64 (by omega) ?_; conv => whnf)
      | (refine Ar.u64 (by omega) ?_; conv => whnf)
      | (refine Shr.i (by rfl) (by decide) ?_; conv => whnf)
      | (refine Shl.i (by rfl) (by decide) ?_; conv => whnf)
      | (refine Req.mk (by omega) ?_; conv => whnf)
      | (intro blk hblk; conv => whnf)
      | fail)
    refine Ret.eq rfl ?_
    first | exact Imp.refl _ | exact Imp.drop | exact Imp.fin | ((repeat (refine Imp.pick ?_)); first | exact Imp.refl _ | exact Imp.emp _ | exact Imp.fin)
  | cons x0 xs =>
    repeat' (first
      | (refine spl_f (by with_reducible exact ndec_self _) ?_; conv => whnf)
      | (refine spl_f (by with_reducible exact nbeq_self _) ?_; conv => whnf)
      | (refine spl_t (by with_reducible exact beq_self _) ?_; conv => whnf)
      | (refine spl_dec (fun hd => ?_) (fun hd => ?_) <;> first | (exfalso; omega) | (conv => whnf))
      | (refine spl_ndec (fun hd => ?_) (fun hd => ?_) <;> first | (exfalso; omega) | (conv => whnf))
      | (refine spl_intro (fun hd => ?_) (fun hd => ?_) <;> (conv => whnf))
      | (refine Ld.i ?_; conv => whnf)
      | (refine LdN.i ?_; conv => whnf)
      | (refine St.i ⟨rfl, rfl⟩ (List.cons_ne_nil _ _) ?_; conv => whnf)
      | (refine Ar.i64 (by omega) ?_; conv => whnf)
      | (refine Ar.u64 (by omega) ?_; conv => whnf)
      | (refine Shr.i (by rfl) (by decide) ?_; conv => whnf)
      | (refine Shl.i (by rfl) (by decide) ?_; conv => whnf)
      | (refine Req.mk (by omega) ?_; conv => whnf)
      | (intro blk hblk; conv => whnf)
      | (refine IxS.r (i := 0) rfl rfl (by simp) (fun ab off ha => ?_); subst ha; conv => whnf)
      | (refine Ld.r (x := x0) (i := 0) rfl rfl ?_; conv => whnf)
      | fail)
    refine LoopK.keep tab_ok (L := f_quotaref16_From.live) (ι := Nat × Int) (fun i => i.1 ≤ (x0 :: xs).length ∧ 1 ≤ i.1 ∧ lmin i.2 ((x0 :: xs).drop i.1) = leastD (x0 :: xs))
      (fun i => [(4, .int .i64 i.1), (3, .int .i64 i.2)]) (fun i => (x0 :: xs).length - i.1) (1, x0.2) (by simp [leastD]) (fun t v h => h) ?_
    rintro ⟨i, m⟩ ⟨hi, h0, hm⟩
    dsimp only at hi hm h0 ⊢
    conv => whnf
    by_cases h1 : i < (x0 :: xs).length
    · obtain ⟨x, hx⟩ : ∃ x, (x0 :: xs)[i]? = some x := ⟨_, List.getElem?_eq_getElem h1⟩
      have hdr := drop_of hx
      rw [hdr, lmin] at hm
      repeat' (first
        | (refine spl_f (by with_reducible exact ndec_self _) ?_; conv => whnf)
        | (refine spl_f (by with_reducible exact nbeq_self _) ?_; conv => whnf)
        | (refine spl_t (by with_reducible exact beq_self _) ?_; conv => whnf)
        | (refine spl_dec (fun hd => ?_) (fun hd => ?_) <;> first | (exfalso; omega) | (conv => whnf))
        | (refine spl_ndec (fun hd => ?_) (fun hd => ?_) <;> first | (exfalso; omega) | (conv => whnf))
        | (refine spl_intro (fun hd => ?_) (fun hd => ?_) <;> (conv => whnf))
        | (refine Ld.i ?_; conv => whnf)
        | (refine LdN.i ?_; conv => whnf)
        | (refine St.i ⟨rfl, rfl⟩ (List.cons_ne_nil _ _) ?_; conv => whnf)
        | (refine Ar.i64 (by omega) ?_; conv => whnf)
        | (refine Ar.u64 (by omega) ?_; conv => whnf)
        | (refine Shr.i (by rfl) (by decide) ?_; conv => whnf)
        | (refine Shl.i (by rfl) (by decide) ?_; conv => whnf)
        | (refine Req.mk (by omega) ?_; conv => whnf)
        | (intro blk hblk; conv => whnf)
        | (refine IxS.r (i := i) rfl rfl h1 (fun ab off ha => ?_); cases ha; conv => whnf)
        | (refine Ld.r hx rfl ?_; conv => whnf)
        | fail)
      · refine ⟨rfl, (i + 1, x.2), ⟨h1, by simp, ?_⟩, fun t v h => h, ?_, by dsimp only; omega⟩
        · rw [if_pos (by assumption)] at hm
          exact hm
        · first | exact Imp.refl _ | exact Imp.drop | exact Imp.fin | ((repeat (refine Imp.pick ?_)); first | exact Imp.refl _ | exact Imp.emp _ | exact Imp.fin)
      · refine ⟨rfl, (i + 1, m), ⟨h1, by simp, ?_⟩, fun t v h => h, ?_, by dsimp only; omega⟩
        · rw [if_neg (by assumption)] at hm
          exact hm
        · first | exact Imp.refl _ | exact Imp.drop | exact Imp.fin | ((repeat (refine Imp.pick ?_)); first | exact Imp.refl _ | exact Imp.emp _ | exact Imp.fin)
    · rw [drop_all h1] at hm
      repeat' (first
        | (refine spl_f (by with_reducible exact ndec_self _) ?_; conv => whnf)
        | (refine spl_f (by with_reducible exact nbeq_self _) ?_; conv => whnf)
        | (refine spl_t (by with_reducible exact beq_self _) ?_; conv => whnf)
        | (refine spl_dec (fun hd => ?_) (fun hd => ?_) <;> first | (exfalso; omega) | (conv => whnf))
        | (refine spl_ndec (fun hd => ?_) (fun hd => ?_) <;> first | (exfalso; omega) | (conv => whnf))
        | (refine spl_intro (fun hd => ?_) (fun hd => ?_) <;> (conv => whnf))
        | (refine Ld.i ?_; conv => whnf)
        | (refine LdN.i ?_; conv => whnf)
        | (refine St.i ⟨rfl, rfl⟩ (List.cons_ne_nil _ _) ?_; conv => whnf)
        | (refine Ar.i64 (by omega) ?_; conv => whnf)
        | (refine Ar.u64 (by omega) ?_; conv => whnf)
        | (refine Shr.i (by rfl) (by decide) ?_; conv => whnf)
        | (refine Shl.i (by rfl) (by decide) ?_; conv => whnf)
        | (refine Req.mk (by omega) ?_; conv => whnf)
        | (intro blk hblk; conv => whnf)
        | fail)
      refine Ret.eq (congrArg (Value.int .i64) hm) ?_
      first | exact Imp.refl _ | exact Imp.drop | exact Imp.fin | ((repeat (refine Imp.pick ?_)); first | exact Imp.refl _ | exact Imp.emp _ | exact Imp.fin)
end Go.Proofs.Ytijnojaneheaeaa
