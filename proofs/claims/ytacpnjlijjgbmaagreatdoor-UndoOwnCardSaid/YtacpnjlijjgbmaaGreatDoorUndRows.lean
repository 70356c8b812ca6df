/- Rows of rows of records; the story of a life. Conditions: in each statement. -/
import Derived.Test.YtacpnjlijjgbmaaGreatDoorUndFirst
import Derived.Test.YtacpnjlijjgbmaaGreatDoorTldTold
namespace Go.Proofs.YtacpnjlijjgbmaaGreatDoor
open Go Go.SL Go.SL.Und
/-- A row: where it lies, its room, what it holds. -/
structure RowV where
  a : Option Addr
  cap : Nat
  xs : List RecV
def rv (r : RowV) : List Value := [.slice r.a r.xs.length r.cap]
instance : SizedC 1 rv := ⟨fun _ => rfl⟩
theorem rv_one : ∀ ys : List RowV, ∀ v ∈ ys.flatMap rv, v.oneCell' = true := by
  intro ys v hv
  obtain ⟨d, _, hv⟩ := List.mem_flatMap.1 hv
  simp only [rv, List.mem_cons, List.not_mem_nil, or_false] at hv
  subst hv; rfl
def rowc (r : RowV) : HProp := vec t_api_Record 17 recv r.a r.cap r.xs
instance (priority := 100) RowC.big {W : World} {R : HProp} {l : List RowV} {r : RowV} [m : MemC l r] : RowC W (bigL rowc l • R) r.a 17 recv r.xs := by
  obtain ⟨R', e⟩ := bigL_mem rowc m.h
  rw [e, star_assoc]
  exact RowC.here (s := ⟨sized_rec⟩)
/-- A row made longer, and what it was. -/
structure MoreV where
  r : RowV
  a : Option Addr
  cap : Nat
  x : RecV
def mv (m : MoreV) : List Value := [.slice m.a (m.r.xs.length + 1) m.cap]
instance : SizedC 1 mv := ⟨fun _ => rfl⟩
theorem mv_one : ∀ ys : List MoreV, ∀ v ∈ ys.flatMap mv, v.oneCell' = true := by
  intro ys v hv
  obtain ⟨d, _, hv⟩ := List.mem_flatMap.1 hv
  simp only [mv, List.mem_cons, List.not_mem_nil, or_false] at hv
  subst hv; rfl
def morec (m : MoreV) : HProp := appc t_api_Record 17 recv m.r.a m.r.cap m.r.xs m.a m.cap m.x
class MemN (l : List MoreV) (a : Option Addr) (xs : outParam (List RecV)) : Prop where h : ∃ m ∈ l, m.a = a ∧ m.r.xs ++ [m.x] = xs
class MemO (l : List MoreV) (a : Option Addr) (xs : outParam (List RecV)) : Prop where h : ∃ m ∈ l, m.r.a = a ∧ m.r.xs = xs
instance (priority := 100) RowC.bigNew {W : World} {R : HProp} {l : List MoreV} {a : Option Addr} {xs : List RecV} [i : MemN l a xs] : RowC W (bigL morec l • R) a 17 recv xs := by
  obtain ⟨m, hm, rfl, rfl⟩ := i.h
  obtain ⟨R', e⟩ := bigL_mem morec hm
  rw [e, star_assoc]
  exact RowC.appNew sized_rec
instance (priority := 99) RowC.bigOld {W : World} {R : HProp} {l : List MoreV} {a : Option Addr} {xs : List RecV} [i : MemO l a xs] : RowC W (bigL morec l • R) a 17 recv xs := by
  obtain ⟨m, hm, rfl, rfl⟩ := i.h
  obtain ⟨R', e⟩ := bigL_mem morec hm
  rw [e, star_assoc]
  exact RowC.appOld sized_rec
/-- A record of this number, all else zero. -/
def lsnR (z : Int) : RecV := ⟨z, 0, 0, 0, 0, 0, 0, 0, 0, 0, 0, 0, 0, 0, (none, 0, 0), (none, 0, 0), 0⟩
theorem lbrought_spec {W : World} {R : HProp} {x n : Int} (hn : 1 ≤ n ∧ n ≤ 9223372036854775807) : Does prog W f_quotalaw19_brought ⟨[.int .i64 x, .int .i64 n]⟩ R (Ret fun v G => v = .int .i64 (x % n) ∧ G = R) := by
  have h1 := Int.tmod_lt_of_pos x (show 0 < n by omega)
  have h2 : -n < x.tmod n := by
    have := Int.tmod_lt_of_pos (-x) (show 0 < n by omega)
    rw [Int.neg_tmod] at this; omega
  have h5 : x % n = if x.tmod n < 0 then x.tmod n + n else x.tmod n := by
    have h3 := Int.emod_nonneg x (show n ≠ 0 by omega)
    have h4 := Int.emod_lt_of_pos x (show 0 < n by omega)
    have e1 := Int.tmod_eq_emod (a := x) (b := n)
    by_cases h : 0 ≤ x ∨ n ∣ x
    · rw [if_pos h] at e1
      rw [if_neg (by omega)]; omega
    · rw [if_neg h] at e1
      rw [if_pos (by omega)]; omega
  refine f_quotalaw19_brought.does _ _ ?_
  conv => whnf
  repeat' (first
    | (refine spl_f (by with_reducible exact ndec_self _) ?_; conv => whnf)
    | (refine spl_f (by with_reducible exact nbeq_self _) ?_; conv => whnf)
    | (refine spl_t (by with_reducible exact beq_self _) ?_; conv => whnf)
    | (refine spl_dec (fun hd => ?_) (fun hd => ?_) <;> first | (exfalso; omega) | (conv => whnf))
    | (refine spl_ndec (fun hd => ?_) (fun hd => ?_) <;> first | (exfalso; omega) | (conv => whnf))
    | (refine spl_intro (fun hd => ?_) (fun hd => ?_) <;> (conv => whnf))
    | (refine Ld.i ?_; conv => whnf)
    | (refine LdN.i ?_; conv => whnf)
    | (refine St.i ⟨rfl, rfl⟩ (List.cons_ne_nil _ _) ?_; conv => whnf)
    | (refine Ar.i64 (by omega) ?_; conv => whnf)
    | (refine Ar.u64 (by omega) ?_; conv => whnf)
    | (refine Ar.i64d (by omega) (by omega) ?_; conv => whnf)
    | (refine Shr.i (by rfl) (by decide) ?_; conv => whnf)
    | (refine Shl.i (by rfl) (by decide) ?_; conv => whnf)
    | (refine Req.mk (by omega) ?_; conv => whnf)
    | (intro blk hblk; conv => whnf)
    | (refine Sub.on (by first | exact Imp.refl _ | exact Imp.drop | exact Imp.fin | ((repeat (refine Imp.pick ?_)); first | exact Imp.refl _ | exact Imp.emp _ | exact Imp.fin)) ?_; conv => whnf)
    | (refine Sub.on (Imp.trans KeepC.h (by first | exact Imp.refl _ | exact Imp.drop | exact Imp.fin | ((repeat (refine Imp.pick ?_)); first | exact Imp.refl _ | exact Imp.emp _ | exact Imp.fin))) ?_; conv => whnf)
    | fail)
  · rw [h5, if_pos (by omega)]
    refine Ret.eq rfl ?_
    first | exact Imp.refl _ | exact Imp.drop | exact Imp.fin | ((repeat (refine Imp.pick ?_)); first | exact Imp.refl _ | exact Imp.emp _ | exact Imp.fin)
  · rw [h5, if_neg (by omega)]
    refine Ret.eq rfl ?_
    first | exact Imp.refl _ | exact Imp.drop | exact Imp.fin | ((repeat (refine Imp.pick ?_)); first | exact Imp.refl _ | exact Imp.emp _ | exact Imp.fin)
theorem lshape_spec {W : World} {R : HProp} {p l f : Int} {v3 v4 : Value} :
    Does prog W f_quotalaw19_Life_shape ⟨[.agg ⟨[.int .i64 p, .int .i64 l, .int .i64 f, v3, v4]⟩]⟩ R (Ret fun v G => v = .agg ⟨[.int .i64 (2 + p % 6), .int .i64 (4 + l % 90), .int .i64 (2 + f % 4)]⟩ ∧ G = R) := by
  refine f_quotalaw19_Life_shape.does _ ?_
  conv => whnf
  repeat' (first
    | (refine spl_f (by with_reducible exact ndec_self _) ?_; conv => whnf)
    | (refine spl_f (by with_reducible exact nbeq_self _) ?_; conv => whnf)
    | (refine spl_t (by with_reducible exact beq_self _) ?_; conv => whnf)
    | (refine spl_dec (fun hd => ?_) (fun hd => ?_) <;> first | (exfalso; omega) | (conv => whnf))
    | (refine spl_ndec (fun hd => ?_) (fun hd => ?_) <;> first | (exfalso; omega) | (conv => whnf))
    | (refine spl_intro (fun hd => ?_) (fun hd => ?_) <;> (conv => whnf))
    | (refine Ld.i ?_; conv => whnf)
    | (refine LdN.i ?_; conv => whnf)
    | (refine St.i ⟨rfl, rfl⟩ (List.cons_ne_nil _ _) ?_; conv => whnf)
    | (refine Ar.i64 (by omega) ?_; conv => whnf)
    | (refine Ar.u64 (by omega) ?_; conv => whnf)
    | (refine Ar.i64d (by omega) (by omega) ?_; conv => whnf)
    | (refine Shr.i (by rfl) (by decide) ?_; conv => whnf)
    | (refine Shl.i (by rfl) (by decide) ?_; conv => whnf)
    | (refine Req.mk (by omega) ?_; conv => whnf)
    | (intro blk hblk; conv => whnf)
    | (refine Sub.on (by first | exact Imp.refl _ | exact Imp.drop | exact Imp.fin | ((repeat (refine Imp.pick ?_)); first | exact Imp.refl _ | exact Imp.emp _ | exact Imp.fin)) ?_; conv => whnf)
    | (refine Sub.on (Imp.trans KeepC.h (by first | exact Imp.refl _ | exact Imp.drop | exact Imp.fin | ((repeat (refine Imp.pick ?_)); first | exact Imp.refl _ | exact Imp.emp _ | exact Imp.fin))) ?_; conv => whnf)
    | (refine DrawK.introH tab_ok mixed 3 f_quotalaw19_Life_shape.last1 f_quotalaw19_Life_shape.plan1 _ rfl (by kernel_rfl) (Sub.of (by first | exact Imp.refl _ | exact Imp.drop | exact Imp.fin | ((repeat (refine Imp.pick ?_)); first | exact Imp.refl _ | exact Imp.emp _ | exact Imp.fin))) ?_; conv => whnf)
    | (refine CallK.ret f_quotalaw19_brought.ok (lbrought_spec (by first | rfl | assumption | omega | decide | (simp; done) | (simp; omega) | (simp at *; omega))) ?_; rintro v G ⟨rfl, rfl⟩; conv => whnf)
    | fail)
  refine Ret.eq rfl ?_
  first | exact Imp.refl _ | exact Imp.drop | exact Imp.fin | ((repeat (refine Imp.pick ?_)); first | exact Imp.refl _ | exact Imp.emp _ | exact Imp.fin)
theorem lwide_spec {W : World} {R : HProp} {p l f : Int} {v3 v4 : Value} :
    Does prog W f_quotalaw19_Life_wide ⟨[.agg ⟨[.int .i64 p, .int .i64 l, .int .i64 f, v3, v4]⟩]⟩ R (Ret fun v G => v = .agg ⟨[.int .i64 (2 + p % 6), .int .i64 1400, .int .i64 (2 + f % 4)]⟩ ∧ G = R) := by
  refine f_quotalaw19_Life_wide.does _ ?_
  conv => whnf
  repeat' (first
    | (refine spl_f (by with_reducible exact ndec_self _) ?_; conv => whnf)
    | (refine spl_f (by with_reducible exact nbeq_self _) ?_; conv => whnf)
    | (refine spl_t (by with_reducible exact beq_self _) ?_; conv => whnf)
    | (refine spl_dec (fun hd => ?_) (fun hd => ?_) <;> first | (exfalso; omega) | (conv => whnf))
    | (refine spl_ndec (fun hd => ?_) (fun hd => ?_) <;> first | (exfalso; omega) | (conv => whnf))
    | (refine spl_intro (fun hd => ?_) (fun hd => ?_) <;> (conv => whnf))
    | (refine Ld.i ?_; conv => whnf)
    | (refine LdN.i ?_; conv => whnf)
    | (refine St.i ⟨rfl, rfl⟩ (List.cons_ne_nil _ _) ?_; conv => whnf)
    | (refine Ar.i64 (by omega) ?_; conv => whnf)
    | (refine Ar.u64 (by omega) ?_; conv => whnf)
    | (refine Ar.i64d (by omega) (by omega) ?_; conv => whnf)
    | (refine Shr.i (by rfl) (by decide) ?_; conv => whnf)
    | (refine Shl.i (by rfl) (by decide) ?_; conv => whnf)
    | (refine Req.mk (by omega) ?_; conv => whnf)
    | (intro blk hblk; conv => whnf)
    | (refine Sub.on (by first | exact Imp.refl _ | exact Imp.drop | exact Imp.fin | ((repeat (refine Imp.pick ?_)); first | exact Imp.refl _ | exact Imp.emp _ | exact Imp.fin)) ?_; conv => whnf)
    | (refine Sub.on (Imp.trans KeepC.h (by first | exact Imp.refl _ | exact Imp.drop | exact Imp.fin | ((repeat (refine Imp.pick ?_)); first | exact Imp.refl _ | exact Imp.emp _ | exact Imp.fin))) ?_; conv => whnf)
    | (refine CallK.ret f_quotalaw19_Life_shape.ok (lshape_spec) ?_; rintro v G ⟨rfl, rfl⟩; conv => whnf)
    | fail)
  refine Ret.eq rfl ?_
  first | exact Imp.refl _ | exact Imp.drop | exact Imp.fin | ((repeat (refine Imp.pick ?_)); first | exact Imp.refl _ | exact Imp.emp _ | exact Imp.fin)
theorem ltold_spec {W : World} {R : HProp} {p l f q1 q2 q3 : Int} {a : Option Addr} {n c : Nat} {v4 : Value} {D : List Tld.DeedV} [ro : RowN W R a n 4 Tld.deedv D] (hq : 2 ≤ q1 ∧ q1 ≤ 64) (hl : D.length ≤ 9223372036854775807) :
    Does prog W f_quotalaw19_Life_told ⟨[.agg ⟨[.int .i64 p, .int .i64 l, .int .i64 f, .slice a n c, v4]⟩, .agg ⟨[.int .i64 q1, .int .i64 q2, .int .i64 q3]⟩]⟩ R (Ret fun v G => ∃ s X, X.val = Tld.Story.plays 60 D (Tld.told0 q1) ∧ v = .slice X.ra X.R.length X.rc ∧ G = (storyo s X • R)) := by
  refine f_quotalaw19_Life_told.does _ _ ?_
  conv => whnf
  repeat' (first
    | (refine CallK.ret f_quotaref18_Told.ok (told_spec (l := D) (pages := q1) (most := 60) hq (by omega) hl) ?_; rintro v G ⟨s, X, hX, rfl, rfl⟩; conv => whnf)
    | (refine spl_f (by with_reducible exact ndec_self _) ?_; conv => whnf)
    | (refine spl_f (by with_reducible exact nbeq_self _) ?_; conv => whnf)
    | (refine spl_t (by with_reducible exact beq_self _) ?_; conv => whnf)
    | (refine spl_dec (fun hd => ?_) (fun hd => ?_) <;> first | (exfalso; omega) | (conv => whnf))
    | (refine spl_ndec (fun hd => ?_) (fun hd => ?_) <;> first | (exfalso; omega) | (conv => whnf))
    | (refine spl_intro (fun hd => ?_) (fun hd => ?_) <;> (conv => whnf))
    | (refine Ld.i ?_; conv => whnf)
    | (refine LdN.i ?_; conv => whnf)
    | (refine St.i ⟨rfl, rfl⟩ (List.cons_ne_nil _ _) ?_; conv => whnf)
    | (refine Ar.i64 (by omega) ?_; conv => whnf)
    | (refine Ar.u64 (by omega) ?_; conv => whnf)
    | (refine Ar.i64d (by omega) (by omega) ?_; conv => whnf)
    | (refine Shr.i (by rfl) (by decide) ?_; conv => whnf)
    | (refine Shl.i (by rfl) (by decide) ?_; conv => whnf)
    | (refine Req.mk (by omega) ?_; conv => whnf)
    | (intro blk hblk; conv => whnf)
    | (refine Sub.on (by first | exact Imp.refl _ | exact Imp.drop | exact Imp.fin | ((repeat (refine Imp.pick ?_)); first | exact Imp.refl _ | exact Imp.emp _ | exact Imp.fin)) ?_; conv => whnf)
    | (refine Sub.on (Imp.trans KeepC.h (by first | exact Imp.refl _ | exact Imp.drop | exact Imp.fin | ((repeat (refine Imp.pick ?_)); first | exact Imp.refl _ | exact Imp.emp _ | exact Imp.fin))) ?_; conv => whnf)
    | (refine CallK.ret f_quotaref18_Told.ok (told_spec (by first | rfl | assumption | omega | decide | (simp; done) | (simp; omega) | (simp at *; omega)) (by first | rfl | assumption | omega | decide | (simp; done) | (simp; omega) | (simp at *; omega)) (by first | rfl | assumption | omega | decide | (simp; done) | (simp; omega) | (simp at *; omega))) ?_; rintro v G ⟨e_s, e_X, e_h1, rfl, rfl⟩; conv => whnf)
    | fail)
  refine ⟨_, _, rfl, ?_, s, X, hX, rfl, rfl⟩
  first | exact Imp.refl _ | exact Imp.drop | exact Imp.fin | ((repeat (refine Imp.pick ?_)); first | exact Imp.refl _ | exact Imp.emp _ | exact Imp.fin)
end Go.Proofs.YtacpnjlijjgbmaaGreatDoor
