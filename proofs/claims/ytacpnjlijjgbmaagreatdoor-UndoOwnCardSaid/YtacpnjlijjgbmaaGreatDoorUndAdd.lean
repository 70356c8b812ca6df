/- Sums of 64 bits: the program's and the document's, walked. Conditions: in each statement. -/
import Derived.Test.YtacpnjlijjgbmaaGreatDoorUndLaw
import Derived.Test.YtacpnjlijjgbmaaGreatDoorTabEq
import Derived.Test.YtacpnjlijjgbmaaGreatDoorWalk
import Derived.Test.YtacpnjlijjgbmaaGreatDoorBits
import Derived.Laws.Externs
namespace Go.Proofs.YtacpnjlijjgbmaaGreatDoor
open Go Go.SL Go.SL.Und
abbrev ptr (b : Nat) : Value := .pointer (some ⟨b, 0, none⟩)
abbrev i0 : Value := .int .i64 0
theorem add64 {W : World} {x y : Int} {H : HProp} {K : Value → HProp → Prop} {Kp : List PanicEntry → HProp → Prop} (hx : 0 ≤ x) (hy : 0 ≤ y) (k : K (.tuple ⟨[.int .u64 ((x + y) % 18446744073709551616), .int .u64 ((x + y) / 18446744073709551616)]⟩) H) :
    CallK prog W f_math_bits_Add64 [.int .u64 x, .int .u64 y, .int .u64 0] H K Kp := by
  refine CallK.ext (fun w => ?_) k
  rw [run_callFunc_extern f_math_bits_Add64.fn (by kernel_rfl) (by kernel_rfl) (by kernel_rfl) (e := add64Entry) (by kernel_rfl), run_add64 x y 0 hx hy (by decide) (by decide)]
  simp [Result.andThen]
theorem iof_spec {W : World} {R : HProp} {v : Int} : Does prog W f_interval_of ⟨[.int .i64 v]⟩ R (Ret fun u G => u = .agg ⟨[.int .i64 (v / 9223372036854775808), .int .u64 (v % 18446744073709551616)]⟩ ∧ G = R) := by
  refine f_interval_of.does _ ?_
  conv => whnf
  repeat' (first
    | (refine spl_f (by with_reducible exact ndec_self _) ?_; conv => whnf)
    | (refine spl_f (by with_reducible exact nbeq_self _) ?_; conv => whnf)
    | (refine spl_t (by with_reducible exact beq_self _) ?_; conv => whnf)
    | (refine spl_dec (fun hd => ?_) (fun hd => ?_) <;> first | (exfalso; omega) | (conv => whnf))
    | (refine spl_ndec (fun hd => ?_) (fun hd => ?_) <;> first | (exfalso; omega) | (conv => whnf))
    | (refine spl_intro (fun hd => ?_) (fun hd => ?_) <;> (conv => whnf))
    | (refine Ld.i ?_; conv => whnf)
    | (refine LdN.i ?_; conv => whnf)
    | (refine St.i ⟨rfl, rfl⟩ (List.cons_ne_nil _ _) ?_; conv => whnf)
    | (refine Ar.i64 (by omega) ?_; conv => whnf)
    | (refine Ar.u64 (by omega) ?_; conv => whnf)
    | (refine Ar.i64d (by omega) (by omega) ?_; conv => whnf)
    | (refine Shr.i (by rfl) (by decide) ?_; conv => whnf)
    | (refine Shl.i (by rfl) (by decide) ?_; conv => whnf)
    | (refine Req.mk (by omega) ?_; conv => whnf)
    | (intro blk hblk; conv => whnf)
    | (refine Ar.u64w ?_; conv => whnf)
    | (refine Ar.i64w ?_; conv => whnf)
    | fail)
  refine Ret.eq rfl ?_
  first | exact Imp.refl _ | exact Imp.drop | exact Imp.fin | ((repeat (refine Imp.pick ?_)); first | exact Imp.refl _ | exact Imp.emp _ | exact Imp.fin)
theorem iplus_spec {W : World} {R : HProp} {h l v : Int} (hh : -10 ≤ h ∧ h ≤ 10) (hl : 0 ≤ l ∧ l < 18446744073709551616) (hv : fits v) :
    Does prog W f_interval_wide_plus ⟨[.agg ⟨[.int .i64 h, .int .u64 l]⟩, .int .i64 v]⟩ R (Ret fun u G => u = .agg ⟨[.int .i64 (h + v / 9223372036854775808 + (l + v % 18446744073709551616) / 18446744073709551616), .int .u64 ((l + v % 18446744073709551616) % 18446744073709551616)]⟩ ∧ G = R) := by
  unfold fits at hv
  refine f_interval_wide_plus.does _ _ ?_
  conv => whnf
  repeat' (first
    | (refine spl_f (by with_reducible exact ndec_self _) ?_; conv => whnf)
    | (refine spl_f (by with_reducible exact nbeq_self _) ?_; conv => whnf)
    | (refine spl_t (by with_reducible exact beq_self _) ?_; conv => whnf)
    | (refine spl_dec (fun hd => ?_) (fun hd => ?_) <;> first | (exfalso; omega) | (conv => whnf))
    | (refine spl_ndec (fun hd => ?_) (fun hd => ?_) <;> first | (exfalso; omega) | (conv => whnf))
    | (refine spl_intro (fun hd => ?_) (fun hd => ?_) <;> (conv => whnf))
    | (refine Ld.i ?_; conv => whnf)
    | (refine LdN.i ?_; conv => whnf)
    | (refine St.i ⟨rfl, rfl⟩ (List.cons_ne_nil _ _) ?_; conv => whnf)
    | (refine Ar.i64 (by omega) ?_; conv => whnf)
    | (refine Ar.u64 (by omega) ?_; conv => whnf)
    | (refine Ar.i64d (by omega) (by omega) ?_; conv => whnf)
    | (refine Shr.i (by rfl) (by decide) ?_; conv => whnf)
    | (refine Shl.i (by rfl) (by decide) ?_; conv => whnf)
    | (refine Req.mk (by omega) ?_; conv => whnf)
    | (intro blk hblk; conv => whnf)
    | (refine add64 (by omega) (by omega) ?_; conv => whnf)
    | (refine Ar.u64w ?_; conv => whnf)
    | (refine Ar.i64w ?_; conv => whnf)
    | fail)
  refine Ret.eq rfl ?_
  first | exact Imp.refl _ | exact Imp.drop | exact Imp.fin | ((repeat (refine Imp.pick ?_)); first | exact Imp.refl _ | exact Imp.emp _ | exact Imp.fin)
theorem inumber_spec {W : World} {R : HProp} {z : Int} {h l : Int} (hl : 0 ≤ l ∧ l < 18446744073709551616) (hh : -10 ≤ h ∧ h ≤ 10) (hz : h * 18446744073709551616 + l = z) :
    Does prog W f_interval_wide_number ⟨[.agg ⟨[.int .i64 h, .int .u64 l]⟩]⟩ R (Ret fun u G => u = .tuple ⟨[.int .i64 (if fits z then z else 0), .int .i64 (if fits z then 0 else 10)]⟩ ∧ G = R) := by
  refine f_interval_wide_number.does _ ?_
  conv => whnf
  repeat' (first
    | (refine spl_f (by with_reducible exact ndec_self _) ?_; conv => whnf)
    | (refine spl_f (by with_reducible exact nbeq_self _) ?_; conv => whnf)
    | (refine spl_t (by with_reducible exact beq_self _) ?_; conv => whnf)
    | (refine spl_dec (fun hd => ?_) (fun hd => ?_) <;> first | (exfalso; omega) | (conv => whnf))
    | (refine spl_ndec (fun hd => ?_) (fun hd => ?_) <;> first | (exfalso; omega) | (conv => whnf))
    | (refine spl_intro (fun hd => ?_) (fun hd => ?_) <;> (conv => whnf))
    | (refine Ld.i ?_; conv => whnf)
    | (refine LdN.i ?_; conv => whnf)
    | (refine St.i ⟨rfl, rfl⟩ (List.cons_ne_nil _ _) ?_; conv => whnf)
    | (refine Ar.i64 (by omega) ?_; conv => whnf)
    | (refine Ar.u64 (by omega) ?_; conv => whnf)
    | (refine Ar.i64d (by omega) (by omega) ?_; conv => whnf)
    | (refine Shr.i (by rfl) (by decide) ?_; conv => whnf)
    | (refine Shl.i (by rfl) (by decide) ?_; conv => whnf)
    | (refine Req.mk (by omega) ?_; conv => whnf)
    | (intro blk hblk; conv => whnf)
    | (refine Ar.u64w ?_; conv => whnf)
    | (refine Ar.i64w ?_; conv => whnf)
    | fail)
  · have : ¬ fits z := by unfold fits; omega
    rw [if_neg this, if_neg this]
    refine Ret.eq rfl ?_
    first | exact Imp.refl _ | exact Imp.drop | exact Imp.fin | ((repeat (refine Imp.pick ?_)); first | exact Imp.refl _ | exact Imp.emp _ | exact Imp.fin)
  · have : fits z := by unfold fits; omega
    rw [if_pos this, if_pos this]
    refine Ret.eq ?_ ?_
    · congr 5; omega
    · first | exact Imp.refl _ | exact Imp.drop | exact Imp.fin | ((repeat (refine Imp.pick ?_)); first | exact Imp.refl _ | exact Imp.emp _ | exact Imp.fin)
theorem iadd_spec {W : World} {R : HProp} {a b : Int} (ha : fits a) (hb : fits b) :
    Does prog W f_interval_Add ⟨[.int .i64 a, .int .i64 b]⟩ R (Ret fun u G => u = .tuple ⟨[.int .i64 (if fits (a + b) then a + b else 0), .int .i64 (if fits (a + b) then 0 else 10)]⟩ ∧ G = R) := by
  have ha' := ha
  have hb' := hb
  unfold fits at ha' hb'
  refine f_interval_Add.does _ _ ?_
  conv => whnf
  repeat' (first
    | (refine spl_f (by with_reducible exact ndec_self _) ?_; conv => whnf)
    | (refine spl_f (by with_reducible exact nbeq_self _) ?_; conv => whnf)
    | (refine spl_t (by with_reducible exact beq_self _) ?_; conv => whnf)
    | (refine spl_dec (fun hd => ?_) (fun hd => ?_) <;> first | (exfalso; omega) | (conv => whnf))
    | (refine spl_ndec (fun hd => ?_) (fun hd => ?_) <;> first | (exfalso; omega) | (conv => whnf))
    | (refine spl_intro (fun hd => ?_) (fun hd => ?_) <;> (conv => whnf))
    | (refine Ld.i ?_; conv => whnf)
    | (refine LdN.i ?_; conv => whnf)
    | (refine St.i ⟨rfl, rfl⟩ (List.cons_ne_nil _ _) ?_; conv => whnf)
    | (refine Ar.i64 (by omega) ?_; conv => whnf)
    | (refine Ar.u64 (by omega) ?_; conv => whnf)
    | (refine Ar.i64d (by omega) (by omega) ?_; conv => whnf)
    | (refine Shr.i (by rfl) (by decide) ?_; conv => whnf)
    | (refine Shl.i (by rfl) (by decide) ?_; conv => whnf)
    | (refine Req.mk (by omega) ?_; conv => whnf)
    | (intro blk hblk; conv => whnf)
    | (refine CallK.ret f_interval_of.ok (iof_spec) ?_; rintro v G ⟨rfl, rfl⟩; conv => whnf)
    | fail)
  repeat' (first
    | (refine spl_f (by with_reducible exact ndec_self _) ?_; conv => whnf)
    | (refine spl_f (by with_reducible exact nbeq_self _) ?_; conv => whnf)
    | (refine spl_t (by with_reducible exact beq_self _) ?_; conv => whnf)
    | (refine spl_dec (fun hd => ?_) (fun hd => ?_) <;> first | (exfalso; omega) | (conv => whnf))
    | (refine spl_ndec (fun hd => ?_) (fun hd => ?_) <;> first | (exfalso; omega) | (conv => whnf))
    | (refine spl_intro (fun hd => ?_) (fun hd => ?_) <;> (conv => whnf))
    | (refine Ld.i ?_; conv => whnf)
    | (refine LdN.i ?_; conv => whnf)
    | (refine St.i ⟨rfl, rfl⟩ (List.cons_ne_nil _ _) ?_; conv => whnf)
    | (refine Ar.i64 (by omega) ?_; conv => whnf)
    | (refine Ar.u64 (by omega) ?_; conv => whnf)
    | (refine Ar.i64d (by omega) (by omega) ?_; conv => whnf)
    | (refine Shr.i (by rfl) (by decide) ?_; conv => whnf)
    | (refine Shl.i (by rfl) (by decide) ?_; conv => whnf)
    | (refine Req.mk (by omega) ?_; conv => whnf)
    | (intro blk hblk; conv => whnf)
    | (refine CallK.ret f_interval_wide_plus.ok ((iplus_spec (by omega) (by omega) hb)) ?_; rintro v G ⟨rfl, rfl⟩; conv => whnf)
    | fail)
  repeat' (first
    | (refine spl_f (by with_reducible exact ndec_self _) ?_; conv => whnf)
    | (refine spl_f (by with_reducible exact nbeq_self _) ?_; conv => whnf)
    | (refine spl_t (by with_reducible exact beq_self _) ?_; conv => whnf)
    | (refine spl_dec (fun hd => ?_) (fun hd => ?_) <;> first | (exfalso; omega) | (conv => whnf))
    | (refine spl_ndec (fun hd => ?_) (fun hd => ?_) <;> first | (exfalso; omega) | (conv => whnf))
    | (refine spl_intro (fun hd => ?_) (fun hd => ?_) <;> (conv => whnf))
    | (refine Ld.i ?_; conv => whnf)
    | (refine LdN.i ?_; conv => whnf)
    | (refine St.i ⟨rfl, rfl⟩ (List.cons_ne_nil _ _) ?_; conv => whnf)
    | (refine Ar.i64 (by omega) ?_; conv => whnf)
    | (refine Ar.u64 (by omega) ?_; conv => whnf)
    | (refine Ar.i64d (by omega) (by omega) ?_; conv => whnf)
    | (refine Shr.i (by rfl) (by decide) ?_; conv => whnf)
    | (refine Shl.i (by rfl) (by decide) ?_; conv => whnf)
    | (refine Req.mk (by omega) ?_; conv => whnf)
    | (intro blk hblk; conv => whnf)
    | (refine CallK.ret f_interval_wide_number.ok ((inumber_spec (z := a + b) (by omega) (by omega) (by omega))) ?_; rintro v G ⟨rfl, rfl⟩; conv => whnf)
    | fail)
  refine Ret.eq rfl ?_
  first | exact Imp.refl _ | exact Imp.drop | exact Imp.fin | ((repeat (refine Imp.pick ?_)); first | exact Imp.refl _ | exact Imp.emp _ | exact Imp.fin)
theorem rof_spec {W : World} {R : HProp} {v : Int} : Does prog W f_quotaref10_Of ⟨[.int .i64 v]⟩ R (Ret fun u G => u = .agg ⟨[.int .i64 (v / 4294967296), .int .i64 (v % 4294967296)]⟩ ∧ G = R) := by
  refine f_quotaref10_Of.does _ ?_
  conv => whnf
  repeat' (first
    | (refine spl_f (by with_reducible exact ndec_self _) ?_; conv => whnf)
    | (refine spl_f (by with_reducible exact nbeq_self _) ?_; conv => whnf)
    | (refine spl_t (by with_reducible exact beq_self _) ?_; conv => whnf)
    | (refine spl_dec (fun hd => ?_) (fun hd => ?_) <;> first | (exfalso; omega) | (conv => whnf))
    | (refine spl_ndec (fun hd => ?_) (fun hd => ?_) <;> first | (exfalso; omega) | (conv => whnf))
    | (refine spl_intro (fun hd => ?_) (fun hd => ?_) <;> (conv => whnf))
    | (refine Ld.i ?_; conv => whnf)
    | (refine LdN.i ?_; conv => whnf)
    | (refine St.i ⟨rfl, rfl⟩ (List.cons_ne_nil _ _) ?_; conv => whnf)
    | (refine Ar.i64 (by omega) ?_; conv => whnf)
    | (refine Ar.u64 (by omega) ?_; conv => whnf)
    | (refine Ar.i64d (by omega) (by omega) ?_; conv => whnf)
    | (refine Shr.i (by rfl) (by decide) ?_; conv => whnf)
    | (refine Shl.i (by rfl) (by decide) ?_; conv => whnf)
    | (refine Req.mk (by omega) ?_; conv => whnf)
    | (intro blk hblk; conv => whnf)
    | (refine Bt.low 32 (c := 4294967296) (by decide) (by decide) (by decide) ?_; conv => whnf)
    | fail)
  refine Ret.eq rfl ?_
  first | exact Imp.refl _ | exact Imp.drop | exact Imp.fin | ((repeat (refine Imp.pick ?_)); first | exact Imp.refl _ | exact Imp.emp _ | exact Imp.fin)
theorem rplus_spec {W : World} {R : HProp} {h l v : Int} (hh : -4294967296 ≤ h ∧ h ≤ 4294967296) (hl : 0 ≤ l ∧ l < 4294967296) (hv : fits v) :
    Does prog W f_quotaref10_Wide_Plus ⟨[.agg ⟨[.int .i64 h, .int .i64 l]⟩, .int .i64 v]⟩ R (Ret fun u G => u = .agg ⟨[.int .i64 (h + v / 4294967296 + (l + v % 4294967296) / 4294967296), .int .i64 ((l + v % 4294967296) % 4294967296)]⟩ ∧ G = R) := by
  unfold fits at hv
  refine f_quotaref10_Wide_Plus.does _ _ ?_
  conv => whnf
  repeat' (first
    | (refine spl_f (by with_reducible exact ndec_self _) ?_; conv => whnf)
    | (refine spl_f (by with_reducible exact nbeq_self _) ?_; conv => whnf)
    | (refine spl_t (by with_reducible exact beq_self _) ?_; conv => whnf)
    | (refine spl_dec (fun hd => ?_) (fun hd => ?_) <;> first | (exfalso; omega) | (conv => whnf))
    | (refine spl_ndec (fun hd => ?_) (fun hd => ?_) <;> first | (exfalso; omega) | (conv => whnf))
    | (refine spl_intro (fun hd => ?_) (fun hd => ?_) <;> (conv => whnf))
    | (refine Ld.i ?_; conv => whnf)
    | (refine LdN.i ?_; conv => whnf)
    | (refine St.i ⟨rfl, rfl⟩ (List.cons_ne_nil _ _) ?_; conv => whnf)
    | (refine Ar.i64 (by omega) ?_; conv => whnf)
    | (refine Ar.u64 (by omega) ?_; conv => whnf)
    | (refine Ar.i64d (by omega) (by omega) ?_; conv => whnf)
    | (refine Shr.i (by rfl) (by decide) ?_; conv => whnf)
    | (refine Shl.i (by rfl) (by decide) ?_; conv => whnf)
    | (refine Req.mk (by omega) ?_; conv => whnf)
    | (intro blk hblk; conv => whnf)
    | (refine Bt.low 32 (c := 4294967296) (by decide) (by decide) (by decide) ?_; conv => whnf)
    | fail)
  refine Ret.eq rfl ?_
  first | exact Imp.refl _ | exact Imp.drop | exact Imp.fin | ((repeat (refine Imp.pick ?_)); first | exact Imp.refl _ | exact Imp.emp _ | exact Imp.fin)
theorem rfits_spec {W : World} {R : HProp} {h l : Int} : Does prog W f_quotaref10_Wide_Fits ⟨[.agg ⟨[.int .i64 h, .int .i64 l]⟩]⟩ R (Ret fun u G => u = .bool (decide (-2147483648 ≤ h ∧ h < 2147483648)) ∧ G = R) := by
  refine f_quotaref10_Wide_Fits.does _ ?_
  conv => whnf
  repeat' (first
    | (refine spl_f (by with_reducible exact ndec_self _) ?_; conv => whnf)
    | (refine spl_f (by with_reducible exact nbeq_self _) ?_; conv => whnf)
    | (refine spl_t (by with_reducible exact beq_self _) ?_; conv => whnf)
    | (refine spl_dec (fun hd => ?_) (fun hd => ?_) <;> first | (exfalso; omega) | (conv => whnf))
    | (refine spl_ndec (fun hd => ?_) (fun hd => ?_) <;> first | (exfalso; omega) | (conv => whnf))
    | (refine spl_intro (fun hd => ?_) (fun hd => ?_) <;> (conv => whnf))
    | (refine Ld.i ?_; conv => whnf)
    | (refine LdN.i ?_; conv => whnf)
    | (refine St.i ⟨rfl, rfl⟩ (List.cons_ne_nil _ _) ?_; conv => whnf)
    | (refine Ar.i64 (by omega) ?_; conv => whnf)
    | (refine Ar.u64 (by omega) ?_; conv => whnf)
    | (refine Ar.i64d (by omega) (by omega) ?_; conv => whnf)
    | (refine Shr.i (by rfl) (by decide) ?_; conv => whnf)
    | (refine Shl.i (by rfl) (by decide) ?_; conv => whnf)
    | (refine Req.mk (by omega) ?_; conv => whnf)
    | (intro blk hblk; conv => whnf)
    | fail)
  · refine Ret.eq (congrArg Value.bool (decide_eq_decide.2 (by constructor <;> omega))) ?_
    first | exact Imp.refl _ | exact Imp.drop | exact Imp.fin | ((repeat (refine Imp.pick ?_)); first | exact Imp.refl _ | exact Imp.emp _ | exact Imp.fin)
  · refine Ret.eq (congrArg Value.bool (decide_eq_false (by omega)).symm) ?_
    first | exact Imp.refl _ | exact Imp.drop | exact Imp.fin | ((repeat (refine Imp.pick ?_)); first | exact Imp.refl _ | exact Imp.emp _ | exact Imp.fin)
end Go.Proofs.YtacpnjlijjgbmaaGreatDoor
