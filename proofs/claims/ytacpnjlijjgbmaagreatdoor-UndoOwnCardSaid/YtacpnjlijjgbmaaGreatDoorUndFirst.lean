/- The examples, walked; what records among the arguments hold. No condition. -/
import Derived.Test.YtacpnjlijjgbmaaGreatDoorUndTest
namespace Go.Proofs.YtacpnjlijjgbmaaGreatDoor
open Go Go.SL Go.SL.Und Go.ChangeShapes Go.WideShapes Go.ChangeAt Go.RowKit
def add1 : RecV := ⟨0, 3, 1, 0, 0, 0, 1, 0, 5, 7, 0, 0, 0, 0, (none, 0, 0), (none, 0, 0), 0⟩
theorem left_one : leftF [add1] 1 = (0, [undoR 1 add1 5]) := by
  have h : leftG 1 [] [add1] = (0, [(7, undoR 1 add1 5)]) := by rfl
  have h2 : outR [(7, undoR 1 add1 5)] = [undoR 1 add1 5] := by
    simp [outR, sortI, List.lookup]
  rw [leftF, if_neg (by decide), if_pos (by rw [h]), h, h2]
theorem left_as {W : World} {R : HProp} {a : Option Addr} {n cap : Nat} {xs : List RecV} {tx : Int} {e : Int} {L : List RecV} (c : RowC W R a 17 recv xs) (h : leftF xs tx = (e, L)) (hn : n = xs.length) (hx : ∀ r ∈ xs, OkR r) (hb : 336 * (xs.length + 1) ≤ 281474976710656) :
    Does prog W f_undo_Left ⟨[.slice a n cap, .int .i64 tx]⟩ R (Ret fun v G => ∃ a' cap', v = .tuple ⟨[.slice a' L.length cap', .int .i64 e]⟩ ∧ G = (vec t_api_Record 17 recv a' cap' L • R)) := by
  have := left_spec (W := W) (R := R) (a := a) (cap := cap) (tx := tx) (c := c) hn hx hb
  rwa [h] at this
theorem add1_ok : ∀ r ∈ [add1], OkR r := by
  intro r hr
  have := List.mem_singleton.1 hr
  subst this
  exact ⟨by decide, by decide⟩
theorem first_spec {W : World} {R : HProp} : Does prog W f_quotalaw19_first ⟨[]⟩ R (Ret fun v G => v = .bool true ∧ G = R) := by
  refine f_quotalaw19_first.does ?_
  conv => whnf
  repeat' (first
    | (refine spl_f (by with_reducible exact ndec_self _) ?_; conv => whnf)
    | (refine spl_f (by with_reducible exact nbeq_self _) ?_; conv => whnf)
    | (refine spl_t (by with_reducible exact beq_self _) ?_; conv => whnf)
    | (refine spl_dec (fun hd => ?_) (fun hd => ?_) <;> first | (exfalso; omega) | (conv => whnf))
    | (refine spl_ndec (fun hd => ?_) (fun hd => ?_) <;> first | (exfalso; omega) | (conv => whnf))
    | (refine spl_intro (fun hd => ?_) (fun hd => ?_) <;> (conv => whnf))
    | (refine Ld.i ?_; conv => whnf)
    | (refine LdN.i ?_; conv => whnf)
    | (refine St.i ⟨rfl, rfl⟩ (List.cons_ne_nil _ _) ?_; conv => whnf)
    | (refine Ar.i64 (by omega) ?_; conv => whnf)
    | (refine Ar.u64 (by omega) ?_; conv => whnf)
    | (refine Ar.i64d (by omega) (by omega) ?_; conv => whnf)
    | (refine Shr.i (by rfl) (by decide) ?_; conv => whnf)
    | (refine Shl.i (by rfl) (by decide) ?_; conv => whnf)
    | (refine Req.mk (by omega) ?_; conv => whnf)
    | (intro blk hblk; conv => whnf)
    | (refine CallK.ret f_undo_Left.ok ((left_as (xs := [add1]) (RowC.pts sized_rec [add1] rfl) left_one rfl add1_ok (by decide))) ?_; rintro v G ⟨la, lc, rfl, rfl⟩; conv => whnf)
    | (refine CallK.ret f_undo_Left.ok ((left_as (xs := [add1]) (e := 130) (L := []) (RowC.pts sized_rec [add1] rfl) rfl rfl add1_ok (by decide))) ?_; rintro v G ⟨ma, mc, rfl, rfl⟩; conv => whnf)
    | (refine CallK.ret f_undo_Run.ok (run_nil) ?_; rintro v G ⟨fb, rfl, rfl⟩; conv => whnf)
    | (refine CallK.ret f_quotalaw19_is.ok ((is_yes (by decide))) ?_; rintro v G ⟨rfl, rfl⟩; conv => whnf)
    | (refine IxS.r (i := 0) (xs := [undoR 1 add1 5]) rfl rfl (by simp) (fun ab off ha => ?_); cases ha; conv => whnf)
    | (refine Ld.r (i := 0) (xs := [undoR 1 add1 5]) rfl rfl ?_; conv => whnf)
    | fail)
  refine Ret.eq rfl ?_
  first | exact Imp.refl _ | exact Imp.drop | exact Imp.fin | ((repeat (refine Imp.pick ?_)); first | exact Imp.refl _ | exact Imp.emp _ | exact Imp.fin)
end Go.Proofs.YtacpnjlijjgbmaaGreatDoor
