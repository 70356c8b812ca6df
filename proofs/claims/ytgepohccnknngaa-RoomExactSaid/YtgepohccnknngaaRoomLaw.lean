/- The statements' own functions over the room, and what they do. No condition. -/
import Derived.Test.YtgepohccnknngaaRoom
import Derived.Test.YtgepohccnknngaaVecAuto
namespace Go.Proofs.Ytgepohccnknngaa
open Go Go.SL
set_option pp.maxSteps 400

theorem num_spec {W : World} {H : HProp} {n : Int} :
    Does prog W f_quotalaw15_num ⟨[.int .i64 n]⟩ H (Ret fun v G => v = .int .i64 n ∧ G = H) := by
  refine f_quotalaw15_num.does _ ?_
  conv => whnf
  exact Ret.eq rfl (Imp.refl _)

theorem awake_spec {W : World} {H : HProp} : Does prog W f_quotalaw15_awake ⟨[]⟩ H (Ret fun v G => v = .bool true ∧ G = H) := by
  have s0 : SmallR [] := fun k L h => by cases h
  have sm : ∀ k L, L.held.length ≤ 1000 → SmallR [(k, L)] := fun k L hl k' L' h => by
    simp only [List.lookup] at h
    split at h <;> cases h; exact hl
  refine f_quotalaw15_awake.does ?_
  conv => whnf
  refine CallK.ret f_room_New.ok new_spec ?_
  rintro v G ⟨r, rfl, rfl⟩
  conv => whnf
  refine CallK.ret f_room_Room_Begin.ok (begin_spec .here) ?_
  rintro v G ⟨rfl, rfl⟩
  simp only [show beginR [] 1 = (0, [(1, ⟨0, []⟩)]) from rfl]
  conv => whnf
  refine CallK.ret f_quotalaw15_num.ok num_spec ?_
  rintro v G ⟨rfl, rfl⟩
  conv => whnf
  refine CallK.ret f_room_Room_Begin.ok (begin_spec .here) ?_
  rintro v G ⟨rfl, rfl⟩
  simp only [show beginR [(1, ⟨0, []⟩)] 1 = (121, [(1, ⟨0, []⟩)]) from rfl]
  conv => whnf
  refine CallK.ret f_quotalaw15_num.ok num_spec ?_
  rintro v G ⟨rfl, rfl⟩
  conv => whnf
  refine CallK.ret f_room_Room_Promised.ok (promisedR_spec .here (sm _ _ (by decide)) (by decide)) ?_
  rintro v G ⟨rfl, rfl⟩
  simp only [show promisedR [(1, ⟨0, []⟩)] = 2 from rfl]
  conv => whnf
  refine CallK.ret f_room_Room_Hold.ok (hold_spec .here) ?_
  rintro v G ⟨rfl, rfl⟩
  simp only [show holdR [(1, ⟨0, []⟩)] 1 7 = (0, [(1, ⟨0, [7]⟩)]) from rfl]
  conv => whnf
  refine CallK.ret f_quotalaw15_num.ok num_spec ?_
  rintro v G ⟨rfl, rfl⟩
  conv => whnf
  refine CallK.ret f_room_Room_Hold.ok (hold_spec .here) ?_
  rintro v G ⟨rfl, rfl⟩
  simp only [show holdR [(1, ⟨0, [7]⟩)] 1 7 = (0, [(1, ⟨0, [7]⟩)]) from rfl]
  conv => whnf
  refine CallK.ret f_quotalaw15_num.ok num_spec ?_
  rintro v G ⟨rfl, rfl⟩
  conv => whnf
  refine CallK.ret f_room_Room_Promised.ok (promisedR_spec .here (sm _ _ (by decide)) (by decide)) ?_
  rintro v G ⟨rfl, rfl⟩
  simp only [show promisedR [(1, ⟨0, [7]⟩)] = 3 from rfl]
  conv => whnf
  refine CallK.ret f_room_Room_May.ok (may_spec .here (sm _ _ (by decide)) (by decide) (by decide) (by decide)) ?_
  rintro v G ⟨rfl, rfl⟩
  simp only [show mayR [(1, ⟨0, [7]⟩)] 3 0 0 = 0 from rfl]
  conv => whnf
  refine CallK.ret f_quotalaw15_num.ok num_spec ?_
  rintro v G ⟨rfl, rfl⟩
  conv => whnf
  refine CallK.ret f_room_Room_May.ok (may_spec .here (sm _ _ (by decide)) (by decide) (by decide) (by decide)) ?_
  rintro v G ⟨rfl, rfl⟩
  simp only [show mayR [(1, ⟨0, [7]⟩)] 3 1 0 = 6 from rfl]
  conv => whnf
  refine CallK.ret f_quotalaw15_num.ok num_spec ?_
  rintro v G ⟨rfl, rfl⟩
  conv => whnf
  refine CallK.ret f_room_Room_Wrote.ok (wrote_spec .here) ?_
  rintro v G ⟨rfl, rfl⟩
  simp only [show wroteR [(1, ⟨0, [7]⟩)] 1 7 0 = (70, [(1, ⟨0, [7]⟩)]) from rfl]
  conv => whnf
  refine CallK.ret f_quotalaw15_num.ok num_spec ?_
  rintro v G ⟨rfl, rfl⟩
  conv => whnf
  refine CallK.ret f_room_Room_Wrote.ok (wrote_spec .here) ?_
  rintro v G ⟨rfl, rfl⟩
  simp only [show wroteR [(1, ⟨0, [7]⟩)] 1 5 0 = (0, [(1, ⟨1, [7]⟩)]) from rfl]
  conv => whnf
  refine CallK.ret f_quotalaw15_num.ok num_spec ?_
  rintro v G ⟨rfl, rfl⟩
  conv => whnf
  refine CallK.ret f_room_Room_Of.ok (of_spec .here (sm _ _ (by decide))) ?_
  rintro v G ⟨rfl, rfl⟩
  simp only [show ofR [(1, ⟨1, [7]⟩)] 1 = 1 from rfl]
  conv => whnf
  refine CallK.ret f_room_Room_Wrote.ok (wrote_spec .here) ?_
  rintro v G ⟨rfl, rfl⟩
  simp only [show wroteR [(1, ⟨1, [7]⟩)] 1 7 0 = (0, []) from rfl]
  conv => whnf
  refine CallK.ret f_quotalaw15_num.ok num_spec ?_
  rintro v G ⟨rfl, rfl⟩
  conv => whnf
  refine CallK.ret f_room_Room_Promised.ok (promisedR_spec .here s0 (by decide)) ?_
  rintro v G ⟨rfl, rfl⟩
  simp only [show promisedR [] = 0 from rfl]
  conv => whnf
  exact Ret.eq rfl Imp.drop
end Go.Proofs.Ytgepohccnknngaa
