/- What the room statements share: arguments, the list opened. No condition. -/
import Derived.Test.YtgepohccnknngaaRows
import Derived.Test.YtgepohccnknngaaRoomGrown
namespace Go.Proofs.Ytgepohccnknngaa
open Go Go.SL Go.ChangeShapes Go.WideShapes Go.ChangeAt Go.RowKit
set_option pp.maxSteps 400

theorem laid : laidOutB Try.prog = true := by kernel_rfl
theorem Does.post {W : World} {f : FuncId} {args : Array Value} {H : HProp} {Q Q' : Ending → HProp → Prop} (h : Does prog W f args H Q) (k : ∀ e w H', Sat W H' w → Q e H' → ∃ H'', Sat W H'' w ∧ Q' e H'') :
    Does prog W f args H Q' := ⟨fun w hs => (h.run w hs).mono fun e w' ⟨H', h1, h2⟩ => k e w' H' h1 h2⟩
/-- The book comes open. -/
theorem grown_open {W : World} {H : HProp} {a : Option Addr} {len cap : Nat} {xs : List OpV} [oc : OldC W H] (ho : OldVec W 7 opv a len cap xs) :
    Does prog W f_quotalaw15_grown ⟨[.slice a len cap]⟩ H (Ret fun v G => ∃ r b sa sc l, v = .tuple ⟨[ptr r, ptr b]⟩ ∧ l.map (fun r : BRow => r.1) = bookOf (grownR [] (xs.take 3000)) ∧
      G = (roomc r (grownR [] (xs.take 3000)) • pts b (.cells ⟨[.slice sa l.length sc]⟩ t_quotalaw15_Book) • vec t_quotalaw15_Tx 4 btx sa sc l • bigL bcs l • H)) := by
  refine Does.post (grown_spec ho) ?_
  rintro e w H' hs ⟨v, G, rfl, hi, r, b, rfl, rfl⟩
  have hs := hs.imp hi
  have hs : Sat W (bookc b (bookOf (grownR [] (xs.take 3000))) • roomc r (grownR [] (xs.take 3000)) • H) w := hs.imp (Imp.pick (Imp.pick (Imp.refl _)))
  unfold bookc at hs
  rw [ex_star] at hs
  obtain ⟨sa, hs⟩ := hs.ex
  rw [ex_star] at hs
  obtain ⟨sc, hs⟩ := hs.ex
  rw [ex_star] at hs
  obtain ⟨l, hs⟩ := hs.ex
  rw [star_assoc] at hs
  obtain ⟨hl, hs⟩ := hs.pure
  rw [star_assoc, star_assoc] at hs
  exact ⟨_, hs, _, _, rfl, Imp.pick (Imp.pick (Imp.pick (Imp.pick (Imp.refl _)))), r, b, sa, sc, l, rfl, hl, rfl⟩
theorem op_dec {H : Type} {enc : TypeId × Value → H} {W : World} : Decodes enc Try.prog W t_quotalaw15_Op (fun _ => True) opv := by
  intro n cs y h
  obtain ⟨hl, k, hf⟩ := trod_fields Try.underlying32 h
  have hl : cs.length = 7 := hl
  match cs, hl with
  | [c0, c1, c2, c3, c4, c5, c6], _ =>
    obtain ⟨y0, h0⟩ := hf ⟨"Kind", 3, 0, false, "", "", 0⟩ (by simp)
    obtain ⟨y1, h1⟩ := hf ⟨"Two", 4, 1, false, "", "", 8⟩ (by simp)
    obtain ⟨y2, h2⟩ := hf ⟨"Tx", 3, 2, false, "", "", 16⟩ (by simp)
    obtain ⟨y3, h3⟩ := hf ⟨"Counter", 3, 3, false, "", "", 24⟩ (by simp)
    obtain ⟨y4, h4⟩ := hf ⟨"What", 30, 4, false, "", "", 32⟩ (by simp)
    obtain ⟨y5, h5⟩ := hf ⟨"Free", 3, 5, false, "", "", 40⟩ (by simp)
    obtain ⟨y6, h6⟩ := hf ⟨"More", 3, 6, false, "", "", 48⟩ (by simp)
    obtain ⟨z0, e0, _⟩ := DataW.trod_int Try.underlying3 h0
    obtain ⟨z1, e1, _⟩ := DataW.trod_bool Try.underlying4 h1
    obtain ⟨z2, e2, _⟩ := DataW.trod_int Try.underlying3 h2
    obtain ⟨z3, e3, _⟩ := DataW.trod_int Try.underlying3 h3
    obtain ⟨z4, e4, _⟩ := DataW.trod_int Try.underlying30 h4
    obtain ⟨z5, e5, _⟩ := DataW.trod_int Try.underlying3 h5
    obtain ⟨z6, e6, _⟩ := DataW.trod_int Try.underlying3 h6
    refine ⟨⟨z0, z1, z2, z3, z4, z5, z6⟩, trivial, ?_⟩
    have c3 : Try.prog.cellsOf 3 = 1 := by kernel_rfl
    have c4 : Try.prog.cellsOf 4 = 1 := by kernel_rfl
    have c30 : Try.prog.cellsOf 30 = 1 := by kernel_rfl
    simp [c3, c4, c30] at e0 e1 e2 e3 e4 e5 e6
    simp [opv, e0, e1, e2, e3, e4, e5, e6]
theorem owes_of (p : Int × Life) (h : WfL p.2) : (btxOf p).owes = p.2.promised := by
  rcases h.st with h | h | h <;> simp [btxOf, BTx.owes, Life.promised, h]
class RoomC (H : HProp) (r : Nat) (M : outParam (List (Int × Life))) (R : outParam HProp) : Prop where h : Take H (roomc r M) R
section
variable {H R X : HProp} {r : Nat} {M : List (Int × Life)}
instance (priority := 90) RoomC.there [i : RoomC H r M R] : RoomC (X • H) r M (X • R) := ⟨i.h.there⟩
instance (priority := 100) RoomC.here : RoomC (roomc r M • R) r M R := ⟨.here⟩
instance RoomC.last : RoomC (roomc r M) r M emp := ⟨.last⟩
theorem rk [i : RoomC H r M R] : Take H (roomc r M) R := i.h
end
/-- The book comes open, and stays so. -/
theorem notes_open {W : World} {H R1 R2 R : HProp} {b : Nat} {sa : Option Addr} {sc : Nat} {l : List BRow} {B : List BTx} {o : OpV} (hB : l.map (fun r : BRow => r.1) = B) (hlen : B.length ≤ 4000) (hcs : ∀ t ∈ B, t.cs.length ≤ 4000)
    [TkC H (pts b (.cells ⟨[.slice sa l.length sc]⟩ t_quotalaw15_Book)) R1] [TkC R1 (vec t_quotalaw15_Tx 4 btx sa sc l) R2] [TkC R2 (bigL bcs l) R] :
    Does prog W f_quotalaw15_Book_notes ⟨[ptr b, .agg ⟨opv o⟩]⟩ H (Ret fun _ G => ∃ sa' sc' l', l'.map (fun r : BRow => r.1) = notesB B o ∧
      G = (pts b (.cells ⟨[.slice sa' l'.length sc']⟩ t_quotalaw15_Book) • vec t_quotalaw15_Tx 4 btx sa' sc' l' • bigL bcs l' • R)) := by
  refine Does.imp (H' := bookc b B • R) (book_shut sa sc l hB (Imp.pick (Imp.pick (Imp.pick (Imp.refl _))))) ?_
  refine Does.post (notes_spec .here hlen hcs) ?_
  rintro e w H' hs ⟨v, G, rfl, hi, rfl⟩
  have hs := hs.imp hi
  unfold bookc at hs
  rw [ex_star] at hs
  obtain ⟨sa', hs⟩ := hs.ex
  rw [ex_star] at hs
  obtain ⟨sc', hs⟩ := hs.ex
  rw [ex_star] at hs
  obtain ⟨l', hs⟩ := hs.ex
  rw [star_assoc] at hs
  obtain ⟨hl, hs⟩ := hs.pure
  rw [star_assoc, star_assoc] at hs
  exact ⟨_, hs, _, _, rfl, Imp.refl _, sa', sc', l', hl, rfl⟩
end Go.Proofs.Ytgepohccnknngaa
