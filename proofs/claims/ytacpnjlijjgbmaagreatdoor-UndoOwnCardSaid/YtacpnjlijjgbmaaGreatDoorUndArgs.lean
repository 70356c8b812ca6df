/- What records among the arguments hold; the package-level variables at the start. No condition. -/
import Derived.Test.YtacpnjlijjgbmaaGreatDoorUndFirst
import Derived.Test.YtacpnjlijjgbmaaGreatDoorRows
import Derived.ProofKit
import Derived.LaidMore
import Derived.OpenShut
import Derived.Stop.Joined
namespace Go.Proofs.YtacpnjlijjgbmaaGreatDoor
open Go Go.SL Go.SL.Und Go.ChangeShapes Go.WideShapes Go.ChangeAt Go.RowKit
section
variable {H : Type} {enc : TypeId × Value → H} {W : World}
theorem c_int : prog.cellsOf t_int = 1 := by kernel_rfl
theorem c_int64 : prog.cellsOf t_int64 = 1 := by kernel_rfl
theorem c_api_Kind : prog.cellsOf t_api_Kind = 1 := by kernel_rfl
theorem c_S_api_Live : prog.cellsOf t_S_api_Live = 1 := by kernel_rfl
theorem c_S_api_Dirty : prog.cellsOf t_S_api_Dirty = 1 := by kernel_rfl
theorem c_api_Slot : prog.cellsOf t_api_Slot = 2 := by kernel_rfl
theorem c_api_Counter : prog.cellsOf t_api_Counter = 5 := by kernel_rfl
theorem c_api_Points : prog.cellsOf t_api_Points = 3 := by kernel_rfl
theorem c_api_Range : prog.cellsOf 45 = 2 := by kernel_rfl
theorem u_range : prog.underlying 45 = some (.struct ⟨[⟨"Lo", 2, 0, false, "", "", 0⟩, ⟨"Hi", 2, 1, false, "", "", 8⟩]⟩) := Go.Proofs.Tryz.underlying45
theorem int_bd {t : TypeId} (ht : prog.underlying t = some (.int .i64)) {cs : List Value} {d : DataW H} (h : DecR enc prog W t cs d) : ∃ z, cs = [.int .i64 z] ∧ fits z := by
  obtain ⟨z, h1, h2⟩ := DecR.int ht h
  exact ⟨z, h1, wf_i64 h2⟩
theorem sl_bd {t e : TypeId} (ht : prog.underlying t = some (.slice e)) {cs : List Value} {d : DataW H} (h : DecR enc prog W t cs d) : ∃ s : SlV, cs = slcv s := by
  obtain ⟨n, ps, hf⟩ := h
  rcases Deep.open_slice ht hf with ⟨rfl, _⟩ | ⟨a', len', cap', m, n, D, Pl, rfl, _⟩
  · exact ⟨(none, 0, 0), rfl⟩
  · exact ⟨(some a', len', cap'), rfl⟩
theorem slot_bd {cs : List Value} {d : DataW H} (h : DecR enc prog W t_api_Slot cs d) : ∃ a b, cs = [.int .i64 a, .int .i64 b] := by
  obtain ⟨hl, hf⟩ := DecR.struct u_api_Slot h
  rw [c_api_Slot] at hl
  obtain ⟨a0, a1, rfl⟩ := len2 hl
  obtain ⟨y0, h0, _⟩ := hf 0 _ rfl
  obtain ⟨y1, h1, _⟩ := hf 1 _ rfl
  obtain ⟨z0, e0, _⟩ := int_bd u_int h0
  obtain ⟨z1, e1, _⟩ := int_bd u_int h1
  simp [c_int] at e0 e1
  exact ⟨z0, z1, by rw [e0, e1]⟩
theorem range_bd {cs : List Value} {d : DataW H} (h : DecR enc prog W 45 cs d) : ∃ a b, cs = [.int .i64 a, .int .i64 b] := by
  obtain ⟨hl, hf⟩ := DecR.struct u_range h
  rw [c_api_Range] at hl
  obtain ⟨a0, a1, rfl⟩ := len2 hl
  obtain ⟨y0, h0, _⟩ := hf 0 _ rfl
  obtain ⟨y1, h1, _⟩ := hf 1 _ rfl
  obtain ⟨z0, e0, _⟩ := int_bd u_int64 h0
  obtain ⟨z1, e1, _⟩ := int_bd u_int64 h1
  simp [c_int64] at e0 e1
  exact ⟨z0, z1, by rw [e0, e1]⟩
theorem counter_bd {cs : List Value} {d : DataW H} (h : DecR enc prog W t_api_Counter cs d) : ∃ a b c d e, cs = [.int .i64 a, .int .i64 b, .int .i64 c, .int .i64 d, .int .i64 e] ∧ fits a := by
  obtain ⟨hl, hf⟩ := DecR.struct u_api_Counter h
  rw [c_api_Counter] at hl
  obtain ⟨a0, a1, a2, a3, a4, rfl⟩ := len5 hl
  obtain ⟨y0, h0, _⟩ := hf 0 _ rfl
  obtain ⟨y1, h1, _⟩ := hf 1 _ rfl
  obtain ⟨y2, h2, _⟩ := hf 2 _ rfl
  obtain ⟨y3, h3, _⟩ := hf 3 _ rfl
  obtain ⟨z0, e0, w0⟩ := int_bd u_int h0
  obtain ⟨z1, e1, _⟩ := int_bd u_int h1
  obtain ⟨z2, z3, e2⟩ := range_bd h2
  obtain ⟨z4, e3, _⟩ := int_bd u_int64 h3
  simp [c_int, c_int64, c_api_Range] at e0 e1 e2 e3
  exact ⟨z0, z1, z2, z3, z4, by rw [e0, e1, e2.1, e2.2, e3], w0⟩
theorem points_bd {cs : List Value} {d : DataW H} (h : DecR enc prog W t_api_Points cs d) : ∃ (a b : SlV) (c : Int), cs = [.slice a.1 a.2.1 a.2.2, .slice b.1 b.2.1 b.2.2, .int .i64 c] := by
  obtain ⟨hl, hf⟩ := DecR.struct u_api_Points h
  rw [c_api_Points] at hl
  obtain ⟨a0, a1, a2, rfl⟩ := len3 hl
  obtain ⟨y0, h0, _⟩ := hf 0 _ rfl
  obtain ⟨y1, h1, _⟩ := hf 1 _ rfl
  obtain ⟨y2, h2, _⟩ := hf 2 _ rfl
  obtain ⟨z0, e0⟩ := sl_bd u_S_api_Live h0
  obtain ⟨z1, e1⟩ := sl_bd u_S_api_Dirty h1
  obtain ⟨z2, e2, _⟩ := int_bd u_int h2
  simp [c_int, c_S_api_Live, c_S_api_Dirty, slcv] at e0 e1 e2
  exact ⟨z0, z1, z2, by rw [e0, e1, e2]⟩
theorem rec_bd : ∀ cs d, DecR enc prog W t_api_Record cs d → Fits prog t_api_Record d → ∃ x : RecV, OkR x ∧ cs = recv x := by
  intro cs d h _
  obtain ⟨hl, hf⟩ := DecR.struct u_api_Record h
  have hl : cs.length = 17 := hl.trans (by kernel_rfl)
  obtain ⟨y0, h0, _⟩ := hf 0 _ rfl
  obtain ⟨y1, h1, _⟩ := hf 1 _ rfl
  obtain ⟨y2, h2, _⟩ := hf 2 _ rfl
  obtain ⟨y3, h3, _⟩ := hf 3 _ rfl
  obtain ⟨y4, h4, _⟩ := hf 4 _ rfl
  obtain ⟨y5, h5, _⟩ := hf 5 _ rfl
  obtain ⟨y6, h6, _⟩ := hf 6 _ rfl
  obtain ⟨y7, h7, _⟩ := hf 7 _ rfl
  obtain ⟨y8, h8, _⟩ := hf 8 _ rfl
  obtain ⟨z0, e0, _⟩ := int_bd u_int h0
  obtain ⟨z1, e1, _⟩ := int_bd u_api_Kind h1
  obtain ⟨z2, e2, _⟩ := int_bd u_int h2
  obtain ⟨z3, e3, _⟩ := int_bd u_int h3
  obtain ⟨z4, z5, e4⟩ := slot_bd h4
  obtain ⟨z6, z7, e5⟩ := slot_bd h5
  obtain ⟨z8, e6, w8⟩ := int_bd u_int64 h6
  obtain ⟨z9, z10, z11, z12, z13, e7, w9⟩ := counter_bd h7
  obtain ⟨z14, z15, z16, e8⟩ := points_bd h8
  clear h0 h1 h2 h3 h4 h5 h6 h7 h8 hf h
  obtain ⟨a0, a1, a2, a3, a4, a5, a6, a7, a8, a9, a10, a11, a12, a13, a14, a15, a16, rfl⟩ := len17 hl
  simp [c_int, c_int64, c_api_Kind, c_api_Slot, c_api_Counter, c_api_Points] at e0 e1 e2 e3 e4 e5 e6 e7 e8
  exact ⟨⟨z0, z1, z2, z3, z4, z5, z6, z7, z8, z9, z10, z11, z12, z13, z14, z15, z16⟩, ⟨w9, w8⟩, by simp [recv, e0, e1, e2, e3, e4, e5, e6, e7, e8]⟩
end
theorem own_knob : ownKnob prog.godebug = none := by kernel_rfl
theorem laid_out : laidOutB prog = true := by kernel_rfl
/-- The door's own heap meets the condition. -/
theorem door_met (os : Os) (args : Array Value) : laidMetH prog Rows.undoLeftsRow.laid ((World.doorLaid prog 600 os).forCall (fun _ _ => 0) ⟨#[], args, []⟩).memory :=
  laidMetH_of_parts3 (fuel := 8) (laidMet_of_run' 8 (by kernel_rfl) (by kernel_rfl)) (by kernel_rfl) (by kernel_rfl)
end Go.Proofs.YtacpnjlijjgbmaaGreatDoor
