/- What dirty pages and live transactions among the arguments hold. No condition. -/
import Derived.Test.YtijnojaneheaeaaPtsFrom
namespace Go.Proofs.Ytijnojaneheaeaa
open Go Go.SL Go.SL.Pts Go.ChangeShapes Go.WideShapes Go.ChangeAt Go.RowKit
set_option maxRecDepth 100000 in
theorem dirty_bd {H : Type} {enc : TypeId × Value → H} {W : World} : Decodes enc Try.prog W t_api_Dirty (fun _ : DirtyV => True) dirtyv := by
  intro n cs y h
  obtain ⟨hl, k, hf⟩ := trod_fields Try.underlying40 h
  have hl : cs.length = 2 := hl.trans (by kernel_rfl)
  match cs, hl with
  | [c0, c1], _ =>
    obtain ⟨y0, h0⟩ := hf ⟨"Page", 3, 0, false, "", "", 0⟩ (by simp)
    obtain ⟨y1, h1⟩ := hf ⟨"Since", 3, 1, false, "", "", 8⟩ (by simp)
    obtain ⟨z0, e0, _⟩ := DataW.trod_int Try.underlying3 h0
    obtain ⟨z1, e1, _⟩ := DataW.trod_int Try.underlying3 h1
    refine ⟨(z0, z1), trivial, ?_⟩
    have c3 : Try.prog.cellsOf 3 = 1 := by kernel_rfl
    simp [c3] at e0 e1
    simp [dirtyv, e0, e1]

end Go.Proofs.Ytijnojaneheaeaa
