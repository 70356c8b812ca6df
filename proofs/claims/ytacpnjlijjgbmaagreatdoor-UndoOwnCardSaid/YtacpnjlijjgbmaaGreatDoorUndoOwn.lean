/- UndoOwn answers true, and nothing that was there turns. No condition. -/
import Derived.Test.YtacpnjlijjgbmaaGreatDoorUndOwn
namespace Go.Proofs.YtacpnjlijjgbmaaGreatDoor.undoOwn
open Go Go.SL Go.SL.Und Go.ChangeShapes Go.WideShapes Go.ChangeAt Go.RowKit
section
variable {H : Type} {enc : TypeId × Value → H} {W : World}
theorem deed_bd : ∀ cs d, DecR enc prog W t_quotaref18_Deed cs d → Fits prog t_quotaref18_Deed d → ∃ x : Tld.DeedV, True ∧ cs = Tld.deedv x := by
  intro cs d h _
  obtain ⟨hl, hf⟩ := DecR.struct u_quotaref18_Deed h
  have hl : cs.length = 4 := hl.trans (by kernel_rfl)
  obtain ⟨y0, h0, _⟩ := hf 0 _ rfl
  obtain ⟨y1, h1, _⟩ := hf 1 _ rfl
  obtain ⟨y2, h2, _⟩ := hf 2 _ rfl
  obtain ⟨y3, h3, _⟩ := hf 3 _ rfl
  obtain ⟨z0, e0, _⟩ := int_bd u_int h0
  obtain ⟨z1, e1, _⟩ := int_bd u_int h1
  obtain ⟨z2, e2, _⟩ := int_bd u_int h2
  obtain ⟨z3, e3, _⟩ := int_bd u_int64 h3
  clear h0 h1 h2 h3 hf h
  obtain ⟨a0, a1, a2, a3, rfl⟩ := len4 hl
  simp [c_int, c_int64] at e0 e1 e2 e3
  exact ⟨⟨z0, z1, z2, z3⟩, trivial, by simp [Tld.deedv, e0, e1, e2, e3]⟩
theorem ints_bd : ∀ cs d, DecR enc prog W t_int cs d → Fits prog t_int d → ∃ x : Int, True ∧ cs = ints x := by
  intro cs d h _
  obtain ⟨z, e, _⟩ := int_bd u_int h
  exact ⟨z, trivial, e⟩
theorem life_bd {cs : List Value} {d : DataW H} (h : DecR enc prog W t_quotalaw19_Life cs d) (hb : Fits prog t_quotalaw19_Life d) : ∃ (p l f : Int) (a1 a2 : Option Addr) (n1 n2 c1 c2 : Nat) (D : List Tld.DeedV), cs = [.int .i64 p, .int .i64 l, .int .i64 f, .slice a1 n1 c1, .slice a2 n2 c2] ∧ OldVec W 4 Tld.deedv a1 n1 c1 D := by
  obtain ⟨hl, hf⟩ := DecR.struct u_quotalaw19_Life h
  have hl : cs.length = 5 := hl.trans (by kernel_rfl)
  obtain ⟨y0, h0, _⟩ := hf 0 _ rfl
  obtain ⟨y1, h1, k1⟩ := hf 1 _ rfl
  obtain ⟨y2, h2, _⟩ := hf 2 _ rfl
  obtain ⟨hl0, hf0⟩ := DecR.struct u_api_Shape h0
  obtain ⟨x0, g0, _⟩ := hf0 0 _ rfl
  obtain ⟨x1, g1, _⟩ := hf0 1 _ rfl
  obtain ⟨x2, g2, _⟩ := hf0 2 _ rfl
  obtain ⟨z0, e0, _⟩ := int_bd u_int g0
  obtain ⟨z1, e1, _⟩ := int_bd u_int g1
  obtain ⟨z2, e2, _⟩ := int_bd u_int g2
  obtain ⟨a1, n1, c1, D, e3, o3, _, _⟩ := DecR.slice u_S_quotaref18_Deed deed_bd (fun _ => by show 4 = prog.cellsOf t_quotaref18_Deed; kernel_rfl) (of_decide_eq_true (by kernel_rfl)) h1 (k1 hb)
  obtain ⟨s, e4⟩ := sl_bd u_S_int h2
  have hq : prog.cellsOf t_quotaref18_Deed = 4 := by kernel_rfl
  rw [hq] at o3
  have c1' : prog.cellsOf t_S_quotaref18_Deed = 1 := by kernel_rfl
  have c2' : prog.cellsOf t_S_int = 1 := by kernel_rfl
  have c3' : prog.cellsOf t_api_Shape = 3 := by kernel_rfl
  clear h0 h1 h2 hf hf0 h g0 g1 g2 k1
  obtain ⟨b0, b1, b2, b3, b4, rfl⟩ := len5 hl
  simp [c_int, c1', c2', c3', slcv] at e0 e1 e2 e3 e4
  exact ⟨z0, z1, z2, a1, s.1, n1, s.2.1, c1, s.2.2, D, by simp [e0, e1, e2, e3, e4], o3⟩
end
set_option maxRecDepth 100000 in
theorem lifted (os : Os) (started : os.Started) (H : Type) (enc : TypeId × Value → H) :
    ReturnsInHanded {} Tryz.checked os 4 .any (fun w args => (Rows.undoOwnSpec.pre enc Tryz.prog Tryz.f4 [] false w args ∧ laidMetH Tryz.prog Rows.undoOwnRow.laid w) ∧ sizedMet enc Tryz.prog Tryz.f4 (OpenSpec.ofChange Rows.undoOwnSpec) false w args)
      (Rows.undoOwnSpec.post enc Tryz.prog Tryz.f4 false true false false) := by
  refine returnsInHanded_of_change_and (C := Tryz.checked) (X := fun w _ => laidMetH Tryz.prog Rows.undoOwnRow.laid w) (fun _ _ _ hh h => h.of_heap hh) own_knob started (by kernel_rfl) Tryz.func4
    (ChangeSpec.witness_shaped (enc := enc) (C := Tryz.checked) (os := os) (X := fun w _ => laidMetH Tryz.prog Rows.undoOwnRow.laid w) false (World.doorLaid Tryz.prog 600 os) #[.agg #[.int .i64 0, .int .i64 0, .int .i64 0, .slice none 0 0, .slice none 0 0], .slice none 0 0] 8 rfl (World.shaped_of_RefB (by kernel_rfl) (by kernel_rfl)) (by kernel_rfl) (by kernel_rfl) (by kernel_rfl) (door_met os _)) ?_
  intro W base args ds gs before hval0 hW _ hbig0 hL _
  have hval : ∀ (j : Nat) t v, Tryz.f4.params[j]? = some t → args[j]? = some v → Value.okWide Tryz.prog W .any base t v := hval0
  have hW' := hW
  obtain ⟨p, q, hA0, hV, rfl, _, _⟩ := hW'
  have hA : DataW.TrodAll enc Tryz.prog W 0 (fun _ => true) true Tryz.f4.params.toList args.toList ds p := hA0
  have hbig : (DataW.weightsEach Tryz.prog (Tryz.f4.params.toList ++ Rows.undoOwnSpec.plain.varTypes Tryz.prog) (ds ++ gs)).all (· ≤ reachBytes) = true := hbig0
  rw [Tryz.params4] at hA hval hbig
  obtain ⟨v0, v1, d0, d1, q0, q1, rfl, rfl, rfl, h0, h1⟩ := trodAll_two hA
  obtain ⟨rfl, rfl⟩ := trodVars_none hV
  obtain ⟨cs0, rfl, hs0⟩ := DecR.agg u_quotalaw19_Life (hval 0 37 v0 rfl rfl) h0
  obtain ⟨a3, n3, k3, rfl, hs1⟩ := DecR.slc u_S_int (hval 1 35 v1 rfl rfl) h1
  have f0 : Fits Tryz.prog 37 d0 := Fits.of_each hbig (j := 0) rfl rfl
  have f1 : Fits Tryz.prog 35 d1 := Fits.of_each hbig (j := 1) rfl rfl
  obtain ⟨zp, zl, zf, a1, a2, n1, n2, c1, c2, D, rfl, o1⟩ := life_bd hs0 f0
  obtain ⟨a3', n3', k3', txs, e3, o3, _, _⟩ := DecR.slice u_S_int ints_bd (fun _ => by show 1 = prog.cellsOf t_int; kernel_rfl) (of_decide_eq_true (by kernel_rfl)) hs1 f1
  simp at e3
  obtain ⟨rfl, rfl, rfl⟩ := e3
  have hq : prog.cellsOf t_int = 1 := by kernel_rfl
  rw [hq] at o3
  have hl1 := o1.hlen
  have hc1 := o1.hcap
  have hm : (maxLen : Int) ≤ 9223372036854775807 := by decide
  exact (Does.law (walk o1 o3 (by omega))).mono fun e W' ⟨he, hb⟩ => ⟨_, he, law_post hW rfl laid_out (by kernel_rfl) rfl Tryz.underlying4 rfl hb⟩
theorem row_holds : Rows.UndoOwnSaid :=
  OpenClaim.holds_of_wide 4 Tryz.f4 rfl rfl rfl rfl rfl rfl rfl ⟨rfl, rfl, rfl, rfl, rfl⟩ rfl rfl rfl rfl rfl (by kernel_rfl) Tryz.func4 (by kernel_rfl)
    (of_decide_eq_true (by kernel_rfl)) (by unfold Func.isWrapper; first | (rw [if_pos (by decide +kernel)]; kernel_rfl) | (rw [if_neg (by decide +kernel)]; exact ⟨rfl, rfl⟩))
    (fun os started H enc _ => lifted os started H enc)
theorem proved : Rows.UndoOwnCardSaid :=
  Claim7.holds_tied_plain_at .later [] Rows.undoOwnCard.laidKinds true Rows.undoOwnCard.stood.harness true
    row_holds (fun _ h => by cases h) (by kernel_rfl) (fun _ h => by cases h) undoOwn_row_tie rfl ⟨rfl, rfl⟩ (by kernel_rfl) rfl
    (fun f fn hf hfn => by
      obtain rfl : f = 4 := Option.some.inj ((show Tryz.prog.funcNamed "quota/quotalaw19.UndoOwn" = some 4 by kernel_rfl).symm.trans hf) |>.symm
      obtain rfl : fn = Tryz.f4 := (Option.some.inj (Tryz.func4.symm.trans hfn)).symm
      exact ⟨by kernel_rfl, fun j t ht => by
        rw [Tryz.params4] at ht
        have hm : t ∈ [37, 35] := by simpa using Array.mem_of_getElem? ht
        have hall : ([37, 35].all fun u => !Tryz.prog.wantsStandIn u) = true := by kernel_rfl
        exact (show Tryz.prog.wantsStandIn t = false by simpa using List.all_eq_true.1 hall t hm)⟩)
    (by kernel_rfl)
end Go.Proofs.YtacpnjlijjgbmaaGreatDoor.undoOwn
