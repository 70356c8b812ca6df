/- UndoLefts answers true, and nothing that was there turns. No condition. -/
import Derived.Test.YtacpnjlijjgbmaaGreatDoorUndArgs
import Derived.Test.YtacpnjlijjgbmaaGreatDoorTie
import Derived.Test.YtacpnjlijjgbmaaGreatDoorCards
import Derived.SevenTiedAt
namespace Go.Proofs.YtacpnjlijjgbmaaGreatDoor.undoLefts
open Go Go.SL Go.SL.Und Go.ChangeShapes Go.WideShapes Go.ChangeAt Go.RowKit
theorem leftG_len {tx : Int} : ∀ (xs : List RecV) (m : List (Int × RecV)), (leftG tx m xs).2.length ≤ m.length + xs.length
  | [], m => by simp [leftG]
  | r :: rs, m => by
    have h1 := left1_len (tx := tx) (m := m) r
    unfold leftG
    split
    · have := leftG_len (tx := tx) rs (left1 tx m r).2
      simp only [List.length_cons]; omega
    · simp
theorem leftF_len {xs : List RecV} {tx : Int} (hb : 336 * (xs.length + 1) ≤ 281474976710656) : (leftF xs tx).2.length ≤ 9223372036854775807 := by
  unfold leftF
  split
  · simp
  · split
    · have := leftG_len (tx := tx) xs []
      simp only [outR, List.length_map, sortI_length, List.length_nil] at *
      omega
    · simp
theorem walk {W : World} {a : Option Addr} {n cap : Nat} {xs : List RecV} {tx : Int} (o : OldVec W 17 recv a n cap xs) (hx : ∀ r ∈ xs, OkR r) (hb : 336 * (xs.length + 1) ≤ 281474976710656) :
    Does prog W f_quotalaw19_UndoLefts ⟨[.slice a n cap, .int .i64 tx]⟩ (old W • emp) (Ret fun v G => v = .bool true ∧ G = (old W • emp)) := by
  haveI r0 : OldR W 17 recv a xs := o.r
  have hn := o.hlen
  subst hn
  refine f_quotalaw19_UndoLefts.does _ _ ?_
  conv => whnf
  repeat' (first
    | (refine spl_f (by with_reducible exact ndec_self _) ?_; conv => whnf)
    | (refine spl_f (by with_reducible exact nbeq_self _) ?_; conv => whnf)
    | (refine spl_t (by with_reducible exact beq_self _) ?_; conv => whnf)
    | (refine spl_dec (fun hd => ?_) (fun hd => ?_) <;> first | (exfalso; omega) | (conv => whnf))
    | (refine spl_ndec (fun hd => ?_) (fun hd => ?_) <;> first | (exfalso; omega) | (conv => whnf))
    | (refine spl_intro (fun hd => ?_) (fun hd => ?_) <;> (conv => whnf))
    | (refine Ld.i ?_; conv => whnf)
    | (refine LdN.i ?_; conv => whnf)
    | (refine St.i ⟨rfl, rfl⟩ (List.cons_ne_nil _ _) ?_; conv => whnf)
    | (refine Ar.i64 (by omega) ?_; conv => whnf)
    | (refine Ar.u64 (by omega) ?_; conv => whnf)
    | (refine Shr.i (by rfl) (by decide) ?_; conv => whnf)
    | (refine Shl.i (by rfl) (by decide) ?_; conv => whnf)
    | (refine Req.mk (by omega) ?_; conv => whnf)
    | (intro blk hblk; conv => whnf)
    | (refine CallK.ret f_quotalaw19_first.ok (first_spec) ?_; rintro v G ⟨rfl, rfl⟩; conv => whnf)
    | (refine CallK.ret f_quotalaw19_lent.ok ((lent_spec rfl hb)) ?_; rintro v G ⟨pa, pc, rfl, rfl⟩; conv => whnf)
    | fail)
  refine CallK.ret f_undo_Left.ok (left_spec (xs := xs) rfl hx hb) ?_
  rintro v G ⟨la, lc, rfl, rfl⟩
  conv => whnf
  repeat' (first
    | (refine spl_f (by with_reducible exact ndec_self _) ?_; conv => whnf)
    | (refine spl_f (by with_reducible exact nbeq_self _) ?_; conv => whnf)
    | (refine spl_t (by with_reducible exact beq_self _) ?_; conv => whnf)
    | (refine spl_dec (fun hd => ?_) (fun hd => ?_) <;> first | (exfalso; omega) | (conv => whnf))
    | (refine spl_ndec (fun hd => ?_) (fun hd => ?_) <;> first | (exfalso; omega) | (conv => whnf))
    | (refine spl_intro (fun hd => ?_) (fun hd => ?_) <;> (conv => whnf))
    | (refine Ld.i ?_; conv => whnf)
    | (refine LdN.i ?_; conv => whnf)
    | (refine St.i ⟨rfl, rfl⟩ (List.cons_ne_nil _ _) ?_; conv => whnf)
    | (refine Ar.i64 (by omega) ?_; conv => whnf)
    | (refine Ar.u64 (by omega) ?_; conv => whnf)
    | (refine Shr.i (by rfl) (by decide) ?_; conv => whnf)
    | (refine Shl.i (by rfl) (by decide) ?_; conv => whnf)
    | (refine Req.mk (by omega) ?_; conv => whnf)
    | (intro blk hblk; conv => whnf)
    | fail)
  refine CallK.ret f_quotaref19_Left.ok (rleft_spec (xs := xs) rfl hx hb) ?_
  rintro v G ⟨ma, mc, rfl, rfl⟩
  obtain ⟨L, hL⟩ : ∃ L, L = (leftF xs tx).2 := ⟨_, rfl⟩
  obtain ⟨e, he⟩ : ∃ e, e = (leftF xs tx).1 := ⟨_, rfl⟩
  rw [← hL, ← he]
  conv => whnf
  repeat' (first
    | (refine spl_f (by with_reducible exact ndec_self _) ?_; conv => whnf)
    | (refine spl_f (by with_reducible exact nbeq_self _) ?_; conv => whnf)
    | (refine spl_t (by with_reducible exact beq_self _) ?_; conv => whnf)
    | (refine spl_dec (fun hd => ?_) (fun hd => ?_) <;> first | (exfalso; omega) | (conv => whnf))
    | (refine spl_ndec (fun hd => ?_) (fun hd => ?_) <;> first | (exfalso; omega) | (conv => whnf))
    | (refine spl_intro (fun hd => ?_) (fun hd => ?_) <;> (conv => whnf))
    | (refine Ld.i ?_; conv => whnf)
    | (refine LdN.i ?_; conv => whnf)
    | (refine St.i ⟨rfl, rfl⟩ (List.cons_ne_nil _ _) ?_; conv => whnf)
    | (refine Ar.i64 (by omega) ?_; conv => whnf)
    | (refine Ar.u64 (by omega) ?_; conv => whnf)
    | (refine Shr.i (by rfl) (by decide) ?_; conv => whnf)
    | (refine Shl.i (by rfl) (by decide) ?_; conv => whnf)
    | (refine Req.mk (by omega) ?_; conv => whnf)
    | (intro blk hblk; conv => whnf)
    | (refine CallK.ret f_quotalaw19_same.ok ((same_true (xs := L) inferInstance rfl rfl (hL ▸ leftF_len hb))) ?_; rintro v G ⟨rfl, rfl⟩; conv => whnf)
    | (refine CallK.ret f_quotalaw19_kept.ok ((kept_true (a := pa) (cap := pc) (xs := xs) rfl rfl (by omega))) ?_; rintro v G ⟨rfl, rfl⟩; conv => whnf)
    | fail)
  refine Ret.eq rfl ?_
  first | exact Imp.refl _ | exact Imp.drop | exact Imp.fin | ((repeat (refine Imp.pick ?_)); first | exact Imp.refl _ | exact Imp.emp _ | exact Imp.fin)

set_option maxRecDepth 100000 in
theorem lifted (os : Os) (started : os.Started) (H : Type) (enc : TypeId × Value → H) :
    ReturnsInHanded {} Tryz.checked os 3 .any (fun w args => (Rows.undoLeftsSpec.pre enc Tryz.prog Tryz.f3 [] false w args ∧ laidMetH Tryz.prog Rows.undoLeftsRow.laid w) ∧ sizedMet enc Tryz.prog Tryz.f3 (OpenSpec.ofChange Rows.undoLeftsSpec) false w args)
      (Rows.undoLeftsSpec.post enc Tryz.prog Tryz.f3 false true false false) := by
  refine returnsInHanded_of_change_and (C := Tryz.checked) (X := fun w _ => laidMetH Tryz.prog Rows.undoLeftsRow.laid w) (fun _ _ _ hh h => h.of_heap hh) own_knob started (by kernel_rfl) Tryz.func3
    (ChangeSpec.witness_shaped (enc := enc) (C := Tryz.checked) (os := os) (X := fun w _ => laidMetH Tryz.prog Rows.undoLeftsRow.laid w) false (World.doorLaid Tryz.prog 600 os) #[.slice none 0 0, .int .i64 0] 8 rfl (World.shaped_of_RefB (by kernel_rfl) (by kernel_rfl)) (by kernel_rfl) (by kernel_rfl) (by kernel_rfl) (door_met os _)) ?_
  intro W base args ds gs before hval0 hW _ hbig0 hL _
  have hval : ∀ (j : Nat) t v, Tryz.f3.params[j]? = some t → args[j]? = some v → Value.okWide Tryz.prog W .any base t v := hval0
  have hW' := hW
  obtain ⟨p, q, hA0, hV, rfl, _, _⟩ := hW'
  have hA : DataW.TrodAll enc Tryz.prog W 0 (fun _ => true) true Tryz.f3.params.toList args.toList ds p := hA0
  have hbig : (DataW.weightsEach Tryz.prog (Tryz.f3.params.toList ++ Rows.undoLeftsSpec.plain.varTypes Tryz.prog) (ds ++ gs)).all (· ≤ reachBytes) = true := hbig0
  rw [Tryz.params3] at hA hval hbig
  obtain ⟨v0, v1, d0, d1, q0, q1, rfl, rfl, rfl, h0, h1⟩ := trodAll_two hA
  obtain ⟨rfl, rfl⟩ := trodVars_none hV
  have s53 : ∀ x : RecV, (recv x).length = Tryz.prog.cellsOf 53 := fun _ => by show 17 = _; kernel_rfl
  have p53 : 0 < Tryz.prog.cellsOf 53 := of_decide_eq_true (by kernel_rfl)
  have h53 : Tryz.prog.bytesOf 53 = 168 := by kernel_rfl
  obtain ⟨a0, n0, k0, rfl, hs0⟩ := DecR.slc u_S_api_Record (hval 0 22 v0 rfl rfl) h0
  obtain ⟨z1, rfl, _⟩ := DecR.num u_int (hval 1 3 v1 rfl rfl) h1
  have f0 : Fits Tryz.prog 22 d0 := Fits.of_each hbig (j := 0) rfl rfl
  obtain ⟨a0', n0', k0', xs, e0, o0, hx, hb0⟩ := DecR.slice u_S_api_Record rec_bd s53 p53 hs0 f0
  simp at e0
  obtain ⟨rfl, rfl, rfl⟩ := e0
  rw [h53] at hb0
  have hlen := o0.hlen
  have hcap := o0.hcap.1
  have hbb : 336 * (xs.length + 1) ≤ 281474976710656 := by simp only [reachBytes] at hb0; omega
  exact (Does.law (walk o0 hx hbb)).mono fun e W' ⟨he, hb⟩ => ⟨_, he, law_post hW rfl laid_out (by kernel_rfl) rfl Tryz.underlying4 rfl hb⟩

theorem row_holds : Rows.UndoLeftsSaid :=
  OpenClaim.holds_of_wide 3 Tryz.f3 rfl rfl rfl rfl rfl rfl rfl ⟨rfl, rfl, rfl, rfl, rfl⟩ rfl rfl rfl rfl rfl (by kernel_rfl) Tryz.func3 (by kernel_rfl)
    (of_decide_eq_true (by kernel_rfl)) (by unfold Func.isWrapper; first | (rw [if_pos (by decide +kernel)]; kernel_rfl) | (rw [if_neg (by decide +kernel)]; exact ⟨rfl, rfl⟩))
    (fun os started H enc _ => lifted os started H enc)
theorem proved : Rows.UndoLeftsCardSaid :=
  Claim7.holds_tied_plain_at .later [] Rows.undoLeftsCard.laidKinds true Rows.undoLeftsCard.stood.harness true
    row_holds (fun _ h => by cases h) (by kernel_rfl) (fun _ h => by cases h) undoLefts_row_tie rfl ⟨rfl, rfl⟩ (by kernel_rfl) rfl
    (fun f fn hf hfn => by
      obtain rfl : f = 3 := Option.some.inj ((show Tryz.prog.funcNamed "quota/quotalaw19.UndoLefts" = some 3 by kernel_rfl).symm.trans hf) |>.symm
      obtain rfl : fn = Tryz.f3 := (Option.some.inj (Tryz.func3.symm.trans hfn)).symm
      exact ⟨by kernel_rfl, fun j t ht => by
        rw [Tryz.params3] at ht
        have hm : t ∈ [22, 3] := by simpa using Array.mem_of_getElem? ht
        have hall : ([22, 3].all fun u => !Tryz.prog.wantsStandIn u) = true := by kernel_rfl
        exact (show Tryz.prog.wantsStandIn t = false by simpa using List.all_eq_true.1 hall t hm)⟩)
    (by kernel_rfl)
end Go.Proofs.YtacpnjlijjgbmaaGreatDoor.undoLefts
