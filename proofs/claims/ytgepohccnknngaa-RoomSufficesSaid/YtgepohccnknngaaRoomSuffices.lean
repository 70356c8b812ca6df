/- RoomSuffices answers true, and nothing that was there turns. No condition. -/
import Derived.Test.YtgepohccnknngaaRoomEnds
namespace Go.Proofs.Ytgepohccnknngaa.roomSuffices
open Go Go.SL Go.ChangeShapes Go.WideShapes Go.ChangeAt Go.RowKit
set_option pp.maxSteps 400

theorem int_dec {H : Type} {enc : TypeId × Value → H} {W : World} : Decodes enc Try.prog W t_int (fun z : Int => -9223372036854775808 ≤ z ∧ z ≤ 9223372036854775807) ints := by
  intro n cs y h
  obtain ⟨z, rfl, _, hw⟩ := DataW.trod_int Try.underlying3 h
  exact ⟨z, wf_i64 hw, rfl⟩
theorem tdiv2 (h : Int) : (0 ≤ h → 0 ≤ h.tdiv 2 ∧ h.tdiv 2 ≤ h) ∧ (h ≤ 0 → h ≤ h.tdiv 2 ∧ h.tdiv 2 ≤ 0) ∧ 2 * h.tdiv 2 ≤ h + 1 ∧ h - 1 ≤ 2 * h.tdiv 2 := by
  rcases Int.le_total 0 h with hn | hn
  · rw [Int.tdiv_eq_ediv_of_nonneg hn]; omega
  · have e : h.tdiv 2 = -((-h) / 2) := by
      rw [← Int.tdiv_eq_ediv_of_nonneg (show 0 ≤ -h by omega), Int.neg_tdiv, Int.neg_neg]
    rw [e]; omega

theorem walk {W : World} {a wa : Option Addr} {len cap wlen wcap : Nat} {xs : List OpV} {ws : List Int} (ho : OldVec W 7 opv a len cap xs) (hw : OldVec W 1 ints wa wlen wcap ws)
    (hws : ∀ z ∈ ws, -9223372036854775808 ≤ z ∧ z ≤ 9223372036854775807) :
    Does prog W f_quotalaw15_RoomSuffices ⟨[.slice a len cap, .slice wa wlen wcap]⟩ (old W • emp) (Ret fun v G => v = .bool true ∧ G = (old W • emp)) := by
  have hwl := hw.hlen
  refine f_quotalaw15_RoomSuffices.does _ _ ?_
  conv => whnf
  refine CallK.ret f_quotalaw15_grown.ok (grown_open ho) ?_
  rintro v G ⟨r, b, sa, sc, l, rfl, hB, rfl⟩
  have hwf : WfR (grownR [] (xs.take 3000)) := grownR_wf _ _ WfR.nil
  generalize hM : grownR [] (xs.take 3000) = M at *
  have hml : M.length ≤ 1000 := by have := hwf.len; omega
  have hbd := promisedR_bd M (hwf.small.mem hwf.nd)
  conv => whnf
  refine CallK.ret f_quotalaw15_awake.ok awake_spec ?_
  rintro v G ⟨rfl, rfl⟩
  conv => whnf
  refine CallK.ret f_room_Room_Promised.ok (promisedR_spec rk hwf.small hml) ?_
  rintro v G ⟨rfl, rfl⟩
  conv => whnf
  obtain ⟨s, hs⟩ : ∃ s, promisedR M = s := ⟨_, rfl⟩
  rw [hs] at hbd ⊢
  refine LoopK.intro tab_ok (L := f_quotalaw15_RoomSuffices.live) (ι := Int × Int × List (Int × Life) × Option Addr × Nat × List BRow)
    (fun i => promisedR i.2.2.1 ≤ i.1 ∧ 0 ≤ i.2.1 ∧ i.1 + i.2.1 = s ∧ WfR i.2.2.1 ∧ i.2.2.2.2.2.map (fun r : BRow => r.1) = bookOf i.2.2.1)
    (fun i => [(1, .slice wa wlen wcap), (5, ptr r), (6, ptr b), (7, .int .i64 i.1), (8, .int .i64 i.2.1)])
    (fun i => roomc r i.2.2.1 • pts b (.cells ⟨[.slice i.2.2.2.1 i.2.2.2.2.2.length i.2.2.2.2.1]⟩ t_quotalaw15_Book) • vec t_quotalaw15_Tx 4 btx i.2.2.2.1 i.2.2.2.2.1 i.2.2.2.2.2 • bigL bcs i.2.2.2.2.2 • old W • emp)
    (fun i => i.1.toNat) (s, 0, M, sa, sc, l) ⟨by simp only; omega, by simp, by simp, hwf, hB⟩ (fun t v h => h) (Imp.refl _) ?_
  have hs2 : 0 ≤ s ∧ s ≤ 1002000 := by omega
  clear hbd hs hB hwf hml hM
  rintro ⟨f, t, M, sa, sc, l⟩ ⟨hf, ht, hft, hwf, hB⟩
  dsimp only at hf ht hft hwf hB ⊢
  have hml : M.length ≤ 1000 := by have := hwf.len; omega
  have hbM := promisedR_bd M (hwf.small.mem hwf.nd)
  have hll : l.length = M.length := by
    have h1 : l.length = (bookOf M).length := by rw [← hB]; simp
    simpa [bookOf] using h1
  conv => whnf
  refine Ld.i ?_
  conv => whnf
  by_cases h0 : 0 < l.length
  refine spl_t (decide_eq_true (by omega)) ?_
  conv => whnf
  have hpos : 1 ≤ promisedR M := by
    have h0' : 0 < M.length := by omega
    have h1 := promisedR_erase M 0 M[0] (List.getElem?_eq_getElem h0')
    have h2 := promisedR_bd (M.eraseIdx 0) (fun p hp => hwf.small.mem hwf.nd p (List.mem_of_mem_eraseIdx hp))
    have h3 := Life.promised_pos M[0].2 (hwf.small.mem hwf.nd _ (List.getElem_mem h0'))
    omega
  have hm0 : mayR M f 0 0 = 0 := by simp only [mayR]; rw [if_neg (by omega), if_neg (by omega)]
  by_cases hwn : 0 < ws.length
  refine spl_t (decide_eq_true (by omega)) ?_
  conv => whnf
  refine ⟨by omega, ?_⟩
  conv => whnf
  have htm1 := Int.tmod_lt_of_pos t (show (0:Int) < wlen by omega)
  have htm2 := Int.tmod_nonneg (wlen : Int) ht
  have hix : (t.tmod wlen).toNat < ws.length := by omega
  obtain ⟨h, hh⟩ : ∃ h, ws[(t.tmod wlen).toNat]? = some h := ⟨_, List.getElem?_eq_getElem hix⟩
  have hhb := hws h (List.mem_of_getElem? hh)
  refine IxS.o (i := (t.tmod wlen).toNat) hw (by omega) hix (fun ab off ha => ?_)
  conv => whnf
  subst ha
  conv => whnf
  refine Ld.o0 hw hh rfl ?_
  conv => whnf
  refine Ld.i ?_
  conv => whnf
  refine CallK.ret f_quotalaw15_brought.ok (brought_spec (by omega) (by omega)) ?_
  rintro v G ⟨rfl, rfl⟩
  have hbd := broughtI_bd h l.length (by omega)
  obtain ⟨i, hi⟩ : ∃ i : Nat, broughtI h l.length = (i : Int) := ⟨(broughtI h l.length).toNat, by omega⟩
  rw [hi] at hbd ⊢
  have hiM : i < M.length := by omega
  obtain ⟨p, hp⟩ : ∃ p, M[i]? = some p := ⟨_, List.getElem?_eq_getElem hiM⟩
  have hq2 := tdiv2 h
  conv => whnf
  refine spl_f (decide_eq_false (by omega)) ?_
  conv => whnf
  refine CallK.ret f_room_Room_May.ok (may_spec rk hwf.small hml (by omega) ⟨by omega, by omega, by omega⟩) ?_
  rintro v G ⟨rfl, rfl⟩
  rw [hm0]
  conv => whnf
  refine CallK.ret f_quotalaw15_num.ok num_spec ?_
  rintro v G ⟨rfl, rfl⟩
  conv => whnf
  refine ⟨by decide, ?_⟩
  conv => whnf
  refine Ar.i64 (by omega) ?_
  conv => whnf
  refine Ar.i64 (by omega) ?_
  conv => whnf
  obtain ⟨e1, e2, -, -⟩ := endO_ok hwf hp (h.tdiv 2 + t)
  have hwf' := asked_wf hwf (endO p (h.tdiv 2 + t))
  refine CallK.ret f_quotalaw15_Book_ends.ok (ends_spec (sa := sa) (sc := sc) (i := i) hB hwf hp) ?_
  rintro v G ⟨sa', sc', l', rfl, hB', rfl⟩
  obtain ⟨M', hM'⟩ : ∃ M', (askedR M (endO p (h.tdiv 2 + t))).2 = M' := ⟨_, rfl⟩
  rw [hM'] at e2 hwf' hB' ⊢
  have hml' : M'.length ≤ 1000 := by have := hwf'.len; omega
  conv => whnf
  refine Ar.i64 (by omega) ?_
  conv => whnf
  refine CallK.ret f_room_Room_Promised.ok (promisedR_spec rk hwf'.small hml') ?_
  rintro v G ⟨rfl, rfl⟩
  conv => whnf
  refine spl_f (decide_eq_false (by omega)) ?_
  conv => whnf
  refine Ar.i64 (by omega) ?_
  conv => whnf
  exact ⟨rfl, (f - 1, t + 1, M', sa', sc', l'), ⟨by simp only; omega, by simp only; omega, by simp only; omega, hwf', hB'⟩, fun t v h => h, Imp.refl _, by simp only; omega⟩
  refine spl_f (decide_eq_false (by omega)) ?_
  conv => whnf
  refine Ld.i ?_
  conv => whnf
  refine CallK.ret f_quotalaw15_brought.ok (brought_spec (by omega) (by omega)) ?_
  rintro v G ⟨rfl, rfl⟩
  have hbd := broughtI_bd t l.length (by omega)
  obtain ⟨i, hi⟩ : ∃ i : Nat, broughtI t l.length = (i : Int) := ⟨(broughtI t l.length).toNat, by omega⟩
  rw [hi] at hbd ⊢
  have hiM : i < M.length := by omega
  obtain ⟨p, hp⟩ : ∃ p, M[i]? = some p := ⟨_, List.getElem?_eq_getElem hiM⟩
  have hq2 := tdiv2 t
  conv => whnf
  refine spl_f (decide_eq_false (by omega)) ?_
  conv => whnf
  refine CallK.ret f_room_Room_May.ok (may_spec rk hwf.small hml (by omega) ⟨by omega, by omega, by omega⟩) ?_
  rintro v G ⟨rfl, rfl⟩
  rw [hm0]
  conv => whnf
  refine CallK.ret f_quotalaw15_num.ok num_spec ?_
  rintro v G ⟨rfl, rfl⟩
  conv => whnf
  refine ⟨by decide, ?_⟩
  conv => whnf
  refine Ar.i64 (by omega) ?_
  conv => whnf
  refine Ar.i64 (by omega) ?_
  conv => whnf
  obtain ⟨e1, e2, -, -⟩ := endO_ok hwf hp (t.tdiv 2 + t)
  have hwf' := asked_wf hwf (endO p (t.tdiv 2 + t))
  refine CallK.ret f_quotalaw15_Book_ends.ok (ends_spec (sa := sa) (sc := sc) (i := i) hB hwf hp) ?_
  rintro v G ⟨sa', sc', l', rfl, hB', rfl⟩
  obtain ⟨M', hM'⟩ : ∃ M', (askedR M (endO p (t.tdiv 2 + t))).2 = M' := ⟨_, rfl⟩
  rw [hM'] at e2 hwf' hB' ⊢
  have hml' : M'.length ≤ 1000 := by have := hwf'.len; omega
  conv => whnf
  refine Ar.i64 (by omega) ?_
  conv => whnf
  refine CallK.ret f_room_Room_Promised.ok (promisedR_spec rk hwf'.small hml') ?_
  rintro v G ⟨rfl, rfl⟩
  conv => whnf
  refine spl_f (decide_eq_false (by omega)) ?_
  conv => whnf
  refine Ar.i64 (by omega) ?_
  conv => whnf
  exact ⟨rfl, (f - 1, t + 1, M', sa', sc', l'), ⟨by simp only; omega, by simp only; omega, by simp only; omega, hwf', hB'⟩, fun t v h => h, Imp.refl _, by simp only; omega⟩
  have hnil : M = [] := List.length_eq_zero_iff.1 (by omega)
  refine spl_f (decide_eq_false (by omega)) ?_
  conv => whnf
  refine CallK.ret f_room_Room_Promised.ok (promisedR_spec rk hwf.small hml) ?_
  rintro v G ⟨rfl, rfl⟩
  rw [show promisedR M = 0 by rw [hnil]; rfl]
  conv => whnf
  refine CallK.ret f_room_Room_May.ok (may_spec rk hwf.small hml (by omega) ⟨by omega, by omega, by omega⟩) ?_
  rintro v G ⟨rfl, rfl⟩
  rw [show mayR M 0 0 0 = 0 by rw [hnil]; rfl]
  conv => whnf
  refine CallK.ret f_quotalaw15_num.ok num_spec ?_
  rintro v G ⟨rfl, rfl⟩
  conv => whnf
  exact Ret.eq rfl (Imp.pick (Imp.emp _))

set_option maxRecDepth 100000 in
theorem lifted (os : Os) (started : os.Started) (H : Type) (enc : TypeId × Value → H) :
    ReturnsInHanded {} Try.checked os 5 .any (Rows.roomSufficesSpec.pre6 enc Try.prog Try.f5 Rows.roomSufficesRow.domain false) (Rows.roomSufficesSpec.post enc Try.prog Try.f5 false true false false) := by
  refine returnsInHanded_of_change (C := Try.checked) (by kernel_rfl) started (by kernel_rfl) Try.func5
    (ChangeSpec.witness6 (enc := enc) (C := Try.checked) false ⟨#[], #[.slice none 0 0, .slice none 0 0], []⟩ 8 (by kernel_rfl) (by kernel_rfl) (by kernel_rfl) (by kernel_rfl)) ?_
  intro W base args ds gs before hval0 hW _ _
  have hval : ∀ (j : Nat) t v, Try.f5.params[j]? = some t → args[j]? = some v → Value.okWide Try.prog W .any base t v := hval0
  have hW' := hW
  obtain ⟨p, q, hA0, hV, rfl, _, _⟩ := hW'
  have hA : DataW.TrodAll enc Try.prog W 0 (fun _ => true) true Try.f5.params.toList args.toList ds p := hA0
  rw [Try.params5] at hA hval
  obtain ⟨v0, v1, d0, d1, p0, p1, rfl, rfl, rfl, h0, h1⟩ := trodAll_two hA
  obtain ⟨rfl, rfl⟩ := trodVars_none hV
  obtain ⟨a, len, cap, xs, rfl, ho, _⟩ := arg_slice Try.underlying23 (hval 0 23 v0 rfl rfl) h0 op_dec (fun _ => by show 7 = _; kernel_rfl) (of_decide_eq_true (by kernel_rfl))
  obtain ⟨wa, wlen, wcap, ws, rfl, hw, hws⟩ := arg_slice Try.underlying35 (hval 1 35 v1 rfl rfl) h1 int_dec (fun _ => by show 1 = _; kernel_rfl) (of_decide_eq_true (by kernel_rfl))
  exact (Does.law (walk ho hw hws)).mono fun e W' ⟨he, hb⟩ => ⟨_, he, law_post hW rfl laid (by kernel_rfl) rfl Try.underlying4 rfl hb⟩

theorem proved : Rows.RoomSufficesSaid :=
  OpenClaim.holds_of_wide 5 Try.f5 rfl rfl rfl rfl rfl rfl rfl ⟨rfl, rfl, rfl, rfl, rfl⟩ rfl rfl rfl rfl rfl (by kernel_rfl) Try.func5 (by kernel_rfl)
    (of_decide_eq_true (by kernel_rfl)) (by unfold Func.isWrapper; first | (rw [if_pos (by decide +kernel)]; kernel_rfl) | (rw [if_neg (by decide +kernel)]; exact ⟨rfl, rfl⟩))
    (fun os started H enc _ => lifted os started H enc)
end Go.Proofs.Ytgepohccnknngaa.roomSuffices
