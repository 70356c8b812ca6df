/- RoomLeast answers true, and nothing that was there turns. No condition. -/
import Derived.Test.YtgepohccnknngaaRoomEnds
namespace Go.Proofs.Ytgepohccnknngaa.roomLeast
open Go Go.SL Go.ChangeShapes Go.WideShapes Go.ChangeAt Go.RowKit
set_option pp.maxSteps 400

theorem book_at {M : List (Int × Life)} {l : List BRow} (hB : l.map (fun r : BRow => r.1) = bookOf M) {i : Nat} {x : BRow} (hx : l[i]? = some x) (hwf : WfR M) :
    ∃ p, M[i]? = some p ∧ x.1 = btxOf p ∧ x.1.cs.length ≤ 64 ∧ x.1.num = p.1 ∧ ofR M p.1 = p.2.promised ∧ x.1.owes = p.2.promised ∧ 0 ≤ p.2.promised := by
  have h1 : (bookOf M)[i]? = some x.1 := by rw [← hB, List.getElem?_map, hx]; rfl
  simp only [bookOf, List.getElem?_map, Option.map_eq_some_iff] at h1
  obtain ⟨p, hp, he⟩ := h1
  have hm := List.mem_of_getElem? hp
  have hl := lookup_of_mem p.1 p.2 M hwf.nd hm
  have hw := hwf.each p hm
  have := Life.promised_pos p.2 (by have := hw.len; omega)
  refine ⟨p, hp, he.symm, by rw [← he]; exact hw.len, by rw [← he]; rfl, by simp [ofR, hl], by rw [← he, owes_of p hw], by omega⟩
theorem promisedR_take (M : List (Int × Life)) (i : Nat) (p : Int × Life) (h : M[i]? = some p) : promisedR (M.take (i + 1)) = promisedR (M.take i) + p.2.promised := by
  rw [List.take_add_one, h]
  simp [promisedR]

theorem walk {W : World} {a : Option Addr} {len cap : Nat} {xs : List OpV} (ho : OldVec W 7 opv a len cap xs) :
    Does prog W f_quotalaw15_RoomLeast ⟨[.slice a len cap]⟩ (old W • emp) (Ret fun v G => v = .bool true ∧ G = (old W • emp)) := by
  refine f_quotalaw15_RoomLeast.does _ ?_
  conv => whnf
  refine CallK.ret f_quotalaw15_grown.ok (grown_open ho) ?_
  rintro v G ⟨r, b, sa, sc, l, rfl, hB, rfl⟩
  have hwf : WfR (grownR [] (xs.take 3000)) := grownR_wf _ _ WfR.nil
  generalize hM : grownR [] (xs.take 3000) = M at *
  have hml : M.length ≤ 1000 := by have := hwf.len; omega
  have hbd := promisedR_bd M (hwf.small.mem hwf.nd)
  have hbt : ∀ i, 0 ≤ promisedR (M.take i) ∧ promisedR (M.take i) ≤ 1002000 := fun i => by
    have h1 := promisedR_bd (M.take i) (fun p hp => hwf.small.mem hwf.nd p (List.mem_of_mem_take hp))
    have h2 : (M.take i).length ≤ 1000 := by rw [List.length_take]; omega
    omega
  have hll : l.length = M.length := by
    have h1 : l.length = (bookOf M).length := by rw [← hB]; simp
    simpa [bookOf] using h1
  conv => whnf
  refine CallK.ret f_quotalaw15_awake.ok awake_spec ?_
  rintro v G ⟨rfl, rfl⟩
  conv => whnf
  refine LoopK.intro tab_ok (L := f_quotalaw15_RoomLeast.live) (ι := Nat × Int) (fun i => i.1 ≤ l.length ∧ i.2 = promisedR (M.take i.1))
    (fun i => [(3, ptr r), (4, ptr b), (5, .int .i64 i.2), (6, .int .i64 i.1)]) (fun _ => roomc r M • pts b (.cells ⟨[.slice sa l.length sc]⟩ t_quotalaw15_Book) • vec t_quotalaw15_Tx 4 btx sa sc l • bigL bcs l • old W • emp)
    (fun i => l.length - i.1) (0, 0) ⟨by simp, by simp [promisedR]⟩ (fun t v h => h) (Imp.refl _) ?_
  rintro ⟨i, s⟩ ⟨hi, hs⟩
  dsimp only at hi hs ⊢
  conv => whnf
  refine Ld.i ?_
  conv => whnf
  by_cases h6' : i < l.length
  refine spl_t (by simp; omega) ?_
  conv => whnf
  obtain ⟨x, hx⟩ : ∃ x, l[i]? = some x := ⟨_, List.getElem?_eq_getElem h6'⟩
  obtain ⟨p, hp, hxp, hcs, hnum, hof, how, hpp⟩ := book_at hB hx hwf
  have hst := promisedR_take M i p hp
  have hb1 := hbt i
  have hb2 := hbt (i + 1)
  refine DrawK.intro tab_ok mixed f_quotalaw15_RoomLeast.last8 f_quotalaw15_RoomLeast.plan8 (pts b (.cells ⟨[.slice sa l.length sc]⟩ t_quotalaw15_Book) • vec t_quotalaw15_Tx 4 btx sa sc l • emp) (by kernel_rfl) (Sub.of (Imp.pick (Imp.pick (Imp.emp _)))) ?_
  conv => whnf
  refine Ld.i ?_
  conv => whnf
  refine IxS.v (i := i) rfl rfl h6' (fun ab off ha => ?_)
  conv => whnf
  subst ha
  conv => whnf
  refine Ld.v0 hx rfl ?_
  conv => whnf
  refine Ld.i ?_
  conv => whnf
  refine IxS.v (i := i) rfl rfl h6' (fun ab' off' ha => ?_)
  conv => whnf
  cases ha
  conv => whnf
  refine LdN.v hx rfl ?_
  conv => whnf
  refine CallK.ret f_room_Room_Of.ok (of_spec rk hwf.small) ?_
  rintro v G ⟨rfl, rfl⟩
  rw [hnum, hof]
  conv => whnf
  refine ⟨Sub.of (Imp.pick (Imp.pick (Imp.emp _))), ?_⟩
  conv => whnf
  refine CallK.ret f_quotalaw15_Tx_owes.ok (owes_spec (r := x) (by omega)) ?_
  rintro v G ⟨rfl, rfl⟩
  rw [how]
  conv => whnf
  refine ⟨Sub.of (Imp.pick (Imp.pick (Imp.emp _))), ?_⟩
  conv => whnf
  refine spl_f (by simp) ?_
  conv => whnf
  refine Ld.i ?_
  conv => whnf
  refine IxS.v (i := i) rfl rfl h6' (fun ab' off' ha => ?_)
  conv => whnf
  cases ha
  conv => whnf
  refine LdN.v hx rfl ?_
  conv => whnf
  refine CallK.ret f_quotalaw15_Tx_owes.ok (owes_spec (r := x) (by omega)) ?_
  rintro v G ⟨rfl, rfl⟩
  rw [how]
  conv => whnf
  refine Ar.i64 (by omega) ?_
  conv => whnf
  refine Ar.i64 (by omega) ?_
  conv => whnf
  exact ⟨rfl, (i + 1, s + p.2.promised), ⟨by simp only; omega, by simp only; omega⟩, fun t v h => h, Imp.refl _, by simp only; omega⟩
  refine spl_f (by simp; omega) ?_
  conv => whnf
  have hfull : M.take i = M := List.take_of_length_le (by omega)
  rw [hfull] at hs
  refine CallK.ret f_room_Room_Promised.ok (promisedR_spec rk hwf.small hml) ?_
  rintro v G ⟨rfl, rfl⟩
  rw [← hs]
  conv => whnf
  refine spl_f (by simp) ?_
  conv => whnf
  clear hbt hfull h6' hi hM hll
  refine LoopK.intro tab_ok (L := f_quotalaw15_RoomLeast.live) (ι := Int × List (Int × Life) × Option Addr × Nat × List BRow)
    (fun i => i.1 + promisedR i.2.1 = s ∧ 0 ≤ i.1 ∧ WfR i.2.1 ∧ i.2.2.2.2.map (fun r : BRow => r.1) = bookOf i.2.1)
    (fun i => [(3, ptr r), (4, ptr b), (5, .int .i64 s), (7, .int .i64 i.1)])
    (fun i => roomc r i.2.1 • pts b (.cells ⟨[.slice i.2.2.1 i.2.2.2.2.length i.2.2.2.1]⟩ t_quotalaw15_Book) • vec t_quotalaw15_Tx 4 btx i.2.2.1 i.2.2.2.1 i.2.2.2.2 • bigL bcs i.2.2.2.2 • old W • emp)
    (fun i => (promisedR i.2.1).toNat) (0, M, sa, sc, l) ⟨by simp only; omega, by simp, hwf, hB⟩ (fun t v h => h) (Imp.refl _) ?_
  have hs2 : 0 ≤ s ∧ s ≤ 1002000 := by omega
  clear hbd hs hB hwf hml
  rintro ⟨z, M, sa, sc, l⟩ ⟨hz, hz0, hwf, hB⟩
  dsimp only at hz hz0 hwf hB ⊢
  have hml : M.length ≤ 1000 := by have := hwf.len; omega
  have hbd := promisedR_bd M (hwf.small.mem hwf.nd)
  have hll : l.length = M.length := by
    have h1 : l.length = (bookOf M).length := by rw [← hB]; simp
    simpa [bookOf] using h1
  conv => whnf
  refine Ld.i ?_
  conv => whnf
  by_cases h0 : 0 < l.length
  refine spl_t (by simp; omega) ?_
  conv => whnf
  obtain ⟨x, hx⟩ : ∃ x, l[0]? = some x := ⟨_, List.getElem?_eq_getElem h0⟩
  obtain ⟨p, hp, hxp, -, hnum, -, -, hpp⟩ := book_at hB hx hwf
  obtain ⟨e1, e2, e3, e4⟩ := endO_ok hwf hp 1
  have e3 := e3 (by decide)
  have hwf' := asked_wf hwf (endO p 1)
  obtain ⟨M', hM'⟩ : ∃ M', (askedR M (endO p 1)).2 = M' := ⟨_, rfl⟩
  rw [hM'] at e2 e3 e4 hwf'
  have hml' : M'.length ≤ 1000 := by have := hwf'.len; omega
  have hbd' := promisedR_bd M' (hwf'.small.mem hwf'.nd)
  refine Ld.i ?_
  conv => whnf
  refine IxS.v (i := 0) rfl rfl h0 (fun ab off ha => ?_)
  conv => whnf
  subst ha
  conv => whnf
  refine Ld.v0 (i := 0) hx rfl ?_
  rw [hnum]
  conv => whnf
  refine CallK.ret f_quotalaw15_Book_ends.ok (ends_spec (sa := some ⟨ab, off, none⟩) (sc := sc) (i := 0) (how := 1) hB hwf hp) ?_
  rintro v G ⟨sa', sc', l', rfl, hB', rfl⟩
  rw [hM'] at hB' ⊢
  have hll' : l'.length = M'.length := by
    have h1 : l'.length = (bookOf M').length := by rw [← hB']; simp
    simpa [bookOf] using h1
  conv => whnf
  refine Ar.i64 (by omega) ?_
  conv => whnf
  refine CallK.ret f_room_Room_Promised.ok (promisedR_spec rk hwf'.small hml') ?_
  rintro v G ⟨rfl, rfl⟩
  conv => whnf
  refine Ar.i64 (by omega) ?_
  conv => whnf
  refine spl_f (by simp; omega) ?_
  conv => whnf
  refine Ld.i ?_
  conv => whnf
  by_cases hl0 : l'.length = 0
  have hno : M'.lookup p.1 = none := by
    have : M' = [] := List.length_eq_zero_iff.1 (by omega)
    rw [this]; rfl
  refine spl_t (decide_eq_true (by omega)) ?_
  conv => whnf
  rotate_left 1
  have hl0' : 0 < l'.length := by omega
  obtain ⟨x', hx'⟩ : ∃ x', l'[0]? = some x' := ⟨_, List.getElem?_eq_getElem hl0'⟩
  obtain ⟨p', hp', -, -, hnum', -, -, -⟩ := book_at hB' hx' hwf'
  refine spl_f (decide_eq_false (by omega)) ?_
  conv => whnf
  refine Ld.i ?_
  conv => whnf
  refine IxS.v (i := 0) rfl rfl hl0' (fun ab' off' ha => ?_)
  conv => whnf
  subst ha
  conv => whnf
  refine Ld.v0 (i := 0) hx' rfl ?_
  rw [hnum']
  conv => whnf
  by_cases hsame : p'.1 = p.1
  refine spl_f (by simp [hsame]) ?_
  conv => whnf
  exact ⟨rfl, (z + 1, M', some ⟨ab', off', none⟩, sc', l'), ⟨by simp only; omega, by simp only; omega, hwf', hB'⟩, Fr.sub_hd rfl (Fr.sub_tl _ _), Imp.refl _, by simp only; omega⟩
  have hno : M'.lookup p.1 = none := by
    rcases e4 with ⟨L', hL'⟩ | h
    · exfalso
      rw [hL'] at hp'
      have h0' : 0 < M.length := by omega
      rw [List.getElem?_set_self h0'] at hp'
      simp at hp'
      exact hsame (by rw [← hp'])
    · exact h
  refine spl_t (by simp [hsame]) ?_
  conv => whnf
  refine CallK.ret f_room_Room_Of.ok (of_spec rk hwf'.small) ?_
  rintro v G ⟨rfl, rfl⟩
  rw [show ofR M' p.1 = 0 by rw [ofR, hno]]
  conv => whnf
  refine CallK.ret f_room_Room_Hold.ok (hold_spec rk) ?_
  rintro v G ⟨rfl, rfl⟩
  rw [show holdR M' p.1 1 = (130, M') by rw [holdR, hno]]
  conv => whnf
  refine CallK.ret f_quotalaw15_num.ok num_spec ?_
  rintro v G ⟨rfl, rfl⟩
  conv => whnf
  exact ⟨rfl, (z + 1, M', some ⟨ab', off', none⟩, sc', l'), ⟨by simp only; omega, by simp only; omega, hwf', hB'⟩, Fr.sub_hd rfl (Fr.sub_tl _ _), Imp.refl _, by simp only; omega⟩
  rotate_left 1
  refine CallK.ret f_room_Room_Of.ok (of_spec rk hwf'.small) ?_
  rintro v G ⟨rfl, rfl⟩
  rw [show ofR M' p.1 = 0 by rw [ofR, hno]]
  conv => whnf
  refine CallK.ret f_room_Room_Hold.ok (hold_spec rk) ?_
  rintro v G ⟨rfl, rfl⟩
  rw [show holdR M' p.1 1 = (130, M') by rw [holdR, hno]]
  conv => whnf
  refine CallK.ret f_quotalaw15_num.ok num_spec ?_
  rintro v G ⟨rfl, rfl⟩
  conv => whnf
  exact ⟨rfl, (z + 1, M', sa', sc', l'), ⟨by simp only; omega, by simp only; omega, hwf', hB'⟩, Fr.sub_hd rfl (Fr.sub_tl _ _), Imp.refl _, by simp only; omega⟩
  have hnil : M = [] := List.length_eq_zero_iff.1 (by omega)
  have hz' : z = s := by rw [hnil] at hz; simpa [promisedR] using hz
  refine spl_f (decide_eq_false (by omega)) ?_
  conv => whnf
  rw [decide_eq_true hz']
  exact Ret.eq rfl (Imp.pick (Imp.emp _))

set_option maxRecDepth 100000 in
theorem lifted (os : Os) (started : os.Started) (H : Type) (enc : TypeId × Value → H) :
    ReturnsInHanded {} Try.checked os 6 .any (Rows.roomLeastSpec.pre6 enc Try.prog Try.f6 Rows.roomLeastRow.domain false) (Rows.roomLeastSpec.post enc Try.prog Try.f6 false true false false) := by
  refine returnsInHanded_of_change (C := Try.checked) (by kernel_rfl) started (by kernel_rfl) Try.func6
    (ChangeSpec.witness6 (enc := enc) (C := Try.checked) false ⟨#[], #[.slice none 0 0], []⟩ 8 (by kernel_rfl) (by kernel_rfl) (by kernel_rfl) (by kernel_rfl)) ?_
  intro W base args ds gs before hval0 hW _ _
  have hval : ∀ (j : Nat) t v, Try.f6.params[j]? = some t → args[j]? = some v → Value.okWide Try.prog W .any base t v := hval0
  have hW' := hW
  obtain ⟨p, q, hA0, hV, rfl, _, _⟩ := hW'
  have hA : DataW.TrodAll enc Try.prog W 0 (fun _ => true) true Try.f6.params.toList args.toList ds p := hA0
  rw [Try.params6] at hA hval
  obtain ⟨v0, d0, rfl, rfl, h0⟩ := trodAll_one hA
  obtain ⟨rfl, rfl⟩ := trodVars_none hV
  obtain ⟨a, len, cap, xs, rfl, ho, _⟩ := arg_slice Try.underlying23 (hval 0 23 v0 rfl rfl) h0 op_dec (fun _ => by show 7 = _; kernel_rfl) (of_decide_eq_true (by kernel_rfl))
  exact (Does.law (walk ho)).mono fun e W' ⟨he, hb⟩ => ⟨_, he, law_post hW rfl laid (by kernel_rfl) rfl Try.underlying4 rfl hb⟩

theorem proved : Rows.RoomLeastSaid :=
  OpenClaim.holds_of_wide 6 Try.f6 rfl rfl rfl rfl rfl rfl rfl ⟨rfl, rfl, rfl, rfl, rfl⟩ rfl rfl rfl rfl rfl (by kernel_rfl) Try.func6 (by kernel_rfl)
    (of_decide_eq_true (by kernel_rfl)) (by unfold Func.isWrapper; first | (rw [if_pos (by decide +kernel)]; kernel_rfl) | (rw [if_neg (by decide +kernel)]; exact ⟨rfl, rfl⟩))
    (fun os started H enc _ => lifted os started H enc)
end Go.Proofs.Ytgepohccnknngaa.roomLeast
