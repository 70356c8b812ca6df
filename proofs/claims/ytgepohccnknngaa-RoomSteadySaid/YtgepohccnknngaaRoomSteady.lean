/- RoomSteady answers true, and nothing that was there turns. No condition. -/
import Derived.Test.YtgepohccnknngaaRoomRows
namespace Go.Proofs.Ytgepohccnknngaa.roomSteady
open Go Go.SL Go.ChangeShapes Go.WideShapes Go.ChangeAt Go.RowKit
set_option pp.maxSteps 400

theorem walk {W : World} {a : Option Addr} {len cap : Nat} {xs : List OpV} {last : OpV} (ho : OldVec W 7 opv a len cap xs) :
    Does prog W f_quotalaw15_RoomSteady ⟨[.slice a len cap, .agg ⟨opv last⟩]⟩ (old W • emp) (Ret fun v G => v = .bool true ∧ G = (old W • emp)) := by
  have hlen := ho.hlen
  refine f_quotalaw15_RoomSteady.does _ _ ?_
  conv => whnf
  intro lb hlb
  conv => whnf
  refine CallK.ret f_room_New.ok new_spec ?_
  rintro v G ⟨r, rfl, rfl⟩
  conv => whnf
  refine CallK.ret f_room_New.ok new_spec ?_
  rintro v G ⟨s, rfl, rfl⟩
  conv => whnf
  refine CallK.ret f_quotalaw15_awake.ok awake_spec ?_
  rintro v G ⟨rfl, rfl⟩
  conv => whnf
  intro b hb
  conv => whnf
  refine LoopK.intro tab_ok (L := f_quotalaw15_RoomSteady.live) (ι := Nat × Int × Option Addr × Nat × List BRow)
    (fun i => i.2.1 = (i.1 : Int) ∧ i.1 ≤ xs.length ∧ i.1 ≤ 3000 ∧ i.2.2.2.2.map (fun r : BRow => r.1) = bookOf (grownR [] (xs.take i.1)))
    (fun i => [(0, .slice a len cap), (3, ptr lb), (5, ptr r), (6, ptr s), (7, ptr b), (8, .int .i64 i.2.1)])
    (fun i => roomc r (grownR [] (xs.take i.1)) • roomc s (grownR [] (xs.take i.1)) • pts b (.cells ⟨[.slice i.2.2.1 i.2.2.2.2.length i.2.2.2.1]⟩ t_quotalaw15_Book) • vec t_quotalaw15_Tx 4 btx i.2.2.1 i.2.2.2.1 i.2.2.2.2 • bigL bcs i.2.2.2.2 •
      pts lb (.cells ⟨[.int .i64 last.kind, .bool last.two, .int .i64 last.tx, .int .i64 last.counter, .int .i64 last.what, .int .i64 last.free, .int .i64 last.more]⟩ t_quotalaw15_Op) • old W • emp)
    (fun i => 3000 - i.1) (0, 0, none, 0, []) ⟨by simp, by simp, by simp, rfl⟩ (fun t v h => h) ?_ ?_
  · show Imp _ (roomc r [] • roomc s [] • pts b (.cells ⟨[.slice none 0 0]⟩ t_quotalaw15_Book) • vec t_quotalaw15_Tx 4 btx none 0 [] • emp • _)
    refine Imp.pick (Imp.pick (Imp.pick ?_))
    have := (vec_nil (t := t_quotalaw15_Tx) (sz := 4) (enc := btx)).imp.left (Q := (pts lb (.cells ⟨[.int .i64 last.kind, .bool last.two, .int .i64 last.tx, .int .i64 last.counter, .int .i64 last.what, .int .i64 last.free, .int .i64 last.more]⟩ t_quotalaw15_Op) • old W • emp))
    rw [emp_star] at this
    rw [emp_star]
    exact this
  rintro ⟨i, z, sa, sc, l⟩ ⟨hz, hi, hi2, hB⟩
  dsimp only at hz hi hi2 hB ⊢
  have hwf : WfR (grownR [] (xs.take i)) := grownR_wf _ _ WfR.nil
  have hbs := bookOf_small hwf
  have done : ¬ (i < xs.length ∧ i < 3000) → xs.take i = xs.take 3000 := fun h => by
    by_cases h2 : i = 3000
    · rw [h2]
    · rw [List.take_of_length_le (by omega), List.take_of_length_le (by omega)]
  conv => whnf
  by_cases hc1 : i < xs.length
  refine spl_t (by simp; omega) ?_
  conv => whnf
  by_cases hc2 : i < 3000
  refine spl_t (by simp; omega) ?_
  conv => whnf
  obtain ⟨x, hx⟩ : ∃ x, xs[i]? = some x := ⟨_, List.getElem?_eq_getElem hc1⟩
  have hg := grownR_take xs i x hx
  have hwf' := asked_wf hwf x
  have hml : (askedR (grownR [] (xs.take i)) x).2.length ≤ 1000 := by have := hwf'.len; omega
  refine IxS.o (i := i) ho hz hc1 (fun ab off ha => ?_)
  conv => whnf
  subst ha
  conv => whnf
  refine LdN.o ho hx rfl rfl ?_
  conv => whnf
  intro ob hob
  conv => whnf
  refine St.i ⟨rfl, rfl⟩ (by simp [opv]) ?_
  conv => whnf
  refine LdN.i ?_
  conv => whnf
  refine CallK.ret f_quotalaw15_asked.ok (asked_spec (o := x) rk) ?_
  rintro v G ⟨rfl, rfl⟩
  conv => whnf
  refine spl_intro (fun h1 => ?_) (fun h1 => ?_)
  · have h1' : 0 < (askedR (grownR [] (xs.take i)) x).1 := by simpa using h1
    have hsame := asked_same x (M := grownR [] (xs.take i)) (by omega)
    conv => whnf
    refine Ar.i64 (by omega) ?_
    conv => whnf
    refine ⟨rfl, (i + 1, z + 1, sa, sc, l), ⟨by simp only; omega, by simp only; omega, by simp only; omega, by simp only; rw [hg, hsame, hB]⟩, fun t v h => h, ?_, by simp only; omega⟩
    simp only
    rw [hg, hsame]
    exact Imp.pick (Imp.pick (Imp.pick (Imp.pick (Imp.pick (Imp.pick (Imp.pick (Imp.emp _)))))))
  conv => whnf
  refine spl_intro (fun h2 => ?_) (fun h2 => ?_)
  have h2' : (askedR (grownR [] (xs.take i)) x).1 = 0 := by simpa using h2
  conv => whnf
  refine LdN.i ?_
  conv => whnf
  refine CallK.ret f_quotalaw15_Book_notes.ok (notes_open (sa := sa) (sc := sc) (o := x) hB hbs.1 hbs.2) ?_
  rintro v G ⟨sa', sc', l', hB', rfl⟩
  rw [asked_book hwf x h2'] at hB'
  conv => whnf
  rotate_left 1
  have h2' : (askedR (grownR [] (xs.take i)) x).1 ≠ 0 := by simpa using h2
  obtain ⟨sa', hsa⟩ : ∃ y, y = sa := ⟨_, rfl⟩
  obtain ⟨sc', hsc⟩ : ∃ y, y = sc := ⟨_, rfl⟩
  obtain ⟨l', hl⟩ : ∃ y, y = l := ⟨_, rfl⟩
  have hB' : l'.map (fun r : BRow => r.1) = bookOf (askedR (grownR [] (xs.take i)) x).2 := by rw [hl, asked_same x h2', hB]
  subst hsa hsc hl
  conv => whnf
  rotate_right 1
  iterate 2
    refine LdN.i ?_
    conv => whnf
    refine CallK.ret f_quotalaw15_asked.ok (asked_spec (o := x) rk) ?_
    rintro v G ⟨rfl, rfl⟩
    conv => whnf
    refine spl_f (by simp) ?_
    conv => whnf
    refine CallK.ret f_room_Room_Promised.ok (promisedR_spec rk hwf'.small hml) ?_
    rintro v G ⟨rfl, rfl⟩
    conv => whnf
    refine CallK.ret f_room_Room_Promised.ok (promisedR_spec rk hwf'.small hml) ?_
    rintro v G ⟨rfl, rfl⟩
    conv => whnf
    refine spl_f (by simp) ?_
    conv => whnf
    refine Ar.i64 (by omega) ?_
    conv => whnf
    refine ⟨rfl, (i + 1, z + 1, sa', sc', l'), ⟨by simp only; omega, by simp only; omega, by simp only; omega, by simp only; rw [hg, hB']⟩, fun t v h => h, ?_, by simp only; omega⟩
    simp only
    rw [hg]
    exact Imp.pick (Imp.pick (Imp.pick (Imp.pick (Imp.pick (Imp.pick (Imp.pick (Imp.emp _)))))))
  refine spl_f (by simp; omega) ?_
  conv => whnf
  rotate_left 1
  refine spl_f (by simp; omega) ?_
  conv => whnf
  all_goals
    have hM : grownR [] (xs.take i) = grownR [] (xs.take 3000) := by rw [done (by omega)]
    generalize grownR [] (xs.take i) = M at *
    have hml : M.length ≤ 1000 := by have := hwf.len; omega
    have hll : l.length ≤ 32 := by
      have h1 : l.length = (bookOf M).length := by rw [← hB]; simp
      have := hwf.len
      simp [bookOf] at h1; omega
    refine LoopK.intro tab_ok (L := f_quotalaw15_RoomSteady.live) (ι := Nat) (fun i => i ≤ l.length)
      (fun i => [(3, ptr lb), (5, ptr r), (6, ptr s), (7, ptr b), (11, .int .i64 i)]) (fun _ => roomc r M • roomc s M • pts b (.cells ⟨[.slice sa l.length sc]⟩ t_quotalaw15_Book) • vec t_quotalaw15_Tx 4 btx sa sc l • bigL bcs l • pts lb (.cells ⟨[.int .i64 last.kind, .bool last.two, .int .i64 last.tx, .int .i64 last.counter, .int .i64 last.what, .int .i64 last.free, .int .i64 last.more]⟩ t_quotalaw15_Op) • old W • emp)
      (fun i => l.length - i) 0 (by simp) (fun t v h => h) (Imp.refl _) ?_
    rintro i hi
    conv => whnf
    refine Ld.i ?_
    conv => whnf
    refine spl_intro (fun h6 => ?_) (fun h6 => ?_)
    have h6' : i < l.length := by simpa using h6
    obtain ⟨x, hx⟩ : ∃ x, l[i]? = some x := ⟨_, List.getElem?_eq_getElem h6'⟩
    conv => whnf
    refine DrawK.intro tab_ok mixed f_quotalaw15_RoomSteady.last19 f_quotalaw15_RoomSteady.plan19 (pts b (.cells ⟨[.slice sa l.length sc]⟩ t_quotalaw15_Book) • vec t_quotalaw15_Tx 4 btx sa sc l • emp) (by kernel_rfl) (Sub.of (Imp.pick (Imp.pick (Imp.emp _)))) ?_
    conv => whnf
    refine Ld.i ?_
    conv => whnf
    refine IxS.v (i := i) rfl rfl h6' (fun ab off ha => ?_)
    conv => whnf
    subst ha
    conv => whnf
    refine Ld.v0 hx rfl ?_
    conv => whnf
    refine Ld.i ?_
    conv => whnf
    refine IxS.v (i := i) rfl rfl h6' (fun ab' off' ha => ?_)
    conv => whnf
    cases ha
    conv => whnf
    refine Ld.v0 hx rfl ?_
    conv => whnf
    refine CallK.ret f_room_Room_Of.ok (of_spec rk hwf.small) ?_
    rintro v G ⟨rfl, rfl⟩
    conv => whnf
    refine ⟨Sub.of (Imp.pick (Imp.pick (Imp.emp _))), ?_⟩
    conv => whnf
    refine CallK.ret f_room_Room_Of.ok (of_spec rk hwf.small) ?_
    rintro v G ⟨rfl, rfl⟩
    conv => whnf
    refine ⟨Sub.of (Imp.pick (Imp.pick (Imp.emp _))), ?_⟩
    conv => whnf
    refine spl_f (by simp) ?_
    conv => whnf
    refine Ar.i64 (by omega) ?_
    conv => whnf
    exact ⟨rfl, i + 1, by omega, fun t v h => h, Imp.refl _, by omega⟩
    conv => whnf
    refine DrawK.intro tab_ok mixed f_quotalaw15_RoomSteady.last21 f_quotalaw15_RoomSteady.plan21 (pts lb (.cells ⟨[.int .i64 last.kind, .bool last.two, .int .i64 last.tx, .int .i64 last.counter, .int .i64 last.what, .int .i64 last.free, .int .i64 last.more]⟩ t_quotalaw15_Op) • emp) (by kernel_rfl) (Sub.of (Imp.pick (Imp.emp _))) ?_
    conv => whnf
    refine LdN.i ?_
    conv => whnf
    refine LdN.i ?_
    conv => whnf
    have hwf' := asked_wf hwf last
    have hml' : (askedR M last).2.length ≤ 1000 := by have := hwf'.len; omega
    refine CallK.ret f_quotalaw15_asked.ok (asked_spec (o := last) rk) ?_
    rintro v G ⟨rfl, rfl⟩
    conv => whnf
    refine ⟨Sub.of (Imp.pick (Imp.emp _)), ?_⟩
    conv => whnf
    refine CallK.ret f_quotalaw15_asked.ok (asked_spec (o := last) rk) ?_
    rintro v G ⟨rfl, rfl⟩
    conv => whnf
    refine ⟨Sub.of (Imp.pick (Imp.emp _)), ?_⟩
    conv => whnf
    refine spl_t (by simp) ?_
    conv => whnf
    refine CallK.ret f_room_Room_Promised.ok (promisedR_spec rk hwf'.small hml') ?_
    rintro v G ⟨rfl, rfl⟩
    conv => whnf
    refine ⟨Sub.of (Imp.pick (Imp.emp _)), ?_⟩
    conv => whnf
    refine CallK.ret f_room_Room_Promised.ok (promisedR_spec rk hwf'.small hml') ?_
    rintro v G ⟨rfl, rfl⟩
    conv => whnf
    refine ⟨Sub.of (Imp.pick (Imp.emp _)), ?_⟩
    conv => whnf
    simp only [decide_true]
    exact Ret.eq rfl (Imp.pick (Imp.emp _))

set_option maxRecDepth 100000 in
theorem lifted (os : Os) (started : os.Started) (H : Type) (enc : TypeId × Value → H) :
    ReturnsInHanded {} Try.checked os 8 .any (Rows.roomSteadySpec.pre6 enc Try.prog Try.f8 Rows.roomSteadyRow.domain false) (Rows.roomSteadySpec.post enc Try.prog Try.f8 false true false false) := by
  refine returnsInHanded_of_change (C := Try.checked) (by kernel_rfl) started (by kernel_rfl) Try.func8
    (ChangeSpec.witness6 (enc := enc) (C := Try.checked) false ⟨#[], #[.slice none 0 0, .agg #[.int .i64 0, .bool false, .int .i64 0, .int .i64 0, .int .i64 0, .int .i64 0, .int .i64 0]], []⟩ 8 (by kernel_rfl) (by kernel_rfl) (by kernel_rfl) (by kernel_rfl)) ?_
  intro W base args ds gs before hval0 hW _ _
  have hval : ∀ (j : Nat) t v, Try.f8.params[j]? = some t → args[j]? = some v → Value.okWide Try.prog W .any base t v := hval0
  have hW' := hW
  obtain ⟨p, q, hA0, hV, rfl, _, _⟩ := hW'
  have hA : DataW.TrodAll enc Try.prog W 0 (fun _ => true) true Try.f8.params.toList args.toList ds p := hA0
  rw [Try.params8] at hA hval
  obtain ⟨v0, v1, d0, d1, p0, p1, rfl, rfl, rfl, h0, h1⟩ := trodAll_two hA
  obtain ⟨rfl, rfl⟩ := trodVars_none hV
  obtain ⟨a, len, cap, xs, rfl, ho, _⟩ := arg_slice Try.underlying23 (hval 0 23 v0 rfl rfl) h0 op_dec (fun _ => by show 7 = _; kernel_rfl) (of_decide_eq_true (by kernel_rfl))
  obtain ⟨last, rfl, _⟩ := arg_agg Try.underlying32 (hval 1 32 v1 rfl rfl) h1 op_dec
  exact (Does.law (walk ho)).mono fun e W' ⟨he, hb⟩ => ⟨_, he, law_post hW rfl laid (by kernel_rfl) rfl Try.underlying4 rfl hb⟩

theorem proved : Rows.RoomSteadySaid :=
  OpenClaim.holds_of_wide 8 Try.f8 rfl rfl rfl rfl rfl rfl rfl ⟨rfl, rfl, rfl, rfl, rfl⟩ rfl rfl rfl rfl rfl (by kernel_rfl) Try.func8 (by kernel_rfl)
    (of_decide_eq_true (by kernel_rfl)) (by unfold Func.isWrapper; first | (rw [if_pos (by decide +kernel)]; kernel_rfl) | (rw [if_neg (by decide +kernel)]; exact ⟨rfl, rfl⟩))
    (fun os started H enc _ => lifted os started H enc)
end Go.Proofs.Ytgepohccnknngaa.roomSteady
