/- RoomMay answers true, and nothing that was there turns. No condition. -/
import Derived.Test.YtgepohccnknngaaRoomRows
namespace Go.Proofs.Ytgepohccnknngaa.roomMay
open Go Go.SL Go.ChangeShapes Go.WideShapes Go.ChangeAt Go.RowKit
set_option pp.maxSteps 400

theorem may_of {M : List (Int × Life)} {p free parts more : Int} (hp : promisedR M = p) (h0 : 0 ≤ p) :
    (free < 0 ∧ mayR M free parts more = 4) ∨ (0 ≤ free ∧ parts < 0 ∧ mayR M free parts more = 4) ∨ (0 ≤ free ∧ 0 ≤ parts ∧ more < 0 ∧ mayR M free parts more = 4) ∨
    (0 ≤ free ∧ 0 ≤ parts ∧ 0 ≤ more ∧ free - p < parts ∧ mayR M free parts more = 6) ∨
    (0 ≤ free ∧ 0 ≤ parts ∧ 0 ≤ more ∧ parts ≤ free - p ∧ free - p - parts < more ∧ mayR M free parts more = 6) ∨
    (0 ≤ free ∧ 0 ≤ parts ∧ 0 ≤ more ∧ parts ≤ free - p ∧ more ≤ free - p - parts ∧ mayR M free parts more = 0) := by
  unfold mayR
  rw [hp]
  by_cases h : free < 0 ∨ parts < 0 ∨ more < 0
  · rw [if_pos h]; omega
  · rw [if_neg h]
    by_cases h2 : free < parts ∨ free - parts < more ∨ free - parts - more < p
    · rw [if_pos h2]; omega
    · rw [if_neg h2]; omega
theorem book_at {M : List (Int × Life)} {l : List BRow} (hB : l.map (fun r : BRow => r.1) = bookOf M) {i : Nat} {x : BRow} (hx : l[i]? = some x) (hwf : WfR M) :
    x.1.cs.length ≤ 64 ∧ ofR M x.1.num = x.1.owes := by
  have h1 : (bookOf M)[i]? = some x.1 := by rw [← hB, List.getElem?_map, hx]; rfl
  simp only [bookOf, List.getElem?_map, Option.map_eq_some_iff] at h1
  obtain ⟨p, hp, he⟩ := h1
  have hm := List.mem_of_getElem? hp
  have hl := lookup_of_mem p.1 p.2 M hwf.nd hm
  rw [← he, owes_of p (hwf.each p hm)]
  exact ⟨(hwf.each p hm).len, by simp [ofR, btxOf, hl]⟩

theorem walk {W : World} {a : Option Addr} {len cap : Nat} {xs : List OpV} {free parts more : Int} (ho : OldVec W 7 opv a len cap xs)
    (hf : -9223372036854775808 ≤ free ∧ free ≤ 9223372036854775807) (hpt : -9223372036854775808 ≤ parts ∧ parts ≤ 9223372036854775807) (hmo : -9223372036854775808 ≤ more ∧ more ≤ 9223372036854775807) :
    Does prog W f_quotalaw15_RoomMay ⟨[.slice a len cap, .int .i64 free, .int .i64 parts, .int .i64 more]⟩ (old W • emp) (Ret fun v G => v = .bool true ∧ G = (old W • emp)) := by
  refine f_quotalaw15_RoomMay.does _ _ _ _ ?_
  conv => whnf
  refine CallK.ret f_quotalaw15_grown.ok (grown_open ho) ?_
  rintro v G ⟨r, b, sa, sc, l, rfl, hB, rfl⟩
  have hwf : WfR (grownR [] (xs.take 3000)) := grownR_wf _ _ WfR.nil
  generalize hM : grownR [] (xs.take 3000) = M at *
  have hsm := hwf.small
  have hml : M.length ≤ 1000 := by have := hwf.len; omega
  have hbd := promisedR_bd M (hsm.mem hwf.nd)
  have hll : l.length ≤ 32 := by
    have h1 : l.length = (bookOf M).length := by rw [← hB]; simp
    have := hwf.len
    simp [bookOf] at h1; omega
  conv => whnf
  refine CallK.ret f_quotalaw15_awake.ok awake_spec ?_
  rintro v G ⟨rfl, rfl⟩
  conv => whnf
  refine CallK.ret f_room_Room_Promised.ok (promisedR_spec .here hsm hml) ?_
  rintro v G ⟨rfl, rfl⟩
  conv => whnf
  refine CallK.ret f_room_Room_May.ok (may_spec .here hsm hml hbd.1 ⟨hf, hpt, hmo⟩) ?_
  rintro v G ⟨rfl, rfl⟩
  conv => whnf
  refine CallK.ret f_quotalaw15_num.ok num_spec ?_
  rintro v G ⟨rfl, rfl⟩
  conv => whnf
  refine CallK.ret f_room_Room_May.ok (may_spec .here hsm hml hbd.1 ⟨hf, hpt, hmo⟩) ?_
  rintro v G ⟨rfl, rfl⟩
  conv => whnf
  refine CallK.ret f_quotalaw15_num.ok num_spec ?_
  rintro v G ⟨rfl, rfl⟩
  obtain ⟨p, hp⟩ : ∃ p, promisedR M = p := ⟨_, rfl⟩
  have hspl := may_of (free := free) (parts := parts) (more := more) hp (by omega)
  obtain ⟨q, hq⟩ : ∃ q, mayR M free parts more = q := ⟨_, rfl⟩
  rw [hq] at hspl
  rw [hq, hp]
  conv => whnf
  have hpb : 0 ≤ p ∧ p ≤ 1002000 := by rw [hp] at hbd; omega
  have hm0 : mayR M p 0 0 = 0 := by simp only [mayR, hp]; rw [if_neg (by omega), if_neg (by omega)]
  have hm6 : 0 < p → mayR M (p - 1) 0 0 = 6 := fun h => by simp only [mayR, hp]; rw [if_neg (by omega), if_pos (by omega)]
  rcases hspl with ⟨h1, rfl⟩ | ⟨h1, h2, rfl⟩ | ⟨h1, h2, h3, rfl⟩ | ⟨h1, h2, h3, h4, rfl⟩ | ⟨h1, h2, h3, h4, h5, rfl⟩ | ⟨h1, h2, h3, h4, h5, rfl⟩
  refine spl_t (by simp; omega) ?_
  conv => whnf
  rotate_left 1
  refine spl_f (by simp; omega) ?_
  conv => whnf
  refine spl_t (by simp; omega) ?_
  conv => whnf
  rotate_left 1
  refine spl_f (by simp; omega) ?_
  conv => whnf
  refine spl_f (by simp; omega) ?_
  conv => whnf
  refine spl_t (by simp; omega) ?_
  conv => whnf
  rotate_left 1
  refine spl_f (by simp; omega) ?_
  conv => whnf
  refine spl_f (by simp; omega) ?_
  conv => whnf
  refine spl_f (by simp; omega) ?_
  conv => whnf
  refine Ar.i64 (by omega) ?_
  conv => whnf
  refine spl_t (by simp; omega) ?_
  conv => whnf
  rotate_left 1
  refine spl_f (by simp; omega) ?_
  conv => whnf
  refine spl_f (by simp; omega) ?_
  conv => whnf
  refine spl_f (by simp; omega) ?_
  conv => whnf
  refine Ar.i64 (by omega) ?_
  conv => whnf
  refine spl_f (by simp; omega) ?_
  conv => whnf
  refine Ar.i64 (by omega) ?_
  conv => whnf
  refine Ar.i64 (by omega) ?_
  conv => whnf
  refine spl_t (by simp; omega) ?_
  conv => whnf
  rotate_left 1
  refine spl_f (by simp; omega) ?_
  conv => whnf
  refine spl_f (by simp; omega) ?_
  conv => whnf
  refine spl_f (by simp; omega) ?_
  conv => whnf
  refine Ar.i64 (by omega) ?_
  conv => whnf
  refine spl_f (by simp; omega) ?_
  conv => whnf
  refine Ar.i64 (by omega) ?_
  conv => whnf
  refine Ar.i64 (by omega) ?_
  conv => whnf
  refine spl_f (by simp; omega) ?_
  conv => whnf
  rotate_left 1
  all_goals
    refine CallK.ret f_room_Room_Promised.ok (promisedR_spec .here hsm hml) ?_
    rintro v G ⟨rfl, rfl⟩
    rw [hp]
    conv => whnf
    refine spl_f (by simp) ?_
    conv => whnf
  all_goals
    by_cases hf0 : 0 ≤ free
    refine spl_t (by simp; omega) ?_
    conv => whnf
    refine CallK.ret f_room_Room_May.ok (may_spec .here hsm hml hbd.1 ⟨by omega, by omega, by omega⟩) ?_
    rintro v G ⟨rfl, rfl⟩
    rw [hm0]
    conv => whnf
    refine CallK.ret f_quotalaw15_num.ok num_spec ?_
    rintro v G ⟨rfl, rfl⟩
    conv => whnf
    by_cases hp1 : 0 < p
    refine spl_t (by simp; omega) ?_
    conv => whnf
    refine Ar.i64 (by omega) ?_
    conv => whnf
    refine CallK.ret f_room_Room_May.ok (may_spec .here hsm hml hbd.1 ⟨by omega, by omega, by omega⟩) ?_
    rintro v G ⟨rfl, rfl⟩
    rw [hm6 hp1]
    conv => whnf
    refine CallK.ret f_quotalaw15_num.ok num_spec ?_
    rintro v G ⟨rfl, rfl⟩
    conv => whnf
    rotate_left 1
    refine spl_f (by simp; omega) ?_
    conv => whnf
    rotate_left 1
    refine spl_f (by simp; omega) ?_
    conv => whnf
    rotate_left 1
  all_goals
    refine LoopK.intro tab_ok (L := f_quotalaw15_RoomMay.live) (ι := Nat) (fun i => i ≤ l.length)
      (fun i => [(9, ptr r), (10, ptr b), (15, .int .i64 i)]) (fun _ => roomc r M • pts b (.cells ⟨[.slice sa l.length sc]⟩ t_quotalaw15_Book) • vec t_quotalaw15_Tx 4 btx sa sc l • bigL bcs l • old W • emp)
      (fun i => l.length - i) 0 (by simp) (fun t v h => h) (Imp.refl _) ?_
    rintro i hi
    conv => whnf
    refine Ld.i ?_
    conv => whnf
    refine spl_intro (fun h6 => ?_) (fun h6 => ?_)
    have h6' : i < l.length := by simpa using h6
    obtain ⟨x, hx⟩ : ∃ x, l[i]? = some x := ⟨_, List.getElem?_eq_getElem h6'⟩
    have hxx := book_at hB hx hwf
    conv => whnf
    refine DrawK.intro tab_ok mixed f_quotalaw15_RoomMay.last19 f_quotalaw15_RoomMay.plan19 (pts b (.cells ⟨[.slice sa l.length sc]⟩ t_quotalaw15_Book) • vec t_quotalaw15_Tx 4 btx sa sc l • emp) (by kernel_rfl) (Sub.of (Imp.pick (Imp.pick (Imp.emp _)))) ?_
    conv => whnf
    refine Ld.i ?_
    conv => whnf
    refine IxS.v (i := i) rfl rfl h6' (fun ab off ha => ?_)
    conv => whnf
    subst ha
    conv => whnf
    refine Ld.v0 hx rfl ?_
    conv => whnf
    refine Ld.i ?_
    conv => whnf
    refine IxS.v (i := i) rfl rfl h6' (fun ab' off' ha => ?_)
    conv => whnf
    cases ha
    conv => whnf
    refine LdN.v hx rfl ?_
    conv => whnf
    refine CallK.ret f_room_Room_Of.ok (of_spec .here hsm) ?_
    rintro v G ⟨rfl, rfl⟩
    rw [hxx.2]
    conv => whnf
    refine ⟨Sub.of (Imp.pick (Imp.pick (Imp.emp _))), ?_⟩
    conv => whnf
    refine CallK.ret f_quotalaw15_Tx_owes.ok (owes_spec (r := x) (by omega)) ?_
    rintro v G ⟨rfl, rfl⟩
    conv => whnf
    refine ⟨Sub.of (Imp.pick (Imp.pick (Imp.emp _))), ?_⟩
    conv => whnf
    refine spl_f (by simp) ?_
    conv => whnf
    refine Ar.i64 (by omega) ?_
    conv => whnf
    exact ⟨rfl, i + 1, by omega, fun t v h => h, Imp.refl _, by omega⟩
    conv => whnf
    exact Ret.eq rfl (Imp.pick (Imp.emp _))

set_option maxRecDepth 100000 in
theorem lifted (os : Os) (started : os.Started) (H : Type) (enc : TypeId × Value → H) :
    ReturnsInHanded {} Try.checked os 7 .any (Rows.roomMaySpec.pre6 enc Try.prog Try.f7 Rows.roomMayRow.domain false) (Rows.roomMaySpec.post enc Try.prog Try.f7 false true false false) := by
  refine returnsInHanded_of_change (C := Try.checked) (by kernel_rfl) started (by kernel_rfl) Try.func7
    (ChangeSpec.witness6 (enc := enc) (C := Try.checked) false ⟨#[], #[.slice none 0 0, .int .i64 0, .int .i64 0, .int .i64 0], []⟩ 8 (by kernel_rfl) (by kernel_rfl) (by kernel_rfl) (by kernel_rfl)) ?_
  intro W base args ds gs before hval0 hW _ _
  have hval : ∀ (j : Nat) t v, Try.f7.params[j]? = some t → args[j]? = some v → Value.okWide Try.prog W .any base t v := hval0
  have hW' := hW
  obtain ⟨p, q, hA0, hV, rfl, _, _⟩ := hW'
  have hA : DataW.TrodAll enc Try.prog W 0 (fun _ => true) true Try.f7.params.toList args.toList ds p := hA0
  rw [Try.params7] at hA hval
  obtain ⟨v0, v1, v2, v3, d0, d1, d2, d3, p0, p1, p2, p3, rfl, rfl, rfl, h0, h1, h2, h3⟩ := trodAll_four hA
  obtain ⟨rfl, rfl⟩ := trodVars_none hV
  obtain ⟨a, len, cap, xs, rfl, ho, _⟩ := arg_slice Try.underlying23 (hval 0 23 v0 rfl rfl) h0 op_dec (fun _ => by show 7 = _; kernel_rfl) (of_decide_eq_true (by kernel_rfl))
  obtain ⟨n1, rfl, rfl, rfl, w1⟩ := open_int Try.underlying3 (hval 1 3 v1 rfl rfl) h1
  obtain ⟨n2, rfl, rfl, rfl, w2⟩ := open_int Try.underlying3 (hval 2 3 v2 rfl rfl) h2
  obtain ⟨n3, rfl, rfl, rfl, w3⟩ := open_int Try.underlying3 (hval 3 3 v3 rfl rfl) h3
  exact (Does.law (walk ho (wf_i64 w1) (wf_i64 w2) (wf_i64 w3))).mono fun e W' ⟨he, hb⟩ => ⟨_, he, law_post hW rfl laid (by kernel_rfl) rfl Try.underlying4 rfl hb⟩

theorem proved : Rows.RoomMaySaid :=
  OpenClaim.holds_of_wide 7 Try.f7 rfl rfl rfl rfl rfl rfl rfl ⟨rfl, rfl, rfl, rfl, rfl⟩ rfl rfl rfl rfl rfl (by kernel_rfl) Try.func7 (by kernel_rfl)
    (of_decide_eq_true (by kernel_rfl)) (by unfold Func.isWrapper; first | (rw [if_pos (by decide +kernel)]; kernel_rfl) | (rw [if_neg (by decide +kernel)]; exact ⟨rfl, rfl⟩))
    (fun os started H enc _ => lifted os started H enc)
end Go.Proofs.Ytgepohccnknngaa.roomMay
