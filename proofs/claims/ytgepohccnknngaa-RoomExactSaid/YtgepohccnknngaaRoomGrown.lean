/- A room and the statement's own list behind a script. No condition. -/
import Derived.Test.YtgepohccnknngaaRoomPlain
import Derived.Test.YtgepohccnknngaaArgs
namespace Go.Proofs.Ytgepohccnknngaa
open Go Go.SL
set_option pp.maxSteps 400

theorem asked_spec {W : World} {H R : HProp} {r : Nat} {M : List (Int × Life)} {o : OpV} (ht : Take H (roomc r M) R) :
    Does prog W f_quotalaw15_asked ⟨[ptr r, .agg ⟨opv o⟩]⟩ H (Ret fun v G => v = .int .i64 (askedR M o).1 ∧ G = (roomc r (askedR M o).2 • R)) := by
  unfold opv
  refine f_quotalaw15_asked.does _ _ ?_
  conv => whnf
  intro ob hob
  conv => whnf
  refine Ld.i ?_
  conv => whnf
  by_cases k1 : o.kind = 1
  · have e : askedR M o = beginR M o.tx := by simp [askedR, k1]
    rw [e]
    refine spl_t (by simp [k1]) ?_
    conv => whnf
    refine Ld.i ?_
    conv => whnf
    refine CallK.ret f_room_Room_Begin.ok (begin_spec ht.there) ?_
    rintro v G ⟨rfl, rfl⟩
    conv => whnf
    refine CallK.ret f_quotalaw15_num.ok num_spec ?_
    rintro v G ⟨rfl, rfl⟩
    conv => whnf
    exact Ret.eq rfl (Imp.pick Imp.drop)
  refine spl_f (by simp [k1]) ?_
  conv => whnf
  by_cases k2 : o.kind = 2
  · have e : askedR M o = holdR M o.tx o.counter := by simp [askedR, k2]
    rw [e]
    refine spl_t (by simp [k2]) ?_
    conv => whnf
    refine Ld.i ?_
    conv => whnf
    refine Ld.i ?_
    conv => whnf
    refine CallK.ret f_room_Room_Hold.ok (hold_spec ht.there) ?_
    rintro v G ⟨rfl, rfl⟩
    conv => whnf
    refine CallK.ret f_quotalaw15_num.ok num_spec ?_
    rintro v G ⟨rfl, rfl⟩
    conv => whnf
    exact Ret.eq rfl (Imp.pick Imp.drop)
  refine spl_f (by simp [k2]) ?_
  conv => whnf
  by_cases k3 : o.kind = 3
  · have e : askedR M o = wroteR M o.tx o.what o.counter := by simp [askedR, k3]
    rw [e]
    refine spl_t (by simp [k3]) ?_
    conv => whnf
    refine Ld.i ?_
    conv => whnf
    refine Ld.i ?_
    conv => whnf
    refine Ld.i ?_
    conv => whnf
    refine CallK.ret f_room_Room_Wrote.ok (wrote_spec ht.there) ?_
    rintro v G ⟨rfl, rfl⟩
    conv => whnf
    refine CallK.ret f_quotalaw15_num.ok num_spec ?_
    rintro v G ⟨rfl, rfl⟩
    conv => whnf
    exact Ret.eq rfl (Imp.pick Imp.drop)
  refine spl_f (by simp [k3]) ?_
  conv => whnf
  have e : askedR M o = (-1, M) := by simp [askedR, k1, k2, k3]
  rw [e]
  have he := ht.eq
  subst he
  exact Ret.eq rfl Imp.drop

theorem grownR_snoc (l : List OpV) (o : OpV) (M : List (Int × Life)) : grownR M (l ++ [o]) = (askedR (grownR M l) o).2 := by simp [grownR]
theorem grownR_take (xs : List OpV) (i : Nat) (x : OpV) (h : xs[i]? = some x) : grownR [] (xs.take (i + 1)) = (askedR (grownR [] (xs.take i)) x).2 := by
  rw [← grownR_snoc, List.take_add_one, h]; rfl
theorem bookOf_small {M : List (Int × Life)} (h : WfR M) : (bookOf M).length ≤ 4000 ∧ ∀ t ∈ bookOf M, t.cs.length ≤ 4000 := by
  refine ⟨by have := h.len; simp [bookOf]; omega, fun t ht => ?_⟩
  obtain ⟨p, hp, rfl⟩ := List.mem_map.1 ht
  have := (h.each p hp).len
  simp [btxOf]; omega
theorem book_new {H : HProp} {b : Nat} : Imp (pts b (.cells ⟨[.slice none 0 0]⟩ t_quotalaw15_Book) • H) (bookc b (bookOf []) • H) := by
  refine book_shut none 0 [] rfl (Imp.pick ?_)
  have := (vec_nil (t := t_quotalaw15_Tx) (sz := 4) (enc := btx)).imp.left (Q := H)
  rw [emp_star] at this
  refine this.trans (Imp.right ?_)
  show Imp H (emp • H)
  rw [emp_star]; exact Imp.refl _

theorem grown_spec {W : World} {H : HProp} {a : Option Addr} {len cap : Nat} {xs : List OpV} [oc : OldC W H] (ho : OldVec W 7 opv a len cap xs) :
    Does prog W f_quotalaw15_grown ⟨[.slice a len cap]⟩ H (Ret fun v G => ∃ r b, v = .tuple ⟨[ptr r, ptr b]⟩ ∧ G = (roomc r (grownR [] (xs.take 3000)) • bookc b (bookOf (grownR [] (xs.take 3000))) • H)) := by
  have hlen := ho.hlen
  refine f_quotalaw15_grown.does _ ?_
  conv => whnf
  refine CallK.ret f_room_New.ok new_spec ?_
  rintro v G ⟨r, rfl, rfl⟩
  conv => whnf
  intro b hb
  conv => whnf
  refine LoopK.intro tab_ok (L := f_quotalaw15_grown.live) (ι := Nat × Int) (fun i => i.2 = (i.1 : Int) ∧ i.1 ≤ xs.length ∧ i.1 ≤ 3000)
    (fun i => [(0, .slice a len cap), (4, ptr r), (5, ptr b), (6, .int .i64 i.2)]) (fun i => roomc r (grownR [] (xs.take i.1)) • bookc b (bookOf (grownR [] (xs.take i.1))) • H)
    (fun i => 3000 - i.1) (0, 0) ⟨by simp, by simp, by simp⟩ (fun t v h => h) ?_ ?_
  · show Imp _ (roomc r [] • bookc b (bookOf []) • H)
    refine Imp.pick ?_
    exact book_new
  rintro ⟨i, z⟩ ⟨hz, hi, hi2⟩
  simp only at hz hi hi2
  have hwf : WfR (grownR [] (xs.take i)) := grownR_wf _ _ WfR.nil
  have hbs := bookOf_small hwf
  conv => whnf
  refine spl_intro (fun h1 => ?_) (fun h1 => ?_)
  · conv => whnf
    refine spl_intro (fun h2 => ?_) (fun h2 => ?_)
    · have h1' : i < xs.length := by simp at h1; omega
      have h2' : i < 3000 := by simp at h2; omega
      obtain ⟨x, hx⟩ : ∃ x, xs[i]? = some x := ⟨_, List.getElem?_eq_getElem h1'⟩
      have hg := grownR_take xs i x hx
      conv => whnf
      refine IxS.o (i := i) ho hz h1' (fun ab off ha => ?_)
      conv => whnf
      subst ha
      conv => whnf
      refine LdN.o ho hx rfl rfl ?_
      conv => whnf
      refine CallK.ret f_quotalaw15_asked.ok (asked_spec (o := x) .here) ?_
      rintro v G ⟨rfl, rfl⟩
      conv => whnf
      refine spl_intro (fun h3 => ?_) (fun h3 => ?_)
      · have h3' : (askedR (grownR [] (xs.take i)) x).1 = 0 := by simpa using h3
        conv => whnf
        refine IxS.o (i := i) ho hz h1' (fun ab' off' ha => ?_)
        conv => whnf
        cases ha
        conv => whnf
        refine LdN.o ho hx rfl rfl ?_
        conv => whnf
        refine CallK.ret f_quotalaw15_Book_notes.ok (notes_spec (o := x) (.there .here) hbs.1 hbs.2) ?_
        rintro v G rfl
        rw [asked_book hwf x h3', ← hg]
        conv => whnf
        refine Ar.i64 (by omega) ?_
        conv => whnf
        exact ⟨rfl, (i + 1, z + 1), ⟨by simp only; omega, by simp only; omega, by simp only; omega⟩, fun t v h => h, Imp.pick (Imp.pick (Imp.refl _)), by simp only; omega⟩
      · have h3' : (askedR (grownR [] (xs.take i)) x).1 ≠ 0 := by simpa using h3
        conv => whnf
        refine Ar.i64 (by omega) ?_
        conv => whnf
        refine ⟨rfl, (i + 1, z + 1), ⟨by simp only; omega, by simp only; omega, by simp only; omega⟩, fun t v h => h, ?_, by simp only; omega⟩
        simp only
        rw [hg, asked_same x h3']
        exact Imp.refl _
    · have h2' : i = 3000 := by simp at h2; omega
      subst h2'
      conv => whnf
      exact ⟨_, _, rfl, Imp.refl _, r, b, rfl, rfl⟩
  · conv => whnf
    have h1' : i = xs.length := by simp at h1; omega
    have e : xs.take i = xs.take 3000 := by rw [List.take_of_length_le (by omega), List.take_of_length_le (by omega)]
    rw [e]
    exact ⟨_, _, rfl, Imp.refl _, r, b, rfl, rfl⟩
end Go.Proofs.Ytgepohccnknngaa
