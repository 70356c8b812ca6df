/- One more record of a transaction: what the statement's own 'ends' does. No condition. -/
import Derived.Test.YtgepohccnknngaaRoomRows
namespace Go.Proofs.Ytgepohccnknngaa
open Go Go.SL
set_option pp.maxSteps 400

def broughtI (x n : Int) : Int := if x.tmod n < 0 then x.tmod n + n else x.tmod n
theorem broughtI_bd (x n : Int) (hn : 0 < n) : 0 ≤ broughtI x n ∧ broughtI x n < n := by
  unfold broughtI
  have h1 := Int.tmod_lt_of_pos x hn
  have h2 : -n < x.tmod n := by
    have h3 := Int.tmod_lt_of_pos (-x) hn
    rw [Int.neg_tmod] at h3
    omega
  split <;> omega
theorem brought_spec {W : World} {H : HProp} {x n : Int} (hn : 0 < n) (hb : n ≤ 4611686018427387904) :
    Does prog W f_quotalaw15_brought ⟨[.int .i64 x, .int .i64 n]⟩ H (Ret fun v G => v = .int .i64 (broughtI x n) ∧ G = H) := by
  have hbd := broughtI_bd x n hn
  unfold broughtI at hbd ⊢
  refine f_quotalaw15_brought.does _ _ ?_
  conv => whnf
  refine ⟨by omega, ?_⟩
  conv => whnf
  refine spl_intro (fun h1 => ?_) (fun h1 => ?_)
  · have h1' : x.tmod n < 0 := by simpa using h1
    rw [if_pos h1'] at hbd ⊢
    conv => whnf
    refine Ar.i64 (by omega) ?_
    conv => whnf
    exact Ret.eq rfl (Imp.refl _)
  · have h1' : ¬ x.tmod n < 0 := by simpa using h1
    rw [if_neg h1'] at hbd ⊢
    conv => whnf
    exact Ret.eq rfl (Imp.refl _)

def endO (p : Int × Life) (how : Int) : OpV :=
  if p.2.st = 0 then (if broughtI how 2 = 0 then ⟨3, false, p.1, 0, 5, 0, 0⟩ else ⟨3, false, p.1, 0, 6, 0, 0⟩)
  else if p.2.st = 2 ∧ p.2.held ≠ [] then ⟨3, false, p.1, p.2.held.getD (broughtI how p.2.held.length).toNat 0, 4, 0, 0⟩
  else ⟨3, false, p.1, 0, 7, 0, 0⟩
theorem promisedR_set : ∀ (M : List (Int × Life)) (i : Nat) (p : Int × Life) (q : Int × Life), M[i]? = some p → promisedR (M.set i q) = promisedR M - p.2.promised + q.2.promised
  | [], _, _, _, h => by simp at h
  | a :: M, 0, p, q, h => by
    simp at h; subst h
    simp [promisedR]; omega
  | a :: M, i + 1, p, q, h => by
    have := promisedR_set M i p q (by simpa using h)
    simp [promisedR] at this ⊢; omega
theorem promisedR_erase : ∀ (M : List (Int × Life)) (i : Nat) (p : Int × Life), M[i]? = some p → promisedR (M.eraseIdx i) = promisedR M - p.2.promised
  | [], _, _, h => by simp at h
  | a :: M, 0, p, h => by
    simp at h; subst h
    simp [promisedR]; omega
  | a :: M, i + 1, p, h => by
    have := promisedR_erase M i p (by simpa using h)
    simp [promisedR] at this ⊢; omega
/-- What one more record does. -/
theorem endO_ok {M : List (Int × Life)} (h : WfR M) {i : Nat} {p : Int × Life} (hp : M[i]? = some p) (how : Int) :
    (askedR M (endO p how)).1 = 0 ∧ promisedR (askedR M (endO p how)).2 ≤ promisedR M - 1 ∧ (broughtI how 2 ≠ 0 → promisedR (askedR M (endO p how)).2 = promisedR M - 1) ∧
      ((∃ L', (askedR M (endO p how)).2 = M.set i (p.1, L')) ∨ ((askedR M (endO p how)).2.lookup p.1 = none)) := by
  obtain ⟨k, L⟩ := p
  have hm := List.mem_of_getElem? hp
  have hl := lookup_of_mem k L M h.nd hm
  have hw := h.each _ hm
  obtain ⟨j, p1, p2, p3⟩ := posN_of_lookup k M L hl
  have hij : i = j := by
    have h1 : (M.map (·.1))[i]? = some k := by simp [hp]
    have h2 : (M.map (·.1))[j]? = some k := by simp [p2]
    have hi : i < (M.map (·.1)).length := by
      rcases Nat.lt_or_ge i (M.map (·.1)).length with h | h
      · exact h
      · simp [List.getElem?_eq_none h] at h1
    exact (List.getElem?_inj hi h.nd).1 (h1.trans h2.symm)
  subst hij
  simp only [endO]
  by_cases s0 : L.st = 0
  · by_cases hb : broughtI how 2 = 0
    · have e : askedR M (if L.st = 0 then (if broughtI how 2 = 0 then ⟨3, false, k, 0, 5, 0, 0⟩ else ⟨3, false, k, 0, 6, 0, 0⟩) else if L.st = 2 ∧ L.held ≠ [] then ⟨3, false, k, L.held.getD (broughtI how L.held.length).toNat 0, 4, 0, 0⟩ else ⟨3, false, k, 0, 7, 0, 0⟩) = (0, M.set i (k, ⟨1, L.held⟩)) := by
        rw [if_pos s0, if_pos hb, ← p3]; simp [askedR, wroteR, hl, s0]
      rw [e]
      refine ⟨rfl, ?_, fun h => absurd hb h, .inl ⟨_, rfl⟩⟩
      rw [promisedR_set M i _ _ hp]
      simp [Life.promised, s0]; omega
    · have e : askedR M (if L.st = 0 then (if broughtI how 2 = 0 then ⟨3, false, k, 0, 5, 0, 0⟩ else ⟨3, false, k, 0, 6, 0, 0⟩) else if L.st = 2 ∧ L.held ≠ [] then ⟨3, false, k, L.held.getD (broughtI how L.held.length).toNat 0, 4, 0, 0⟩ else ⟨3, false, k, 0, 7, 0, 0⟩) = (0, M.set i (k, ⟨2, L.held⟩)) := by
        rw [if_pos s0, if_neg hb, ← p3]; simp [askedR, wroteR, hl, s0]
      rw [e]
      have : promisedR (M.set i (k, ⟨2, L.held⟩)) = promisedR M - 1 := by
        rw [promisedR_set M i _ _ hp]
        simp [Life.promised, s0]; omega
      exact ⟨rfl, by simp only; omega, fun _ => this, .inl ⟨_, rfl⟩⟩
  by_cases s2 : L.st = 2 ∧ L.held ≠ []
  · have hlen : 0 < L.held.length := List.length_pos_iff.2 s2.2
    have hbd := broughtI_bd how L.held.length (by omega)
    obtain ⟨c, hc⟩ : ∃ c, L.held.getD (broughtI how L.held.length).toNat 0 = c := ⟨_, rfl⟩
    have hcm : c ∈ L.held := by
      have hlt : (broughtI how L.held.length).toNat < L.held.length := by omega
      rw [List.getD_eq_getElem?_getD, List.getElem?_eq_getElem hlt] at hc
      rw [← hc]; exact List.getElem_mem hlt
    have e : askedR M (if L.st = 0 then (if broughtI how 2 = 0 then ⟨3, false, k, 0, 5, 0, 0⟩ else ⟨3, false, k, 0, 6, 0, 0⟩) else if L.st = 2 ∧ L.held ≠ [] then ⟨3, false, k, L.held.getD (broughtI how L.held.length).toNat 0, 4, 0, 0⟩ else ⟨3, false, k, 0, 7, 0, 0⟩) = (0, M.set i (k, ⟨L.st, L.held.filter fun x => !decide (x = c)⟩)) := by
      rw [if_neg s0, if_pos s2, hc, ← p3]; simp [askedR, wroteR, hl, s2.1, hcm]
    rw [e]
    have : promisedR (M.set i (k, ⟨L.st, L.held.filter fun x => !decide (x = c)⟩)) = promisedR M - 1 := by
      rw [promisedR_set M i _ _ hp]
      cases hq : posN c L.held with
      | none => exact absurd hcm (posN_none_iff.1 hq)
      | some j =>
        have hj : j < L.held.length := by
          have := posN_some hq
          rcases Nat.lt_or_ge j L.held.length with h | h
          · exact h
          · simp [List.getElem?_eq_none h] at this
        rw [filter_pos c L.held j hw.nd hq]
        simp [Life.promised, s2.1, List.length_eraseIdx, hj]; omega
    exact ⟨rfl, by simp only; omega, fun _ => this, .inl ⟨_, rfl⟩⟩
  · have hend : ¬ (L.st = 0 ∨ (L.st = 2 ∧ L.held ≠ [])) := fun h => h.elim s0 s2
    have e : askedR M (if L.st = 0 then (if broughtI how 2 = 0 then ⟨3, false, k, 0, 5, 0, 0⟩ else ⟨3, false, k, 0, 6, 0, 0⟩) else if L.st = 2 ∧ L.held ≠ [] then ⟨3, false, k, L.held.getD (broughtI how L.held.length).toNat 0, 4, 0, 0⟩ else ⟨3, false, k, 0, 7, 0, 0⟩) = (0, delKV k M) := by
      rw [if_neg s0, if_neg s2]
      have : ∀ c, wroteR M k 7 c = (0, delKV k M) := fun c => by simp only [wroteR, hl]; rw [if_neg (by decide), if_neg (by decide), if_neg (by decide), if_pos trivial, if_neg hend]
      simp [askedR, this]
    rw [e]
    have : promisedR (delKV k M) = promisedR M - 1 := by
      rw [delKV_pos k M i h.nd p1, promisedR_erase M i _ hp]
      have hst : L.st = 0 ∨ L.st = 1 ∨ L.st = 2 := hw.st
      have hpr : L.promised = 1 := by
        unfold Life.promised
        rw [if_neg s0]
        rcases hst with h | h | h
        · exact absurd h s0
        · rw [if_neg (show ¬ L.st = 2 by omega)]
        · have hh : L.held = [] := Classical.byContradiction fun hne => s2 ⟨h, hne⟩
          rw [if_pos h, hh]; rfl
      simp only [hpr]
    refine ⟨rfl, by simp only; omega, fun _ => this, .inr ?_⟩
    simp [delKV_lookup]

theorem row_imp {H R : HProp} {l : List BRow} {i : Nat} {x : BRow} (hx : l[i]? = some x) [t : TkC H (bigL bcs l) R] : Imp H (vec t_int 1 ints x.2.1 x.2.2 x.1.cs • emp) := by
  rw [t.h.eq, bigL_take bcs l i x hx, star_assoc]; exact Imp.right (Imp.emp _)
theorem ends_spec {W : World} {H R0 R1 R2 R : HProp} {b r : Nat} {sa : Option Addr} {sc : Nat} {l : List BRow} {M : List (Int × Life)} {i : Nat} {p : Int × Life} {how : Int} (hB : l.map (fun r : BRow => r.1) = bookOf M) (hwf : WfR M) (hp : M[i]? = some p)
    [rc : RoomC H r M R0] [TkC R0 (pts b (.cells ⟨[.slice sa l.length sc]⟩ t_quotalaw15_Book)) R1] [TkC R1 (vec t_quotalaw15_Tx 4 btx sa sc l) R2] [TkC R2 (bigL bcs l) R] :
    Does prog W f_quotalaw15_Book_ends ⟨[ptr b, ptr r, .int .i64 i, .int .i64 how]⟩ H (Ret fun v G => ∃ sa' sc' l', v = .bool true ∧ l'.map (fun r : BRow => r.1) = bookOf (askedR M (endO p how)).2 ∧
      G = (roomc r (askedR M (endO p how)).2 • pts b (.cells ⟨[.slice sa' l'.length sc']⟩ t_quotalaw15_Book) • vec t_quotalaw15_Tx 4 btx sa' sc' l' • bigL bcs l' • R)) := by
  refine Does.imp (H' := roomc r M • pts b (.cells ⟨[.slice sa l.length sc]⟩ t_quotalaw15_Book) • vec t_quotalaw15_Tx 4 btx sa sc l • bigL bcs l • R) (by rw [rc.h.eq]; exact Imp.right (Imp.pick (Imp.pick (Imp.pick (Imp.refl _))))) ?_
  obtain ⟨hok, -, -, -⟩ := endO_ok hwf hp how
  have hbs := bookOf_small hwf
  have hnb := asked_book hwf (endO p how) hok
  obtain ⟨x, hx, hx1⟩ : ∃ x, l[i]? = some x ∧ x.1 = btxOf p := by
    have h1 := bookOf_at M i p hp
    rw [← hB, List.getElem?_map] at h1
    exact Option.map_eq_some_iff.1 h1
  have hil : i < l.length := by
    rcases Nat.lt_or_ge i l.length with h | h
    · exact h
    · simp [List.getElem?_eq_none h] at hx
  obtain ⟨x1, ca, cc⟩ := x
  simp only at hx1
  subst hx1
  have hw := hwf.each p (List.mem_of_getElem? hp)
  obtain ⟨k, L⟩ := p
  obtain ⟨M', hM'⟩ : ∃ M', (askedR M (endO (k, L) how)).2 = M' := ⟨_, rfl⟩
  rw [hM'] at hnb ⊢
  refine f_quotalaw15_Book_ends.does _ _ _ _ ?_
  conv => whnf
  refine Ld.i ?_
  conv => whnf
  refine IxS.v (i := i) rfl rfl hil (fun ab off ha => ?_)
  conv => whnf
  subst ha
  conv => whnf
  refine LdN.v (l := [.int .i64 k, .slice ca L.held.length cc, .bool (decide (L.st = 1)), .bool (decide (L.st = 2))]) hx rfl ?_
  conv => whnf
  intro tb htb
  conv => whnf
  refine St.i ⟨rfl, rfl⟩ (by simp) ?_
  conv => whnf
  refine Ld.i ?_
  conv => whnf
  intro ob hob
  conv => whnf
  refine St.i ⟨rfl, rfl⟩ (by simp) ?_
  conv => whnf
  refine Ld.i ?_
  conv => whnf
  have close : ∀ o : OpV, o = endO (k, L) how → askedR M o = (0, M') := fun o ho => by rw [ho, ← hM']; exact Prod.ext hok rfl
  by_cases s0 : L.st = 0
  refine spl_t (by simp [s0]) ?_
  conv => whnf
  refine Ld.i ?_
  conv => whnf
  refine spl_t (by simp [s0]) ?_
  conv => whnf
  refine CallK.ret f_quotalaw15_brought.ok (brought_spec (by decide) (by decide)) ?_
  rintro v G ⟨rfl, rfl⟩
  conv => whnf
  by_cases hbr : broughtI how 2 = 0
  refine spl_t (by simp [hbr]) ?_
  conv => whnf
  refine St.i ⟨rfl, rfl⟩ (by simp) ?_
  conv => whnf
  refine LdN.i ?_
  conv => whnf
  have ho : (⟨3, false, k, 0, 5, 0, 0⟩ : OpV) = endO (k, L) how := by simp [endO, s0, hbr]
  refine CallK.ret f_quotalaw15_asked.ok (asked_spec (o := ⟨3, false, k, 0, 5, 0, 0⟩) rk) ?_
  rintro v G ⟨rfl, rfl⟩
  rw [close _ ho]
  conv => whnf
  refine LdN.i ?_
  conv => whnf
  refine CallK.ret f_quotalaw15_Book_notes.ok (notes_open (sa := some ⟨ab, off, none⟩) (sc := sc) (o := ⟨3, false, k, 0, 5, 0, 0⟩) hB hbs.1 hbs.2) ?_
  rintro v G ⟨sa', sc', l', hB', rfl⟩
  rw [ho, hnb] at hB'
  conv => whnf
  exact ⟨_, _, rfl, Imp.pick (Imp.pick (Imp.pick (Imp.pick (Imp.drop.trans (Imp.drop.trans (Imp.refl _)))))), sa', sc', l', rfl, hB', rfl⟩
  refine spl_f (by simp [hbr]) ?_
  conv => whnf
  refine Ld.i ?_
  conv => whnf
  refine spl_t (by simp [s0]) ?_
  conv => whnf
  refine Ld.i ?_
  conv => whnf
  refine spl_t (by simp [s0]) ?_
  conv => whnf
  refine St.i ⟨rfl, rfl⟩ (by simp) ?_
  conv => whnf
  refine LdN.i ?_
  conv => whnf
  have ho : (⟨3, false, k, 0, 6, 0, 0⟩ : OpV) = endO (k, L) how := by simp [endO, s0, hbr]
  refine CallK.ret f_quotalaw15_asked.ok (asked_spec (o := ⟨3, false, k, 0, 6, 0, 0⟩) rk) ?_
  rintro v G ⟨rfl, rfl⟩
  rw [close _ ho]
  conv => whnf
  refine LdN.i ?_
  conv => whnf
  refine CallK.ret f_quotalaw15_Book_notes.ok (notes_open (sa := some ⟨ab, off, none⟩) (sc := sc) (o := ⟨3, false, k, 0, 6, 0, 0⟩) hB hbs.1 hbs.2) ?_
  rintro v G ⟨sa', sc', l', hB', rfl⟩
  rw [ho, hnb] at hB'
  conv => whnf
  exact ⟨_, _, rfl, Imp.pick (Imp.pick (Imp.pick (Imp.pick (Imp.drop.trans (Imp.drop.trans (Imp.refl _)))))), sa', sc', l', rfl, hB', rfl⟩
  by_cases s1 : L.st = 1
  refine spl_f (by simp [s1]) ?_
  conv => whnf
  refine Ld.i ?_
  conv => whnf
  refine spl_f (by simp [s1]) ?_
  conv => whnf
  refine Ld.i ?_
  conv => whnf
  refine spl_f (by simp [s1]) ?_
  conv => whnf
  refine LdN.i ?_
  conv => whnf
  have ho : (⟨3, false, k, 0, 7, 0, 0⟩ : OpV) = endO (k, L) how := by simp [endO, s1]
  refine CallK.ret f_quotalaw15_asked.ok (asked_spec (o := ⟨3, false, k, 0, 7, 0, 0⟩) rk) ?_
  rintro v G ⟨rfl, rfl⟩
  rw [close _ ho]
  conv => whnf
  refine LdN.i ?_
  conv => whnf
  refine CallK.ret f_quotalaw15_Book_notes.ok (notes_open (sa := some ⟨ab, off, none⟩) (sc := sc) (o := ⟨3, false, k, 0, 7, 0, 0⟩) hB hbs.1 hbs.2) ?_
  rintro v G ⟨sa', sc', l', hB', rfl⟩
  rw [ho, hnb] at hB'
  conv => whnf
  exact ⟨_, _, rfl, Imp.pick (Imp.pick (Imp.pick (Imp.pick (Imp.drop.trans (Imp.drop.trans (Imp.refl _)))))), sa', sc', l', rfl, hB', rfl⟩
  have s2 : L.st = 2 := by
    have : L.st = 0 ∨ L.st = 1 ∨ L.st = 2 := hw.st
    omega
  refine spl_t (by simp [s2]) ?_
  conv => whnf
  refine Ld.i ?_
  conv => whnf
  refine spl_f (by simp [s2]) ?_
  conv => whnf
  refine Ld.i ?_
  conv => whnf
  refine spl_t (by simp [s2]) ?_
  conv => whnf
  refine Ld.i ?_
  conv => whnf
  refine spl_f (by simp [s2]) ?_
  conv => whnf
  refine Ld.i ?_
  conv => whnf
  refine spl_t (by simp [s2]) ?_
  conv => whnf
  refine Ld.i ?_
  conv => whnf
  by_cases hne : L.held = []
  refine spl_f (by simp [hne]) ?_
  conv => whnf
  refine LdN.i ?_
  conv => whnf
  have ho : (⟨3, false, k, 0, 7, 0, 0⟩ : OpV) = endO (k, L) how := by simp [endO, s2, hne]
  refine CallK.ret f_quotalaw15_asked.ok (asked_spec (o := ⟨3, false, k, 0, 7, 0, 0⟩) rk) ?_
  rintro v G ⟨rfl, rfl⟩
  rw [close _ ho]
  conv => whnf
  refine LdN.i ?_
  conv => whnf
  refine CallK.ret f_quotalaw15_Book_notes.ok (notes_open (sa := some ⟨ab, off, none⟩) (sc := sc) (o := ⟨3, false, k, 0, 7, 0, 0⟩) hB hbs.1 hbs.2) ?_
  rintro v G ⟨sa', sc', l', hB', rfl⟩
  rw [ho, hnb] at hB'
  conv => whnf
  exact ⟨_, _, rfl, Imp.pick (Imp.pick (Imp.pick (Imp.pick (Imp.drop.trans (Imp.drop.trans (Imp.refl _)))))), sa', sc', l', rfl, hB', rfl⟩
  have hpos : 0 < L.held.length := List.length_pos_iff.2 hne
  have hbd := broughtI_bd how L.held.length (by omega)
  have hml : L.held.length ≤ 64 := hw.len
  have hidx : (broughtI how L.held.length).toNat < L.held.length := by omega
  obtain ⟨c, hc⟩ : ∃ c, L.held[(broughtI how L.held.length).toNat]? = some c := ⟨_, List.getElem?_eq_getElem hidx⟩
  refine spl_t (by simp; omega) ?_
  conv => whnf
  refine St.i ⟨rfl, rfl⟩ (by simp) ?_
  conv => whnf
  refine DrawK.intro tab_ok mixed f_quotalaw15_Book_ends.last9 f_quotalaw15_Book_ends.plan9 (pts tb (.cells ⟨[.int .i64 k, .slice ca L.held.length cc, .bool (decide (L.st = 1)), .bool (decide (L.st = 2))]⟩ t_quotalaw15_Tx) • vec t_int 1 ints ca cc L.held • emp) (by kernel_rfl) (Sub.of (Imp.pick (row_imp hx))) ?_
  conv => whnf
  refine Ld.i ?_
  conv => whnf
  refine Ld.i ?_
  conv => whnf
  refine CallK.ret f_quotalaw15_brought.ok (brought_spec (by omega) (by omega)) ?_
  rintro v G ⟨rfl, rfl⟩
  conv => whnf
  refine ⟨Sub.of (Imp.pick (row_imp hx)), ?_⟩
  conv => whnf
  refine IxS.v (i := (broughtI how L.held.length).toNat) (by omega) rfl hidx (fun cb coff ha => ?_)
  conv => whnf
  subst ha
  conv => whnf
  refine Ld.v0 hc rfl ?_
  conv => whnf
  refine St.i ⟨rfl, rfl⟩ (by simp) ?_
  conv => whnf
  refine LdN.i ?_
  conv => whnf
  have ho : (⟨3, false, k, c, 4, 0, 0⟩ : OpV) = endO (k, L) how := by simp [endO, s2, hne, List.getD_eq_getElem?_getD, hc]
  refine CallK.ret f_quotalaw15_asked.ok (asked_spec (o := ⟨3, false, k, c, 4, 0, 0⟩) rk) ?_
  rintro v G ⟨rfl, rfl⟩
  rw [close _ ho]
  conv => whnf
  refine LdN.i ?_
  conv => whnf
  refine CallK.ret f_quotalaw15_Book_notes.ok (notes_open (sa := some ⟨ab, off, none⟩) (sc := sc) (o := ⟨3, false, k, c, 4, 0, 0⟩) hB hbs.1 hbs.2) ?_
  rintro v G ⟨sa', sc', l', hB', rfl⟩
  rw [ho, hnb] at hB'
  conv => whnf
  exact ⟨_, _, rfl, Imp.pick (Imp.pick (Imp.pick (Imp.pick (Imp.drop.trans (Imp.drop.trans (Imp.refl _)))))), sa', sc', l', rfl, hB', rfl⟩
theorem Fr.sub_hd {k : Nat} {u : Value} {fr fr' : Fr} (h0 : Fr.get fr' k = none) (h : ∀ t v, Fr.get fr' t = some v → Fr.get fr t = some v) : ∀ t v, Fr.get fr' t = some v → Fr.get ((k, u) :: fr) t = some v := by
  intro t v ht
  rw [Fr.get_cons]
  split
  · rename_i e; subst e; rw [h0] at ht; cases ht
  · exact h t v ht
theorem Fr.sub_tl (e : Fr) : ∀ (fr : Fr) (t : Nat) (v : Value), Fr.get fr t = some v → Fr.get (fr ++ e) t = some v
  | [], _, _, h => by cases h
  | (k, u) :: fr, t, v, h => by
    rw [List.cons_append, Fr.get_cons]
    rw [Fr.get_cons] at h
    split
    · rename_i hk; rw [if_pos hk] at h; exact h
    · rename_i hk; rw [if_neg hk] at h; exact Fr.sub_tl e fr t v h
end Go.Proofs.Ytgepohccnknngaa
