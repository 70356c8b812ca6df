/- Plain: the room and the statement's own list, call by call. No condition. -/
import Derived.Test.YtgepohccnknngaaNotes
namespace Go.Proofs.Ytgepohccnknngaa
open Go Go.SL

def btxOf (p : Int × Life) : BTx := ⟨p.1, p.2.held, decide (p.2.st = 1), decide (p.2.st = 2)⟩
def bookOf (M : List (Int × Life)) : List BTx := M.map btxOf
structure WfL (L : Life) : Prop where
  nd : L.held.Nodup
  len : L.held.length ≤ 64
  st : L.st = 0 ∨ L.st = 1 ∨ L.st = 2
structure WfR (M : List (Int × Life)) : Prop where
  nd : (M.map (·.1)).Nodup
  len : M.length ≤ 32
  each : ∀ p ∈ M, WfL p.2
def askedR (M : List (Int × Life)) (o : OpV) : Int × List (Int × Life) :=
  if o.kind = 1 then beginR M o.tx else if o.kind = 2 then holdR M o.tx o.counter else if o.kind = 3 then wroteR M o.tx o.what o.counter else (-1, M)

theorem posN_of_lookup {α : Type} (tx : Int) : ∀ (M : List (Int × α)) (L : α), M.lookup tx = some L →
    ∃ i, posN tx (M.map (·.1)) = some i ∧ M[i]? = some (tx, L) ∧ ∀ L', updKV tx L' M = M.set i (tx, L')
  | [], _, h => by cases h
  | (k, v) :: M, L, h => by
    by_cases hk : tx = k
    · subst hk
      simp at h; subst h
      exact ⟨0, by simp [posN], rfl, fun L' => by simp [updKV]⟩
    · have hb : (tx == k) = false := by simpa using hk
      simp only [List.lookup, hb] at h
      obtain ⟨i, h1, h2, h3⟩ := posN_of_lookup tx M L h
      exact ⟨i + 1, by simp [posN, Ne.symm hk, h1], by simpa using h2, fun L' => by simp [updKV, hk, h3]⟩
theorem no_key {α : Type} {tx : Int} {M : List (Int × α)} (h : M.lookup tx = none) : tx ∉ M.map (·.1) := by
  intro hm
  obtain ⟨p, hp, he⟩ := List.mem_map.1 hm
  simp at h
  exact h p.1 p.2 hp he.symm
theorem posN_of_none {α : Type} (tx : Int) (M : List (Int × α)) (h : M.lookup tx = none) : posN tx (M.map (·.1)) = none := by
  rw [posN_none_iff]
  exact no_key h
theorem delKV_pos {α : Type} (tx : Int) : ∀ (M : List (Int × α)) (i : Nat), (M.map (·.1)).Nodup → posN tx (M.map (·.1)) = some i → delKV tx M = M.eraseIdx i
  | [], _, _, h => by cases h
  | (k, v) :: M, i, hnd, h => by
    simp only [List.map_cons, List.nodup_cons] at hnd
    simp only [List.map_cons, posN] at h
    split at h
    · rename_i e
      cases h
      subst e
      have : ∀ p ∈ M, ¬ p.1 = k := fun p hp he => hnd.1 (by rw [← he]; exact List.mem_map_of_mem hp)
      simp only [delKV, List.eraseIdx_zero, List.tail_cons]
      rw [List.filter_cons_of_neg (by simp)]
      exact List.filter_eq_self.2 fun p hp => by simpa using this p hp
    · rename_i e
      cases hp : posN tx (M.map (·.1)) with
      | none => rw [hp] at h; cases h
      | some j =>
        rw [hp] at h; cases h
        have := delKV_pos tx M j hnd.2 hp
        simp only [delKV] at this ⊢
        rw [List.filter_cons_of_pos (by simpa using e), this]
        rfl
theorem filter_pos (c : Int) : ∀ (l : List Int) (i : Nat), l.Nodup → posN c l = some i → (l.filter fun x => !decide (x = c)) = l.eraseIdx i
  | [], _, _, h => by cases h
  | k :: l, i, hnd, h => by
    simp only [List.nodup_cons] at hnd
    simp only [posN] at h
    split at h
    · rename_i e
      cases h
      subst e
      rw [List.filter_cons_of_neg (by simp)]
      exact List.filter_eq_self.2 fun p hp => by simpa using fun (e : p = k) => hnd.1 (by rw [← e]; exact hp)
    · rename_i e
      cases hp : posN c l with
      | none => rw [hp] at h; cases h
      | some j =>
        rw [hp] at h; cases h
        rw [List.filter_cons_of_pos (by simpa using e), filter_pos c l j hnd.2 hp]
        rfl

theorem bookOf_nums (M : List (Int × Life)) : (bookOf M).map (·.num) = M.map (·.1) := by simp [bookOf, btxOf, Function.comp_def]
theorem bookOf_at (M : List (Int × Life)) (i : Nat) (p : Int × Life) (h : M[i]? = some p) : (bookOf M)[i]? = some (btxOf p) := by simp [bookOf, h]
theorem bookOf_set (M : List (Int × Life)) (i : Nat) (p : Int × Life) : bookOf (M.set i p) = (bookOf M).set i (btxOf p) := by simp [bookOf, List.map_set]

theorem WfR.life {M : List (Int × Life)} (h : WfR M) {tx : Int} {L : Life} (hL : M.lookup tx = some L) : WfL L := by
  obtain ⟨i, _, h2, _⟩ := posN_of_lookup tx M L hL
  exact h.each _ (List.mem_of_getElem? h2)
theorem WfR.upd {M : List (Int × Life)} (h : WfR M) {tx : Int} {L : Life} (hL : M.lookup tx = some L) (L' : Life) (h' : WfL L') : WfR (updKV tx L' M) := by
  obtain ⟨i, _, h2, h3⟩ := posN_of_lookup tx M L hL
  refine ⟨?_, by rw [h3]; simpa using h.len, fun p hp => ?_⟩
  · rw [updKV_keys, if_pos (List.mem_map.2 ⟨_, List.mem_of_getElem? h2, rfl⟩)]; exact h.nd
  · rw [h3] at hp
    rcases List.mem_or_eq_of_mem_set hp with hp | rfl
    · exact h.each p hp
    · exact h'
theorem WfR.del {M : List (Int × Life)} (h : WfR M) (tx : Int) : WfR (delKV tx M) :=
  ⟨h.nd.sublist (List.Sublist.map _ List.filter_sublist), Nat.le_trans (List.length_filter_le _ _) h.len, fun p hp => h.each p (List.mem_filter.1 hp).1⟩
theorem WfR.nil : WfR [] := ⟨by simp, by simp, fun p h => by simp at h⟩
theorem begin_wf {M : List (Int × Life)} (h : WfR M) (tx : Int) : WfR (beginR M tx).2 := by
  unfold beginR
  split
  · exact h
  split
  · exact h
  split
  · exact h
  · rename_i h1 h2 h3
    have hno : tx ∉ M.map (·.1) := by
      have : M.lookup tx = none := by cases hl : M.lookup tx with | none => rfl | some => simp [hl] at h2
      exact no_key this
    rw [updKV_none _ _ _ hno]
    refine ⟨?_, by simp; omega, fun p hp => ?_⟩
    · rw [List.map_append, List.nodup_append]
      refine ⟨h.nd, by simp, ?_⟩
      intro a ha b hb e
      simp at hb
      subst hb e
      exact hno ha
    · rcases List.mem_append.1 hp with hp | hp
      · exact h.each p hp
      · simp at hp; subst hp; exact ⟨by simp, by simp, .inl rfl⟩
theorem hold_wf {M : List (Int × Life)} (h : WfR M) (tx c : Int) : WfR (holdR M tx c).2 := by
  unfold holdR
  cases hL : M.lookup tx with
  | none => exact h
  | some L =>
    have hl := h.life hL
    simp only
    split
    · exact h
    split
    · exact h
    split
    · exact h
    split
    · exact h
    · rename_i h1 h2 h3 h4
      refine h.upd hL _ ⟨?_, by simp; omega, hl.st⟩
      rw [List.nodup_append]
      refine ⟨hl.nd, by simp, ?_⟩
      intro a ha b hb e
      simp at hb
      subst hb e
      exact h3 ha
theorem wrote_wf {M : List (Int × Life)} (h : WfR M) (tx k c : Int) : WfR (wroteR M tx k c).2 := by
  unfold wroteR
  cases hL : M.lookup tx with
  | none => exact h
  | some L =>
    have hl := h.life hL
    simp only
    split
    · split
      · exact h.upd hL _ ⟨hl.nd, hl.len, .inr (.inl rfl)⟩
      · exact h
    split
    · split
      · exact h.upd hL _ ⟨hl.nd, hl.len, .inr (.inr rfl)⟩
      · exact h
    split
    · split
      · split
        · exact h.upd hL _ ⟨hl.nd.sublist List.filter_sublist, Nat.le_trans (List.length_filter_le _ _) hl.len, hl.st⟩
        · exact h
      · exact h
    split
    · split
      · exact h
      · exact h.del tx
    · exact h
theorem asked_wf {M : List (Int × Life)} (h : WfR M) (o : OpV) : WfR (askedR M o).2 := by
  unfold askedR
  split
  · exact begin_wf h _
  split
  · exact hold_wf h _ _
  split
  · exact wrote_wf h _ _ _
  · exact h
theorem asked_book {M : List (Int × Life)} (h : WfR M) (o : OpV) (hok : (askedR M o).1 = 0) : notesB (bookOf M) o = bookOf (askedR M o).2 := by
  unfold askedR at hok ⊢
  split at hok
  · rename_i k1
    rw [if_pos k1]
    unfold beginR at hok ⊢
    split at hok
    · cases hok
    split at hok
    · cases hok
    split at hok
    · cases hok
    rename_i h1 h2 h3
    rw [if_neg h1, if_neg h2, if_neg h3]
    have hno : o.tx ∉ M.map (·.1) := by
      have : M.lookup o.tx = none := by cases hl : M.lookup o.tx with | none => rfl | some => simp [hl] at h2
      exact no_key this
    simp only [updKV_none _ _ _ hno, notesB, k1, if_true]
    simp [bookOf, btxOf]
  rename_i k1
  rw [if_neg k1]
  split at hok
  · rename_i k2
    rw [if_pos k2]
    unfold holdR at hok ⊢
    cases hL : M.lookup o.tx with
    | none => rw [hL] at hok; cases hok
    | some L =>
      rw [hL] at hok
      simp only at hok ⊢
      obtain ⟨i, p1, p2, p3⟩ := posN_of_lookup _ _ _ hL
      have e : notesB (bookOf M) o = (match posN o.counter L.held with
          | none => (bookOf M).set i ⟨o.tx, L.held ++ [o.counter], decide (L.st = 1), decide (L.st = 2)⟩
          | some _ => bookOf M) := by
        simp only [notesB, k2, if_true, bookOf_nums, p1, bookOf_at M i _ p2, btxOf]
        rfl
      rw [e]
      split at hok
      · cases hok
      split at hok
      · cases hok
      split at hok
      · rename_i h1 h2 h3
        rw [if_neg h1, if_neg h2, if_pos h3]
        cases hq : posN o.counter L.held with
        | none => exact absurd h3 (posN_none_iff.1 hq)
        | some j => rfl
      split at hok
      · cases hok
      rename_i h1 h2 h3 h4
      rw [if_neg h1, if_neg h2, if_neg h3, if_neg h4, posN_none_iff.2 h3, p3, bookOf_set]
      rfl
  rename_i k2
  rw [if_neg k2]
  split at hok
  · rename_i k3
    rw [if_pos k3]
    unfold wroteR at hok ⊢
    cases hL : M.lookup o.tx with
    | none => rw [hL] at hok; cases hok
    | some L =>
      rw [hL] at hok
      simp only at hok ⊢
      have hl := h.life hL
      obtain ⟨i, p1, p2, p3⟩ := posN_of_lookup _ _ _ hL
      have e : notesB (bookOf M) o = (if o.what = 5 then (bookOf M).set i ⟨o.tx, L.held, true, decide (L.st = 2)⟩
          else if o.what = 6 then (bookOf M).set i ⟨o.tx, L.held, decide (L.st = 1), true⟩
          else if o.what = 4 then (match posN o.counter L.held with
            | none => bookOf M
            | some k => (bookOf M).set i ⟨o.tx, L.held.eraseIdx k, decide (L.st = 1), decide (L.st = 2)⟩)
          else if o.what = 7 then (bookOf M).eraseIdx i
          else bookOf M) := by
        simp only [notesB, k3, if_true, bookOf_nums, p1, bookOf_at M i _ p2, btxOf]
        rfl
      rw [e]
      split at hok
      · rename_i w5
        rw [if_pos w5, if_pos w5]
        split at hok
        · rename_i hs
          rw [if_pos hs, p3, bookOf_set]
          simp [btxOf, hs]
        · cases hok
      rename_i w5
      rw [if_neg w5, if_neg w5]
      split at hok
      · rename_i w6
        rw [if_pos w6, if_pos w6]
        split at hok
        · rename_i hs
          rw [if_pos hs, p3, bookOf_set]
          simp [btxOf, hs]
        · cases hok
      rename_i w6
      rw [if_neg w6, if_neg w6]
      split at hok
      · rename_i w4
        rw [if_pos w4, if_pos w4]
        split at hok
        · rename_i hs
          rw [if_pos hs]
          split at hok
          · rename_i hin
            rw [if_pos hin]
            cases hq : posN o.counter L.held with
            | none => exact absurd hin (posN_none_iff.1 hq)
            | some j =>
              simp only
              rw [p3, bookOf_set, filter_pos _ _ j hl.nd hq]
              rfl
          · cases hok
        · cases hok
      rename_i w4
      rw [if_neg w4, if_neg w4]
      split at hok
      · rename_i w7
        rw [if_pos w7, if_pos w7]
        split at hok
        · cases hok
        · rename_i hs
          rw [if_neg hs, delKV_pos _ _ i h.nd p1]
          simp [bookOf, map_eraseIdx']
      · cases hok
  · cases hok
theorem asked_same {M : List (Int × Life)} (o : OpV) (hno : (askedR M o).1 ≠ 0) : (askedR M o).2 = M := by
  unfold askedR at hno ⊢
  split
  · rename_i k; rw [if_pos k] at hno
    unfold beginR at hno ⊢
    split
    · rfl
    split
    · rfl
    split
    · rfl
    · rename_i h1 h2 h3; rw [if_neg h1, if_neg h2, if_neg h3] at hno; exact absurd rfl hno
  rename_i k1; rw [if_neg k1] at hno
  split
  · rename_i k; rw [if_pos k] at hno
    unfold holdR at hno ⊢
    cases hL : M.lookup o.tx with
    | none => rfl
    | some L =>
      rw [hL] at hno
      simp only at hno ⊢
      split
      · rfl
      split
      · rfl
      split
      · rfl
      split
      · rfl
      · rename_i h1 h2 h3 h4; rw [if_neg h1, if_neg h2, if_neg h3, if_neg h4] at hno; exact absurd rfl hno
  rename_i k2; rw [if_neg k2] at hno
  split
  · rename_i k; rw [if_pos k] at hno
    unfold wroteR at hno ⊢
    cases hL : M.lookup o.tx with
    | none => rfl
    | some L =>
      rw [hL] at hno
      simp only at hno ⊢
      split
      · rename_i w; rw [if_pos w] at hno
        split
        · rename_i hs; rw [if_pos hs] at hno; exact absurd rfl hno
        · rfl
      rename_i w5; rw [if_neg w5] at hno
      split
      · rename_i w; rw [if_pos w] at hno
        split
        · rename_i hs; rw [if_pos hs] at hno; exact absurd rfl hno
        · rfl
      rename_i w6; rw [if_neg w6] at hno
      split
      · rename_i w; rw [if_pos w] at hno
        split
        · rename_i hs; rw [if_pos hs] at hno
          split
          · rename_i hin; rw [if_pos hin] at hno; exact absurd rfl hno
          · rfl
        · rfl
      rename_i w4; rw [if_neg w4] at hno
      split
      · rename_i w; rw [if_pos w] at hno
        split
        · rfl
        · rename_i hs; rw [if_neg hs] at hno; exact absurd rfl hno
      · rfl
  · rfl

/-- The room behind a script. -/
def grownR (M : List (Int × Life)) (l : List OpV) : List (Int × Life) := l.foldl (fun M o => (askedR M o).2) M
theorem grownR_wf : ∀ (l : List OpV) (M : List (Int × Life)), WfR M → WfR (grownR M l)
  | [], _, h => h
  | o :: l, _, h => grownR_wf l _ (asked_wf h o)
theorem WfR.small {M : List (Int × Life)} (h : WfR M) : SmallR M := fun k L hL => Nat.le_trans (h.life hL).len (by omega)
end Go.Proofs.Ytgepohccnknngaa
