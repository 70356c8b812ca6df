/- The laws of merging: any order, any brackets, again; the least since. No condition. -/
import Derived.Test.YtijnojaneheaeaaPtsTest
namespace Go.SL.Pts
open Go.SL
theorem outL_len (f : Int → Option Int) : (outL f).length ≤ 64 := by
  unfold outL
  exact Nat.le_trans (List.length_filterMap_le _ _) (by simp)
theorem ok_outL {f : Int → Option Int} (h : ∀ n s, f n = some s → 1 ≤ s ∧ s ≤ 2147483647) : OkM (outL f) := fun p hp => by
  obtain ⟨h1, h2⟩ := outL_mem.1 hp
  exact ⟨h1, h _ _ h2⟩
theorem mn_some {a b : Option Int} {s : Int} (h : mn a b = some s) : a = some s ∨ b = some s := by
  cases a <;> cases b <;> simp_all [mn]
  omega
theorem ok_mn {f g : Int → Option Int} (hf : ∀ n s, f n = some s → 1 ≤ s ∧ s ≤ 2147483647) (hg : ∀ n s, g n = some s → 1 ≤ s ∧ s ≤ 2147483647) : ∀ n s, mn (f n) (g n) = some s → 1 ≤ s ∧ s ≤ 2147483647 := fun n s h => by
  rcases mn_some h with h | h
  · exact hf n s h
  · exact hg n s h
theorem ok_mAt {l : List DirtyV} (h : OkM l) : ∀ n s, mAt n l = some s → 1 ≤ s ∧ s ≤ 2147483647 := fun _ s hs => (mAt_ok h s hs).2
/-- The least of all. -/
def leastO : List DirtyV → Option Int
  | [] => none
  | d :: r => mn (some d.2) (leastO r)
theorem lmin_eq (m : Int) : ∀ l : List DirtyV, mn (some m) (leastO l) = some (lmin m l)
  | [] => rfl
  | d :: r => by
    rw [leastO, lmin, ← mn_assoc, ← lmin_eq _ r]
    congr 1
    simp only [mn, Option.some.injEq]
    split <;> omega
theorem leastD_eq : ∀ l : List DirtyV, leastD l = (leastO l).getD 0
  | [] => rfl
  | d :: r => by rw [leastO, leastD, lmin_eq]; rfl
theorem leastO_append : ∀ a b : List DirtyV, leastO (a ++ b) = mn (leastO a) (leastO b)
  | [], _ => rfl
  | d :: r, b => by simp only [List.cons_append, leastO, leastO_append r b, mn_assoc]
theorem leastO_none {l : List DirtyV} : leastO l = none ↔ l = [] := by
  cases l with
  | nil => simp [leastO]
  | cons d r => cases h : leastO r <;> simp [leastO, mn, h]
theorem leastO_some : ∀ {l : List DirtyV} {m : Int}, leastO l = some m ↔ (∃ p ∈ l, p.2 = m) ∧ ∀ p ∈ l, m ≤ p.2
  | [], m => by simp [leastO]
  | d :: r, m => by
    cases h : leastO r with
    | none =>
      have := leastO_none.1 h
      subst this
      simp only [leastO, mn, Option.some.injEq, List.mem_singleton, exists_eq_left, forall_eq]
      omega
    | some u =>
      have ih := (leastO_some (l := r) (m := u)).1 h
      obtain ⟨⟨p, hp, hpu⟩, hall⟩ := ih
      simp only [leastO, h, mn, Option.some.injEq, List.mem_cons, forall_eq_or_imp]
      constructor
      · intro e
        refine ⟨?_, by omega, fun q hq => by have := hall q hq; omega⟩
        by_cases hd : d.2 ≤ u
        · exact ⟨d, .inl rfl, by omega⟩
        · exact ⟨p, .inr hp, by omega⟩
      · rintro ⟨⟨q, hq, e⟩, h1, h2⟩
        have := h2 p hp
        rcases hq with rfl | hq
        · omega
        · have := hall q hq; omega
theorem mAt_some {n : Int} : ∀ {l : List DirtyV} {s : Int}, mAt n l = some s → (∃ p ∈ l, p.1 = n ∧ p.2 = s) ∧ ∀ p ∈ l, p.1 = n → s ≤ p.2
  | [], _, h => by cases h
  | d :: r, s, h => by
    rw [mAt] at h
    by_cases e : d.1 = n
    · rw [if_pos e] at h
      cases hr : mAt n r with
      | none =>
        rw [hr] at h
        simp only [mn, Option.some.injEq] at h
        refine ⟨⟨d, by simp, e, h⟩, fun p hp hpn => ?_⟩
        rcases List.mem_cons.1 hp with rfl | hp
        · omega
        · have key : ∀ l : List DirtyV, mAt n l = none → ∀ p ∈ l, p.1 ≠ n := by
            intro l
            induction l with
            | nil => intro _ p hp; cases hp
            | cons q l ih =>
              intro hq p hp
              rw [mAt] at hq
              by_cases e' : q.1 = n
              · rw [if_pos e'] at hq; cases hl : mAt n l <;> rw [hl] at hq <;> cases hq
              · rw [if_neg e', none_mn] at hq
                rcases List.mem_cons.1 hp with rfl | hp
                · exact e'
                · exact ih hq p hp
          exact absurd hpn (key r hr p hp)
      | some u =>
        obtain ⟨⟨q, hq, hq1, hq2⟩, hall⟩ := mAt_some hr
        rw [hr] at h
        simp only [mn, Option.some.injEq] at h
        refine ⟨?_, fun p hp hpn => ?_⟩
        · by_cases hd : d.2 ≤ u
          · exact ⟨d, by simp, e, by omega⟩
          · exact ⟨q, List.mem_cons_of_mem _ hq, hq1, by omega⟩
        · rcases List.mem_cons.1 hp with rfl | hp
          · omega
          · have := hall p hp hpn; omega
    · rw [if_neg e, none_mn] at h
      obtain ⟨⟨q, hq, hq1, hq2⟩, hall⟩ := mAt_some h
      refine ⟨⟨q, List.mem_cons_of_mem _ hq, hq1, hq2⟩, fun p hp hpn => ?_⟩
      rcases List.mem_cons.1 hp with rfl | hp
      · exact absurd hpn e
      · exact hall p hp hpn
theorem mAt_has {n : Int} : ∀ {l : List DirtyV} {p : DirtyV}, p ∈ l → p.1 = n → ∃ s, mAt n l = some s
  | d :: r, p, hp, hpn => by
    rw [mAt]
    rcases List.mem_cons.1 hp with rfl | hp
    · rw [if_pos hpn]
      cases mAt n r <;> simp [mn]
    · obtain ⟨s, hs⟩ := mAt_has hp hpn
      rw [hs]
      split <;> simp [mn]
theorem leastO_outL {l : List DirtyV} (h : OkM l) : leastO (outL fun n => mAt n l) = leastO l := by
  cases hl : leastO l with
  | none =>
    have := leastO_none.1 hl
    subst this
    rw [leastO_none]
    simp [outL, mAt]
  | some m =>
    obtain ⟨⟨p, hp, hpm⟩, hall⟩ := leastO_some.1 hl
    refine leastO_some.2 ⟨?_, fun q hq => ?_⟩
    · obtain ⟨s, hs⟩ := mAt_has hp rfl
      obtain ⟨⟨q, hq, hq1, hq2⟩, hmin⟩ := mAt_some hs
      have h1 := hmin p hp rfl
      have h2 := hall q hq
      refine ⟨(p.1, s), outL_mem.2 ⟨(h p hp).1, hs⟩, ?_⟩
      dsimp only; omega
    · obtain ⟨_, hs⟩ := outL_mem.1 hq
      obtain ⟨⟨p, hp, _, hp2⟩, _⟩ := mAt_some hs
      have := hall p hp
      omega
theorem least_merge {A B : List DirtyV} (hA : OkM A) (hB : OkM B) : leastD (outL fun n => mAt n (A ++ B)) = if A = [] then leastD B else if B = [] then leastD A else min (leastD A) (leastD B) := by
  have hAB : OkM (A ++ B) := fun p hp => by
    rcases List.mem_append.1 hp with h | h
    · exact hA p h
    · exact hB p h
  simp only [leastD_eq]
  rw [leastO_outL hAB, leastO_append]
  by_cases h1 : A = []
  · subst h1; rfl
  · rw [if_neg h1]
    by_cases h2 : B = []
    · subst h2; rw [if_pos rfl, show leastO [] = none from rfl, mn_none]
    · rw [if_neg h2]
      cases ha : leastO A with
      | none => exact absurd (leastO_none.1 ha) h1
      | some a =>
        cases hb : leastO B with
        | none => exact absurd (leastO_none.1 hb) h2
        | some b => rfl
end Go.SL.Pts
