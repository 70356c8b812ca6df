/- What Merge's lists hold, page by page. No condition. -/
import Derived.Test.YtijnojaneheaeaaPtsModel
namespace Go.SL.Pts

/-- The lesser one, where there are both. -/
def mn : Option Int → Option Int → Option Int
  | none, b => b
  | some a, none => some a
  | some a, some b => some (min a b)
theorem mn_none (a : Option Int) : mn a none = a := by cases a <;> rfl
theorem none_mn (a : Option Int) : mn none a = a := rfl
theorem mn_comm (a b : Option Int) : mn a b = mn b a := by cases a <;> cases b <;> simp [mn, Int.min_comm]
theorem mn_assoc (a b c : Option Int) : mn (mn a b) c = mn a (mn b c) := by cases a <;> cases b <;> cases c <;> simp [mn, Int.min_assoc]
theorem mn_self (a : Option Int) : mn a a = a := by cases a <;> simp [mn]
/-- The least since of a page. -/
def mAt (n : Int) : List DirtyV → Option Int
  | [] => none
  | d :: r => mn (if d.1 = n then some d.2 else none) (mAt n r)
theorem mAt_append (n : Int) : ∀ a b : List DirtyV, mAt n (a ++ b) = mn (mAt n a) (mAt n b)
  | [], _ => rfl
  | d :: r, b => by simp only [List.cons_append, mAt, mAt_append n r b, mn_assoc]
/-- The first fault. -/
def errD : List DirtyV → Int
  | [] => 0
  | d :: r => if d.1 < 0 ∨ d.1 ≥ 64 then 4 else if d.2 < 1 ∨ d.2 > 2147483647 then 23 else errD r
theorem errD_append : ∀ a b : List DirtyV, errD (a ++ b) = if errD a ≠ 0 then errD a else errD b
  | [], _ => rfl
  | d :: r, b => by
    simp only [List.cons_append, errD]
    split
    · simp
    · split
      · simp
      · exact errD_append r b
theorem errD_ok : ∀ {l : List DirtyV}, errD l = 0 → OkM l
  | [], _ => fun p h => by cases h
  | d :: r, h => by
    simp only [errD] at h
    split at h
    · cases h
    · split at h
      · cases h
      · intro p hp
        rcases List.mem_cons.1 hp with rfl | hp
        · omega
        · exact errD_ok h p hp
theorem ok_errD : ∀ {l : List DirtyV}, OkM l → errD l = 0
  | [], _ => rfl
  | d :: r, h => by
    have := h d (by simp)
    rw [errD, if_neg (by omega), if_neg (by omega)]
    exact ok_errD fun p hp => h p (List.mem_cons_of_mem _ hp)
theorem mAt_ok {n : Int} : ∀ {l : List DirtyV}, OkM l → ∀ s, mAt n l = some s → (0 ≤ n ∧ n < 64) ∧ 1 ≤ s ∧ s ≤ 2147483647
  | [], _, s, h => by cases h
  | d :: r, hl, s, h => by
    have hd := hl d (by simp)
    have ih := mAt_ok (n := n) (l := r) (fun p hp => hl p (List.mem_cons_of_mem _ hp))
    rw [mAt] at h
    by_cases e : d.1 = n
    · rw [if_pos e] at h
      cases hr : mAt n r with
      | none => rw [hr] at h; cases h; omega
      | some u =>
        have := ih u hr
        rw [hr] at h
        simp only [mn, Option.some.injEq] at h
        omega
    · rw [if_neg e] at h
      exact ih s h
/-- The list of what stands beside each page. -/
def outL (f : Int → Option Int) : List DirtyV := (List.range 64).filterMap fun (n : Nat) => (f n).map fun s => ((n : Int), s)
theorem outL_mem {f : Int → Option Int} {p : DirtyV} : p ∈ outL f ↔ (0 ≤ p.1 ∧ p.1 < 64) ∧ f p.1 = some p.2 := by
  simp only [outL, List.mem_filterMap, List.mem_range, Option.map_eq_some_iff]
  constructor
  · rintro ⟨n, hn, s, hs, rfl⟩
    exact ⟨⟨by simp, by simp; omega⟩, hs⟩
  · rintro ⟨⟨h1, h2⟩, h3⟩
    refine ⟨p.1.toNat, by omega, p.2, ?_, ?_⟩
    · rw [show ((p.1.toNat : Nat) : Int) = p.1 by omega]; exact h3
    · rw [show ((p.1.toNat : Nat) : Int) = p.1 by omega]
theorem outL_sorted (f : Int → Option Int) : (outL f).Pairwise fun a b => a.1 < b.1 := by
  unfold outL
  rw [List.pairwise_filterMap]
  refine List.Pairwise.imp ?_ (List.pairwise_lt_range (n := 64))
  intro a b hab x hx y hy
  simp only [Option.map_eq_some_iff] at hx hy
  obtain ⟨_, _, rfl⟩ := hx
  obtain ⟨_, _, rfl⟩ := hy
  simp; omega
/-- A list without a page twice, page by page. -/
theorem mAt_of_mem {n s : Int} : ∀ {l : List DirtyV}, l.Pairwise (fun a b => a.1 < b.1) → (n, s) ∈ l → mAt n l = some s
  | [], _, h => by cases h
  | d :: r, hp, h => by
    rw [List.pairwise_cons] at hp
    rw [mAt]
    rcases List.mem_cons.1 h with h | h
    · subst h
      have : mAt n r = none := by
        have key : ∀ l : List DirtyV, (∀ p ∈ l, n < p.1) → mAt n l = none := by
          intro l
          induction l with
          | nil => intro _; rfl
          | cons q l ih =>
            intro hq
            have := hq q (by simp)
            rw [mAt, if_neg (by omega), ih fun p hp => hq p (List.mem_cons_of_mem _ hp)]; rfl
        exact key r fun p hp' => hp.1 p hp'
      simp [this, mn]
    · have := hp.1 _ h
      rw [if_neg (by dsimp only at this; omega), mAt_of_mem hp.2 h]; rfl
theorem mAt_none {n : Int} : ∀ {l : List DirtyV}, (∀ p ∈ l, p.1 ≠ n) → mAt n l = none
  | [], _ => rfl
  | d :: r, h => by
    rw [mAt, if_neg (h d (by simp)), mAt_none fun p hp => h p (List.mem_cons_of_mem _ hp)]; rfl
theorem mAt_outL (f : Int → Option Int) (n : Int) (hn : 0 ≤ n ∧ n < 64) : mAt n (outL f) = f n := by
  cases h : f n with
  | some s => exact mAt_of_mem (outL_sorted f) (outL_mem.2 ⟨hn, h⟩)
  | none =>
    refine mAt_none fun p hp e => ?_
    have := (outL_mem.1 hp).2
    rw [e, h] at this; cases this
/-- Two such lists with the same elements are one. -/
theorem sorted_ext {l l' : List DirtyV} (h : l.Pairwise fun a b => a.1 < b.1) (h' : l'.Pairwise fun a b => a.1 < b.1) (hm : ∀ p, p ∈ l ↔ p ∈ l') : l = l' := by
  have nd : ∀ {l : List DirtyV}, l.Pairwise (fun a b => a.1 < b.1) → l.Nodup := fun h => h.imp fun hlt e => by subst e; omega
  refine List.Perm.eq_of_pairwise (le := fun a b => a.1 < b.1) (fun a b _ _ h1 h2 => by omega) h h' ((List.perm_ext_iff_of_nodup (nd h) (nd h')).2 hm)
theorem outL_congr {f g : Int → Option Int} (h : ∀ n, 0 ≤ n ∧ n < 64 → f n = g n) : outL f = outL g := by
  refine sorted_ext (outL_sorted _) (outL_sorted _) fun p => ?_
  rw [outL_mem, outL_mem]
  constructor
  · rintro ⟨h1, h2⟩; exact ⟨h1, by rw [← h _ h1]; exact h2⟩
  · rintro ⟨h1, h2⟩; exact ⟨h1, by rw [h _ h1]; exact h2⟩

/-! ### The map -/
theorem updKV_nodup {k v : Int} {m : List (Int × Int)} (h : (m.map (·.1)).Nodup) : ((updKV k v m).map (·.1)).Nodup := by
  rw [updKV_keys]
  split
  · exact h
  · rename_i hk
    exact List.nodup_append.2 ⟨h, by simp, fun a ha b hb => by simp at hb; subst hb; exact fun e => hk (e ▸ ha)⟩
theorem sinceF_law : ∀ (xs : List DirtyV) (m : List (Int × Int)), (m.map (·.1)).Nodup → (sinceF m xs).1 = errD xs ∧ ((sinceF m xs).2.map (·.1)).Nodup ∧ (errD xs = 0 → ∀ n, (sinceF m xs).2.lookup n = mn (m.lookup n) (mAt n xs))
  | [], m, h => ⟨rfl, h, fun _ n => by simp [sinceF, mAt, mn_none]⟩
  | d :: r, m, h => by
    rw [sinceF, errD]
    split
    · exact ⟨rfl, h, fun e => by cases e⟩
    · split
      · exact ⟨rfl, h, fun e => by cases e⟩
      · have hu := updKV_nodup (k := d.1) (v := d.2) h
        have key : ∀ m' : List (Int × Int), (m'.map (·.1)).Nodup → (∀ n, m'.lookup n = mn (m.lookup n) (if d.1 = n then some d.2 else none)) →
            (sinceF m' r).1 = errD r ∧ ((sinceF m' r).2.map (·.1)).Nodup ∧ (errD r = 0 → ∀ n, (sinceF m' r).2.lookup n = mn (m.lookup n) (mAt n (d :: r))) := by
          intro m' h1 h2
          obtain ⟨i1, i2, i3⟩ := sinceF_law r m' h1
          exact ⟨i1, i2, fun e n => by rw [i3 e n, h2 n, mAt, mn_assoc]⟩
        split
        · rename_i hl
          refine key _ hu fun n => ?_
          rw [updKV_lookup]
          by_cases e : d.1 = n
          · subst e; simp [hl, mn]
          · rw [if_neg (fun e' => e e'.symm), if_neg e, mn_none]
        · rename_i w hl
          split
          · rename_i hlt
            refine key _ hu fun n => ?_
            rw [updKV_lookup]
            by_cases e : d.1 = n
            · subst e
              simp only [if_true, hl, mn, Option.some.injEq]
              omega
            · rw [if_neg (fun e' => e e'.symm), if_neg e, mn_none]
          · rename_i hlt
            refine key _ h fun n => ?_
            by_cases e : d.1 = n
            · subst e
              simp only [if_true, hl, mn, Option.some.injEq]
              omega
            · rw [if_neg e, mn_none]
theorem sortI_pairwise (l : List Int) : (sortI l).Pairwise fun a b => a ≤ b := by
  have h := List.pairwise_mergeSort (le := leI) (fun a b c h1 h2 => by simp only [leI, decide_eq_true_eq] at *; omega) (fun a b => by simp only [leI, Bool.or_eq_true, decide_eq_true_eq]; omega) l
  exact h.imp fun h => by simpa [leI] using h
theorem sortI_nodup {l : List Int} (h : l.Nodup) : (sortI l).Nodup := (List.mergeSort_perm l leI).nodup_iff.2 h
theorem lookup_mem {m : List (Int × Int)} {k : Int} : k ∈ m.map (·.1) ↔ ∃ v, m.lookup k = some v := by
  induction m with
  | nil => simp
  | cons p m ih =>
    by_cases e : k = p.1
    · subst e; simp [List.lookup]
    · have : (k == p.1) = false := by simpa using e
      simp [List.lookup, this, e, ← ih]
/-- **Merge, page by page.** -/
theorem mergeF_eq (xs ys : List DirtyV) : mergeF xs ys = if errD (xs ++ ys) ≠ 0 then (errD (xs ++ ys), []) else (0, outL fun n => mAt n (xs ++ ys)) := by
  obtain ⟨a1, a2, a3⟩ := sinceF_law xs [] (by simp)
  obtain ⟨b1, b2, b3⟩ := sinceF_law ys (sinceF [] xs).2 a2
  have hok := sinceF_ok xs [] (fun p h => by cases h)
  have hok2 := (sinceF_ok ys _ hok.1).1
  unfold mergeF
  rw [a1, b1, errD_append]
  by_cases e : errD xs ≠ 0
  · simp [e]
  · rw [if_neg e, if_neg e]
    by_cases e' : errD ys ≠ 0
    · simp [e']
    · rw [if_neg e', if_neg e']
      have hx : errD xs = 0 := by omega
      have hy : errD ys = 0 := by omega
      have hl : ∀ n, (sinceF (sinceF [] xs).2 ys).2.lookup n = mAt n (xs ++ ys) := fun n => by rw [b3 hy n, a3 hx n, mAt_append]; simp [mn]
      obtain ⟨M, hM⟩ : ∃ M, M = (sinceF (sinceF [] xs).2 ys).2 := ⟨_, rfl⟩
      rw [← hM] at b2 hok2 hl ⊢
      congr 1
      refine sorted_ext ?_ (outL_sorted _) fun p => ?_
      · rw [List.pairwise_map]
        exact (sortI_pairwise _).imp₂ (fun a b h1 h2 => by show a < b; have h2 : a ≠ b := h2; omega) (sortI_nodup b2)
      · rw [outL_mem, List.mem_map]
        constructor
        · rintro ⟨k, hk, rfl⟩
          rw [sortI_mem] at hk
          obtain ⟨v, hv⟩ := lookup_mem.1 hk
          obtain ⟨q, hq, rfl⟩ := List.mem_map.1 hk
          refine ⟨(hok2 q hq).1, ?_⟩
          dsimp only
          rw [← hl, hv]; rfl
        · rintro ⟨h1, h2⟩
          rw [← hl] at h2
          refine ⟨p.1, sortI_mem.2 (lookup_mem.2 ⟨_, h2⟩), ?_⟩
          rw [h2]; rfl
end Go.SL.Pts
