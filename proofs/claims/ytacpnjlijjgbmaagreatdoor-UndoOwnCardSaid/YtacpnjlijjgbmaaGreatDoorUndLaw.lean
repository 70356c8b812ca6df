/- Lists of records by counter: found, taken out, put in order. No condition. -/
import Derived.Test.YtacpnjlijjgbmaaGreatDoorUndModel
namespace Go.SL.Und
/-- Where the record of a counter stands; -1: nowhere. -/
def atI (id : Int) : List RecV → Int
  | [] => -1
  | x :: l => if x.id = id then 0 else if atI id l < 0 then -1 else atI id l + 1
theorem atI_none (id : Int) : ∀ l : List RecV, (∀ (j : Nat) y, l[j]? = some y → y.id ≠ id) → atI id l = -1
  | [], _ => rfl
  | x :: l, h => by
    have h0 := h 0 x rfl
    have := atI_none id l fun j y hy => h (j + 1) y (by simpa using hy)
    simp [atI, h0, this]
theorem atI_first (id : Int) : ∀ (l : List RecV) (i : Nat) (x : RecV), l[i]? = some x → x.id = id → (∀ (j : Nat) y, j < i → l[j]? = some y → y.id ≠ id) → atI id l = i
  | [], i, x, h, _, _ => by simp at h
  | z :: l, 0, x, h, hx, _ => by
    simp at h
    subst h
    simp [atI, hx]
  | z :: l, i + 1, x, h, hx, hj => by
    have h0 := hj 0 z (by omega) rfl
    have := atI_first id l i x (by simpa using h) hx fun j y hl hy => hj (j + 1) y (by omega) (by simpa using hy)
    simp only [atI, h0, if_false, this]
    rw [if_neg (by omega)]
    omega
/-- The records of what is held. -/
def recs (m : List (Int × RecV)) : List RecV := m.map (·.2)
theorem recs_id {m : List (Int × RecV)} (h : KeyOk m) : (recs m).map (·.id) = m.map (·.1) := by
  unfold recs
  rw [List.map_map]
  exact List.map_congr_left fun p hp => h.1 p hp
theorem find_split (id : Int) : ∀ {m : List (Int × RecV)}, KeyOk m → (m.lookup id = none ∧ atI id (recs m) = -1 ∧ ∀ v, recs (updKV id v m) = recs m ++ [v]) ∨
    ∃ (i : Nat) (h : RecV), m.lookup id = some h ∧ (recs m)[i]? = some h ∧ atI id (recs m) = i ∧ (∀ v, recs (updKV id v m) = (recs m).set i v) ∧ recs (delKV id m) = (recs m).take i ++ (recs m).drop (i + 1)
  | [], _ => .inl ⟨rfl, rfl, fun v => rfl⟩
  | p :: m, h => by
    have hp := h.1 p List.mem_cons_self
    have hm : KeyOk m := ⟨fun q hq => h.1 q (List.mem_cons_of_mem _ hq), (List.nodup_cons.1 h.2).2⟩
    by_cases e : p.1 = id
    · refine .inr ⟨0, p.2, ?_, rfl, ?_, fun v => ?_, ?_⟩
      · have : (id == p.1) = true := by simp [e]
        obtain ⟨a, b⟩ := p
        simp [List.lookup, this]
      · simp [recs, atI, hp, e]
      · rw [updKV, if_pos e.symm]; simp [recs]
      · have hn : id ∉ m.map (·.1) := e ▸ (List.nodup_cons.1 h.2).1
        have : delKV id (p :: m) = m := by
          have := filter_ne id m hn
          simp only [delKV] at this ⊢
          rw [List.filter_cons_of_neg (by simp [e]), this]
        rw [this]; simp [recs]
    · have hl : (p :: m).lookup id = m.lookup id := by
        have : (id == p.1) = false := by simp; exact fun x => e x.symm
        obtain ⟨a, b⟩ := p
        simp only at this
        simp [List.lookup, this]
      have hu : ∀ v, recs (updKV id v (p :: m)) = p.2 :: recs (updKV id v m) := fun v => by
        rw [updKV, if_neg (fun x => e x.symm)]; rfl
      have hd : recs (delKV id (p :: m)) = p.2 :: recs (delKV id m) := by
        simp only [delKV, recs]
        rw [List.filter_cons_of_pos (by simp [e])]; rfl
      have ha : atI id (recs (p :: m)) = if atI id (recs m) < 0 then -1 else atI id (recs m) + 1 := by
        have : p.2.id ≠ id := fun x => e (hp ▸ x)
        show (if p.2.id = id then (0 : Int) else if atI id (recs m) < 0 then -1 else atI id (recs m) + 1) = _
        rw [if_neg this]
      rcases find_split id hm with ⟨h1, h2, h3⟩ | ⟨i, x, h1, h2, h3, h4, h5⟩
      · exact .inl ⟨hl ▸ h1, by rw [ha, h2]; rfl, fun v => by rw [hu, h3]; rfl⟩
      · refine .inr ⟨i + 1, x, hl ▸ h1, by simpa [recs] using h2, by rw [ha, h3, if_neg (by omega)]; omega, fun v => by rw [hu, h4]; rfl, by rw [hd, h5]; rfl⟩

/-- Two lists in strict order that hold the same are the same. -/
theorem sorted_unique : ∀ {l l' : List RecV}, l.Perm l' → l.Pairwise (fun a b => a.id < b.id) → l'.Pairwise (fun a b => a.id < b.id) → l = l'
  | [], l', h, _, _ => (List.nil_perm.1 h).symm
  | x :: l, [], h, _, _ => by simpa using h.length_eq
  | x :: l, y :: l', h, h1, h2 => by
    obtain ⟨a1, b1⟩ := List.pairwise_cons.1 h1
    obtain ⟨a2, b2⟩ := List.pairwise_cons.1 h2
    have hx : x ∈ y :: l' := h.mem_iff.1 List.mem_cons_self
    have hy : y ∈ x :: l := h.mem_iff.2 List.mem_cons_self
    have e : x = y := by
      rcases List.mem_cons.1 hx with e | hx
      · exact e
      · rcases List.mem_cons.1 hy with e | hy
        · exact e.symm
        · have := a1 y hy
          have := a2 x hx
          omega
    subst e
    rw [sorted_unique (List.Perm.cons_inv h) b1 b2]
theorem lookup_getD {m : List (Int × RecV)} (h : KeyOk m) : ∀ p ∈ m, (m.lookup p.1).getD recZ = p.2 := fun p hp => by
  rw [lookup_of_mem p.1 p.2 m h.2 hp]; rfl
theorem outR_perm {m : List (Int × RecV)} (h : KeyOk m) : (outR m).Perm (recs m) := by
  have h1 : (sortI (m.map (·.1))).Perm (m.map (·.1)) := List.mergeSort_perm _ _
  refine (h1.map _).trans ?_
  rw [List.map_map, recs]
  refine List.Perm.of_eq (List.map_congr_left fun p hp => ?_)
  exact lookup_getD h p hp
theorem sortI_strict {l : List Int} (h : l.Nodup) : (sortI l).Pairwise (· < ·) := by
  have h1 : (sortI l).Pairwise (fun a b => leI a b = true) := List.pairwise_mergeSort (le := leI) (fun a b c h1 h2 => by simp only [leI, decide_eq_true_eq] at *; omega) (fun a b => by simp only [leI, Bool.or_eq_true, decide_eq_true_eq]; omega) l
  have h2 : (sortI l).Nodup := (List.mergeSort_perm l leI).nodup_iff.2 h
  refine (h1.and h2).imp fun {a b} hab => ?_
  obtain ⟨h3, h4⟩ := hab
  simp only [leI, decide_eq_true_eq] at h3
  omega
theorem outR_sorted {m : List (Int × RecV)} (h : KeyOk m) : (outR m).Pairwise fun a b => a.id < b.id := by
  unfold outR
  rw [List.pairwise_map]
  refine (sortI_strict h.2).imp_of_mem fun {a b} ha hb hab => ?_
  have key : ∀ k ∈ sortI (m.map (·.1)), ((m.lookup k).getD recZ).id = k := fun k hk => by
    obtain ⟨p, hp, rfl⟩ := List.mem_map.1 (sortI_mem.1 hk)
    rw [lookup_getD h p hp]; exact h.1 p hp
  rw [key a ha, key b hb]; exact hab
end Go.SL.Und
namespace Go.SL.Und
theorem perm_at {L : List RecV} {k : Nat} {x : RecV} (h : L[k]? = some x) : L.Perm (x :: (L.take k ++ L.drop (k + 1))) := by
  have e : L = L.take k ++ x :: L.drop (k + 1) := by
    obtain ⟨h1, rfl⟩ := List.getElem?_eq_some_iff.1 h
    rw [← List.drop_eq_getElem_cons h1, List.take_append_drop]
  have := List.perm_middle (a := x) (l₁ := L.take k) (l₂ := L.drop (k + 1))
  rwa [← e] at this
/-- The document's order: what is out, what is left. -/
structure Rise (L0 out L : List RecV) : Prop where
  perm : (out ++ L).Perm L0
  nd : (L.map (·.id)).Nodup
  srt : out.Pairwise fun a b => a.id < b.id
  lt : ∀ x ∈ out, ∀ y ∈ L, x.id < y.id
theorem Rise.step {L0 out L : List RecV} (h : Rise L0 out L) {k : Nat} {x : RecV} (hk : L[k]? = some x) (hm : ∀ (j : Nat) y, L[j]? = some y → x.id ≤ y.id) : Rise L0 (out ++ [x]) (L.take k ++ L.drop (k + 1)) := by
  have hp := perm_at hk
  have hx : x ∈ L := List.mem_of_getElem? hk
  have hnd : (x.id :: (L.take k ++ L.drop (k + 1)).map (·.id)).Nodup := by
    have := (hp.map (·.id)).nodup_iff.1 h.nd
    simpa using this
  have hsub : ∀ y ∈ L.take k ++ L.drop (k + 1), y ∈ L := fun y hy => hp.mem_iff.2 (List.mem_cons_of_mem _ hy)
  have hlt : ∀ y ∈ L.take k ++ L.drop (k + 1), x.id < y.id := fun y hy => by
    obtain ⟨j, hj⟩ := List.getElem?_of_mem (hsub y hy)
    have h1 := hm j y hj
    have h2 : x.id ≠ y.id := fun e => (List.nodup_cons.1 hnd).1 (e ▸ List.mem_map.2 ⟨y, hy, rfl⟩)
    omega
  refine ⟨?_, (List.nodup_cons.1 hnd).2, ?_, ?_⟩
  · rw [List.append_assoc]
    exact ((List.Perm.append_left out hp.symm)).trans h.perm
  · rw [List.pairwise_append]
    exact ⟨h.srt, List.pairwise_singleton _ _, fun a ha b hb => by
      have := List.mem_singleton.1 hb
      subst this
      exact h.lt a ha _ hx⟩
  · intro a ha y hy
    rcases List.mem_append.1 ha with ha | ha
    · exact h.lt a ha y (hsub y hy)
    · have := List.mem_singleton.1 ha
      subst this
      exact hlt y hy
theorem Rise.done {m : List (Int × RecV)} {out : List RecV} (hk : KeyOk m) (h : Rise (recs m) out []) : out = outR m := by
  have hp := h.perm
  rw [List.append_nil] at hp
  exact sorted_unique (hp.trans (outR_perm hk).symm) h.srt (outR_sorted hk)
theorem Rise.start {m : List (Int × RecV)} (hk : KeyOk m) : Rise (recs m) [] (recs m) :=
  ⟨List.Perm.refl _, by rw [recs_id hk]; exact hk.2, List.Pairwise.nil, fun x h => by cases h⟩
end Go.SL.Und
