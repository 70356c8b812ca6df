/- Separation-logic assertions over the model's heap; affine satisfaction in a world. No condition. -/
import Derived.Tactics
namespace Go.SL
open Go

/-- A part of the heap. -/
def Heap := Nat → Option Obj
/-- An assertion on a part of the heap. -/
def HProp := Heap → Prop

def Heap.empty : Heap := fun _ => none
def Heap.disj (a b : Heap) : Prop := ∀ k, a k = none ∨ b k = none
def Heap.join (a b : Heap) : Heap := fun k => (a k).or (b k)

theorem Heap.disj_comm {a b : Heap} (h : a.disj b) : b.disj a := fun k => (h k).symm
theorem Heap.join_comm {a b : Heap} (h : a.disj b) : a.join b = b.join a := by
  funext k; rcases h k with e | e <;> simp [Heap.join, e]
theorem Heap.join_assoc (a b c : Heap) : (a.join b).join c = a.join (b.join c) := by
  funext k; simp [Heap.join, Option.or_assoc]
theorem Heap.join_empty (a : Heap) : a.join Heap.empty = a := by funext k; simp [Heap.join, Heap.empty]
theorem Heap.empty_join (a : Heap) : Heap.empty.join a = a := by funext k; simp [Heap.join, Heap.empty]
theorem Heap.disj_empty (a : Heap) : a.disj Heap.empty := fun _ => .inr rfl
theorem Heap.disj_join {a b c : Heap} : (a.join b).disj c ↔ a.disj c ∧ b.disj c := by
  constructor
  · intro h
    refine ⟨fun k => ?_, fun k => ?_⟩
    · rcases h k with e | e
      · simp [Heap.join, Option.or_eq_none_iff] at e; exact .inl e.1
      · exact .inr e
    · rcases h k with e | e
      · simp [Heap.join, Option.or_eq_none_iff] at e; exact .inl e.2
      · exact .inr e
  · rintro ⟨h1, h2⟩ k
    rcases h1 k with e | e
    · rcases h2 k with e' | e'
      · left; simp [Heap.join, e, e']
      · exact .inr e'
    · exact .inr e
theorem Heap.disj_join_r {a b c : Heap} : c.disj (a.join b) ↔ c.disj a ∧ c.disj b :=
  ⟨fun h => let ⟨x, y⟩ := Heap.disj_join.1 (Heap.disj_comm h); ⟨Heap.disj_comm x, Heap.disj_comm y⟩,
   fun ⟨x, y⟩ => Heap.disj_comm (Heap.disj_join.2 ⟨Heap.disj_comm x, Heap.disj_comm y⟩)⟩

/-- Nothing is owned. -/
def emp : HProp := fun h => h = Heap.empty
/-- Both, of two parts of the heap that have nothing in common. -/
def star (P Q : HProp) : HProp := fun h => ∃ a b, a.disj b ∧ h = a.join b ∧ P a ∧ Q b
instance : HSMul HProp HProp HProp := ⟨star⟩
/-- A plain fact. -/
def pure (p : Prop) : HProp := fun h => p ∧ h = Heap.empty
/-- For some x. -/
def ex {α : Sort _} (f : α → HProp) : HProp := fun h => ∃ x, f x h
/-- Block b holds o. -/
def pts (b : Nat) (o : Obj) : HProp := fun h => h = fun k => if k = b then some o else none

theorem star_comm (P Q : HProp) : (P • Q) = (Q • P) := by
  funext h; apply propext
  constructor
  · rintro ⟨a, b, hd, rfl, hp, hq⟩; exact ⟨b, a, Heap.disj_comm hd, Heap.join_comm hd, hq, hp⟩
  · rintro ⟨a, b, hd, rfl, hp, hq⟩; exact ⟨b, a, Heap.disj_comm hd, Heap.join_comm hd, hq, hp⟩
theorem star_assoc (P Q R : HProp) : ((P • Q) • R) = (P • Q • R) := by
  funext h; apply propext
  constructor
  · rintro ⟨ab, c, hd, rfl, ⟨a, b, hd', rfl, hp, hq⟩, hr⟩
    obtain ⟨h1, h2⟩ := Heap.disj_join.1 hd
    exact ⟨a, b.join c, Heap.disj_join_r.2 ⟨hd', h1⟩, Heap.join_assoc _ _ _, hp, b, c, h2, rfl, hq, hr⟩
  · rintro ⟨a, bc, hd, rfl, hp, b, c, hd', rfl, hq, hr⟩
    obtain ⟨h1, h2⟩ := Heap.disj_join_r.1 hd
    exact ⟨a.join b, c, Heap.disj_join.2 ⟨h2, hd'⟩, (Heap.join_assoc _ _ _).symm, ⟨a, b, h1, rfl, hp, hq⟩, hr⟩
theorem star_left_comm (P Q R : HProp) : (P • Q • R) = (Q • P • R) := by
  rw [← star_assoc, star_comm P Q, star_assoc]
theorem star_emp (P : HProp) : (P • emp) = P := by
  funext h; apply propext
  constructor
  · rintro ⟨a, b, _, rfl, hp, rfl⟩; rw [Heap.join_empty]; exact hp
  · intro hp; exact ⟨h, Heap.empty, Heap.disj_empty _, (Heap.join_empty _).symm, hp, rfl⟩
theorem emp_star (P : HProp) : (emp • P) = P := by rw [star_comm, star_emp]
instance : Std.Associative star := ⟨star_assoc⟩
instance : Std.Commutative star := ⟨star_comm⟩

/-- P gives Q, on the same part of the heap. -/
def Ent (P Q : HProp) : Prop := ∀ h, P h → Q h
theorem Ent.refl (P : HProp) : Ent P P := fun _ h => h
theorem Ent.of_eq {P Q : HProp} (h : P = Q) : Ent P Q := h ▸ Ent.refl P
theorem Ent.trans {P Q R : HProp} (h : Ent P Q) (k : Ent Q R) : Ent P R := fun x hx => k x (h x hx)
theorem Ent.star {P P' Q Q' : HProp} (h : Ent P P') (k : Ent Q Q') : Ent (P • Q) (P' • Q') :=
  fun _ ⟨a, b, hd, e, hp, hq⟩ => ⟨a, b, hd, e, h _ hp, k _ hq⟩
theorem Ent.left {P P' Q : HProp} (h : Ent P P') : Ent (P • Q) (P' • Q) := h.star (.refl _)
theorem Ent.right {P Q Q' : HProp} (h : Ent Q Q') : Ent (P • Q) (P • Q') := (Ent.refl _).star h
theorem Ent.ex {α : Sort _} {P : HProp} {f : α → HProp} (x : α) (h : Ent P (f x)) : Ent P (SL.ex f) := fun a ha => ⟨x, h a ha⟩
theorem ex_star {α : Sort _} (f : α → HProp) (Q : HProp) : (ex f • Q) = ex fun x => (f x • Q) := by
  funext h; apply propext
  constructor
  · rintro ⟨a, b, hd, e, ⟨x, hp⟩, hq⟩; exact ⟨x, a, b, hd, e, hp, hq⟩
  · rintro ⟨x, a, b, hd, e, hp, hq⟩; exact ⟨a, b, hd, e, ⟨x, hp⟩, hq⟩
theorem star_ex {α : Sort _} (f : α → HProp) (Q : HProp) : (Q • ex f) = ex fun x => (Q • f x) := by
  rw [star_comm, ex_star]; congr; funext x; rw [star_comm]
theorem pure_star {p : Prop} {P : HProp} {h : Heap} : (SL.pure p • P) h ↔ p ∧ P h := by
  constructor
  · rintro ⟨a, b, _, rfl, ⟨hp, rfl⟩, hq⟩; exact ⟨hp, by rw [Heap.empty_join]; exact hq⟩
  · rintro ⟨hp, hq⟩; exact ⟨Heap.empty, h, Heap.disj_comm (Heap.disj_empty _), (Heap.empty_join _).symm, ⟨hp, rfl⟩, hq⟩
theorem Ent.pure {p : Prop} {P Q : HProp} (hp : p) (h : Ent P Q) : Ent P (SL.pure p • Q) := fun x hx => pure_star.2 ⟨hp, h x hx⟩

/-- What a is, b is too. -/
def Heap.sub (a b : Heap) : Prop := ∀ k o, a k = some o → b k = some o
theorem Heap.sub_refl (a : Heap) : a.sub a := fun _ _ h => h
theorem Heap.sub_trans {a b c : Heap} (h : a.sub b) (k : b.sub c) : a.sub c := fun i o hi => k i o (h i o hi)
theorem Heap.sub_join_l (a b : Heap) : a.sub (a.join b) := fun k o h => by simp [Heap.join, h]
theorem Heap.sub_join_r {a b : Heap} (hd : a.disj b) : b.sub (a.join b) := fun k o h => by
  rcases hd k with e | e
  · simp [Heap.join, e, h]
  · rw [e] at h; cases h

def hp (w : World) : Heap := fun k => w.heap[k]?

/-- The streams, the outside and the tape are those of the base world; no block has gone. -/
structure Same (W w : World) : Prop where
  os : w.os = W.os
  tape : w.tape = W.tape
  output : w.output = W.output
  size : W.heap.size ≤ w.heap.size
theorem Same.refl (W : World) : Same W W := ⟨rfl, rfl, rfl, Nat.le_refl _⟩
theorem Same.trans {a b c : World} (h : Same a b) (k : Same b c) : Same a c :=
  ⟨k.os.trans h.os, k.tape.trans h.tape, k.output.trans h.output, Nat.le_trans h.size k.size⟩

/-- The world w, grown out of W, holds H (and may hold more). -/
def Sat (W : World) (H : HProp) (w : World) : Prop := Same W w ∧ ∃ a, a.sub (hp w) ∧ H a

theorem Sat.mono {W w : World} {H H' : HProp} (h : Sat W H w) (e : Ent H H') : Sat W H' w :=
  ⟨h.1, let ⟨a, s, x⟩ := h.2; ⟨a, s, e _ x⟩⟩
theorem Sat.left {W w : World} {P Q : HProp} (h : Sat W (P • Q) w) : Sat W P w :=
  ⟨h.1, let ⟨_, s, a, b, _, e, p, _⟩ := h.2; ⟨a, Heap.sub_trans (e ▸ Heap.sub_join_l a b) s, p⟩⟩
theorem Sat.right {W w : World} {P Q : HProp} (h : Sat W (P • Q) w) : Sat W Q w := by
  rw [star_comm] at h; exact h.left
theorem Sat.ex {W w : World} {α : Sort _} {f : α → HProp} (h : Sat W (SL.ex f) w) : ∃ x, Sat W (f x) w :=
  let ⟨s, a, b, x, y⟩ := h; ⟨x, s, a, b, y⟩
theorem Sat.pure {W w : World} {p : Prop} {Q : HProp} (h : Sat W (SL.pure p • Q) w) : p ∧ Sat W Q w :=
  let ⟨s, a, b, x⟩ := h; let ⟨y, z⟩ := pure_star.1 x; ⟨y, s, a, b, z⟩
/-- What is owned is there. -/
theorem Sat.at {W w : World} {b : Nat} {o : Obj} {R : HProp} (h : Sat W (pts b o • R) w) : w.heap[b]? = some o := by
  obtain ⟨_, a, s, e⟩ := h.left
  exact s b o (by rw [e]; simp)
theorem Sat.lt {W w : World} {b : Nat} {o : Obj} {R : HProp} (h : Sat W (pts b o • R) w) : b < w.heap.size := by
  have := h.at
  rcases Nat.lt_or_ge b w.heap.size with h | h
  · exact h
  · simp [Array.getElem?_eq_none h] at this

/-- What holds P holds Q, and may hold more. -/
def Imp (P Q : HProp) : Prop := ∀ h, P h → ∃ h', h'.sub h ∧ Q h'
theorem Ent.imp {P Q : HProp} (h : Ent P Q) : Imp P Q := fun x hx => ⟨x, Heap.sub_refl _, h x hx⟩
theorem Imp.refl (P : HProp) : Imp P P := (Ent.refl P).imp
theorem Imp.trans {P Q R : HProp} (h : Imp P Q) (k : Imp Q R) : Imp P R := fun x hx =>
  let ⟨y, s, hy⟩ := h x hx; let ⟨z, s', hz⟩ := k y hy; ⟨z, Heap.sub_trans s' s, hz⟩
theorem Imp.star {P P' Q Q' : HProp} (h : Imp P P') (k : Imp Q Q') : Imp (P • Q) (P' • Q') := by
  rintro x ⟨a, b, hd, rfl, hp, hq⟩
  obtain ⟨a', sa, hp'⟩ := h a hp
  obtain ⟨b', sb, hq'⟩ := k b hq
  have hd' : a'.disj b' := fun i => by
    cases ha : a' i with
    | none => exact .inl rfl
    | some o =>
      right
      cases hb : b' i with
      | none => rfl
      | some o' =>
        rcases hd i with e | e
        · rw [sa i o ha] at e; cases e
        · rw [sb i o' hb] at e; cases e
  refine ⟨a'.join b', ?_, a', b', hd', rfl, hp', hq'⟩
  intro i o hi
  cases ha : a' i with
  | some u =>
    simp [Heap.join, ha] at hi
    subst hi
    simp [Heap.join, sa i u ha]
  | none =>
    simp [Heap.join, ha] at hi
    exact Heap.sub_join_r hd i o (sb i o hi)
theorem Imp.left {P P' Q : HProp} (h : Imp P P') : Imp (P • Q) (P' • Q) := h.star (.refl _)
theorem Imp.right {P Q Q' : HProp} (h : Imp Q Q') : Imp (P • Q) (P • Q') := (Imp.refl _).star h
theorem Imp.drop {P Q : HProp} : Imp (P • Q) Q := by
  rintro x ⟨a, b, hd, rfl, _, hq⟩; exact ⟨b, Heap.sub_join_r hd, hq⟩
theorem Imp.drop_r {P Q : HProp} : Imp (P • Q) P := by
  rintro x ⟨a, b, _, rfl, hp, _⟩; exact ⟨a, Heap.sub_join_l a b, hp⟩
theorem Imp.ex {α : Sort _} {P : HProp} {f : α → HProp} (x : α) (h : Imp P (f x)) : Imp P (SL.ex f) := fun a ha => let ⟨y, s, hy⟩ := h a ha; ⟨y, s, x, hy⟩
theorem Imp.pure {p : Prop} {P Q : HProp} (hp : p) (h : Imp P Q) : Imp P (SL.pure p • Q) := fun x hx => let ⟨y, s, hy⟩ := h x hx; ⟨y, s, pure_star.2 ⟨hp, hy⟩⟩
theorem Imp.emp (P : HProp) : Imp P SL.emp := fun _ _ => ⟨Heap.empty, fun _ _ h => (by cases h), rfl⟩
theorem Sat.imp {W w : World} {H H' : HProp} (h : Sat W H w) (e : Imp H H') : Sat W H' w :=
  ⟨h.1, let ⟨a, s, x⟩ := h.2; let ⟨b, s', y⟩ := e a x; ⟨b, Heap.sub_trans s' s, y⟩⟩

/-- A new block. -/
theorem Sat.alloc {W w : World} {H : HProp} (h : Sat W H w) (o : Obj) : Sat W (pts w.heap.size o • H) { w with heap := w.heap.push o } := by
  obtain ⟨⟨h1, h2, h3, h4⟩, a, s, x⟩ := h
  refine ⟨⟨h1, h2, h3, by simp; omega⟩, (fun k => if k = w.heap.size then some o else a k), ?_, (fun k => if k = w.heap.size then some o else none), a, ?_, ?_, rfl, x⟩
  · intro k v hk
    simp only [hp, Array.getElem?_push]
    by_cases e : k = w.heap.size
    · simpa [e] using hk
    · simp only [e, if_false] at hk ⊢; exact s k v hk
  · intro k
    by_cases e : k = w.heap.size
    · right
      cases hv : a k with
      | none => rfl
      | some v => have := s k v hv; simp [hp, e] at this
    · left; simp [e]
  · funext k
    by_cases e : k = w.heap.size <;> simp [Heap.join, e]

/-- A block that is owned holds something else now. -/
theorem Sat.set {W w : World} {b : Nat} {o : Obj} {R : HProp} (h : Sat W (pts b o • R) w) (o' : Obj) {w' : World}
    (hs : Same w w') (hb : w'.heap[b]? = some o') (ho : ∀ k, k ≠ b → w'.heap[k]? = w.heap[k]?) : Sat W (pts b o' • R) w' := by
  obtain ⟨h1, _, s, a, c, hd, rfl, rfl, x⟩ := h
  refine ⟨h1.trans hs, _, ?_, (fun k => if k = b then some o' else none), c, ?_, rfl, rfl, x⟩
  · intro k v hk
    by_cases e : k = b
    · subst e; simp [Heap.join] at hk; subst hk; exact hb
    · have : c k = some v := by simpa [Heap.join, e] using hk
      have := s k v (by simp [Heap.join, e, this])
      show w'.heap[k]? = some v
      rw [ho k e]; exact this
  · intro k
    by_cases e : k = b
    · subst e
      rcases hd k with e' | e'
      · simp at e'
      · exact .inr e'
    · left; simp [e]

/-- A draw, or anything that leaves the heap alone. -/
theorem Sat.same {W w w' : World} {H : HProp} (h : Sat W H w) (hs : Same w w') (hh : w'.heap = w.heap) : Sat W H w' := by
  obtain ⟨h1, a, s, x⟩ := h
  exact ⟨h1.trans hs, a, fun k v hk => by show w'.heap[k]? = some v; rw [hh]; exact s k v hk, x⟩
/-- New blocks behind the old ones. -/
theorem Sat.grown {W w w' : World} {H : HProp} (h : Sat W H w) (hs : Same w w') (hh : ∀ k, k < w.heap.size → w'.heap[k]? = w.heap[k]?) : Sat W H w' := by
  obtain ⟨h1, a, s, x⟩ := h
  refine ⟨h1.trans hs, a, fun k v hk => ?_, x⟩
  have e := s k v hk
  have : k < w.heap.size := by
    rcases Nat.lt_or_ge k w.heap.size with h | h
    · exact h
    · simp [hp, Array.getElem?_eq_none h] at e
  show w'.heap[k]? = some v
  rw [hh k this]; exact e

/-- The heap as it was in the base world: nothing of it has turned. -/
def old (W : World) : HProp := fun h => h = hp W
theorem Sat.start (W : World) : Sat W (old W • emp) W := by rw [star_emp]; exact ⟨.refl W, hp W, Heap.sub_refl _, rfl⟩
theorem Sat.old {W U w : World} {R : HProp} (h : Sat W (SL.old U • R) w) (k : Nat) (hk : k < U.heap.size) : w.heap[k]? = U.heap[k]? := by
  obtain ⟨_, a, s, e⟩ := h.left
  have : U.heap[k]? = some U.heap[k] := by simp [hk]
  rw [this]
  exact s k _ (by rw [e]; exact this)

end Go.SL
