/- Slices: parts of a slice, append to nil, a number's place. No condition. -/
import Derived.Test.YtacpnjlijjgbmaaGreatDoorVecAuto
namespace Go.SL
open Go
section
variable {P : Program} {W : World} {T : Tab} {H R X : HProp} {α : Type} {t : TypeId} {sz : Nat} {enc : α → List Value} {a : Option Addr} {cap : Nat} {xs : List α}

instance (priority := 10) RdC.ofPts {b off : Nat} {l : List Value} {fz : Nat × Nat} {v : Value} [i : PtsC H b (.cells ⟨l⟩ t fz) R] [j : LAt l off v] : RdC W H ⟨b, off, none⟩ v :=
  ⟨by have := i.h.eq; subst this; exact Rd.pts j.h⟩
theorem OpX.ofImp {o : Op} {ty : TypeId} {ev : Operand → Option Value} {K : Value → HProp → Prop} {Kp : List PanicEntry → HProp → Prop} {H' : HProp} (hi : Imp H H')
    (h : OpX P W o ty ev H' K Kp) : OpX P W o ty ev H K Kp := ⟨fun w ρ hs => h.run w ρ (hs.imp hi)⟩

/-- append(nil, y..) -/
theorem OpX.appendNil (hT : T.ok P) {st yt : TypeId} {s y : Operand} {ty : TypeId} {ev : Operand → Option Value} {K : Value → HProp → Prop} {Kp : List PanicEntry → HProp → Prop}
    {m : Nat} {yv : Value} {r1 r2 r3 : TRow}
    (enc : α → List Value) (hsz : Sized sz enc) (hone : ∀ ys : List α, ∀ v ∈ ys.flatMap enc, v.oneCell' = true) (h1 : T st = some r1) (h1' : r1.und = .slice t) (h2 : T t = some r2) (h2' : r2.size = sz) (h2'' : r2.cells.length = sz) (h3 : T yt = some r3) (h3' : ∀ k, r3.und ≠ .int k)
    (hs : ev s = some (.slice none 0 0)) (hy : ev y = some yv) (ys : List α) (hsrc : Src P W H yv m sz (ys.flatMap enc)) (hm : ys.length = m)
    (hb : 2 * m * r2.bytes ≤ 281474976710656 ∧ m ≤ 9223372036854775807)
    (k : ∀ a' cap', K (.slice a' m cap') (SL.vec t sz enc a' cap' ys • H)) :
    OpX P W (.call ⟨.builtin .append, ⟨[s, y]⟩, ⟨[st, yt]⟩⟩) ty ev H K Kp := by
  refine OpX.ofImp (H' := SL.vec t sz enc none 0 ([] : List α) • H) ?_ ?_
  · have h := (vec_nil (t := t) (sz := sz) (enc := enc)).imp.left (Q := H)
    rwa [emp_star] at h
  · refine OpX.append hT hsz hone h1 h1' h2 h2' h2'' h3 h3' hs rfl hy (fun w hw => hsrc w hw.right) hm .here (by simpa using hb) ?_
    simpa using k

theorem RdL.take {b off n : Nat} {l : List Value} (h : RdL W H b off l) : RdL W H b off (l.take n) := ⟨fun j v hj => h.rd j v (by
  rw [List.getElem?_take] at hj
  split at hj
  · exact hj
  · cases hj)⟩
theorem RdL.drop {b off n : Nat} {l : List Value} (h : RdL W H b off l) : RdL W H b (off + n) (l.drop n) := ⟨fun j v hj => by
  have := h.rd (n + j) v (by simpa using hj)
  rwa [← Nat.add_assoc] at this⟩
/-- All of its cells. -/
theorem RdL.vecAll {b off : Nat} (hv : VecAt W H t sz enc (some ⟨b, off, none⟩) cap xs) : RdL W H b off (xs.flatMap enc) := ⟨fun j v hj w hs => by
  obtain ⟨R, hR⟩ := hv w hs
  cases hR with
  | nil ha => cases ha
  | mk b' off' pre junk ha hp hl hjj hs =>
    cases ha
    have hlt : j < (xs.flatMap enc).length := by
      rcases Nat.lt_or_ge j (xs.flatMap enc).length with h' | h'
      · exact h'
      · simp [List.getElem?_eq_none h'] at hj
    refine Rd.pts ?_ w hs
    rw [List.append_assoc, List.getElem?_append_right (by omega), show off + j - pre.length = j by omega, List.getElem?_append_left hlt]
    exact hj⟩
theorem flatMap_take (hsz : Sized sz enc) : ∀ (xs : List α) (i : Nat), i ≤ xs.length → (xs.take i).flatMap enc = (xs.flatMap enc).take (i * sz)
  | _, 0, _ => by simp
  | [], i + 1, h => by simp at h
  | x :: xs, i + 1, h => by
    have := flatMap_take hsz xs i (by simpa using h)
    rw [List.take_succ_cons, List.flatMap_cons, List.flatMap_cons, this, show (i + 1) * sz = (enc x).length + i * sz by rw [hsz x, Nat.succ_mul]; omega, List.take_length_add_append]
theorem flatMap_drop (hsz : Sized sz enc) : ∀ (xs : List α) (i : Nat), i ≤ xs.length → (xs.drop i).flatMap enc = (xs.flatMap enc).drop (i * sz)
  | _, 0, _ => by simp
  | [], i + 1, h => by simp at h
  | x :: xs, i + 1, h => by
    have := flatMap_drop hsz xs i (by simpa using h)
    rw [List.drop_succ_cons, List.flatMap_cons, this, show (i + 1) * sz = (enc x).length + i * sz by rw [hsz x, Nat.succ_mul]; omega, List.drop_length_add_append]
/-- s[:i], as a source. -/
theorem Src.take {i c : Nat} (hsz : Sized sz enc) (h : VecAt W H t sz enc a c xs) (hi : i ≤ xs.length) : Src P W H (.slice a i c) i sz ((xs.take i).flatMap enc) := by
  intro w hs
  have hv := h
  obtain ⟨R, hR⟩ := h w hs
  cases hR with
  | nil ha hc hx _ =>
    subst ha hx hc
    have : i = 0 := by simpa using hi
    subst this; exact ⟨rfl, rfl⟩
  | mk b off pre junk ha hp hl hj hs' =>
    subst ha
    rw [flatMap_take hsz _ _ hi]
    refine Src.cells (RdL.vecAll hv).take ?_ w hs
    have := Nat.mul_le_mul_right sz hi
    rw [List.length_take, hsz.flat]; omega
theorem vec_len {w : World} (h : Sat W (SL.vec t sz enc a cap xs • R) w) : xs.length ≤ cap := by
  cases h.vec with
  | nil ha hc hx _ => simp [hx]
  | mk b off pre junk ha hp hl hj hs => exact hl
/-- s[i:], the value. -/
def dropv (a : Option Addr) (i n cap sz : Nat) : Value := .slice (if cap = i then a else a.map (·.add (i * sz))) (n - i) (cap - i)
/-- s[i:], as a source. -/
theorem Src.drop {i c n : Nat} (hsz : Sized sz enc) (h : VecAt W H t sz enc a c xs) (hn : n = xs.length) (hi : i ≤ xs.length) : Src P W H (dropv a i n c sz) (n - i) sz ((xs.drop i).flatMap enc) := by
  subst hn
  intro w hs
  have hv := h
  obtain ⟨R, hR⟩ := h w hs
  cases hR with
  | nil ha hc hx _ =>
    subst ha hx hc
    have : i = 0 := by simpa using hi
    subst this; exact ⟨rfl, rfl⟩
  | mk b off pre junk ha hp hl hj hs' =>
    subst ha
    rw [flatMap_drop hsz _ _ hi]
    unfold dropv
    by_cases hc : c = i
    · have hxi : xs.length = i := by omega
      subst hc
      rw [if_pos rfl, hxi, show c * sz = (xs.flatMap enc).length by rw [hsz.flat, hxi], List.drop_length, Nat.sub_self]
      exact Src.cells (c := 0) ⟨fun _ _ hj => by simp at hj⟩ (by simp) w hs
    · rw [if_neg hc, Option.map_some, Addr.add_eq]
      refine Src.cells (RdL.vecAll hv).drop ?_ w hs
      rw [List.length_drop, hsz.flat, Nat.sub_mul]

/-- s[:i]: the value. -/
theorem OpQ.slh (hT : T.ok P) {st : TypeId} {s i : Operand} {ty : TypeId} {ev : Operand → Option Value} {K : Value → Prop} {n c : Nat} {k : IntKind} {z : Int} {e : TypeId} {c1 : List Value} {a1 : Bool} {s1 b1 : Nat} {r2 : TRow}
    (hs : ev s = some (.slice a n c)) (hi : ev i = some (.int k z)) (h1 : T st = some ⟨.slice e, c1, a1, s1, b1⟩) (h2 : T e = some r2) (hz : 0 ≤ z ∧ z ≤ c) (hk : K (.slice a z.toNat c)) :
    OpQ P W (.slice st s none (some i) none) ty ev H K := by
  refine ⟨_, fun w ρ hw he o' ho hty => ?_, hk⟩
  obtain ⟨dst, op, ty', pos, after, guard⟩ := o'
  simp only at ho hty
  subst ho hty
  have hu := (hT _ _ h1).und
  have hel : P.elem st = e := by simp [Program.elem, hu]
  have hu' : P.underlying st = some (.slice (P.elem st)) := by rw [hel]; exact hu
  have := run_slice_h (P := P) (w := w) st a n c hu' k z hz.1 hz.2
  rw [hel, TRow.size_run (hT _ _ h2)] at this
  have hadd : a.map (fun x => x.add 0) = a := by cases a <;> simp [Addr.add]
  simp [execOp, he _ _ hs, he _ _ hi, run_sliceAt_slice w st _ _ _ _ hu', this, Result.andThen, sliced, hadd]
/-- s[i:]: the value. -/
theorem OpQ.sll (hT : T.ok P) {st : TypeId} {s i : Operand} {ty : TypeId} {ev : Operand → Option Value} {K : Value → Prop} {n c : Nat} {k : IntKind} {z : Int} {e : TypeId} {c1 : List Value} {a1 : Bool} {s1 b1 : Nat} {r2 : TRow}
    (hs : ev s = some (.slice a n c)) (hi : ev i = some (.int k z)) (h1 : T st = some ⟨.slice e, c1, a1, s1, b1⟩) (h2 : T e = some r2) (hz : 0 ≤ z ∧ z ≤ n) (hk : K (dropv a z.toNat n c r2.size)) :
    OpQ P W (.slice st s (some i) none none) ty ev H K := by
  refine ⟨_, fun w ρ hw he o' ho hty => ?_, hk⟩
  obtain ⟨dst, op, ty', pos, after, guard⟩ := o'
  simp only at ho hty
  subst ho hty
  have hu := (hT _ _ h1).und
  have hel : P.elem st = e := by simp [Program.elem, hu]
  have hu' : P.underlying st = some (.slice (P.elem st)) := by rw [hel]; exact hu
  have := run_slice_l (P := P) (w := w) st a n c hu' k z hz.1 hz.2
  rw [hel, TRow.size_run (hT _ _ h2)] at this
  simp [execOp, he _ _ hs, he _ _ hi, run_sliceAt_slice w st _ _ _ _ hu', this, Result.andThen, sliced, dropv]
end
end Go.SL
