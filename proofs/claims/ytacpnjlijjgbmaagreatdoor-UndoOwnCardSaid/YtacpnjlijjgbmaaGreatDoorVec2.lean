/- append that keeps the old row. No condition. -/
import Derived.Test.YtacpnjlijjgbmaaGreatDoorWalk
namespace Go.SL
open Go
section
variable {P : Program} {W : World} {T : Tab} {α : Type} {t : TypeId} {sz : Nat} {enc : α → List Value} {a : Option Addr} {cap : Nat} {xs : List α} {H R : HProp}
/-- append(s, y..): either in place, or the old row stays beside the new one. -/
theorem OpX.append2 (hT : T.ok P) {st yt : TypeId} {s y : Operand} {ty : TypeId} {ev : Operand → Option Value} {K : Value → HProp → Prop} {Kp : List PanicEntry → HProp → Prop}
    {n m : Nat} {yv : Value} {ys : List α} {r1 r2 r3 : TRow}
    (hsz : Sized sz enc) (hone : ∀ ys : List α, ∀ v ∈ ys.flatMap enc, v.oneCell' = true) (h1 : T st = some r1) (h1' : r1.und = .slice t) (h2 : T t = some r2) (h2' : r2.size = sz) (h2'' : r2.cells.length = sz) (h3 : T yt = some r3) (h3' : ∀ k, r3.und ≠ .int k)
    (hs : ev s = some (.slice a n cap)) (hn : n = xs.length) (hy : ev y = some yv) (hsrc : Src P W H yv m sz (ys.flatMap enc)) (hm : ys.length = m)
    (ht : Take H (SL.vec t sz enc a cap xs) R) (hb : 2 * (n + m) * r2.bytes ≤ 281474976710656 ∧ n + m ≤ 9223372036854775807)
    (k1 : n + m ≤ cap → K (.slice a (n + m) cap) (SL.vec t sz enc a cap (xs ++ ys) • R))
    (k2 : ∀ a' cap', K (.slice a' (n + m) cap') (SL.vec t sz enc a' cap' (xs ++ ys) • SL.vec t sz enc a cap xs • R)) :
    OpX P W (.call ⟨.builtin .append, ⟨[s, y]⟩, ⟨[st, yt]⟩⟩) ty ev H K Kp := by
  subst hn hm
  refine ⟨fun w ρ hw he o' ho hty => ?_⟩
  obtain ⟨dst, op, ty', pos, after, guard⟩ := o'
  simp only at ho hty
  subst ho hty
  have hu1 := (hT _ _ h1).und
  rw [h1'] at hu1
  have hu3 := (hT _ _ h3).und
  have hsize : (sizeOf t).run P w = .ok sz w := by rw [TRow.size_run (hT _ _ h2), h2']
  obtain ⟨z, hz, hzc⟩ := TRow.zero_run (w := w) (hT _ _ h2)
  obtain ⟨i2, hi2, _, hbytes, _⟩ := (hT _ _ h2).info
  obtain ⟨hfirst, hlen⟩ := hsrc w hw
  have hnoint : (match r3.und with | TypeDesc.int _ => true | _ => false) = false := by
    cases hr : r3.und <;> first | rfl | exact absurd hr (h3' _)
  have hfl := hsz.flat xs
  have hfy := hsz.flat ys
  have hfa : ∀ zs : List α, (xs ++ zs).flatMap enc = xs.flatMap enc ++ zs.flatMap enc := fun zs => by simp
  rw [ht.eq] at hw
  by_cases hroom : xs.length + ys.length ≤ cap
  · cases hw.vec with
    | nil ha hc hx hs' =>
      have hy0 : ys = [] := by cases ys with | nil => rfl | cons => simp at hroom; omega
      subst hx hy0 ha hc
      refine ⟨.value (.slice none 0 0), w, _, ?_, ?_, k1 hroom⟩
      · simp only [List.flatMap_nil, List.length_nil] at hfirst
        simp [execOp, resolve, invoke, builtin, Builtin.append_, he _ _ hs, he _ _ hy, hu1, hu3, hsize, run_underlying, hlen, hfirst]
      · have := vec_nil (t := t) (sz := sz) (enc := enc) (α := α)
        have h4 : Sat W (emp • R) w := by rw [emp_star]; exact hs'
        exact h4.mono (Ent.left this)
    | mk b off pre junk ha hp hl hj hs' =>
      subst ha
      have hmul : (xs.length + ys.length) * sz ≤ cap * sz := Nat.mul_le_mul_right _ hroom
      rw [Nat.add_mul] at hmul
      have hjl : junk.length = cap * sz - xs.length * sz := by rw [hj, Nat.sub_mul]
      let flat := pre ++ xs.flatMap enc ++ junk
      have hflat : flat.length = off + xs.length * sz + junk.length := by simp [flat, hp, hfl]; omega
      have hst := run_storeCells_at (P := P) b (off + xs.length * sz) t (ys.flatMap enc) 0 ⟨flat⟩ w hs'.at (by simp [hflat, hfy]; omega) (hone ys)
      let flat' := pre ++ (xs ++ ys).flatMap enc ++ junk.drop (ys.length * sz)
      have hnew : (List.take (off + xs.length * sz + 0) flat ++ ys.flatMap enc ++ List.drop (off + xs.length * sz + 0 + (ys.flatMap enc).length) flat) = flat' := by
        simp only [flat', flat, Nat.add_zero, hfa, hfy]
        have e1 : List.take (off + xs.length * sz) (pre ++ xs.flatMap enc ++ junk) = pre ++ xs.flatMap enc := by
          rw [List.take_append_of_le_length (by simp [hp, hfl])]
          exact List.take_of_length_le (by simp [hp, hfl])
        have e2 : List.drop (off + xs.length * sz + ys.length * sz) (pre ++ xs.flatMap enc ++ junk) = junk.drop (ys.length * sz) := by
          rw [← List.drop_drop, List.drop_left' (by simp [hp, hfl])]
        rw [e1, e2]; simp [List.append_assoc]
      rw [hnew] at hst
      refine ⟨.value (.slice (some ⟨b, off, none⟩) (xs.length + ys.length) cap), w.setRow b ⟨flat'⟩, _, ?_, ?_, k1 hroom⟩
      · have hadd : (⟨b, off, none⟩ : Addr).add (xs.length * sz) = ⟨b, off + xs.length * sz, none⟩ := Addr.add_eq _ _ _
        simp [execOp, resolve, invoke, builtin, Builtin.append_, he _ _ hs, he _ _ hy, hu1, hu3, hsize, run_underlying, hlen, hfirst, hroom, hadd, hst]
      · have hset := hs'.set (.cells ⟨flat'⟩ t (0, 0)) (w' := w.setRow b ⟨flat'⟩) ⟨rfl, rfl, rfl, by simp [World.setRow]⟩ (setRow_heap w b _ _ t (0, 0) hs'.at) fun m hm => by simp [World.setRow, Array.getElem?_modify, Ne.symm hm]
        exact hset.mono (Ent.left (vec_some hp (by simpa using hroom) (by simp only [List.length_drop, hjl, List.length_append, Nat.sub_mul, Nat.add_mul]; omega)))
  · have hcap := nextslicecap_le (xs.length + ys.length) cap (by omega)
    have hbig : ¬ 281474976710656 < Builtin.nextslicecap (xs.length + ys.length) cap * r2.bytes := by
      have := Nat.mul_le_mul_right r2.bytes hcap
      omega
    have hold : (Builtin.firstCells sz xs.length (.slice a xs.length cap)).run P w = .ok ⟨xs.flatMap enc⟩ w := (Src.vec (P := P) (H := SL.vec t sz enc a cap xs • R) hsz VecAt.here rfl w hw).1
    have hne : ¬ cap = xs.length + ys.length := by omega
    let q : Question := .appendCap (xs.length + ys.length) cap t
    let nc := q.cut (w.tape w.drawn q)
    have hnc : xs.length + ys.length ≤ nc := by simp only [nc, q, Question.cut]; omega
    let w1 : World := w.drew
    have hs1 : Sat W (SL.vec t sz enc a cap xs • R) w1 := hw.same ⟨rfl, rfl, rfl, Nat.le_refl _⟩ rfl
    let flat := (xs ++ ys).flatMap enc ++ (List.replicate (nc - (xs.length + ys.length)) r2.cells).flatten
    have hold1 : (Builtin.firstCells sz xs.length (.slice a xs.length cap)).run P w1 = .ok ⟨xs.flatMap enc⟩ w1 := (Src.vec (P := P) (H := SL.vec t sz enc a cap xs • R) hsz VecAt.here rfl w1 (hw.same ⟨rfl, rfl, rfl, Nat.le_refl _⟩ rfl)).1
    have hfirst1 : (Builtin.firstCells sz ys.length yv).run P w1 = .ok ⟨ys.flatMap enc⟩ w1 := (hsrc w1 (by rw [ht.eq]; exact hw.same ⟨rfl, rfl, rfl, Nat.le_refl _⟩ rfl)).1
    obtain ⟨z1, hz1, hzc1⟩ := TRow.zero_run (w := w1) (hT _ _ h2)
    refine ⟨.value (.slice (some ⟨w1.heap.size, 0, none⟩) (xs.length + ys.length) nc), { w1 with heap := w1.heap.push (.cells ⟨flat⟩ t (0, 0)) }, _, ?_, ?_, k2 _ nc⟩
    · have hni : ¬ (9223372036854775807 < (xs.length : Int) + ys.length) := by omega
      have hold2 : (Builtin.firstCells sz xs.length (.slice a xs.length cap)).run P w.drew = .ok ⟨xs.flatMap enc⟩ w.drew := hold1
      have hfirst2 : (Builtin.firstCells sz ys.length yv).run P w.drew = .ok ⟨ys.flatMap enc⟩ w.drew := hfirst1
      have hz2 : (zeroValue t).run P w.drew = .ok z1 w.drew := hz1
      simp [execOp, resolve, invoke, builtin, Builtin.append_, he _ _ hs, he _ _ hy, hu1, hu3, hsize, run_underlying, hlen, hroom, typeInfo, hi2, hbytes, hni, hbig, Question.forced, hold2, hfirst2, hz2, newRow, hzc1, run_zeroCells]
      exact ⟨⟨rfl, rfl⟩, by simp only [flat, hfa, List.append_assoc]; rfl⟩
    · have := (hs1.alloc (.cells ⟨flat⟩ t (0, 0)))
      refine this.mono (Ent.left ?_)
      have h5 := vec_some (t := t) (sz := sz) (enc := enc) (b := w1.heap.size) (off := 0) (pre := []) (xs := xs ++ ys) (cap := nc) (junk := (List.replicate (nc - (xs.length + ys.length)) r2.cells).flatten) rfl (by simpa using hnc) (by simp [h2''])
      simpa [flat] using h5

/-- What an operation leaves, said otherwise. -/
theorem OpX.conv {o : Op} {ty : TypeId} {ev : Operand → Option Value} {K0 K : Value → HProp → Prop} {Kp : List PanicEntry → HProp → Prop} (h : OpX P W o ty ev H K0 (fun _ _ => False)) (k : ∀ v H', K0 v H' → ∃ H'', Imp H' H'' ∧ K v H'') : OpX P W o ty ev H K Kp := by
  refine ⟨fun w ρ hw he o' ho hty => ?_⟩
  obtain ⟨r, w', H', h1, h2, h3⟩ := h.run w ρ hw he o' ho hty
  cases r with
  | value v =>
    obtain ⟨H'', hi, hk⟩ := k v H' h3
    exact ⟨_, w', H'', h1, h2.imp hi, hk⟩
  | skip =>
    obtain ⟨H'', hi, hk⟩ := k undef H' h3
    exact ⟨_, w', H'', h1, h2.imp hi, hk⟩
  | enter f args =>
    refine ⟨_, w', H', h1, h2, ?_⟩
    refine Does.post h3 ?_
    intro e w2 H2 hs hq
    cases e with
    | returned v =>
      obtain ⟨H'', hi, hk⟩ := k v H2 hq
      exact ⟨H'', hs.imp hi, hk⟩
    | panicked c => exact hq.elim
    | outgrown => exact hq.elim
  | _ => exact h3.elim
/-- A row that has been made longer, and the row that it was. -/
def appc (t : TypeId) (sz : Nat) (enc : α → List Value) (a : Option Addr) (cap : Nat) (xs : List α) (a' : Option Addr) (cap' : Nat) (x : α) : HProp := fun h =>
  (a' = a ∧ cap' = cap ∧ SL.vec t sz enc a cap (xs ++ [x]) h) ∨ (SL.vec t sz enc a' cap' (xs ++ [x]) • SL.vec t sz enc a cap xs) h
variable {a' : Option Addr} {cap' : Nat} {x : α}
theorem Sat.appc {w : World} (h : Sat W (appc t sz enc a cap xs a' cap' x • R) w) : (a' = a ∧ cap' = cap ∧ Sat W (SL.vec t sz enc a cap (xs ++ [x]) • R) w) ∨ Sat W (SL.vec t sz enc a' cap' (xs ++ [x]) • SL.vec t sz enc a cap xs • R) w := by
  obtain ⟨h1, c, hs, d, e, hd, rfl, hp, hr⟩ := h
  rcases hp with ⟨e1, e2, hp⟩ | hp
  · exact .inl ⟨e1, e2, h1, _, hs, d, e, hd, rfl, hp, hr⟩
  · refine .inr ?_
    rw [← star_assoc]
    exact ⟨h1, _, hs, d, e, hd, rfl, hp, hr⟩
theorem RowC.appNew (hsz : Sized sz enc) : RowC W (SL.appc t sz enc a cap xs a' cap' x • R) a' sz enc (xs ++ [x]) := ⟨fun w hs i y hy => by
  have hv : ∃ b off, a' = some ⟨b, off, none⟩ := by
    rcases Sat.appc hs with ⟨rfl, rfl, h⟩ | h
    · obtain ⟨b, off, h1, _⟩ := (RowC.vec (W := W) (H := SL.vec t sz enc a' cap' (xs ++ [x]) • R) hsz VecAt.here).h w h i y hy
      exact ⟨b, off, h1⟩
    · obtain ⟨b, off, h1, _⟩ := (RowC.vec (W := W) (H := SL.vec t sz enc a' cap' (xs ++ [x]) • SL.vec t sz enc a cap xs • R) hsz VecAt.here).h w h i y hy
      exact ⟨b, off, h1⟩
  obtain ⟨b, off, rfl⟩ := hv
  refine ⟨b, off, rfl, fun j v hj w hs => ?_⟩
  rcases Sat.appc hs with ⟨rfl, rfl, h⟩ | h
  · exact Rd.vec hsz VecAt.here hy hj w h
  · exact Rd.vec hsz VecAt.here hy hj w h⟩
theorem RowC.appOld (hsz : Sized sz enc) : RowC W (SL.appc t sz enc a cap xs a' cap' x • R) a sz enc xs := ⟨fun w hs i y hy => by
  have hi : i < xs.length := by
    rcases Nat.lt_or_ge i xs.length with h | h
    · exact h
    · simp [List.getElem?_eq_none h] at hy
  have hy' : (xs ++ [x])[i]? = some y := by rw [List.getElem?_append_left hi]; exact hy
  have hv : ∃ b off, a = some ⟨b, off, none⟩ := by
    rcases Sat.appc hs with ⟨rfl, rfl, h⟩ | h
    · obtain ⟨b, off, h1, _⟩ := (RowC.vec (W := W) (H := SL.vec t sz enc a' cap' (xs ++ [x]) • R) hsz VecAt.here).h w h i y hy'
      exact ⟨b, off, h1⟩
    · obtain ⟨b, off, h1, _⟩ := (RowC.vec (W := W) (H := SL.vec t sz enc a cap xs • R) hsz VecAt.here).h w h.right i y hy
      exact ⟨b, off, h1⟩
  obtain ⟨b, off, rfl⟩ := hv
  refine ⟨b, off, rfl, fun j v hj w hs => ?_⟩
  rcases Sat.appc hs with ⟨rfl, rfl, h⟩ | h
  · exact Rd.vec hsz VecAt.here hy' hj w h
  · exact Rd.vec hsz VecAt.here hy hj w h.right⟩
instance (priority := 100) RowC.appNewI [s : SizedC sz enc] : RowC W (SL.appc t sz enc a cap xs a' cap' x • R) a' sz enc (xs ++ [x]) := RowC.appNew s.h
instance (priority := 99) RowC.appOldI [s : SizedC sz enc] : RowC W (SL.appc t sz enc a cap xs a' cap' x • R) a sz enc xs := RowC.appOld s.h
/-- append(s, one new element); what s was can still be read. -/
theorem OpX.app1b (hT : T.ok P) {st : TypeId} {s y : Operand} {ty : TypeId} {ev : Operand → Option Value} {K : Value → HProp → Prop} {Kp : List PanicEntry → HProp → Prop}
    {n bl : Nat} {l : List Value} {c1 c2 : List Value} {a1 a2 : Bool} {s1 b1 b2 : Nat} {d : TypeDesc} {R' : HProp} {fz : Nat × Nat}
    [c : VecC H a t sz enc cap xs R] [sc : SizedC sz enc] (hs : ev s = some (.slice a n cap)) (hy : ev y = some (.slice (some ⟨bl, 0, none⟩) 1 1))
    (h1 : T st = some ⟨.slice t, c1, a1, s1, b1⟩) (h2 : T t = some ⟨d, c2, a2, sz, b2⟩)
    [p : PtsC H bl (.cells ⟨l⟩ t fz) R'] (x : α) (hx : enc x = l) (hn : n = xs.length) (hb : 2 * (xs.length + 1) * b2 ≤ 281474976710656 ∧ xs.length + 1 ≤ 9223372036854775807)
    (hl : c2.length = sz ∧ ∀ ys : List α, ∀ v ∈ ys.flatMap enc, v.oneCell' = true)
    (k : ∀ a' cap', K (.slice a' (n + 1) cap') (SL.appc t sz enc a cap xs a' cap' x • R)) :
    OpX P W (.call ⟨.builtin .append, ⟨[s, y]⟩, ⟨[st, st]⟩⟩) ty ev H K Kp := by
  subst hx
  have hd : RdL W H bl 0 (enc x) := by
    rw [p.h.eq]
    exact RdL.pts (n := (enc x).length) (by simp)
  refine OpX.conv (K0 := fun v H' => ∃ a' cap', v = .slice a' (n + 1) cap' ∧ Imp H' (SL.appc t sz enc a cap xs a' cap' x • R)) ?_ ?_
  · refine OpX.append2 hT sc.h hl.2 h1 rfl h2 rfl hl.1 h1 (fun k e => by cases e) hs hn hy (ys := [x]) (by simpa using Src.cells (P := P) (m := 1) (sz := sz) (c := 1) hd (by simp [sc.h x])) rfl c.h (by subst hn; exact hb) (fun _ => ?_) (fun a' cap' => ?_)
    · exact ⟨a, cap, rfl, Imp.left (Ent.imp fun h hh => .inl ⟨rfl, rfl, hh⟩)⟩
    · refine ⟨a', cap', rfl, ?_⟩
      rw [← star_assoc]
      exact Imp.left (Ent.imp fun h hh => .inr hh)
  · rintro v H' ⟨a', cap', rfl, hi⟩
    exact ⟨_, hi, k a' cap'⟩
end
end Go.SL
