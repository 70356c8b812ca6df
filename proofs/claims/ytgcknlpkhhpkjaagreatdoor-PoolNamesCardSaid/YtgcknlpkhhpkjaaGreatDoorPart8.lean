/- make, copy, parts of rows; rows with their lengths. No condition. -/
import Derived.Test.YtgcknlpkhhpkjaaGreatDoorPart6
import Derived.Test.YtgcknlpkhhpkjaaGreatDoorPart7
import Derived.Laws.MakeOwn
import Derived.Laws.CopyRow
import Derived.Laws.IdiomCopy
import Derived.Laws.Small
namespace Go.SL
open Go
section
variable {P : Program} {W : World} {T : Tab} {α : Type} {t : TypeId} {sz : Nat} {enc : α → List Value} {a : Option Addr} {cap : Nat} {xs : List α} {H R : HProp}
/-- A slice of this address and length reads xs. -/
class RowN {α : outParam Type} (W : World) (H : HProp) (a : Option Addr) (n : Nat) (sz : outParam Nat) (enc : outParam (α → List Value)) (xs : outParam (List α)) : Prop where
  row : RowC W H a sz enc xs
  len : n = xs.length
instance (priority := 100) RowN.whole [c : RowC W H a sz enc xs] : RowN W H a xs.length sz enc xs := ⟨c, rfl⟩
instance (priority := 90) RowN.there {X : HProp} {n : Nat} [c : RowN W R a n sz enc xs] : RowN W (X • R) a n sz enc xs := by
  haveI := c.row
  exact ⟨inferInstance, c.len⟩
theorem madeCells_one (z : Value) (n : Nat) : madeCells #[z] n = (List.replicate n z).toArray := by
  simp only [madeCells]
  apply Array.ext
  · simp
  · intro i h1 h2
    simp [Nat.mod_one]
theorem flatMap_rep {x0 : α} {z : Value} (h : enc x0 = [z]) : ∀ n : Nat, (List.replicate n x0).flatMap enc = List.replicate n z
  | 0 => rfl
  | n + 1 => by rw [List.replicate_succ, List.flatMap_cons, h, flatMap_rep h n, List.replicate_succ]; rfl
/-- make([]T, n), of cells of their own. -/
theorem OpX.make (hT : T.ok P) {st e : TypeId} {l c : Operand} {ty : TypeId} {ev : Operand → Option Value} {K : Value → HProp → Prop} {Kp : List PanicEntry → HProp → Prop} {kl kc : IntKind} {n : Int} {z : Value} {c1 : List Value} {a1 a2 : Bool} {s1 b1 b2 : Nat} {d : TypeDesc}
    (enc : α → List Value) (x0 : α) (hl : ev l = some (.int kl n)) (hc : ev c = some (.int kc n)) (h1 : T st = some ⟨.slice e, c1, a1, s1, b1⟩) (h2 : T e = some ⟨d, [z], a2, 1, b2⟩) (hx : enc x0 = [z]) (hz : z.cells = #[z])
    (hn : 0 ≤ n ∧ (b2 : Int) * n ≤ 281474976710656 ∧ n ≤ 9223372036854775807)
    (k : ∀ b, W.heap.size ≤ b → K (.slice (some ⟨b, 0, none⟩) n.toNat n.toNat) (SL.vec e 1 enc (some ⟨b, 0, none⟩) n.toNat (List.replicate n.toNat x0) • H)) :
    OpX P W (.makeSlice st l c) ty ev H K Kp := by
  have hu1 := (hT _ _ h1).und
  obtain ⟨i, hi, hsz, hby, hzz, hone⟩ := (hT _ _ h2).info
  refine ⟨fun w ρ hs he o' ho hty => ?_⟩
  obtain ⟨dst, op, ty', pos, after, guard⟩ := o'
  simp only at ho hty
  subst ho hty
  have hzc : ∃ zz : Value, i.zero = some zz ∧ zz.cells = #[z] := by
    rw [hzz]
    cases a2 with
    | true => exact ⟨_, rfl, rfl⟩
    | false => exact ⟨z, rfl, hz⟩
  obtain ⟨zz, hz1, hz2⟩ := hzc
  have hm := run_make (P := P) w st e i zz hu1 hi hz1 kl kc n n hn.1 (Int.le_refl _) (by rw [hby]; exact hn.2.1) hn.2.2
  rw [hz2, hsz, Nat.mul_one, madeCells_one] at hm
  refine ⟨.value (.slice (some ⟨w.heap.size, 0, none⟩) n.toNat n.toNat), w.alloc (.cells (List.replicate n.toNat z).toArray e), _, ?_, ?_, k w.heap.size hs.1.size⟩
  · simp [execOp, he _ _ hl, he _ _ hc, hm]
  · have hv := vec_new (t := e) (sz := 1) (enc := enc) (xs := List.replicate n.toNat x0) (b := w.heap.size) (l := List.replicate n.toNat z) (by rw [flatMap_rep hx])
    rw [List.length_replicate] at hv
    exact (hs.alloc _).mono (Ent.left hv)

/-- s[lo:hi]: the value. -/
theorem OpQ.slx (hT : T.ok P) {st : TypeId} {s i j : Operand} {ty : TypeId} {ev : Operand → Option Value} {K : Value → Prop} {n c : Nat} {k k' : IntKind} {z y : Int} {e : TypeId} {c1 : List Value} {a1 : Bool} {s1 b1 : Nat} {r2 : TRow} (lo m : Nat)
    (hs : ev s = some (.slice a n c)) (hi : ev i = some (.int k z)) (hj : ev j = some (.int k' y)) (h1 : T st = some ⟨.slice e, c1, a1, s1, b1⟩) (h2 : T e = some r2) (hz : z = (lo : Int)) (hy : y = ((lo + m : Nat) : Int)) (hc : lo + m ≤ c) (hk : K (.slice (dropA a lo c r2.size) m (c - lo))) :
    OpQ P W (.slice st s (some i) (some j) none) ty ev H K := by
  refine ⟨_, fun w ρ hw he o' ho hty => ?_, hk⟩
  obtain ⟨dst, op, ty', pos, after, guard⟩ := o'
  simp only at ho hty
  subst ho hty
  have hu := (hT _ _ h1).und
  have hel : P.elem st = e := by simp [Program.elem, hu]
  have hu' : P.underlying st = some (.slice (P.elem st)) := by rw [hel]; exact hu
  have := run_slice_lh (P := P) (w := w) st a n c hu' k k' z y (by omega) (by omega) (by omega)
  have e1 : z.toNat = lo := by omega
  have e2 : y.toNat = lo + m := by omega
  have e3 : lo + m - lo = m := by omega
  rw [hel, TRow.size_run (hT _ _ h2), e1, e2] at this
  simp [execOp, he _ _ hs, he _ _ hi, he _ _ hj, run_sliceAt_slice w st _ _ _ _ hu', this, Result.andThen, sliced, dropA, e3]
theorem OpX.slx (hT : T.ok P) {st : TypeId} {s i j : Operand} {ty : TypeId} {ev : Operand → Option Value} {K : Value → HProp → Prop} {Kp : List PanicEntry → HProp → Prop} {n c : Nat} {k k' : IntKind} {z y : Int} {e : TypeId} {c1 : List Value} {a1 : Bool} {s1 b1 : Nat} {r2 : TRow} (lo m : Nat)
    (hs : ev s = some (.slice a n c)) (hi : ev i = some (.int k z)) (hj : ev j = some (.int k' y)) (h1 : T st = some ⟨.slice e, c1, a1, s1, b1⟩) (h2 : T e = some r2) (hz : z = (lo : Int)) (hy : y = ((lo + m : Nat) : Int)) (hc : lo + m ≤ c) (hk : K (.slice (dropA a lo c r2.size) m (c - lo)) H) :
    OpX P W (.slice st s (some i) (some j) none) ty ev H K Kp := OpX.of_quiet (OpQ.slx hT lo m hs hi hj h1 h2 hz hy hc hk)

/-- A part of a row that owns its cells. -/
theorem RowC.sub {m : Nat} (z : Nat) [s : SizedC sz enc] [c : VecC H a t sz enc cap xs R] : RowC W H (dropA a z cap sz) sz enc ((xs.drop z).take m) := by
  refine RowC.take m ⟨fun w hs i x hx => ?_⟩
  have hl : xs.length ≤ cap := by
    have hw := hs
    rw [c.h.eq] at hw
    exact vec_len hw
  have hc : RowC W H a sz enc xs := RowC.vec s.h c.at'
  exact (RowC.drop z cap hl hc).h w hs i x hx
/-- copy(s[z:..], y): over cells of s itself. -/
theorem OpX.cpy (hT : T.ok P) {st yt : TypeId} {s y : Operand} {ty : TypeId} {ev : Operand → Option Value} {K : Value → HProp → Prop} {Kp : List PanicEntry → HProp → Prop} {e : TypeId} {b : Option Addr} {ys : List α}
    {z dn dc m mc : Nat} {c1 c2 : List Value} {a1 a2 : Bool} {s1 b1 b2 : Nat} {d : TypeDesc} {enc : α → List Value}
    [c : VecC H a t 1 enc cap xs R] [sc : SizedC 1 enc] [ro : RowC W H b 1 enc ys] (hs : ev s = some (.slice (dropA a z cap 1) dn dc)) (hy : ev y = some (.slice b m mc))
    (h1 : T st = some ⟨.slice e, c1, a1, s1, b1⟩) (h2 : T e = some ⟨d, c2, a2, 1, b2⟩) (hm : m = ys.length) (hz : z + dn ≤ xs.length)
    (hl : ∀ ys : List α, ∀ v ∈ ys.flatMap enc, v.oneCell' = true)
    (k : K (.int .i64 (min m dn : Nat)) (SL.vec t 1 enc a cap (xs.take z ++ ys.take (min m dn) ++ xs.drop (z + min m dn)) • R)) :
    OpX P W (.call ⟨.builtin .copy, ⟨[s, y]⟩, ⟨[st, yt]⟩⟩) ty ev H K Kp := by
  subst hm
  have hu1 := (hT _ _ h1).und
  obtain ⟨i2, hi2, hsz, _⟩ := (hT _ _ h2).info
  have hs1 : (P.info? e).map (·.size) = some 1 := by rw [hi2]; simpa using hsz
  refine ⟨fun w ρ hw he o' ho hty => ?_⟩
  obtain ⟨dst, op, ty', pos, after, guard⟩ := o'
  simp only at ho hty
  subst ho hty
  by_cases h0 : min ys.length dn = 0
  · have hv := run_copy_none (P := P) w st yt ty' e (dropA a z cap 1) b dn dc ys.length mc hu1 hs1 h0
    rw [h0] at k
    simp only [List.take_zero, List.append_nil, Nat.add_zero, List.take_append_drop] at k
    refine ⟨.value (.int .i64 0), w, _, ?_, hw, ?_⟩
    · simp [execOp, resolve, invoke, builtin, he _ _ hs, he _ _ hy, hv, goInt]
    · rw [c.h.eq]; exact k
  · obtain ⟨zs, hzs⟩ : ∃ zs, zs = ys.take (min ys.length dn) := ⟨_, rfl⟩
    have hzl : zs.length = min ys.length dn := by rw [hzs]; simp
    obtain ⟨y0, hy0⟩ : ∃ y0, ys[0]? = some y0 := by
      cases ys with
      | nil => simp at h0
      | cons y l => exact ⟨y, rfl⟩
    obtain ⟨bb, bo, rfl, _⟩ := ro.h w hw 0 y0 hy0
    have hfl : ∀ l : List α, (l.flatMap enc).length = l.length := fun l => by rw [sc.h.flat, Nat.mul_one]
    have hsrc : ∀ j v, (zs.flatMap enc)[j]? = some v → w.cell? ((⟨bb, bo, none⟩ : Addr).add j) = some v := by
      intro j v hj
      have hjl : j < zs.length := by rw [← hfl]; exact (List.getElem?_eq_some_iff.1 hj).1
      have hjy : ys[j]? = some ys[j] := List.getElem?_eq_getElem (by omega)
      have hjz : zs[j]? = some ys[j] := by subst hzs; rw [List.getElem?_take_of_lt (by omega)]; exact hjy
      obtain ⟨b', o', e', hcell⟩ := ro.h w hw j _ hjy
      cases e'
      have h3 := Sized.get sc.h zs j 0 ys[j] ((enc ys[j])[0]'(by rw [sc.h]; exact Nat.one_pos)) hjz (List.getElem?_eq_getElem _)
      rw [Nat.mul_one, Nat.add_zero, hj] at h3
      have h5 : (enc ys[j])[0]? = some v := by rw [h3]; exact List.getElem?_eq_getElem _
      have h4 := hcell 0 v h5
      rw [Nat.mul_one, Nat.add_zero] at h4
      rw [Addr.add_eq]
      exact h4 w hw
    have hw0 := hw
    rw [c.h.eq] at hw
    cases hw.vec with
    | nil ha hc hx hs' => subst hx; simp at hz; omega
    | mk g off pre junk ha hp hl' hj hs' =>
      subst ha
      have hda : dropA (some ⟨g, off, none⟩) z cap 1 = some ⟨g, off + z, none⟩ := by
        unfold dropA
        rw [if_neg (by omega), Option.map_some, Addr.add_eq, Nat.mul_one]
      let cur : List Value := pre ++ xs.flatMap enc ++ junk
      have hcur : cur.length = off + xs.length + junk.length := by simp [cur, hp, hfl]; omega
      have hcp := run_copy_row (P := P) w st yt ty' e g (off + z) dn dc ⟨bb, bo, none⟩ ys.length mc ⟨cur⟩ t (zs.flatMap enc) hu1 hs1 hs'.at (by rw [hfl, hzl]) hsrc (by rw [hfl, hzl]; show _ ≤ cur.length; omega) (hl zs)
      rw [hfl, hzl] at hcp
      have hnew : (cur.take (off + z) ++ zs.flatMap enc ++ cur.drop (off + z + min ys.length dn)) = pre ++ (xs.take z ++ zs ++ xs.drop (z + min ys.length dn)).flatMap enc ++ junk := by
        have e1 : cur.take (off + z) = pre ++ (xs.take z).flatMap enc := by
          have : off + z = pre.length + z := by omega
          rw [this]
          simp only [cur, List.append_assoc, List.take_length_add_append]
          rw [List.take_append_of_le_length (by rw [hfl]; omega), flatMap_take sc.h xs z (by omega), Nat.mul_one]
        have e2 : cur.drop (off + z + min ys.length dn) = (xs.drop (z + min ys.length dn)).flatMap enc ++ junk := by
          have : off + z + min ys.length dn = pre.length + (z + min ys.length dn) := by omega
          rw [this]
          simp only [cur, List.append_assoc, List.drop_length_add_append]
          rw [List.drop_append_of_le_length (by rw [hfl]; omega), flatMap_drop sc.h xs _ (by omega), Nat.mul_one]
        rw [e1, e2]; simp
      have hlen2 : (xs.take z ++ zs ++ xs.drop (z + min ys.length dn)).length = xs.length := by simp [hzl]; omega
      subst hzs
      refine ⟨.value (.int .i64 (min ys.length dn : Nat)), w.setRow g (cur.take (off + z) ++ (ys.take (min ys.length dn)).flatMap enc ++ cur.drop (off + z + min ys.length dn)).toArray, _, ?_, ?_, k⟩
      · simp [execOp, resolve, invoke, builtin, he _ _ hs, he _ _ hy, hda, hcp, goInt]
      · have h5 := hs'.set (o' := .cells ⟨pre ++ (xs.take z ++ ys.take (min ys.length dn) ++ xs.drop (z + min ys.length dn)).flatMap enc ++ junk⟩ t (0, 0)) (w' := w.setRow g (cur.take (off + z) ++ (ys.take (min ys.length dn)).flatMap enc ++ cur.drop (off + z + min ys.length dn)).toArray) ?_ ?_ ?_
        · exact h5.mono (Ent.left (vec_some hp (by omega) (by rw [hlen2]; exact hj)))
        · exact ⟨rfl, rfl, rfl, by simp⟩
        · rw [setRow_heap w g _ _ t _ hs'.at, hnew]
        · intro j hj
          exact setRow_other w g j _ hj
/-- Each cell is one cell. -/
class OneC {α : Type} (enc : α → List Value) : Prop where h : ∀ ys : List α, ∀ v ∈ ys.flatMap enc, v.oneCell' = true
/-- append([]T{}, y..) -/
theorem OpX.appE (hT : T.ok P) {st : TypeId} {s y : Operand} {ty : TypeId} {ev : Operand → Option Value} {K : Value → HProp → Prop} {Kp : List PanicEntry → HProp → Prop} {b : Option Addr} {ys : List α} {bl : Nat} {R' : HProp}
    {m cap' : Nat} {c1 c2 : List Value} {a1 a2 : Bool} {s1 b1 b2 : Nat} {d : TypeDesc}
    [p : PtsC H bl (.cells ⟨[]⟩ t (0, 0)) R'] [sc : SizedC sz enc] [oc : OneC enc] [e : RowC W H b sz enc ys] (hs : ev s = some (.slice (some ⟨bl, 0, none⟩) 0 0)) (hy : ev y = some (.slice b m cap'))
    (h1 : T st = some ⟨.slice t, c1, a1, s1, b1⟩) (h2 : T t = some ⟨d, c2, a2, sz, b2⟩) (hl : c2.length = sz) (hm : m = ys.length) (hb : 2 * ys.length * b2 ≤ 281474976710656 ∧ ys.length ≤ 9223372036854775807)
    (k : ∀ a' cap', K (.slice a' m cap') (SL.vec t sz enc a' cap' ys • R')) :
    OpX P W (.call ⟨.builtin .append, ⟨[s, y]⟩, ⟨[st, st]⟩⟩) ty ev H K Kp := by
  subst hm
  refine OpX.appendI (xs := ([] : List α)) (R := R') hT sc.h oc.h h1 rfl h2 rfl hl h1 (fun k e => by cases e) hs rfl hy (ys := ys) (RowC.src sc.h rfl) rfl ?_ (by simpa using hb) (fun a' c' => ?_)
  · rw [p.h.eq]
    exact Imp.left (vec_new (xs := ([] : List α)) rfl).imp
  · have := k a' c'
    rwa [← Nat.zero_add ys.length] at this
/-- append(s, y..), append(s, x), append(nil, y..): as they come. -/
theorem OpX.appRg (hT : T.ok P) {st : TypeId} {s y : Operand} {ty : TypeId} {ev : Operand → Option Value} {K : Value → HProp → Prop} {Kp : List PanicEntry → HProp → Prop} {b : Option Addr} {ys : List α}
    {n m cap cap' : Nat} {c1 c2 : List Value} {a1 a2 : Bool} {s1 b1 b2 : Nat} {d : TypeDesc}
    [c : VecC H a t sz enc cap xs R] [sc : SizedC sz enc] [oc : OneC enc] [e : RowC W H b sz enc ys] (hs : ev s = some (.slice a n cap)) (hy : ev y = some (.slice b m cap'))
    (h1 : T st = some ⟨.slice t, c1, a1, s1, b1⟩) (h2 : T t = some ⟨d, c2, a2, sz, b2⟩) (hl : c2.length = sz) (hn : n = xs.length) (hm : m = ys.length) (hb : 2 * (xs.length + ys.length) * b2 ≤ 281474976710656 ∧ xs.length + ys.length ≤ 9223372036854775807)
    (k : ∀ a' cap', K (.slice a' (xs ++ ys).length cap') (SL.vec t sz enc a' cap' (xs ++ ys) • R)) :
    OpX P W (.call ⟨.builtin .append, ⟨[s, y]⟩, ⟨[st, st]⟩⟩) ty ev H K Kp := by
  refine OpX.appR hT hs hy h1 h2 hn hm hb ⟨hl, oc.h⟩ (fun a' c' => ?_)
  have := k a' c'
  rwa [List.length_append, ← hn, ← hm] at this
theorem OpX.app1g (hT : T.ok P) {st : TypeId} {s y : Operand} {ty : TypeId} {ev : Operand → Option Value} {K : Value → HProp → Prop} {Kp : List PanicEntry → HProp → Prop}
    {n bl : Nat} {l : List Value} {c1 c2 : List Value} {a1 a2 : Bool} {s1 b1 b2 : Nat} {d : TypeDesc} {R' : HProp} {fz : Nat × Nat}
    [c : VecC H a t sz enc cap xs R] [sc : SizedC sz enc] [oc : OneC enc] (hs : ev s = some (.slice a n cap)) (hy : ev y = some (.slice (some ⟨bl, 0, none⟩) 1 1))
    (h1 : T st = some ⟨.slice t, c1, a1, s1, b1⟩) (h2 : T t = some ⟨d, c2, a2, sz, b2⟩) (hl : c2.length = sz)
    [p : PtsC H bl (.cells ⟨l⟩ t fz) R'] {x : α} [dx : DecOf enc l x] (hn : n = xs.length) (hb : 2 * (xs.length + 1) * b2 ≤ 281474976710656 ∧ xs.length + 1 ≤ 9223372036854775807)
    (k : ∀ a' cap', K (.slice a' (xs ++ [x]).length cap') (SL.vec t sz enc a' cap' (xs ++ [x]) • R)) :
    OpX P W (.call ⟨.builtin .append, ⟨[s, y]⟩, ⟨[st, st]⟩⟩) ty ev H K Kp := by
  refine OpX.app1 hT hs hy h1 h2 x dx.h hn hb ⟨hl, oc.h⟩ (fun a' c' => ?_)
  have := k a' c'
  rwa [List.length_append, ← hn] at this
/-- A cell of a row, by its place. -/
theorem Ld.rx {b off i : Nat} {K : Value → Prop} [c : RowC W H (some ⟨b, off, none⟩) 1 enc xs] (hi : i < xs.length) (hk : ∀ x, xs[i]? = some x → ∃ u, enc x = [u] ∧ K u) : Ld W H ⟨b, off + i * 1, none⟩ K := by
  obtain ⟨v, e, k⟩ := hk _ (List.getElem?_eq_getElem hi)
  exact Ld.r0 (List.getElem?_eq_getElem hi) (by rw [e]; rfl) k
theorem Ar.i64d {n c : Int} {K : Int → Prop} (h : 0 ≤ n ∧ n ≤ 9223372036854775807) (hc : 0 < c) (hk : K (n / c)) : Ar .i64 (n.tdiv c) K := by
  rw [Int.tdiv_eq_ediv_of_nonneg h.1]
  refine Ar.i64 ⟨?_, ?_⟩ hk
  · have := Int.ediv_nonneg h.1 (Int.le_of_lt hc); omega
  · have := Int.ediv_le_self c h.1; omega
theorem OpQ.maxB {x y : Operand} {tys : Array TypeId} {ty : TypeId} {ev : Operand → Option Value} {K : Value → Prop} {k k' : IntKind} {n m : Int} (hx : ev x = some (.int k n)) (hy : ev y = some (.int k' m)) (hk : K (.int k (max n m))) : OpQ P W (.call ⟨.builtin .max, ⟨[x, y]⟩, tys⟩) ty ev H K := by
  refine ⟨_, fun w ρ hw he o' ho hty => ?_, hk⟩
  obtain ⟨dst, op, ty', pos, after, guard⟩ := o'
  simp only at ho hty
  subst ho hty
  have : (if m > n then m else n) = max n m := by rw [Int.max_def]; split <;> split <;> omega
  simp [execOp, resolve, invoke, builtin, he _ _ hx, he _ _ hy, run_max_int2, this]
theorem OpQ.minB {x y : Operand} {tys : Array TypeId} {ty : TypeId} {ev : Operand → Option Value} {K : Value → Prop} {k k' : IntKind} {n m : Int} (hx : ev x = some (.int k n)) (hy : ev y = some (.int k' m)) (hk : K (.int k (min n m))) : OpQ P W (.call ⟨.builtin .min, ⟨[x, y]⟩, tys⟩) ty ev H K := by
  refine ⟨_, fun w ρ hw he o' ho hty => ?_, hk⟩
  obtain ⟨dst, op, ty', pos, after, guard⟩ := o'
  simp only at ho hty
  subst ho hty
  have : (if m < n then m else n) = min n m := by rw [Int.min_def]; split <;> split <;> omega
  simp [execOp, resolve, invoke, builtin, he _ _ hx, he _ _ hy, run_min_int2, this]
theorem OpX.maxB {x y : Operand} {tys : Array TypeId} {ty : TypeId} {ev : Operand → Option Value} {K : Value → HProp → Prop} {Kp : List PanicEntry → HProp → Prop} {k k' : IntKind} {n m : Int} (hx : ev x = some (.int k n)) (hy : ev y = some (.int k' m)) (hk : K (.int k (max n m)) H) : OpX P W (.call ⟨.builtin .max, ⟨[x, y]⟩, tys⟩) ty ev H K Kp := OpX.of_quiet (OpQ.maxB hx hy hk)
theorem OpX.minB {x y : Operand} {tys : Array TypeId} {ty : TypeId} {ev : Operand → Option Value} {K : Value → HProp → Prop} {Kp : List PanicEntry → HProp → Prop} {k k' : IntKind} {n m : Int} (hx : ev x = some (.int k n)) (hy : ev y = some (.int k' m)) (hk : K (.int k (min n m)) H) : OpX P W (.call ⟨.builtin .min, ⟨[x, y]⟩, tys⟩) ty ev H K Kp := OpX.of_quiet (OpQ.minB hx hy hk)
/-- copy(s[z:..], y), y no longer than its room. -/
theorem OpX.cpyW (hT : T.ok P) {st yt : TypeId} {s y : Operand} {ty : TypeId} {ev : Operand → Option Value} {K : Value → HProp → Prop} {Kp : List PanicEntry → HProp → Prop} {e : TypeId} {b : Option Addr} {ys : List α}
    {z dn dc m mc : Nat} {c1 c2 : List Value} {a1 a2 : Bool} {s1 b1 b2 : Nat} {d : TypeDesc} {enc : α → List Value}
    [c : VecC H a t 1 enc cap xs R] [sc : SizedC 1 enc] [oc : OneC enc] (ro : RowC W H b 1 enc ys) (hs : ev s = some (.slice (dropA a z cap 1) dn dc)) (hy : ev y = some (.slice b m mc))
    (h1 : T st = some ⟨.slice e, c1, a1, s1, b1⟩) (h2 : T e = some ⟨d, c2, a2, 1, b2⟩) (hm : m = ys.length) (hd : ys.length ≤ dn) (hz : z + dn ≤ xs.length)
    (k : K (.int .i64 m) (SL.vec t 1 enc a cap (xs.take z ++ ys ++ xs.drop (z + ys.length)) • R)) :
    OpX P W (.call ⟨.builtin .copy, ⟨[s, y]⟩, ⟨[st, yt]⟩⟩) ty ev H K Kp := by
  subst hm
  have e1 : min ys.length dn = ys.length := Nat.min_eq_left hd
  refine OpX.cpy hT hs hy h1 h2 rfl hz oc.h ?_
  rw [e1, List.take_of_length_le (Nat.le_refl _)]
  exact k
class MemC {α : Type} (l : List α) (x : α) : Prop where h : x ∈ l
theorem bigL_mem {α : Type} (f : α → HProp) {l : List α} {x : α} (h : x ∈ l) : ∃ R, bigL f l = (f x • R) := by
  obtain ⟨i, hi⟩ := List.getElem?_of_mem h
  exact ⟨_, bigL_take f l i x hi⟩
theorem bigL_snoc {α : Type} (f : α → HProp) (l : List α) (x : α) : bigL f (l ++ [x]) = (f x • bigL f l) := by
  rw [bigL_append, star_comm]
  show ((f x • emp) • bigL f l) = _
  rw [star_emp]
/-- A row that is handed out has its room. -/
theorem Does.vlen {f : FuncId} {args : Array Value} {V : Option Addr → Nat → Value} (h : Does P W f args H (Ret fun v G => ∃ a c, v = V a c ∧ G = (SL.vec t sz enc a c xs • R))) :
    Does P W f args H (Ret fun v G => ∃ a c, xs.length ≤ c ∧ v = V a c ∧ G = (SL.vec t sz enc a c xs • R)) := by
  refine h.post fun e w H' hs hq => ?_
  obtain ⟨v, G, he, hi, a, c, hv, hG⟩ := hq
  exact ⟨H', hs, v, G, he, hi, a, c, vec_len (by have := hs.imp hi; rw [hG] at this; exact this), hv, hG⟩
/-- What stays of a heap where rows of its own are made longer or written: its blocks, not its rows. -/
class KeepC (H : HProp) (A : outParam HProp) : Prop where h : Imp H A
instance (priority := 10) KeepC.all : KeepC H H := ⟨Imp.refl _⟩
instance (priority := 50) KeepC.star {X A : HProp} [k : KeepC R A] : KeepC (X • R) (X • A) := ⟨Imp.right k.h⟩
instance (priority := 100) KeepC.vec {A : HProp} [k : KeepC R A] : KeepC (SL.vec t sz enc a cap xs • R) A := ⟨Imp.trans Imp.drop k.h⟩
instance (priority := 100) KeepC.big {β : Type} {f : β → HProp} {l : List β} {A : HProp} [k : KeepC R A] : KeepC (bigL f l • R) A := ⟨Imp.trans Imp.drop k.h⟩
instance (priority := 110) KeepC.vecl : KeepC (SL.vec t sz enc a cap xs) emp := ⟨Imp.emp _⟩
theorem DrawK.introK {N : Nat} (hT : T.ok P) (hm : P.follows .mixedOrders = true) {ops : List Oper} (n : Nat) (F plan : List Nat) {A : HProp} {fr : Fr} {ds : List Deferred} {K : ContK} {Kp : PanK} [k : KeepC H A]
    (_ : fstDst ops = n) (hp : plannedOk ops F plan = true) (h : execPlan P W T N A ops F plan fr ds H K fun c _ ds H => Kp c [] ds H) : DrawK P W T N ops fr ds H K Kp := DrawK.intro hT hm F plan A hp (Sub.of k.h) h
end
end Go.SL
/- A disk, in plain words: its bytv, its pending writes, how it crashes. No condition. -/
namespace Go.SL.Sec
open Go Go.SL
/-- A number brought to 64 bits. -/
def wr (z : Int) : Int := (z + 9223372036854775808) % 18446744073709551616 - 9223372036854775808
theorem wr_in (z : Int) : -9223372036854775808 ≤ wr z ∧ wr z ≤ 9223372036854775807 := by unfold wr; omega
def bytv : Int → List Value := one (Value.int .u8)
def u64s : Int → List Value := one (Value.int .u64)
instance : SizedC 1 bytv := ⟨Sized.one _⟩
instance : SizedC 1 u64s := ⟨Sized.one _⟩
theorem bytes_one : ∀ ys : List Int, ∀ v ∈ ys.flatMap bytv, v.oneCell' = true := by
  intro ys v hv
  obtain ⟨d, _, hv⟩ := List.mem_flatMap.1 hv
  simp only [bytv, one, List.mem_cons, List.not_mem_nil, or_false] at hv
  subst hv; rfl
theorem u64s_one : ∀ ys : List Int, ∀ v ∈ ys.flatMap u64s, v.oneCell' = true := by
  intro ys v hv
  obtain ⟨d, _, hv⟩ := List.mem_flatMap.1 hv
  simp only [u64s, one, List.mem_cons, List.not_mem_nil, or_false] at hv
  subst hv; rfl
instance : OneC bytv := ⟨bytes_one⟩
instance : OneC u64s := ⟨u64s_one⟩
instance {z : Int} : DecOf bytv [.int .u8 z] z := ⟨rfl⟩
instance {z : Int} : DecOf u64s [.int .u64 z] z := ⟨rfl⟩
/-- They are bytv. -/
def Byt (l : List Int) : Prop := ∀ b ∈ l, 0 ≤ b ∧ b < 256
theorem Byt.nil : Byt [] := fun b h => (by cases h)
theorem Byt.append {l r : List Int} (h : Byt l) (k : Byt r) : Byt (l ++ r) := fun b hb => (List.mem_append.1 hb).elim (h b) (k b)
theorem Byt.take {l : List Int} (h : Byt l) (n : Nat) : Byt (l.take n) := fun b hb => h b (List.mem_of_mem_take hb)
theorem Byt.drop {l : List Int} (h : Byt l) (n : Nat) : Byt (l.drop n) := fun b hb => h b (List.mem_of_mem_drop hb)
theorem Byt.rep (n : Nat) : Byt (List.replicate n 0) := fun b hb => by obtain rfl := List.eq_of_mem_replicate hb; decide
/-- A disk: its durable bytv; its pending writes; the call that it crashes at (0: none), and with which loss; is it down; how many changing calls. -/
structure Dev where
  img : List Int
  q : List (Int × List Int)
  step : Int
  keep : List Int
  torn : Int
  off : Int
  down : Bool
  calls : Int
/-- The first bytv of a sector become these. -/
def layAt (m : List Int) (i : Int) (b : List Int) : List Int := m.take (i.toNat * 512) ++ b ++ m.drop (i.toNat * 512 + b.length)
theorem layAt_len {m : List Int} {i : Int} {b : List Int} (h : i.toNat * 512 + b.length ≤ m.length) : (layAt m i b).length = m.length := by
  simp [layAt]; omega
def secOf (m : List Int) (i : Int) : List Int := (m.drop (i.toNat * 512)).take 512
/-- A sector's content: of its pending writes the last one. -/
def lastOf (i : Int) : List (Int × List Int) → Option (List Int)
  | [] => none
  | p :: q => match lastOf i q with
    | some b => some b
    | none => if p.1 = i then some p.2 else none
def Dev.at (D : Dev) (i : Int) : List Int := (lastOf i D.q).getD (secOf D.img i)
def keptB (keep : List Int) (k : Nat) : Bool := match keep[k / 64]? with
  | some z => decide (z / 2 ^ (k % 64) % 2 = 1)
  | none => false
/-- What a crash does, from pending write number k on. -/
def fallG (keep : List Int) (torn off : Int) : Nat → List (Int × List Int) → List Int → List Int
  | _, [], m => m
  | k, p :: q, m => fallG keep torn off (k + 1) q (if keptB keep k then layAt m p.1 p.2 else if (k : Int) = torn then layAt m p.1 (p.2.take (min (max off 0) 512).toNat) else m)
def flushG : List (Int × List Int) → List Int → List Int
  | [], m => m
  | p :: q, m => flushG q (layAt m p.1 p.2)
def Dev.fallen (D : Dev) (keep : List Int) (torn off : Int) : Dev := { D with img := fallG keep torn off 0 D.q D.img, q := [], step := 0, keep := [], torn := 0, off := 0, down := true }
/-- One more changing call. -/
def Dev.counted (D : Dev) : Dev := { D with calls := wr (D.calls + 1), step := if D.step = 0 then 0 else D.step - 1 }
def Dev.crashes (D : Dev) : Bool := decide (D.step = 1)
def Dev.secs (D : Dev) : Int := (D.img.length : Int) / 512
def Dev.write (D : Dev) (i : Int) (b : List Int) : Int × Dev :=
  if D.down then (40, D) else if i < 0 ∨ i ≥ D.secs then (41, D) else if b.length ≠ 512 then (42, D) else
  if D.crashes then (40, { D.counted with q := D.q ++ [(i, b)] }.fallen D.keep D.torn D.off) else (0, { D.counted with q := D.q ++ [(i, b)] })
def Dev.sync (D : Dev) : Int × Dev :=
  if D.down then (40, D) else if D.crashes then (40, D.counted.fallen D.keep D.torn D.off) else (0, { D.counted with img := flushG D.q D.img, q := [] })
def Dev.read (D : Dev) (i : Int) : Int × List Int := if D.down then (40, []) else if i < 0 ∨ i ≥ D.secs then (41, []) else (0, D.at i)
def Dev.arm (D : Dev) (step : Int) (keep : List Int) (torn off : Int) : Int × Dev :=
  if D.down then (40, D) else if step < 0 then (4, D) else (0, { D with step := step, keep := keep, torn := torn, off := off })
def Dev.crash (D : Dev) (keep : List Int) (torn off : Int) : Int × Dev := if D.down then (40, D) else (0, D.fallen keep torn off)
def Dev.up (D : Dev) : Dev := { D with down := false, step := 0 }
/-- A right disk: of n sectors. -/
structure Dev.Ok (D : Dev) : Prop where
  len : D.img.length % 512 = 0
  pos : 512 ≤ D.img.length ∧ D.img.length ≤ 4194304
  byt : Byt D.img
  q : ∀ p ∈ D.q, 0 ≤ p.1 ∧ p.1.toNat * 512 + 512 ≤ D.img.length ∧ p.2.length = 512 ∧ Byt p.2
  step : 0 ≤ D.step ∧ D.step ≤ 9223372036854775807
  calls : -9223372036854775808 ≤ D.calls ∧ D.calls ≤ 9223372036854775807
theorem layAt_byt {m : List Int} {i : Int} {b : List Int} (h : Byt m) (k : Byt b) : Byt (layAt m i b) := ((h.take _).append k).append (h.drop _)
theorem fallG_ok {keep : List Int} {torn off : Int} : ∀ (q : List (Int × List Int)) (k : Nat) (m : List Int), (∀ p ∈ q, 0 ≤ p.1 ∧ p.1.toNat * 512 + 512 ≤ m.length ∧ p.2.length = 512 ∧ Byt p.2) → Byt m → (fallG keep torn off k q m).length = m.length ∧ Byt (fallG keep torn off k q m)
  | [], _, _, _, h => ⟨rfl, h⟩
  | p :: q, k, m, hq, hm => by
    obtain ⟨h1, h2, h3, h4⟩ := hq p List.mem_cons_self
    have key : ∀ m' : List Int, m'.length = m.length → Byt m' → (fallG keep torn off (k + 1) q m').length = m.length ∧ Byt (fallG keep torn off (k + 1) q m') := fun m' hl hb => by
      have := fallG_ok (keep := keep) (torn := torn) (off := off) q (k + 1) m' (fun p' hp' => by rw [hl]; exact hq p' (List.mem_cons_of_mem _ hp')) hb
      exact ⟨this.1.trans hl, this.2⟩
    unfold fallG
    split
    · exact key _ (layAt_len (by omega)) (layAt_byt hm h4)
    · split
      · exact key _ (layAt_len (by simp; omega)) (layAt_byt hm (h4.take _))
      · exact key _ rfl hm
theorem flushG_ok : ∀ (q : List (Int × List Int)) (m : List Int), (∀ p ∈ q, 0 ≤ p.1 ∧ p.1.toNat * 512 + 512 ≤ m.length ∧ p.2.length = 512 ∧ Byt p.2) → Byt m → (flushG q m).length = m.length ∧ Byt (flushG q m)
  | [], _, _, h => ⟨rfl, h⟩
  | p :: q, m, hq, hm => by
    obtain ⟨h1, h2, h3, h4⟩ := hq p List.mem_cons_self
    have hl := layAt_len (m := m) (i := p.1) (b := p.2) (by omega)
    have := flushG_ok q (layAt m p.1 p.2) (fun p' hp' => by rw [hl]; exact hq p' (List.mem_cons_of_mem _ hp')) (layAt_byt hm h4)
    exact ⟨this.1.trans hl, this.2⟩
theorem Dev.Ok.fallen {D : Dev} (h : D.Ok) (keep : List Int) (torn off : Int) : (D.fallen keep torn off).Ok := by
  have := fallG_ok (keep := keep) (torn := torn) (off := off) D.q 0 D.img h.q h.byt
  exact ⟨by rw [show (D.fallen keep torn off).img.length = D.img.length from this.1]; exact h.len, by rw [show (D.fallen keep torn off).img.length = D.img.length from this.1]; exact h.pos, this.2, fun p hp => (by cases hp), ⟨Int.le_refl _, by simp [Dev.fallen]⟩, h.calls⟩
theorem Dev.Ok.counted {D : Dev} (h : D.Ok) : D.counted.Ok :=
  ⟨h.len, h.pos, h.byt, h.q, by have := h.step; simp only [Dev.counted]; split <;> omega, wr_in _⟩
theorem Dev.Ok.pushed {D : Dev} (h : D.Ok) {i : Int} {b : List Int} (h1 : ¬ (i < 0 ∨ i ≥ D.secs)) (h2 : b.length = 512) (h3 : Byt b) : ({ D with q := D.q ++ [(i, b)] } : Dev).Ok :=
  ⟨h.len, h.pos, h.byt, fun p hp => by
    rcases List.mem_append.1 hp with hp | hp
    · exact h.q p hp
    · obtain rfl := List.mem_singleton.1 hp
      have := h.len
      simp only [Dev.secs] at h1
      exact ⟨by omega, by show i.toNat * 512 + 512 ≤ D.img.length; omega, h2, h3⟩, h.step, h.calls⟩
theorem Dev.Ok.write {D : Dev} (h : D.Ok) {i : Int} {b : List Int} (hb : Byt b) : (D.write i b).2.Ok := by
  unfold Dev.write
  split
  · exact h
  · split
    · exact h
    · split
      · exact h
      · rename_i h1 h2
        have hp : ({ D.counted with q := D.q ++ [(i, b)] } : Dev).Ok := Dev.Ok.pushed (D := D.counted) h.counted h1 (by omega) hb
        split
        · exact hp.fallen _ _ _
        · exact hp
theorem Dev.Ok.sync {D : Dev} (h : D.Ok) : D.sync.2.Ok := by
  unfold Dev.sync
  split
  · exact h
  · split
    · exact h.counted.fallen _ _ _
    · have := flushG_ok D.q D.img h.q h.byt
      exact ⟨by show (flushG D.q D.img).length % 512 = 0; rw [this.1]; exact h.len, by show _ ≤ (flushG D.q D.img).length ∧ (flushG D.q D.img).length ≤ _; rw [this.1]; exact h.pos, this.2, fun p hp => (by cases hp), h.counted.step, wr_in _⟩
end Go.SL.Sec
/- Numbers as bytv; the checksum, in plain words. No condition. -/
namespace Go.SL.Fld
open Go Go.SL Go.SL.Sec
/-- A number's lowest bytv, the lowest first. -/
def leB : Nat → Int → List Int
  | 0, _ => []
  | k + 1, n => n % 256 :: leB k (n / 256)
/-- Back. -/
def leV : List Int → Int
  | [] => 0
  | b :: r => b + 256 * leV r
theorem leB_len : ∀ (k : Nat) (n : Int), (leB k n).length = k
  | 0, _ => rfl
  | k + 1, n => by simp [leB, leB_len k]
theorem leB_byt : ∀ (k : Nat) (n : Int), Byt (leB k n)
  | 0, _ => Byt.nil
  | k + 1, n => fun b hb => by
    rcases List.mem_cons.1 hb with rfl | hb
    · omega
    · exact leB_byt k _ b hb
theorem leB_snoc : ∀ (k : Nat) (n : Int), leB (k + 1) n = leB k n ++ [n / 256 ^ k % 256]
  | 0, n => by simp [leB]
  | k + 1, n => by
    rw [leB, leB_snoc k (n / 256), leB]
    rw [List.cons_append, Int.ediv_ediv_of_nonneg (by decide), Int.pow_succ, Int.mul_comm]
theorem leV_leB : ∀ (k : Nat) (n : Int), 0 ≤ n → n < 256 ^ k → leV (leB k n) = n
  | 0, n, h0, h => by simp only [Int.pow_zero] at h; simp [leB, leV]; omega
  | k + 1, n, h0, h => by
    have h1 : n / 256 < 256 ^ k := Int.ediv_lt_of_lt_mul (by decide) (by rw [← Int.pow_succ]; exact h)
    rw [leB, leV, leV_leB k (n / 256) (by omega) h1]
    omega
theorem leV_bd : ∀ l : List Int, Byt l → 0 ≤ leV l ∧ leV l < 256 ^ l.length
  | [], _ => by simp [leV]
  | b :: r, h => by
    have h1 := h b List.mem_cons_self
    have h2 := leV_bd r fun x hx => h x (List.mem_cons_of_mem _ hx)
    simp only [leV, List.length_cons, Int.pow_succ]
    omega
theorem leV_snoc : ∀ (l : List Int) (b : Int), leV (l ++ [b]) = leV l + b * 256 ^ l.length
  | [], b => by simp [leV]
  | c :: l, b => by
    simp only [List.cons_append, leV, leV_snoc l b, List.length_cons, Int.pow_succ]
    rw [Int.mul_add, Int.mul_comm (256 ^ l.length) 256, ← Int.mul_assoc, ← Int.mul_assoc, Int.mul_comm 256 b, Int.add_assoc]
/-- A number laid at a place; the number that stands there. -/
def putB (l : List Int) (at_ size : Nat) (n : Int) : List Int := l.take at_ ++ leB size n ++ l.drop (at_ + size)
def getB (l : List Int) (at_ size : Nat) : Int := leV ((l.drop at_).take size)
theorem putB_len {l : List Int} {at_ size : Nat} {n : Int} (h : at_ + size ≤ l.length) : (putB l at_ size n).length = l.length := by
  simp [putB, leB_len]; omega
theorem putB_byt {l : List Int} {at_ size : Nat} {n : Int} (h : Byt l) : Byt (putB l at_ size n) := ((h.take _).append (leB_byt _ _)).append (h.drop _)
theorem putB_zero (l : List Int) (at_ : Nat) (n : Int) : putB l at_ 0 n = l := by simp [putB, leB]
theorem putB_succ {l : List Int} {at_ k : Nat} {n : Int} (h : at_ + k < l.length) : (putB l at_ k n).set (at_ + k) (n / 256 ^ k % 256) = putB l at_ (k + 1) n := by
  have h1 : (l.take at_ ++ leB k n).length = at_ + k := by simp [leB_len]; omega
  have h2 : l.drop (at_ + k) = l[at_ + k] :: l.drop (at_ + k + 1) := List.drop_eq_getElem_cons h
  unfold putB
  rw [h2, List.set_append_right _ _ (by omega), h1, Nat.sub_self, List.set_cons_zero, leB_snoc, ← List.append_assoc]
  simp [Nat.add_assoc]
theorem putB_get {l : List Int} {at_ k : Nat} {n : Int} (h : at_ + k < l.length) : (putB l at_ k n)[at_ + k]? = some l[at_ + k] := by
  have h1 : (l.take at_ ++ leB k n).length = at_ + k := by simp [leB_len]; omega
  unfold putB
  rw [List.getElem?_append_right (by omega), h1, Nat.sub_self, List.getElem?_drop, Nat.add_zero, List.getElem?_eq_getElem h]
theorem getB_succ {l : List Int} {at_ k : Nat} {b : Int} (h : l[at_ + k]? = some b) : getB l at_ (k + 1) = getB l at_ k + b * 256 ^ k := by
  have hlt := (List.getElem?_eq_some_iff.1 h).1
  unfold getB
  have h1 : (l.drop at_)[k]? = some b := by rw [List.getElem?_drop]; exact h
  rw [List.take_add_one, h1]
  show leV (_ ++ [b]) = _
  rw [leV_snoc]
  have : ((l.drop at_).take k).length = k := by simp; omega
  rw [this]
theorem getB_bd {l : List Int} (h : Byt l) (at_ size : Nat) : 0 ≤ getB l at_ size ∧ getB l at_ size < 256 ^ size := by
  have h1 := leV_bd _ ((h.drop at_).take size)
  have h2 : (256 : Int) ^ ((l.drop at_).take size).length ≤ 256 ^ size := by
    have h3 := Int.ofNat_le.2 (Nat.pow_le_pow_right (show 0 < 256 by decide) (show ((l.drop at_).take size).length ≤ size from List.length_take_le _ _))
    rwa [Int.natCast_pow, Int.natCast_pow] at h3
  exact ⟨h1.1, by unfold getB; omega⟩
end Go.SL.Fld
namespace Go.SL
open Go
theorem p256 (k : Nat) : (2 : Int) ^ (8 * k) = 256 ^ k := by rw [Int.pow_mul]; rfl
theorem Shr.v {k : IntKind} {n m : Int} {K : Int → Prop} (j : Nat) (h : m = (j : Int)) (h0 : j ≤ k.bits) (hk : K (n / 2 ^ j)) : Shr k n m K := by
  subst h
  refine ⟨by omega, ?_⟩
  rw [Int.toNat_natCast, Nat.min_eq_left h0, Int.fdiv_eq_ediv_of_nonneg]
  · exact hk
  · exact Int.le_of_lt (Int.pow_pos (by decide))
theorem Shl.v {k : IntKind} {n m : Int} {K : Int → Prop} (j : Nat) (h : m = (j : Int)) (h0 : j ≤ k.bits) (hk : Ar k (n * 2 ^ j) K) : Shl k n m K := by
  subst h
  refine ⟨by omega, ?_⟩
  rw [Int.toNat_natCast, Nat.min_eq_left h0]
  exact hk.ex
/-- Bits side by side are a sum. -/
theorem bits_or_add {k : IntKind} {n y : Int} (i : Nat) (h0 : 0 ≤ n) (h1 : n < 2 ^ i) (hy : 0 ≤ y) (hm : k.signed = false) (hb : n + y * 2 ^ i < 2 ^ k.bits) : bits .or k n (y * 2 ^ i) = n + y * 2 ^ i := by
  obtain ⟨n', rfl⟩ := Int.eq_ofNat_of_zero_le h0
  obtain ⟨y', rfl⟩ := Int.eq_ofNat_of_zero_le hy
  have h1' : n' < 2 ^ i := by exact_mod_cast h1
  have hb' : n' + y' * 2 ^ i < 2 ^ k.bits := by exact_mod_cast hb
  have e1 : ((y' : Int) * 2 ^ i) = ((y' * 2 ^ i : Nat) : Int) := by simp
  rw [e1]
  have hor : n' ||| (y' * 2 ^ i) = n' + y' * 2 ^ i := by
    have := Nat.two_pow_add_eq_or_of_lt h1' y'
    rw [Nat.mul_comm (2 ^ i) y'] at this
    rw [Nat.or_comm, ← this, Nat.add_comm]
  have b1 : (BitVec.ofInt k.bits (n' : Int)).toNat = n' := by rw [BitVec.ofInt_natCast, BitVec.toNat_ofNat, Nat.mod_eq_of_lt (by omega)]
  have b2 : (BitVec.ofInt k.bits ((y' * 2 ^ i : Nat) : Int)).toNat = y' * 2 ^ i := by rw [BitVec.ofInt_natCast, BitVec.toNat_ofNat, Nat.mod_eq_of_lt (by omega)]
  simp only [bits, BitVec.toNat_or, b1, b2, hor]
  have hw : ((n' + y' * 2 ^ i : Nat) : Int) % 2 ^ k.bits = ((n' + y' * 2 ^ i : Nat) : Int) := Int.emod_eq_of_lt (by omega) (by exact_mod_cast hb')
  have hw2 : k.wrap ((n' + y' * 2 ^ i : Nat) : Int) = ((n' + y' * 2 ^ i : Nat) : Int) := by
    unfold IntKind.wrap
    rw [hm]
    simpa using hw
  rw [hw2]; simp
theorem Bt.orAdd {k : IntKind} {n m y : Int} {K : Int → Prop} (i : Nat) (hm : m = y * 2 ^ i) (h0 : 0 ≤ n) (h1 : n < 2 ^ i) (hy : 0 ≤ y) (hs : k.signed = false) (hb : n + y * 2 ^ i < 2 ^ k.bits) (hk : K (n + y * 2 ^ i)) : Bt .or k n m K := by
  subst hm
  exact ⟨by rw [bits_or_add i h0 h1 hy hs hb]; exact hk⟩
end Go.SL
/- The checksum's register, in plain words: eight steps of a bit are two steps of a table. No condition. -/
namespace Go.SL.Fld
open Go Go.SL Go.SL.Sec
/-- One bit falls out. -/
def crc1 (c : BitVec 32) : BitVec 32 := if c &&& 1#32 = 1#32 then (c >>> 1) ^^^ 0xedb88320#32 else c >>> 1
/-- A byte goes in. -/
def crcB (c : BitVec 32) (b : Int) : BitVec 32 :=
  crc1 (crc1 (crc1 (crc1 (crc1 (crc1 (crc1 (crc1 (c ^^^ BitVec.ofInt 32 b))))))))
def crcL (c : BitVec 32) (l : List Int) : BitVec 32 := l.foldl crcB c
/-- The checksum of all. -/
def crcV (l : List Int) : Int := ((~~~ (crcL (BitVec.allOnes 32) l)).toNat : Int)
theorem crcL_append (c : BitVec 32) (l r : List Int) : crcL c (l ++ r) = crcL (crcL c l) r := List.foldl_append
def nibL : List Int := [0x00000000, 0x1db71064, 0x3b6e20c8, 0x26d930ac, 0x76dc4190, 0x6b6b51f4, 0x4db26158, 0x5005713c,
  0xedb88320, 0xf00f9344, 0xd6d6a3e8, 0xcb61b38c, 0x9b64c2b0, 0x86d3d2d4, 0xa00ae278, 0xbdbdf21c]
def nib (i : Nat) : BitVec 32 := BitVec.ofInt 32 (nibL[i]?.getD 0)
/-- Four bits fall out, by the table. -/
def crc4 (c : BitVec 32) : BitVec 32 := (c >>> 4) ^^^ nib (c.toNat % 16)
theorem crc1_xor (a b : BitVec 32) : crc1 (a ^^^ b) = crc1 a ^^^ crc1 b := by
  have ha : ∀ c : BitVec 32, crc1 c = (c >>> 1) ^^^ (if c.getLsbD 0 then 0xedb88320#32 else 0#32) := by
    intro c
    have : (c &&& 1#32 = 1#32) ↔ c.getLsbD 0 = true := by
      constructor
      · intro h
        have := congrArg (·.getLsbD 0) h
        simpa using this
      · intro h
        apply BitVec.eq_of_getLsbD_eq
        intro i hi
        by_cases e : i = 0
        · subst e; simp [h]
        · simp [e, BitVec.getLsbD_one]
    unfold crc1
    by_cases h : c.getLsbD 0 = true
    · rw [if_pos (this.2 h), if_pos h]
    · rw [if_neg (fun k => h (this.1 k)), if_neg h, BitVec.xor_zero]
  rw [ha, ha, ha]
  have hx : (a ^^^ b) >>> 1 = (a >>> 1) ^^^ (b >>> 1) := by
    apply BitVec.eq_of_getLsbD_eq
    intro i hi
    simp
  have hi : (if (a ^^^ b).getLsbD 0 then 0xedb88320#32 else 0#32) = (if a.getLsbD 0 then 0xedb88320#32 else 0#32) ^^^ (if b.getLsbD 0 then 0xedb88320#32 else 0#32) := by
    rw [BitVec.getLsbD_xor]
    cases a.getLsbD 0 <;> cases b.getLsbD 0 <;> simp
  rw [hx, hi]
  ac_rfl
theorem crc1_even {c : BitVec 32} (h : c.getLsbD 0 = false) : crc1 c = c >>> 1 := by
  unfold crc1
  rw [if_neg]
  intro k
  have h2 := congrArg (fun x : BitVec 32 => x.getLsbD 0) k
  rw [BitVec.getLsbD_and, h, Bool.false_and] at h2
  exact absurd h2 (by decide)
theorem crc4_eq (c : BitVec 32) : crc1 (crc1 (crc1 (crc1 c))) = crc4 c := by
  have hlow : ∀ i : Fin 16, crc1 (crc1 (crc1 (crc1 (BitVec.ofNat 32 i.val)))) = nib i.val := by decide
  have hs : c = ((c >>> 4) <<< 4) ^^^ BitVec.ofNat 32 (c.toNat % 16) := by
    apply BitVec.eq_of_getLsbD_eq
    intro i hi
    have h16 : (BitVec.ofNat 32 (c.toNat % 16)).getLsbD i = (decide (i < 4) && c.getLsbD i) := by
      rw [BitVec.getLsbD_ofNat, show (16 : Nat) = 2 ^ 4 from rfl, Nat.testBit_mod_two_pow, BitVec.testBit_toNat]
      simp [hi]
    rw [BitVec.getLsbD_xor, h16, BitVec.getLsbD_shiftLeft, BitVec.getLsbD_ushiftRight]
    by_cases e : i < 4
    · simp [e]
    · have : 4 + (i - 4) = i := by omega
      simp [e, hi, this]
  have hhi : crc1 (crc1 (crc1 (crc1 ((c >>> 4) <<< 4)))) = c >>> 4 := by
    have e0 : ((c >>> 4) <<< 4).getLsbD 0 = false := by simp
    have e1 : (((c >>> 4) <<< 4) >>> 1).getLsbD 0 = false := by simp
    have e2 : ((((c >>> 4) <<< 4) >>> 1) >>> 1).getLsbD 0 = false := by simp
    have e3 : (((((c >>> 4) <<< 4) >>> 1) >>> 1) >>> 1).getLsbD 0 = false := by simp
    rw [crc1_even e0, crc1_even e1, crc1_even e2, crc1_even e3]
    apply BitVec.eq_of_getLsbD_eq
    intro i hi
    simp only [BitVec.getLsbD_ushiftRight, BitVec.getLsbD_shiftLeft]
    by_cases h : i < 28
    · have h1 : 4 + (1 + (1 + (1 + (1 + i))) - 4) = 4 + i := by omega
      have h2 : 1 + (1 + (1 + (1 + i))) < 32 := by omega
      have h3 : ¬ (1 + (1 + (1 + (1 + i))) < 4) := by omega
      simp [h1, h2, h3]
    · have h2 : ¬ (1 + (1 + (1 + (1 + i))) < 32) := by omega
      simp [h2]
      rw [BitVec.getLsbD_of_ge _ _ (by omega)]
  have h1 := hlow ⟨c.toNat % 16, Nat.mod_lt _ (by decide)⟩
  dsimp only at h1
  conv => lhs; rw [hs]
  rw [crc1_xor, crc1_xor, crc1_xor, crc1_xor, hhi, h1]
  rfl
theorem crcB_eq (c : BitVec 32) (b : Int) : crcB c b = crc4 (crc4 (c ^^^ BitVec.ofInt 32 b)) := by
  unfold crcB
  rw [crc4_eq, crc4_eq]
end Go.SL.Fld
namespace Go.SL
open Go Go.SL.Fld
variable {P : Program} {W : World} {H : HProp}
/-- A word of 32 bits, as a number. -/
abbrev w32 (c : BitVec 32) : Int := (c.toNat : Int)
theorem ofInt_w32 (c : BitVec 32) : BitVec.ofInt 32 (w32 c) = c := by simp [w32]
theorem wrap_w32 (c : BitVec 32) : IntKind.u32.wrap (c.toNat : Int) = w32 c := by
  have := c.isLt
  rw [IntKind.wrap_u32]
  exact Int.emod_eq_of_lt (by omega) (by omega)
theorem Bt.xor32 {c : BitVec 32} {m : Int} {K : Int → Prop} (hk : K (w32 (c ^^^ BitVec.ofInt 32 m))) : Bt .xor .u32 (w32 c) m K := by
  refine ⟨?_⟩
  have : bits .xor .u32 (w32 c) m = w32 (c ^^^ BitVec.ofInt 32 m) := by
    show IntKind.u32.wrap ((BitVec.ofInt 32 (w32 c) ^^^ BitVec.ofInt 32 m).toNat : Int) = _
    rw [ofInt_w32, wrap_w32]
  rw [this]; exact hk
theorem shr4_w32 (c : BitVec 32) : (w32 c : Int) / (16 : Int) = w32 (c >>> 4) := by
  unfold w32
  rw [BitVec.toNat_ushiftRight, Nat.shiftRight_eq_div_pow]; omega
/-- The bits turned over. -/
theorem OpX.not32 {t : TypeId} {x : Operand} {ty : TypeId} {ev : Operand → Option Value} {K : Value → HProp → Prop} {Kp : List PanicEntry → HProp → Prop} {c : BitVec 32}
    (hx : ev x = some (.int .u32 (w32 c))) (hk : K (.int .u32 (w32 (~~~ c))) H) : OpX P W (.unOp .xor t x) ty ev H K Kp := by
  refine OpX.of_quiet ⟨_, fun w ρ hw he o' ho hty => ?_, hk⟩
  obtain ⟨dst, op, ty', pos, after, guard⟩ := o'
  simp only at ho hty
  subst ho hty
  have h1 : BitVec.ofInt 32 IntKind.u32.max ^^^ BitVec.ofInt 32 (w32 c) = ~~~ c := by
    rw [ofInt_w32, show BitVec.ofInt 32 IntKind.u32.max = BitVec.allOnes 32 by decide, BitVec.allOnes_xor]
  simp only [execOp, he _ _ hx, Op.unary, Op.intBits, IntKind.signed, IntKind.bits]
  simp only [Bool.false_eq_true, if_false, wrap_w32]
  exact congrArg (fun z : BitVec 32 => (Result.ok (Next.value (Value.int IntKind.u32 (w32 z))) w : Result Next)) h1
end Go.SL
