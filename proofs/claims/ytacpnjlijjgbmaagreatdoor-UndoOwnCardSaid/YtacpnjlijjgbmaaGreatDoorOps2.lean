/- make, copy, parts of rows; rows with their lengths. No condition. -/
import Derived.Test.YtacpnjlijjgbmaaGreatDoorRows2
import Derived.Test.YtacpnjlijjgbmaaGreatDoorDrawT
import Derived.Test.YtacpnjlijjgbmaaGreatDoorMap2
import Derived.Test.YtacpnjlijjgbmaaGreatDoorBits
import Derived.Laws.MakeOwn
import Derived.Laws.CopyRow
import Derived.Laws.IdiomCopy
import Derived.Laws.Small
namespace Go.SL
open Go
section
variable {P : Program} {W : World} {T : Tab} {α : Type} {t : TypeId} {sz : Nat} {enc : α → List Value} {a : Option Addr} {cap : Nat} {xs : List α} {H R : HProp}
/-- A slice of this address and length reads xs. -/
class RowN {α : outParam Type} (W : World) (H : HProp) (a : Option Addr) (n : Nat) (sz : outParam Nat) (enc : outParam (α → List Value)) (xs : outParam (List α)) : Prop where
  row : RowC W H a sz enc xs
  len : n = xs.length
instance (priority := 100) RowN.whole [c : RowC W H a sz enc xs] : RowN W H a xs.length sz enc xs := ⟨c, rfl⟩
instance (priority := 90) RowN.there {X : HProp} {n : Nat} [c : RowN W R a n sz enc xs] : RowN W (X • R) a n sz enc xs := by
  haveI := c.row
  exact ⟨inferInstance, c.len⟩
theorem madeCells_one (z : Value) (n : Nat) : madeCells #[z] n = (List.replicate n z).toArray := by
  simp only [madeCells]
  apply Array.ext
  · simp
  · intro i h1 h2
    simp [Nat.mod_one]
theorem flatMap_rep {x0 : α} {z : Value} (h : enc x0 = [z]) : ∀ n : Nat, (List.replicate n x0).flatMap enc = List.replicate n z
  | 0 => rfl
  | n + 1 => by rw [List.replicate_succ, List.flatMap_cons, h, flatMap_rep h n, List.replicate_succ]; rfl
/-- make([]T, n), of cells of their own. -/
theorem OpX.make (hT : T.ok P) {st e : TypeId} {l c : Operand} {ty : TypeId} {ev : Operand → Option Value} {K : Value → HProp → Prop} {Kp : List PanicEntry → HProp → Prop} {kl kc : IntKind} {n : Int} {z : Value} {c1 : List Value} {a1 a2 : Bool} {s1 b1 b2 : Nat} {d : TypeDesc}
    (enc : α → List Value) (x0 : α) (hl : ev l = some (.int kl n)) (hc : ev c = some (.int kc n)) (h1 : T st = some ⟨.slice e, c1, a1, s1, b1⟩) (h2 : T e = some ⟨d, [z], a2, 1, b2⟩) (hx : enc x0 = [z]) (hz : z.cells = #[z])
    (hn : 0 ≤ n ∧ (b2 : Int) * n ≤ 281474976710656 ∧ n ≤ 9223372036854775807)
    (k : ∀ b, W.heap.size ≤ b → K (.slice (some ⟨b, 0, none⟩) n.toNat n.toNat) (SL.vec e 1 enc (some ⟨b, 0, none⟩) n.toNat (List.replicate n.toNat x0) • H)) :
    OpX P W (.makeSlice st l c) ty ev H K Kp := by
  have hu1 := (hT _ _ h1).und
  obtain ⟨i, hi, hsz, hby, hzz, hone⟩ := (hT _ _ h2).info
  refine ⟨fun w ρ hs he o' ho hty => ?_⟩
  obtain ⟨dst, op, ty', pos, after, guard⟩ := o'
  simp only at ho hty
  subst ho hty
  have hzc : ∃ zz : Value, i.zero = some zz ∧ zz.cells = #[z] := by
    rw [hzz]
    cases a2 with
    | true => exact ⟨_, rfl, rfl⟩
    | false => exact ⟨z, rfl, hz⟩
  obtain ⟨zz, hz1, hz2⟩ := hzc
  have hm := run_make (P := P) w st e i zz hu1 hi hz1 kl kc n n hn.1 (Int.le_refl _) (by rw [hby]; exact hn.2.1) hn.2.2
  rw [hz2, hsz, Nat.mul_one, madeCells_one] at hm
  refine ⟨.value (.slice (some ⟨w.heap.size, 0, none⟩) n.toNat n.toNat), w.alloc (.cells (List.replicate n.toNat z).toArray e), _, ?_, ?_, k w.heap.size hs.1.size⟩
  · simp [execOp, he _ _ hl, he _ _ hc, hm]
  · have hv := vec_new (t := e) (sz := 1) (enc := enc) (xs := List.replicate n.toNat x0) (b := w.heap.size) (l := List.replicate n.toNat z) (by rw [flatMap_rep hx])
    rw [List.length_replicate] at hv
    exact (hs.alloc _).mono (Ent.left hv)

/-- s[lo:hi]: the value. -/
theorem OpQ.slx (hT : T.ok P) {st : TypeId} {s i j : Operand} {ty : TypeId} {ev : Operand → Option Value} {K : Value → Prop} {n c : Nat} {k k' : IntKind} {z y : Int} {e : TypeId} {c1 : List Value} {a1 : Bool} {s1 b1 : Nat} {r2 : TRow} (lo m : Nat)
    (hs : ev s = some (.slice a n c)) (hi : ev i = some (.int k z)) (hj : ev j = some (.int k' y)) (h1 : T st = some ⟨.slice e, c1, a1, s1, b1⟩) (h2 : T e = some r2) (hz : z = (lo : Int)) (hy : y = ((lo + m : Nat) : Int)) (hc : lo + m ≤ c) (hk : K (.slice (dropA a lo c r2.size) m (c - lo))) :
    OpQ P W (.slice st s (some i) (some j) none) ty ev H K := by
  refine ⟨_, fun w ρ hw he o' ho hty => ?_, hk⟩
  obtain ⟨dst, op, ty', pos, after, guard⟩ := o'
  simp only at ho hty
  subst ho hty
  have hu := (hT _ _ h1).und
  have hel : P.elem st = e := by simp [Program.elem, hu]
  have hu' : P.underlying st = some (.slice (P.elem st)) := by rw [hel]; exact hu
  have := run_slice_lh (P := P) (w := w) st a n c hu' k k' z y (by omega) (by omega) (by omega)
  have e1 : z.toNat = lo := by omega
  have e2 : y.toNat = lo + m := by omega
  have e3 : lo + m - lo = m := by omega
  rw [hel, TRow.size_run (hT _ _ h2), e1, e2] at this
  simp [execOp, he _ _ hs, he _ _ hi, he _ _ hj, run_sliceAt_slice w st _ _ _ _ hu', this, Result.andThen, sliced, dropA, e3]
theorem OpX.slx (hT : T.ok P) {st : TypeId} {s i j : Operand} {ty : TypeId} {ev : Operand → Option Value} {K : Value → HProp → Prop} {Kp : List PanicEntry → HProp → Prop} {n c : Nat} {k k' : IntKind} {z y : Int} {e : TypeId} {c1 : List Value} {a1 : Bool} {s1 b1 : Nat} {r2 : TRow} (lo m : Nat)
    (hs : ev s = some (.slice a n c)) (hi : ev i = some (.int k z)) (hj : ev j = some (.int k' y)) (h1 : T st = some ⟨.slice e, c1, a1, s1, b1⟩) (h2 : T e = some r2) (hz : z = (lo : Int)) (hy : y = ((lo + m : Nat) : Int)) (hc : lo + m ≤ c) (hk : K (.slice (dropA a lo c r2.size) m (c - lo)) H) :
    OpX P W (.slice st s (some i) (some j) none) ty ev H K Kp := OpX.of_quiet (OpQ.slx hT lo m hs hi hj h1 h2 hz hy hc hk)

/-- s[:n:n] -/
theorem OpX.slm (hT : T.ok P) {st : TypeId} {s j m : Operand} {ty : TypeId} {ev : Operand → Option Value} {K : Value → HProp → Prop} {Kp : List PanicEntry → HProp → Prop} {n c : Nat} {k k' : IntKind} {y : Int} {e : TypeId} {c1 : List Value} {a1 : Bool} {s1 b1 : Nat} {r2 : TRow} (nn : Nat)
    (hs : ev s = some (.slice a n c)) (hj : ev j = some (.int k y)) (hm : ev m = some (.int k' y)) (h1 : T st = some ⟨.slice e, c1, a1, s1, b1⟩) (h2 : T e = some r2) (hy : y = (nn : Int)) (hc : nn ≤ c) (hk : K (.slice a nn nn) H) :
    OpX P W (.slice st s none (some j) (some m)) ty ev H K Kp := by
  refine OpX.of_quiet ⟨_, fun w ρ hw he o' ho hty => ?_, hk⟩
  obtain ⟨dst, op, ty', pos, after, guard⟩ := o'
  simp only at ho hty
  subst ho hty
  have hu := (hT _ _ h1).und
  have hel : P.elem st = e := by simp [Program.elem, hu]
  have hu' : P.underlying st = some (.slice (P.elem st)) := by rw [hel]; exact hu
  have := run_slice_hm (P := P) (w := w) st a n c hu' k k' y y (by omega) (by omega) (by omega)
  have e1 : y.toNat = nn := by omega
  have hadd : a.map (fun x => x.add 0) = a := by cases a <;> simp [Addr.add]
  rw [hel, TRow.size_run (hT _ _ h2), e1] at this
  simp [execOp, he _ _ hs, he _ _ hj, he _ _ hm, run_sliceAt_slice w st _ _ _ _ hu', this, Result.andThen, sliced, hadd]
/-- A part of a row that owns its cells. -/
theorem RowC.sub {m : Nat} (z : Nat) [s : SizedC sz enc] [c : VecC H a t sz enc cap xs R] : RowC W H (dropA a z cap sz) sz enc ((xs.drop z).take m) := by
  refine RowC.take m ⟨fun w hs i x hx => ?_⟩
  have hl : xs.length ≤ cap := by
    have hw := hs
    rw [c.h.eq] at hw
    exact vec_len hw
  have hc : RowC W H a sz enc xs := RowC.vec s.h c.at'
  exact (RowC.drop z cap hl hc).h w hs i x hx
/-- copy(s[z:..], y): over cells of s itself. -/
theorem OpX.cpy (hT : T.ok P) {st yt : TypeId} {s y : Operand} {ty : TypeId} {ev : Operand → Option Value} {K : Value → HProp → Prop} {Kp : List PanicEntry → HProp → Prop} {e : TypeId} {b : Option Addr} {ys : List α}
    {z dn dc m mc : Nat} {c1 c2 : List Value} {a1 a2 : Bool} {s1 b1 b2 : Nat} {d : TypeDesc} {enc : α → List Value}
    [c : VecC H a t 1 enc cap xs R] [sc : SizedC 1 enc] [ro : RowC W H b 1 enc ys] (hs : ev s = some (.slice (dropA a z cap 1) dn dc)) (hy : ev y = some (.slice b m mc))
    (h1 : T st = some ⟨.slice e, c1, a1, s1, b1⟩) (h2 : T e = some ⟨d, c2, a2, 1, b2⟩) (hm : m = ys.length) (hz : z + dn ≤ xs.length)
    (hl : ∀ ys : List α, ∀ v ∈ ys.flatMap enc, v.oneCell' = true)
    (k : K (.int .i64 (min m dn : Nat)) (SL.vec t 1 enc a cap (xs.take z ++ ys.take (min m dn) ++ xs.drop (z + min m dn)) • R)) :
    OpX P W (.call ⟨.builtin .copy, ⟨[s, y]⟩, ⟨[st, yt]⟩⟩) ty ev H K Kp := by
  subst hm
  have hu1 := (hT _ _ h1).und
  obtain ⟨i2, hi2, hsz, _⟩ := (hT _ _ h2).info
  have hs1 : (P.info? e).map (·.size) = some 1 := by rw [hi2]; simpa using hsz
  refine ⟨fun w ρ hw he o' ho hty => ?_⟩
  obtain ⟨dst, op, ty', pos, after, guard⟩ := o'
  simp only at ho hty
  subst ho hty
  by_cases h0 : min ys.length dn = 0
  · have hv := run_copy_none (P := P) w st yt ty' e (dropA a z cap 1) b dn dc ys.length mc hu1 hs1 h0
    rw [h0] at k
    simp only [List.take_zero, List.append_nil, Nat.add_zero, List.take_append_drop] at k
    refine ⟨.value (.int .i64 0), w, _, ?_, hw, ?_⟩
    · simp [execOp, resolve, invoke, builtin, he _ _ hs, he _ _ hy, hv, goInt]
    · rw [c.h.eq]; exact k
  · obtain ⟨zs, hzs⟩ : ∃ zs, zs = ys.take (min ys.length dn) := ⟨_, rfl⟩
    have hzl : zs.length = min ys.length dn := by rw [hzs]; simp
    obtain ⟨y0, hy0⟩ : ∃ y0, ys[0]? = some y0 := by
      cases ys with
      | nil => simp at h0
      | cons y l => exact ⟨y, rfl⟩
    obtain ⟨bb, bo, rfl, _⟩ := ro.h w hw 0 y0 hy0
    have hfl : ∀ l : List α, (l.flatMap enc).length = l.length := fun l => by rw [sc.h.flat, Nat.mul_one]
    have hsrc : ∀ j v, (zs.flatMap enc)[j]? = some v → w.cell? ((⟨bb, bo, none⟩ : Addr).add j) = some v := by
      intro j v hj
      have hjl : j < zs.length := by rw [← hfl]; exact (List.getElem?_eq_some_iff.1 hj).1
      have hjy : ys[j]? = some ys[j] := List.getElem?_eq_getElem (by omega)
      have hjz : zs[j]? = some ys[j] := by subst hzs; rw [List.getElem?_take_of_lt (by omega)]; exact hjy
      obtain ⟨b', o', e', hcell⟩ := ro.h w hw j _ hjy
      cases e'
      have h3 := Sized.get sc.h zs j 0 ys[j] ((enc ys[j])[0]'(by rw [sc.h]; exact Nat.one_pos)) hjz (List.getElem?_eq_getElem _)
      rw [Nat.mul_one, Nat.add_zero, hj] at h3
      have h5 : (enc ys[j])[0]? = some v := by rw [h3]; exact List.getElem?_eq_getElem _
      have h4 := hcell 0 v h5
      rw [Nat.mul_one, Nat.add_zero] at h4
      rw [Addr.add_eq]
      exact h4 w hw
    have hw0 := hw
    rw [c.h.eq] at hw
    cases hw.vec with
    | nil ha hc hx hs' => subst hx; simp at hz; omega
    | mk g off pre junk ha hp hl' hj hs' =>
      subst ha
      have hda : dropA (some ⟨g, off, none⟩) z cap 1 = some ⟨g, off + z, none⟩ := by
        unfold dropA
        rw [if_neg (by omega), Option.map_some, Addr.add_eq, Nat.mul_one]
      let cur : List Value := pre ++ xs.flatMap enc ++ junk
      have hcur : cur.length = off + xs.length + junk.length := by simp [cur, hp, hfl]; omega
      have hcp := run_copy_row (P := P) w st yt ty' e g (off + z) dn dc ⟨bb, bo, none⟩ ys.length mc ⟨cur⟩ t (zs.flatMap enc) hu1 hs1 hs'.at (by rw [hfl, hzl]) hsrc (by rw [hfl, hzl]; show _ ≤ cur.length; omega) (hl zs)
      rw [hfl, hzl] at hcp
      have hnew : (cur.take (off + z) ++ zs.flatMap enc ++ cur.drop (off + z + min ys.length dn)) = pre ++ (xs.take z ++ zs ++ xs.drop (z + min ys.length dn)).flatMap enc ++ junk := by
        have e1 : cur.take (off + z) = pre ++ (xs.take z).flatMap enc := by
          have : off + z = pre.length + z := by omega
          rw [this]
          simp only [cur, List.append_assoc, List.take_length_add_append]
          rw [List.take_append_of_le_length (by rw [hfl]; omega), flatMap_take sc.h xs z (by omega), Nat.mul_one]
        have e2 : cur.drop (off + z + min ys.length dn) = (xs.drop (z + min ys.length dn)).flatMap enc ++ junk := by
          have : off + z + min ys.length dn = pre.length + (z + min ys.length dn) := by omega
          rw [this]
          simp only [cur, List.append_assoc, List.drop_length_add_append]
          rw [List.drop_append_of_le_length (by rw [hfl]; omega), flatMap_drop sc.h xs _ (by omega), Nat.mul_one]
        rw [e1, e2]; simp
      have hlen2 : (xs.take z ++ zs ++ xs.drop (z + min ys.length dn)).length = xs.length := by simp [hzl]; omega
      subst hzs
      refine ⟨.value (.int .i64 (min ys.length dn : Nat)), w.setRow g (cur.take (off + z) ++ (ys.take (min ys.length dn)).flatMap enc ++ cur.drop (off + z + min ys.length dn)).toArray, _, ?_, ?_, k⟩
      · simp [execOp, resolve, invoke, builtin, he _ _ hs, he _ _ hy, hda, hcp, goInt]
      · have h5 := hs'.set (o' := .cells ⟨pre ++ (xs.take z ++ ys.take (min ys.length dn) ++ xs.drop (z + min ys.length dn)).flatMap enc ++ junk⟩ t (0, 0)) (w' := w.setRow g (cur.take (off + z) ++ (ys.take (min ys.length dn)).flatMap enc ++ cur.drop (off + z + min ys.length dn)).toArray) ?_ ?_ ?_
        · exact h5.mono (Ent.left (vec_some hp (by omega) (by rw [hlen2]; exact hj)))
        · exact ⟨rfl, rfl, rfl, by simp⟩
        · rw [setRow_heap w g _ _ t _ hs'.at, hnew]
        · intro j hj
          exact setRow_other w g j _ hj
/-- Each cell is one cell. -/
class OneC {α : Type} (enc : α → List Value) : Prop where h : ∀ ys : List α, ∀ v ∈ ys.flatMap enc, v.oneCell' = true
theorem vec_nilpts (enc : α → List Value) (sz b : Nat) (t : TypeId) : SL.pts b (.cells ⟨[]⟩ t (0, 0)) = SL.vec t sz enc (some ⟨b, 0, none⟩) 0 ([] : List α) := by
  funext h
  apply propext
  constructor
  · intro hp
    refine ⟨[], [], pure_star.2 ⟨⟨rfl, rfl, Nat.le_refl _, by simp⟩, ?_⟩⟩
    simpa using hp
  · rintro ⟨pre, junk, hh⟩
    obtain ⟨⟨_, h1, _, h2⟩, h3⟩ := pure_star.1 hh
    have e1 : pre = [] := List.eq_nil_of_length_eq_zero h1
    have e2 : junk = [] := List.eq_nil_of_length_eq_zero (by simpa using h2)
    subst e1 e2
    simpa using h3
/-- append([]T{}, y..) -/
theorem OpX.appE (hT : T.ok P) {st : TypeId} {s y : Operand} {ty : TypeId} {ev : Operand → Option Value} {K : Value → HProp → Prop} {Kp : List PanicEntry → HProp → Prop} {b : Option Addr} {ys : List α} {bl : Nat} {R' : HProp}
    {m cap' : Nat} {c1 c2 : List Value} {a1 a2 : Bool} {s1 b1 b2 : Nat} {d : TypeDesc}
    [p : PtsC H bl (.cells ⟨[]⟩ t (0, 0)) R'] [sc : SizedC sz enc] [oc : OneC enc] [e : RowC W H b sz enc ys] (hs : ev s = some (.slice (some ⟨bl, 0, none⟩) 0 0)) (hy : ev y = some (.slice b m cap'))
    (h1 : T st = some ⟨.slice t, c1, a1, s1, b1⟩) (h2 : T t = some ⟨d, c2, a2, sz, b2⟩) (hl : c2.length = sz) (hm : m = ys.length) (hb : 2 * ys.length * b2 ≤ 281474976710656 ∧ ys.length ≤ 9223372036854775807)
    (k : ∀ a' cap', K (.slice a' m cap') (SL.vec t sz enc a' cap' ys • R')) :
    OpX P W (.call ⟨.builtin .append, ⟨[s, y]⟩, ⟨[st, st]⟩⟩) ty ev H K Kp := by
  haveI : VecC H (some ⟨bl, 0, none⟩) t sz enc 0 ([] : List α) R' := ⟨⟨by rw [p.h.eq, vec_nilpts enc sz]⟩⟩
  refine OpX.appR hT hs hy h1 h2 rfl hm (by simpa using hb) ⟨hl, oc.h⟩ (fun a' c' => ?_)
  have := k a' c'
  rwa [← Nat.zero_add m] at this
/-- append(s, y..), append(s, x), append(nil, y..): as they come. -/
theorem OpX.appRg (hT : T.ok P) {st : TypeId} {s y : Operand} {ty : TypeId} {ev : Operand → Option Value} {K : Value → HProp → Prop} {Kp : List PanicEntry → HProp → Prop} {b : Option Addr} {ys : List α}
    {n m cap cap' : Nat} {c1 c2 : List Value} {a1 a2 : Bool} {s1 b1 b2 : Nat} {d : TypeDesc}
    [c : VecC H a t sz enc cap xs R] [sc : SizedC sz enc] [oc : OneC enc] [e : RowC W H b sz enc ys] (hs : ev s = some (.slice a n cap)) (hy : ev y = some (.slice b m cap'))
    (h1 : T st = some ⟨.slice t, c1, a1, s1, b1⟩) (h2 : T t = some ⟨d, c2, a2, sz, b2⟩) (hl : c2.length = sz) (hn : n = xs.length) (hm : m = ys.length) (hb : 2 * (xs.length + ys.length) * b2 ≤ 281474976710656 ∧ xs.length + ys.length ≤ 9223372036854775807)
    (k : ∀ a' cap', K (.slice a' (xs ++ ys).length cap') (SL.vec t sz enc a' cap' (xs ++ ys) • R)) :
    OpX P W (.call ⟨.builtin .append, ⟨[s, y]⟩, ⟨[st, st]⟩⟩) ty ev H K Kp := by
  refine OpX.appR hT hs hy h1 h2 hn hm hb ⟨hl, oc.h⟩ (fun a' c' => ?_)
  have := k a' c'
  rwa [List.length_append, ← hn, ← hm] at this
theorem OpX.appNg (hT : T.ok P) {st : TypeId} {s y : Operand} {ty : TypeId} {ev : Operand → Option Value} {K : Value → HProp → Prop} {Kp : List PanicEntry → HProp → Prop} {b : Option Addr} {ys : List α}
    {m cap' : Nat} {c1 c2 : List Value} {a1 a2 : Bool} {s1 b1 b2 : Nat} {d : TypeDesc}
    [sc : SizedC sz enc] [oc : OneC enc] [e : RowC W H b sz enc ys] (hs : ev s = some (.slice none 0 0)) (hy : ev y = some (.slice b m cap'))
    (h1 : T st = some ⟨.slice t, c1, a1, s1, b1⟩) (h2 : T t = some ⟨d, c2, a2, sz, b2⟩) (hl : c2.length = sz) (hm : m = ys.length) (hb : 2 * ys.length * b2 ≤ 281474976710656 ∧ ys.length ≤ 9223372036854775807)
    (k : ∀ a' cap', K (.slice a' ys.length cap') (SL.vec t sz enc a' cap' ys • H)) :
    OpX P W (.call ⟨.builtin .append, ⟨[s, y]⟩, ⟨[st, st]⟩⟩) ty ev H K Kp := by
  subst hm
  exact OpX.appN hT hs hy h1 h2 rfl hb ⟨hl, oc.h⟩ k
theorem OpX.app1g (hT : T.ok P) {st : TypeId} {s y : Operand} {ty : TypeId} {ev : Operand → Option Value} {K : Value → HProp → Prop} {Kp : List PanicEntry → HProp → Prop}
    {n bl : Nat} {l : List Value} {c1 c2 : List Value} {a1 a2 : Bool} {s1 b1 b2 : Nat} {d : TypeDesc} {R' : HProp} {fz : Nat × Nat}
    [c : VecC H a t sz enc cap xs R] [sc : SizedC sz enc] [oc : OneC enc] (hs : ev s = some (.slice a n cap)) (hy : ev y = some (.slice (some ⟨bl, 0, none⟩) 1 1))
    (h1 : T st = some ⟨.slice t, c1, a1, s1, b1⟩) (h2 : T t = some ⟨d, c2, a2, sz, b2⟩) (hl : c2.length = sz)
    [p : PtsC H bl (.cells ⟨l⟩ t fz) R'] {x : α} [dx : DecOf enc l x] (hn : n = xs.length) (hb : 2 * (xs.length + 1) * b2 ≤ 281474976710656 ∧ xs.length + 1 ≤ 9223372036854775807)
    (k : ∀ a' cap', K (.slice a' (xs ++ [x]).length cap') (SL.vec t sz enc a' cap' (xs ++ [x]) • R)) :
    OpX P W (.call ⟨.builtin .append, ⟨[s, y]⟩, ⟨[st, st]⟩⟩) ty ev H K Kp := by
  refine OpX.app1 hT hs hy h1 h2 x dx.h hn hb ⟨hl, oc.h⟩ (fun a' c' => ?_)
  have := k a' c'
  rwa [List.length_append, ← hn] at this
/-- A cell of a row, by its place. -/
theorem Ld.rx {b off i : Nat} {K : Value → Prop} [c : RowC W H (some ⟨b, off, none⟩) 1 enc xs] (hi : i < xs.length) (hk : ∀ x, xs[i]? = some x → ∃ u, enc x = [u] ∧ K u) : Ld W H ⟨b, off + i * 1, none⟩ K := by
  obtain ⟨v, e, k⟩ := hk _ (List.getElem?_eq_getElem hi)
  exact Ld.r0 (List.getElem?_eq_getElem hi) (by rw [e]; rfl) k
theorem Ar.i64d {n c : Int} {K : Int → Prop} (h : 0 ≤ n ∧ n ≤ 9223372036854775807) (hc : 0 < c) (hk : K (n / c)) : Ar .i64 (n.tdiv c) K := by
  rw [Int.tdiv_eq_ediv_of_nonneg h.1]
  refine Ar.i64 ⟨?_, ?_⟩ hk
  · have := Int.ediv_nonneg h.1 (Int.le_of_lt hc); omega
  · have := Int.ediv_le_self c h.1; omega
theorem Ar.u64d {n c : Int} {K : Int → Prop} (h : 0 ≤ n ∧ n ≤ 18446744073709551615) (hc : 0 < c) (hk : K (n / c)) : Ar .u64 (n.tdiv c) K := by
  rw [Int.tdiv_eq_ediv_of_nonneg h.1]
  refine Ar.u64 ⟨Int.ediv_nonneg h.1 (Int.le_of_lt hc), ?_⟩ hk
  have := Int.ediv_le_self c h.1; omega
theorem OpQ.maxB {x y : Operand} {tys : Array TypeId} {ty : TypeId} {ev : Operand → Option Value} {K : Value → Prop} {k k' : IntKind} {n m : Int} (hx : ev x = some (.int k n)) (hy : ev y = some (.int k' m)) (hk : K (.int k (max n m))) : OpQ P W (.call ⟨.builtin .max, ⟨[x, y]⟩, tys⟩) ty ev H K := by
  refine ⟨_, fun w ρ hw he o' ho hty => ?_, hk⟩
  obtain ⟨dst, op, ty', pos, after, guard⟩ := o'
  simp only at ho hty
  subst ho hty
  have : (if m > n then m else n) = max n m := by rw [Int.max_def]; split <;> split <;> omega
  simp [execOp, resolve, invoke, builtin, he _ _ hx, he _ _ hy, run_max_int2, this]
theorem OpQ.minB {x y : Operand} {tys : Array TypeId} {ty : TypeId} {ev : Operand → Option Value} {K : Value → Prop} {k k' : IntKind} {n m : Int} (hx : ev x = some (.int k n)) (hy : ev y = some (.int k' m)) (hk : K (.int k (min n m))) : OpQ P W (.call ⟨.builtin .min, ⟨[x, y]⟩, tys⟩) ty ev H K := by
  refine ⟨_, fun w ρ hw he o' ho hty => ?_, hk⟩
  obtain ⟨dst, op, ty', pos, after, guard⟩ := o'
  simp only at ho hty
  subst ho hty
  have : (if m < n then m else n) = min n m := by rw [Int.min_def]; split <;> split <;> omega
  simp [execOp, resolve, invoke, builtin, he _ _ hx, he _ _ hy, run_min_int2, this]
theorem OpX.maxB {x y : Operand} {tys : Array TypeId} {ty : TypeId} {ev : Operand → Option Value} {K : Value → HProp → Prop} {Kp : List PanicEntry → HProp → Prop} {k k' : IntKind} {n m : Int} (hx : ev x = some (.int k n)) (hy : ev y = some (.int k' m)) (hk : K (.int k (max n m)) H) : OpX P W (.call ⟨.builtin .max, ⟨[x, y]⟩, tys⟩) ty ev H K Kp := OpX.of_quiet (OpQ.maxB hx hy hk)
theorem OpX.minB {x y : Operand} {tys : Array TypeId} {ty : TypeId} {ev : Operand → Option Value} {K : Value → HProp → Prop} {Kp : List PanicEntry → HProp → Prop} {k k' : IntKind} {n m : Int} (hx : ev x = some (.int k n)) (hy : ev y = some (.int k' m)) (hk : K (.int k (min n m)) H) : OpX P W (.call ⟨.builtin .min, ⟨[x, y]⟩, tys⟩) ty ev H K Kp := OpX.of_quiet (OpQ.minB hx hy hk)
/-- copy(s[z:..], y), y no longer than its room. -/
theorem OpX.cpyW (hT : T.ok P) {st yt : TypeId} {s y : Operand} {ty : TypeId} {ev : Operand → Option Value} {K : Value → HProp → Prop} {Kp : List PanicEntry → HProp → Prop} {e : TypeId} {b : Option Addr} {ys : List α}
    {z dn dc m mc : Nat} {c1 c2 : List Value} {a1 a2 : Bool} {s1 b1 b2 : Nat} {d : TypeDesc} {enc : α → List Value}
    [c : VecC H a t 1 enc cap xs R] [sc : SizedC 1 enc] [oc : OneC enc] (ro : RowC W H b 1 enc ys) (hs : ev s = some (.slice (dropA a z cap 1) dn dc)) (hy : ev y = some (.slice b m mc))
    (h1 : T st = some ⟨.slice e, c1, a1, s1, b1⟩) (h2 : T e = some ⟨d, c2, a2, 1, b2⟩) (hm : m = ys.length) (hd : ys.length ≤ dn) (hz : z + dn ≤ xs.length)
    (k : K (.int .i64 m) (SL.vec t 1 enc a cap (xs.take z ++ ys ++ xs.drop (z + ys.length)) • R)) :
    OpX P W (.call ⟨.builtin .copy, ⟨[s, y]⟩, ⟨[st, yt]⟩⟩) ty ev H K Kp := by
  subst hm
  have e1 : min ys.length dn = ys.length := Nat.min_eq_left hd
  refine OpX.cpy hT hs hy h1 h2 rfl hz oc.h ?_
  rw [e1, List.take_of_length_le (Nat.le_refl _)]
  exact k
theorem dropA_zero (a : Option Addr) (c size : Nat) : dropA a 0 c size = a := by
  unfold dropA
  cases a with
  | none => split <;> rfl
  | some x => simp [Addr.add]
/-- copy(s, y), y no longer than s. -/
theorem OpX.cpy0 (hT : T.ok P) {st yt : TypeId} {s y : Operand} {ty : TypeId} {ev : Operand → Option Value} {K : Value → HProp → Prop} {Kp : List PanicEntry → HProp → Prop} {e : TypeId} {b : Option Addr} {ys : List α}
    {dn dc m mc : Nat} {c1 c2 : List Value} {a1 a2 : Bool} {s1 b1 b2 : Nat} {d : TypeDesc} {enc : α → List Value}
    [c : VecC H a t 1 enc cap xs R] [sc : SizedC 1 enc] [oc : OneC enc] (ro : RowC W H b 1 enc ys) (hs : ev s = some (.slice a dn dc)) (hy : ev y = some (.slice b m mc))
    (h1 : T st = some ⟨.slice e, c1, a1, s1, b1⟩) (h2 : T e = some ⟨d, c2, a2, 1, b2⟩) (hm : m = ys.length) (hd : ys.length ≤ dn) (hz : dn ≤ xs.length)
    (k : K (.int .i64 m) (SL.vec t 1 enc a cap (ys ++ xs.drop ys.length) • R)) :
    OpX P W (.call ⟨.builtin .copy, ⟨[s, y]⟩, ⟨[st, yt]⟩⟩) ty ev H K Kp := by
  refine OpX.cpyW (a := a) hT (z := 0) ro (by rw [dropA_zero]; exact hs) hy h1 h2 hm hd (by omega) ?_
  simpa using k
class MemC {α : Type} (l : List α) (x : α) : Prop where h : x ∈ l
theorem bigL_mem {α : Type} (f : α → HProp) {l : List α} {x : α} (h : x ∈ l) : ∃ R, bigL f l = (f x • R) := by
  obtain ⟨i, hi⟩ := List.getElem?_of_mem h
  exact ⟨_, bigL_take f l i x hi⟩
theorem bigL_snoc {α : Type} (f : α → HProp) (l : List α) (x : α) : bigL f (l ++ [x]) = (f x • bigL f l) := by
  rw [bigL_append, star_comm]
  show ((f x • emp) • bigL f l) = _
  rw [star_emp]
/-- A row that is handed out has its room. -/
theorem Does.vlen {f : FuncId} {args : Array Value} {V : Option Addr → Nat → Value} (h : Does P W f args H (Ret fun v G => ∃ a c, v = V a c ∧ G = (SL.vec t sz enc a c xs • R))) :
    Does P W f args H (Ret fun v G => ∃ a c, xs.length ≤ c ∧ v = V a c ∧ G = (SL.vec t sz enc a c xs • R)) := by
  refine h.post fun e w H' hs hq => ?_
  obtain ⟨v, G, he, hi, a, c, hv, hG⟩ := hq
  exact ⟨H', hs, v, G, he, hi, a, c, vec_len (by have := hs.imp hi; rw [hG] at this; exact this), hv, hG⟩
/-- What stays of a heap where rows of its own are made longer or written: its blocks, not its rows. -/
class KeepC (H : HProp) (A : outParam HProp) : Prop where h : Imp H A
instance (priority := 10) KeepC.all : KeepC H H := ⟨Imp.refl _⟩
instance (priority := 50) KeepC.star {X A : HProp} [k : KeepC R A] : KeepC (X • R) (X • A) := ⟨Imp.right k.h⟩
instance (priority := 100) KeepC.vec {A : HProp} [k : KeepC R A] : KeepC (SL.vec t sz enc a cap xs • R) A := ⟨Imp.trans Imp.drop k.h⟩
instance (priority := 100) KeepC.big {β : Type} {f : β → HProp} {l : List β} {A : HProp} [k : KeepC R A] : KeepC (bigL f l • R) A := ⟨Imp.trans Imp.drop k.h⟩
instance (priority := 110) KeepC.vecl : KeepC (SL.vec t sz enc a cap xs) emp := ⟨Imp.emp _⟩
theorem DrawK.introK {N : Nat} (hT : T.ok P) (hm : P.follows .mixedOrders = true) {ops : List Oper} (n : Nat) (F plan : List Nat) {A : HProp} {fr : Fr} {ds : List Deferred} {K : ContK} {Kp : PanK} [k : KeepC H A]
    (_ : fstDst ops = n) (hp : plannedOk ops F plan = true) (h : execPlan P W T N A ops F plan fr ds H K fun c _ ds H => Kp c [] ds H) : DrawK P W T N ops fr ds H K Kp := DrawK.intro hT hm F plan A hp (Sub.of k.h) h
end
end Go.SL
