/- Maps whose entries are known; the rest of a row. Conditions: in each statement. -/
import Derived.Test.YtacpnjlijjgbmaaGreatDoorWalk
namespace Go.SL
open Go
section
variable {P : Program} {W : World} {T : Tab} {H R : HProp} {α : Type} {f : α → Value} {m : List (Int × α)}
theorem OpX.lk2s (hT : T.ok P) {t kt et : TypeId} {k0 kk : IntKind} {mo key : Operand} {ty : TypeId} {ev : Operand → Option Value} {K : Value → HProp → Prop} {Kp : List PanicEntry → HProp → Prop} {r : Nat} {k : Int} {u : α} {c1 c2 : List Value} {a1 a2 : Bool} {s1 s2 b1 b2 : Nat} {r3 : TRow}
    [i : MapC H r kk (mapv f m) R] (hl : m.lookup k = some u) (h1 : T t = some ⟨.map kt et, c1, a1, s1, b1⟩) (h2 : T kt = some ⟨.int k0, c2, a2, s2, b2⟩) (h3 : T et = some r3)
    (hm : ev mo = some (.map (some r))) (hk : ev key = some (.int kk k)) (yes : K (.tuple ⟨[f u, .bool true]⟩) H) : OpX P W (.lookup t mo key true) ty ev H K Kp :=
  OpX.lk2v hT h1 h2 h3 hm hk (fun u' hu => by rw [hl] at hu; cases hu; exact yes) (fun hu => by rw [hl] at hu; cases hu)
theorem OpX.lk2n (hT : T.ok P) {t kt et : TypeId} {k0 kk : IntKind} {mo key : Operand} {ty : TypeId} {ev : Operand → Option Value} {K : Value → HProp → Prop} {Kp : List PanicEntry → HProp → Prop} {r : Nat} {k : Int} {c1 c2 : List Value} {a1 a2 : Bool} {s1 s2 b1 b2 : Nat} {r3 : TRow}
    [i : MapC H r kk (mapv f m) R] (hl : m.lookup k = none) (h1 : T t = some ⟨.map kt et, c1, a1, s1, b1⟩) (h2 : T kt = some ⟨.int k0, c2, a2, s2, b2⟩) (h3 : T et = some r3)
    (hm : ev mo = some (.map (some r))) (hk : ev key = some (.int kk k)) (no : zK r3 fun z => K (.tuple ⟨[z, .bool false]⟩) H) : OpX P W (.lookup t mo key true) ty ev H K Kp :=
  OpX.lk2v hT h1 h2 h3 hm hk (fun u' hu => by rw [hl] at hu; cases hu) (fun _ => no)
theorem OpX.lks (hT : T.ok P) {t kt et : TypeId} {k0 kk : IntKind} {mo key : Operand} {ty : TypeId} {ev : Operand → Option Value} {K : Value → HProp → Prop} {Kp : List PanicEntry → HProp → Prop} {r : Nat} {k : Int} {u : α} {c1 c2 : List Value} {a1 a2 : Bool} {s1 s2 b1 b2 : Nat} {r3 : TRow}
    [i : MapC H r kk (mapv f m) R] (hl : m.lookup k = some u) (h1 : T t = some ⟨.map kt et, c1, a1, s1, b1⟩) (h2 : T kt = some ⟨.int k0, c2, a2, s2, b2⟩) (h3 : T et = some r3)
    (hm : ev mo = some (.map (some r))) (hk : ev key = some (.int kk k)) (yes : K (f u) H) : OpX P W (.lookup t mo key false) ty ev H K Kp :=
  OpX.lkv hT h1 h2 h3 hm hk (fun u' hu => by rw [hl] at hu; cases hu; exact yes) (fun hu => by rw [hl] at hu; cases hu)
theorem OpX.delv (hT : T.ok P) {t kt et : TypeId} {k0 kk : IntKind} {mo key : Operand} {tys : List TypeId} {ty : TypeId} {ev : Operand → Option Value} {K : Value → HProp → Prop} {Kp : List PanicEntry → HProp → Prop} {r : Nat} {k : Int} {c1 c2 : List Value} {a1 a2 : Bool} {s1 s2 b1 b2 : Nat}
    [i : MapC H r kk (mapv f m) R] (h1 : T t = some ⟨.map kt et, c1, a1, s1, b1⟩) (h2 : T kt = some ⟨.int k0, c2, a2, s2, b2⟩)
    (hm : ev mo = some (.map (some r))) (hk : ev key = some (.int kk k)) (hK : K (.tuple ⟨[]⟩) (mapc r kk (mapv f (delKV k m)) • R)) : OpX P W (.call ⟨.builtin .delete, ⟨[mo, key]⟩, ⟨t :: tys⟩⟩) ty ev H K Kp := by
  refine OpX.del hT h1 h2 hm hk ?_
  rw [← mapv_del]; exact hK
/-- Where the rest of a row begins. -/
def dropA (a : Option Addr) (z c size : Nat) : Option Addr := if c = z then a else a.map (·.add (z * size))
theorem RowC.drop {sz : Nat} {enc : α → List Value} {a : Option Addr} {xs : List α} (z c : Nat) (hc : xs.length ≤ c) (h : RowC W H a sz enc xs) : RowC W H (dropA a z c sz) sz enc (xs.drop z) := ⟨fun w hs i x hx => by
  rw [List.getElem?_drop] at hx
  have hlt : z + i < xs.length := (List.getElem?_eq_some_iff.1 hx).1
  obtain ⟨b, off, ha, hj⟩ := h.h w hs _ x hx
  refine ⟨b, off + z * sz, ?_, fun j v hv => ?_⟩
  · unfold dropA
    rw [if_neg (by omega), ha, Option.map_some, Addr.add_eq]
  · have := hj j v hv
    rwa [Nat.add_mul, ← Nat.add_assoc] at this⟩
theorem OpQ.slr (hT : T.ok P) {st : TypeId} {s i : Operand} {ty : TypeId} {ev : Operand → Option Value} {K : Value → Prop} {a : Option Addr} {n c : Nat} {k : IntKind} {z : Int} {e : TypeId} {c1 : List Value} {a1 : Bool} {s1 b1 : Nat} {r2 : TRow} (zn : Nat)
    (hs : ev s = some (.slice a n c)) (hi : ev i = some (.int k z)) (h1 : T st = some ⟨.slice e, c1, a1, s1, b1⟩) (h2 : T e = some r2) (hz : z = (zn : Int)) (hn : zn ≤ n) (hk : K (.slice (dropA a zn c r2.size) (n - zn) (c - zn))) :
    OpQ P W (.slice st s (some i) none none) ty ev H K := by
  subst hz
  refine OpQ.sll hT hs hi h1 h2 ⟨by omega, by omega⟩ ?_
  unfold dropv
  rw [Int.toNat_natCast]
  exact hk
/-- append(nil, y[:k]..) -/
theorem OpX.appNt (hT : T.ok P) {st : TypeId} {s y : Operand} {ty : TypeId} {ev : Operand → Option Value} {K : Value → HProp → Prop} {Kp : List PanicEntry → HProp → Prop} {t : TypeId} {sz : Nat} {enc : α → List Value} {b : Option Addr} {ys : List α}
    {m cap' : Nat} {c1 c2 : List Value} {a1 a2 : Bool} {s1 b1 b2 : Nat} {d : TypeDesc} (k : Nat)
    [sc : SizedC sz enc] [e : RowC W H b sz enc ys] (hs : ev s = some (.slice none 0 0)) (hy : ev y = some (.slice b m cap'))
    (h1 : T st = some ⟨.slice t, c1, a1, s1, b1⟩) (h2 : T t = some ⟨d, c2, a2, sz, b2⟩) (hm : m = k) (hk : k ≤ ys.length) (hb : 2 * ys.length * b2 ≤ 281474976710656 ∧ ys.length ≤ 9223372036854775807)
    (hl : c2.length = sz ∧ ∀ ys : List α, ∀ v ∈ ys.flatMap enc, v.oneCell' = true)
    (kk : ∀ a' cap', K (.slice a' k cap') (SL.vec t sz enc a' cap' (ys.take k) • H)) :
    OpX P W (.call ⟨.builtin .append, ⟨[s, y]⟩, ⟨[st, st]⟩⟩) ty ev H K Kp := by
  haveI := RowC.take k e
  subst hm
  have hl2 : (ys.take m).length = m := by simp; omega
  refine OpX.appN (ys := ys.take m) hT hs hy h1 h2 hl2.symm ⟨?_, by omega⟩ hl kk
  rw [hl2]
  exact Nat.le_trans (Nat.mul_le_mul_right _ (by omega)) hb.1
/-- append(s, y[k:]..) -/
theorem OpX.appRd (hT : T.ok P) {st : TypeId} {s y : Operand} {ty : TypeId} {ev : Operand → Option Value} {K : Value → HProp → Prop} {Kp : List PanicEntry → HProp → Prop} {t : TypeId} {sz : Nat} {enc : α → List Value} {a b : Option Addr} {xs ys : List α}
    {n m z cb cap cap' : Nat} {c1 c2 : List Value} {a1 a2 : Bool} {s1 b1 b2 : Nat} {d : TypeDesc} {R2 : HProp}
    [c : VecC H a t sz enc cap xs R] [sc : SizedC sz enc] (hs : ev s = some (.slice a n cap)) (hy : ev y = some (.slice (dropA b z cb sz) m cap'))
    [e : VecC H b t sz enc cb ys R2] (h1 : T st = some ⟨.slice t, c1, a1, s1, b1⟩) (h2 : T t = some ⟨d, c2, a2, sz, b2⟩) (hn : n = xs.length) (hm : m = ys.length - z) (hb : 2 * (xs.length + (ys.length - z)) * b2 ≤ 281474976710656 ∧ xs.length + ys.length ≤ 9223372036854775807)
    (hl : c2.length = sz ∧ ∀ ys : List α, ∀ v ∈ ys.flatMap enc, v.oneCell' = true)
    (k : ∀ a' cap', K (.slice a' (xs ++ ys.drop z).length cap') (SL.vec t sz enc a' cap' (xs ++ ys.drop z) • R)) :
    OpX P W (.call ⟨.builtin .append, ⟨[s, y]⟩, ⟨[st, st]⟩⟩) ty ev H K Kp := by
  refine ⟨fun w ρ hw he => ?_⟩
  have hc : ys.length ≤ cb := vec_len (by rw [← e.h.eq]; exact hw)
  haveI : RowC W H b sz enc ys := by rw [e.h.eq]; exact RowC.here
  haveI := RowC.drop z cb hc this
  have hl2 : (ys.drop z).length = ys.length - z := List.length_drop
  refine (OpX.appR (W := W) (H := H) (xs := xs) (ys := ys.drop z) hT hs hy h1 h2 hn (by rw [hl2]; exact hm) ⟨?_, by omega⟩ hl (fun a' c' => ?_)).run w ρ hw he
  · rw [hl2]; exact hb.1
  · have := k a' c'
    rwa [List.length_append, hl2, ← hm, ← hn] at this
/-- A part of an element. -/
theorem LdN.rp {sz : Nat} {enc : α → List Value} {xs : List α} {b off i j n : Nat} {x : α} {l vs : List Value} {K : Value → Prop} [c : RowC W H (some ⟨b, off, none⟩) sz enc xs] [li : LitL (enc x) l] [s : LSub l j n vs] (hx : xs[i]? = some x) (k : K (.agg ⟨vs⟩)) :
    LdN W H ⟨b, off + i * sz + j, none⟩ n K := ⟨vs, s.h.2, fun q v hq w hs => by
  obtain ⟨b', off', e, h⟩ := c.h w hs i x hx
  cases e
  have hq2 : (enc x)[j + q]? = some v := by
    rw [li.h]
    have h1 := s.h.1
    rw [← h1, List.getElem?_take] at hq
    split at hq
    · rwa [List.getElem?_drop] at hq
    · cases hq
  have := h _ v hq2 w hs
  rwa [Addr.add_eq, Nat.add_assoc (off + i * sz)], k⟩
end
end Go.SL
