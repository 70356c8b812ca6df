/- Rows of slices; an element found by its cells. No condition. -/
import Derived.Test.YtacpnjlijjgbmaaGreatDoorVec2
namespace Go.SL
open Go
/-- A slice, as an element of a row. -/
abbrev SlV := Option Addr × Nat × Nat
def slcv (s : SlV) : List Value := [.slice s.1 s.2.1 s.2.2]
instance : SizedC 1 slcv := ⟨fun _ => rfl⟩
theorem slc_one : ∀ ys : List SlV, ∀ v ∈ ys.flatMap slcv, v.oneCell' = true := by
  intro ys v hv
  obtain ⟨d, _, hv⟩ := List.mem_flatMap.1 hv
  simp only [slcv, List.mem_cons, List.not_mem_nil, or_false] at hv
  subst hv; rfl
/-- The element that these cells write. -/
class DecOf {α : Type} (enc : α → List Value) (l : List Value) (x : outParam α) : Prop where h : enc x = l
instance {a : Option Addr} {n c : Nat} : DecOf slcv [.slice a n c] (a, n, c) := ⟨rfl⟩
section
variable {P : Program} {W : World} {T : Tab} {α : Type} {t : TypeId} {sz : Nat} {enc : α → List Value} {a : Option Addr} {cap : Nat} {xs : List α} {H R : HProp}
/-- append(nil, one new element). -/
theorem OpX.app1n (hT : T.ok P) {st : TypeId} {s y : Operand} {ty : TypeId} {ev : Operand → Option Value} {K : Value → HProp → Prop} {Kp : List PanicEntry → HProp → Prop}
    {bl : Nat} {l : List Value} {c1 c2 : List Value} {a1 a2 : Bool} {s1 b1 b2 : Nat} {d : TypeDesc} {R' : HProp} {fz : Nat × Nat} (enc : α → List Value)
    [sc : SizedC sz enc] (hs : ev s = some (.slice none 0 0)) (hy : ev y = some (.slice (some ⟨bl, 0, none⟩) 1 1))
    (h1 : T st = some ⟨.slice t, c1, a1, s1, b1⟩) (h2 : T t = some ⟨d, c2, a2, sz, b2⟩)
    [p : PtsC H bl (.cells ⟨l⟩ t fz) R'] {x : α} [dx : DecOf enc l x] (hb : 2 * b2 ≤ 281474976710656)
    (hl : c2.length = sz ∧ ∀ ys : List α, ∀ v ∈ ys.flatMap enc, v.oneCell' = true)
    (k : ∀ a' cap', K (.slice a' 1 cap') (SL.vec t sz enc a' cap' [x] • H)) :
    OpX P W (.call ⟨.builtin .append, ⟨[s, y]⟩, ⟨[st, st]⟩⟩) ty ev H K Kp := by
  have hx := dx.h
  subst hx
  have hd : RdL W H bl 0 (enc x) := by
    rw [p.h.eq]
    exact RdL.pts (n := (enc x).length) (by simp)
  exact OpX.appendNil hT enc sc.h hl.2 h1 rfl h2 rfl hl.1 h1 (fun k e => by cases e) hs hy [x] (by simpa using Src.cells (P := P) (m := 1) (sz := sz) (c := 1) hd (by simp [sc.h x])) rfl (by simpa using hb) k
/-- append(s, one new element), the element found by its cells. -/
theorem OpX.app1i (hT : T.ok P) {st : TypeId} {s y : Operand} {ty : TypeId} {ev : Operand → Option Value} {K : Value → HProp → Prop} {Kp : List PanicEntry → HProp → Prop}
    {n bl : Nat} {l : List Value} {c1 c2 : List Value} {a1 a2 : Bool} {s1 b1 b2 : Nat} {d : TypeDesc} {R' : HProp} {fz : Nat × Nat}
    [c : VecC H a t sz enc cap xs R] [sc : SizedC sz enc] (hs : ev s = some (.slice a n cap)) (hy : ev y = some (.slice (some ⟨bl, 0, none⟩) 1 1))
    (h1 : T st = some ⟨.slice t, c1, a1, s1, b1⟩) (h2 : T t = some ⟨d, c2, a2, sz, b2⟩)
    [p : PtsC H bl (.cells ⟨l⟩ t fz) R'] {x : α} [dx : DecOf enc l x] (hn : n = xs.length) (hb : 2 * (xs.length + 1) * b2 ≤ 281474976710656 ∧ xs.length + 1 ≤ 9223372036854775807)
    (hl : c2.length = sz ∧ ∀ ys : List α, ∀ v ∈ ys.flatMap enc, v.oneCell' = true)
    (k : ∀ a' cap', K (.slice a' (n + 1) cap') (SL.vec t sz enc a' cap' (xs ++ [x]) • R)) :
    OpX P W (.call ⟨.builtin .append, ⟨[s, y]⟩, ⟨[st, st]⟩⟩) ty ev H K Kp := OpX.app1 hT hs hy h1 h2 x dx.h hn hb hl k
/-- An index into a row, as it is. -/
theorem IxS.rn {len size : Nat} {n : Int} {K : Addr → Prop} [c : RowC W H a sz enc xs] (hlen : len = xs.length) (hi : 0 ≤ n ∧ n < xs.length)
    (k : ∀ b off, a = some ⟨b, off, none⟩ → K ⟨b, off + n.toNat * size, none⟩) : IxS W H a len n size K := IxS.r (i := n.toNat) (by omega) hlen (by omega) k
end
end Go.SL
