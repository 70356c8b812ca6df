/- Slices: the rules with instances; lists of assertions. No condition. -/
import Derived.Test.YtacpnjlijjgbmaaGreatDoorMaps
namespace Go.SL
open Go

class SizedC {α : Type} (sz : Nat) (enc : α → List Value) : Prop where h : Sized sz enc
instance SizedC.one {α : Type} (f : α → Value) : SizedC 1 (one f) := ⟨Sized.one f⟩
instance SizedC.ints : SizedC 1 ints := ⟨Sized.one _⟩
class VecC {α : outParam Type} (H : HProp) (a : Option Addr) (t : outParam TypeId) (sz : outParam Nat) (enc : outParam (α → List Value)) (cap : outParam Nat) (xs : outParam (List α)) (R : outParam HProp) : Prop where
  h : Take H (vec t sz enc a cap xs) R
section
variable {P : Program} {W : World} {T : Tab} {H R X : HProp} {α : Type} {t : TypeId} {sz : Nat} {enc : α → List Value} {a : Option Addr} {cap : Nat} {xs : List α}
instance (priority := 90) VecC.there [i : VecC H a t sz enc cap xs R] : VecC (X • H) a t sz enc cap xs (X • R) := ⟨i.h.there⟩
instance (priority := 100) VecC.here : VecC (vec t sz enc a cap xs • R) a t sz enc cap xs R := ⟨.here⟩
instance VecC.last : VecC (vec t sz enc a cap xs) a t sz enc cap xs emp := ⟨.last⟩
theorem VecC.at' (i : VecC H a t sz enc cap xs R) : VecAt W H t sz enc a cap xs := by have := i.h.eq; subst this; exact VecAt.here

theorem IxS.v {len i size : Nat} {n : Int} {K : Addr → Prop} [c : VecC H a t sz enc cap xs R] (hn : n = (i : Int)) (hlen : len = xs.length) (hi : i < xs.length)
    (k : ∀ b off, a = some ⟨b, off, none⟩ → K ⟨b, off + i * size, none⟩) : IxS W H a len n size K := by subst hn; exact IxS.vec c.at' hlen hi k
theorem Ld.v0 {b off i : Nat} {x : α} {v : Value} {K : Value → Prop} [c : VecC H (some ⟨b, off, none⟩) t sz enc cap xs R] [s : SizedC sz enc] (hx : xs[i]? = some x) (hj : (enc x)[0]? = some v) (k : K v) :
    Ld W H ⟨b, off + i * sz, none⟩ K := Ld.intro (Rd.vec0 s.h c.at' hx hj) k
theorem Ld.v {b off i j : Nat} {x : α} {v : Value} {K : Value → Prop} [c : VecC H (some ⟨b, off, none⟩) t sz enc cap xs R] [s : SizedC sz enc] (hx : xs[i]? = some x) (hj : (enc x)[j]? = some v) (k : K v) :
    Ld W H ⟨b, off + i * sz + j, none⟩ K := Ld.intro (Rd.vec s.h c.at' hx hj) k
theorem LdN.v {b off i : Nat} {x : α} {l : List Value} {K : Value → Prop} [c : VecC H (some ⟨b, off, none⟩) t sz enc cap xs R] [s : SizedC sz enc] (hx : xs[i]? = some x) (hl : enc x = l) (k : K (.agg ⟨l⟩)) :
    LdN W H ⟨b, off + i * sz, none⟩ sz K := by subst hl; exact LdN.cells (RdL.vec s.h c.at' hx) (s.h x) k
/-- A store into cell j of element i. -/
theorem St.v {b off i j n : Nat} {x : α} {vs : List Value} {K : HProp → Prop} [c : VecC H (some ⟨b, off, none⟩) t sz enc cap xs R] [s : SizedC sz enc] (hx : xs[i]? = some x)
    (y : α) (hy : enc y = (enc x).take j ++ vs ++ (enc x).drop (j + vs.length)) (hj : j + vs.length ≤ sz) (hv : vs.length = n ∧ vs.all (·.oneCell') = true)
    (k : K (SL.vec t sz enc (some ⟨b, off, none⟩) cap (xs.set i y) • R)) : Req (vs.length = n ∧ vs.all (·.oneCell') = true) (St P W H ⟨b, off + i * sz + j, none⟩ vs K) :=
  ⟨hv, St.vec s.h c.h hx hy hj k⟩
theorem St.v0 {b off i n : Nat} {x : α} {vs : List Value} {K : HProp → Prop} [c : VecC H (some ⟨b, off, none⟩) t sz enc cap xs R] [s : SizedC sz enc] (hx : xs[i]? = some x)
    (y : α) (hy : enc y = vs ++ (enc x).drop vs.length) (hj : vs.length ≤ sz) (hv : vs.length = n ∧ vs.all (·.oneCell') = true)
    (k : K (SL.vec t sz enc (some ⟨b, off, none⟩) cap (xs.set i y) • R)) : Req (vs.length = n ∧ vs.all (·.oneCell') = true) (St P W H ⟨b, off + i * sz, none⟩ vs K) :=
  ⟨hv, St.vec (j := 0) s.h c.h hx (by simpa using hy) (by simpa using hj) k⟩
/-- append(s, one new element that lies in a block of its own). -/
theorem OpX.app1 (hT : T.ok P) {st : TypeId} {s y : Operand} {ty : TypeId} {ev : Operand → Option Value} {K : Value → HProp → Prop} {Kp : List PanicEntry → HProp → Prop}
    {n bl : Nat} {l : List Value} {c1 c2 : List Value} {a1 a2 : Bool} {s1 b1 b2 : Nat} {d : TypeDesc} {R' : HProp} {fz : Nat × Nat}
    [c : VecC H a t sz enc cap xs R] [sc : SizedC sz enc] (hs : ev s = some (.slice a n cap)) (hy : ev y = some (.slice (some ⟨bl, 0, none⟩) 1 1))
    (h1 : T st = some ⟨.slice t, c1, a1, s1, b1⟩) (h2 : T t = some ⟨d, c2, a2, sz, b2⟩)
    [p : PtsC H bl (.cells ⟨l⟩ t fz) R'] (x : α) (hx : enc x = l) (hn : n = xs.length) (hb : 2 * (xs.length + 1) * b2 ≤ 281474976710656 ∧ xs.length + 1 ≤ 9223372036854775807)
    (hl : c2.length = sz ∧ ∀ ys : List α, ∀ v ∈ ys.flatMap enc, v.oneCell' = true)
    (k : ∀ a' cap', K (.slice a' (n + 1) cap') (SL.vec t sz enc a' cap' (xs ++ [x]) • R)) :
    OpX P W (.call ⟨.builtin .append, ⟨[s, y]⟩, ⟨[st, st]⟩⟩) ty ev H K Kp := by
  subst hx
  refine OpX.append hT sc.h hl.2 h1 rfl h2 rfl hl.1 h1 (fun k e => by cases e) hs hn hy (ys := [x]) ?_ rfl c.h (by subst hn; exact hb) k
  have hd : RdL W H bl 0 (enc x) := by
    rw [p.h.eq]
    exact RdL.pts (n := (enc x).length) (by simp)
  simpa using Src.cells (P := P) (m := 1) (sz := sz) (c := 1) hd (by simp [sc.h x])

def bigL (f : α → HProp) : List α → HProp
  | [] => emp
  | x :: l => f x • bigL f l
theorem bigL_append (f : α → HProp) : ∀ l l' : List α, bigL f (l ++ l') = (bigL f l • bigL f l')
  | [], l' => by simp [bigL, emp_star]
  | p :: l, l' => by simp [bigL, bigL_append f l l', star_assoc]
theorem bigL_take (f : α → HProp) : ∀ (l : List α) (i : Nat) (x : α), l[i]? = some x → bigL f l = (f x • bigL f (l.eraseIdx i))
  | [], _, _, h => by simp at h
  | a :: l, 0, x, h => by simp at h; subst h; rfl
  | a :: l, i + 1, x, h => by
    have := bigL_take f l i x (by simpa using h)
    simp [bigL, this, star_left_comm (f x)]
theorem bigL_set (f : α → HProp) (y : α) : ∀ (l : List α) (i : Nat) (x : α), l[i]? = some x → bigL f (l.set i y) = (f y • bigL f (l.eraseIdx i))
  | [], _, _, h => by simp at h
  | a :: l, 0, x, h => rfl
  | a :: l, i + 1, x, h => by
    have := bigL_set f y l i x (by simpa using h)
    simp [bigL, this, star_left_comm (f y)]
end
end Go.SL
