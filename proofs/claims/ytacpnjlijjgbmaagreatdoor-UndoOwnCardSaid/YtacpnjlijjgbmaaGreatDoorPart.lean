/- Parts of blocks that are read while others turn; stores into folded chunks. No condition. -/
import Derived.Test.YtacpnjlijjgbmaaGreatDoorOps2
import Derived.Test.YtacpnjlijjgbmaaGreatDoorDrawF
namespace Go.SL
open Go
section
variable {P : Program} {W : World} {H H' G R : HProp}
/-- The cells of these numbers hold these values. -/
def cellsAre (l : List Value) : List (Nat × Value) → Prop
  | [] => True
  | p :: r => l[p.1]? = some p.2 ∧ cellsAre l r
/-- Block b holds cells, those of these numbers among them. -/
def rdcs (b : Nat) (L : List (Nat × Value)) : HProp := fun h => ∃ (l : List Value) (t : TypeId) (fz : Nat × Nat), pts b (.cells ⟨l⟩ t fz) h ∧ cellsAre l L
class LkC (L : List (Nat × Value)) (k : Nat) (v : outParam Value) : Prop where h : ∀ l, cellsAre l L → l[k]? = some v
instance (priority := 90) LkC.there {p : Nat × Value} {L : List (Nat × Value)} {k : Nat} {v : Value} [i : LkC L k v] : LkC (p :: L) k v := ⟨fun l h => i.h l h.2⟩
instance (priority := 100) LkC.here {L : List (Nat × Value)} {k : Nat} {v : Value} : LkC ((k, v) :: L) k v := ⟨fun _ h => h.1⟩
theorem Rd.rdcs {b k : Nat} {L : List (Nat × Value)} {v : Value} [i : LkC L k v] : Rd W (rdcs b L • R) ⟨b, k, none⟩ v := by
  intro w hs
  obtain ⟨h1, a, h2, x, y, hd, rfl, ⟨l, t, fz, hp, hc⟩, hy⟩ := hs
  exact Rd.pts (R := R) (i.h l hc) w ⟨h1, _, h2, x, y, hd, rfl, hp, hy⟩
instance (priority := 100) RdC.rdcs {b k : Nat} {L : List (Nat × Value)} {v : Value} [i : LkC L k v] : RdC W (rdcs b L • R) ⟨b, k, none⟩ v := ⟨Rd.rdcs⟩
theorem Imp.rdcs {b : Nat} {l : List Value} {t : TypeId} {fz : Nat × Nat} {L : List (Nat × Value)} [p : PtsC H b (.cells ⟨l⟩ t fz) R] (h : cellsAre l L) (k : Imp R G) : Imp H (rdcs b L • G) := by
  rw [p.h.eq]
  refine Imp.star ?_ k
  intro x hx
  exact ⟨x, Heap.sub_refl _, l, t, fz, hx, h⟩
/-- A store into a folded chunk. -/
theorem St.conv {a : Addr} {vs : List Value} {K : HProp → Prop} (h : Imp H H') (st : St P W H' a vs (fun X => Imp X G)) (k : K G) : St P W H a vs K := by
  refine ⟨fun w hs hone => ?_⟩
  obtain ⟨w', X, h1, h2, h3⟩ := st.run w (hs.imp h) hone
  exact ⟨w', G, h1, h2.imp h3, k⟩
theorem Req.conv {p : Prop} {a : Addr} {vs : List Value} {K : HProp → Prop} (h : Imp H H') (st : Req p (St P W H' a vs (fun X => Imp X G))) (k : K G) : Req p (St P W H a vs K) := ⟨st.p, St.conv h st.k k⟩
theorem CallK.imp {f : FuncId} {args : List Value} {K : Value → HProp → Prop} {Kp : List PanicEntry → HProp → Prop} (h : Imp H H') (c : CallK P W f args H' K Kp) : CallK P W f args H K Kp := by
  refine ⟨c.go.imp (fun ⟨a, b⟩ => ⟨a, ⟨fun w hs => b.run w (hs.imp h)⟩⟩) fun k w hs => k w (hs.imp h)⟩
theorem vec_congr {α : Type} {t : TypeId} {sz : Nat} {enc : α → List Value} {a : Option Addr} {cap : Nat} {xs ys : List α} (h : xs.flatMap enc = ys.flatMap enc) (hl : xs.length = ys.length) (hn : xs = [] ↔ ys = []) : SL.vec t sz enc a cap xs = SL.vec t sz enc a cap ys := by
  unfold SL.vec
  cases a with
  | none => simp only [hn]
  | some x => simp only [h, hl]
theorem flat_set {α : Type} {enc : α → List Value} {x y : α} (he : enc y = enc x) : ∀ {xs : List α} {i : Nat}, xs[i]? = some x → (xs.set i y).flatMap enc = xs.flatMap enc
  | [], _, h => by simp at h
  | z :: xs, 0, h => by
    simp at h; subst h
    simp [he]
  | z :: xs, i + 1, h => by
    simp only [List.set_cons_succ, List.flatMap_cons]
    rw [flat_set he (i := i) (by simpa using h)]
theorem vec_set {α : Type} {t : TypeId} {sz : Nat} {enc : α → List Value} {a : Option Addr} {cap i : Nat} {xs : List α} {x y : α} (h : xs[i]? = some x) (he : enc y = enc x) : SL.vec t sz enc a cap (xs.set i y) = SL.vec t sz enc a cap xs :=
  vec_congr (flat_set he h) (by simp) (by simp)
/-- An index into the first cells of a row. -/
theorem IxS.vn {α : Type} {t : TypeId} {sz : Nat} {enc : α → List Value} {a : Option Addr} {cap : Nat} {xs : List α} {len i size : Nat} {n : Int} {K : Addr → Prop} [c : VecC H a t sz enc cap xs R] (hn : n = (i : Int)) (hi : i < len) (hl : len ≤ xs.length)
    (k : ∀ b off, a = some ⟨b, off, none⟩ → K ⟨b, off + i * size, none⟩) : IxS W H a len n size K := by
  have h : IxS W H a xs.length n size K := IxS.v hn rfl (by omega) k
  refine ⟨fun w hs => ?_⟩
  obtain ⟨a', h1, h2, h3, h4⟩ := h.ex w hs
  exact ⟨a', h1, h2, by omega, h4⟩
/-- All but one row. -/
theorem KeepC.cut {α : Type} {t : TypeId} {sz : Nat} {enc : α → List Value} {cap : Nat} {xs : List α} (a : Option Addr) [c : VecC H a t sz enc cap xs R] : KeepC H R := ⟨by rw [c.h.eq]; exact Imp.drop⟩
/-- x stands at i in l. -/
class GetC {α : Type} (l : List α) (i : outParam Nat) (x : α) : Prop where h : l[i]? = some x
theorem Imp.vtake {α : Type} {t : TypeId} {sz : Nat} {enc : α → List Value} {a : Option Addr} {cap : Nat} {xs : List α} [s : SizedC sz enc] [c : VecC H a t sz enc cap xs R] (k : Imp R G) (n : Nat) : Imp H (SL.vec t sz enc a cap (xs.take n) • G) := by
  rw [c.h.eq]
  refine Imp.star (Ent.imp ?_) k
  intro h hh
  cases a with
  | none =>
    obtain ⟨⟨h1, h2⟩, h3⟩ := hh
    exact ⟨⟨h1, by rw [h2]; simp⟩, h3⟩
  | some x =>
    obtain ⟨b, off, sp⟩ := x
    obtain ⟨pre, junk, hh⟩ := hh
    obtain ⟨⟨h1, h2, h3, h4⟩, h5⟩ := pure_star.1 hh
    refine ⟨pre, (xs.drop n).flatMap enc ++ junk, pure_star.2 ⟨⟨h1, h2, by simp; omega, ?_⟩, ?_⟩⟩
    · rw [List.length_append, s.h.flat, h4, ← Nat.add_mul, List.length_drop, List.length_take]
      congr 1; omega
    · have : pre ++ (xs.take n).flatMap enc ++ ((xs.drop n).flatMap enc ++ junk) = pre ++ xs.flatMap enc ++ junk := by
        rw [← List.append_assoc (pre ++ _), List.append_assoc pre, ← List.flatMap_append, List.take_append_drop]
      rw [this]; exact h5
end
end Go.SL
