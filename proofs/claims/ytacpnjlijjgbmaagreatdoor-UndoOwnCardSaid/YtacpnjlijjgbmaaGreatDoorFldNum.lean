/- Numbers as bytes of their shortest form, in plain words; chunks of objects, found by their address. No condition. -/
import Derived.Test.YtacpnjlijjgbmaaGreatDoorFldCrc
namespace Go.SL
open Go
/-- The object at d, found in a heap: F d X. -/
class ObjC {σ : Type} (F : Nat → σ → HProp) (H : HProp) (d : Nat) (X : outParam σ) (R : outParam HProp) : Prop where h : Take H (F d X) R
instance (priority := 90) ObjC.there {σ : Type} {F : Nat → σ → HProp} {H R Y : HProp} {d : Nat} {X : σ} [i : ObjC F H d X R] : ObjC F (Y • H) d X (Y • R) := ⟨i.h.there⟩
instance (priority := 100) ObjC.here {σ : Type} {F : Nat → σ → HProp} {R : HProp} {d : Nat} {X : σ} : ObjC F (F d X • R) d X R := ⟨.here⟩
end Go.SL
namespace Go.SL.Fld
open Go Go.SL Go.SL.Sec
/-- A number from 0 on. -/
def encN (n : Nat) : List Int := if 128 ≤ n then ((n % 128 + 128 : Nat) : Int) :: encN (n / 128) else [(n : Int)]
theorem encN_ge {n : Nat} (h : 128 ≤ n) : encN n = ((n % 128 + 128 : Nat) : Int) :: encN (n / 128) := by rw [encN, if_pos h]
theorem encN_lt {n : Nat} (h : n < 128) : encN n = [(n : Int)] := by rw [encN, if_neg (by omega)]
theorem encN_byt (n : Nat) : Byt (encN n) := by
  induction n using Nat.strongRecOn with
  | _ n ih =>
    by_cases h : 128 ≤ n
    · rw [encN_ge h]
      intro b hb
      rcases List.mem_cons.1 hb with rfl | hb
      · omega
      · exact ih _ (by omega) b hb
    · rw [encN_lt (by omega)]
      intro b hb
      obtain rfl := List.mem_singleton.1 hb
      omega
theorem encN_pos (n : Nat) : 1 ≤ (encN n).length := by
  rw [encN]; split <;> simp
theorem encN_len : ∀ (k n : Nat), n < 128 ^ (k + 1) → (encN n).length ≤ k + 1
  | 0, n, h => by rw [encN_lt (by simpa using h)]; simp
  | k + 1, n, h => by
    by_cases h1 : 128 ≤ n
    · have := encN_len k (n / 128) (Nat.div_lt_of_lt_mul (by rw [Nat.mul_comm, ← Nat.pow_succ]; exact h))
      rw [encN_ge h1]; simp; omega
    · rw [encN_lt (by omega)]; simp
/-- A number with a sign, as one from 0 on. -/
def zig (n : Int) : Int := if 0 ≤ n then 2 * n else -2 * n - 1
def zag (n : Int) : Int := if n % 2 = 0 then n / 2 else -(n / 2) - 1
theorem zag_zig (n : Int) : zag (zig n) = n := by unfold zag zig; split <;> split <;> omega
/-- The number at the front: it, how many bytes it has, the fault (then the others are 0). k bytes are read already, they come to n. -/
def nextG : Nat → Int → List Int → Int × Int × Int
  | k, _, [] => if k ≥ 10 then (0, 0, 22) else (0, 0, 20)
  | k, n, c :: r =>
    if k = 10 then (0, 0, 22) else
    if c ≥ 128 then nextG (k + 1) (n + c % 128 * 128 ^ k) r else
    if (0 < k ∧ c = 0) ∨ (k = 9 ∧ 1 < c) then (0, 0, 22) else (n + c * 128 ^ k, (k : Int) + 1, 0)
theorem nextG_enc (l : List Int) : ∀ (n k : Nat) (m : Int), k ≤ 9 → n * 128 ^ k < 18446744073709551616 → (0 < k → 0 < n) → nextG k m (encN n ++ l) = (m + n * 128 ^ k, ((k + (encN n).length : Nat) : Int), 0) := by
  intro n
  induction n using Nat.strongRecOn with
  | _ n ih =>
    intro k m hk hn h0
    have hp : 0 < 128 ^ k := Nat.pow_pos (by decide)
    by_cases h : 128 ≤ n
    · have hk9 : k ≠ 9 := by
        rintro rfl
        have : (128 : Nat) ^ 9 = 9223372036854775808 := by decide
        rw [this] at hn
        omega
      rw [encN_ge h, List.cons_append, nextG, if_neg (by omega), if_pos (by omega)]
      have hd : n / 128 * 128 ^ (k + 1) ≤ n * 128 ^ k := by
        rw [Nat.pow_succ, Nat.mul_comm (128 ^ k) 128, ← Nat.mul_assoc]
        exact Nat.mul_le_mul_right _ (Nat.div_mul_le_self _ _)
      rw [ih (n / 128) (by omega) (k + 1) _ (by omega) (by omega) (by omega)]
      have hmod : ((n % 128 + 128 : Nat) : Int) % 128 = ((n % 128 : Nat) : Int) := by omega
      rw [hmod]
      refine Prod.ext ?_ (Prod.ext ?_ rfl)
      · show m + ((n % 128 : Nat) : Int) * 128 ^ k + ((n / 128 : Nat) : Int) * 128 ^ (k + 1) = m + (n : Int) * 128 ^ k
        have hdm : (n : Int) = ((n % 128 : Nat) : Int) + 128 * ((n / 128 : Nat) : Int) := by omega
        rw [Int.pow_succ, Int.add_assoc]
        congr 1
        conv => rhs; rw [hdm]
        rw [Int.add_mul, Int.mul_comm (128 ^ k) 128, ← Int.mul_assoc, Int.mul_comm ((n / 128 : Nat) : Int) 128]
      · simp only [List.length_cons]; omega
    · have hk9 : k = 9 → (n : Int) ≤ 1 := by
        rintro rfl
        have : (128 : Nat) ^ 9 = 9223372036854775808 := by decide
        rw [this] at hn
        omega
      rw [encN_lt (n := n) (by omega), List.singleton_append, nextG, if_neg (by omega), if_neg (by omega), if_neg]
      · simp
      · rintro (⟨h1, h2⟩ | ⟨h1, h2⟩)
        · have := h0 h1; omega
        · have := hk9 h1; omega
end Go.SL.Fld
