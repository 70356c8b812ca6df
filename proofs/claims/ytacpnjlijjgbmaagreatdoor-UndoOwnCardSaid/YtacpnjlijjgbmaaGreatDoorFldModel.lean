/- Numbers as bytv; the checksum, in plain words. No condition. -/
import Derived.Test.YtacpnjlijjgbmaaGreatDoorSecModel
namespace Go.SL.Fld
open Go Go.SL Go.SL.Sec
/-- A number's lowest bytv, the lowest first. -/
def leB : Nat → Int → List Int
  | 0, _ => []
  | k + 1, n => n % 256 :: leB k (n / 256)
/-- Back. -/
def leV : List Int → Int
  | [] => 0
  | b :: r => b + 256 * leV r
theorem leB_len : ∀ (k : Nat) (n : Int), (leB k n).length = k
  | 0, _ => rfl
  | k + 1, n => by simp [leB, leB_len k]
theorem leB_byt : ∀ (k : Nat) (n : Int), Byt (leB k n)
  | 0, _ => Byt.nil
  | k + 1, n => fun b hb => by
    rcases List.mem_cons.1 hb with rfl | hb
    · omega
    · exact leB_byt k _ b hb
theorem leB_snoc : ∀ (k : Nat) (n : Int), leB (k + 1) n = leB k n ++ [n / 256 ^ k % 256]
  | 0, n => by simp [leB]
  | k + 1, n => by
    rw [leB, leB_snoc k (n / 256), leB]
    rw [List.cons_append, Int.ediv_ediv_of_nonneg (by decide), Int.pow_succ, Int.mul_comm]
theorem leV_leB : ∀ (k : Nat) (n : Int), 0 ≤ n → n < 256 ^ k → leV (leB k n) = n
  | 0, n, h0, h => by simp only [Int.pow_zero] at h; simp [leB, leV]; omega
  | k + 1, n, h0, h => by
    have h1 : n / 256 < 256 ^ k := Int.ediv_lt_of_lt_mul (by decide) (by rw [← Int.pow_succ]; exact h)
    rw [leB, leV, leV_leB k (n / 256) (by omega) h1]
    omega
theorem leV_bd : ∀ l : List Int, Byt l → 0 ≤ leV l ∧ leV l < 256 ^ l.length
  | [], _ => by simp [leV]
  | b :: r, h => by
    have h1 := h b List.mem_cons_self
    have h2 := leV_bd r fun x hx => h x (List.mem_cons_of_mem _ hx)
    simp only [leV, List.length_cons, Int.pow_succ]
    omega
theorem leV_snoc : ∀ (l : List Int) (b : Int), leV (l ++ [b]) = leV l + b * 256 ^ l.length
  | [], b => by simp [leV]
  | c :: l, b => by
    simp only [List.cons_append, leV, leV_snoc l b, List.length_cons, Int.pow_succ]
    rw [Int.mul_add, Int.mul_comm (256 ^ l.length) 256, ← Int.mul_assoc, ← Int.mul_assoc, Int.mul_comm 256 b, Int.add_assoc]
theorem leB_leV : ∀ l : List Int, Byt l → leB l.length (leV l) = l
  | [], _ => rfl
  | b :: r, h => by
    have h1 := h b List.mem_cons_self
    simp only [List.length_cons, leB, leV]
    rw [show (b + 256 * leV r) % 256 = b by omega, show (b + 256 * leV r) / 256 = leV r by omega, leB_leV r fun x hx => h x (List.mem_cons_of_mem _ hx)]
/-- A number laid at a place; the number that stands there. -/
def putB (l : List Int) (at_ size : Nat) (n : Int) : List Int := l.take at_ ++ leB size n ++ l.drop (at_ + size)
def getB (l : List Int) (at_ size : Nat) : Int := leV ((l.drop at_).take size)
theorem putB_len {l : List Int} {at_ size : Nat} {n : Int} (h : at_ + size ≤ l.length) : (putB l at_ size n).length = l.length := by
  simp [putB, leB_len]; omega
theorem putB_byt {l : List Int} {at_ size : Nat} {n : Int} (h : Byt l) : Byt (putB l at_ size n) := ((h.take _).append (leB_byt _ _)).append (h.drop _)
theorem putB_zero (l : List Int) (at_ : Nat) (n : Int) : putB l at_ 0 n = l := by simp [putB, leB]
theorem putB_succ {l : List Int} {at_ k : Nat} {n : Int} (h : at_ + k < l.length) : (putB l at_ k n).set (at_ + k) (n / 256 ^ k % 256) = putB l at_ (k + 1) n := by
  have h1 : (l.take at_ ++ leB k n).length = at_ + k := by simp [leB_len]; omega
  have h2 : l.drop (at_ + k) = l[at_ + k] :: l.drop (at_ + k + 1) := List.drop_eq_getElem_cons h
  unfold putB
  rw [h2, List.set_append_right _ _ (by omega), h1, Nat.sub_self, List.set_cons_zero, leB_snoc, ← List.append_assoc]
  simp [Nat.add_assoc]
theorem putB_get {l : List Int} {at_ k : Nat} {n : Int} (h : at_ + k < l.length) : (putB l at_ k n)[at_ + k]? = some l[at_ + k] := by
  have h1 : (l.take at_ ++ leB k n).length = at_ + k := by simp [leB_len]; omega
  unfold putB
  rw [List.getElem?_append_right (by omega), h1, Nat.sub_self, List.getElem?_drop, Nat.add_zero, List.getElem?_eq_getElem h]
theorem getB_putB {l : List Int} {at_ size : Nat} {n : Int} (h : at_ + size ≤ l.length) (h0 : 0 ≤ n) (h1 : n < 256 ^ size) : getB (putB l at_ size n) at_ size = n := by
  unfold getB putB
  rw [List.append_assoc, List.drop_append_of_le_length (by simp; omega), List.drop_eq_nil_of_le (by simp; omega), List.nil_append]
  rw [List.take_append_of_le_length (by rw [leB_len]; exact Nat.le_refl _), List.take_of_length_le (by rw [leB_len]; exact Nat.le_refl _), leV_leB _ _ h0 h1]
theorem getB_succ {l : List Int} {at_ k : Nat} {b : Int} (h : l[at_ + k]? = some b) : getB l at_ (k + 1) = getB l at_ k + b * 256 ^ k := by
  have hlt := (List.getElem?_eq_some_iff.1 h).1
  unfold getB
  have h1 : (l.drop at_)[k]? = some b := by rw [List.getElem?_drop]; exact h
  rw [List.take_add_one, h1]
  show leV (_ ++ [b]) = _
  rw [leV_snoc]
  have : ((l.drop at_).take k).length = k := by simp; omega
  rw [this]
theorem getB_bd {l : List Int} (h : Byt l) (at_ size : Nat) : 0 ≤ getB l at_ size ∧ getB l at_ size < 256 ^ size := by
  have h1 := leV_bd _ ((h.drop at_).take size)
  have h2 : (256 : Int) ^ ((l.drop at_).take size).length ≤ 256 ^ size := by
    have h3 := Int.ofNat_le.2 (Nat.pow_le_pow_right (show 0 < 256 by decide) (show ((l.drop at_).take size).length ≤ size from List.length_take_le _ _))
    rwa [Int.natCast_pow, Int.natCast_pow] at h3
  exact ⟨h1.1, by unfold getB; omega⟩
end Go.SL.Fld
namespace Go.SL
open Go
theorem p256 (k : Nat) : (2 : Int) ^ (8 * k) = 256 ^ k := by rw [Int.pow_mul]; rfl
theorem Shr.v {k : IntKind} {n m : Int} {K : Int → Prop} (j : Nat) (h : m = (j : Int)) (h0 : j ≤ k.bits) (hk : K (n / 2 ^ j)) : Shr k n m K := by
  subst h
  refine ⟨by omega, ?_⟩
  rw [Int.toNat_natCast, Nat.min_eq_left h0, Int.fdiv_eq_ediv_of_nonneg]
  · exact hk
  · exact Int.le_of_lt (Int.pow_pos (by decide))
theorem Shl.v {k : IntKind} {n m : Int} {K : Int → Prop} (j : Nat) (h : m = (j : Int)) (h0 : j ≤ k.bits) (hk : Ar k (n * 2 ^ j) K) : Shl k n m K := by
  subst h
  refine ⟨by omega, ?_⟩
  rw [Int.toNat_natCast, Nat.min_eq_left h0]
  exact hk.ex
/-- Bits side by side are a sum. -/
theorem bits_or_add {k : IntKind} {n y : Int} (i : Nat) (h0 : 0 ≤ n) (h1 : n < 2 ^ i) (hy : 0 ≤ y) (hm : k.signed = false) (hb : n + y * 2 ^ i < 2 ^ k.bits) : bits .or k n (y * 2 ^ i) = n + y * 2 ^ i := by
  obtain ⟨n', rfl⟩ := Int.eq_ofNat_of_zero_le h0
  obtain ⟨y', rfl⟩ := Int.eq_ofNat_of_zero_le hy
  have h1' : n' < 2 ^ i := by exact_mod_cast h1
  have hb' : n' + y' * 2 ^ i < 2 ^ k.bits := by exact_mod_cast hb
  have e1 : ((y' : Int) * 2 ^ i) = ((y' * 2 ^ i : Nat) : Int) := by simp
  rw [e1]
  have hor : n' ||| (y' * 2 ^ i) = n' + y' * 2 ^ i := by
    have := Nat.two_pow_add_eq_or_of_lt h1' y'
    rw [Nat.mul_comm (2 ^ i) y'] at this
    rw [Nat.or_comm, ← this, Nat.add_comm]
  have b1 : (BitVec.ofInt k.bits (n' : Int)).toNat = n' := by rw [BitVec.ofInt_natCast, BitVec.toNat_ofNat, Nat.mod_eq_of_lt (by omega)]
  have b2 : (BitVec.ofInt k.bits ((y' * 2 ^ i : Nat) : Int)).toNat = y' * 2 ^ i := by rw [BitVec.ofInt_natCast, BitVec.toNat_ofNat, Nat.mod_eq_of_lt (by omega)]
  simp only [bits, BitVec.toNat_or, b1, b2, hor]
  have hw : ((n' + y' * 2 ^ i : Nat) : Int) % 2 ^ k.bits = ((n' + y' * 2 ^ i : Nat) : Int) := Int.emod_eq_of_lt (by omega) (by exact_mod_cast hb')
  have hw2 : k.wrap ((n' + y' * 2 ^ i : Nat) : Int) = ((n' + y' * 2 ^ i : Nat) : Int) := by
    unfold IntKind.wrap
    rw [hm]
    simpa using hw
  rw [hw2]; simp
theorem Bt.orAdd {k : IntKind} {n m y : Int} {K : Int → Prop} (i : Nat) (hm : m = y * 2 ^ i) (h0 : 0 ≤ n) (h1 : n < 2 ^ i) (hy : 0 ≤ y) (hs : k.signed = false) (hb : n + y * 2 ^ i < 2 ^ k.bits) (hk : K (n + y * 2 ^ i)) : Bt .or k n m K := by
  subst hm
  exact ⟨by rw [bits_or_add i h0 h1 hy hs hb]; exact hk⟩
end Go.SL
