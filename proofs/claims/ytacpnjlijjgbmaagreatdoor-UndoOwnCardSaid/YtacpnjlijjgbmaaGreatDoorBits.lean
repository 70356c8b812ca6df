/- Shifts and masks by known numbers; numbers brought to 64 bits. No condition. -/
import Derived.Test.YtacpnjlijjgbmaaGreatDoorOps
namespace Go.SL
open Go
theorem Ar.u64w {e : Int} {K : Int → Prop} (hk : K (e % 18446744073709551616)) : Ar .u64 e K := ⟨by
  have : IntKind.u64.wrap e = e % 18446744073709551616 := by simp [IntKind.wrap, IntKind.bits, IntKind.signed]
  rw [this]; exact hk⟩
theorem Ar.u32w {e : Int} {K : Int → Prop} (hk : K (e % 4294967296)) : Ar .u32 e K := ⟨by rw [IntKind.wrap_u32]; exact hk⟩
theorem Ar.u8w {e : Int} {K : Int → Prop} (hk : K (e % 256)) : Ar .u8 e K := ⟨by rw [IntKind.wrap_u8]; exact hk⟩
theorem Ar.i64w {e : Int} {K : Int → Prop} (hk : K ((e + 9223372036854775808) % 18446744073709551616 - 9223372036854775808)) : Ar .i64 e K := ⟨by rw [IntKind.wrap_i64]; exact hk⟩
/-- Powers of two, by their exponents. -/
def p2T : List (Nat × Int) := [(0, 1), (1, 2), (2, 4), (3, 8), (4, 16), (5, 32), (6, 64), (7, 128), (8, 256), (12, 4096), (14, 16384), (16, 65536), (20, 1048576), (21, 2097152), (24, 16777216), (28, 268435456), (31, 2147483648), (32, 4294967296), (35, 34359738368), (40, 1099511627776), (42, 4398046511104), (48, 281474976710656), (49, 562949953421312), (56, 72057594037927936), (62, 4611686018427387904), (63, 9223372036854775808)]
def p2L : List (Nat × Int) → Nat → Option Int
  | [], _ => none
  | (i, c) :: l, n => match Nat.beq i n with
    | true => some c
    | false => p2L l n
theorem p2L_aux {n : Nat} {c : Int} : ∀ l : List (Nat × Int), (∀ p ∈ l, (2 : Int) ^ p.1 = p.2 ∧ p.1 ≤ 63) → p2L l n = some c → (2 : Int) ^ n = c ∧ n ≤ 63
  | [], _, h => by cases h
  | (i, d) :: l, hl, h => by
    unfold p2L at h
    split at h
    · rename_i e
      have := Nat.eq_of_beq_eq_true e
      cases h
      exact this ▸ hl _ List.mem_cons_self
    · exact p2L_aux l (fun q hq => hl q (List.mem_cons_of_mem _ hq)) h
theorem p2L_eq {n : Nat} {c : Int} (h : p2L p2T n = some c) : (2 : Int) ^ n = c ∧ n ≤ 63 := p2L_aux p2T (by decide) h
theorem two_cast (j : Nat) : ((2 ^ j : Nat) : Int) = 2 ^ j := by simp
theorem Shr.i {k : IntKind} {n m c : Int} {K : Int → Prop} (h : p2L p2T m.toNat = some c) (h0 : 0 ≤ m ∧ m.toNat ≤ k.bits) (hk : K (n / c)) : Shr k n m K := by
  refine ⟨h0.1, ?_⟩
  rw [Nat.min_eq_left h0.2, (p2L_eq h).1, Int.fdiv_eq_ediv_of_nonneg]
  · exact hk
  · rw [← (p2L_eq h).1]; exact Int.le_of_lt (Int.pow_pos (by decide))
theorem Shl.i {k : IntKind} {n m c : Int} {K : Int → Prop} (h : p2L p2T m.toNat = some c) (h0 : 0 ≤ m ∧ m.toNat ≤ k.bits) (hk : Ar k (n * c) K) : Shl k n m K := by
  refine ⟨h0.1, ?_⟩
  rw [Nat.min_eq_left h0.2, (p2L_eq h).1]
  exact hk.ex
theorem Bt.raw {op : BinOp} {k : IntKind} {n m : Int} {K : Int → Prop} (hk : K (bits op k n m)) : Bt op k n m K := ⟨hk⟩
/-- Masks, by their widths. -/
theorem bits_low (k : IntKind) (i : Nat) (hi : i < k.bits) (n : Int) : bits .and k n (2 ^ i - 1) = n % 2 ^ i := by
  have hp : (0 : Int) < 2 ^ i := Int.pow_pos (by decide)
  have hb : (0 : Int) < 2 ^ k.bits := Int.pow_pos (by decide)
  have h1 : (BitVec.ofInt k.bits (2 ^ i - 1)).toNat = 2 ^ i - 1 := by
    have e : ((2 : Int) ^ i - 1) = ((2 ^ i - 1 : Nat) : Int) := by
      rw [Int.natCast_sub (Nat.one_le_two_pow)]; simp
    rw [e, BitVec.ofInt_natCast, BitVec.toNat_ofNat]
    have h7 : 2 ^ i < 2 ^ k.bits := Nat.pow_lt_pow_right (by decide) hi
    exact Nat.mod_eq_of_lt (Nat.lt_of_le_of_lt (Nat.sub_le _ _) h7)
  have h2 : ((BitVec.ofInt k.bits n).toNat : Int) = n % 2 ^ k.bits := by
    rw [BitVec.toNat_ofInt, two_cast]
    exact Int.toNat_of_nonneg (Int.emod_nonneg n (Int.ne_of_gt hb))
  have h3 : (((BitVec.ofInt k.bits n).toNat % 2 ^ i : Nat) : Int) = n % 2 ^ i := by
    rw [Int.natCast_emod, h2, two_cast]
    exact Int.emod_emod_of_dvd n ⟨2 ^ (k.bits - i), by rw [← Int.pow_add]; congr 1; omega⟩
  simp only [bits, BitVec.toNat_and, h1, Nat.and_two_pow_sub_one_eq_mod, h3]
  have h4 := Int.emod_nonneg n (Int.ne_of_gt hp)
  have h5 := Int.emod_lt_of_pos n hp
  have h6 : (2 : Int) ^ i ≤ 2 ^ (k.bits - 1) := by
    exact_mod_cast Nat.pow_le_pow_right (by decide) (show i ≤ k.bits - 1 by omega)
  cases k <;> simp only [IntKind.bits, Nat.reduceSub, Int.reducePow] at h6 <;> simp [IntKind.wrap, IntKind.bits, IntKind.signed] <;> omega
def mT : List (Nat × Int) := [(0, 0), (1, 1), (2, 3), (3, 7), (4, 15), (5, 31), (6, 63), (7, 127), (8, 255), (16, 65535), (32, 4294967295)]
theorem Bt.low {k : IntKind} {n m : Int} {K : Int → Prop} (i : Nat) {c : Int} (h : (2 : Int) ^ i - 1 = m) (hi : i < k.bits) (hc : (2 : Int) ^ i = c) (hk : K (n % c)) : Bt .and k n m K := by
  subst h hc
  exact ⟨by rw [bits_low k i hi]; exact hk⟩
end Go.SL
