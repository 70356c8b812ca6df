/- The checksum's register, in plain words: eight steps of a bit are two steps of a table. No condition. -/
import Derived.Test.YtacpnjlijjgbmaaGreatDoorFldModel
namespace Go.SL.Fld
open Go Go.SL Go.SL.Sec
/-- One bit falls out. -/
def crc1 (c : BitVec 32) : BitVec 32 := if c &&& 1#32 = 1#32 then (c >>> 1) ^^^ 0xedb88320#32 else c >>> 1
/-- A byte goes in. -/
def crcB (c : BitVec 32) (b : Int) : BitVec 32 :=
  crc1 (crc1 (crc1 (crc1 (crc1 (crc1 (crc1 (crc1 (c ^^^ BitVec.ofInt 32 b))))))))
def crcL (c : BitVec 32) (l : List Int) : BitVec 32 := l.foldl crcB c
/-- The checksum of all. -/
def crcV (l : List Int) : Int := ((~~~ (crcL (BitVec.allOnes 32) l)).toNat : Int)
theorem crcL_append (c : BitVec 32) (l r : List Int) : crcL c (l ++ r) = crcL (crcL c l) r := List.foldl_append
def nibL : List Int := [0x00000000, 0x1db71064, 0x3b6e20c8, 0x26d930ac, 0x76dc4190, 0x6b6b51f4, 0x4db26158, 0x5005713c,
  0xedb88320, 0xf00f9344, 0xd6d6a3e8, 0xcb61b38c, 0x9b64c2b0, 0x86d3d2d4, 0xa00ae278, 0xbdbdf21c]
def nib (i : Nat) : BitVec 32 := BitVec.ofInt 32 (nibL[i]?.getD 0)
/-- Four bits fall out, by the table. -/
def crc4 (c : BitVec 32) : BitVec 32 := (c >>> 4) ^^^ nib (c.toNat % 16)
theorem crc1_xor (a b : BitVec 32) : crc1 (a ^^^ b) = crc1 a ^^^ crc1 b := by
  have ha : ∀ c : BitVec 32, crc1 c = (c >>> 1) ^^^ (if c.getLsbD 0 then 0xedb88320#32 else 0#32) := by
    intro c
    have : (c &&& 1#32 = 1#32) ↔ c.getLsbD 0 = true := by
      constructor
      · intro h
        have := congrArg (·.getLsbD 0) h
        simpa using this
      · intro h
        apply BitVec.eq_of_getLsbD_eq
        intro i hi
        by_cases e : i = 0
        · subst e; simp [h]
        · simp [e, BitVec.getLsbD_one]
    unfold crc1
    by_cases h : c.getLsbD 0 = true
    · rw [if_pos (this.2 h), if_pos h]
    · rw [if_neg (fun k => h (this.1 k)), if_neg h, BitVec.xor_zero]
  rw [ha, ha, ha]
  have hx : (a ^^^ b) >>> 1 = (a >>> 1) ^^^ (b >>> 1) := by
    apply BitVec.eq_of_getLsbD_eq
    intro i hi
    simp
  have hi : (if (a ^^^ b).getLsbD 0 then 0xedb88320#32 else 0#32) = (if a.getLsbD 0 then 0xedb88320#32 else 0#32) ^^^ (if b.getLsbD 0 then 0xedb88320#32 else 0#32) := by
    rw [BitVec.getLsbD_xor]
    cases a.getLsbD 0 <;> cases b.getLsbD 0 <;> simp
  rw [hx, hi]
  ac_rfl
theorem crc1_even {c : BitVec 32} (h : c.getLsbD 0 = false) : crc1 c = c >>> 1 := by
  unfold crc1
  rw [if_neg]
  intro k
  have h2 := congrArg (fun x : BitVec 32 => x.getLsbD 0) k
  rw [BitVec.getLsbD_and, h, Bool.false_and] at h2
  exact absurd h2 (by decide)
theorem crc4_eq (c : BitVec 32) : crc1 (crc1 (crc1 (crc1 c))) = crc4 c := by
  have hlow : ∀ i : Fin 16, crc1 (crc1 (crc1 (crc1 (BitVec.ofNat 32 i.val)))) = nib i.val := by decide
  have hs : c = ((c >>> 4) <<< 4) ^^^ BitVec.ofNat 32 (c.toNat % 16) := by
    apply BitVec.eq_of_getLsbD_eq
    intro i hi
    have h16 : (BitVec.ofNat 32 (c.toNat % 16)).getLsbD i = (decide (i < 4) && c.getLsbD i) := by
      rw [BitVec.getLsbD_ofNat, show (16 : Nat) = 2 ^ 4 from rfl, Nat.testBit_mod_two_pow, BitVec.testBit_toNat]
      simp [hi]
    rw [BitVec.getLsbD_xor, h16, BitVec.getLsbD_shiftLeft, BitVec.getLsbD_ushiftRight]
    by_cases e : i < 4
    · simp [e]
    · have : 4 + (i - 4) = i := by omega
      simp [e, hi, this]
  have hhi : crc1 (crc1 (crc1 (crc1 ((c >>> 4) <<< 4)))) = c >>> 4 := by
    have e0 : ((c >>> 4) <<< 4).getLsbD 0 = false := by simp
    have e1 : (((c >>> 4) <<< 4) >>> 1).getLsbD 0 = false := by simp
    have e2 : ((((c >>> 4) <<< 4) >>> 1) >>> 1).getLsbD 0 = false := by simp
    have e3 : (((((c >>> 4) <<< 4) >>> 1) >>> 1) >>> 1).getLsbD 0 = false := by simp
    rw [crc1_even e0, crc1_even e1, crc1_even e2, crc1_even e3]
    apply BitVec.eq_of_getLsbD_eq
    intro i hi
    simp only [BitVec.getLsbD_ushiftRight, BitVec.getLsbD_shiftLeft]
    by_cases h : i < 28
    · have h1 : 4 + (1 + (1 + (1 + (1 + i))) - 4) = 4 + i := by omega
      have h2 : 1 + (1 + (1 + (1 + i))) < 32 := by omega
      have h3 : ¬ (1 + (1 + (1 + (1 + i))) < 4) := by omega
      simp [h1, h2, h3]
    · have h2 : ¬ (1 + (1 + (1 + (1 + i))) < 32) := by omega
      simp [h2]
      rw [BitVec.getLsbD_of_ge _ _ (by omega)]
  have h1 := hlow ⟨c.toNat % 16, Nat.mod_lt _ (by decide)⟩
  dsimp only at h1
  conv => lhs; rw [hs]
  rw [crc1_xor, crc1_xor, crc1_xor, crc1_xor, hhi, h1]
  rfl
theorem crcB_eq (c : BitVec 32) (b : Int) : crcB c b = crc4 (crc4 (c ^^^ BitVec.ofInt 32 b)) := by
  unfold crcB
  rw [crc4_eq, crc4_eq]
end Go.SL.Fld
namespace Go.SL
open Go Go.SL.Fld
variable {P : Program} {W : World} {H : HProp}
/-- A word of 32 bits, as a number. -/
abbrev w32 (c : BitVec 32) : Int := (c.toNat : Int)
theorem ofInt_w32 (c : BitVec 32) : BitVec.ofInt 32 (w32 c) = c := by simp [w32]
theorem wrap_w32 (c : BitVec 32) : IntKind.u32.wrap (c.toNat : Int) = w32 c := by
  have := c.isLt
  rw [IntKind.wrap_u32]
  exact Int.emod_eq_of_lt (by omega) (by omega)
theorem Bt.xor32 {c : BitVec 32} {m : Int} {K : Int → Prop} (hk : K (w32 (c ^^^ BitVec.ofInt 32 m))) : Bt .xor .u32 (w32 c) m K := by
  refine ⟨?_⟩
  have : bits .xor .u32 (w32 c) m = w32 (c ^^^ BitVec.ofInt 32 m) := by
    show IntKind.u32.wrap ((BitVec.ofInt 32 (w32 c) ^^^ BitVec.ofInt 32 m).toNat : Int) = _
    rw [ofInt_w32, wrap_w32]
  rw [this]; exact hk
theorem shr4_w32 (c : BitVec 32) : (w32 c : Int) / (16 : Int) = w32 (c >>> 4) := by
  unfold w32
  rw [BitVec.toNat_ushiftRight, Nat.shiftRight_eq_div_pow]; omega
/-- The bits turned over. -/
theorem OpX.not32 {t : TypeId} {x : Operand} {ty : TypeId} {ev : Operand → Option Value} {K : Value → HProp → Prop} {Kp : List PanicEntry → HProp → Prop} {c : BitVec 32}
    (hx : ev x = some (.int .u32 (w32 c))) (hk : K (.int .u32 (w32 (~~~ c))) H) : OpX P W (.unOp .xor t x) ty ev H K Kp := by
  refine OpX.of_quiet ⟨_, fun w ρ hw he o' ho hty => ?_, hk⟩
  obtain ⟨dst, op, ty', pos, after, guard⟩ := o'
  simp only at ho hty
  subst ho hty
  have h1 : BitVec.ofInt 32 IntKind.u32.max ^^^ BitVec.ofInt 32 (w32 c) = ~~~ c := by
    rw [ofInt_w32, show BitVec.ofInt 32 IntKind.u32.max = BitVec.allOnes 32 by decide, BitVec.allOnes_xor]
  simp only [execOp, he _ _ hx, Op.unary, Op.intBits, IntKind.signed, IntKind.bits]
  simp only [Bool.false_eq_true, if_false, wrap_w32]
  exact congrArg (fun z : BitVec 32 => (Result.ok (Next.value (Value.int IntKind.u32 (w32 z))) w : Result Next)) h1
end Go.SL
