/- What a page's bytes say is the page. Conditions: in each statement. -/
import Derived.Test.YtgcknlpkhhpkjaaGreatDoorPart16
import Derived.Test.YtgcknlpkhhpkjaaGreatDoorPart7
namespace Go.SL.Pg
open Go Go.SL Go.SL.Sec Go.SL.Fld Go.SL.Rec
open Go.Proofs.YtgcknlpkhhpkjaaGreatDoor (zerosB)
theorem getB_drop (b : List Int) (a m k : Nat) : getB b (a + m) k = getB (b.drop a) m k := by unfold getB; rw [List.drop_drop]
theorem getB_head {k : Nat} {n : Int} {y : List Int} (h0 : 0 ≤ n) (h1 : n < 256 ^ k) : getB (Fld.leB k n ++ y) 0 k = n := by
 unfold getB
 rw [List.drop_zero, List.take_append_of_le_length (by rw [leB_len]; exact Nat.le_refl _), List.take_of_length_le (by rw [leB_len]; exact Nat.le_refl _), leV_leB _ _ h0 h1]
theorem lays_get : ∀ (l : List (Nat × Int)) (i : Nat) (k : Nat) (n : Int) (y : List Int), l[i]? = some (k, n) → 0 ≤ n → n < 256 ^ k → getB (lays l ++ y) (laysN (l.take i)) k = n
 | [], _, _, _, _, h, _, _ => by simp at h
 | q :: l, 0, k, n, y, h, h0, h1 => by
  simp at h; subst h
  rw [lays, List.append_assoc]
  exact getB_head h0 h1
 | q :: l, i + 1, k, n, y, h, h0, h1 => by
  rw [List.take_succ_cons, laysN, lays, List.append_assoc, getB_drop]
  have e : (Fld.leB q.1 q.2 ++ (lays l ++ y)).drop q.1 = lays l ++ y := by
   conv => lhs; arg 1; rw [← leB_len q.1 q.2]
   exact List.drop_left
  rw [e]
  exact lays_get l i k n y (by simpa using h) h0 h1
def PgM.rest (p : PgM) : List Int := p.body ++ z1024.drop (16 + p.body.length)
def PgM.flat (p : PgM) (s : List Int) : List Int := lays p.headL ++ (s ++ p.rest)
theorem bare_flat {p : PgM} (h : 16 + p.body.length ≤ 1024) : p.bare = p.flat [0, 0, 0, 0] := by
 have hl := headL_len p
 have e1 : over z1024 0 (lays p.headL) = lays p.headL ++ z1024.drop 12 := by
  unfold over; rw [List.take_zero, List.nil_append, Nat.zero_add, hl]
 unfold PgM.bare PgM.flat PgM.rest
 rw [e1]
 unfold over
 have e2 : (lays p.headL ++ z1024.drop 12).take 16 = lays p.headL ++ [0, 0, 0, 0] := by
  rw [show 16 = (lays p.headL).length + 4 by omega, List.take_length_add_append]
  congr 1
 have e3 : (lays p.headL ++ z1024.drop 12).drop (16 + p.body.length) = z1024.drop (16 + p.body.length) := by
  rw [show 16 + p.body.length = (lays p.headL).length + (4 + p.body.length) by omega, List.drop_length_add_append, List.drop_drop]
  congr 1
 rw [e2, e3, List.append_assoc, List.append_assoc]
theorem flat_take {p : PgM} {s : List Int} : (p.flat s).take 12 = lays p.headL := by
 unfold PgM.flat; rw [← headL_len p]; exact List.take_left
theorem flat_d12 {p : PgM} {s : List Int} : (p.flat s).drop 12 = s ++ p.rest := by
 unfold PgM.flat
 conv => lhs; arg 1; rw [← headL_len p]
 exact List.drop_left
theorem flat_drop16 {p : PgM} {s : List Int} (hs : s.length = 4) : (p.flat s).drop 16 = p.rest := by
 rw [show 16 = 12 + 4 from rfl, ← List.drop_drop, flat_d12, ← hs]
 exact List.drop_left
theorem flat_sum {p : PgM} {s : List Int} (hs : s.length = 4) : sumP (p.flat s) = sumP (p.flat [0, 0, 0, 0]) := by
 unfold sumP; rw [flat_take, flat_take, flat_drop16 hs, flat_drop16 rfl]
theorem flat_over {p : PgM} {s t : List Int} (hs : s.length = 4) (ht : t.length = 4) : over (p.flat s) 12 t = p.flat t := by
 unfold over
 rw [flat_take, ht, flat_drop16 hs, List.append_assoc]; rfl
theorem enc_flat {p : PgM} (h : 16 + p.body.length ≤ 1024) (hn : p.C.length + p.G.length ≠ 0) : encP p = p.flat (Fld.leB 4 (sumP (p.flat [0, 0, 0, 0]))) := by
 unfold encP
 rw [if_neg hn, bare_flat h, flat_over rfl (leB_len _ _)]
theorem PgM.flat_len {p : PgM} {s : List Int} (h : 16 + p.body.length ≤ 1024) (hs : s.length = 4) : (p.flat s).length = 1024 := by
 unfold PgM.flat PgM.rest
 rw [List.length_append, List.length_append, List.length_append, List.length_drop, headL_len, hs, z1024_len]; omega
theorem PgM.flat_byt {p : PgM} {s : List Int} (hs : Byt s) : Byt (p.flat s) := (lays_byt _).append (hs.append ((body_byt p).append (z1024_byt.drop _)))
theorem PgM.fault_ok {p : PgM} (h : p.fault = 0) : (0 ≤ p.num ∧ p.num ≤ 63) ∧ ¬ (p.C.length > 0 ∧ p.G.length > 0) ∧ (p.C.length ≤ 31 ∧ p.G.length ≤ 84) ∧ (0 ≤ p.lsn ∧ p.lsn ≤ 2147483647) ∧ (p.lsn = 0 ↔ p.C.length + p.G.length = 0) ∧ contF p.C p.G = 0 := by
 unfold PgM.fault at h
 split at h
 ·exact absurd h (by decide)
 split at h
 ·exact absurd h (by decide)
 split at h
 ·exact absurd h (by decide)
 split at h
 ·exact absurd h (by decide)
 rename_i h1 h2 h3 h4
 exact ⟨Decidable.not_not.1 h1, h2, by omega, Decidable.not_not.1 fun k => h4 (.inl k), Decidable.not_not.1 fun k => h4 (.inr k), h⟩
theorem PgM.body_le {p : PgM} (h : p.fault = 0) : 16 + p.body.length ≤ 1024 := by
 obtain ⟨_, h2, h3, _⟩ := PgM.fault_ok h
 rw [body_len]; omega
theorem encP_len {p : PgM} (h : p.fault = 0) : (encP p).length = 1024 := by
 by_cases hn : p.C.length + p.G.length = 0
 ·unfold encP; rw [if_pos hn]; exact z1024_len
 ·rw [enc_flat (PgM.body_le h) hn]; exact PgM.flat_len (PgM.body_le h) (leB_len _ _)
theorem encP_byt {p : PgM} (h : p.fault = 0) : Byt (encP p) := by
 by_cases hn : p.C.length + p.G.length = 0
 ·unfold encP; rw [if_pos hn]; exact z1024_byt
 ·rw [enc_flat (PgM.body_le h) hn]; exact PgM.flat_byt (leB_byt _ _)
theorem zerosB_rep (n : Nat) : zerosB (List.replicate n 0) = true := by
 unfold zerosB; rw [List.all_eq_true]; intro x hx; rw [List.eq_of_mem_replicate hx]; rfl
theorem zerosB_z (n : Nat) : zerosB (z1024.drop n) = true := by
 rw [z1024_eq, List.drop_replicate]; exact zerosB_rep _
theorem range_map {α : Type} (f : Nat → α) (l : List α) (h : ∀ i x, l[i]? = some x → f i = x) : (List.range l.length).map f = l := by
 apply List.ext_getElem?
 intro i
 rw [List.getElem?_map]
 by_cases hi : i < l.length
 ·rw [List.getElem?_range hi, List.getElem?_eq_getElem hi]
  exact congrArg some (h i _ (List.getElem?_eq_getElem hi))
 ·rw [List.getElem?_eq_none (by simp; omega), List.getElem?_eq_none (by omega)]; rfl
theorem crc_bd (l : List Int) : 0 ≤ crcV l ∧ crcV l < 4294967296 := by
 unfold crcV
 have := (~~~ (crcL (BitVec.allOnes 32) l)).isLt
 omega
theorem u64_small {z : Int} (h : 0 ≤ z ∧ z ≤ 9223372036854775807) : u64 z = z := by unfold u64; omega
theorem firstF_mem {α : Type} {f : α → Int} : ∀ {l : List α}, firstF f l = 0 → ∀ x ∈ l, f x = 0
 | [], _, x, h => by cases h
 | c :: l, h, x, hx => by
  unfold firstF at h
  split at h
  ·rename_i k; exact absurd h k
  ·rename_i k
   rcases List.mem_cons.1 hx with rfl | hx
   ·exact Decidable.not_not.1 k
   ·exact firstF_mem h x hx
theorem contF_mem {C : List CntV} {G : List GrpV} (h : contF C G = 0) : (∀ c ∈ C, cntF c = 0) ∧ ∀ g ∈ G, grpF g = 0 := by
 unfold contF at h
 split at h
 ·rename_i k; exact absurd h k
 ·rename_i k; exact ⟨firstF_mem (Decidable.not_not.1 k), firstF_mem h⟩
theorem cntF_ok {c : CntV} (h : cntF c = 0) : (1 ≤ c.id ∧ c.id ≤ 1048576) ∧ (1 ≤ c.grp ∧ c.grp ≤ 1048576) ∧ c.lo ≤ c.hi := by
 unfold cntF at h
 split at h
 ·exact absurd h (by decide)
 ·split at h
  ·exact absurd h (by decide)
  ·rename_i h1 h2
   have := Decidable.not_not.1 h1
   exact ⟨this.1, this.2, by omega⟩
theorem grpF_ok {g : GrpV} (h : grpF g = 0) : 1 ≤ g.id ∧ g.id ≤ 1048576 := by
 unfold grpF at h
 split at h
 ·exact absurd h (by decide)
 ·rename_i h1; exact Decidable.not_not.1 h1
theorem p4 : (256 : Int) ^ 4 = 4294967296 := by decide
theorem p8 : (256 : Int) ^ 8 = 18446744073709551616 := by decide
theorem p2 : (256 : Int) ^ 2 = 65536 := by decide
theorem p1 : (256 : Int) ^ 1 = 256 := by decide
theorem cnt_at {p : PgM} {s : List Int} (hs : s.length = 4) (hl : 16 + p.body.length ≤ 1024) (hG : p.G = []) {i : Nat} {c : CntV} (h : p.C[i]? = some c) : ∃ y, (p.flat s).drop (16 + i * 32) = lays (cntL c) ++ y := by
 have hi := (List.getElem?_eq_some_iff.1 h).1
 rw [← List.drop_drop, flat_drop16 hs]
 unfold PgM.rest PgM.body
 rw [hG, List.flatMap_nil, List.append_nil, List.drop_append_of_le_length (by rw [flat_len cntL_len]; omega), flat_drop cntL_len, drop_of h, List.flatMap_cons, List.append_assoc]
 exact ⟨_, rfl⟩
theorem grp_at {p : PgM} {s : List Int} (hs : s.length = 4) (hC : p.C = []) {i : Nat} {g : GrpV} (h : p.G[i]? = some g) : ∃ y, (p.flat s).drop (16 + i * 12) = lays (grpL g) ++ y := by
 have hi := (List.getElem?_eq_some_iff.1 h).1
 rw [← List.drop_drop, flat_drop16 hs]
 unfold PgM.rest PgM.body
 rw [hC, List.flatMap_nil, List.nil_append, List.drop_append_of_le_length (by rw [flat_len grpL_len]; omega), flat_drop grpL_len, drop_of h, List.flatMap_cons, List.append_assoc]
 exact ⟨_, rfl⟩
theorem cntD_of {b : List Int} {i : Nat} {c : CntV} {y : List Int} (h : b.drop (16 + i * 32) = lays (cntL c) ++ y) (hi : CntIn c) (hf : cntF c = 0) : cntD b i = c := by
 obtain ⟨h1, h2, h3⟩ := cntF_ok hf
 obtain ⟨i1, i2, i3, i4, i5⟩ := hi
 have b3 := u64_bd c.lo
 have b4 := u64_bd c.hi
 have b5 := u64_bd c.val
 have e1 := lays_get (cntL c) 0 4 (u64 c.id) y rfl (by rw [u64_small (by omega)]; omega) (by rw [u64_small (by omega), p4]; omega)
 have e2 := lays_get (cntL c) 1 4 (u64 c.grp) y rfl (by rw [u64_small (by omega)]; omega) (by rw [u64_small (by omega), p4]; omega)
 have e3 := lays_get (cntL c) 2 8 (u64 c.lo) y rfl b3.1 (by rw [p8]; exact b3.2)
 have e4 := lays_get (cntL c) 3 8 (u64 c.hi) y rfl b4.1 (by rw [p8]; exact b4.2)
 have e5 := lays_get (cntL c) 4 8 (u64 c.val) y rfl b5.1 (by rw [p8]; exact b5.2)
 unfold cntD
 rw [show 16 + i * 32 = (16 + i * 32) + 0 from rfl, getB_drop, Nat.add_zero, getB_drop b _ 4, getB_drop b _ 8, getB_drop b _ 16, getB_drop b _ 24, h]
 rw [show laysN ((cntL c).take 0) = 0 from rfl] at e1
 rw [show laysN ((cntL c).take 1) = 4 from rfl] at e2
 rw [show laysN ((cntL c).take 2) = 8 from rfl] at e3
 rw [show laysN ((cntL c).take 3) = 16 from rfl] at e4
 rw [show laysN ((cntL c).take 4) = 24 from rfl] at e5
 rw [e1, e2, e3, e4, e5, s64_u64 i3, s64_u64 i4, s64_u64 i5, u64_small (by omega), u64_small (by omega)]
theorem grpD_of {b : List Int} {i : Nat} {g : GrpV} {y : List Int} (h : b.drop (16 + i * 12) = lays (grpL g) ++ y) (hi : GrpIn g) (hf : grpF g = 0) : grpD b i = g := by
 have h1 := grpF_ok hf
 have b2 := u64_bd g.sum
 have e1 := lays_get (grpL g) 0 4 (u64 g.id) y rfl (by rw [u64_small (by omega)]; omega) (by rw [u64_small (by omega), p4]; omega)
 have e2 := lays_get (grpL g) 1 8 (u64 g.sum) y rfl b2.1 (by rw [p8]; exact b2.2)
 unfold grpD
 rw [show 16 + i * 12 = (16 + i * 12) + 0 from rfl, getB_drop, Nat.add_zero, getB_drop b _ 4, h]
 rw [show laysN ((grpL g).take 0) = 0 from rfl] at e1
 rw [show laysN ((grpL g).take 1) = 4 from rfl] at e2
 rw [e1, e2, s64_u64 hi.2, u64_small (by omega)]
theorem dec_zero {n : Int} (hn : 0 ≤ n ∧ n ≤ 63) : decP z1024 n = (0, ⟨n, 0, [], []⟩) := by
 unfold decP
 rw [if_neg (fun k => k hn), if_neg (fun k => k z1024_len), if_pos (show zerosB z1024 = true from zerosB_rep 1024)]
theorem dec_enc {p : PgM} (h : p.fault = 0) (hi : p.In) : decP (encP p) p.num = (0, p) := by
 obtain ⟨h1, h2, h3, h4, h5, h6⟩ := PgM.fault_ok h
 obtain ⟨cC, cG⟩ := contF_mem h6
 by_cases hn : p.C.length + p.G.length = 0
 ·have hC : p.C = [] := List.eq_nil_of_length_eq_zero (by omega)
  have hG : p.G = [] := List.eq_nil_of_length_eq_zero (by omega)
  unfold encP
  rw [if_pos hn, dec_zero h1]
  have : p.lsn = 0 := h5.2 hn
  rw [← this, ← hC]
  conv => lhs; rw [show p.C = p.C from rfl]
  obtain ⟨num, lsn, C, G⟩ := p
  simp at hC hG
  subst hC hG
  rfl
 have hl := PgM.body_le h
 have hpos : 1 ≤ p.lsn := by
  have : p.lsn ≠ 0 := fun k => hn (h5.1 k)
  omega
 rw [enc_flat hl hn]
 obtain ⟨S, hS⟩ : ∃ S, S = Fld.leB 4 (sumP (p.flat [0, 0, 0, 0])) := ⟨_, rfl⟩
 have hSl : S.length = 4 := by rw [hS]; exact leB_len _ _
 have hsum : sumP (p.flat S) = sumP (p.flat [0, 0, 0, 0]) := flat_sum hSl
 have hcrc : 0 ≤ sumP (p.flat [0, 0, 0, 0]) ∧ sumP (p.flat [0, 0, 0, 0]) < 4294967296 := crc_bd _
 have g12 : getB (p.flat S) 12 4 = sumP (p.flat [0, 0, 0, 0]) := by
  rw [show 12 = 12 + 0 from rfl, getB_drop, flat_d12, hS]
  exact getB_head hcrc.1 (by rw [p4]; exact hcrc.2)
 rw [← hS]
 have hd : ∀ i k n, p.headL[i]? = some (k, n) → 0 ≤ n → n < 256 ^ k → getB (p.flat S) (laysN (p.headL.take i)) k = n := fun i k n a b c => lays_get p.headL i k n (S ++ p.rest) a b c
 obtain ⟨kd, hkd⟩ : ∃ kd : Int, kd = if p.G.length > 0 then 2 else 1 := ⟨_, rfl⟩
 have hk2 : kd = 1 ∨ kd = 2 := by rw [hkd]; split <;> omega
 have g0 : getB (p.flat S) 0 1 = 113 := hd 0 1 113 rfl (by decide) (by decide)
 have g1 : getB (p.flat S) 1 1 = kd := hd 1 1 kd (by rw [hkd]; rfl) (by omega) (by rw [p1]; omega)
 have g2 : getB (p.flat S) 2 2 = p.num := by
  have := hd 2 2 (u64 p.num) rfl (u64_bd _).1 (by rw [u64_small (by omega), p2]; omega)
  rw [u64_small (z := p.num) (by omega)] at this; exact this
 have g4 : getB (p.flat S) 4 2 = ((p.C.length + p.G.length : Nat) : Int) := hd 3 2 _ rfl (by omega) (by rw [p2]; omega)
 have g6 : getB (p.flat S) 6 2 = 0 := hd 4 2 0 rfl (by decide) (by decide)
 have g8 : getB (p.flat S) 8 4 = p.lsn := by
  have := hd 5 4 (u64 p.lsn) rfl (u64_bd _).1 (by rw [u64_small (by omega), p4]; omega)
  rw [u64_small (z := p.lsn) (by omega)] at this; exact this
 have hz : zerosB (p.flat S) ≠ true := fun k => by
  have hm : (113 : Int) ∈ p.flat S := List.mem_append_left _ (by unfold PgM.headL lays Fld.leB; simp)
  unfold zerosB at k
  have := of_decide_eq_true (List.all_eq_true.1 k _ hm)
  exact absurd this (by decide)
 have hb : pgD (p.flat S) p.num = p := by
  unfold pgD
  rw [g1, g8, g4, Int.toNat_natCast]
  by_cases hg : p.G.length > 0
  ·have hC : p.C = [] := List.eq_nil_of_length_eq_zero (by omega)
   rw [if_pos (by rw [hkd, if_pos hg]), hC, List.length_nil, Nat.zero_add]
   have : grpsD (p.flat S) p.G.length = p.G := range_map _ _ fun i g hx => by
    obtain ⟨y, hy⟩ := grp_at hSl hC hx
    exact grpD_of hy (hi.G g (List.mem_of_getElem? hx)) (cG g (List.mem_of_getElem? hx))
   rw [this]
   obtain ⟨num, lsn, C, G⟩ := p
   simp at hC
   subst hC
   rfl
  ·have hG : p.G = [] := List.eq_nil_of_length_eq_zero (by omega)
   rw [if_neg (by rw [hkd, if_neg hg]; decide), hG, List.length_nil, Nat.add_zero]
   have : cntsD (p.flat S) p.C.length = p.C := range_map _ _ fun i c hx => by
    obtain ⟨y, hy⟩ := cnt_at hSl hl hG hx
    exact cntD_of hy (hi.C c (List.mem_of_getElem? hx)) (cC c (List.mem_of_getElem? hx))
   rw [this]
   obtain ⟨num, lsn, C, G⟩ := p
   simp at hG
   subst hG
   rfl
 have hend : zerosB ((p.flat S).drop (16 + (p.C.length + p.G.length) * szD (p.flat S))) = true := by
  have e : 16 + (p.C.length + p.G.length) * szD (p.flat S) = 16 + p.body.length := by
   unfold szD
   rw [g1, body_len]
   by_cases hg : p.G.length > 0
   ·rw [if_pos (by rw [hkd, if_pos hg])]; omega
   ·rw [if_neg (by rw [hkd, if_neg hg]; decide)]; omega
  rw [e, ← List.drop_drop, flat_drop16 hSl]
  unfold PgM.rest
  rw [List.drop_left]
  exact zerosB_z _
 unfold decP
 rw [if_neg (fun k => k h1), if_neg (fun k => k (PgM.flat_len hl hSl)), if_neg hz, if_neg (fun k => k g0), if_neg (by rw [g1]; omega), if_neg (by rw [g12, hsum]; exact fun k => k rfl), if_neg (fun k => k g2)]
 rw [if_neg (by
  rw [g4, g1, g8, hkd]
  split
  ·simp
   omega
  ·simp
   omega)]
 rw [hb, if_neg (fun k => k h6), g4, Int.toNat_natCast, if_neg (by rw [g6, hend]; decide)]
end Go.SL.Pg
/- Reading a sector of the program's disk, walked. Conditions: in each statement. -/
namespace Go.SL.Sec
open Go Go.SL
theorem lastOf_find (i : Int) : ∀ q : List (Int × List Int), lastOf i q = (q.reverse.find? fun p => decide (p.1 = i)).map (·.2)
 | [] => rfl
 | p :: q => by
  rw [lastOf, lastOf_find i q, List.reverse_cons, List.find?_append]
  cases h : q.reverse.find? fun p => decide (p.1 = i) with
  | some x => rfl
  | none =>
   by_cases e : p.1 = i
   ·simp [e]
   ·simp [e]
theorem lastOf_none {i : Int} {q : List (Int × List Int)} (h : ∀ j, j < q.length → ∀ p, q.reverse[j]? = some p → p.1 ≠ i) : lastOf i q = none := by
 rw [lastOf_find, List.find?_eq_none.2]; · rfl
 intro p hp
 obtain ⟨j, hj⟩ := List.getElem?_of_mem hp
 have hl : j < q.length := by have := (List.getElem?_eq_some_iff.1 hj).1; simpa using this
 simpa using h j hl p hj
theorem lastOf_some {i : Int} {q : List (Int × List Int)} {k : Nat} {p : Int × List Int} (hp : q.reverse[k]? = some p) (he : p.1 = i) (h : ∀ j, j < k → ∀ p, q.reverse[j]? = some p → p.1 ≠ i) : lastOf i q = some p.2 := by
 obtain ⟨hl, hg⟩ := List.getElem?_eq_some_iff.1 hp
 rw [lastOf_find, List.find?_eq_some_iff_getElem.2 ⟨by simpa using he, k, hl, hg, fun j hj => ?_⟩]; · rfl
 simpa using h j hj _ (List.getElem?_eq_getElem (Nat.lt_trans hj hl))
end Go.SL.Sec
namespace Go.Proofs.YtgcknlpkhhpkjaaGreatDoor
open Go Go.SL Go.SL.Sec
theorem backward_spec {W : World} {R : HProp} {a : Option Addr} {n c : Nat} :
  Does prog W f_z3q ⟨[.slice a n c]⟩ R (Ret fun v G => ∃ B, v = .func (.func f_z2w) ⟨[]⟩ ⟨[ptr B]⟩ ∧ G = (pts B (.cells ⟨[.slice a n c]⟩ t_S_api_Pending) • R)) := by
 refine f_z3q.does _ ?_
 conv => whnf
 repeat' (first
  | (intro blk hblk; conv => whnf))
 exact ⟨_, _, rfl, Imp.refl _, blk, rfl, rfl⟩
theorem read_spec {W : World} {H R : HProp} {d : Nat} {X : DevX} {i : Int} [t : DevC H d X R] (hX : X.Ok) (hq : X.ps.length ≤ 1000000) :
  Does prog W f_z11 ⟨[ptr d, .int .i64 i]⟩ H (Ret fun v G => ∃ a c, (X.val.read i).2.length ≤ c ∧ v = .tuple ⟨[.slice a (X.val.read i).2.length c, .int .i64 (X.val.read i).1]⟩ ∧ G = (vec t_uint8 1 bytv a c (X.val.read i).2 • devo d X • R)) := by
 have hl := hX.len
 have hsz : X.val.secs = (X.img.length : Int) / 512 := rfl
 rw [t.h.eq]
 unfold Dev.read
 by_cases h1 : X.down = true
 ·rw [if_pos (show X.val.down = true from h1)]
  refine f_z11.does _ _ ?_
  conv => whnf
  repeat' (first
   | ((first | refine spl_t h1 ?_ | refine Ld.i ?_ | refine St.i ⟨rfl, rfl⟩ (List.cons_ne_nil _ _) ?_); conv => whnf)
   | (intro blk hblk; conv => whnf))
  refine ⟨_, _, rfl, ?_, none, 0, Nat.le_refl _, rfl, rfl⟩
  refine Imp.vnil ?_
  first | exact .refl _ | exact .drop | exact .fin | ((repeat refine .pick ?_); first | exact .refl _ | exact .emp _ | exact .fin)
 rw [if_neg (show ¬ X.val.down = true from h1)]
 have h1f : X.down = false := by simpa using h1
 by_cases h2 : i < 0 ∨ i ≥ X.val.secs
 ·rw [if_pos h2]
  refine f_z11.does _ _ ?_
  conv => whnf
  repeat' (first
   | (refine spl_f h1f ?_; conv => whnf)
   | (refine spl_dec (fun hd => ?_) (fun hd => ?_) <;> first | (exfalso; omega) | (conv => whnf))
   | ((first | refine Ld.i ?_ | refine St.i ⟨rfl, rfl⟩ (List.cons_ne_nil _ _) ?_); conv => whnf)
   | (intro blk hblk; conv => whnf)
   | (refine Sub.on (by first | exact .refl _ | exact .drop | exact .fin | ((repeat refine .pick ?_); first | exact .refl _ | exact .emp _ | exact .fin)) ?_; conv => whnf)
   | (refine DrawK.introH tab_ok mixed 14 f_z11.last3 f_z11.plan3 _ rfl (by kernel_rfl) (Sub.of (by first | exact .refl _ | exact .drop | exact .fin | ((repeat refine .pick ?_); first | exact .refl _ | exact .emp _ | exact .fin))) ?_; conv => whnf)
   | (refine CallK.ret f_z1i.ok (sectors_spec (by first | rfl | assumption | omega | decide | (simp; done) | (simp; omega) | (simp at *; omega))) ?_; rintro v G ⟨rfl, rfl⟩; conv => whnf))
  all_goals
   refine ⟨_, _, rfl, ?_, none, 0, Nat.le_refl _, rfl, rfl⟩
   refine Imp.vnil ?_
   first | exact .refl _ | exact .drop | exact .fin | ((repeat refine .pick ?_); first | exact .refl _ | exact .emp _ | exact .fin)
 rw [if_neg h2]
 refine f_z11.does _ _ ?_
 conv => whnf
 repeat' (first
  | (refine spl_f h1f ?_; conv => whnf)
  | (refine spl_dec (fun hd => ?_) (fun hd => ?_) <;> first | (exfalso; omega) | (conv => whnf))
  | (refine Ld.i ?_; conv => whnf)
  | (intro blk hblk; conv => whnf)
  | (refine Sub.on (by first | exact .refl _ | exact .drop | exact .fin | ((repeat refine .pick ?_); first | exact .refl _ | exact .emp _ | exact .fin)) ?_; conv => whnf)
  | (refine DrawK.introH tab_ok mixed 14 f_z11.last3 f_z11.plan3 _ rfl (by kernel_rfl) (Sub.of (by first | exact .refl _ | exact .drop | exact .fin | ((repeat refine .pick ?_); first | exact .refl _ | exact .emp _ | exact .fin))) ?_; conv => whnf)
  | (refine CallK.ret f_z1i.ok (sectors_spec (by first | rfl | assumption | omega | decide | (simp; done) | (simp; omega) | (simp at *; omega))) ?_; rintro v G ⟨rfl, rfl⟩; conv => whnf)
  | (refine CallK.ret f_z3q.ok (backward_spec) ?_; rintro v G ⟨e_B, rfl, rfl⟩; conv => whnf))
 rw [devo_eq]
 rename_i b3 hb3 b4 hb4 hd0
 obtain ⟨rest, hrest⟩ : ∃ G, G = (pts d (.cells ⟨[.slice X.ia X.img.length X.ic, .slice X.qa X.ps.length X.qc, .int .i64 X.step, .slice X.ka X.keep.length X.kc, .int .i64 X.torn, .int .i64 X.off, .bool X.down, .int .i64 X.calls]⟩ t_z41) •
  vec t_uint8 1 bytv X.ia X.ic X.img • bigL pendc X.ps • vec t_uint64 1 u64s X.ka X.kc X.keep • R) := ⟨_, rfl⟩
 refine RangeK.intro (L := f_z11.live) tab_ok rfl f_z2w.ok X.ps.length
  (fun k => [.int .i64 ((X.ps.length : Int) - 1 - k), .agg ⟨(X.ps.reverse[k]?.map pendv).getD []⟩]) (fun _ => rfl) (by simp) rfl rfl
  (fun k (_ : Unit) => ∀ j, j < k → ∀ p, X.val.q.reverse[j]? = some p → p.1 ≠ i) (fun _ _ => pts b3 (.cells ⟨[.int .i64 i]⟩ t_int) • pts b4 (.cells ⟨[.slice none 0 0]⟩ t_S_uint8) • pts blk (.cells ⟨[i0]⟩ t_z2) • rest)
  (fun _ (r : Option Addr × Nat) => (X.val.at i).length ≤ r.2) (fun _ r => vec t_uint8 1 bytv r.1 r.2 (X.val.at i) • pts b4 (.cells ⟨[.slice r.1 (X.val.at i).length r.2]⟩ t_S_uint8) • pts blk (.cells ⟨[i0]⟩ t_z2) • rest)
  [.ret] (pts e_B (.cells ⟨[.slice X.qa X.ps.length X.qc]⟩ t_S_api_Pending) • vec t_z40 2 pendv X.qa X.qc X.ps) () (fun j hj => by omega) ?_ (backward_iter rfl hq) ?_ ?_ ?_
 ·subst hrest
  simp only [star_assoc]
  first | exact .refl _ | exact .drop | exact .fin | ((repeat refine .pick ?_); first | exact .refl _ | exact .emp _ | exact .fin)
 ·intro k _ hk hno Y
  obtain ⟨p, hp⟩ : ∃ p, X.ps.reverse[k]? = some p := ⟨_, List.getElem?_eq_getElem (by simpa using hk)⟩
  have hpv : X.val.q.reverse[k]? = some (p.sec, p.b) := by simp only [DevX.val, ← List.map_reverse, List.getElem?_map, hp]; rfl
  rw [hp]
  subst hrest
  haveI mp : MemC X.ps p := ⟨List.mem_reverse.1 (List.mem_of_getElem? hp)⟩
  haveI cp : ∀ Q : HProp, RowC W (bigL pendc X.ps • Q) p.a 1 bytv p.b := fun Q => RowC.pend
  have hpl := hX.val.q _ (by have := List.mem_reverse.1 (List.mem_of_getElem? hpv); exact this)
  dsimp only at hpl
  conv => whnf
  repeat' (first
   | (refine St.i ⟨rfl, rfl⟩ (List.cons_ne_nil _ _) ?_; conv => whnf)
   | (intro blk hblk; conv => whnf))
  refine ⟨rfl, _, Imp.pick (Imp.refl _), fun Y' => ?_⟩
  rename_i bw hbw
  conv => whnf
  repeat' (first
   | (refine spl_dec (fun hd => ?_) (fun hd => ?_) <;> first | (exfalso; omega) | (conv => whnf))
   | ((first | refine Ld.i ?_ | refine St.i ⟨rfl, rfl⟩ (List.cons_ne_nil _ _) ?_); conv => whnf)
   | (refine CallK.ret f_z1x.ok (clone_spec (by first | rfl | assumption | omega | decide | (simp; done) | (simp; omega) | (simp at *; omega))) ?_; rintro v G ⟨e_a', e_cap', e_h1, rfl, rfl⟩; conv => whnf))
  ·have hat : X.val.at i = p.b := by unfold Dev.at; rw [lastOf_some hpv hd hno]; rfl
   refine ⟨by simp, Imp.pick (Imp.known (e_a', e_cap') (by rw [hat]; exact e_h1) ?_)⟩
   rw [hat]
   first | exact .refl _ | exact .drop | exact .fin | ((repeat refine .pick ?_); first | exact .refl _ | exact .emp _ | exact .fin)
  ·refine ⟨trivial, Imp.pick (Imp.known () (fun j hj q hq' => ?_) (by first | exact .refl _ | exact .drop | exact .fin | ((repeat refine .pick ?_); first | exact .refl _ | exact .emp _ | exact .fin)))⟩
   by_cases hjk : j = k
   ·subst hjk
    rw [hpv] at hq'
    cases hq'
    exact hd
   ·exact hno j (by omega) q hq'
 ·intro D _ hno
  subst hrest
  simp only [star_assoc]
  have hlm := hX.val.len
  have hi : 0 ≤ i ∧ i.toNat * 512 + 512 ≤ X.img.length := by
   have : X.val.img.length = X.img.length := rfl
   omega
  have hic := hX.ic
  have hsec : X.val.at i = secOf X.img i := by
   unfold Dev.at; rw [lastOf_none (fun j hj => hno j (by simpa [DevX.val] using hj))]; rfl
  have hso : (secOf X.img i).length = 512 := by simp only [secOf, List.length_take, List.length_drop]; omega
  haveI rs : ∀ Q : HProp, RowN W (vec t_uint8 1 bytv X.ia X.ic X.img • Q) (dropA X.ia (i.toNat * 512) X.ic 1) 512 1 bytv (secOf X.img i) := fun Q => ⟨RowC.sub _, hso.symm⟩
  conv => whnf
  repeat' (first
   | ((first | refine Ld.i ?_ | refine St.i ⟨rfl, rfl⟩ (List.cons_ne_nil _ _) ?_); conv => whnf)
   | (refine CallK.ret f_z1x.ok (clone_spec (by first | rfl | assumption | omega | decide | (simp; done) | (simp; omega) | (simp at *; omega))) ?_; rintro v G ⟨e_a', e_cap', e_h1, rfl, rfl⟩; conv => whnf)
   | (refine CallK.ret f_z2i.ok (sector_spec (by first | rfl | assumption | omega | decide | (simp; done) | (simp; omega) | (simp at *; omega)) (by first | rfl | assumption | omega | decide | (simp; done) | (simp; omega) | (simp at *; omega)) (by first | rfl | assumption | omega | decide | (simp; done) | (simp; omega) | (simp at *; omega))) ?_; rintro v G ⟨rfl, rfl⟩; conv => whnf))
  refine LeaveD.mark tab_ok ?_
  conv => whnf
  repeat' (first
   | (refine Ld.i ?_; conv => whnf))
  rw [hsec]
  refine ⟨_, _, rfl, ?_, e_a', e_cap', e_h1, rfl, rfl⟩
  rw [devo_eq]
  first | exact .refl _ | exact .drop | exact .fin | ((repeat refine .pick ?_); first | exact .refl _ | exact .emp _ | exact .fin)
 ·intro D c r hc hr
  obtain rfl := List.mem_singleton.1 hc
  subst hrest
  simp only [star_assoc]
  conv => whnf
  refine LeaveD.mark tab_ok ?_
  conv => whnf
  repeat' (first
   | (refine Ld.i ?_; conv => whnf))
  refine ⟨_, _, rfl, ?_, r.1, r.2, hr, rfl, rfl⟩
  rw [devo_eq]
  first | exact .refl _ | exact .drop | exact .fin | ((repeat refine .pick ?_); first | exact .refl _ | exact .emp _ | exact .fin)
end Go.Proofs.YtgcknlpkhhpkjaaGreatDoor
/- The program's package twin, walked: asking the disk; several sectors in a row. Conditions: in each statement. -/
namespace Go.SL.Twn
open Go Go.SL Go.SL.Sec
def ThereP (secs at_ many : Int) : Prop := 0 ≤ at_ ∧ many ≤ secs ∧ at_ ≤ secs - many
instance {a b c : Int} : Decidable (ThereP a b c) := inferInstanceAs (Decidable (_ ∧ _))
def TmayP (secs at_ home : Int) : Prop := ThereP secs home 2 ∧ (home + 1 < at_ ∨ home > at_ + 2)
instance {a b c : Int} : Decidable (TmayP a b c) := inferInstanceAs (Decidable (_ ∧ _))
def pws (at_ : Int) (b : List Int) : Nat → Nat → Dev → Int × Dev
 | 0, _, D => D.sync
 | n + 1, i, D => if (D.write (at_ + i) ((b.drop (512 * i)).take 512)).1 = 0 then pws at_ b n (i + 1) (D.write (at_ + i) ((b.drop (512 * i)).take 512)).2 else D.write (at_ + i) ((b.drop (512 * i)).take 512)
theorem pws_next {at_ : Int} {b : List Int} {n i : Nat} {D : Dev} (h : i < n) : pws at_ b (n - i) i D = if (D.write (at_ + i) ((b.drop (512 * i)).take 512)).1 = 0 then pws at_ b (n - (i + 1)) (i + 1) (D.write (at_ + i) ((b.drop (512 * i)).take 512)).2 else D.write (at_ + i) ((b.drop (512 * i)).take 512) := by
 obtain ⟨m, hm⟩ : ∃ m, n - i = m + 1 := ⟨n - i - 1, by omega⟩
 rw [hm, show n - (i + 1) = m by omega, pws]
end Go.SL.Twn
namespace Go.Proofs.YtgcknlpkhhpkjaaGreatDoor
open Go Go.SL Go.SL.Sec Go.SL.Twn
abbrev tref (e : Int) : Value := .iface t_twin_refusal (.agg ⟨[.int .i64 e]⟩)
def AskT (e : Int) (P : HProp → Prop) (en : Ending) (G : HProp) : Prop := ((e = 0 ∧ en = .returned (.tuple ⟨[]⟩)) ∨ (e ≠ 0 ∧ en = .panicked (pan (tref e)))) ∧ P G
theorem tneed_ok {W : World} {R : HProp} {e : Int} : Does prog W f_zf ⟨[.bool true, .int .i64 e]⟩ R (Ret fun v G => v = .tuple ⟨[]⟩ ∧ G = R) := by
 refine f_zf.does _ _ ?_
 conv => whnf
 skip
 refine Ret.eq rfl ?_
 first | exact .refl _ | exact .drop | exact .fin | ((repeat refine .pick ?_); first | exact .refl _ | exact .emp _ | exact .fin)
theorem tneed_no {W : World} {R : HProp} {e : Int} : Does prog W f_zf ⟨[.bool false, .int .i64 e]⟩ R (Thr fun c G => c = pan (tref e) ∧ G = R) := by
 refine f_zf.does _ _ ?_
 conv => whnf
 skip
 exact Thr.eq rfl (Imp.refl _)
theorem tmust_ok {W : World} {R : HProp} : Does prog W f_z1q ⟨[.int .i64 0]⟩ R (Ret fun v G => v = .tuple ⟨[]⟩ ∧ G = R) := by
 refine f_z1q.does _ ?_
 conv => whnf
 repeat' (first
  | (refine CallK.ret f_zf.ok (tneed_ok) ?_; rintro v G ⟨rfl, rfl⟩; conv => whnf))
 refine Ret.eq rfl ?_
 first | exact .refl _ | exact .drop | exact .fin | ((repeat refine .pick ?_); first | exact .refl _ | exact .emp _ | exact .fin)
theorem tmust_no {W : World} {R : HProp} {e : Int} (h : e ≠ 0) : Does prog W f_z1q ⟨[.int .i64 e]⟩ R (Thr fun c G => c = pan (tref e) ∧ G = R) := by
 refine f_z1q.does _ ?_
 conv => whnf
 conv => whnf
 rw [decide_eq_false h]
 repeat' (first
  | (refine CallK.thr f_zf.ok (tneed_no) ?_; rintro c G ⟨rfl, rfl⟩; conv => whnf))
 exact Thr.eq rfl (Imp.refl _)
theorem there_spec {W : World} {H R : HProp} {d : Nat} {X : DevX} {z m : Int} [t : DevC H d X R] (hX : X.Ok) (hm : 0 ≤ m ∧ m ≤ 10) :
  Does prog W f_z1g ⟨[ptr d, .int .i64 z, .int .i64 m]⟩ H (Ret fun v G => v = .bool (decide (ThereP X.val.secs z m)) ∧ G = (devo d X • R)) := by
 rw [t.h.eq]
 have hsec : 0 ≤ X.val.secs ∧ X.val.secs ≤ 8192 := by
  have := hX.len
  unfold Dev.secs DevX.val
  dsimp only
  omega
 unfold ThereP
 refine f_z1g.does _ _ _ ?_
 conv => whnf
 repeat' (first
  | (refine spl_dec (fun hd => ?_) (fun hd => ?_) <;> first | (exfalso; omega) | (conv => whnf))
  | (refine Ar.i64 (by omega) ?_; conv => whnf)
  | (refine CallK.ret f_z1i.ok ((sectors_spec hX)) ?_; rintro v G ⟨rfl, rfl⟩; conv => whnf))
 all_goals
  refine Ret.eq (congrArg Value.bool (Bool.eq_iff_iff.2 ?_)) (Imp.refl _)
  refine ⟨fun h => ?_, fun h => ?_⟩
  ·first | exact absurd h (by decide) | (have h := of_decide_eq_true h; exact decide_eq_true (by omega))
  ·have h := of_decide_eq_true h
   first | exact decide_eq_true (by omega) | (exfalso; omega)
theorem tmay_spec {W : World} {H R : HProp} {d : Nat} {X : DevX} {z m : Int} [t : DevC H d X R] (hX : X.Ok) (hz : 0 ≤ z ∧ z ≤ 8192) :
  Does prog W f_z2p ⟨[ptr d, .int .i64 z, .int .i64 m]⟩ H (Ret fun v G => v = .bool (decide (TmayP X.val.secs z m)) ∧ G = (devo d X • R)) := by
 rw [t.h.eq]
 have hsec : 0 ≤ X.val.secs ∧ X.val.secs ≤ 8192 := by
  have := hX.len
  unfold Dev.secs DevX.val
  dsimp only
  omega
 unfold TmayP
 refine f_z2p.does _ _ _ ?_
 conv => whnf
 by_cases ht : ThereP X.val.secs m 2
 ·have ht2 := ht
  unfold ThereP at ht2
  repeat' (first
   | (refine CallK.ret f_z1g.ok (there_spec (X := X) hX (by omega)) ?_; rw [decide_eq_true ht]; rintro v G ⟨rfl, rfl⟩; conv => whnf)
   | (refine spl_dec (fun hd => ?_) (fun hd => ?_) <;> first | (exfalso; omega) | (conv => whnf))
   | (refine Ar.i64 (by omega) ?_; conv => whnf))
  all_goals
   refine Ret.eq (congrArg Value.bool (Bool.eq_iff_iff.2 ?_)) (Imp.refl _)
   refine ⟨fun h => ?_, fun h => ?_⟩
   ·first | exact absurd h (by decide) | exact decide_eq_true ⟨ht, by omega⟩ | (have h := of_decide_eq_true h; exact decide_eq_true ⟨ht, by omega⟩)
   ·have h := (of_decide_eq_true h).2
    first | rfl | exact decide_eq_true (by omega) | (exfalso; omega)
 ·repeat' (first
   | (refine CallK.ret f_z1g.ok (there_spec (X := X) hX (by omega)) ?_; rw [decide_eq_false ht]; rintro v G ⟨rfl, rfl⟩; conv => whnf))
  refine Ret.eq (congrArg Value.bool (decide_eq_false fun h => ht h.1).symm) (Imp.refl _)
theorem running_ok {W : World} {H R : HProp} {d : Nat} {X : DevX} [t : DevC H d X R] (h : X.down = false) : Does prog W f_z13 ⟨[ptr d]⟩ H (Ret fun v G => v = .tuple ⟨[]⟩ ∧ G = (devo d X • R)) := by
 rw [t.h.eq]
 refine f_z13.does _ ?_
 conv => whnf
 repeat' (first
  | (refine CallK.ret f_z24.ok (down_spec (X := X)) ?_; rw [h]; rintro v G ⟨rfl, rfl⟩; conv => whnf)
  | (refine CallK.ret f_zf.ok (tneed_ok) ?_; rintro v G ⟨rfl, rfl⟩; conv => whnf))
 refine Ret.eq rfl ?_
 first | exact .refl _ | exact .drop | exact .fin | ((repeat refine .pick ?_); first | exact .refl _ | exact .emp _ | exact .fin)
theorem running_no {W : World} {H R : HProp} {d : Nat} {X : DevX} [t : DevC H d X R] (h : X.down = true) : Does prog W f_z13 ⟨[ptr d]⟩ H (Thr fun c G => c = pan (tref 40) ∧ G = (devo d X • R)) := by
 rw [t.h.eq]
 refine f_z13.does _ ?_
 conv => whnf
 repeat' (first
  | (refine CallK.ret f_z24.ok (down_spec (X := X)) ?_; rw [h]; rintro v G ⟨rfl, rfl⟩; conv => whnf)
  | (refine CallK.ret f_zf.ok (tneed_ok) ?_; rintro v G ⟨rfl, rfl⟩; conv => whnf)
  | (refine CallK.thr f_zf.ok (tneed_no) ?_; rintro c G ⟨rfl, rfl⟩; conv => whnf))
 exact Thr.eq rfl (Imp.refl _)
end Go.Proofs.YtgcknlpkhhpkjaaGreatDoor
/- The program's package twin, walked: reading, writing in a row. Conditions: in each statement. -/
namespace Go.SL
theorem OpQ.sly {P : Program} {W : World} {T : Tab} (hT : T.ok P) {st : TypeId} {s i j : Operand} {ty : TypeId} {ev : Operand → Option Value} {K : Value → Prop} {n c : Nat} {a : Option Addr} {H : HProp} {k k' : IntKind} {z y : Int} {e : TypeId} {c1 : List Value} {a1 : Bool} {s1 b1 : Nat} {r2 : TRow} (lo m sz : Nat)
  (hs : ev s = some (.slice a n c)) (hi : ev i = some (.int k z)) (hj : ev j = some (.int k' y)) (h1 : T st = some ⟨.slice e, c1, a1, s1, b1⟩) (h2 : T e = some r2) (hsz : r2.size = sz) (hz : z = (lo : Int)) (hy : y = ((lo + m : Nat) : Int)) (hc : lo + m ≤ c) (hk : K (.slice (dropA a lo c sz) m (c - lo))) :
  OpQ P W (.slice st s (some i) (some j) none) ty ev H K := OpQ.slx hT lo m hs hi hj h1 h2 hz hy hc (hsz ▸ hk)
end Go.SL
namespace Go.SL.Sec
theorem lastOf_mem {i : Int} {b : List Int} {q : List (Int × List Int)} (h : lastOf i q = some b) : ∃ p ∈ q, p.2 = b := by
 rw [lastOf_find] at h
 obtain ⟨p, hp, he⟩ := Option.map_eq_some_iff.1 h
 exact ⟨p, List.mem_reverse.1 (List.mem_of_find?_eq_some hp), he⟩
theorem Dev.read_len {D : Dev} {i : Int} (h : D.Ok) (he : (D.read i).1 = 0) : (D.read i).2.length = 512 ∧ 0 ≤ i ∧ i < D.secs := by
 have h1 := h.len
 unfold Dev.read at he ⊢
 unfold Dev.secs at he ⊢
 by_cases hd : D.down = true
 ·rw [if_pos hd] at he; exact absurd he (by decide)
 rw [if_neg hd] at he ⊢
 by_cases hi : i < 0 ∨ i ≥ (D.img.length : Int) / 512
 ·rw [if_pos hi] at he; exact absurd he (by decide)
 rw [if_neg hi]
 refine ⟨?_, by omega, by omega⟩
 unfold Dev.at
 cases hl : lastOf i D.q with
 | none =>
  unfold secOf
  dsimp only [Option.getD]
  rw [List.length_take, List.length_drop]
  omega
 | some b =>
  obtain ⟨p, hp, rfl⟩ := lastOf_mem hl
  exact (h.q p hp).2.2.1
end Go.SL.Sec
namespace Go.Proofs.YtgcknlpkhhpkjaaGreatDoor
open Go Go.SL Go.SL.Sec Go.SL.Twn
theorem tget_ok {W : World} {H R : HProp} {d : Nat} {X : DevX} {i : Int} [t : DevC H d X R] (hX : X.Ok) (hq : X.ps.length ≤ 1000000) (he : (X.val.read i).1 = 0) :
  Does prog W f_twin_get ⟨[ptr d, .int .i64 i]⟩ H (Ret fun v G => ∃ a c, 512 ≤ c ∧ v = .slice a 512 c ∧ G = (vec t_uint8 1 bytv a c (X.val.read i).2 • devo d X • R)) := by
 rw [t.h.eq]
 have h512 := (Dev.read_len hX.val he).1
 refine f_twin_get.does _ _ ?_
 conv => whnf
 repeat' (first
  | (refine CallK.ret f_z11.ok (read_spec (X := X) hX hq) ?_; rintro v G ⟨ra, rc, hrc, rfl, rfl⟩; rw [he]; conv => whnf)
  | (refine CallK.ret f_z1q.ok tmust_ok ?_; rintro v G ⟨rfl, rfl⟩; conv => whnf))
 exact ⟨_, _, rfl, Imp.refl _, ra, rc, by omega, by rw [h512], rfl⟩
theorem put_go {W : World} {R : HProp} {d : Nat} {X : DevX} {z : Int} {a : Option Addr} {nn c n : Nat} {b : List Int} (ro : RowC W R a 1 bytv b) (hX : X.Ok) (hq : X.ps.length ≤ 500000) (hz : 0 ≤ z ∧ z ≤ 8192) (hl : b.length = 512 * n) (hn : n ≤ 4) (hc : b.length ≤ c) (hb : Byt b) (hnn : nn = b.length) :
  Does prog W f_z27 ⟨[ptr d, .int .i64 z, .slice a nn c]⟩ (devo d X • R) (fun en G => ∃ G', Imp G G' ∧ AskT (pws z b n 0 X.val).1 (fun G => ∃ X' : DevX, X'.Ok ∧ X'.val = (pws z b n 0 X.val).2 ∧ X'.ps.length ≤ X.ps.length + n ∧ G = (devo d X' • R)) en G') := by
 subst hnn
 obtain ⟨RR, hRR⟩ : ∃ RR, RR = pws z b n 0 X.val := ⟨_, rfl⟩
 rw [← hRR]
 refine f_z27.does _ _ _ ?_
 conv => whnf
 skip
 refine LoopK.at tab_ok (L := f_z27.live) (ι := Nat × DevX) (fun i => i.1 ≤ n ∧ pws z b (n - i.1) i.1 i.2.val = RR ∧ i.2.Ok ∧ i.2.ps.length ≤ X.ps.length + i.1) (fun i => [(6, .int .i64 i.1)])
  (fun i => devo d i.2) (fun i => n - i.1) (0, X) ⟨by simp, by rw [hRR]; rfl, hX, by simp⟩ (fun t v h => h) (Imp.pick (Imp.refl _)) ?_
 rintro ⟨i, Z⟩ ⟨hi, hw, hZ, hZq⟩
 dsimp only at hi hw hZ hZq ⊢
 conv => whnf
 by_cases h1 : i < n
 ·rw [pws_next h1] at hw
  obtain ⟨S, hS⟩ : ∃ S, S = (b.drop (512 * i)).take 512 := ⟨_, rfl⟩
  have hSl : S.length = 512 := by rw [hS, List.length_take, List.length_drop]; omega
  have hSb : Byt S := hS ▸ (hb.drop _).take _
  rw [← hS] at hw
  obtain ⟨e, he⟩ : ∃ e, e = (Z.val.write (z + i) S).1 := ⟨_, rfl⟩
  rw [← he] at hw
  haveI rS : RowN W R (dropA a (512 * i) c 1) 512 1 bytv S := ⟨by rw [hS]; exact RowC.take _ (RowC.drop (512 * i) c hc ro), hSl.symm⟩
  by_cases he0 : e = 0
  ·rw [if_pos he0] at hw
   repeat' (first
    | (refine CallK.ret f_z16.ok (write_spec (X := Z) (b := S) (ro := rS) hZ (by omega) hSb (by omega)) ?_; rintro v G ⟨Z', hZ', hZv, hZl, rfl, rfl⟩; rw [← he, he0]; conv => whnf)
    | (refine CallK.ret f_z1q.ok tmust_ok ?_; rintro v G ⟨rfl, rfl⟩; conv => whnf)
    | (refine spl_dec (fun hd => ?_) (fun hd => ?_) <;> first | (exfalso; omega) | (conv => whnf))
    | (refine Ar.i64 (by omega) ?_; conv => whnf)
    | (refine OpX.of_quiet (OpQ.sly tab_ok (512 * i) 512 1 rfl rfl rfl rfl rfl rfl (by omega) (by omega) (by omega) ?_); conv => whnf))
   refine ⟨rfl, (i + 1, Z'), ⟨h1, by rw [hZv]; exact hw, hZ', by dsimp only; omega⟩, fun t v h => h, ?_, by dsimp only; omega⟩
   first | exact .refl _ | exact .drop | exact .fin | ((repeat refine .pick ?_); first | exact .refl _ | exact .emp _ | exact .fin)
  ·rw [if_neg he0] at hw
   repeat' (first
    | (refine CallK.ret f_z16.ok (write_spec (X := Z) (b := S) (ro := rS) hZ (by omega) hSb (by omega)) ?_; rintro v G ⟨Z', hZ', hZv, hZl, rfl, rfl⟩; rw [← he]; conv => whnf)
    | (refine CallK.thr f_z1q.ok (tmust_no he0) ?_; rintro c G ⟨rfl, rfl⟩; conv => whnf)
    | (refine spl_dec (fun hd => ?_) (fun hd => ?_) <;> first | (exfalso; omega) | (conv => whnf))
    | (refine Ar.i64 (by omega) ?_; conv => whnf)
    | (refine OpX.of_quiet (OpQ.sly tab_ok (512 * i) 512 1 rfl rfl rfl rfl rfl rfl (by omega) (by omega) (by omega) ?_); conv => whnf))
   refine ⟨_, Imp.refl _, .inr ⟨?_, ?_⟩, Z', hZ', ?_, ?_, rfl⟩
   ·rw [← hw, ← he]; exact he0
   ·rw [← hw, ← he]
   ·rw [hZv, ← hw]
   ·omega
 ·rw [show n - i = 0 by omega, pws] at hw
  obtain ⟨e, he⟩ : ∃ e, e = Z.val.sync.1 := ⟨_, rfl⟩
  by_cases he0 : e = 0
  ·repeat' (first
    | (refine CallK.ret f_z10.ok (sync_spec (X := Z) hZ (by omega)) ?_; rintro v G ⟨Z', hZ', hZv, hZl, rfl, rfl⟩; rw [← he, he0]; conv => whnf)
    | (refine CallK.ret f_z1q.ok tmust_ok ?_; rintro v G ⟨rfl, rfl⟩; conv => whnf)
    | (refine spl_dec (fun hd => ?_) (fun hd => ?_) <;> first | (exfalso; omega) | (conv => whnf))
    | (refine Ar.i64 (by omega) ?_; conv => whnf))
   refine ⟨_, Imp.refl _, .inl ⟨?_, rfl⟩, Z', hZ', ?_, ?_, rfl⟩
   ·rw [← hw, ← he]; exact he0
   ·rw [hZv, ← hw]
   ·omega
  ·repeat' (first
    | (refine CallK.ret f_z10.ok (sync_spec (X := Z) hZ (by omega)) ?_; rintro v G ⟨Z', hZ', hZv, hZl, rfl, rfl⟩; rw [← he]; conv => whnf)
    | (refine CallK.thr f_z1q.ok (tmust_no he0) ?_; rintro c G ⟨rfl, rfl⟩; conv => whnf)
    | (refine spl_dec (fun hd => ?_) (fun hd => ?_) <;> first | (exfalso; omega) | (conv => whnf))
    | (refine Ar.i64 (by omega) ?_; conv => whnf))
   refine ⟨_, Imp.refl _, .inr ⟨?_, ?_⟩, Z', hZ', ?_, ?_, rfl⟩
   ·rw [← hw, ← he]; exact he0
   ·rw [← hw, ← he]
   ·rw [hZv, ← hw]
   ·omega
end Go.Proofs.YtgcknlpkhhpkjaaGreatDoor
/- A region that draws its order, with forks, and with a forced end. No condition. -/
namespace Go.SL
open Go
def PT.some (F : List Nat) : PT → Bool
 | .nil => false
 | .op i t => !F.contains i || t.some F
 | .two i t j s => (!F.contains i || t.some F) || (!F.contains j || s.some F)
def ptOkF (ops : List Oper) (F : List Nat) : PT → Array Bool → Bool
 | .nil, listed => (Region.ready .any ⟨ops⟩ listed).isEmpty
 | .op i t, listed => match ops[i]? with
  | none => false
  | some o => (match quietOp o.op && !F.contains i with
    | true => (Region.ready .any ⟨ops⟩ listed).contains i && Region.free .any ⟨ops⟩ listed i
    | false => Region.ready .any ⟨ops⟩ listed == [i]) && (!F.contains i || !t.some F) && ptOkF ops F t (listed.setIfInBounds i true)
 | .two i t j s, listed => Region.ready .any ⟨ops⟩ listed == [i, j] && !F.contains i && !F.contains j && ptOkF ops F t (listed.setIfInBounds i true) && ptOkF ops F s (listed.setIfInBounds j true)
def treeOkF (ops : List Oper) (F : List Nat) (t : PT) : Bool := Region.noSelect ⟨ops⟩ && Nat.ble t.size ops.length && lastOk ops F && ptOkF ops F t (Array.replicate ops.length false)
def execTreeF (P : Program) (W : World) (T : Tab) (N : Nat) (A : HProp) (all : List Oper) (F : List Nat) : PT → Fr → List Deferred → HProp → ContK → PanK → Prop
 | .nil, fr, ds, H, K, _ => K fr ds H
 | .op i t, fr, ds, H, K, Kp => match all[i]? with
  | some o => guarded all o fr
    (fun fr => match quietOp o.op && !F.contains i with
     | true => opK P W T o.op o.type fr.eval A (fun v _ => putK N fr v (fun fr => execTreeF P W T N A all F t fr ds H K Kp) o.dst) (fun _ _ => False)
       (OpQ P W o.op o.type fr.eval A fun v => putK N fr v (fun fr => execTreeF P W T N A all F t fr ds H K Kp) o.dst)
     | false => op1 P W T N o fr ds H (fun fr ds H => match F.contains i with
      | true => execTreeF P W T N A all F t fr ds H K Kp
      | false => Req (Sub W H A) (execTreeF P W T N A all F t fr ds H K Kp)) fun c _ ds H => Kp c [] ds H)
    (fun fr => putK N fr undef (fun fr => execTreeF P W T N A all F t fr ds H K Kp) o.dst)
  | none => False
 | .two i t j s, fr, ds, H, K, Kp => match all[i]?, all[j]? with
  | some o, some p =>
   guarded all o fr (fun fr => loudK P W T N A o fr ds H (fun fr ds H => execTreeF P W T N A all F t fr ds H K Kp) Kp) (fun fr => putK N fr undef (fun fr => execTreeF P W T N A all F t fr ds H K Kp) o.dst) ∧
   guarded all p fr (fun fr => loudK P W T N A p fr ds H (fun fr ds H => execTreeF P W T N A all F s fr ds H K Kp) Kp) (fun fr => putK N fr undef (fun fr => execTreeF P W T N A all F s fr ds H K Kp) p.dst)
  | _, _ => False
section
variable {P : Program} {W : World} {T : Tab} {N : Nat} {A : HProp}
end
end Go.SL
