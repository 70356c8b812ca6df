/- The program's record.Decode, walked. Conditions: in each statement. -/
import Derived.Test.YtgcknlpkhhpkjaaGreatDoorPart14
import Derived.Test.YtgcknlpkhhpkjaaGreatDoorPart11
namespace Go.Proofs.YtgcknlpkhhpkjaaGreatDoor
open Go Go.SL Go.SL.Sec Go.SL.Fld Go.SL.Pts Go.SL.Rec
open Go.SL.Und (RecV recv fits)
def recLA (r : RecV) (la : Option Addr) (ln lc : Nat) (da : Option Addr) (dn dc : Nat) : Value := recA { r with lv := (la, ln, lc), dt := (da, dn, dc) }
def DecQ (T : DecT) (R : HProp) (v : Value) (G : HProp) : Prop :=
 ∃ la lc da dc, v = .tuple ⟨[recLA T.2.1 la T.2.2.1.length lc da T.2.2.2.length dc, .int .i64 T.1]⟩ ∧ G = (vec t_api_Live 4 livev la lc T.2.2.1 • vec t_api_Dirty 2 dirtyv da dc T.2.2.2 • R)
theorem decQ_none {e : Int} {R H : HProp} (h : Imp H R) : Ret (DecQ (noneT e) R) (.returned (.tuple ⟨[.agg ⟨[.int .i64 0, .int .i64 0, .int .i64 0, .int .i64 0, .int .i64 0, .int .i64 0, .int .i64 0, .int .i64 0, .int .i64 0, .int .i64 0, .int .i64 0, .int .i64 0, .int .i64 0, .int .i64 0, .slice none 0 0, .slice none 0 0, .int .i64 0]⟩, .int .i64 e]⟩)) H := by
 refine ⟨_, _, rfl, Imp.trans h ?_, none, 0, none, 0, rfl, rfl⟩
 exact Imp.vnil (Imp.vnil (Imp.refl _))
set_option maxHeartbeats 4000000 in
-- @noauto
theorem decode_nc {W : World} {R : HProp} {a : Option Addr} {n c : Nat} {l : List Int} [ro : RowN W R a n 1 bytv l] (hb : Byt l) (hl : l.length ≤ 16777216) (hk8 : ∀ a c, ¬ (((⟨a, c, l, 0, 0⟩ : RdX).u 18446744073709551615).2.err = 0 ∧ ((⟨a, c, l, 0, 0⟩ : RdX).u 18446744073709551615).1 = 8)) :
  Does prog W f_zb ⟨[.slice a n c]⟩ R (Ret (DecQ (decF l) R)) := by
 refine f_zb.does _ ?_
 conv => whnf
 repeat' (first
  | (intro blk hblk; conv => whnf)
  | (refine CallK.ret f_z3j.ok (newReader_spec (by first | rfl | assumption | omega | decide | (simp; done) | (simp; omega) | (simp at *; omega))) ?_; rintro v G ⟨e_r, e_a, e_c, e_h1, rfl, rfl⟩; conv => whnf))
 have hdec := decX_eq (a := e_a) (c := e_c) (l := l)
 have hX0 : (⟨e_a, e_c, l, 0, 0⟩ : RdX).Ok := ⟨hb, hl, e_h1, Nat.zero_le _⟩
 obtain ⟨hY, hk0, hk1, _⟩ := hX0.u 18446744073709551615
 refine CallK.ret f_z1e.ok (ru_spec hX0) ?_
 rintro v G ⟨rfl, rfl⟩
 have hk8 := hk8 e_a e_c
 unfold decX at hdec
 dsimp only at hdec
 obtain ⟨k, hk⟩ : ∃ k, k = ((⟨e_a, e_c, l, 0, 0⟩ : RdX).u 18446744073709551615).1 := ⟨_, rfl⟩
 obtain ⟨Y, hYe⟩ : ∃ Y, Y = ((⟨e_a, e_c, l, 0, 0⟩ : RdX).u 18446744073709551615).2 := ⟨_, rfl⟩
 rw [← hk] at hk0 hk1 hk8 hdec ⊢
 rw [← hYe] at hY hk8 hdec ⊢
 clear hk hYe hX0
 rw [← hdec]
 clear hdec
 by_cases he : Y.err = 0
 ·rw [if_neg (by simpa using he)]
  by_cases hbad : k < 1 ∨ k > 8
  ·rw [if_pos hbad]
   have hbad2 : ¬ (1 ≤ k ∧ k ≤ 8) := by omega
   conv => whnf
   repeat' (first
    | (refine spl_dec (fun hd => ?_) (fun hd => ?_) <;> first | (exfalso; omega) | (conv => whnf))
    | (refine spl_ndec (fun hd => ?_) (fun hd => ?_) <;> first | (exfalso; omega) | (conv => whnf))
    | ((first | refine LdN.i ?_ | refine St.i ⟨rfl, rfl⟩ (List.cons_ne_nil _ _) ?_); conv => whnf)
    | (refine CallK.ret f_zi.ok (rfault_spec (by first | rfl | assumption | omega | decide | (simp; done) | (simp; omega) | (simp at *; omega))) ?_; rintro v G ⟨rfl, rfl⟩; conv => whnf))
   all_goals refine decQ_none ?_; first | exact .refl _ | exact .drop | exact .fin | ((repeat refine .pick ?_); first | exact .refl _ | exact .emp _ | exact .fin)
  rw [if_neg hbad]
  by_cases h8 : k = 8
  ·exact absurd ⟨he, h8⟩ hk8
  ·rw [if_neg h8]
   unfold decN
   dsimp only
   have hil := intO_len k
   have hsl := sgnO_len k
   conv => whnf
   repeat' (first
    | (refine spl_dec (fun hd => ?_) (fun hd => ?_) <;> first | (exfalso; omega) | (conv => whnf))
    | (refine spl_ndec (fun hd => ?_) (fun hd => ?_) <;> first | (exfalso; omega) | (conv => whnf))
    | ((first | refine Ld.i ?_ | refine St.i ⟨rfl, rfl⟩ (List.cons_ne_nil _ _) ?_ | refine Ar.i64 (by omega) ?_); conv => whnf)
    | (intro blk hblk; conv => whnf)
    | (refine CallK.ret f_zi.ok (rfault_spec (by first | rfl | assumption | omega | decide | (simp; done) | (simp; omega) | (simp at *; omega))) ?_; rintro v G ⟨rfl, rfl⟩; conv => whnf)
    | (refine CallK.ret f_z4.ok (fields_spec (by first | rfl | assumption | omega | decide | (simp; done) | (simp; omega) | (simp at *; omega))) ?_; rintro v G ⟨e_a, e_c, e_b, e_d, rfl, rfl⟩; conv => whnf))
   obtain ⟨A, hA⟩ : ∃ A, A = decI 2147483647 (intO k) (kindR k) Y := ⟨_, rfl⟩
   rw [← hA]
   refine LoopK.at tab_ok (L := f_zb.live) (ι := Nat × RecV × RdX) (fun i => i.1 ≤ (intO k).length ∧ decI 2147483647 ((intO k).drop i.1) i.2.1 i.2.2 = A ∧ i.2.2.Ok ∧ i.2.1.kind = k ∧ i.2.1.lsn = 0 ∧ i.2.1.lv = (none, 0, 0) ∧ i.2.1.dt = (none, 0, 0)) (fun i => [(55, .int .i64 i.1)])
    (fun i => reado e_r i.2.2 • pts blk (.cells ⟨recv i.2.1⟩ t_z1n)) (fun i => (intO k).length - i.1) (0, kindR k, Y) ⟨by simp, hA.symm, hY, rfl, rfl, rfl, rfl⟩ (fun t v h => h) (by
     dsimp only [recv, kindR, recZ]
     exact Imp.assoc (Imp.pick (Imp.pick (Imp.refl _)))) ?_
   rintro ⟨i, r, X⟩ ⟨hi, hdi, hX, rk, rl, rv, rd⟩
   dsimp only at hi hdi hX rk rl rv rd ⊢
   simp only [star_assoc]
   conv => whnf
   by_cases h1 : i < (intO k).length
   ·obtain ⟨o, ho⟩ : ∃ o, (intO k)[i]? = some o := ⟨_, List.getElem?_eq_getElem h1⟩
    have hoi := intO_in (List.mem_of_getElem? ho)
    have hol : o < (recv r).length := by show o < 17; omega
    rw [decI_next ho] at hdi
    obtain ⟨hX1, hz0, _, hz1⟩ := hX.u 2147483647
    have hz1 := hz1 (by decide)
    have hsc := setC_same (r := r) (z := (X.u 2147483647).1) hoi
    repeat' (first
     | (refine St.nth hol rfl rfl ?_; conv => whnf)
     | (refine spl_dec (fun hd => ?_) (fun hd => ?_) <;> first | (exfalso; omega) | (conv => whnf))
     | (refine Ar.i64 (by omega) ?_; conv => whnf)
     | (refine IxS.v (i := i) (xs := intO k) rfl rfl h1 (fun ab off' ha => ?_); subst ha; conv => whnf)
     | (refine Ld.r0 ho rfl ?_; conv => whnf)
     | (refine CallK.ret f_z1e.ok (ru_spec (by first | rfl | assumption | omega | decide | (simp; done) | (simp; omega) | (simp at *; omega))) ?_; rintro v G ⟨rfl, rfl⟩; conv => whnf))
    refine ⟨rfl, (i + 1, setC r o (X.u 2147483647).1, (X.u 2147483647).2), ⟨h1, hdi, hX1, hsc.1.trans rk, hsc.2.1.trans rl, hsc.2.2.1.trans rv, hsc.2.2.2.trans rd⟩, fun t v h => h, ?_, by dsimp only; omega⟩
    dsimp only
    rw [recv_set hoi]
    first | exact .refl _ | exact .drop | exact .fin | ((repeat refine .pick ?_); first | exact .refl _ | exact .emp _ | exact .fin)
   ·rw [List.drop_eq_nil_of_le (by omega), decI] at hdi
    rw [← hdi]
    clear hdi hA A
    dsimp only
    repeat' (first
     | (refine spl_dec (fun hd => ?_) (fun hd => ?_) <;> first | (exfalso; omega) | (conv => whnf)))
    obtain ⟨B, hB⟩ : ∃ B, B = decS (sgnO k) r X := ⟨_, rfl⟩
    rw [← hB]
    clear h1 hi
    refine LoopK.at tab_ok (L := f_zb.live) (ι := Nat × RecV × RdX) (fun i => i.1 ≤ (sgnO k).length ∧ decS ((sgnO k).drop i.1) i.2.1 i.2.2 = B ∧ i.2.2.Ok ∧ i.2.1.kind = k ∧ i.2.1.lsn = 0 ∧ i.2.1.lv = (none, 0, 0) ∧ i.2.1.dt = (none, 0, 0)) (fun i => [(68, .int .i64 i.1)])
     (fun i => reado e_r i.2.2 • pts blk (.cells ⟨recv i.2.1⟩ t_z1n)) (fun i => (sgnO k).length - i.1) (0, r, X) ⟨by simp, hB.symm, hX, rk, rl, rv, rd⟩ (fun t v h => h) (Imp.assoc (Imp.pick (Imp.pick (Imp.refl _)))) ?_
    clear hX rk rl rv rd hB
    rintro ⟨i, r, X⟩ ⟨hi, hdi, hX, rk, rl, rv, rd⟩
    dsimp only at hi hdi hX rk rl rv rd ⊢
    simp only [star_assoc]
    conv => whnf
    by_cases h1 : i < (sgnO k).length
    ·obtain ⟨o, ho⟩ : ∃ o, (sgnO k)[i]? = some o := ⟨_, List.getElem?_eq_getElem h1⟩
     have hoi := sgnO_in (List.mem_of_getElem? ho)
     have hol : o < (recv r).length := by show o < 17; omega
     rw [decS_next ho] at hdi
     obtain ⟨hX1, _⟩ := hX.u 18446744073709551615
     have hsc := setC_same (r := r) (z := zag (X.u 18446744073709551615).1) hoi
     repeat' (first
      | (refine St.nth hol rfl rfl ?_; conv => whnf)
      | (refine spl_dec (fun hd => ?_) (fun hd => ?_) <;> first | (exfalso; omega) | (conv => whnf))
      | (refine Ar.i64 (by omega) ?_; conv => whnf)
      | (refine IxS.v (i := i) (xs := sgnO k) rfl rfl h1 (fun ab off' ha => ?_); subst ha; conv => whnf)
      | (refine Ld.r0 ho rfl ?_; conv => whnf)
      | (refine CallK.ret f_z3u.ok (rs_spec (by first | rfl | assumption | omega | decide | (simp; done) | (simp; omega) | (simp at *; omega))) ?_; rintro v G ⟨rfl, rfl⟩; conv => whnf))
     refine ⟨rfl, (i + 1, setC r o (zag (X.u 18446744073709551615).1), (X.u 18446744073709551615).2), ⟨h1, hdi, hX1, hsc.1.trans rk, hsc.2.1.trans rl, hsc.2.2.1.trans rv, hsc.2.2.2.trans rd⟩, fun t v h => h, ?_, by dsimp only; omega⟩
     dsimp only
     rw [recv_set hoi]
     first | exact .refl _ | exact .drop | exact .fin | ((repeat refine .pick ?_); first | exact .refl _ | exact .emp _ | exact .fin)
    ·rw [List.drop_eq_nil_of_le (by omega), decS] at hdi
     rw [← hdi]
     clear hdi B
     dsimp only
     obtain ⟨r0, r1, r2, r3, r4, r5, r6, r7, r8, r9, r10, r11, r12, r13, r14, r15, r16⟩ := r
     dsimp only at rk rl rv rd
     subst rk rl rv rd
     have hXf := hX.fin
     haveI nl : ∀ Q : HProp, RowN W Q none 0 4 livev [] := fun Q => ⟨RowC.nil, rfl⟩
     haveI nd : ∀ Q : HProp, RowN W Q none 0 2 dirtyv [] := fun Q => ⟨RowC.nil, rfl⟩
     unfold recv
     dsimp only
     unfold finF
     by_cases hfe : X.fin.err = 0
     ·rw [if_neg (by simpa using hfe)]
      obtain ⟨C, hC⟩ : ∃ C, C = chkF (withL ⟨0, r1, r2, r3, r4, r5, r6, r7, r8, r9, r10, r11, r12, r13, (none, 0, 0), (none, 0, 0), r16⟩ [] []) [] [] := ⟨_, rfl⟩
      rw [← hC]
      unfold withL at hC
      dsimp only [List.length_nil] at hC
      by_cases hce : C = 0
      ·rw [if_neg (by simpa using hce)]
       repeat' (first
        | (refine spl_dec (fun hd => ?_) (fun hd => ?_) <;> first | (exfalso; omega) | (conv => whnf))
        | (refine spl_ndec (fun hd => ?_) (fun hd => ?_) <;> first | (exfalso; omega) | (conv => whnf))
        | ((first | refine Ld.i ?_ | refine LdN.i ?_); conv => whnf)
        | (refine CallK.ret f_zi.ok (rfault_spec (by first | rfl | assumption | omega | decide | (simp; done) | (simp; omega) | (simp at *; omega))) ?_; rintro v G ⟨rfl, rfl⟩; conv => whnf)
        | (refine CallK.ret f_zs.ok (rend_spec (by first | rfl | assumption | omega | decide | (simp; done) | (simp; omega) | (simp at *; omega))) ?_; rintro v G ⟨rfl, rfl⟩; conv => whnf))
       refine CallK.ret f_z6.ok (check_spec (r := ⟨0, r1, r2, r3, r4, r5, r6, r7, r8, r9, r10, r11, r12, r13, (none, 0, 0), (none, 0, 0), r16⟩) (L := []) (D := []) (rl := ⟨RowC.nil, rfl⟩) (rd := ⟨RowC.nil, rfl⟩)) ?_
       rintro v G ⟨rfl, rfl⟩
       rw [← hC]
       conv => whnf
       repeat' (first
        | (refine spl_ndec (fun hd => ?_) (fun hd => ?_) <;> first | (exfalso; omega) | (conv => whnf))
        | ((first | refine LdN.i ?_ | refine St.i ⟨rfl, rfl⟩ (List.cons_ne_nil _ _) ?_); conv => whnf))
       refine ⟨_, _, rfl, ?_, none, 0, none, 0, rfl, rfl⟩
       refine Imp.vnil (Imp.vnil ?_)
       first | exact .refl _ | exact .drop | exact .fin | ((repeat refine .pick ?_); first | exact .refl _ | exact .emp _ | exact .fin)
      ·rw [if_pos hce]
       repeat' (first
        | (refine spl_dec (fun hd => ?_) (fun hd => ?_) <;> first | (exfalso; omega) | (conv => whnf))
        | (refine spl_ndec (fun hd => ?_) (fun hd => ?_) <;> first | (exfalso; omega) | (conv => whnf))
        | ((first | refine Ld.i ?_ | refine LdN.i ?_); conv => whnf)
        | (refine CallK.ret f_zi.ok (rfault_spec (by first | rfl | assumption | omega | decide | (simp; done) | (simp; omega) | (simp at *; omega))) ?_; rintro v G ⟨rfl, rfl⟩; conv => whnf)
        | (refine CallK.ret f_zs.ok (rend_spec (by first | rfl | assumption | omega | decide | (simp; done) | (simp; omega) | (simp at *; omega))) ?_; rintro v G ⟨rfl, rfl⟩; conv => whnf))
       refine CallK.ret f_z6.ok (check_spec (r := ⟨0, r1, r2, r3, r4, r5, r6, r7, r8, r9, r10, r11, r12, r13, (none, 0, 0), (none, 0, 0), r16⟩) (L := []) (D := []) (rl := ⟨RowC.nil, rfl⟩) (rd := ⟨RowC.nil, rfl⟩)) ?_
       rintro v G ⟨rfl, rfl⟩
       rw [← hC]
       conv => whnf
       repeat' (first
        | (refine spl_ndec (fun hd => ?_) (fun hd => ?_) <;> first | (exfalso; omega) | (conv => whnf))
        | ((first | refine LdN.i ?_ | refine St.i ⟨rfl, rfl⟩ (List.cons_ne_nil _ _) ?_); conv => whnf))
       refine decQ_none ?_; first | exact .refl _ | exact .drop | exact .fin | ((repeat refine .pick ?_); first | exact .refl _ | exact .emp _ | exact .fin)
     ·rw [if_pos hfe]
      repeat' (first
       | (refine spl_dec (fun hd => ?_) (fun hd => ?_) <;> first | (exfalso; omega) | (conv => whnf))
       | (refine spl_ndec (fun hd => ?_) (fun hd => ?_) <;> first | (exfalso; omega) | (conv => whnf))
       | ((first | refine Ld.i ?_ | refine LdN.i ?_ | refine St.i ⟨rfl, rfl⟩ (List.cons_ne_nil _ _) ?_); conv => whnf)
       | (refine CallK.ret f_zi.ok (rfault_spec (by first | rfl | assumption | omega | decide | (simp; done) | (simp; omega) | (simp at *; omega))) ?_; rintro v G ⟨rfl, rfl⟩; conv => whnf)
       | (refine CallK.ret f_zs.ok (rend_spec (by first | rfl | assumption | omega | decide | (simp; done) | (simp; omega) | (simp at *; omega))) ?_; rintro v G ⟨rfl, rfl⟩; conv => whnf))
      refine decQ_none ?_; first | exact .refl _ | exact .drop | exact .fin | ((repeat refine .pick ?_); first | exact .refl _ | exact .emp _ | exact .fin)
 ·rw [if_pos he]
  conv => whnf
  repeat' (first
   | (refine spl_ndec (fun hd => ?_) (fun hd => ?_) <;> first | (exfalso; omega) | (conv => whnf))
   | ((first | refine LdN.i ?_ | refine St.i ⟨rfl, rfl⟩ (List.cons_ne_nil _ _) ?_); conv => whnf)
   | (refine CallK.ret f_zi.ok (rfault_spec (by first | rfl | assumption | omega | decide | (simp; done) | (simp; omega) | (simp at *; omega))) ?_; rintro v G ⟨rfl, rfl⟩; conv => whnf))
  refine decQ_none ?_; first | exact .refl _ | exact .drop | exact .fin | ((repeat refine .pick ?_); first | exact .refl _ | exact .emp _ | exact .fin)
end Go.Proofs.YtgcknlpkhhpkjaaGreatDoor
/- The program's record.Decode, walked: checkpoints; all kinds. Conditions: in each statement. -/
namespace Go.Proofs.YtgcknlpkhhpkjaaGreatDoor
open Go Go.SL Go.SL.Sec Go.SL.Fld Go.SL.Pts Go.SL.Rec
open Go.SL.Und (RecV recv fits)
instance (priority := 110) KeepC.reado {R A : HProp} {r : Nat} {X : RdX} [k : KeepC R A] : KeepC (reado r X • R) A := ⟨Imp.trans Imp.drop k.h⟩
set_option maxHeartbeats 4000000 in
-- @noauto
theorem decode_cp {W : World} {R : HProp} {a : Option Addr} {n c : Nat} {l : List Int} [ro : RowN W R a n 1 bytv l] (hb : Byt l) (hl : l.length ≤ 16777216) (hk8 : ∀ a c, ((⟨a, c, l, 0, 0⟩ : RdX).u 18446744073709551615).2.err = 0 ∧ ((⟨a, c, l, 0, 0⟩ : RdX).u 18446744073709551615).1 = 8) :
  Does prog W f_zb ⟨[.slice a n c]⟩ R (Ret (DecQ (decF l) R)) := by
 refine f_zb.does _ ?_
 conv => whnf
 repeat' (first
  | (intro blk hblk; conv => whnf)
  | (refine CallK.ret f_z3j.ok (newReader_spec (by first | rfl | assumption | omega | decide | (simp; done) | (simp; omega) | (simp at *; omega))) ?_; rintro v G ⟨e_r, e_a, e_c, e_h1, rfl, rfl⟩; conv => whnf))
 have hdec := decX_eq (a := e_a) (c := e_c) (l := l)
 have hX0 : (⟨e_a, e_c, l, 0, 0⟩ : RdX).Ok := ⟨hb, hl, e_h1, Nat.zero_le _⟩
 obtain ⟨hY, hk0, hk1, _⟩ := hX0.u 18446744073709551615
 refine CallK.ret f_z1e.ok (ru_spec hX0) ?_
 rintro v G ⟨rfl, rfl⟩
 have hk8 := hk8 e_a e_c
 unfold decX at hdec
 dsimp only at hdec
 obtain ⟨k, hk⟩ : ∃ k, k = ((⟨e_a, e_c, l, 0, 0⟩ : RdX).u 18446744073709551615).1 := ⟨_, rfl⟩
 obtain ⟨Y, hYe⟩ : ∃ Y, Y = ((⟨e_a, e_c, l, 0, 0⟩ : RdX).u 18446744073709551615).2 := ⟨_, rfl⟩
 rw [← hk] at hk0 hk1 hk8 hdec ⊢
 rw [← hYe] at hY hk8 hdec ⊢
 clear hk hYe hX0
 rw [← hdec]
 clear hdec
 obtain ⟨he, rfl⟩ := hk8
 rw [if_neg (by simpa using he), if_neg (by omega), if_pos rfl]
 unfold decC
 dsimp only
 have hil := intO_len 8
 have hsl : (sgnO 8).length = 0 := rfl
 conv => whnf
 repeat' (first
  | (refine spl_ndec (fun hd => ?_) (fun hd => ?_) <;> first | (exfalso; omega) | (conv => whnf))
  | ((first | refine Ld.i ?_ | refine St.i ⟨rfl, rfl⟩ (List.cons_ne_nil _ _) ?_ | refine Ar.i64 (by omega) ?_ | refine Ar.u64 (by omega) ?_); conv => whnf)
  | (intro blk hblk; conv => whnf)
  | (refine CallK.ret f_zi.ok (rfault_spec (by first | rfl | assumption | omega | decide | (simp; done) | (simp; omega) | (simp at *; omega))) ?_; rintro v G ⟨rfl, rfl⟩; conv => whnf)
  | (refine CallK.ret f_z4.ok (fields_spec (by first | rfl | assumption | omega | decide | (simp; done) | (simp; omega) | (simp at *; omega))) ?_; rintro v G ⟨e_a, e_c, e_b, e_d, rfl, rfl⟩; conv => whnf))
 rw [show (2147483647 : Int) + 1 = 2147483648 from rfl]
 obtain ⟨A, hA⟩ : ∃ A, A = decI 2147483648 (intO 8) (kindR 8) Y := ⟨_, rfl⟩
 rw [← hA]
 refine LoopK.at tab_ok (L := f_zb.live) (ι := Nat × RecV × RdX) (fun i => i.1 ≤ (intO 8).length ∧ decI 2147483648 ((intO 8).drop i.1) i.2.1 i.2.2 = A ∧ i.2.2.Ok ∧ i.2.1.kind = 8 ∧ i.2.1.lsn = 0 ∧ i.2.1.lv = (none, 0, 0) ∧ i.2.1.dt = (none, 0, 0)) (fun i => [(55, .int .i64 i.1)])
  (fun i => reado e_r i.2.2 • pts blk (.cells ⟨recv i.2.1⟩ t_z1n)) (fun i => (intO 8).length - i.1) (0, kindR 8, Y) ⟨by simp, hA.symm, hY, rfl, rfl, rfl, rfl⟩ (fun t v h => h) (by
   dsimp only [recv, kindR, recZ]
   exact Imp.assoc (Imp.pick (Imp.pick (Imp.refl _)))) ?_
 rintro ⟨i, r, X⟩ ⟨hi, hdi, hX, rk, rl, rv, rd⟩
 dsimp only at hi hdi hX rk rl rv rd ⊢
 simp only [star_assoc]
 conv => whnf
 by_cases h1 : i < (intO 8).length
 ·obtain ⟨o, ho⟩ : ∃ o, (intO 8)[i]? = some o := ⟨_, List.getElem?_eq_getElem h1⟩
  have hoi := intO_in (List.mem_of_getElem? ho)
  have hol : o < (recv r).length := by show o < 17; omega
  rw [decI_next ho] at hdi
  obtain ⟨hX1, hz0, _, hz1⟩ := hX.u 2147483648
  have hz1 := hz1 (by decide)
  have hsc := setC_same (r := r) (z := (X.u 2147483648).1) hoi
  repeat' (first
   | (refine St.nth hol rfl rfl ?_; conv => whnf)
   | (refine spl_dec (fun hd => ?_) (fun hd => ?_) <;> first | (exfalso; omega) | (conv => whnf))
   | (refine Ar.i64 (by omega) ?_; conv => whnf)
   | (refine IxS.v (i := i) (xs := intO 8) rfl rfl h1 (fun ab off' ha => ?_); subst ha; conv => whnf)
   | (refine Ld.r0 ho rfl ?_; conv => whnf)
   | (refine CallK.ret f_z1e.ok (ru_spec (by first | rfl | assumption | omega | decide | (simp; done) | (simp; omega) | (simp at *; omega))) ?_; rintro v G ⟨rfl, rfl⟩; conv => whnf))
  refine ⟨rfl, (i + 1, setC r o (X.u 2147483648).1, (X.u 2147483648).2), ⟨h1, hdi, hX1, hsc.1.trans rk, hsc.2.1.trans rl, hsc.2.2.1.trans rv, hsc.2.2.2.trans rd⟩, fun t v h => h, ?_, by dsimp only; omega⟩
  dsimp only
  rw [recv_set hoi]
  first | exact .refl _ | exact .drop | exact .fin | ((repeat refine .pick ?_); first | exact .refl _ | exact .emp _ | exact .fin)
 rw [List.drop_eq_nil_of_le (by omega), decI] at hdi
 rw [← hdi]
 clear hdi hA A
 dsimp only
 obtain ⟨r0, r1, r2, r3, r4, r5, r6, r7, r8, r9, r10, r11, r12, r13, r14, r15, r16⟩ := r
 dsimp only at rk rl rv rd
 subst rk rl rv rd
 unfold recv
 dsimp only
 repeat' (first
  | (refine spl_dec (fun hd => ?_) (fun hd => ?_) <;> first | (exfalso; omega) | (conv => whnf)))
 refine LoopK.keep tab_ok (L := f_zb.live) (ι := Nat) (fun i => i = 0) (fun i => [(68, .int .i64 i)]) (fun i => 0) 0 rfl (fun t v h => h) ?_
 rintro i0 rfl
 obtain ⟨hX1, hn0, _, hn1⟩ := hX.u 32
 have hn1 := hn1 (by decide)
 conv => whnf
 repeat' (first
  | (refine Ld.i ?_; conv => whnf)
  | (refine CallK.ret f_z1e.ok (ru_spec (by first | rfl | assumption | omega | decide | (simp; done) | (simp; omega) | (simp at *; omega))) ?_; rintro v G ⟨rfl, rfl⟩; conv => whnf))
 obtain ⟨n, hn⟩ : ∃ n : Nat, n = (X.u 32).1.toNat := ⟨_, rfl⟩
 have hnn : (X.u 32).1 = (n : Int) := by omega
 obtain ⟨X1, hX1e⟩ : ∃ X1, X1 = (X.u 32).2 := ⟨_, rfl⟩
 obtain ⟨B, hB⟩ : ∃ B, B = decLv n [] X1 := ⟨_, rfl⟩
 rw [← hX1e] at hX1
 rw [← hX1e, ← hn, ← hB, hnn]
 refine LoopK.at tab_ok (L := f_zb.live) (ι := Nat × List LiveV × Option Addr × Nat × RdX) (fun i => i.1 ≤ n ∧ decLv (n - i.1) i.2.1 i.2.2.2.2 = B ∧ i.2.2.2.2.Ok ∧ i.2.1.length = i.1) (fun i => [(82, .int .u64 i.1)])
  (fun i => reado e_r i.2.2.2.2 • pts blk (.cells ⟨[.int .i64 0, .int .i64 8, .int .i64 r2, .int .i64 r3, .int .i64 r4, .int .i64 r5, .int .i64 r6, .int .i64 r7, .int .i64 r8, .int .i64 r9, .int .i64 r10, .int .i64 r11, .int .i64 r12, .int .i64 r13, .slice i.2.2.1 i.2.1.length i.2.2.2.1, .slice none 0 0, .int .i64 r16]⟩ t_z1n) • vec t_api_Live 4 livev i.2.2.1 i.2.2.2.1 i.2.1) (fun i => n - i.1) (0, [], none, 0, X1) ⟨by simp, hB.symm, hX1, rfl⟩ (fun t v h => h) (by
   simp only [star_assoc]
   exact Imp.pick (Imp.pick (Imp.vnil (Imp.refl _)))) ?_
 rintro ⟨i, L, la, lc, Z⟩ ⟨hi2, hdL, hZ, hLl⟩
 dsimp only at hi2 hdL hZ hLl ⊢
 simp only [star_assoc]
 conv => whnf
 by_cases h2 : i < n
 ·rw [decLv_next h2] at hdL
  obtain ⟨hZ1, hz0, _, hz1⟩ := hZ.u 2147483647
  have hz1 := hz1 (by decide)
  obtain ⟨hZ2, hy0, _, hy1⟩ := hZ1.u 2147483647
  have hy1 := hy1 (by decide)
  obtain ⟨hZ3, _⟩ := hZ2.u 2
  repeat' (first
   | (refine spl_dec (fun hd => ?_) (fun hd => ?_) <;> first | (exfalso; omega) | (conv => whnf))
   | ((first | refine Ld.i ?_ | refine LdN.i ?_ | refine St.i ⟨rfl, rfl⟩ (List.cons_ne_nil _ _) ?_ | refine Ar.i64 (by omega) ?_ | refine Ar.u64 (by omega) ?_); conv => whnf)
   | (intro blk hblk; conv => whnf)
   | (refine OpX.app1g (xs := L) tab_ok rfl rfl rfl rfl rfl rfl (by first | rfl | assumption | omega | decide | (simp; done) | (simp; omega) | (simp at *; omega)) (fun a' c' => ?_); conv => whnf)
   | (refine CallK.ret f_z1e.ok (ru_spec (by first | rfl | assumption | omega | decide | (simp; done) | (simp; omega) | (simp at *; omega))) ?_; rintro v G ⟨rfl, rfl⟩; conv => whnf))
  refine ⟨rfl, (i + 1, L ++ [(liveF Z).1], a', c', (liveF Z).2), ⟨h2, hdL, hZ3, by simp [hLl]⟩, fun t v h => h, ?_, by dsimp only; omega⟩
  dsimp only
  unfold liveF
  dsimp only
  first | exact .refl _ | exact .drop | exact .fin | ((repeat refine .pick ?_); first | exact .refl _ | exact .emp _ | exact .fin)
 rw [show n - i = 0 by omega, decLv] at hdL
 rw [← hdL]
 dsimp only
 obtain ⟨hZ1, hm0, _, hm1⟩ := hZ.u 16
 have hm1 := hm1 (by decide)
 repeat' (first
  | (refine spl_dec (fun hd => ?_) (fun hd => ?_) <;> first | (exfalso; omega) | (conv => whnf))
  | (refine CallK.ret f_z1e.ok (ru_spec (by first | rfl | assumption | omega | decide | (simp; done) | (simp; omega) | (simp at *; omega))) ?_; rintro v G ⟨rfl, rfl⟩; conv => whnf))
 obtain ⟨m, hm⟩ : ∃ m : Nat, m = (Z.u 16).1.toNat := ⟨_, rfl⟩
 have hmm : (Z.u 16).1 = (m : Int) := by omega
 obtain ⟨Z1, hZ1e⟩ : ∃ Z1, Z1 = (Z.u 16).2 := ⟨_, rfl⟩
 obtain ⟨C, hC⟩ : ∃ C, C = decDt m [] Z1 := ⟨_, rfl⟩
 rw [← hZ1e] at hZ1
 rw [← hZ1e, ← hm, ← hC, hmm]
 refine LoopK.at tab_ok (L := f_zb.live) (ι := Nat × List DirtyV × Option Addr × Nat × RdX) (fun i => i.1 ≤ m ∧ decDt (m - i.1) i.2.1 i.2.2.2.2 = C ∧ i.2.2.2.2.Ok ∧ i.2.1.length = i.1) (fun i => [(110, .int .u64 i.1)])
  (fun i => reado e_r i.2.2.2.2 • pts blk (.cells ⟨[.int .i64 0, .int .i64 8, .int .i64 r2, .int .i64 r3, .int .i64 r4, .int .i64 r5, .int .i64 r6, .int .i64 r7, .int .i64 r8, .int .i64 r9, .int .i64 r10, .int .i64 r11, .int .i64 r12, .int .i64 r13, .slice la L.length lc, .slice i.2.2.1 i.2.1.length i.2.2.2.1, .int .i64 r16]⟩ t_z1n) • vec t_api_Dirty 2 dirtyv i.2.2.1 i.2.2.2.1 i.2.1) (fun i => m - i.1) (0, [], none, 0, Z1) ⟨by simp, hC.symm, hZ1, rfl⟩ (fun t v h => h) (by
   simp only [star_assoc]
   exact Imp.pick (Imp.pick (Imp.vnil (Imp.refl _)))) ?_
 rintro ⟨j, D, da, dc, U⟩ ⟨hj2, hdD, hU, hDl⟩
 dsimp only at hj2 hdD hU hDl ⊢
 simp only [star_assoc]
 conv => whnf
 by_cases h3 : j < m
 ·rw [decDt_next h3] at hdD
  obtain ⟨hU1, hz0, _, hz1⟩ := hU.u 2147483647
  have hz1 := hz1 (by decide)
  obtain ⟨hU2, hy0, _, hy1⟩ := hU1.u 2147483647
  have hy1 := hy1 (by decide)
  repeat' (first
   | (refine DrawK.introK tab_ok mixed 112 f_zb.last33 f_zb.plan33 rfl (by kernel_rfl) ?_; conv => whnf)
   | (refine spl_dec (fun hd => ?_) (fun hd => ?_) <;> first | (exfalso; omega) | (conv => whnf))
   | ((first | refine Ld.i ?_ | refine St.i ⟨rfl, rfl⟩ (List.cons_ne_nil _ _) ?_ | refine Ar.i64 (by omega) ?_ | refine Ar.u64 (by omega) ?_); conv => whnf)
   | (intro blk hblk; conv => whnf)
   | (refine OpX.app1g (xs := D) tab_ok rfl rfl rfl rfl rfl rfl (by first | rfl | assumption | omega | decide | (simp; done) | (simp; omega) | (simp at *; omega)) (fun a' c' => ?_); conv => whnf)
   | (refine Sub.on (by first | exact .refl _ | exact .drop | exact .fin | ((repeat refine .pick ?_); first | exact .refl _ | exact .emp _ | exact .fin)) ?_; conv => whnf)
   | (refine CallK.ret f_z1e.ok (ru_spec (by first | rfl | assumption | omega | decide | (simp; done) | (simp; omega) | (simp at *; omega))) ?_; rintro v G ⟨rfl, rfl⟩; conv => whnf))
  refine ⟨rfl, (j + 1, D ++ [(dirtyF U).1], a', c', (dirtyF U).2), ⟨h3, hdD, hU2, by simp [hDl]⟩, fun t v h => h, ?_, by dsimp only; omega⟩
  dsimp only
  unfold dirtyF
  dsimp only
  first | exact .refl _ | exact .drop | exact .fin | ((repeat refine .pick ?_); first | exact .refl _ | exact .emp _ | exact .fin)
 rw [show m - j = 0 by omega, decDt] at hdD
 rw [← hdD]
 dsimp only
 have hUf := hU.fin
 unfold finF
 by_cases hfe : U.fin.err = 0
 ·rw [if_neg (by simpa using hfe)]
  have hca := chkF_addr (r := ⟨0, 8, r2, r3, r4, r5, r6, r7, r8, r9, r10, r11, r12, r13, (none, 0, 0), (none, 0, 0), r16⟩) (L := L) (D := D) (a := la) (b := da) (c := lc) (d := dc)
  obtain ⟨E, hE⟩ : ∃ E, E = chkF (withL ⟨0, 8, r2, r3, r4, r5, r6, r7, r8, r9, r10, r11, r12, r13, (none, 0, 0), (none, 0, 0), r16⟩ L D) L D := ⟨_, rfl⟩
  rw [← hE] at hca ⊢
  dsimp only at hca
  repeat' (first
   | (refine spl_dec (fun hd => ?_) (fun hd => ?_) <;> first | (exfalso; omega) | (conv => whnf))
   | (refine spl_ndec (fun hd => ?_) (fun hd => ?_) <;> first | (exfalso; omega) | (conv => whnf))
   | (refine LdN.i ?_; conv => whnf)
   | (refine CallK.ret f_zi.ok (rfault_spec (by first | rfl | assumption | omega | decide | (simp; done) | (simp; omega) | (simp at *; omega))) ?_; rintro v G ⟨rfl, rfl⟩; conv => whnf)
   | (refine CallK.ret f_zs.ok (rend_spec (by first | rfl | assumption | omega | decide | (simp; done) | (simp; omega) | (simp at *; omega))) ?_; rintro v G ⟨rfl, rfl⟩; conv => whnf))
  refine CallK.ret f_z6.ok (check_spec (r := ⟨0, 8, r2, r3, r4, r5, r6, r7, r8, r9, r10, r11, r12, r13, (la, L.length, lc), (da, D.length, dc), r16⟩) (L := L) (D := D) (rl := inferInstance) (rd := inferInstance)) ?_
  rintro v G ⟨rfl, rfl⟩
  rw [hca]
  by_cases hce : E = 0
  ·rw [if_neg (by simpa using hce)]
   conv => whnf
   repeat' (first
    | (refine spl_ndec (fun hd => ?_) (fun hd => ?_) <;> first | (exfalso; omega) | (conv => whnf))
    | ((first | refine LdN.i ?_ | refine St.i ⟨rfl, rfl⟩ (List.cons_ne_nil _ _) ?_); conv => whnf))
   refine ⟨_, _, rfl, ?_, la, lc, da, dc, rfl, rfl⟩
   first | exact .refl _ | exact .drop | exact .fin | ((repeat refine .pick ?_); first | exact .refl _ | exact .emp _ | exact .fin)
  ·rw [if_pos hce]
   conv => whnf
   repeat' (first
    | (refine spl_ndec (fun hd => ?_) (fun hd => ?_) <;> first | (exfalso; omega) | (conv => whnf))
    | ((first | refine LdN.i ?_ | refine St.i ⟨rfl, rfl⟩ (List.cons_ne_nil _ _) ?_); conv => whnf))
   refine decQ_none ?_
   first | exact .refl _ | exact .drop | exact .fin | ((repeat refine .pick ?_); first | exact .refl _ | exact .emp _ | exact .fin)
 ·rw [if_pos hfe]
  repeat' (first
   | (refine spl_dec (fun hd => ?_) (fun hd => ?_) <;> first | (exfalso; omega) | (conv => whnf))
   | (refine spl_ndec (fun hd => ?_) (fun hd => ?_) <;> first | (exfalso; omega) | (conv => whnf))
   | ((first | refine LdN.i ?_ | refine St.i ⟨rfl, rfl⟩ (List.cons_ne_nil _ _) ?_); conv => whnf)
   | (refine CallK.ret f_zi.ok (rfault_spec (by first | rfl | assumption | omega | decide | (simp; done) | (simp; omega) | (simp at *; omega))) ?_; rintro v G ⟨rfl, rfl⟩; conv => whnf)
   | (refine CallK.ret f_zs.ok (rend_spec (by first | rfl | assumption | omega | decide | (simp; done) | (simp; omega) | (simp at *; omega))) ?_; rintro v G ⟨rfl, rfl⟩; conv => whnf))
  refine decQ_none ?_
  first | exact .refl _ | exact .drop | exact .fin | ((repeat refine .pick ?_); first | exact .refl _ | exact .emp _ | exact .fin)
theorem decode_spec {W : World} {R : HProp} {a : Option Addr} {n c : Nat} {l : List Int} [ro : RowN W R a n 1 bytv l] (hb : Byt l) (hl : l.length ≤ 16777216) :
  Does prog W f_zb ⟨[.slice a n c]⟩ R (Ret (DecQ (decF l) R)) := by
 have hm : ∀ a c, ((⟨a, c, l, 0, 0⟩ : RdX).u 18446744073709551615).1 = ((⟨none, 0, l, 0, 0⟩ : RdX).u 18446744073709551615).1 ∧ ((⟨a, c, l, 0, 0⟩ : RdX).u 18446744073709551615).2.err = ((⟨none, 0, l, 0, 0⟩ : RdX).u 18446744073709551615).2.err := fun a c => by
  have := mv_u ⟨none, 0, l, 0, 0⟩ a c 18446744073709551615
  exact ⟨this.1, by rw [show (⟨a, c, l, 0, 0⟩ : RdX) = RdX.mv ⟨none, 0, l, 0, 0⟩ a c from rfl, this.2]; rfl⟩
 by_cases h : ((⟨none, 0, l, 0, 0⟩ : RdX).u 18446744073709551615).2.err = 0 ∧ ((⟨none, 0, l, 0, 0⟩ : RdX).u 18446744073709551615).1 = 8
 ·exact decode_cp hb hl fun a c => ⟨(hm a c).2.trans h.1, (hm a c).1.trans h.2⟩
 ·exact decode_nc hb hl fun a c k => h ⟨(hm a c).2.symm.trans k.1, (hm a c).1.symm.trans k.2⟩
end Go.Proofs.YtgcknlpkhhpkjaaGreatDoor
/- The program's disk: writes, syncs. Conditions: in each statement. -/
namespace Go.Proofs.YtgcknlpkhhpkjaaGreatDoor
open Go Go.SL Go.SL.Sec
section
variable {W : World} {R : HProp} {d : Nat} {X : DevX}
instance (priority := 100) RdC.devo {off : Nat} {v : Value} [i : LAt [.slice X.ia X.img.length X.ic, .slice X.qa X.ps.length X.qc, .int .i64 X.step, .slice X.ka X.keep.length X.kc, .int .i64 X.torn, .int .i64 X.off, .bool X.down, .int .i64 X.calls] off v] : RdC W (devo d X • R) ⟨d, off, none⟩ v := by
 rw [devo_eq]; exact RdC.here
instance (priority := 100) RdLC.devo {off n : Nat} {vs : List Value} [i : LSub [.slice X.ia X.img.length X.ic, .slice X.qa X.ps.length X.qc, .int .i64 X.step, .slice X.ka X.keep.length X.kc, .int .i64 X.torn, .int .i64 X.off, .bool X.down, .int .i64 X.calls] off n vs] : RdLC W (devo d X • R) d off n vs := by
 rw [devo_eq]; exact RdLC.here
instance (priority := 100) PtsC.devo : PtsC (devo d X • R) d (.cells ⟨[.slice X.ia X.img.length X.ic, .slice X.qa X.ps.length X.qc, .int .i64 X.step, .slice X.ka X.keep.length X.kc, .int .i64 X.torn, .int .i64 X.off, .bool X.down, .int .i64 X.calls]⟩ t_z41)
  (vec t_uint8 1 bytv X.ia X.ic X.img • vec t_z40 2 pendv X.qa X.qc X.ps • bigL pendc X.ps • vec t_uint64 1 u64s X.ka X.kc X.keep • R) := ⟨⟨by rw [devo_eq]⟩⟩
instance (priority := 100) VecC.devq : VecC (devo d X • R) X.qa t_z40 2 pendv X.qc X.ps
  (pts d (.cells ⟨[.slice X.ia X.img.length X.ic, .slice X.qa X.ps.length X.qc, .int .i64 X.step, .slice X.ka X.keep.length X.kc, .int .i64 X.torn, .int .i64 X.off, .bool X.down, .int .i64 X.calls]⟩ t_z41) • vec t_uint8 1 bytv X.ia X.ic X.img • bigL pendc X.ps • vec t_uint64 1 u64s X.ka X.kc X.keep • R) :=
 ⟨⟨by rw [devo_eq, star_left_comm (vec t_uint8 1 bytv X.ia X.ic X.img), star_left_comm (pts d _)]⟩⟩
instance (priority := 100) RowC.devq : RowC W (devo d X • R) X.qa 2 pendv X.ps := by rw [devo_eq]; infer_instance
instance (priority := 100) RowC.devi : RowC W (devo d X • R) X.ia 1 bytv X.img := by rw [devo_eq]; infer_instance
instance (priority := 100) RowC.devk : RowC W (devo d X • R) X.ka 1 u64s X.keep := by rw [devo_eq]; infer_instance
instance (priority := 95) RowC.devp {p : PendX} [m : MemC X.ps p] : RowC W (devo d X • R) p.a 1 bytv p.b := by rw [devo_eq]; infer_instance
instance (priority := 100) KeepC.devo {A : HProp} [k : KeepC R A] : KeepC (devo d X • R) (pts d (.cells ⟨[.slice X.ia X.img.length X.ic, .slice X.qa X.ps.length X.qc, .int .i64 X.step, .slice X.ka X.keep.length X.kc, .int .i64 X.torn, .int .i64 X.off, .bool X.down, .int .i64 X.calls]⟩ t_z41) • A) :=
 ⟨by rw [devo_eq]; exact Imp.right (Imp.trans Imp.drop (Imp.trans Imp.drop (Imp.trans Imp.drop (Imp.trans Imp.drop k.h))))⟩
end
instance {s : Int} {a : Option Addr} {l : List Int} {c : Nat} : DecOf pendv [.int .i64 s, .slice a l.length c] ⟨s, a, c, l⟩ := ⟨rfl⟩
instance : OneC pendv := ⟨pend_one⟩
def DevX.push (X : DevX) (qa : Option Addr) (qc : Nat) (p : PendX) : DevX := { X with calls := wr (X.calls + 1), step := if X.step = 0 then 0 else X.step - 1, qa := qa, qc := qc, ps := X.ps ++ [p] }
theorem devo_push {d : Nat} {X : DevX} {qa : Option Addr} {qc : Nat} {p : PendX} {R : HProp} :
  (devo d (X.push qa qc p) • R) = (pts d (.cells ⟨[.slice X.ia X.img.length X.ic, .slice qa (X.ps ++ [p]).length qc, .int .i64 (if X.step = 0 then 0 else X.step - 1), .slice X.ka X.keep.length X.kc, .int .i64 X.torn, .int .i64 X.off, .bool X.down, .int .i64 (wr (X.calls + 1))]⟩ t_z41) •
   vec t_uint8 1 bytv X.ia X.ic X.img • vec t_z40 2 pendv qa qc (X.ps ++ [p]) • vec t_uint8 1 bytv p.a p.cap p.b • bigL pendc X.ps • vec t_uint64 1 u64s X.ka X.kc X.keep • R) := by
 rw [devo_eq, DevX.push, bigL_snoc]
 simp only [star_assoc]
 rfl
theorem devo_dev0 (d : Nat) (X : DevX) (R : HProp) : (devo d X • R) = (dev0 d X • vec t_uint64 1 u64s X.ka X.kc X.keep • R) := star_assoc _ _ _
theorem fallx_spec {W : World} {H R : HProp} {d : Nat} {X : DevX} {a : Option Addr} {n c : Nat} {keep : List Int} {torn off : Int} [t : DevC H d X R] [ro : RowN W R a n 1 u64s keep] (hX : X.Ok) (hq : X.ps.length ≤ 1000000) :
  Does prog W f_zh ⟨[ptr d, .agg ⟨[.slice a n c, .int .i64 torn, .int .i64 off]⟩]⟩ H (Ret fun v G => v = .int .i64 40 ∧ G = (devo d (X.fell keep torn off) • R)) := by
 rw [t.h.eq, devo_dev0]
 exact Does.imp (Imp.right Imp.drop) (fall_spec hX hq ro)
-- @noauto
theorem fallo_spec {W : World} {H R : HProp} {d : Nat} {X : DevX} {c : Nat} {torn off : Int} [t : DevC H d X R] (hX : X.Ok) (hq : X.ps.length ≤ 1000000) :
  Does prog W f_zh ⟨[ptr d, .agg ⟨[.slice X.ka X.keep.length c, .int .i64 torn, .int .i64 off]⟩]⟩ H (Ret fun v G => v = .int .i64 40 ∧ G = (devo d (X.fell X.keep torn off) • R)) := by
 rw [t.h.eq, devo_dev0]
 have := fall_spec (W := W) (R := vec t_uint64 1 u64s X.ka X.kc X.keep • R) (d := d) (a := X.ka) (n := X.keep.length) (c := c) (keep := X.keep) (torn := torn) (off := off) hX hq ⟨RowC.here, rfl⟩
 refine this.post fun e w H' hs hq => ?_
 obtain ⟨v, G, h1, h2, h3, rfl⟩ := hq
 exact ⟨H', hs, v, _, h1, Imp.trans h2 (Imp.right Imp.drop), h3, rfl⟩
theorem push_val (X : DevX) (qa : Option Addr) (qc : Nat) (p : PendX) : (X.push qa qc p).val = { X.val.counted with q := X.val.q ++ [(p.sec, p.b)] } := by
 simp [DevX.push, DevX.val, Dev.counted]
 rfl
theorem fell_ok {X : DevX} (h : X.Ok) (keep : List Int) (torn off : Int) : (X.fell keep torn off).Ok :=
 ⟨h.val.fallen keep torn off, by
  show (fallG keep torn off 0 X.val.q X.img).length ≤ X.ic
  rw [(fallG_ok (keep := keep) (torn := torn) (off := off) X.val.q 0 X.img h.val.q h.val.byt).1]
  exact h.ic, fun p hp => (by cases hp)⟩
theorem write_spec {W : World} {H R : HProp} {d : Nat} {X : DevX} {i : Int} {ba : Option Addr} {bn bc : Nat} {b : List Int} [t : DevC H d X R] [ro : RowN W R ba bn 1 bytv b] (hX : X.Ok) (hq : X.ps.length + 1 ≤ 1000000) (hb : Byt b) (hbl : b.length ≤ 16777216) :
  Does prog W f_z16 ⟨[ptr d, .int .i64 i, .slice ba bn bc]⟩ H (Ret fun v G => ∃ X', X'.Ok ∧ X'.val = (X.val.write i b).2 ∧ X'.ps.length ≤ X.ps.length + 1 ∧ v = .int .i64 (X.val.write i b).1 ∧ G = (devo d X' • R)) := by
 rw [t.h.eq]
 have hn := ro.len
 subst hn
 haveI r' := ro.row
 have hw := hX.val.write (i := i) hb
 unfold Dev.write at hw ⊢
 refine f_z16.does _ _ _ ?_
 conv => whnf
 by_cases h1 : X.down = true
 ·have h1' : X.val.down = true := h1
  rw [if_pos h1'] at hw ⊢
  repeat' (first
   | ((first | refine spl_t h1 ?_ | refine Ld.i ?_); conv => whnf))
  exact ⟨_, _, rfl, Imp.refl _, X, hX, rfl, by omega, rfl, rfl⟩
 have h1' : ¬ X.val.down = true := h1
 have h1f : X.down = false := by simpa using h1
 rw [if_neg h1'] at hw ⊢
 by_cases h2 : i < 0 ∨ i ≥ X.val.secs
 ·rw [if_pos h2] at hw ⊢
  repeat' (first
   | (refine spl_f h1f ?_; conv => whnf)
   | (refine spl_dec (fun hd => ?_) (fun hd => ?_) <;> first | (exfalso; omega) | (conv => whnf))
   | (refine Ld.i ?_; conv => whnf)
   | (refine CallK.ret f_z1i.ok (sectors_spec (by first | rfl | assumption | omega | decide | (simp; done) | (simp; omega) | (simp at *; omega))) ?_; rintro v G ⟨rfl, rfl⟩; conv => whnf))
  all_goals exact ⟨_, _, rfl, Imp.refl _, X, hX, rfl, by omega, rfl, rfl⟩
 rw [if_neg h2] at hw ⊢
 by_cases h3 : b.length ≠ 512
 ·rw [if_pos h3] at hw ⊢
  repeat' (first
   | (refine spl_f h1f ?_; conv => whnf)
   | (refine spl_dec (fun hd => ?_) (fun hd => ?_) <;> first | (exfalso; omega) | (conv => whnf))
   | (refine spl_ndec (fun hd => ?_) (fun hd => ?_) <;> first | (exfalso; omega) | (conv => whnf))
   | (refine Ld.i ?_; conv => whnf)
   | (refine CallK.ret f_z1i.ok (sectors_spec (by first | rfl | assumption | omega | decide | (simp; done) | (simp; omega) | (simp at *; omega))) ?_; rintro v G ⟨rfl, rfl⟩; conv => whnf))
  all_goals exact ⟨_, _, rfl, Imp.refl _, X, hX, rfl, by omega, rfl, rfl⟩
 rw [if_neg h3] at hw ⊢
 repeat' (first
  | (refine spl_f h1f ?_; conv => whnf)
  | (refine spl_dec (fun hd => ?_) (fun hd => ?_) <;> first | (exfalso; omega) | (conv => whnf))
  | (refine spl_ndec (fun hd => ?_) (fun hd => ?_) <;> first | (exfalso; omega) | (conv => whnf))
  | ((first | refine Ld.i ?_ | refine LdN.i ?_ | refine St.i ⟨rfl, rfl⟩ (List.cons_ne_nil _ _) ?_); conv => whnf)
  | (intro blk hblk; conv => whnf)
  | (refine OpX.app1g tab_ok rfl rfl rfl rfl rfl rfl (by dsimp only; omega) (fun a' c' => ?_); conv => whnf)
  | (refine Sub.on (by first | exact .refl _ | exact .drop | exact .fin | ((repeat refine .pick ?_); first | exact .refl _ | exact .emp _ | exact .fin)) ?_; conv => whnf)
  | (refine Sub.on (Imp.trans KeepC.h (by first | exact .refl _ | exact .drop | exact .fin | ((repeat refine .pick ?_); first | exact .refl _ | exact .emp _ | exact .fin))) ?_; conv => whnf)
  | (refine CallK.ret f_z1i.ok (sectors_spec (by first | rfl | assumption | omega | decide | (simp; done) | (simp; omega) | (simp at *; omega))) ?_; rintro v G ⟨rfl, rfl⟩; conv => whnf)
  | (refine CallK.ret f_z3f.ok (crashes_spec (by first | rfl | assumption | omega | decide | (simp; done) | (simp; omega) | (simp at *; omega))) ?_; rintro v G ⟨rfl, rfl⟩; conv => whnf)
  | (refine DrawK.introK tab_ok mixed 28 f_z16.last8 f_z16.plan8 rfl (by kernel_rfl) ?_; conv => whnf)
  | (refine CallK.ret f_z1x.ok (clone_spec (by first | rfl | assumption | omega | decide | (simp; done) | (simp; omega) | (simp at *; omega))) ?_; rintro v G ⟨e_a', e_cap', e_h1, rfl, rfl⟩; conv => whnf))
 all_goals
  have hcr : X.val.crashes = decide (X.step = 1) := rfl
  have hpo : ({ X.val.counted with q := X.val.q ++ [(i, b)] } : Dev).Ok := Dev.Ok.pushed (D := X.val.counted) hX.val.counted h2 (by omega) hb
  have hcap : ∀ (a' : Option Addr) (c' : Nat) (e_a' : Option Addr) (e_cap' : Nat), b.length ≤ e_cap' → (X.push a' c' ⟨i, e_a', e_cap', b⟩).Ok := fun a' c' e_a' e_cap' hc => ⟨by rw [push_val]; exact hpo, hX.ic, fun p hp => by
   rcases List.mem_append.1 hp with hp | hp
   ·exact hX.caps p hp
   ·obtain rfl := List.mem_singleton.1 hp; exact hc⟩
 ·have hY := hcap a' c' e_a' e_cap' e_h1
  refine CallK.ret f_zh.ok (Does.imp (H' := dev0 d (X.push a' c' ⟨i, e_a', e_cap', b⟩) • vec t_uint64 1 u64s X.ka X.kc X.keep • R) ?_ (fall_spec (a := X.ka) (keep := X.keep) hY (by simp [DevX.push]; omega) ⟨RowC.here, rfl⟩)) ?_
  ·rw [show (dev0 d (X.push a' c' ⟨i, e_a', e_cap', b⟩) • vec t_uint64 1 u64s X.ka X.kc X.keep • R) = (devo d (X.push a' c' ⟨i, e_a', e_cap', b⟩) • R) from (star_assoc _ _ _).symm, devo_push]
   dsimp only
   first | exact .refl _ | exact .drop | exact .fin | ((repeat refine .pick ?_); first | exact .refl _ | exact .emp _ | exact .fin)
  ·rintro v G ⟨rfl, rfl⟩
   conv => whnf
   skip
   have hc2 : X.val.crashes = true := by rw [hcr]; exact decide_eq_true hd
   rw [if_pos hc2]
   refine ⟨_, _, rfl, Imp.right Imp.drop, _, fell_ok hY _ _ _, ?_, ?_, rfl, rfl⟩
   ·show Dev.fallen _ _ _ _ = _
    rw [push_val]
    rfl
   ·simp [DevX.fell]
 ·have hY := hcap a' c' e_a' e_cap' e_h1
  have hc2 : ¬ X.val.crashes = true := by rw [hcr]; simpa using hd
  rw [if_neg hc2]
  refine ⟨_, _, rfl, ?_, X.push a' c' ⟨i, e_a', e_cap', b⟩, hY, push_val _ _ _ _, by simp [DevX.push], rfl, rfl⟩
  rw [devo_push]
  dsimp only
  first | exact .refl _ | exact .drop | exact .fin | ((repeat refine .pick ?_); first | exact .refl _ | exact .emp _ | exact .fin)
-- @pat write_spec ⟨X', hX', hv', hl', rfl, rfl⟩
end Go.Proofs.YtgcknlpkhhpkjaaGreatDoor
