/- The program's record.Decode, walked. Conditions: in each statement. -/
import Derived.Test.YtgcknlpkhhpkjaaGreatDoorPart15
namespace Go.Proofs.YtgcknlpkhhpkjaaGreatDoor
open Go Go.SL Go.SL.Sec Go.SL.Fld Go.SL.Pts Go.SL.Rec
open Go.SL.Und (RecV recv fits)
/-- A record with its lists, as a value. -/
def recLA (r : RecV) (la : Option Addr) (ln lc : Nat) (da : Option Addr) (dn dc : Nat) : Value := recA { r with lv := (la, ln, lc), dt := (da, dn, dc) }
/-- What Decode answers. -/
def DecQ (T : DecT) (R : HProp) (v : Value) (G : HProp) : Prop :=
  ∃ la lc da dc, v = .tuple ⟨[recLA T.2.1 la T.2.2.1.length lc da T.2.2.2.length dc, .int .i64 T.1]⟩ ∧ G = (vec t_api_Live 4 livev la lc T.2.2.1 • vec t_api_Dirty 2 dirtyv da dc T.2.2.2 • R)
theorem decQ_none {e : Int} {R H : HProp} (h : Imp H R) : Ret (DecQ (noneT e) R) (.returned (.tuple ⟨[.agg ⟨[.int .i64 0, .int .i64 0, .int .i64 0, .int .i64 0, .int .i64 0, .int .i64 0, .int .i64 0, .int .i64 0, .int .i64 0, .int .i64 0, .int .i64 0, .int .i64 0, .int .i64 0, .int .i64 0, .slice none 0 0, .slice none 0 0, .int .i64 0]⟩, .int .i64 e]⟩)) H := by
  refine ⟨_, _, rfl, Imp.trans h ?_, none, 0, none, 0, rfl, rfl⟩
  exact Imp.vnil (Imp.vnil (Imp.refl _))
set_option maxHeartbeats 4000000 in
-- @noauto
theorem decode_nc {W : World} {R : HProp} {a : Option Addr} {n c : Nat} {l : List Int} [ro : RowN W R a n 1 bytv l] (hb : Byt l) (hl : l.length ≤ 16777216) (hk8 : ∀ a c, ¬ (((⟨a, c, l, 0, 0⟩ : RdX).u 18446744073709551615).2.err = 0 ∧ ((⟨a, c, l, 0, 0⟩ : RdX).u 18446744073709551615).1 = 8)) :
    Does prog W f_record_Decode ⟨[.slice a n c]⟩ R (Ret (DecQ (decF l) R)) := by
  refine f_record_Decode.does _ ?_
  conv => whnf
  repeat' (first
    | (intro blk hblk; conv => whnf)
    | (refine CallK.ret f_field_NewReader.ok (newReader_spec (by first | rfl | assumption | omega | decide | (simp; done) | (simp; omega) | (simp at *; omega))) ?_; rintro v G ⟨e_r, e_a, e_c, e_h1, rfl, rfl⟩; conv => whnf)
    | fail)
  have hdec := decX_eq (a := e_a) (c := e_c) (l := l)
  have hX0 : (⟨e_a, e_c, l, 0, 0⟩ : RdX).Ok := ⟨hb, hl, e_h1, Nat.zero_le _⟩
  obtain ⟨hY, hk0, hk1, _⟩ := hX0.u 18446744073709551615
  refine CallK.ret f_field_Reader_U.ok (ru_spec hX0) ?_
  rintro v G ⟨rfl, rfl⟩
  have hk8 := hk8 e_a e_c
  unfold decX at hdec
  dsimp only at hdec
  obtain ⟨k, hk⟩ : ∃ k, k = ((⟨e_a, e_c, l, 0, 0⟩ : RdX).u 18446744073709551615).1 := ⟨_, rfl⟩
  obtain ⟨Y, hYe⟩ : ∃ Y, Y = ((⟨e_a, e_c, l, 0, 0⟩ : RdX).u 18446744073709551615).2 := ⟨_, rfl⟩
  rw [← hk] at hk0 hk1 hk8 hdec ⊢
  rw [← hYe] at hY hk8 hdec ⊢
  clear hk hYe hX0
  rw [← hdec]
  clear hdec
  by_cases he : Y.err = 0
  · rw [if_neg (by simpa using he)]
    by_cases hbad : k < 1 ∨ k > 8
    · rw [if_pos hbad]
      have hbad2 : ¬ (1 ≤ k ∧ k ≤ 8) := by omega
      conv => whnf
      repeat' (first
        | (refine spl_dec (fun hd => ?_) (fun hd => ?_) <;> first | (exfalso; omega) | (conv => whnf))
        | (refine spl_ndec (fun hd => ?_) (fun hd => ?_) <;> first | (exfalso; omega) | (conv => whnf))
        | (refine LdN.i ?_; conv => whnf)
        | (refine St.i ⟨rfl, rfl⟩ (List.cons_ne_nil _ _) ?_; conv => whnf)
        | (refine CallK.ret f_field_Reader_Fault.ok (rfault_spec (by first | rfl | assumption | omega | decide | (simp; done) | (simp; omega) | (simp at *; omega))) ?_; rintro v G ⟨rfl, rfl⟩; conv => whnf)
        | fail)
      all_goals refine decQ_none ?_; first | exact Imp.refl _ | exact Imp.drop | exact Imp.fin | ((repeat (refine Imp.pick ?_)); first | exact Imp.refl _ | exact Imp.emp _ | exact Imp.fin)
    rw [if_neg hbad]
    by_cases h8 : k = 8
    · exact absurd ⟨he, h8⟩ hk8
    · rw [if_neg h8]
      unfold decN
      dsimp only
      have hil := intO_len k
      have hsl := sgnO_len k
      conv => whnf
      repeat' (first
        | (refine spl_dec (fun hd => ?_) (fun hd => ?_) <;> first | (exfalso; omega) | (conv => whnf))
        | (refine spl_ndec (fun hd => ?_) (fun hd => ?_) <;> first | (exfalso; omega) | (conv => whnf))
        | (refine Ld.i ?_; conv => whnf)
        | (refine St.i ⟨rfl, rfl⟩ (List.cons_ne_nil _ _) ?_; conv => whnf)
        | (refine Ar.i64 (by omega) ?_; conv => whnf)
        | (intro blk hblk; conv => whnf)
        | (refine CallK.ret f_field_Reader_Fault.ok (rfault_spec (by first | rfl | assumption | omega | decide | (simp; done) | (simp; omega) | (simp at *; omega))) ?_; rintro v G ⟨rfl, rfl⟩; conv => whnf)
        | (refine CallK.ret f_record_fields.ok (fields_spec (by first | rfl | assumption | omega | decide | (simp; done) | (simp; omega) | (simp at *; omega))) ?_; rintro v G ⟨e_a, e_c, e_b, e_d, rfl, rfl⟩; conv => whnf)
        | fail)
      obtain ⟨A, hA⟩ : ∃ A, A = decI 2147483647 (intO k) (kindR k) Y := ⟨_, rfl⟩
      rw [← hA]
      refine LoopK.at tab_ok (L := f_record_Decode.live) (ι := Nat × RecV × RdX) (fun i => i.1 ≤ (intO k).length ∧ decI 2147483647 ((intO k).drop i.1) i.2.1 i.2.2 = A ∧ i.2.2.Ok ∧ i.2.1.kind = k ∧ i.2.1.lsn = 0 ∧ i.2.1.lv = (none, 0, 0) ∧ i.2.1.dt = (none, 0, 0)) (fun i => [(55, .int .i64 i.1)])
        (fun i => reado e_r i.2.2 • pts blk (.cells ⟨recv i.2.1⟩ t_api_Record)) (fun i => (intO k).length - i.1) (0, kindR k, Y) ⟨by simp, hA.symm, hY, rfl, rfl, rfl, rfl⟩ (fun t v h => h) (by
          dsimp only [recv, kindR, recZ]
          exact Imp.assoc (Imp.pick (Imp.pick (Imp.refl _)))) ?_
      rintro ⟨i, r, X⟩ ⟨hi, hdi, hX, rk, rl, rv, rd⟩
      dsimp only at hi hdi hX rk rl rv rd ⊢
      simp only [star_assoc]
      conv => whnf
      by_cases h1 : i < (intO k).length
      · obtain ⟨o, ho⟩ : ∃ o, (intO k)[i]? = some o := ⟨_, List.getElem?_eq_getElem h1⟩
        have hoi := intO_in (List.mem_of_getElem? ho)
        have hol : o < (recv r).length := by show o < 17; omega
        rw [decI_next ho] at hdi
        obtain ⟨hX1, hz0, _, hz1⟩ := hX.u 2147483647
        have hz1 := hz1 (by decide)
        have hsc := setC_same (r := r) (z := (X.u 2147483647).1) hoi
        repeat' (first
          | (refine St.nth hol rfl rfl ?_; conv => whnf)
          | (refine spl_dec (fun hd => ?_) (fun hd => ?_) <;> first | (exfalso; omega) | (conv => whnf))
          | (refine Ar.i64 (by omega) ?_; conv => whnf)
          | (refine IxS.v (i := i) (xs := intO k) rfl rfl h1 (fun ab off' ha => ?_); subst ha; conv => whnf)
          | (refine Ld.r0 ho rfl ?_; conv => whnf)
          | (refine CallK.ret f_field_Reader_U.ok (ru_spec (by first | rfl | assumption | omega | decide | (simp; done) | (simp; omega) | (simp at *; omega))) ?_; rintro v G ⟨rfl, rfl⟩; conv => whnf)
          | fail)
        refine ⟨rfl, (i + 1, setC r o (X.u 2147483647).1, (X.u 2147483647).2), ⟨h1, hdi, hX1, hsc.1.trans rk, hsc.2.1.trans rl, hsc.2.2.1.trans rv, hsc.2.2.2.trans rd⟩, fun t v h => h, ?_, by dsimp only; omega⟩
        dsimp only
        rw [recv_set hoi]
        first | exact Imp.refl _ | exact Imp.drop | exact Imp.fin | ((repeat (refine Imp.pick ?_)); first | exact Imp.refl _ | exact Imp.emp _ | exact Imp.fin)
      · rw [List.drop_eq_nil_of_le (by omega), decI] at hdi
        rw [← hdi]
        clear hdi hA A
        dsimp only
        repeat' (first
          | (refine spl_dec (fun hd => ?_) (fun hd => ?_) <;> first | (exfalso; omega) | (conv => whnf))
          | fail)
        obtain ⟨B, hB⟩ : ∃ B, B = decS (sgnO k) r X := ⟨_, rfl⟩
        rw [← hB]
        clear h1 hi
        refine LoopK.at tab_ok (L := f_record_Decode.live) (ι := Nat × RecV × RdX) (fun i => i.1 ≤ (sgnO k).length ∧ decS ((sgnO k).drop i.1) i.2.1 i.2.2 = B ∧ i.2.2.Ok ∧ i.2.1.kind = k ∧ i.2.1.lsn = 0 ∧ i.2.1.lv = (none, 0, 0) ∧ i.2.1.dt = (none, 0, 0)) (fun i => [(68, .int .i64 i.1)])
          (fun i => reado e_r i.2.2 • pts blk (.cells ⟨recv i.2.1⟩ t_api_Record)) (fun i => (sgnO k).length - i.1) (0, r, X) ⟨by simp, hB.symm, hX, rk, rl, rv, rd⟩ (fun t v h => h) (Imp.assoc (Imp.pick (Imp.pick (Imp.refl _)))) ?_
        clear hX rk rl rv rd hB
        rintro ⟨i, r, X⟩ ⟨hi, hdi, hX, rk, rl, rv, rd⟩
        dsimp only at hi hdi hX rk rl rv rd ⊢
        simp only [star_assoc]
        conv => whnf
        by_cases h1 : i < (sgnO k).length
        · obtain ⟨o, ho⟩ : ∃ o, (sgnO k)[i]? = some o := ⟨_, List.getElem?_eq_getElem h1⟩
          have hoi := sgnO_in (List.mem_of_getElem? ho)
          have hol : o < (recv r).length := by show o < 17; omega
          rw [decS_next ho] at hdi
          obtain ⟨hX1, _⟩ := hX.u 18446744073709551615
          have hsc := setC_same (r := r) (z := zag (X.u 18446744073709551615).1) hoi
          repeat' (first
            | (refine St.nth hol rfl rfl ?_; conv => whnf)
            | (refine spl_dec (fun hd => ?_) (fun hd => ?_) <;> first | (exfalso; omega) | (conv => whnf))
            | (refine Ar.i64 (by omega) ?_; conv => whnf)
            | (refine IxS.v (i := i) (xs := sgnO k) rfl rfl h1 (fun ab off' ha => ?_); subst ha; conv => whnf)
            | (refine Ld.r0 ho rfl ?_; conv => whnf)
            | (refine CallK.ret f_field_Reader_S.ok (rs_spec (by first | rfl | assumption | omega | decide | (simp; done) | (simp; omega) | (simp at *; omega))) ?_; rintro v G ⟨rfl, rfl⟩; conv => whnf)
            | fail)
          refine ⟨rfl, (i + 1, setC r o (zag (X.u 18446744073709551615).1), (X.u 18446744073709551615).2), ⟨h1, hdi, hX1, hsc.1.trans rk, hsc.2.1.trans rl, hsc.2.2.1.trans rv, hsc.2.2.2.trans rd⟩, fun t v h => h, ?_, by dsimp only; omega⟩
          dsimp only
          rw [recv_set hoi]
          first | exact Imp.refl _ | exact Imp.drop | exact Imp.fin | ((repeat (refine Imp.pick ?_)); first | exact Imp.refl _ | exact Imp.emp _ | exact Imp.fin)
        · rw [List.drop_eq_nil_of_le (by omega), decS] at hdi
          rw [← hdi]
          clear hdi B
          dsimp only
          obtain ⟨r0, r1, r2, r3, r4, r5, r6, r7, r8, r9, r10, r11, r12, r13, r14, r15, r16⟩ := r
          dsimp only at rk rl rv rd
          subst rk rl rv rd
          have hXf := hX.fin
          haveI nl : ∀ Q : HProp, RowN W Q none 0 4 livev [] := fun Q => ⟨RowC.nil, rfl⟩
          haveI nd : ∀ Q : HProp, RowN W Q none 0 2 dirtyv [] := fun Q => ⟨RowC.nil, rfl⟩
          unfold recv
          dsimp only
          unfold finF
          by_cases hfe : X.fin.err = 0
          · rw [if_neg (by simpa using hfe)]
            obtain ⟨C, hC⟩ : ∃ C, C = chkF (withL ⟨0, r1, r2, r3, r4, r5, r6, r7, r8, r9, r10, r11, r12, r13, (none, 0, 0), (none, 0, 0), r16⟩ [] []) [] [] := ⟨_, rfl⟩
            rw [← hC]
            unfold withL at hC
            dsimp only [List.length_nil] at hC
            by_cases hce : C = 0
            · rw [if_neg (by simpa using hce)]
              repeat' (first
                | (refine spl_dec (fun hd => ?_) (fun hd => ?_) <;> first | (exfalso; omega) | (conv => whnf))
                | (refine spl_ndec (fun hd => ?_) (fun hd => ?_) <;> first | (exfalso; omega) | (conv => whnf))
                | (refine Ld.i ?_; conv => whnf)
                | (refine LdN.i ?_; conv => whnf)
                | (refine CallK.ret f_field_Reader_Fault.ok (rfault_spec (by first | rfl | assumption | omega | decide | (simp; done) | (simp; omega) | (simp at *; omega))) ?_; rintro v G ⟨rfl, rfl⟩; conv => whnf)
                | (refine CallK.ret f_field_Reader_End.ok (rend_spec (by first | rfl | assumption | omega | decide | (simp; done) | (simp; omega) | (simp at *; omega))) ?_; rintro v G ⟨rfl, rfl⟩; conv => whnf)
                | fail)
              refine CallK.ret f_record_Check.ok (check_spec (r := ⟨0, r1, r2, r3, r4, r5, r6, r7, r8, r9, r10, r11, r12, r13, (none, 0, 0), (none, 0, 0), r16⟩) (L := []) (D := []) (rl := ⟨RowC.nil, rfl⟩) (rd := ⟨RowC.nil, rfl⟩)) ?_
              rintro v G ⟨rfl, rfl⟩
              rw [← hC]
              conv => whnf
              repeat' (first
                | (refine spl_ndec (fun hd => ?_) (fun hd => ?_) <;> first | (exfalso; omega) | (conv => whnf))
                | (refine LdN.i ?_; conv => whnf)
                | (refine St.i ⟨rfl, rfl⟩ (List.cons_ne_nil _ _) ?_; conv => whnf)
                | fail)
              refine ⟨_, _, rfl, ?_, none, 0, none, 0, rfl, rfl⟩
              refine Imp.vnil (Imp.vnil ?_)
              first | exact Imp.refl _ | exact Imp.drop | exact Imp.fin | ((repeat (refine Imp.pick ?_)); first | exact Imp.refl _ | exact Imp.emp _ | exact Imp.fin)
            · rw [if_pos hce]
              repeat' (first
                | (refine spl_dec (fun hd => ?_) (fun hd => ?_) <;> first | (exfalso; omega) | (conv => whnf))
                | (refine spl_ndec (fun hd => ?_) (fun hd => ?_) <;> first | (exfalso; omega) | (conv => whnf))
                | (refine Ld.i ?_; conv => whnf)
                | (refine LdN.i ?_; conv => whnf)
                | (refine CallK.ret f_field_Reader_Fault.ok (rfault_spec (by first | rfl | assumption | omega | decide | (simp; done) | (simp; omega) | (simp at *; omega))) ?_; rintro v G ⟨rfl, rfl⟩; conv => whnf)
                | (refine CallK.ret f_field_Reader_End.ok (rend_spec (by first | rfl | assumption | omega | decide | (simp; done) | (simp; omega) | (simp at *; omega))) ?_; rintro v G ⟨rfl, rfl⟩; conv => whnf)
                | fail)
              refine CallK.ret f_record_Check.ok (check_spec (r := ⟨0, r1, r2, r3, r4, r5, r6, r7, r8, r9, r10, r11, r12, r13, (none, 0, 0), (none, 0, 0), r16⟩) (L := []) (D := []) (rl := ⟨RowC.nil, rfl⟩) (rd := ⟨RowC.nil, rfl⟩)) ?_
              rintro v G ⟨rfl, rfl⟩
              rw [← hC]
              conv => whnf
              repeat' (first
                | (refine spl_ndec (fun hd => ?_) (fun hd => ?_) <;> first | (exfalso; omega) | (conv => whnf))
                | (refine LdN.i ?_; conv => whnf)
                | (refine St.i ⟨rfl, rfl⟩ (List.cons_ne_nil _ _) ?_; conv => whnf)
                | fail)
              refine decQ_none ?_; first | exact Imp.refl _ | exact Imp.drop | exact Imp.fin | ((repeat (refine Imp.pick ?_)); first | exact Imp.refl _ | exact Imp.emp _ | exact Imp.fin)
          · rw [if_pos hfe]
            repeat' (first
              | (refine spl_dec (fun hd => ?_) (fun hd => ?_) <;> first | (exfalso; omega) | (conv => whnf))
              | (refine spl_ndec (fun hd => ?_) (fun hd => ?_) <;> first | (exfalso; omega) | (conv => whnf))
              | (refine Ld.i ?_; conv => whnf)
              | (refine LdN.i ?_; conv => whnf)
              | (refine St.i ⟨rfl, rfl⟩ (List.cons_ne_nil _ _) ?_; conv => whnf)
              | (refine CallK.ret f_field_Reader_Fault.ok (rfault_spec (by first | rfl | assumption | omega | decide | (simp; done) | (simp; omega) | (simp at *; omega))) ?_; rintro v G ⟨rfl, rfl⟩; conv => whnf)
              | (refine CallK.ret f_field_Reader_End.ok (rend_spec (by first | rfl | assumption | omega | decide | (simp; done) | (simp; omega) | (simp at *; omega))) ?_; rintro v G ⟨rfl, rfl⟩; conv => whnf)
              | fail)
            refine decQ_none ?_; first | exact Imp.refl _ | exact Imp.drop | exact Imp.fin | ((repeat (refine Imp.pick ?_)); first | exact Imp.refl _ | exact Imp.emp _ | exact Imp.fin)
  · rw [if_pos he]
    conv => whnf
    repeat' (first
      | (refine spl_ndec (fun hd => ?_) (fun hd => ?_) <;> first | (exfalso; omega) | (conv => whnf))
      | (refine LdN.i ?_; conv => whnf)
      | (refine St.i ⟨rfl, rfl⟩ (List.cons_ne_nil _ _) ?_; conv => whnf)
      | (refine CallK.ret f_field_Reader_Fault.ok (rfault_spec (by first | rfl | assumption | omega | decide | (simp; done) | (simp; omega) | (simp at *; omega))) ?_; rintro v G ⟨rfl, rfl⟩; conv => whnf)
      | fail)
    refine decQ_none ?_; first | exact Imp.refl _ | exact Imp.drop | exact Imp.fin | ((repeat (refine Imp.pick ?_)); first | exact Imp.refl _ | exact Imp.emp _ | exact Imp.fin)
end Go.Proofs.YtgcknlpkhhpkjaaGreatDoor
/- The program's record.Decode, walked: checkpoints; all kinds. Conditions: in each statement. -/
namespace Go.Proofs.YtgcknlpkhhpkjaaGreatDoor
open Go Go.SL Go.SL.Sec Go.SL.Fld Go.SL.Pts Go.SL.Rec
open Go.SL.Und (RecV recv fits)
instance (priority := 110) KeepC.reado {R A : HProp} {r : Nat} {X : RdX} [k : KeepC R A] : KeepC (reado r X • R) A := ⟨Imp.trans Imp.drop k.h⟩
set_option maxHeartbeats 4000000 in
-- @noauto
theorem decode_cp {W : World} {R : HProp} {a : Option Addr} {n c : Nat} {l : List Int} [ro : RowN W R a n 1 bytv l] (hb : Byt l) (hl : l.length ≤ 16777216) (hk8 : ∀ a c, ((⟨a, c, l, 0, 0⟩ : RdX).u 18446744073709551615).2.err = 0 ∧ ((⟨a, c, l, 0, 0⟩ : RdX).u 18446744073709551615).1 = 8) :
    Does prog W f_record_Decode ⟨[.slice a n c]⟩ R (Ret (DecQ (decF l) R)) := by
  refine f_record_Decode.does _ ?_
  conv => whnf
  repeat' (first
    | (intro blk hblk; conv => whnf)
    | (refine CallK.ret f_field_NewReader.ok (newReader_spec (by first | rfl | assumption | omega | decide | (simp; done) | (simp; omega) | (simp at *; omega))) ?_; rintro v G ⟨e_r, e_a, e_c, e_h1, rfl, rfl⟩; conv => whnf)
    | fail)
  have hdec := decX_eq (a := e_a) (c := e_c) (l := l)
  have hX0 : (⟨e_a, e_c, l, 0, 0⟩ : RdX).Ok := ⟨hb, hl, e_h1, Nat.zero_le _⟩
  obtain ⟨hY, hk0, hk1, _⟩ := hX0.u 18446744073709551615
  refine CallK.ret f_field_Reader_U.ok (ru_spec hX0) ?_
  rintro v G ⟨rfl, rfl⟩
  have hk8 := hk8 e_a e_c
  unfold decX at hdec
  dsimp only at hdec
  obtain ⟨k, hk⟩ : ∃ k, k = ((⟨e_a, e_c, l, 0, 0⟩ : RdX).u 18446744073709551615).1 := ⟨_, rfl⟩
  obtain ⟨Y, hYe⟩ : ∃ Y, Y = ((⟨e_a, e_c, l, 0, 0⟩ : RdX).u 18446744073709551615).2 := ⟨_, rfl⟩
  rw [← hk] at hk0 hk1 hk8 hdec ⊢
  rw [← hYe] at hY hk8 hdec ⊢
  clear hk hYe hX0
  rw [← hdec]
  clear hdec
  obtain ⟨he, rfl⟩ := hk8
  rw [if_neg (by simpa using he), if_neg (by omega), if_pos rfl]
  unfold decC
  dsimp only
  have hil := intO_len 8
  have hsl : (sgnO 8).length = 0 := rfl
  conv => whnf
  repeat' (first
    | (refine spl_ndec (fun hd => ?_) (fun hd => ?_) <;> first | (exfalso; omega) | (conv => whnf))
    | (refine Ld.i ?_; conv => whnf)
    | (refine St.i ⟨rfl, rfl⟩ (List.cons_ne_nil _ _) ?_; conv => whnf)
    | (refine Ar.i64 (by omega) ?_; conv => whnf)
    | (refine Ar.u64 (by omega) ?_; conv => whnf)
    | (intro blk hblk; conv => whnf)
    | (refine CallK.ret f_field_Reader_Fault.ok (rfault_spec (by first | rfl | assumption | omega | decide | (simp; done) | (simp; omega) | (simp at *; omega))) ?_; rintro v G ⟨rfl, rfl⟩; conv => whnf)
    | (refine CallK.ret f_record_fields.ok (fields_spec (by first | rfl | assumption | omega | decide | (simp; done) | (simp; omega) | (simp at *; omega))) ?_; rintro v G ⟨e_a, e_c, e_b, e_d, rfl, rfl⟩; conv => whnf)
    | fail)
  rw [show (2147483647 : Int) + 1 = 2147483648 from rfl]
  obtain ⟨A, hA⟩ : ∃ A, A = decI 2147483648 (intO 8) (kindR 8) Y := ⟨_, rfl⟩
  rw [← hA]
  refine LoopK.at tab_ok (L := f_record_Decode.live) (ι := Nat × RecV × RdX) (fun i => i.1 ≤ (intO 8).length ∧ decI 2147483648 ((intO 8).drop i.1) i.2.1 i.2.2 = A ∧ i.2.2.Ok ∧ i.2.1.kind = 8 ∧ i.2.1.lsn = 0 ∧ i.2.1.lv = (none, 0, 0) ∧ i.2.1.dt = (none, 0, 0)) (fun i => [(55, .int .i64 i.1)])
    (fun i => reado e_r i.2.2 • pts blk (.cells ⟨recv i.2.1⟩ t_api_Record)) (fun i => (intO 8).length - i.1) (0, kindR 8, Y) ⟨by simp, hA.symm, hY, rfl, rfl, rfl, rfl⟩ (fun t v h => h) (by
      dsimp only [recv, kindR, recZ]
      exact Imp.assoc (Imp.pick (Imp.pick (Imp.refl _)))) ?_
  rintro ⟨i, r, X⟩ ⟨hi, hdi, hX, rk, rl, rv, rd⟩
  dsimp only at hi hdi hX rk rl rv rd ⊢
  simp only [star_assoc]
  conv => whnf
  by_cases h1 : i < (intO 8).length
  · obtain ⟨o, ho⟩ : ∃ o, (intO 8)[i]? = some o := ⟨_, List.getElem?_eq_getElem h1⟩
    have hoi := intO_in (List.mem_of_getElem? ho)
    have hol : o < (recv r).length := by show o < 17; omega
    rw [decI_next ho] at hdi
    obtain ⟨hX1, hz0, _, hz1⟩ := hX.u 2147483648
    have hz1 := hz1 (by decide)
    have hsc := setC_same (r := r) (z := (X.u 2147483648).1) hoi
    repeat' (first
      | (refine St.nth hol rfl rfl ?_; conv => whnf)
      | (refine spl_dec (fun hd => ?_) (fun hd => ?_) <;> first | (exfalso; omega) | (conv => whnf))
      | (refine Ar.i64 (by omega) ?_; conv => whnf)
      | (refine IxS.v (i := i) (xs := intO 8) rfl rfl h1 (fun ab off' ha => ?_); subst ha; conv => whnf)
      | (refine Ld.r0 ho rfl ?_; conv => whnf)
      | (refine CallK.ret f_field_Reader_U.ok (ru_spec (by first | rfl | assumption | omega | decide | (simp; done) | (simp; omega) | (simp at *; omega))) ?_; rintro v G ⟨rfl, rfl⟩; conv => whnf)
      | fail)
    refine ⟨rfl, (i + 1, setC r o (X.u 2147483648).1, (X.u 2147483648).2), ⟨h1, hdi, hX1, hsc.1.trans rk, hsc.2.1.trans rl, hsc.2.2.1.trans rv, hsc.2.2.2.trans rd⟩, fun t v h => h, ?_, by dsimp only; omega⟩
    dsimp only
    rw [recv_set hoi]
    first | exact Imp.refl _ | exact Imp.drop | exact Imp.fin | ((repeat (refine Imp.pick ?_)); first | exact Imp.refl _ | exact Imp.emp _ | exact Imp.fin)
  rw [List.drop_eq_nil_of_le (by omega), decI] at hdi
  rw [← hdi]
  clear hdi hA A
  dsimp only
  obtain ⟨r0, r1, r2, r3, r4, r5, r6, r7, r8, r9, r10, r11, r12, r13, r14, r15, r16⟩ := r
  dsimp only at rk rl rv rd
  subst rk rl rv rd
  unfold recv
  dsimp only
  repeat' (first
    | (refine spl_dec (fun hd => ?_) (fun hd => ?_) <;> first | (exfalso; omega) | (conv => whnf))
    | fail)
  refine LoopK.keep tab_ok (L := f_record_Decode.live) (ι := Nat) (fun i => i = 0) (fun i => [(68, .int .i64 i)]) (fun i => 0) 0 rfl (fun t v h => h) ?_
  rintro i0 rfl
  obtain ⟨hX1, hn0, _, hn1⟩ := hX.u 32
  have hn1 := hn1 (by decide)
  conv => whnf
  repeat' (first
    | (refine Ld.i ?_; conv => whnf)
    | (refine CallK.ret f_field_Reader_U.ok (ru_spec (by first | rfl | assumption | omega | decide | (simp; done) | (simp; omega) | (simp at *; omega))) ?_; rintro v G ⟨rfl, rfl⟩; conv => whnf)
    | fail)
  obtain ⟨n, hn⟩ : ∃ n : Nat, n = (X.u 32).1.toNat := ⟨_, rfl⟩
  have hnn : (X.u 32).1 = (n : Int) := by omega
  obtain ⟨X1, hX1e⟩ : ∃ X1, X1 = (X.u 32).2 := ⟨_, rfl⟩
  obtain ⟨B, hB⟩ : ∃ B, B = decLv n [] X1 := ⟨_, rfl⟩
  rw [← hX1e] at hX1
  rw [← hX1e, ← hn, ← hB, hnn]
  refine LoopK.at tab_ok (L := f_record_Decode.live) (ι := Nat × List LiveV × Option Addr × Nat × RdX) (fun i => i.1 ≤ n ∧ decLv (n - i.1) i.2.1 i.2.2.2.2 = B ∧ i.2.2.2.2.Ok ∧ i.2.1.length = i.1) (fun i => [(82, .int .u64 i.1)])
    (fun i => reado e_r i.2.2.2.2 • pts blk (.cells ⟨[.int .i64 0, .int .i64 8, .int .i64 r2, .int .i64 r3, .int .i64 r4, .int .i64 r5, .int .i64 r6, .int .i64 r7, .int .i64 r8, .int .i64 r9, .int .i64 r10, .int .i64 r11, .int .i64 r12, .int .i64 r13, .slice i.2.2.1 i.2.1.length i.2.2.2.1, .slice none 0 0, .int .i64 r16]⟩ t_api_Record) • vec t_api_Live 4 livev i.2.2.1 i.2.2.2.1 i.2.1) (fun i => n - i.1) (0, [], none, 0, X1) ⟨by simp, hB.symm, hX1, rfl⟩ (fun t v h => h) (by
      simp only [star_assoc]
      exact Imp.pick (Imp.pick (Imp.vnil (Imp.refl _)))) ?_
  rintro ⟨i, L, la, lc, Z⟩ ⟨hi2, hdL, hZ, hLl⟩
  dsimp only at hi2 hdL hZ hLl ⊢
  simp only [star_assoc]
  conv => whnf
  by_cases h2 : i < n
  · rw [decLv_next h2] at hdL
    obtain ⟨hZ1, hz0, _, hz1⟩ := hZ.u 2147483647
    have hz1 := hz1 (by decide)
    obtain ⟨hZ2, hy0, _, hy1⟩ := hZ1.u 2147483647
    have hy1 := hy1 (by decide)
    obtain ⟨hZ3, _⟩ := hZ2.u 2
    repeat' (first
      | (refine spl_dec (fun hd => ?_) (fun hd => ?_) <;> first | (exfalso; omega) | (conv => whnf))
      | (refine Ld.i ?_; conv => whnf)
      | (refine LdN.i ?_; conv => whnf)
      | (refine St.i ⟨rfl, rfl⟩ (List.cons_ne_nil _ _) ?_; conv => whnf)
      | (refine Ar.i64 (by omega) ?_; conv => whnf)
      | (refine Ar.u64 (by omega) ?_; conv => whnf)
      | (intro blk hblk; conv => whnf)
      | (refine OpX.app1g (xs := L) tab_ok rfl rfl rfl rfl rfl rfl (by first | rfl | assumption | omega | decide | (simp; done) | (simp; omega) | (simp at *; omega)) (fun a' c' => ?_); conv => whnf)
      | (refine CallK.ret f_field_Reader_U.ok (ru_spec (by first | rfl | assumption | omega | decide | (simp; done) | (simp; omega) | (simp at *; omega))) ?_; rintro v G ⟨rfl, rfl⟩; conv => whnf)
      | fail)
    refine ⟨rfl, (i + 1, L ++ [(liveF Z).1], a', c', (liveF Z).2), ⟨h2, hdL, hZ3, by simp [hLl]⟩, fun t v h => h, ?_, by dsimp only; omega⟩
    dsimp only
    unfold liveF
    dsimp only
    first | exact Imp.refl _ | exact Imp.drop | exact Imp.fin | ((repeat (refine Imp.pick ?_)); first | exact Imp.refl _ | exact Imp.emp _ | exact Imp.fin)
  rw [show n - i = 0 by omega, decLv] at hdL
  rw [← hdL]
  dsimp only
  obtain ⟨hZ1, hm0, _, hm1⟩ := hZ.u 16
  have hm1 := hm1 (by decide)
  repeat' (first
    | (refine spl_dec (fun hd => ?_) (fun hd => ?_) <;> first | (exfalso; omega) | (conv => whnf))
    | (refine CallK.ret f_field_Reader_U.ok (ru_spec (by first | rfl | assumption | omega | decide | (simp; done) | (simp; omega) | (simp at *; omega))) ?_; rintro v G ⟨rfl, rfl⟩; conv => whnf)
    | fail)
  obtain ⟨m, hm⟩ : ∃ m : Nat, m = (Z.u 16).1.toNat := ⟨_, rfl⟩
  have hmm : (Z.u 16).1 = (m : Int) := by omega
  obtain ⟨Z1, hZ1e⟩ : ∃ Z1, Z1 = (Z.u 16).2 := ⟨_, rfl⟩
  obtain ⟨C, hC⟩ : ∃ C, C = decDt m [] Z1 := ⟨_, rfl⟩
  rw [← hZ1e] at hZ1
  rw [← hZ1e, ← hm, ← hC, hmm]
  refine LoopK.at tab_ok (L := f_record_Decode.live) (ι := Nat × List DirtyV × Option Addr × Nat × RdX) (fun i => i.1 ≤ m ∧ decDt (m - i.1) i.2.1 i.2.2.2.2 = C ∧ i.2.2.2.2.Ok ∧ i.2.1.length = i.1) (fun i => [(110, .int .u64 i.1)])
    (fun i => reado e_r i.2.2.2.2 • pts blk (.cells ⟨[.int .i64 0, .int .i64 8, .int .i64 r2, .int .i64 r3, .int .i64 r4, .int .i64 r5, .int .i64 r6, .int .i64 r7, .int .i64 r8, .int .i64 r9, .int .i64 r10, .int .i64 r11, .int .i64 r12, .int .i64 r13, .slice la L.length lc, .slice i.2.2.1 i.2.1.length i.2.2.2.1, .int .i64 r16]⟩ t_api_Record) • vec t_api_Dirty 2 dirtyv i.2.2.1 i.2.2.2.1 i.2.1) (fun i => m - i.1) (0, [], none, 0, Z1) ⟨by simp, hC.symm, hZ1, rfl⟩ (fun t v h => h) (by
      simp only [star_assoc]
      exact Imp.pick (Imp.pick (Imp.vnil (Imp.refl _)))) ?_
  rintro ⟨j, D, da, dc, U⟩ ⟨hj2, hdD, hU, hDl⟩
  dsimp only at hj2 hdD hU hDl ⊢
  simp only [star_assoc]
  conv => whnf
  by_cases h3 : j < m
  · rw [decDt_next h3] at hdD
    obtain ⟨hU1, hz0, _, hz1⟩ := hU.u 2147483647
    have hz1 := hz1 (by decide)
    obtain ⟨hU2, hy0, _, hy1⟩ := hU1.u 2147483647
    have hy1 := hy1 (by decide)
    repeat' (first
      | (refine DrawK.introK tab_ok mixed 112 f_record_Decode.last33 f_record_Decode.plan33 rfl (by kernel_rfl) ?_; conv => whnf)
      | (refine spl_dec (fun hd => ?_) (fun hd => ?_) <;> first | (exfalso; omega) | (conv => whnf))
      | (refine Ld.i ?_; conv => whnf)
      | (refine St.i ⟨rfl, rfl⟩ (List.cons_ne_nil _ _) ?_; conv => whnf)
      | (refine Ar.i64 (by omega) ?_; conv => whnf)
      | (refine Ar.u64 (by omega) ?_; conv => whnf)
      | (intro blk hblk; conv => whnf)
      | (refine OpX.app1g (xs := D) tab_ok rfl rfl rfl rfl rfl rfl (by first | rfl | assumption | omega | decide | (simp; done) | (simp; omega) | (simp at *; omega)) (fun a' c' => ?_); conv => whnf)
      | (refine Sub.on (by first | exact Imp.refl _ | exact Imp.drop | exact Imp.fin | ((repeat (refine Imp.pick ?_)); first | exact Imp.refl _ | exact Imp.emp _ | exact Imp.fin)) ?_; conv => whnf)
      | (refine CallK.ret f_field_Reader_U.ok (ru_spec (by first | rfl | assumption | omega | decide | (simp; done) | (simp; omega) | (simp at *; omega))) ?_; rintro v G ⟨rfl, rfl⟩; conv => whnf)
      | fail)
    refine ⟨rfl, (j + 1, D ++ [(dirtyF U).1], a', c', (dirtyF U).2), ⟨h3, hdD, hU2, by simp [hDl]⟩, fun t v h => h, ?_, by dsimp only; omega⟩
    dsimp only
    unfold dirtyF
    dsimp only
    first | exact Imp.refl _ | exact Imp.drop | exact Imp.fin | ((repeat (refine Imp.pick ?_)); first | exact Imp.refl _ | exact Imp.emp _ | exact Imp.fin)
  rw [show m - j = 0 by omega, decDt] at hdD
  rw [← hdD]
  dsimp only
  have hUf := hU.fin
  unfold finF
  by_cases hfe : U.fin.err = 0
  · rw [if_neg (by simpa using hfe)]
    have hca := chkF_addr (r := ⟨0, 8, r2, r3, r4, r5, r6, r7, r8, r9, r10, r11, r12, r13, (none, 0, 0), (none, 0, 0), r16⟩) (L := L) (D := D) (a := la) (b := da) (c := lc) (d := dc)
    obtain ⟨E, hE⟩ : ∃ E, E = chkF (withL ⟨0, 8, r2, r3, r4, r5, r6, r7, r8, r9, r10, r11, r12, r13, (none, 0, 0), (none, 0, 0), r16⟩ L D) L D := ⟨_, rfl⟩
    rw [← hE] at hca ⊢
    dsimp only at hca
    repeat' (first
      | (refine spl_dec (fun hd => ?_) (fun hd => ?_) <;> first | (exfalso; omega) | (conv => whnf))
      | (refine spl_ndec (fun hd => ?_) (fun hd => ?_) <;> first | (exfalso; omega) | (conv => whnf))
      | (refine LdN.i ?_; conv => whnf)
      | (refine CallK.ret f_field_Reader_Fault.ok (rfault_spec (by first | rfl | assumption | omega | decide | (simp; done) | (simp; omega) | (simp at *; omega))) ?_; rintro v G ⟨rfl, rfl⟩; conv => whnf)
      | (refine CallK.ret f_field_Reader_End.ok (rend_spec (by first | rfl | assumption | omega | decide | (simp; done) | (simp; omega) | (simp at *; omega))) ?_; rintro v G ⟨rfl, rfl⟩; conv => whnf)
      | fail)
    refine CallK.ret f_record_Check.ok (check_spec (r := ⟨0, 8, r2, r3, r4, r5, r6, r7, r8, r9, r10, r11, r12, r13, (la, L.length, lc), (da, D.length, dc), r16⟩) (L := L) (D := D) (rl := inferInstance) (rd := inferInstance)) ?_
    rintro v G ⟨rfl, rfl⟩
    rw [hca]
    by_cases hce : E = 0
    · rw [if_neg (by simpa using hce)]
      conv => whnf
      repeat' (first
        | (refine spl_ndec (fun hd => ?_) (fun hd => ?_) <;> first | (exfalso; omega) | (conv => whnf))
        | (refine LdN.i ?_; conv => whnf)
        | (refine St.i ⟨rfl, rfl⟩ (List.cons_ne_nil _ _) ?_; conv => whnf)
        | fail)
      refine ⟨_, _, rfl, ?_, la, lc, da, dc, rfl, rfl⟩
      first | exact Imp.refl _ | exact Imp.drop | exact Imp.fin | ((repeat (refine Imp.pick ?_)); first | exact Imp.refl _ | exact Imp.emp _ | exact Imp.fin)
    · rw [if_pos hce]
      conv => whnf
      repeat' (first
        | (refine spl_ndec (fun hd => ?_) (fun hd => ?_) <;> first | (exfalso; omega) | (conv => whnf))
        | (refine LdN.i ?_; conv => whnf)
        | (refine St.i ⟨rfl, rfl⟩ (List.cons_ne_nil _ _) ?_; conv => whnf)
        | fail)
      refine decQ_none ?_
      first | exact Imp.refl _ | exact Imp.drop | exact Imp.fin | ((repeat (refine Imp.pick ?_)); first | exact Imp.refl _ | exact Imp.emp _ | exact Imp.fin)
  · rw [if_pos hfe]
    repeat' (first
      | (refine spl_dec (fun hd => ?_) (fun hd => ?_) <;> first | (exfalso; omega) | (conv => whnf))
      | (refine spl_ndec (fun hd => ?_) (fun hd => ?_) <;> first | (exfalso; omega) | (conv => whnf))
      | (refine LdN.i ?_; conv => whnf)
      | (refine St.i ⟨rfl, rfl⟩ (List.cons_ne_nil _ _) ?_; conv => whnf)
      | (refine CallK.ret f_field_Reader_Fault.ok (rfault_spec (by first | rfl | assumption | omega | decide | (simp; done) | (simp; omega) | (simp at *; omega))) ?_; rintro v G ⟨rfl, rfl⟩; conv => whnf)
      | (refine CallK.ret f_field_Reader_End.ok (rend_spec (by first | rfl | assumption | omega | decide | (simp; done) | (simp; omega) | (simp at *; omega))) ?_; rintro v G ⟨rfl, rfl⟩; conv => whnf)
      | fail)
    refine decQ_none ?_
    first | exact Imp.refl _ | exact Imp.drop | exact Imp.fin | ((repeat (refine Imp.pick ?_)); first | exact Imp.refl _ | exact Imp.emp _ | exact Imp.fin)
theorem decode_spec {W : World} {R : HProp} {a : Option Addr} {n c : Nat} {l : List Int} [ro : RowN W R a n 1 bytv l] (hb : Byt l) (hl : l.length ≤ 16777216) :
    Does prog W f_record_Decode ⟨[.slice a n c]⟩ R (Ret (DecQ (decF l) R)) := by
  have hm : ∀ a c, ((⟨a, c, l, 0, 0⟩ : RdX).u 18446744073709551615).1 = ((⟨none, 0, l, 0, 0⟩ : RdX).u 18446744073709551615).1 ∧ ((⟨a, c, l, 0, 0⟩ : RdX).u 18446744073709551615).2.err = ((⟨none, 0, l, 0, 0⟩ : RdX).u 18446744073709551615).2.err := fun a c => by
    have := mv_u ⟨none, 0, l, 0, 0⟩ a c 18446744073709551615
    exact ⟨this.1, by rw [show (⟨a, c, l, 0, 0⟩ : RdX) = RdX.mv ⟨none, 0, l, 0, 0⟩ a c from rfl, this.2]; rfl⟩
  by_cases h : ((⟨none, 0, l, 0, 0⟩ : RdX).u 18446744073709551615).2.err = 0 ∧ ((⟨none, 0, l, 0, 0⟩ : RdX).u 18446744073709551615).1 = 8
  · exact decode_cp hb hl fun a c => ⟨(hm a c).2.trans h.1, (hm a c).1.trans h.2⟩
  · exact decode_nc hb hl fun a c k => h ⟨(hm a c).2.symm.trans k.1, (hm a c).1.symm.trans k.2⟩
end Go.Proofs.YtgcknlpkhhpkjaaGreatDoor
