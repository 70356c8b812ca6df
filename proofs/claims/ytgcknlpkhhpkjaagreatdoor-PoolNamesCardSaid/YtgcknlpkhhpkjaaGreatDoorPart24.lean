/- The program's package twin, walked: Write, its good way. Conditions: in each statement. -/
import Derived.Test.YtgcknlpkhhpkjaaGreatDoorPart20
import Derived.Test.YtgcknlpkhhpkjaaGreatDoorPart23
import Derived.Test.YtgcknlpkhhpkjaaGreatDoorPart18
import Derived.Test.YtgcknlpkhhpkjaaGreatDoorPart22
namespace Go.Proofs.YtgcknlpkhhpkjaaGreatDoor
open Go Go.SL Go.SL.Sec Go.SL.Fld Go.SL.Pts Go.SL.Rec Go.SL.Twn
/-- What comes of Write. -/
def TwrQ (e : Int) (P : HProp → Prop) (v : Value) (G : HProp) : Prop := (e = 0 ∧ v = .nilIface ∧ P G) ∨ (e ≠ 0 ∧ ∃ k G0, v = .iface t_P_api_Fault (ptr k) ∧ G = (fltc k wWrite 0 e • G0) ∧ P G0)
set_option maxHeartbeats 1000000 in
-- @noauto
theorem twwrite_go {W : World} {H R : HProp} {d : Nat} {X : DevX} {z h : Int} {a : Option Addr} {n c : Nat} {b : List Int} [t : DevC H d X R] [ro : RowN W R a n 1 bytv b] (hX : X.Ok) (hq : X.ps.length ≤ 400000) (hb : b.length = 1024) (hc : 1024 ≤ c) (hby : Byt b) (hd : X.down = false) (h3 : ThereP X.val.secs z 3) (hm : TmayP X.val.secs z h) :
    Does prog W f_twin_Write ⟨[ptr d, .int .i64 z, .int .i64 h, .slice a n c]⟩ H (Ret (TwrQ (twW X.val z h b).1 fun G => ∃ X' : DevX, X'.Ok ∧ X'.val = (twW X.val z h b).2 ∧ X'.ps.length ≤ X.ps.length + 6 ∧ G = (devo d X' • R))) := by
  rw [t.h.eq]
  have hl := ro.len
  subst hl
  haveI r' := ro.row
  have hsec : 0 ≤ X.val.secs ∧ X.val.secs ≤ 8192 := by
    have := hX.len
    unfold Dev.secs DevX.val
    dsimp only
    omega
  have h3' := h3
  unfold ThereP at h3'
  have hm' := hm.1
  unfold ThereP at hm'
  obtain ⟨T, hT⟩ : ∃ T, T = twW X.val z h b := ⟨_, rfl⟩
  rw [← hT]
  have hdv : X.val.down = X.down := rfl
  unfold twW at hT
  rw [hdv, if_neg (by rw [hd]; decide), if_neg (fun k => k ⟨h3, hm⟩), if_neg (fun k => k hb)] at hT
  dsimp only at hT
  refine f_twin_Write.does _ _ _ _ ?_
  conv => whnf
  repeat' (first
    | (refine CallK.ret f_twin_running.ok (running_ok (X := X) hd) ?_; rintro v G ⟨rfl, rfl⟩; conv => whnf)
    | (refine CallK.ret f_twin_there.ok (there_spec (X := X) hX (by omega)) ?_; rw [decide_eq_true h3]; rintro v G ⟨rfl, rfl⟩; conv => whnf)
    | (refine CallK.ret f_twin_may.ok (tmay_spec (X := X) hX (by omega)) ?_; rw [decide_eq_true hm]; rintro v G ⟨rfl, rfl⟩; conv => whnf)
    | (rw [show decide ((b.length : Int) = 1024) = true from decide_eq_true (by omega)]; conv => whnf)
    | (refine Ar.i64 (by omega) ?_; conv => whnf)
    | (intro blk hblk; conv => whnf)
    | (refine CallK.ret f_twin_need.ok (tneed_ok) ?_; rintro v G ⟨rfl, rfl⟩; conv => whnf)
    | fail)
  obtain ⟨P1, hP1⟩ : ∃ P, P = pws (z + 1) b 2 0 X.val := ⟨_, rfl⟩
  rw [← hP1] at hT
  refine CallK.any f_twin_put.ok (put_go (X := X) (b := b) (n := 2) (R := pts _ (.cells ⟨[.nilIface]⟩ t_error) • R) inferInstance hX (by omega) (by omega) (by omega) (by omega) (by omega) hby rfl) ?_
  rw [← hP1]
  rintro en G ⟨⟨h0, rfl⟩ | ⟨h0, rfl⟩, X1, hX1, hv1, hq1, rfl⟩
  rotate_left
  · rw [if_pos h0] at hT
    subst hT
    skip
    refine LeaveD.ret tab_ok (by simp) f_twin_Write_1.ok (DDoes.imp (by first | exact Imp.refl _ | exact Imp.drop | exact Imp.fin | ((repeat (refine Imp.pick ?_)); first | exact Imp.refl _ | exact Imp.emp _ | exact Imp.fin)) (write1_no (v := .nilIface) (e := T.1) (R := devo d X1 • R) (older := []))) ?_
    rintro _ _ G ⟨b, rfl, rfl⟩
    conv => whnf
    repeat' (first
      | (refine Ld.i ?_; conv => whnf)
      | fail)
    refine ⟨_, _, rfl, ?_, .inr ⟨h0, b, _, rfl, rfl, X1, hX1, hv1, by omega, rfl⟩⟩
    first | exact Imp.refl _ | exact Imp.drop | exact Imp.fin | ((repeat (refine Imp.pick ?_)); first | exact Imp.refl _ | exact Imp.emp _ | exact Imp.fin)
  rw [if_neg (fun k => k h0), ← hv1] at hT
  repeat' (first
    | (refine OpX.make tab_ok bytv 0 rfl rfl rfl rfl rfl rfl (by omega) (fun s hs => ?_); rw [show (Int.toNat 512) = 512 from rfl, ← t512_eq]; conv => whnf)
    | fail)
  refine LoopK.at tab_ok (L := f_twin_Write.live) (ι := Nat) (fun k => k ≤ 4) (fun k => [(34, .int .i64 k)]) (fun k => vec t_uint8 1 bytv (some ⟨s, 0, none⟩) 512 (putB t512 0 k h)) (fun k => 4 - k) 0 (by simp) (fun t v h => h) (by rw [putB_zero]; exact Imp.pick (Imp.refl _)) ?_
  rintro k hk
  conv => whnf
  have hlen : (putB t512 0 k h).length = 512 := by rw [putB_len (by rw [t512_len]; omega), t512_len]
  by_cases h2 : k < 4
  · have hzk : 0 + k < t512.length := by rw [t512_len]; omega
    repeat' (first
      | (refine Shr.v (8 * k) (by omega) (by simp [IntKind.bits]; omega) ?_; rw [p256]; conv => whnf)
      | (refine spl_dec (fun hd => ?_) (fun hd => ?_) <;> first | (exfalso; omega) | (conv => whnf))
      | (refine Ar.i64 (by omega) ?_; conv => whnf)
      | (refine IxS.v (i := 0 + k) (xs := putB t512 0 k h) (by omega) hlen.symm (by omega) (fun ab off' ha => ?_); cases ha; conv => whnf)
      | (refine Ar.u8w ?_; conv => whnf)
      | (refine St.v0 (putB_get hzk) (h / 256 ^ k % 256) rfl (Nat.le_refl _) ⟨rfl, rfl⟩ ?_; conv => whnf)
      | fail)
    rw [putB_succ hzk]
    exact ⟨rfl, k + 1, by omega, fun t v h => h, Imp.refl _, by omega⟩
  have hmk : putB t512 0 k h = mark4 h := by rw [show k = 4 by omega]; rfl
  rw [hmk] at hlen ⊢
  have hbm : Byt (mark4 h) := mark4_byt
  have hms : ∀ st, (mark4 h).set 511 st = Twn.mark h st := fun st => rfl
  clear hmk
  obtain ⟨M4, hM4⟩ : ∃ M, M = mark4 h := ⟨_, rfl⟩
  rw [← hM4] at hlen hbm hms ⊢
  clear hM4
  obtain ⟨y, hy⟩ : ∃ y, M4[511]? = some y := ⟨_, List.getElem?_eq_getElem (by omega)⟩
  have lmk : ∀ st, (Twn.mark h st).length = 512 := fun st => by rw [← hms, List.length_set]; exact hlen
  have bmk : ∀ st, 0 ≤ st ∧ st < 256 → Byt (Twn.mark h st) := fun st k => hms st ▸ Byt.set hbm k
  repeat' (first
    | (refine spl_dec (fun hd => ?_) (fun hd => ?_) <;> first | (exfalso; omega) | (conv => whnf))
    | (refine IxS.v (i := 511) (xs := M4) rfl hlen.symm (by omega) (fun ab off' ha => ?_); cases ha; conv => whnf)
    | (refine St.v0 (i := 511) hy 165 rfl (by decide) ⟨rfl, rfl⟩ ?_; conv => whnf)
    | fail)
  rw [hms]
  obtain ⟨P2, hP2⟩ : ∃ P, P = pws z (Twn.mark h 165) 1 0 X1.val := ⟨_, rfl⟩
  rw [← hP2] at hT
  refine CallK.imp (H' := (devo d X1 • vec t_uint8 1 bytv (some ⟨s, 0, none⟩) 512 (Twn.mark h 165) • pts _ (.cells ⟨[.nilIface]⟩ t_error) • R)) (by first | exact Imp.refl _ | exact Imp.drop | exact Imp.fin | ((repeat (refine Imp.pick ?_)); first | exact Imp.refl _ | exact Imp.emp _ | exact Imp.fin)) ?_
  refine CallK.any f_twin_put.ok (put_go (nn := 512) (X := X1) (b := Twn.mark h 165) (n := 1) inferInstance hX1 (by omega) (by omega) (by rw [lmk]) (by omega) (by rw [lmk]; exact Nat.le_refl _) (bmk _ (by omega)) (lmk _).symm) ?_
  rw [← hP2]
  clear h0
  rintro en G ⟨⟨h0, rfl⟩ | ⟨h0, rfl⟩, X2, hX2, hv2, hq2, rfl⟩
  rotate_left
  · rw [if_pos h0] at hT
    subst hT
    skip
    refine LeaveD.ret tab_ok (by simp) f_twin_Write_1.ok (DDoes.imp (by first | exact Imp.refl _ | exact Imp.drop | exact Imp.fin | ((repeat (refine Imp.pick ?_)); first | exact Imp.refl _ | exact Imp.emp _ | exact Imp.fin)) (write1_no (v := .nilIface) (e := T.1) (R := devo d X2 • R) (older := []))) ?_
    rintro _ _ G ⟨b, rfl, rfl⟩
    conv => whnf
    repeat' (first
      | (refine Ld.i ?_; conv => whnf)
      | fail)
    refine ⟨_, _, rfl, ?_, .inr ⟨h0, b, _, rfl, rfl, X2, hX2, hv2, by omega, rfl⟩⟩
    first | exact Imp.refl _ | exact Imp.drop | exact Imp.fin | ((repeat (refine Imp.pick ?_)); first | exact Imp.refl _ | exact Imp.emp _ | exact Imp.fin)
  rw [if_neg (fun k => k h0), ← hv2] at hT
  skip
  obtain ⟨P3, hP3⟩ : ∃ P, P = pws h b 2 0 X2.val := ⟨_, rfl⟩
  rw [← hP3] at hT
  refine CallK.any f_twin_put.ok (put_go (X := X2) (b := b) (n := 2) (R := vec t_uint8 1 bytv (some ⟨s, 0, none⟩) 512 (Twn.mark h 165) • pts _ (.cells ⟨[.nilIface]⟩ t_error) • R) inferInstance hX2 (by omega) (by omega) (by omega) (by omega) (by omega) hby rfl) ?_
  rw [← hP3]
  clear h0
  rintro en G ⟨⟨h0, rfl⟩ | ⟨h0, rfl⟩, X3, hX3, hv3, hq3, rfl⟩
  rotate_left
  · rw [if_pos h0] at hT
    subst hT
    skip
    refine LeaveD.ret tab_ok (by simp) f_twin_Write_1.ok (DDoes.imp (by first | exact Imp.refl _ | exact Imp.drop | exact Imp.fin | ((repeat (refine Imp.pick ?_)); first | exact Imp.refl _ | exact Imp.emp _ | exact Imp.fin)) (write1_no (v := .nilIface) (e := T.1) (R := devo d X3 • R) (older := []))) ?_
    rintro _ _ G ⟨b, rfl, rfl⟩
    conv => whnf
    repeat' (first
      | (refine Ld.i ?_; conv => whnf)
      | fail)
    refine ⟨_, _, rfl, ?_, .inr ⟨h0, b, _, rfl, rfl, X3, hX3, hv3, by omega, rfl⟩⟩
    first | exact Imp.refl _ | exact Imp.drop | exact Imp.fin | ((repeat (refine Imp.pick ?_)); first | exact Imp.refl _ | exact Imp.emp _ | exact Imp.fin)
  rw [if_neg (fun k => k h0), ← hv3] at hT
  obtain ⟨y2, hy2⟩ : ∃ y, (Twn.mark h 165)[511]? = some y := ⟨_, List.getElem?_eq_getElem (Nat.lt_of_lt_of_eq (by decide : 511 < 512) (lmk _).symm)⟩
  repeat' (first
    | (refine IxS.v (i := 511) (xs := Twn.mark h 165) rfl (lmk _).symm (Nat.lt_of_lt_of_eq (by decide : 511 < 512) (lmk _).symm) (fun ab off' ha => ?_); cases ha; conv => whnf)
    | (refine St.v0 (i := 511) hy2 0 rfl (by decide) ⟨rfl, rfl⟩ ?_; conv => whnf)
    | fail)
  rw [show (Twn.mark h 165).set 511 0 = Twn.mark h 0 by rw [← hms, ← hms, List.set_set]]
  obtain ⟨P4, hP4⟩ : ∃ P, P = pws z (Twn.mark h 0) 1 0 X3.val := ⟨_, rfl⟩
  rw [← hP4] at hT
  refine CallK.imp (H' := (devo d X3 • vec t_uint8 1 bytv (some ⟨s, 0, none⟩) 512 (Twn.mark h 0) • pts _ (.cells ⟨[.nilIface]⟩ t_error) • R)) (by first | exact Imp.refl _ | exact Imp.drop | exact Imp.fin | ((repeat (refine Imp.pick ?_)); first | exact Imp.refl _ | exact Imp.emp _ | exact Imp.fin)) ?_
  refine CallK.any f_twin_put.ok (put_go (nn := 512) (X := X3) (b := Twn.mark h 0) (n := 1) inferInstance hX3 (by omega) (by omega) (by rw [lmk]) (by omega) (by rw [lmk]; exact Nat.le_refl _) (bmk _ (by omega)) (lmk _).symm) ?_
  rw [← hP4]
  clear h0
  rintro en G ⟨⟨h0, rfl⟩ | ⟨h0, rfl⟩, X4, hX4, hv4, hq4, rfl⟩
  rotate_left
  · subst hT
    skip
    refine LeaveD.ret tab_ok (by simp) f_twin_Write_1.ok (DDoes.imp (by first | exact Imp.refl _ | exact Imp.drop | exact Imp.fin | ((repeat (refine Imp.pick ?_)); first | exact Imp.refl _ | exact Imp.emp _ | exact Imp.fin)) (write1_no (v := .nilIface) (e := T.1) (R := devo d X4 • R) (older := []))) ?_
    rintro _ _ G ⟨b, rfl, rfl⟩
    conv => whnf
    repeat' (first
      | (refine Ld.i ?_; conv => whnf)
      | fail)
    refine ⟨_, _, rfl, ?_, .inr ⟨h0, b, _, rfl, rfl, X4, hX4, hv4, by omega, rfl⟩⟩
    first | exact Imp.refl _ | exact Imp.drop | exact Imp.fin | ((repeat (refine Imp.pick ?_)); first | exact Imp.refl _ | exact Imp.emp _ | exact Imp.fin)
  subst hT
  repeat' (first
    | (refine St.i ⟨rfl, rfl⟩ (List.cons_ne_nil _ _) ?_; conv => whnf)
    | fail)
  refine LeaveD.ret tab_ok (by simp) f_twin_Write_1.ok (DDoes.imp (by first | exact Imp.refl _ | exact Imp.drop | exact Imp.fin | ((repeat (refine Imp.pick ?_)); first | exact Imp.refl _ | exact Imp.emp _ | exact Imp.fin)) (write1_ok (v := .nilIface) (R := devo d X4 • R))) ?_
  rintro _ _ G ⟨rfl, rfl⟩
  conv => whnf
  repeat' (first
    | (refine Ld.i ?_; conv => whnf)
    | fail)
  refine ⟨_, _, rfl, ?_, .inl ⟨h0, rfl, X4, hX4, hv4, by omega, rfl⟩⟩
  first | exact Imp.refl _ | exact Imp.drop | exact Imp.fin | ((repeat (refine Imp.pick ?_)); first | exact Imp.refl _ | exact Imp.emp _ | exact Imp.fin)
end Go.Proofs.YtgcknlpkhhpkjaaGreatDoor
/- The program's package twin, walked: Finish. Conditions: in each statement. -/
namespace Go.SL
open Go
theorem CallK.have {P : Program} {W : World} {H : HProp} {p : Prop} {f : FuncId} {args : List Value} {K : Value → HProp → Prop} {Kp : List PanicEntry → HProp → Prop} (h : ∀ w, Sat W H w → p) (k : p → CallK P W f args H K Kp) : CallK P W f args H K Kp := by
  by_cases hp : p
  · exact k hp
  · exact ⟨.inr fun w hs => absurd (h w hs) hp⟩
end Go.SL
namespace Go.SL.Twn
open Go Go.SL Go.SL.Sec Go.SL.Fld Go.SL.Pts Go.SL.Rec
open Go.Proofs.YtgcknlpkhhpkjaaGreatDoor (zerosB)
/-- Finish: the error's number, whether something was done, the disk behind it. -/
def fin (D : Dev) (z : Int) : Int × Bool × Dev :=
  if D.down then (40, false, D) else if ¬ ThereP D.secs z 3 then (4, false, D) else
  if (D.at z)[511]? = some 0 then (0, false, D) else
  let h := getB (D.at z) 0 4
  if ¬ ((D.at z)[511]? = some 165 ∧ zerosB (((D.at z).drop 4).take 507) = true ∧ TmayP D.secs z h) then (84, false, D) else
  let r1 := pws h (D.at (z + 1) ++ D.at (z + 2)) 2 0 D
  if r1.1 ≠ 0 then (r1.1, false, r1.2) else
  let r2 := pws z ((D.at z).set 511 0) 1 0 r1.2
  if r2.1 ≠ 0 then (r2.1, false, r2.2) else (0, true, r2.2)
theorem Dev.at_byt {D : Dev} {i : Int} (h : D.Ok) : Byt (D.at i) := by
  unfold Dev.at
  cases hl : lastOf i D.q with
  | none => exact (h.byt.drop _).take _
  | some b =>
    obtain ⟨p, hp, rfl⟩ := lastOf_mem hl
    exact (h.q p hp).2.2.2
end Go.SL.Twn
namespace Go.Proofs.YtgcknlpkhhpkjaaGreatDoor
open Go Go.SL Go.SL.Sec Go.SL.Fld Go.SL.Pts Go.SL.Rec Go.SL.Twn
abbrev wFinish : ByteArray := ⟨#[70, 105, 110, 105, 115, 104]⟩
/-- What comes of Finish. -/
def FinQ (e : Int) (done : Bool) (P : HProp → Prop) (v : Value) (G : HProp) : Prop := (e = 0 ∧ v = .tuple ⟨[.bool done, .nilIface]⟩ ∧ P G) ∨ (e ≠ 0 ∧ ∃ k G0, v = .tuple ⟨[.bool false, .iface t_P_api_Fault (ptr k)]⟩ ∧ G = (fltc k wFinish 0 e • G0) ∧ P G0)
end Go.Proofs.YtgcknlpkhhpkjaaGreatDoor
/- The program's page.Encode, walked. Conditions: in each statement. -/
namespace Go.SL.Pg
open Go Go.SL Go.SL.Sec Go.SL.Fld Go.SL.Rec
theorem cntL_ok {c : CntV} (h : cntF c = 0) : ∀ p ∈ cntL c, (1 ≤ p.1 ∧ p.1 ≤ 8) ∧ 0 ≤ p.2 ∧ p.2 < 256 ^ p.1 := by
  obtain ⟨h1, h2, h3⟩ := cntF_ok h
  have b3 := u64_bd c.lo
  have b4 := u64_bd c.hi
  have b5 := u64_bd c.val
  have e1 := u64_small (z := c.id) (by omega)
  have e2 := u64_small (z := c.grp) (by omega)
  intro p hp
  simp only [cntL, List.mem_cons, List.not_mem_nil, or_false] at hp
  rcases hp with rfl | rfl | rfl | rfl | rfl
  · exact ⟨by simp, by rw [e1, p4]; omega⟩
  · exact ⟨by simp, by rw [e2, p4]; omega⟩
  · exact ⟨by simp, by rw [p8]; exact b3⟩
  · exact ⟨by simp, by rw [p8]; exact b4⟩
  · exact ⟨by simp, by rw [p8]; exact b5⟩
theorem grpL_ok {g : GrpV} (h : grpF g = 0) : ∀ p ∈ grpL g, (1 ≤ p.1 ∧ p.1 ≤ 8) ∧ 0 ≤ p.2 ∧ p.2 < 256 ^ p.1 := by
  have h1 := grpF_ok h
  have b2 := u64_bd g.sum
  have e1 := u64_small (z := g.id) (by omega)
  intro p hp
  simp only [grpL, List.mem_cons, List.not_mem_nil, or_false] at hp
  rcases hp with rfl | rfl
  · exact ⟨by simp, by rw [e1, p4]; omega⟩
  · exact ⟨by simp, by rw [p8]; exact b2⟩
theorem headL_ok {p : PgM} (h : p.fault = 0) : ∀ q ∈ p.headL, (1 ≤ q.1 ∧ q.1 ≤ 8) ∧ 0 ≤ q.2 ∧ q.2 < 256 ^ q.1 := by
  obtain ⟨h1, h2, h3, h4, h5, h6⟩ := PgM.fault_ok h
  have e1 := u64_small (z := p.num) (by omega)
  have e2 := u64_small (z := p.lsn) (by omega)
  intro q hq
  simp only [PgM.headL, List.mem_cons, List.not_mem_nil, or_false] at hq
  rcases hq with rfl | rfl | rfl | rfl | rfl | rfl
  · exact ⟨by simp, by decide⟩
  · refine ⟨by simp, ?_⟩
    dsimp only
    rw [p1]
    split <;> omega
  · exact ⟨by simp, by rw [e1, p2]; omega⟩
  · exact ⟨by simp, by rw [p2]; dsimp only; omega⟩
  · exact ⟨by simp, by decide⟩
  · exact ⟨by simp, by rw [e2, p4]; omega⟩
theorem flat_take1 {α : Type} {f : α → List Int} {l : List α} {i : Nat} {x : α} (h : l[i]? = some x) : (l.take (i + 1)).flatMap f = (l.take i).flatMap f ++ f x := by
  rw [List.take_add_one, h, List.flatMap_append]; simp
end Go.SL.Pg
namespace Go.Proofs.YtgcknlpkhhpkjaaGreatDoor
open Go Go.SL Go.SL.Sec Go.SL.Fld Go.SL.Pts Go.SL.Rec Go.SL.Pg
section
variable {W : World} {R : HProp} {num lsn : Int} {ca ga : Option Addr} {nC cc nG gc : Nat} {C : List CntV} {G : List GrpV}
-- @noauto
theorem pencode_no [rc : RowN W R ca nC 5 cntv C] [rg : RowN W R ga nG 2 grpv G] (hC : C.length ≤ 1000000000) (hG : G.length ≤ 1000000000) (hf : PgM.fault ⟨num, lsn, C, G⟩ ≠ 0) :
    Does prog W f_page_Encode ⟨[.agg ⟨[.int .i64 num, .int .i64 lsn, .slice ca nC cc, .slice ga nG gc]⟩]⟩ R (Ret fun v Q => v = .tuple ⟨[.slice none 0 0, .int .i64 (PgM.fault ⟨num, lsn, C, G⟩)]⟩ ∧ Q = R) := by
  obtain ⟨F, hF⟩ : ∃ F, F = PgM.fault ⟨num, lsn, C, G⟩ := ⟨_, rfl⟩
  rw [← hF] at hf ⊢
  refine f_page_Encode.does _ ?_
  conv => whnf
  repeat' (first
    | (refine CallK.ret f_page_Page_refused.ok (refused_spec hC hG) ?_; rw [← hF]; rintro v G ⟨rfl, rfl⟩; conv => whnf)
    | (rw [decide_eq_false hf]; conv => whnf)
    | (refine LdN.i ?_; conv => whnf)
    | (intro blk hblk; conv => whnf)
    | fail)
  refine Ret.eq rfl ?_
  first | exact Imp.refl _ | exact Imp.drop | exact Imp.fin | ((repeat (refine Imp.pick ?_)); first | exact Imp.refl _ | exact Imp.emp _ | exact Imp.fin)
set_option maxHeartbeats 2000000 in
-- @noauto
theorem pencode_yes [lc : LaidC W] [lp : LaidP W] [oc : OldC W R] [rc : RowN W R ca nC 5 cntv C] [rg : RowN W R ga nG 2 grpv G] (hf : PgM.fault ⟨num, lsn, C, G⟩ = 0) :
    Does prog W f_page_Encode ⟨[.agg ⟨[.int .i64 num, .int .i64 lsn, .slice ca nC cc, .slice ga nG gc]⟩]⟩ R (Ret fun v Q => ∃ a c, 1024 ≤ c ∧ v = .tuple ⟨[.slice a 1024 c, i0]⟩ ∧ Q = (vec t_uint8 1 bytv a c (encP ⟨num, lsn, C, G⟩) • R)) := by
  have h1 := rc.len
  have h2 := rg.len
  subst h1 h2
  haveI rC := rc.row
  haveI rG := rg.row
  obtain ⟨f1, f2, f3, f4, f5, f6⟩ := PgM.fault_ok hf
  dsimp only at f1 f2 f3 f4 f5 f6
  obtain ⟨cC, cG⟩ := contF_mem f6
  haveI := lp.h1
  haveI := lp.c1
  haveI := lp.gr1
  refine f_page_Encode.does _ ?_
  conv => whnf
  by_cases hn : C.length + G.length = 0
  · have e : encP ⟨num, lsn, C, G⟩ = z1024 := by unfold encP; rw [if_pos hn]
    rw [e]
    repeat' (first
      | (refine CallK.ret f_page_Page_refused.ok (refused_spec (C := C) (G := G) (by omega) (by omega)) ?_; rw [hf]; rintro v G ⟨rfl, rfl⟩; conv => whnf)
      | (refine CallK.ret f_page_Page_size.ok (size_spec (by omega) (by omega)) ?_; rw [hn]; rintro v G ⟨rfl, rfl⟩; conv => whnf)
      | (refine LdN.i ?_; conv => whnf)
      | (intro blk hblk; conv => whnf)
      | (refine OpX.make tab_ok bytv 0 rfl rfl rfl rfl rfl rfl (by omega) (fun s hs => ?_); rw [show List.replicate (Int.toNat 1024) (0 : Int) = z1024 from rfl, show Int.toNat 1024 = 1024 from rfl]; conv => whnf)
      | fail)
    refine ⟨_, _, rfl, ?_, some ⟨s, 0, none⟩, 1024, Nat.le_refl _, rfl, rfl⟩
    first | exact Imp.refl _ | exact Imp.drop | exact Imp.fin | ((repeat (refine Imp.pick ?_)); first | exact Imp.refl _ | exact Imp.emp _ | exact Imp.fin)
  obtain ⟨z, hz⟩ : ∃ z : Nat, z = C.length + G.length := ⟨_, rfl⟩
  have hz0 : ¬ ((z : Nat) : Int) = 0 := by omega
  have hH : ∀ kd : Int, kd = (if G.length > 0 then 2 else 1) → [(1, 113), (1, kd), (2, num), (2, (z : Int)), (2, 0), (4, lsn)] = PgM.headL ⟨num, lsn, C, G⟩ := fun kd hk => by
    unfold PgM.headL
    dsimp only
    rw [hk, hz, u64_small (z := num) (by omega), u64_small (z := lsn) (by omega)]
  obtain ⟨hd12, hhd⟩ : ∃ h, h = over z1024 0 (lays (PgM.headL ⟨num, lsn, C, G⟩)) := ⟨_, rfl⟩
  have hhl : hd12.length = 1024 := by rw [hhd, over_len (by rw [headL_len, z1024_len]; omega), z1024_len]
  have hcf : ∀ i, ((C.take i).flatMap fun c => lays (cntL c)).length = min i C.length * 32 := fun i => by rw [flat_len cntL_len, List.length_take]
  have hgf : ∀ i, ((G.take i).flatMap fun g => lays (grpL g)).length = min i G.length * 12 := fun i => by rw [flat_len grpL_len, List.length_take]
  by_cases hg : G.length > 0
  · repeat' (first
      | (refine CallK.ret f_page_Page_refused.ok (refused_spec (C := C) (G := G) (by omega) (by omega)) ?_; rw [hf]; rintro v G ⟨rfl, rfl⟩; conv => whnf)
      | (refine OpX.make tab_ok bytv 0 rfl rfl rfl rfl rfl rfl (by omega) (fun s hs => ?_); rw [show List.replicate (Int.toNat 1024) (0 : Int) = z1024 from rfl, show Int.toNat 1024 = 1024 from rfl]; conv => whnf)
      | (refine CallK.ret f_page_Page_size.ok (size_spec (by omega) (by omega)) ?_; rw [← hz]; rintro v G ⟨rfl, rfl⟩; conv => whnf)
      | (rw [decide_eq_false hz0]; conv => whnf)
      | (refine spl_dec (fun hd => ?_) (fun hd => ?_) <;> first | (exfalso; omega) | (conv => whnf))
      | (refine Ld.i ?_; conv => whnf)
      | (refine LdN.i ?_; conv => whnf)
      | (refine Ar.u64 (by omega) ?_; conv => whnf)
      | (intro blk hblk; conv => whnf)
      | (refine Sub.on (by first | exact Imp.refl _ | exact Imp.drop | exact Imp.fin | ((repeat (refine Imp.pick ?_)); first | exact Imp.refl _ | exact Imp.emp _ | exact Imp.fin)) ?_; conv => whnf)
      | (refine DrawK.introH tab_ok mixed 25 f_page_Encode.last10 f_page_Encode.plan10 _ rfl (by kernel_rfl) (Sub.of (by first | exact Imp.refl _ | exact Imp.drop | exact Imp.fin | ((repeat (refine Imp.pick ?_)); first | exact Imp.refl _ | exact Imp.emp _ | exact Imp.fin))) ?_; conv => whnf)
      | fail)
    refine CallK.ret f_page_laid.ok (plaid_spec (l := z1024) (z := 0) (PgM.headL ⟨num, lsn, C, G⟩) (rs := ⟨inferInstance, rfl⟩) (rn := ⟨inferInstance, rfl⟩) z1024_len.symm rfl (by rw [← hH 2 (by rw [if_pos hg])]; rfl) ⟨by omega, by rw [z1024_len]; simp [PgM.headL, laysN]⟩ (by rw [z1024_len]; decide) (headL_ok hf) (by simp [PgM.headL])) ?_
    rw [show Int.toNat 0 = 0 from rfl, ← hhd]
    rintro v Q ⟨rfl, rfl⟩
    conv => whnf
    repeat' (first
      | (refine Ld.i ?_; conv => whnf)
      | fail)
    refine LoopK.at tab_ok (L := f_page_Encode.live) (ι := Nat) (fun i => i ≤ C.length) (fun i => [(42, .int .i64 i)]) (fun i => vec t_uint8 1 bytv (some ⟨s, 0, none⟩) 1024 (over hd12 16 ((C.take i).flatMap fun c => lays (cntL c)))) (fun i => C.length - i) 0 (Nat.zero_le _) (fun t v h => h) (by rw [List.take_zero, List.flatMap_nil, over_nil]; exact Imp.refl _) ?_
    rintro i hi
    conv => whnf
    have hfl := hcf i
    have hol : (over hd12 16 ((C.take i).flatMap fun c => lays (cntL c))).length = 1024 := by rw [over_len (by rw [hfl]; omega), hhl]
    by_cases k1 : i < C.length
    · exact absurd k1 (by omega)
    · rw [List.take_of_length_le (by omega)]
      have hcl : (C.flatMap fun c => lays (cntL c)).length = C.length * 32 := flat_len cntL_len C
      repeat' (first
        | (refine spl_dec (fun hd => ?_) (fun hd => ?_) <;> first | (exfalso; omega) | (conv => whnf))
        | (refine Ld.i ?_; conv => whnf)
        | fail)
      refine LoopK.at tab_ok (L := f_page_Encode.live) (ι := Nat) (fun i => i ≤ G.length) (fun i => [(75, .int .i64 i)]) (fun i => vec t_uint8 1 bytv (some ⟨s, 0, none⟩) 1024 (over hd12 16 ((C.flatMap fun c => lays (cntL c)) ++ (G.take i).flatMap fun g => lays (grpL g)))) (fun i => G.length - i) 0 (Nat.zero_le _) (fun t v h => h) (by rw [List.take_zero, List.flatMap_nil, List.append_nil]; exact Imp.refl _) ?_
      rintro j hj
      conv => whnf
      have hgl := hgf j
      have hol2 : (over hd12 16 ((C.flatMap fun c => lays (cntL c)) ++ (G.take j).flatMap fun g => lays (grpL g))).length = 1024 := by rw [over_len (by rw [List.length_append, hcl, hgl, hhl]; omega), hhl]
      by_cases k2 : j < G.length
      · obtain ⟨x, hx⟩ : ∃ x, G[j]? = some x := ⟨_, List.getElem?_eq_getElem k2⟩
        have cf := cG x (List.mem_of_getElem? hx)
        have hxb := grpF_ok cf
        repeat' (first
          | (refine spl_dec (fun hd => ?_) (fun hd => ?_) <;> first | (exfalso; omega) | (conv => whnf))
          | (refine Ld.i ?_; conv => whnf)
          | (refine St.i ⟨rfl, rfl⟩ (List.cons_ne_nil _ _) ?_; conv => whnf)
          | (refine Ar.i64 (by omega) ?_; conv => whnf)
          | (refine Ar.u64 (by omega) ?_; conv => whnf)
          | (intro blk hblk; conv => whnf)
          | (refine IxS.r (i := j) rfl rfl k2 (fun ab off ha => ?_); cases ha; conv => whnf)
          | (refine LdN.r hx rfl ?_; conv => whnf)
          | (refine Ar.u64w ?_; conv => whnf)
          | fail)
        refine CallK.ret f_page_laid.ok (plaid_spec (l := over hd12 16 ((C.flatMap fun c => lays (cntL c)) ++ (G.take j).flatMap fun g => lays (grpL g))) (z := 16 + (j : Int) * 12) (grpL x) (rs := ⟨inferInstance, rfl⟩) (rn := ⟨inferInstance, rfl⟩) hol2.symm rfl (by simp only [grpL, List.map_cons, List.map_nil]; rw [u64_small (z := x.id) (by omega)]; rfl) ⟨by omega, by rw [hol2]; simp only [grpL, laysN]; omega⟩ (by rw [hol2]; decide) (grpL_ok cf) (by simp [grpL])) ?_
        rintro v Q ⟨rfl, rfl⟩
        conv => whnf
        have e : over (over hd12 16 ((C.flatMap fun c => lays (cntL c)) ++ (G.take j).flatMap fun g => lays (grpL g))) (16 + (j : Int) * 12).toNat (lays (grpL x)) = over hd12 16 ((C.flatMap fun c => lays (cntL c)) ++ (G.take (j + 1)).flatMap fun g => lays (grpL g)) := by
          rw [flat_take1 hx, ← List.append_assoc, show (16 + (j : Int) * 12).toNat = 16 + ((C.flatMap fun c => lays (cntL c)) ++ (G.take j).flatMap fun g => lays (grpL g)).length by rw [List.length_append, hcl, hgl]; omega]
          exact over_over (by rw [List.length_append, hcl, hgl, hhl]; omega)
        rw [e]
        repeat' (first
          | (refine Ar.i64 (by omega) ?_; conv => whnf)
          | fail)
        all_goals
          refine ⟨rfl, j + 1, k2, fun t v h => h, ?_, by omega⟩
          first | exact Imp.refl _ | exact Imp.drop | exact Imp.fin | ((repeat (refine Imp.pick ?_)); first | exact Imp.refl _ | exact Imp.emp _ | exact Imp.fin)
      · rw [List.take_of_length_le (l := G) (by omega)] at hol2 ⊢
        obtain ⟨B, hB⟩ : ∃ B, B = over hd12 16 ((C.flatMap fun c => lays (cntL c)) ++ G.flatMap fun g => lays (grpL g)) := ⟨_, rfl⟩
        have hBb : B = PgM.bare ⟨num, lsn, C, G⟩ := by rw [hB, hhd]; rfl
        have hBy : Byt B := by rw [hBb]; exact over_byt (over_byt z1024_byt (lays_byt _)) (body_byt _)
        rw [← hB] at hol2 ⊢
        have hsb := crc_bd (B.take 12 ++ [0, 0, 0, 0] ++ B.drop 16)
        obtain ⟨cs, hcs⟩ : ∃ c, c = sumP B := ⟨_, rfl⟩
        rw [show crcV (B.take 12 ++ [0, 0, 0, 0] ++ B.drop 16) = sumP B from rfl, ← hcs] at hsb
        repeat' (first
          | (refine CallK.ret f_page_sum.ok (psum_spec (l := B) hol2.symm hol2 (Nat.le_refl _) hBy) ?_; rw [← hcs]; rintro v Q ⟨rfl, rfl⟩; conv => whnf)
          | (refine spl_dec (fun hd => ?_) (fun hd => ?_) <;> first | (exfalso; omega) | (conv => whnf))
          | (refine Ar.u64 (by omega) ?_; conv => whnf)
          | (intro blk hblk; conv => whnf)
          | fail)
        refine CallK.ret f_page_laid.ok (plaid_spec (l := B) (z := 12) [(4, cs)] (rs := ⟨inferInstance, rfl⟩) (rn := ⟨inferInstance, rfl⟩) hol2.symm rfl rfl ⟨by omega, by rw [hol2]; simp [laysN]⟩ (by rw [hol2]; decide) (by simp only [List.mem_cons, List.not_mem_nil, or_false]; rintro p rfl; exact ⟨by simp, by rw [p4]; exact hsb⟩) (by simp)) ?_
        rintro v Q ⟨rfl, rfl⟩
        have e : over B (Int.toNat 12) (lays [(4, cs)]) = encP ⟨num, lsn, C, G⟩ := by
          unfold encP
          rw [if_neg hn, ← hBb, hcs]
          show over B 12 (Fld.leB 4 _ ++ []) = _
          rw [List.append_nil]
        rw [e]
        conv => whnf
        skip
        refine ⟨_, _, rfl, ?_, some ⟨s, 0, none⟩, 1024, Nat.le_refl _, rfl, rfl⟩
        first | exact Imp.refl _ | exact Imp.drop | exact Imp.fin | ((repeat (refine Imp.pick ?_)); first | exact Imp.refl _ | exact Imp.emp _ | exact Imp.fin)
  · repeat' (first
      | (refine CallK.ret f_page_Page_refused.ok (refused_spec (C := C) (G := G) (by omega) (by omega)) ?_; rw [hf]; rintro v G ⟨rfl, rfl⟩; conv => whnf)
      | (refine OpX.make tab_ok bytv 0 rfl rfl rfl rfl rfl rfl (by omega) (fun s hs => ?_); rw [show List.replicate (Int.toNat 1024) (0 : Int) = z1024 from rfl, show Int.toNat 1024 = 1024 from rfl]; conv => whnf)
      | (refine CallK.ret f_page_Page_size.ok (size_spec (by omega) (by omega)) ?_; rw [← hz]; rintro v G ⟨rfl, rfl⟩; conv => whnf)
      | (rw [decide_eq_false hz0]; conv => whnf)
      | (refine spl_dec (fun hd => ?_) (fun hd => ?_) <;> first | (exfalso; omega) | (conv => whnf))
      | (refine Ld.i ?_; conv => whnf)
      | (refine LdN.i ?_; conv => whnf)
      | (refine Ar.u64 (by omega) ?_; conv => whnf)
      | (intro blk hblk; conv => whnf)
      | (refine Sub.on (by first | exact Imp.refl _ | exact Imp.drop | exact Imp.fin | ((repeat (refine Imp.pick ?_)); first | exact Imp.refl _ | exact Imp.emp _ | exact Imp.fin)) ?_; conv => whnf)
      | (refine DrawK.introH tab_ok mixed 25 f_page_Encode.last10 f_page_Encode.plan10 _ rfl (by kernel_rfl) (Sub.of (by first | exact Imp.refl _ | exact Imp.drop | exact Imp.fin | ((repeat (refine Imp.pick ?_)); first | exact Imp.refl _ | exact Imp.emp _ | exact Imp.fin))) ?_; conv => whnf)
      | fail)
    refine CallK.ret f_page_laid.ok (plaid_spec (l := z1024) (z := 0) (PgM.headL ⟨num, lsn, C, G⟩) (rs := ⟨inferInstance, rfl⟩) (rn := ⟨inferInstance, rfl⟩) z1024_len.symm rfl (by rw [← hH 1 (by rw [if_neg hg])]; rfl) ⟨by omega, by rw [z1024_len]; simp [PgM.headL, laysN]⟩ (by rw [z1024_len]; decide) (headL_ok hf) (by simp [PgM.headL])) ?_
    rw [show Int.toNat 0 = 0 from rfl, ← hhd]
    rintro v Q ⟨rfl, rfl⟩
    conv => whnf
    repeat' (first
      | (refine Ld.i ?_; conv => whnf)
      | fail)
    refine LoopK.at tab_ok (L := f_page_Encode.live) (ι := Nat) (fun i => i ≤ C.length) (fun i => [(42, .int .i64 i)]) (fun i => vec t_uint8 1 bytv (some ⟨s, 0, none⟩) 1024 (over hd12 16 ((C.take i).flatMap fun c => lays (cntL c)))) (fun i => C.length - i) 0 (Nat.zero_le _) (fun t v h => h) (by rw [List.take_zero, List.flatMap_nil, over_nil]; exact Imp.refl _) ?_
    rintro i hi
    conv => whnf
    have hfl := hcf i
    have hol : (over hd12 16 ((C.take i).flatMap fun c => lays (cntL c))).length = 1024 := by rw [over_len (by rw [hfl]; omega), hhl]
    by_cases k1 : i < C.length
    · obtain ⟨x, hx⟩ : ∃ x, C[i]? = some x := ⟨_, List.getElem?_eq_getElem k1⟩
      have cf := cC x (List.mem_of_getElem? hx)
      have hxb := cntF_ok cf
      repeat' (first
        | (refine spl_dec (fun hd => ?_) (fun hd => ?_) <;> first | (exfalso; omega) | (conv => whnf))
        | (refine Ld.i ?_; conv => whnf)
        | (refine St.i ⟨rfl, rfl⟩ (List.cons_ne_nil _ _) ?_; conv => whnf)
        | (refine Ar.i64 (by omega) ?_; conv => whnf)
        | (refine Ar.u64 (by omega) ?_; conv => whnf)
        | (intro blk hblk; conv => whnf)
        | (refine IxS.r (i := i) rfl rfl k1 (fun ab off ha => ?_); cases ha; conv => whnf)
        | (refine LdN.r hx rfl ?_; conv => whnf)
        | (refine Ar.u64w ?_; conv => whnf)
        | fail)
      refine CallK.ret f_page_laid.ok (plaid_spec (l := over hd12 16 ((C.take i).flatMap fun c => lays (cntL c))) (z := 16 + (i : Int) * 32) (cntL x) (rs := ⟨inferInstance, rfl⟩) (rn := ⟨inferInstance, rfl⟩) hol.symm rfl (by simp only [cntL, List.map_cons, List.map_nil]; rw [u64_small (z := x.id) (by omega), u64_small (z := x.grp) (by omega)]; rfl) ⟨by omega, by rw [hol]; simp only [cntL, laysN]; omega⟩ (by rw [hol]; decide) (cntL_ok cf) (by simp [cntL])) ?_
      rintro v Q ⟨rfl, rfl⟩
      conv => whnf
      have e : over (over hd12 16 ((C.take i).flatMap fun c => lays (cntL c))) (16 + (i : Int) * 32).toNat (lays (cntL x)) = over hd12 16 ((C.take (i + 1)).flatMap fun c => lays (cntL c)) := by
        rw [flat_take1 hx, show (16 + (i : Int) * 32).toNat = 16 + ((C.take i).flatMap fun c => lays (cntL c)).length by rw [hfl]; omega]
        exact over_over (by rw [hfl, hhl]; omega)
      rw [e]
      repeat' (first
        | (refine Ar.i64 (by omega) ?_; conv => whnf)
        | fail)
      all_goals
        refine ⟨rfl, i + 1, k1, fun t v h => h, ?_, by omega⟩
        first | exact Imp.refl _ | exact Imp.drop | exact Imp.fin | ((repeat (refine Imp.pick ?_)); first | exact Imp.refl _ | exact Imp.emp _ | exact Imp.fin)
    · rw [List.take_of_length_le (by omega)]
      have hcl : (C.flatMap fun c => lays (cntL c)).length = C.length * 32 := flat_len cntL_len C
      repeat' (first
        | (refine spl_dec (fun hd => ?_) (fun hd => ?_) <;> first | (exfalso; omega) | (conv => whnf))
        | (refine Ld.i ?_; conv => whnf)
        | fail)
      refine LoopK.at tab_ok (L := f_page_Encode.live) (ι := Nat) (fun i => i ≤ G.length) (fun i => [(75, .int .i64 i)]) (fun i => vec t_uint8 1 bytv (some ⟨s, 0, none⟩) 1024 (over hd12 16 ((C.flatMap fun c => lays (cntL c)) ++ (G.take i).flatMap fun g => lays (grpL g)))) (fun i => G.length - i) 0 (Nat.zero_le _) (fun t v h => h) (by rw [List.take_zero, List.flatMap_nil, List.append_nil]; exact Imp.refl _) ?_
      rintro j hj
      conv => whnf
      have hgl := hgf j
      have hol2 : (over hd12 16 ((C.flatMap fun c => lays (cntL c)) ++ (G.take j).flatMap fun g => lays (grpL g))).length = 1024 := by rw [over_len (by rw [List.length_append, hcl, hgl, hhl]; omega), hhl]
      by_cases k2 : j < G.length
      · exact absurd k2 (by omega)
      · rw [List.take_of_length_le (l := G) (by omega)] at hol2 ⊢
        obtain ⟨B, hB⟩ : ∃ B, B = over hd12 16 ((C.flatMap fun c => lays (cntL c)) ++ G.flatMap fun g => lays (grpL g)) := ⟨_, rfl⟩
        have hBb : B = PgM.bare ⟨num, lsn, C, G⟩ := by rw [hB, hhd]; rfl
        have hBy : Byt B := by rw [hBb]; exact over_byt (over_byt z1024_byt (lays_byt _)) (body_byt _)
        rw [← hB] at hol2 ⊢
        have hsb := crc_bd (B.take 12 ++ [0, 0, 0, 0] ++ B.drop 16)
        obtain ⟨cs, hcs⟩ : ∃ c, c = sumP B := ⟨_, rfl⟩
        rw [show crcV (B.take 12 ++ [0, 0, 0, 0] ++ B.drop 16) = sumP B from rfl, ← hcs] at hsb
        repeat' (first
          | (refine CallK.ret f_page_sum.ok (psum_spec (l := B) hol2.symm hol2 (Nat.le_refl _) hBy) ?_; rw [← hcs]; rintro v Q ⟨rfl, rfl⟩; conv => whnf)
          | (refine spl_dec (fun hd => ?_) (fun hd => ?_) <;> first | (exfalso; omega) | (conv => whnf))
          | (refine Ar.u64 (by omega) ?_; conv => whnf)
          | (intro blk hblk; conv => whnf)
          | fail)
        refine CallK.ret f_page_laid.ok (plaid_spec (l := B) (z := 12) [(4, cs)] (rs := ⟨inferInstance, rfl⟩) (rn := ⟨inferInstance, rfl⟩) hol2.symm rfl rfl ⟨by omega, by rw [hol2]; simp [laysN]⟩ (by rw [hol2]; decide) (by simp only [List.mem_cons, List.not_mem_nil, or_false]; rintro p rfl; exact ⟨by simp, by rw [p4]; exact hsb⟩) (by simp)) ?_
        rintro v Q ⟨rfl, rfl⟩
        have e : over B (Int.toNat 12) (lays [(4, cs)]) = encP ⟨num, lsn, C, G⟩ := by
          unfold encP
          rw [if_neg hn, ← hBb, hcs]
          show over B 12 (Fld.leB 4 _ ++ []) = _
          rw [List.append_nil]
        rw [e]
        conv => whnf
        skip
        refine ⟨_, _, rfl, ?_, some ⟨s, 0, none⟩, 1024, Nat.le_refl _, rfl, rfl⟩
        first | exact Imp.refl _ | exact Imp.drop | exact Imp.fin | ((repeat (refine Imp.pick ?_)); first | exact Imp.refl _ | exact Imp.emp _ | exact Imp.fin)
end
end Go.Proofs.YtgcknlpkhhpkjaaGreatDoor
/- The program's page.Copy, walked. Conditions: in each statement. -/
namespace Go.Proofs.YtgcknlpkhhpkjaaGreatDoor
open Go Go.SL Go.SL.Sec Go.SL.Fld Go.SL.Pts Go.SL.Rec Go.SL.Pg
-- @noauto
theorem pcopy_spec {W : World} {R : HProp} {num lsn : Int} {ca ga : Option Addr} {nC cc nG gc : Nat} {C : List CntV} {G : List GrpV} [rc : RowN W R ca nC 5 cntv C] [rg : RowN W R ga nG 2 grpv G] (hC : C.length ≤ 1000000000) (hG : G.length ≤ 1000000000) :
    Does prog W f_page_Page_Copy ⟨[.agg ⟨[.int .i64 num, .int .i64 lsn, .slice ca nC cc, .slice ga nG gc]⟩]⟩ R (Ret fun v Q => ∃ x : PgX, x.m = ⟨num, lsn, C, G⟩ ∧ v = pgv x ∧ Q = (pgc x • R)) := by
  refine f_page_Page_Copy.does _ ?_
  conv => whnf
  repeat' (first
    | (refine CallK.ret f_slices_Clone_S_api_Counter_api_Counter.ok (cloneC_spec (l := C) (by omega)) ?_; rintro v Q ⟨ka, kc, hka, rfl, rfl⟩; conv => whnf)
    | (refine CallK.ret f_slices_Clone_S_api_Group_api_Group.ok (cloneP_spec (l := G) (by omega)) ?_; rintro v Q ⟨ja, jc, hja, rfl, rfl⟩; conv => whnf)
    | (refine Ld.i ?_; conv => whnf)
    | (refine LdN.i ?_; conv => whnf)
    | (refine St.i ⟨rfl, rfl⟩ (List.cons_ne_nil _ _) ?_; conv => whnf)
    | (intro blk hblk; conv => whnf)
    | (refine Sub.on (by first | exact Imp.refl _ | exact Imp.drop | exact Imp.fin | ((repeat (refine Imp.pick ?_)); first | exact Imp.refl _ | exact Imp.emp _ | exact Imp.fin)) ?_; conv => whnf)
    | (refine DrawK.introH tab_ok mixed 5 f_page_Page_Copy.last2 f_page_Page_Copy.plan2 _ rfl (by kernel_rfl) (Sub.of (by first | exact Imp.refl _ | exact Imp.drop | exact Imp.fin | ((repeat (refine Imp.pick ?_)); first | exact Imp.refl _ | exact Imp.emp _ | exact Imp.fin))) ?_; conv => whnf)
    | fail)
  refine ⟨_, _, rfl, ?_, ⟨⟨num, lsn, C, G⟩, ka, kc, ja, jc⟩, rfl, rfl, rfl⟩
  rw [pgc_eq]
  first | exact Imp.refl _ | exact Imp.drop | exact Imp.fin | ((repeat (refine Imp.pick ?_)); first | exact Imp.refl _ | exact Imp.emp _ | exact Imp.fin)
end Go.Proofs.YtgcknlpkhhpkjaaGreatDoor
