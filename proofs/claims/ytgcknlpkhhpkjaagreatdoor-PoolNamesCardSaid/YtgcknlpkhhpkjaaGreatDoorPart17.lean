/- The program's disk: writes, syncs. Conditions: in each statement. -/
import Derived.Test.YtgcknlpkhhpkjaaGreatDoorPart12
namespace Go.Proofs.YtgcknlpkhhpkjaaGreatDoor
open Go Go.SL Go.SL.Sec
section
variable {W : World} {R : HProp} {d : Nat} {X : DevX}
/-- A disk is read as it lies, and opened by the first write. -/
instance (priority := 100) RdC.devo {off : Nat} {v : Value} [i : LAt [.slice X.ia X.img.length X.ic, .slice X.qa X.ps.length X.qc, .int .i64 X.step, .slice X.ka X.keep.length X.kc, .int .i64 X.torn, .int .i64 X.off, .bool X.down, .int .i64 X.calls] off v] : RdC W (devo d X • R) ⟨d, off, none⟩ v := by
  rw [devo_eq]; exact RdC.here
instance (priority := 100) RdLC.devo {off n : Nat} {vs : List Value} [i : LSub [.slice X.ia X.img.length X.ic, .slice X.qa X.ps.length X.qc, .int .i64 X.step, .slice X.ka X.keep.length X.kc, .int .i64 X.torn, .int .i64 X.off, .bool X.down, .int .i64 X.calls] off n vs] : RdLC W (devo d X • R) d off n vs := by
  rw [devo_eq]; exact RdLC.here
instance (priority := 100) PtsC.devo : PtsC (devo d X • R) d (.cells ⟨[.slice X.ia X.img.length X.ic, .slice X.qa X.ps.length X.qc, .int .i64 X.step, .slice X.ka X.keep.length X.kc, .int .i64 X.torn, .int .i64 X.off, .bool X.down, .int .i64 X.calls]⟩ t_sectors_Device)
    (vec t_uint8 1 bytv X.ia X.ic X.img • vec t_api_Pending 2 pendv X.qa X.qc X.ps • bigL pendc X.ps • vec t_uint64 1 u64s X.ka X.kc X.keep • R) := ⟨⟨by rw [devo_eq]⟩⟩
instance (priority := 100) VecC.devq : VecC (devo d X • R) X.qa t_api_Pending 2 pendv X.qc X.ps
    (pts d (.cells ⟨[.slice X.ia X.img.length X.ic, .slice X.qa X.ps.length X.qc, .int .i64 X.step, .slice X.ka X.keep.length X.kc, .int .i64 X.torn, .int .i64 X.off, .bool X.down, .int .i64 X.calls]⟩ t_sectors_Device) • vec t_uint8 1 bytv X.ia X.ic X.img • bigL pendc X.ps • vec t_uint64 1 u64s X.ka X.kc X.keep • R) :=
  ⟨⟨by rw [devo_eq, star_left_comm (vec t_uint8 1 bytv X.ia X.ic X.img), star_left_comm (pts d _)]⟩⟩
instance (priority := 100) RowC.devq : RowC W (devo d X • R) X.qa 2 pendv X.ps := by rw [devo_eq]; infer_instance
instance (priority := 100) RowC.devi : RowC W (devo d X • R) X.ia 1 bytv X.img := by rw [devo_eq]; infer_instance
instance (priority := 100) RowC.devk : RowC W (devo d X • R) X.ka 1 u64s X.keep := by rw [devo_eq]; infer_instance
instance (priority := 95) RowC.devp {p : PendX} [m : MemC X.ps p] : RowC W (devo d X • R) p.a 1 bytv p.b := by rw [devo_eq]; infer_instance
instance (priority := 100) KeepC.devo {A : HProp} [k : KeepC R A] : KeepC (devo d X • R) (pts d (.cells ⟨[.slice X.ia X.img.length X.ic, .slice X.qa X.ps.length X.qc, .int .i64 X.step, .slice X.ka X.keep.length X.kc, .int .i64 X.torn, .int .i64 X.off, .bool X.down, .int .i64 X.calls]⟩ t_sectors_Device) • A) :=
  ⟨by rw [devo_eq]; exact Imp.right (Imp.trans Imp.drop (Imp.trans Imp.drop (Imp.trans Imp.drop (Imp.trans Imp.drop k.h))))⟩
end
instance {s : Int} {a : Option Addr} {l : List Int} {c : Nat} : DecOf pendv [.int .i64 s, .slice a l.length c] ⟨s, a, c, l⟩ := ⟨rfl⟩
instance : OneC pendv := ⟨pend_one⟩
def DevX.push (X : DevX) (qa : Option Addr) (qc : Nat) (p : PendX) : DevX := { X with calls := wr (X.calls + 1), step := if X.step = 0 then 0 else X.step - 1, qa := qa, qc := qc, ps := X.ps ++ [p] }
theorem devo_push {d : Nat} {X : DevX} {qa : Option Addr} {qc : Nat} {p : PendX} {R : HProp} :
    (devo d (X.push qa qc p) • R) = (pts d (.cells ⟨[.slice X.ia X.img.length X.ic, .slice qa (X.ps ++ [p]).length qc, .int .i64 (if X.step = 0 then 0 else X.step - 1), .slice X.ka X.keep.length X.kc, .int .i64 X.torn, .int .i64 X.off, .bool X.down, .int .i64 (wr (X.calls + 1))]⟩ t_sectors_Device) •
      vec t_uint8 1 bytv X.ia X.ic X.img • vec t_api_Pending 2 pendv qa qc (X.ps ++ [p]) • vec t_uint8 1 bytv p.a p.cap p.b • bigL pendc X.ps • vec t_uint64 1 u64s X.ka X.kc X.keep • R) := by
  rw [devo_eq, DevX.push, bigL_snoc]
  simp only [star_assoc]
  rfl
theorem devo_dev0 (d : Nat) (X : DevX) (R : HProp) : (devo d X • R) = (dev0 d X • vec t_uint64 1 u64s X.ka X.kc X.keep • R) := star_assoc _ _ _
/-- A crash, the loss's numbers elsewhere; the disk's own loss. -/
theorem fallx_spec {W : World} {H R : HProp} {d : Nat} {X : DevX} {a : Option Addr} {n c : Nat} {keep : List Int} {torn off : Int} [t : DevC H d X R] [ro : RowN W R a n 1 u64s keep] (hX : X.Ok) (hq : X.ps.length ≤ 1000000) :
    Does prog W f_sectors_Device_fall ⟨[ptr d, .agg ⟨[.slice a n c, .int .i64 torn, .int .i64 off]⟩]⟩ H (Ret fun v G => v = .int .i64 40 ∧ G = (devo d (X.fell keep torn off) • R)) := by
  rw [t.h.eq, devo_dev0]
  exact Does.imp (Imp.right Imp.drop) (fall_spec hX hq ro)
-- @noauto
theorem fallo_spec {W : World} {H R : HProp} {d : Nat} {X : DevX} {c : Nat} {torn off : Int} [t : DevC H d X R] (hX : X.Ok) (hq : X.ps.length ≤ 1000000) :
    Does prog W f_sectors_Device_fall ⟨[ptr d, .agg ⟨[.slice X.ka X.keep.length c, .int .i64 torn, .int .i64 off]⟩]⟩ H (Ret fun v G => v = .int .i64 40 ∧ G = (devo d (X.fell X.keep torn off) • R)) := by
  rw [t.h.eq, devo_dev0]
  have := fall_spec (W := W) (R := vec t_uint64 1 u64s X.ka X.kc X.keep • R) (d := d) (a := X.ka) (n := X.keep.length) (c := c) (keep := X.keep) (torn := torn) (off := off) hX hq ⟨RowC.here, rfl⟩
  refine this.post fun e w H' hs hq => ?_
  obtain ⟨v, G, h1, h2, h3, rfl⟩ := hq
  exact ⟨H', hs, v, _, h1, Imp.trans h2 (Imp.right Imp.drop), h3, rfl⟩
theorem push_val (X : DevX) (qa : Option Addr) (qc : Nat) (p : PendX) : (X.push qa qc p).val = { X.val.counted with q := X.val.q ++ [(p.sec, p.b)] } := by
  simp [DevX.push, DevX.val, Dev.counted]
  rfl
theorem fell_ok {X : DevX} (h : X.Ok) (keep : List Int) (torn off : Int) : (X.fell keep torn off).Ok :=
  ⟨h.val.fallen keep torn off, by
    show (fallG keep torn off 0 X.val.q X.img).length ≤ X.ic
    rw [(fallG_ok (keep := keep) (torn := torn) (off := off) X.val.q 0 X.img h.val.q h.val.byt).1]
    exact h.ic, fun p hp => (by cases hp)⟩
theorem write_spec {W : World} {H R : HProp} {d : Nat} {X : DevX} {i : Int} {ba : Option Addr} {bn bc : Nat} {b : List Int} [t : DevC H d X R] [ro : RowN W R ba bn 1 bytv b] (hX : X.Ok) (hq : X.ps.length + 1 ≤ 1000000) (hb : Byt b) (hbl : b.length ≤ 16777216) :
    Does prog W f_sectors_Device_Write ⟨[ptr d, .int .i64 i, .slice ba bn bc]⟩ H (Ret fun v G => ∃ X', X'.Ok ∧ X'.val = (X.val.write i b).2 ∧ X'.ps.length ≤ X.ps.length + 1 ∧ v = .int .i64 (X.val.write i b).1 ∧ G = (devo d X' • R)) := by
  rw [t.h.eq]
  have hn := ro.len
  subst hn
  haveI r' := ro.row
  have hw := hX.val.write (i := i) hb
  unfold Dev.write at hw ⊢
  refine f_sectors_Device_Write.does _ _ _ ?_
  conv => whnf
  by_cases h1 : X.down = true
  · have h1' : X.val.down = true := h1
    rw [if_pos h1'] at hw ⊢
    repeat' (first
      | (refine spl_t h1 ?_; conv => whnf)
      | (refine Ld.i ?_; conv => whnf)
      | fail)
    exact ⟨_, _, rfl, Imp.refl _, X, hX, rfl, by omega, rfl, rfl⟩
  have h1' : ¬ X.val.down = true := h1
  have h1f : X.down = false := by simpa using h1
  rw [if_neg h1'] at hw ⊢
  by_cases h2 : i < 0 ∨ i ≥ X.val.secs
  · rw [if_pos h2] at hw ⊢
    repeat' (first
      | (refine spl_f h1f ?_; conv => whnf)
      | (refine spl_dec (fun hd => ?_) (fun hd => ?_) <;> first | (exfalso; omega) | (conv => whnf))
      | (refine Ld.i ?_; conv => whnf)
      | (refine CallK.ret f_sectors_Device_Sectors.ok (sectors_spec (by first | rfl | assumption | omega | decide | (simp; done) | (simp; omega) | (simp at *; omega))) ?_; rintro v G ⟨rfl, rfl⟩; conv => whnf)
      | fail)
    all_goals exact ⟨_, _, rfl, Imp.refl _, X, hX, rfl, by omega, rfl, rfl⟩
  rw [if_neg h2] at hw ⊢
  by_cases h3 : b.length ≠ 512
  · rw [if_pos h3] at hw ⊢
    repeat' (first
      | (refine spl_f h1f ?_; conv => whnf)
      | (refine spl_dec (fun hd => ?_) (fun hd => ?_) <;> first | (exfalso; omega) | (conv => whnf))
      | (refine spl_ndec (fun hd => ?_) (fun hd => ?_) <;> first | (exfalso; omega) | (conv => whnf))
      | (refine Ld.i ?_; conv => whnf)
      | (refine CallK.ret f_sectors_Device_Sectors.ok (sectors_spec (by first | rfl | assumption | omega | decide | (simp; done) | (simp; omega) | (simp at *; omega))) ?_; rintro v G ⟨rfl, rfl⟩; conv => whnf)
      | fail)
    all_goals exact ⟨_, _, rfl, Imp.refl _, X, hX, rfl, by omega, rfl, rfl⟩
  rw [if_neg h3] at hw ⊢
  repeat' (first
    | (refine spl_f h1f ?_; conv => whnf)
    | (refine spl_dec (fun hd => ?_) (fun hd => ?_) <;> first | (exfalso; omega) | (conv => whnf))
    | (refine spl_ndec (fun hd => ?_) (fun hd => ?_) <;> first | (exfalso; omega) | (conv => whnf))
    | (refine Ld.i ?_; conv => whnf)
    | (refine LdN.i ?_; conv => whnf)
    | (refine St.i ⟨rfl, rfl⟩ (List.cons_ne_nil _ _) ?_; conv => whnf)
    | (intro blk hblk; conv => whnf)
    | (refine OpX.app1g tab_ok rfl rfl rfl rfl rfl rfl (by dsimp only; omega) (fun a' c' => ?_); conv => whnf)
    | (refine Sub.on (by first | exact Imp.refl _ | exact Imp.drop | exact Imp.fin | ((repeat (refine Imp.pick ?_)); first | exact Imp.refl _ | exact Imp.emp _ | exact Imp.fin)) ?_; conv => whnf)
    | (refine Sub.on (Imp.trans KeepC.h (by first | exact Imp.refl _ | exact Imp.drop | exact Imp.fin | ((repeat (refine Imp.pick ?_)); first | exact Imp.refl _ | exact Imp.emp _ | exact Imp.fin))) ?_; conv => whnf)
    | (refine CallK.ret f_sectors_Device_Sectors.ok (sectors_spec (by first | rfl | assumption | omega | decide | (simp; done) | (simp; omega) | (simp at *; omega))) ?_; rintro v G ⟨rfl, rfl⟩; conv => whnf)
    | (refine CallK.ret f_sectors_Device_crashes.ok (crashes_spec (by first | rfl | assumption | omega | decide | (simp; done) | (simp; omega) | (simp at *; omega))) ?_; rintro v G ⟨rfl, rfl⟩; conv => whnf)
    | (refine DrawK.introK tab_ok mixed 28 f_sectors_Device_Write.last8 f_sectors_Device_Write.plan8 rfl (by kernel_rfl) ?_; conv => whnf)
    | (refine CallK.ret f_bytes_Clone.ok (clone_spec (by first | rfl | assumption | omega | decide | (simp; done) | (simp; omega) | (simp at *; omega))) ?_; rintro v G ⟨e_a', e_cap', e_h1, rfl, rfl⟩; conv => whnf)
    | fail)
  all_goals
    have hcr : X.val.crashes = decide (X.step = 1) := rfl
    have hpo : ({ X.val.counted with q := X.val.q ++ [(i, b)] } : Dev).Ok := Dev.Ok.pushed (D := X.val.counted) hX.val.counted h2 (by omega) hb
    have hcap : ∀ (a' : Option Addr) (c' : Nat) (e_a' : Option Addr) (e_cap' : Nat), b.length ≤ e_cap' → (X.push a' c' ⟨i, e_a', e_cap', b⟩).Ok := fun a' c' e_a' e_cap' hc => ⟨by rw [push_val]; exact hpo, hX.ic, fun p hp => by
      rcases List.mem_append.1 hp with hp | hp
      · exact hX.caps p hp
      · obtain rfl := List.mem_singleton.1 hp; exact hc⟩
  · have hY := hcap a' c' e_a' e_cap' e_h1
    refine CallK.ret f_sectors_Device_fall.ok (Does.imp (H' := dev0 d (X.push a' c' ⟨i, e_a', e_cap', b⟩) • vec t_uint64 1 u64s X.ka X.kc X.keep • R) ?_ (fall_spec (a := X.ka) (keep := X.keep) hY (by simp [DevX.push]; omega) ⟨RowC.here, rfl⟩)) ?_
    · rw [show (dev0 d (X.push a' c' ⟨i, e_a', e_cap', b⟩) • vec t_uint64 1 u64s X.ka X.kc X.keep • R) = (devo d (X.push a' c' ⟨i, e_a', e_cap', b⟩) • R) from (star_assoc _ _ _).symm, devo_push]
      dsimp only
      first | exact Imp.refl _ | exact Imp.drop | exact Imp.fin | ((repeat (refine Imp.pick ?_)); first | exact Imp.refl _ | exact Imp.emp _ | exact Imp.fin)
    · rintro v G ⟨rfl, rfl⟩
      conv => whnf
      skip
      have hc2 : X.val.crashes = true := by rw [hcr]; exact decide_eq_true hd
      rw [if_pos hc2]
      refine ⟨_, _, rfl, Imp.right Imp.drop, _, fell_ok hY _ _ _, ?_, ?_, rfl, rfl⟩
      · show Dev.fallen _ _ _ _ = _
        rw [push_val]
        rfl
      · simp [DevX.fell]
  · have hY := hcap a' c' e_a' e_cap' e_h1
    have hc2 : ¬ X.val.crashes = true := by rw [hcr]; simpa using hd
    rw [if_neg hc2]
    refine ⟨_, _, rfl, ?_, X.push a' c' ⟨i, e_a', e_cap', b⟩, hY, push_val _ _ _ _, by simp [DevX.push], rfl, rfl⟩
    rw [devo_push]
    dsimp only
    first | exact Imp.refl _ | exact Imp.drop | exact Imp.fin | ((repeat (refine Imp.pick ?_)); first | exact Imp.refl _ | exact Imp.emp _ | exact Imp.fin)
-- @pat write_spec ⟨X', hX', hv', hl', rfl, rfl⟩
end Go.Proofs.YtgcknlpkhhpkjaaGreatDoor
/- The program's disk: syncs, crashes, arming, new ones. Conditions: in each statement. -/
namespace Go.Proofs.YtgcknlpkhhpkjaaGreatDoor
open Go Go.SL Go.SL.Sec
def DevX.flushed (X : DevX) : DevX := { X with calls := wr (X.calls + 1), step := if X.step = 0 then 0 else X.step - 1, img := flushG X.val.q X.img, qa := none, qc := 0, ps := [] }
theorem flushed_val (X : DevX) : X.flushed.val = { X.val.counted with img := flushG X.val.q X.val.img, q := [] } := by
  simp [DevX.flushed, DevX.val, Dev.counted]
  rfl
theorem sync_spec {W : World} {H R : HProp} {d : Nat} {X : DevX} [t : DevC H d X R] (hX : X.Ok) (hq : X.ps.length ≤ 1000000) :
    Does prog W f_sectors_Device_Sync ⟨[ptr d]⟩ H (Ret fun v G => ∃ X', X'.Ok ∧ X'.val = X.val.sync.2 ∧ X'.ps.length ≤ X.ps.length ∧ v = .int .i64 X.val.sync.1 ∧ G = (devo d X' • R)) := by
  rw [t.h.eq]
  have hw := hX.val.sync
  unfold Dev.sync at hw ⊢
  have hl := hX.len
  have hcnt : ({ X with calls := wr (X.calls + 1), step := if X.step = 0 then 0 else X.step - 1 } : DevX).Ok := ⟨hX.val.counted, hX.ic, hX.caps⟩
  refine f_sectors_Device_Sync.does _ ?_
  conv => whnf
  by_cases h1 : X.down = true
  · have h1' : X.val.down = true := h1
    rw [if_pos h1'] at hw ⊢
    repeat' (first
      | (refine spl_t h1 ?_; conv => whnf)
      | (refine Ld.i ?_; conv => whnf)
      | fail)
    exact ⟨_, _, rfl, Imp.refl _, X, hX, rfl, by omega, rfl, rfl⟩
  have h1' : ¬ X.val.down = true := h1
  have h1f : X.down = false := by simpa using h1
  rw [if_neg h1'] at hw ⊢
  repeat' (first
    | (refine spl_f h1f ?_; conv => whnf)
    | (refine spl_dec (fun hd => ?_) (fun hd => ?_) <;> first | (exfalso; omega) | (conv => whnf))
    | (refine Ld.i ?_; conv => whnf)
    | (refine LdN.i ?_; conv => whnf)
    | (refine CallK.ret f_sectors_Device_crashes.ok (crashes_spec (by first | rfl | assumption | omega | decide | (simp; done) | (simp; omega) | (simp at *; omega))) ?_; rintro v G ⟨rfl, rfl⟩; conv => whnf)
    | fail)
  · have hc2 : X.val.crashes = true := decide_eq_true hd
    rw [if_pos hc2] at hw ⊢
    repeat' (first
      | (refine CallK.ret f_sectors_Device_fall.ok ((fallo_spec hcnt hq)) ?_; rintro v G ⟨rfl, rfl⟩; conv => whnf)
      | fail)
    exact ⟨_, _, rfl, Imp.refl _, _, fell_ok hcnt _ _ _, rfl, by simp [DevX.fell], rfl, rfl⟩
  · have hc2 : ¬ X.val.crashes = true := fun h => hd (of_decide_eq_true h)
    rw [if_neg hc2] at hw ⊢
    have hqv := hX.val.q
    have hfl := flushG_ok X.val.q X.img hX.val.q hX.val.byt
    have hOk : X.flushed.Ok := ⟨by rw [flushed_val]; exact hw, by show (flushG X.val.q X.img).length ≤ X.ic; rw [hfl.1]; exact hX.ic, fun p hp => (by cases hp)⟩
    have hgo : ∀ (e : Ending) (H : HProp), Ret (fun v G => v = i0 ∧ G = (devo d X.flushed • R)) e H → Ret (fun v G => ∃ X', X'.Ok ∧ X'.val = { X.val.counted with img := flushG X.val.q X.val.img, q := [] } ∧ X'.ps.length ≤ X.ps.length ∧ v = i0 ∧ G = (devo d X' • R)) e H :=
      fun e H ⟨v, G, h1, h2, h3, h4⟩ => ⟨v, G, h1, h2, X.flushed, hOk, flushed_val X, by simp [DevX.flushed], h3, h4⟩
    rw [devo_eq]
    dsimp only
    obtain ⟨qa, hqa⟩ : ∃ qa, qa = X.qa := ⟨_, rfl⟩
    obtain ⟨Q, hQ⟩ : ∃ Q, Q = X.val.q := ⟨_, rfl⟩
    rw [← hqa]
    rw [← hQ] at hqv hfl
    have hQl : Q.length = X.ps.length := by rw [hQ]; simp [DevX.val]
    refine LoopK.at tab_ok (L := f_sectors_Device_Sync.live) (ι := Nat × List Int) (fun i => i.1 ≤ X.ps.length ∧ i.2.length = X.img.length ∧ flushG (Q.drop i.1) i.2 = flushG Q X.img)
      (fun i => [(22, .int .i64 i.1)]) (fun i => vec t_uint8 1 bytv X.ia X.ic i.2) (fun i => X.ps.length - i.1) (0, X.img) ⟨by simp, rfl, by simp⟩ (fun t v h => h) (Imp.pick (Imp.refl _)) ?_
    rintro ⟨i, m⟩ ⟨hi, hm, hf⟩
    dsimp only at hi hm hf ⊢
    conv => whnf
    by_cases h1 : i < X.ps.length
    · obtain ⟨p, hp⟩ : ∃ p, X.ps[i]? = some p := ⟨_, List.getElem?_eq_getElem h1⟩
      have hpq : Q[i]? = some (p.sec, p.b) := by rw [hQ]; simp [DevX.val, hp]
      obtain ⟨q1, q2, q3, q4⟩ := hqv _ (List.mem_of_getElem? hpq)
      dsimp only at q1 q2 q3 q4
      have q2' : p.sec.toNat * 512 + 512 ≤ X.img.length := q2
      rw [drop_of hpq, flushG] at hf
      haveI mp : MemC X.ps p := ⟨List.mem_of_getElem? hp⟩
      have hic := hX.ic
      repeat' (first
        | (refine spl_dec (fun hd => ?_) (fun hd => ?_) <;> first | (exfalso; omega) | (conv => whnf))
        | (refine Ld.i ?_; conv => whnf)
        | (refine St.i ⟨rfl, rfl⟩ (List.cons_ne_nil _ _) ?_; conv => whnf)
        | (refine Ar.i64 (by omega) ?_; conv => whnf)
        | (intro blk hblk; conv => whnf)
        | (refine IxS.r (i := i) (xs := X.ps) rfl rfl h1 (fun ab off' ha => ?_); subst ha; conv => whnf)
        | (refine LdN.r hp rfl ?_; conv => whnf)
        | (refine OpX.cpyW (ys := p.b) tab_ok inferInstance rfl rfl rfl rfl rfl (by omega) (by omega) ?_; conv => whnf)
        | (refine Sub.on (by first | exact Imp.refl _ | exact Imp.drop | exact Imp.fin | ((repeat (refine Imp.pick ?_)); first | exact Imp.refl _ | exact Imp.emp _ | exact Imp.fin)) ?_; conv => whnf)
        | (refine DrawK.introH tab_ok mixed 26 f_sectors_Device_Sync.last8 f_sectors_Device_Sync.plan8 _ rfl (by kernel_rfl) (Sub.of (by first | exact Imp.refl _ | exact Imp.drop | exact Imp.fin | ((repeat (refine Imp.pick ?_)); first | exact Imp.refl _ | exact Imp.emp _ | exact Imp.fin))) ?_; conv => whnf)
        | (refine CallK.ret f_sectors_Device_sector.ok (sector_spec (by first | rfl | assumption | omega | decide | (simp; done) | (simp; omega) | (simp at *; omega)) (by first | rfl | assumption | omega | decide | (simp; done) | (simp; omega) | (simp at *; omega)) (by first | rfl | assumption | omega | decide | (simp; done) | (simp; omega) | (simp at *; omega))) ?_; rintro v G ⟨rfl, rfl⟩; conv => whnf)
        | fail)
      refine ⟨rfl, (i + 1, layAt m p.sec p.b), ⟨h1, ?_, hf⟩, fun t v h => h, ?_, by dsimp only; omega⟩
      · rw [layAt_len (by omega)]; exact hm
      · dsimp only
        unfold layAt
        first | exact Imp.refl _ | exact Imp.drop | exact Imp.fin | ((repeat (refine Imp.pick ?_)); first | exact Imp.refl _ | exact Imp.emp _ | exact Imp.fin)
    · have hdr : Q.drop i = [] := List.drop_eq_nil_of_le (by omega)
      rw [hdr, flushG] at hf
      repeat' (first
        | (refine spl_dec (fun hd => ?_) (fun hd => ?_) <;> first | (exfalso; omega) | (conv => whnf))
        | (refine St.i ⟨rfl, rfl⟩ (List.cons_ne_nil _ _) ?_; conv => whnf)
        | fail)
      refine hgo _ _ (Ret.eq rfl ?_)
      rw [devo_eq]
      simp only [DevX.flushed]
      rw [← hQ, ← hf, hm]
      refine Imp.pick ?_
      refine Imp.pick ?_
      refine Imp.vnil ?_
      refine Imp.empi ?_
      first | exact Imp.refl _ | exact Imp.drop | exact Imp.fin | ((repeat (refine Imp.pick ?_)); first | exact Imp.refl _ | exact Imp.emp _ | exact Imp.fin)
-- @pat sync_spec ⟨X', hX', hv', hl', rfl, rfl⟩
theorem crash_spec {W : World} {H R : HProp} {d : Nat} {X : DevX} {a : Option Addr} {n c : Nat} {keep : List Int} {torn off : Int} [t : DevC H d X R] [ro : RowN W R a n 1 u64s keep] (hX : X.Ok) (hq : X.ps.length ≤ 1000000) :
    Does prog W f_sectors_Device_Crash ⟨[ptr d, .agg ⟨[.slice a n c, .int .i64 torn, .int .i64 off]⟩]⟩ H (Ret fun v G => ∃ X', X'.Ok ∧ X'.val = (X.val.crash keep torn off).2 ∧ X'.ps.length ≤ X.ps.length ∧ v = .int .i64 (X.val.crash keep torn off).1 ∧ G = (devo d X' • R)) := by
  rw [t.h.eq]
  haveI r' := ro.row
  unfold Dev.crash
  refine f_sectors_Device_Crash.does _ _ ?_
  conv => whnf
  by_cases h1 : X.down = true
  · have h1' : X.val.down = true := h1
    rw [if_pos h1']
    repeat' (first
      | (refine spl_t h1 ?_; conv => whnf)
      | (refine Ld.i ?_; conv => whnf)
      | (intro blk hblk; conv => whnf)
      | fail)
    refine ⟨_, _, rfl, ?_, X, hX, rfl, by omega, rfl, rfl⟩
    first | exact Imp.refl _ | exact Imp.drop | exact Imp.fin | ((repeat (refine Imp.pick ?_)); first | exact Imp.refl _ | exact Imp.emp _ | exact Imp.fin)
  have h1' : ¬ X.val.down = true := h1
  have h1f : X.down = false := by simpa using h1
  rw [if_neg h1']
  repeat' (first
    | (refine spl_f h1f ?_; conv => whnf)
    | (refine Ld.i ?_; conv => whnf)
    | (refine LdN.i ?_; conv => whnf)
    | (intro blk hblk; conv => whnf)
    | (refine CallK.ret f_sectors_Device_fall.ok (fallx_spec (by first | rfl | assumption | omega | decide | (simp; done) | (simp; omega) | (simp at *; omega)) (by first | rfl | assumption | omega | decide | (simp; done) | (simp; omega) | (simp at *; omega))) ?_; rintro v G ⟨rfl, rfl⟩; conv => whnf)
    | fail)
  refine ⟨_, _, rfl, ?_, _, fell_ok hX keep torn off, rfl, by simp [DevX.fell], rfl, rfl⟩
  first | exact Imp.refl _ | exact Imp.drop | exact Imp.fin | ((repeat (refine Imp.pick ?_)); first | exact Imp.refl _ | exact Imp.emp _ | exact Imp.fin)
-- @pat crash_spec ⟨X', hX', hv', hl', rfl, rfl⟩
theorem clone64_spec {W : World} {R : HProp} {a : Option Addr} {n cap : Nat} {l : List Int} [c : RowN W R a n 1 u64s l] (hb : l.length ≤ 8796093022208) :
    Does prog W f_slices_Clone_S_uint64_uint64 ⟨[.slice a n cap]⟩ R (Ret fun v G => ∃ a' cap', l.length ≤ cap' ∧ v = .slice a' l.length cap' ∧ G = (vec t_uint64 1 u64s a' cap' l • R)) := by
  refine Does.vlen (V := fun a' cap' => .slice a' l.length cap') ?_
  have hn := c.len
  subst hn
  haveI c' := c.row
  cases a with
  | none =>
    refine Does.nil c' fun hl => ?_
    subst hl
    refine f_slices_Clone_S_uint64_uint64.does _ ?_
    conv => whnf
    skip
    refine ⟨_, _, rfl, ?_, none, 0, rfl, rfl⟩
    refine Imp.vnil ?_
    first | exact Imp.refl _ | exact Imp.drop | exact Imp.fin | ((repeat (refine Imp.pick ?_)); first | exact Imp.refl _ | exact Imp.emp _ | exact Imp.fin)
  | some x =>
    refine f_slices_Clone_S_uint64_uint64.does _ ?_
    conv => whnf
    repeat' (first
      | (intro blk hblk; conv => whnf)
      | (refine OpX.appE (ys := l) tab_ok rfl rfl rfl rfl rfl rfl (by omega) (fun a' c' => ?_); conv => whnf)
      | fail)
    refine ⟨_, _, rfl, ?_, a', c', rfl, rfl⟩
    first | exact Imp.refl _ | exact Imp.drop | exact Imp.fin | ((repeat (refine Imp.pick ?_)); first | exact Imp.refl _ | exact Imp.emp _ | exact Imp.fin)
theorem arm_spec {W : World} {H R : HProp} {d : Nat} {X : DevX} {a : Option Addr} {n c : Nat} {keep : List Int} {step torn off : Int} [t : DevC H d X R] [ro : RowN W R a n 1 u64s keep] (hX : X.Ok) (hk : keep.length ≤ 8796093022208) (hs : -9223372036854775808 ≤ step ∧ step ≤ 9223372036854775807) :
    Does prog W f_sectors_Device_Arm ⟨[ptr d, .int .i64 step, .agg ⟨[.slice a n c, .int .i64 torn, .int .i64 off]⟩]⟩ H (Ret fun v G => ∃ X', X'.Ok ∧ X'.val = (X.val.arm step keep torn off).2 ∧ X'.ps.length ≤ X.ps.length ∧ v = .int .i64 (X.val.arm step keep torn off).1 ∧ G = (devo d X' • R)) := by
  rw [t.h.eq]
  haveI r' := ro.row
  unfold Dev.arm
  refine f_sectors_Device_Arm.does _ _ _ ?_
  conv => whnf
  by_cases h1 : X.down = true
  · have h1' : X.val.down = true := h1
    rw [if_pos h1']
    repeat' (first
      | (refine spl_t h1 ?_; conv => whnf)
      | (refine Ld.i ?_; conv => whnf)
      | (intro blk hblk; conv => whnf)
      | fail)
    refine ⟨_, _, rfl, ?_, X, hX, rfl, by omega, rfl, rfl⟩
    first | exact Imp.refl _ | exact Imp.drop | exact Imp.fin | ((repeat (refine Imp.pick ?_)); first | exact Imp.refl _ | exact Imp.emp _ | exact Imp.fin)
  have h1' : ¬ X.val.down = true := h1
  have h1f : X.down = false := by simpa using h1
  rw [if_neg h1']
  by_cases h2 : step < 0
  · rw [if_pos h2]
    repeat' (first
      | (refine spl_f h1f ?_; conv => whnf)
      | (refine spl_dec (fun hd => ?_) (fun hd => ?_) <;> first | (exfalso; omega) | (conv => whnf))
      | (refine Ld.i ?_; conv => whnf)
      | (intro blk hblk; conv => whnf)
      | fail)
    refine ⟨_, _, rfl, ?_, X, hX, rfl, by omega, rfl, rfl⟩
    first | exact Imp.refl _ | exact Imp.drop | exact Imp.fin | ((repeat (refine Imp.pick ?_)); first | exact Imp.refl _ | exact Imp.emp _ | exact Imp.fin)
  rw [if_neg h2]
  repeat' (first
    | (refine spl_f h1f ?_; conv => whnf)
    | (refine spl_dec (fun hd => ?_) (fun hd => ?_) <;> first | (exfalso; omega) | (conv => whnf))
    | (refine Ld.i ?_; conv => whnf)
    | (refine St.i ⟨rfl, rfl⟩ (List.cons_ne_nil _ _) ?_; conv => whnf)
    | (intro blk hblk; conv => whnf)
    | (refine Sub.on (by first | exact Imp.refl _ | exact Imp.drop | exact Imp.fin | ((repeat (refine Imp.pick ?_)); first | exact Imp.refl _ | exact Imp.emp _ | exact Imp.fin)) ?_; conv => whnf)
    | (refine DrawK.introH tab_ok mixed 19 f_sectors_Device_Arm.last6 f_sectors_Device_Arm.plan6 _ rfl (by kernel_rfl) (Sub.of (by first | exact Imp.refl _ | exact Imp.drop | exact Imp.fin | ((repeat (refine Imp.pick ?_)); first | exact Imp.refl _ | exact Imp.emp _ | exact Imp.fin))) ?_; conv => whnf)
    | (refine CallK.ret f_slices_Clone_S_uint64_uint64.ok (clone64_spec (by first | rfl | assumption | omega | decide | (simp; done) | (simp; omega) | (simp at *; omega))) ?_; rintro v G ⟨e_a', e_cap', e_h1, rfl, rfl⟩; conv => whnf)
    | fail)
  refine ⟨_, _, rfl, ?_, { X with step := step, ka := e_a', kc := e_cap', keep := keep, torn := torn, off := off }, ⟨⟨hX.val.len, hX.val.pos, hX.val.byt, hX.val.q, ⟨by show 0 ≤ step; omega, hs.2⟩, hX.val.calls⟩, hX.ic, hX.caps⟩, rfl, by simp, rfl, rfl⟩
  rw [devo_eq]
  dsimp only
  first | exact Imp.refl _ | exact Imp.drop | exact Imp.fin | ((repeat (refine Imp.pick ?_)); first | exact Imp.refl _ | exact Imp.emp _ | exact Imp.fin)
-- @pat arm_spec ⟨X', hX', hv', hl', rfl, rfl⟩
/-- A disk that has just been made. -/
def freshX (a : Option Addr) (c : Nat) (img : List Int) : DevX := ⟨a, c, img, none, 0, [], 0, none, 0, [], 0, 0, false, 0⟩
theorem devo_fresh {d : Nat} {a : Option Addr} {c : Nat} {img : List Int} {H R : HProp} (h : Imp H (pts d (.cells ⟨[.slice a img.length c, .slice none 0 0, .int .i64 0, .slice none 0 0, .int .i64 0, .int .i64 0, .bool false, .int .i64 0]⟩ t_sectors_Device) • vec t_uint8 1 bytv a c img • R)) : Imp H (devo d (freshX a c img) • R) := by
  rw [devo_eq]
  refine Imp.trans h (Imp.right (Imp.right ?_))
  refine Imp.vnil ?_
  refine Imp.empi ?_
  refine Imp.vnil ?_
  exact Imp.refl _
theorem new_yes {W : World} {R : HProp} {n : Int} (h : 1 ≤ n ∧ n ≤ 8192) :
    Does prog W f_sectors_New ⟨[.int .i64 n]⟩ R (Ret fun v G => ∃ d a c, (List.replicate (n * 512).toNat (0 : Int)).length ≤ c ∧ v = .tuple ⟨[ptr d, i0]⟩ ∧ G = (devo d (freshX a c (List.replicate (n * 512).toNat 0)) • R)) := by
  refine f_sectors_New.does _ ?_
  conv => whnf
  repeat' (first
    | (refine spl_dec (fun hd => ?_) (fun hd => ?_) <;> first | (exfalso; omega) | (conv => whnf))
    | (refine Ar.i64 (by omega) ?_; conv => whnf)
    | (intro blk hblk; conv => whnf)
    | (refine OpX.make tab_ok bytv 0 rfl rfl rfl rfl rfl rfl (by omega) (fun b hb => ?_); conv => whnf)
    | fail)
  refine ⟨_, _, rfl, ?_, blk, some ⟨b, 0, none⟩, (n * 512).toNat, ?_, rfl, rfl⟩
  · refine devo_fresh ?_
    rw [List.length_replicate]
    first | exact Imp.refl _ | exact Imp.drop | exact Imp.fin | ((repeat (refine Imp.pick ?_)); first | exact Imp.refl _ | exact Imp.emp _ | exact Imp.fin)
  · rw [List.length_replicate]; exact Nat.le_refl _
theorem fresh_ok {a : Option Addr} {c : Nat} {img : List Int} (h1 : 512 ≤ img.length ∧ img.length ≤ 4194304) (h2 : img.length % 512 = 0) (hb : Byt img) (hc : img.length ≤ c) : (freshX a c img).Ok :=
  ⟨⟨h2, h1, hb, fun p hp => (by cases hp), ⟨Int.le_refl _, by show (0 : Int) ≤ _; decide⟩, ⟨by show _ ≤ (0 : Int); decide, by show (0 : Int) ≤ _; decide⟩⟩, hc, fun p hp => (by cases hp)⟩
/-- What Cache answers: the pending writes, in memory of its own. -/
theorem cache_spec {W : World} {H R : HProp} {d : Nat} {X : DevX} [t : DevC H d X R] (hX : X.Ok) (hq : X.ps.length ≤ 1000000) :
    Does prog W f_sectors_Device_Cache ⟨[ptr d]⟩ H (Ret fun v G => ∃ a c qs, qs.map (fun p : PendX => (p.sec, p.b)) = X.val.q ∧ v = .slice a qs.length c ∧ G = (vec t_api_Pending 2 pendv a c qs • bigL pendc qs • devo d X • R)) := by
  rw [t.h.eq]
  have hqv := hX.val.q
  refine f_sectors_Device_Cache.does _ ?_
  conv => whnf
  repeat' (first
    | (refine Ld.i ?_; conv => whnf)
    | fail)
  obtain ⟨qa, hqa⟩ : ∃ qa, qa = X.qa := ⟨_, rfl⟩
  refine LoopK.at tab_ok (L := f_sectors_Device_Cache.live) (ι := Nat × List PendX × Option Addr × Nat) (fun i => i.1 ≤ X.ps.length ∧ i.2.1.map (fun p => (p.sec, p.b)) = X.val.q.take i.1)
    (fun i => [(11, .int .i64 i.1), (3, .slice i.2.2.1 i.2.1.length i.2.2.2)]) (fun i => vec t_api_Pending 2 pendv i.2.2.1 i.2.2.2 i.2.1 • bigL pendc i.2.1) (fun i => X.ps.length - i.1) (0, [], none, 0) ⟨by simp, by simp⟩ (fun t v h => h) (Imp.assoc (Imp.vnil (Imp.empi (Imp.refl _)))) ?_
  rintro ⟨i, qs, oa, oc⟩ ⟨hi, hm⟩
  dsimp only at hi hm ⊢
  have hQl : X.val.q.length = X.ps.length := by simp [DevX.val]
  have hqsl : qs.length = i := by
    have := congrArg List.length hm
    simp at this; omega
  simp only [star_assoc]
  conv => whnf
  by_cases h1 : i < X.ps.length
  · obtain ⟨p, hp⟩ : ∃ p, X.ps[i]? = some p := ⟨_, List.getElem?_eq_getElem h1⟩
    have hpq : X.val.q[i]? = some (p.sec, p.b) := by simp [DevX.val, hp]
    obtain ⟨q1, q2, q3, q4⟩ := hqv _ (List.mem_of_getElem? hpq)
    dsimp only at q3
    haveI mp : MemC X.ps p := ⟨List.mem_of_getElem? hp⟩
    haveI cp : RowC W (devo d X • R) p.a 1 bytv p.b := RowC.devp
    repeat' (first
      | (refine spl_dec (fun hd => ?_) (fun hd => ?_) <;> first | (exfalso; omega) | (conv => whnf))
      | (refine Ld.i ?_; conv => whnf)
      | (refine St.i ⟨rfl, rfl⟩ (List.cons_ne_nil _ _) ?_; conv => whnf)
      | (refine Ar.i64 (by omega) ?_; conv => whnf)
      | (intro blk hblk; conv => whnf)
      | (refine IxS.r (i := i) (xs := X.ps) rfl rfl h1 (fun ab off' ha => ?_); have rq : RowC W (devo d X • R) (some ⟨ab, off', none⟩) 2 pendv X.ps := ha ▸ RowC.devq; rw [ha]; conv => whnf)
      | (refine LdN.r hp rfl ?_; conv => whnf)
      | (refine OpX.app1g tab_ok rfl rfl rfl rfl rfl rfl (by omega) (fun a' c' => ?_); conv => whnf)
      | (refine Sub.on (by first | exact Imp.refl _ | exact Imp.drop | exact Imp.fin | ((repeat (refine Imp.pick ?_)); first | exact Imp.refl _ | exact Imp.emp _ | exact Imp.fin)) ?_; conv => whnf)
      | (refine DrawK.introH tab_ok mixed 15 f_sectors_Device_Cache.last5 f_sectors_Device_Cache.plan5 _ rfl (by kernel_rfl) (Sub.of (by first | exact Imp.refl _ | exact Imp.drop | exact Imp.fin | ((repeat (refine Imp.pick ?_)); first | exact Imp.refl _ | exact Imp.emp _ | exact Imp.fin))) ?_; conv => whnf)
      | (refine CallK.ret f_bytes_Clone.ok (clone_spec (by first | rfl | assumption | omega | decide | (simp; done) | (simp; omega) | (simp at *; omega))) ?_; rintro v G ⟨e_a', e_cap', e_h1, rfl, rfl⟩; conv => whnf)
      | fail)
    refine ⟨rfl, (i + 1, qs ++ [(⟨p.sec, e_a', e_cap', p.b⟩ : PendX)], a', c'), ⟨h1, ?_⟩, fun t v h => h, ?_, by dsimp only; omega⟩
    · dsimp only
      rw [List.map_append, hm, List.take_add_one, hpq]; rfl
    · dsimp only
      rw [bigL_snoc]
      simp only [star_assoc]
      unfold pendc
      first | exact Imp.refl _ | exact Imp.drop | exact Imp.fin | ((repeat (refine Imp.pick ?_)); first | exact Imp.refl _ | exact Imp.emp _ | exact Imp.fin)
  · have : i = X.ps.length := by omega
    subst this
    repeat' (first
      | (refine spl_dec (fun hd => ?_) (fun hd => ?_) <;> first | (exfalso; omega) | (conv => whnf))
      | fail)
    refine ⟨_, _, rfl, ?_, oa, oc, qs, ?_, rfl, rfl⟩
    · first | exact Imp.refl _ | exact Imp.drop | exact Imp.fin | ((repeat (refine Imp.pick ?_)); first | exact Imp.refl _ | exact Imp.emp _ | exact Imp.fin)
    · rw [hm, ← hQl, List.take_length]
/-- Backward over pending writes: each, the last one first. -/
theorem backward_iter {W : World} {B n c : Nat} {a : Option Addr} {ps : List PendX} {C : Nat} (hn : n = ps.length) (hb : ps.length ≤ 1000000) :
    IterSpec prog W f_slices_Backward_S_api_Pending_api_Pending_1 [ptr B] ps.length (fun k => [.int .i64 ((ps.length : Int) - 1 - k), .agg ⟨(ps.reverse[k]?.map pendv).getD []⟩])
      (pts B (.cells ⟨[.slice a n c]⟩ t_S_api_Pending) • vec t_api_Pending 2 pendv a C ps) := by
  subst hn
  intro l J Jx hy
  simp only [star_assoc]
  refine f_slices_Backward_S_api_Pending_api_Pending_1.does _ _ ?_
  conv => whnf
  repeat' (first
    | (refine Ld.i ?_; conv => whnf)
    | (refine Ar.i64 (by omega) ?_; conv => whnf)
    | fail)
  refine LoopK.at tab_ok (L := f_slices_Backward_S_api_Pending_api_Pending_1.live) (ι := Nat) (fun k => k ≤ ps.length) (fun k => [(3, .int .i64 ((ps.length : Int) - 1 - k))]) (fun k => J k) (fun k => ps.length - k) 0 (by simp) (fun t v h => by
      have h2 : ((ps.length : Int) - 1 - ((0 : Nat) : Int)) = (ps.length : Int) - 1 := by omega
      rw [h2] at h
      exact h) (Imp.pick (Imp.refl _)) ?_
  rintro k hk
  conv => whnf
  by_cases h1 : k < ps.length
  · have hlt : ps.length - 1 - k < ps.length := by omega
    obtain ⟨p, hp⟩ : ∃ p, ps[ps.length - 1 - k]? = some p := ⟨_, List.getElem?_eq_getElem hlt⟩
    have hr : ps.reverse[k]? = some p := by rw [List.getElem?_reverse (by simpa using h1)]; exact hp
    have hk2 := hy k h1
    dsimp only at hk2
    rw [hr] at hk2
    repeat' (first
      | (refine spl_dec (fun hd => ?_) (fun hd => ?_) <;> first | (exfalso; omega) | (conv => whnf))
      | (refine Ld.i ?_; conv => whnf)
      | (refine IxS.r (i := ps.length - 1 - k) (xs := ps) (by omega) rfl hlt (fun ab off' ha => ?_); subst ha; conv => whnf)
      | (refine LdN.r hp rfl ?_; conv => whnf)
      | fail)
    simp only [star_assoc] at hk2
    refine YieldK.use hk2 (by first | exact Imp.refl _ | exact Imp.drop | exact Imp.fin | ((repeat (refine Imp.pick ?_)); first | exact Imp.refl _ | exact Imp.emp _ | exact Imp.fin)) ?_
    rintro v H' (⟨rfl, hi⟩ | ⟨rfl, hi⟩)
    · refine ⟨_, hi, ?_⟩
      conv => whnf
      repeat' (first
        | (refine Ar.i64 (by omega) ?_; conv => whnf)
        | fail)
      refine ⟨rfl, k + 1, by omega, fun t v h => ?_, ?_, by omega⟩
      · have h2 : ((ps.length : Int) - 1 - ((k + 1 : Nat) : Int)) = (ps.length : Int) - 1 - k - 1 := by omega
        rw [h2] at h
        exact h
      · first | exact Imp.refl _ | exact Imp.drop | exact Imp.fin | ((repeat (refine Imp.pick ?_)); first | exact Imp.refl _ | exact Imp.emp _ | exact Imp.fin)
    · refine ⟨_, hi, ?_⟩
      conv => whnf
      skip
      exact ⟨_, _, rfl, Imp.refl _, .inr rfl⟩
  · repeat' (first
      | (refine spl_dec (fun hd => ?_) (fun hd => ?_) <;> first | (exfalso; omega) | (conv => whnf))
      | fail)
    have : k = ps.length := by omega
    subst this
    refine ⟨_, _, rfl, ?_, .inl rfl⟩
    first | exact Imp.refl _ | exact Imp.drop | exact Imp.fin | ((repeat (refine Imp.pick ?_)); first | exact Imp.refl _ | exact Imp.emp _ | exact Imp.fin)
end Go.Proofs.YtgcknlpkhhpkjaaGreatDoor
