/- Reading a sector of the program's disk, walked. Conditions: in each statement. -/
import Derived.Test.YtgcknlpkhhpkjaaGreatDoorPart17
import Derived.Test.YtgcknlpkhhpkjaaGreatDoorPart7
import Derived.Test.YtgcknlpkhhpkjaaGreatDoorPart8
import Derived.Test.YtgcknlpkhhpkjaaGreatDoorPart18
namespace Go.SL.Sec
open Go Go.SL
theorem lastOf_find (i : Int) : ∀ q : List (Int × List Int), lastOf i q = (q.reverse.find? fun p => decide (p.1 = i)).map (·.2)
  | [] => rfl
  | p :: q => by
    rw [lastOf, lastOf_find i q, List.reverse_cons, List.find?_append]
    cases h : q.reverse.find? fun p => decide (p.1 = i) with
    | some x => rfl
    | none =>
      by_cases e : p.1 = i
      · simp [e]
      · simp [e]
theorem lastOf_none {i : Int} {q : List (Int × List Int)} (h : ∀ j, j < q.length → ∀ p, q.reverse[j]? = some p → p.1 ≠ i) : lastOf i q = none := by
  rw [lastOf_find, List.find?_eq_none.2]; · rfl
  intro p hp
  obtain ⟨j, hj⟩ := List.getElem?_of_mem hp
  have hl : j < q.length := by have := (List.getElem?_eq_some_iff.1 hj).1; simpa using this
  simpa using h j hl p hj
theorem lastOf_some {i : Int} {q : List (Int × List Int)} {k : Nat} {p : Int × List Int} (hp : q.reverse[k]? = some p) (he : p.1 = i) (h : ∀ j, j < k → ∀ p, q.reverse[j]? = some p → p.1 ≠ i) : lastOf i q = some p.2 := by
  obtain ⟨hl, hg⟩ := List.getElem?_eq_some_iff.1 hp
  rw [lastOf_find, List.find?_eq_some_iff_getElem.2 ⟨by simpa using he, k, hl, hg, fun j hj => ?_⟩]; · rfl
  simpa using h j hj _ (List.getElem?_eq_getElem (Nat.lt_trans hj hl))
end Go.SL.Sec
namespace Go.Proofs.YtgcknlpkhhpkjaaGreatDoor
open Go Go.SL Go.SL.Sec
theorem backward_spec {W : World} {R : HProp} {a : Option Addr} {n c : Nat} :
    Does prog W f_slices_Backward_S_api_Pending_api_Pending ⟨[.slice a n c]⟩ R (Ret fun v G => ∃ B, v = .func (.func f_slices_Backward_S_api_Pending_api_Pending_1) ⟨[]⟩ ⟨[ptr B]⟩ ∧ G = (pts B (.cells ⟨[.slice a n c]⟩ t_S_api_Pending) • R)) := by
  refine f_slices_Backward_S_api_Pending_api_Pending.does _ ?_
  conv => whnf
  repeat' (first
    | (intro blk hblk; conv => whnf)
    | fail)
  exact ⟨_, _, rfl, Imp.refl _, blk, rfl, rfl⟩
theorem read_spec {W : World} {H R : HProp} {d : Nat} {X : DevX} {i : Int} [t : DevC H d X R] (hX : X.Ok) (hq : X.ps.length ≤ 1000000) :
    Does prog W f_sectors_Device_Read ⟨[ptr d, .int .i64 i]⟩ H (Ret fun v G => ∃ a c, (X.val.read i).2.length ≤ c ∧ v = .tuple ⟨[.slice a (X.val.read i).2.length c, .int .i64 (X.val.read i).1]⟩ ∧ G = (vec t_uint8 1 bytv a c (X.val.read i).2 • devo d X • R)) := by
  have hl := hX.len
  have hsz : X.val.secs = (X.img.length : Int) / 512 := rfl
  rw [t.h.eq]
  unfold Dev.read
  by_cases h1 : X.down = true
  · rw [if_pos (show X.val.down = true from h1)]
    refine f_sectors_Device_Read.does _ _ ?_
    conv => whnf
    repeat' (first
      | (refine spl_t h1 ?_; conv => whnf)
      | (refine Ld.i ?_; conv => whnf)
      | (refine St.i ⟨rfl, rfl⟩ (List.cons_ne_nil _ _) ?_; conv => whnf)
      | (intro blk hblk; conv => whnf)
      | fail)
    refine ⟨_, _, rfl, ?_, none, 0, Nat.le_refl _, rfl, rfl⟩
    refine Imp.vnil ?_
    first | exact Imp.refl _ | exact Imp.drop | exact Imp.fin | ((repeat (refine Imp.pick ?_)); first | exact Imp.refl _ | exact Imp.emp _ | exact Imp.fin)
  rw [if_neg (show ¬ X.val.down = true from h1)]
  have h1f : X.down = false := by simpa using h1
  by_cases h2 : i < 0 ∨ i ≥ X.val.secs
  · rw [if_pos h2]
    refine f_sectors_Device_Read.does _ _ ?_
    conv => whnf
    repeat' (first
      | (refine spl_f h1f ?_; conv => whnf)
      | (refine spl_dec (fun hd => ?_) (fun hd => ?_) <;> first | (exfalso; omega) | (conv => whnf))
      | (refine Ld.i ?_; conv => whnf)
      | (refine St.i ⟨rfl, rfl⟩ (List.cons_ne_nil _ _) ?_; conv => whnf)
      | (intro blk hblk; conv => whnf)
      | (refine Sub.on (by first | exact Imp.refl _ | exact Imp.drop | exact Imp.fin | ((repeat (refine Imp.pick ?_)); first | exact Imp.refl _ | exact Imp.emp _ | exact Imp.fin)) ?_; conv => whnf)
      | (refine DrawK.introH tab_ok mixed 14 f_sectors_Device_Read.last3 f_sectors_Device_Read.plan3 _ rfl (by kernel_rfl) (Sub.of (by first | exact Imp.refl _ | exact Imp.drop | exact Imp.fin | ((repeat (refine Imp.pick ?_)); first | exact Imp.refl _ | exact Imp.emp _ | exact Imp.fin))) ?_; conv => whnf)
      | (refine CallK.ret f_sectors_Device_Sectors.ok (sectors_spec (by first | rfl | assumption | omega | decide | (simp; done) | (simp; omega) | (simp at *; omega))) ?_; rintro v G ⟨rfl, rfl⟩; conv => whnf)
      | fail)
    all_goals
      refine ⟨_, _, rfl, ?_, none, 0, Nat.le_refl _, rfl, rfl⟩
      refine Imp.vnil ?_
      first | exact Imp.refl _ | exact Imp.drop | exact Imp.fin | ((repeat (refine Imp.pick ?_)); first | exact Imp.refl _ | exact Imp.emp _ | exact Imp.fin)
  rw [if_neg h2]
  refine f_sectors_Device_Read.does _ _ ?_
  conv => whnf
  repeat' (first
    | (refine spl_f h1f ?_; conv => whnf)
    | (refine spl_dec (fun hd => ?_) (fun hd => ?_) <;> first | (exfalso; omega) | (conv => whnf))
    | (refine Ld.i ?_; conv => whnf)
    | (intro blk hblk; conv => whnf)
    | (refine Sub.on (by first | exact Imp.refl _ | exact Imp.drop | exact Imp.fin | ((repeat (refine Imp.pick ?_)); first | exact Imp.refl _ | exact Imp.emp _ | exact Imp.fin)) ?_; conv => whnf)
    | (refine DrawK.introH tab_ok mixed 14 f_sectors_Device_Read.last3 f_sectors_Device_Read.plan3 _ rfl (by kernel_rfl) (Sub.of (by first | exact Imp.refl _ | exact Imp.drop | exact Imp.fin | ((repeat (refine Imp.pick ?_)); first | exact Imp.refl _ | exact Imp.emp _ | exact Imp.fin))) ?_; conv => whnf)
    | (refine CallK.ret f_sectors_Device_Sectors.ok (sectors_spec (by first | rfl | assumption | omega | decide | (simp; done) | (simp; omega) | (simp at *; omega))) ?_; rintro v G ⟨rfl, rfl⟩; conv => whnf)
    | (refine CallK.ret f_slices_Backward_S_api_Pending_api_Pending.ok (backward_spec) ?_; rintro v G ⟨e_B, rfl, rfl⟩; conv => whnf)
    | fail)
  rw [devo_eq]
  rename_i b3 hb3 b4 hb4 hd0
  obtain ⟨rest, hrest⟩ : ∃ G, G = (pts d (.cells ⟨[.slice X.ia X.img.length X.ic, .slice X.qa X.ps.length X.qc, .int .i64 X.step, .slice X.ka X.keep.length X.kc, .int .i64 X.torn, .int .i64 X.off, .bool X.down, .int .i64 X.calls]⟩ t_sectors_Device) •
    vec t_uint8 1 bytv X.ia X.ic X.img • bigL pendc X.ps • vec t_uint64 1 u64s X.ka X.kc X.keep • R) := ⟨_, rfl⟩
  refine RangeK.intro (L := f_sectors_Device_Read.live) tab_ok rfl f_slices_Backward_S_api_Pending_api_Pending_1.ok X.ps.length
    (fun k => [.int .i64 ((X.ps.length : Int) - 1 - k), .agg ⟨(X.ps.reverse[k]?.map pendv).getD []⟩]) (fun _ => rfl) (by simp) rfl rfl
    (fun k (_ : Unit) => ∀ j, j < k → ∀ p, X.val.q.reverse[j]? = some p → p.1 ≠ i) (fun _ _ => pts b3 (.cells ⟨[.int .i64 i]⟩ t_int) • pts b4 (.cells ⟨[.slice none 0 0]⟩ t_S_uint8) • pts blk (.cells ⟨[i0]⟩ t_api_Errno) • rest)
    (fun _ (r : Option Addr × Nat) => (X.val.at i).length ≤ r.2) (fun _ r => vec t_uint8 1 bytv r.1 r.2 (X.val.at i) • pts b4 (.cells ⟨[.slice r.1 (X.val.at i).length r.2]⟩ t_S_uint8) • pts blk (.cells ⟨[i0]⟩ t_api_Errno) • rest)
    [.ret] (pts e_B (.cells ⟨[.slice X.qa X.ps.length X.qc]⟩ t_S_api_Pending) • vec t_api_Pending 2 pendv X.qa X.qc X.ps) () (fun j hj => by omega) ?_ (backward_iter rfl hq) ?_ ?_ ?_
  · subst hrest
    simp only [star_assoc]
    first | exact Imp.refl _ | exact Imp.drop | exact Imp.fin | ((repeat (refine Imp.pick ?_)); first | exact Imp.refl _ | exact Imp.emp _ | exact Imp.fin)
  · intro k _ hk hno Y
    obtain ⟨p, hp⟩ : ∃ p, X.ps.reverse[k]? = some p := ⟨_, List.getElem?_eq_getElem (by simpa using hk)⟩
    have hpv : X.val.q.reverse[k]? = some (p.sec, p.b) := by simp only [DevX.val, ← List.map_reverse, List.getElem?_map, hp]; rfl
    rw [hp]
    subst hrest
    haveI mp : MemC X.ps p := ⟨List.mem_reverse.1 (List.mem_of_getElem? hp)⟩
    haveI cp : ∀ Q : HProp, RowC W (bigL pendc X.ps • Q) p.a 1 bytv p.b := fun Q => RowC.pend
    have hpl := hX.val.q _ (by have := List.mem_reverse.1 (List.mem_of_getElem? hpv); exact this)
    dsimp only at hpl
    conv => whnf
    repeat' (first
      | (refine St.i ⟨rfl, rfl⟩ (List.cons_ne_nil _ _) ?_; conv => whnf)
      | (intro blk hblk; conv => whnf)
      | fail)
    refine ⟨rfl, _, Imp.pick (Imp.refl _), fun Y' => ?_⟩
    rename_i bw hbw
    conv => whnf
    repeat' (first
      | (refine spl_dec (fun hd => ?_) (fun hd => ?_) <;> first | (exfalso; omega) | (conv => whnf))
      | (refine Ld.i ?_; conv => whnf)
      | (refine St.i ⟨rfl, rfl⟩ (List.cons_ne_nil _ _) ?_; conv => whnf)
      | (refine CallK.ret f_bytes_Clone.ok (clone_spec (by first | rfl | assumption | omega | decide | (simp; done) | (simp; omega) | (simp at *; omega))) ?_; rintro v G ⟨e_a', e_cap', e_h1, rfl, rfl⟩; conv => whnf)
      | fail)
    · have hat : X.val.at i = p.b := by unfold Dev.at; rw [lastOf_some hpv hd hno]; rfl
      refine ⟨by simp, Imp.pick (Imp.known (e_a', e_cap') (by rw [hat]; exact e_h1) ?_)⟩
      rw [hat]
      first | exact Imp.refl _ | exact Imp.drop | exact Imp.fin | ((repeat (refine Imp.pick ?_)); first | exact Imp.refl _ | exact Imp.emp _ | exact Imp.fin)
    · refine ⟨trivial, Imp.pick (Imp.known () (fun j hj q hq' => ?_) (by first | exact Imp.refl _ | exact Imp.drop | exact Imp.fin | ((repeat (refine Imp.pick ?_)); first | exact Imp.refl _ | exact Imp.emp _ | exact Imp.fin)))⟩
      by_cases hjk : j = k
      · subst hjk
        rw [hpv] at hq'
        cases hq'
        exact hd
      · exact hno j (by omega) q hq'
  · intro D _ hno
    subst hrest
    simp only [star_assoc]
    have hlm := hX.val.len
    have hi : 0 ≤ i ∧ i.toNat * 512 + 512 ≤ X.img.length := by
      have : X.val.img.length = X.img.length := rfl
      omega
    have hic := hX.ic
    have hsec : X.val.at i = secOf X.img i := by
      unfold Dev.at; rw [lastOf_none (fun j hj => hno j (by simpa [DevX.val] using hj))]; rfl
    have hso : (secOf X.img i).length = 512 := by simp only [secOf, List.length_take, List.length_drop]; omega
    haveI rs : ∀ Q : HProp, RowN W (vec t_uint8 1 bytv X.ia X.ic X.img • Q) (dropA X.ia (i.toNat * 512) X.ic 1) 512 1 bytv (secOf X.img i) := fun Q => ⟨RowC.sub _, hso.symm⟩
    conv => whnf
    repeat' (first
      | (refine Ld.i ?_; conv => whnf)
      | (refine St.i ⟨rfl, rfl⟩ (List.cons_ne_nil _ _) ?_; conv => whnf)
      | (refine CallK.ret f_bytes_Clone.ok (clone_spec (by first | rfl | assumption | omega | decide | (simp; done) | (simp; omega) | (simp at *; omega))) ?_; rintro v G ⟨e_a', e_cap', e_h1, rfl, rfl⟩; conv => whnf)
      | (refine CallK.ret f_sectors_Device_sector.ok (sector_spec (by first | rfl | assumption | omega | decide | (simp; done) | (simp; omega) | (simp at *; omega)) (by first | rfl | assumption | omega | decide | (simp; done) | (simp; omega) | (simp at *; omega)) (by first | rfl | assumption | omega | decide | (simp; done) | (simp; omega) | (simp at *; omega))) ?_; rintro v G ⟨rfl, rfl⟩; conv => whnf)
      | fail)
    refine LeaveD.mark tab_ok ?_
    conv => whnf
    repeat' (first
      | (refine Ld.i ?_; conv => whnf)
      | fail)
    rw [hsec]
    refine ⟨_, _, rfl, ?_, e_a', e_cap', e_h1, rfl, rfl⟩
    rw [devo_eq]
    first | exact Imp.refl _ | exact Imp.drop | exact Imp.fin | ((repeat (refine Imp.pick ?_)); first | exact Imp.refl _ | exact Imp.emp _ | exact Imp.fin)
  · intro D c r hc hr
    obtain rfl := List.mem_singleton.1 hc
    subst hrest
    simp only [star_assoc]
    conv => whnf
    refine LeaveD.mark tab_ok ?_
    conv => whnf
    repeat' (first
      | (refine Ld.i ?_; conv => whnf)
      | fail)
    refine ⟨_, _, rfl, ?_, r.1, r.2, hr, rfl, rfl⟩
    rw [devo_eq]
    first | exact Imp.refl _ | exact Imp.drop | exact Imp.fin | ((repeat (refine Imp.pick ?_)); first | exact Imp.refl _ | exact Imp.emp _ | exact Imp.fin)
end Go.Proofs.YtgcknlpkhhpkjaaGreatDoor
/- The program's package twin, walked: asking the disk; several sectors in a row. Conditions: in each statement. -/
namespace Go.SL.Twn
open Go Go.SL Go.SL.Sec
def ThereP (secs at_ many : Int) : Prop := 0 ≤ at_ ∧ many ≤ secs ∧ at_ ≤ secs - many
instance {a b c : Int} : Decidable (ThereP a b c) := inferInstanceAs (Decidable (_ ∧ _))
def TmayP (secs at_ home : Int) : Prop := ThereP secs home 2 ∧ (home + 1 < at_ ∨ home > at_ + 2)
instance {a b c : Int} : Decidable (TmayP a b c) := inferInstanceAs (Decidable (_ ∧ _))
/-- Sectors written one behind the other, then all made durable. -/
def pws (at_ : Int) (b : List Int) : Nat → Nat → Dev → Int × Dev
  | 0, _, D => D.sync
  | n + 1, i, D => if (D.write (at_ + i) ((b.drop (512 * i)).take 512)).1 = 0 then pws at_ b n (i + 1) (D.write (at_ + i) ((b.drop (512 * i)).take 512)).2 else D.write (at_ + i) ((b.drop (512 * i)).take 512)
theorem pws_next {at_ : Int} {b : List Int} {n i : Nat} {D : Dev} (h : i < n) : pws at_ b (n - i) i D = if (D.write (at_ + i) ((b.drop (512 * i)).take 512)).1 = 0 then pws at_ b (n - (i + 1)) (i + 1) (D.write (at_ + i) ((b.drop (512 * i)).take 512)).2 else D.write (at_ + i) ((b.drop (512 * i)).take 512) := by
  obtain ⟨m, hm⟩ : ∃ m, n - i = m + 1 := ⟨n - i - 1, by omega⟩
  rw [hm, show n - (i + 1) = m by omega, pws]
end Go.SL.Twn
namespace Go.Proofs.YtgcknlpkhhpkjaaGreatDoor
open Go Go.SL Go.SL.Sec Go.SL.Twn
abbrev tref (e : Int) : Value := .iface t_twin_refusal (.agg ⟨[.int .i64 e]⟩)
/-- What comes of asking, with the twin's refusal. -/
def AskT (e : Int) (P : HProp → Prop) (en : Ending) (G : HProp) : Prop := ((e = 0 ∧ en = .returned (.tuple ⟨[]⟩)) ∨ (e ≠ 0 ∧ en = .panicked (pan (tref e)))) ∧ P G
theorem tneed_ok {W : World} {R : HProp} {e : Int} : Does prog W f_twin_need ⟨[.bool true, .int .i64 e]⟩ R (Ret fun v G => v = .tuple ⟨[]⟩ ∧ G = R) := by
  refine f_twin_need.does _ _ ?_
  conv => whnf
  skip
  refine Ret.eq rfl ?_
  first | exact Imp.refl _ | exact Imp.drop | exact Imp.fin | ((repeat (refine Imp.pick ?_)); first | exact Imp.refl _ | exact Imp.emp _ | exact Imp.fin)
theorem tneed_no {W : World} {R : HProp} {e : Int} : Does prog W f_twin_need ⟨[.bool false, .int .i64 e]⟩ R (Thr fun c G => c = pan (tref e) ∧ G = R) := by
  refine f_twin_need.does _ _ ?_
  conv => whnf
  skip
  exact Thr.eq rfl (Imp.refl _)
theorem tmust_ok {W : World} {R : HProp} : Does prog W f_twin_must ⟨[.int .i64 0]⟩ R (Ret fun v G => v = .tuple ⟨[]⟩ ∧ G = R) := by
  refine f_twin_must.does _ ?_
  conv => whnf
  repeat' (first
    | (refine CallK.ret f_twin_need.ok (tneed_ok) ?_; rintro v G ⟨rfl, rfl⟩; conv => whnf)
    | fail)
  refine Ret.eq rfl ?_
  first | exact Imp.refl _ | exact Imp.drop | exact Imp.fin | ((repeat (refine Imp.pick ?_)); first | exact Imp.refl _ | exact Imp.emp _ | exact Imp.fin)
theorem tmust_no {W : World} {R : HProp} {e : Int} (h : e ≠ 0) : Does prog W f_twin_must ⟨[.int .i64 e]⟩ R (Thr fun c G => c = pan (tref e) ∧ G = R) := by
  refine f_twin_must.does _ ?_
  conv => whnf
  conv => whnf
  rw [decide_eq_false h]
  repeat' (first
    | (refine CallK.thr f_twin_need.ok (tneed_no) ?_; rintro c G ⟨rfl, rfl⟩; conv => whnf)
    | fail)
  exact Thr.eq rfl (Imp.refl _)
theorem there_spec {W : World} {H R : HProp} {d : Nat} {X : DevX} {z m : Int} [t : DevC H d X R] (hX : X.Ok) (hm : 0 ≤ m ∧ m ≤ 10) :
    Does prog W f_twin_there ⟨[ptr d, .int .i64 z, .int .i64 m]⟩ H (Ret fun v G => v = .bool (decide (ThereP X.val.secs z m)) ∧ G = (devo d X • R)) := by
  rw [t.h.eq]
  have hsec : 0 ≤ X.val.secs ∧ X.val.secs ≤ 8192 := by
    have := hX.len
    unfold Dev.secs DevX.val
    dsimp only
    omega
  unfold ThereP
  refine f_twin_there.does _ _ _ ?_
  conv => whnf
  repeat' (first
    | (refine spl_dec (fun hd => ?_) (fun hd => ?_) <;> first | (exfalso; omega) | (conv => whnf))
    | (refine Ar.i64 (by omega) ?_; conv => whnf)
    | (refine CallK.ret f_sectors_Device_Sectors.ok ((sectors_spec hX)) ?_; rintro v G ⟨rfl, rfl⟩; conv => whnf)
    | fail)
  all_goals
    refine Ret.eq (congrArg Value.bool (Bool.eq_iff_iff.2 ?_)) (Imp.refl _)
    refine ⟨fun h => ?_, fun h => ?_⟩
    · first | exact absurd h (by decide) | (have h := of_decide_eq_true h; exact decide_eq_true (by omega))
    · have h := of_decide_eq_true h
      first | exact decide_eq_true (by omega) | (exfalso; omega)
theorem tmay_spec {W : World} {H R : HProp} {d : Nat} {X : DevX} {z m : Int} [t : DevC H d X R] (hX : X.Ok) (hz : 0 ≤ z ∧ z ≤ 8192) :
    Does prog W f_twin_may ⟨[ptr d, .int .i64 z, .int .i64 m]⟩ H (Ret fun v G => v = .bool (decide (TmayP X.val.secs z m)) ∧ G = (devo d X • R)) := by
  rw [t.h.eq]
  have hsec : 0 ≤ X.val.secs ∧ X.val.secs ≤ 8192 := by
    have := hX.len
    unfold Dev.secs DevX.val
    dsimp only
    omega
  unfold TmayP
  refine f_twin_may.does _ _ _ ?_
  conv => whnf
  by_cases ht : ThereP X.val.secs m 2
  · have ht2 := ht
    unfold ThereP at ht2
    repeat' (first
      | (refine CallK.ret f_twin_there.ok (there_spec (X := X) hX (by omega)) ?_; rw [decide_eq_true ht]; rintro v G ⟨rfl, rfl⟩; conv => whnf)
      | (refine spl_dec (fun hd => ?_) (fun hd => ?_) <;> first | (exfalso; omega) | (conv => whnf))
      | (refine Ar.i64 (by omega) ?_; conv => whnf)
      | fail)
    all_goals
      refine Ret.eq (congrArg Value.bool (Bool.eq_iff_iff.2 ?_)) (Imp.refl _)
      refine ⟨fun h => ?_, fun h => ?_⟩
      · first | exact absurd h (by decide) | exact decide_eq_true ⟨ht, by omega⟩ | (have h := of_decide_eq_true h; exact decide_eq_true ⟨ht, by omega⟩)
      · have h := (of_decide_eq_true h).2
        first | rfl | exact decide_eq_true (by omega) | (exfalso; omega)
  · repeat' (first
      | (refine CallK.ret f_twin_there.ok (there_spec (X := X) hX (by omega)) ?_; rw [decide_eq_false ht]; rintro v G ⟨rfl, rfl⟩; conv => whnf)
      | fail)
    refine Ret.eq (congrArg Value.bool (decide_eq_false fun h => ht h.1).symm) (Imp.refl _)
theorem running_ok {W : World} {H R : HProp} {d : Nat} {X : DevX} [t : DevC H d X R] (h : X.down = false) : Does prog W f_twin_running ⟨[ptr d]⟩ H (Ret fun v G => v = .tuple ⟨[]⟩ ∧ G = (devo d X • R)) := by
  rw [t.h.eq]
  refine f_twin_running.does _ ?_
  conv => whnf
  repeat' (first
    | (refine CallK.ret f_sectors_Device_Down.ok (down_spec (X := X)) ?_; rw [h]; rintro v G ⟨rfl, rfl⟩; conv => whnf)
    | (refine CallK.ret f_twin_need.ok (tneed_ok) ?_; rintro v G ⟨rfl, rfl⟩; conv => whnf)
    | fail)
  refine Ret.eq rfl ?_
  first | exact Imp.refl _ | exact Imp.drop | exact Imp.fin | ((repeat (refine Imp.pick ?_)); first | exact Imp.refl _ | exact Imp.emp _ | exact Imp.fin)
theorem running_no {W : World} {H R : HProp} {d : Nat} {X : DevX} [t : DevC H d X R] (h : X.down = true) : Does prog W f_twin_running ⟨[ptr d]⟩ H (Thr fun c G => c = pan (tref 40) ∧ G = (devo d X • R)) := by
  rw [t.h.eq]
  refine f_twin_running.does _ ?_
  conv => whnf
  repeat' (first
    | (refine CallK.ret f_sectors_Device_Down.ok (down_spec (X := X)) ?_; rw [h]; rintro v G ⟨rfl, rfl⟩; conv => whnf)
    | (refine CallK.ret f_twin_need.ok (tneed_ok) ?_; rintro v G ⟨rfl, rfl⟩; conv => whnf)
    | (refine CallK.thr f_twin_need.ok (tneed_no) ?_; rintro c G ⟨rfl, rfl⟩; conv => whnf)
    | fail)
  exact Thr.eq rfl (Imp.refl _)
end Go.Proofs.YtgcknlpkhhpkjaaGreatDoor
/- The program's package twin, walked: reading, writing in a row. Conditions: in each statement. -/
namespace Go.SL
/-- s[lo:hi], with the size of a cell's row in plain view. -/
theorem OpQ.sly {P : Program} {W : World} {T : Tab} (hT : T.ok P) {st : TypeId} {s i j : Operand} {ty : TypeId} {ev : Operand → Option Value} {K : Value → Prop} {n c : Nat} {a : Option Addr} {H : HProp} {k k' : IntKind} {z y : Int} {e : TypeId} {c1 : List Value} {a1 : Bool} {s1 b1 : Nat} {r2 : TRow} (lo m sz : Nat)
    (hs : ev s = some (.slice a n c)) (hi : ev i = some (.int k z)) (hj : ev j = some (.int k' y)) (h1 : T st = some ⟨.slice e, c1, a1, s1, b1⟩) (h2 : T e = some r2) (hsz : r2.size = sz) (hz : z = (lo : Int)) (hy : y = ((lo + m : Nat) : Int)) (hc : lo + m ≤ c) (hk : K (.slice (dropA a lo c sz) m (c - lo))) :
    OpQ P W (.slice st s (some i) (some j) none) ty ev H K := OpQ.slx hT lo m hs hi hj h1 h2 hz hy hc (hsz ▸ hk)
end Go.SL
namespace Go.SL.Sec
theorem lastOf_mem {i : Int} {b : List Int} {q : List (Int × List Int)} (h : lastOf i q = some b) : ∃ p ∈ q, p.2 = b := by
  rw [lastOf_find] at h
  obtain ⟨p, hp, he⟩ := Option.map_eq_some_iff.1 h
  exact ⟨p, List.mem_reverse.1 (List.mem_of_find?_eq_some hp), he⟩
theorem Dev.read_len {D : Dev} {i : Int} (h : D.Ok) (he : (D.read i).1 = 0) : (D.read i).2.length = 512 ∧ 0 ≤ i ∧ i < D.secs := by
  have h1 := h.len
  unfold Dev.read at he ⊢
  unfold Dev.secs at he ⊢
  by_cases hd : D.down = true
  · rw [if_pos hd] at he; exact absurd he (by decide)
  rw [if_neg hd] at he ⊢
  by_cases hi : i < 0 ∨ i ≥ (D.img.length : Int) / 512
  · rw [if_pos hi] at he; exact absurd he (by decide)
  rw [if_neg hi]
  refine ⟨?_, by omega, by omega⟩
  unfold Dev.at
  cases hl : lastOf i D.q with
  | none =>
    unfold secOf
    dsimp only [Option.getD]
    rw [List.length_take, List.length_drop]
    omega
  | some b =>
    obtain ⟨p, hp, rfl⟩ := lastOf_mem hl
    exact (h.q p hp).2.2.1
end Go.SL.Sec
namespace Go.Proofs.YtgcknlpkhhpkjaaGreatDoor
open Go Go.SL Go.SL.Sec Go.SL.Twn
theorem tget_ok {W : World} {H R : HProp} {d : Nat} {X : DevX} {i : Int} [t : DevC H d X R] (hX : X.Ok) (hq : X.ps.length ≤ 1000000) (he : (X.val.read i).1 = 0) :
    Does prog W f_twin_get ⟨[ptr d, .int .i64 i]⟩ H (Ret fun v G => ∃ a c, 512 ≤ c ∧ v = .slice a 512 c ∧ G = (vec t_uint8 1 bytv a c (X.val.read i).2 • devo d X • R)) := by
  rw [t.h.eq]
  have h512 := (Dev.read_len hX.val he).1
  refine f_twin_get.does _ _ ?_
  conv => whnf
  repeat' (first
    | (refine CallK.ret f_sectors_Device_Read.ok (read_spec (X := X) hX hq) ?_; rintro v G ⟨ra, rc, hrc, rfl, rfl⟩; rw [he]; conv => whnf)
    | (refine CallK.ret f_twin_must.ok tmust_ok ?_; rintro v G ⟨rfl, rfl⟩; conv => whnf)
    | fail)
  exact ⟨_, _, rfl, Imp.refl _, ra, rc, by omega, by rw [h512], rfl⟩
theorem put_go {W : World} {R : HProp} {d : Nat} {X : DevX} {z : Int} {a : Option Addr} {nn c n : Nat} {b : List Int} (ro : RowC W R a 1 bytv b) (hX : X.Ok) (hq : X.ps.length ≤ 500000) (hz : 0 ≤ z ∧ z ≤ 8192) (hl : b.length = 512 * n) (hn : n ≤ 4) (hc : b.length ≤ c) (hb : Byt b) (hnn : nn = b.length) :
    Does prog W f_twin_put ⟨[ptr d, .int .i64 z, .slice a nn c]⟩ (devo d X • R) (fun en G => ∃ G', Imp G G' ∧ AskT (pws z b n 0 X.val).1 (fun G => ∃ X' : DevX, X'.Ok ∧ X'.val = (pws z b n 0 X.val).2 ∧ X'.ps.length ≤ X.ps.length + n ∧ G = (devo d X' • R)) en G') := by
  subst hnn
  obtain ⟨RR, hRR⟩ : ∃ RR, RR = pws z b n 0 X.val := ⟨_, rfl⟩
  rw [← hRR]
  refine f_twin_put.does _ _ _ ?_
  conv => whnf
  skip
  refine LoopK.at tab_ok (L := f_twin_put.live) (ι := Nat × DevX) (fun i => i.1 ≤ n ∧ pws z b (n - i.1) i.1 i.2.val = RR ∧ i.2.Ok ∧ i.2.ps.length ≤ X.ps.length + i.1) (fun i => [(6, .int .i64 i.1)])
    (fun i => devo d i.2) (fun i => n - i.1) (0, X) ⟨by simp, by rw [hRR]; rfl, hX, by simp⟩ (fun t v h => h) (Imp.pick (Imp.refl _)) ?_
  rintro ⟨i, Z⟩ ⟨hi, hw, hZ, hZq⟩
  dsimp only at hi hw hZ hZq ⊢
  conv => whnf
  by_cases h1 : i < n
  · rw [pws_next h1] at hw
    obtain ⟨S, hS⟩ : ∃ S, S = (b.drop (512 * i)).take 512 := ⟨_, rfl⟩
    have hSl : S.length = 512 := by rw [hS, List.length_take, List.length_drop]; omega
    have hSb : Byt S := hS ▸ (hb.drop _).take _
    rw [← hS] at hw
    obtain ⟨e, he⟩ : ∃ e, e = (Z.val.write (z + i) S).1 := ⟨_, rfl⟩
    rw [← he] at hw
    haveI rS : RowN W R (dropA a (512 * i) c 1) 512 1 bytv S := ⟨by rw [hS]; exact RowC.take _ (RowC.drop (512 * i) c hc ro), hSl.symm⟩
    by_cases he0 : e = 0
    · rw [if_pos he0] at hw
      repeat' (first
        | (refine CallK.ret f_sectors_Device_Write.ok (write_spec (X := Z) (b := S) (ro := rS) hZ (by omega) hSb (by omega)) ?_; rintro v G ⟨Z', hZ', hZv, hZl, rfl, rfl⟩; rw [← he, he0]; conv => whnf)
        | (refine CallK.ret f_twin_must.ok tmust_ok ?_; rintro v G ⟨rfl, rfl⟩; conv => whnf)
        | (refine spl_dec (fun hd => ?_) (fun hd => ?_) <;> first | (exfalso; omega) | (conv => whnf))
        | (refine Ar.i64 (by omega) ?_; conv => whnf)
        | (refine OpX.of_quiet (OpQ.sly tab_ok (512 * i) 512 1 rfl rfl rfl rfl rfl rfl (by omega) (by omega) (by omega) ?_); conv => whnf)
        | fail)
      refine ⟨rfl, (i + 1, Z'), ⟨h1, by rw [hZv]; exact hw, hZ', by dsimp only; omega⟩, fun t v h => h, ?_, by dsimp only; omega⟩
      first | exact Imp.refl _ | exact Imp.drop | exact Imp.fin | ((repeat (refine Imp.pick ?_)); first | exact Imp.refl _ | exact Imp.emp _ | exact Imp.fin)
    · rw [if_neg he0] at hw
      repeat' (first
        | (refine CallK.ret f_sectors_Device_Write.ok (write_spec (X := Z) (b := S) (ro := rS) hZ (by omega) hSb (by omega)) ?_; rintro v G ⟨Z', hZ', hZv, hZl, rfl, rfl⟩; rw [← he]; conv => whnf)
        | (refine CallK.thr f_twin_must.ok (tmust_no he0) ?_; rintro c G ⟨rfl, rfl⟩; conv => whnf)
        | (refine spl_dec (fun hd => ?_) (fun hd => ?_) <;> first | (exfalso; omega) | (conv => whnf))
        | (refine Ar.i64 (by omega) ?_; conv => whnf)
        | (refine OpX.of_quiet (OpQ.sly tab_ok (512 * i) 512 1 rfl rfl rfl rfl rfl rfl (by omega) (by omega) (by omega) ?_); conv => whnf)
        | fail)
      refine ⟨_, Imp.refl _, .inr ⟨?_, ?_⟩, Z', hZ', ?_, ?_, rfl⟩
      · rw [← hw, ← he]; exact he0
      · rw [← hw, ← he]
      · rw [hZv, ← hw]
      · omega
  · rw [show n - i = 0 by omega, pws] at hw
    obtain ⟨e, he⟩ : ∃ e, e = Z.val.sync.1 := ⟨_, rfl⟩
    by_cases he0 : e = 0
    · repeat' (first
        | (refine CallK.ret f_sectors_Device_Sync.ok (sync_spec (X := Z) hZ (by omega)) ?_; rintro v G ⟨Z', hZ', hZv, hZl, rfl, rfl⟩; rw [← he, he0]; conv => whnf)
        | (refine CallK.ret f_twin_must.ok tmust_ok ?_; rintro v G ⟨rfl, rfl⟩; conv => whnf)
        | (refine spl_dec (fun hd => ?_) (fun hd => ?_) <;> first | (exfalso; omega) | (conv => whnf))
        | (refine Ar.i64 (by omega) ?_; conv => whnf)
        | fail)
      refine ⟨_, Imp.refl _, .inl ⟨?_, rfl⟩, Z', hZ', ?_, ?_, rfl⟩
      · rw [← hw, ← he]; exact he0
      · rw [hZv, ← hw]
      · omega
    · repeat' (first
        | (refine CallK.ret f_sectors_Device_Sync.ok (sync_spec (X := Z) hZ (by omega)) ?_; rintro v G ⟨Z', hZ', hZv, hZl, rfl, rfl⟩; rw [← he]; conv => whnf)
        | (refine CallK.thr f_twin_must.ok (tmust_no he0) ?_; rintro c G ⟨rfl, rfl⟩; conv => whnf)
        | (refine spl_dec (fun hd => ?_) (fun hd => ?_) <;> first | (exfalso; omega) | (conv => whnf))
        | (refine Ar.i64 (by omega) ?_; conv => whnf)
        | fail)
      refine ⟨_, Imp.refl _, .inr ⟨?_, ?_⟩, Z', hZ', ?_, ?_, rfl⟩
      · rw [← hw, ← he]; exact he0
      · rw [← hw, ← he]
      · rw [hZv, ← hw]
      · omega
end Go.Proofs.YtgcknlpkhhpkjaaGreatDoor
/- A region that draws its order, with forks, and with a forced end. No condition. -/
namespace Go.SL
open Go
/-- Is there an operation that is not in F? -/
def PT.some (F : List Nat) : PT → Bool
  | .nil => false
  | .op i t => !F.contains i || t.some F
  | .two i t j s => (!F.contains i || t.some F) || (!F.contains j || s.some F)
def ptOkF (ops : List Oper) (F : List Nat) : PT → Array Bool → Bool
  | .nil, listed => (Region.ready .any ⟨ops⟩ listed).isEmpty
  | .op i t, listed => match ops[i]? with
    | none => false
    | some o => (match quietOp o.op && !F.contains i with
        | true => (Region.ready .any ⟨ops⟩ listed).contains i && Region.free .any ⟨ops⟩ listed i
        | false => Region.ready .any ⟨ops⟩ listed == [i]) && (!F.contains i || !t.some F) && ptOkF ops F t (listed.setIfInBounds i true)
  | .two i t j s, listed => Region.ready .any ⟨ops⟩ listed == [i, j] && !F.contains i && !F.contains j && ptOkF ops F t (listed.setIfInBounds i true) && ptOkF ops F s (listed.setIfInBounds j true)
def treeOkF (ops : List Oper) (F : List Nat) (t : PT) : Bool := Region.noSelect ⟨ops⟩ && Nat.ble t.size ops.length && lastOk ops F && ptOkF ops F t (Array.replicate ops.length false)
def execTreeF (P : Program) (W : World) (T : Tab) (N : Nat) (A : HProp) (all : List Oper) (F : List Nat) : PT → Fr → List Deferred → HProp → ContK → PanK → Prop
  | .nil, fr, ds, H, K, _ => K fr ds H
  | .op i t, fr, ds, H, K, Kp => match all[i]? with
    | some o => guarded all o fr
        (fun fr => match quietOp o.op && !F.contains i with
          | true => opK P W T o.op o.type fr.eval A (fun v _ => putK N fr v (fun fr => execTreeF P W T N A all F t fr ds H K Kp) o.dst) (fun _ _ => False)
              (OpQ P W o.op o.type fr.eval A fun v => putK N fr v (fun fr => execTreeF P W T N A all F t fr ds H K Kp) o.dst)
          | false => op1 P W T N o fr ds H (fun fr ds H => match F.contains i with
            | true => execTreeF P W T N A all F t fr ds H K Kp
            | false => Req (Sub W H A) (execTreeF P W T N A all F t fr ds H K Kp)) fun c _ ds H => Kp c [] ds H)
        (fun fr => putK N fr undef (fun fr => execTreeF P W T N A all F t fr ds H K Kp) o.dst)
    | none => False
  | .two i t j s, fr, ds, H, K, Kp => match all[i]?, all[j]? with
    | some o, some p =>
      guarded all o fr (fun fr => loudK P W T N A o fr ds H (fun fr ds H => execTreeF P W T N A all F t fr ds H K Kp) Kp) (fun fr => putK N fr undef (fun fr => execTreeF P W T N A all F t fr ds H K Kp) o.dst) ∧
      guarded all p fr (fun fr => loudK P W T N A p fr ds H (fun fr ds H => execTreeF P W T N A all F s fr ds H K Kp) Kp) (fun fr => putK N fr undef (fun fr => execTreeF P W T N A all F s fr ds H K Kp) p.dst)
    | _, _ => False
section
variable {P : Program} {W : World} {T : Tab} {N : Nat} {A : HProp}
end
end Go.SL
/- Parts of blocks that are read while others turn; stores into folded chunks. No condition. -/
namespace Go.SL
open Go
section
variable {P : Program} {W : World} {H H' G R : HProp}
/-- The cells of these numbers hold these values. -/
def cellsAre (l : List Value) : List (Nat × Value) → Prop
  | [] => True
  | p :: r => l[p.1]? = some p.2 ∧ cellsAre l r
/-- Block b holds cells, those of these numbers among them. -/
def rdcs (b : Nat) (L : List (Nat × Value)) : HProp := fun h => ∃ (l : List Value) (t : TypeId) (fz : Nat × Nat), pts b (.cells ⟨l⟩ t fz) h ∧ cellsAre l L
class LkC (L : List (Nat × Value)) (k : Nat) (v : outParam Value) : Prop where h : ∀ l, cellsAre l L → l[k]? = some v
instance (priority := 90) LkC.there {p : Nat × Value} {L : List (Nat × Value)} {k : Nat} {v : Value} [i : LkC L k v] : LkC (p :: L) k v := ⟨fun l h => i.h l h.2⟩
instance (priority := 100) LkC.here {L : List (Nat × Value)} {k : Nat} {v : Value} : LkC ((k, v) :: L) k v := ⟨fun _ h => h.1⟩
theorem Rd.rdcs {b k : Nat} {L : List (Nat × Value)} {v : Value} [i : LkC L k v] : Rd W (rdcs b L • R) ⟨b, k, none⟩ v := by
  intro w hs
  obtain ⟨h1, a, h2, x, y, hd, rfl, ⟨l, t, fz, hp, hc⟩, hy⟩ := hs
  exact Rd.pts (R := R) (i.h l hc) w ⟨h1, _, h2, x, y, hd, rfl, hp, hy⟩
instance (priority := 100) RdC.rdcs {b k : Nat} {L : List (Nat × Value)} {v : Value} [i : LkC L k v] : RdC W (rdcs b L • R) ⟨b, k, none⟩ v := ⟨Rd.rdcs⟩
theorem Imp.rdcs {b : Nat} {l : List Value} {t : TypeId} {fz : Nat × Nat} {L : List (Nat × Value)} [p : PtsC H b (.cells ⟨l⟩ t fz) R] (h : cellsAre l L) (k : Imp R G) : Imp H (rdcs b L • G) := by
  rw [p.h.eq]
  refine Imp.star ?_ k
  intro x hx
  exact ⟨x, Heap.sub_refl _, l, t, fz, hx, h⟩
/-- A store into a folded chunk. -/
theorem St.conv {a : Addr} {vs : List Value} {K : HProp → Prop} (h : Imp H H') (st : St P W H' a vs (fun X => Imp X G)) (k : K G) : St P W H a vs K := by
  refine ⟨fun w hs hone => ?_⟩
  obtain ⟨w', X, h1, h2, h3⟩ := st.run w (hs.imp h) hone
  exact ⟨w', G, h1, h2.imp h3, k⟩
theorem Req.conv {p : Prop} {a : Addr} {vs : List Value} {K : HProp → Prop} (h : Imp H H') (st : Req p (St P W H' a vs (fun X => Imp X G))) (k : K G) : Req p (St P W H a vs K) := ⟨st.p, St.conv h st.k k⟩
theorem CallK.imp {f : FuncId} {args : List Value} {K : Value → HProp → Prop} {Kp : List PanicEntry → HProp → Prop} (h : Imp H H') (c : CallK P W f args H' K Kp) : CallK P W f args H K Kp := by
  refine ⟨c.go.imp (fun ⟨a, b⟩ => ⟨a, ⟨fun w hs => b.run w (hs.imp h)⟩⟩) fun k w hs => k w (hs.imp h)⟩
/-- All but one row. -/
theorem KeepC.cut {α : Type} {t : TypeId} {sz : Nat} {enc : α → List Value} {cap : Nat} {xs : List α} (a : Option Addr) [c : VecC H a t sz enc cap xs R] : KeepC H R := ⟨by rw [c.h.eq]; exact Imp.drop⟩
/-- The row behind its first cells. -/
theorem Imp.vdrop {α : Type} {t : TypeId} {sz : Nat} {enc : α → List Value} {a : Option Addr} {cap : Nat} {xs : List α} [s : SizedC sz enc] [c : VecC H a t sz enc cap xs R] (m : Nat) (hm : m ≤ xs.length) (k : Imp R G) : Imp H (SL.vec t sz enc (dropA a m cap sz) (cap - m) (xs.drop m) • G) := by
  rw [c.h.eq]
  refine Imp.star (Ent.imp ?_) k
  intro h hh
  cases a with
  | none =>
    obtain ⟨⟨h1, h2⟩, h3⟩ := hh
    subst h2
    have h0 : m = 0 := by simpa using hm
    subst h0
    unfold dropA
    split
    · exact ⟨⟨by omega, rfl⟩, h3⟩
    · exact ⟨⟨by omega, rfl⟩, h3⟩
  | some x =>
    obtain ⟨b, off, sp⟩ := x
    obtain ⟨pre, junk, hh⟩ := hh
    obtain ⟨⟨h1, h2, h3, h4⟩, h5⟩ := pure_star.1 hh
    subst h1
    unfold dropA
    by_cases e : cap = m
    · rw [if_pos e]
      have hxl : xs.length = m := by omega
      refine ⟨pre, xs.flatMap enc ++ junk, pure_star.2 ⟨⟨rfl, h2, by simp [hxl], by simp [e]⟩, ?_⟩⟩
      rw [List.drop_eq_nil_of_le (by omega), List.flatMap_nil, List.append_nil, ← List.append_assoc]
      exact h5
    · rw [if_neg e]
      simp only [Option.map_some, Addr.add_eq]
      refine ⟨pre ++ (xs.take m).flatMap enc, junk, pure_star.2 ⟨⟨rfl, ?_, by rw [List.length_drop]; omega, ?_⟩, ?_⟩⟩
      · rw [List.length_append, h2, s.h.flat, List.length_take, Nat.min_eq_left hm]
      · rw [List.length_drop, show cap - m - (xs.length - m) = cap - xs.length by omega]; exact h4
      · have : pre ++ (xs.take m).flatMap enc ++ (xs.drop m).flatMap enc ++ junk = pre ++ xs.flatMap enc ++ junk := by
          rw [List.append_assoc pre, ← List.flatMap_append, List.take_append_drop]
        rw [this]; exact h5
/-- x stands at i in l. -/
class GetC {α : Type} (l : List α) (i : outParam Nat) (x : α) : Prop where h : l[i]? = some x
end
end Go.SL
/- The log, in plain words; where it lies; the functions that only tell. Conditions: in each statement. -/
namespace Go.SL.Rec
open Go Go.SL Go.SL.Sec Go.SL.Fld Go.SL.Pts
open Go.SL.Und (RecV recv fits)
/-- A record with its lists. -/
structure RecM where
  r : RecV
  L : List LiveV
  D : List DirtyV
/-- The same record, its own lists nowhere. -/
def bare (r : RecV) : RecV := { r with lv := (none, 0, 0), dt := (none, 0, 0) }
/-- A record, and where its lists lie. -/
structure RecX where
  m : RecM
  la : Option Addr
  lc : Nat
  da : Option Addr
  dc : Nat
def RecX.full (x : RecX) : RecV := { x.m.r with lv := (x.la, x.m.L.length, x.lc), dt := (x.da, x.m.D.length, x.dc) }
def recx (x : RecX) : List Value := recv x.full
instance : SizedC 17 recx := ⟨fun _ => rfl⟩
instance : OneC recx := ⟨fun ys v hv => by
  obtain ⟨d, h1, hv⟩ := List.mem_flatMap.1 hv
  exact Und.rec_one [d.full] v (by rw [List.flatMap_cons, List.flatMap_nil, List.append_nil]; exact hv)⟩
/-- A row of bytes, and where it lies. -/
structure BytX where
  a : Option Addr
  c : Nat
  b : List Int
def bytx (x : BytX) : List Value := [.slice x.a x.b.length x.c]
instance : SizedC 1 bytx := ⟨fun _ => rfl⟩
instance {x : BytX} : LitL (bytx x) [.slice x.a x.b.length x.c] := ⟨rfl⟩
instance : OneC bytx := ⟨fun ys v hv => by
  obtain ⟨d, _, hv⟩ := List.mem_flatMap.1 hv
  simp only [bytx, List.mem_cons, List.not_mem_nil, or_false] at hv
  subst hv; rfl⟩
/-- A log: where it lies on the disk, its records, the bytes of those that are not forced, how many are; what ended it: nothing, or a number. -/
structure LogM where
  first : Int
  count : Int
  recs : List RecM
  bys : List (List Int)
  forced : Nat
  err : Option (Int × Int)
structure LogX where
  d : Nat
  first : Int
  count : Int
  ra : Option Addr
  rc : Nat
  recs : List RecX
  ba : Option Addr
  bc : Nat
  bys : List BytX
  forced : Nat
  err : Option (Nat × Int × Int)
def LogX.val (X : LogX) : LogM := ⟨X.first, X.count, X.recs.map (·.m), X.bys.map (·.b), X.forced, X.err.map (·.2)⟩
/-- Get. -/
def LogM.get (M : LogM) (n : Int) : Int × RecM :=
  if M.err.isSome then (40, ⟨recZ, [], []⟩) else if n < 1 ∨ n > M.recs.length then (4, ⟨recZ, [], []⟩) else (0, (M.recs[(n - 1).toNat]?).getD ⟨recZ, [], []⟩)
/-- Lists of records are short. -/
structure LogX.Ok (X : LogX) : Prop where
  cnt : 0 ≤ X.count ∧ X.count ≤ 4096
  recs : ∀ x ∈ X.recs, x.m.L.length ≤ 32 ∧ x.m.D.length ≤ 16 ∧ bare x.m.r = x.m.r
  len : (X.recs.length : Int) ≤ X.count
  bl : X.forced + X.bys.length = X.recs.length
  byt : ∀ x ∈ X.bys, Byt x.b ∧ x.b.length ≤ 505
end Go.SL.Rec
namespace Go.Proofs.YtgcknlpkhhpkjaaGreatDoor
open Go Go.SL Go.SL.Sec Go.SL.Fld Go.SL.Pts Go.SL.Rec
open Go.SL.Und (RecV recv fits)
def recc (x : RecX) : HProp := vec t_api_Live 4 livev x.la x.lc x.m.L • vec t_api_Dirty 2 dirtyv x.da x.dc x.m.D
def bytc (x : BytX) : HProp := vec t_uint8 1 bytv x.a x.c x.b
/-- The word of a call. -/
abbrev wForce : ByteArray := ⟨#[70, 111, 114, 99, 101]⟩
/-- An error of a call. -/
def fltc (b : Nat) (w : ByteArray) (at_ e : Int) : HProp := pts b (.cells ⟨[.string w, .int .i64 at_, .iface t_api_Errno (.int .i64 e)]⟩ t_api_Fault)
def errv : Option (Nat × Int × Int) → Value
  | none => .nilIface
  | some (b, _, _) => .iface t_P_api_Fault (ptr b)
def errc : Option (Nat × Int × Int) → HProp
  | none => emp
  | some (b, z, e) => fltc b wForce z e
def logo (l : Nat) (X : LogX) : HProp :=
  pts l (.cells ⟨[ptr X.d, .int .i64 X.first, .int .i64 X.count, .slice X.ra X.recs.length X.rc, .slice X.ba X.bys.length X.bc, .int .i64 X.forced, errv X.err]⟩ t_log_Log) •
  vec t_api_Record 17 recx X.ra X.rc X.recs • bigL recc X.recs • vec t_S_uint8 1 bytx X.ba X.bc X.bys • bigL bytc X.bys • errc X.err
theorem logo_eq (l : Nat) (X : LogX) (R : HProp) : (logo l X • R) = (pts l (.cells ⟨[ptr X.d, .int .i64 X.first, .int .i64 X.count, .slice X.ra X.recs.length X.rc, .slice X.ba X.bys.length X.bc, .int .i64 X.forced, errv X.err]⟩ t_log_Log) •
  vec t_api_Record 17 recx X.ra X.rc X.recs • bigL recc X.recs • vec t_S_uint8 1 bytx X.ba X.bc X.bys • bigL bytc X.bys • errc X.err • R) := by
  unfold logo; simp only [star_assoc]
section
variable {W : World} {R : HProp} {l : Nat} {X : LogX}
instance (priority := 100) RdC.logo {k : Nat} {v : Value} [LAt [ptr X.d, .int .i64 X.first, .int .i64 X.count, .slice X.ra X.recs.length X.rc, .slice X.ba X.bys.length X.bc, .int .i64 X.forced, errv X.err] k v] : RdC W (logo l X • R) ⟨l, k, none⟩ v := by rw [logo_eq]; infer_instance
instance (priority := 100) RowC.logr : RowC W (logo l X • R) X.ra 17 recx X.recs := by rw [logo_eq]; infer_instance
instance (priority := 100) RowC.logb : RowC W (logo l X • R) X.ba 1 bytx X.bys := by rw [logo_eq]; infer_instance
theorem RowC.logB {i : Nat} {x : BytX} (h : X.bys[i]? = some x) : RowC W (logo l X • R) x.a 1 bytv x.b := by
  rw [logo_eq, bigL_take bytc X.bys i x h]
  unfold bytc
  simp only [star_assoc]
  infer_instance
end
theorem forced_spec {W : World} {H R : HProp} {l : Nat} {X : LogX} [t : ObjC logo H l X R] : Does prog W f_log_Log_Forced ⟨[ptr l]⟩ H (Ret fun v G => v = .int .i64 X.forced ∧ G = (logo l X • R)) := by
  rw [t.h.eq]
  refine f_log_Log_Forced.does _ ?_
  conv => whnf
  repeat' (first
    | (refine Ld.i ?_; conv => whnf)
    | fail)
  refine Ret.eq rfl ?_
  first | exact Imp.refl _ | exact Imp.drop | exact Imp.fin | ((repeat (refine Imp.pick ?_)); first | exact Imp.refl _ | exact Imp.emp _ | exact Imp.fin)
theorem last_spec {W : World} {H R : HProp} {l : Nat} {X : LogX} [t : ObjC logo H l X R] : Does prog W f_log_Log_Last ⟨[ptr l]⟩ H (Ret fun v G => v = .int .i64 X.recs.length ∧ G = (logo l X • R)) := by
  rw [t.h.eq]
  refine f_log_Log_Last.does _ ?_
  conv => whnf
  repeat' (first
    | (refine Ld.i ?_; conv => whnf)
    | fail)
  refine Ret.eq rfl ?_
  first | exact Imp.refl _ | exact Imp.drop | exact Imp.fin | ((repeat (refine Imp.pick ?_)); first | exact Imp.refl _ | exact Imp.emp _ | exact Imp.fin)
theorem free_spec {W : World} {H R : HProp} {l : Nat} {X : LogX} [t : ObjC logo H l X R] (hc : 0 ≤ X.count ∧ X.count ≤ 1000000000) (hr : X.recs.length ≤ 1000000000) : Does prog W f_log_Log_Free ⟨[ptr l]⟩ H (Ret fun v G => v = .int .i64 (X.count - X.recs.length) ∧ G = (logo l X • R)) := by
  rw [t.h.eq]
  refine f_log_Log_Free.does _ ?_
  conv => whnf
  repeat' (first
    | (refine Ld.i ?_; conv => whnf)
    | (refine Ar.i64 (by omega) ?_; conv => whnf)
    | (refine DrawK.introH tab_ok mixed 3 f_log_Log_Free.last1 f_log_Log_Free.plan1 _ rfl (by kernel_rfl) (Sub.of (by first | exact Imp.refl _ | exact Imp.drop | exact Imp.fin | ((repeat (refine Imp.pick ?_)); first | exact Imp.refl _ | exact Imp.emp _ | exact Imp.fin))) ?_; conv => whnf)
    | fail)
  refine Ret.eq rfl ?_
  first | exact Imp.refl _ | exact Imp.drop | exact Imp.fin | ((repeat (refine Imp.pick ?_)); first | exact Imp.refl _ | exact Imp.emp _ | exact Imp.fin)
/-- A record with lists of its own. -/
theorem own_spec {W : World} {R : HProp} {r : RecV} {L : List LiveV} {D : List DirtyV} [rl : RowN W R r.lv.1 r.lv.2.1 4 livev L] [rd : RowN W R r.dt.1 r.dt.2.1 2 dirtyv D] (hl : L.length ≤ 1000000000) (hd : D.length ≤ 1000000000) :
    Does prog W f_log_own ⟨[recA r]⟩ R (Ret fun v G => ∃ x : RecX, x.m = ⟨bare r, L, D⟩ ∧ v = recA x.full ∧ G = (recc x • R)) := by
  unfold recA
  refine f_log_own.does _ ?_
  conv => whnf
  repeat' (first
    | (refine CallK.ret f_slices_Clone_S_api_Live_api_Live.ok (cloneL_spec (l := L) hl) ?_; rintro v G ⟨la, lc, hla, rfl, rfl⟩; conv => whnf)
    | (refine CallK.ret f_slices_Clone_S_api_Dirty_api_Dirty.ok (cloneD_spec (l := D) hd) ?_; rintro v G ⟨da, dc, hda, rfl, rfl⟩; conv => whnf)
    | (refine Ld.i ?_; conv => whnf)
    | (refine LdN.i ?_; conv => whnf)
    | (refine St.i ⟨rfl, rfl⟩ (List.cons_ne_nil _ _) ?_; conv => whnf)
    | (intro blk hblk; conv => whnf)
    | fail)
  refine ⟨_, _, rfl, ?_, ⟨⟨bare r, L, D⟩, la, lc, da, dc⟩, rfl, rfl, rfl⟩
  unfold recc
  dsimp only
  simp only [star_assoc]
  first | exact Imp.refl _ | exact Imp.drop | exact Imp.fin | ((repeat (refine Imp.pick ?_)); first | exact Imp.refl _ | exact Imp.emp _ | exact Imp.fin)
end Go.Proofs.YtgcknlpkhhpkjaaGreatDoor
