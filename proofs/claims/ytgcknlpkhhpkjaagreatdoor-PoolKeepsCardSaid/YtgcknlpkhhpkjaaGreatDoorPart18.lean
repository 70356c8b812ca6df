/- Reading a sector of the program's disk, walked. Conditions: in each statement. -/
import Derived.Test.YtgcknlpkhhpkjaaGreatDoorPart16
import Derived.Test.YtgcknlpkhhpkjaaGreatDoorPart17
namespace Go.SL.Sec
open Go Go.SL
theorem lastOf_find (i : Int) : ∀ q : List (Int × List Int), lastOf i q = (q.reverse.find? fun p => decide (p.1 = i)).map (·.2)
 | [] => rfl
 | p :: q => by
  rw [lastOf, lastOf_find i q, List.reverse_cons, List.find?_append]
  cases h : q.reverse.find? fun p => decide (p.1 = i) with
  | some x => rfl
  | none =>
   by_cases e : p.1 = i
   ·simp [e]
   ·simp [e]
theorem lastOf_none {i : Int} {q : List (Int × List Int)} (h : ∀ j, j < q.length → ∀ p, q.reverse[j]? = some p → p.1 ≠ i) : lastOf i q = none := by
 rw [lastOf_find, List.find?_eq_none.2]; · rfl
 intro p hp
 obtain ⟨j, hj⟩ := List.getElem?_of_mem hp
 have hl : j < q.length := by have := (List.getElem?_eq_some_iff.1 hj).1; simpa using this
 simpa using h j hl p hj
theorem lastOf_some {i : Int} {q : List (Int × List Int)} {k : Nat} {p : Int × List Int} (hp : q.reverse[k]? = some p) (he : p.1 = i) (h : ∀ j, j < k → ∀ p, q.reverse[j]? = some p → p.1 ≠ i) : lastOf i q = some p.2 := by
 obtain ⟨hl, hg⟩ := List.getElem?_eq_some_iff.1 hp
 rw [lastOf_find, List.find?_eq_some_iff_getElem.2 ⟨by simpa using he, k, hl, hg, fun j hj => ?_⟩]; · rfl
 simpa using h j hj _ (List.getElem?_eq_getElem (Nat.lt_trans hj hl))
end Go.SL.Sec
namespace Go.Proofs.YtgcknlpkhhpkjaaGreatDoor
open Go Go.SL Go.SL.Sec
theorem backward_spec {W : World} {R : HProp} {a : Option Addr} {n c : Nat} :
  Does prog W f_z3q ⟨[.slice a n c]⟩ R (Ret fun v G => ∃ B, v = .func (.func f_z2w) ⟨[]⟩ ⟨[ptr B]⟩ ∧ G = (pts B (.cells ⟨[.slice a n c]⟩ t_S_api_Pending) • R)) := by
 refine f_z3q.does _ ?_
 conv => whnf
 repeat' (first
  | (intro blk hblk; conv => whnf))
 exact ⟨_, _, rfl, Imp.refl _, blk, rfl, rfl⟩
theorem read_spec {W : World} {H R : HProp} {d : Nat} {X : DevX} {i : Int} [t : DevC H d X R] (hX : X.Ok) (hq : X.ps.length ≤ 1000000) :
  Does prog W f_z11 ⟨[ptr d, .int .i64 i]⟩ H (Ret fun v G => ∃ a c, (X.val.read i).2.length ≤ c ∧ v = .tuple ⟨[.slice a (X.val.read i).2.length c, .int .i64 (X.val.read i).1]⟩ ∧ G = (vec t_uint8 1 bytv a c (X.val.read i).2 • devo d X • R)) := by
 have hl := hX.len
 have hsz : X.val.secs = (X.img.length : Int) / 512 := rfl
 rw [t.h.eq]
 unfold Dev.read
 by_cases h1 : X.down = true
 ·rw [if_pos (show X.val.down = true from h1)]
  refine f_z11.does _ _ ?_
  conv => whnf
  repeat' (first
   | ((first | refine spl_t h1 ?_ | refine Ld.i ?_ | refine St.i ⟨rfl, rfl⟩ (List.cons_ne_nil _ _) ?_); conv => whnf)
   | (intro blk hblk; conv => whnf))
  refine ⟨_, _, rfl, ?_, none, 0, Nat.le_refl _, rfl, rfl⟩
  refine Imp.vnil ?_
  first | exact .refl _ | exact .drop | exact .fin | ((repeat refine .pick ?_); first | exact .refl _ | exact .emp _ | exact .fin)
 rw [if_neg (show ¬ X.val.down = true from h1)]
 have h1f : X.down = false := by simpa using h1
 by_cases h2 : i < 0 ∨ i ≥ X.val.secs
 ·rw [if_pos h2]
  refine f_z11.does _ _ ?_
  conv => whnf
  repeat' (first
   | (refine spl_f h1f ?_; conv => whnf)
   | (refine spl_dec (fun hd => ?_) (fun hd => ?_) <;> first | (exfalso; omega) | (conv => whnf))
   | ((first | refine Ld.i ?_ | refine St.i ⟨rfl, rfl⟩ (List.cons_ne_nil _ _) ?_); conv => whnf)
   | (intro blk hblk; conv => whnf)
   | (refine Sub.on (by first | exact .refl _ | exact .drop | exact .fin | ((repeat refine .pick ?_); first | exact .refl _ | exact .emp _ | exact .fin)) ?_; conv => whnf)
   | (refine DrawK.introH tab_ok mixed 14 f_z11.last3 f_z11.plan3 _ rfl (by kernel_rfl) (Sub.of (by first | exact .refl _ | exact .drop | exact .fin | ((repeat refine .pick ?_); first | exact .refl _ | exact .emp _ | exact .fin))) ?_; conv => whnf)
   | (refine CallK.ret f_z1i.ok (sectors_spec (by first | rfl | assumption | omega | decide | (simp; done) | (simp; omega) | (simp at *; omega))) ?_; rintro v G ⟨rfl, rfl⟩; conv => whnf))
  all_goals
   refine ⟨_, _, rfl, ?_, none, 0, Nat.le_refl _, rfl, rfl⟩
   refine Imp.vnil ?_
   first | exact .refl _ | exact .drop | exact .fin | ((repeat refine .pick ?_); first | exact .refl _ | exact .emp _ | exact .fin)
 rw [if_neg h2]
 refine f_z11.does _ _ ?_
 conv => whnf
 repeat' (first
  | (refine spl_f h1f ?_; conv => whnf)
  | (refine spl_dec (fun hd => ?_) (fun hd => ?_) <;> first | (exfalso; omega) | (conv => whnf))
  | (refine Ld.i ?_; conv => whnf)
  | (intro blk hblk; conv => whnf)
  | (refine Sub.on (by first | exact .refl _ | exact .drop | exact .fin | ((repeat refine .pick ?_); first | exact .refl _ | exact .emp _ | exact .fin)) ?_; conv => whnf)
  | (refine DrawK.introH tab_ok mixed 14 f_z11.last3 f_z11.plan3 _ rfl (by kernel_rfl) (Sub.of (by first | exact .refl _ | exact .drop | exact .fin | ((repeat refine .pick ?_); first | exact .refl _ | exact .emp _ | exact .fin))) ?_; conv => whnf)
  | (refine CallK.ret f_z1i.ok (sectors_spec (by first | rfl | assumption | omega | decide | (simp; done) | (simp; omega) | (simp at *; omega))) ?_; rintro v G ⟨rfl, rfl⟩; conv => whnf)
  | (refine CallK.ret f_z3q.ok (backward_spec) ?_; rintro v G ⟨e_B, rfl, rfl⟩; conv => whnf))
 rw [devo_eq]
 rename_i b3 hb3 b4 hb4 hd0
 obtain ⟨rest, hrest⟩ : ∃ G, G = (pts d (.cells ⟨[.slice X.ia X.img.length X.ic, .slice X.qa X.ps.length X.qc, .int .i64 X.step, .slice X.ka X.keep.length X.kc, .int .i64 X.torn, .int .i64 X.off, .bool X.down, .int .i64 X.calls]⟩ t_z41) •
  vec t_uint8 1 bytv X.ia X.ic X.img • bigL pendc X.ps • vec t_uint64 1 u64s X.ka X.kc X.keep • R) := ⟨_, rfl⟩
 refine RangeK.intro (L := f_z11.live) tab_ok rfl f_z2w.ok X.ps.length
  (fun k => [.int .i64 ((X.ps.length : Int) - 1 - k), .agg ⟨(X.ps.reverse[k]?.map pendv).getD []⟩]) (fun _ => rfl) (by simp) rfl rfl
  (fun k (_ : Unit) => ∀ j, j < k → ∀ p, X.val.q.reverse[j]? = some p → p.1 ≠ i) (fun _ _ => pts b3 (.cells ⟨[.int .i64 i]⟩ t_int) • pts b4 (.cells ⟨[.slice none 0 0]⟩ t_S_uint8) • pts blk (.cells ⟨[i0]⟩ t_z2) • rest)
  (fun _ (r : Option Addr × Nat) => (X.val.at i).length ≤ r.2) (fun _ r => vec t_uint8 1 bytv r.1 r.2 (X.val.at i) • pts b4 (.cells ⟨[.slice r.1 (X.val.at i).length r.2]⟩ t_S_uint8) • pts blk (.cells ⟨[i0]⟩ t_z2) • rest)
  [.ret] (pts e_B (.cells ⟨[.slice X.qa X.ps.length X.qc]⟩ t_S_api_Pending) • vec t_z40 2 pendv X.qa X.qc X.ps) () (fun j hj => by omega) ?_ (backward_iter rfl hq) ?_ ?_ ?_
 ·subst hrest
  simp only [star_assoc]
  first | exact .refl _ | exact .drop | exact .fin | ((repeat refine .pick ?_); first | exact .refl _ | exact .emp _ | exact .fin)
 ·intro k _ hk hno Y
  obtain ⟨p, hp⟩ : ∃ p, X.ps.reverse[k]? = some p := ⟨_, List.getElem?_eq_getElem (by simpa using hk)⟩
  have hpv : X.val.q.reverse[k]? = some (p.sec, p.b) := by simp only [DevX.val, ← List.map_reverse, List.getElem?_map, hp]; rfl
  rw [hp]
  subst hrest
  haveI mp : MemC X.ps p := ⟨List.mem_reverse.1 (List.mem_of_getElem? hp)⟩
  haveI cp : ∀ Q : HProp, RowC W (bigL pendc X.ps • Q) p.a 1 bytv p.b := fun Q => RowC.pend
  have hpl := hX.val.q _ (by have := List.mem_reverse.1 (List.mem_of_getElem? hpv); exact this)
  dsimp only at hpl
  conv => whnf
  repeat' (first
   | (refine St.i ⟨rfl, rfl⟩ (List.cons_ne_nil _ _) ?_; conv => whnf)
   | (intro blk hblk; conv => whnf))
  refine ⟨rfl, _, Imp.pick (Imp.refl _), fun Y' => ?_⟩
  rename_i bw hbw
  conv => whnf
  repeat' (first
   | (refine spl_dec (fun hd => ?_) (fun hd => ?_) <;> first | (exfalso; omega) | (conv => whnf))
   | ((first | refine Ld.i ?_ | refine St.i ⟨rfl, rfl⟩ (List.cons_ne_nil _ _) ?_); conv => whnf)
   | (refine CallK.ret f_z1x.ok (clone_spec (by first | rfl | assumption | omega | decide | (simp; done) | (simp; omega) | (simp at *; omega))) ?_; rintro v G ⟨e_a', e_cap', e_h1, rfl, rfl⟩; conv => whnf))
  ·have hat : X.val.at i = p.b := by unfold Dev.at; rw [lastOf_some hpv hd hno]; rfl
   refine ⟨by simp, Imp.pick (Imp.known (e_a', e_cap') (by rw [hat]; exact e_h1) ?_)⟩
   rw [hat]
   first | exact .refl _ | exact .drop | exact .fin | ((repeat refine .pick ?_); first | exact .refl _ | exact .emp _ | exact .fin)
  ·refine ⟨trivial, Imp.pick (Imp.known () (fun j hj q hq' => ?_) (by first | exact .refl _ | exact .drop | exact .fin | ((repeat refine .pick ?_); first | exact .refl _ | exact .emp _ | exact .fin)))⟩
   by_cases hjk : j = k
   ·subst hjk
    rw [hpv] at hq'
    cases hq'
    exact hd
   ·exact hno j (by omega) q hq'
 ·intro D _ hno
  subst hrest
  simp only [star_assoc]
  have hlm := hX.val.len
  have hi : 0 ≤ i ∧ i.toNat * 512 + 512 ≤ X.img.length := by
   have : X.val.img.length = X.img.length := rfl
   omega
  have hic := hX.ic
  have hsec : X.val.at i = secOf X.img i := by
   unfold Dev.at; rw [lastOf_none (fun j hj => hno j (by simpa [DevX.val] using hj))]; rfl
  have hso : (secOf X.img i).length = 512 := by simp only [secOf, List.length_take, List.length_drop]; omega
  haveI rs : ∀ Q : HProp, RowN W (vec t_uint8 1 bytv X.ia X.ic X.img • Q) (dropA X.ia (i.toNat * 512) X.ic 1) 512 1 bytv (secOf X.img i) := fun Q => ⟨RowC.sub _, hso.symm⟩
  conv => whnf
  repeat' (first
   | ((first | refine Ld.i ?_ | refine St.i ⟨rfl, rfl⟩ (List.cons_ne_nil _ _) ?_); conv => whnf)
   | (refine CallK.ret f_z1x.ok (clone_spec (by first | rfl | assumption | omega | decide | (simp; done) | (simp; omega) | (simp at *; omega))) ?_; rintro v G ⟨e_a', e_cap', e_h1, rfl, rfl⟩; conv => whnf)
   | (refine CallK.ret f_z2i.ok (sector_spec (by first | rfl | assumption | omega | decide | (simp; done) | (simp; omega) | (simp at *; omega)) (by first | rfl | assumption | omega | decide | (simp; done) | (simp; omega) | (simp at *; omega)) (by first | rfl | assumption | omega | decide | (simp; done) | (simp; omega) | (simp at *; omega))) ?_; rintro v G ⟨rfl, rfl⟩; conv => whnf))
  refine LeaveD.mark tab_ok ?_
  conv => whnf
  repeat' (first
   | (refine Ld.i ?_; conv => whnf))
  rw [hsec]
  refine ⟨_, _, rfl, ?_, e_a', e_cap', e_h1, rfl, rfl⟩
  rw [devo_eq]
  first | exact .refl _ | exact .drop | exact .fin | ((repeat refine .pick ?_); first | exact .refl _ | exact .emp _ | exact .fin)
 ·intro D c r hc hr
  obtain rfl := List.mem_singleton.1 hc
  subst hrest
  simp only [star_assoc]
  conv => whnf
  refine LeaveD.mark tab_ok ?_
  conv => whnf
  repeat' (first
   | (refine Ld.i ?_; conv => whnf))
  refine ⟨_, _, rfl, ?_, r.1, r.2, hr, rfl, rfl⟩
  rw [devo_eq]
  first | exact .refl _ | exact .drop | exact .fin | ((repeat refine .pick ?_); first | exact .refl _ | exact .emp _ | exact .fin)
end Go.Proofs.YtgcknlpkhhpkjaaGreatDoor
/- The program's package twin, walked: asking the disk; several sectors in a row. Conditions: in each statement. -/
namespace Go.SL.Twn
open Go Go.SL Go.SL.Sec
def ThereP (secs at_ many : Int) : Prop := 0 ≤ at_ ∧ many ≤ secs ∧ at_ ≤ secs - many
instance {a b c : Int} : Decidable (ThereP a b c) := inferInstanceAs (Decidable (_ ∧ _))
def TmayP (secs at_ home : Int) : Prop := ThereP secs home 2 ∧ (home + 1 < at_ ∨ home > at_ + 2)
instance {a b c : Int} : Decidable (TmayP a b c) := inferInstanceAs (Decidable (_ ∧ _))
def pws (at_ : Int) (b : List Int) : Nat → Nat → Dev → Int × Dev
 | 0, _, D => D.sync
 | n + 1, i, D => if (D.write (at_ + i) ((b.drop (512 * i)).take 512)).1 = 0 then pws at_ b n (i + 1) (D.write (at_ + i) ((b.drop (512 * i)).take 512)).2 else D.write (at_ + i) ((b.drop (512 * i)).take 512)
theorem pws_next {at_ : Int} {b : List Int} {n i : Nat} {D : Dev} (h : i < n) : pws at_ b (n - i) i D = if (D.write (at_ + i) ((b.drop (512 * i)).take 512)).1 = 0 then pws at_ b (n - (i + 1)) (i + 1) (D.write (at_ + i) ((b.drop (512 * i)).take 512)).2 else D.write (at_ + i) ((b.drop (512 * i)).take 512) := by
 obtain ⟨m, hm⟩ : ∃ m, n - i = m + 1 := ⟨n - i - 1, by omega⟩
 rw [hm, show n - (i + 1) = m by omega, pws]
end Go.SL.Twn
namespace Go.Proofs.YtgcknlpkhhpkjaaGreatDoor
open Go Go.SL Go.SL.Sec Go.SL.Twn
abbrev tref (e : Int) : Value := .iface t_twin_refusal (.agg ⟨[.int .i64 e]⟩)
def AskT (e : Int) (P : HProp → Prop) (en : Ending) (G : HProp) : Prop := ((e = 0 ∧ en = .returned (.tuple ⟨[]⟩)) ∨ (e ≠ 0 ∧ en = .panicked (pan (tref e)))) ∧ P G
theorem tneed_ok {W : World} {R : HProp} {e : Int} : Does prog W f_zf ⟨[.bool true, .int .i64 e]⟩ R (Ret fun v G => v = .tuple ⟨[]⟩ ∧ G = R) := by
 refine f_zf.does _ _ ?_
 conv => whnf
 skip
 refine Ret.eq rfl ?_
 first | exact .refl _ | exact .drop | exact .fin | ((repeat refine .pick ?_); first | exact .refl _ | exact .emp _ | exact .fin)
theorem tneed_no {W : World} {R : HProp} {e : Int} : Does prog W f_zf ⟨[.bool false, .int .i64 e]⟩ R (Thr fun c G => c = pan (tref e) ∧ G = R) := by
 refine f_zf.does _ _ ?_
 conv => whnf
 skip
 exact Thr.eq rfl (Imp.refl _)
theorem tmust_ok {W : World} {R : HProp} : Does prog W f_z1q ⟨[.int .i64 0]⟩ R (Ret fun v G => v = .tuple ⟨[]⟩ ∧ G = R) := by
 refine f_z1q.does _ ?_
 conv => whnf
 repeat' (first
  | (refine CallK.ret f_zf.ok (tneed_ok) ?_; rintro v G ⟨rfl, rfl⟩; conv => whnf))
 refine Ret.eq rfl ?_
 first | exact .refl _ | exact .drop | exact .fin | ((repeat refine .pick ?_); first | exact .refl _ | exact .emp _ | exact .fin)
theorem tmust_no {W : World} {R : HProp} {e : Int} (h : e ≠ 0) : Does prog W f_z1q ⟨[.int .i64 e]⟩ R (Thr fun c G => c = pan (tref e) ∧ G = R) := by
 refine f_z1q.does _ ?_
 conv => whnf
 conv => whnf
 rw [decide_eq_false h]
 repeat' (first
  | (refine CallK.thr f_zf.ok (tneed_no) ?_; rintro c G ⟨rfl, rfl⟩; conv => whnf))
 exact Thr.eq rfl (Imp.refl _)
theorem there_spec {W : World} {H R : HProp} {d : Nat} {X : DevX} {z m : Int} [t : DevC H d X R] (hX : X.Ok) (hm : 0 ≤ m ∧ m ≤ 10) :
  Does prog W f_z1g ⟨[ptr d, .int .i64 z, .int .i64 m]⟩ H (Ret fun v G => v = .bool (decide (ThereP X.val.secs z m)) ∧ G = (devo d X • R)) := by
 rw [t.h.eq]
 have hsec : 0 ≤ X.val.secs ∧ X.val.secs ≤ 8192 := by
  have := hX.len
  unfold Dev.secs DevX.val
  dsimp only
  omega
 unfold ThereP
 refine f_z1g.does _ _ _ ?_
 conv => whnf
 repeat' (first
  | (refine spl_dec (fun hd => ?_) (fun hd => ?_) <;> first | (exfalso; omega) | (conv => whnf))
  | (refine Ar.i64 (by omega) ?_; conv => whnf)
  | (refine CallK.ret f_z1i.ok ((sectors_spec hX)) ?_; rintro v G ⟨rfl, rfl⟩; conv => whnf))
 all_goals
  refine Ret.eq (congrArg Value.bool (Bool.eq_iff_iff.2 ?_)) (Imp.refl _)
  refine ⟨fun h => ?_, fun h => ?_⟩
  ·first | exact absurd h (by decide) | (have h := of_decide_eq_true h; exact decide_eq_true (by omega))
  ·have h := of_decide_eq_true h
   first | exact decide_eq_true (by omega) | (exfalso; omega)
theorem tmay_spec {W : World} {H R : HProp} {d : Nat} {X : DevX} {z m : Int} [t : DevC H d X R] (hX : X.Ok) (hz : 0 ≤ z ∧ z ≤ 8192) :
  Does prog W f_z2p ⟨[ptr d, .int .i64 z, .int .i64 m]⟩ H (Ret fun v G => v = .bool (decide (TmayP X.val.secs z m)) ∧ G = (devo d X • R)) := by
 rw [t.h.eq]
 have hsec : 0 ≤ X.val.secs ∧ X.val.secs ≤ 8192 := by
  have := hX.len
  unfold Dev.secs DevX.val
  dsimp only
  omega
 unfold TmayP
 refine f_z2p.does _ _ _ ?_
 conv => whnf
 by_cases ht : ThereP X.val.secs m 2
 ·have ht2 := ht
  unfold ThereP at ht2
  repeat' (first
   | (refine CallK.ret f_z1g.ok (there_spec (X := X) hX (by omega)) ?_; rw [decide_eq_true ht]; rintro v G ⟨rfl, rfl⟩; conv => whnf)
   | (refine spl_dec (fun hd => ?_) (fun hd => ?_) <;> first | (exfalso; omega) | (conv => whnf))
   | (refine Ar.i64 (by omega) ?_; conv => whnf))
  all_goals
   refine Ret.eq (congrArg Value.bool (Bool.eq_iff_iff.2 ?_)) (Imp.refl _)
   refine ⟨fun h => ?_, fun h => ?_⟩
   ·first | exact absurd h (by decide) | exact decide_eq_true ⟨ht, by omega⟩ | (have h := of_decide_eq_true h; exact decide_eq_true ⟨ht, by omega⟩)
   ·have h := (of_decide_eq_true h).2
    first | rfl | exact decide_eq_true (by omega) | (exfalso; omega)
 ·repeat' (first
   | (refine CallK.ret f_z1g.ok (there_spec (X := X) hX (by omega)) ?_; rw [decide_eq_false ht]; rintro v G ⟨rfl, rfl⟩; conv => whnf))
  refine Ret.eq (congrArg Value.bool (decide_eq_false fun h => ht h.1).symm) (Imp.refl _)
theorem running_ok {W : World} {H R : HProp} {d : Nat} {X : DevX} [t : DevC H d X R] (h : X.down = false) : Does prog W f_z13 ⟨[ptr d]⟩ H (Ret fun v G => v = .tuple ⟨[]⟩ ∧ G = (devo d X • R)) := by
 rw [t.h.eq]
 refine f_z13.does _ ?_
 conv => whnf
 repeat' (first
  | (refine CallK.ret f_z24.ok (down_spec (X := X)) ?_; rw [h]; rintro v G ⟨rfl, rfl⟩; conv => whnf)
  | (refine CallK.ret f_zf.ok (tneed_ok) ?_; rintro v G ⟨rfl, rfl⟩; conv => whnf))
 refine Ret.eq rfl ?_
 first | exact .refl _ | exact .drop | exact .fin | ((repeat refine .pick ?_); first | exact .refl _ | exact .emp _ | exact .fin)
theorem running_no {W : World} {H R : HProp} {d : Nat} {X : DevX} [t : DevC H d X R] (h : X.down = true) : Does prog W f_z13 ⟨[ptr d]⟩ H (Thr fun c G => c = pan (tref 40) ∧ G = (devo d X • R)) := by
 rw [t.h.eq]
 refine f_z13.does _ ?_
 conv => whnf
 repeat' (first
  | (refine CallK.ret f_z24.ok (down_spec (X := X)) ?_; rw [h]; rintro v G ⟨rfl, rfl⟩; conv => whnf)
  | (refine CallK.ret f_zf.ok (tneed_ok) ?_; rintro v G ⟨rfl, rfl⟩; conv => whnf)
  | (refine CallK.thr f_zf.ok (tneed_no) ?_; rintro c G ⟨rfl, rfl⟩; conv => whnf))
 exact Thr.eq rfl (Imp.refl _)
end Go.Proofs.YtgcknlpkhhpkjaaGreatDoor
/- The program's package twin, walked: reading, writing in a row. Conditions: in each statement. -/
namespace Go.SL
theorem OpQ.sly {P : Program} {W : World} {T : Tab} (hT : T.ok P) {st : TypeId} {s i j : Operand} {ty : TypeId} {ev : Operand → Option Value} {K : Value → Prop} {n c : Nat} {a : Option Addr} {H : HProp} {k k' : IntKind} {z y : Int} {e : TypeId} {c1 : List Value} {a1 : Bool} {s1 b1 : Nat} {r2 : TRow} (lo m sz : Nat)
  (hs : ev s = some (.slice a n c)) (hi : ev i = some (.int k z)) (hj : ev j = some (.int k' y)) (h1 : T st = some ⟨.slice e, c1, a1, s1, b1⟩) (h2 : T e = some r2) (hsz : r2.size = sz) (hz : z = (lo : Int)) (hy : y = ((lo + m : Nat) : Int)) (hc : lo + m ≤ c) (hk : K (.slice (dropA a lo c sz) m (c - lo))) :
  OpQ P W (.slice st s (some i) (some j) none) ty ev H K := OpQ.slx hT lo m hs hi hj h1 h2 hz hy hc (hsz ▸ hk)
end Go.SL
namespace Go.SL.Sec
theorem lastOf_mem {i : Int} {b : List Int} {q : List (Int × List Int)} (h : lastOf i q = some b) : ∃ p ∈ q, p.2 = b := by
 rw [lastOf_find] at h
 obtain ⟨p, hp, he⟩ := Option.map_eq_some_iff.1 h
 exact ⟨p, List.mem_reverse.1 (List.mem_of_find?_eq_some hp), he⟩
theorem Dev.read_len {D : Dev} {i : Int} (h : D.Ok) (he : (D.read i).1 = 0) : (D.read i).2.length = 512 ∧ 0 ≤ i ∧ i < D.secs := by
 have h1 := h.len
 unfold Dev.read at he ⊢
 unfold Dev.secs at he ⊢
 by_cases hd : D.down = true
 ·rw [if_pos hd] at he; exact absurd he (by decide)
 rw [if_neg hd] at he ⊢
 by_cases hi : i < 0 ∨ i ≥ (D.img.length : Int) / 512
 ·rw [if_pos hi] at he; exact absurd he (by decide)
 rw [if_neg hi]
 refine ⟨?_, by omega, by omega⟩
 unfold Dev.at
 cases hl : lastOf i D.q with
 | none =>
  unfold secOf
  dsimp only [Option.getD]
  rw [List.length_take, List.length_drop]
  omega
 | some b =>
  obtain ⟨p, hp, rfl⟩ := lastOf_mem hl
  exact (h.q p hp).2.2.1
end Go.SL.Sec
namespace Go.Proofs.YtgcknlpkhhpkjaaGreatDoor
open Go Go.SL Go.SL.Sec Go.SL.Twn
theorem tget_ok {W : World} {H R : HProp} {d : Nat} {X : DevX} {i : Int} [t : DevC H d X R] (hX : X.Ok) (hq : X.ps.length ≤ 1000000) (he : (X.val.read i).1 = 0) :
  Does prog W f_twin_get ⟨[ptr d, .int .i64 i]⟩ H (Ret fun v G => ∃ a c, 512 ≤ c ∧ v = .slice a 512 c ∧ G = (vec t_uint8 1 bytv a c (X.val.read i).2 • devo d X • R)) := by
 rw [t.h.eq]
 have h512 := (Dev.read_len hX.val he).1
 refine f_twin_get.does _ _ ?_
 conv => whnf
 repeat' (first
  | (refine CallK.ret f_z11.ok (read_spec (X := X) hX hq) ?_; rintro v G ⟨ra, rc, hrc, rfl, rfl⟩; rw [he]; conv => whnf)
  | (refine CallK.ret f_z1q.ok tmust_ok ?_; rintro v G ⟨rfl, rfl⟩; conv => whnf))
 exact ⟨_, _, rfl, Imp.refl _, ra, rc, by omega, by rw [h512], rfl⟩
theorem put_go {W : World} {R : HProp} {d : Nat} {X : DevX} {z : Int} {a : Option Addr} {nn c n : Nat} {b : List Int} (ro : RowC W R a 1 bytv b) (hX : X.Ok) (hq : X.ps.length ≤ 500000) (hz : 0 ≤ z ∧ z ≤ 8192) (hl : b.length = 512 * n) (hn : n ≤ 4) (hc : b.length ≤ c) (hb : Byt b) (hnn : nn = b.length) :
  Does prog W f_z27 ⟨[ptr d, .int .i64 z, .slice a nn c]⟩ (devo d X • R) (fun en G => ∃ G', Imp G G' ∧ AskT (pws z b n 0 X.val).1 (fun G => ∃ X' : DevX, X'.Ok ∧ X'.val = (pws z b n 0 X.val).2 ∧ X'.ps.length ≤ X.ps.length + n ∧ G = (devo d X' • R)) en G') := by
 subst hnn
 obtain ⟨RR, hRR⟩ : ∃ RR, RR = pws z b n 0 X.val := ⟨_, rfl⟩
 rw [← hRR]
 refine f_z27.does _ _ _ ?_
 conv => whnf
 skip
 refine LoopK.at tab_ok (L := f_z27.live) (ι := Nat × DevX) (fun i => i.1 ≤ n ∧ pws z b (n - i.1) i.1 i.2.val = RR ∧ i.2.Ok ∧ i.2.ps.length ≤ X.ps.length + i.1) (fun i => [(6, .int .i64 i.1)])
  (fun i => devo d i.2) (fun i => n - i.1) (0, X) ⟨by simp, by rw [hRR]; rfl, hX, by simp⟩ (fun t v h => h) (Imp.pick (Imp.refl _)) ?_
 rintro ⟨i, Z⟩ ⟨hi, hw, hZ, hZq⟩
 dsimp only at hi hw hZ hZq ⊢
 conv => whnf
 by_cases h1 : i < n
 ·rw [pws_next h1] at hw
  obtain ⟨S, hS⟩ : ∃ S, S = (b.drop (512 * i)).take 512 := ⟨_, rfl⟩
  have hSl : S.length = 512 := by rw [hS, List.length_take, List.length_drop]; omega
  have hSb : Byt S := hS ▸ (hb.drop _).take _
  rw [← hS] at hw
  obtain ⟨e, he⟩ : ∃ e, e = (Z.val.write (z + i) S).1 := ⟨_, rfl⟩
  rw [← he] at hw
  haveI rS : RowN W R (dropA a (512 * i) c 1) 512 1 bytv S := ⟨by rw [hS]; exact RowC.take _ (RowC.drop (512 * i) c hc ro), hSl.symm⟩
  by_cases he0 : e = 0
  ·rw [if_pos he0] at hw
   repeat' (first
    | (refine CallK.ret f_z16.ok (write_spec (X := Z) (b := S) (ro := rS) hZ (by omega) hSb (by omega)) ?_; rintro v G ⟨Z', hZ', hZv, hZl, rfl, rfl⟩; rw [← he, he0]; conv => whnf)
    | (refine CallK.ret f_z1q.ok tmust_ok ?_; rintro v G ⟨rfl, rfl⟩; conv => whnf)
    | (refine spl_dec (fun hd => ?_) (fun hd => ?_) <;> first | (exfalso; omega) | (conv => whnf))
    | (refine Ar.i64 (by omega) ?_; conv => whnf)
    | (refine OpX.of_quiet (OpQ.sly tab_ok (512 * i) 512 1 rfl rfl rfl rfl rfl rfl (by omega) (by omega) (by omega) ?_); conv => whnf))
   refine ⟨rfl, (i + 1, Z'), ⟨h1, by rw [hZv]; exact hw, hZ', by dsimp only; omega⟩, fun t v h => h, ?_, by dsimp only; omega⟩
   first | exact .refl _ | exact .drop | exact .fin | ((repeat refine .pick ?_); first | exact .refl _ | exact .emp _ | exact .fin)
  ·rw [if_neg he0] at hw
   repeat' (first
    | (refine CallK.ret f_z16.ok (write_spec (X := Z) (b := S) (ro := rS) hZ (by omega) hSb (by omega)) ?_; rintro v G ⟨Z', hZ', hZv, hZl, rfl, rfl⟩; rw [← he]; conv => whnf)
    | (refine CallK.thr f_z1q.ok (tmust_no he0) ?_; rintro c G ⟨rfl, rfl⟩; conv => whnf)
    | (refine spl_dec (fun hd => ?_) (fun hd => ?_) <;> first | (exfalso; omega) | (conv => whnf))
    | (refine Ar.i64 (by omega) ?_; conv => whnf)
    | (refine OpX.of_quiet (OpQ.sly tab_ok (512 * i) 512 1 rfl rfl rfl rfl rfl rfl (by omega) (by omega) (by omega) ?_); conv => whnf))
   refine ⟨_, Imp.refl _, .inr ⟨?_, ?_⟩, Z', hZ', ?_, ?_, rfl⟩
   ·rw [← hw, ← he]; exact he0
   ·rw [← hw, ← he]
   ·rw [hZv, ← hw]
   ·omega
 ·rw [show n - i = 0 by omega, pws] at hw
  obtain ⟨e, he⟩ : ∃ e, e = Z.val.sync.1 := ⟨_, rfl⟩
  by_cases he0 : e = 0
  ·repeat' (first
    | (refine CallK.ret f_z10.ok (sync_spec (X := Z) hZ (by omega)) ?_; rintro v G ⟨Z', hZ', hZv, hZl, rfl, rfl⟩; rw [← he, he0]; conv => whnf)
    | (refine CallK.ret f_z1q.ok tmust_ok ?_; rintro v G ⟨rfl, rfl⟩; conv => whnf)
    | (refine spl_dec (fun hd => ?_) (fun hd => ?_) <;> first | (exfalso; omega) | (conv => whnf))
    | (refine Ar.i64 (by omega) ?_; conv => whnf))
   refine ⟨_, Imp.refl _, .inl ⟨?_, rfl⟩, Z', hZ', ?_, ?_, rfl⟩
   ·rw [← hw, ← he]; exact he0
   ·rw [hZv, ← hw]
   ·omega
  ·repeat' (first
    | (refine CallK.ret f_z10.ok (sync_spec (X := Z) hZ (by omega)) ?_; rintro v G ⟨Z', hZ', hZv, hZl, rfl, rfl⟩; rw [← he]; conv => whnf)
    | (refine CallK.thr f_z1q.ok (tmust_no he0) ?_; rintro c G ⟨rfl, rfl⟩; conv => whnf)
    | (refine spl_dec (fun hd => ?_) (fun hd => ?_) <;> first | (exfalso; omega) | (conv => whnf))
    | (refine Ar.i64 (by omega) ?_; conv => whnf))
   refine ⟨_, Imp.refl _, .inr ⟨?_, ?_⟩, Z', hZ', ?_, ?_, rfl⟩
   ·rw [← hw, ← he]; exact he0
   ·rw [← hw, ← he]
   ·rw [hZv, ← hw]
   ·omega
end Go.Proofs.YtgcknlpkhhpkjaaGreatDoor
/- The program's log.Open: what the sectors hold. Conditions: in each statement. -/
namespace Go.Proofs.YtgcknlpkhhpkjaaGreatDoor
open Go Go.SL Go.SL.Sec Go.SL.Fld Go.SL.Pts Go.SL.Rec
open Go.SL.Und (RecV recv fits)
def okS (i : Nat) (s : List Int) : Option (List Int) :=
 if s[0]? ≠ some 108 ∨ s[511]? ≠ some 165 ∨ getB s 1 4 ≠ (i : Int) + 1 ∨ getB s 5 2 < 1 ∨ getB s 5 2 > 502 then none else
 if zerosB ((s.drop (7 + (getB s 5 2).toNat)).take (504 - (getB s 5 2).toNat)) then some ((s.drop 7).take (getB s 5 2).toNat) else none
def foundG : Nat → List (List Int) → List (List Int)
 | _, [] => []
 | i, s :: l => match okS i s with
  | some b => b :: foundG (i + 1) l
  | none => []
structure SecX (W : World) (R : HProp) (s : BytX) : Prop where
 row : RowC W R s.a 1 bytv s.b
 len : s.b.length = 512
 cap : s.b.length ≤ s.c
 byt : Byt s.b
theorem SecX.there {W : World} {R Y : HProp} {s : BytX} (h : SecX W R s) : SecX W (Y • R) s := ⟨(by haveI := h.row; infer_instance), h.len, h.cap, h.byt⟩
def Sub7 (s x : BytX) : Prop := x.a = dropA s.a 7 s.c 1 ∧ x.b = (s.b.drop 7).take x.b.length
theorem SecX.sub {W : World} {R : HProp} {s x : BytX} (h : SecX W R s) (k : Sub7 s x) : RowC W R x.a 1 bytv x.b := by
 rw [k.1, k.2]
 exact RowC.take _ (RowC.drop 7 s.c h.cap h.row)
set_option maxHeartbeats 1000000 in
theorem found_spec {W : World} {R : HProp} {a : Option Addr} {n c : Nat} {all : List BytX} [ro : RowN W R a n 1 bytx all] (hs : ∀ s ∈ all, SecX W R s) (hl : all.length ≤ 10000) :
  Does prog W f_z2q ⟨[.slice a n c]⟩ R (Ret fun v G => ∃ oa oc outs, outs.map (·.b) = foundG 0 (all.map (·.b)) ∧ (∀ (i : Nat) (x : BytX), outs[i]? = some x → ∃ s, all[i]? = some s ∧ Sub7 s x) ∧ v = .slice oa outs.length oc ∧ G = (vec t_S_uint8 1 bytx oa oc outs • R)) := by
 have hn := ro.len
 subst hn
 haveI r' := ro.row
 refine f_z2q.does _ ?_
 conv => whnf
 skip
 refine LoopK.at tab_ok (L := f_z2q.live) (ι := Nat × List BytX × Option Addr × Nat) (fun i => i.1 ≤ all.length ∧ i.2.1.length = i.1 ∧ i.2.1.map (·.b) ++ foundG i.1 ((all.drop i.1).map (·.b)) = foundG 0 (all.map (·.b)) ∧ ∀ (j : Nat) (x : BytX), i.2.1[j]? = some x → ∃ s, all[j]? = some s ∧ Sub7 s x)
  (fun i => [(11, .int .i64 i.1), (3, .slice i.2.2.1 i.2.1.length i.2.2.2)]) (fun i => vec t_S_uint8 1 bytx i.2.2.1 i.2.2.2 i.2.1) (fun i => all.length - i.1) (0, [], none, 0) ⟨by simp, rfl, rfl, fun j x h => by simp at h⟩ (fun t v h => h) (Imp.vnil (Imp.refl _)) ?_
 rintro ⟨i, outs, oa, oc⟩ ⟨hi, hol, hf, ho⟩
 dsimp only at hi hol hf ho ⊢
 conv => whnf
 by_cases h1 : i < all.length
 ·obtain ⟨s, hsx⟩ : ∃ s, all[i]? = some s := ⟨_, List.getElem?_eq_getElem h1⟩
  obtain ⟨sr, sl, scap, sb⟩ := hs s (List.mem_of_getElem? hsx)
  haveI := sr
  obtain ⟨z0, hz0⟩ : ∃ z, s.b[0]? = some z := ⟨_, List.getElem?_eq_getElem (by omega)⟩
  obtain ⟨z1, hz1⟩ : ∃ z, s.b[511]? = some z := ⟨_, List.getElem?_eq_getElem (by omega)⟩
  rw [drop_of hsx, List.map_cons, foundG] at hf
  have hg1 := getB_bd sb 1 4
  have hg2 := getB_bd sb 5 2
  have hp1 : (256 : Int) ^ 4 = 4294967296 := by decide
  have hp2 : (256 : Int) ^ 2 = 65536 := by decide
  rw [hp1] at hg1
  rw [hp2] at hg2
  obtain ⟨N, hN⟩ : ∃ N, N = getB s.b 5 2 := ⟨_, rfl⟩
  obtain ⟨M, hM⟩ : ∃ M, M = getB s.b 1 4 := ⟨_, rfl⟩
  by_cases hbad : s.b[0]? ≠ some 108 ∨ s.b[511]? ≠ some 165 ∨ getB s.b 1 4 ≠ (i : Int) + 1 ∨ getB s.b 5 2 < 1 ∨ getB s.b 5 2 > 502
  ·have hk : okS i s.b = none := by unfold okS; rw [if_pos hbad]
   rw [hk] at hf
   rw [hz0, hz1, ← hN, ← hM] at hbad
   simp only [ne_eq, Option.some.injEq] at hbad
   rw [← hN] at hg2
   rw [← hM] at hg1
   repeat' (first
    | (refine CallK.ret f_z2j.ok (number_spec (l := s.b) (z := 5) (s := 2) (by omega) (by omega) (by omega) sb) ?_; rw [show getB s.b (Int.toNat 5) (Int.toNat 2) = N from hN.symm]; rintro v G ⟨rfl, rfl⟩; conv => whnf)
    | (refine CallK.ret f_z2j.ok (number_spec (l := s.b) (z := 1) (s := 4) (by omega) (by omega) (by omega) sb) ?_; rw [show getB s.b (Int.toNat 1) (Int.toNat 4) = M from hM.symm]; rintro v G ⟨rfl, rfl⟩; conv => whnf)
    | (refine spl_dec (fun hd => ?_) (fun hd => ?_) <;> first | (exfalso; omega) | (conv => whnf))
    | (refine spl_ndec (fun hd => ?_) (fun hd => ?_) <;> first | (exfalso; omega) | (conv => whnf))
    | (refine Ar.i64 (by omega) ?_; conv => whnf)
    | (refine IxS.r (xs := all) (i := i) rfl rfl h1 (fun ab off ha => ?_); have rv : RowC W R (some ⟨ab, off, none⟩) 1 bytx all := ha ▸ inferInstance; conv => whnf)
    | (refine Ld.r0 hsx rfl ?_; conv => whnf)
    | (refine IxS.r (xs := s.b) (i := 0) rfl rfl (by omega) (fun ab off ha => ?_); have rz : RowC W R (some ⟨ab, off, none⟩) 1 bytv s.b := ha ▸ sr; conv => whnf)
    | (refine Ld.r0 hz0 rfl ?_; conv => whnf)
    | (refine IxS.r (xs := s.b) (i := 511) rfl rfl (by omega) (fun ab off ha => ?_); have rz : RowC W R (some ⟨ab, off, none⟩) 1 bytv s.b := ha ▸ sr; conv => whnf)
    | (refine Ld.r0 hz1 rfl ?_; conv => whnf))
   all_goals exact ⟨_, _, rfl, Imp.refl _, oa, oc, outs, by rw [← hf, List.append_nil], ho, rfl, rfl⟩
  ·have hg : s.b[0]? = some 108 ∧ s.b[511]? = some 165 ∧ getB s.b 1 4 = (i : Int) + 1 ∧ 1 ≤ getB s.b 5 2 ∧ getB s.b 5 2 ≤ 502 :=
    ⟨Classical.byContradiction fun h => hbad (.inl h), Classical.byContradiction fun h => hbad (.inr (.inl h)), Classical.byContradiction fun h => hbad (.inr (.inr (.inl h))), by omega, by omega⟩
   have hk : okS i s.b = if zerosB ((s.b.drop (7 + N.toNat)).take (504 - N.toNat)) then some ((s.b.drop 7).take N.toNat) else none := by unfold okS; rw [if_neg hbad, ← hN]
   rw [hk] at hf
   obtain ⟨g0, g1, g2, g3, g4⟩ := hg
   rw [hz0, Option.some.injEq] at g0
   rw [hz1, Option.some.injEq] at g1
   rw [← hN] at g3 g4 hg2
   rw [← hM] at g2 hg1
   clear hk hbad
   subst g0 g1
   obtain ⟨n, hn⟩ : ∃ n : Nat, N = n := ⟨N.toNat, by omega⟩
   rw [show N.toNat = n by omega] at hf
   obtain ⟨pad, hpad⟩ : ∃ p, p = (s.b.drop (7 + n)).take (504 - n) := ⟨_, rfl⟩
   have hpl : pad.length = 504 - n := by rw [hpad, List.length_take, List.length_drop]; omega
   haveI rp : RowC W R (dropA s.a (7 + n) s.c 1) 1 bytv pad := by rw [hpad]; exact RowC.take _ (RowC.drop (7 + n) s.c scap sr)
   rw [← hpad] at hf
   obtain ⟨tk, htk⟩ : ∃ p, p = (s.b.drop 7).take n := ⟨_, rfl⟩
   have htl : tk.length = n := by rw [htk, List.length_take, List.length_drop]; omega
   rw [← htk] at hf
   repeat' (first
    | (refine CallK.ret f_z2j.ok (number_spec (l := s.b) (z := 5) (s := 2) (by omega) (by omega) (by omega) sb) ?_; rw [show getB s.b (Int.toNat 5) (Int.toNat 2) = N from hN.symm]; rintro v G ⟨rfl, rfl⟩; conv => whnf)
    | (refine CallK.ret f_z2j.ok (number_spec (l := s.b) (z := 1) (s := 4) (by omega) (by omega) (by omega) sb) ?_; rw [show getB s.b (Int.toNat 1) (Int.toNat 4) = M from hM.symm]; rintro v G ⟨rfl, rfl⟩; conv => whnf)
    | (refine spl_dec (fun hd => ?_) (fun hd => ?_) <;> first | (exfalso; omega) | (conv => whnf))
    | (refine spl_ndec (fun hd => ?_) (fun hd => ?_) <;> first | (exfalso; omega) | (conv => whnf))
    | (refine Ar.i64 (by omega) ?_; conv => whnf)
    | (refine OpX.of_quiet (OpQ.sly tab_ok (7 + n) (504 - n) 1 rfl rfl rfl rfl rfl rfl (by omega) (by omega) (by omega) ?_); rw [← hpl]; conv => whnf)
    | (refine IxS.r (xs := all) (i := i) rfl rfl h1 (fun ab off ha => ?_); have rv : RowC W R (some ⟨ab, off, none⟩) 1 bytx all := ha ▸ inferInstance; conv => whnf)
    | (refine Ld.r0 hsx rfl ?_; conv => whnf)
    | (refine IxS.r (xs := s.b) (i := 0) rfl rfl (by omega) (fun ab off ha => ?_); have rz : RowC W R (some ⟨ab, off, none⟩) 1 bytv s.b := ha ▸ sr; conv => whnf)
    | (refine Ld.r0 hz0 rfl ?_; conv => whnf)
    | (refine IxS.r (xs := s.b) (i := 511) rfl rfl (by omega) (fun ab off ha => ?_); have rz : RowC W R (some ⟨ab, off, none⟩) 1 bytv s.b := ha ▸ sr; conv => whnf)
    | (refine Ld.r0 hz1 rfl ?_; conv => whnf))
   refine LoopK.keep tab_ok (L := f_z2q.live) (ι := Nat) (fun j => j ≤ pad.length ∧ zerosB pad = zerosB (pad.drop j)) (fun j => [(48, .int .i64 j)]) (fun j => pad.length - j) 0 (by simp) (fun t v h => h) ?_
   rintro j ⟨hj, hz⟩
   conv => whnf
   by_cases h2 : j < pad.length
   ·obtain ⟨b, hb⟩ : ∃ b, pad[j]? = some b := ⟨_, List.getElem?_eq_getElem h2⟩
    rw [show zerosB (pad.drop j) = (decide (b = 0) && zerosB (pad.drop (j + 1))) by rw [drop_of hb]; simp [zerosB]] at hz
    by_cases hb0 : b = 0
    ·rw [decide_eq_true hb0, Bool.true_and] at hz
     subst hb0
     repeat' (first
      | (refine spl_dec (fun hd => ?_) (fun hd => ?_) <;> first | (exfalso; omega) | (conv => whnf))
      | (refine Ar.i64 (by omega) ?_; conv => whnf)
      | (refine IxS.r (xs := pad) (i := j) rfl rfl h2 (fun ab off ha => ?_); have rz : RowC W R (some ⟨ab, off, none⟩) 1 bytv pad := ha ▸ rp; conv => whnf)
      | (refine Ld.r0 hb rfl ?_; conv => whnf))
     exact ⟨rfl, j + 1, ⟨h2, hz⟩, fun t v h => h, Imp.refl _, by omega⟩
    ·rw [decide_eq_false hb0, Bool.false_and] at hz
     rw [hz] at hf
     repeat' (first
      | (refine spl_dec (fun hd => ?_) (fun hd => ?_) <;> first | (exfalso; omega) | (conv => whnf))
      | (refine spl_ndec (fun hd => ?_) (fun hd => ?_) <;> first | (exfalso; omega) | (conv => whnf))
      | (refine IxS.r (xs := pad) (i := j) rfl rfl h2 (fun ab off ha => ?_); have rz : RowC W R (some ⟨ab, off, none⟩) 1 bytv pad := ha ▸ rp; conv => whnf)
      | (refine Ld.r0 hb rfl ?_; conv => whnf))
     exact ⟨_, _, rfl, Imp.refl _, oa, oc, outs, by rw [← hf]; exact (List.append_nil _).symm, ho, rfl, rfl⟩
   ·rw [List.drop_eq_nil_of_le (by omega)] at hz
    rw [hz] at hf
    repeat' (first
     | (refine spl_dec (fun hd => ?_) (fun hd => ?_) <;> first | (exfalso; omega) | (conv => whnf))
     | (refine Ar.i64 (by omega) ?_; conv => whnf)
     | (intro blk hblk; conv => whnf)
     | (refine OpX.of_quiet (OpQ.sly tab_ok 7 n 1 rfl rfl rfl rfl rfl rfl (by omega) (by omega) (by omega) ?_); conv => whnf)
     | (refine OpX.app1g (xs := outs) (x := (⟨dropA s.a 7 s.c 1, s.c - 7, tk⟩ : BytX)) (dx := by exact ⟨by unfold bytx; dsimp only; rw [htl]⟩) tab_ok rfl rfl rfl rfl rfl rfl (by omega) (fun a' c' => ?_); conv => whnf))
    refine ⟨rfl, (i + 1, outs ++ [(⟨dropA s.a 7 s.c 1, s.c - 7, tk⟩ : BytX)], _, _), ⟨h1, by simp; omega, ?_, fun j x hx => ?_⟩, fun t v h => h, ?_, by dsimp only; omega⟩
    ·rw [← hf, List.map_append, List.append_assoc]; rfl
    ·by_cases hj2 : j < outs.length
     ·rw [List.getElem?_append_left hj2] at hx
      exact ho j x hx
     ·have hjl : j < (outs ++ [(⟨dropA s.a 7 s.c 1, s.c - 7, tk⟩ : BytX)]).length := (List.getElem?_eq_some_iff.1 hx).1
      rw [List.length_append] at hjl
      have hji : j = i := by simp at hjl; omega
      subst hji
      rw [List.getElem?_append_right (by omega), show j - outs.length = 0 by omega] at hx
      cases hx
      exact ⟨s, hsx, rfl, by dsimp only; rw [htl, htk]⟩
    ·first | exact .refl _ | exact .drop | exact .fin | ((repeat refine .pick ?_); first | exact .refl _ | exact .emp _ | exact .fin)
 ·rw [List.drop_eq_nil_of_le (by omega), List.map_nil, foundG, List.append_nil] at hf
  repeat' (first
   | (refine spl_dec (fun hd => ?_) (fun hd => ?_) <;> first | (exfalso; omega) | (conv => whnf)))
  exact ⟨_, _, rfl, Imp.refl _, oa, oc, outs, hf, ho, rfl, rfl⟩
end Go.Proofs.YtgcknlpkhhpkjaaGreatDoor
