/- The log, in plain words; where it lies; the functions that only tell. Conditions: in each statement. -/
import Derived.Test.YtgcknlpkhhpkjaaGreatDoorPart16
namespace Go.SL.Rec
open Go Go.SL Go.SL.Sec Go.SL.Fld Go.SL.Pts
open Go.SL.Und (RecV recv fits)
structure RecM where
 r : RecV
 L : List LiveV
 D : List DirtyV
def bare (r : RecV) : RecV := { r with lv := (none, 0, 0), dt := (none, 0, 0) }
structure RecX where
 m : RecM
 la : Option Addr
 lc : Nat
 da : Option Addr
 dc : Nat
def RecX.full (x : RecX) : RecV := { x.m.r with lv := (x.la, x.m.L.length, x.lc), dt := (x.da, x.m.D.length, x.dc) }
def recx (x : RecX) : List Value := recv x.full
instance : SizedC 17 recx := ⟨fun _ => rfl⟩
instance : OneC recx := ⟨fun ys v hv => by
 obtain ⟨d, h1, hv⟩ := List.mem_flatMap.1 hv
 exact Und.rec_one [d.full] v (by rw [List.flatMap_cons, List.flatMap_nil, List.append_nil]; exact hv)⟩
structure BytX where
 a : Option Addr
 c : Nat
 b : List Int
def bytx (x : BytX) : List Value := [.slice x.a x.b.length x.c]
instance : SizedC 1 bytx := ⟨fun _ => rfl⟩
instance {x : BytX} : LitL (bytx x) [.slice x.a x.b.length x.c] := ⟨rfl⟩
instance : OneC bytx := ⟨fun ys v hv => by
 obtain ⟨d, _, hv⟩ := List.mem_flatMap.1 hv
 simp only [bytx, List.mem_cons, List.not_mem_nil, or_false] at hv
 subst hv; rfl⟩
structure LogM where
 first : Int
 count : Int
 recs : List RecM
 bys : List (List Int)
 forced : Nat
 err : Option (Int × Int)
structure LogX where
 d : Nat
 first : Int
 count : Int
 ra : Option Addr
 rc : Nat
 recs : List RecX
 ba : Option Addr
 bc : Nat
 bys : List BytX
 forced : Nat
 err : Option (Nat × Int × Int)
def LogX.val (X : LogX) : LogM := ⟨X.first, X.count, X.recs.map (·.m), X.bys.map (·.b), X.forced, X.err.map (·.2)⟩
def LogM.get (M : LogM) (n : Int) : Int × RecM :=
 if M.err.isSome then (40, ⟨recZ, [], []⟩) else if n < 1 ∨ n > M.recs.length then (4, ⟨recZ, [], []⟩) else (0, (M.recs[(n - 1).toNat]?).getD ⟨recZ, [], []⟩)
structure LogX.Ok (X : LogX) : Prop where
 cnt : 0 ≤ X.count ∧ X.count ≤ 4096
 recs : ∀ x ∈ X.recs, x.m.L.length ≤ 32 ∧ x.m.D.length ≤ 16 ∧ bare x.m.r = x.m.r
 len : (X.recs.length : Int) ≤ X.count
 bl : X.forced + X.bys.length = X.recs.length
 byt : ∀ x ∈ X.bys, Byt x.b ∧ x.b.length ≤ 505
end Go.SL.Rec
namespace Go.Proofs.YtgcknlpkhhpkjaaGreatDoor
open Go Go.SL Go.SL.Sec Go.SL.Fld Go.SL.Pts Go.SL.Rec
open Go.SL.Und (RecV recv fits)
def recc (x : RecX) : HProp := vec t_api_Live 4 livev x.la x.lc x.m.L • vec t_api_Dirty 2 dirtyv x.da x.dc x.m.D
def bytc (x : BytX) : HProp := vec t_uint8 1 bytv x.a x.c x.b
abbrev wForce : ByteArray := ⟨#[70, 111, 114, 99, 101]⟩
def fltc (b : Nat) (w : ByteArray) (at_ e : Int) : HProp := pts b (.cells ⟨[.string w, .int .i64 at_, .iface t_z2 (.int .i64 e)]⟩ t_api_Fault)
def errv : Option (Nat × Int × Int) → Value
 | none => .nilIface
 | some (b, _, _) => .iface t_z5 (ptr b)
def errc : Option (Nat × Int × Int) → HProp
 | none => emp
 | some (b, z, e) => fltc b wForce z e
def logo (l : Nat) (X : LogX) : HProp :=
 pts l (.cells ⟨[ptr X.d, .int .i64 X.first, .int .i64 X.count, .slice X.ra X.recs.length X.rc, .slice X.ba X.bys.length X.bc, .int .i64 X.forced, errv X.err]⟩ t_log_Log) •
 vec t_z1n 17 recx X.ra X.rc X.recs • bigL recc X.recs • vec t_S_uint8 1 bytx X.ba X.bc X.bys • bigL bytc X.bys • errc X.err
theorem logo_eq (l : Nat) (X : LogX) (R : HProp) : (logo l X • R) = (pts l (.cells ⟨[ptr X.d, .int .i64 X.first, .int .i64 X.count, .slice X.ra X.recs.length X.rc, .slice X.ba X.bys.length X.bc, .int .i64 X.forced, errv X.err]⟩ t_log_Log) •
 vec t_z1n 17 recx X.ra X.rc X.recs • bigL recc X.recs • vec t_S_uint8 1 bytx X.ba X.bc X.bys • bigL bytc X.bys • errc X.err • R) := by
 unfold logo; simp only [star_assoc]
section
variable {W : World} {R : HProp} {l : Nat} {X : LogX}
instance (priority := 100) RdC.logo {k : Nat} {v : Value} [LAt [ptr X.d, .int .i64 X.first, .int .i64 X.count, .slice X.ra X.recs.length X.rc, .slice X.ba X.bys.length X.bc, .int .i64 X.forced, errv X.err] k v] : RdC W (logo l X • R) ⟨l, k, none⟩ v := by rw [logo_eq]; infer_instance
instance (priority := 100) RowC.logr : RowC W (logo l X • R) X.ra 17 recx X.recs := by rw [logo_eq]; infer_instance
instance (priority := 100) RowC.logb : RowC W (logo l X • R) X.ba 1 bytx X.bys := by rw [logo_eq]; infer_instance
theorem RowC.logB {i : Nat} {x : BytX} (h : X.bys[i]? = some x) : RowC W (logo l X • R) x.a 1 bytv x.b := by
 rw [logo_eq, bigL_take bytc X.bys i x h]
 unfold bytc
 simp only [star_assoc]
 infer_instance
end
theorem forced_spec {W : World} {H R : HProp} {l : Nat} {X : LogX} [t : ObjC logo H l X R] : Does prog W f_z31 ⟨[ptr l]⟩ H (Ret fun v G => v = .int .i64 X.forced ∧ G = (logo l X • R)) := by
 rw [t.h.eq]
 refine f_z31.does _ ?_
 conv => whnf
 repeat' (first
  | (refine Ld.i ?_; conv => whnf))
 refine Ret.eq rfl ?_
 first | exact .refl _ | exact .drop | exact .fin | ((repeat refine .pick ?_); first | exact .refl _ | exact .emp _ | exact .fin)
theorem last_spec {W : World} {H R : HProp} {l : Nat} {X : LogX} [t : ObjC logo H l X R] : Does prog W f_zo ⟨[ptr l]⟩ H (Ret fun v G => v = .int .i64 X.recs.length ∧ G = (logo l X • R)) := by
 rw [t.h.eq]
 refine f_zo.does _ ?_
 conv => whnf
 repeat' (first
  | (refine Ld.i ?_; conv => whnf))
 refine Ret.eq rfl ?_
 first | exact .refl _ | exact .drop | exact .fin | ((repeat refine .pick ?_); first | exact .refl _ | exact .emp _ | exact .fin)
theorem free_spec {W : World} {H R : HProp} {l : Nat} {X : LogX} [t : ObjC logo H l X R] (hc : 0 ≤ X.count ∧ X.count ≤ 1000000000) (hr : X.recs.length ≤ 1000000000) : Does prog W f_z1z ⟨[ptr l]⟩ H (Ret fun v G => v = .int .i64 (X.count - X.recs.length) ∧ G = (logo l X • R)) := by
 rw [t.h.eq]
 refine f_z1z.does _ ?_
 conv => whnf
 repeat' (first
  | ((first | refine Ld.i ?_ | refine Ar.i64 (by omega) ?_); conv => whnf)
  | (refine DrawK.introH tab_ok mixed 3 f_z1z.last1 f_z1z.plan1 _ rfl (by kernel_rfl) (Sub.of (by first | exact .refl _ | exact .drop | exact .fin | ((repeat refine .pick ?_); first | exact .refl _ | exact .emp _ | exact .fin))) ?_; conv => whnf))
 refine Ret.eq rfl ?_
 first | exact .refl _ | exact .drop | exact .fin | ((repeat refine .pick ?_); first | exact .refl _ | exact .emp _ | exact .fin)
theorem own_spec {W : World} {R : HProp} {r : RecV} {L : List LiveV} {D : List DirtyV} [rl : RowN W R r.lv.1 r.lv.2.1 4 livev L] [rd : RowN W R r.dt.1 r.dt.2.1 2 dirtyv D] (hl : L.length ≤ 1000000000) (hd : D.length ≤ 1000000000) :
  Does prog W f_log_own ⟨[recA r]⟩ R (Ret fun v G => ∃ x : RecX, x.m = ⟨bare r, L, D⟩ ∧ v = recA x.full ∧ G = (recc x • R)) := by
 unfold recA
 refine f_log_own.does _ ?_
 conv => whnf
 repeat' (first
  | (refine CallK.ret f_z3h.ok (cloneL_spec (l := L) hl) ?_; rintro v G ⟨la, lc, hla, rfl, rfl⟩; conv => whnf)
  | (refine CallK.ret f_z3i.ok (cloneD_spec (l := D) hd) ?_; rintro v G ⟨da, dc, hda, rfl, rfl⟩; conv => whnf)
  | ((first | refine Ld.i ?_ | refine LdN.i ?_ | refine St.i ⟨rfl, rfl⟩ (List.cons_ne_nil _ _) ?_); conv => whnf)
  | (intro blk hblk; conv => whnf))
 refine ⟨_, _, rfl, ?_, ⟨⟨bare r, L, D⟩, la, lc, da, dc⟩, rfl, rfl, rfl⟩
 unfold recc
 dsimp only
 simp only [star_assoc]
 first | exact .refl _ | exact .drop | exact .fin | ((repeat refine .pick ?_); first | exact .refl _ | exact .emp _ | exact .fin)
end Go.Proofs.YtgcknlpkhhpkjaaGreatDoor
/- The program's package log, walked: sectors, Append. Conditions: in each statement. -/
namespace Go.SL.Rec
open Go Go.SL Go.SL.Sec Go.SL.Fld Go.SL.Pts
open Go.SL.Und (RecV recv fits)
def laid3 (lsn : Int) (n : Int) : List Int := putB (putB ((List.replicate 512 (0 : Int)).set 0 108) 1 4 lsn) 5 2 n
def laidB (lsn : Int) (b : List Int) : List Int := ((laid3 lsn b.length).take 7 ++ b ++ (laid3 lsn b.length).drop (7 + b.length)).set 511 165
theorem laid3_len (lsn n : Int) : (laid3 lsn n).length = 512 := by
 unfold laid3
 have h0 : ((List.replicate 512 (0 : Int)).set 0 108).length = 512 := by rw [List.length_set, List.length_replicate]
 have h1 : (putB ((List.replicate 512 (0 : Int)).set 0 108) 1 4 lsn).length = 512 := by rw [putB_len (by omega), h0]
 rw [putB_len (by omega), h1]
theorem laidB_len {lsn : Int} {b : List Int} (h : b.length ≤ 505) : (laidB lsn b).length = 512 := by
 unfold laidB
 have := laid3_len lsn b.length
 rw [List.length_set, List.length_append, List.length_append, List.length_take, List.length_drop]; omega
theorem Byt.set {l : List Int} {i : Nat} {x : Int} (h : Byt l) (hx : 0 ≤ x ∧ x < 256) : Byt (l.set i x) := fun y hy => by
 rcases List.mem_or_eq_of_mem_set hy with hy | rfl
 ·exact h y hy
 ·exact hx
theorem laid3_byt (lsn n : Int) : Byt (laid3 lsn n) := putB_byt (putB_byt (Byt.set (Byt.rep 512) (by decide)))
theorem laidB_byt {lsn : Int} {b : List Int} (h : Byt b) : Byt (laidB lsn b) := Byt.set ((((laid3_byt _ _).take _).append h).append ((laid3_byt _ _).drop _)) (by decide)
def LogM.append (M : LogM) (r : RecV) (L : List LiveV) (D : List DirtyV) : Int × Int × LogM :=
 let r' : RecV := { r with lsn := (M.recs.length : Int) + 1 }
 if M.err.isSome then (0, 40, M) else if chkF r' L D ≠ 0 then (0, chkF r' L D, M) else if M.count - M.recs.length = 0 then (0, 6, M) else
 ((M.recs.length : Int) + 1, 0, { M with recs := M.recs ++ [⟨bare r', L, D⟩], bys := M.bys ++ [encR r' L D] })
end Go.SL.Rec
namespace Go.Proofs.YtgcknlpkhhpkjaaGreatDoor
open Go Go.SL Go.SL.Sec Go.SL.Fld Go.SL.Pts Go.SL.Rec
open Go.SL.Und (RecV recv fits)
-- @noauto
theorem putN_spec {W : World} {H R : HProp} {t : TypeId} {a : Option Addr} {nn cap : Nat} {l : List Int} {z s n : Int} [c : VecC H a t 1 bytv cap l R] (hn : nn = l.length) (hs : 1 ≤ s ∧ s ≤ 8) (hz : 0 ≤ z ∧ z + s ≤ l.length) (hl : l.length ≤ 16777216) (h0 : 0 ≤ n) (h1 : n < 256 ^ s.toNat) :
  Does prog W f_z2b ⟨[.slice a nn cap, .int .i64 z, .int .i64 s, .int .u64 n]⟩ H (Ret fun v G => v = i0 ∧ G = (vec t 1 bytv a cap (putB l z.toNat s.toNat n) • R)) := by
 subst hn
 exact put_spec hs hz hl h0 h1
-- @noauto
theorem number_spec {W : World} {R : HProp} {a : Option Addr} {nn cap : Nat} {l : List Int} {z s : Int} [ro : RowN W R a nn 1 bytv l] (hs : 1 ≤ s ∧ s ≤ 4) (hz : 0 ≤ z ∧ z + s ≤ l.length) (hl : l.length ≤ 16777216) (hb : Byt l) :
  Does prog W f_z2j ⟨[.slice a nn cap, .int .i64 z, .int .i64 s]⟩ R (Ret fun v G => v = .int .i64 (getB l z.toNat s.toNat) ∧ G = R) := by
 have h1 := getB_bd hb z.toNat s.toNat
 have h2 : (256 : Int) ^ s.toNat ≤ 4294967296 := by
  have : s = 1 ∨ s = 2 ∨ s = 3 ∨ s = 4 := by omega
  rcases this with rfl | rfl | rfl | rfl <;> decide
 refine f_z2j.does _ _ _ ?_
 conv => whnf
 repeat' (first
  | (refine Ar.i64 (by omega) ?_; conv => whnf)
  | (refine CallK.ret f_zy.ok ((get_spec (l := l) (by omega) hz hl hb)) ?_; rintro v G ⟨rfl, rfl⟩; conv => whnf))
 refine Ret.eq rfl ?_
 first | exact .refl _ | exact .drop | exact .fin | ((repeat refine .pick ?_); first | exact .refl _ | exact .emp _ | exact .fin)
theorem laid_spec {W : World} {R : HProp} {a : Option Addr} {n c : Nat} {b : List Int} {lsn : Int} [ro : RowN W R a n 1 bytv b] (hl : b.length ≤ 505) (hlsn : 0 ≤ lsn ∧ lsn ≤ 2147483647) :
  Does prog W f_log_laid ⟨[.int .i64 lsn, .slice a n c]⟩ R (Ret fun v G => ∃ a' c', v = .slice a' 512 c' ∧ G = (vec t_uint8 1 bytv a' c' (laidB lsn b) • R)) := by
 have hn := ro.len
 subst hn
 haveI r' := ro.row
 refine f_log_laid.does _ _ ?_
 conv => whnf
 repeat' (first
  | (refine OpX.make tab_ok bytv 0 rfl rfl rfl rfl rfl rfl (by omega) (fun s hs => ?_); conv => whnf))
 obtain ⟨Z, hZ⟩ : ∃ Z, Z = (List.replicate 512 (0 : Int)) := ⟨_, rfl⟩
 have hZl : Z.length = 512 := by rw [hZ, List.length_replicate]
 obtain ⟨z0, hz0⟩ : ∃ z, Z[0]? = some z := ⟨_, List.getElem?_eq_getElem (by omega)⟩
 rw [show (Int.toNat 512) = 512 from rfl, ← hZ]
 have hl0 : (Z.set 0 108).length = 512 := by rw [List.length_set]; exact hZl
 obtain ⟨Z1, hZ1⟩ : ∃ Z1, Z1 = putB (Z.set 0 108) 1 4 lsn := ⟨_, rfl⟩
 have hl1 : Z1.length = 512 := by rw [hZ1, putB_len (by omega), hl0]
 obtain ⟨Z2, hZ2⟩ : ∃ Z2, Z2 = putB Z1 5 2 b.length := ⟨_, rfl⟩
 have hl2 : Z2.length = 512 := by rw [hZ2, putB_len (by omega), hl1]
 have h3 : Z2 = laid3 lsn b.length := by rw [hZ2, hZ1, hZ]; rfl
 obtain ⟨Z3, hZ3⟩ : ∃ Z3, Z3 = Z2.take 7 ++ b ++ Z2.drop (7 + b.length) := ⟨_, rfl⟩
 have hl3 : Z3.length = 512 := by rw [hZ3, List.length_append, List.length_append, List.length_take, List.length_drop]; omega
 obtain ⟨z5, hz5⟩ : ∃ z, Z3[511]? = some z := ⟨_, List.getElem?_eq_getElem (by omega)⟩
 repeat' (first
  | (refine CallK.ret f_z2b.ok (putN_spec (l := Z.set 0 108) (z := 1) (s := 4) (n := lsn) hl0.symm (by omega) (by omega) (by omega) (by omega) (by show lsn < 4294967296; omega)) ?_; rw [show putB (Z.set 0 108) (Int.toNat 1) (Int.toNat 4) lsn = Z1 from hZ1.symm]; rintro v G ⟨rfl, rfl⟩; conv => whnf)
  | (refine CallK.ret f_z2b.ok (putN_spec (l := Z1) (z := 5) (s := 2) (n := (b.length : Int)) hl1.symm (by omega) (by omega) (by omega) (by omega) (by show (b.length : Int) < 65536; omega)) ?_; rw [show putB Z1 (Int.toNat 5) (Int.toNat 2) (b.length : Int) = Z2 from hZ2.symm]; rintro v G ⟨rfl, rfl⟩; conv => whnf)
  | (refine Ar.u64 (by omega) ?_; conv => whnf)
  | (refine IxS.v (i := 0) (xs := Z) rfl hZl.symm (by omega) (fun ab off ha => ?_); cases ha; conv => whnf)
  | (refine St.v0 (i := 0) hz0 108 rfl (by decide) ⟨rfl, rfl⟩ ?_; conv => whnf)
  | (refine OpX.of_quiet (OpQ.slr tab_ok 7 rfl rfl rfl rfl rfl (by omega) ?_); conv => whnf)
  | (refine OpX.cpyW (xs := Z2) (z := 7) (cap := 512) (a := some ⟨s, 0, none⟩) (ys := b) tab_ok inferInstance rfl rfl rfl rfl rfl (by omega) (by omega) ?_; rw [← hZ3]; conv => whnf)
  | (refine IxS.v (i := 511) (xs := Z3) rfl hl3.symm (by omega) (fun ab off ha => ?_); cases ha; conv => whnf)
  | (refine St.v0 (i := 511) hz5 165 rfl (by decide) ⟨rfl, rfl⟩ ?_; conv => whnf))
 refine ⟨_, _, rfl, ?_, some ⟨s, 0, none⟩, 512, rfl, rfl⟩
 unfold laidB
 rw [← h3, ← hZ3]
 exact Imp.refl _
theorem asked_ok {W : World} {R : HProp} : Does prog W f_zz ⟨[.int .i64 0]⟩ R (Ret fun v G => v = .tuple ⟨[]⟩ ∧ G = R) := by
 refine f_zz.does _ ?_
 conv => whnf
 skip
 refine Ret.eq rfl ?_
 first | exact .refl _ | exact .drop | exact .fin | ((repeat refine .pick ?_); first | exact .refl _ | exact .emp _ | exact .fin)
theorem asked_no {W : World} {R : HProp} {e : Int} (he : e ≠ 0) : Does prog W f_zz ⟨[.int .i64 e]⟩ R (Thr fun c G => c = pan (.iface t_log_refusal (.agg ⟨[.int .i64 0, .int .i64 e]⟩)) ∧ G = R) := by
 refine f_zz.does _ ?_
 conv => whnf
 repeat' (first
  | (refine spl_ndec (fun hd => ?_) (fun hd => ?_) <;> first | (exfalso; omega) | (conv => whnf)))
 exact Thr.eq rfl (Imp.refl _)
theorem append_down {W : World} {H R : HProp} {l : Nat} {X : LogX} {r : RecV} [t : ObjC logo H l X R] {b : Nat} {z e : Int} (he : X.err = some (b, z, e)) :
  Does prog W f_zl ⟨[ptr l, recA r]⟩ H (Ret fun v G => v = .tuple ⟨[i0, .int .i64 40]⟩ ∧ G = (logo l X • R)) := by
 rw [t.h.eq]
 rw [logo_eq, he]
 unfold errv errc recA
 refine f_zl.does _ _ ?_
 conv => whnf
 repeat' (first
  | (refine Ld.i ?_; conv => whnf)
  | (intro blk hblk; conv => whnf))
 refine Ret.eq rfl ?_
 first | exact .refl _ | exact .drop | exact .fin | ((repeat refine .pick ?_); first | exact .refl _ | exact .emp _ | exact .fin)
theorem chk_lens {r : RecV} {L : List LiveV} {D : List DirtyV} (h : chkF r L D = 0) (hl : r.lv.2.1 = L.length) (hd : r.dt.2.1 = D.length) : L.length ≤ 32 ∧ D.length ≤ 16 := by
 unfold chkF at h
 split at h
 ·cases h
 ·split at h
  ·rename_i hk hF
   by_cases h8 : r.kind = 8
   ·have := cpF_in ((FieldsP.cp h8).1 hF).2.1
    exact ⟨this.1, this.2.1⟩
   ·have hb : r.lv.2.1 = 0 ∧ r.dt.2.1 = 0 := by
     unfold FieldsP BlankP at hF
     have h2 := hF.2
     clear hF h
     have key : ∀ r' : RecV, r'.lv = r.lv → r'.dt = r.dt → (r'.tx = 0 ∧ r'.prev = 0 ∧ (r'.wp = 0 ∧ r'.wi = 0) ∧ (r'.sp = 0 ∧ r'.si = 0) ∧ r'.delta = 0 ∧ (r'.id = 0 ∧ r'.grp = 0 ∧ r'.lo = 0 ∧ r'.hi = 0 ∧ r'.val = 0) ∧ r'.nxt = 0 ∧ r'.lv.2.1 = 0 ∧ r'.dt.2.1 = 0) → r.lv.2.1 = 0 ∧ r.dt.2.1 = 0 := fun r' h1 h2 h => by
      obtain ⟨_, _, _, _, _, _, _, h3, h4⟩ := h
      rw [h1] at h3; rw [h2] at h4
      exact ⟨h3, h4⟩
     split at h2
     ·refine key _ ?_ ?_ h2.2.2.2.2 <;> rfl
     ·split at h2
      ·refine key _ ?_ ?_ h2.2.2.2.2 <;> rfl
      ·split at h2
       ·refine key _ ?_ ?_ h2.2.2 <;> rfl
       ·refine key _ ?_ ?_ h2.2 <;> rfl
    omega
  ·cases h
theorem append_no {W : World} {H R : HProp} {l : Nat} {X : LogX} {r : RecV} {L : List LiveV} {D : List DirtyV} [t : ObjC logo H l X R] [rl : RowN W R r.lv.1 r.lv.2.1 4 livev L] [rd : RowN W R r.dt.1 r.dt.2.1 2 dirtyv D] (hX : X.Ok) (he : X.err = none) {e : Int}
  (hc : chkF { r with lsn := (X.recs.length : Int) + 1 } L D ≠ 0 ∧ e = chkF { r with lsn := (X.recs.length : Int) + 1 } L D ∨ chkF { r with lsn := (X.recs.length : Int) + 1 } L D = 0 ∧ X.count - X.recs.length = 0 ∧ e = 6) :
  Does prog W f_zl ⟨[ptr l, recA r]⟩ H (Ret fun v G => v = .tuple ⟨[i0, .int .i64 e]⟩ ∧ G = (logo l X • R)) := by
 rw [t.h.eq]
 have hev : errv X.err = .nilIface := by rw [he]; rfl
 have hlen := hX.len
 have hcnt := hX.cnt
 obtain ⟨C, hC⟩ : ∃ C, C = chkF { r with lsn := (X.recs.length : Int) + 1 } L D := ⟨_, rfl⟩
 rw [← hC] at hc
 unfold recA
 refine f_zl.does _ _ ?_
 conv => whnf
 repeat' (first
  | (refine CallK.ret f_z6.ok (check_spec (r := { r with lsn := (X.recs.length : Int) + 1 }) (L := L) (D := D)) ?_; rw [← hC]; rintro v G ⟨rfl, rfl⟩; conv => whnf)
  | (refine CallK.ret f_z1z.ok (free_spec (X := X) (by omega) (by omega)) ?_; rintro v G ⟨rfl, rfl⟩; conv => whnf)
  | (refine spl_dec (fun hd => ?_) (fun hd => ?_) <;> first | (exfalso; omega) | (conv => whnf))
  | (refine spl_ndec (fun hd => ?_) (fun hd => ?_) <;> first | (exfalso; omega) | (conv => whnf))
  | ((first | refine Ld.i ?_ | refine LdN.i ?_ | refine St.i ⟨rfl, rfl⟩ (List.cons_ne_nil _ _) ?_ | refine Ar.i64 (by omega) ?_); conv => whnf)
  | (intro blk hblk; conv => whnf)
  | (rw [hev]; conv => whnf))
 ·rcases hc with ⟨h1, rfl⟩ | ⟨h1, _⟩
  ·refine Ret.eq rfl ?_
   first | exact .refl _ | exact .drop | exact .fin | ((repeat refine .pick ?_); first | exact .refl _ | exact .emp _ | exact .fin)
  ·exact absurd h1 (by assumption)
 ·rcases hc with ⟨h1, _⟩ | ⟨_, _, rfl⟩
  ·exact absurd (by assumption) h1
  ·refine Ret.eq rfl ?_
   first | exact .refl _ | exact .drop | exact .fin | ((repeat refine .pick ?_); first | exact .refl _ | exact .emp _ | exact .fin)
theorem append_yes {W : World} {H R : HProp} {l : Nat} {X : LogX} {r : RecV} {L : List LiveV} {D : List DirtyV} [t : ObjC logo H l X R] [rl : RowN W R r.lv.1 r.lv.2.1 4 livev L] [rd : RowN W R r.dt.1 r.dt.2.1 2 dirtyv D] (hX : X.Ok) (he : X.err = none) (hf : ∀ o ∈ sgnO r.kind, fits (cellAt r o))
  (hc : chkF { r with lsn := (X.recs.length : Int) + 1 } L D = 0) (hr : X.count - X.recs.length ≠ 0) :
  Does prog W f_zl ⟨[ptr l, recA r]⟩ H (Ret fun v G => ∃ X' : LogX, X'.d = X.d ∧ X'.val = { X.val with recs := X.val.recs ++ [⟨bare { r with lsn := (X.recs.length : Int) + 1 }, L, D⟩], bys := X.val.bys ++ [encR { r with lsn := (X.recs.length : Int) + 1 } L D] } ∧ v = .tuple ⟨[.int .i64 ((X.recs.length : Int) + 1), i0]⟩ ∧ G = (logo l X' • R)) := by
 rw [t.h.eq]
 have hev : errv X.err = .nilIface := by rw [he]; rfl
 have hlen := hX.len
 have hcnt := hX.cnt
 have hbl := hX.bl
 have hll := chk_lens hc rl.len rd.len
 have hf' : ∀ o ∈ sgnO ({ r with lsn := (X.recs.length : Int) + 1 } : RecV).kind, fits (cellAt { r with lsn := (X.recs.length : Int) + 1 } o) := hf
 unfold recA
 refine f_zl.does _ _ ?_
 conv => whnf
 repeat' (first
  | (refine CallK.ret f_z6.ok (check_spec (r := { r with lsn := (X.recs.length : Int) + 1 }) (L := L) (D := D)) ?_; rw [hc]; rintro v G ⟨rfl, rfl⟩; conv => whnf)
  | (refine CallK.ret f_z1z.ok (free_spec (X := X) (by omega) (by omega)) ?_; rintro v G ⟨rfl, rfl⟩; conv => whnf)
  | (refine CallK.ret f_z28.ok (encode_yes (r := { r with lsn := (X.recs.length : Int) + 1 }) (L := L) (D := D) hc hf') ?_; rintro v G ⟨ea, ec, hec, rfl, rfl⟩; rw [logo_eq]; conv => whnf)
  | (refine CallK.ret f_log_own.ok (own_spec (r := { r with lsn := (X.recs.length : Int) + 1 }) (L := L) (D := D) (by omega) (by omega)) ?_; rintro v G ⟨y, hy, rfl, rfl⟩; conv => whnf)
  | (refine DrawK.introK tab_ok mixed 37 f_zl.last12 f_zl.plan12 rfl (by kernel_rfl) ?_; conv => whnf)
  | (refine spl_dec (fun hd => ?_) (fun hd => ?_) <;> first | (exfalso; omega) | (conv => whnf))
  | ((first | refine Ld.i ?_ | refine LdN.i ?_ | refine St.i ⟨rfl, rfl⟩ (List.cons_ne_nil _ _) ?_ | refine Ar.i64 (by omega) ?_); conv => whnf)
  | (intro blk hblk; conv => whnf)
  | (rw [hev]; conv => whnf)
  | (refine OpX.app1 (xs := X.recs) tab_ok rfl rfl rfl rfl y rfl rfl (by omega) ⟨rfl, OneC.h⟩ (fun ra' rc' => ?_); conv => whnf)
  | (refine OpX.app1 (xs := X.bys) tab_ok rfl rfl rfl rfl (⟨ea, ec, encR { r with lsn := (X.recs.length : Int) + 1 } L D⟩ : BytX) rfl rfl (by omega) ⟨rfl, OneC.h⟩ (fun ba' bc' => ?_); conv => whnf)
  | (refine Sub.on (by first | exact .refl _ | exact .drop | exact .fin | ((repeat refine .pick ?_); first | exact .refl _ | exact .emp _ | exact .fin)) ?_; conv => whnf))
 obtain ⟨bx, hbx⟩ : ∃ bx : BytX, bx = ⟨ea, ec, encR { r with lsn := (X.recs.length : Int) + 1 } L D⟩ := ⟨_, rfl⟩
 have hb1 : bytc bx = vec t_uint8 1 bytv ea ec (encR { r with lsn := (X.recs.length : Int) + 1 } L D) := by rw [hbx]; rfl
 rw [← hbx, ← hb1]
 have l1 : (X.recs ++ [y]).length = X.recs.length + 1 := by simp
 have l2 : (X.bys ++ [bx]).length = X.bys.length + 1 := by simp
 refine ⟨_, _, rfl, ?_, { X with ra := ra', rc := rc', recs := X.recs ++ [y], ba := ba', bc := bc', bys := X.bys ++ [bx] }, rfl, ?_, rfl, rfl⟩
 ·rw [logo_eq]
  dsimp only
  rw [bigL_snoc, bigL_snoc, l1, l2, hev]
  simp only [star_assoc]
  first | exact .refl _ | exact .drop | exact .fin | ((repeat refine .pick ?_); first | exact .refl _ | exact .emp _ | exact .fin)
 ·simp [LogX.val, hy, hbx]
end Go.Proofs.YtgcknlpkhhpkjaaGreatDoor
/- The program's log.Force, walked. Conditions: in each statement. -/
namespace Go.SL
open Go
theorem CallK.any {P : Program} {W : World} {f : FuncId} {args : List Value} {H : HProp} {K : Value → HProp → Prop} {Kp : List PanicEntry → HProp → Prop} {Q : Ending → HProp → Prop} (ok : Callable P f)
  (h : Does P W f ⟨args⟩ H (fun e G => ∃ G', Imp G G' ∧ Q e G')) (k : ∀ e G, Q e G → CallQ K Kp e G) : CallK P W f args H K Kp :=
 ⟨.inl ⟨ok, ⟨fun w hs => (h.run w hs).mono fun e _ ⟨_, hs', G', hi, hq⟩ => ⟨G', hs'.imp hi, k e G' hq⟩⟩⟩⟩
end Go.SL
namespace Go.SL.Rec
open Go Go.SL Go.SL.Sec Go.SL.Fld Go.SL.Pts
def wrs (first : Int) : Nat → List (List Int) → Dev → Int × Dev
 | _, [], D => D.sync
 | n, b :: l, D => if (D.write (first + n - 1) (laidB n b)).1 = 0 then wrs first (n + 1) l (D.write (first + n - 1) (laidB n b)).2 else D.write (first + n - 1) (laidB n b)
def LogM.force (M : LogM) (D : Dev) (lsn : Int) : Int × LogM × Dev :=
 if M.err.isSome then (40, M, D) else if lsn < 0 ∨ lsn > M.recs.length then (4, M, D) else if lsn ≤ M.forced then (0, M, D) else
 let r := wrs M.first (M.forced + 1) (M.bys.take (lsn.toNat - M.forced)) D
 if r.1 = 0 then (0, { M with bys := M.bys.drop (lsn.toNat - M.forced), forced := lsn.toNat }, r.2) else (r.1, { M with err := some (0, r.1) }, r.2)
end Go.SL.Rec
namespace Go.Proofs.YtgcknlpkhhpkjaaGreatDoor
open Go Go.SL Go.SL.Sec Go.SL.Fld Go.SL.Pts Go.SL.Rec
open Go.SL.Und (RecV recv fits)
instance (priority := 130) keepc_devn {R A : HProp} {d : Nat} {X : DevX} [k : KeepC R A] : KeepC (devo d X • R) A := ⟨Imp.trans Imp.drop k.h⟩
abbrev refv (at_ e : Int) : Value := .iface t_log_refusal (.agg ⟨[.int .i64 at_, .int .i64 e]⟩)
def AskQ (e : Int) (P : HProp → Prop) (en : Ending) (G : HProp) : Prop := ((e = 0 ∧ en = .returned (.tuple ⟨[]⟩)) ∨ (e ≠ 0 ∧ en = .panicked (pan (refv 0 e)))) ∧ P G
theorem force1_spec {W : World} {R : HProp} {bl bn l d : Nat} {X : LogX} {Y : DevX} {m : Nat} (hX : X.Ok) (hY : Y.Ok) (hq : Y.ps.length ≤ 500000) (hd : X.d = d) (hf : 0 ≤ X.first ∧ X.first ≤ 8192) (hm : m ≤ X.bys.length) :
  Does prog W f_z1k ⟨[ptr bl, ptr bn]⟩ (pts bl (.cells ⟨[ptr l]⟩ t_z2d) • pts bn (.cells ⟨[.int .i64 ((X.forced + m : Nat) : Int)]⟩ t_int) • logo l X • devo d Y • R)
   (fun en G => ∃ G', Imp G G' ∧ AskQ (wrs X.first (X.forced + 1) (X.val.bys.take m) Y.val).1 (fun G => ∃ Y' : DevX, Y'.Ok ∧ Y'.val = (wrs X.first (X.forced + 1) (X.val.bys.take m) Y.val).2 ∧ Y'.ps.length ≤ Y.ps.length + m ∧
    G = (devo d Y' • pts bl (.cells ⟨[ptr l]⟩ t_z2d) • pts bn (.cells ⟨[.int .i64 ((X.forced + m : Nat) : Int)]⟩ t_int) • logo l X • R)) en G') := by
 subst hd
 have hlen := hX.len
 have hcnt := hX.cnt
 have hbl := hX.bl
 obtain ⟨B, hB⟩ : ∃ B, B = X.val.bys.take m := ⟨_, rfl⟩
 have hBl : B.length = m := by rw [hB, List.length_take]; show min m (X.bys.map (·.b)).length = m; rw [List.length_map]; omega
 have hBi : ∀ (i : Nat) (x : BytX), i < m → X.bys[i]? = some x → B[i]? = some x.b := fun i x hi hx => by
  rw [hB, List.getElem?_take_of_lt hi]
  show (X.bys.map (·.b))[i]? = _
  rw [List.getElem?_map, hx]; rfl
 rw [← hB]
 obtain ⟨RR, hRR⟩ : ∃ RR, RR = wrs X.first (X.forced + 1) B Y.val := ⟨_, rfl⟩
 rw [← hRR]
 refine f_z1k.does _ _ ?_
 conv => whnf
 repeat' (first
  | ((first | refine Ld.i ?_ | refine Ar.i64 (by omega) ?_); conv => whnf))
 refine LoopK.at tab_ok (L := f_z1k.live) (ι := Nat × DevX) (fun i => i.1 ≤ m ∧ wrs X.first (X.forced + 1 + i.1) (B.drop i.1) i.2.val = RR ∧ i.2.Ok ∧ i.2.ps.length ≤ Y.ps.length + i.1) (fun i => [(2, .int .i64 ((X.forced + 1 + i.1 : Nat) : Int))])
  (fun i => devo X.d i.2) (fun i => m - i.1) (0, Y) ⟨by simp, by rw [hRR]; rfl, hY, by simp⟩ (fun t v h => h) (Imp.pick (Imp.refl _)) ?_
 rintro ⟨k, Z⟩ ⟨hk, hw, hZ, hZq⟩
 dsimp only at hk hw hZ hZq ⊢
 conv => whnf
 by_cases h1 : k < m
 ·obtain ⟨x, hx⟩ : ∃ x, X.bys[k]? = some x := ⟨_, List.getElem?_eq_getElem (by omega)⟩
  have hkl := (List.getElem?_eq_some_iff.1 hx).1
  have hbx := hX.byt x (List.mem_of_getElem? hx)
  haveI rb : ∀ Q : HProp, RowC W (logo l X • Q) x.a 1 bytv x.b := fun Q => RowC.logB hx
  rw [drop_of (hBi k x h1 hx), wrs] at hw
  obtain ⟨nn, hnn⟩ : ∃ nn : Int, nn = ((X.forced + 1 + k : Nat) : Int) := ⟨_, rfl⟩
  have hl512 : (laidB nn x.b).length = 512 := laidB_len hbx.2
  have hbyt : Byt (laidB nn x.b) := laidB_byt hbx.1
  haveI r512 : ∀ (a : Option Addr) (c : Nat) (Q : HProp), RowN W (vec t_uint8 1 bytv a c (laidB nn x.b) • Q) a 512 1 bytv (laidB nn x.b) := fun a c Q => ⟨inferInstance, hl512.symm⟩
  rw [← hnn] at hw ⊢
  obtain ⟨e, he⟩ : ∃ e, e = (Z.val.write (X.first + nn - 1) (laidB nn x.b)).1 := ⟨_, rfl⟩
  rw [← he] at hw
  by_cases he0 : e = 0
  ·rw [if_pos he0] at hw
   repeat' (first
    | (refine DrawK.introK tab_ok mixed 13 f_z1k.last3 f_z1k.plan3 rfl (by kernel_rfl) ?_; conv => whnf)
    | (refine CallK.ret f_log_laid.ok (laid_spec (b := x.b) (lsn := nn) hbx.2 (by omega)) ?_; rintro v G ⟨sa, sc, rfl, rfl⟩; conv => whnf)
    | (refine CallK.ret f_z16.ok (write_spec (X := Z) (b := laidB nn x.b) hZ (by omega) hbyt (by omega)) ?_; rintro v G ⟨Z', hZ', hZv, hZl, rfl, rfl⟩; rw [← he, he0]; conv => whnf)
    | (refine CallK.ret f_zz.ok asked_ok ?_; rintro v G ⟨rfl, rfl⟩; conv => whnf)
    | (refine spl_dec (fun hd => ?_) (fun hd => ?_) <;> first | (exfalso; omega) | (conv => whnf))
    | ((first | refine Ld.i ?_ | refine Ar.i64 (by omega) ?_); conv => whnf)
    | (refine IxS.r (xs := X.bys) (i := k) (by omega) rfl hkl (fun ab off ha => ?_); have rv : ∀ Q : HProp, RowC W (logo l X • Q) (some ⟨ab, off, none⟩) 1 bytx X.bys := fun Q => ha ▸ inferInstance; conv => whnf)
    | (refine Ld.r0 hx rfl ?_; conv => whnf)
    | (refine Sub.on (by first | exact .refl _ | exact .drop | exact .fin | ((repeat refine .pick ?_); first | exact .refl _ | exact .emp _ | exact .fin)) ?_; conv => whnf))
   have e2 : nn + 1 = ((X.forced + 1 + (k + 1) : Nat) : Int) := by omega
   rw [e2]
   refine ⟨rfl, (k + 1, Z'), ⟨h1, by rw [hZv]; exact hw, hZ', by dsimp only; omega⟩, fun t v h => h, ?_, by dsimp only; omega⟩
   first | exact .refl _ | exact .drop | exact .fin | ((repeat refine .pick ?_); first | exact .refl _ | exact .emp _ | exact .fin)
  ·rw [if_neg he0] at hw
   repeat' (first
    | (refine DrawK.introK tab_ok mixed 13 f_z1k.last3 f_z1k.plan3 rfl (by kernel_rfl) ?_; conv => whnf)
    | (refine CallK.ret f_log_laid.ok (laid_spec (b := x.b) (lsn := nn) hbx.2 (by omega)) ?_; rintro v G ⟨sa, sc, rfl, rfl⟩; conv => whnf)
    | (refine CallK.ret f_z16.ok (write_spec (X := Z) (b := laidB nn x.b) hZ (by omega) hbyt (by omega)) ?_; rintro v G ⟨Z', hZ', hZv, hZl, rfl, rfl⟩; rw [← he]; conv => whnf)
    | (refine CallK.thr f_zz.ok (asked_no he0) ?_; rintro c G ⟨rfl, rfl⟩; conv => whnf)
    | (refine spl_dec (fun hd => ?_) (fun hd => ?_) <;> first | (exfalso; omega) | (conv => whnf))
    | ((first | refine Ld.i ?_ | refine Ar.i64 (by omega) ?_); conv => whnf)
    | (refine IxS.r (xs := X.bys) (i := k) (by omega) rfl hkl (fun ab off ha => ?_); have rv : ∀ Q : HProp, RowC W (logo l X • Q) (some ⟨ab, off, none⟩) 1 bytx X.bys := fun Q => ha ▸ inferInstance; conv => whnf)
    | (refine Ld.r0 hx rfl ?_; conv => whnf)
    | (refine Sub.on (by first | exact .refl _ | exact .drop | exact .fin | ((repeat refine .pick ?_); first | exact .refl _ | exact .emp _ | exact .fin)) ?_; conv => whnf))
   refine ⟨_, ?_, .inr ⟨?_, ?_⟩, Z', hZ', ?_, ?_, rfl⟩
   ·first | exact .refl _ | exact .drop | exact .fin | ((repeat refine .pick ?_); first | exact .refl _ | exact .emp _ | exact .fin)
   ·rw [← hw, ← he]; exact he0
   ·rw [← hw, ← he]
   ·rw [hZv, ← hw]
   ·omega
 ·rw [List.drop_eq_nil_of_le (by omega), wrs] at hw
  obtain ⟨e, he⟩ : ∃ e, e = Z.val.sync.1 := ⟨_, rfl⟩
  by_cases he0 : e = 0
  ·repeat' (first
    | (refine CallK.ret f_z10.ok (sync_spec (X := Z) hZ (by omega)) ?_; rintro v G ⟨Z', hZ', hZv, hZl, rfl, rfl⟩; rw [← he, he0]; conv => whnf)
    | (refine CallK.ret f_zz.ok asked_ok ?_; rintro v G ⟨rfl, rfl⟩; conv => whnf)
    | (refine spl_dec (fun hd => ?_) (fun hd => ?_) <;> first | (exfalso; omega) | (conv => whnf))
    | (refine Ld.i ?_; conv => whnf))
   refine ⟨_, ?_, .inl ⟨?_, rfl⟩, Z', hZ', ?_, ?_, rfl⟩
   ·first | exact .refl _ | exact .drop | exact .fin | ((repeat refine .pick ?_); first | exact .refl _ | exact .emp _ | exact .fin)
   ·rw [← hw, ← he]; exact he0
   ·rw [hZv, ← hw]
   ·omega
  ·repeat' (first
    | (refine CallK.ret f_z10.ok (sync_spec (X := Z) hZ (by omega)) ?_; rintro v G ⟨Z', hZ', hZv, hZl, rfl, rfl⟩; rw [← he]; conv => whnf)
    | (refine CallK.thr f_zz.ok (asked_no he0) ?_; rintro c G ⟨rfl, rfl⟩; conv => whnf)
    | (refine spl_dec (fun hd => ?_) (fun hd => ?_) <;> first | (exfalso; omega) | (conv => whnf))
    | (refine Ld.i ?_; conv => whnf))
   refine ⟨_, ?_, .inr ⟨?_, ?_⟩, Z', hZ', ?_, ?_, rfl⟩
   ·first | exact .refl _ | exact .drop | exact .fin | ((repeat refine .pick ?_); first | exact .refl _ | exact .emp _ | exact .fin)
   ·rw [← hw, ← he]; exact he0
   ·rw [← hw, ← he]
   ·rw [hZv, ← hw]
   ·omega
theorem caught1_ok {W : World} {H : HProp} {bc be : Nat} : DDoes prog W f_zq ⟨[ptr bc, ptr be]⟩ .returning H (RetD fun _ u G => u = .returning ∧ G = H) := by
 refine DDoes.of_exec tab_ok f_zq.live f_zq.fn rfl rfl rfl (by simp) ?_
 skip
 exact ⟨_, _, rfl, Imp.refl _, rfl, rfl⟩
theorem caught1_no {W : World} {R : HProp} {bc be : Nat} {w : ByteArray} {z e : Int} {v : Value} {older : List PanicEntry} :
  DDoes prog W f_zq ⟨[ptr bc, ptr be]⟩ (.panicking (⟨refv z e, false, false⟩ :: older)) (pts bc (.cells ⟨[.string w]⟩ t_string) • pts be (.cells ⟨[v]⟩ t_error) • R)
   (RetD fun _ u G => ∃ b, u = .panicking (⟨refv z e, true, false⟩ :: older) ∧ G = (pts bc (.cells ⟨[.string w]⟩ t_string) • pts be (.cells ⟨[.iface t_z5 (ptr b)]⟩ t_error) • fltc b w z e • R)) := by
 refine DDoes.of_exec tab_ok f_zq.live f_zq.fn rfl rfl rfl (by simp) ?_
 repeat' (first
  | ((first | refine Ld.i ?_ | refine St.i ⟨rfl, rfl⟩ (List.cons_ne_nil _ _) ?_); conv => whnf)
  | (intro blk hblk; conv => whnf))
 refine ⟨_, _, rfl, ?_, blk, rfl, rfl⟩
 unfold fltc
 first | exact .refl _ | exact .drop | exact .fin | ((repeat refine .pick ?_); first | exact .refl _ | exact .emp _ | exact .fin)
theorem caught_spec {W : World} {H : HProp} {w : ByteArray} {g : FuncId} {cap : List Value} {e : Int} {P : HProp → Prop} (hg : Callable prog g)
  (h : ∀ bc be : Nat, Does prog W g ⟨cap⟩ (pts be (.cells ⟨[.nilIface]⟩ t_error) • pts bc (.cells ⟨[.string w]⟩ t_string) • H) (fun en G => ∃ G', Imp G G' ∧ AskQ e (fun G => ∃ G0, P G0 ∧ G = (pts be (.cells ⟨[.nilIface]⟩ t_error) • pts bc (.cells ⟨[.string w]⟩ t_string) • G0)) en G')) :
  Does prog W f_z2g ⟨[.string w, .func (.func g) #[] ⟨cap⟩]⟩ H (Ret fun v G => ∃ G0, P G0 ∧ ((e = 0 ∧ v = .nilIface ∧ G = G0) ∨ (e ≠ 0 ∧ ∃ b, v = .iface t_z5 (ptr b) ∧ G = (fltc b w 0 e • G0)))) := by
 refine f_z2g.does _ _ ?_
 conv => whnf
 repeat' (first
  | (intro blk hblk; conv => whnf))
 refine CallK.any hg (h _ _) ?_
 rintro en G ⟨⟨h0, rfl⟩ | ⟨h0, rfl⟩, G0, hP, rfl⟩
 ·conv => whnf
  repeat' (first
   | (refine St.i ⟨rfl, rfl⟩ (List.cons_ne_nil _ _) ?_; conv => whnf))
  refine LeaveD.ret tab_ok (by simp) f_zq.ok caught1_ok ?_
  rintro _ _ G ⟨rfl, rfl⟩
  conv => whnf
  repeat' (first
   | (refine Ld.i ?_; conv => whnf))
  refine ⟨_, _, rfl, ?_, G0, hP, .inl ⟨h0, rfl, rfl⟩⟩
  first | exact .refl _ | exact .drop | exact .fin | ((repeat refine .pick ?_); first | exact .refl _ | exact .emp _ | exact .fin)
 ·conv => whnf
  skip
  refine LeaveD.ret tab_ok (by simp) f_zq.ok (DDoes.imp (by first | exact .refl _ | exact .drop | exact .fin | ((repeat refine .pick ?_); first | exact .refl _ | exact .emp _ | exact .fin)) (caught1_no (w := w) (z := 0) (e := e) (v := .nilIface) (R := G0) (older := []))) ?_
  rintro _ _ G ⟨b, rfl, rfl⟩
  conv => whnf
  repeat' (first
   | (refine Ld.i ?_; conv => whnf))
  refine ⟨_, _, rfl, ?_, G0, hP, .inr ⟨h0, b, rfl, rfl⟩⟩
  first | exact .refl _ | exact .drop | exact .fin | ((repeat refine .pick ?_); first | exact .refl _ | exact .emp _ | exact .fin)
end Go.Proofs.YtgcknlpkhhpkjaaGreatDoor
/- The program's log.Force, walked. Conditions: in each statement. -/
namespace Go.Proofs.YtgcknlpkhhpkjaaGreatDoor
open Go Go.SL Go.SL.Sec Go.SL.Fld Go.SL.Pts Go.SL.Rec
open Go.SL.Und (RecV recv fits)
theorem Does.ask {W : World} {g : FuncId} {args : Array Value} {H : HProp} {e : Int} {P P' : HProp → Prop} (h : Does prog W g args H (fun en G => ∃ G', Imp G G' ∧ AskQ e P en G')) (k : ∀ G, P G → ∃ G', Imp G G' ∧ P' G') : Does prog W g args H (fun en G => ∃ G', Imp G G' ∧ AskQ e P' en G') :=
 ⟨fun w hs => (h.run w hs).mono fun en _ ⟨X, hx, G, hi, ha, hp⟩ => let ⟨G', hi', hp'⟩ := k G hp; ⟨X, hx, G', hi.trans hi', ha, hp'⟩⟩
theorem big_drop {α : Type} (f : α → HProp) (l : List α) (m : Nat) : Imp (bigL f l) (bigL f (l.drop m)) := by
 have := bigL_append f (l.take m) (l.drop m)
 rw [List.take_append_drop] at this
 rw [this]; exact Imp.drop
theorem force_down {W : World} {H R : HProp} {l : Nat} {X : LogX} {n : Int} [t : ObjC logo H l X R] {b : Nat} {z e : Int} (he : X.err = some (b, z, e)) :
  Does prog W f_z3 ⟨[ptr l, .int .i64 n]⟩ H (Ret fun v G => ∃ b, v = .iface t_z5 (ptr b) ∧ G = (fltc b wForce 0 40 • logo l X • R)) := by
 rw [t.h.eq]
 rw [logo_eq, he]
 unfold errv errc
 refine f_z3.does _ _ ?_
 conv => whnf
 repeat' (first
  | (refine Ld.i ?_; conv => whnf)
  | (intro blk hblk; conv => whnf))
 refine ⟨_, _, rfl, ?_, blk, rfl, rfl⟩
 unfold fltc
 first | exact .refl _ | exact .drop | exact .fin | ((repeat refine .pick ?_); first | exact .refl _ | exact .emp _ | exact .fin)
theorem force_place {W : World} {H R : HProp} {l : Nat} {X : LogX} {n : Int} [t : ObjC logo H l X R] (he : X.err = none) (hn : n < 0 ∨ n > X.recs.length) :
  Does prog W f_z3 ⟨[ptr l, .int .i64 n]⟩ H (Ret fun v G => ∃ b, v = .iface t_z5 (ptr b) ∧ G = (fltc b wForce 0 4 • logo l X • R)) := by
 rw [t.h.eq]
 have hev : errv X.err = .nilIface := by rw [he]; rfl
 refine f_z3.does _ _ ?_
 conv => whnf
 repeat' (first
  | (refine spl_dec (fun hd => ?_) (fun hd => ?_) <;> first | (exfalso; omega) | (conv => whnf))
  | (refine Ld.i ?_; conv => whnf)
  | (intro blk hblk; conv => whnf)
  | (rw [hev]; conv => whnf)
  | (refine DrawK.introH tab_ok mixed 15 f_z3.last3 f_z3.plan3 _ rfl (by kernel_rfl) (Sub.of (by first | exact .refl _ | exact .drop | exact .fin | ((repeat refine .pick ?_); first | exact .refl _ | exact .emp _ | exact .fin))) ?_; conv => whnf))
 all_goals
  refine ⟨_, _, rfl, ?_, blk, rfl, rfl⟩
  unfold fltc
  first | exact .refl _ | exact .drop | exact .fin | ((repeat refine .pick ?_); first | exact .refl _ | exact .emp _ | exact .fin)
theorem force_idle {W : World} {H R : HProp} {l : Nat} {X : LogX} {n : Int} [t : ObjC logo H l X R] (he : X.err = none) (hn : 0 ≤ n ∧ n ≤ X.forced ∧ n ≤ X.recs.length) :
  Does prog W f_z3 ⟨[ptr l, .int .i64 n]⟩ H (Ret fun v G => v = .nilIface ∧ G = (logo l X • R)) := by
 rw [t.h.eq]
 have hev : errv X.err = .nilIface := by rw [he]; rfl
 refine f_z3.does _ _ ?_
 conv => whnf
 repeat' (first
  | (refine spl_dec (fun hd => ?_) (fun hd => ?_) <;> first | (exfalso; omega) | (conv => whnf))
  | (refine Ld.i ?_; conv => whnf)
  | (intro blk hblk; conv => whnf)
  | (rw [hev]; conv => whnf)
  | (refine DrawK.introH tab_ok mixed 15 f_z3.last3 f_z3.plan3 _ rfl (by kernel_rfl) (Sub.of (by first | exact .refl _ | exact .drop | exact .fin | ((repeat refine .pick ?_); first | exact .refl _ | exact .emp _ | exact .fin))) ?_; conv => whnf)
  | (refine DrawK.introH tab_ok mixed 30 f_z3.last5 f_z3.plan5 _ rfl (by kernel_rfl) (Sub.of (by first | exact .refl _ | exact .drop | exact .fin | ((repeat refine .pick ?_); first | exact .refl _ | exact .emp _ | exact .fin))) ?_; conv => whnf))
 refine Ret.eq rfl ?_
 first | exact .refl _ | exact .drop | exact .fin | ((repeat refine .pick ?_); first | exact .refl _ | exact .emp _ | exact .fin)
theorem force_go {W : World} {H R : HProp} {l d m : Nat} {X : LogX} {Y : DevX} (hH : H = (logo l X • devo d Y • R)) (hX : X.Ok) (hY : Y.Ok) (hq : Y.ps.length ≤ 500000) (hxd : X.d = d) (hf : 0 ≤ X.first ∧ X.first ≤ 8192) (he : X.err = none) (hm : 1 ≤ m ∧ m ≤ X.bys.length) :
    Does prog W f_z3 ⟨[ptr l, .int .i64 ((X.forced + m : Nat) : Int)]⟩ H (Ret fun v G => ∃ (X' : LogX) (Y' : DevX), X'.d = X.d ∧ X'.Ok ∧ Y'.Ok ∧ Y'.ps.length ≤ Y.ps.length + m ∧ Y'.val = (wrs X.first (X.forced + 1) (X.val.bys.take m) Y.val).2 ∧ G = (logo l X' • devo d Y' • R) ∧
      (((wrs X.first (X.forced + 1) (X.val.bys.take m) Y.val).1 = 0 ∧ v = .nilIface ∧ X'.val = { X.val with bys := X.val.bys.drop m, forced := X.forced + m }) ∨
       ((wrs X.first (X.forced + 1) (X.val.bys.take m) Y.val).1 ≠ 0 ∧ ∃ b, v = .iface t_z5 (ptr b) ∧ X' = { X with err := some (b, 0, (wrs X.first (X.forced + 1) (X.val.bys.take m) Y.val).1) }))) := by
  subst hH
  have hev : errv X.err = .nilIface := by rw [he]; rfl
  have hlen := hX.len
  have hcnt := hX.cnt
  have hbl := hX.bl
  obtain ⟨RR, hRR⟩ : ∃ RR, RR = wrs X.first (X.forced + 1) (X.val.bys.take m) Y.val := ⟨_, rfl⟩
  rw [← hRR]
  refine f_z3.does _ _ ?_
  conv => whnf
  repeat' (first
    | (refine spl_dec (fun hd => ?_) (fun hd => ?_) <;> first | (exfalso; omega) | (conv => whnf))
    | (refine Ld.i ?_; conv => whnf)
    | (intro blk hblk; conv => whnf)
    | (rw [hev]; conv => whnf)
    | (refine DrawK.introH tab_ok mixed 15 f_z3.last3 f_z3.plan3 _ rfl (by kernel_rfl) (Sub.of (by first | exact .refl _ | exact .drop | exact .fin | ((repeat refine .pick ?_); first | exact .refl _ | exact .emp _ | exact .fin))) ?_; conv => whnf)
    | (refine DrawK.introH tab_ok mixed 30 f_z3.last5 f_z3.plan5 _ rfl (by kernel_rfl) (Sub.of (by first | exact .refl _ | exact .drop | exact .fin | ((repeat refine .pick ?_); first | exact .refl _ | exact .emp _ | exact .fin))) ?_; conv => whnf))
  rename_i b1 _ _
  obtain ⟨b2, hb2⟩ : ∃ b2, b2 = blk := ⟨_, rfl⟩
  rw [← hb2]
  refine CallK.ret f_z2g.ok (caught_spec (w := wForce) (e := RR.1) (P := fun G0 => ∃ Y' : DevX, Y'.Ok ∧ Y'.val = RR.2 ∧ Y'.ps.length ≤ Y.ps.length + m ∧ G0 = (devo d Y' • pts b1 (.cells ⟨[ptr l]⟩ t_z2d) • pts b2 (.cells ⟨[.int .i64 ((X.forced + m : Nat) : Int)]⟩ t_int) • logo l X • R)) f_z1k.ok (fun bc be => ?_)) ?_
  · refine Does.imp (H' := pts b1 (.cells ⟨[ptr l]⟩ t_z2d) • pts b2 (.cells ⟨[.int .i64 ((X.forced + m : Nat) : Int)]⟩ t_int) • logo l X • devo d Y • pts be (.cells ⟨[.nilIface]⟩ t_error) • pts bc (.cells ⟨[.string wForce]⟩ t_string) • R) (by first | exact .refl _ | exact .drop | exact .fin | ((repeat refine .pick ?_); first | exact .refl _ | exact .emp _ | exact .fin)) ?_
    have hfs := force1_spec (W := W) (R := pts be (.cells ⟨[.nilIface]⟩ t_error) • pts bc (.cells ⟨[.string wForce]⟩ t_string) • R) (bl := b1) (bn := b2) (l := l) (d := d) hX hY hq hxd hf hm.2
    rw [← hRR] at hfs
    refine Does.ask hfs ?_
    rintro G ⟨Y', h1, h2, h3, rfl⟩
    refine ⟨_, ?_, _, ⟨Y', h1, h2, h3, rfl⟩, rfl⟩
    first | exact .refl _ | exact .drop | exact .fin | ((repeat refine .pick ?_); first | exact .refl _ | exact .emp _ | exact .fin)
  rintro v G ⟨G0, ⟨Y', hY1, hY2, hY3, rfl⟩, ⟨h0, rfl, rfl⟩ | ⟨h0, b, rfl, rfl⟩⟩
  · rw [logo_eq]
    conv => whnf
    repeat' (first
      | ((first | refine Ld.i ?_ | refine St.i ⟨rfl, rfl⟩ (List.cons_ne_nil _ _) ?_ | refine Ar.i64 (by omega) ?_ | refine OpQ.slr tab_ok m rfl rfl rfl rfl (by omega) (by omega) ?_); conv => whnf)
      | (refine DrawK.introH tab_ok mixed 45 f_z3.last11 f_z3.plan11 _ rfl (by kernel_rfl) (Sub.of (by first | exact .refl _ | exact .drop | exact .fin | ((repeat refine .pick ?_); first | exact .refl _ | exact .emp _ | exact .fin))) ?_; conv => whnf))
    refine ⟨_, _, rfl, ?_, { X with ba := dropA X.ba m X.bc 1, bc := X.bc - m, bys := X.bys.drop m, forced := X.forced + m }, Y', rfl, ⟨hcnt, hX.recs, hlen, by simp; omega, fun x hx => hX.byt x (List.mem_of_mem_drop hx)⟩, hY1, hY3, hY2, rfl, .inl ⟨h0, rfl, ?_⟩⟩
    · rw [logo_eq]
      dsimp only
      rw [List.length_drop, hev, he]
      refine Imp.pick (Imp.pick (Imp.pick (Imp.vdrop (xs := X.bys) m hm.2 ?_)))
      refine Imp.trans (Q := bigL bytc X.bys • errc none • devo d Y' • R) (by rw [← he]; first | exact .refl _ | exact .drop | exact .fin | ((repeat refine .pick ?_); first | exact .refl _ | exact .emp _ | exact .fin)) ((big_drop bytc X.bys m).star (Imp.refl _))
    · simp [LogX.val, List.map_drop]
  · rw [logo_eq]
    conv => whnf
    repeat' (first
      | ((first | refine Ld.i ?_ | refine St.i ⟨rfl, rfl⟩ (List.cons_ne_nil _ _) ?_); conv => whnf))
    refine ⟨_, _, rfl, ?_, { X with err := some (b, 0, RR.1) }, Y', rfl, ⟨hcnt, hX.recs, hlen, hbl, hX.byt⟩, hY1, hY3, hY2, rfl, .inr ⟨h0, b, rfl, ?_⟩⟩
    · rw [logo_eq]
      show Imp _ (pts l (.cells ⟨[ptr X.d, .int .i64 X.first, .int .i64 X.count, .slice X.ra X.recs.length X.rc, .slice X.ba X.bys.length X.bc, .int .i64 X.forced, .iface t_z5 (ptr b)]⟩ t_log_Log) •
        vec t_z1n 17 recx X.ra X.rc X.recs • bigL recc X.recs • vec t_S_uint8 1 bytx X.ba X.bc X.bys • bigL bytc X.bys • fltc b wForce 0 RR.1 • devo d Y' • R)
      first | exact .refl _ | exact .drop | exact .fin | ((repeat refine .pick ?_); first | exact .refl _ | exact .emp _ | exact .fin)
    · rfl
end Go.Proofs.YtgcknlpkhhpkjaaGreatDoor
