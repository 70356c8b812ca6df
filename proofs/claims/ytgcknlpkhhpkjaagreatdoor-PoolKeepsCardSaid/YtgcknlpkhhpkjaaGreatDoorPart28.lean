/- The program's log.Open: the records that the sectors hold; walked. Conditions: in each statement. -/
import Derived.Test.YtgcknlpkhhpkjaaGreatDoorPart27
import Derived.Test.YtgcknlpkhhpkjaaGreatDoorPart15
import Derived.Test.YtgcknlpkhhpkjaaGreatDoorPart22
import Derived.Test.YtgcknlpkhhpkjaaGreatDoorPart20
namespace Go.SL.Rec
open Go Go.SL Go.SL.Sec Go.SL.Fld Go.SL.Pts
abbrev logB (d : Nat) (first count : Int) (ra : Option Addr) (rc : Nat) (recs : List RecX) (forced : Nat) : LogX := ⟨d, first, count, ra, rc, recs, none, 0, [], forced, none⟩
end Go.SL.Rec
namespace Go.Proofs.YtgcknlpkhhpkjaaGreatDoor
open Go Go.SL Go.SL.Sec Go.SL.Fld Go.SL.Pts Go.SL.Rec
open Go.SL.Und (RecV recv fits)
def readR (i : Nat) (T : DecT) : RecM := ⟨bare { T.2.1 with lsn := (i : Int) + 1 }, T.2.2.1, T.2.2.2⟩
def ReadP (i : Nat) (T : DecT) : Prop := T.1 = 0 ∧ chkF (withL { T.2.1 with lsn := (i : Int) + 1 } T.2.2.1 T.2.2.2) T.2.2.1 T.2.2.2 = 0
instance (i : Nat) (T : DecT) : Decidable (ReadP i T) := by unfold ReadP; infer_instance
def readG : Nat → List (List Int) → Int × List RecM
 | _, [] => (0, [])
 | i, b :: l => if ReadP i (decF b) then ((readG (i + 1) l).1, readR i (decF b) :: (readG (i + 1) l).2) else ((i : Int) + 1, [])
def AskN (z e : Int) (P : HProp → Prop) (en : Ending) (G : HProp) : Prop := ((e = 0 ∧ en = .returned (.tuple ⟨[]⟩)) ∨ (e ≠ 0 ∧ en = .panicked (pan (refv z e)))) ∧ P G
theorem AskN.of {e : Int} {P : HProp → Prop} {en : Ending} {G : HProp} (h : AskQ e P en G) : AskN 0 e P en G := h
-- @noauto
theorem caughtN_spec {W : World} {H : HProp} {w : ByteArray} {g : FuncId} {cap : List Value} {z e : Int} {P : HProp → Prop} (hg : Callable prog g)
  (h : ∀ bc be : Nat, Does prog W g ⟨cap⟩ (pts be (.cells ⟨[.nilIface]⟩ t_error) • pts bc (.cells ⟨[.string w]⟩ t_string) • H) (fun en G => ∃ G', Imp G G' ∧ AskN z e (fun G => ∃ G0, P G0 ∧ G = (pts be (.cells ⟨[.nilIface]⟩ t_error) • pts bc (.cells ⟨[.string w]⟩ t_string) • G0)) en G')) :
  Does prog W f_z2g ⟨[.string w, .func (.func g) #[] ⟨cap⟩]⟩ H (Ret fun v G => ∃ G0, P G0 ∧ ((e = 0 ∧ v = .nilIface ∧ G = G0) ∨ (e ≠ 0 ∧ ∃ b, v = .iface t_z5 (ptr b) ∧ G = (fltc b w z e • G0)))) := by
 refine f_z2g.does _ _ ?_
 conv => whnf
 repeat' (first
  | (intro blk hblk; conv => whnf))
 refine CallK.any hg (h _ _) ?_
 rintro en G ⟨⟨h0, rfl⟩ | ⟨h0, rfl⟩, G0, hP, rfl⟩
 ·conv => whnf
  repeat' (first
   | (refine St.i ⟨rfl, rfl⟩ (List.cons_ne_nil _ _) ?_; conv => whnf))
  refine LeaveD.ret tab_ok (by simp) f_zq.ok caught1_ok ?_
  rintro _ _ G ⟨rfl, rfl⟩
  conv => whnf
  repeat' (first
   | (refine Ld.i ?_; conv => whnf))
  refine ⟨_, _, rfl, ?_, G0, hP, .inl ⟨h0, rfl, rfl⟩⟩
  first | exact .refl _ | exact .drop | exact .fin | ((repeat refine .pick ?_); first | exact .refl _ | exact .emp _ | exact .fin)
 ·conv => whnf
  skip
  refine LeaveD.ret tab_ok (by simp) f_zq.ok (DDoes.imp (by first | exact .refl _ | exact .drop | exact .fin | ((repeat refine .pick ?_); first | exact .refl _ | exact .emp _ | exact .fin)) (caught1_no (w := w) (z := z) (e := e) (v := .nilIface) (R := G0) (older := []))) ?_
  rintro _ _ G ⟨b, rfl, rfl⟩
  conv => whnf
  repeat' (first
   | (refine Ld.i ?_; conv => whnf))
  refine ⟨_, _, rfl, ?_, G0, hP, .inr ⟨h0, b, rfl, rfl⟩⟩
  first | exact .refl _ | exact .drop | exact .fin | ((repeat refine .pick ?_); first | exact .refl _ | exact .emp _ | exact .fin)
set_option maxHeartbeats 2000000 in
-- @noauto
theorem lread_spec {W : World} {R : HProp} {l d : Nat} {first count : Int} {a : Option Addr} {n c : Nat} {outs : List BytX} [ro : RowN W R a n 1 bytx outs] (ho : ∀ x ∈ outs, RowC W R x.a 1 bytv x.b ∧ Byt x.b ∧ x.b.length ≤ 512) (hl : outs.length ≤ 10000) :
  Does prog W f_z1y ⟨[ptr l, .slice a n c]⟩ (logo l (logB d first count none 0 [] 0) • R)
   (fun en G => ∃ G', Imp G G' ∧ AskN (readG 0 (outs.map (·.b))).1 (if (readG 0 (outs.map (·.b))).1 = 0 then 0 else 60) (fun G => ∃ ra rc recs, recs.map (·.m) = (readG 0 (outs.map (·.b))).2 ∧ (∀ x ∈ recs, x.m.L.length ≤ 32 ∧ x.m.D.length ≤ 16 ∧ bare x.m.r = x.m.r) ∧
    G = (logo l (logB d first count ra rc recs (if (readG 0 (outs.map (·.b))).1 = 0 then recs.length else 0)) • R)) en G') := by
 have hn := ro.len
 subst hn
 haveI r' := ro.row
 obtain ⟨B, hB⟩ : ∃ B, B = outs.map (·.b) := ⟨_, rfl⟩
 have hBi : ∀ (i : Nat) (x : BytX), outs[i]? = some x → B[i]? = some x.b := fun i x hx => by rw [hB, List.getElem?_map, hx]; rfl
 have hBl : B.length = outs.length := by rw [hB, List.length_map]
 rw [← hB]
 obtain ⟨T, hT⟩ : ∃ T, T = readG 0 B := ⟨_, rfl⟩
 rw [← hT]
 refine f_z1y.does _ _ ?_
 conv => whnf
 skip
 refine LoopK.at tab_ok (L := f_z1y.live) (ι := Nat × List RecX × Option Addr × Nat) (fun i => i.1 ≤ outs.length ∧ i.2.1.length = i.1 ∧ T = ((readG i.1 (B.drop i.1)).1, i.2.1.map (·.m) ++ (readG i.1 (B.drop i.1)).2) ∧ ∀ x ∈ i.2.1, x.m.L.length ≤ 32 ∧ x.m.D.length ≤ 16 ∧ bare x.m.r = x.m.r)
  (fun i => [(10, .int .i64 i.1)]) (fun i => logo l (logB d first count i.2.2.1 i.2.2.2 i.2.1 0)) (fun i => outs.length - i.1) (0, [], none, 0) ⟨by simp, rfl, by rw [hT]; rfl, fun x hx => by cases hx⟩ (fun t v h => h) (Imp.refl _) ?_
 rintro ⟨i, recs, ra, rc⟩ ⟨hi, hrl, hf, hok⟩
 dsimp only at hi hrl hf hok ⊢
 conv => whnf
 by_cases h1 : i < outs.length
 ·obtain ⟨x, hx⟩ : ∃ x, outs[i]? = some x := ⟨_, List.getElem?_eq_getElem h1⟩
  obtain ⟨rx, bx, lx⟩ := ho x (List.mem_of_getElem? hx)
  haveI := rx
  rw [drop_of (hBi i x hx), readG] at hf
  obtain ⟨t, ht⟩ : ∃ t, t = decF x.b := ⟨_, rfl⟩
  rw [← ht] at hf
  obtain ⟨C, hC⟩ : ∃ C, C = chkF (withL { t.2.1 with lsn := (i : Int) + 1 } t.2.2.1 t.2.2.2) t.2.2.1 t.2.2.2 := ⟨_, rfl⟩
  by_cases c1 : t.1 = 0
  rotate_left
  ·have hr : ¬ ReadP i t := fun k => c1 k.1
   rw [if_neg hr] at hf
   have hz : ¬ T.1 = 0 := by rw [hf]; dsimp only; omega
   rw [if_neg hz, show T.1 = (i : Int) + 1 by rw [hf]]
   repeat' (first
    | (refine CallK.ret f_zb.ok (decode_spec (l := x.b) bx (by omega)) ?_; rw [← ht]; rintro v G ⟨la, lc, da, dc, rfl, rfl⟩; unfold recLA recA; conv => whnf)
    | (rw [decide_eq_false c1]; conv => whnf)
    | (refine spl_dec (fun hd => ?_) (fun hd => ?_) <;> first | (exfalso; omega) | (conv => whnf))
    | ((first | refine St.i ⟨rfl, rfl⟩ (List.cons_ne_nil _ _) ?_ | refine Ar.i64 (by omega) ?_); conv => whnf)
    | (intro blk hblk; conv => whnf)
    | (refine IxS.r (xs := outs) (i := i) rfl rfl h1 (fun ab off ha => ?_); cases ha; conv => whnf)
    | (refine Ld.r0 hx rfl ?_; conv => whnf))
   refine ⟨_, ?_, .inr ⟨by decide, rfl⟩, ra, rc, recs, by rw [hf]; exact (List.append_nil _).symm, hok, rfl⟩
   rw [if_neg (show ¬ ((i : Int) + 1 = 0) by omega)]
   first | exact .refl _ | exact .drop | exact .fin | ((repeat refine .pick ?_); first | exact .refl _ | exact .emp _ | exact .fin)
  by_cases c2 : C = 0
  rotate_left
  ·have hr : ¬ ReadP i t := fun k => c2 (hC.trans k.2)
   rw [if_neg hr] at hf
   have hz : ¬ T.1 = 0 := by rw [hf]; dsimp only; omega
   rw [if_neg hz, show T.1 = (i : Int) + 1 by rw [hf]]
   repeat' (first
    | (refine CallK.ret f_zb.ok (decode_spec (l := x.b) bx (by omega)) ?_; rw [← ht]; rintro v G ⟨la, lc, da, dc, rfl, rfl⟩; unfold recLA recA; conv => whnf)
    | (rw [decide_eq_true c1]; conv => whnf)
    | (rw [decide_eq_false c2]; conv => whnf)
    | (refine CallK.ret f_z6.ok (check_spec (r := { t.2.1 with lsn := (i : Int) + 1, lv := (la, t.2.2.1.length, lc), dt := (da, t.2.2.2.length, dc) }) (L := t.2.2.1) (D := t.2.2.2)) ?_; rw [chkF_addr (r := { t.2.1 with lsn := (i : Int) + 1 }), ← hC]; rintro v G ⟨rfl, rfl⟩; conv => whnf)
    | (refine spl_dec (fun hd => ?_) (fun hd => ?_) <;> first | (exfalso; omega) | (conv => whnf))
    | ((first | refine LdN.i ?_ | refine St.i ⟨rfl, rfl⟩ (List.cons_ne_nil _ _) ?_ | refine Ar.i64 (by omega) ?_); conv => whnf)
    | (intro blk hblk; conv => whnf)
    | (refine IxS.r (xs := outs) (i := i) rfl rfl h1 (fun ab off ha => ?_); cases ha; conv => whnf)
    | (refine Ld.r0 hx rfl ?_; conv => whnf))
   refine ⟨_, ?_, .inr ⟨by decide, rfl⟩, ra, rc, recs, by rw [hf]; exact (List.append_nil _).symm, hok, rfl⟩
   rw [if_neg (show ¬ ((i : Int) + 1 = 0) by omega)]
   first | exact .refl _ | exact .drop | exact .fin | ((repeat refine .pick ?_); first | exact .refl _ | exact .emp _ | exact .fin)
  rw [if_pos ⟨c1, hC.symm.trans c2⟩] at hf
  repeat' (first
   | (refine CallK.ret f_zb.ok (decode_spec (l := x.b) bx (by omega)) ?_; rw [← ht]; rintro v G ⟨la, lc, da, dc, rfl, rfl⟩; unfold recLA recA; conv => whnf)
   | (rw [decide_eq_true c1]; conv => whnf)
   | (refine CallK.ret f_z6.ok (check_spec (r := { t.2.1 with lsn := (i : Int) + 1, lv := (la, t.2.2.1.length, lc), dt := (da, t.2.2.2.length, dc) }) (L := t.2.2.1) (D := t.2.2.2)) ?_; rw [chkF_addr (r := { t.2.1 with lsn := (i : Int) + 1 }), ← hC]; rintro v G ⟨rfl, rfl⟩; rw [logo_eq]; conv => whnf)
   | (rw [c2]; conv => whnf)
   | (refine DrawK.introK tab_ok mixed 33 f_z1y.last9 f_z1y.plan9 rfl (by kernel_rfl) ?_; conv => whnf)
   | (refine spl_dec (fun hd => ?_) (fun hd => ?_) <;> first | (exfalso; omega) | (conv => whnf))
   | ((first | refine Ld.i ?_ | refine LdN.i ?_ | refine St.i ⟨rfl, rfl⟩ (List.cons_ne_nil _ _) ?_ | refine Ar.i64 (by omega) ?_); conv => whnf)
   | (intro blk hblk; conv => whnf)
   | (refine IxS.r (xs := outs) (i := i) rfl rfl h1 (fun ab off ha => ?_); cases ha; conv => whnf)
   | (refine Ld.r0 hx rfl ?_; conv => whnf)
   | (refine OpX.app1 (xs := recs) tab_ok rfl rfl rfl rfl (⟨readR i t, la, lc, da, dc⟩ : RecX) rfl rfl (by omega) ⟨rfl, OneC.h⟩ (fun ra' rc' => ?_); conv => whnf)
   | (refine Sub.on (by first | exact .refl _ | exact .drop | exact .fin | ((repeat refine .pick ?_); first | exact .refl _ | exact .emp _ | exact .fin)) ?_; conv => whnf))
  obtain ⟨y, hy⟩ : ∃ y : RecX, y = ⟨readR i t, la, lc, da, dc⟩ := ⟨_, rfl⟩
  rw [← hy]
  have hyl : y.m.L.length ≤ 32 ∧ y.m.D.length ≤ 16 := by
   rw [hy]
   exact chk_lens (hC.symm.trans c2) rfl rfl
  have hyc : recc y = (vec t_api_Live 4 livev la lc t.2.2.1 • vec t_api_Dirty 2 dirtyv da dc t.2.2.2) := by rw [hy]; rfl
  have l1 : (recs ++ [y]).length = i + 1 := by simp [hrl]
  refine ⟨rfl, (i + 1, recs ++ [y], ra', rc'), ⟨h1, l1, ?_, fun x hx => ?_⟩, fun t v h => h, ?_, by dsimp only; omega⟩
  ·rw [hf, hy]
   simp
  ·rcases List.mem_append.1 hx with h | h
   ·exact hok x h
   ·cases List.mem_singleton.1 h
    exact ⟨hyl.1, hyl.2, by rw [hy]; rfl⟩
  ·dsimp only
   rw [logo_eq]
   dsimp only
   rw [bigL_snoc, hyc, show (recs ++ [y]).length = recs.length + 1 by simp]
   simp only [star_assoc]
   first | exact .refl _ | exact .drop | exact .fin | ((repeat refine .pick ?_); first | exact .refl _ | exact .emp _ | exact .fin)
 ·have e0 : i = outs.length := by omega
  subst e0
  rw [List.drop_eq_nil_of_le (by omega), readG] at hf
  rw [show T.1 = 0 by rw [hf], if_pos rfl, logo_eq]
  repeat' (first
   | (refine spl_dec (fun hd => ?_) (fun hd => ?_) <;> first | (exfalso; omega) | (conv => whnf))
   | ((first | refine Ld.i ?_ | refine St.i ⟨rfl, rfl⟩ (List.cons_ne_nil _ _) ?_); conv => whnf))
  refine ⟨_, ?_, .inl ⟨rfl, rfl⟩, ra, rc, recs, by rw [hf]; exact (List.append_nil _).symm, hok, rfl⟩
  rw [logo_eq]
  first | exact .refl _ | exact .drop | exact .fin | ((repeat refine .pick ?_); first | exact .refl _ | exact .emp _ | exact .fin)
end Go.Proofs.YtgcknlpkhhpkjaaGreatDoor
/- The program's log.Open over a disk without unsynced writes; walked. Conditions: in each statement. -/
namespace Go.SL.Rec
open Go Go.SL Go.SL.Sec Go.SL.Fld Go.SL.Pts
def secsL (D : Dev) (first : Int) (n : Nat) : List (List Int) := (List.range n).map fun i => D.at (first + (i : Nat))
theorem secsL_succ (D : Dev) (first : Int) (n : Nat) : secsL D first (n + 1) = secsL D first n ++ [D.at (first + (n : Nat))] := by unfold secsL; rw [List.range_succ, List.map_append]; rfl
theorem secsL_len (D : Dev) (first : Int) (n : Nat) : (secsL D first n).length = n := by unfold secsL; simp
end Go.SL.Rec
namespace Go.Proofs.YtgcknlpkhhpkjaaGreatDoor
open Go Go.SL Go.SL.Sec Go.SL.Fld Go.SL.Pts Go.SL.Rec Go.SL.Twn
open Go.SL.Und (RecV recv fits)
theorem foundG_len : ∀ (l : List (List Int)) (i : Nat), (foundG i l).length ≤ l.length
 | [], _ => Nat.le_refl _
 | s :: l, i => by
  unfold foundG
  split
  ·rw [List.length_cons, List.length_cons]; have := foundG_len l (i + 1); omega
  ·exact Nat.zero_le _
theorem readG_len : ∀ (l : List (List Int)) (i : Nat), (readG i l).2.length ≤ l.length
 | [], _ => Nat.le_refl _
 | s :: l, i => by
  unfold readG
  split
  ·rw [List.length_cons, List.length_cons]; have := readG_len l (i + 1); omega
  ·exact Nat.zero_le _
def openF (D : Dev) (first : Int) (n : Nat) : (Int × Int) × LogM × Dev :=
 let r := readG 0 (foundG 0 (secsL D first n))
 if r.1 ≠ 0 then ((r.1, 60), ⟨first, n, r.2, [], 0, none⟩, D) else
 let w := wipG first r.2.length ((secsL D first n).drop r.2.length) false D
 ((0, w.1), ⟨first, n, r.2, [], r.2.length, none⟩, w.2)
set_option maxHeartbeats 2000000 in
-- @noauto
theorem open1_spec {W : World} {R : HProp} {b1 b2 b3 b4 d l : Nat} {first : Int} {n : Nat} {X : DevX} (hX : X.Ok) (hdn : X.down = false) (hq : X.ps = []) (hf : 0 ≤ first ∧ first ≤ 8192) (hn : 1 ≤ n ∧ n ≤ 4096) (hs : first + n ≤ X.val.secs) :
  Does prog W f_z15 ⟨[ptr b1, ptr b2, ptr b3, ptr b4]⟩ (logo l (logB d first n none 0 [] 0) • devo d X • pts b1 (.cells ⟨[ptr d]⟩ t_z4d) • pts b2 (.cells ⟨[.int .i64 first]⟩ t_int) • pts b3 (.cells ⟨[.int .i64 n]⟩ t_int) • pts b4 (.cells ⟨[ptr l]⟩ t_z2d) • R)
   (fun en G => ∃ G', Imp G G' ∧ AskN (openF X.val first n).1.1 (openF X.val first n).1.2 (fun G => ∃ (L : LogX) (Y : DevX), L.d = d ∧ Y.Ok ∧ L.val = (openF X.val first n).2.1 ∧ ((openF X.val first n).1.2 = 0 → L.Ok) ∧ Y.val = (openF X.val first n).2.2 ∧ Y.ps.length ≤ n ∧
    G = (logo l L • devo d Y • pts b4 (.cells ⟨[ptr l]⟩ t_z2d) • R)) en G') := by
 obtain ⟨T, hT⟩ : ∃ T, T = openF X.val first n := ⟨_, rfl⟩
 rw [← hT]
 unfold openF at hT
 have hdv : X.val.down = false := hdn
 have hl := hX.len
 have hsz : X.val.secs = (X.img.length : Int) / 512 := rfl
 refine f_z15.does _ _ _ _ ?_
 conv => whnf
 repeat' (first
  | (refine DrawK.introK tab_ok mixed 13 f_z15.last2 f_z15.plan2 rfl (by kernel_rfl) ?_; conv => whnf)
  | (refine CallK.ret f_z1i.ok (sectors_spec (X := X) hX) ?_; rintro v G ⟨rfl, rfl⟩; conv => whnf)
  | (refine spl_f hdn ?_; conv => whnf)
  | (refine spl_dec (fun hd => ?_) (fun hd => ?_) <;> first | (exfalso; omega) | (conv => whnf))
  | ((first | refine Ld.i ?_ | refine Ar.i64 (by omega) ?_); conv => whnf)
  | (refine Sub.on (by first | exact .refl _ | exact .drop | exact .fin | ((repeat refine .pick ?_); first | exact .refl _ | exact .emp _ | exact .fin)) ?_; conv => whnf)
  | (refine CallK.ret f_z24.ok (down_spec) ?_; rintro v G ⟨rfl, rfl⟩; conv => whnf))
 refine CallK.ret f_z1w.ok (cache_spec (X := X) hX (by rw [hq]; exact Nat.zero_le _)) ?_
 rintro v G ⟨qa, qc, qs, hqs, rfl, rfl⟩
 have hqs0 : qs = [] := by
  have : X.val.q = [] := by show X.ps.map _ = []; rw [hq]; rfl
  rw [this] at hqs
  exact List.map_eq_nil_iff.1 hqs
 subst hqs0
 conv => whnf
 repeat' (first
  | (refine Ld.i ?_; conv => whnf))
 refine LoopK.at (R := devo d X • logo l (logB d first n none 0 [] 0) • pts b1 (.cells ⟨[ptr d]⟩ t_z4d) • pts b2 (.cells ⟨[.int .i64 first]⟩ t_int) • pts b3 (.cells ⟨[.int .i64 n]⟩ t_int) • pts b4 (.cells ⟨[ptr l]⟩ t_z2d) • R) tab_ok (L := f_z15.live) (ι := Nat × List BytX × Option Addr × Nat) (fun i => i.1 ≤ n ∧ i.2.1.length = i.1 ∧ i.2.1.map (·.b) = secsL X.val first i.1 ∧ ∀ s ∈ i.2.1, s.b.length = 512 ∧ s.b.length ≤ s.c ∧ Byt s.b)
  (fun i => [(46, .int .i64 i.1), (4, .slice i.2.2.1 i.2.1.length i.2.2.2)]) (fun i => vec t_S_uint8 1 bytx i.2.2.1 i.2.2.2 i.2.1 • bigL bytc i.2.1) (fun i => n - i.1) (0, [], none, 0) ⟨by simp, rfl, rfl, fun x hx => by cases hx⟩ (fun t v h => h) ?_ ?_
 ·refine Imp.trans (Imp.trans Imp.drop Imp.drop) ?_
  rw [star_assoc]
  refine Imp.vnil ?_
  show Imp _ (emp • _)
  rw [emp_star]
  exact Imp.refl _
 rintro ⟨i, all, aa, ac⟩ ⟨hi, hal, hall, hsx⟩
 dsimp only at hi hal hall hsx ⊢
 rw [star_assoc]
 conv => whnf
 by_cases h1 : i < n
 ·have hrd : X.val.read (first + (i : Nat)) = (0, X.val.at (first + (i : Nat))) := by
   unfold Dev.read
   rw [if_neg (by rw [hdv]; decide), if_neg (by omega)]
  have hrl := (Dev.read_len (i := first + (i : Nat)) hX.val (by rw [hrd])).1
  have hr1 : (X.val.read (first + (i : Nat))).1 = 0 := by rw [hrd]
  have hr2 : (X.val.read (first + (i : Nat))).2 = X.val.at (first + (i : Nat)) := by rw [hrd]
  rw [hr2] at hrl
  repeat' (first
   | (refine CallK.ret f_z11.ok (read_spec (X := X) (i := first + (i : Nat)) hX (by rw [hq]; exact Nat.zero_le _)) ?_; rw [hr1, hr2]; rintro v G ⟨sa, sc, hsc, rfl, rfl⟩; conv => whnf)
   | (refine CallK.ret f_zz.ok asked_ok ?_; rintro v G ⟨rfl, rfl⟩; conv => whnf)
   | (refine spl_dec (fun hd => ?_) (fun hd => ?_) <;> first | (exfalso; omega) | (conv => whnf))
   | ((first | refine Ld.i ?_ | refine Ar.i64 (by omega) ?_); conv => whnf)
   | (intro blk hblk; conv => whnf)
   | (refine OpX.app1 (xs := all) tab_ok rfl rfl rfl rfl (⟨sa, sc, X.val.at (first + (i : Nat))⟩ : BytX) rfl rfl (by omega) ⟨rfl, OneC.h⟩ (fun aa' ac' => ?_); conv => whnf))
  obtain ⟨y, hy⟩ : ∃ y : BytX, y = ⟨sa, sc, X.val.at (first + (i : Nat))⟩ := ⟨_, rfl⟩
  have hyc : bytc y = vec t_uint8 1 bytv sa sc (X.val.at (first + (i : Nat))) := by rw [hy]; rfl
  rw [← hy]
  refine ⟨rfl, (i + 1, all ++ [y], aa', ac'), ⟨h1, by simp [hal], ?_, fun x hx => ?_⟩, by rw [show (all ++ [y]).length = all.length + 1 by simp]; exact fun t v h => h, ?_, by dsimp only; omega⟩
  ·rw [secsL_succ, List.map_append, hall, hy]; rfl
  ·rcases List.mem_append.1 hx with h | h
   ·exact hsx x h
   ·cases List.mem_singleton.1 h
    rw [hy]
    exact ⟨hrl, hsc, Dev.at_byt hX.val⟩
  ·dsimp only
   rw [bigL_snoc, hyc]
   simp only [star_assoc]
   first | exact .refl _ | exact .drop | exact .fin | ((repeat refine .pick ?_); first | exact .refl _ | exact .emp _ | exact .fin)
 ·have hin : i = n := by omega
  subst hin
  repeat' (first
   | (refine DrawK.introK tab_ok mixed 64 f_z15.last16 f_z15.plan16 rfl (by kernel_rfl) ?_; conv => whnf)
   | (refine spl_dec (fun hd => ?_) (fun hd => ?_) <;> first | (exfalso; omega) | (conv => whnf))
   | (refine Ld.i ?_; conv => whnf))
  have hsec : ∀ (A Q : HProp), ∀ s ∈ all, SecX W (A • bigL bytc all • Q) s := fun A Q s hs => by
   obtain ⟨k1, k2, k3⟩ := hsx s hs
   refine ⟨?_, k1, k2, k3⟩
   obtain ⟨R', e⟩ := bigL_mem bytc hs
   rw [e, star_assoc]
   unfold bytc
   infer_instance
  refine CallK.ret f_z2q.ok (found_spec (all := all) (hsec _ _) (by omega)) ?_
  rintro v G ⟨oa, oc, outs, ho1, ho2, rfl, rfl⟩
  rw [hall] at ho1
  have hol : outs.length ≤ i := by
   have h1 := congrArg List.length ho1
   rw [List.length_map] at h1
   have h2 := foundG_len (secsL X.val first i) 0
   rw [secsL_len] at h2
   omega
  conv => whnf
  repeat' (first
   | (refine Sub.on (by first | exact .refl _ | exact .drop | exact .fin | ((repeat refine .pick ?_); first | exact .refl _ | exact .emp _ | exact .fin)) ?_; conv => whnf))
  refine CallK.imp (H' := logo l (logB d first i none 0 [] 0) • vec t_S_uint8 1 bytx oa oc outs • vec t_S_uint8 1 bytx aa ac all • bigL bytc all • devo d X • pts b4 (.cells ⟨[ptr l]⟩ t_z2d) • R) (by first | exact .refl _ | exact .drop | exact .fin | ((repeat refine .pick ?_); first | exact .refl _ | exact .emp _ | exact .fin)) ?_
  refine CallK.any f_z1y.ok (lread_spec (outs := outs) (fun x hx => ?_) (by omega)) ?_
  ·obtain ⟨j, hj⟩ := List.getElem?_of_mem hx
   obtain ⟨s, hs1, hs2⟩ := ho2 j x hj
   have k := (hsec (vec t_S_uint8 1 bytx aa ac all) (devo d X • pts b4 (.cells ⟨[ptr l]⟩ t_z2d) • R) s (List.mem_of_getElem? hs1)).there (Y := vec t_S_uint8 1 bytx oa oc outs)
   refine ⟨k.sub hs2, ?_, ?_⟩
   ·rw [hs2.2]; exact (k.byt.drop _).take _
   ·rw [hs2.2, List.length_take, List.length_drop, k.len]; omega
  obtain ⟨r, hr⟩ : ∃ r, r = readG 0 (foundG 0 (secsL X.val first i)) := ⟨_, rfl⟩
  rw [ho1, ← hr]
  rw [← hr] at hT
  dsimp only at hT
  by_cases c0 : r.1 = 0
  rotate_left
  ·rw [if_pos c0] at hT
   rw [if_neg c0]
   rintro en G ⟨⟨h0, _⟩ | ⟨h0, rfl⟩, ra, rc, recs, k1, k2, rfl⟩
   ·cases h0
   conv => whnf
   rw [if_neg c0]
   refine ⟨_, ?_, .inr ⟨?_, ?_⟩, logB d first i ra rc recs 0, X, rfl, hX, ?_, fun h => ?_, ?_, ?_, rfl⟩
   ·first | exact .refl _ | exact .drop | exact .fin | ((repeat refine .pick ?_); first | exact .refl _ | exact .emp _ | exact .fin)
   ·rw [hT]; exact h0
   ·rw [hT]
   ·rw [hT, ← k1]; rfl
   ·rw [hT] at h; cases h
   ·rw [hT]
   ·rw [hq]; exact Nat.zero_le _
  rw [if_neg (fun k => k c0)] at hT
  rw [if_pos c0]
  rintro en G ⟨⟨h0, rfl⟩ | ⟨h0, _⟩, ra, rc, recs, k1, k2, rfl⟩
  rotate_left
  ·exact absurd rfl h0
  rw [if_pos c0]
  have hrl : recs.length = r.2.length := by rw [← k1, List.length_map]
  have hrn : r.2.length ≤ i := by
   have h1 := readG_len (foundG 0 (secsL X.val first i)) 0
   have h2 := foundG_len (secsL X.val first i) 0
   rw [secsL_len] at h2
   rw [← hr] at h1
   omega
  obtain ⟨w, hw⟩ : ∃ w, w = wipG first r.2.length ((secsL X.val first i).drop r.2.length) false X.val := ⟨_, rfl⟩
  rw [← hw] at hT
  have hLok : (logB d first i ra rc recs recs.length).Ok := ⟨⟨by show (0 : Int) ≤ i; omega, by show (i : Int) ≤ 4096; omega⟩, k2, by show (recs.length : Int) ≤ i; omega, by dsimp only; rfl, fun x hx => by cases hx⟩
  conv => whnf
  repeat' (first
   | (refine Ld.i ?_; conv => whnf))
  refine CallK.imp (H' := logo l (logB d first i ra rc recs recs.length) • devo d X • vec t_S_uint8 1 bytx aa ac all • bigL bytc all • pts b4 (.cells ⟨[ptr l]⟩ t_z2d) • R) (by first | exact .refl _ | exact .drop | exact .fin | ((repeat refine .pick ?_); first | exact .refl _ | exact .emp _ | exact .fin)) ?_
  refine CallK.any f_z1j.ok (wipe_spec (all := all) (X := logB d first i ra rc recs recs.length) (Y := X) (hsec _ _) hLok hX (by rw [hq]; exact Nat.zero_le _) rfl hf (by rw [hal])) ?_
  rw [hall, show wipG (logB d first i ra rc recs recs.length).first (logB d first i ra rc recs recs.length).recs.length ((secsL X.val first i).drop (logB d first i ra rc recs recs.length).recs.length) false X.val = w by rw [hw, ← hrl]]
  rintro en G ⟨⟨h0, rfl⟩ | ⟨h0, rfl⟩, Y, y1, y2, y3, rfl⟩
  ·conv => whnf
   refine ⟨_, ?_, .inl ⟨?_, rfl⟩, logB d first i ra rc recs recs.length, Y, rfl, y1, ?_, fun _ => hLok, ?_, ?_, rfl⟩
   ·first | exact .refl _ | exact .drop | exact .fin | ((repeat refine .pick ?_); first | exact .refl _ | exact .emp _ | exact .fin)
   ·rw [hT]; exact h0
   ·rw [hT, ← k1]; unfold LogX.val; dsimp only; rw [List.length_map]; rfl
   ·rw [hT]; exact y2
   ·rw [hq] at y3; simp at y3; omega
  ·conv => whnf
   refine ⟨_, ?_, .inr ⟨?_, ?_⟩, logB d first i ra rc recs recs.length, Y, rfl, y1, ?_, fun _ => hLok, ?_, ?_, rfl⟩
   ·first | exact .refl _ | exact .drop | exact .fin | ((repeat refine .pick ?_); first | exact .refl _ | exact .emp _ | exact .fin)
   ·rw [hT]; exact h0
   ·rw [hT]
   ·rw [hT, ← k1]; unfold LogX.val; dsimp only; rw [List.length_map]; rfl
   ·rw [hT]; exact y2
   ·rw [hq] at y3; simp at y3; omega
end Go.Proofs.YtgcknlpkhhpkjaaGreatDoor
/- The program's log.Open, walked. Conditions: in each statement. -/
namespace Go.Proofs.YtgcknlpkhhpkjaaGreatDoor
open Go Go.SL Go.SL.Sec Go.SL.Fld Go.SL.Pts Go.SL.Rec Go.SL.Twn
open Go.SL.Und (RecV recv fits)
theorem Does.askN {W : World} {g : FuncId} {args : Array Value} {H : HProp} {z e : Int} {P P' : HProp → Prop} (h : Does prog W g args H (fun en G => ∃ G', Imp G G' ∧ AskN z e P en G')) (k : ∀ G, P G → ∃ G', Imp G G' ∧ P' G') : Does prog W g args H (fun en G => ∃ G', Imp G G' ∧ AskN z e P' en G') :=
 ⟨fun w hs => (h.run w hs).mono fun _ _ ⟨X, hx, G, hi, ha, hp⟩ => let ⟨G', hi', hp'⟩ := k G hp; ⟨X, hx, G', hi.trans hi', ha, hp'⟩⟩
abbrev wOpen : ByteArray := ⟨#[79, 112, 101, 110]⟩
-- @noauto
theorem open_spec {W : World} {R : HProp} {d : Nat} {first : Int} {n : Nat} {X : DevX} (hX : X.Ok) (hdn : X.down = false) (hq : X.ps = []) (hf : 0 ≤ first ∧ first ≤ 8192) (hn : 1 ≤ n ∧ n ≤ 4096) (hs : first + n ≤ X.val.secs) :
  Does prog W f_log_Open ⟨[ptr d, .int .i64 first, .int .i64 n]⟩ (devo d X • R) (Ret fun v G => ∃ (L : LogX) (Y : DevX), L.d = d ∧ Y.Ok ∧ L.val = (openF X.val first n).2.1 ∧ ((openF X.val first n).1.2 = 0 → L.Ok) ∧ Y.val = (openF X.val first n).2.2 ∧ Y.ps.length ≤ n ∧
   (((openF X.val first n).1.2 = 0 ∧ ∃ l, v = .tuple ⟨[ptr l, .nilIface]⟩ ∧ G = (logo l L • devo d Y • R)) ∨ ((openF X.val first n).1.2 ≠ 0 ∧ ∃ b, v = .tuple ⟨[.pointer none, .iface t_z5 (ptr b)]⟩ ∧ G = (fltc b wOpen (openF X.val first n).1.1 (openF X.val first n).1.2 • devo d Y • R)))) := by
 obtain ⟨T, hT⟩ : ∃ T, T = openF X.val first n := ⟨_, rfl⟩
 rw [← hT]
 refine f_log_Open.does _ _ _ ?_
 conv => whnf
 repeat' (first
  | ((first | refine Ld.i ?_ | refine St.i ⟨rfl, rfl⟩ (List.cons_ne_nil _ _) ?_); conv => whnf)
  | (intro blk hblk; conv => whnf))
 rename_i b1 _ b2 _ b3 _ l _
 obtain ⟨b4, hb4⟩ : ∃ b4, b4 = blk := ⟨_, rfl⟩
 rw [← hb4]
 refine CallK.imp (H' := logo l (logB d first n none 0 [] 0) • devo d X • pts b1 (.cells ⟨[ptr d]⟩ t_z4d) • pts b2 (.cells ⟨[.int .i64 first]⟩ t_int) • pts b3 (.cells ⟨[.int .i64 n]⟩ t_int) • pts b4 (.cells ⟨[ptr l]⟩ t_z2d) • R) ?_ ?_
 ·rw [logo_eq]
  refine Imp.trans (Q := pts l (.cells ⟨[ptr d, .int .i64 first, .int .i64 n, .slice none 0 0, .slice none 0 0, i0, .nilIface]⟩ t_log_Log) • devo d X • pts b1 (.cells ⟨[ptr d]⟩ t_z4d) • pts b2 (.cells ⟨[.int .i64 first]⟩ t_int) • pts b3 (.cells ⟨[.int .i64 n]⟩ t_int) • pts b4 (.cells ⟨[ptr l]⟩ t_z2d) • R) (by first | exact .refl _ | exact .drop | exact .fin | ((repeat refine .pick ?_); first | exact .refl _ | exact .emp _ | exact .fin)) (Imp.right (Imp.vnil ?_))
  show Imp _ (emp • _)
  rw [emp_star]
  refine Imp.vnil ?_
  show Imp _ (emp • emp • _)
  rw [emp_star, emp_star]
  exact Imp.refl _
 refine CallK.ret f_z2g.ok (caughtN_spec (w := wOpen) (z := T.1.1) (e := T.1.2) (P := fun G => ∃ (L : LogX) (Y : DevX), L.d = d ∧ Y.Ok ∧ L.val = T.2.1 ∧ (T.1.2 = 0 → L.Ok) ∧ Y.val = T.2.2 ∧ Y.ps.length ≤ n ∧
    G = (logo l L • devo d Y • pts b4 (.cells ⟨[ptr l]⟩ t_z2d) • R)) f_z15.ok (fun bc be => ?_)) ?_
 ·refine Does.imp (H' := logo l (logB d first n none 0 [] 0) • devo d X • pts b1 (.cells ⟨[ptr d]⟩ t_z4d) • pts b2 (.cells ⟨[.int .i64 first]⟩ t_int) • pts b3 (.cells ⟨[.int .i64 n]⟩ t_int) • pts b4 (.cells ⟨[ptr l]⟩ t_z2d) • pts be (.cells ⟨[.nilIface]⟩ t_error) • pts bc (.cells ⟨[.string wOpen]⟩ t_string) • R) (by first | exact .refl _ | exact .drop | exact .fin | ((repeat refine .pick ?_); first | exact .refl _ | exact .emp _ | exact .fin)) ?_
  have h := open1_spec (W := W) (R := pts be (.cells ⟨[.nilIface]⟩ t_error) • pts bc (.cells ⟨[.string wOpen]⟩ t_string) • R) (b1 := b1) (b2 := b2) (b3 := b3) (b4 := b4) (d := d) (l := l) hX hdn hq hf hn hs
  rw [← hT] at h
  refine Does.askN h ?_
  rintro G ⟨L, Y, h1, h2, h3, h4, h5, h6, rfl⟩
  refine ⟨_, ?_, _, ⟨L, Y, h1, h2, h3, h4, h5, h6, rfl⟩, rfl⟩
  first | exact .refl _ | exact .drop | exact .fin | ((repeat refine .pick ?_); first | exact .refl _ | exact .emp _ | exact .fin)
 rintro v G ⟨G0, ⟨L, Y, h1, h2, h3, h4, h5, h6, rfl⟩, ⟨h0, rfl, rfl⟩ | ⟨h0, b, rfl, rfl⟩⟩
 ·conv => whnf
  repeat' (first
   | (refine Ld.i ?_; conv => whnf))
  exact ⟨_, _, rfl, (by first | exact .refl _ | exact .drop | exact .fin | ((repeat refine .pick ?_); first | exact .refl _ | exact .emp _ | exact .fin)), L, Y, h1, h2, h3, h4, h5, h6, .inl ⟨h0, l, rfl, rfl⟩⟩
 ·conv => whnf
  skip
  exact ⟨_, _, rfl, (by first | exact .refl _ | exact .drop | exact .fin | ((repeat refine .pick ?_); first | exact .refl _ | exact .emp _ | exact .fin)), L, Y, h1, h2, h3, h4, h5, h6, .inr ⟨h0, b, rfl, rfl⟩⟩
end Go.Proofs.YtgcknlpkhhpkjaaGreatDoor
/- A pool over a new disk; a log that grows; plain words. Conditions: in each statement. -/
namespace Go.Proofs.YtgcknlpkhhpkjaaGreatDoor
open Go Go.SL Go.SL.Sec Go.SL.Fld Go.SL.Pts Go.SL.Rec Go.SL.Twn Go.SL.Pg Go.SL.Mst Go.SL.Pool
def zeroD (n : Int) : Dev := (freshX none 0 (List.replicate (n * 512).toNat 0)).val
theorem zeroD_secs {n : Int} (h : 0 ≤ n) : (zeroD n).secs = n := by
 unfold Dev.secs zeroD
 show ((List.replicate (n * 512).toNat (0 : Int)).length : Int) / 512 = n
 rw [List.length_replicate]; omega
theorem zeroD_ok {n : Int} (h : 1 ≤ n ∧ n ≤ 8192) : (zeroD n).Ok := by
 refine (fresh_ok (a := none) (c := (n * 512).toNat) (img := List.replicate (n * 512).toNat 0) ?_ ?_ (Byt.rep _) ?_).val
 ·rw [List.length_replicate]; omega
 ·rw [List.length_replicate]; omega
 ·rw [List.length_replicate]; exact Nat.le_refl _
theorem zeroD_at {n i : Int} (h : 0 ≤ i ∧ i < n) : (zeroD n).at i = z512 := by
 show secOf (List.replicate (n * 512).toNat (0 : Int)) i = z512
 unfold secOf
 rw [List.drop_replicate, List.take_replicate, z512_eq]
 congr 1
 omega
theorem secsL_zero {n first : Int} : ∀ {k : Nat}, (∀ i : Nat, i < k → (0 ≤ first + (i : Nat) ∧ first + (i : Nat) < n)) → secsL (zeroD n) first k = List.replicate k z512
 | 0, _ => rfl
 | k + 1, h => by rw [secsL_succ, secsL_zero fun i hi => h i (by omega), zeroD_at (h k (by omega)), List.replicate_succ']
theorem foundG_zero : ∀ k : Nat, foundG 0 (List.replicate k z512) = []
 | 0 => rfl
 | k + 1 => by
  rw [List.replicate_succ, foundG]
  have : okS 0 z512 = none := by
   unfold okS
   refine if_pos (.inl ?_)
   show ¬ (List.replicate 512 (0 : Int))[0]? = some 108
   rw [List.getElem?_replicate, if_pos (by decide)]
   decide
  rw [this]
theorem wipG_zero (first : Int) (D : Dev) : ∀ k i : Nat, wipG first i (List.replicate k z512) false D = (0, D)
 | 0, _ => rfl
 | k + 1, i => by
  rw [List.replicate_succ, wipG]
  have : zerosB z512 = true := by unfold zerosB; rw [z512_eq]; exact List.all_eq_true.2 fun x hx => by rw [List.mem_replicate] at hx; simpa using hx.2
  rw [if_pos this]
  exact wipG_zero first D k (i + 1)
theorem openF_zero {n first : Int} {k : Nat} (h : ∀ i : Nat, i < k → (0 ≤ first + (i : Nat) ∧ first + (i : Nat) < n)) : openF (zeroD n) first k = ((0, 0), ⟨first, k, [], [], 0, none⟩, zeroD n) := by
 unfold openF
 rw [secsL_zero h, foundG_zero]
 show (if (0 : Int) ≠ 0 then _ else _) = _
 rw [if_neg (by decide)]
 show ((0, (wipG first 0 (List.replicate k z512) false (zeroD n)).1), (⟨first, k, [], [], 0, none⟩ : LogM), (wipG first 0 (List.replicate k z512) false (zeroD n)).2) = _
 rw [wipG_zero]
end Go.Proofs.YtgcknlpkhhpkjaaGreatDoor
namespace Go.SL.Pool
open Go Go.SL Go.SL.Sec Go.SL.Fld Go.SL.Rec Go.SL.Twn Go.SL.Pg Go.SL.Mst
open Go.Proofs.YtgcknlpkhhpkjaaGreatDoor (zeroD zeroD_ok zeroD_at zeroD_secs)
def sto0 (p lg f : Int) : Sto := ⟨⟨p, lg, f, [], 0, false⟩, ⟨5 + 2 * p, lg, [], [], 0, none⟩, zeroD (5 + 2 * p + lg)⟩
def last0 (n : Int) : PgM := ⟨n, 0, [], []⟩
theorem last0_fault {n : Int} (h : 0 ≤ n ∧ n ≤ 63) : (last0 n).fault = 0 := by
 unfold PgM.fault last0
 dsimp only
 rw [if_neg (fun k => k h), if_neg (by simp), if_neg (by simp), if_neg (by simp)]
 rfl
theorem last0_in {n : Int} (h : 0 ≤ n ∧ n ≤ 63) : (last0 n).In := ⟨by unfold In64 last0; dsimp only; omega, by unfold In64 last0; dsimp only; omega, fun c hc => (by cases hc), fun c hc => (by cases hc)⟩
theorem enc_last0 (n : Int) : encP (last0 n) = z1024 := if_pos rfl
theorem ok0 {p lg f : Int} (h : MayP p lg f) : (sto0 p lg f).Ok := by
 have h' := h
 unfold MayP at h'
 exact ⟨h, zeroD_ok (by omega), rfl, zeroD_secs (by omega), rfl, rfl, rfl, by show (0 : Int) ≤ lg; omega, fun b hb => (by cases hb), List.nodup_nil, fun n f hf => (by cases hf), fun n m f g hf => (by cases hf)⟩
theorem keeps0 {p lg f : Int} (h : MayP p lg f) : Keeps (sto0 p lg f) last0 := by
 have h' := h
 unfold MayP at h'
 refine ⟨rfl, h'.1, ⟨rfl, rfl⟩, zeroD_ok (by omega), zeroD_secs (by omega), rfl, rfl, rfl, by show (0 : Int) ≤ lg; omega, fun b hb => (by cases hb), List.nodup_nil, fun n f hf => (by cases hf), fun n hn _ => ?_, fun n hn => ?_⟩
 ·have hn' : 0 ≤ n ∧ n < p := hn
  rw [enc_last0]
  show (zeroD (5 + 2 * p + lg)).at (5 + 2 * n) ++ (zeroD (5 + 2 * p + lg)).at (5 + 2 * n + 1) = z1024
  rw [zeroD_at (by omega), zeroD_at (by omega), z512_eq, z1024_eq, List.replicate_append_replicate]
 ·have hn' : 0 ≤ n ∧ n < p := hn
  exact ⟨rfl, last0_fault (by omega), last0_in (by omega), Int.le_refl _⟩
def Sto.app (S : Sto) (r : RecM) (b : List Int) : Sto := { S with L := { S.L with recs := S.L.recs ++ [r], bys := S.L.bys ++ [b] } }
theorem Keeps.app {S : Sto} {last : Int → PgM} (K : Keeps S last) {r : RecM} {b : List Int} (hc : (S.L.recs.length : Int) + 1 ≤ S.L.count) (hb : Byt b ∧ b.length ≤ 505) : Keeps (S.app r b) last := by
 have hl : (S.L.recs ++ [r]).length = S.L.recs.length + 1 := by simp
 refine ⟨K.run, K.pages, K.calm, K.dok, K.secs, K.first, K.err, ?_, ?_, ?_, K.nd, K.key, K.home, fun n hn => ?_⟩
 ·show S.L.forced + (S.L.bys ++ [b]).length = (S.L.recs ++ [r]).length
  rw [hl, List.length_append, List.length_singleton]; have := K.forced; omega
 ·show ((S.L.recs ++ [r]).length : Int) ≤ S.L.count
  rw [hl]; omega
 ·intro x hx
  rcases List.mem_append.1 hx with h | h
  ·exact K.bys x h
  ·cases List.mem_singleton.1 h; exact hb
 ·obtain ⟨h1, h2, h3, h4⟩ := K.good n hn
  refine ⟨h1, h2, h3, ?_⟩
  show (last n).lsn ≤ ((S.L.recs ++ [r]).length : Int)
  rw [hl]; omega
theorem Sto.Ok.app {S : Sto} (h : S.Ok) {r : RecM} {b : List Int} (hc : (S.L.recs.length : Int) + 1 ≤ S.L.count) (hb : Byt b ∧ b.length ≤ 505) : (S.app r b).Ok := by
 have hl : (S.L.recs ++ [r]).length = S.L.recs.length + 1 := by simp
 refine ⟨h.may, h.dok, h.q, h.secs, h.first, h.cnt, ?_, ?_, ?_, h.nd, fun n f hf => ?_, h.us⟩
 ·show S.L.forced + (S.L.bys ++ [b]).length = (S.L.recs ++ [r]).length
  rw [hl, List.length_append, List.length_singleton]; have := h.forced; omega
 ·show ((S.L.recs ++ [r]).length : Int) ≤ S.L.count
  rw [hl]; omega
 ·intro x hx
  rcases List.mem_append.1 hx with k | k
  ·exact h.bys x k
  ·cases List.mem_singleton.1 k; exact hb
 ·have k := h.fr n f hf
  refine ⟨k.num, k.pin, k.C, k.G, k.lsn, k.key, fun hd => ?_, k.used⟩
  obtain ⟨k1, k2⟩ := k.dirty hd
  refine ⟨k1, ?_⟩
  show f.pg.lsn ≤ ((S.L.recs ++ [r]).length : Int)
  rw [hl]; omega
def Sto.force (S : Sto) (n : Int) : Int × Sto := ((S.L.force S.D n).1, ⟨S.P, (S.L.force S.D n).2.1, (S.L.force S.D n).2.2⟩)
theorem Keeps.force {S : Sto} {last : Int → PgM} (K : Keeps S last) {n : Int} (hn : 0 ≤ n ∧ n ≤ S.L.recs.length) : (S.force n).1 = 0 ∧ Keeps (S.force n).2 last ∧ (S.force n).2.L.recs = S.L.recs ∧ (S.force n).2.L.count = S.L.count ∧ n ≤ (S.force n).2.L.forced := by
 obtain ⟨a1, a2, a3, a4, a5, a6, a7, a8', F, a8, a9⟩ := force_calm K.calm K.dok K.err (by rw [K.first]; have := K.pages; omega) (by rw [K.first, K.secs]; omega) K.forced K.recs K.bys hn
 have hat : ∀ m, 0 ≤ m ∧ m < S.P.pages → pageOf (S.L.force S.D n).2.2 m = pageOf S.D m := fun m hm => by
  have e1 := K.first
  unfold pageOf
  rw [a8.sec _ (by omega), a8.sec _ (by omega), a9 _ (by omega), a9 _ (by omega)]
  rfl
 refine ⟨a1, ⟨K.run, K.pages, a8.calm, a8.ok, ?_, ?_, a2, ?_, ?_, a7, K.nd, fun m f hm => ?_, fun m hm hno => ?_, fun m hm => ?_⟩, a5, a4, a8'⟩
 ·show (S.L.force S.D n).2.2.secs = 5 + 2 * S.P.pages + (S.L.force S.D n).2.1.count
  rw [a8.secs, a4]; exact K.secs
 ·show (S.L.force S.D n).2.1.first = _
  rw [a3]; exact K.first
 ·show (S.L.force S.D n).2.1.forced + (S.L.force S.D n).2.1.bys.length = (S.L.force S.D n).2.1.recs.length
  rw [a5]; exact a6
 ·show ((S.L.force S.D n).2.1.recs.length : Int) ≤ (S.L.force S.D n).2.1.count
  rw [a5, a4]; exact K.recs
 ·obtain ⟨k1, k2, k3⟩ := K.key m f hm
  exact ⟨k1, k2, fun hd => by show pageOf (S.L.force S.D n).2.2 m = _; rw [hat m k1]; exact k3 hd⟩
 ·show pageOf (S.L.force S.D n).2.2 m = _
  rw [hat m hm]; exact K.home m hm hno
 ·have := K.good m hm
  show _ ∧ _ ∧ _ ∧ (last m).lsn ≤ ((S.L.force S.D n).2.1.recs.length : Int)
  rw [a5]; exact this
end Go.SL.Pool
/- The log under the pool: a record more, Force; walked. Conditions: in each statement. -/
namespace Go.SL.Pool
open Go Go.SL Go.SL.Sec Go.SL.Fld Go.SL.Rec Go.SL.Twn Go.SL.Pg Go.SL.Mst
open Go.SL.Und (RecV recv fits)
def begR (t : Int) : RecV := { Rec.recZ with kind := 1, tx := t }
def begN (n : Nat) (t : Int) : RecV := { begR t with lsn := (n : Int) + 1 }
theorem begN_chk {n : Nat} {t : Int} (hn : n ≤ 1000000) (ht : 1 ≤ t ∧ t ≤ 1000000) : chkF (begN n t) [] [] = 0 := by
 unfold chkF
 rw [if_neg (show ¬ ((begN n t).kind < 1 ∨ (begN n t).kind > 8) by show ¬ ((1 : Int) < 1 ∨ (1 : Int) > 8); decide)]
 rw [if_pos ((FieldsP.one (show (begN n t).kind = 1 from rfl)).2 ⟨?_, ?_, ?_⟩)]
 ·show 0 ≤ (n : Int) + 1 ∧ (n : Int) + 1 ≤ 2147483647
  omega
 ·show 1 ≤ t ∧ t ≤ 2147483647
  omega
 ·unfold BlankP begN begR Rec.recZ
  simp
theorem begN_enc (n : Nat) {t : Int} (ht : 1 ≤ t ∧ t ≤ 1000000) : Byt (encR (begN n t) [] []) ∧ (encR (begN n t) [] []).length ≤ 505 := by
 have e : encR (begN n t) [] [] = encN 1 ++ (encN t.toNat ++ []) ++ [] ++ [] := rfl
 rw [e]
 have h1 := encN_len10 (n := 1) (by decide)
 have h2 := encN_len10 (n := t.toNat) (by omega)
 refine ⟨((((encN_byt 1).append ((encN_byt _).append Byt.nil)).append Byt.nil).append Byt.nil), ?_⟩
 simp only [List.length_append, List.length_nil]
 omega
def Sto.beg (S : Sto) (t : Int) : Int × Sto := if S.L.count - S.L.recs.length = 0 then (6, S) else (0, S.app ⟨begN S.L.recs.length t, [], []⟩ (encR (begN S.L.recs.length t) [] []))
end Go.SL.Pool
namespace Go.Proofs.YtgcknlpkhhpkjaaGreatDoor
open Go Go.SL Go.SL.Sec Go.SL.Fld Go.SL.Pts Go.SL.Rec Go.SL.Twn Go.SL.Pg Go.SL.Mst Go.SL.Pool
theorem logok_val {X : LogX} {M : LogM} (h : X.val = M) (h1 : 0 ≤ M.count ∧ M.count ≤ 4096) (h2 : ∀ m ∈ M.recs, m.L.length ≤ 32 ∧ m.D.length ≤ 16 ∧ bare m.r = m.r) (h3 : (M.recs.length : Int) ≤ M.count) (h4 : M.forced + M.bys.length = M.recs.length) (h5 : ∀ b ∈ M.bys, Byt b ∧ b.length ≤ 505) : X.Ok := by
 subst h
 have e1 : X.val.recs.length = X.recs.length := List.length_map ..
 have e2 : X.val.bys.length = X.bys.length := List.length_map ..
 rw [e1] at h3 h4
 rw [e2] at h4
 exact ⟨h1, fun x hx => h2 x.m (List.mem_map.2 ⟨x, hx, rfl⟩), h3, h4, fun x hx => h5 x.b (List.mem_map.2 ⟨x, hx, rfl⟩)⟩
-- @noauto
theorem pbeg_spec {W : World} {R : HProp} {p : Nat} {S : StoX} {t : Int} (hS : S.Ok) (he : S.L.err = none) (ht : 1 ≤ t ∧ t ≤ 1000000) :
  Does prog W f_zl ⟨[ptr S.P.l, recA (begR t)]⟩ (stoo p S • R) (Ret fun v G => ∃ S' : StoX, S'.Ok ∧ S.Same S' ∧ S'.val = (S.val.beg t).2 ∧ v = .tuple ⟨[.int .i64 (if (S.val.beg t).1 = 0 then (S.L.recs.length : Int) + 1 else 0), .int .i64 (S.val.beg t).1]⟩ ∧ G = (stoo p S' • R)) := by
 have hcnt := hS.L.cnt
 have hlen := hS.L.len
 have hc := begN_chk (n := S.L.recs.length) (t := t) (by omega) ht
 have erl : S.val.L.recs.length = S.L.recs.length := List.length_map ..
 have hz : ∀ (α : Type) (Q : HProp) (sz : Nat) (enc : α → List Value), RowC W Q none sz enc [] := fun α Q sz enc => ⟨fun w hs i x hx => by cases hx⟩
 haveI rl : ∀ Q : HProp, RowN W Q (begR t).lv.1 (begR t).lv.2.1 4 livev [] := fun Q => ⟨hz _ _ _ _, rfl⟩
 haveI rd : ∀ Q : HProp, RowN W Q (begR t).dt.1 (begR t).dt.2.1 2 dirtyv [] := fun Q => ⟨hz _ _ _ _, rfl⟩
 unfold Sto.beg
 rw [erl, show S.val.L.count = S.L.count from rfl, stoo_eq, star_left_comm (poolo p S.P)]
 by_cases c : S.L.count - S.L.recs.length = 0
 ·rw [if_pos c]
  refine (append_no (X := S.L) (r := begR t) (L := []) (D := []) (e := 6) hS.L he (.inr ⟨hc, c, rfl⟩)).post fun en w H' hs hQ => ?_
  obtain ⟨v, G, h1, h2, rfl, rfl⟩ := hQ
  exact ⟨H', hs, _, _, h1, h2, S, hS, .refl S, rfl, rfl, ((stoo_eq p S R).trans (star_left_comm _ _ _)).symm⟩
 ·rw [if_neg c]
  refine (append_yes (X := S.L) (r := begR t) (L := []) (D := []) hS.L he (fun o ho => by cases ho) hc c).post fun en w H' hs hQ => ?_
  obtain ⟨v, G, h1, h2, X', hd, hv, rfl, rfl⟩ := hQ
  have hok := hS.val.app (r := ⟨begN S.L.recs.length t, [], []⟩) (b := encR (begN S.L.recs.length t) [] []) (by rw [erl]; have : S.val.L.count = S.L.count := rfl; omega) (begN_enc _ ht)
  have hval : (⟨S.P, X', S.D⟩ : StoX).val = S.val.app ⟨begN S.L.recs.length t, [], []⟩ (encR (begN S.L.recs.length t) [] []) := by
   show (⟨S.P.val, X'.val, S.D.val⟩ : Sto) = _
   rw [hv]; rfl
  refine ⟨H', hs, _, _, h1, h2, ⟨S.P, X', S.D⟩, ⟨by rw [hval]; exact hok, ?_, hS.D, hd.trans hS.ld⟩, ⟨rfl, rfl⟩, hval, rfl, ((stoo_eq p ⟨S.P, X', S.D⟩ R).trans (star_left_comm _ _ _)).symm⟩
  refine logok_val hv hcnt (fun m hm => ?_) ?_ ?_ ?_
  ·rcases List.mem_append.1 hm with k | k
   ·obtain ⟨x, hx, rfl⟩ := List.mem_map.1 k
    exact hS.L.recs x hx
   ·cases List.mem_singleton.1 k
    exact ⟨Nat.zero_le _, Nat.zero_le _, rfl⟩
  ·exact hok.recs
  ·exact hok.forced
  ·exact hok.bys
def StoF (p : Nat) (S : StoX) (T : Int × Sto) (R : HProp) (v : Value) (G : HProp) : Prop := ∃ (S' : StoX) (J : HProp), S'.Ok ∧ S.Same S' ∧ S'.val = T.2 ∧ (J = R ∨ ∃ b e, J = (fltc b wForce 0 e • R)) ∧ ErrV T.1 v G ∧ G = (stoo p S' • J)
end Go.Proofs.YtgcknlpkhhpkjaaGreatDoor
