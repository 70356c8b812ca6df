/- The program's log: zeros behind the end. Conditions: in each statement. -/
import Derived.Test.YtgcknlpkhhpkjaaGreatDoorPart18
import Derived.Test.YtgcknlpkhhpkjaaGreatDoorPart15
import Derived.Test.YtgcknlpkhhpkjaaGreatDoorPart17
namespace Go.SL.Rec
open Go Go.SL Go.SL.Sec Go.SL.Fld Go.SL.Pts
def z512 : List Int := List.replicate 512 0
theorem z512_eq : z512 = List.replicate 512 0 := rfl
theorem z512_len : z512.length = 512 := List.length_replicate
def wipG (first : Int) : Nat → List (List Int) → Bool → Dev → Int × Dev
 | _, [], wd, D => if wd then D.sync else (0, D)
 | i, s :: l, wd, D => if Go.Proofs.YtgcknlpkhhpkjaaGreatDoor.zerosB s then wipG first (i + 1) l wd D else
  if (D.write (first + i) z512).1 = 0 then wipG first (i + 1) l true (D.write (first + i) z512).2 else D.write (first + i) z512
end Go.SL.Rec
namespace Go.Proofs.YtgcknlpkhhpkjaaGreatDoor
open Go Go.SL Go.SL.Sec Go.SL.Fld Go.SL.Pts Go.SL.Rec
open Go.SL.Und (RecV recv fits)
set_option maxHeartbeats 1000000 in
-- @noauto
theorem wipe_spec {W : World} {R : HProp} {l d : Nat} {X : LogX} {Y : DevX} {a : Option Addr} {n c : Nat} {all : List BytX} [ro : RowN W R a n 1 bytx all] (hs : ∀ s ∈ all, SecX W R s) (hX : X.Ok) (hY : Y.Ok) (hq : Y.ps.length ≤ 500000) (hd : X.d = d) (hf : 0 ≤ X.first ∧ X.first ≤ 8192) (hl : (all.length : Int) = X.count) :
  Does prog W f_z1j ⟨[ptr l, .slice a n c]⟩ (logo l X • devo d Y • R)
   (fun en G => ∃ G', Imp G G' ∧ AskQ (wipG X.first X.recs.length ((all.map (·.b)).drop X.recs.length) false Y.val).1 (fun G => ∃ Y' : DevX, Y'.Ok ∧ Y'.val = (wipG X.first X.recs.length ((all.map (·.b)).drop X.recs.length) false Y.val).2 ∧ Y'.ps.length ≤ Y.ps.length + all.length ∧
    G = (devo d Y' • logo l X • R)) en G') := by
 subst hd
 have hn := ro.len
 subst hn
 haveI r' := ro.row
 have hlen := hX.len
 have hcnt := hX.cnt
 obtain ⟨B, hB⟩ : ∃ B, B = all.map (·.b) := ⟨_, rfl⟩
 have hBi : ∀ (i : Nat) (x : BytX), all[i]? = some x → B[i]? = some x.b := fun i x hx => by rw [hB, List.getElem?_map, hx]; rfl
 have hBl : B.length = all.length := by rw [hB, List.length_map]
 rw [← hB]
 obtain ⟨RR, hRR⟩ : ∃ RR, RR = wipG X.first X.recs.length (B.drop X.recs.length) false Y.val := ⟨_, rfl⟩
 rw [← hRR]
 have hZl : z512.length = 512 := z512_len
 have hZb : Byt z512 := z512_eq ▸ Byt.rep 512
 haveI r512 : ∀ (a : Option Addr) (c : Nat) (Q : HProp), RowN W (vec t_uint8 1 bytv a c z512 • Q) a 512 1 bytv z512 := fun a c Q => ⟨inferInstance, hZl.symm⟩
 refine f_z1j.does _ _ ?_
 conv => whnf
 repeat' (first
  | (refine Ld.i ?_; conv => whnf))
 refine LoopK.at tab_ok (L := f_z1j.live) (ι := Nat × Bool × DevX) (fun i => X.recs.length ≤ i.1 ∧ i.1 ≤ all.length ∧ wipG X.first i.1 (B.drop i.1) i.2.1 i.2.2.val = RR ∧ i.2.2.Ok ∧ i.2.2.ps.length ≤ Y.ps.length + i.1 - X.recs.length) (fun i => [(4, .bool i.2.1), (5, .int .i64 i.1)])
  (fun i => devo X.d i.2.2) (fun i => all.length - i.1) (X.recs.length, false, Y) ⟨by simp, by dsimp only; omega, by rw [hRR], hY, by dsimp only; omega⟩ (fun t v h => h) (Imp.pick (Imp.refl _)) ?_
 rintro ⟨k, wd, Z⟩ ⟨hk0, hk, hw, hZ, hZq⟩
 dsimp only at hk0 hk hw hZ hZq ⊢
 conv => whnf
 by_cases h1 : k < all.length
 ·obtain ⟨x, hx⟩ : ∃ x, all[k]? = some x := ⟨_, List.getElem?_eq_getElem h1⟩
  obtain ⟨sr, sl, scap, sb⟩ := hs x (List.mem_of_getElem? hx)
  haveI := sr
  haveI rn : ∀ Q : HProp, RowC W (Q • R) x.a 1 bytv x.b := fun Q => inferInstance
  rw [drop_of (hBi k x hx), wipG] at hw
  obtain ⟨bz, hbz⟩ : ∃ bz, bz = zerosB x.b := ⟨_, rfl⟩
  rw [← hbz] at hw
  cases bz with
  | true =>
   rw [if_pos rfl] at hw
   repeat' (first
    | (refine CallK.ret f_z2t.ok (lblank_spec (l := x.b) (by omega)) ?_; rw [← hbz]; rintro v G ⟨rfl, rfl⟩; conv => whnf)
    | (refine spl_dec (fun hd => ?_) (fun hd => ?_) <;> first | (exfalso; omega) | (conv => whnf))
    | ((first | refine Ld.i ?_ | refine Ar.i64 (by omega) ?_); conv => whnf)
    | (refine IxS.r (xs := all) (i := k) rfl rfl h1 (fun ab off ha => ?_); have rv : RowC W R (some ⟨ab, off, none⟩) 1 bytx all := ha ▸ inferInstance; conv => whnf)
    | (refine Ld.r0 hx rfl ?_; conv => whnf))
   refine ⟨rfl, (k + 1, wd, Z), ⟨by dsimp only; omega, h1, hw, hZ, by dsimp only; omega⟩, fun t v h => h, Imp.refl _, by dsimp only; omega⟩
  | false =>
   rw [if_neg (by decide)] at hw
   obtain ⟨e, he⟩ : ∃ e, e = (Z.val.write (X.first + k) z512).1 := ⟨_, rfl⟩
   rw [← he] at hw
   by_cases he0 : e = 0
   ·rw [if_pos he0] at hw
    repeat' (first
     | (refine DrawK.introK tab_ok mixed 25 f_z1j.last5 f_z1j.plan5 rfl (by kernel_rfl) ?_; conv => whnf)
     | (refine CallK.ret f_z2t.ok (lblank_spec (l := x.b) (by omega)) ?_; rw [← hbz]; rintro v G ⟨rfl, rfl⟩; conv => whnf)
     | (refine CallK.ret f_z16.ok (write_spec (X := Z) (b := z512) hZ (by omega) hZb (by omega)) ?_; rintro v G ⟨Z', hZ', hZv, hZl', rfl, rfl⟩; rw [← he, he0]; conv => whnf)
     | (refine CallK.ret f_zz.ok asked_ok ?_; rintro v G ⟨rfl, rfl⟩; conv => whnf)
     | (refine spl_dec (fun hd => ?_) (fun hd => ?_) <;> first | (exfalso; omega) | (conv => whnf))
     | ((first | refine Ld.i ?_ | refine Ar.i64 (by omega) ?_); conv => whnf)
     | (refine IxS.r (xs := all) (i := k) rfl rfl h1 (fun ab off ha => ?_); have rv : RowC W R (some ⟨ab, off, none⟩) 1 bytx all := ha ▸ inferInstance; conv => whnf)
     | (refine Ld.r0 hx rfl ?_; conv => whnf)
     | (refine OpX.make tab_ok bytv 0 rfl rfl rfl rfl rfl rfl (by omega) (fun s hs => ?_); rw [show (Int.toNat 512) = 512 from rfl, ← z512_eq]; conv => whnf)
     | (refine Req.mk (Sub.of (Imp.trans Imp.drop Imp.drop)) ?_; conv => whnf))
    refine ⟨rfl, (k + 1, true, Z'), ⟨by dsimp only; omega, h1, by rw [hZv]; exact hw, hZ', by dsimp only; omega⟩, fun t v h => h, ?_, by dsimp only; omega⟩
    first | exact .refl _ | exact .drop | exact .fin | ((repeat refine .pick ?_); first | exact .refl _ | exact .emp _ | exact .fin)
   ·rw [if_neg he0] at hw
    repeat' (first
     | (refine DrawK.introK tab_ok mixed 25 f_z1j.last5 f_z1j.plan5 rfl (by kernel_rfl) ?_; conv => whnf)
     | (refine CallK.ret f_z2t.ok (lblank_spec (l := x.b) (by omega)) ?_; rw [← hbz]; rintro v G ⟨rfl, rfl⟩; conv => whnf)
     | (refine CallK.ret f_z16.ok (write_spec (X := Z) (b := z512) hZ (by omega) hZb (by omega)) ?_; rintro v G ⟨Z', hZ', hZv, hZl', rfl, rfl⟩; rw [← he]; conv => whnf)
     | (refine CallK.thr f_zz.ok (asked_no he0) ?_; rintro c G ⟨rfl, rfl⟩; conv => whnf)
     | (refine spl_dec (fun hd => ?_) (fun hd => ?_) <;> first | (exfalso; omega) | (conv => whnf))
     | ((first | refine Ld.i ?_ | refine Ar.i64 (by omega) ?_); conv => whnf)
     | (refine IxS.r (xs := all) (i := k) rfl rfl h1 (fun ab off ha => ?_); have rv : RowC W R (some ⟨ab, off, none⟩) 1 bytx all := ha ▸ inferInstance; conv => whnf)
     | (refine Ld.r0 hx rfl ?_; conv => whnf)
     | (refine OpX.make tab_ok bytv 0 rfl rfl rfl rfl rfl rfl (by omega) (fun s hs => ?_); rw [show (Int.toNat 512) = 512 from rfl, ← z512_eq]; conv => whnf)
     | (refine Req.mk (Sub.of (Imp.trans Imp.drop Imp.drop)) ?_; conv => whnf))
    refine ⟨_, ?_, .inr ⟨?_, ?_⟩, Z', hZ', ?_, ?_, rfl⟩
    ·first | exact .refl _ | exact .drop | exact .fin | ((repeat refine .pick ?_); first | exact .refl _ | exact .emp _ | exact .fin)
    ·rw [← hw, ← he]; exact he0
    ·rw [← hw, ← he]
    ·rw [hZv, ← hw]
    ·omega
 ·rw [List.drop_eq_nil_of_le (by omega), wipG] at hw
  cases wd with
  | false =>
   rw [if_neg (by decide)] at hw
   repeat' (first
    | (refine spl_dec (fun hd => ?_) (fun hd => ?_) <;> first | (exfalso; omega) | (conv => whnf))
    | (refine Ld.i ?_; conv => whnf))
   refine ⟨_, ?_, .inl ⟨?_, rfl⟩, Z, hZ, ?_, ?_, rfl⟩
   ·first | exact .refl _ | exact .drop | exact .fin | ((repeat refine .pick ?_); first | exact .refl _ | exact .emp _ | exact .fin)
   ·rw [← hw]
   ·rw [← hw]
   ·omega
  | true =>
   rw [if_pos rfl] at hw
   obtain ⟨e, he⟩ : ∃ e, e = Z.val.sync.1 := ⟨_, rfl⟩
   by_cases he0 : e = 0
   ·repeat' (first
     | (refine CallK.ret f_z10.ok (sync_spec (X := Z) hZ (by omega)) ?_; rintro v G ⟨Z', hZ', hZv, hZl, rfl, rfl⟩; rw [← he, he0]; conv => whnf)
     | (refine CallK.ret f_zz.ok asked_ok ?_; rintro v G ⟨rfl, rfl⟩; conv => whnf)
     | (refine spl_dec (fun hd => ?_) (fun hd => ?_) <;> first | (exfalso; omega) | (conv => whnf))
     | (refine Ld.i ?_; conv => whnf))
    refine ⟨_, ?_, .inl ⟨?_, rfl⟩, Z', hZ', ?_, ?_, rfl⟩
    ·first | exact .refl _ | exact .drop | exact .fin | ((repeat refine .pick ?_); first | exact .refl _ | exact .emp _ | exact .fin)
    ·rw [← hw, ← he]; exact he0
    ·rw [hZv, ← hw]
    ·omega
   ·repeat' (first
     | (refine CallK.ret f_z10.ok (sync_spec (X := Z) hZ (by omega)) ?_; rintro v G ⟨Z', hZ', hZv, hZl, rfl, rfl⟩; rw [← he]; conv => whnf)
     | (refine CallK.thr f_zz.ok (asked_no he0) ?_; rintro c G ⟨rfl, rfl⟩; conv => whnf)
     | (refine spl_dec (fun hd => ?_) (fun hd => ?_) <;> first | (exfalso; omega) | (conv => whnf))
     | (refine Ld.i ?_; conv => whnf))
    refine ⟨_, ?_, .inr ⟨?_, ?_⟩, Z', hZ', ?_, ?_, rfl⟩
    ·first | exact .refl _ | exact .drop | exact .fin | ((repeat refine .pick ?_); first | exact .refl _ | exact .emp _ | exact .fin)
    ·rw [← hw, ← he]; exact he0
    ·rw [← hw, ← he]
    ·rw [hZv, ← hw]
    ·omega
end Go.Proofs.YtgcknlpkhhpkjaaGreatDoor
/- The program's log.Open: the records that the sectors hold; walked. Conditions: in each statement. -/
namespace Go.SL.Rec
open Go Go.SL Go.SL.Sec Go.SL.Fld Go.SL.Pts
abbrev logB (d : Nat) (first count : Int) (ra : Option Addr) (rc : Nat) (recs : List RecX) (forced : Nat) : LogX := ⟨d, first, count, ra, rc, recs, none, 0, [], forced, none⟩
end Go.SL.Rec
namespace Go.Proofs.YtgcknlpkhhpkjaaGreatDoor
open Go Go.SL Go.SL.Sec Go.SL.Fld Go.SL.Pts Go.SL.Rec
open Go.SL.Und (RecV recv fits)
def readR (i : Nat) (T : DecT) : RecM := ⟨bare { T.2.1 with lsn := (i : Int) + 1 }, T.2.2.1, T.2.2.2⟩
def ReadP (i : Nat) (T : DecT) : Prop := T.1 = 0 ∧ chkF (withL { T.2.1 with lsn := (i : Int) + 1 } T.2.2.1 T.2.2.2) T.2.2.1 T.2.2.2 = 0
instance (i : Nat) (T : DecT) : Decidable (ReadP i T) := by unfold ReadP; infer_instance
def readG : Nat → List (List Int) → Int × List RecM
 | _, [] => (0, [])
 | i, b :: l => if ReadP i (decF b) then ((readG (i + 1) l).1, readR i (decF b) :: (readG (i + 1) l).2) else ((i : Int) + 1, [])
def AskN (z e : Int) (P : HProp → Prop) (en : Ending) (G : HProp) : Prop := ((e = 0 ∧ en = .returned (.tuple ⟨[]⟩)) ∨ (e ≠ 0 ∧ en = .panicked (pan (refv z e)))) ∧ P G
theorem AskN.of {e : Int} {P : HProp → Prop} {en : Ending} {G : HProp} (h : AskQ e P en G) : AskN 0 e P en G := h
-- @noauto
theorem caughtN_spec {W : World} {H : HProp} {w : ByteArray} {g : FuncId} {cap : List Value} {z e : Int} {P : HProp → Prop} (hg : Callable prog g)
  (h : ∀ bc be : Nat, Does prog W g ⟨cap⟩ (pts be (.cells ⟨[.nilIface]⟩ t_error) • pts bc (.cells ⟨[.string w]⟩ t_string) • H) (fun en G => ∃ G', Imp G G' ∧ AskN z e (fun G => ∃ G0, P G0 ∧ G = (pts be (.cells ⟨[.nilIface]⟩ t_error) • pts bc (.cells ⟨[.string w]⟩ t_string) • G0)) en G')) :
  Does prog W f_z2g ⟨[.string w, .func (.func g) #[] ⟨cap⟩]⟩ H (Ret fun v G => ∃ G0, P G0 ∧ ((e = 0 ∧ v = .nilIface ∧ G = G0) ∨ (e ≠ 0 ∧ ∃ b, v = .iface t_z5 (ptr b) ∧ G = (fltc b w z e • G0)))) := by
 refine f_z2g.does _ _ ?_
 conv => whnf
 repeat' (first
  | (intro blk hblk; conv => whnf))
 refine CallK.any hg (h _ _) ?_
 rintro en G ⟨⟨h0, rfl⟩ | ⟨h0, rfl⟩, G0, hP, rfl⟩
 ·conv => whnf
  repeat' (first
   | (refine St.i ⟨rfl, rfl⟩ (List.cons_ne_nil _ _) ?_; conv => whnf))
  refine LeaveD.ret tab_ok (by simp) f_zq.ok caught1_ok ?_
  rintro _ _ G ⟨rfl, rfl⟩
  conv => whnf
  repeat' (first
   | (refine Ld.i ?_; conv => whnf))
  refine ⟨_, _, rfl, ?_, G0, hP, .inl ⟨h0, rfl, rfl⟩⟩
  first | exact .refl _ | exact .drop | exact .fin | ((repeat refine .pick ?_); first | exact .refl _ | exact .emp _ | exact .fin)
 ·conv => whnf
  skip
  refine LeaveD.ret tab_ok (by simp) f_zq.ok (DDoes.imp (by first | exact .refl _ | exact .drop | exact .fin | ((repeat refine .pick ?_); first | exact .refl _ | exact .emp _ | exact .fin)) (caught1_no (w := w) (z := z) (e := e) (v := .nilIface) (R := G0) (older := []))) ?_
  rintro _ _ G ⟨b, rfl, rfl⟩
  conv => whnf
  repeat' (first
   | (refine Ld.i ?_; conv => whnf))
  refine ⟨_, _, rfl, ?_, G0, hP, .inr ⟨h0, b, rfl, rfl⟩⟩
  first | exact .refl _ | exact .drop | exact .fin | ((repeat refine .pick ?_); first | exact .refl _ | exact .emp _ | exact .fin)
set_option maxHeartbeats 2000000 in
-- @noauto
theorem lread_spec {W : World} {R : HProp} {l d : Nat} {first count : Int} {a : Option Addr} {n c : Nat} {outs : List BytX} [ro : RowN W R a n 1 bytx outs] (ho : ∀ x ∈ outs, RowC W R x.a 1 bytv x.b ∧ Byt x.b ∧ x.b.length ≤ 512) (hl : outs.length ≤ 10000) :
  Does prog W f_z1y ⟨[ptr l, .slice a n c]⟩ (logo l (logB d first count none 0 [] 0) • R)
   (fun en G => ∃ G', Imp G G' ∧ AskN (readG 0 (outs.map (·.b))).1 (if (readG 0 (outs.map (·.b))).1 = 0 then 0 else 60) (fun G => ∃ ra rc recs, recs.map (·.m) = (readG 0 (outs.map (·.b))).2 ∧ (∀ x ∈ recs, x.m.L.length ≤ 32 ∧ x.m.D.length ≤ 16 ∧ bare x.m.r = x.m.r) ∧
    G = (logo l (logB d first count ra rc recs (if (readG 0 (outs.map (·.b))).1 = 0 then recs.length else 0)) • R)) en G') := by
 have hn := ro.len
 subst hn
 haveI r' := ro.row
 obtain ⟨B, hB⟩ : ∃ B, B = outs.map (·.b) := ⟨_, rfl⟩
 have hBi : ∀ (i : Nat) (x : BytX), outs[i]? = some x → B[i]? = some x.b := fun i x hx => by rw [hB, List.getElem?_map, hx]; rfl
 have hBl : B.length = outs.length := by rw [hB, List.length_map]
 rw [← hB]
 obtain ⟨T, hT⟩ : ∃ T, T = readG 0 B := ⟨_, rfl⟩
 rw [← hT]
 refine f_z1y.does _ _ ?_
 conv => whnf
 skip
 refine LoopK.at tab_ok (L := f_z1y.live) (ι := Nat × List RecX × Option Addr × Nat) (fun i => i.1 ≤ outs.length ∧ i.2.1.length = i.1 ∧ T = ((readG i.1 (B.drop i.1)).1, i.2.1.map (·.m) ++ (readG i.1 (B.drop i.1)).2) ∧ ∀ x ∈ i.2.1, x.m.L.length ≤ 32 ∧ x.m.D.length ≤ 16 ∧ bare x.m.r = x.m.r)
  (fun i => [(10, .int .i64 i.1)]) (fun i => logo l (logB d first count i.2.2.1 i.2.2.2 i.2.1 0)) (fun i => outs.length - i.1) (0, [], none, 0) ⟨by simp, rfl, by rw [hT]; rfl, fun x hx => by cases hx⟩ (fun t v h => h) (Imp.refl _) ?_
 rintro ⟨i, recs, ra, rc⟩ ⟨hi, hrl, hf, hok⟩
 dsimp only at hi hrl hf hok ⊢
 conv => whnf
 by_cases h1 : i < outs.length
 ·obtain ⟨x, hx⟩ : ∃ x, outs[i]? = some x := ⟨_, List.getElem?_eq_getElem h1⟩
  obtain ⟨rx, bx, lx⟩ := ho x (List.mem_of_getElem? hx)
  haveI := rx
  rw [drop_of (hBi i x hx), readG] at hf
  obtain ⟨t, ht⟩ : ∃ t, t = decF x.b := ⟨_, rfl⟩
  rw [← ht] at hf
  obtain ⟨C, hC⟩ : ∃ C, C = chkF (withL { t.2.1 with lsn := (i : Int) + 1 } t.2.2.1 t.2.2.2) t.2.2.1 t.2.2.2 := ⟨_, rfl⟩
  by_cases c1 : t.1 = 0
  rotate_left
  ·have hr : ¬ ReadP i t := fun k => c1 k.1
   rw [if_neg hr] at hf
   have hz : ¬ T.1 = 0 := by rw [hf]; dsimp only; omega
   rw [if_neg hz, show T.1 = (i : Int) + 1 by rw [hf]]
   repeat' (first
    | (refine CallK.ret f_zb.ok (decode_spec (l := x.b) bx (by omega)) ?_; rw [← ht]; rintro v G ⟨la, lc, da, dc, rfl, rfl⟩; unfold recLA recA; conv => whnf)
    | (rw [decide_eq_false c1]; conv => whnf)
    | (refine spl_dec (fun hd => ?_) (fun hd => ?_) <;> first | (exfalso; omega) | (conv => whnf))
    | ((first | refine St.i ⟨rfl, rfl⟩ (List.cons_ne_nil _ _) ?_ | refine Ar.i64 (by omega) ?_); conv => whnf)
    | (intro blk hblk; conv => whnf)
    | (refine IxS.r (xs := outs) (i := i) rfl rfl h1 (fun ab off ha => ?_); cases ha; conv => whnf)
    | (refine Ld.r0 hx rfl ?_; conv => whnf))
   refine ⟨_, ?_, .inr ⟨by decide, rfl⟩, ra, rc, recs, by rw [hf]; exact (List.append_nil _).symm, hok, rfl⟩
   rw [if_neg (show ¬ ((i : Int) + 1 = 0) by omega)]
   first | exact .refl _ | exact .drop | exact .fin | ((repeat refine .pick ?_); first | exact .refl _ | exact .emp _ | exact .fin)
  by_cases c2 : C = 0
  rotate_left
  ·have hr : ¬ ReadP i t := fun k => c2 (hC.trans k.2)
   rw [if_neg hr] at hf
   have hz : ¬ T.1 = 0 := by rw [hf]; dsimp only; omega
   rw [if_neg hz, show T.1 = (i : Int) + 1 by rw [hf]]
   repeat' (first
    | (refine CallK.ret f_zb.ok (decode_spec (l := x.b) bx (by omega)) ?_; rw [← ht]; rintro v G ⟨la, lc, da, dc, rfl, rfl⟩; unfold recLA recA; conv => whnf)
    | (rw [decide_eq_true c1]; conv => whnf)
    | (rw [decide_eq_false c2]; conv => whnf)
    | (refine CallK.ret f_z6.ok (check_spec (r := { t.2.1 with lsn := (i : Int) + 1, lv := (la, t.2.2.1.length, lc), dt := (da, t.2.2.2.length, dc) }) (L := t.2.2.1) (D := t.2.2.2)) ?_; rw [chkF_addr (r := { t.2.1 with lsn := (i : Int) + 1 }), ← hC]; rintro v G ⟨rfl, rfl⟩; conv => whnf)
    | (refine spl_dec (fun hd => ?_) (fun hd => ?_) <;> first | (exfalso; omega) | (conv => whnf))
    | ((first | refine LdN.i ?_ | refine St.i ⟨rfl, rfl⟩ (List.cons_ne_nil _ _) ?_ | refine Ar.i64 (by omega) ?_); conv => whnf)
    | (intro blk hblk; conv => whnf)
    | (refine IxS.r (xs := outs) (i := i) rfl rfl h1 (fun ab off ha => ?_); cases ha; conv => whnf)
    | (refine Ld.r0 hx rfl ?_; conv => whnf))
   refine ⟨_, ?_, .inr ⟨by decide, rfl⟩, ra, rc, recs, by rw [hf]; exact (List.append_nil _).symm, hok, rfl⟩
   rw [if_neg (show ¬ ((i : Int) + 1 = 0) by omega)]
   first | exact .refl _ | exact .drop | exact .fin | ((repeat refine .pick ?_); first | exact .refl _ | exact .emp _ | exact .fin)
  rw [if_pos ⟨c1, hC.symm.trans c2⟩] at hf
  repeat' (first
   | (refine CallK.ret f_zb.ok (decode_spec (l := x.b) bx (by omega)) ?_; rw [← ht]; rintro v G ⟨la, lc, da, dc, rfl, rfl⟩; unfold recLA recA; conv => whnf)
   | (rw [decide_eq_true c1]; conv => whnf)
   | (refine CallK.ret f_z6.ok (check_spec (r := { t.2.1 with lsn := (i : Int) + 1, lv := (la, t.2.2.1.length, lc), dt := (da, t.2.2.2.length, dc) }) (L := t.2.2.1) (D := t.2.2.2)) ?_; rw [chkF_addr (r := { t.2.1 with lsn := (i : Int) + 1 }), ← hC]; rintro v G ⟨rfl, rfl⟩; rw [logo_eq]; conv => whnf)
   | (rw [c2]; conv => whnf)
   | (refine DrawK.introK tab_ok mixed 33 f_z1y.last9 f_z1y.plan9 rfl (by kernel_rfl) ?_; conv => whnf)
   | (refine spl_dec (fun hd => ?_) (fun hd => ?_) <;> first | (exfalso; omega) | (conv => whnf))
   | ((first | refine Ld.i ?_ | refine LdN.i ?_ | refine St.i ⟨rfl, rfl⟩ (List.cons_ne_nil _ _) ?_ | refine Ar.i64 (by omega) ?_); conv => whnf)
   | (intro blk hblk; conv => whnf)
   | (refine IxS.r (xs := outs) (i := i) rfl rfl h1 (fun ab off ha => ?_); cases ha; conv => whnf)
   | (refine Ld.r0 hx rfl ?_; conv => whnf)
   | (refine OpX.app1 (xs := recs) tab_ok rfl rfl rfl rfl (⟨readR i t, la, lc, da, dc⟩ : RecX) rfl rfl (by omega) ⟨rfl, OneC.h⟩ (fun ra' rc' => ?_); conv => whnf)
   | (refine Sub.on (by first | exact .refl _ | exact .drop | exact .fin | ((repeat refine .pick ?_); first | exact .refl _ | exact .emp _ | exact .fin)) ?_; conv => whnf))
  obtain ⟨y, hy⟩ : ∃ y : RecX, y = ⟨readR i t, la, lc, da, dc⟩ := ⟨_, rfl⟩
  rw [← hy]
  have hyl : y.m.L.length ≤ 32 ∧ y.m.D.length ≤ 16 := by
   rw [hy]
   exact chk_lens (hC.symm.trans c2) rfl rfl
  have hyc : recc y = (vec t_api_Live 4 livev la lc t.2.2.1 • vec t_api_Dirty 2 dirtyv da dc t.2.2.2) := by rw [hy]; rfl
  have l1 : (recs ++ [y]).length = i + 1 := by simp [hrl]
  refine ⟨rfl, (i + 1, recs ++ [y], ra', rc'), ⟨h1, l1, ?_, fun x hx => ?_⟩, fun t v h => h, ?_, by dsimp only; omega⟩
  ·rw [hf, hy]
   simp
  ·rcases List.mem_append.1 hx with h | h
   ·exact hok x h
   ·cases List.mem_singleton.1 h
    exact ⟨hyl.1, hyl.2, by rw [hy]; rfl⟩
  ·dsimp only
   rw [logo_eq]
   dsimp only
   rw [bigL_snoc, hyc, show (recs ++ [y]).length = recs.length + 1 by simp]
   simp only [star_assoc]
   first | exact .refl _ | exact .drop | exact .fin | ((repeat refine .pick ?_); first | exact .refl _ | exact .emp _ | exact .fin)
 ·have e0 : i = outs.length := by omega
  subst e0
  rw [List.drop_eq_nil_of_le (by omega), readG] at hf
  rw [show T.1 = 0 by rw [hf], if_pos rfl, logo_eq]
  repeat' (first
   | (refine spl_dec (fun hd => ?_) (fun hd => ?_) <;> first | (exfalso; omega) | (conv => whnf))
   | ((first | refine Ld.i ?_ | refine St.i ⟨rfl, rfl⟩ (List.cons_ne_nil _ _) ?_); conv => whnf))
  refine ⟨_, ?_, .inl ⟨rfl, rfl⟩, ra, rc, recs, by rw [hf]; exact (List.append_nil _).symm, hok, rfl⟩
  rw [logo_eq]
  first | exact .refl _ | exact .drop | exact .fin | ((repeat refine .pick ?_); first | exact .refl _ | exact .emp _ | exact .fin)
end Go.Proofs.YtgcknlpkhhpkjaaGreatDoor
/- The program's package twin, walked: what a refusal becomes. Conditions: in each statement. -/
namespace Go.Proofs.YtgcknlpkhhpkjaaGreatDoor
open Go Go.SL Go.SL.Sec Go.SL.Fld Go.SL.Pts Go.SL.Rec Go.SL.Twn
theorem told_nil {W : World} {R : HProp} {w : ByteArray} : Does prog W f_z1u ⟨[.string w, .nilIface]⟩ R (Ret fun v G => v = .nilIface ∧ G = R) := by
 refine f_z1u.does _ _ ?_
 conv => whnf
 skip
 refine Ret.eq rfl ?_
 first | exact .refl _ | exact .drop | exact .fin | ((repeat refine .pick ?_); first | exact .refl _ | exact .emp _ | exact .fin)
theorem told_ref {W : World} {R : HProp} {w : ByteArray} {e : Int} : Does prog W f_z1u ⟨[.string w, tref e]⟩ R (Ret fun v G => ∃ b, v = .iface t_z5 (ptr b) ∧ G = (fltc b w 0 e • R)) := by
 refine f_z1u.does _ _ ?_
 conv => whnf
 repeat' (first
  | ((first | refine Ld.i ?_ | refine St.i ⟨rfl, rfl⟩ (List.cons_ne_nil _ _) ?_); conv => whnf)
  | (intro blk hblk; conv => whnf))
 refine ⟨_, _, rfl, ?_, blk, rfl, rfl⟩
 unfold fltc
 first | exact .refl _ | exact .drop | exact .fin | ((repeat refine .pick ?_); first | exact .refl _ | exact .emp _ | exact .fin)
abbrev wRead : ByteArray := ⟨#[82, 101, 97, 100]⟩
abbrev wWrite : ByteArray := ⟨#[87, 114, 105, 116, 101]⟩
theorem read1_ok {W : World} {R : HProp} {be : Nat} {v : Value} : DDoes prog W f_zw ⟨[ptr be]⟩ .returning (pts be (.cells ⟨[v]⟩ t_error) • R) (RetD fun _ u G => u = .returning ∧ G = (pts be (.cells ⟨[.nilIface]⟩ t_error) • R)) := by
 refine DDoes.of_exec tab_ok f_zw.live f_zw.fn rfl rfl rfl (by simp) ?_
 repeat' (first
  | (refine CallK.ret f_z1u.ok told_nil ?_; rintro v G ⟨rfl, rfl⟩; conv => whnf)
  | (refine St.i ⟨rfl, rfl⟩ (List.cons_ne_nil _ _) ?_; conv => whnf))
 exact ⟨_, _, rfl, Imp.refl _, rfl, rfl⟩
theorem read1_no {W : World} {R : HProp} {be : Nat} {v : Value} {e : Int} {older : List PanicEntry} : DDoes prog W f_zw ⟨[ptr be]⟩ (.panicking (⟨tref e, false, false⟩ :: older)) (pts be (.cells ⟨[v]⟩ t_error) • R)
  (RetD fun _ u G => ∃ b, u = .panicking (⟨tref e, true, false⟩ :: older) ∧ G = (pts be (.cells ⟨[.iface t_z5 (ptr b)]⟩ t_error) • fltc b wRead 0 e • R)) := by
 refine DDoes.of_exec tab_ok f_zw.live f_zw.fn rfl rfl rfl (by simp) ?_
 repeat' (first
  | (refine CallK.ret f_z1u.ok told_ref ?_; rintro v G ⟨b, rfl, rfl⟩; conv => whnf)
  | (refine St.i ⟨rfl, rfl⟩ (List.cons_ne_nil _ _) ?_; conv => whnf))
 exact ⟨_, _, rfl, Imp.refl _, b, rfl, rfl⟩
theorem write1_ok {W : World} {R : HProp} {be : Nat} {v : Value} : DDoes prog W f_za ⟨[ptr be]⟩ .returning (pts be (.cells ⟨[v]⟩ t_error) • R) (RetD fun _ u G => u = .returning ∧ G = (pts be (.cells ⟨[.nilIface]⟩ t_error) • R)) := by
 refine DDoes.of_exec tab_ok f_za.live f_za.fn rfl rfl rfl (by simp) ?_
 repeat' (first
  | (refine CallK.ret f_z1u.ok told_nil ?_; rintro v G ⟨rfl, rfl⟩; conv => whnf)
  | (refine St.i ⟨rfl, rfl⟩ (List.cons_ne_nil _ _) ?_; conv => whnf))
 exact ⟨_, _, rfl, Imp.refl _, rfl, rfl⟩
theorem write1_no {W : World} {R : HProp} {be : Nat} {v : Value} {e : Int} {older : List PanicEntry} : DDoes prog W f_za ⟨[ptr be]⟩ (.panicking (⟨tref e, false, false⟩ :: older)) (pts be (.cells ⟨[v]⟩ t_error) • R)
  (RetD fun _ u G => ∃ b, u = .panicking (⟨tref e, true, false⟩ :: older) ∧ G = (pts be (.cells ⟨[.iface t_z5 (ptr b)]⟩ t_error) • fltc b wWrite 0 e • R)) := by
 refine DDoes.of_exec tab_ok f_za.live f_za.fn rfl rfl rfl (by simp) ?_
 repeat' (first
  | (refine CallK.ret f_z1u.ok told_ref ?_; rintro v G ⟨b, rfl, rfl⟩; conv => whnf)
  | (refine St.i ⟨rfl, rfl⟩ (List.cons_ne_nil _ _) ?_; conv => whnf))
 exact ⟨_, _, rfl, Imp.refl _, b, rfl, rfl⟩
end Go.Proofs.YtgcknlpkhhpkjaaGreatDoor
/- The program's package twin, walked: Read. Conditions: in each statement. -/
namespace Go.Proofs.YtgcknlpkhhpkjaaGreatDoor
open Go Go.SL Go.SL.Sec Go.SL.Fld Go.SL.Pts Go.SL.Rec Go.SL.Twn
theorem read_of {D : Dev} {i : Int} (hd : D.down = false) (h : 0 ≤ i ∧ i < D.secs) : D.read i = (0, D.at i) := by
 unfold Dev.read
 rw [if_neg (by rw [hd]; decide), if_neg (by omega)]
set_option maxHeartbeats 1000000 in
-- @noauto
theorem twread_yes {W : World} {H R : HProp} {d : Nat} {X : DevX} {z : Int} [t : DevC H d X R] (hX : X.Ok) (hq : X.ps.length ≤ 1000000) (hd : X.down = false) (ht : ThereP X.val.secs z 2) :
  Does prog W f_z12 ⟨[ptr d, .int .i64 z]⟩ H (Ret fun v G => ∃ a c, v = .tuple ⟨[.slice a 1024 c, .nilIface]⟩ ∧ G = (vec t_uint8 1 bytv a c (X.val.at z ++ X.val.at (z + 1)) • devo d X • R)) := by
 rw [t.h.eq]
 have hts := ht
 unfold ThereP at hts
 have hsec : 0 ≤ X.val.secs ∧ X.val.secs ≤ 8192 := by
  have := hX.len
  unfold Dev.secs DevX.val
  dsimp only
  omega
 have e1 := read_of (D := X.val) (i := z) hd (by omega)
 have e2 := read_of (D := X.val) (i := z + 1) hd (by omega)
 have l1 := (Dev.read_len (i := z) hX.val (by rw [e1])).1
 have l2 := (Dev.read_len (i := z + 1) hX.val (by rw [e2])).1
 have f1 : (X.val.read z).1 = 0 := by rw [e1]
 have f2 : (X.val.read (z + 1)).1 = 0 := by rw [e2]
 have g1 : (X.val.read z).2 = X.val.at z := by rw [e1]
 have g2 : (X.val.read (z + 1)).2 = X.val.at (z + 1) := by rw [e2]
 rw [g1] at l1
 rw [g2] at l2
 clear e1 e2
 have l3 : (X.val.at z ++ X.val.at (z + 1)).length = 1024 := by rw [List.length_append]; omega
 refine f_z12.does _ _ ?_
 conv => whnf
 repeat' (first
  | (refine CallK.ret f_z13.ok (running_ok (X := X) hd) ?_; rintro v G ⟨rfl, rfl⟩; conv => whnf)
  | (refine CallK.ret f_z1g.ok (there_spec (X := X) hX (by omega)) ?_; rw [decide_eq_true ht]; rintro v G ⟨rfl, rfl⟩; conv => whnf)
  | (refine CallK.ret f_twin_get.ok (tget_ok (X := X) (i := z) hX hq f1) ?_; rw [g1]; rintro v G ⟨a1, c1, hc1, rfl, rfl⟩; conv => whnf)
  | (refine CallK.ret f_twin_get.ok (tget_ok (X := X) (i := z + 1) hX hq f2) ?_; rw [g2]; rintro v G ⟨a2, c2, hc2, rfl, rfl⟩; conv => whnf)
  | ((first | refine St.i ⟨rfl, rfl⟩ (List.cons_ne_nil _ _) ?_ | refine Ar.i64 (by omega) ?_); conv => whnf)
  | (intro blk hblk; conv => whnf)
  | (refine CallK.ret f_zf.ok (tneed_ok) ?_; rintro v G ⟨rfl, rfl⟩; conv => whnf)
  | (refine OpX.appRg (xs := X.val.at z) (ys := X.val.at (z + 1)) tab_ok rfl rfl rfl rfl rfl l1.symm l2.symm (by omega) (fun a' c' => ?_); rw [l3]; conv => whnf))
 all_goals
  refine LeaveD.ret tab_ok (by simp) f_zw.ok (DDoes.imp (by first | exact .refl _ | exact .drop | exact .fin | ((repeat refine .pick ?_); first | exact .refl _ | exact .emp _ | exact .fin)) (read1_ok (v := .nilIface) (R := vec t_uint8 1 bytv a' c' (X.val.at z ++ X.val.at (z + 1)) • devo d X • R))) ?_
  rintro _ _ G ⟨rfl, rfl⟩
  conv => whnf
  repeat' (first
   | (refine Ld.i ?_; conv => whnf))
  refine ⟨_, _, rfl, ?_, a', c', rfl, rfl⟩
  first | exact .refl _ | exact .drop | exact .fin | ((repeat refine .pick ?_); first | exact .refl _ | exact .emp _ | exact .fin)
-- @noauto
theorem twread_no {W : World} {H R : HProp} {d : Nat} {X : DevX} {z : Int} [t : DevC H d X R] (hX : X.Ok) (hn : X.down = true ∨ ¬ ThereP X.val.secs z 2) :
  Does prog W f_z12 ⟨[ptr d, .int .i64 z]⟩ H (Ret fun v G => ∃ b, v = .tuple ⟨[.slice none 0 0, .iface t_z5 (ptr b)]⟩ ∧ G = (fltc b wRead 0 (if X.down then 40 else 4) • devo d X • R)) := by
 rw [t.h.eq]
 refine f_z12.does _ _ ?_
 conv => whnf
 cases hd : X.down with
 | true =>
  rw [if_pos rfl]
  repeat' (first
   | (refine CallK.thr f_z13.ok (running_no (X := X) hd) ?_; rintro c G ⟨rfl, rfl⟩; conv => whnf)
   | (intro blk hblk; conv => whnf))
  all_goals
   refine LeaveD.ret tab_ok (by simp) f_zw.ok (DDoes.imp (by first | exact .refl _ | exact .drop | exact .fin | ((repeat refine .pick ?_); first | exact .refl _ | exact .emp _ | exact .fin)) (read1_no (v := .nilIface) (e := 40) (R := devo d X • R) (older := []))) ?_
   rintro _ _ G ⟨b, rfl, rfl⟩
   conv => whnf
   repeat' (first
    | (refine Ld.i ?_; conv => whnf))
   refine ⟨_, _, rfl, ?_, b, rfl, rfl⟩
   first | exact .refl _ | exact .drop | exact .fin | ((repeat refine .pick ?_); first | exact .refl _ | exact .emp _ | exact .fin)
 | false =>
  rw [if_neg (by decide)]
  have ht : ¬ ThereP X.val.secs z 2 := hn.resolve_left (by rw [hd]; decide)
  repeat' (first
   | (refine CallK.ret f_z13.ok (running_ok (X := X) hd) ?_; rintro v G ⟨rfl, rfl⟩; conv => whnf)
   | (refine CallK.ret f_z1g.ok (there_spec (X := X) hX (by omega)) ?_; rw [decide_eq_false ht]; rintro v G ⟨rfl, rfl⟩; conv => whnf)
   | (intro blk hblk; conv => whnf)
   | (refine CallK.thr f_zf.ok (tneed_no) ?_; rintro c G ⟨rfl, rfl⟩; conv => whnf))
  all_goals
   refine LeaveD.ret tab_ok (by simp) f_zw.ok (DDoes.imp (by first | exact .refl _ | exact .drop | exact .fin | ((repeat refine .pick ?_); first | exact .refl _ | exact .emp _ | exact .fin)) (read1_no (v := .nilIface) (e := 4) (R := devo d X • R) (older := []))) ?_
   rintro _ _ G ⟨b, rfl, rfl⟩
   conv => whnf
   repeat' (first
    | (refine Ld.i ?_; conv => whnf))
   refine ⟨_, _, rfl, ?_, b, rfl, rfl⟩
   first | exact .refl _ | exact .drop | exact .fin | ((repeat refine .pick ?_); first | exact .refl _ | exact .emp _ | exact .fin)
end Go.Proofs.YtgcknlpkhhpkjaaGreatDoor
/- The program's package twin, walked: Write. Conditions: in each statement. -/
namespace Go.SL.Twn
open Go Go.SL Go.SL.Sec Go.SL.Fld Go.SL.Pts Go.SL.Rec
def t512 : List Int := List.replicate 512 0
theorem t512_eq : t512 = List.replicate 512 0 := rfl
theorem t512_len : t512.length = 512 := List.length_replicate
theorem t512_byt : Byt t512 := Byt.rep 512
def mark4 (home : Int) : List Int := putB t512 0 4 home
theorem mark4_byt {h : Int} : Byt (mark4 h) := by unfold mark4; exact putB_byt t512_byt
def mark (home st : Int) : List Int := (mark4 home).set 511 st
def twW (D : Dev) (z h : Int) (b : List Int) : Int × Dev :=
 if D.down then (40, D) else if ¬ (ThereP D.secs z 3 ∧ TmayP D.secs z h) then (4, D) else if b.length ≠ 1024 then (42, D) else
 let r1 := pws (z + 1) b 2 0 D
 if r1.1 ≠ 0 then r1 else
 let r2 := pws z (mark h 165) 1 0 r1.2
 if r2.1 ≠ 0 then r2 else
 let r3 := pws h b 2 0 r2.2
 if r3.1 ≠ 0 then r3 else pws z (mark h 0) 1 0 r3.2
end Go.SL.Twn
namespace Go.Proofs.YtgcknlpkhhpkjaaGreatDoor
open Go Go.SL Go.SL.Sec Go.SL.Fld Go.SL.Pts Go.SL.Rec Go.SL.Twn
-- @noauto
theorem twwrite_no {W : World} {H R : HProp} {d : Nat} {X : DevX} {z h : Int} {a : Option Addr} {n c : Nat} {b : List Int} [t : DevC H d X R] [ro : RowN W R a n 1 bytv b] (hX : X.Ok) (hb : b.length ≤ 16777216) (hn : X.down = true ∨ ¬ (ThereP X.val.secs z 3 ∧ TmayP X.val.secs z h) ∨ b.length ≠ 1024) :
  Does prog W f_z2a ⟨[ptr d, .int .i64 z, .int .i64 h, .slice a n c]⟩ H (Ret fun v G => ∃ k, v = .iface t_z5 (ptr k) ∧ G = (fltc k wWrite 0 (twW X.val z h b).1 • devo d X • R)) := by
 rw [t.h.eq]
 have hl := ro.len
 subst hl
 have hsec : 0 ≤ X.val.secs ∧ X.val.secs ≤ 8192 := by
  have := hX.len
  unfold Dev.secs DevX.val
  dsimp only
  omega
 have hdv : X.val.down = X.down := rfl
 unfold twW
 rw [hdv]
 refine f_z2a.does _ _ _ _ ?_
 conv => whnf
 cases hd : X.down with
 | true =>
  rw [if_pos rfl]
  repeat' (first
   | (refine CallK.thr f_z13.ok (running_no (X := X) hd) ?_; rintro c G ⟨rfl, rfl⟩; conv => whnf)
   | (intro blk hblk; conv => whnf))
  all_goals
   refine LeaveD.ret tab_ok (by simp) f_za.ok (DDoes.imp (by first | exact .refl _ | exact .drop | exact .fin | ((repeat refine .pick ?_); first | exact .refl _ | exact .emp _ | exact .fin)) (write1_no (v := .nilIface) (e := 40) (R := devo d X • R) (older := []))) ?_
   rintro _ _ G ⟨b, rfl, rfl⟩
   conv => whnf
   repeat' (first
    | (refine Ld.i ?_; conv => whnf))
   refine ⟨_, _, rfl, ?_, b, rfl, rfl⟩
   first | exact .refl _ | exact .drop | exact .fin | ((repeat refine .pick ?_); first | exact .refl _ | exact .emp _ | exact .fin)
 | false =>
  rw [if_neg (by decide)]
  have hn' := hn.resolve_left (by rw [hd]; decide)
  by_cases h3 : ThereP X.val.secs z 3
  ·have h3' := h3
   unfold ThereP at h3'
   by_cases hm : TmayP X.val.secs z h
   ·have hbl : b.length ≠ 1024 := hn'.resolve_left fun k => k ⟨h3, hm⟩
    rw [if_neg (fun k => k ⟨h3, hm⟩), if_pos hbl]
    repeat' (first
     | (refine CallK.ret f_z13.ok (running_ok (X := X) hd) ?_; rintro v G ⟨rfl, rfl⟩; conv => whnf)
     | (refine CallK.ret f_z1g.ok (there_spec (X := X) hX (by omega)) ?_; rw [decide_eq_true h3]; rintro v G ⟨rfl, rfl⟩; conv => whnf)
     | (refine CallK.ret f_z2p.ok (tmay_spec (X := X) hX (by omega)) ?_; rw [decide_eq_true hm]; rintro v G ⟨rfl, rfl⟩; conv => whnf)
     | (rw [show decide ((b.length : Int) = 1024) = false from decide_eq_false (by omega)]; conv => whnf)
     | (intro blk hblk; conv => whnf)
     | (refine CallK.ret f_zf.ok (tneed_ok) ?_; rintro v G ⟨rfl, rfl⟩; conv => whnf)
     | (refine CallK.thr f_zf.ok (tneed_no) ?_; rintro c G ⟨rfl, rfl⟩; conv => whnf))
    all_goals
     refine LeaveD.ret tab_ok (by simp) f_za.ok (DDoes.imp (by first | exact .refl _ | exact .drop | exact .fin | ((repeat refine .pick ?_); first | exact .refl _ | exact .emp _ | exact .fin)) (write1_no (v := .nilIface) (e := 42) (R := devo d X • R) (older := []))) ?_
     rintro _ _ G ⟨b, rfl, rfl⟩
     conv => whnf
     repeat' (first
      | (refine Ld.i ?_; conv => whnf))
     refine ⟨_, _, rfl, ?_, b, rfl, rfl⟩
     first | exact .refl _ | exact .drop | exact .fin | ((repeat refine .pick ?_); first | exact .refl _ | exact .emp _ | exact .fin)
   ·rw [if_pos (fun k => hm k.2)]
    repeat' (first
     | (refine CallK.ret f_z13.ok (running_ok (X := X) hd) ?_; rintro v G ⟨rfl, rfl⟩; conv => whnf)
     | (refine CallK.ret f_z1g.ok (there_spec (X := X) hX (by omega)) ?_; rw [decide_eq_true h3]; rintro v G ⟨rfl, rfl⟩; conv => whnf)
     | (refine CallK.ret f_z2p.ok (tmay_spec (X := X) hX (by omega)) ?_; rw [decide_eq_false hm]; rintro v G ⟨rfl, rfl⟩; conv => whnf)
     | (intro blk hblk; conv => whnf)
     | (refine CallK.thr f_zf.ok (tneed_no) ?_; rintro c G ⟨rfl, rfl⟩; conv => whnf))
    all_goals
     refine LeaveD.ret tab_ok (by simp) f_za.ok (DDoes.imp (by first | exact .refl _ | exact .drop | exact .fin | ((repeat refine .pick ?_); first | exact .refl _ | exact .emp _ | exact .fin)) (write1_no (v := .nilIface) (e := 4) (R := devo d X • R) (older := []))) ?_
     rintro _ _ G ⟨b, rfl, rfl⟩
     conv => whnf
     repeat' (first
      | (refine Ld.i ?_; conv => whnf))
     refine ⟨_, _, rfl, ?_, b, rfl, rfl⟩
     first | exact .refl _ | exact .drop | exact .fin | ((repeat refine .pick ?_); first | exact .refl _ | exact .emp _ | exact .fin)
  ·rw [if_pos (fun k => h3 k.1)]
   repeat' (first
    | (refine CallK.ret f_z13.ok (running_ok (X := X) hd) ?_; rintro v G ⟨rfl, rfl⟩; conv => whnf)
    | (refine CallK.ret f_z1g.ok (there_spec (X := X) hX (by omega)) ?_; rw [decide_eq_false h3]; rintro v G ⟨rfl, rfl⟩; conv => whnf)
    | (intro blk hblk; conv => whnf)
    | (refine CallK.thr f_zf.ok (tneed_no) ?_; rintro c G ⟨rfl, rfl⟩; conv => whnf))
   all_goals
    refine LeaveD.ret tab_ok (by simp) f_za.ok (DDoes.imp (by first | exact .refl _ | exact .drop | exact .fin | ((repeat refine .pick ?_); first | exact .refl _ | exact .emp _ | exact .fin)) (write1_no (v := .nilIface) (e := 4) (R := devo d X • R) (older := []))) ?_
    rintro _ _ G ⟨b, rfl, rfl⟩
    conv => whnf
    repeat' (first
     | (refine Ld.i ?_; conv => whnf))
    refine ⟨_, _, rfl, ?_, b, rfl, rfl⟩
    first | exact .refl _ | exact .drop | exact .fin | ((repeat refine .pick ?_); first | exact .refl _ | exact .emp _ | exact .fin)
end Go.Proofs.YtgcknlpkhhpkjaaGreatDoor
