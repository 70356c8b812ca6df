/- The program's log.Force, walked. Conditions: in each statement. -/
import Derived.Test.YtgcknlpkhhpkjaaGreatDoorPart18
import Derived.Test.YtgcknlpkhhpkjaaGreatDoorPart17
namespace Go.SL
open Go
theorem CallK.any {P : Program} {W : World} {f : FuncId} {args : List Value} {H : HProp} {K : Value → HProp → Prop} {Kp : List PanicEntry → HProp → Prop} {Q : Ending → HProp → Prop} (ok : Callable P f)
  (h : Does P W f ⟨args⟩ H (fun e G => ∃ G', Imp G G' ∧ Q e G')) (k : ∀ e G, Q e G → CallQ K Kp e G) : CallK P W f args H K Kp :=
 ⟨.inl ⟨ok, ⟨fun w hs => (h.run w hs).mono fun e _ ⟨_, hs', G', hi, hq⟩ => ⟨G', hs'.imp hi, k e G' hq⟩⟩⟩⟩
end Go.SL
namespace Go.SL.Rec
open Go Go.SL Go.SL.Sec Go.SL.Fld Go.SL.Pts
def wrs (first : Int) : Nat → List (List Int) → Dev → Int × Dev
 | _, [], D => D.sync
 | n, b :: l, D => if (D.write (first + n - 1) (laidB n b)).1 = 0 then wrs first (n + 1) l (D.write (first + n - 1) (laidB n b)).2 else D.write (first + n - 1) (laidB n b)
def LogM.force (M : LogM) (D : Dev) (lsn : Int) : Int × LogM × Dev :=
 if M.err.isSome then (40, M, D) else if lsn < 0 ∨ lsn > M.recs.length then (4, M, D) else if lsn ≤ M.forced then (0, M, D) else
 let r := wrs M.first (M.forced + 1) (M.bys.take (lsn.toNat - M.forced)) D
 if r.1 = 0 then (0, { M with bys := M.bys.drop (lsn.toNat - M.forced), forced := lsn.toNat }, r.2) else (r.1, { M with err := some (0, r.1) }, r.2)
end Go.SL.Rec
namespace Go.Proofs.YtgcknlpkhhpkjaaGreatDoor
open Go Go.SL Go.SL.Sec Go.SL.Fld Go.SL.Pts Go.SL.Rec
open Go.SL.Und (RecV recv fits)
instance (priority := 130) keepc_devn {R A : HProp} {d : Nat} {X : DevX} [k : KeepC R A] : KeepC (devo d X • R) A := ⟨Imp.trans Imp.drop k.h⟩
abbrev refv (at_ e : Int) : Value := .iface t_log_refusal (.agg ⟨[.int .i64 at_, .int .i64 e]⟩)
def AskQ (e : Int) (P : HProp → Prop) (en : Ending) (G : HProp) : Prop := ((e = 0 ∧ en = .returned (.tuple ⟨[]⟩)) ∨ (e ≠ 0 ∧ en = .panicked (pan (refv 0 e)))) ∧ P G
theorem force1_spec {W : World} {R : HProp} {bl bn l d : Nat} {X : LogX} {Y : DevX} {m : Nat} (hX : X.Ok) (hY : Y.Ok) (hq : Y.ps.length ≤ 500000) (hd : X.d = d) (hf : 0 ≤ X.first ∧ X.first ≤ 8192) (hm : m ≤ X.bys.length) :
  Does prog W f_z1k ⟨[ptr bl, ptr bn]⟩ (pts bl (.cells ⟨[ptr l]⟩ t_z2d) • pts bn (.cells ⟨[.int .i64 ((X.forced + m : Nat) : Int)]⟩ t_int) • logo l X • devo d Y • R)
   (fun en G => ∃ G', Imp G G' ∧ AskQ (wrs X.first (X.forced + 1) (X.val.bys.take m) Y.val).1 (fun G => ∃ Y' : DevX, Y'.Ok ∧ Y'.val = (wrs X.first (X.forced + 1) (X.val.bys.take m) Y.val).2 ∧ Y'.ps.length ≤ Y.ps.length + m ∧
    G = (devo d Y' • pts bl (.cells ⟨[ptr l]⟩ t_z2d) • pts bn (.cells ⟨[.int .i64 ((X.forced + m : Nat) : Int)]⟩ t_int) • logo l X • R)) en G') := by
 subst hd
 have hlen := hX.len
 have hcnt := hX.cnt
 have hbl := hX.bl
 obtain ⟨B, hB⟩ : ∃ B, B = X.val.bys.take m := ⟨_, rfl⟩
 have hBl : B.length = m := by rw [hB, List.length_take]; show min m (X.bys.map (·.b)).length = m; rw [List.length_map]; omega
 have hBi : ∀ (i : Nat) (x : BytX), i < m → X.bys[i]? = some x → B[i]? = some x.b := fun i x hi hx => by
  rw [hB, List.getElem?_take_of_lt hi]
  show (X.bys.map (·.b))[i]? = _
  rw [List.getElem?_map, hx]; rfl
 rw [← hB]
 obtain ⟨RR, hRR⟩ : ∃ RR, RR = wrs X.first (X.forced + 1) B Y.val := ⟨_, rfl⟩
 rw [← hRR]
 refine f_z1k.does _ _ ?_
 conv => whnf
 repeat' (first
  | ((first | refine Ld.i ?_ | refine Ar.i64 (by omega) ?_); conv => whnf))
 refine LoopK.at tab_ok (L := f_z1k.live) (ι := Nat × DevX) (fun i => i.1 ≤ m ∧ wrs X.first (X.forced + 1 + i.1) (B.drop i.1) i.2.val = RR ∧ i.2.Ok ∧ i.2.ps.length ≤ Y.ps.length + i.1) (fun i => [(2, .int .i64 ((X.forced + 1 + i.1 : Nat) : Int))])
  (fun i => devo X.d i.2) (fun i => m - i.1) (0, Y) ⟨by simp, by rw [hRR]; rfl, hY, by simp⟩ (fun t v h => h) (Imp.pick (Imp.refl _)) ?_
 rintro ⟨k, Z⟩ ⟨hk, hw, hZ, hZq⟩
 dsimp only at hk hw hZ hZq ⊢
 conv => whnf
 by_cases h1 : k < m
 ·obtain ⟨x, hx⟩ : ∃ x, X.bys[k]? = some x := ⟨_, List.getElem?_eq_getElem (by omega)⟩
  have hkl := (List.getElem?_eq_some_iff.1 hx).1
  have hbx := hX.byt x (List.mem_of_getElem? hx)
  haveI rb : ∀ Q : HProp, RowC W (logo l X • Q) x.a 1 bytv x.b := fun Q => RowC.logB hx
  rw [drop_of (hBi k x h1 hx), wrs] at hw
  obtain ⟨nn, hnn⟩ : ∃ nn : Int, nn = ((X.forced + 1 + k : Nat) : Int) := ⟨_, rfl⟩
  have hl512 : (laidB nn x.b).length = 512 := laidB_len hbx.2
  have hbyt : Byt (laidB nn x.b) := laidB_byt hbx.1
  haveI r512 : ∀ (a : Option Addr) (c : Nat) (Q : HProp), RowN W (vec t_uint8 1 bytv a c (laidB nn x.b) • Q) a 512 1 bytv (laidB nn x.b) := fun a c Q => ⟨inferInstance, hl512.symm⟩
  rw [← hnn] at hw ⊢
  obtain ⟨e, he⟩ : ∃ e, e = (Z.val.write (X.first + nn - 1) (laidB nn x.b)).1 := ⟨_, rfl⟩
  rw [← he] at hw
  by_cases he0 : e = 0
  ·rw [if_pos he0] at hw
   repeat' (first
    | (refine DrawK.introK tab_ok mixed 13 f_z1k.last3 f_z1k.plan3 rfl (by kernel_rfl) ?_; conv => whnf)
    | (refine CallK.ret f_log_laid.ok (laid_spec (b := x.b) (lsn := nn) hbx.2 (by omega)) ?_; rintro v G ⟨sa, sc, rfl, rfl⟩; conv => whnf)
    | (refine CallK.ret f_z16.ok (write_spec (X := Z) (b := laidB nn x.b) hZ (by omega) hbyt (by omega)) ?_; rintro v G ⟨Z', hZ', hZv, hZl, rfl, rfl⟩; rw [← he, he0]; conv => whnf)
    | (refine CallK.ret f_zz.ok asked_ok ?_; rintro v G ⟨rfl, rfl⟩; conv => whnf)
    | (refine spl_dec (fun hd => ?_) (fun hd => ?_) <;> first | (exfalso; omega) | (conv => whnf))
    | ((first | refine Ld.i ?_ | refine Ar.i64 (by omega) ?_); conv => whnf)
    | (refine IxS.r (xs := X.bys) (i := k) (by omega) rfl hkl (fun ab off ha => ?_); have rv : ∀ Q : HProp, RowC W (logo l X • Q) (some ⟨ab, off, none⟩) 1 bytx X.bys := fun Q => ha ▸ inferInstance; conv => whnf)
    | (refine Ld.r0 hx rfl ?_; conv => whnf)
    | (refine Sub.on (by first | exact .refl _ | exact .drop | exact .fin | ((repeat refine .pick ?_); first | exact .refl _ | exact .emp _ | exact .fin)) ?_; conv => whnf))
   have e2 : nn + 1 = ((X.forced + 1 + (k + 1) : Nat) : Int) := by omega
   rw [e2]
   refine ⟨rfl, (k + 1, Z'), ⟨h1, by rw [hZv]; exact hw, hZ', by dsimp only; omega⟩, fun t v h => h, ?_, by dsimp only; omega⟩
   first | exact .refl _ | exact .drop | exact .fin | ((repeat refine .pick ?_); first | exact .refl _ | exact .emp _ | exact .fin)
  ·rw [if_neg he0] at hw
   repeat' (first
    | (refine DrawK.introK tab_ok mixed 13 f_z1k.last3 f_z1k.plan3 rfl (by kernel_rfl) ?_; conv => whnf)
    | (refine CallK.ret f_log_laid.ok (laid_spec (b := x.b) (lsn := nn) hbx.2 (by omega)) ?_; rintro v G ⟨sa, sc, rfl, rfl⟩; conv => whnf)
    | (refine CallK.ret f_z16.ok (write_spec (X := Z) (b := laidB nn x.b) hZ (by omega) hbyt (by omega)) ?_; rintro v G ⟨Z', hZ', hZv, hZl, rfl, rfl⟩; rw [← he]; conv => whnf)
    | (refine CallK.thr f_zz.ok (asked_no he0) ?_; rintro c G ⟨rfl, rfl⟩; conv => whnf)
    | (refine spl_dec (fun hd => ?_) (fun hd => ?_) <;> first | (exfalso; omega) | (conv => whnf))
    | ((first | refine Ld.i ?_ | refine Ar.i64 (by omega) ?_); conv => whnf)
    | (refine IxS.r (xs := X.bys) (i := k) (by omega) rfl hkl (fun ab off ha => ?_); have rv : ∀ Q : HProp, RowC W (logo l X • Q) (some ⟨ab, off, none⟩) 1 bytx X.bys := fun Q => ha ▸ inferInstance; conv => whnf)
    | (refine Ld.r0 hx rfl ?_; conv => whnf)
    | (refine Sub.on (by first | exact .refl _ | exact .drop | exact .fin | ((repeat refine .pick ?_); first | exact .refl _ | exact .emp _ | exact .fin)) ?_; conv => whnf))
   refine ⟨_, ?_, .inr ⟨?_, ?_⟩, Z', hZ', ?_, ?_, rfl⟩
   ·first | exact .refl _ | exact .drop | exact .fin | ((repeat refine .pick ?_); first | exact .refl _ | exact .emp _ | exact .fin)
   ·rw [← hw, ← he]; exact he0
   ·rw [← hw, ← he]
   ·rw [hZv, ← hw]
   ·omega
 ·rw [List.drop_eq_nil_of_le (by omega), wrs] at hw
  obtain ⟨e, he⟩ : ∃ e, e = Z.val.sync.1 := ⟨_, rfl⟩
  by_cases he0 : e = 0
  ·repeat' (first
    | (refine CallK.ret f_z10.ok (sync_spec (X := Z) hZ (by omega)) ?_; rintro v G ⟨Z', hZ', hZv, hZl, rfl, rfl⟩; rw [← he, he0]; conv => whnf)
    | (refine CallK.ret f_zz.ok asked_ok ?_; rintro v G ⟨rfl, rfl⟩; conv => whnf)
    | (refine spl_dec (fun hd => ?_) (fun hd => ?_) <;> first | (exfalso; omega) | (conv => whnf))
    | (refine Ld.i ?_; conv => whnf))
   refine ⟨_, ?_, .inl ⟨?_, rfl⟩, Z', hZ', ?_, ?_, rfl⟩
   ·first | exact .refl _ | exact .drop | exact .fin | ((repeat refine .pick ?_); first | exact .refl _ | exact .emp _ | exact .fin)
   ·rw [← hw, ← he]; exact he0
   ·rw [hZv, ← hw]
   ·omega
  ·repeat' (first
    | (refine CallK.ret f_z10.ok (sync_spec (X := Z) hZ (by omega)) ?_; rintro v G ⟨Z', hZ', hZv, hZl, rfl, rfl⟩; rw [← he]; conv => whnf)
    | (refine CallK.thr f_zz.ok (asked_no he0) ?_; rintro c G ⟨rfl, rfl⟩; conv => whnf)
    | (refine spl_dec (fun hd => ?_) (fun hd => ?_) <;> first | (exfalso; omega) | (conv => whnf))
    | (refine Ld.i ?_; conv => whnf))
   refine ⟨_, ?_, .inr ⟨?_, ?_⟩, Z', hZ', ?_, ?_, rfl⟩
   ·first | exact .refl _ | exact .drop | exact .fin | ((repeat refine .pick ?_); first | exact .refl _ | exact .emp _ | exact .fin)
   ·rw [← hw, ← he]; exact he0
   ·rw [← hw, ← he]
   ·rw [hZv, ← hw]
   ·omega
theorem caught1_ok {W : World} {H : HProp} {bc be : Nat} : DDoes prog W f_zq ⟨[ptr bc, ptr be]⟩ .returning H (RetD fun _ u G => u = .returning ∧ G = H) := by
 refine DDoes.of_exec tab_ok f_zq.live f_zq.fn rfl rfl rfl (by simp) ?_
 skip
 exact ⟨_, _, rfl, Imp.refl _, rfl, rfl⟩
theorem caught1_no {W : World} {R : HProp} {bc be : Nat} {w : ByteArray} {z e : Int} {v : Value} {older : List PanicEntry} :
  DDoes prog W f_zq ⟨[ptr bc, ptr be]⟩ (.panicking (⟨refv z e, false, false⟩ :: older)) (pts bc (.cells ⟨[.string w]⟩ t_string) • pts be (.cells ⟨[v]⟩ t_error) • R)
   (RetD fun _ u G => ∃ b, u = .panicking (⟨refv z e, true, false⟩ :: older) ∧ G = (pts bc (.cells ⟨[.string w]⟩ t_string) • pts be (.cells ⟨[.iface t_z5 (ptr b)]⟩ t_error) • fltc b w z e • R)) := by
 refine DDoes.of_exec tab_ok f_zq.live f_zq.fn rfl rfl rfl (by simp) ?_
 repeat' (first
  | ((first | refine Ld.i ?_ | refine St.i ⟨rfl, rfl⟩ (List.cons_ne_nil _ _) ?_); conv => whnf)
  | (intro blk hblk; conv => whnf))
 refine ⟨_, _, rfl, ?_, blk, rfl, rfl⟩
 unfold fltc
 first | exact .refl _ | exact .drop | exact .fin | ((repeat refine .pick ?_); first | exact .refl _ | exact .emp _ | exact .fin)
theorem caught_spec {W : World} {H : HProp} {w : ByteArray} {g : FuncId} {cap : List Value} {e : Int} {P : HProp → Prop} (hg : Callable prog g)
  (h : ∀ bc be : Nat, Does prog W g ⟨cap⟩ (pts be (.cells ⟨[.nilIface]⟩ t_error) • pts bc (.cells ⟨[.string w]⟩ t_string) • H) (fun en G => ∃ G', Imp G G' ∧ AskQ e (fun G => ∃ G0, P G0 ∧ G = (pts be (.cells ⟨[.nilIface]⟩ t_error) • pts bc (.cells ⟨[.string w]⟩ t_string) • G0)) en G')) :
  Does prog W f_z2g ⟨[.string w, .func (.func g) #[] ⟨cap⟩]⟩ H (Ret fun v G => ∃ G0, P G0 ∧ ((e = 0 ∧ v = .nilIface ∧ G = G0) ∨ (e ≠ 0 ∧ ∃ b, v = .iface t_z5 (ptr b) ∧ G = (fltc b w 0 e • G0)))) := by
 refine f_z2g.does _ _ ?_
 conv => whnf
 repeat' (first
  | (intro blk hblk; conv => whnf))
 refine CallK.any hg (h _ _) ?_
 rintro en G ⟨⟨h0, rfl⟩ | ⟨h0, rfl⟩, G0, hP, rfl⟩
 ·conv => whnf
  repeat' (first
   | (refine St.i ⟨rfl, rfl⟩ (List.cons_ne_nil _ _) ?_; conv => whnf))
  refine LeaveD.ret tab_ok (by simp) f_zq.ok caught1_ok ?_
  rintro _ _ G ⟨rfl, rfl⟩
  conv => whnf
  repeat' (first
   | (refine Ld.i ?_; conv => whnf))
  refine ⟨_, _, rfl, ?_, G0, hP, .inl ⟨h0, rfl, rfl⟩⟩
  first | exact .refl _ | exact .drop | exact .fin | ((repeat refine .pick ?_); first | exact .refl _ | exact .emp _ | exact .fin)
 ·conv => whnf
  skip
  refine LeaveD.ret tab_ok (by simp) f_zq.ok (DDoes.imp (by first | exact .refl _ | exact .drop | exact .fin | ((repeat refine .pick ?_); first | exact .refl _ | exact .emp _ | exact .fin)) (caught1_no (w := w) (z := 0) (e := e) (v := .nilIface) (R := G0) (older := []))) ?_
  rintro _ _ G ⟨b, rfl, rfl⟩
  conv => whnf
  repeat' (first
   | (refine Ld.i ?_; conv => whnf))
  refine ⟨_, _, rfl, ?_, G0, hP, .inr ⟨h0, b, rfl, rfl⟩⟩
  first | exact .refl _ | exact .drop | exact .fin | ((repeat refine .pick ?_); first | exact .refl _ | exact .emp _ | exact .fin)
end Go.Proofs.YtgcknlpkhhpkjaaGreatDoor
/- A disk that does not give up, in plain words: what its sectors hold behind writes and syncs. Conditions: in each statement. -/
namespace Go.SL.Sec
open Go Go.SL
structure Dev.Calm (D : Dev) : Prop where
 down : D.down = false
 step : D.step = 0
theorem layAt_get {m b : List Int} {i : Int} (h : i.toNat * 512 + b.length ≤ m.length) (p : Nat) :
  (layAt m i b)[p]? = if p < i.toNat * 512 then m[p]? else if p < i.toNat * 512 + b.length then b[p - i.toNat * 512]? else m[p]? := by
 unfold layAt
 have h1 : (m.take (i.toNat * 512)).length = i.toNat * 512 := by rw [List.length_take]; omega
 by_cases c1 : p < i.toNat * 512
 ·rw [if_pos c1, List.append_assoc, List.getElem?_append_left (by omega), List.getElem?_take_of_lt c1]
 ·rw [if_neg c1]
  by_cases c2 : p < i.toNat * 512 + b.length
  ·rw [if_pos c2, List.append_assoc, List.getElem?_append_right (by omega), h1, List.getElem?_append_left (by omega)]
  ·rw [if_neg c2, List.getElem?_append_right (by rw [List.length_append]; omega), List.getElem?_drop, List.length_append, h1]
   congr 1; omega
theorem secOf_get (m : List Int) (i : Int) (p : Nat) : (secOf m i)[p]? = if p < 512 then m[i.toNat * 512 + p]? else none := by
 unfold secOf
 rw [List.getElem?_take]
 split
 ·rw [List.getElem?_drop]
 ·rfl
theorem secOf_same {m b : List Int} {i : Int} (h : i.toNat * 512 + 512 ≤ m.length) (hb : b.length = 512) : secOf (layAt m i b) i = b := by
 apply List.ext_getElem?
 intro p
 rw [secOf_get]
 by_cases c : p < 512
 ·rw [if_pos c, layAt_get (by omega), if_neg (by omega), if_pos (by omega)]
  congr 1; omega
 ·rw [if_neg c, List.getElem?_eq_none (by omega)]
theorem secOf_other {m b : List Int} {i j : Int} (hi : 0 ≤ i) (hj : 0 ≤ j) (hne : i ≠ j) (h : i.toNat * 512 + 512 ≤ m.length) (hb : b.length ≤ 512) : secOf (layAt m i b) j = secOf m j := by
 obtain ⟨x, rfl⟩ := Int.eq_ofNat_of_zero_le hi
 obtain ⟨y, rfl⟩ := Int.eq_ofNat_of_zero_le hj
 have hxy : x ≠ y := fun e => hne (by rw [e])
 apply List.ext_getElem?
 intro p
 rw [secOf_get, secOf_get]
 by_cases c : p < 512
 ·rw [if_pos c, if_pos c, layAt_get (by omega)]
  rw [Int.toNat_natCast, Int.toNat_natCast]
  by_cases c1 : y * 512 + p < x * 512
  ·rw [if_pos c1]
  ·have c2 : ¬ (y * 512 + p < x * 512 + b.length) := by
    rcases Nat.lt_or_gt_of_ne hxy with h1 | h1
    ·have h2 : (x + 1) * 512 ≤ y * 512 := Nat.mul_le_mul_right _ h1
     rw [Nat.succ_mul] at h2
     exact Nat.not_lt.2 (Nat.le_trans (Nat.add_le_add_left hb _) (Nat.le_trans h2 (Nat.le_add_right _ _)))
    ·have h2 : (y + 1) * 512 ≤ x * 512 := Nat.mul_le_mul_right _ h1
     rw [Nat.succ_mul] at h2
     exact absurd (Nat.lt_of_lt_of_le (Nat.add_lt_add_left c _) h2) c1
   rw [if_neg c1, if_neg c2]
 ·rw [if_neg c, if_neg c]
theorem flush_at : ∀ (q : List (Int × List Int)) (m : List Int), (∀ p ∈ q, 0 ≤ p.1 ∧ p.1.toNat * 512 + 512 ≤ m.length ∧ p.2.length = 512 ∧ Byt p.2) → ∀ i : Int, 0 ≤ i → secOf (flushG q m) i = (lastOf i q).getD (secOf m i)
 | [], m, _, i, _ => rfl
 | p :: q, m, hq, i, hi => by
  obtain ⟨h1, h2, h3, _⟩ := hq p List.mem_cons_self
  have hl := layAt_len (m := m) (i := p.1) (b := p.2) (by omega)
  have ih := flush_at q (layAt m p.1 p.2) (fun p' hp' => by rw [hl]; exact hq p' (List.mem_cons_of_mem _ hp')) i hi
  rw [flushG, ih, lastOf]
  cases lastOf i q with
  | some b => rfl
  | none =>
   dsimp only [Option.getD]
   by_cases e : p.1 = i
   ·rw [if_pos e, ← e]; exact secOf_same h2 h3
   ·rw [if_neg e]; exact secOf_other h1 hi e h2 (by omega)
theorem lastOf_snoc (j i : Int) (b : List Int) : ∀ q : List (Int × List Int), lastOf j (q ++ [(i, b)]) = if i = j then some b else lastOf j q
 | [] => by simp [lastOf]
 | p :: q => by
  rw [List.cons_append, lastOf, lastOf_snoc j i b q, lastOf]
  by_cases e : i = j
  ·rw [if_pos e, if_pos e]
  ·rw [if_neg e, if_neg e]
theorem Dev.write_calm {D : Dev} (hD : D.Calm) {i : Int} {b : List Int} (h : 0 ≤ i ∧ i < D.secs) (hb : b.length = 512) : D.write i b = (0, { D.counted with q := D.q ++ [(i, b)] }) := by
 unfold Dev.write
 rw [if_neg (by rw [hD.down]; decide), if_neg (by omega), if_neg (by omega), if_neg (by unfold Dev.crashes; rw [hD.step]; decide)]
theorem Dev.counted_calm {D : Dev} (hD : D.Calm) : D.counted.Calm := ⟨hD.down, by unfold Dev.counted; dsimp only; rw [if_pos hD.step]⟩
theorem Dev.sync_calm {D : Dev} (hD : D.Calm) : D.sync = (0, { D.counted with img := flushG D.q D.img, q := [] }) := by
 unfold Dev.sync
 rw [if_neg (by rw [hD.down]; decide), if_neg (by unfold Dev.crashes; rw [hD.step]; decide)]
structure Dev.To (D D' : Dev) (f : Int → Option (List Int)) : Prop where
 calm : D'.Calm
 ok : D'.Ok
 len : D'.img.length = D.img.length
 sec : ∀ j : Int, 0 ≤ j → D'.at j = (f j).getD (D.at j)
theorem Dev.To.secs {D D' : Dev} {f : Int → Option (List Int)} (h : D.To D' f) : D'.secs = D.secs := by unfold Dev.secs; rw [h.len]
theorem Dev.To.refl {D : Dev} (hc : D.Calm) (ho : D.Ok) : D.To D (fun _ => none) := ⟨hc, ho, rfl, fun _ _ => rfl⟩
theorem Dev.To.trans {A B C : Dev} {f g : Int → Option (List Int)} (h : A.To B f) (k : B.To C g) : A.To C (fun j => (g j).or (f j)) :=
 ⟨k.calm, k.ok, k.len.trans h.len, fun j hj => by
  rw [k.sec j hj, h.sec j hj]
  cases g j <;> rfl⟩
theorem Dev.To.same {A B : Dev} {f g : Int → Option (List Int)} (h : A.To B f) (k : ∀ j, 0 ≤ j → (f j).getD (A.at j) = (g j).getD (A.at j)) : A.To B g := ⟨h.calm, h.ok, h.len, fun j hj => (h.sec j hj).trans (k j hj)⟩
theorem Dev.To.write {D : Dev} (hD : D.Calm) (ho : D.Ok) {i : Int} {b : List Int} (h : 0 ≤ i ∧ i < D.secs) (hb : b.length = 512) (hy : Byt b) : (D.write i b).1 = 0 ∧ D.To (D.write i b).2 (fun j => if j = i then some b else none) := by
 have hw := ho.write (i := i) hy
 rw [Dev.write_calm hD h hb] at hw ⊢
 refine ⟨rfl, ⟨hD.down, (Dev.counted_calm hD).step⟩, hw, rfl, fun j hj => ?_⟩
 unfold Dev.at
 dsimp only
 rw [lastOf_snoc]
 by_cases e : i = j
 ·rw [if_pos e, if_pos e.symm]; rfl
 ·rw [if_neg e, if_neg (fun k => e k.symm)]; rfl
theorem Dev.To.sync {D : Dev} (hD : D.Calm) (ho : D.Ok) : D.sync.1 = 0 ∧ D.To D.sync.2 (fun _ => none) := by
 have hw := ho.sync
 rw [Dev.sync_calm hD] at hw ⊢
 refine ⟨rfl, ⟨hD.down, (Dev.counted_calm hD).step⟩, hw, (flushG_ok D.q D.img ho.q ho.byt).1, fun j hj => ?_⟩
 unfold Dev.at
 dsimp only [Option.getD_none]
 rw [flush_at D.q D.img ho.q j hj]
 rfl
end Go.SL.Sec
namespace Go.SL.Twn
open Go Go.SL Go.SL.Sec Go.SL.Fld Go.SL.Rec
theorem pws_calm (at_ : Int) (b : List Int) : ∀ (n i : Nat) (D : Dev), D.Calm → D.Ok → 0 ≤ at_ → at_ + i + n ≤ D.secs → b.length = 512 * (i + n) → Byt b →
  (pws at_ b n i D).1 = 0 ∧ D.To (pws at_ b n i D).2 (fun j => if at_ + i ≤ j ∧ j < at_ + i + n then some ((b.drop (512 * (j - at_).toNat)).take 512) else none)
 | 0, i, D, hD, ho, h0, hs, hb, hy => by
  obtain ⟨h1, h2⟩ := Dev.To.sync hD ho
  refine ⟨h1, h2.same fun j hj => ?_⟩
  rw [if_neg (by omega)]
 | n + 1, i, D, hD, ho, h0, hs, hb, hy => by
  have hS : ((b.drop (512 * i)).take 512).length = 512 := by rw [List.length_take, List.length_drop]; omega
  obtain ⟨h1, h2⟩ := Dev.To.write hD ho (i := at_ + i) (b := (b.drop (512 * i)).take 512) (by omega) hS ((hy.drop _).take _)
  rw [pws, if_pos h1]
  obtain ⟨h3, h4⟩ := pws_calm at_ b n (i + 1) _ h2.calm h2.ok h0 (by rw [h2.secs]; omega) (by omega) hy
  refine ⟨h3, (h2.trans h4).same fun j hj => ?_⟩
  by_cases c1 : at_ + (i + 1 : Nat) ≤ j ∧ j < at_ + (i + 1 : Nat) + n
  ·rw [if_pos c1, if_pos (show at_ + (i : Int) ≤ j ∧ j < at_ + i + ((n + 1 : Nat) : Int) by omega)]; rfl
  ·rw [if_neg c1]
   by_cases c2 : j = at_ + i
   ·rw [if_pos c2, if_pos (by omega), show (j - at_).toNat = i by omega]; rfl
   ·rw [if_neg c2, if_neg (by omega)]; rfl
theorem twW_calm {D : Dev} {h : Int} {b : List Int} (hD : D.Calm) (ho : D.Ok) (hh : 5 ≤ h ∧ h + 2 ≤ D.secs) (hb : b.length = 1024) (hy : Byt b) :
  (twW D 2 h b).1 = 0 ∧ ∃ f, D.To (twW D 2 h b).2 f ∧ ∀ j, 5 ≤ j → f j = if j = h then some (b.take 512) else if j = h + 1 then some (b.drop 512) else none := by
 have lm : ∀ st, (mark h st).length = 512 := fun st => by unfold mark mark4; rw [List.length_set, putB_len (by rw [t512_len]; omega), t512_len]
 have bm : ∀ st, 0 ≤ st ∧ st < 256 → Byt (mark h st) := fun st k => Byt.set mark4_byt k
 unfold twW
 rw [if_neg (by rw [hD.down]; decide), if_neg (fun k => k ⟨⟨by omega, by omega, by omega⟩, ⟨by omega, by omega, by omega⟩, by omega⟩), if_neg (fun k => k hb)]
 dsimp only
 obtain ⟨a1, b1⟩ := pws_calm (2 + 1) b 2 0 D hD ho (by omega) (by omega) (by omega) hy
 rw [if_neg (fun k => k a1)]
 obtain ⟨a2, b2⟩ := pws_calm 2 (mark h 165) 1 0 _ b1.calm b1.ok (by omega) (by rw [b1.secs]; omega) (by rw [lm]) (bm _ (by omega))
 rw [if_neg (fun k => k a2)]
 obtain ⟨a3, b3⟩ := pws_calm h b 2 0 _ b2.calm b2.ok (by omega) (by rw [b2.secs, b1.secs]; omega) (by omega) hy
 rw [if_neg (fun k => k a3)]
 obtain ⟨a4, b4⟩ := pws_calm 2 (mark h 0) 1 0 _ b3.calm b3.ok (by omega) (by rw [b3.secs, b2.secs, b1.secs]; omega) (by rw [lm]) (bm _ (by omega))
 refine ⟨a4, _, ((b1.trans b2).trans b3).trans b4, fun j hj => ?_⟩
 rw [if_neg (by omega), Option.none_or]
 by_cases c1 : j = h
 ·rw [if_pos c1, if_pos (by omega), show (j - h).toNat = 0 by omega]; rfl
 ·rw [if_neg c1]
  by_cases c2 : j = h + 1
  ·rw [if_pos c2, if_pos (by omega), show (j - h).toNat = 1 by omega, List.take_of_length_le (by rw [List.length_drop]; omega)]; rfl
  ·rw [if_neg c2, if_neg (by omega), if_neg (by omega), if_neg (by omega)]; rfl
end Go.SL.Twn
namespace Go.SL.Rec
open Go Go.SL Go.SL.Sec Go.SL.Fld
theorem wrs_calm (first : Int) : ∀ (l : List (List Int)) (n : Nat) (D : Dev), D.Calm → D.Ok → 0 ≤ first + n - 1 → first + n - 1 + l.length ≤ D.secs → (∀ b ∈ l, Byt b ∧ b.length ≤ 505) →
  (wrs first n l D).1 = 0 ∧ D.To (wrs first n l D).2 (fun j => if first + n - 1 ≤ j then (l[(j - (first + n - 1)).toNat]?).map (laidB (j - first + 1)) else none)
 | [], n, D, hD, ho, h0, hs, hb => by
  obtain ⟨h1, h2⟩ := Dev.To.sync hD ho
  refine ⟨h1, h2.same fun j hj => ?_⟩
  simp
 | b :: l, n, D, hD, ho, h0, hs, hb => by
  rw [List.length_cons] at hs
  obtain ⟨hby, hbl⟩ := hb b List.mem_cons_self
  obtain ⟨h1, h2⟩ := Dev.To.write hD ho (i := first + n - 1) (b := laidB n b) (by omega) (laidB_len hbl) (laidB_byt hby)
  rw [wrs, if_pos h1]
  obtain ⟨h3, h4⟩ := wrs_calm first l (n + 1) _ h2.calm h2.ok (by omega) (by rw [h2.secs]; omega) fun x hx => hb x (List.mem_cons_of_mem _ hx)
  refine ⟨h3, (h2.trans h4).same fun j hj => ?_⟩
  by_cases c1 : first + (n + 1 : Nat) - 1 ≤ j
  ·rw [if_pos c1, if_neg (by omega), if_pos (by omega), show (j - (first + n - 1)).toNat = (j - (first + (n + 1 : Nat) - 1)).toNat + 1 by omega, List.getElem?_cons_succ]
   cases (l[(j - (first + (n + 1 : Nat) - 1)).toNat]?) <;> rfl
  ·rw [if_neg c1]
   by_cases c2 : j = first + n - 1
   ·rw [if_pos c2, if_pos (by omega), show (j - (first + n - 1)).toNat = 0 by omega, show j - first + 1 = n by omega]; rfl
   ·rw [if_neg c2, if_neg (by omega)]; rfl
end Go.SL.Rec
/- The program's log.Force, walked. Conditions: in each statement. -/
namespace Go.Proofs.YtgcknlpkhhpkjaaGreatDoor
open Go Go.SL Go.SL.Sec Go.SL.Fld Go.SL.Pts Go.SL.Rec
open Go.SL.Und (RecV recv fits)
theorem Does.ask {W : World} {g : FuncId} {args : Array Value} {H : HProp} {e : Int} {P P' : HProp → Prop} (h : Does prog W g args H (fun en G => ∃ G', Imp G G' ∧ AskQ e P en G')) (k : ∀ G, P G → ∃ G', Imp G G' ∧ P' G') : Does prog W g args H (fun en G => ∃ G', Imp G G' ∧ AskQ e P' en G') :=
 ⟨fun w hs => (h.run w hs).mono fun en _ ⟨X, hx, G, hi, ha, hp⟩ => let ⟨G', hi', hp'⟩ := k G hp; ⟨X, hx, G', hi.trans hi', ha, hp'⟩⟩
theorem big_drop {α : Type} (f : α → HProp) (l : List α) (m : Nat) : Imp (bigL f l) (bigL f (l.drop m)) := by
 have := bigL_append f (l.take m) (l.drop m)
 rw [List.take_append_drop] at this
 rw [this]; exact Imp.drop
theorem force_down {W : World} {H R : HProp} {l : Nat} {X : LogX} {n : Int} [t : ObjC logo H l X R] {b : Nat} {z e : Int} (he : X.err = some (b, z, e)) :
  Does prog W f_z3 ⟨[ptr l, .int .i64 n]⟩ H (Ret fun v G => ∃ b, v = .iface t_z5 (ptr b) ∧ G = (fltc b wForce 0 40 • logo l X • R)) := by
 rw [t.h.eq]
 rw [logo_eq, he]
 unfold errv errc
 refine f_z3.does _ _ ?_
 conv => whnf
 repeat' (first
  | (refine Ld.i ?_; conv => whnf)
  | (intro blk hblk; conv => whnf))
 refine ⟨_, _, rfl, ?_, blk, rfl, rfl⟩
 unfold fltc
 first | exact .refl _ | exact .drop | exact .fin | ((repeat refine .pick ?_); first | exact .refl _ | exact .emp _ | exact .fin)
theorem force_place {W : World} {H R : HProp} {l : Nat} {X : LogX} {n : Int} [t : ObjC logo H l X R] (he : X.err = none) (hn : n < 0 ∨ n > X.recs.length) :
  Does prog W f_z3 ⟨[ptr l, .int .i64 n]⟩ H (Ret fun v G => ∃ b, v = .iface t_z5 (ptr b) ∧ G = (fltc b wForce 0 4 • logo l X • R)) := by
 rw [t.h.eq]
 have hev : errv X.err = .nilIface := by rw [he]; rfl
 refine f_z3.does _ _ ?_
 conv => whnf
 repeat' (first
  | (refine spl_dec (fun hd => ?_) (fun hd => ?_) <;> first | (exfalso; omega) | (conv => whnf))
  | (refine Ld.i ?_; conv => whnf)
  | (intro blk hblk; conv => whnf)
  | (rw [hev]; conv => whnf)
  | (refine DrawK.introH tab_ok mixed 15 f_z3.last3 f_z3.plan3 _ rfl (by kernel_rfl) (Sub.of (by first | exact .refl _ | exact .drop | exact .fin | ((repeat refine .pick ?_); first | exact .refl _ | exact .emp _ | exact .fin))) ?_; conv => whnf))
 all_goals
  refine ⟨_, _, rfl, ?_, blk, rfl, rfl⟩
  unfold fltc
  first | exact .refl _ | exact .drop | exact .fin | ((repeat refine .pick ?_); first | exact .refl _ | exact .emp _ | exact .fin)
theorem force_idle {W : World} {H R : HProp} {l : Nat} {X : LogX} {n : Int} [t : ObjC logo H l X R] (he : X.err = none) (hn : 0 ≤ n ∧ n ≤ X.forced ∧ n ≤ X.recs.length) :
  Does prog W f_z3 ⟨[ptr l, .int .i64 n]⟩ H (Ret fun v G => v = .nilIface ∧ G = (logo l X • R)) := by
 rw [t.h.eq]
 have hev : errv X.err = .nilIface := by rw [he]; rfl
 refine f_z3.does _ _ ?_
 conv => whnf
 repeat' (first
  | (refine spl_dec (fun hd => ?_) (fun hd => ?_) <;> first | (exfalso; omega) | (conv => whnf))
  | (refine Ld.i ?_; conv => whnf)
  | (intro blk hblk; conv => whnf)
  | (rw [hev]; conv => whnf)
  | (refine DrawK.introH tab_ok mixed 15 f_z3.last3 f_z3.plan3 _ rfl (by kernel_rfl) (Sub.of (by first | exact .refl _ | exact .drop | exact .fin | ((repeat refine .pick ?_); first | exact .refl _ | exact .emp _ | exact .fin))) ?_; conv => whnf)
  | (refine DrawK.introH tab_ok mixed 30 f_z3.last5 f_z3.plan5 _ rfl (by kernel_rfl) (Sub.of (by first | exact .refl _ | exact .drop | exact .fin | ((repeat refine .pick ?_); first | exact .refl _ | exact .emp _ | exact .fin))) ?_; conv => whnf))
 refine Ret.eq rfl ?_
 first | exact .refl _ | exact .drop | exact .fin | ((repeat refine .pick ?_); first | exact .refl _ | exact .emp _ | exact .fin)
theorem force_go {W : World} {H R : HProp} {l d m : Nat} {X : LogX} {Y : DevX} (hH : H = (logo l X • devo d Y • R)) (hX : X.Ok) (hY : Y.Ok) (hq : Y.ps.length ≤ 500000) (hxd : X.d = d) (hf : 0 ≤ X.first ∧ X.first ≤ 8192) (he : X.err = none) (hm : 1 ≤ m ∧ m ≤ X.bys.length) :
  Does prog W f_z3 ⟨[ptr l, .int .i64 ((X.forced + m : Nat) : Int)]⟩ H (Ret fun v G => ∃ (X' : LogX) (Y' : DevX), X'.d = X.d ∧ X'.Ok ∧ Y'.Ok ∧ Y'.ps.length ≤ Y.ps.length + m ∧ Y'.val = (wrs X.first (X.forced + 1) (X.val.bys.take m) Y.val).2 ∧ G = (logo l X' • devo d Y' • R) ∧
   (((wrs X.first (X.forced + 1) (X.val.bys.take m) Y.val).1 = 0 ∧ v = .nilIface ∧ X'.val = { X.val with bys := X.val.bys.drop m, forced := X.forced + m }) ∨
       ((wrs X.first (X.forced + 1) (X.val.bys.take m) Y.val).1 ≠ 0 ∧ ∃ b, v = .iface t_z5 (ptr b) ∧ X' = { X with err := some (b, 0, (wrs X.first (X.forced + 1) (X.val.bys.take m) Y.val).1) }))) := by
 subst hH
 have hev : errv X.err = .nilIface := by rw [he]; rfl
 have hlen := hX.len
 have hcnt := hX.cnt
 have hbl := hX.bl
 obtain ⟨RR, hRR⟩ : ∃ RR, RR = wrs X.first (X.forced + 1) (X.val.bys.take m) Y.val := ⟨_, rfl⟩
 rw [← hRR]
 refine f_z3.does _ _ ?_
 conv => whnf
 repeat' (first
  | (refine spl_dec (fun hd => ?_) (fun hd => ?_) <;> first | (exfalso; omega) | (conv => whnf))
  | (refine Ld.i ?_; conv => whnf)
  | (intro blk hblk; conv => whnf)
  | (rw [hev]; conv => whnf)
  | (refine DrawK.introH tab_ok mixed 15 f_z3.last3 f_z3.plan3 _ rfl (by kernel_rfl) (Sub.of (by first | exact .refl _ | exact .drop | exact .fin | ((repeat refine .pick ?_); first | exact .refl _ | exact .emp _ | exact .fin))) ?_; conv => whnf)
  | (refine DrawK.introH tab_ok mixed 30 f_z3.last5 f_z3.plan5 _ rfl (by kernel_rfl) (Sub.of (by first | exact .refl _ | exact .drop | exact .fin | ((repeat refine .pick ?_); first | exact .refl _ | exact .emp _ | exact .fin))) ?_; conv => whnf))
 rename_i b1 _ _
 obtain ⟨b2, hb2⟩ : ∃ b2, b2 = blk := ⟨_, rfl⟩
 rw [← hb2]
 refine CallK.ret f_z2g.ok (caught_spec (w := wForce) (e := RR.1) (P := fun G0 => ∃ Y' : DevX, Y'.Ok ∧ Y'.val = RR.2 ∧ Y'.ps.length ≤ Y.ps.length + m ∧ G0 = (devo d Y' • pts b1 (.cells ⟨[ptr l]⟩ t_z2d) • pts b2 (.cells ⟨[.int .i64 ((X.forced + m : Nat) : Int)]⟩ t_int) • logo l X • R)) f_z1k.ok (fun bc be => ?_)) ?_
 ·refine Does.imp (H' := pts b1 (.cells ⟨[ptr l]⟩ t_z2d) • pts b2 (.cells ⟨[.int .i64 ((X.forced + m : Nat) : Int)]⟩ t_int) • logo l X • devo d Y • pts be (.cells ⟨[.nilIface]⟩ t_error) • pts bc (.cells ⟨[.string wForce]⟩ t_string) • R) (by first | exact .refl _ | exact .drop | exact .fin | ((repeat refine .pick ?_); first | exact .refl _ | exact .emp _ | exact .fin)) ?_
  have hfs := force1_spec (W := W) (R := pts be (.cells ⟨[.nilIface]⟩ t_error) • pts bc (.cells ⟨[.string wForce]⟩ t_string) • R) (bl := b1) (bn := b2) (l := l) (d := d) hX hY hq hxd hf hm.2
  rw [← hRR] at hfs
  refine Does.ask hfs ?_
  rintro G ⟨Y', h1, h2, h3, rfl⟩
  refine ⟨_, ?_, _, ⟨Y', h1, h2, h3, rfl⟩, rfl⟩
  first | exact .refl _ | exact .drop | exact .fin | ((repeat refine .pick ?_); first | exact .refl _ | exact .emp _ | exact .fin)
 rintro v G ⟨G0, ⟨Y', hY1, hY2, hY3, rfl⟩, ⟨h0, rfl, rfl⟩ | ⟨h0, b, rfl, rfl⟩⟩
 ·rw [logo_eq]
  conv => whnf
  repeat' (first
   | ((first | refine Ld.i ?_ | refine St.i ⟨rfl, rfl⟩ (List.cons_ne_nil _ _) ?_ | refine Ar.i64 (by omega) ?_ | refine OpQ.slr tab_ok m rfl rfl rfl rfl (by omega) (by omega) ?_); conv => whnf)
   | (refine DrawK.introH tab_ok mixed 45 f_z3.last11 f_z3.plan11 _ rfl (by kernel_rfl) (Sub.of (by first | exact .refl _ | exact .drop | exact .fin | ((repeat refine .pick ?_); first | exact .refl _ | exact .emp _ | exact .fin))) ?_; conv => whnf))
  refine ⟨_, _, rfl, ?_, { X with ba := dropA X.ba m X.bc 1, bc := X.bc - m, bys := X.bys.drop m, forced := X.forced + m }, Y', rfl, ⟨hcnt, hX.recs, hlen, by simp; omega, fun x hx => hX.byt x (List.mem_of_mem_drop hx)⟩, hY1, hY3, hY2, rfl, .inl ⟨h0, rfl, ?_⟩⟩
  ·rw [logo_eq]
   dsimp only
   rw [List.length_drop, hev, he]
   refine Imp.pick (Imp.pick (Imp.pick (Imp.vdrop (xs := X.bys) m hm.2 ?_)))
   refine Imp.trans (Q := bigL bytc X.bys • errc none • devo d Y' • R) (by rw [← he]; first | exact .refl _ | exact .drop | exact .fin | ((repeat refine .pick ?_); first | exact .refl _ | exact .emp _ | exact .fin)) ((big_drop bytc X.bys m).star (Imp.refl _))
  ·simp [LogX.val, List.map_drop]
 ·rw [logo_eq]
  conv => whnf
  repeat' (first
   | ((first | refine Ld.i ?_ | refine St.i ⟨rfl, rfl⟩ (List.cons_ne_nil _ _) ?_); conv => whnf))
  refine ⟨_, _, rfl, ?_, { X with err := some (b, 0, RR.1) }, Y', rfl, ⟨hcnt, hX.recs, hlen, hbl, hX.byt⟩, hY1, hY3, hY2, rfl, .inr ⟨h0, b, rfl, ?_⟩⟩
  ·rw [logo_eq]
   show Imp _ (pts l (.cells ⟨[ptr X.d, .int .i64 X.first, .int .i64 X.count, .slice X.ra X.recs.length X.rc, .slice X.ba X.bys.length X.bc, .int .i64 X.forced, .iface t_z5 (ptr b)]⟩ t_log_Log) •
    vec t_z1n 17 recx X.ra X.rc X.recs • bigL recc X.recs • vec t_S_uint8 1 bytx X.ba X.bc X.bys • bigL bytc X.bys • fltc b wForce 0 RR.1 • devo d Y' • R)
   first | exact .refl _ | exact .drop | exact .fin | ((repeat refine .pick ?_); first | exact .refl _ | exact .emp _ | exact .fin)
  ·rfl
end Go.Proofs.YtgcknlpkhhpkjaaGreatDoor
/- The pool, in plain words. No condition. -/
namespace Go.SL.Pool
open Go Go.SL Go.SL.Sec Go.SL.Fld Go.SL.Rec Go.SL.Twn Go.SL.Pg
structure FrM where
 pg : PgM
 pins : Int
 dirty : Bool
 since : Int
 used : Int
structure PoolM where
 pages : Int
 log : Int
 frames : Int
 held : List (Int × FrM)
 clock : Int
 ended : Bool
structure Sto where
 P : PoolM
 L : LogM
 D : Dev
def PoolM.gone (P : PoolM) : PoolM := { P with held := [], ended := true }
def Sto.ends (S : Sto) : Sto := { S with P := S.P.gone }
def PoolM.put (P : PoolM) (n : Int) (f : FrM) : PoolM := { P with held := updKV n f P.held }
def PoolM.use (P : PoolM) (n : Int) (f : FrM) : PoolM := { P with held := updKV n { f with used := P.clock + 1 } P.held, clock := P.clock + 1 }
def Sto.seen (S : Sto) (e : Int) : Sto := if e = 40 then S.ends else S
def PoolM.place (P : PoolM) (n : Int) : Int := if P.ended then 40 else if n < 0 ∨ n ≥ P.pages then 4 else 0
def Sto.write (S : Sto) (n : Int) (f : FrM) : Int × Sto :=
 if f.dirty = false then (0, S) else
 let r := S.L.force S.D f.pg.lsn
 if r.1 ≠ 0 then (r.1, Sto.seen ⟨S.P, r.2.1, r.2.2⟩ r.1) else
 let t := twW r.2.2 2 (5 + 2 * n) (encP f.pg)
 if t.1 ≠ 0 then (t.1, Sto.seen ⟨S.P, r.2.1, t.2⟩ t.1) else (0, ⟨S.P.put n { f with dirty := false, since := 0 }, r.2.1, t.2⟩)
def PoolM.del (P : PoolM) (n : Int) : PoolM := { P with held := delKV n P.held }
def Sto.leave (S : Sto) (n : Int) (f : FrM) : Int × Sto :=
 if (S.write n f).1 ≠ 0 then S.write n f else (0, { (S.write n f).2 with P := (S.write n f).2.P.del n })
def oldG : List (Int × FrM) → Option (Int × FrM) → Option (Int × FrM)
 | [], o => o
 | p :: l, o => oldG l (if p.2.pins = 0 then match o with
   | none => some p
   | some q => if p.2.used < q.2.used then some p else some q
  else o)
def oldest (l : List (Int × FrM)) : Option (Int × FrM) := oldG l none
def Sto.load (S : Sto) (n : Int) : Int × Sto :=
 if S.D.down then (40, S.ends) else
 let d := decP (S.D.at (5 + 2 * n) ++ S.D.at (5 + 2 * n + 1)) n
 if d.1 ≠ 0 then (d.1, S) else (0, { S with P := S.P.use n ⟨d.2, 0, false, 0, 0⟩ })
def Sto.get (S : Sto) (n : Int) : Int × Sto :=
 if S.P.place n ≠ 0 then (S.P.place n, S) else
 match S.P.held.lookup n with
 | some f => (0, { S with P := S.P.use n f })
 | none =>
  if (S.P.held.length : Int) ≥ S.P.frames then
   match oldest S.P.held with
   | none => (6, S)
   | some o => if (S.leave o.1 o.2).1 ≠ 0 then S.leave o.1 o.2 else (S.leave o.1 o.2).2.load n
  else S.load n
def Sto.put (S : Sto) (x : PgM) : Int × Sto :=
 if S.P.place x.num ≠ 0 then (S.P.place x.num, S) else if x.fault ≠ 0 then (x.fault, S) else
 match S.P.held.lookup x.num with
 | none => (101, S)
 | some f => if x.lsn ≤ f.pg.lsn ∨ x.lsn > S.L.recs.length then (4, S) else
  (0, { S with P := S.P.use x.num { f with pg := x, dirty := true, since := if f.dirty then f.since else x.lsn } })
def Sto.pin (S : Sto) (n : Int) : Int × Sto :=
 let r := S.get n
 if r.1 ≠ 0 then r else match r.2.P.held.lookup n with
  | none => r
  | some f => (0, { r.2 with P := r.2.P.put n { f with pins := f.pins + 1 } })
def PoolM.there (P : PoolM) (n : Int) : Int := if P.place n ≠ 0 then P.place n else if (P.held.lookup n).isSome then 0 else 101
def Sto.unpin (S : Sto) (n : Int) : Int × Sto :=
 if S.P.place n ≠ 0 then (S.P.place n, S) else match S.P.held.lookup n with
 | none => (101, S)
 | some f => if f.pins = 0 then (101, S) else (0, { S with P := S.P.put n { f with pins := f.pins - 1 } })
def Sto.evict (S : Sto) (n : Int) : Int × Sto :=
 if S.P.place n ≠ 0 then (S.P.place n, S) else match S.P.held.lookup n with
 | none => (101, S)
 | some f => if f.pins > 0 then (100, S) else S.leave n f
def Sto.flush (S : Sto) (n : Int) : Int × Sto :=
 if S.P.place n ≠ 0 then (S.P.place n, S) else match S.P.held.lookup n with
 | none => (101, S)
 | some f => S.write n f
def PoolM.dirtyL (P : PoolM) (keys : List Int) : List (Int × Int) := keys.filterMap fun n => match P.held.lookup n with
 | some f => if f.dirty then some (n, f.since) else none
 | none => none
end Go.SL.Pool
