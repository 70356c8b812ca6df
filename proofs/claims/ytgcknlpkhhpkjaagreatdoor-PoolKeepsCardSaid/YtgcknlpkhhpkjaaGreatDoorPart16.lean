/- The program's disk: syncs, crashes, arming, new ones. Conditions: in each statement. -/
import Derived.Test.YtgcknlpkhhpkjaaGreatDoorPart15
import Derived.Test.YtgcknlpkhhpkjaaGreatDoorPart11
import Derived.Test.YtgcknlpkhhpkjaaGreatDoorPart7
namespace Go.Proofs.YtgcknlpkhhpkjaaGreatDoor
open Go Go.SL Go.SL.Sec
def DevX.flushed (X : DevX) : DevX := { X with calls := wr (X.calls + 1), step := if X.step = 0 then 0 else X.step - 1, img := flushG X.val.q X.img, qa := none, qc := 0, ps := [] }
theorem flushed_val (X : DevX) : X.flushed.val = { X.val.counted with img := flushG X.val.q X.val.img, q := [] } := by
 simp [DevX.flushed, DevX.val, Dev.counted]
 rfl
theorem sync_spec {W : World} {H R : HProp} {d : Nat} {X : DevX} [t : DevC H d X R] (hX : X.Ok) (hq : X.ps.length ≤ 1000000) :
  Does prog W f_z10 ⟨[ptr d]⟩ H (Ret fun v G => ∃ X', X'.Ok ∧ X'.val = X.val.sync.2 ∧ X'.ps.length ≤ X.ps.length ∧ v = .int .i64 X.val.sync.1 ∧ G = (devo d X' • R)) := by
 rw [t.h.eq]
 have hw := hX.val.sync
 unfold Dev.sync at hw ⊢
 have hl := hX.len
 have hcnt : ({ X with calls := wr (X.calls + 1), step := if X.step = 0 then 0 else X.step - 1 } : DevX).Ok := ⟨hX.val.counted, hX.ic, hX.caps⟩
 refine f_z10.does _ ?_
 conv => whnf
 by_cases h1 : X.down = true
 ·have h1' : X.val.down = true := h1
  rw [if_pos h1'] at hw ⊢
  repeat' (first
   | ((first | refine spl_t h1 ?_ | refine Ld.i ?_); conv => whnf))
  exact ⟨_, _, rfl, Imp.refl _, X, hX, rfl, by omega, rfl, rfl⟩
 have h1' : ¬ X.val.down = true := h1
 have h1f : X.down = false := by simpa using h1
 rw [if_neg h1'] at hw ⊢
 repeat' (first
  | (refine spl_f h1f ?_; conv => whnf)
  | (refine spl_dec (fun hd => ?_) (fun hd => ?_) <;> first | (exfalso; omega) | (conv => whnf))
  | ((first | refine Ld.i ?_ | refine LdN.i ?_); conv => whnf)
  | (refine CallK.ret f_z3f.ok (crashes_spec (by first | rfl | assumption | omega | decide | (simp; done) | (simp; omega) | (simp at *; omega))) ?_; rintro v G ⟨rfl, rfl⟩; conv => whnf))
 ·have hc2 : X.val.crashes = true := decide_eq_true hd
  rw [if_pos hc2] at hw ⊢
  repeat' (first
   | (refine CallK.ret f_zh.ok ((fallo_spec hcnt hq)) ?_; rintro v G ⟨rfl, rfl⟩; conv => whnf))
  exact ⟨_, _, rfl, Imp.refl _, _, fell_ok hcnt _ _ _, rfl, by simp [DevX.fell], rfl, rfl⟩
 ·have hc2 : ¬ X.val.crashes = true := fun h => hd (of_decide_eq_true h)
  rw [if_neg hc2] at hw ⊢
  have hqv := hX.val.q
  have hfl := flushG_ok X.val.q X.img hX.val.q hX.val.byt
  have hOk : X.flushed.Ok := ⟨by rw [flushed_val]; exact hw, by show (flushG X.val.q X.img).length ≤ X.ic; rw [hfl.1]; exact hX.ic, fun p hp => (by cases hp)⟩
  have hgo : ∀ (e : Ending) (H : HProp), Ret (fun v G => v = i0 ∧ G = (devo d X.flushed • R)) e H → Ret (fun v G => ∃ X', X'.Ok ∧ X'.val = { X.val.counted with img := flushG X.val.q X.val.img, q := [] } ∧ X'.ps.length ≤ X.ps.length ∧ v = i0 ∧ G = (devo d X' • R)) e H :=
   fun e H ⟨v, G, h1, h2, h3, h4⟩ => ⟨v, G, h1, h2, X.flushed, hOk, flushed_val X, by simp [DevX.flushed], h3, h4⟩
  rw [devo_eq]
  dsimp only
  obtain ⟨qa, hqa⟩ : ∃ qa, qa = X.qa := ⟨_, rfl⟩
  obtain ⟨Q, hQ⟩ : ∃ Q, Q = X.val.q := ⟨_, rfl⟩
  rw [← hqa]
  rw [← hQ] at hqv hfl
  have hQl : Q.length = X.ps.length := by rw [hQ]; simp [DevX.val]
  refine LoopK.at tab_ok (L := f_z10.live) (ι := Nat × List Int) (fun i => i.1 ≤ X.ps.length ∧ i.2.length = X.img.length ∧ flushG (Q.drop i.1) i.2 = flushG Q X.img)
   (fun i => [(22, .int .i64 i.1)]) (fun i => vec t_uint8 1 bytv X.ia X.ic i.2) (fun i => X.ps.length - i.1) (0, X.img) ⟨by simp, rfl, by simp⟩ (fun t v h => h) (Imp.pick (Imp.refl _)) ?_
  rintro ⟨i, m⟩ ⟨hi, hm, hf⟩
  dsimp only at hi hm hf ⊢
  conv => whnf
  by_cases h1 : i < X.ps.length
  ·obtain ⟨p, hp⟩ : ∃ p, X.ps[i]? = some p := ⟨_, List.getElem?_eq_getElem h1⟩
   have hpq : Q[i]? = some (p.sec, p.b) := by rw [hQ]; simp [DevX.val, hp]
   obtain ⟨q1, q2, q3, q4⟩ := hqv _ (List.mem_of_getElem? hpq)
   dsimp only at q1 q2 q3 q4
   have q2' : p.sec.toNat * 512 + 512 ≤ X.img.length := q2
   rw [drop_of hpq, flushG] at hf
   haveI mp : MemC X.ps p := ⟨List.mem_of_getElem? hp⟩
   have hic := hX.ic
   repeat' (first
    | (refine spl_dec (fun hd => ?_) (fun hd => ?_) <;> first | (exfalso; omega) | (conv => whnf))
    | ((first | refine Ld.i ?_ | refine St.i ⟨rfl, rfl⟩ (List.cons_ne_nil _ _) ?_ | refine Ar.i64 (by omega) ?_); conv => whnf)
    | (intro blk hblk; conv => whnf)
    | (refine IxS.r (i := i) (xs := X.ps) rfl rfl h1 (fun ab off' ha => ?_); subst ha; conv => whnf)
    | ((first | refine LdN.r hp rfl ?_ | refine OpX.cpyW (ys := p.b) tab_ok inferInstance rfl rfl rfl rfl rfl (by omega) (by omega) ?_); conv => whnf)
    | (refine Sub.on (by first | exact .refl _ | exact .drop | exact .fin | ((repeat refine .pick ?_); first | exact .refl _ | exact .emp _ | exact .fin)) ?_; conv => whnf)
    | (refine DrawK.introH tab_ok mixed 26 f_z10.last8 f_z10.plan8 _ rfl (by kernel_rfl) (Sub.of (by first | exact .refl _ | exact .drop | exact .fin | ((repeat refine .pick ?_); first | exact .refl _ | exact .emp _ | exact .fin))) ?_; conv => whnf)
    | (refine CallK.ret f_z2i.ok (sector_spec (by first | rfl | assumption | omega | decide | (simp; done) | (simp; omega) | (simp at *; omega)) (by first | rfl | assumption | omega | decide | (simp; done) | (simp; omega) | (simp at *; omega)) (by first | rfl | assumption | omega | decide | (simp; done) | (simp; omega) | (simp at *; omega))) ?_; rintro v G ⟨rfl, rfl⟩; conv => whnf))
   refine ⟨rfl, (i + 1, layAt m p.sec p.b), ⟨h1, ?_, hf⟩, fun t v h => h, ?_, by dsimp only; omega⟩
   ·rw [layAt_len (by omega)]; exact hm
   ·dsimp only
    unfold layAt
    first | exact .refl _ | exact .drop | exact .fin | ((repeat refine .pick ?_); first | exact .refl _ | exact .emp _ | exact .fin)
  ·have hdr : Q.drop i = [] := List.drop_eq_nil_of_le (by omega)
   rw [hdr, flushG] at hf
   repeat' (first
    | (refine spl_dec (fun hd => ?_) (fun hd => ?_) <;> first | (exfalso; omega) | (conv => whnf))
    | (refine St.i ⟨rfl, rfl⟩ (List.cons_ne_nil _ _) ?_; conv => whnf))
   refine hgo _ _ (Ret.eq rfl ?_)
   rw [devo_eq]
   simp only [DevX.flushed]
   rw [← hQ, ← hf, hm]
   refine Imp.pick ?_
   refine Imp.pick ?_
   refine Imp.vnil ?_
   refine Imp.empi ?_
   first | exact .refl _ | exact .drop | exact .fin | ((repeat refine .pick ?_); first | exact .refl _ | exact .emp _ | exact .fin)
-- @pat sync_spec ⟨X', hX', hv', hl', rfl, rfl⟩
theorem crash_spec {W : World} {H R : HProp} {d : Nat} {X : DevX} {a : Option Addr} {n c : Nat} {keep : List Int} {torn off : Int} [t : DevC H d X R] [ro : RowN W R a n 1 u64s keep] (hX : X.Ok) (hq : X.ps.length ≤ 1000000) :
  Does prog W f_z3x ⟨[ptr d, .agg ⟨[.slice a n c, .int .i64 torn, .int .i64 off]⟩]⟩ H (Ret fun v G => ∃ X', X'.Ok ∧ X'.val = (X.val.crash keep torn off).2 ∧ X'.ps.length ≤ X.ps.length ∧ v = .int .i64 (X.val.crash keep torn off).1 ∧ G = (devo d X' • R)) := by
 rw [t.h.eq]
 haveI r' := ro.row
 unfold Dev.crash
 refine f_z3x.does _ _ ?_
 conv => whnf
 by_cases h1 : X.down = true
 ·have h1' : X.val.down = true := h1
  rw [if_pos h1']
  repeat' (first
   | ((first | refine spl_t h1 ?_ | refine Ld.i ?_); conv => whnf)
   | (intro blk hblk; conv => whnf))
  refine ⟨_, _, rfl, ?_, X, hX, rfl, by omega, rfl, rfl⟩
  first | exact .refl _ | exact .drop | exact .fin | ((repeat refine .pick ?_); first | exact .refl _ | exact .emp _ | exact .fin)
 have h1' : ¬ X.val.down = true := h1
 have h1f : X.down = false := by simpa using h1
 rw [if_neg h1']
 repeat' (first
  | ((first | refine spl_f h1f ?_ | refine Ld.i ?_ | refine LdN.i ?_); conv => whnf)
  | (intro blk hblk; conv => whnf)
  | (refine CallK.ret f_zh.ok (fallx_spec (by first | rfl | assumption | omega | decide | (simp; done) | (simp; omega) | (simp at *; omega)) (by first | rfl | assumption | omega | decide | (simp; done) | (simp; omega) | (simp at *; omega))) ?_; rintro v G ⟨rfl, rfl⟩; conv => whnf))
 refine ⟨_, _, rfl, ?_, _, fell_ok hX keep torn off, rfl, by simp [DevX.fell], rfl, rfl⟩
 first | exact .refl _ | exact .drop | exact .fin | ((repeat refine .pick ?_); first | exact .refl _ | exact .emp _ | exact .fin)
-- @pat crash_spec ⟨X', hX', hv', hl', rfl, rfl⟩
theorem clone64_spec {W : World} {R : HProp} {a : Option Addr} {n cap : Nat} {l : List Int} [c : RowN W R a n 1 u64s l] (hb : l.length ≤ 8796093022208) :
  Does prog W f_z38 ⟨[.slice a n cap]⟩ R (Ret fun v G => ∃ a' cap', l.length ≤ cap' ∧ v = .slice a' l.length cap' ∧ G = (vec t_uint64 1 u64s a' cap' l • R)) := by
 refine Does.vlen (V := fun a' cap' => .slice a' l.length cap') ?_
 have hn := c.len
 subst hn
 haveI c' := c.row
 cases a with
 | none =>
  refine Does.nil c' fun hl => ?_
  subst hl
  refine f_z38.does _ ?_
  conv => whnf
  skip
  refine ⟨_, _, rfl, ?_, none, 0, rfl, rfl⟩
  refine Imp.vnil ?_
  first | exact .refl _ | exact .drop | exact .fin | ((repeat refine .pick ?_); first | exact .refl _ | exact .emp _ | exact .fin)
 | some x =>
  refine f_z38.does _ ?_
  conv => whnf
  repeat' (first
   | (intro blk hblk; conv => whnf)
   | (refine OpX.appE (ys := l) tab_ok rfl rfl rfl rfl rfl rfl (by omega) (fun a' c' => ?_); conv => whnf))
  refine ⟨_, _, rfl, ?_, a', c', rfl, rfl⟩
  first | exact .refl _ | exact .drop | exact .fin | ((repeat refine .pick ?_); first | exact .refl _ | exact .emp _ | exact .fin)
theorem arm_spec {W : World} {H R : HProp} {d : Nat} {X : DevX} {a : Option Addr} {n c : Nat} {keep : List Int} {step torn off : Int} [t : DevC H d X R] [ro : RowN W R a n 1 u64s keep] (hX : X.Ok) (hk : keep.length ≤ 8796093022208) (hs : -9223372036854775808 ≤ step ∧ step ≤ 9223372036854775807) :
  Does prog W f_z2f ⟨[ptr d, .int .i64 step, .agg ⟨[.slice a n c, .int .i64 torn, .int .i64 off]⟩]⟩ H (Ret fun v G => ∃ X', X'.Ok ∧ X'.val = (X.val.arm step keep torn off).2 ∧ X'.ps.length ≤ X.ps.length ∧ v = .int .i64 (X.val.arm step keep torn off).1 ∧ G = (devo d X' • R)) := by
 rw [t.h.eq]
 haveI r' := ro.row
 unfold Dev.arm
 refine f_z2f.does _ _ _ ?_
 conv => whnf
 by_cases h1 : X.down = true
 ·have h1' : X.val.down = true := h1
  rw [if_pos h1']
  repeat' (first
   | ((first | refine spl_t h1 ?_ | refine Ld.i ?_); conv => whnf)
   | (intro blk hblk; conv => whnf))
  refine ⟨_, _, rfl, ?_, X, hX, rfl, by omega, rfl, rfl⟩
  first | exact .refl _ | exact .drop | exact .fin | ((repeat refine .pick ?_); first | exact .refl _ | exact .emp _ | exact .fin)
 have h1' : ¬ X.val.down = true := h1
 have h1f : X.down = false := by simpa using h1
 rw [if_neg h1']
 by_cases h2 : step < 0
 ·rw [if_pos h2]
  repeat' (first
   | (refine spl_f h1f ?_; conv => whnf)
   | (refine spl_dec (fun hd => ?_) (fun hd => ?_) <;> first | (exfalso; omega) | (conv => whnf))
   | (refine Ld.i ?_; conv => whnf)
   | (intro blk hblk; conv => whnf))
  refine ⟨_, _, rfl, ?_, X, hX, rfl, by omega, rfl, rfl⟩
  first | exact .refl _ | exact .drop | exact .fin | ((repeat refine .pick ?_); first | exact .refl _ | exact .emp _ | exact .fin)
 rw [if_neg h2]
 repeat' (first
  | (refine spl_f h1f ?_; conv => whnf)
  | (refine spl_dec (fun hd => ?_) (fun hd => ?_) <;> first | (exfalso; omega) | (conv => whnf))
  | ((first | refine Ld.i ?_ | refine St.i ⟨rfl, rfl⟩ (List.cons_ne_nil _ _) ?_); conv => whnf)
  | (intro blk hblk; conv => whnf)
  | (refine Sub.on (by first | exact .refl _ | exact .drop | exact .fin | ((repeat refine .pick ?_); first | exact .refl _ | exact .emp _ | exact .fin)) ?_; conv => whnf)
  | (refine DrawK.introH tab_ok mixed 19 f_z2f.last6 f_z2f.plan6 _ rfl (by kernel_rfl) (Sub.of (by first | exact .refl _ | exact .drop | exact .fin | ((repeat refine .pick ?_); first | exact .refl _ | exact .emp _ | exact .fin))) ?_; conv => whnf)
  | (refine CallK.ret f_z38.ok (clone64_spec (by first | rfl | assumption | omega | decide | (simp; done) | (simp; omega) | (simp at *; omega))) ?_; rintro v G ⟨e_a', e_cap', e_h1, rfl, rfl⟩; conv => whnf))
 refine ⟨_, _, rfl, ?_, { X with step := step, ka := e_a', kc := e_cap', keep := keep, torn := torn, off := off }, ⟨⟨hX.val.len, hX.val.pos, hX.val.byt, hX.val.q, ⟨by show 0 ≤ step; omega, hs.2⟩, hX.val.calls⟩, hX.ic, hX.caps⟩, rfl, by simp, rfl, rfl⟩
 rw [devo_eq]
 dsimp only
 first | exact .refl _ | exact .drop | exact .fin | ((repeat refine .pick ?_); first | exact .refl _ | exact .emp _ | exact .fin)
-- @pat arm_spec ⟨X', hX', hv', hl', rfl, rfl⟩
def freshX (a : Option Addr) (c : Nat) (img : List Int) : DevX := ⟨a, c, img, none, 0, [], 0, none, 0, [], 0, 0, false, 0⟩
theorem devo_fresh {d : Nat} {a : Option Addr} {c : Nat} {img : List Int} {H R : HProp} (h : Imp H (pts d (.cells ⟨[.slice a img.length c, .slice none 0 0, .int .i64 0, .slice none 0 0, .int .i64 0, .int .i64 0, .bool false, .int .i64 0]⟩ t_z41) • vec t_uint8 1 bytv a c img • R)) : Imp H (devo d (freshX a c img) • R) := by
 rw [devo_eq]
 refine Imp.trans h (Imp.right (Imp.right ?_))
 refine Imp.vnil ?_
 refine Imp.empi ?_
 refine Imp.vnil ?_
 exact Imp.refl _
theorem new_yes {W : World} {R : HProp} {n : Int} (h : 1 ≤ n ∧ n ≤ 8192) :
  Does prog W f_z30 ⟨[.int .i64 n]⟩ R (Ret fun v G => ∃ d a c, (List.replicate (n * 512).toNat (0 : Int)).length ≤ c ∧ v = .tuple ⟨[ptr d, i0]⟩ ∧ G = (devo d (freshX a c (List.replicate (n * 512).toNat 0)) • R)) := by
 refine f_z30.does _ ?_
 conv => whnf
 repeat' (first
  | (refine spl_dec (fun hd => ?_) (fun hd => ?_) <;> first | (exfalso; omega) | (conv => whnf))
  | (refine Ar.i64 (by omega) ?_; conv => whnf)
  | (intro blk hblk; conv => whnf)
  | (refine OpX.make tab_ok bytv 0 rfl rfl rfl rfl rfl rfl (by omega) (fun b hb => ?_); conv => whnf))
 refine ⟨_, _, rfl, ?_, blk, some ⟨b, 0, none⟩, (n * 512).toNat, ?_, rfl, rfl⟩
 ·refine devo_fresh ?_
  rw [List.length_replicate]
  first | exact .refl _ | exact .drop | exact .fin | ((repeat refine .pick ?_); first | exact .refl _ | exact .emp _ | exact .fin)
 ·rw [List.length_replicate]; exact Nat.le_refl _
theorem fresh_ok {a : Option Addr} {c : Nat} {img : List Int} (h1 : 512 ≤ img.length ∧ img.length ≤ 4194304) (h2 : img.length % 512 = 0) (hb : Byt img) (hc : img.length ≤ c) : (freshX a c img).Ok :=
 ⟨⟨h2, h1, hb, fun p hp => (by cases hp), ⟨Int.le_refl _, by show (0 : Int) ≤ _; decide⟩, ⟨by show _ ≤ (0 : Int); decide, by show (0 : Int) ≤ _; decide⟩⟩, hc, fun p hp => (by cases hp)⟩
theorem cache_spec {W : World} {H R : HProp} {d : Nat} {X : DevX} [t : DevC H d X R] (hX : X.Ok) (hq : X.ps.length ≤ 1000000) :
  Does prog W f_z1w ⟨[ptr d]⟩ H (Ret fun v G => ∃ a c qs, qs.map (fun p : PendX => (p.sec, p.b)) = X.val.q ∧ v = .slice a qs.length c ∧ G = (vec t_z40 2 pendv a c qs • bigL pendc qs • devo d X • R)) := by
 rw [t.h.eq]
 have hqv := hX.val.q
 refine f_z1w.does _ ?_
 conv => whnf
 repeat' (first
  | (refine Ld.i ?_; conv => whnf))
 obtain ⟨qa, hqa⟩ : ∃ qa, qa = X.qa := ⟨_, rfl⟩
 refine LoopK.at tab_ok (L := f_z1w.live) (ι := Nat × List PendX × Option Addr × Nat) (fun i => i.1 ≤ X.ps.length ∧ i.2.1.map (fun p => (p.sec, p.b)) = X.val.q.take i.1)
  (fun i => [(11, .int .i64 i.1), (3, .slice i.2.2.1 i.2.1.length i.2.2.2)]) (fun i => vec t_z40 2 pendv i.2.2.1 i.2.2.2 i.2.1 • bigL pendc i.2.1) (fun i => X.ps.length - i.1) (0, [], none, 0) ⟨by simp, by simp⟩ (fun t v h => h) (Imp.assoc (Imp.vnil (Imp.empi (Imp.refl _)))) ?_
 rintro ⟨i, qs, oa, oc⟩ ⟨hi, hm⟩
 dsimp only at hi hm ⊢
 have hQl : X.val.q.length = X.ps.length := by simp [DevX.val]
 have hqsl : qs.length = i := by
  have := congrArg List.length hm
  simp at this; omega
 simp only [star_assoc]
 conv => whnf
 by_cases h1 : i < X.ps.length
 ·obtain ⟨p, hp⟩ : ∃ p, X.ps[i]? = some p := ⟨_, List.getElem?_eq_getElem h1⟩
  have hpq : X.val.q[i]? = some (p.sec, p.b) := by simp [DevX.val, hp]
  obtain ⟨q1, q2, q3, q4⟩ := hqv _ (List.mem_of_getElem? hpq)
  dsimp only at q3
  haveI mp : MemC X.ps p := ⟨List.mem_of_getElem? hp⟩
  haveI cp : RowC W (devo d X • R) p.a 1 bytv p.b := RowC.devp
  repeat' (first
   | (refine spl_dec (fun hd => ?_) (fun hd => ?_) <;> first | (exfalso; omega) | (conv => whnf))
   | ((first | refine Ld.i ?_ | refine St.i ⟨rfl, rfl⟩ (List.cons_ne_nil _ _) ?_ | refine Ar.i64 (by omega) ?_); conv => whnf)
   | (intro blk hblk; conv => whnf)
   | (refine IxS.r (i := i) (xs := X.ps) rfl rfl h1 (fun ab off' ha => ?_); have rq : RowC W (devo d X • R) (some ⟨ab, off', none⟩) 2 pendv X.ps := ha ▸ RowC.devq; rw [ha]; conv => whnf)
   | (refine LdN.r hp rfl ?_; conv => whnf)
   | (refine OpX.app1g tab_ok rfl rfl rfl rfl rfl rfl (by omega) (fun a' c' => ?_); conv => whnf)
   | (refine Sub.on (by first | exact .refl _ | exact .drop | exact .fin | ((repeat refine .pick ?_); first | exact .refl _ | exact .emp _ | exact .fin)) ?_; conv => whnf)
   | (refine DrawK.introH tab_ok mixed 15 f_z1w.last5 f_z1w.plan5 _ rfl (by kernel_rfl) (Sub.of (by first | exact .refl _ | exact .drop | exact .fin | ((repeat refine .pick ?_); first | exact .refl _ | exact .emp _ | exact .fin))) ?_; conv => whnf)
   | (refine CallK.ret f_z1x.ok (clone_spec (by first | rfl | assumption | omega | decide | (simp; done) | (simp; omega) | (simp at *; omega))) ?_; rintro v G ⟨e_a', e_cap', e_h1, rfl, rfl⟩; conv => whnf))
  refine ⟨rfl, (i + 1, qs ++ [(⟨p.sec, e_a', e_cap', p.b⟩ : PendX)], a', c'), ⟨h1, ?_⟩, fun t v h => h, ?_, by dsimp only; omega⟩
  ·dsimp only
   rw [List.map_append, hm, List.take_add_one, hpq]; rfl
  ·dsimp only
   rw [bigL_snoc]
   simp only [star_assoc]
   unfold pendc
   first | exact .refl _ | exact .drop | exact .fin | ((repeat refine .pick ?_); first | exact .refl _ | exact .emp _ | exact .fin)
 ·have : i = X.ps.length := by omega
  subst this
  repeat' (first
   | (refine spl_dec (fun hd => ?_) (fun hd => ?_) <;> first | (exfalso; omega) | (conv => whnf)))
  refine ⟨_, _, rfl, ?_, oa, oc, qs, ?_, rfl, rfl⟩
  ·first | exact .refl _ | exact .drop | exact .fin | ((repeat refine .pick ?_); first | exact .refl _ | exact .emp _ | exact .fin)
  ·rw [hm, ← hQl, List.take_length]
theorem backward_iter {W : World} {B n c : Nat} {a : Option Addr} {ps : List PendX} {C : Nat} (hn : n = ps.length) (hb : ps.length ≤ 1000000) :
  IterSpec prog W f_z2w [ptr B] ps.length (fun k => [.int .i64 ((ps.length : Int) - 1 - k), .agg ⟨(ps.reverse[k]?.map pendv).getD []⟩])
   (pts B (.cells ⟨[.slice a n c]⟩ t_S_api_Pending) • vec t_z40 2 pendv a C ps) := by
 subst hn
 intro l J Jx hy
 simp only [star_assoc]
 refine f_z2w.does _ _ ?_
 conv => whnf
 repeat' (first
  | ((first | refine Ld.i ?_ | refine Ar.i64 (by omega) ?_); conv => whnf))
 refine LoopK.at tab_ok (L := f_z2w.live) (ι := Nat) (fun k => k ≤ ps.length) (fun k => [(3, .int .i64 ((ps.length : Int) - 1 - k))]) (fun k => J k) (fun k => ps.length - k) 0 (by simp) (fun t v h => by
   have h2 : ((ps.length : Int) - 1 - ((0 : Nat) : Int)) = (ps.length : Int) - 1 := by omega
   rw [h2] at h
   exact h) (Imp.pick (Imp.refl _)) ?_
 rintro k hk
 conv => whnf
 by_cases h1 : k < ps.length
 ·have hlt : ps.length - 1 - k < ps.length := by omega
  obtain ⟨p, hp⟩ : ∃ p, ps[ps.length - 1 - k]? = some p := ⟨_, List.getElem?_eq_getElem hlt⟩
  have hr : ps.reverse[k]? = some p := by rw [List.getElem?_reverse (by simpa using h1)]; exact hp
  have hk2 := hy k h1
  dsimp only at hk2
  rw [hr] at hk2
  repeat' (first
   | (refine spl_dec (fun hd => ?_) (fun hd => ?_) <;> first | (exfalso; omega) | (conv => whnf))
   | (refine Ld.i ?_; conv => whnf)
   | (refine IxS.r (i := ps.length - 1 - k) (xs := ps) (by omega) rfl hlt (fun ab off' ha => ?_); subst ha; conv => whnf)
   | (refine LdN.r hp rfl ?_; conv => whnf))
  simp only [star_assoc] at hk2
  refine YieldK.use hk2 (by first | exact .refl _ | exact .drop | exact .fin | ((repeat refine .pick ?_); first | exact .refl _ | exact .emp _ | exact .fin)) ?_
  rintro v H' (⟨rfl, hi⟩ | ⟨rfl, hi⟩)
  ·refine ⟨_, hi, ?_⟩
   conv => whnf
   repeat' (first
    | (refine Ar.i64 (by omega) ?_; conv => whnf))
   refine ⟨rfl, k + 1, by omega, fun t v h => ?_, ?_, by omega⟩
   ·have h2 : ((ps.length : Int) - 1 - ((k + 1 : Nat) : Int)) = (ps.length : Int) - 1 - k - 1 := by omega
    rw [h2] at h
    exact h
   ·first | exact .refl _ | exact .drop | exact .fin | ((repeat refine .pick ?_); first | exact .refl _ | exact .emp _ | exact .fin)
  ·refine ⟨_, hi, ?_⟩
   conv => whnf
   skip
   exact ⟨_, _, rfl, Imp.refl _, .inr rfl⟩
 ·repeat' (first
   | (refine spl_dec (fun hd => ?_) (fun hd => ?_) <;> first | (exfalso; omega) | (conv => whnf)))
  have : k = ps.length := by omega
  subst this
  refine ⟨_, _, rfl, ?_, .inl rfl⟩
  first | exact .refl _ | exact .drop | exact .fin | ((repeat refine .pick ?_); first | exact .refl _ | exact .emp _ | exact .fin)
end Go.Proofs.YtgcknlpkhhpkjaaGreatDoor
/- Copies of rows; whether a row is all zeros: walked. Conditions: in each statement. -/
namespace Go.SL.Rec
open Go Go.SL
structure CntV where
 id : Int
 grp : Int
 lo : Int
 hi : Int
 val : Int
 deriving DecidableEq
def cntv (c : CntV) : List Value := [.int .i64 c.id, .int .i64 c.grp, .int .i64 c.lo, .int .i64 c.hi, .int .i64 c.val]
instance : SizedC 5 cntv := ⟨fun _ => rfl⟩
instance {c : CntV} : LitL (cntv c) [.int .i64 c.id, .int .i64 c.grp, .int .i64 c.lo, .int .i64 c.hi, .int .i64 c.val] := ⟨rfl⟩
instance {a b c d e : Int} : DecOf cntv [.int .i64 a, .int .i64 b, .int .i64 c, .int .i64 d, .int .i64 e] ⟨a, b, c, d, e⟩ := ⟨rfl⟩
instance : OneC cntv := ⟨fun ys v hv => by
 obtain ⟨d, _, hv⟩ := List.mem_flatMap.1 hv
 simp only [cntv, List.mem_cons, List.not_mem_nil, or_false] at hv
 rcases hv with rfl | rfl | rfl | rfl | rfl <;> rfl⟩
structure GrpV where
 id : Int
 sum : Int
 deriving DecidableEq
def grpv (c : GrpV) : List Value := [.int .i64 c.id, .int .i64 c.sum]
instance : SizedC 2 grpv := ⟨fun _ => rfl⟩
instance {c : GrpV} : LitL (grpv c) [.int .i64 c.id, .int .i64 c.sum] := ⟨rfl⟩
instance {a b : Int} : DecOf grpv [.int .i64 a, .int .i64 b] ⟨a, b⟩ := ⟨rfl⟩
instance : OneC grpv := ⟨fun ys v hv => by
 obtain ⟨d, _, hv⟩ := List.mem_flatMap.1 hv
 simp only [grpv, List.mem_cons, List.not_mem_nil, or_false] at hv
 rcases hv with rfl | rfl <;> rfl⟩
end Go.SL.Rec
namespace Go.Proofs.YtgcknlpkhhpkjaaGreatDoor
open Go Go.SL Go.SL.Sec Go.SL.Fld Go.SL.Pts Go.SL.Rec
open Go.SL.Und (RecV recv fits)
theorem cloneL_spec {W : World} {R : HProp} {a : Option Addr} {n cap : Nat} {l : List LiveV} [c : RowN W R a n 4 livev l] (hb : l.length ≤ 1000000000) :
  Does prog W f_z3h ⟨[.slice a n cap]⟩ R (Ret fun v G => ∃ a' cap', l.length ≤ cap' ∧ v = .slice a' l.length cap' ∧ G = (vec t_api_Live 4 livev a' cap' l • R)) := by
 refine Does.vlen (V := fun a' cap' => .slice a' l.length cap') ?_
 have hn := c.len
 subst hn
 haveI c' := c.row
 cases a with
 | none =>
  refine Does.nil c' fun hl => ?_
  subst hl
  refine f_z3h.does _ ?_
  conv => whnf
  skip
  refine ⟨_, _, rfl, ?_, none, 0, rfl, rfl⟩
  refine Imp.vnil ?_
  first | exact .refl _ | exact .drop | exact .fin | ((repeat refine .pick ?_); first | exact .refl _ | exact .emp _ | exact .fin)
 | some x =>
  refine f_z3h.does _ ?_
  conv => whnf
  repeat' (first
   | (intro blk hblk; conv => whnf)
   | (refine OpX.appE (ys := l) tab_ok rfl rfl rfl rfl rfl rfl (by omega) (fun a' c' => ?_); conv => whnf))
  refine ⟨_, _, rfl, ?_, a', c', rfl, rfl⟩
  first | exact .refl _ | exact .drop | exact .fin | ((repeat refine .pick ?_); first | exact .refl _ | exact .emp _ | exact .fin)
theorem cloneD_spec {W : World} {R : HProp} {a : Option Addr} {n cap : Nat} {l : List DirtyV} [c : RowN W R a n 2 dirtyv l] (hb : l.length ≤ 1000000000) :
  Does prog W f_z3i ⟨[.slice a n cap]⟩ R (Ret fun v G => ∃ a' cap', l.length ≤ cap' ∧ v = .slice a' l.length cap' ∧ G = (vec t_api_Dirty 2 dirtyv a' cap' l • R)) := by
 refine Does.vlen (V := fun a' cap' => .slice a' l.length cap') ?_
 have hn := c.len
 subst hn
 haveI c' := c.row
 cases a with
 | none =>
  refine Does.nil c' fun hl => ?_
  subst hl
  refine f_z3i.does _ ?_
  conv => whnf
  skip
  refine ⟨_, _, rfl, ?_, none, 0, rfl, rfl⟩
  refine Imp.vnil ?_
  first | exact .refl _ | exact .drop | exact .fin | ((repeat refine .pick ?_); first | exact .refl _ | exact .emp _ | exact .fin)
 | some x =>
  refine f_z3i.does _ ?_
  conv => whnf
  repeat' (first
   | (intro blk hblk; conv => whnf)
   | (refine OpX.appE (ys := l) tab_ok rfl rfl rfl rfl rfl rfl (by omega) (fun a' c' => ?_); conv => whnf))
  refine ⟨_, _, rfl, ?_, a', c', rfl, rfl⟩
  first | exact .refl _ | exact .drop | exact .fin | ((repeat refine .pick ?_); first | exact .refl _ | exact .emp _ | exact .fin)
theorem cloneC_spec {W : World} {R : HProp} {a : Option Addr} {n cap : Nat} {l : List CntV} [c : RowN W R a n 5 cntv l] (hb : l.length ≤ 1000000000) :
  Does prog W f_z3c ⟨[.slice a n cap]⟩ R (Ret fun v G => ∃ a' cap', l.length ≤ cap' ∧ v = .slice a' l.length cap' ∧ G = (vec t_z1a 5 cntv a' cap' l • R)) := by
 refine Does.vlen (V := fun a' cap' => .slice a' l.length cap') ?_
 have hn := c.len
 subst hn
 haveI c' := c.row
 cases a with
 | none =>
  refine Does.nil c' fun hl => ?_
  subst hl
  refine f_z3c.does _ ?_
  conv => whnf
  skip
  refine ⟨_, _, rfl, ?_, none, 0, rfl, rfl⟩
  refine Imp.vnil ?_
  first | exact .refl _ | exact .drop | exact .fin | ((repeat refine .pick ?_); first | exact .refl _ | exact .emp _ | exact .fin)
 | some x =>
  refine f_z3c.does _ ?_
  conv => whnf
  repeat' (first
   | (intro blk hblk; conv => whnf)
   | (refine OpX.appE (ys := l) tab_ok rfl rfl rfl rfl rfl rfl (by omega) (fun a' c' => ?_); conv => whnf))
  refine ⟨_, _, rfl, ?_, a', c', rfl, rfl⟩
  first | exact .refl _ | exact .drop | exact .fin | ((repeat refine .pick ?_); first | exact .refl _ | exact .emp _ | exact .fin)
theorem cloneP_spec {W : World} {R : HProp} {a : Option Addr} {n cap : Nat} {l : List GrpV} [c : RowN W R a n 2 grpv l] (hb : l.length ≤ 1000000000) :
  Does prog W f_z3d ⟨[.slice a n cap]⟩ R (Ret fun v G => ∃ a' cap', l.length ≤ cap' ∧ v = .slice a' l.length cap' ∧ G = (vec t_zt 2 grpv a' cap' l • R)) := by
 refine Does.vlen (V := fun a' cap' => .slice a' l.length cap') ?_
 have hn := c.len
 subst hn
 haveI c' := c.row
 cases a with
 | none =>
  refine Does.nil c' fun hl => ?_
  subst hl
  refine f_z3d.does _ ?_
  conv => whnf
  skip
  refine ⟨_, _, rfl, ?_, none, 0, rfl, rfl⟩
  refine Imp.vnil ?_
  first | exact .refl _ | exact .drop | exact .fin | ((repeat refine .pick ?_); first | exact .refl _ | exact .emp _ | exact .fin)
 | some x =>
  refine f_z3d.does _ ?_
  conv => whnf
  repeat' (first
   | (intro blk hblk; conv => whnf)
   | (refine OpX.appE (ys := l) tab_ok rfl rfl rfl rfl rfl rfl (by omega) (fun a' c' => ?_); conv => whnf))
  refine ⟨_, _, rfl, ?_, a', c', rfl, rfl⟩
  first | exact .refl _ | exact .drop | exact .fin | ((repeat refine .pick ?_); first | exact .refl _ | exact .emp _ | exact .fin)
def zerosB (l : List Int) : Bool := l.all fun b => decide (b = 0)
theorem index_spec {W : World} {R : HProp} {a : Option Addr} {n c : Nat} {l : List Int} {g : FuncId} (hg : Callable prog g) (hpr : ∀ b : Int, Does prog W g ⟨[.int .u8 b]⟩ R (Ret fun v G => v = .bool (!decide (b = 0)) ∧ G = R)) [ro : RowN W R a n 1 bytv l] (hl : l.length ≤ 16777216) :
  Does prog W f_z3e ⟨[.slice a n c, .func (.func g) #[] #[]]⟩ R (Ret fun v G => ∃ z : Int, (z ≥ 0 ↔ zerosB l = false) ∧ v = .int .i64 z ∧ G = R) := by
 have hn := ro.len
 subst hn
 haveI r' := ro.row
 refine f_z3e.does _ _ ?_
 conv => whnf
 skip
 refine LoopK.keep tab_ok (L := f_z3e.live) (ι := Nat) (fun i => i ≤ l.length ∧ zerosB l = zerosB (l.drop i)) (fun i => [(8, .int .i64 i)]) (fun i => l.length - i) 0 (by simp) (fun t v h => h) ?_
 rintro i ⟨hi, hz⟩
 conv => whnf
 by_cases h1 : i < l.length
 ·obtain ⟨b, hb⟩ : ∃ b, l[i]? = some b := ⟨_, List.getElem?_eq_getElem h1⟩
  have hdr : zerosB (l.drop i) = (decide (b = 0) && zerosB (l.drop (i + 1))) := by
   rw [drop_of hb]; simp [zerosB]
  rw [hdr] at hz
  repeat' (first
   | (refine spl_dec (fun hd => ?_) (fun hd => ?_) <;> first | (exfalso; omega) | (conv => whnf))
   | (refine IxS.r (xs := l) (i := i) rfl rfl h1 (fun ab off ha => ?_); cases ha; conv => whnf)
   | (refine Ld.r0 hb rfl ?_; conv => whnf))
  refine CallK.ret hg (hpr _) ?_
  rintro v G ⟨rfl, rfl⟩
  conv => whnf
  repeat' (first
   | (refine spl_ndec (fun hd => ?_) (fun hd => ?_) <;> first | (exfalso; omega) | (conv => whnf))
   | (refine Ar.i64 (by omega) ?_; conv => whnf))
  ·refine ⟨_, _, rfl, Imp.refl _, i, ?_, rfl, rfl⟩
   rw [hz, decide_eq_false (by assumption)]
   simp
  ·refine ⟨rfl, i + 1, ⟨h1, ?_⟩, fun t v h => h, Imp.refl _, by omega⟩
   have hb0 : b = 0 := by assumption
   rw [hz, hb0]; simp
 ·rw [List.drop_eq_nil_of_le (by omega)] at hz
  repeat' (first
   | (refine spl_dec (fun hd => ?_) (fun hd => ?_) <;> first | (exfalso; omega) | (conv => whnf)))
  refine ⟨_, _, rfl, Imp.refl _, -1, ?_, rfl, rfl⟩
  rw [hz]
  simp [zerosB]
theorem contains_spec {W : World} {R : HProp} {a : Option Addr} {n c : Nat} {l : List Int} {g : FuncId} (hg : Callable prog g) (hpr : ∀ b : Int, Does prog W g ⟨[.int .u8 b]⟩ R (Ret fun v G => v = .bool (!decide (b = 0)) ∧ G = R)) [ro : RowN W R a n 1 bytv l] (hl : l.length ≤ 16777216) :
  Does prog W f_z39 ⟨[.slice a n c, .func (.func g) #[] #[]]⟩ R (Ret fun v G => v = .bool (!zerosB l) ∧ G = R) := by
 refine f_z39.does _ _ ?_
 conv => whnf
 repeat' (first
  | (refine CallK.ret f_z3e.ok (index_spec hg hpr hl) ?_; rintro v G ⟨z, hz, rfl, rfl⟩; conv => whnf))
 refine Ret.eq (congrArg Value.bool ?_) (Imp.refl _)
 by_cases h : z ≥ 0
 ·rw [decide_eq_true h, hz.1 h]; rfl
 ·rw [decide_eq_false h]
  cases hz0 : zerosB l with
  | true => rfl
  | false => exact absurd (hz.2 hz0) h
theorem lblank1_spec {W : World} {R : HProp} {b : Int} : Does prog W f_z3v ⟨[.int .u8 b]⟩ R (Ret fun v G => v = .bool (!decide (b = 0)) ∧ G = R) := by
 refine f_z3v.does _ ?_
 conv => whnf
 skip
 refine Ret.eq rfl ?_
 first | exact .refl _ | exact .drop | exact .fin | ((repeat refine .pick ?_); first | exact .refl _ | exact .emp _ | exact .fin)
theorem lblank_spec {W : World} {R : HProp} {a : Option Addr} {n c : Nat} {l : List Int} [ro : RowN W R a n 1 bytv l] (hl : l.length ≤ 16777216) :
  Does prog W f_z2t ⟨[.slice a n c]⟩ R (Ret fun v G => v = .bool (zerosB l) ∧ G = R) := by
 refine f_z2t.does _ ?_
 conv => whnf
 repeat' (first
  | (refine CallK.ret f_z39.ok (contains_spec f_z3v.ok (fun b => lblank1_spec) hl) ?_; rintro v G ⟨rfl, rfl⟩; conv => whnf))
 refine Ret.eq ?_ (Imp.refl _)
 rw [Bool.not_not]
end Go.Proofs.YtgcknlpkhhpkjaaGreatDoor
/- A region that draws its order, with forks, and with a forced end. No condition. -/
namespace Go.SL
open Go
def PT.some (F : List Nat) : PT → Bool
 | .nil => false
 | .op i t => !F.contains i || t.some F
 | .two i t j s => (!F.contains i || t.some F) || (!F.contains j || s.some F)
def ptOkF (ops : List Oper) (F : List Nat) : PT → Array Bool → Bool
 | .nil, listed => (Region.ready .any ⟨ops⟩ listed).isEmpty
 | .op i t, listed => match ops[i]? with
  | none => false
  | some o => (match quietOp o.op && !F.contains i with
    | true => (Region.ready .any ⟨ops⟩ listed).contains i && Region.free .any ⟨ops⟩ listed i
    | false => Region.ready .any ⟨ops⟩ listed == [i]) && (!F.contains i || !t.some F) && ptOkF ops F t (listed.setIfInBounds i true)
 | .two i t j s, listed => Region.ready .any ⟨ops⟩ listed == [i, j] && !F.contains i && !F.contains j && ptOkF ops F t (listed.setIfInBounds i true) && ptOkF ops F s (listed.setIfInBounds j true)
def treeOkF (ops : List Oper) (F : List Nat) (t : PT) : Bool := Region.noSelect ⟨ops⟩ && Nat.ble t.size ops.length && lastOk ops F && ptOkF ops F t (Array.replicate ops.length false)
def execTreeF (P : Program) (W : World) (T : Tab) (N : Nat) (A : HProp) (all : List Oper) (F : List Nat) : PT → Fr → List Deferred → HProp → ContK → PanK → Prop
 | .nil, fr, ds, H, K, _ => K fr ds H
 | .op i t, fr, ds, H, K, Kp => match all[i]? with
  | some o => guarded all o fr
    (fun fr => match quietOp o.op && !F.contains i with
     | true => opK P W T o.op o.type fr.eval A (fun v _ => putK N fr v (fun fr => execTreeF P W T N A all F t fr ds H K Kp) o.dst) (fun _ _ => False)
       (OpQ P W o.op o.type fr.eval A fun v => putK N fr v (fun fr => execTreeF P W T N A all F t fr ds H K Kp) o.dst)
     | false => op1 P W T N o fr ds H (fun fr ds H => match F.contains i with
      | true => execTreeF P W T N A all F t fr ds H K Kp
      | false => Req (Sub W H A) (execTreeF P W T N A all F t fr ds H K Kp)) fun c _ ds H => Kp c [] ds H)
    (fun fr => putK N fr undef (fun fr => execTreeF P W T N A all F t fr ds H K Kp) o.dst)
  | none => False
 | .two i t j s, fr, ds, H, K, Kp => match all[i]?, all[j]? with
  | some o, some p =>
   guarded all o fr (fun fr => loudK P W T N A o fr ds H (fun fr ds H => execTreeF P W T N A all F t fr ds H K Kp) Kp) (fun fr => putK N fr undef (fun fr => execTreeF P W T N A all F t fr ds H K Kp) o.dst) ∧
   guarded all p fr (fun fr => loudK P W T N A p fr ds H (fun fr ds H => execTreeF P W T N A all F s fr ds H K Kp) Kp) (fun fr => putK N fr undef (fun fr => execTreeF P W T N A all F s fr ds H K Kp) p.dst)
  | _, _ => False
section
variable {P : Program} {W : World} {T : Tab} {N : Nat} {A : HProp}
end
end Go.SL
/- Parts of blocks that are read while others turn; stores into folded chunks. No condition. -/
namespace Go.SL
open Go
section
variable {P : Program} {W : World} {H H' G R : HProp}
def cellsAre (l : List Value) : List (Nat × Value) → Prop
 | [] => True
 | p :: r => l[p.1]? = some p.2 ∧ cellsAre l r
def rdcs (b : Nat) (L : List (Nat × Value)) : HProp := fun h => ∃ (l : List Value) (t : TypeId) (fz : Nat × Nat), pts b (.cells ⟨l⟩ t fz) h ∧ cellsAre l L
class LkC (L : List (Nat × Value)) (k : Nat) (v : outParam Value) : Prop where h : ∀ l, cellsAre l L → l[k]? = some v
instance (priority := 90) LkC.there {p : Nat × Value} {L : List (Nat × Value)} {k : Nat} {v : Value} [i : LkC L k v] : LkC (p :: L) k v := ⟨fun l h => i.h l h.2⟩
instance (priority := 100) LkC.here {L : List (Nat × Value)} {k : Nat} {v : Value} : LkC ((k, v) :: L) k v := ⟨fun _ h => h.1⟩
theorem Rd.rdcs {b k : Nat} {L : List (Nat × Value)} {v : Value} [i : LkC L k v] : Rd W (rdcs b L • R) ⟨b, k, none⟩ v := by
 intro w hs
 obtain ⟨h1, a, h2, x, y, hd, rfl, ⟨l, t, fz, hp, hc⟩, hy⟩ := hs
 exact Rd.pts (R := R) (i.h l hc) w ⟨h1, _, h2, x, y, hd, rfl, hp, hy⟩
instance (priority := 100) RdC.rdcs {b k : Nat} {L : List (Nat × Value)} {v : Value} [i : LkC L k v] : RdC W (rdcs b L • R) ⟨b, k, none⟩ v := ⟨Rd.rdcs⟩
theorem Imp.rdcs {b : Nat} {l : List Value} {t : TypeId} {fz : Nat × Nat} {L : List (Nat × Value)} [p : PtsC H b (.cells ⟨l⟩ t fz) R] (h : cellsAre l L) (k : Imp R G) : Imp H (rdcs b L • G) := by
 rw [p.h.eq]
 refine Imp.star ?_ k
 intro x hx
 exact ⟨x, Heap.sub_refl _, l, t, fz, hx, h⟩
theorem St.conv {a : Addr} {vs : List Value} {K : HProp → Prop} (h : Imp H H') (st : St P W H' a vs (fun X => Imp X G)) (k : K G) : St P W H a vs K := by
 refine ⟨fun w hs hone => ?_⟩
 obtain ⟨w', X, h1, h2, h3⟩ := st.run w (hs.imp h) hone
 exact ⟨w', G, h1, h2.imp h3, k⟩
theorem Req.conv {p : Prop} {a : Addr} {vs : List Value} {K : HProp → Prop} (h : Imp H H') (st : Req p (St P W H' a vs (fun X => Imp X G))) (k : K G) : Req p (St P W H a vs K) := ⟨st.p, St.conv h st.k k⟩
theorem CallK.imp {f : FuncId} {args : List Value} {K : Value → HProp → Prop} {Kp : List PanicEntry → HProp → Prop} (h : Imp H H') (c : CallK P W f args H' K Kp) : CallK P W f args H K Kp := by
 refine ⟨c.go.imp (fun ⟨a, b⟩ => ⟨a, ⟨fun w hs => b.run w (hs.imp h)⟩⟩) fun k w hs => k w (hs.imp h)⟩
theorem KeepC.cut {α : Type} {t : TypeId} {sz : Nat} {enc : α → List Value} {cap : Nat} {xs : List α} (a : Option Addr) [c : VecC H a t sz enc cap xs R] : KeepC H R := ⟨by rw [c.h.eq]; exact Imp.drop⟩
theorem Imp.vdrop {α : Type} {t : TypeId} {sz : Nat} {enc : α → List Value} {a : Option Addr} {cap : Nat} {xs : List α} [s : SizedC sz enc] [c : VecC H a t sz enc cap xs R] (m : Nat) (hm : m ≤ xs.length) (k : Imp R G) : Imp H (SL.vec t sz enc (dropA a m cap sz) (cap - m) (xs.drop m) • G) := by
 rw [c.h.eq]
 refine Imp.star (Ent.imp ?_) k
 intro h hh
 cases a with
 | none =>
  obtain ⟨⟨h1, h2⟩, h3⟩ := hh
  subst h2
  have h0 : m = 0 := by simpa using hm
  subst h0
  unfold dropA
  split
  ·exact ⟨⟨by omega, rfl⟩, h3⟩
  ·exact ⟨⟨by omega, rfl⟩, h3⟩
 | some x =>
  obtain ⟨b, off, sp⟩ := x
  obtain ⟨pre, junk, hh⟩ := hh
  obtain ⟨⟨h1, h2, h3, h4⟩, h5⟩ := pure_star.1 hh
  subst h1
  unfold dropA
  by_cases e : cap = m
  ·rw [if_pos e]
   have hxl : xs.length = m := by omega
   refine ⟨pre, xs.flatMap enc ++ junk, pure_star.2 ⟨⟨rfl, h2, by simp [hxl], by simp [e]⟩, ?_⟩⟩
   rw [List.drop_eq_nil_of_le (by omega), List.flatMap_nil, List.append_nil, ← List.append_assoc]
   exact h5
  ·rw [if_neg e]
   simp only [Option.map_some, Addr.add_eq]
   refine ⟨pre ++ (xs.take m).flatMap enc, junk, pure_star.2 ⟨⟨rfl, ?_, by rw [List.length_drop]; omega, ?_⟩, ?_⟩⟩
   ·rw [List.length_append, h2, s.h.flat, List.length_take, Nat.min_eq_left hm]
   ·rw [List.length_drop, show cap - m - (xs.length - m) = cap - xs.length by omega]; exact h4
   ·have : pre ++ (xs.take m).flatMap enc ++ (xs.drop m).flatMap enc ++ junk = pre ++ xs.flatMap enc ++ junk := by
     rw [List.append_assoc pre, ← List.flatMap_append, List.take_append_drop]
    rw [this]; exact h5
class GetC {α : Type} (l : List α) (i : outParam Nat) (x : α) : Prop where h : l[i]? = some x
end
end Go.SL
