/- The program's disk: syncs, crashes, arming, new ones. Conditions: in each statement. -/
import Derived.Test.YtgcknlpkhhpkjaaGreatDoorPart15
import Derived.Test.YtgcknlpkhhpkjaaGreatDoorPart11
namespace Go.Proofs.YtgcknlpkhhpkjaaGreatDoor
open Go Go.SL Go.SL.Sec
def DevX.flushed (X : DevX) : DevX := { X with calls := wr (X.calls + 1), step := if X.step = 0 then 0 else X.step - 1, img := flushG X.val.q X.img, qa := none, qc := 0, ps := [] }
theorem flushed_val (X : DevX) : X.flushed.val = { X.val.counted with img := flushG X.val.q X.val.img, q := [] } := by
 simp [DevX.flushed, DevX.val, Dev.counted]
 rfl
theorem sync_spec {W : World} {H R : HProp} {d : Nat} {X : DevX} [t : DevC H d X R] (hX : X.Ok) (hq : X.ps.length ≤ 1000000) :
  Does prog W f_z10 ⟨[ptr d]⟩ H (Ret fun v G => ∃ X', X'.Ok ∧ X'.val = X.val.sync.2 ∧ X'.ps.length ≤ X.ps.length ∧ v = .int .i64 X.val.sync.1 ∧ G = (devo d X' • R)) := by
 rw [t.h.eq]
 have hw := hX.val.sync
 unfold Dev.sync at hw ⊢
 have hl := hX.len
 have hcnt : ({ X with calls := wr (X.calls + 1), step := if X.step = 0 then 0 else X.step - 1 } : DevX).Ok := ⟨hX.val.counted, hX.ic, hX.caps⟩
 refine f_z10.does _ ?_
 conv => whnf
 by_cases h1 : X.down = true
 ·have h1' : X.val.down = true := h1
  rw [if_pos h1'] at hw ⊢
  repeat' (first
   | ((first | refine spl_t h1 ?_ | refine Ld.i ?_); conv => whnf))
  exact ⟨_, _, rfl, Imp.refl _, X, hX, rfl, by omega, rfl, rfl⟩
 have h1' : ¬ X.val.down = true := h1
 have h1f : X.down = false := by simpa using h1
 rw [if_neg h1'] at hw ⊢
 repeat' (first
  | (refine spl_f h1f ?_; conv => whnf)
  | (refine spl_dec (fun hd => ?_) (fun hd => ?_) <;> first | (exfalso; omega) | (conv => whnf))
  | ((first | refine Ld.i ?_ | refine LdN.i ?_); conv => whnf)
  | (refine CallK.ret f_z3f.ok (crashes_spec (by first | rfl | assumption | omega | decide | (simp; done) | (simp; omega) | (simp at *; omega))) ?_; rintro v G ⟨rfl, rfl⟩; conv => whnf))
 ·have hc2 : X.val.crashes = true := decide_eq_true hd
  rw [if_pos hc2] at hw ⊢
  repeat' (first
   | (refine CallK.ret f_zh.ok ((fallo_spec hcnt hq)) ?_; rintro v G ⟨rfl, rfl⟩; conv => whnf))
  exact ⟨_, _, rfl, Imp.refl _, _, fell_ok hcnt _ _ _, rfl, by simp [DevX.fell], rfl, rfl⟩
 ·have hc2 : ¬ X.val.crashes = true := fun h => hd (of_decide_eq_true h)
  rw [if_neg hc2] at hw ⊢
  have hqv := hX.val.q
  have hfl := flushG_ok X.val.q X.img hX.val.q hX.val.byt
  have hOk : X.flushed.Ok := ⟨by rw [flushed_val]; exact hw, by show (flushG X.val.q X.img).length ≤ X.ic; rw [hfl.1]; exact hX.ic, fun p hp => (by cases hp)⟩
  have hgo : ∀ (e : Ending) (H : HProp), Ret (fun v G => v = i0 ∧ G = (devo d X.flushed • R)) e H → Ret (fun v G => ∃ X', X'.Ok ∧ X'.val = { X.val.counted with img := flushG X.val.q X.val.img, q := [] } ∧ X'.ps.length ≤ X.ps.length ∧ v = i0 ∧ G = (devo d X' • R)) e H :=
   fun e H ⟨v, G, h1, h2, h3, h4⟩ => ⟨v, G, h1, h2, X.flushed, hOk, flushed_val X, by simp [DevX.flushed], h3, h4⟩
  rw [devo_eq]
  dsimp only
  obtain ⟨qa, hqa⟩ : ∃ qa, qa = X.qa := ⟨_, rfl⟩
  obtain ⟨Q, hQ⟩ : ∃ Q, Q = X.val.q := ⟨_, rfl⟩
  rw [← hqa]
  rw [← hQ] at hqv hfl
  have hQl : Q.length = X.ps.length := by rw [hQ]; simp [DevX.val]
  refine LoopK.at tab_ok (L := f_z10.live) (ι := Nat × List Int) (fun i => i.1 ≤ X.ps.length ∧ i.2.length = X.img.length ∧ flushG (Q.drop i.1) i.2 = flushG Q X.img)
   (fun i => [(22, .int .i64 i.1)]) (fun i => vec t_uint8 1 bytv X.ia X.ic i.2) (fun i => X.ps.length - i.1) (0, X.img) ⟨by simp, rfl, by simp⟩ (fun t v h => h) (Imp.pick (Imp.refl _)) ?_
  rintro ⟨i, m⟩ ⟨hi, hm, hf⟩
  dsimp only at hi hm hf ⊢
  conv => whnf
  by_cases h1 : i < X.ps.length
  ·obtain ⟨p, hp⟩ : ∃ p, X.ps[i]? = some p := ⟨_, List.getElem?_eq_getElem h1⟩
   have hpq : Q[i]? = some (p.sec, p.b) := by rw [hQ]; simp [DevX.val, hp]
   obtain ⟨q1, q2, q3, q4⟩ := hqv _ (List.mem_of_getElem? hpq)
   dsimp only at q1 q2 q3 q4
   have q2' : p.sec.toNat * 512 + 512 ≤ X.img.length := q2
   rw [drop_of hpq, flushG] at hf
   haveI mp : MemC X.ps p := ⟨List.mem_of_getElem? hp⟩
   have hic := hX.ic
   repeat' (first
    | (refine spl_dec (fun hd => ?_) (fun hd => ?_) <;> first | (exfalso; omega) | (conv => whnf))
    | ((first | refine Ld.i ?_ | refine St.i ⟨rfl, rfl⟩ (List.cons_ne_nil _ _) ?_ | refine Ar.i64 (by omega) ?_); conv => whnf)
    | (intro blk hblk; conv => whnf)
    | (refine IxS.r (i := i) (xs := X.ps) rfl rfl h1 (fun ab off' ha => ?_); subst ha; conv => whnf)
    | ((first | refine LdN.r hp rfl ?_ | refine OpX.cpyW (ys := p.b) tab_ok inferInstance rfl rfl rfl rfl rfl (by omega) (by omega) ?_); conv => whnf)
    | (refine Sub.on (by first | exact .refl _ | exact .drop | exact .fin | ((repeat refine .pick ?_); first | exact .refl _ | exact .emp _ | exact .fin)) ?_; conv => whnf)
    | (refine DrawK.introH tab_ok mixed 26 f_z10.last8 f_z10.plan8 _ rfl (by kernel_rfl) (Sub.of (by first | exact .refl _ | exact .drop | exact .fin | ((repeat refine .pick ?_); first | exact .refl _ | exact .emp _ | exact .fin))) ?_; conv => whnf)
    | (refine CallK.ret f_z2i.ok (sector_spec (by first | rfl | assumption | omega | decide | (simp; done) | (simp; omega) | (simp at *; omega)) (by first | rfl | assumption | omega | decide | (simp; done) | (simp; omega) | (simp at *; omega)) (by first | rfl | assumption | omega | decide | (simp; done) | (simp; omega) | (simp at *; omega))) ?_; rintro v G ⟨rfl, rfl⟩; conv => whnf))
   refine ⟨rfl, (i + 1, layAt m p.sec p.b), ⟨h1, ?_, hf⟩, fun t v h => h, ?_, by dsimp only; omega⟩
   ·rw [layAt_len (by omega)]; exact hm
   ·dsimp only
    unfold layAt
    first | exact .refl _ | exact .drop | exact .fin | ((repeat refine .pick ?_); first | exact .refl _ | exact .emp _ | exact .fin)
  ·have hdr : Q.drop i = [] := List.drop_eq_nil_of_le (by omega)
   rw [hdr, flushG] at hf
   repeat' (first
    | (refine spl_dec (fun hd => ?_) (fun hd => ?_) <;> first | (exfalso; omega) | (conv => whnf))
    | (refine St.i ⟨rfl, rfl⟩ (List.cons_ne_nil _ _) ?_; conv => whnf))
   refine hgo _ _ (Ret.eq rfl ?_)
   rw [devo_eq]
   simp only [DevX.flushed]
   rw [← hQ, ← hf, hm]
   refine Imp.pick ?_
   refine Imp.pick ?_
   refine Imp.vnil ?_
   refine Imp.empi ?_
   first | exact .refl _ | exact .drop | exact .fin | ((repeat refine .pick ?_); first | exact .refl _ | exact .emp _ | exact .fin)
-- @pat sync_spec ⟨X', hX', hv', hl', rfl, rfl⟩
theorem crash_spec {W : World} {H R : HProp} {d : Nat} {X : DevX} {a : Option Addr} {n c : Nat} {keep : List Int} {torn off : Int} [t : DevC H d X R] [ro : RowN W R a n 1 u64s keep] (hX : X.Ok) (hq : X.ps.length ≤ 1000000) :
  Does prog W f_z3x ⟨[ptr d, .agg ⟨[.slice a n c, .int .i64 torn, .int .i64 off]⟩]⟩ H (Ret fun v G => ∃ X', X'.Ok ∧ X'.val = (X.val.crash keep torn off).2 ∧ X'.ps.length ≤ X.ps.length ∧ v = .int .i64 (X.val.crash keep torn off).1 ∧ G = (devo d X' • R)) := by
 rw [t.h.eq]
 haveI r' := ro.row
 unfold Dev.crash
 refine f_z3x.does _ _ ?_
 conv => whnf
 by_cases h1 : X.down = true
 ·have h1' : X.val.down = true := h1
  rw [if_pos h1']
  repeat' (first
   | ((first | refine spl_t h1 ?_ | refine Ld.i ?_); conv => whnf)
   | (intro blk hblk; conv => whnf))
  refine ⟨_, _, rfl, ?_, X, hX, rfl, by omega, rfl, rfl⟩
  first | exact .refl _ | exact .drop | exact .fin | ((repeat refine .pick ?_); first | exact .refl _ | exact .emp _ | exact .fin)
 have h1' : ¬ X.val.down = true := h1
 have h1f : X.down = false := by simpa using h1
 rw [if_neg h1']
 repeat' (first
  | ((first | refine spl_f h1f ?_ | refine Ld.i ?_ | refine LdN.i ?_); conv => whnf)
  | (intro blk hblk; conv => whnf)
  | (refine CallK.ret f_zh.ok (fallx_spec (by first | rfl | assumption | omega | decide | (simp; done) | (simp; omega) | (simp at *; omega)) (by first | rfl | assumption | omega | decide | (simp; done) | (simp; omega) | (simp at *; omega))) ?_; rintro v G ⟨rfl, rfl⟩; conv => whnf))
 refine ⟨_, _, rfl, ?_, _, fell_ok hX keep torn off, rfl, by simp [DevX.fell], rfl, rfl⟩
 first | exact .refl _ | exact .drop | exact .fin | ((repeat refine .pick ?_); first | exact .refl _ | exact .emp _ | exact .fin)
-- @pat crash_spec ⟨X', hX', hv', hl', rfl, rfl⟩
theorem clone64_spec {W : World} {R : HProp} {a : Option Addr} {n cap : Nat} {l : List Int} [c : RowN W R a n 1 u64s l] (hb : l.length ≤ 8796093022208) :
  Does prog W f_z38 ⟨[.slice a n cap]⟩ R (Ret fun v G => ∃ a' cap', l.length ≤ cap' ∧ v = .slice a' l.length cap' ∧ G = (vec t_uint64 1 u64s a' cap' l • R)) := by
 refine Does.vlen (V := fun a' cap' => .slice a' l.length cap') ?_
 have hn := c.len
 subst hn
 haveI c' := c.row
 cases a with
 | none =>
  refine Does.nil c' fun hl => ?_
  subst hl
  refine f_z38.does _ ?_
  conv => whnf
  skip
  refine ⟨_, _, rfl, ?_, none, 0, rfl, rfl⟩
  refine Imp.vnil ?_
  first | exact .refl _ | exact .drop | exact .fin | ((repeat refine .pick ?_); first | exact .refl _ | exact .emp _ | exact .fin)
 | some x =>
  refine f_z38.does _ ?_
  conv => whnf
  repeat' (first
   | (intro blk hblk; conv => whnf)
   | (refine OpX.appE (ys := l) tab_ok rfl rfl rfl rfl rfl rfl (by omega) (fun a' c' => ?_); conv => whnf))
  refine ⟨_, _, rfl, ?_, a', c', rfl, rfl⟩
  first | exact .refl _ | exact .drop | exact .fin | ((repeat refine .pick ?_); first | exact .refl _ | exact .emp _ | exact .fin)
theorem arm_spec {W : World} {H R : HProp} {d : Nat} {X : DevX} {a : Option Addr} {n c : Nat} {keep : List Int} {step torn off : Int} [t : DevC H d X R] [ro : RowN W R a n 1 u64s keep] (hX : X.Ok) (hk : keep.length ≤ 8796093022208) (hs : -9223372036854775808 ≤ step ∧ step ≤ 9223372036854775807) :
  Does prog W f_z2f ⟨[ptr d, .int .i64 step, .agg ⟨[.slice a n c, .int .i64 torn, .int .i64 off]⟩]⟩ H (Ret fun v G => ∃ X', X'.Ok ∧ X'.val = (X.val.arm step keep torn off).2 ∧ X'.ps.length ≤ X.ps.length ∧ v = .int .i64 (X.val.arm step keep torn off).1 ∧ G = (devo d X' • R)) := by
 rw [t.h.eq]
 haveI r' := ro.row
 unfold Dev.arm
 refine f_z2f.does _ _ _ ?_
 conv => whnf
 by_cases h1 : X.down = true
 ·have h1' : X.val.down = true := h1
  rw [if_pos h1']
  repeat' (first
   | ((first | refine spl_t h1 ?_ | refine Ld.i ?_); conv => whnf)
   | (intro blk hblk; conv => whnf))
  refine ⟨_, _, rfl, ?_, X, hX, rfl, by omega, rfl, rfl⟩
  first | exact .refl _ | exact .drop | exact .fin | ((repeat refine .pick ?_); first | exact .refl _ | exact .emp _ | exact .fin)
 have h1' : ¬ X.val.down = true := h1
 have h1f : X.down = false := by simpa using h1
 rw [if_neg h1']
 by_cases h2 : step < 0
 ·rw [if_pos h2]
  repeat' (first
   | (refine spl_f h1f ?_; conv => whnf)
   | (refine spl_dec (fun hd => ?_) (fun hd => ?_) <;> first | (exfalso; omega) | (conv => whnf))
   | (refine Ld.i ?_; conv => whnf)
   | (intro blk hblk; conv => whnf))
  refine ⟨_, _, rfl, ?_, X, hX, rfl, by omega, rfl, rfl⟩
  first | exact .refl _ | exact .drop | exact .fin | ((repeat refine .pick ?_); first | exact .refl _ | exact .emp _ | exact .fin)
 rw [if_neg h2]
 repeat' (first
  | (refine spl_f h1f ?_; conv => whnf)
  | (refine spl_dec (fun hd => ?_) (fun hd => ?_) <;> first | (exfalso; omega) | (conv => whnf))
  | ((first | refine Ld.i ?_ | refine St.i ⟨rfl, rfl⟩ (List.cons_ne_nil _ _) ?_); conv => whnf)
  | (intro blk hblk; conv => whnf)
  | (refine Sub.on (by first | exact .refl _ | exact .drop | exact .fin | ((repeat refine .pick ?_); first | exact .refl _ | exact .emp _ | exact .fin)) ?_; conv => whnf)
  | (refine DrawK.introH tab_ok mixed 19 f_z2f.last6 f_z2f.plan6 _ rfl (by kernel_rfl) (Sub.of (by first | exact .refl _ | exact .drop | exact .fin | ((repeat refine .pick ?_); first | exact .refl _ | exact .emp _ | exact .fin))) ?_; conv => whnf)
  | (refine CallK.ret f_z38.ok (clone64_spec (by first | rfl | assumption | omega | decide | (simp; done) | (simp; omega) | (simp at *; omega))) ?_; rintro v G ⟨e_a', e_cap', e_h1, rfl, rfl⟩; conv => whnf))
 refine ⟨_, _, rfl, ?_, { X with step := step, ka := e_a', kc := e_cap', keep := keep, torn := torn, off := off }, ⟨⟨hX.val.len, hX.val.pos, hX.val.byt, hX.val.q, ⟨by show 0 ≤ step; omega, hs.2⟩, hX.val.calls⟩, hX.ic, hX.caps⟩, rfl, by simp, rfl, rfl⟩
 rw [devo_eq]
 dsimp only
 first | exact .refl _ | exact .drop | exact .fin | ((repeat refine .pick ?_); first | exact .refl _ | exact .emp _ | exact .fin)
-- @pat arm_spec ⟨X', hX', hv', hl', rfl, rfl⟩
def freshX (a : Option Addr) (c : Nat) (img : List Int) : DevX := ⟨a, c, img, none, 0, [], 0, none, 0, [], 0, 0, false, 0⟩
theorem devo_fresh {d : Nat} {a : Option Addr} {c : Nat} {img : List Int} {H R : HProp} (h : Imp H (pts d (.cells ⟨[.slice a img.length c, .slice none 0 0, .int .i64 0, .slice none 0 0, .int .i64 0, .int .i64 0, .bool false, .int .i64 0]⟩ t_z41) • vec t_uint8 1 bytv a c img • R)) : Imp H (devo d (freshX a c img) • R) := by
 rw [devo_eq]
 refine Imp.trans h (Imp.right (Imp.right ?_))
 refine Imp.vnil ?_
 refine Imp.empi ?_
 refine Imp.vnil ?_
 exact Imp.refl _
theorem new_yes {W : World} {R : HProp} {n : Int} (h : 1 ≤ n ∧ n ≤ 8192) :
  Does prog W f_z30 ⟨[.int .i64 n]⟩ R (Ret fun v G => ∃ d a c, (List.replicate (n * 512).toNat (0 : Int)).length ≤ c ∧ v = .tuple ⟨[ptr d, i0]⟩ ∧ G = (devo d (freshX a c (List.replicate (n * 512).toNat 0)) • R)) := by
 refine f_z30.does _ ?_
 conv => whnf
 repeat' (first
  | (refine spl_dec (fun hd => ?_) (fun hd => ?_) <;> first | (exfalso; omega) | (conv => whnf))
  | (refine Ar.i64 (by omega) ?_; conv => whnf)
  | (intro blk hblk; conv => whnf)
  | (refine OpX.make tab_ok bytv 0 rfl rfl rfl rfl rfl rfl (by omega) (fun b hb => ?_); conv => whnf))
 refine ⟨_, _, rfl, ?_, blk, some ⟨b, 0, none⟩, (n * 512).toNat, ?_, rfl, rfl⟩
 ·refine devo_fresh ?_
  rw [List.length_replicate]
  first | exact .refl _ | exact .drop | exact .fin | ((repeat refine .pick ?_); first | exact .refl _ | exact .emp _ | exact .fin)
 ·rw [List.length_replicate]; exact Nat.le_refl _
theorem fresh_ok {a : Option Addr} {c : Nat} {img : List Int} (h1 : 512 ≤ img.length ∧ img.length ≤ 4194304) (h2 : img.length % 512 = 0) (hb : Byt img) (hc : img.length ≤ c) : (freshX a c img).Ok :=
 ⟨⟨h2, h1, hb, fun p hp => (by cases hp), ⟨Int.le_refl _, by show (0 : Int) ≤ _; decide⟩, ⟨by show _ ≤ (0 : Int); decide, by show (0 : Int) ≤ _; decide⟩⟩, hc, fun p hp => (by cases hp)⟩
theorem cache_spec {W : World} {H R : HProp} {d : Nat} {X : DevX} [t : DevC H d X R] (hX : X.Ok) (hq : X.ps.length ≤ 1000000) :
  Does prog W f_z1w ⟨[ptr d]⟩ H (Ret fun v G => ∃ a c qs, qs.map (fun p : PendX => (p.sec, p.b)) = X.val.q ∧ v = .slice a qs.length c ∧ G = (vec t_z40 2 pendv a c qs • bigL pendc qs • devo d X • R)) := by
 rw [t.h.eq]
 have hqv := hX.val.q
 refine f_z1w.does _ ?_
 conv => whnf
 repeat' (first
  | (refine Ld.i ?_; conv => whnf))
 obtain ⟨qa, hqa⟩ : ∃ qa, qa = X.qa := ⟨_, rfl⟩
 refine LoopK.at tab_ok (L := f_z1w.live) (ι := Nat × List PendX × Option Addr × Nat) (fun i => i.1 ≤ X.ps.length ∧ i.2.1.map (fun p => (p.sec, p.b)) = X.val.q.take i.1)
  (fun i => [(11, .int .i64 i.1), (3, .slice i.2.2.1 i.2.1.length i.2.2.2)]) (fun i => vec t_z40 2 pendv i.2.2.1 i.2.2.2 i.2.1 • bigL pendc i.2.1) (fun i => X.ps.length - i.1) (0, [], none, 0) ⟨by simp, by simp⟩ (fun t v h => h) (Imp.assoc (Imp.vnil (Imp.empi (Imp.refl _)))) ?_
 rintro ⟨i, qs, oa, oc⟩ ⟨hi, hm⟩
 dsimp only at hi hm ⊢
 have hQl : X.val.q.length = X.ps.length := by simp [DevX.val]
 have hqsl : qs.length = i := by
  have := congrArg List.length hm
  simp at this; omega
 simp only [star_assoc]
 conv => whnf
 by_cases h1 : i < X.ps.length
 ·obtain ⟨p, hp⟩ : ∃ p, X.ps[i]? = some p := ⟨_, List.getElem?_eq_getElem h1⟩
  have hpq : X.val.q[i]? = some (p.sec, p.b) := by simp [DevX.val, hp]
  obtain ⟨q1, q2, q3, q4⟩ := hqv _ (List.mem_of_getElem? hpq)
  dsimp only at q3
  haveI mp : MemC X.ps p := ⟨List.mem_of_getElem? hp⟩
  haveI cp : RowC W (devo d X • R) p.a 1 bytv p.b := RowC.devp
  repeat' (first
   | (refine spl_dec (fun hd => ?_) (fun hd => ?_) <;> first | (exfalso; omega) | (conv => whnf))
   | ((first | refine Ld.i ?_ | refine St.i ⟨rfl, rfl⟩ (List.cons_ne_nil _ _) ?_ | refine Ar.i64 (by omega) ?_); conv => whnf)
   | (intro blk hblk; conv => whnf)
   | (refine IxS.r (i := i) (xs := X.ps) rfl rfl h1 (fun ab off' ha => ?_); have rq : RowC W (devo d X • R) (some ⟨ab, off', none⟩) 2 pendv X.ps := ha ▸ RowC.devq; rw [ha]; conv => whnf)
   | (refine LdN.r hp rfl ?_; conv => whnf)
   | (refine OpX.app1g tab_ok rfl rfl rfl rfl rfl rfl (by omega) (fun a' c' => ?_); conv => whnf)
   | (refine Sub.on (by first | exact .refl _ | exact .drop | exact .fin | ((repeat refine .pick ?_); first | exact .refl _ | exact .emp _ | exact .fin)) ?_; conv => whnf)
   | (refine DrawK.introH tab_ok mixed 15 f_z1w.last5 f_z1w.plan5 _ rfl (by kernel_rfl) (Sub.of (by first | exact .refl _ | exact .drop | exact .fin | ((repeat refine .pick ?_); first | exact .refl _ | exact .emp _ | exact .fin))) ?_; conv => whnf)
   | (refine CallK.ret f_z1x.ok (clone_spec (by first | rfl | assumption | omega | decide | (simp; done) | (simp; omega) | (simp at *; omega))) ?_; rintro v G ⟨e_a', e_cap', e_h1, rfl, rfl⟩; conv => whnf))
  refine ⟨rfl, (i + 1, qs ++ [(⟨p.sec, e_a', e_cap', p.b⟩ : PendX)], a', c'), ⟨h1, ?_⟩, fun t v h => h, ?_, by dsimp only; omega⟩
  ·dsimp only
   rw [List.map_append, hm, List.take_add_one, hpq]; rfl
  ·dsimp only
   rw [bigL_snoc]
   simp only [star_assoc]
   unfold pendc
   first | exact .refl _ | exact .drop | exact .fin | ((repeat refine .pick ?_); first | exact .refl _ | exact .emp _ | exact .fin)
 ·have : i = X.ps.length := by omega
  subst this
  repeat' (first
   | (refine spl_dec (fun hd => ?_) (fun hd => ?_) <;> first | (exfalso; omega) | (conv => whnf)))
  refine ⟨_, _, rfl, ?_, oa, oc, qs, ?_, rfl, rfl⟩
  ·first | exact .refl _ | exact .drop | exact .fin | ((repeat refine .pick ?_); first | exact .refl _ | exact .emp _ | exact .fin)
  ·rw [hm, ← hQl, List.take_length]
theorem backward_iter {W : World} {B n c : Nat} {a : Option Addr} {ps : List PendX} {C : Nat} (hn : n = ps.length) (hb : ps.length ≤ 1000000) :
  IterSpec prog W f_z2w [ptr B] ps.length (fun k => [.int .i64 ((ps.length : Int) - 1 - k), .agg ⟨(ps.reverse[k]?.map pendv).getD []⟩])
   (pts B (.cells ⟨[.slice a n c]⟩ t_S_api_Pending) • vec t_z40 2 pendv a C ps) := by
 subst hn
 intro l J Jx hy
 simp only [star_assoc]
 refine f_z2w.does _ _ ?_
 conv => whnf
 repeat' (first
  | ((first | refine Ld.i ?_ | refine Ar.i64 (by omega) ?_); conv => whnf))
 refine LoopK.at tab_ok (L := f_z2w.live) (ι := Nat) (fun k => k ≤ ps.length) (fun k => [(3, .int .i64 ((ps.length : Int) - 1 - k))]) (fun k => J k) (fun k => ps.length - k) 0 (by simp) (fun t v h => by
   have h2 : ((ps.length : Int) - 1 - ((0 : Nat) : Int)) = (ps.length : Int) - 1 := by omega
   rw [h2] at h
   exact h) (Imp.pick (Imp.refl _)) ?_
 rintro k hk
 conv => whnf
 by_cases h1 : k < ps.length
 ·have hlt : ps.length - 1 - k < ps.length := by omega
  obtain ⟨p, hp⟩ : ∃ p, ps[ps.length - 1 - k]? = some p := ⟨_, List.getElem?_eq_getElem hlt⟩
  have hr : ps.reverse[k]? = some p := by rw [List.getElem?_reverse (by simpa using h1)]; exact hp
  have hk2 := hy k h1
  dsimp only at hk2
  rw [hr] at hk2
  repeat' (first
   | (refine spl_dec (fun hd => ?_) (fun hd => ?_) <;> first | (exfalso; omega) | (conv => whnf))
   | (refine Ld.i ?_; conv => whnf)
   | (refine IxS.r (i := ps.length - 1 - k) (xs := ps) (by omega) rfl hlt (fun ab off' ha => ?_); subst ha; conv => whnf)
   | (refine LdN.r hp rfl ?_; conv => whnf))
  simp only [star_assoc] at hk2
  refine YieldK.use hk2 (by first | exact .refl _ | exact .drop | exact .fin | ((repeat refine .pick ?_); first | exact .refl _ | exact .emp _ | exact .fin)) ?_
  rintro v H' (⟨rfl, hi⟩ | ⟨rfl, hi⟩)
  ·refine ⟨_, hi, ?_⟩
   conv => whnf
   repeat' (first
    | (refine Ar.i64 (by omega) ?_; conv => whnf))
   refine ⟨rfl, k + 1, by omega, fun t v h => ?_, ?_, by omega⟩
   ·have h2 : ((ps.length : Int) - 1 - ((k + 1 : Nat) : Int)) = (ps.length : Int) - 1 - k - 1 := by omega
    rw [h2] at h
    exact h
   ·first | exact .refl _ | exact .drop | exact .fin | ((repeat refine .pick ?_); first | exact .refl _ | exact .emp _ | exact .fin)
  ·refine ⟨_, hi, ?_⟩
   conv => whnf
   skip
   exact ⟨_, _, rfl, Imp.refl _, .inr rfl⟩
 ·repeat' (first
   | (refine spl_dec (fun hd => ?_) (fun hd => ?_) <;> first | (exfalso; omega) | (conv => whnf)))
  have : k = ps.length := by omega
  subst this
  refine ⟨_, _, rfl, ?_, .inl rfl⟩
  first | exact .refl _ | exact .drop | exact .fin | ((repeat refine .pick ?_); first | exact .refl _ | exact .emp _ | exact .fin)
end Go.Proofs.YtgcknlpkhhpkjaaGreatDoor
/- Copies of rows; whether a row is all zeros: walked. Conditions: in each statement. -/
namespace Go.SL.Rec
open Go Go.SL
structure CntV where
 id : Int
 grp : Int
 lo : Int
 hi : Int
 val : Int
 deriving DecidableEq
def cntv (c : CntV) : List Value := [.int .i64 c.id, .int .i64 c.grp, .int .i64 c.lo, .int .i64 c.hi, .int .i64 c.val]
instance : SizedC 5 cntv := ⟨fun _ => rfl⟩
instance {c : CntV} : LitL (cntv c) [.int .i64 c.id, .int .i64 c.grp, .int .i64 c.lo, .int .i64 c.hi, .int .i64 c.val] := ⟨rfl⟩
instance {a b c d e : Int} : DecOf cntv [.int .i64 a, .int .i64 b, .int .i64 c, .int .i64 d, .int .i64 e] ⟨a, b, c, d, e⟩ := ⟨rfl⟩
instance : OneC cntv := ⟨fun ys v hv => by
 obtain ⟨d, _, hv⟩ := List.mem_flatMap.1 hv
 simp only [cntv, List.mem_cons, List.not_mem_nil, or_false] at hv
 rcases hv with rfl | rfl | rfl | rfl | rfl <;> rfl⟩
structure GrpV where
 id : Int
 sum : Int
 deriving DecidableEq
def grpv (c : GrpV) : List Value := [.int .i64 c.id, .int .i64 c.sum]
instance : SizedC 2 grpv := ⟨fun _ => rfl⟩
instance {c : GrpV} : LitL (grpv c) [.int .i64 c.id, .int .i64 c.sum] := ⟨rfl⟩
instance {a b : Int} : DecOf grpv [.int .i64 a, .int .i64 b] ⟨a, b⟩ := ⟨rfl⟩
instance : OneC grpv := ⟨fun ys v hv => by
 obtain ⟨d, _, hv⟩ := List.mem_flatMap.1 hv
 simp only [grpv, List.mem_cons, List.not_mem_nil, or_false] at hv
 rcases hv with rfl | rfl <;> rfl⟩
end Go.SL.Rec
namespace Go.Proofs.YtgcknlpkhhpkjaaGreatDoor
open Go Go.SL Go.SL.Sec Go.SL.Fld Go.SL.Pts Go.SL.Rec
open Go.SL.Und (RecV recv fits)
theorem cloneL_spec {W : World} {R : HProp} {a : Option Addr} {n cap : Nat} {l : List LiveV} [c : RowN W R a n 4 livev l] (hb : l.length ≤ 1000000000) :
  Does prog W f_z3h ⟨[.slice a n cap]⟩ R (Ret fun v G => ∃ a' cap', l.length ≤ cap' ∧ v = .slice a' l.length cap' ∧ G = (vec t_api_Live 4 livev a' cap' l • R)) := by
 refine Does.vlen (V := fun a' cap' => .slice a' l.length cap') ?_
 have hn := c.len
 subst hn
 haveI c' := c.row
 cases a with
 | none =>
  refine Does.nil c' fun hl => ?_
  subst hl
  refine f_z3h.does _ ?_
  conv => whnf
  skip
  refine ⟨_, _, rfl, ?_, none, 0, rfl, rfl⟩
  refine Imp.vnil ?_
  first | exact .refl _ | exact .drop | exact .fin | ((repeat refine .pick ?_); first | exact .refl _ | exact .emp _ | exact .fin)
 | some x =>
  refine f_z3h.does _ ?_
  conv => whnf
  repeat' (first
   | (intro blk hblk; conv => whnf)
   | (refine OpX.appE (ys := l) tab_ok rfl rfl rfl rfl rfl rfl (by omega) (fun a' c' => ?_); conv => whnf))
  refine ⟨_, _, rfl, ?_, a', c', rfl, rfl⟩
  first | exact .refl _ | exact .drop | exact .fin | ((repeat refine .pick ?_); first | exact .refl _ | exact .emp _ | exact .fin)
theorem cloneD_spec {W : World} {R : HProp} {a : Option Addr} {n cap : Nat} {l : List DirtyV} [c : RowN W R a n 2 dirtyv l] (hb : l.length ≤ 1000000000) :
  Does prog W f_z3i ⟨[.slice a n cap]⟩ R (Ret fun v G => ∃ a' cap', l.length ≤ cap' ∧ v = .slice a' l.length cap' ∧ G = (vec t_api_Dirty 2 dirtyv a' cap' l • R)) := by
 refine Does.vlen (V := fun a' cap' => .slice a' l.length cap') ?_
 have hn := c.len
 subst hn
 haveI c' := c.row
 cases a with
 | none =>
  refine Does.nil c' fun hl => ?_
  subst hl
  refine f_z3i.does _ ?_
  conv => whnf
  skip
  refine ⟨_, _, rfl, ?_, none, 0, rfl, rfl⟩
  refine Imp.vnil ?_
  first | exact .refl _ | exact .drop | exact .fin | ((repeat refine .pick ?_); first | exact .refl _ | exact .emp _ | exact .fin)
 | some x =>
  refine f_z3i.does _ ?_
  conv => whnf
  repeat' (first
   | (intro blk hblk; conv => whnf)
   | (refine OpX.appE (ys := l) tab_ok rfl rfl rfl rfl rfl rfl (by omega) (fun a' c' => ?_); conv => whnf))
  refine ⟨_, _, rfl, ?_, a', c', rfl, rfl⟩
  first | exact .refl _ | exact .drop | exact .fin | ((repeat refine .pick ?_); first | exact .refl _ | exact .emp _ | exact .fin)
theorem cloneC_spec {W : World} {R : HProp} {a : Option Addr} {n cap : Nat} {l : List CntV} [c : RowN W R a n 5 cntv l] (hb : l.length ≤ 1000000000) :
  Does prog W f_z3c ⟨[.slice a n cap]⟩ R (Ret fun v G => ∃ a' cap', l.length ≤ cap' ∧ v = .slice a' l.length cap' ∧ G = (vec t_z1a 5 cntv a' cap' l • R)) := by
 refine Does.vlen (V := fun a' cap' => .slice a' l.length cap') ?_
 have hn := c.len
 subst hn
 haveI c' := c.row
 cases a with
 | none =>
  refine Does.nil c' fun hl => ?_
  subst hl
  refine f_z3c.does _ ?_
  conv => whnf
  skip
  refine ⟨_, _, rfl, ?_, none, 0, rfl, rfl⟩
  refine Imp.vnil ?_
  first | exact .refl _ | exact .drop | exact .fin | ((repeat refine .pick ?_); first | exact .refl _ | exact .emp _ | exact .fin)
 | some x =>
  refine f_z3c.does _ ?_
  conv => whnf
  repeat' (first
   | (intro blk hblk; conv => whnf)
   | (refine OpX.appE (ys := l) tab_ok rfl rfl rfl rfl rfl rfl (by omega) (fun a' c' => ?_); conv => whnf))
  refine ⟨_, _, rfl, ?_, a', c', rfl, rfl⟩
  first | exact .refl _ | exact .drop | exact .fin | ((repeat refine .pick ?_); first | exact .refl _ | exact .emp _ | exact .fin)
theorem cloneP_spec {W : World} {R : HProp} {a : Option Addr} {n cap : Nat} {l : List GrpV} [c : RowN W R a n 2 grpv l] (hb : l.length ≤ 1000000000) :
  Does prog W f_z3d ⟨[.slice a n cap]⟩ R (Ret fun v G => ∃ a' cap', l.length ≤ cap' ∧ v = .slice a' l.length cap' ∧ G = (vec t_zt 2 grpv a' cap' l • R)) := by
 refine Does.vlen (V := fun a' cap' => .slice a' l.length cap') ?_
 have hn := c.len
 subst hn
 haveI c' := c.row
 cases a with
 | none =>
  refine Does.nil c' fun hl => ?_
  subst hl
  refine f_z3d.does _ ?_
  conv => whnf
  skip
  refine ⟨_, _, rfl, ?_, none, 0, rfl, rfl⟩
  refine Imp.vnil ?_
  first | exact .refl _ | exact .drop | exact .fin | ((repeat refine .pick ?_); first | exact .refl _ | exact .emp _ | exact .fin)
 | some x =>
  refine f_z3d.does _ ?_
  conv => whnf
  repeat' (first
   | (intro blk hblk; conv => whnf)
   | (refine OpX.appE (ys := l) tab_ok rfl rfl rfl rfl rfl rfl (by omega) (fun a' c' => ?_); conv => whnf))
  refine ⟨_, _, rfl, ?_, a', c', rfl, rfl⟩
  first | exact .refl _ | exact .drop | exact .fin | ((repeat refine .pick ?_); first | exact .refl _ | exact .emp _ | exact .fin)
def zerosB (l : List Int) : Bool := l.all fun b => decide (b = 0)
theorem index_spec {W : World} {R : HProp} {a : Option Addr} {n c : Nat} {l : List Int} {g : FuncId} (hg : Callable prog g) (hpr : ∀ b : Int, Does prog W g ⟨[.int .u8 b]⟩ R (Ret fun v G => v = .bool (!decide (b = 0)) ∧ G = R)) [ro : RowN W R a n 1 bytv l] (hl : l.length ≤ 16777216) :
  Does prog W f_z3e ⟨[.slice a n c, .func (.func g) #[] #[]]⟩ R (Ret fun v G => ∃ z : Int, (z ≥ 0 ↔ zerosB l = false) ∧ v = .int .i64 z ∧ G = R) := by
 have hn := ro.len
 subst hn
 haveI r' := ro.row
 refine f_z3e.does _ _ ?_
 conv => whnf
 skip
 refine LoopK.keep tab_ok (L := f_z3e.live) (ι := Nat) (fun i => i ≤ l.length ∧ zerosB l = zerosB (l.drop i)) (fun i => [(8, .int .i64 i)]) (fun i => l.length - i) 0 (by simp) (fun t v h => h) ?_
 rintro i ⟨hi, hz⟩
 conv => whnf
 by_cases h1 : i < l.length
 ·obtain ⟨b, hb⟩ : ∃ b, l[i]? = some b := ⟨_, List.getElem?_eq_getElem h1⟩
  have hdr : zerosB (l.drop i) = (decide (b = 0) && zerosB (l.drop (i + 1))) := by
   rw [drop_of hb]; simp [zerosB]
  rw [hdr] at hz
  repeat' (first
   | (refine spl_dec (fun hd => ?_) (fun hd => ?_) <;> first | (exfalso; omega) | (conv => whnf))
   | (refine IxS.r (xs := l) (i := i) rfl rfl h1 (fun ab off ha => ?_); cases ha; conv => whnf)
   | (refine Ld.r0 hb rfl ?_; conv => whnf))
  refine CallK.ret hg (hpr _) ?_
  rintro v G ⟨rfl, rfl⟩
  conv => whnf
  repeat' (first
   | (refine spl_ndec (fun hd => ?_) (fun hd => ?_) <;> first | (exfalso; omega) | (conv => whnf))
   | (refine Ar.i64 (by omega) ?_; conv => whnf))
  ·refine ⟨_, _, rfl, Imp.refl _, i, ?_, rfl, rfl⟩
   rw [hz, decide_eq_false (by assumption)]
   simp
  ·refine ⟨rfl, i + 1, ⟨h1, ?_⟩, fun t v h => h, Imp.refl _, by omega⟩
   have hb0 : b = 0 := by assumption
   rw [hz, hb0]; simp
 ·rw [List.drop_eq_nil_of_le (by omega)] at hz
  repeat' (first
   | (refine spl_dec (fun hd => ?_) (fun hd => ?_) <;> first | (exfalso; omega) | (conv => whnf)))
  refine ⟨_, _, rfl, Imp.refl _, -1, ?_, rfl, rfl⟩
  rw [hz]
  simp [zerosB]
theorem contains_spec {W : World} {R : HProp} {a : Option Addr} {n c : Nat} {l : List Int} {g : FuncId} (hg : Callable prog g) (hpr : ∀ b : Int, Does prog W g ⟨[.int .u8 b]⟩ R (Ret fun v G => v = .bool (!decide (b = 0)) ∧ G = R)) [ro : RowN W R a n 1 bytv l] (hl : l.length ≤ 16777216) :
  Does prog W f_z39 ⟨[.slice a n c, .func (.func g) #[] #[]]⟩ R (Ret fun v G => v = .bool (!zerosB l) ∧ G = R) := by
 refine f_z39.does _ _ ?_
 conv => whnf
 repeat' (first
  | (refine CallK.ret f_z3e.ok (index_spec hg hpr hl) ?_; rintro v G ⟨z, hz, rfl, rfl⟩; conv => whnf))
 refine Ret.eq (congrArg Value.bool ?_) (Imp.refl _)
 by_cases h : z ≥ 0
 ·rw [decide_eq_true h, hz.1 h]; rfl
 ·rw [decide_eq_false h]
  cases hz0 : zerosB l with
  | true => rfl
  | false => exact absurd (hz.2 hz0) h
theorem lblank1_spec {W : World} {R : HProp} {b : Int} : Does prog W f_z3v ⟨[.int .u8 b]⟩ R (Ret fun v G => v = .bool (!decide (b = 0)) ∧ G = R) := by
 refine f_z3v.does _ ?_
 conv => whnf
 skip
 refine Ret.eq rfl ?_
 first | exact .refl _ | exact .drop | exact .fin | ((repeat refine .pick ?_); first | exact .refl _ | exact .emp _ | exact .fin)
theorem lblank_spec {W : World} {R : HProp} {a : Option Addr} {n c : Nat} {l : List Int} [ro : RowN W R a n 1 bytv l] (hl : l.length ≤ 16777216) :
  Does prog W f_z2t ⟨[.slice a n c]⟩ R (Ret fun v G => v = .bool (zerosB l) ∧ G = R) := by
 refine f_z2t.does _ ?_
 conv => whnf
 repeat' (first
  | (refine CallK.ret f_z39.ok (contains_spec f_z3v.ok (fun b => lblank1_spec) hl) ?_; rintro v G ⟨rfl, rfl⟩; conv => whnf))
 refine Ret.eq ?_ (Imp.refl _)
 rw [Bool.not_not]
end Go.Proofs.YtgcknlpkhhpkjaaGreatDoor
/- A page as bytes, in plain words: laying it down, reading it back. No condition. -/
namespace Go.SL.Pg
open Go Go.SL Go.SL.Sec Go.SL.Fld Go.SL.Rec
open Go.Proofs.YtgcknlpkhhpkjaaGreatDoor (zerosB)
structure PgM where
 num : Int
 lsn : Int
 C : List CntV
 G : List GrpV
 deriving DecidableEq
def PgM.no : PgM := ⟨0, 0, [], []⟩
def cntF (c : CntV) : Int := if ¬ ((1 ≤ c.id ∧ c.id ≤ 1048576) ∧ (1 ≤ c.grp ∧ c.grp ≤ 1048576)) then 23 else if c.lo > c.hi then 11 else 0
def grpF (g : GrpV) : Int := if ¬ (1 ≤ g.id ∧ g.id ≤ 1048576) then 23 else 0
def firstF {α : Type} (f : α → Int) : List α → Int
 | [] => 0
 | c :: l => if f c ≠ 0 then f c else firstF f l
def contF (C : List CntV) (G : List GrpV) : Int := if firstF cntF C ≠ 0 then firstF cntF C else firstF grpF G
def PgM.fault (p : PgM) : Int :=
 if ¬ (0 ≤ p.num ∧ p.num ≤ 63) then 4 else if p.C.length > 0 ∧ p.G.length > 0 then 70 else if p.C.length > 31 ∨ p.G.length > 84 then 6 else
 if ¬ (0 ≤ p.lsn ∧ p.lsn ≤ 2147483647) ∨ ¬ (p.lsn = 0 ↔ p.C.length + p.G.length = 0) then 23 else contF p.C p.G
def u64 (z : Int) : Int := z % 18446744073709551616
def s64 (z : Int) : Int := if z < 9223372036854775808 then z else z - 18446744073709551616
def In64 (z : Int) : Prop := -9223372036854775808 ≤ z ∧ z ≤ 9223372036854775807
theorem s64_u64 {z : Int} (h : In64 z) : s64 (u64 z) = z := by unfold s64 u64; unfold In64 at h; split <;> omega
theorem u64_bd (z : Int) : 0 ≤ u64 z ∧ u64 z < 18446744073709551616 := by unfold u64; omega
theorem s64_bd {z : Int} (h : 0 ≤ z ∧ z < 18446744073709551616) : In64 (s64 z) := by unfold s64 In64; split <;> omega
def CntIn (c : CntV) : Prop := In64 c.id ∧ In64 c.grp ∧ In64 c.lo ∧ In64 c.hi ∧ In64 c.val
def GrpIn (g : GrpV) : Prop := In64 g.id ∧ In64 g.sum
structure PgM.In (p : PgM) : Prop where
 num : In64 p.num
 lsn : In64 p.lsn
 C : ∀ c ∈ p.C, CntIn c
 G : ∀ g ∈ p.G, GrpIn g
def lays : List (Nat × Int) → List Int
 | [] => []
 | p :: l => Fld.leB p.1 p.2 ++ lays l
def laysN : List (Nat × Int) → Nat
 | [] => 0
 | p :: l => p.1 + laysN l
theorem lays_len : ∀ l : List (Nat × Int), (lays l).length = laysN l
 | [] => rfl
 | p :: l => by rw [lays, laysN, List.length_append, leB_len, lays_len l]
theorem lays_byt : ∀ l : List (Nat × Int), Byt (lays l)
 | [] => Byt.nil
 | _ :: l => (leB_byt _ _).append (lays_byt l)
def over (b : List Int) (at_ : Nat) (x : List Int) : List Int := b.take at_ ++ x ++ b.drop (at_ + x.length)
theorem over_len {b x : List Int} {at_ : Nat} (h : at_ + x.length ≤ b.length) : (over b at_ x).length = b.length := by
 unfold over; rw [List.length_append, List.length_append, List.length_take, List.length_drop]; omega
theorem over_nil (b : List Int) (at_ : Nat) : over b at_ [] = b := by simp [over]
theorem over_over {b x y : List Int} {at_ : Nat} (h : at_ + x.length ≤ b.length) : over (over b at_ x) (at_ + x.length) y = over b at_ (x ++ y) := by
 unfold over
 have h1 : (b.take at_ ++ x).length = at_ + x.length := by rw [List.length_append, List.length_take]; omega
 have e1 : (b.take at_ ++ x ++ b.drop (at_ + x.length)).take (at_ + x.length) = b.take at_ ++ x := by
  rw [← h1]; exact List.take_left
 have e2 : (b.take at_ ++ x ++ b.drop (at_ + x.length)).drop (at_ + x.length + y.length) = b.drop (at_ + (x ++ y).length) := by
  rw [← List.drop_drop, show (b.take at_ ++ x ++ b.drop (at_ + x.length)).drop (at_ + x.length) = b.drop (at_ + x.length) by rw [← h1]; exact List.drop_left, List.drop_drop, List.length_append, Nat.add_assoc]
 rw [e1, e2, List.append_assoc, List.append_assoc, List.append_assoc, List.append_assoc]
theorem putB_over (b : List Int) (at_ size : Nat) (n : Int) : putB b at_ size n = over b at_ (Fld.leB size n) := by
 unfold putB over; rw [leB_len]
theorem over_byt {b x : List Int} {at_ : Nat} (h : Byt b) (k : Byt x) : Byt (over b at_ x) := ((h.take _).append k).append (h.drop _)
def cntL (c : CntV) : List (Nat × Int) := [(4, u64 c.id), (4, u64 c.grp), (8, u64 c.lo), (8, u64 c.hi), (8, u64 c.val)]
def grpL (g : GrpV) : List (Nat × Int) := [(4, u64 g.id), (8, u64 g.sum)]
def PgM.headL (p : PgM) : List (Nat × Int) := [(1, 113), (1, if p.G.length > 0 then 2 else 1), (2, u64 p.num), (2, ((p.C.length + p.G.length : Nat) : Int)), (2, 0), (4, u64 p.lsn)]
def PgM.body (p : PgM) : List Int := (p.C.flatMap fun c => lays (cntL c)) ++ p.G.flatMap fun g => lays (grpL g)
def z1024 : List Int := List.replicate 1024 0
theorem z1024_eq : z1024 = List.replicate 1024 0 := rfl
theorem z1024_len : z1024.length = 1024 := List.length_replicate
theorem z1024_byt : Byt z1024 := Byt.rep 1024
def PgM.bare (p : PgM) : List Int := over (over z1024 0 (lays p.headL)) 16 p.body
def sumP (b : List Int) : Int := crcV (b.take 12 ++ [0, 0, 0, 0] ++ b.drop 16)
def encP (p : PgM) : List Int := if p.C.length + p.G.length = 0 then z1024 else over p.bare 12 (Fld.leB 4 (sumP p.bare))
theorem flat_len {α : Type} {f : α → List Int} {m : Nat} (h : ∀ x, (f x).length = m) : ∀ l : List α, (l.flatMap f).length = l.length * m
 | [] => by simp
 | x :: l => by rw [List.flatMap_cons, List.length_append, h, flat_len h l, List.length_cons, Nat.succ_mul]; omega
theorem flat_drop {α : Type} {f : α → List Int} {m : Nat} (h : ∀ x, (f x).length = m) : ∀ (l : List α) (i : Nat), (l.flatMap f).drop (i * m) = (l.drop i).flatMap f
 | l, 0 => by simp
 | [], i + 1 => by simp
 | x :: l, i + 1 => by
  rw [List.flatMap_cons, List.drop_succ_cons, ← flat_drop h l i, show (i + 1) * m = (f x).length + i * m by rw [h, Nat.succ_mul]; omega, ← List.drop_drop, List.drop_left]
theorem cntL_len (c : CntV) : (lays (cntL c)).length = 32 := by rw [lays_len]; rfl
theorem grpL_len (g : GrpV) : (lays (grpL g)).length = 12 := by rw [lays_len]; rfl
theorem headL_len (p : PgM) : (lays p.headL).length = 12 := by rw [lays_len]; rfl
theorem flat_byt {α : Type} {f : α → List Int} (h : ∀ x, Byt (f x)) : ∀ l : List α, Byt (l.flatMap f)
 | [] => Byt.nil
 | x :: l => by rw [List.flatMap_cons]; exact (h x).append (flat_byt h l)
theorem body_byt (p : PgM) : Byt p.body := (flat_byt (fun _ => lays_byt _) _).append (flat_byt (fun _ => lays_byt _) _)
theorem body_len (p : PgM) : p.body.length = p.C.length * 32 + p.G.length * 12 := by
 unfold PgM.body; rw [List.length_append, flat_len cntL_len, flat_len grpL_len]
def cntD (b : List Int) (i : Nat) : CntV := ⟨getB b (16 + i * 32) 4, getB b (16 + i * 32 + 4) 4, s64 (getB b (16 + i * 32 + 8) 8), s64 (getB b (16 + i * 32 + 16) 8), s64 (getB b (16 + i * 32 + 24) 8)⟩
def grpD (b : List Int) (i : Nat) : GrpV := ⟨getB b (16 + i * 12) 4, s64 (getB b (16 + i * 12 + 4) 8)⟩
def cntsD (b : List Int) (n : Nat) : List CntV := (List.range n).map (cntD b)
def grpsD (b : List Int) (n : Nat) : List GrpV := (List.range n).map (grpD b)
def pgD (b : List Int) (number : Int) : PgM :=
 if getB b 1 1 = 2 then ⟨number, getB b 8 4, [], grpsD b (getB b 4 2).toNat⟩ else ⟨number, getB b 8 4, cntsD b (getB b 4 2).toNat, []⟩
def szD (b : List Int) : Nat := if getB b 1 1 = 2 then 12 else 32
def decP (b : List Int) (number : Int) : Int × PgM :=
 if ¬ (0 ≤ number ∧ number ≤ 63) then (4, .no) else if b.length ≠ 1024 then (42, .no) else if zerosB b = true then (0, ⟨number, 0, [], []⟩) else
 if getB b 0 1 ≠ 113 then (80, .no) else if getB b 1 1 ≠ 1 ∧ getB b 1 1 ≠ 2 then (70, .no) else
 if getB b 12 4 ≠ sumP b then (81, .no) else if getB b 2 2 ≠ number then (82, .no) else
 if ¬ (1 ≤ getB b 4 2 ∧ getB b 4 2 ≤ if getB b 1 1 = 2 then 84 else 31) ∨ ¬ (1 ≤ getB b 8 4 ∧ getB b 8 4 ≤ 2147483647) then (23, .no) else
 if contF (pgD b number).C (pgD b number).G ≠ 0 then (contF (pgD b number).C (pgD b number).G, .no) else
 if getB b 6 2 ≠ 0 ∨ zerosB (b.drop (16 + (getB b 4 2).toNat * szD b)) = false then (23, .no) else (0, pgD b number)
end Go.SL.Pg
