/- The program's record.Encode, walked. Conditions: in each statement. -/
import Derived.Test.YtgcknlpkhhpkjaaGreatDoorPart13
namespace Go.SL.Rec
open Go Go.SL Go.SL.Sec Go.SL.Fld Go.SL.Pts
open Go.SL.Und (RecV recv fits)
def cellAt (r : RecV) : Nat → Int
 | 2 => r.tx | 3 => r.prev | 4 => r.wp | 5 => r.wi | 6 => r.sp | 7 => r.si | 8 => r.delta | 9 => r.id | 10 => r.grp | 11 => r.lo | 12 => r.hi | 13 => r.val | 16 => r.nxt | _ => 0
def stateN (x : LiveV) : Nat := if x.com then 1 else if x.und then 2 else 0
def intO (kind : Int) : List Nat := if kind = 2 then [4, 5, 6, 7, 9, 10] else if kind = 8 then [16] else if kind = 3 ∨ kind = 4 then [2, 3, 4, 5, 6, 7, 9] else if kind = 5 ∨ kind = 6 ∨ kind = 7 then [2, 3] else [2]
def sgnO (kind : Int) : List Nat := if kind = 2 then [11, 12, 13] else if kind = 3 ∨ kind = 4 then [8] else []
def encLive (x : LiveV) : List Int := encN x.tx.toNat ++ encN x.last.toNat ++ encN (stateN x)
def encDirty (x : DirtyV) : List Int := encN x.1.toNat ++ encN x.2.toNat
def encInts (r : RecV) (l : List Nat) : List Int := l.flatMap fun o => encN (cellAt r o).toNat
def encSgns (r : RecV) (l : List Nat) : List Int := l.flatMap fun o => encN (zig (cellAt r o)).toNat
def encR (r : RecV) (L : List LiveV) (D : List DirtyV) : List Int :=
 encN r.kind.toNat ++ encInts r (intO r.kind) ++ encSgns r (sgnO r.kind) ++
  (if r.kind = 8 then encN L.length ++ L.flatMap encLive ++ encN D.length ++ D.flatMap encDirty else [])
theorem cell_at {r : RecV} {o : Nat} (h : (2 ≤ o ∧ o ≤ 13) ∨ o = 16) : (recv r)[o]? = some (.int .i64 (cellAt r o)) := by
 have : o = 2 ∨ o = 3 ∨ o = 4 ∨ o = 5 ∨ o = 6 ∨ o = 7 ∨ o = 8 ∨ o = 9 ∨ o = 10 ∨ o = 11 ∨ o = 12 ∨ o = 13 ∨ o = 16 := by omega
 rcases this with rfl | rfl | rfl | rfl | rfl | rfl | rfl | rfl | rfl | rfl | rfl | rfl | rfl <;> rfl
theorem intO_in {k : Int} {o : Nat} (h : o ∈ intO k) : (2 ≤ o ∧ o ≤ 13) ∨ o = 16 := by
 unfold intO at h
 repeat' split at h
 all_goals
  simp only [List.mem_cons, List.not_mem_nil, or_false] at h
  omega
theorem sgnO_in {k : Int} {o : Nat} (h : o ∈ sgnO k) : (2 ≤ o ∧ o ≤ 13) ∨ o = 16 := by
 unfold sgnO at h
 repeat' split at h
 all_goals
  simp only [List.mem_cons, List.not_mem_nil, or_false] at h
  try omega
theorem intO_len (k : Int) : (intO k).length ≤ 7 := by
 unfold intO
 (repeat' split) <;> decide
theorem sgnO_len (k : Int) : (sgnO k).length ≤ 3 := by
 unfold sgnO
 (repeat' split) <;> decide
theorem FieldsP.nn {r : RecV} {L : List LiveV} {D : List DirtyV} (hk : 1 ≤ r.kind ∧ r.kind ≤ 8) (h : FieldsP r L D) : ∀ o ∈ intO r.kind, 0 ≤ cellAt r o ∧ cellAt r o ≤ 2147483648 := by
 intro o ho
 have hcp : r.kind = 8 → 1 ≤ r.nxt ∧ r.nxt ≤ 2147483648 := fun h8 => by
  have h1 := ((FieldsP.cp h8).1 h).2.1
  unfold cpF at h1
  split at h1
  ·cases h1
  ·omega
 have h2 : r.kind = 2 → SlotsP r.wp r.wi r.sp r.si ∧ (1 ≤ r.id ∧ r.id ≤ 1048576) ∧ (1 ≤ r.grp ∧ r.grp ≤ 1048576) := fun e => by
  have := ((FieldsP.two e).1 h).2
  exact ⟨this.1, this.2.1, this.2.2.1⟩
 have h3 : r.kind = 3 ∨ r.kind = 4 → SlotsP r.wp r.wi r.sp r.si ∧ (1 ≤ r.id ∧ r.id ≤ 1048576) ∧ (1 ≤ r.prev ∧ r.prev ≤ 2147483647) ∧ (1 ≤ r.tx ∧ r.tx ≤ 2147483647) := fun e => by
  have := ((FieldsP.add e).1 h).2
  exact ⟨this.1, this.2.1, this.2.2.1.1, this.2.2.2.1⟩
 have h5 : r.kind = 5 ∨ r.kind = 6 ∨ r.kind = 7 → (1 ≤ r.prev ∧ r.prev ≤ 2147483647) ∧ (1 ≤ r.tx ∧ r.tx ≤ 2147483647) := fun e => by
  have := ((FieldsP.end_ e).1 h).2
  exact ⟨this.1.1, this.2.1⟩
 have h1 : r.kind = 1 → (1 ≤ r.tx ∧ r.tx ≤ 2147483647) := fun e => ((FieldsP.one e).1 h).2.1
 clear h
 unfold intO at ho
 split at ho
 ·rename_i e
  obtain ⟨a, b, c⟩ := h2 e
  unfold SlotsP at a
  clear h2 h3 h5 h1 hcp
  simp only [List.mem_cons, List.not_mem_nil, or_false] at ho
  rcases ho with rfl | rfl | rfl | rfl | rfl | rfl <;> simp only [cellAt] <;> omega
 ·split at ho
  ·rename_i e
   have := hcp e
   clear h2 h3 h5 h1 hcp
   obtain rfl := List.mem_singleton.1 ho
   simp only [cellAt]; omega
  ·split at ho
   ·rename_i e
    obtain ⟨a, b, c, d⟩ := h3 e
    unfold SlotsP at a
    clear h2 h3 h5 h1 hcp e
    simp only [List.mem_cons, List.not_mem_nil, or_false] at ho
    rcases ho with rfl | rfl | rfl | rfl | rfl | rfl | rfl <;> simp only [cellAt] <;> omega
   ·split at ho
    ·rename_i e
     obtain ⟨a, b⟩ := h5 e
     clear h2 h3 h5 h1 hcp e
     simp only [List.mem_cons, List.not_mem_nil, or_false] at ho
     rcases ho with rfl | rfl <;> simp only [cellAt] <;> omega
    ·have := h1 (by omega)
     obtain rfl := List.mem_singleton.1 ho
     simp only [cellAt]; omega
end Go.SL.Rec
namespace Go.Proofs.YtgcknlpkhhpkjaaGreatDoor
open Go Go.SL Go.SL.Sec Go.SL.Fld Go.SL.Pts Go.SL.Rec
open Go.SL.Und (RecV recv fits)
theorem fields_spec {W : World} {H R : HProp} {r : Nat} {fz : Nat × Nat} {k : Int} {v0 v2 v3 v4 v5 v6 v7 v8 v9 v10 v11 v12 v13 v14 v15 v16 : Value} [p : PtsC H r (.cells ⟨[v0, .int .i64 k, v2, v3, v4, v5, v6, v7, v8, v9, v10, v11, v12, v13, v14, v15, v16]⟩ t_z1n fz) R] (hk : 1 ≤ k ∧ k ≤ 8) :
  Does prog W f_z4 ⟨[ptr r]⟩ H (Ret fun v G => ∃ a c b d, v = .tuple ⟨[.slice a (intO k).length c, .slice b (sgnO k).length d]⟩ ∧ G = (vec t_P_int 1 (ptv r) a c (intO k) • vec t_P_int64 1 (ptv r) b d (sgnO k) • H)) := by
 have : k = 1 ∨ k = 2 ∨ k = 3 ∨ k = 4 ∨ k = 5 ∨ k = 6 ∨ k = 7 ∨ k = 8 := by omega
 rcases this with rfl | rfl | rfl | rfl | rfl | rfl | rfl | rfl
 ·exact fields1_spec
 ·exact fields2_spec
 ·exact fields3_spec
 ·exact fields4_spec
 ·exact fields5_spec
 ·exact fields6_spec
 ·exact fields7_spec
 ·exact fields8_spec
theorem state_spec {W : World} {R : HProp} {a b : Int} {c d : Bool} :
  Does prog W f_z3t ⟨[.agg ⟨[.int .i64 a, .int .i64 b, .bool c, .bool d]⟩]⟩ R (Ret fun v G => v = .int .u64 (stateN ⟨a, b, c, d⟩ : Nat) ∧ G = R) := by
 cases c <;> cases d
 all_goals
  refine f_z3t.does _ ?_
  conv => whnf
  repeat' (first
   | (refine Ld.i ?_; conv => whnf)
   | (intro blk hblk; conv => whnf))
  exact Ret.eq rfl (by first | exact .refl _ | exact .drop | exact .fin | ((repeat refine .pick ?_); first | exact .refl _ | exact .emp _ | exact .fin))
end Go.Proofs.YtgcknlpkhhpkjaaGreatDoor
/- The program's record.Encode, walked. Conditions: in each statement. -/
namespace Go.SL.Rec
open Go Go.SL Go.SL.Sec Go.SL.Fld Go.SL.Pts
open Go.SL.Und (RecV recv fits)
theorem encN_len10 {n : Nat} (h : n < 18446744073709551616) : (encN n).length ≤ 10 := encN_len 9 _ (by
 have : (128 : Nat) ^ 10 = 1180591620717411303424 := by decide
 omega)
theorem flat_len {α : Type} {f : α → List Int} {m : Nat} : ∀ {l : List α}, (∀ x ∈ l, (f x).length ≤ m) → (l.flatMap f).length ≤ m * l.length
 | [], _ => by simp
 | x :: l, h => by
  have h1 := h x List.mem_cons_self
  have h2 := flat_len (f := f) (m := m) (l := l) fun y hy => h y (List.mem_cons_of_mem _ hy)
  simp only [List.flatMap_cons, List.length_append, List.length_cons, Nat.mul_add]
  omega
theorem cpLive_mem {next lsn : Int} : ∀ {l : List LiveV} {last : Int}, cpLive next lsn last l = true → ∀ x ∈ l, last < x.tx ∧ x.tx < next ∧ 1 ≤ x.last ∧ x.last ≤ 2147483647
 | [], _, _, x, hx => by cases hx
 | y :: l, last, h, x, hx => by
  unfold cpLive at h
  split at h
  ·cases h
  ·split at h
   ·cases h
   ·rcases List.mem_cons.1 hx with rfl | hx
    ·omega
    ·have := cpLive_mem h x hx
     omega
theorem cpDirty_mem {lsn : Int} : ∀ {l : List DirtyV} {page : Int}, cpDirty lsn page l = true → ∀ x ∈ l, page < x.1 ∧ x.1 < 64 ∧ 1 ≤ x.2 ∧ x.2 ≤ 2147483647
 | [], _, _, x, hx => by cases hx
 | y :: l, page, h, x, hx => by
  unfold cpDirty at h
  split at h
  ·cases h
  ·rcases List.mem_cons.1 hx with rfl | hx
   ·omega
   ·have := cpDirty_mem h x hx
    omega
theorem encLive_len {x : LiveV} (h : 0 ≤ x.tx ∧ x.tx ≤ 2147483648) (k : 0 ≤ x.last ∧ x.last ≤ 2147483647) : (encLive x).length ≤ 30 := by
 have h1 := encN_len10 (n := x.tx.toNat) (by omega)
 have h2 := encN_len10 (n := x.last.toNat) (by omega)
 have h3 := encN_len10 (n := stateN x) (by unfold stateN; (repeat' split) <;> omega)
 unfold encLive
 simp only [List.length_append]; omega
theorem encDirty_len {x : DirtyV} (h : 0 ≤ x.1 ∧ x.1 < 64) (k : 0 ≤ x.2 ∧ x.2 ≤ 2147483647) : (encDirty x).length ≤ 30 := by
 have h1 := encN_len10 (n := x.1.toNat) (by omega)
 have h2 := encN_len10 (n := x.2.toNat) (by omega)
 unfold encDirty
 simp only [List.length_append]; omega
theorem cpF_in {nx lsn : Int} {L : List LiveV} {D : List DirtyV} (h : cpF nx lsn L D = true) : L.length ≤ 32 ∧ D.length ≤ 16 ∧ (∀ x ∈ L, 0 ≤ x.tx ∧ x.tx ≤ 2147483648 ∧ 0 ≤ x.last ∧ x.last ≤ 2147483647) ∧ ∀ x ∈ D, 0 ≤ x.1 ∧ x.1 < 64 ∧ 0 ≤ x.2 ∧ x.2 ≤ 2147483647 := by
 unfold cpF at h
 split at h
 ·cases h
 ·rw [Bool.and_eq_true] at h
  refine ⟨by omega, by omega, fun x hx => ?_, fun x hx => ?_⟩
  ·have := cpLive_mem h.1 x hx; omega
  ·have := cpDirty_mem h.2 x hx; omega
end Go.SL.Rec
namespace Go.Proofs.YtgcknlpkhhpkjaaGreatDoor
open Go Go.SL Go.SL.Sec Go.SL.Fld Go.SL.Pts Go.SL.Rec
open Go.SL.Und (RecV recv fits)
set_option maxHeartbeats 4000000 in
theorem encode_yes {W : World} {R : HProp} {r : RecV} {L : List LiveV} {D : List DirtyV} [rl : RowN W R r.lv.1 r.lv.2.1 4 livev L] [rd : RowN W R r.dt.1 r.dt.2.1 2 dirtyv D] (hc : chkF r L D = 0) (hf : ∀ o ∈ sgnO r.kind, fits (cellAt r o)) :
  Does prog W f_z28 ⟨[recA r]⟩ R (Ret fun v G => ∃ a c, (encR r L D).length ≤ c ∧ v = .tuple ⟨[.slice a (encR r L D).length c, i0]⟩ ∧ G = (vec t_uint8 1 bytv a c (encR r L D) • R)) := by
 have hk : 1 ≤ r.kind ∧ r.kind ≤ 8 := by
  unfold chkF at hc
  split at hc
  ·cases hc
  ·omega
 have hF : FieldsP r L D := by
  unfold chkF at hc
  rw [if_neg (by omega)] at hc
  split at hc
  ·assumption
  ·cases hc
 have hnn := hF.nn hk
 unfold recA
 refine f_z28.does _ ?_
 conv => whnf
 repeat' (first
  | (refine spl_ndec (fun hd => ?_) (fun hd => ?_) <;> first | (exfalso; omega) | (conv => whnf))
  | ((first | refine Ld.i ?_ | refine LdN.i ?_ | refine Ar.u64 (by omega) ?_); conv => whnf)
  | (intro blk hblk; conv => whnf)
  | (refine CallK.ret f_z6.ok (check_spec) ?_; rintro v G ⟨rfl, rfl⟩; conv => whnf)
  | (refine CallK.ret f_z3r.ok (newWriter_spec) ?_; rintro v G ⟨e_w, rfl, rfl⟩; conv => whnf)
  | (refine CallK.ret f_z1m.ok (wu_spec (by first | rfl | assumption | omega | decide | (simp; done) | (simp; omega) | (simp at *; omega)) (by first | rfl | assumption | omega | decide | (simp; done) | (simp; omega) | (simp at *; omega))) ?_; rintro v G ⟨e_a, e_c, rfl, rfl⟩; conv => whnf)
  | (refine CallK.ret f_z4.ok (fields_spec (by first | rfl | assumption | omega | decide | (simp; done) | (simp; omega) | (simp at *; omega))) ?_; rintro v G ⟨e_a, e_c, e_b, e_d, rfl, rfl⟩; conv => whnf))
 rename_i wa wc
 obtain ⟨B0, hB0⟩ : ∃ B0, B0 = encN r.kind.toNat := ⟨_, rfl⟩
 have hB0l : B0.length ≤ 10 := hB0 ▸ encN_len10 (by omega)
 have hil := intO_len r.kind
 have hsl := sgnO_len r.kind
 refine LoopK.at tab_ok (L := f_z28.live) (ι := Nat × Option Addr × Nat) (fun i => i.1 ≤ (intO r.kind).length) (fun i => [(33, .int .i64 i.1)])
  (fun i => writo e_w ⟨i.2.1, i.2.2, B0 ++ encInts r ((intO r.kind).take i.1)⟩) (fun i => (intO r.kind).length - i.1) (0, wa, wc) (by simp) (fun t v h => h) (by
   dsimp only
   rw [show B0 ++ encInts r ((intO r.kind).take 0) = [] ++ encN r.kind.toNat by simp [encInts, hB0]]
   exact Imp.pick (Imp.refl _)) ?_
 rintro ⟨k, a, c⟩ hk2
 dsimp only at hk2 ⊢
 conv => whnf
 by_cases h1 : k < (intO r.kind).length
 ·obtain ⟨o, ho⟩ : ∃ o, (intO r.kind)[k]? = some o := ⟨_, List.getElem?_eq_getElem h1⟩
  have hom := List.mem_of_getElem? ho
  have hov := hnn o hom
  have hcell := cell_at (r := r) (intO_in hom)
  have hlen : (B0 ++ encInts r ((intO r.kind).take k)).length ≤ 16777216 := by
   have h2 : (encInts r ((intO r.kind).take k)).length ≤ 10 * ((intO r.kind).take k).length := flat_len fun x hx => encN_len10 (by
    have := hnn x (List.mem_of_mem_take hx)
    omega)
   rw [List.length_take] at h2
   rw [List.length_append]; omega
  have hnx : B0 ++ encInts r ((intO r.kind).take (k + 1)) = (B0 ++ encInts r ((intO r.kind).take k)) ++ encN (cellAt r o).toNat := by
   rw [List.take_add_one, ho]
   simp [encInts]
  repeat' (first
   | (refine spl_dec (fun hd => ?_) (fun hd => ?_) <;> first | (exfalso; omega) | (conv => whnf))
   | ((first | refine Ar.i64 (by omega) ?_ | refine Ar.u64 (by omega) ?_); conv => whnf)
   | (refine IxS.v (i := k) (xs := intO r.kind) rfl rfl h1 (fun ab off' ha => ?_); subst ha; conv => whnf)
   | ((first | refine Ld.r0 ho rfl ?_ | refine Ld.nth hcell ?_); conv => whnf)
   | (refine CallK.ret f_z1m.ok (wu_spec (by first | rfl | assumption | omega | decide | (simp; done) | (simp; omega) | (simp at *; omega)) (by first | rfl | assumption | omega | decide | (simp; done) | (simp; omega) | (simp at *; omega))) ?_; rintro v G ⟨e_a, e_c, rfl, rfl⟩; conv => whnf))
  refine ⟨rfl, (k + 1, e_a, e_c), h1, fun t v h => h, ?_, by dsimp only; omega⟩
  dsimp only
  rw [hnx]
  first | exact .refl _ | exact .drop | exact .fin | ((repeat refine .pick ?_); first | exact .refl _ | exact .emp _ | exact .fin)
 ·have : k = (intO r.kind).length := by omega
  subst this
  rw [List.take_length]
  obtain ⟨B1, hB1⟩ : ∃ B1, B1 = B0 ++ encInts r (intO r.kind) := ⟨_, rfl⟩
  have hB1l : B1.length ≤ 80 := by
   have h2 : (encInts r (intO r.kind)).length ≤ 10 * (intO r.kind).length := flat_len fun x hx => encN_len10 (by
    have := hnn x hx
    omega)
   rw [hB1, List.length_append]; omega
  rw [← hB1]
  repeat' (first
   | (refine spl_dec (fun hd => ?_) (fun hd => ?_) <;> first | (exfalso; omega) | (conv => whnf)))
  refine LoopK.at tab_ok (L := f_z28.live) (ι := Nat × Option Addr × Nat) (fun i => i.1 ≤ (sgnO r.kind).length) (fun i => [(46, .int .i64 i.1)])
   (fun i => writo e_w ⟨i.2.1, i.2.2, B1 ++ encSgns r ((sgnO r.kind).take i.1)⟩) (fun i => (sgnO r.kind).length - i.1) (0, a, c) (by simp) (fun t v h => h) (by
    dsimp only
    rw [show B1 ++ encSgns r ((sgnO r.kind).take 0) = B1 by simp [encSgns]]
    exact Imp.pick (Imp.refl _)) ?_
  rintro ⟨k, a, c⟩ hk2
  dsimp only at hk2 ⊢
  conv => whnf
  by_cases h1 : k < (sgnO r.kind).length
  ·obtain ⟨o, ho⟩ : ∃ o, (sgnO r.kind)[k]? = some o := ⟨_, List.getElem?_eq_getElem h1⟩
   have hom := List.mem_of_getElem? ho
   have hov := hf o hom
   have hcell := cell_at (r := r) (sgnO_in hom)
   have hlen : (B1 ++ encSgns r ((sgnO r.kind).take k)).length ≤ 16777216 := by
    have h2 : (encSgns r ((sgnO r.kind).take k)).length ≤ 10 * ((sgnO r.kind).take k).length := flat_len fun x hx => encN_len10 (by
     have := hf x (List.mem_of_mem_take hx)
     unfold fits at this
     unfold zig
     split <;> omega)
    rw [List.length_take] at h2
    rw [List.length_append]; omega
   have hnx : B1 ++ encSgns r ((sgnO r.kind).take (k + 1)) = (B1 ++ encSgns r ((sgnO r.kind).take k)) ++ encN (zig (cellAt r o)).toNat := by
    rw [List.take_add_one, ho]
    simp [encSgns]
   repeat' (first
    | (refine spl_dec (fun hd => ?_) (fun hd => ?_) <;> first | (exfalso; omega) | (conv => whnf))
    | (refine Ar.i64 (by omega) ?_; conv => whnf)
    | (refine IxS.v (i := k) (xs := sgnO r.kind) rfl rfl h1 (fun ab off' ha => ?_); subst ha; conv => whnf)
    | ((first | refine Ld.r0 ho rfl ?_ | refine Ld.nth hcell ?_); conv => whnf)
    | (refine CallK.ret f_z3s.ok (ws_spec (by first | rfl | assumption | omega | decide | (simp; done) | (simp; omega) | (simp at *; omega)) (by first | rfl | assumption | omega | decide | (simp; done) | (simp; omega) | (simp at *; omega))) ?_; rintro v G ⟨e_a, e_c, rfl, rfl⟩; conv => whnf))
   refine ⟨rfl, (k + 1, e_a, e_c), h1, fun t v h => h, ?_, by dsimp only; omega⟩
   dsimp only
   rw [hnx]
   first | exact .refl _ | exact .drop | exact .fin | ((repeat refine .pick ?_); first | exact .refl _ | exact .emp _ | exact .fin)
  ·have : k = (sgnO r.kind).length := by omega
   subst this
   rw [List.take_length]
   obtain ⟨B2, hB2⟩ : ∃ B2, B2 = B1 ++ encSgns r (sgnO r.kind) := ⟨_, rfl⟩
   have hB2l : B2.length ≤ 110 := by
    have h2 : (encSgns r (sgnO r.kind)).length ≤ 10 * (sgnO r.kind).length := flat_len fun x hx => encN_len10 (by
     have := hf x hx
     unfold fits at this
     unfold zig
     split <;> omega)
    rw [hB2, List.length_append]; omega
   rw [← hB2]
   by_cases h8 : r.kind = 8
   ·obtain ⟨hL, hD, hLm, hDm⟩ := cpF_in ((FieldsP.cp h8).1 hF).2.1
    have hn := rl.len
    have hn' := rd.len
    haveI rlr := rl.row
    haveI rdr := rd.row
    have hE : encR r L D = B2 ++ encN L.length ++ L.flatMap encLive ++ encN D.length ++ D.flatMap encDirty := by
     unfold encR
     rw [if_pos h8, hB2, hB1, hB0]
     simp only [List.append_assoc]
    rw [hE]
    repeat' (first
     | (refine spl_dec (fun hd => ?_) (fun hd => ?_) <;> first | (exfalso; omega) | (conv => whnf))
     | ((first | refine Ld.i ?_ | refine Ar.u64 (by omega) ?_); conv => whnf)
     | (refine CallK.ret f_z1m.ok (wu_spec (by first | rfl | assumption | omega | decide | (simp; done) | (simp; omega) | (simp at *; omega)) (by first | rfl | assumption | omega | decide | (simp; done) | (simp; omega) | (simp at *; omega))) ?_; rintro v G ⟨e_a, e_c, rfl, rfl⟩; conv => whnf))
    obtain ⟨B3, hB3⟩ : ∃ B, B = B2 ++ encN L.length := ⟨_, rfl⟩
    have hB3l : B3.length ≤ 120 := by
     have := encN_len10 (n := L.length) (by omega)
     rw [hB3, List.length_append]; omega
    refine LoopK.at tab_ok (L := f_z28.live) (ι := Nat × Option Addr × Nat) (fun i => i.1 ≤ L.length) (fun i => [(70, .int .i64 i.1)])
     (fun i => writo e_w ⟨i.2.1, i.2.2, B3 ++ (L.take i.1).flatMap encLive⟩) (fun i => L.length - i.1) (0, e_a, e_c) (by simp) (fun t v h => h) (by
      dsimp only
      rw [List.take_zero, List.flatMap_nil, List.append_nil, hB3, hn, Int.toNat_natCast]
      exact Imp.pick (Imp.refl _)) ?_
    rintro ⟨k, a, c⟩ hk2
    dsimp only at hk2 ⊢
    conv => whnf
    by_cases h1 : k < L.length
    ·obtain ⟨x, hx⟩ : ∃ x, L[k]? = some x := ⟨_, List.getElem?_eq_getElem h1⟩
     have hxm := hLm x (List.mem_of_getElem? hx)
     have hlen : (B3 ++ (L.take k).flatMap encLive).length ≤ 10000 := by
      have h2 : ((L.take k).flatMap encLive).length ≤ 30 * (L.take k).length := flat_len fun y hy => by
       have := hLm y (List.mem_of_mem_take hy)
       exact encLive_len (by omega) (by omega)
      rw [List.length_take] at h2
      rw [List.length_append]; omega
     have hnx : B3 ++ (L.take (k + 1)).flatMap encLive = (B3 ++ (L.take k).flatMap encLive) ++ encLive x := by
      rw [List.take_add_one, hx]
      simp
     obtain ⟨B, hB⟩ : ∃ B, B = B3 ++ (L.take k).flatMap encLive := ⟨_, rfl⟩
     rw [← hB] at hlen hnx ⊢
     have hq1 := encN_len10 (n := x.tx.toNat) (by omega)
     have hq2 := encN_len10 (n := x.last.toNat) (by omega)
     have hl0 : B.length ≤ 16777216 := by omega
     have hl1 : (B ++ encN x.tx.toNat).length ≤ 16777216 := by rw [List.length_append]; omega
     have hl2 : ((B ++ encN x.tx.toNat) ++ encN x.last.toNat).length ≤ 16777216 := by rw [List.length_append, List.length_append]; omega
     have hst : 0 ≤ ((stateN ⟨x.tx, x.last, x.com, x.und⟩ : Nat) : Int) ∧ ((stateN ⟨x.tx, x.last, x.com, x.und⟩ : Nat) : Int) ≤ 18446744073709551615 := by
      unfold stateN; (repeat' split) <;> omega
     repeat' (first
      | (refine spl_dec (fun hd => ?_) (fun hd => ?_) <;> first | (exfalso; omega) | (conv => whnf))
      | ((first | refine Ld.i ?_ | refine LdN.i ?_ | refine St.i ⟨rfl, rfl⟩ (List.cons_ne_nil _ _) ?_ | refine Ar.i64 (by omega) ?_ | refine Ar.u64 (by omega) ?_); conv => whnf)
      | (intro blk hblk; conv => whnf)
      | (refine IxS.r (i := k) (xs := L) rfl hn h1 (fun ab off' ha => ?_); have rq : RowC W R (some ⟨ab, off', none⟩) 4 livev L := ha ▸ rl.row; rw [ha]; conv => whnf)
      | (refine LdN.r hx rfl ?_; conv => whnf)
      | (refine CallK.ret f_z1m.ok (wu_spec (by first | rfl | assumption | omega | decide | (simp; done) | (simp; omega) | (simp at *; omega)) (by first | rfl | assumption | omega | decide | (simp; done) | (simp; omega) | (simp at *; omega))) ?_; rintro v G ⟨e_a, e_c, rfl, rfl⟩; conv => whnf)
      | (refine CallK.ret f_z3t.ok (state_spec) ?_; rintro v G ⟨rfl, rfl⟩; conv => whnf))
     refine ⟨rfl, (k + 1, e_a, e_c), h1, fun t v h => h, ?_, by dsimp only; omega⟩
     dsimp only
     rw [hnx]
     unfold encLive
     rw [← List.append_assoc, ← List.append_assoc]
     simp only [Int.toNat_natCast]
     first | exact .refl _ | exact .drop | exact .fin | ((repeat refine .pick ?_); first | exact .refl _ | exact .emp _ | exact .fin)
    ·have : k = L.length := by omega
     subst this
     rw [List.take_length]
     obtain ⟨B4, hB4⟩ : ∃ B4, B4 = B3 ++ L.flatMap encLive := ⟨_, rfl⟩
     have hB4l : B4.length ≤ 1100 := by
      have h2 : (L.flatMap encLive).length ≤ 30 * L.length := flat_len fun y hy => by
       have := hLm y hy
       exact encLive_len (by omega) (by omega)
      rw [hB4, List.length_append]; omega
     rw [← hB4]
     repeat' (first
      | (refine spl_dec (fun hd => ?_) (fun hd => ?_) <;> first | (exfalso; omega) | (conv => whnf))
      | ((first | refine Ld.i ?_ | refine Ar.u64 (by omega) ?_); conv => whnf)
      | (refine CallK.ret f_z1m.ok (wu_spec (by first | rfl | assumption | omega | decide | (simp; done) | (simp; omega) | (simp at *; omega)) (by first | rfl | assumption | omega | decide | (simp; done) | (simp; omega) | (simp at *; omega))) ?_; rintro v G ⟨e_a, e_c, rfl, rfl⟩; conv => whnf))
     obtain ⟨B5, hB5⟩ : ∃ B, B = B4 ++ encN D.length := ⟨_, rfl⟩
     have hB5l : B5.length ≤ 1200 := by
      have := encN_len10 (n := D.length) (by omega)
      rw [hB5, List.length_append]; omega
     refine LoopK.at tab_ok (L := f_z28.live) (ι := Nat × Option Addr × Nat) (fun i => i.1 ≤ D.length) (fun i => [(100, .int .i64 i.1)])
      (fun i => writo e_w ⟨i.2.1, i.2.2, B5 ++ (D.take i.1).flatMap encDirty⟩) (fun i => D.length - i.1) (0, e_a, e_c) (by simp) (fun t v h => h) (by
       dsimp only
       rw [List.take_zero, List.flatMap_nil, List.append_nil, hB5, hn', Int.toNat_natCast]
       exact Imp.pick (Imp.refl _)) ?_
     rintro ⟨k, a, c⟩ hk2
     dsimp only at hk2 ⊢
     conv => whnf
     by_cases h1 : k < D.length
     ·obtain ⟨x, hx⟩ : ∃ x, D[k]? = some x := ⟨_, List.getElem?_eq_getElem h1⟩
      have hxm := hDm x (List.mem_of_getElem? hx)
      have hlen : (B5 ++ (D.take k).flatMap encDirty).length ≤ 10000 := by
       have h2 : ((D.take k).flatMap encDirty).length ≤ 30 * (D.take k).length := flat_len fun y hy => by
        have := hDm y (List.mem_of_mem_take hy)
        exact encDirty_len (by omega) (by omega)
       rw [List.length_take] at h2
       rw [List.length_append]; omega
      have hnx : B5 ++ (D.take (k + 1)).flatMap encDirty = (B5 ++ (D.take k).flatMap encDirty) ++ encDirty x := by
       rw [List.take_add_one, hx]
       simp
      obtain ⟨B, hB⟩ : ∃ B, B = B5 ++ (D.take k).flatMap encDirty := ⟨_, rfl⟩
      rw [← hB] at hlen hnx ⊢
      have hq1 := encN_len10 (n := x.1.toNat) (by omega)
      have hl0 : B.length ≤ 16777216 := by omega
      have hl1 : (B ++ encN x.1.toNat).length ≤ 16777216 := by rw [List.length_append]; omega
      repeat' (first
       | (refine spl_dec (fun hd => ?_) (fun hd => ?_) <;> first | (exfalso; omega) | (conv => whnf))
       | ((first | refine Ld.i ?_ | refine St.i ⟨rfl, rfl⟩ (List.cons_ne_nil _ _) ?_ | refine Ar.i64 (by omega) ?_ | refine Ar.u64 (by omega) ?_); conv => whnf)
       | (intro blk hblk; conv => whnf)
       | (refine IxS.r (i := k) (xs := D) rfl hn' h1 (fun ab off' ha => ?_); have rq : RowC W R (some ⟨ab, off', none⟩) 2 dirtyv D := ha ▸ rd.row; rw [ha]; conv => whnf)
       | (refine LdN.r hx rfl ?_; conv => whnf)
       | (refine CallK.ret f_z1m.ok (wu_spec (by first | rfl | assumption | omega | decide | (simp; done) | (simp; omega) | (simp at *; omega)) (by first | rfl | assumption | omega | decide | (simp; done) | (simp; omega) | (simp at *; omega))) ?_; rintro v G ⟨e_a, e_c, rfl, rfl⟩; conv => whnf))
      refine ⟨rfl, (k + 1, e_a, e_c), h1, fun t v h => h, ?_, by dsimp only; omega⟩
      dsimp only
      rw [hnx]
      unfold encDirty
      rw [← List.append_assoc]
      first | exact .refl _ | exact .drop | exact .fin | ((repeat refine .pick ?_); first | exact .refl _ | exact .emp _ | exact .fin)
     ·have : k = D.length := by omega
      subst this
      rw [List.take_length]
      have hB6l : (B5 ++ D.flatMap encDirty).length ≤ 16777216 := by
       have h2 : (D.flatMap encDirty).length ≤ 30 * D.length := flat_len fun y hy => by
        have := hDm y hy
        exact encDirty_len (by omega) (by omega)
       rw [List.length_append]; omega
      rw [show B2 ++ encN L.length ++ L.flatMap encLive ++ encN D.length ++ D.flatMap encDirty = B5 ++ D.flatMap encDirty by rw [hB5, hB4, hB3]]
      repeat' (first
       | (refine spl_dec (fun hd => ?_) (fun hd => ?_) <;> first | (exfalso; omega) | (conv => whnf))
       | (refine CallK.ret f_z3g.ok (out_spec (by first | rfl | assumption | omega | decide | (simp; done) | (simp; omega) | (simp at *; omega))) ?_; rintro v G ⟨e_a, e_c, e_h1, rfl, rfl⟩; conv => whnf))
      refine ⟨_, _, rfl, ?_, e_a, e_c, by assumption, rfl, rfl⟩
      first | exact .refl _ | exact .drop | exact .fin | ((repeat refine .pick ?_); first | exact .refl _ | exact .emp _ | exact .fin)
   ·have hE : encR r L D = B2 := by
     unfold encR
     rw [if_neg h8, List.append_nil, hB2, hB1, hB0]
    rw [hE]
    repeat' (first
     | (refine spl_dec (fun hd => ?_) (fun hd => ?_) <;> first | (exfalso; omega) | (conv => whnf))
     | (refine Ld.i ?_; conv => whnf)
     | (refine CallK.ret f_z3g.ok (out_spec (by first | rfl | assumption | omega | decide | (simp; done) | (simp; omega) | (simp at *; omega))) ?_; rintro v G ⟨e_a, e_c, e_h1, rfl, rfl⟩; conv => whnf))
    refine ⟨_, _, rfl, ?_, e_a, e_c, by assumption, rfl, rfl⟩
    first | exact .refl _ | exact .drop | exact .fin | ((repeat refine .pick ?_); first | exact .refl _ | exact .emp _ | exact .fin)
end Go.Proofs.YtgcknlpkhhpkjaaGreatDoor
/- Records read back, in plain words; stores into a block's cell. No condition. -/
namespace Go.SL
open Go
theorem setL_one (v : Value) : ∀ (l : List Value) (o : Nat) (K : List Value → Prop), o < l.length → K (l.set o v) → setL l o [v] K
 | [], o, K, h, _ => by simp at h
 | c :: l, 0, K, _, k => by simpa [setL] using k
 | c :: l, o + 1, K, h, k => by
  simp only [setL]
  exact setL_one v l o _ (by simpa using h) (by simpa using k)
theorem St.nth {P : Program} {W : World} {H R : HProp} {b o n : Nat} {l : List Value} {t : TypeId} {v : Value} {K : HProp → Prop} [p : PtsC H b (.cells ⟨l⟩ t (0, 0)) R] (ho : o < l.length) (hv : v.oneCell' = true) (hn : n = 1) (k : K (pts b (.cells ⟨l.set o v⟩ t (0, 0)) • R)) :
  Req ([v].length = n ∧ [v].all (·.oneCell') = true) (St P W H ⟨b, o, none⟩ [v] K) := St.i ⟨hn.symm, by simp [hv]⟩ (by simp) (setL_one v l o _ ho k)
end Go.SL
namespace Go.SL.Rec
open Go Go.SL Go.SL.Sec Go.SL.Fld Go.SL.Pts
open Go.SL.Und (RecV recv fits)
def recZ : RecV := ⟨0, 0, 0, 0, 0, 0, 0, 0, 0, 0, 0, 0, 0, 0, (none, 0, 0), (none, 0, 0), 0⟩
def setC (r : RecV) (o : Nat) (z : Int) : RecV := match o with
 | 2 => { r with tx := z } | 3 => { r with prev := z } | 4 => { r with wp := z } | 5 => { r with wi := z } | 6 => { r with sp := z } | 7 => { r with si := z } | 8 => { r with delta := z }
 | 9 => { r with id := z } | 10 => { r with grp := z } | 11 => { r with lo := z } | 12 => { r with hi := z } | 13 => { r with val := z } | 16 => { r with nxt := z } | _ => r
theorem recv_set {r : RecV} {o : Nat} {z : Int} (h : (2 ≤ o ∧ o ≤ 13) ∨ o = 16) : (recv r).set o (.int .i64 z) = recv (setC r o z) := by
 have : o = 2 ∨ o = 3 ∨ o = 4 ∨ o = 5 ∨ o = 6 ∨ o = 7 ∨ o = 8 ∨ o = 9 ∨ o = 10 ∨ o = 11 ∨ o = 12 ∨ o = 13 ∨ o = 16 := by omega
 rcases this with rfl | rfl | rfl | rfl | rfl | rfl | rfl | rfl | rfl | rfl | rfl | rfl | rfl <;> rfl
theorem setC_same {r : RecV} {o : Nat} {z : Int} (h : (2 ≤ o ∧ o ≤ 13) ∨ o = 16) : (setC r o z).kind = r.kind ∧ (setC r o z).lsn = r.lsn ∧ (setC r o z).lv = r.lv ∧ (setC r o z).dt = r.dt := by
 have : o = 2 ∨ o = 3 ∨ o = 4 ∨ o = 5 ∨ o = 6 ∨ o = 7 ∨ o = 8 ∨ o = 9 ∨ o = 10 ∨ o = 11 ∨ o = 12 ∨ o = 13 ∨ o = 16 := by omega
 rcases this with rfl | rfl | rfl | rfl | rfl | rfl | rfl | rfl | rfl | rfl | rfl | rfl | rfl <;> exact ⟨rfl, rfl, rfl, rfl⟩
end Go.SL.Rec
namespace Go.Proofs.YtgcknlpkhhpkjaaGreatDoor
open Go Go.SL Go.SL.Sec Go.SL.Fld Go.SL.Pts Go.SL.Rec
open Go.SL.Und (RecV recv fits)
def decI (most : Int) : List Nat → RecV → RdX → RecV × RdX
 | [], r, X => (r, X)
 | o :: l, r, X => decI most l (setC r o (X.u most).1) (X.u most).2
def decS : List Nat → RecV → RdX → RecV × RdX
 | [], r, X => (r, X)
 | o :: l, r, X => decS l (setC r o (zag (X.u 18446744073709551615).1)) (X.u 18446744073709551615).2
def liveF (X : RdX) : LiveV × RdX :=
 let a := X.u 2147483647
 let b := a.2.u 2147483647
 let c := b.2.u 2
 (⟨a.1, b.1, decide (c.1 = 1), decide (c.1 = 2)⟩, c.2)
def dirtyF (X : RdX) : DirtyV × RdX :=
 let a := X.u 2147483647
 let b := a.2.u 2147483647
 ((a.1, b.1), b.2)
def decLv : Nat → List LiveV → RdX → List LiveV × RdX
 | 0, L, X => (L, X)
 | n + 1, L, X => decLv n (L ++ [(liveF X).1]) (liveF X).2
def decDt : Nat → List DirtyV → RdX → List DirtyV × RdX
 | 0, D, X => (D, X)
 | n + 1, D, X => decDt n (D ++ [(dirtyF X).1]) (dirtyF X).2
abbrev DecT := Int × RecV × List LiveV × List DirtyV
def noneT (e : Int) : DecT := (e, recZ, [], [])
def withL (r : RecV) (L : List LiveV) (D : List DirtyV) : RecV := { r with lv := (none, L.length, 0), dt := (none, D.length, 0) }
def finF (r : RecV) (L : List LiveV) (D : List DirtyV) (X : RdX) : DecT :=
 if X.fin.err ≠ 0 then noneT X.fin.err else if chkF (withL r L D) L D ≠ 0 then noneT (chkF (withL r L D) L D) else (0, r, L, D)
def kindR (k : Int) : RecV := { recZ with kind := k }
def decN (k : Int) (X : RdX) : DecT :=
 let a := decI 2147483647 (intO k) (kindR k) X
 let b := decS (sgnO k) a.1 a.2
 finF b.1 [] [] b.2
def decC (X : RdX) : DecT :=
 let a := decI 2147483648 (intO 8) (kindR 8) X
 let n := a.2.u 32
 let L := decLv n.1.toNat [] n.2
 let m := L.2.u 16
 let D := decDt m.1.toNat [] m.2
 finF a.1 L.1 D.1 D.2
def decX (X : RdX) : DecT :=
 let k := X.u 18446744073709551615
 if k.2.err ≠ 0 then noneT k.2.err else if k.1 < 1 ∨ k.1 > 8 then noneT 70 else if k.1 = 8 then decC k.2 else decN k.1 k.2
def decF (l : List Int) : DecT := decX ⟨none, 0, l, 0, 0⟩
theorem chkF_addr {r : RecV} {L : List LiveV} {D : List DirtyV} {a b : Option Addr} {c d : Nat} : chkF { r with lv := (a, L.length, c), dt := (b, D.length, d) } L D = chkF (withL r L D) L D := by
 unfold chkF withL
 dsimp only
 have : FieldsP { r with lv := (a, L.length, c), dt := (b, D.length, d) } L D ↔ FieldsP { r with lv := (none, L.length, 0), dt := (none, D.length, 0) } L D := by
  unfold FieldsP BlankP PrevP TxP
  exact Iff.rfl
 simp only [this]
def RdX.mv (X : RdX) (a : Option Addr) (c : Nat) : RdX := { X with a := a, c := c }
theorem mv_u (X : RdX) (a : Option Addr) (c : Nat) (m : Int) : ((RdX.mv X a c).u m).1 = (X.u m).1 ∧ ((RdX.mv X a c).u m).2 = RdX.mv (X.u m).2 a c := by
 unfold RdX.u RdX.mv
 dsimp only
 repeat' split
 all_goals exact ⟨rfl, rfl⟩
theorem mv_fin (X : RdX) (a : Option Addr) (c : Nat) : (RdX.mv X a c).fin = RdX.mv X.fin a c := by
 unfold RdX.fin RdX.mv
 dsimp only
 split <;> rfl
theorem mv_decI (a : Option Addr) (c : Nat) (most : Int) : ∀ (l : List Nat) (r : RecV) (X : RdX), decI most l r (RdX.mv X a c) = ((decI most l r X).1, RdX.mv (decI most l r X).2 a c)
 | [], _, _ => rfl
 | o :: l, r, X => by
  simp only [decI, (mv_u X a c most).1, (mv_u X a c most).2]
  exact mv_decI a c most l _ _
theorem mv_decS (a : Option Addr) (c : Nat) : ∀ (l : List Nat) (r : RecV) (X : RdX), decS l r (RdX.mv X a c) = ((decS l r X).1, RdX.mv (decS l r X).2 a c)
 | [], _, _ => rfl
 | o :: l, r, X => by
  simp only [decS, (mv_u X a c _).1, (mv_u X a c _).2]
  exact mv_decS a c l _ _
theorem mv_liveF (X : RdX) (a : Option Addr) (c : Nat) : liveF (RdX.mv X a c) = ((liveF X).1, RdX.mv (liveF X).2 a c) := by
 simp only [liveF, (mv_u _ a c _).1, (mv_u _ a c _).2]
theorem mv_dirtyF (X : RdX) (a : Option Addr) (c : Nat) : dirtyF (RdX.mv X a c) = ((dirtyF X).1, RdX.mv (dirtyF X).2 a c) := by
 simp only [dirtyF, (mv_u _ a c _).1, (mv_u _ a c _).2]
theorem mv_decLv (a : Option Addr) (c : Nat) : ∀ (n : Nat) (L : List LiveV) (X : RdX), decLv n L (RdX.mv X a c) = ((decLv n L X).1, RdX.mv (decLv n L X).2 a c)
 | 0, _, _ => rfl
 | n + 1, L, X => by
  simp only [decLv, mv_liveF]
  exact mv_decLv a c n _ _
theorem mv_decDt (a : Option Addr) (c : Nat) : ∀ (n : Nat) (L : List DirtyV) (X : RdX), decDt n L (RdX.mv X a c) = ((decDt n L X).1, RdX.mv (decDt n L X).2 a c)
 | 0, _, _ => rfl
 | n + 1, L, X => by
  simp only [decDt, mv_dirtyF]
  exact mv_decDt a c n _ _
theorem mv_finF (r : RecV) (L : List LiveV) (D : List DirtyV) (X : RdX) (a : Option Addr) (c : Nat) : finF r L D (RdX.mv X a c) = finF r L D X := by
 unfold finF
 rw [mv_fin]; rfl
theorem mv_decX (X : RdX) (a : Option Addr) (c : Nat) : decX (RdX.mv X a c) = decX X := by
 simp only [decX, decN, decC, (mv_u _ a c _).1, (mv_u _ a c _).2, mv_decI, mv_decS, mv_decLv, mv_decDt, mv_finF]
 rfl
theorem decX_eq {a : Option Addr} {c : Nat} {l : List Int} : decX ⟨a, c, l, 0, 0⟩ = decF l := mv_decX ⟨none, 0, l, 0, 0⟩ a c
theorem decI_next {most : Int} {l : List Nat} {k o : Nat} {r : RecV} {X : RdX} (h : l[k]? = some o) : decI most (l.drop k) r X = decI most (l.drop (k + 1)) (setC r o (X.u most).1) (X.u most).2 := by
 obtain ⟨h1, rfl⟩ := List.getElem?_eq_some_iff.1 h
 rw [List.drop_eq_getElem_cons h1, decI]
theorem decS_next {l : List Nat} {k o : Nat} {r : RecV} {X : RdX} (h : l[k]? = some o) : decS (l.drop k) r X = decS (l.drop (k + 1)) (setC r o (zag (X.u 18446744073709551615).1)) (X.u 18446744073709551615).2 := by
 obtain ⟨h1, rfl⟩ := List.getElem?_eq_some_iff.1 h
 rw [List.drop_eq_getElem_cons h1, decS]
theorem decLv_next {n i : Nat} {L : List LiveV} {X : RdX} (h : i < n) : decLv (n - i) L X = decLv (n - (i + 1)) (L ++ [(liveF X).1]) (liveF X).2 := by
 obtain ⟨m, hm⟩ : ∃ m, n - i = m + 1 := ⟨n - i - 1, by omega⟩
 rw [hm, show n - (i + 1) = m by omega, decLv]
theorem decDt_next {n i : Nat} {L : List DirtyV} {X : RdX} (h : i < n) : decDt (n - i) L X = decDt (n - (i + 1)) (L ++ [(dirtyF X).1]) (dirtyF X).2 := by
 obtain ⟨m, hm⟩ : ∃ m, n - i = m + 1 := ⟨n - i - 1, by omega⟩
 rw [hm, show n - (i + 1) = m by omega, decDt]
end Go.Proofs.YtgcknlpkhhpkjaaGreatDoor
