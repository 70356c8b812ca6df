/- A pool whose disk runs: what was put last is what is got; plain words. Conditions: in each statement. -/
import Derived.Test.YtgcknlpkhhpkjaaGreatDoorPart19
import Derived.Test.YtgcknlpkhhpkjaaGreatDoorPart11
import Derived.Test.YtgcknlpkhhpkjaaGreatDoorPart17
import Derived.Test.YtgcknlpkhhpkjaaGreatDoorPart18
namespace Go.SL.Pool
open Go Go.SL Go.SL.Sec Go.SL.Fld Go.SL.Rec Go.SL.Twn Go.SL.Pg
def pageOf (D : Dev) (n : Int) : List Int := D.at (5 + 2 * n) ++ D.at (5 + 2 * n + 1)
structure Keeps (S : Sto) (last : Int → PgM) : Prop where
 run : S.P.ended = false
 pages : 2 ≤ S.P.pages ∧ S.P.pages ≤ 64
 calm : S.D.Calm
 dok : S.D.Ok
 secs : S.D.secs = 5 + 2 * S.P.pages + S.L.count
 first : S.L.first = 5 + 2 * S.P.pages
 err : S.L.err = none
 forced : S.L.forced + S.L.bys.length = S.L.recs.length
 recs : (S.L.recs.length : Int) ≤ S.L.count
 bys : ∀ b ∈ S.L.bys, Byt b ∧ b.length ≤ 505
 nd : (S.P.held.map (·.1)).Nodup
 key : ∀ n f, S.P.held.lookup n = some f → (0 ≤ n ∧ n < S.P.pages) ∧ f.pg = last n ∧ (f.dirty = false → pageOf S.D n = encP (last n))
 home : ∀ n, 0 ≤ n ∧ n < S.P.pages → S.P.held.lookup n = none → pageOf S.D n = encP (last n)
 good : ∀ n, 0 ≤ n ∧ n < S.P.pages → (last n).num = n ∧ (last n).fault = 0 ∧ (last n).In ∧ (last n).lsn ≤ S.L.recs.length
theorem force_calm {L : LogM} {D : Dev} {lsn : Int} (hc : D.Calm) (ho : D.Ok) (he : L.err = none) (h0 : 0 ≤ L.first) (hs : L.first + L.count ≤ D.secs) (hf : L.forced + L.bys.length = L.recs.length) (hr : (L.recs.length : Int) ≤ L.count) (hb : ∀ b ∈ L.bys, Byt b ∧ b.length ≤ 505) (hl : 0 ≤ lsn ∧ lsn ≤ L.recs.length) :
  (L.force D lsn).1 = 0 ∧ (L.force D lsn).2.1.err = none ∧ (L.force D lsn).2.1.first = L.first ∧ (L.force D lsn).2.1.count = L.count ∧ (L.force D lsn).2.1.recs = L.recs ∧ (L.force D lsn).2.1.forced + (L.force D lsn).2.1.bys.length = L.recs.length ∧ (∀ b ∈ (L.force D lsn).2.1.bys, Byt b ∧ b.length ≤ 505) ∧ lsn ≤ (L.force D lsn).2.1.forced ∧
  ∃ f, D.To (L.force D lsn).2.2 f ∧ ∀ j, j < L.first → f j = none := by
 unfold LogM.force
 rw [if_neg (by rw [he]; decide), if_neg (by omega)]
 by_cases c : lsn ≤ L.forced
 ·rw [if_pos c]
  exact ⟨rfl, he, rfl, rfl, rfl, hf, hb, c, _, .refl hc ho, fun _ _ => rfl⟩
 ·rw [if_neg c]
  dsimp only
  obtain ⟨h1, h2⟩ := wrs_calm L.first (L.bys.take (lsn.toNat - L.forced)) (L.forced + 1) D hc ho (by omega) (by rw [List.length_take]; omega) fun b hb' => hb b (List.mem_of_mem_take hb')
  rw [if_pos h1]
  refine ⟨rfl, he, rfl, rfl, rfl, ?_, fun b hb' => hb b (List.mem_of_mem_drop hb'), ?_, _, h2, fun j hj => ?_⟩
  ·dsimp only; rw [List.length_drop]; omega
  ·dsimp only; omega
  ·rw [if_neg (by omega)]
theorem Keeps.write {S : Sto} {last : Int → PgM} (K : Keeps S last) {n : Int} {f : FrM} (h : S.P.held.lookup n = some f) :
  (S.write n f).1 = 0 ∧ Keeps (S.write n f).2 last ∧ (S.write n f).2.P = (if f.dirty = false then S.P else S.P.put n { f with dirty := false, since := 0 }) ∧ (S.write n f).2.L.recs = S.L.recs ∧ (S.write n f).2.L.count = S.L.count ∧ pageOf (S.write n f).2.D n = encP (last n) := by
 obtain ⟨hn, hp, hd⟩ := K.key n f h
 obtain ⟨g1, g2, g3, g4⟩ := K.good n hn
 obtain ⟨pg, pins, dt, si, us⟩ := f
 dsimp only at hp hd ⊢
 subst hp
 unfold Sto.write
 by_cases c : dt = false
 ·rw [if_pos c, if_pos c]; exact ⟨rfl, K, rfl, rfl, rfl, hd c⟩
 rw [if_neg c, if_neg c]
 dsimp only
 have g5 := (PgM.fault_ok g2).2.2.2.1
 obtain ⟨a1, a2, a3, a4, a5, a6, a7, _, F, a8, a9⟩ := force_calm K.calm K.dok K.err (by rw [K.first]; have := K.pages; omega) (by rw [K.first, K.secs]; omega) K.forced K.recs K.bys (lsn := (last n).lsn) ⟨by omega, g4⟩
 rw [if_neg (fun k => k a1)]
 obtain ⟨b1, F2, b2, b3⟩ := twW_calm a8.calm a8.ok (h := 5 + 2 * n) (b := encP (last n)) (by rw [a8.secs, K.secs]; have := K.recs; omega) (encP_len g2) (encP_byt g2)
 rw [if_neg (fun k => k b1)]
 have ht := a8.trans b2
 have hat : ∀ m, 0 ≤ m ∧ m < S.P.pages → m ≠ n → pageOf (twW (S.L.force S.D (last n).lsn).2.2 2 (5 + 2 * n) (encP (last n))).2 m = pageOf S.D m := fun m hm hne => by
  have hpg := K.pages
  have e1 := K.first
  unfold pageOf
  rw [ht.sec _ (by omega), ht.sec _ (by omega), b3 _ (by omega), b3 _ (by omega), a9 _ (by omega), a9 _ (by omega), if_neg (by omega), if_neg (by omega), if_neg (by omega), if_neg (by omega)]
  rfl
 have hself : pageOf (twW (S.L.force S.D (last n).lsn).2.2 2 (5 + 2 * n) (encP (last n))).2 n = encP (last n) := by
  unfold pageOf
  rw [ht.sec _ (by omega), ht.sec _ (by omega), b3 _ (by omega), b3 _ (by omega), if_pos rfl, if_neg (by omega), if_pos rfl]
  exact List.take_append_drop 512 _
 have hlk : ∀ m, (S.P.put n ⟨last n, pins, false, 0, us⟩).held.lookup m = if m = n then some ⟨last n, pins, false, 0, us⟩ else S.P.held.lookup m := fun m => updKV_lookup n _ m S.P.held
 refine ⟨rfl, ⟨K.run, K.pages, b2.calm, b2.ok, ?_, ?_, a2, ?_, ?_, a7, upd_nodup n _ _ K.nd, fun m g hm => ?_, fun m hm hno => ?_, fun m hm => ?_⟩, rfl, a5, a4, hself⟩
 ·dsimp only; rw [ht.secs, a4]; exact K.secs
 ·dsimp only; rw [a3]; exact K.first
 ·dsimp only; rw [a5]; exact a6
 ·dsimp only; rw [a5, a4]; exact K.recs
 ·dsimp only at hm ⊢
  rw [hlk] at hm
  by_cases e : m = n
  ·rw [if_pos e] at hm
   cases hm
   subst e
   exact ⟨hn, rfl, fun _ => hself⟩
  ·rw [if_neg e] at hm
   obtain ⟨k1, k2, k3⟩ := K.key m g hm
   exact ⟨k1, k2, fun hd' => by rw [hat m k1 e]; exact k3 hd'⟩
 ·dsimp only at hno ⊢
  rw [hlk] at hno
  by_cases e : m = n
  ·rw [if_pos e] at hno; cases hno
  ·rw [if_neg e] at hno
   rw [hat m hm e]; exact K.home m hm hno
 ·dsimp only; rw [a5]; exact K.good m hm
theorem Keeps.leave {S : Sto} {last : Int → PgM} (K : Keeps S last) {n : Int} {f : FrM} (h : S.P.held.lookup n = some f) :
  (S.leave n f).1 = 0 ∧ Keeps (S.leave n f).2 last ∧ (S.leave n f).2.P = S.P.del n ∧ (S.leave n f).2.L.recs = S.L.recs ∧ (S.leave n f).2.L.count = S.L.count := by
 obtain ⟨h1, K', h2, h3, h4, h5⟩ := K.write h
 unfold Sto.leave
 rw [if_neg (fun k => k h1)]
 have hdel : (S.write n f).2.P.del n = S.P.del n := by
  rw [h2]
  split
  ·rfl
  ·unfold PoolM.del PoolM.put
   dsimp only
   rw [del_upd _ _ _ K.nd]
 have hlk : ∀ m, ((S.write n f).2.P.del n).held.lookup m = if m = n then none else (S.write n f).2.P.held.lookup m := fun m => delKV_lookup n m _
 refine ⟨rfl, ⟨K'.run, K'.pages, K'.calm, K'.dok, K'.secs, K'.first, K'.err, K'.forced, K'.recs, K'.bys, del_nodup n _ K'.nd, fun m g hm => ?_, fun m hm hno => ?_, K'.good⟩, hdel, h3, h4⟩
 ·dsimp only at hm ⊢
  rw [hlk] at hm
  by_cases e : m = n
  ·rw [if_pos e] at hm; cases hm
  ·rw [if_neg e] at hm; exact K'.key m g hm
 ·dsimp only at hno ⊢
  rw [hlk] at hno
  by_cases e : m = n
  ·subst e; exact h5
  ·rw [if_neg e] at hno; exact K'.home m hm hno
theorem Keeps.use {S : Sto} {last : Int → PgM} (K : Keeps S last) {n : Int} {f : FrM} (hn : 0 ≤ n ∧ n < S.P.pages) (hp : f.pg = last n) (hd : f.dirty = false → pageOf S.D n = encP (last n)) : Keeps { S with P := S.P.use n f } last := by
 have hlk : ∀ m, (S.P.use n f).held.lookup m = if m = n then some { f with used := S.P.clock + 1 } else S.P.held.lookup m := fun m => updKV_lookup n _ m S.P.held
 refine ⟨K.run, K.pages, K.calm, K.dok, K.secs, K.first, K.err, K.forced, K.recs, K.bys, upd_nodup n _ _ K.nd, fun m g hm => ?_, fun m hm hno => ?_, K.good⟩
 ·dsimp only at hm ⊢
  rw [hlk] at hm
  by_cases e : m = n
  ·rw [if_pos e] at hm
   cases hm
   subst e
   exact ⟨hn, hp, hd⟩
  ·rw [if_neg e] at hm; exact K.key m g hm
 ·dsimp only at hno ⊢
  rw [hlk] at hno
  by_cases e : m = n
  ·rw [if_pos e] at hno; cases hno
  ·rw [if_neg e] at hno; exact K.home m hm hno
theorem Keeps.put {S : Sto} {last : Int → PgM} (K : Keeps S last) {n : Int} {f : FrM} (hn : 0 ≤ n ∧ n < S.P.pages) (hp : f.pg = last n) (hd : f.dirty = false → pageOf S.D n = encP (last n)) : Keeps { S with P := S.P.put n f } last := by
 have hlk : ∀ m, (S.P.put n f).held.lookup m = if m = n then some f else S.P.held.lookup m := fun m => updKV_lookup n _ m S.P.held
 refine ⟨K.run, K.pages, K.calm, K.dok, K.secs, K.first, K.err, K.forced, K.recs, K.bys, upd_nodup n _ _ K.nd, fun m g hm => ?_, fun m hm hno => ?_, K.good⟩
 ·dsimp only at hm ⊢
  rw [hlk] at hm
  by_cases e : m = n
  ·rw [if_pos e] at hm
   cases hm
   subst e
   exact ⟨hn, hp, hd⟩
  ·rw [if_neg e] at hm; exact K.key m g hm
 ·dsimp only at hno ⊢
  rw [hlk] at hno
  by_cases e : m = n
  ·rw [if_pos e] at hno; cases hno
  ·rw [if_neg e] at hno; exact K.home m hm hno
theorem oldG_mem : ∀ (l : List (Int × FrM)) (o : Option (Int × FrM)) (p : Int × FrM), oldG l o = some p → p ∈ l ∨ o = some p
 | [], o, p, h => .inr h
 | q :: l, o, p, h => by
  unfold oldG at h
  rcases oldG_mem l _ p h with k | k
  ·exact .inl (List.mem_cons_of_mem _ k)
  ·split at k
   ·split at k
    ·cases k; exact .inl List.mem_cons_self
    ·split at k
     ·cases k; exact .inl List.mem_cons_self
     ·exact .inr k
   ·exact .inr k
theorem oldest_mem {l : List (Int × FrM)} {p : Int × FrM} (h : oldest l = some p) : p ∈ l := (oldG_mem l none p h).resolve_right (by simp)
theorem Keeps.load {S : Sto} {last : Int → PgM} (K : Keeps S last) {n : Int} (hn : 0 ≤ n ∧ n < S.P.pages) (h : S.P.held.lookup n = none) :
  (S.load n).1 = 0 ∧ Keeps (S.load n).2 last ∧ (∃ f, (S.load n).2.P.held.lookup n = some f) ∧ (S.load n).2.L = S.L ∧ (S.load n).2.P.pages = S.P.pages := by
 obtain ⟨g1, g2, g3, g4⟩ := K.good n hn
 have hd : decP (S.D.at (5 + 2 * n) ++ S.D.at (5 + 2 * n + 1)) n = (0, last n) := by
  have e := K.home n hn h
  unfold pageOf at e
  rw [e]
  have := dec_enc g2 g3
  rw [g1] at this
  exact this
 unfold Sto.load
 rw [if_neg (by rw [K.calm.down]; decide)]
 dsimp only
 rw [hd, if_neg (fun k => k rfl)]
 exact ⟨rfl, K.use hn rfl (fun _ => K.home n hn h), ⟨_, (updKV_lookup n _ n S.P.held).trans (if_pos rfl)⟩, rfl, rfl⟩
theorem Keeps.get {S : Sto} {last : Int → PgM} (K : Keeps S last) {n : Int} (hn : 0 ≤ n ∧ n < S.P.pages) :
  ((S.get n).1 = 6 ∨ ((S.get n).1 = 0 ∧ ∃ f, (S.get n).2.P.held.lookup n = some f)) ∧ Keeps (S.get n).2 last ∧ (S.get n).2.L.recs = S.L.recs ∧ (S.get n).2.L.count = S.L.count ∧ (S.get n).2.P.pages = S.P.pages := by
 have hpl : S.P.place n = 0 := by unfold PoolM.place; rw [if_neg (by rw [K.run]; decide), if_neg (by omega)]
 unfold Sto.get
 rw [hpl, if_neg (fun k => k rfl)]
 cases h : S.P.held.lookup n with
 | some f =>
  dsimp only
  obtain ⟨_, h2, h3⟩ := K.key n f h
  exact ⟨.inr ⟨rfl, _, (updKV_lookup n _ n S.P.held).trans (if_pos rfl)⟩, K.use hn h2 h3, rfl, rfl, rfl⟩
 | none =>
  dsimp only
  by_cases c : (S.P.held.length : Int) ≥ S.P.frames
  ·rw [if_pos c]
   cases ho : oldest S.P.held with
   | none => exact ⟨.inl rfl, K, rfl, rfl, rfl⟩
   | some o =>
    dsimp only
    have hm := lookup_of_mem o.1 o.2 _ K.nd (oldest_mem ho)
    obtain ⟨h1, K', h2, h3, h4⟩ := K.leave hm
    rw [if_neg (fun k => k h1)]
    have hpg : (S.leave o.1 o.2).2.P.pages = S.P.pages := by rw [h2]; rfl
    have hno : (S.leave o.1 o.2).2.P.held.lookup n = none := by
     rw [h2]
     show (delKV o.1 S.P.held).lookup n = none
     rw [delKV_lookup]
     split
     ·rfl
     ·exact h
    obtain ⟨k1, k2, k3, k4, k5⟩ := K'.load (by rw [hpg]; exact hn) hno
    exact ⟨.inr ⟨k1, k3⟩, k2, by rw [k4, h3], by rw [k4, h4], by rw [k5, hpg]⟩
  ·rw [if_neg c]
   obtain ⟨k1, k2, k3, k4, k5⟩ := K.load hn h
   exact ⟨.inr ⟨k1, k3⟩, k2, by rw [k4], by rw [k4], k5⟩
theorem Keeps.puts {S : Sto} {last : Int → PgM} (K : Keeps S last) {x : PgM} {f : FrM} (hn : 0 ≤ x.num ∧ x.num < S.P.pages) (h : S.P.held.lookup x.num = some f) (hx : x.fault = 0) (hi : x.In) (hl : (last x.num).lsn < x.lsn) :
  if x.lsn > S.L.recs.length then S.put x = (4, S) else (S.put x).1 = 0 ∧ Keeps (S.put x).2 (fun m => if m = x.num then x else last m) ∧ (S.put x).2.L = S.L ∧ (S.put x).2.P.pages = S.P.pages := by
 have hpl : S.P.place x.num = 0 := by unfold PoolM.place; rw [if_neg (by rw [K.run]; decide), if_neg (by omega)]
 obtain ⟨_, h2, h3⟩ := K.key _ f h
 by_cases c : x.lsn > S.L.recs.length
 ·rw [if_pos c]
  unfold Sto.put
  rw [hpl, if_neg (fun k => k rfl), if_neg (fun k => k hx), h]
  dsimp only
  rw [if_pos (.inr c)]
 ·rw [if_neg c]
  unfold Sto.put
  rw [hpl, if_neg (fun k => k rfl), if_neg (fun k => k hx), h]
  dsimp only
  rw [h2, if_neg (by omega)]
  dsimp only
  have hlk : ∀ m, (S.P.use x.num { f with pg := x, dirty := true, since := if f.dirty then f.since else x.lsn }).held.lookup m = if m = x.num then some ⟨x, f.pins, true, if f.dirty then f.since else x.lsn, S.P.clock + 1⟩ else S.P.held.lookup m := fun m => updKV_lookup x.num _ m S.P.held
  refine ⟨rfl, ⟨K.run, K.pages, K.calm, K.dok, K.secs, K.first, K.err, K.forced, K.recs, K.bys, upd_nodup _ _ _ K.nd, fun m g hm => ?_, fun m hm hno => ?_, fun m hm => ?_⟩, rfl, rfl⟩
  ·dsimp only at hm ⊢
   rw [hlk] at hm
   by_cases e : m = x.num
   ·rw [if_pos e] at hm
    cases hm
    subst e
    rw [if_pos rfl]
    exact ⟨hn, rfl, fun k => (by cases k)⟩
   ·rw [if_neg e] at hm ⊢; exact K.key m g hm
  ·dsimp only at hno ⊢
   rw [hlk] at hno
   by_cases e : m = x.num
   ·rw [if_pos e] at hno; cases hno
   ·rw [if_neg e] at hno ⊢; exact K.home m hm hno
  ·dsimp only
   by_cases e : m = x.num
   ·rw [if_pos e]; exact ⟨e.symm, hx, hi, by omega⟩
   ·rw [if_neg e]; exact K.good m hm
end Go.SL.Pool
/- The program's package master: where things lie; walked. Conditions: in each statement. -/
namespace Go.SL.Mst
def MayP (p l f : Int) : Prop := (2 ≤ p ∧ p ≤ 64) ∧ (4 ≤ l ∧ l ≤ 4096) ∧ (2 ≤ f ∧ f ≤ 16)
instance {p l f : Int} : Decidable (MayP p l f) := inferInstanceAs (Decidable (_ ∧ _))
end Go.SL.Mst
namespace Go.Proofs.YtgcknlpkhhpkjaaGreatDoor
open Go Go.SL Go.SL.Sec Go.SL.Mst
theorem mmay_spec {W : World} {R : HProp} {p l f : Int} : Does prog W f_z2o ⟨[.agg ⟨[.int .i64 p, .int .i64 l, .int .i64 f]⟩]⟩ R (Ret fun v G => v = .bool (decide (MayP p l f)) ∧ G = R) := by
 unfold MayP
 refine f_z2o.does _ ?_
 conv => whnf
 repeat' (first
  | (refine spl_dec (fun hd => ?_) (fun hd => ?_) <;> first | (exfalso; omega) | (conv => whnf))
  | (refine Ld.i ?_; conv => whnf)
  | (intro blk hblk; conv => whnf))
 all_goals
  refine Ret.eq (congrArg Value.bool (Bool.eq_iff_iff.2 ?_)) Imp.drop
  refine ⟨fun h => ?_, fun h => ?_⟩
  ·first | exact absurd h (by decide) | (have h := of_decide_eq_true h; exact decide_eq_true (by omega))
  ·have h := of_decide_eq_true h
   first | exact decide_eq_true (by omega) | (exfalso; omega)
theorem need_yes {W : World} {R : HProp} {p l f : Int} (h : MayP p l f) : Does prog W f_z32 ⟨[.agg ⟨[.int .i64 p, .int .i64 l, .int .i64 f]⟩]⟩ R (Ret fun v G => v = .tuple ⟨[.int .i64 (5 + 2 * p + l), i0]⟩ ∧ G = R) := by
 have h2 := h
 unfold MayP at h2
 refine f_z32.does _ ?_
 conv => whnf
 repeat' (first
  | (refine CallK.ret f_z2o.ok mmay_spec ?_; rw [decide_eq_true h]; rintro v G ⟨rfl, rfl⟩; conv => whnf)
  | ((first | refine Ld.i ?_ | refine LdN.i ?_ | refine Ar.i64 (by omega) ?_); conv => whnf)
  | (intro blk hblk; conv => whnf))
 refine Ret.eq rfl ?_
 first | exact .refl _ | exact .drop | exact .fin | ((repeat refine .pick ?_); first | exact .refl _ | exact .emp _ | exact .fin)
theorem home_yes {W : World} {R : HProp} {p l f n : Int} (h : MayP p l f) (hn : 0 ≤ n ∧ n < p) : Does prog W f_z1o ⟨[.agg ⟨[.int .i64 p, .int .i64 l, .int .i64 f]⟩, .int .i64 n]⟩ R (Ret fun v G => v = .tuple ⟨[.int .i64 (5 + 2 * n), i0]⟩ ∧ G = R) := by
 have h2 := h
 unfold MayP at h2
 refine f_z1o.does _ _ ?_
 conv => whnf
 repeat' (first
  | (refine CallK.ret f_z2o.ok mmay_spec ?_; rw [decide_eq_true h]; rintro v G ⟨rfl, rfl⟩; conv => whnf)
  | (refine spl_dec (fun hd => ?_) (fun hd => ?_) <;> first | (exfalso; omega) | (conv => whnf))
  | ((first | refine Ld.i ?_ | refine LdN.i ?_ | refine Ar.i64 (by omega) ?_); conv => whnf)
  | (intro blk hblk; conv => whnf))
 refine Ret.eq rfl ?_
 first | exact .refl _ | exact .drop | exact .fin | ((repeat refine .pick ?_); first | exact .refl _ | exact .emp _ | exact .fin)
theorem mlog_yes {W : World} {R : HProp} {p l f : Int} (h : MayP p l f) : Does prog W f_z3m ⟨[.agg ⟨[.int .i64 p, .int .i64 l, .int .i64 f]⟩]⟩ R (Ret fun v G => v = .tuple ⟨[.int .i64 (5 + 2 * p), i0]⟩ ∧ G = R) := by
 have h2 := h
 unfold MayP at h2
 refine f_z3m.does _ ?_
 conv => whnf
 repeat' (first
  | (refine CallK.ret f_z2o.ok mmay_spec ?_; rw [decide_eq_true h]; rintro v G ⟨rfl, rfl⟩; conv => whnf)
  | ((first | refine Ld.i ?_ | refine LdN.i ?_ | refine Ar.i64 (by omega) ?_); conv => whnf)
  | (intro blk hblk; conv => whnf))
 refine Ret.eq rfl ?_
 first | exact .refl _ | exact .drop | exact .fin | ((repeat refine .pick ?_); first | exact .refl _ | exact .emp _ | exact .fin)
end Go.Proofs.YtgcknlpkhhpkjaaGreatDoor
/- The program's package page, walked: what is looked at; numbers one behind the other. Conditions: in each statement. -/
namespace Go.SL
open Go
instance (priority := 70) RowC.oldc {α : Type} {W : World} {H : HProp} {sz : Nat} {enc : α → List Value} {a : Option Addr} {xs : List α} [oc : OldC W H] [o : OldR W sz enc a xs] : RowC W H a sz enc xs := ⟨fun w hs i x hx => by
 obtain ⟨b, off, ha, h⟩ := o.at' i x hx
 exact ⟨b, off, ha, fun j v hj => oc.h _ _ (h j v hj)⟩⟩
class DecL {α : Type} (enc : α → List Value) (l : List Value) (xs : outParam (List α)) : Prop where h : l = xs.flatMap enc
instance DecL.nil {α : Type} {enc : α → List Value} : DecL enc [] [] := ⟨rfl⟩
instance DecL.ints {l : List Value} {z : Int} {xs : List Int} [d : DecL ints l xs] : DecL ints (.int .i64 z :: l) (z :: xs) := ⟨by rw [d.h]; rfl⟩
instance DecL.u64s {l : List Value} {z : Int} {xs : List Int} [d : DecL Sec.u64s l xs] : DecL Sec.u64s (.int .u64 z :: l) (z :: xs) := ⟨by rw [d.h]; rfl⟩
section
variable {W : World} {R : HProp} {b : Nat} {l : List Value} {t : TypeId} {fz : Nat × Nat} {xs : List Int}
instance (priority := 60) RowC.ptsI [d : DecL ints l xs] : RowC W (SL.pts b (.cells ⟨l⟩ t fz) • R) (some ⟨b, 0, none⟩) 1 ints xs := RowC.pts SizedC.h xs d.h
instance (priority := 60) RowC.ptsU [d : DecL Sec.u64s l xs] : RowC W (SL.pts b (.cells ⟨l⟩ t fz) • R) (some ⟨b, 0, none⟩) 1 Sec.u64s xs := RowC.pts SizedC.h xs d.h
end
end Go.SL
namespace Go.Proofs.YtgcknlpkhhpkjaaGreatDoor
open Go Go.SL Go.SL.Sec Go.SL.Fld Go.SL.Pts Go.SL.Rec Go.SL.Pg
class LaidP (W : World) where
 ha : Option Addr
 hk : Nat
 ca : Option Addr
 ck : Nat
 ga : Option Addr
 gk : Nat
 h0 : W.cell? ⟨g_page_headSizes, 0, none⟩ = some (.slice ha 6 hk)
 c0 : W.cell? ⟨g_page_counterSizes, 0, none⟩ = some (.slice ca 5 ck)
 gr0 : W.cell? ⟨g_page_groupSizes, 0, none⟩ = some (.slice ga 2 gk)
 h1 : OldR W 1 ints ha [1, 1, 2, 2, 2, 4]
 c1 : OldR W 1 ints ca [4, 4, 8, 8, 8]
 gr1 : OldR W 1 ints ga [4, 8]
section
variable {W : World} {H : HProp}
instance (priority := 70) RdC.hsz [l : LaidP W] [oc : OldC W H] : RdC W H ⟨g_page_headSizes, 0, none⟩ (.slice l.ha 6 l.hk) := ⟨oc.h _ _ l.h0⟩
instance (priority := 70) RdC.csz [l : LaidP W] [oc : OldC W H] : RdC W H ⟨g_page_counterSizes, 0, none⟩ (.slice l.ca 5 l.ck) := ⟨oc.h _ _ l.c0⟩
instance (priority := 70) RdC.gsz [l : LaidP W] [oc : OldC W H] : RdC W H ⟨g_page_groupSizes, 0, none⟩ (.slice l.ga 2 l.gk) := ⟨oc.h _ _ l.gr0⟩
end
def pgA (n l : Int) (ca : Option Addr) (cn cc : Nat) (ga : Option Addr) (gn gc : Nat) : Value := .agg ⟨[.int .i64 n, .int .i64 l, .slice ca cn cc, .slice ga gn gc]⟩
theorem pin_spec {W : World} {R : HProp} {n lo hi : Int} : Does prog W f_page_in ⟨[.int .i64 n, .int .i64 lo, .int .i64 hi]⟩ R (Ret fun v G => v = .bool (decide (lo ≤ n ∧ n ≤ hi)) ∧ G = R) := by
 refine f_page_in.does _ _ _ ?_
 conv => whnf
 repeat' (first
  | (refine spl_dec (fun hd => ?_) (fun hd => ?_) <;> first | (exfalso; omega) | (conv => whnf)))
 ·refine Ret.eq (congrArg Value.bool (decide_eq_decide.2 (by omega))) (Imp.refl _)
 ·refine Ret.eq (congrArg Value.bool (decide_eq_false (by omega)).symm) (Imp.refl _)
theorem firstF_step {α : Type} {f : α → Int} {l : List α} {i : Nat} {x : α} (h : l[i]? = some x) : firstF f (l.drop i) = if f x ≠ 0 then f x else firstF f (l.drop (i + 1)) := by rw [drop_of h, firstF]
section
variable {W : World} {R : HProp} {num lsn : Int} {ca ga : Option Addr} {nC cc nG gc : Nat} {C : List CntV} {G : List GrpV}
theorem contents_spec [rc : RowN W R ca nC 5 cntv C] [rg : RowN W R ga nG 2 grpv G] (hC : C.length ≤ 1000000000) (hG : G.length ≤ 1000000000) :
  Does prog W f_zp ⟨[.agg ⟨[.int .i64 num, .int .i64 lsn, .slice ca nC cc, .slice ga nG gc]⟩]⟩ R (Ret fun v Q => v = .int .i64 (contF C G) ∧ Q = R) := by
 have h1 := rc.len
 have h2 := rg.len
 subst h1 h2
 haveI := rc.row
 haveI := rg.row
 obtain ⟨F, hF⟩ : ∃ F, F = contF C G := ⟨_, rfl⟩
 rw [← hF]
 unfold contF at hF
 refine f_zp.does _ ?_
 conv => whnf
 repeat' (first
  | (refine Ld.i ?_; conv => whnf)
  | (intro blk hblk; conv => whnf))
 refine LoopK.keep tab_ok (L := f_zp.live) (ι := Nat) (fun i => i ≤ C.length ∧ firstF cntF C = firstF cntF (C.drop i)) (fun i => [(10, .int .i64 i)]) (fun i => C.length - i) 0 (by simp) (fun t v h => h) ?_
 rintro i ⟨hi, hm⟩
 conv => whnf
 by_cases k1 : i < C.length
 ·obtain ⟨x, hx⟩ : ∃ x, C[i]? = some x := ⟨_, List.getElem?_eq_getElem k1⟩
  rw [firstF_step hx] at hm
  repeat' (first
   | (refine spl_dec (fun hd => ?_) (fun hd => ?_) <;> first | (exfalso; omega) | (conv => whnf))
   | (refine spl_ndec (fun hd => ?_) (fun hd => ?_) <;> first | (exfalso; omega) | (conv => whnf))
   | ((first | refine Ld.i ?_ | refine St.i ⟨rfl, rfl⟩ (List.cons_ne_nil _ _) ?_ | refine Ar.i64 (by omega) ?_); conv => whnf)
   | (intro blk hblk; conv => whnf)
   | (refine IxS.r (i := i) rfl rfl k1 (fun ab off ha => ?_); cases ha; conv => whnf)
   | (refine LdN.r hx rfl ?_; conv => whnf)
   | (refine CallK.ret f_page_in.ok (pin_spec) ?_; rintro v G ⟨rfl, rfl⟩; conv => whnf))
  ·have e : cntF x = 23 := by unfold cntF; rw [if_pos (by omega)]
   rw [e, if_pos (by decide)] at hm
   rw [hm, if_pos (by decide)] at hF
   subst hF
   refine Ret.eq rfl ?_
   first | exact .refl _ | exact .drop | exact .fin | ((repeat refine .pick ?_); first | exact .refl _ | exact .emp _ | exact .fin)
  ·have e : cntF x = 23 := by unfold cntF; rw [if_pos (by omega)]
   rw [e, if_pos (by decide)] at hm
   rw [hm, if_pos (by decide)] at hF
   subst hF
   refine Ret.eq rfl ?_
   first | exact .refl _ | exact .drop | exact .fin | ((repeat refine .pick ?_); first | exact .refl _ | exact .emp _ | exact .fin)
  ·have e : cntF x = 11 := by unfold cntF; rw [if_neg (by omega), if_pos (by omega)]
   rw [e, if_pos (by decide)] at hm
   rw [hm, if_pos (by decide)] at hF
   subst hF
   refine Ret.eq rfl ?_
   first | exact .refl _ | exact .drop | exact .fin | ((repeat refine .pick ?_); first | exact .refl _ | exact .emp _ | exact .fin)
  ·have e : cntF x = 0 := by unfold cntF; rw [if_neg (by omega), if_neg (by omega)]
   rw [e, if_neg (by decide)] at hm
   refine ⟨rfl, i + 1, ⟨k1, hm⟩, fun t v h => h, ?_, by omega⟩
   first | exact .refl _ | exact .drop | exact .fin | ((repeat refine .pick ?_); first | exact .refl _ | exact .emp _ | exact .fin)
 ·rw [drop_all k1, firstF] at hm
  rw [hm, if_neg (by decide)] at hF
  repeat' (first
   | (refine spl_dec (fun hd => ?_) (fun hd => ?_) <;> first | (exfalso; omega) | (conv => whnf))
   | (refine Ld.i ?_; conv => whnf))
  refine LoopK.keep tab_ok (L := f_zp.live) (ι := Nat) (fun i => i ≤ G.length ∧ firstF grpF G = firstF grpF (G.drop i)) (fun i => [(35, .int .i64 i)]) (fun i => G.length - i) 0 (by simp) (fun t v h => h) ?_
  rintro j ⟨hj, hm⟩
  conv => whnf
  by_cases k2 : j < G.length
  ·obtain ⟨x, hx⟩ : ∃ x, G[j]? = some x := ⟨_, List.getElem?_eq_getElem k2⟩
   rw [firstF_step hx] at hm
   repeat' (first
    | (refine spl_dec (fun hd => ?_) (fun hd => ?_) <;> first | (exfalso; omega) | (conv => whnf))
    | (refine spl_ndec (fun hd => ?_) (fun hd => ?_) <;> first | (exfalso; omega) | (conv => whnf))
    | ((first | refine Ld.i ?_ | refine St.i ⟨rfl, rfl⟩ (List.cons_ne_nil _ _) ?_ | refine Ar.i64 (by omega) ?_); conv => whnf)
    | (intro blk hblk; conv => whnf)
    | (refine IxS.r (i := j) rfl rfl k2 (fun ab off ha => ?_); cases ha; conv => whnf)
    | (refine LdN.r hx rfl ?_; conv => whnf)
    | (refine CallK.ret f_page_in.ok (pin_spec) ?_; rintro v G ⟨rfl, rfl⟩; conv => whnf))
   ·have e : grpF x = 23 := by unfold grpF; rw [if_pos (by omega)]
    rw [e, if_pos (by decide)] at hm
    rw [hm] at hF
    subst hF
    refine Ret.eq rfl ?_
    first | exact .refl _ | exact .drop | exact .fin | ((repeat refine .pick ?_); first | exact .refl _ | exact .emp _ | exact .fin)
   ·have e : grpF x = 0 := by unfold grpF; rw [if_neg (by omega)]
    rw [e, if_neg (by decide)] at hm
    refine ⟨rfl, j + 1, ⟨k2, hm⟩, fun t v h => h, ?_, by omega⟩
    first | exact .refl _ | exact .drop | exact .fin | ((repeat refine .pick ?_); first | exact .refl _ | exact .emp _ | exact .fin)
  ·rw [drop_all k2, firstF] at hm
   rw [hm] at hF
   subst hF
   repeat' (first
    | (refine spl_dec (fun hd => ?_) (fun hd => ?_) <;> first | (exfalso; omega) | (conv => whnf)))
   refine Ret.eq rfl ?_
   first | exact .refl _ | exact .drop | exact .fin | ((repeat refine .pick ?_); first | exact .refl _ | exact .emp _ | exact .fin)
theorem size_spec (hC : nC ≤ 1000000000) (hG : nG ≤ 1000000000) :
  Does prog W f_z2c ⟨[.agg ⟨[.int .i64 num, .int .i64 lsn, .slice ca nC cc, .slice ga nG gc]⟩]⟩ R (Ret fun v Q => v = .int .i64 ((nC + nG : Nat) : Int) ∧ Q = R) := by
 refine f_z2c.does _ ?_
 conv => whnf
 repeat' (first
  | ((first | refine Ld.i ?_ | refine Ar.i64 (by omega) ?_); conv => whnf)
  | (intro blk hblk; conv => whnf))
 refine Ret.eq (by rw [Int.natCast_add]) ?_
 first | exact .refl _ | exact .drop | exact .fin | ((repeat refine .pick ?_); first | exact .refl _ | exact .emp _ | exact .fin)
theorem refused_spec [rc : RowN W R ca nC 5 cntv C] [rg : RowN W R ga nG 2 grpv G] (hC : C.length ≤ 1000000000) (hG : G.length ≤ 1000000000) :
  Does prog W f_z17 ⟨[.agg ⟨[.int .i64 num, .int .i64 lsn, .slice ca nC cc, .slice ga nG gc]⟩]⟩ R (Ret fun v Q => v = .int .i64 (PgM.fault ⟨num, lsn, C, G⟩) ∧ Q = R) := by
 have h1 := rc.len
 have h2 := rg.len
 subst h1 h2
 haveI := rc.row
 haveI := rg.row
 obtain ⟨F, hF⟩ : ∃ F, F = PgM.fault ⟨num, lsn, C, G⟩ := ⟨_, rfl⟩
 rw [← hF]
 unfold PgM.fault at hF
 dsimp only at hF
 refine f_z17.does _ ?_
 conv => whnf
 by_cases c1 : 0 ≤ num ∧ num ≤ 63
 rotate_left
 ·rw [if_pos c1] at hF
  subst hF
  repeat' (first
   | (refine spl_ndec (fun hd => ?_) (fun hd => ?_) <;> first | (exfalso; omega) | (conv => whnf))
   | (refine Ld.i ?_; conv => whnf)
   | (intro blk hblk; conv => whnf)
   | (refine CallK.ret f_page_in.ok (pin_spec) ?_; rintro v G ⟨rfl, rfl⟩; conv => whnf))
  refine Ret.eq rfl ?_
  first | exact .refl _ | exact .drop | exact .fin | ((repeat refine .pick ?_); first | exact .refl _ | exact .emp _ | exact .fin)
 rw [if_neg (fun k => k c1)] at hF
 by_cases c2 : C.length > 0 ∧ G.length > 0
 ·rw [if_pos c2] at hF
  subst hF
  repeat' (first
   | (refine spl_dec (fun hd => ?_) (fun hd => ?_) <;> first | (exfalso; omega) | (conv => whnf))
   | (refine spl_ndec (fun hd => ?_) (fun hd => ?_) <;> first | (exfalso; omega) | (conv => whnf))
   | (refine Ld.i ?_; conv => whnf)
   | (intro blk hblk; conv => whnf)
   | (refine CallK.ret f_page_in.ok (pin_spec) ?_; rintro v G ⟨rfl, rfl⟩; conv => whnf))
  refine Ret.eq rfl ?_
  first | exact .refl _ | exact .drop | exact .fin | ((repeat refine .pick ?_); first | exact .refl _ | exact .emp _ | exact .fin)
 rw [if_neg c2] at hF
 by_cases c3 : C.length > 31 ∨ G.length > 84
 ·rw [if_pos c3] at hF
  subst hF
  repeat' (first
   | (refine spl_dec (fun hd => ?_) (fun hd => ?_) <;> first | (exfalso; omega) | (conv => whnf))
   | (refine spl_ndec (fun hd => ?_) (fun hd => ?_) <;> first | (exfalso; omega) | (conv => whnf))
   | (refine Ld.i ?_; conv => whnf)
   | (intro blk hblk; conv => whnf)
   | (refine CallK.ret f_page_in.ok (pin_spec) ?_; rintro v G ⟨rfl, rfl⟩; conv => whnf))
  all_goals
   refine Ret.eq rfl ?_
   first | exact .refl _ | exact .drop | exact .fin | ((repeat refine .pick ?_); first | exact .refl _ | exact .emp _ | exact .fin)
 rw [if_neg c3] at hF
 by_cases c4 : ¬ (0 ≤ lsn ∧ lsn ≤ 2147483647) ∨ ¬ (lsn = 0 ↔ C.length + G.length = 0)
 ·rw [if_pos c4] at hF
  subst hF
  repeat' (first
   | (refine spl_dec (fun hd => ?_) (fun hd => ?_) <;> first | (exfalso; omega) | (conv => whnf))
   | (refine spl_ndec (fun hd => ?_) (fun hd => ?_) <;> first | (exfalso; omega) | (conv => whnf))
   | ((first | refine Ld.i ?_ | refine LdN.i ?_); conv => whnf)
   | (intro blk hblk; conv => whnf)
   | (refine CallK.ret f_page_in.ok (pin_spec) ?_; rintro v G ⟨rfl, rfl⟩; conv => whnf)
   | (refine Sub.on (by first | exact .refl _ | exact .drop | exact .fin | ((repeat refine .pick ?_); first | exact .refl _ | exact .emp _ | exact .fin)) ?_; conv => whnf)
   | (refine DrawK.introH tab_ok mixed 31 f_z17.last7 f_z17.plan7 _ rfl (by kernel_rfl) (Sub.of (by first | exact .refl _ | exact .drop | exact .fin | ((repeat refine .pick ?_); first | exact .refl _ | exact .emp _ | exact .fin))) ?_; conv => whnf)
   | (refine CallK.ret f_z2c.ok (size_spec (by first | rfl | assumption | omega | decide | (simp; done) | (simp; omega) | (simp at *; omega)) (by first | rfl | assumption | omega | decide | (simp; done) | (simp; omega) | (simp at *; omega))) ?_; rintro v G ⟨rfl, rfl⟩; conv => whnf)
   | (refine CallK.ret f_zp.ok (contents_spec (by first | rfl | assumption | omega | decide | (simp; done) | (simp; omega) | (simp at *; omega)) (by first | rfl | assumption | omega | decide | (simp; done) | (simp; omega) | (simp at *; omega))) ?_; rintro v G ⟨rfl, rfl⟩; conv => whnf))
  all_goals first
   | exact ⟨_, _, rfl, (by first | exact .refl _ | exact .drop | exact .fin | ((repeat refine .pick ?_); first | exact .refl _ | exact .emp _ | exact .fin)), rfl, rfl⟩
   | (exfalso; simp only [bne_iff_ne, ne_eq, decide_eq_decide] at hd; omega)
 rw [if_neg c4] at hF
 subst hF
 repeat' (first
  | (refine spl_dec (fun hd => ?_) (fun hd => ?_) <;> first | (exfalso; omega) | (conv => whnf))
  | (refine spl_ndec (fun hd => ?_) (fun hd => ?_) <;> first | (exfalso; omega) | (conv => whnf))
  | ((first | refine Ld.i ?_ | refine LdN.i ?_); conv => whnf)
  | (intro blk hblk; conv => whnf)
  | (refine CallK.ret f_page_in.ok (pin_spec) ?_; rintro v G ⟨rfl, rfl⟩; conv => whnf)
  | (refine Sub.on (by first | exact .refl _ | exact .drop | exact .fin | ((repeat refine .pick ?_); first | exact .refl _ | exact .emp _ | exact .fin)) ?_; conv => whnf)
  | (refine DrawK.introH tab_ok mixed 31 f_z17.last7 f_z17.plan7 _ rfl (by kernel_rfl) (Sub.of (by first | exact .refl _ | exact .drop | exact .fin | ((repeat refine .pick ?_); first | exact .refl _ | exact .emp _ | exact .fin))) ?_; conv => whnf)
  | (refine CallK.ret f_z2c.ok (size_spec (by first | rfl | assumption | omega | decide | (simp; done) | (simp; omega) | (simp at *; omega)) (by first | rfl | assumption | omega | decide | (simp; done) | (simp; omega) | (simp at *; omega))) ?_; rintro v G ⟨rfl, rfl⟩; conv => whnf)
  | (refine CallK.ret f_zp.ok (contents_spec (by first | rfl | assumption | omega | decide | (simp; done) | (simp; omega) | (simp at *; omega)) (by first | rfl | assumption | omega | decide | (simp; done) | (simp; omega) | (simp at *; omega))) ?_; rintro v G ⟨rfl, rfl⟩; conv => whnf))
 all_goals first
  | exact ⟨_, _, rfl, (by first | exact .refl _ | exact .drop | exact .fin | ((repeat refine .pick ?_); first | exact .refl _ | exact .emp _ | exact .fin)), rfl, rfl⟩
  | (exfalso; simp only [bne_iff_ne, ne_eq, decide_eq_decide] at hd; omega)
end
theorem pzeros1_spec {W : World} {R : HProp} {b : Int} : Does prog W f_z3p ⟨[.int .u8 b]⟩ R (Ret fun v G => v = .bool (!decide (b = 0)) ∧ G = R) := by
 refine f_z3p.does _ ?_
 conv => whnf
 skip
 refine Ret.eq rfl ?_
 first | exact .refl _ | exact .drop | exact .fin | ((repeat refine .pick ?_); first | exact .refl _ | exact .emp _ | exact .fin)
theorem pzeros_spec {W : World} {R : HProp} {a : Option Addr} {n c : Nat} {l : List Int} [ro : RowN W R a n 1 bytv l] (hl : l.length ≤ 16777216) :
  Does prog W f_zd ⟨[.slice a n c]⟩ R (Ret fun v G => v = .bool (zerosB l) ∧ G = R) := by
 refine f_zd.does _ ?_
 conv => whnf
 repeat' (first
  | (refine CallK.ret f_z39.ok (contains_spec f_z3p.ok (fun b => pzeros1_spec) hl) ?_; rintro v G ⟨rfl, rfl⟩; conv => whnf))
 refine Ret.eq ?_ (Imp.refl _)
 rw [Bool.not_not]
end Go.Proofs.YtgcknlpkhhpkjaaGreatDoor
/- The program's package page, walked: numbers one behind the other; the checksum. Conditions: in each statement. -/
namespace Go.SL.Pg
open Go Go.SL Go.SL.Sec Go.SL.Fld Go.SL.Rec
theorem lays_snoc : ∀ (l : List (Nat × Int)) (p : Nat × Int), lays (l ++ [p]) = lays l ++ Fld.leB p.1 p.2
 | [], p => by simp [lays]
 | q :: l, p => by rw [List.cons_append, lays, lays_snoc l p, lays, List.append_assoc]
theorem laysN_snoc : ∀ (l : List (Nat × Int)) (p : Nat × Int), laysN (l ++ [p]) = laysN l + p.1
 | [], p => by simp [laysN]
 | q :: l, p => by rw [List.cons_append, laysN, laysN_snoc l p, laysN, Nat.add_assoc]
theorem laysN_take_le : ∀ (l : List (Nat × Int)) (i : Nat), laysN (l.take i) ≤ laysN l
 | [], i => by simp
 | q :: l, 0 => by simp [laysN]
 | q :: l, i + 1 => by rw [List.take_succ_cons, laysN, laysN]; have := laysN_take_le l i; omega
end Go.SL.Pg
namespace Go.Proofs.YtgcknlpkhhpkjaaGreatDoor
open Go Go.SL Go.SL.Sec Go.SL.Fld Go.SL.Pts Go.SL.Rec Go.SL.Pg
-- @noauto
theorem plaid_spec {W : World} {H R : HProp} {t : TypeId} {a sa na : Option Addr} {nn cap sn sc n2 nc : Nat} {l : List Int} {z : Int} {sizes nums : List Int} (ps : List (Nat × Int)) [c : VecC H a t 1 bytv cap l R] (rs : RowN W R sa sn 1 ints sizes) (rn : RowN W R na n2 1 u64s nums)
  (hnn : nn = l.length) (e1 : sizes = ps.map fun p => (p.1 : Int)) (e2 : nums = ps.map (·.2)) (hz : 0 ≤ z ∧ z.toNat + laysN ps ≤ l.length) (hl : l.length ≤ 16777216) (hp : ∀ p ∈ ps, (1 ≤ p.1 ∧ p.1 ≤ 8) ∧ 0 ≤ p.2 ∧ p.2 < 256 ^ p.1) (hps : ps.length ≤ 1000) :
  Does prog W f_z1t ⟨[.slice a nn cap, .int .i64 z, .slice sa sn sc, .slice na n2 nc]⟩ H (Ret fun v G => v = .tuple ⟨[]⟩ ∧ G = (vec t 1 bytv a cap (over l z.toNat (lays ps)) • R)) := by
 have h1 := rs.len
 have h2 := rn.len
 subst h1 h2 hnn
 haveI := rs.row
 haveI := rn.row
 rw [c.h.eq]
 have hsl : sizes.length = ps.length := by rw [e1, List.length_map]
 have hnl : nums.length = ps.length := by rw [e2, List.length_map]
 obtain ⟨zn, rfl⟩ := Int.eq_ofNat_of_zero_le hz.1
 rw [Int.toNat_natCast] at hz ⊢
 refine f_z1t.does _ _ _ _ ?_
 conv => whnf
 skip
 refine LoopK.at tab_ok (L := f_z1t.live) (ι := Nat) (fun i => i ≤ ps.length) (fun i => [(12, .int .i64 i), (1, .int .i64 ((zn + laysN (ps.take i) : Nat) : Int))]) (fun i => vec t 1 bytv a cap (over l zn (lays (ps.take i)))) (fun i => ps.length - i) 0 (by simp) (fun t v h => h) (by rw [List.take_zero, lays, over_nil]; exact Imp.refl _) ?_
 rintro i hi
 conv => whnf
 have hm := laysN_take_le ps i
 have hol : (over l zn (lays (ps.take i))).length = l.length := over_len (by rw [lays_len]; omega)
 by_cases k1 : i < ps.length
 ·obtain ⟨p, hpx⟩ : ∃ p, ps[i]? = some p := ⟨_, List.getElem?_eq_getElem k1⟩
  obtain ⟨hp1, hp2, hp3⟩ := hp p (List.mem_of_getElem? hpx)
  have hs1 : sizes[i]? = some (p.1 : Int) := by rw [e1, List.getElem?_map, hpx]; rfl
  have hn1 : nums[i]? = some p.2 := by rw [e2, List.getElem?_map, hpx]; rfl
  have ht : ps.take (i + 1) = ps.take i ++ [p] := by rw [List.take_add_one, hpx]; rfl
  have hm2 := laysN_take_le ps (i + 1)
  rw [ht, laysN_snoc] at hm2
  obtain ⟨Z, hZ⟩ : ∃ Z : Nat, Z = zn + laysN (ps.take i) := ⟨_, rfl⟩
  rw [← hZ]
  repeat' (first
   | (refine CallK.ret f_z2b.ok (putN_spec (l := over l zn (lays (ps.take i))) (z := (Z : Int)) (s := (p.1 : Int)) (n := p.2) hol.symm (by omega) (by omega) (by omega) hp2 (by rw [Int.toNat_natCast]; exact hp3)) ?_; rw [Int.toNat_natCast, Int.toNat_natCast]; rintro v G ⟨rfl, rfl⟩; conv => whnf)
   | (refine spl_dec (fun hd => ?_) (fun hd => ?_) <;> first | (exfalso; omega) | (conv => whnf))
   | (refine Ar.i64 (by omega) ?_; conv => whnf)
   | (refine IxS.r (xs := nums) (i := i) rfl rfl (by omega) (fun ab off ha => ?_); cases ha; conv => whnf)
   | (refine Ld.r0 hn1 rfl ?_; conv => whnf)
   | (refine IxS.r (xs := sizes) (i := i) rfl rfl (by omega) (fun ab off ha => ?_); cases ha; conv => whnf)
   | (refine Ld.r0 hs1 rfl ?_; conv => whnf))
  have e3 : putB (over l zn (lays (ps.take i))) Z p.1 p.2 = over l zn (lays (ps.take (i + 1))) := by
   rw [putB_over, hZ, ht, lays_snoc]
   conv => lhs; arg 2; rw [← lays_len]
   exact over_over (by rw [lays_len]; omega)
  rw [e3]
  refine ⟨rfl, i + 1, k1, fun t v h => ?_, Imp.refl _, by omega⟩
  rw [ht, laysN_snoc, show zn + (laysN (ps.take i) + p.1) = Z + p.1 by omega, Int.natCast_add] at h
  exact h
 ·rw [List.take_of_length_le (by omega)]
  repeat' (first
   | (refine spl_dec (fun hd => ?_) (fun hd => ?_) <;> first | (exfalso; omega) | (conv => whnf)))
  refine ⟨_, _, rfl, ?_, rfl, rfl⟩
  first | exact .refl _ | exact .drop | exact .fin | ((repeat refine .pick ?_); first | exact .refl _ | exact .emp _ | exact .fin)
theorem z4_eq : List.replicate (Int.toNat 4) (0 : Int) = [0, 0, 0, 0] := rfl
set_option maxHeartbeats 1000000 in
-- @noauto
theorem psum_spec {W : World} {H : HProp} {a : Option Addr} {nn cap : Nat} {l : List Int} [ld : LaidC W] [oc : OldC W H] [ro : RowC W H a 1 bytv l] (hnn : nn = l.length) (hl : l.length = 1024) (hc : 1024 ≤ cap) (hb : Byt l) :
  Does prog W f_zg ⟨[.slice a nn cap]⟩ H (Ret fun v G => v = .int .u32 (sumP l) ∧ G = H) := by
 subst hnn
 have h12 : (l.take 12).length = 12 := by rw [List.length_take]; omega
 have h16 : (l.drop 16).length = 1008 := by rw [List.length_drop]; omega
 haveI r1 : ∀ Q : HProp, RowC W (Q • H) a 1 bytv l := fun Q => inferInstance
 refine f_zg.does _ ?_
 conv => whnf
 repeat' (first
  | (refine DrawK.introK tab_ok mixed 3 f_zg.last1 f_zg.plan1 rfl (by kernel_rfl) ?_; conv => whnf)
  | (intro blk hblk; conv => whnf)
  | (refine OpQ.slh tab_ok rfl rfl rfl rfl ⟨by omega, by omega⟩ ?_; conv => whnf)
  | (refine OpX.make tab_ok bytv 0 rfl rfl rfl rfl rfl rfl (by omega) (fun s hs => ?_); rw [z4_eq]; conv => whnf)
  | (refine OpQ.slr tab_ok 16 rfl rfl rfl rfl rfl (by omega) ?_; conv => whnf)
  | (refine Sub.on (by first | exact .refl _ | exact .drop | exact .fin | ((repeat refine .pick ?_); first | exact .refl _ | exact .emp _ | exact .fin)) ?_; conv => whnf))
 obtain ⟨PS, hPS⟩ : ∃ PS : List PartX, PS = [⟨a, cap, l.take 12⟩, ⟨some ⟨s, 0, none⟩, 4, [0, 0, 0, 0]⟩, ⟨dropA a 16 cap 1, cap - 16, l.drop 16⟩] := ⟨_, rfl⟩
 have e1 : [Value.slice a (Int.toNat 12) cap, Value.slice (some ⟨s, 0, none⟩) (Int.toNat 4) (Int.toNat 4), Value.slice (dropA a 16 cap 1) (l.length - 16) (cap - 16)] = PS.flatMap partv := by
  rw [hPS]
  simp only [partv, List.flatMap_cons, List.flatMap_nil, List.cons_append, List.nil_append, h12, h16, hl]
  rfl
 have e2 : sumP l = crcV (PS.flatMap (·.l)) := by
  rw [hPS]
  unfold sumP
  simp only [List.flatMap_cons, List.flatMap_nil, List.append_nil, List.append_assoc]
 refine CallK.ret f_z2r.ok (sum_spec (ps := PS) (ro := ⟨RowC.pts SizedC.h PS e1, by rw [hPS]; rfl⟩) (fun p hp => ?_) (by rw [hPS]; simp)) ?_
 ·rw [hPS] at hp
  simp only [List.mem_cons, List.not_mem_nil, or_false] at hp
  rcases hp with rfl | rfl | rfl
  ·exact ⟨RowC.take _ inferInstance, hb.take _, by dsimp only; omega⟩
  ·exact ⟨inferInstance, Byt.rep 4, by simp⟩
  ·exact ⟨RowC.drop 16 cap (by omega) inferInstance, hb.drop _, by dsimp only; omega⟩
 ·rintro v G ⟨rfl, rfl⟩
  conv => whnf
  rw [← e2]
  skip
  refine Ret.eq rfl ?_
  first | exact .refl _ | exact .drop | exact .fin | ((repeat refine .pick ?_); first | exact .refl _ | exact .emp _ | exact .fin)
end Go.Proofs.YtgcknlpkhhpkjaaGreatDoor
/- A page, and where its lists lie. No condition. -/
namespace Go.SL.Pg
open Go Go.SL Go.SL.Sec Go.SL.Fld Go.SL.Rec
structure PgX where
 m : PgM
 ca : Option Addr
 cc : Nat
 ga : Option Addr
 gc : Nat
def PgX.cells (x : PgX) : List Value := [.int .i64 x.m.num, .int .i64 x.m.lsn, .slice x.ca x.m.C.length x.cc, .slice x.ga x.m.G.length x.gc]
theorem getB_one {b : List Int} {k : Nat} {x : Int} (h : b[k]? = some x) : getB b k 1 = x := by
 have := getB_succ (l := b) (at_ := k) (k := 0) h
 rw [this]
 unfold getB
 simp [leV]
theorem s64_wrap {z : Int} (h : 0 ≤ z ∧ z < 18446744073709551616) : (z + 9223372036854775808) % 18446744073709551616 - 9223372036854775808 = s64 z := by
 unfold s64; split <;> omega
theorem cntsD_succ (b : List Int) (i : Nat) : cntsD b (i + 1) = cntsD b i ++ [cntD b i] := by unfold cntsD; rw [List.range_succ, List.map_append]; rfl
theorem grpsD_succ (b : List Int) (i : Nat) : grpsD b (i + 1) = grpsD b i ++ [grpD b i] := by unfold grpsD; rw [List.range_succ, List.map_append]; rfl
theorem cntsD_len (b : List Int) (i : Nat) : (cntsD b i).length = i := by unfold cntsD; rw [List.length_map, List.length_range]
theorem grpsD_len (b : List Int) (i : Nat) : (grpsD b i).length = i := by unfold grpsD; rw [List.length_map, List.length_range]
end Go.SL.Pg
namespace Go.Proofs.YtgcknlpkhhpkjaaGreatDoor
open Go Go.SL Go.SL.Sec Go.SL.Fld Go.SL.Pts Go.SL.Rec Go.SL.Pg
abbrev pgv (x : PgX) : Value := .agg ⟨[.int .i64 x.m.num, .int .i64 x.m.lsn, .slice x.ca x.m.C.length x.cc, .slice x.ga x.m.G.length x.gc]⟩
def pgc (x : PgX) : HProp := vec t_z1a 5 cntv x.ca x.cc x.m.C • vec t_zt 2 grpv x.ga x.gc x.m.G
theorem pgc_eq (x : PgX) (R : HProp) : (pgc x • R) = (vec t_z1a 5 cntv x.ca x.cc x.m.C • vec t_zt 2 grpv x.ga x.gc x.m.G • R) := by unfold pgc; simp only [star_assoc]
def pg0 (n l : Int) : PgX := ⟨⟨n, l, [], []⟩, none, 0, none, 0⟩
theorem Imp.pg0 {n l : Int} {G H : HProp} (h : Imp H G) : Imp H (pgc (pg0 n l) • G) := by
 rw [pgc_eq]
 exact Imp.vnil (Imp.vnil h)
end Go.Proofs.YtgcknlpkhhpkjaaGreatDoor
