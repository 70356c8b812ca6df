/- undo.Left, walked. Conditions: in each statement. -/
import Derived.Test.YtacpnjlijjgbmaaGreatDoorUndAdd
import Derived.Test.YtacpnjlijjgbmaaGreatDoorMap2
import Derived.Test.YtacpnjlijjgbmaaGreatDoorLay
import Derived.Test.YtacpnjlijjgbmaaGreatDoorDec
namespace Go.Proofs.YtacpnjlijjgbmaaGreatDoor
open Go Go.SL Go.SL.Und
instance {r : RecV} : LitL (recv r) [.int .i64 r.lsn, .int .i64 r.kind, .int .i64 r.tx, .int .i64 r.prev, .int .i64 r.wp, .int .i64 r.wi, .int .i64 r.sp, .int .i64 r.si, .int .i64 r.delta,
   .int .i64 r.id, .int .i64 r.grp, .int .i64 r.lo, .int .i64 r.hi, .int .i64 r.val, .slice r.lv.1 r.lv.2.1 r.lv.2.2, .slice r.dt.1 r.dt.2.1 r.dt.2.2, .int .i64 r.nxt] := ⟨rfl⟩
theorem sized_rec : Sized 17 recv := fun _ => rfl
/-- A record, as a value. -/
def recA (r : RecV) : Value := .agg ⟨[.int .i64 r.lsn, .int .i64 r.kind, .int .i64 r.tx, .int .i64 r.prev, .int .i64 r.wp, .int .i64 r.wi, .int .i64 r.sp, .int .i64 r.si, .int .i64 r.delta,
   .int .i64 r.id, .int .i64 r.grp, .int .i64 r.lo, .int .i64 r.hi, .int .i64 r.val, .slice r.lv.1 r.lv.2.1 r.lv.2.2, .slice r.dt.1 r.dt.2.1 r.dt.2.2, .int .i64 r.nxt]⟩
/-- Its numbers fit. -/
def OkR (r : RecV) : Prop := fits r.id ∧ fits r.delta
def OkH (m : List (Int × RecV)) : Prop := ∀ p ∈ m, fits p.1 ∧ fits p.2.delta
theorem left1_okH {tx : Int} {m : List (Int × RecV)} {r : RecV} (h : OkH m) (hr : OkR r) : OkH (left1 tx m r).2 := by
  have hu : ∀ d, fits d → OkH (updKV r.id (undoR tx r d) m) := fun d hd p hp => by
    rcases updKV_mem hp with rfl | hp
    · exact ⟨hr.1, hd⟩
    · exact h p hp
  unfold left1
  split
  · exact h
  · split
    · split
      · exact hu _ hr.2
      · split
        · exact hu _ (by assumption)
        · exact h
    · split
      · split
        · exact h
        · split
          · exact fun p hp => h p (List.mem_filter.1 hp).1
          · exact h
      · split
        · exact fun p hp => by cases hp
        · exact h
theorem iadd_yes {W : World} {R : HProp} {a b : Int} (ha : fits a) (hb : fits b) (h : fits (a + b)) :
    Does prog W f_interval_Add ⟨[.int .i64 a, .int .i64 b]⟩ R (Ret fun u G => u = .tuple ⟨[.int .i64 (a + b), i0]⟩ ∧ G = R) := by
  have := iadd_spec (W := W) (R := R) ha hb
  rwa [if_pos h, if_pos h] at this
theorem iadd_no {W : World} {R : HProp} {a b : Int} (ha : fits a) (hb : fits b) (h : ¬ fits (a + b)) :
    Does prog W f_interval_Add ⟨[.int .i64 a, .int .i64 b]⟩ R (Ret fun u G => u = .tuple ⟨[i0, .int .i64 10]⟩ ∧ G = R) := by
  have := iadd_spec (W := W) (R := R) ha hb
  rwa [if_neg h, if_neg h] at this
theorem iadd_zero {W : World} {R : HProp} {b : Int} (hb : fits b) :
    Does prog W f_interval_Add ⟨[i0, .int .i64 b]⟩ R (Ret fun u G => u = .tuple ⟨[.int .i64 b, i0]⟩ ∧ G = R) := by
  have := iadd_yes (W := W) (R := R) (a := 0) (b := b) (by decide) hb (by rw [Int.zero_add]; exact hb)
  rwa [Int.zero_add] at this
theorem keys_spec {W : World} {H : HProp} {r : Nat} : Does prog W f_maps_Keys_M_int_api_Record_int_api_Record ⟨[.map (some r)]⟩ H (Ret fun v G => ∃ B, v = .func (.func f_maps_Keys_M_int_api_Record_int_api_Record_1) ⟨[]⟩ ⟨[ptr B]⟩ ∧ G = (pts B (.cells ⟨[.map (some r)]⟩ t_M_int_api_Record) • H)) := by
  refine f_maps_Keys_M_int_api_Record_int_api_Record.does _ ?_
  conv => whnf
  repeat' (first
    | (refine spl_f (by with_reducible exact ndec_self _) ?_; conv => whnf)
    | (refine spl_f (by with_reducible exact nbeq_self _) ?_; conv => whnf)
    | (refine spl_t (by with_reducible exact beq_self _) ?_; conv => whnf)
    | (refine spl_dec (fun hd => ?_) (fun hd => ?_) <;> first | (exfalso; omega) | (conv => whnf))
    | (refine spl_ndec (fun hd => ?_) (fun hd => ?_) <;> first | (exfalso; omega) | (conv => whnf))
    | (refine spl_intro (fun hd => ?_) (fun hd => ?_) <;> (conv => whnf))
    | (refine Ld.i ?_; conv => whnf)
    | (refine LdN.i ?_; conv => whnf)
    | (refine St.i ⟨rfl, rfl⟩ (List.cons_ne_nil _ _) ?_; conv => whnf)
    | (refine Ar.i64 (by omega) ?_; conv => whnf)
    | (refine Ar.u64 (by omega) ?_; conv => whnf)
    | (refine Ar.i64d (by omega) (by omega) ?_; conv => whnf)
    | (refine Shr.i (by rfl) (by decide) ?_; conv => whnf)
    | (refine Shl.i (by rfl) (by decide) ?_; conv => whnf)
    | (refine Req.mk (by omega) ?_; conv => whnf)
    | (intro blk hblk; conv => whnf)
    | fail)
  exact ⟨_, _, rfl, Imp.refl _, _, rfl, rfl⟩
set_option maxHeartbeats 4000000 in
theorem left_spec {W : World} {R : HProp} {a : Option Addr} {n cap : Nat} {xs : List RecV} {tx : Int} [c : RowC W R a 17 recv xs] (hn : n = xs.length) (hx : ∀ r ∈ xs, OkR r) (hb : 336 * (xs.length + 1) ≤ 281474976710656) :
    Does prog W f_undo_Left ⟨[.slice a n cap, .int .i64 tx]⟩ R (Ret fun v G => ∃ a' cap', v = .tuple ⟨[.slice a' (leftF xs tx).2.length cap', .int .i64 (leftF xs tx).1]⟩ ∧ G = (vec t_api_Record 17 recv a' cap' (leftF xs tx).2 • R)) := by
  subst hn
  rw [leftF]
  refine f_undo_Left.does _ _ ?_
  conv => whnf
  by_cases htx : tx < 1 ∨ tx > 2147483647
  · rw [if_pos htx]
    repeat' (first
      | (refine spl_f (by with_reducible exact ndec_self _) ?_; conv => whnf)
      | (refine spl_f (by with_reducible exact nbeq_self _) ?_; conv => whnf)
      | (refine spl_t (by with_reducible exact beq_self _) ?_; conv => whnf)
      | (refine spl_dec (fun hd => ?_) (fun hd => ?_) <;> first | (exfalso; omega) | (conv => whnf))
      | (refine spl_ndec (fun hd => ?_) (fun hd => ?_) <;> first | (exfalso; omega) | (conv => whnf))
      | (refine spl_intro (fun hd => ?_) (fun hd => ?_) <;> (conv => whnf))
      | (refine Ld.i ?_; conv => whnf)
      | (refine LdN.i ?_; conv => whnf)
      | (refine St.i ⟨rfl, rfl⟩ (List.cons_ne_nil _ _) ?_; conv => whnf)
      | (refine Ar.i64 (by omega) ?_; conv => whnf)
      | (refine Ar.u64 (by omega) ?_; conv => whnf)
      | (refine Ar.i64d (by omega) (by omega) ?_; conv => whnf)
      | (refine Shr.i (by rfl) (by decide) ?_; conv => whnf)
      | (refine Shl.i (by rfl) (by decide) ?_; conv => whnf)
      | (refine Req.mk (by omega) ?_; conv => whnf)
      | (intro blk hblk; conv => whnf)
      | fail)
    all_goals
      refine ⟨_, _, rfl, ?_, none, 0, rfl, rfl⟩
      refine Imp.vnil ?_
      first | exact Imp.refl _ | exact Imp.drop | exact Imp.fin | ((repeat (refine Imp.pick ?_)); first | exact Imp.refl _ | exact Imp.emp _ | exact Imp.fin)
  rw [if_neg htx]
  repeat' (first
    | (refine spl_f (by with_reducible exact ndec_self _) ?_; conv => whnf)
    | (refine spl_f (by with_reducible exact nbeq_self _) ?_; conv => whnf)
    | (refine spl_t (by with_reducible exact beq_self _) ?_; conv => whnf)
    | (refine spl_dec (fun hd => ?_) (fun hd => ?_) <;> first | (exfalso; omega) | (conv => whnf))
    | (refine spl_ndec (fun hd => ?_) (fun hd => ?_) <;> first | (exfalso; omega) | (conv => whnf))
    | (refine spl_intro (fun hd => ?_) (fun hd => ?_) <;> (conv => whnf))
    | (refine Ld.i ?_; conv => whnf)
    | (refine LdN.i ?_; conv => whnf)
    | (refine St.i ⟨rfl, rfl⟩ (List.cons_ne_nil _ _) ?_; conv => whnf)
    | (refine Ar.i64 (by omega) ?_; conv => whnf)
    | (refine Ar.u64 (by omega) ?_; conv => whnf)
    | (refine Ar.i64d (by omega) (by omega) ?_; conv => whnf)
    | (refine Shr.i (by rfl) (by decide) ?_; conv => whnf)
    | (refine Shl.i (by rfl) (by decide) ?_; conv => whnf)
    | (refine Req.mk (by omega) ?_; conv => whnf)
    | (intro blk hblk; conv => whnf)
    | (refine OpX.makeMap .i64 (fun r hr => ?_); conv => whnf)
    | fail)
  refine LoopK.at tab_ok (L := f_undo_Left.live) (ι := Nat × List (Int × RecV)) (fun i => i.1 ≤ xs.length ∧ KeyOk i.2 ∧ OkH i.2 ∧ i.2.length ≤ i.1 ∧ leftG tx i.2 (xs.drop i.1) = leftG tx [] xs)
    (fun i => [(25, .int .i64 i.1)]) (fun i => mapc r .i64 (mapv recA i.2)) (fun i => xs.length - i.1) (0, []) ⟨by simp, KeyOk.nil, fun p h => (by cases h), by simp, by simp⟩ (fun t v h => h) (Imp.refl _) ?_
  rintro ⟨i, m⟩ ⟨hi, hk, hh, hl, hm⟩
  dsimp only at hi hk hh hl hm ⊢
  conv => whnf
  by_cases h1 : i < xs.length
  · obtain ⟨x, hxi⟩ : ∃ x, xs[i]? = some x := ⟨_, List.getElem?_eq_getElem h1⟩
    have hox := hx x (List.mem_of_getElem? hxi)
    have hk' := left1_ok (tx := tx) x hk
    have hh' := left1_okH (tx := tx) hh hox
    have hl' := left1_len (tx := tx) (m := m) x
    rw [drop_of hxi, leftG] at hm
    by_cases h2 : x.tx = tx
    · by_cases k3 : x.kind = 3
      · rcases hlk : m.lookup x.id with _ | u
        · have e1 : left1 tx m x = (0, updKV x.id (undoR tx x x.delta) m) := by rw [left1, if_neg (by simpa using h2), if_pos k3, hlk]
          rw [e1] at hm hk' hh' hl'
          rw [if_pos rfl] at hm
          repeat' (first
            | (refine spl_f (by with_reducible exact ndec_self _) ?_; conv => whnf)
            | (refine spl_f (by with_reducible exact nbeq_self _) ?_; conv => whnf)
            | (refine spl_t (by with_reducible exact beq_self _) ?_; conv => whnf)
            | (refine spl_dec (fun hd => ?_) (fun hd => ?_) <;> first | (exfalso; omega) | (conv => whnf))
            | (refine spl_ndec (fun hd => ?_) (fun hd => ?_) <;> first | (exfalso; omega) | (conv => whnf))
            | (refine spl_intro (fun hd => ?_) (fun hd => ?_) <;> (conv => whnf))
            | (refine Ld.i ?_; conv => whnf)
            | (refine LdN.i ?_; conv => whnf)
            | (refine St.i ⟨rfl, rfl⟩ (List.cons_ne_nil _ _) ?_; conv => whnf)
            | (refine Ar.i64 (by omega) ?_; conv => whnf)
            | (refine Ar.u64 (by omega) ?_; conv => whnf)
            | (refine Ar.i64d (by omega) (by omega) ?_; conv => whnf)
            | (refine Shr.i (by rfl) (by decide) ?_; conv => whnf)
            | (refine Shl.i (by rfl) (by decide) ?_; conv => whnf)
            | (refine Req.mk (by omega) ?_; conv => whnf)
            | (intro blk hblk; conv => whnf)
            | (refine IxS.r (i := i) rfl rfl h1 (fun ab off ha => ?_); subst ha; conv => whnf)
            | (refine LdN.r hxi rfl ?_; conv => whnf)
            | (refine Ld.r hxi rfl ?_; conv => whnf)
            | (refine Ld.r0 hxi rfl ?_; conv => whnf)
            | (refine LdN.rp hxi ?_; conv => whnf)
            | (refine OpX.lk2n tab_ok hlk rfl rfl rfl rfl rfl ?_; conv => whnf)
            | (refine CallK.ret f_interval_Add.ok ((iadd_zero hox.2)) ?_; rintro v G ⟨rfl, rfl⟩; conv => whnf)
            | (refine OpX.upv tab_ok (undoR tx x x.delta) rfl rfl rfl rfl rfl rfl ?_; conv => whnf)
            | fail)
          refine ⟨rfl, (i + 1, _), ⟨h1, hk', hh', by dsimp only; dsimp only at hl'; omega, hm⟩, fun t v h => h, ?_, by dsimp only; omega⟩
          first | exact Imp.refl _ | exact Imp.drop | exact Imp.fin | ((repeat (refine Imp.pick ?_)); first | exact Imp.refl _ | exact Imp.emp _ | exact Imp.fin)
        · have hou := hh _ (mem_of_lookup _ _ _ hlk)
          by_cases hf : fits (u.delta + x.delta)
          · have e1 : left1 tx m x = (0, updKV x.id (undoR tx x (u.delta + x.delta)) m) := by rw [left1, if_neg (by simpa using h2), if_pos k3, hlk]; exact if_pos hf
            rw [e1] at hm hk' hh' hl'
            rw [if_pos rfl] at hm
            repeat' (first
              | (refine spl_f (by with_reducible exact ndec_self _) ?_; conv => whnf)
              | (refine spl_f (by with_reducible exact nbeq_self _) ?_; conv => whnf)
              | (refine spl_t (by with_reducible exact beq_self _) ?_; conv => whnf)
              | (refine spl_dec (fun hd => ?_) (fun hd => ?_) <;> first | (exfalso; omega) | (conv => whnf))
              | (refine spl_ndec (fun hd => ?_) (fun hd => ?_) <;> first | (exfalso; omega) | (conv => whnf))
              | (refine spl_intro (fun hd => ?_) (fun hd => ?_) <;> (conv => whnf))
              | (refine Ld.i ?_; conv => whnf)
              | (refine LdN.i ?_; conv => whnf)
              | (refine St.i ⟨rfl, rfl⟩ (List.cons_ne_nil _ _) ?_; conv => whnf)
              | (refine Ar.i64 (by omega) ?_; conv => whnf)
              | (refine Ar.u64 (by omega) ?_; conv => whnf)
              | (refine Ar.i64d (by omega) (by omega) ?_; conv => whnf)
              | (refine Shr.i (by rfl) (by decide) ?_; conv => whnf)
              | (refine Shl.i (by rfl) (by decide) ?_; conv => whnf)
              | (refine Req.mk (by omega) ?_; conv => whnf)
              | (intro blk hblk; conv => whnf)
              | (refine IxS.r (i := i) rfl rfl h1 (fun ab off ha => ?_); subst ha; conv => whnf)
              | (refine LdN.r hxi rfl ?_; conv => whnf)
              | (refine Ld.r hxi rfl ?_; conv => whnf)
              | (refine Ld.r0 hxi rfl ?_; conv => whnf)
              | (refine LdN.rp hxi ?_; conv => whnf)
              | (refine OpX.lk2s tab_ok hlk rfl rfl rfl rfl rfl ?_; conv => whnf)
              | (refine CallK.ret f_interval_Add.ok ((iadd_yes hou.2 hox.2 hf)) ?_; rintro v G ⟨rfl, rfl⟩; conv => whnf)
              | (refine OpX.upv tab_ok (undoR tx x (u.delta + x.delta)) rfl rfl rfl rfl rfl rfl ?_; conv => whnf)
              | fail)
            refine ⟨rfl, (i + 1, _), ⟨h1, hk', hh', by dsimp only; dsimp only at hl'; omega, hm⟩, fun t v h => h, ?_, by dsimp only; omega⟩
            first | exact Imp.refl _ | exact Imp.drop | exact Imp.fin | ((repeat (refine Imp.pick ?_)); first | exact Imp.refl _ | exact Imp.emp _ | exact Imp.fin)
          · have e1 : left1 tx m x = (10, m) := by rw [left1, if_neg (by simpa using h2), if_pos k3, hlk]; exact if_neg hf
            rw [e1, if_neg (show ¬ (10 : Int) = 0 by decide)] at hm
            rw [if_neg (by rw [← hm]; exact (show ¬ (10 : Int) = 0 by decide)), ← hm]
            repeat' (first
              | (refine spl_f (by with_reducible exact ndec_self _) ?_; conv => whnf)
              | (refine spl_f (by with_reducible exact nbeq_self _) ?_; conv => whnf)
              | (refine spl_t (by with_reducible exact beq_self _) ?_; conv => whnf)
              | (refine spl_dec (fun hd => ?_) (fun hd => ?_) <;> first | (exfalso; omega) | (conv => whnf))
              | (refine spl_ndec (fun hd => ?_) (fun hd => ?_) <;> first | (exfalso; omega) | (conv => whnf))
              | (refine spl_intro (fun hd => ?_) (fun hd => ?_) <;> (conv => whnf))
              | (refine Ld.i ?_; conv => whnf)
              | (refine LdN.i ?_; conv => whnf)
              | (refine St.i ⟨rfl, rfl⟩ (List.cons_ne_nil _ _) ?_; conv => whnf)
              | (refine Ar.i64 (by omega) ?_; conv => whnf)
              | (refine Ar.u64 (by omega) ?_; conv => whnf)
              | (refine Ar.i64d (by omega) (by omega) ?_; conv => whnf)
              | (refine Shr.i (by rfl) (by decide) ?_; conv => whnf)
              | (refine Shl.i (by rfl) (by decide) ?_; conv => whnf)
              | (refine Req.mk (by omega) ?_; conv => whnf)
              | (intro blk hblk; conv => whnf)
              | (refine IxS.r (i := i) rfl rfl h1 (fun ab off ha => ?_); subst ha; conv => whnf)
              | (refine LdN.r hxi rfl ?_; conv => whnf)
              | (refine Ld.r hxi rfl ?_; conv => whnf)
              | (refine Ld.r0 hxi rfl ?_; conv => whnf)
              | (refine LdN.rp hxi ?_; conv => whnf)
              | (refine OpX.lk2s tab_ok hlk rfl rfl rfl rfl rfl ?_; conv => whnf)
              | (refine CallK.ret f_interval_Add.ok ((iadd_no hou.2 hox.2 hf)) ?_; rintro v G ⟨rfl, rfl⟩; conv => whnf)
              | fail)
            refine ⟨_, _, rfl, ?_, none, 0, rfl, rfl⟩
            refine Imp.vnil ?_
            first | exact Imp.refl _ | exact Imp.drop | exact Imp.fin | ((repeat (refine Imp.pick ?_)); first | exact Imp.refl _ | exact Imp.emp _ | exact Imp.fin)
      · by_cases k4 : x.kind = 4
        · rcases hlk : m.lookup x.id with _ | u
          · have e1 : left1 tx m x = (120, m) := by rw [left1, if_neg (by simpa using h2), if_neg k3, if_pos k4, hlk]
            rw [e1, if_neg (show ¬ (120 : Int) = 0 by decide)] at hm
            rw [if_neg (by rw [← hm]; exact (show ¬ (120 : Int) = 0 by decide)), ← hm]
            repeat' (first
              | (refine spl_f (by with_reducible exact ndec_self _) ?_; conv => whnf)
              | (refine spl_f (by with_reducible exact nbeq_self _) ?_; conv => whnf)
              | (refine spl_t (by with_reducible exact beq_self _) ?_; conv => whnf)
              | (refine spl_dec (fun hd => ?_) (fun hd => ?_) <;> first | (exfalso; omega) | (conv => whnf))
              | (refine spl_ndec (fun hd => ?_) (fun hd => ?_) <;> first | (exfalso; omega) | (conv => whnf))
              | (refine spl_intro (fun hd => ?_) (fun hd => ?_) <;> (conv => whnf))
              | (refine Ld.i ?_; conv => whnf)
              | (refine LdN.i ?_; conv => whnf)
              | (refine St.i ⟨rfl, rfl⟩ (List.cons_ne_nil _ _) ?_; conv => whnf)
              | (refine Ar.i64 (by omega) ?_; conv => whnf)
              | (refine Ar.u64 (by omega) ?_; conv => whnf)
              | (refine Ar.i64d (by omega) (by omega) ?_; conv => whnf)
              | (refine Shr.i (by rfl) (by decide) ?_; conv => whnf)
              | (refine Shl.i (by rfl) (by decide) ?_; conv => whnf)
              | (refine Req.mk (by omega) ?_; conv => whnf)
              | (intro blk hblk; conv => whnf)
              | (refine IxS.r (i := i) rfl rfl h1 (fun ab off ha => ?_); subst ha; conv => whnf)
              | (refine LdN.r hxi rfl ?_; conv => whnf)
              | (refine Ld.r hxi rfl ?_; conv => whnf)
              | (refine Ld.r0 hxi rfl ?_; conv => whnf)
              | (refine LdN.rp hxi ?_; conv => whnf)
              | (refine OpX.lk2n tab_ok hlk rfl rfl rfl rfl rfl ?_; conv => whnf)
              | fail)
            refine ⟨_, _, rfl, ?_, none, 0, rfl, rfl⟩
            refine Imp.vnil ?_
            first | exact Imp.refl _ | exact Imp.drop | exact Imp.fin | ((repeat (refine Imp.pick ?_)); first | exact Imp.refl _ | exact Imp.emp _ | exact Imp.fin)
          · by_cases hf : sameH x u
            · have e1 : left1 tx m x = (0, delKV x.id m) := by rw [left1, if_neg (by simpa using h2), if_neg k3, if_pos k4, hlk]; exact if_pos hf
              rw [e1] at hm hk' hh' hl'
              rw [if_pos rfl] at hm
              obtain ⟨f1, ⟨f2, f3⟩, f4, f5⟩ := hf
              repeat' (first
                | (refine spl_f (by with_reducible exact ndec_self _) ?_; conv => whnf)
                | (refine spl_f (by with_reducible exact nbeq_self _) ?_; conv => whnf)
                | (refine spl_t (by with_reducible exact beq_self _) ?_; conv => whnf)
                | (refine spl_dec (fun hd => ?_) (fun hd => ?_) <;> first | (exfalso; omega) | (conv => whnf))
                | (refine spl_ndec (fun hd => ?_) (fun hd => ?_) <;> first | (exfalso; omega) | (conv => whnf))
                | (refine spl_intro (fun hd => ?_) (fun hd => ?_) <;> (conv => whnf))
                | (refine Ld.i ?_; conv => whnf)
                | (refine LdN.i ?_; conv => whnf)
                | (refine St.i ⟨rfl, rfl⟩ (List.cons_ne_nil _ _) ?_; conv => whnf)
                | (refine Ar.i64 (by omega) ?_; conv => whnf)
                | (refine Ar.u64 (by omega) ?_; conv => whnf)
                | (refine Ar.i64d (by omega) (by omega) ?_; conv => whnf)
                | (refine Shr.i (by rfl) (by decide) ?_; conv => whnf)
                | (refine Shl.i (by rfl) (by decide) ?_; conv => whnf)
                | (refine Req.mk (by omega) ?_; conv => whnf)
                | (intro blk hblk; conv => whnf)
                | (refine IxS.r (i := i) rfl rfl h1 (fun ab off ha => ?_); subst ha; conv => whnf)
                | (refine LdN.r hxi rfl ?_; conv => whnf)
                | (refine Ld.r hxi rfl ?_; conv => whnf)
                | (refine Ld.r0 hxi rfl ?_; conv => whnf)
                | (refine LdN.rp hxi ?_; conv => whnf)
                | (refine OpX.lk2s tab_ok hlk rfl rfl rfl rfl rfl ?_; conv => whnf)
                | (refine OpX.of_quiet (OpQ.eqs rfl rfl ?_); conv => whnf)
                | (refine OpX.of_quiet (OpQ.nes rfl rfl ?_); conv => whnf)
                | (refine OpQ.eqs rfl rfl ?_; conv => whnf)
                | (refine OpQ.nes rfl rfl ?_; conv => whnf)
                | (refine OpX.delv tab_ok rfl rfl rfl rfl ?_; conv => whnf)
                | fail)
              · simp_all
              · simp_all
              · refine ⟨rfl, (i + 1, _), ⟨h1, hk', hh', by dsimp only; dsimp only at hl'; omega, hm⟩, fun t v h => h, ?_, by dsimp only; omega⟩
                first | exact Imp.refl _ | exact Imp.drop | exact Imp.fin | ((repeat (refine Imp.pick ?_)); first | exact Imp.refl _ | exact Imp.emp _ | exact Imp.fin)
            · have e1 : left1 tx m x = (60, m) := by rw [left1, if_neg (by simpa using h2), if_neg k3, if_pos k4, hlk]; exact if_neg hf
              rw [e1, if_neg (show ¬ (60 : Int) = 0 by decide)] at hm
              rw [if_neg (by rw [← hm]; exact (show ¬ (60 : Int) = 0 by decide)), ← hm]
              repeat' (first
                | (refine spl_f (by with_reducible exact ndec_self _) ?_; conv => whnf)
                | (refine spl_f (by with_reducible exact nbeq_self _) ?_; conv => whnf)
                | (refine spl_t (by with_reducible exact beq_self _) ?_; conv => whnf)
                | (refine spl_dec (fun hd => ?_) (fun hd => ?_) <;> first | (exfalso; omega) | (conv => whnf))
                | (refine spl_ndec (fun hd => ?_) (fun hd => ?_) <;> first | (exfalso; omega) | (conv => whnf))
                | (refine spl_intro (fun hd => ?_) (fun hd => ?_) <;> (conv => whnf))
                | (refine Ld.i ?_; conv => whnf)
                | (refine LdN.i ?_; conv => whnf)
                | (refine St.i ⟨rfl, rfl⟩ (List.cons_ne_nil _ _) ?_; conv => whnf)
                | (refine Ar.i64 (by omega) ?_; conv => whnf)
                | (refine Ar.u64 (by omega) ?_; conv => whnf)
                | (refine Ar.i64d (by omega) (by omega) ?_; conv => whnf)
                | (refine Shr.i (by rfl) (by decide) ?_; conv => whnf)
                | (refine Shl.i (by rfl) (by decide) ?_; conv => whnf)
                | (refine Req.mk (by omega) ?_; conv => whnf)
                | (intro blk hblk; conv => whnf)
                | (refine IxS.r (i := i) rfl rfl h1 (fun ab off ha => ?_); subst ha; conv => whnf)
                | (refine LdN.r hxi rfl ?_; conv => whnf)
                | (refine Ld.r hxi rfl ?_; conv => whnf)
                | (refine Ld.r0 hxi rfl ?_; conv => whnf)
                | (refine LdN.rp hxi ?_; conv => whnf)
                | (refine OpX.lk2s tab_ok hlk rfl rfl rfl rfl rfl ?_; conv => whnf)
                | (refine OpX.of_quiet (OpQ.eqs rfl rfl ?_); conv => whnf)
                | (refine OpX.of_quiet (OpQ.nes rfl rfl ?_); conv => whnf)
                | (refine OpQ.eqs rfl rfl ?_; conv => whnf)
                | (refine OpQ.nes rfl rfl ?_; conv => whnf)
                | (refine OpX.delv tab_ok rfl rfl rfl rfl ?_; conv => whnf)
                | fail)
              iterate 3
                · refine ⟨_, _, rfl, ?_, none, 0, rfl, rfl⟩
                  refine Imp.vnil ?_
                  first | exact Imp.refl _ | exact Imp.drop | exact Imp.fin | ((repeat (refine Imp.pick ?_)); first | exact Imp.refl _ | exact Imp.emp _ | exact Imp.fin)
              · exact absurd (by unfold sameH; simp_all) hf
        · by_cases k5 : x.kind = 5
          · have e1 : left1 tx m x = (0, []) := by rw [left1, if_neg (by simpa using h2), if_neg k3, if_neg k4, if_pos k5]
            rw [e1] at hm hk' hh' hl'
            rw [if_pos rfl] at hm
            repeat' (first
              | (refine spl_f (by with_reducible exact ndec_self _) ?_; conv => whnf)
              | (refine spl_f (by with_reducible exact nbeq_self _) ?_; conv => whnf)
              | (refine spl_t (by with_reducible exact beq_self _) ?_; conv => whnf)
              | (refine spl_dec (fun hd => ?_) (fun hd => ?_) <;> first | (exfalso; omega) | (conv => whnf))
              | (refine spl_ndec (fun hd => ?_) (fun hd => ?_) <;> first | (exfalso; omega) | (conv => whnf))
              | (refine spl_intro (fun hd => ?_) (fun hd => ?_) <;> (conv => whnf))
              | (refine Ld.i ?_; conv => whnf)
              | (refine LdN.i ?_; conv => whnf)
              | (refine St.i ⟨rfl, rfl⟩ (List.cons_ne_nil _ _) ?_; conv => whnf)
              | (refine Ar.i64 (by omega) ?_; conv => whnf)
              | (refine Ar.u64 (by omega) ?_; conv => whnf)
              | (refine Ar.i64d (by omega) (by omega) ?_; conv => whnf)
              | (refine Shr.i (by rfl) (by decide) ?_; conv => whnf)
              | (refine Shl.i (by rfl) (by decide) ?_; conv => whnf)
              | (refine Req.mk (by omega) ?_; conv => whnf)
              | (intro blk hblk; conv => whnf)
              | (refine IxS.r (i := i) rfl rfl h1 (fun ab off ha => ?_); subst ha; conv => whnf)
              | (refine LdN.r hxi rfl ?_; conv => whnf)
              | (refine Ld.r hxi rfl ?_; conv => whnf)
              | (refine Ld.r0 hxi rfl ?_; conv => whnf)
              | (refine LdN.rp hxi ?_; conv => whnf)
              | (refine OpX.lk2v tab_ok rfl rfl rfl rfl rfl (fun u hu => ?_) (fun hu => ?_) <;> conv => whnf)
              | (refine OpX.clr tab_ok rfl rfl ?_; conv => whnf)
              | fail)
            all_goals
              refine ⟨rfl, (i + 1, []), ⟨h1, KeyOk.nil, hh', by simp, hm⟩, fun t v h => h, ?_, by dsimp only; omega⟩
              dsimp only [mapv, List.map]
              first | exact Imp.refl _ | exact Imp.drop | exact Imp.fin | ((repeat (refine Imp.pick ?_)); first | exact Imp.refl _ | exact Imp.emp _ | exact Imp.fin)
          · have e1 : left1 tx m x = (0, m) := by rw [left1, if_neg (by simpa using h2), if_neg k3, if_neg k4, if_neg k5]
            rw [e1] at hm
            rw [if_pos rfl] at hm
            repeat' (first
              | (refine spl_f (by with_reducible exact ndec_self _) ?_; conv => whnf)
              | (refine spl_f (by with_reducible exact nbeq_self _) ?_; conv => whnf)
              | (refine spl_t (by with_reducible exact beq_self _) ?_; conv => whnf)
              | (refine spl_dec (fun hd => ?_) (fun hd => ?_) <;> first | (exfalso; omega) | (conv => whnf))
              | (refine spl_ndec (fun hd => ?_) (fun hd => ?_) <;> first | (exfalso; omega) | (conv => whnf))
              | (refine spl_intro (fun hd => ?_) (fun hd => ?_) <;> (conv => whnf))
              | (refine Ld.i ?_; conv => whnf)
              | (refine LdN.i ?_; conv => whnf)
              | (refine St.i ⟨rfl, rfl⟩ (List.cons_ne_nil _ _) ?_; conv => whnf)
              | (refine Ar.i64 (by omega) ?_; conv => whnf)
              | (refine Ar.u64 (by omega) ?_; conv => whnf)
              | (refine Ar.i64d (by omega) (by omega) ?_; conv => whnf)
              | (refine Shr.i (by rfl) (by decide) ?_; conv => whnf)
              | (refine Shl.i (by rfl) (by decide) ?_; conv => whnf)
              | (refine Req.mk (by omega) ?_; conv => whnf)
              | (intro blk hblk; conv => whnf)
              | (refine IxS.r (i := i) rfl rfl h1 (fun ab off ha => ?_); subst ha; conv => whnf)
              | (refine LdN.r hxi rfl ?_; conv => whnf)
              | (refine Ld.r hxi rfl ?_; conv => whnf)
              | (refine Ld.r0 hxi rfl ?_; conv => whnf)
              | (refine LdN.rp hxi ?_; conv => whnf)
              | (refine OpX.lk2v tab_ok rfl rfl rfl rfl rfl (fun u hu => ?_) (fun hu => ?_) <;> conv => whnf)
              | fail)
            all_goals
              refine ⟨rfl, (i + 1, m), ⟨h1, hk, hh, by dsimp only; omega, hm⟩, fun t v h => h, ?_, by dsimp only; omega⟩
              first | exact Imp.refl _ | exact Imp.drop | exact Imp.fin | ((repeat (refine Imp.pick ?_)); first | exact Imp.refl _ | exact Imp.emp _ | exact Imp.fin)
    · have e1 : left1 tx m x = (0, m) := by rw [left1, if_pos h2]
      rw [e1] at hm
      rw [if_pos rfl] at hm
      repeat' (first
        | (refine spl_f (by with_reducible exact ndec_self _) ?_; conv => whnf)
        | (refine spl_f (by with_reducible exact nbeq_self _) ?_; conv => whnf)
        | (refine spl_t (by with_reducible exact beq_self _) ?_; conv => whnf)
        | (refine spl_dec (fun hd => ?_) (fun hd => ?_) <;> first | (exfalso; omega) | (conv => whnf))
        | (refine spl_ndec (fun hd => ?_) (fun hd => ?_) <;> first | (exfalso; omega) | (conv => whnf))
        | (refine spl_intro (fun hd => ?_) (fun hd => ?_) <;> (conv => whnf))
        | (refine Ld.i ?_; conv => whnf)
        | (refine LdN.i ?_; conv => whnf)
        | (refine St.i ⟨rfl, rfl⟩ (List.cons_ne_nil _ _) ?_; conv => whnf)
        | (refine Ar.i64 (by omega) ?_; conv => whnf)
        | (refine Ar.u64 (by omega) ?_; conv => whnf)
        | (refine Ar.i64d (by omega) (by omega) ?_; conv => whnf)
        | (refine Shr.i (by rfl) (by decide) ?_; conv => whnf)
        | (refine Shl.i (by rfl) (by decide) ?_; conv => whnf)
        | (refine Req.mk (by omega) ?_; conv => whnf)
        | (intro blk hblk; conv => whnf)
        | (refine IxS.r (i := i) rfl rfl h1 (fun ab off ha => ?_); subst ha; conv => whnf)
        | (refine LdN.r hxi rfl ?_; conv => whnf)
        | (refine Ld.r hxi rfl ?_; conv => whnf)
        | (refine Ld.r0 hxi rfl ?_; conv => whnf)
        | (refine LdN.rp hxi ?_; conv => whnf)
        | fail)
      refine ⟨rfl, (i + 1, m), ⟨h1, hk, hh, by dsimp only; omega, hm⟩, fun t v h => h, ?_, by dsimp only; omega⟩
      first | exact Imp.refl _ | exact Imp.drop | exact Imp.fin | ((repeat (refine Imp.pick ?_)); first | exact Imp.refl _ | exact Imp.emp _ | exact Imp.fin)
  · rw [drop_all h1, leftG] at hm
    rw [← hm, if_pos rfl]
    repeat' (first
      | (refine spl_f (by with_reducible exact ndec_self _) ?_; conv => whnf)
      | (refine spl_f (by with_reducible exact nbeq_self _) ?_; conv => whnf)
      | (refine spl_t (by with_reducible exact beq_self _) ?_; conv => whnf)
      | (refine spl_dec (fun hd => ?_) (fun hd => ?_) <;> first | (exfalso; omega) | (conv => whnf))
      | (refine spl_ndec (fun hd => ?_) (fun hd => ?_) <;> first | (exfalso; omega) | (conv => whnf))
      | (refine spl_intro (fun hd => ?_) (fun hd => ?_) <;> (conv => whnf))
      | (refine Ld.i ?_; conv => whnf)
      | (refine LdN.i ?_; conv => whnf)
      | (refine St.i ⟨rfl, rfl⟩ (List.cons_ne_nil _ _) ?_; conv => whnf)
      | (refine Ar.i64 (by omega) ?_; conv => whnf)
      | (refine Ar.u64 (by omega) ?_; conv => whnf)
      | (refine Ar.i64d (by omega) (by omega) ?_; conv => whnf)
      | (refine Shr.i (by rfl) (by decide) ?_; conv => whnf)
      | (refine Shl.i (by rfl) (by decide) ?_; conv => whnf)
      | (refine Req.mk (by omega) ?_; conv => whnf)
      | (intro blk hblk; conv => whnf)
      | fail)
    refine CallK.ret f_maps_Keys_M_int_api_Record_int_api_Record.ok (keys_spec) ?_
    rintro v G ⟨B, rfl, rfl⟩
    conv => whnf
    refine CallK.ret f_slices_Sorted_int.ok ((Does.sorted laySorted layKeys17 laySort rfl rfl rfl rfl (l := mapv recA m) (by rw [mapv_length]; omega) (fun z hz => by obtain ⟨p, hp, rfl⟩ := List.mem_map.1 hz; exact (hh p hp).1))) ?_
    rintro v G ⟨ka, kc, rfl, rfl⟩
    conv => whnf
    obtain ⟨K, hK⟩ : ∃ K, K = sortI (m.map (·.1)) := ⟨_, rfl⟩
    have hKl : K.length = m.length := by rw [hK, sortI_length, List.length_map]
    have hout : outR m = K.map fun k => (m.lookup k).getD recZ := by rw [outR, hK]
    have hKm : ∀ k ∈ K, ∃ u, m.lookup k = some u := fun k hk' => by
      obtain ⟨p, hp, rfl⟩ := List.mem_map.1 (sortI_mem.1 (hK ▸ hk'))
      exact ⟨_, lookup_of_mem p.1 p.2 m hk.2 hp⟩
    rw [mapv_keys, mapv_length, ← hKl, ← hK]
    refine LoopK.at tab_ok (L := f_undo_Left.live) (ι := Nat × Option Addr × Nat) (fun i => i.1 ≤ K.length)
      (fun i => [(106, .int .i64 i.1), (13, .slice i.2.1 i.1 i.2.2)]) (fun i => vec t_api_Record 17 recv i.2.1 i.2.2 ((K.take i.1).map fun k => (m.lookup k).getD recZ)) (fun i => K.length - i.1) (0, none, 0) (by simp) (fun t v h => h) (Imp.vnil (Imp.refl _)) ?_
    rintro ⟨i, oa, oc⟩ hi
    dsimp only at hi ⊢
    conv => whnf
    by_cases h1 : i < K.length
    · obtain ⟨x, hx⟩ : ∃ x, K[i]? = some x := ⟨_, List.getElem?_eq_getElem h1⟩
      obtain ⟨u, hu⟩ := hKm x (List.mem_of_getElem? hx)
      have hT : (K.take i).map (fun k => (m.lookup k).getD recZ) ++ [u] = (K.take (i + 1)).map fun k => (m.lookup k).getD recZ := by
        rw [List.take_add_one, hx]; simp [hu]
      have hlen : ((K.take i).map fun k => (m.lookup k).getD recZ).length = i := by simp; omega
      repeat' (first
        | (refine spl_f (by with_reducible exact ndec_self _) ?_; conv => whnf)
        | (refine spl_f (by with_reducible exact nbeq_self _) ?_; conv => whnf)
        | (refine spl_t (by with_reducible exact beq_self _) ?_; conv => whnf)
        | (refine spl_dec (fun hd => ?_) (fun hd => ?_) <;> first | (exfalso; omega) | (conv => whnf))
        | (refine spl_ndec (fun hd => ?_) (fun hd => ?_) <;> first | (exfalso; omega) | (conv => whnf))
        | (refine spl_intro (fun hd => ?_) (fun hd => ?_) <;> (conv => whnf))
        | (refine Ld.i ?_; conv => whnf)
        | (refine LdN.i ?_; conv => whnf)
        | (refine St.i ⟨rfl, rfl⟩ (List.cons_ne_nil _ _) ?_; conv => whnf)
        | (refine Ar.i64 (by omega) ?_; conv => whnf)
        | (refine Ar.u64 (by omega) ?_; conv => whnf)
        | (refine Ar.i64d (by omega) (by omega) ?_; conv => whnf)
        | (refine Shr.i (by rfl) (by decide) ?_; conv => whnf)
        | (refine Shl.i (by rfl) (by decide) ?_; conv => whnf)
        | (refine Req.mk (by omega) ?_; conv => whnf)
        | (intro blk hblk; conv => whnf)
        | (refine IxS.r (i := i) rfl rfl h1 (fun ab off ha => ?_); subst ha; conv => whnf)
        | (refine Ld.r0 hx rfl ?_; conv => whnf)
        | (refine OpX.lks tab_ok hu rfl rfl rfl rfl rfl ?_; conv => whnf)
        | fail)
      refine OpX.app1 tab_ok rfl rfl rfl rfl u rfl hlen.symm (by rw [hlen]; omega) ⟨rfl, rec_one⟩ (fun a' c' => ?_)
      rw [hT]
      repeat' (first
        | (refine spl_f (by with_reducible exact ndec_self _) ?_; conv => whnf)
        | (refine spl_f (by with_reducible exact nbeq_self _) ?_; conv => whnf)
        | (refine spl_t (by with_reducible exact beq_self _) ?_; conv => whnf)
        | (refine spl_dec (fun hd => ?_) (fun hd => ?_) <;> first | (exfalso; omega) | (conv => whnf))
        | (refine spl_ndec (fun hd => ?_) (fun hd => ?_) <;> first | (exfalso; omega) | (conv => whnf))
        | (refine spl_intro (fun hd => ?_) (fun hd => ?_) <;> (conv => whnf))
        | (refine Ld.i ?_; conv => whnf)
        | (refine LdN.i ?_; conv => whnf)
        | (refine St.i ⟨rfl, rfl⟩ (List.cons_ne_nil _ _) ?_; conv => whnf)
        | (refine Ar.i64 (by omega) ?_; conv => whnf)
        | (refine Ar.u64 (by omega) ?_; conv => whnf)
        | (refine Ar.i64d (by omega) (by omega) ?_; conv => whnf)
        | (refine Shr.i (by rfl) (by decide) ?_; conv => whnf)
        | (refine Shl.i (by rfl) (by decide) ?_; conv => whnf)
        | (refine Req.mk (by omega) ?_; conv => whnf)
        | (intro blk hblk; conv => whnf)
        | fail)
      refine ⟨rfl, (i + 1, a', c'), h1, fun t v h => h, ?_, by dsimp only; omega⟩
      first | exact Imp.refl _ | exact Imp.drop | exact Imp.fin | ((repeat (refine Imp.pick ?_)); first | exact Imp.refl _ | exact Imp.emp _ | exact Imp.fin)
    · have hi' : i = K.length := by omega
      subst hi'
      repeat' (first
        | (refine spl_f (by with_reducible exact ndec_self _) ?_; conv => whnf)
        | (refine spl_f (by with_reducible exact nbeq_self _) ?_; conv => whnf)
        | (refine spl_t (by with_reducible exact beq_self _) ?_; conv => whnf)
        | (refine spl_dec (fun hd => ?_) (fun hd => ?_) <;> first | (exfalso; omega) | (conv => whnf))
        | (refine spl_ndec (fun hd => ?_) (fun hd => ?_) <;> first | (exfalso; omega) | (conv => whnf))
        | (refine spl_intro (fun hd => ?_) (fun hd => ?_) <;> (conv => whnf))
        | (refine Ld.i ?_; conv => whnf)
        | (refine LdN.i ?_; conv => whnf)
        | (refine St.i ⟨rfl, rfl⟩ (List.cons_ne_nil _ _) ?_; conv => whnf)
        | (refine Ar.i64 (by omega) ?_; conv => whnf)
        | (refine Ar.u64 (by omega) ?_; conv => whnf)
        | (refine Ar.i64d (by omega) (by omega) ?_; conv => whnf)
        | (refine Shr.i (by rfl) (by decide) ?_; conv => whnf)
        | (refine Shl.i (by rfl) (by decide) ?_; conv => whnf)
        | (refine Req.mk (by omega) ?_; conv => whnf)
        | (intro blk hblk; conv => whnf)
        | fail)
      rw [List.take_length]
      rw [hout]
      refine ⟨_, _, rfl, ?_, oa, oc, by simp, rfl⟩
      first | exact Imp.refl _ | exact Imp.drop | exact Imp.fin | ((repeat (refine Imp.pick ?_)); first | exact Imp.refl _ | exact Imp.emp _ | exact Imp.fin)
end Go.Proofs.YtacpnjlijjgbmaaGreatDoor
