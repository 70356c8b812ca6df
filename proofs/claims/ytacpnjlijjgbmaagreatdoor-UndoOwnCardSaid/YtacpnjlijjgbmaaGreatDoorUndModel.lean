/- What undo.Left computes, in plain words. No condition. -/
import Derived.Test.YtacpnjlijjgbmaaGreatDoorRows2
import Derived.Test.YtacpnjlijjgbmaaGreatDoorKeys
namespace Go.SL.Und

/-- A record of the log. -/
structure RecV where
  lsn : Int
  kind : Int
  tx : Int
  prev : Int
  wp : Int
  wi : Int
  sp : Int
  si : Int
  delta : Int
  id : Int
  grp : Int
  lo : Int
  hi : Int
  val : Int
  lv : SlV
  dt : SlV
  nxt : Int
def recv (r : RecV) : List Value :=
  [.int .i64 r.lsn, .int .i64 r.kind, .int .i64 r.tx, .int .i64 r.prev, .int .i64 r.wp, .int .i64 r.wi, .int .i64 r.sp, .int .i64 r.si, .int .i64 r.delta,
   .int .i64 r.id, .int .i64 r.grp, .int .i64 r.lo, .int .i64 r.hi, .int .i64 r.val, .slice r.lv.1 r.lv.2.1 r.lv.2.2, .slice r.dt.1 r.dt.2.1 r.dt.2.2, .int .i64 r.nxt]
theorem rec_one : ∀ ys : List RecV, ∀ v ∈ ys.flatMap recv, v.oneCell' = true := by
  intro ys v hv
  obtain ⟨d, _, hv⟩ := List.mem_flatMap.1 hv
  simp only [recv, List.mem_cons, List.not_mem_nil, or_false] at hv
  rcases hv with rfl | rfl | rfl | rfl | rfl | rfl | rfl | rfl | rfl | rfl | rfl | rfl | rfl | rfl | rfl | rfl | rfl <;> rfl
instance : SizedC 17 recv := ⟨fun _ => rfl⟩
/-- An undo record of the transaction. -/
def undoR (tx : Int) (r : RecV) (d : Int) : RecV := ⟨0, 4, tx, 0, r.wp, r.wi, r.sp, r.si, d, r.id, 0, 0, 0, 0, (none, 0, 0), (none, 0, 0), 0⟩
def fits (z : Int) : Prop := -9223372036854775808 ≤ z ∧ z ≤ 9223372036854775807
instance (z : Int) : Decidable (fits z) := inferInstanceAs (Decidable (_ ∧ _))
/-- Is that what is held? -/
def sameH (r h : RecV) : Prop := r.delta = h.delta ∧ (r.wp = h.wp ∧ r.wi = h.wi) ∧ (r.sp = h.sp ∧ r.si = h.si)
instance (r h : RecV) : Decidable (sameH r h) := inferInstanceAs (Decidable (_ ∧ _ ∧ _))
/-- What is held, behind one record; or an error. -/
def left1 (tx : Int) (m : List (Int × RecV)) (r : RecV) : Int × List (Int × RecV) :=
  if r.tx ≠ tx then (0, m) else
  if r.kind = 3 then
    (match m.lookup r.id with
     | none => (0, updKV r.id (undoR tx r r.delta) m)
     | some h => if fits (h.delta + r.delta) then (0, updKV r.id (undoR tx r (h.delta + r.delta)) m) else (10, m))
  else if r.kind = 4 then
    (match m.lookup r.id with
     | none => (120, m)
     | some h => if sameH r h then (0, delKV r.id m) else (60, m))
  else if r.kind = 5 then (0, []) else (0, m)
/-- All records: the first error, what is held. -/
def leftG (tx : Int) (m : List (Int × RecV)) : List RecV → Int × List (Int × RecV)
  | [] => (0, m)
  | r :: rs => if (left1 tx m r).1 = 0 then leftG tx (left1 tx m r).2 rs else ((left1 tx m r).1, [])
def recZ : RecV := ⟨0, 0, 0, 0, 0, 0, 0, 0, 0, 0, 0, 0, 0, 0, (none, 0, 0), (none, 0, 0), 0⟩
/-- What is held, by counter. -/
def outR (m : List (Int × RecV)) : List RecV := (sortI (m.map (·.1))).map fun k => (m.lookup k).getD recZ
/-- Left: the error, and the list. -/
def leftF (rs : List RecV) (tx : Int) : Int × List RecV :=
  if tx < 1 ∨ tx > 2147483647 then (130, []) else if (leftG tx [] rs).1 = 0 then (0, outR (leftG tx [] rs).2) else ((leftG tx [] rs).1, [])
/-- Each record lies under its counter's number. -/
def KeyOk (m : List (Int × RecV)) : Prop := (∀ p ∈ m, p.2.id = p.1) ∧ (m.map (·.1)).Nodup
theorem updKV_mem {k : Int} {v : RecV} {p : Int × RecV} : ∀ {m : List (Int × RecV)}, p ∈ updKV k v m → p = (k, v) ∨ p ∈ m
  | [], h => by simpa [updKV] using h
  | q :: m, h => by
    by_cases e : k = q.1
    · rw [updKV, if_pos e] at h
      rcases List.mem_cons.1 h with h | h
      · exact .inl h
      · exact .inr (List.mem_cons_of_mem _ h)
    · rw [updKV, if_neg e] at h
      rcases List.mem_cons.1 h with h | h
      · exact .inr (h ▸ List.mem_cons_self)
      · rcases updKV_mem h with h | h
        · exact .inl h
        · exact .inr (List.mem_cons_of_mem _ h)
theorem KeyOk.nil : KeyOk [] := ⟨fun _ h => (by cases h), List.nodup_nil⟩
theorem KeyOk.upd {m : List (Int × RecV)} (h : KeyOk m) (r : RecV) : KeyOk (updKV r.id r m) := by
  refine ⟨fun p hp => ?_, upd_nodup _ _ _ h.2⟩
  rcases updKV_mem hp with rfl | hp
  · rfl
  · exact h.1 p hp
theorem KeyOk.del {m : List (Int × RecV)} (h : KeyOk m) (k : Int) : KeyOk (delKV k m) :=
  ⟨fun p hp => h.1 p (List.mem_filter.1 hp).1, del_nodup _ _ h.2⟩
theorem left1_ok {tx : Int} {m : List (Int × RecV)} (r : RecV) (h : KeyOk m) : KeyOk (left1 tx m r).2 := by
  unfold left1
  split
  · exact h
  · split
    · split
      · exact h.upd (undoR tx r r.delta)
      · split
        · exact h.upd (undoR tx r _)
        · exact h
    · split
      · split
        · exact h
        · split
          · exact h.del _
          · exact h
      · split
        · exact KeyOk.nil
        · exact h
theorem updKV_len (k : Int) (v : RecV) : ∀ m : List (Int × RecV), (updKV k v m).length ≤ m.length + 1
  | [] => by simp [updKV]
  | q :: m => by
    by_cases e : k = q.1
    · simp [updKV, e]
    · have := updKV_len k v m
      simp [updKV, e]; omega
theorem left1_len {tx : Int} {m : List (Int × RecV)} (r : RecV) : (left1 tx m r).2.length ≤ m.length + 1 := by
  unfold left1
  split
  · simp
  · split
    · split
      · exact updKV_len _ _ _
      · split
        · exact updKV_len _ _ _
        · simp
    · split
      · split
        · simp
        · split
          · have := List.length_filter_le (fun p : Int × RecV => !decide (p.1 = r.id)) m
            simp only [delKV]; omega
          · simp
      · split
        · simp
        · simp
end Go.SL.Und
