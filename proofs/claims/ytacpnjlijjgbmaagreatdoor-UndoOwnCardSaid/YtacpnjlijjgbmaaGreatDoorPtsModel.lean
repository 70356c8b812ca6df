/- What the points' functions compute, in plain words. No condition. -/
import Derived.Test.YtacpnjlijjgbmaaGreatDoorWalk
import Derived.Test.YtacpnjlijjgbmaaGreatDoorKeys
namespace Go.SL.Pts

/-- A dirty page: its number, its record. -/
abbrev DirtyV := Int × Int
/-- A live transaction: number, last record, committed, undoing. -/
structure LiveV where
  tx : Int
  last : Int
  com : Bool
  und : Bool
  deriving DecidableEq
def lmin (m : Int) : List DirtyV → Int
  | [] => m
  | d :: r => lmin (if d.2 < m then d.2 else m) r
/-- The least record. -/
def leastD : List DirtyV → Int
  | [] => 0
  | d :: r => lmin d.2 r
/-- since: the error, and the map. -/
def sinceF (m : List (Int × Int)) : List DirtyV → Int × List (Int × Int)
  | [] => (0, m)
  | d :: r => if d.1 < 0 ∨ d.1 ≥ 64 then (4, m) else if d.2 < 1 ∨ d.2 > 2147483647 then (23, m) else
    sinceF (match m.lookup d.1 with | none => updKV d.1 d.2 m | some w => if d.2 < w then updKV d.1 d.2 m else m) r
/-- Merge: the error, and the list. -/
def mergeF (xs ys : List DirtyV) : Int × List DirtyV :=
  if (sinceF [] xs).1 ≠ 0 then ((sinceF [] xs).1, []) else if (sinceF (sinceF [] xs).2 ys).1 ≠ 0 then ((sinceF (sinceF [] xs).2 ys).1, []) else
    (0, (sortI ((sinceF (sinceF [] xs).2 ys).2.map (·.1))).map fun p => (p, ((sinceF (sinceF [] xs).2 ys).2.lookup p).getD 0))
theorem updKV_mem {k v : Int} {p : Int × Int} : ∀ {m : List (Int × Int)}, p ∈ updKV k v m → p = (k, v) ∨ p ∈ m
  | [], h => by simpa [updKV] using h
  | q :: m, h => by
    by_cases e : k = q.1
    · rw [updKV, if_pos e] at h
      rcases List.mem_cons.1 h with h | h
      · exact .inl h
      · exact .inr (List.mem_cons_of_mem _ h)
    · rw [updKV, if_neg e] at h
      rcases List.mem_cons.1 h with h | h
      · exact .inr (h ▸ List.mem_cons_self)
      · rcases updKV_mem h with h | h
        · exact .inl h
        · exact .inr (List.mem_cons_of_mem _ h)
theorem updKV_len (k v : Int) : ∀ m : List (Int × Int), (updKV k v m).length ≤ m.length + 1
  | [] => by simp [updKV]
  | q :: m => by
    by_cases e : k = q.1
    · simp [updKV, e]
    · have := updKV_len k v m
      simp [updKV, e]; omega
/-- Each page and each record is such as it may be. -/
def OkM (m : List (Int × Int)) : Prop := ∀ p ∈ m, (0 ≤ p.1 ∧ p.1 < 64) ∧ 1 ≤ p.2 ∧ p.2 ≤ 2147483647
theorem sinceF_ok : ∀ (xs : List DirtyV) (m : List (Int × Int)), OkM m → OkM (sinceF m xs).2 ∧ (sinceF m xs).2.length ≤ m.length + xs.length
  | [], m, h => ⟨h, by simp [sinceF]⟩
  | d :: r, m, h => by
    rw [sinceF]
    split
    · exact ⟨h, by simp⟩
    · split
      · exact ⟨h, by simp⟩
      · have hu : OkM (updKV d.1 d.2 m) := fun p hp => by
          rcases updKV_mem hp with rfl | hp
          · exact ⟨by dsimp only; omega, by dsimp only; omega⟩
          · exact h p hp
        have hl := updKV_len d.1 d.2 m
        split
        · obtain ⟨h1, h2⟩ := sinceF_ok r _ hu
          exact ⟨h1, by simp only [List.length_cons]; omega⟩
        · split
          · obtain ⟨h1, h2⟩ := sinceF_ok r _ hu
            exact ⟨h1, by simp only [List.length_cons]; omega⟩
          · obtain ⟨h1, h2⟩ := sinceF_ok r _ h
            exact ⟨h1, by simp only [List.length_cons]; omega⟩
/-- A checkpoint's live ones. -/
def cpLive (next lsn : Int) : Int → List LiveV → Bool
  | _, [] => true
  | last, x :: r => if x.tx ≤ last ∨ x.tx ≥ next ∨ ¬ (1 ≤ x.last ∧ x.last ≤ 2147483647) ∨ ¬ (lsn = 0 ∨ x.last < lsn) then false else if x.com = true ∧ x.und = true then false else cpLive next lsn x.tx r
/-- A checkpoint's dirty pages. -/
def cpDirty (lsn : Int) : Int → List DirtyV → Bool
  | _, [] => true
  | page, x :: r => if x.1 ≤ page ∨ x.1 ≥ 64 ∨ ¬ (1 ≤ x.2 ∧ x.2 ≤ 2147483647) ∨ ¬ (lsn = 0 ∨ x.2 < lsn) then false else cpDirty lsn x.1 r
def cpF (next lsn : Int) (lv : List LiveV) (dv : List DirtyV) : Bool :=
  if ¬ (1 ≤ next ∧ next ≤ 2147483648) ∨ lv.length > 32 ∨ dv.length > 16 then false else cpLive next lsn 0 lv && cpDirty lsn (-1) dv
end Go.SL.Pts
