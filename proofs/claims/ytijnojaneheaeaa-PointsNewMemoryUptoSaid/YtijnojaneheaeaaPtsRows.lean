/- Rows of rows of dirty pages. No condition. -/
import Derived.Test.YtijnojaneheaeaaPtsLaw2
import Derived.Test.YtijnojaneheaeaaPtsArgs
import Derived.Test.YtijnojaneheaeaaRows2
import Derived.Test.YtijnojaneheaeaaDec
namespace Go.Proofs.Ytijnojaneheaeaa
open Go Go.SL Go.SL.Pts
/-- A row: where it lies, its room, what it holds. -/
structure RowV where
  a : Option Addr
  cap : Nat
  xs : List DirtyV
def rv (r : RowV) : List Value := [.slice r.a r.xs.length r.cap]
instance : SizedC 1 rv := ⟨fun _ => rfl⟩
theorem rv_one : ∀ ys : List RowV, ∀ v ∈ ys.flatMap rv, v.oneCell' = true := by
  intro ys v hv
  obtain ⟨d, _, hv⟩ := List.mem_flatMap.1 hv
  simp only [rv, List.mem_cons, List.not_mem_nil, or_false] at hv
  subst hv; rfl
def rowc (r : RowV) : HProp := vec t_api_Dirty 2 dirtyv r.a r.cap r.xs
class MemC {α : Type} (l : List α) (x : α) : Prop where h : x ∈ l
theorem bigL_mem {α : Type} (f : α → HProp) {l : List α} {x : α} (h : x ∈ l) : ∃ R, bigL f l = (f x • R) := by
  obtain ⟨i, hi⟩ := List.getElem?_of_mem h
  exact ⟨_, bigL_take f l i x hi⟩
instance (priority := 100) RowC.big {W : World} {R : HProp} {l : List RowV} {r : RowV} [m : MemC l r] : RowC W (bigL rowc l • R) r.a 2 dirtyv r.xs := by
  obtain ⟨R', e⟩ := bigL_mem rowc m.h
  rw [e, star_assoc]
  exact RowC.here (s := ⟨sized_dirty⟩)
theorem bigL_snoc {α : Type} (f : α → HProp) (l : List α) (x : α) : bigL f (l ++ [x]) = (f x • bigL f l) := by
  rw [bigL_append, star_comm]
  show ((f x • emp) • bigL f l) = _
  rw [star_emp]
/-- A row made longer, and what it was. -/
structure MoreV where
  r : RowV
  a : Option Addr
  cap : Nat
  x : DirtyV
def mv (m : MoreV) : List Value := [.slice m.a (m.r.xs.length + 1) m.cap]
instance : SizedC 1 mv := ⟨fun _ => rfl⟩
theorem mv_one : ∀ ys : List MoreV, ∀ v ∈ ys.flatMap mv, v.oneCell' = true := by
  intro ys v hv
  obtain ⟨d, _, hv⟩ := List.mem_flatMap.1 hv
  simp only [mv, List.mem_cons, List.not_mem_nil, or_false] at hv
  subst hv; rfl
def morec (m : MoreV) : HProp := appc t_api_Dirty 2 dirtyv m.r.a m.r.cap m.r.xs m.a m.cap m.x
class MemN (l : List MoreV) (a : Option Addr) (xs : outParam (List DirtyV)) : Prop where h : ∃ m ∈ l, m.a = a ∧ m.r.xs ++ [m.x] = xs
class MemO (l : List MoreV) (a : Option Addr) (xs : outParam (List DirtyV)) : Prop where h : ∃ m ∈ l, m.r.a = a ∧ m.r.xs = xs
instance (priority := 100) RowC.bigNew {W : World} {R : HProp} {l : List MoreV} {a : Option Addr} {xs : List DirtyV} [i : MemN l a xs] : RowC W (bigL morec l • R) a 2 dirtyv xs := by
  obtain ⟨m, hm, rfl, rfl⟩ := i.h
  obtain ⟨R', e⟩ := bigL_mem morec hm
  rw [e, star_assoc]
  exact RowC.appNew sized_dirty
instance (priority := 99) RowC.bigOld {W : World} {R : HProp} {l : List MoreV} {a : Option Addr} {xs : List DirtyV} [i : MemO l a xs] : RowC W (bigL morec l • R) a 2 dirtyv xs := by
  obtain ⟨m, hm, rfl, rfl⟩ := i.h
  obtain ⟨R', e⟩ := bigL_mem morec hm
  rw [e, star_assoc]
  exact RowC.appOld sized_dirty
theorem merged_as {W : World} {R : HProp} {a b : Option Addr} {n n' cap cap' : Nat} {xs ys : List DirtyV} (f : Int → Option Int) [c : RowC W R a 2 dirtyv xs] [d : RowC W R b 2 dirtyv ys] (hx : OkM xs) (hy : OkM ys) (hf : ∀ k, mn (mAt k xs) (mAt k ys) = f k) (hb : xs.length + ys.length ≤ 1000000) (hn : n = xs.length) (hn' : n' = ys.length) :
    Does prog W f_quotalaw16_merged ⟨[.slice a n cap, .slice b n' cap']⟩ R (Ret fun v G => ∃ a' cap', v = .slice a' (outL f).length cap' ∧ G = (vec t_api_Dirty 2 dirtyv a' cap' (outL f) • R)) := by
  have h := merged_spec (W := W) (R := R) (a := a) (b := b) (cap := cap) (cap' := cap') hn hn' hb hx hy
  have e : (outL fun k => mAt k (xs ++ ys)) = outL f := outL_congr fun k _ => by rw [mAt_append]; exact hf k
  rwa [e] at h
end Go.Proofs.Ytijnojaneheaeaa
