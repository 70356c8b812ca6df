/- A disk, in plain words: its bytv, its pending writes, how it crashes. No condition. -/
import Derived.Test.YtacpnjlijjgbmaaGreatDoorOps2
namespace Go.SL.Sec
open Go Go.SL
/-- A number brought to 64 bits. -/
def wr (z : Int) : Int := (z + 9223372036854775808) % 18446744073709551616 - 9223372036854775808
theorem wr_of {z : Int} (h : -9223372036854775808 ≤ z ∧ z ≤ 9223372036854775807) : wr z = z := by unfold wr; omega
theorem wr_in (z : Int) : -9223372036854775808 ≤ wr z ∧ wr z ≤ 9223372036854775807 := by unfold wr; omega
def bytv : Int → List Value := one (Value.int .u8)
def u64s : Int → List Value := one (Value.int .u64)
instance : SizedC 1 bytv := ⟨Sized.one _⟩
instance : SizedC 1 u64s := ⟨Sized.one _⟩
theorem bytes_one : ∀ ys : List Int, ∀ v ∈ ys.flatMap bytv, v.oneCell' = true := by
  intro ys v hv
  obtain ⟨d, _, hv⟩ := List.mem_flatMap.1 hv
  simp only [bytv, one, List.mem_cons, List.not_mem_nil, or_false] at hv
  subst hv; rfl
theorem u64s_one : ∀ ys : List Int, ∀ v ∈ ys.flatMap u64s, v.oneCell' = true := by
  intro ys v hv
  obtain ⟨d, _, hv⟩ := List.mem_flatMap.1 hv
  simp only [u64s, one, List.mem_cons, List.not_mem_nil, or_false] at hv
  subst hv; rfl
instance : OneC bytv := ⟨bytes_one⟩
instance : OneC u64s := ⟨u64s_one⟩
instance {z : Int} : DecOf bytv [.int .u8 z] z := ⟨rfl⟩
instance {z : Int} : DecOf u64s [.int .u64 z] z := ⟨rfl⟩
/-- They are bytv. -/
def Byt (l : List Int) : Prop := ∀ b ∈ l, 0 ≤ b ∧ b < 256
theorem Byt.nil : Byt [] := fun b h => (by cases h)
theorem Byt.append {l r : List Int} (h : Byt l) (k : Byt r) : Byt (l ++ r) := fun b hb => (List.mem_append.1 hb).elim (h b) (k b)
theorem Byt.take {l : List Int} (h : Byt l) (n : Nat) : Byt (l.take n) := fun b hb => h b (List.mem_of_mem_take hb)
theorem Byt.drop {l : List Int} (h : Byt l) (n : Nat) : Byt (l.drop n) := fun b hb => h b (List.mem_of_mem_drop hb)
theorem Byt.rep (n : Nat) : Byt (List.replicate n 0) := fun b hb => by obtain rfl := List.eq_of_mem_replicate hb; decide
/-- A disk: its durable bytv; its pending writes; the call that it crashes at (0: none), and with which loss; is it down; how many changing calls. -/
structure Dev where
  img : List Int
  q : List (Int × List Int)
  step : Int
  keep : List Int
  torn : Int
  off : Int
  down : Bool
  calls : Int
/-- The first bytv of a sector become these. -/
def layAt (m : List Int) (i : Int) (b : List Int) : List Int := m.take (i.toNat * 512) ++ b ++ m.drop (i.toNat * 512 + b.length)
theorem layAt_len {m : List Int} {i : Int} {b : List Int} (h : i.toNat * 512 + b.length ≤ m.length) : (layAt m i b).length = m.length := by
  simp [layAt]; omega
def secOf (m : List Int) (i : Int) : List Int := (m.drop (i.toNat * 512)).take 512
/-- A sector's content: of its pending writes the last one. -/
def lastOf (i : Int) : List (Int × List Int) → Option (List Int)
  | [] => none
  | p :: q => match lastOf i q with
    | some b => some b
    | none => if p.1 = i then some p.2 else none
def Dev.at (D : Dev) (i : Int) : List Int := (lastOf i D.q).getD (secOf D.img i)
def keptB (keep : List Int) (k : Nat) : Bool := match keep[k / 64]? with
  | some z => decide (z / 2 ^ (k % 64) % 2 = 1)
  | none => false
/-- What a crash does, from pending write number k on. -/
def fallG (keep : List Int) (torn off : Int) : Nat → List (Int × List Int) → List Int → List Int
  | _, [], m => m
  | k, p :: q, m => fallG keep torn off (k + 1) q (if keptB keep k then layAt m p.1 p.2 else if (k : Int) = torn then layAt m p.1 (p.2.take (min (max off 0) 512).toNat) else m)
def flushG : List (Int × List Int) → List Int → List Int
  | [], m => m
  | p :: q, m => flushG q (layAt m p.1 p.2)
def Dev.fallen (D : Dev) (keep : List Int) (torn off : Int) : Dev := { D with img := fallG keep torn off 0 D.q D.img, q := [], step := 0, keep := [], torn := 0, off := 0, down := true }
/-- One more changing call. -/
def Dev.counted (D : Dev) : Dev := { D with calls := wr (D.calls + 1), step := if D.step = 0 then 0 else D.step - 1 }
def Dev.crashes (D : Dev) : Bool := decide (D.step = 1)
def Dev.secs (D : Dev) : Int := (D.img.length : Int) / 512
def Dev.write (D : Dev) (i : Int) (b : List Int) : Int × Dev :=
  if D.down then (40, D) else if i < 0 ∨ i ≥ D.secs then (41, D) else if b.length ≠ 512 then (42, D) else
  if D.crashes then (40, { D.counted with q := D.q ++ [(i, b)] }.fallen D.keep D.torn D.off) else (0, { D.counted with q := D.q ++ [(i, b)] })
def Dev.sync (D : Dev) : Int × Dev :=
  if D.down then (40, D) else if D.crashes then (40, D.counted.fallen D.keep D.torn D.off) else (0, { D.counted with img := flushG D.q D.img, q := [] })
def Dev.read (D : Dev) (i : Int) : Int × List Int := if D.down then (40, []) else if i < 0 ∨ i ≥ D.secs then (41, []) else (0, D.at i)
def Dev.arm (D : Dev) (step : Int) (keep : List Int) (torn off : Int) : Int × Dev :=
  if D.down then (40, D) else if step < 0 then (4, D) else (0, { D with step := step, keep := keep, torn := torn, off := off })
def Dev.crash (D : Dev) (keep : List Int) (torn off : Int) : Int × Dev := if D.down then (40, D) else (0, D.fallen keep torn off)
def Dev.up (D : Dev) : Dev := { D with down := false, step := 0 }
/-- A right disk: of n sectors. -/
structure Dev.Ok (D : Dev) : Prop where
  len : D.img.length % 512 = 0
  pos : 512 ≤ D.img.length ∧ D.img.length ≤ 4194304
  byt : Byt D.img
  q : ∀ p ∈ D.q, 0 ≤ p.1 ∧ p.1.toNat * 512 + 512 ≤ D.img.length ∧ p.2.length = 512 ∧ Byt p.2
  step : 0 ≤ D.step ∧ D.step ≤ 9223372036854775807
  calls : -9223372036854775808 ≤ D.calls ∧ D.calls ≤ 9223372036854775807
theorem layAt_byt {m : List Int} {i : Int} {b : List Int} (h : Byt m) (k : Byt b) : Byt (layAt m i b) := ((h.take _).append k).append (h.drop _)
theorem fallG_ok {keep : List Int} {torn off : Int} : ∀ (q : List (Int × List Int)) (k : Nat) (m : List Int), (∀ p ∈ q, 0 ≤ p.1 ∧ p.1.toNat * 512 + 512 ≤ m.length ∧ p.2.length = 512 ∧ Byt p.2) → Byt m → (fallG keep torn off k q m).length = m.length ∧ Byt (fallG keep torn off k q m)
  | [], _, _, _, h => ⟨rfl, h⟩
  | p :: q, k, m, hq, hm => by
    obtain ⟨h1, h2, h3, h4⟩ := hq p List.mem_cons_self
    have key : ∀ m' : List Int, m'.length = m.length → Byt m' → (fallG keep torn off (k + 1) q m').length = m.length ∧ Byt (fallG keep torn off (k + 1) q m') := fun m' hl hb => by
      have := fallG_ok (keep := keep) (torn := torn) (off := off) q (k + 1) m' (fun p' hp' => by rw [hl]; exact hq p' (List.mem_cons_of_mem _ hp')) hb
      exact ⟨this.1.trans hl, this.2⟩
    unfold fallG
    split
    · exact key _ (layAt_len (by omega)) (layAt_byt hm h4)
    · split
      · exact key _ (layAt_len (by simp; omega)) (layAt_byt hm (h4.take _))
      · exact key _ rfl hm
theorem flushG_ok : ∀ (q : List (Int × List Int)) (m : List Int), (∀ p ∈ q, 0 ≤ p.1 ∧ p.1.toNat * 512 + 512 ≤ m.length ∧ p.2.length = 512 ∧ Byt p.2) → Byt m → (flushG q m).length = m.length ∧ Byt (flushG q m)
  | [], _, _, h => ⟨rfl, h⟩
  | p :: q, m, hq, hm => by
    obtain ⟨h1, h2, h3, h4⟩ := hq p List.mem_cons_self
    have hl := layAt_len (m := m) (i := p.1) (b := p.2) (by omega)
    have := flushG_ok q (layAt m p.1 p.2) (fun p' hp' => by rw [hl]; exact hq p' (List.mem_cons_of_mem _ hp')) (layAt_byt hm h4)
    exact ⟨this.1.trans hl, this.2⟩
theorem Dev.Ok.fallen {D : Dev} (h : D.Ok) (keep : List Int) (torn off : Int) : (D.fallen keep torn off).Ok := by
  have := fallG_ok (keep := keep) (torn := torn) (off := off) D.q 0 D.img h.q h.byt
  exact ⟨by rw [show (D.fallen keep torn off).img.length = D.img.length from this.1]; exact h.len, by rw [show (D.fallen keep torn off).img.length = D.img.length from this.1]; exact h.pos, this.2, fun p hp => (by cases hp), ⟨Int.le_refl _, by simp [Dev.fallen]⟩, h.calls⟩
theorem Dev.Ok.counted {D : Dev} (h : D.Ok) : D.counted.Ok :=
  ⟨h.len, h.pos, h.byt, h.q, by have := h.step; simp only [Dev.counted]; split <;> omega, wr_in _⟩
theorem Dev.Ok.pushed {D : Dev} (h : D.Ok) {i : Int} {b : List Int} (h1 : ¬ (i < 0 ∨ i ≥ D.secs)) (h2 : b.length = 512) (h3 : Byt b) : ({ D with q := D.q ++ [(i, b)] } : Dev).Ok :=
  ⟨h.len, h.pos, h.byt, fun p hp => by
    rcases List.mem_append.1 hp with hp | hp
    · exact h.q p hp
    · obtain rfl := List.mem_singleton.1 hp
      have := h.len
      simp only [Dev.secs] at h1
      exact ⟨by omega, by show i.toNat * 512 + 512 ≤ D.img.length; omega, h2, h3⟩, h.step, h.calls⟩
theorem Dev.Ok.write {D : Dev} (h : D.Ok) {i : Int} {b : List Int} (hb : Byt b) : (D.write i b).2.Ok := by
  unfold Dev.write
  split
  · exact h
  · split
    · exact h
    · split
      · exact h
      · rename_i h1 h2
        have hp : ({ D.counted with q := D.q ++ [(i, b)] } : Dev).Ok := Dev.Ok.pushed (D := D.counted) h.counted h1 (by omega) hb
        split
        · exact hp.fallen _ _ _
        · exact hp
theorem Dev.Ok.sync {D : Dev} (h : D.Ok) : D.sync.2.Ok := by
  unfold Dev.sync
  split
  · exact h
  · split
    · exact h.counted.fallen _ _ _
    · have := flushG_ok D.q D.img h.q h.byt
      exact ⟨by show (flushG D.q D.img).length % 512 = 0; rw [this.1]; exact h.len, by show _ ≤ (flushG D.q D.img).length ∧ (flushG D.q D.img).length ≤ _; rw [this.1]; exact h.pos, this.2, fun p hp => (by cases hp), h.counted.step, wr_in _⟩
end Go.SL.Sec
