/- Stories (quotaref18's tools), in plain words; they stay right ones; what their records hold fits. No condition. -/
import Derived.Test.YtacpnjlijjgbmaaGreatDoorRecModel
namespace Go.SL.Tld
open Go Go.SL Go.SL.Sec Go.SL.Rec
open Go.SL.Und (RecV recv rec_one fits)
/-- A counter, and where it stands. -/
structure PlaceV where
  id : Int
  grp : Int
  lo : Int
  hi : Int
  val : Int
  wp : Int
  wi : Int
  sp : Int
  si : Int
/-- A transaction that lives. -/
structure OpenV where
  tx : Int
  last : Int
  com : Bool
  nets : List Int
  holds : List Bool
structure Story where
  pages : Int
  R : List RecV
  L : List PlaceV
  G : List (Int × Int)
  I : List Int
  V : List OpenV
  nxt : Int
  S : List Int
abbrev nul : SlV := (none, 0, 0)
/-- Records. -/
def rec1 (kind tx prev : Int) : RecV := ⟨0, kind, tx, prev, 0, 0, 0, 0, 0, 0, 0, 0, 0, 0, nul, nul, 0⟩
def recC (p : PlaceV) : RecV := ⟨0, 2, 0, 0, p.wp, p.wi, p.sp, p.si, 0, p.id, p.grp, p.lo, p.hi, p.val, nul, nul, 0⟩
def recD (kind tx prev : Int) (p : PlaceV) (d : Int) : RecV := ⟨0, kind, tx, prev, p.wp, p.wi, p.sp, p.si, d, p.id, 0, 0, 0, 0, nul, nul, 0⟩
def Story.writes (s : Story) (r : RecV) : Story := { s with R := s.R ++ [{ r with lsn := (s.R.length : Int) + 1 }] }
/-- The last place of g. -/
def lastAt (g : Int) : List Int → Int → Int → Int
  | [], _, acc => acc
  | x :: l, i, acc => lastAt g l (i + 1) (if x = g then i else acc)
/-- The group's place: found, or a new one. -/
def Story.group (s : Story) (g : Int) : Story × (Int × Int) :=
  if lastAt g s.I 0 (-1) < 0 then ({ s with I := s.I ++ [g], G := s.G ++ [(1, (s.I.length : Int))] }, (1, (s.I.length : Int)))
  else (s, (s.G[(lastAt g s.I 0 (-1)).toNat]?).getD (0, 0))
def Story.makes (s : Story) (a d : Int) : Story :=
  let g := 1 + a % 5
  let t := s.group g
  let n : Int := s.L.length
  let even := (s.pages + 1) / 2
  if n / even ≥ 31 then t.1 else
  let p : PlaceV := ⟨n + 1, g, -1099511627776, 1099511627776, d.tmod 1000, 2 * (n % even), n / even, t.2.1, t.2.2⟩
  { t.1 with L := s.L ++ [p], S := s.S ++ [d.tmod 1000] }.writes (recC p)
def setLast (V : List OpenV) (t : Nat) (o : OpenV) (n : Int) : List OpenV := V.set t { o with last := n }
def Story.change (s : Story) (kind : Int) (t k : Nat) (d : Int) : Story := match s.V[t]?, s.L[k]? with
  | some o, some p => { s.writes (recD kind o.tx o.last p d) with V := s.V.set t { o with last := (s.R.length : Int) + 1 } }
  | _, _ => s
/-- One undo, if the counter is held. -/
def Story.undo1 (o : OpenV) (t k : Nat) (s : Story) : Story := if o.holds[k]? = some true then s.change 4 t k ((o.nets[k]?).getD 0) else s
/-- The undos, from the counter k on. -/
def Story.undos (o : OpenV) (t : Nat) : Nat → Nat → Story → Story
  | 0, _, s => s
  | n + 1, k, s => Story.undos o t n (k + 1) (Story.undo1 o t k s)
def addUp : List Int → List Int → List Int
  | x :: l, y :: m => wr (x + y) :: addUp l m
  | l, _ => l
def Story.begins (s : Story) : Story :=
  if s.V.length < 20 then
    { s.writes (rec1 1 s.nxt 0) with V := s.V ++ [⟨s.nxt, (s.R.length : Int) + 1, false, List.replicate 200 0, List.replicate 200 false⟩], nxt := wr (s.nxt + 1) }
  else s
def Story.leave (s : Story) (t : Nat) : Story := { s with V := s.V.take t ++ s.V.drop (t + 1) }
def Story.ends (s : Story) (t : Nat) (o : OpenV) : Story := { s.writes (rec1 7 o.tx o.last) with V := s.V.take t ++ s.V.drop (t + 1) }
def Story.commits (s : Story) (t : Nat) (o : OpenV) : Story :=
  { s.writes (rec1 5 o.tx o.last) with V := s.V.set t { o with last := (s.R.length : Int) + 1, com := true }, S := addUp s.S o.nets }
def Story.aborts (s : Story) (t : Nat) (o : OpenV) : Story :=
  let s1 : Story := { s.writes (rec1 6 o.tx o.last) with V := s.V.set t { o with last := (s.R.length : Int) + 1 } }
  let s2 := Story.undos o t s.L.length 0 s1
  match s2.V[t]? with
  | some o2 => { s2.writes (rec1 7 o.tx o2.last) with V := s2.V.take t ++ s2.V.drop (t + 1) }
  | none => s2
def Story.adds (s : Story) (t : Nat) (o : OpenV) (b d : Int) : Story :=
  let k := (b % s.L.length).toNat
  let s1 := s.change 3 t k (d.tmod 1000)
  match s1.V[t]? with
  | some o1 => { s1 with V := s1.V.set t { o1 with nets := o1.nets.set k (wr ((o.nets[k]?).getD 0 + d.tmod 1000)), holds := o1.holds.set k true } }
  | none => s1
structure DeedV where
  kind : Int
  a : Int
  b : Int
  d : Int
def Story.does (s : Story) (x : DeedV) : Story :=
  let k := x.kind % 10
  if k < 2 then s.makes x.a x.d else if k < 4 then s.begins else if s.V.length = 0 then s else
  let t := (x.a % s.V.length).toNat
  match s.V[t]? with
  | none => s
  | some o => if o.com then s.ends t o else if k = 8 then s.commits t o else if k = 9 then s.aborts t o else if s.L.length > 0 then s.adds t o x.b x.d else s
def told0 (pages : Int) : Story := ⟨pages, [], [], [], [], [], 1, []⟩
def Story.plays (most : Int) : List DeedV → Story → Story
  | [], s => s
  | x :: l, s => if s.L.length < 60 then
      (if ((s.does x).R.length : Int) ≥ most then { s.does x with R := (s.does x).R.take most.toNat } else Story.plays most l (s.does x))
    else s
end Go.SL.Tld
namespace Go.SL.Tld
open Go Go.SL Go.SL.Sec Go.SL.Rec
open Go.SL.Und (RecV recv rec_one fits)
structure Story.Ok (s : Story) : Prop where
  pages : 2 ≤ s.pages ∧ s.pages ≤ 64
  live : s.V.length ≤ 20
  op : ∀ o ∈ s.V, o.nets.length = 200 ∧ o.holds.length = 200
  ll : s.L.length ≤ 60
  sl : s.S.length = s.L.length
  gl : s.G.length = s.I.length
  nd : s.I.Nodup
  grp : ∀ g ∈ s.I, 1 ≤ g ∧ g ≤ 5
theorem nodup_in : ∀ (n : Nat) (a : Int) (l : List Int), l.Nodup → (∀ g ∈ l, a ≤ g ∧ g < a + n) → l.length ≤ n
  | 0, a, l, _, h => by
    cases l with
    | nil => simp
    | cons x l => have := h x List.mem_cons_self; omega
  | n + 1, a, l, hn, h => by
    have hin : ∀ l' : List Int, l'.Nodup → (∀ g ∈ l', g ∈ l ∧ g ≠ a + n) → l'.length ≤ n := fun l' h1 h2 => nodup_in n a l' h1 fun g hg => by
      have h3 := h g (h2 g hg).1
      have h4 := (h2 g hg).2
      omega
    by_cases hx : (a + n) ∈ l
    · have h1 := List.length_erase_of_mem hx
      have h2 := List.length_pos_of_mem hx
      have := hin (l.erase (a + n)) (hn.erase _) fun g hg => by
        have := (hn.mem_erase_iff).1 hg
        exact ⟨this.2, this.1⟩
      omega
    · have := hin l hn fun g hg => ⟨hg, fun e => hx (e ▸ hg)⟩
      omega
theorem nodup_le {l : List Int} (h : l.Nodup) (k : ∀ g ∈ l, 1 ≤ g ∧ g ≤ 5) : l.length ≤ 5 := nodup_in 5 1 l h fun g hg => by have := k g hg; omega
theorem Story.Ok.il {s : Story} (h : s.Ok) : s.I.length ≤ 5 := nodup_le h.nd h.grp
theorem lastAt_bd (g : Int) : ∀ (l : List Int) (i acc : Int), acc < i → -1 ≤ acc → 0 ≤ i → -1 ≤ lastAt g l i acc ∧ lastAt g l i acc < i + l.length
  | [], i, acc, h, k, _ => by simp [lastAt]; omega
  | x :: l, i, acc, h, k, hi => by
    unfold lastAt
    by_cases e : x = g
    · have := lastAt_bd g l (i + 1) i (by omega) (by omega) (by omega)
      rw [if_pos e]; simp only [List.length_cons]; omega
    · have := lastAt_bd g l (i + 1) acc (by omega) k (by omega)
      rw [if_neg e]; simp only [List.length_cons]; omega
theorem lastAt_neg (g : Int) : ∀ (l : List Int) (i acc : Int), 0 ≤ i → (lastAt g l i acc < 0 ↔ acc < 0 ∧ g ∉ l)
  | [], i, acc, _ => by simp [lastAt]
  | x :: l, i, acc, hi => by
    unfold lastAt
    rw [lastAt_neg g l (i + 1) _ (by omega)]
    by_cases e : x = g
    · rw [if_pos e]; simp [e]; omega
    · rw [if_neg e]
      have : g ≠ x := fun h => e h.symm
      simp [this]
theorem Story.Ok.writes {s : Story} (h : s.Ok) (r : RecV) : (s.writes r).Ok := ⟨h.pages, h.live, h.op, h.ll, h.sl, h.gl, h.nd, h.grp⟩
theorem Story.Ok.group {s : Story} (h : s.Ok) {g : Int} (hg : 1 ≤ g ∧ g ≤ 5) : (s.group g).1.Ok := by
  unfold Story.group
  split
  · rename_i hn
    have := (lastAt_neg g s.I 0 (-1) (by omega)).1 hn
    refine ⟨h.pages, h.live, h.op, h.ll, h.sl, ?_, ?_, ?_⟩
    · simp [h.gl]
    · exact List.nodup_append.2 ⟨h.nd, by simp, fun a ha b hb => by simp at hb; subst hb; exact fun e => this.2 (e ▸ ha)⟩
    · intro x hx
      rcases List.mem_append.1 hx with hx | hx
      · exact h.grp x hx
      · obtain rfl := List.mem_singleton.1 hx; exact hg
  · exact h
theorem group_same (s : Story) (g : Int) : (s.group g).1.pages = s.pages ∧ (s.group g).1.R = s.R ∧ (s.group g).1.L = s.L ∧ (s.group g).1.V = s.V ∧ (s.group g).1.nxt = s.nxt ∧ (s.group g).1.S = s.S := by
  unfold Story.group
  split <;> exact ⟨rfl, rfl, rfl, rfl, rfl, rfl⟩
theorem Story.Ok.makes {s : Story} (h : s.Ok) (hl : s.L.length < 60) (a d : Int) : (s.makes a d).Ok := by
  have hg : 1 ≤ 1 + a % 5 ∧ 1 + a % 5 ≤ 5 := by omega
  have h1 := h.group hg
  obtain ⟨e1, e2, e3, e4, e5, e6⟩ := group_same s (1 + a % 5)
  unfold Story.makes
  dsimp only
  split
  · exact h1
  · refine ⟨h1.pages, h1.live, h1.op, ?_, ?_, h1.gl, h1.nd, h1.grp⟩
    · simp [Story.writes]; omega
    · simp [Story.writes, h.sl]
theorem set_mem' {α : Type} {l : List α} {i : Nat} {x y : α} (h : y ∈ l.set i x) : y = x ∨ y ∈ l := (List.mem_or_eq_of_mem_set h).elim .inr .inl
theorem Story.Ok.setV {s : Story} (h : s.Ok) {i : Nat} {o : OpenV} (ho : o.nets.length = 200 ∧ o.holds.length = 200) : ({ s with V := s.V.set i o } : Story).Ok :=
  ⟨h.pages, by simpa using h.live, fun p hp => (set_mem' hp).elim (fun e => e ▸ ho) (h.op p), h.ll, h.sl, h.gl, h.nd, h.grp⟩
theorem Story.Ok.cutV {s : Story} (h : s.Ok) (t : Nat) : ({ s with V := s.V.take t ++ s.V.drop (t + 1) } : Story).Ok :=
  ⟨h.pages, by have := h.live; simp; omega, fun p hp => h.op p ((List.mem_append.1 hp).elim List.mem_of_mem_take List.mem_of_mem_drop), h.ll, h.sl, h.gl, h.nd, h.grp⟩
theorem Story.Ok.change {s : Story} (h : s.Ok) (kind : Int) (t k : Nat) (d : Int) : (s.change kind t k d).Ok := by
  unfold Story.change
  split
  · rename_i o p ho hp
    exact (h.writes _).setV (h.op o (List.mem_of_getElem? ho))
  · exact h
theorem change_same (s : Story) (kind : Int) (t k : Nat) (d : Int) : (s.change kind t k d).pages = s.pages ∧ (s.change kind t k d).L = s.L ∧ (s.change kind t k d).V.length = s.V.length ∧ (s.change kind t k d).R.length ≤ s.R.length + 1 ∧ (s.change kind t k d).S = s.S ∧ (s.change kind t k d).nxt = s.nxt := by
  unfold Story.change
  split
  · simp [Story.writes]
  · simp
theorem Story.Ok.undos {o : OpenV} {t : Nat} : ∀ (n k : Nat) {s : Story}, s.Ok → (Story.undos o t n k s).Ok
  | 0, _, _, h => h
  | n + 1, k, s, h => by
    unfold Story.undos
    refine Story.Ok.undos n (k + 1) ?_
    unfold Story.undo1
    split
    · exact h.change _ _ _ _
    · exact h
theorem undos_same (o : OpenV) (t : Nat) : ∀ (n k : Nat) (s : Story), (Story.undos o t n k s).pages = s.pages ∧ (Story.undos o t n k s).L = s.L ∧ (Story.undos o t n k s).V.length = s.V.length ∧ (Story.undos o t n k s).R.length ≤ s.R.length + n
  | 0, _, s => ⟨rfl, rfl, rfl, Nat.le_refl _⟩
  | n + 1, k, s => by
    unfold Story.undos Story.undo1
    split
    · have h1 := undos_same o t n (k + 1) (s.change 4 t k ((o.nets[k]?).getD 0))
      have h2 := change_same s 4 t k ((o.nets[k]?).getD 0)
      exact ⟨h1.1.trans h2.1, h1.2.1.trans h2.2.1, h1.2.2.1.trans h2.2.2.1, by omega⟩
    · have h1 := undos_same o t n (k + 1) s
      exact ⟨h1.1, h1.2.1, h1.2.2.1, by omega⟩
theorem addUp_len : ∀ l m : List Int, (addUp l m).length = l.length
  | [], _ => by simp [addUp]
  | x :: l, [] => by simp [addUp]
  | x :: l, y :: m => by simp [addUp, addUp_len l m]
theorem Story.Ok.does {s : Story} (h : s.Ok) (hl : s.L.length < 60) (x : DeedV) : (s.does x).Ok := by
  unfold Story.does
  dsimp only
  split
  · exact h.makes hl _ _
  · split
    · unfold Story.begins
      split
      · refine ⟨h.pages, ?_, fun o ho => ?_, h.ll, h.sl, h.gl, h.nd, h.grp⟩
        · simp; omega
        · rcases List.mem_append.1 ho with ho | ho
          · exact h.op o ho
          · obtain rfl := List.mem_singleton.1 ho; exact ⟨List.length_replicate, List.length_replicate⟩
      · exact h
    · split
      · exact h
      · split
        · exact h
        · rename_i o ho
          have hoo := h.op o (List.mem_of_getElem? ho)
          split
          · exact (h.writes _).cutV _
          · split
            · have := (h.writes (rec1 5 o.tx o.last)).setV (i := (x.a % s.V.length).toNat) (o := { o with last := (s.R.length : Int) + 1, com := true }) hoo
              exact ⟨this.pages, this.live, this.op, this.ll, by show (addUp s.S o.nets).length = s.L.length; rw [addUp_len]; exact h.sl, this.gl, this.nd, this.grp⟩
            · split
              · unfold Story.aborts
                dsimp only
                have h1 := (h.writes (rec1 6 o.tx o.last)).setV (i := (x.a % s.V.length).toNat) (o := { o with last := (s.R.length : Int) + 1 }) hoo
                have h2 := Story.Ok.undos (o := o) (t := (x.a % s.V.length).toNat) s.L.length 0 h1
                split
                · exact (h2.writes _).cutV _
                · exact h2
              · split
                · unfold Story.adds
                  dsimp only
                  have h1 := h.change 3 (x.a % s.V.length).toNat (x.b % s.L.length).toNat (x.d.tmod 1000)
                  split
                  · rename_i o1 ho1
                    have := h1.op o1 (List.mem_of_getElem? ho1)
                    exact h1.setV (by simpa using this)
                  · exact h1
                · exact h
theorem does_R (s : Story) (x : DeedV) (hl : s.L.length ≤ 60) : (s.does x).R.length ≤ s.R.length + 62 ∧ (s.does x).pages = s.pages := by
  unfold Story.does
  dsimp only
  split
  · obtain ⟨e1, e2, e3, e4, e5, e6⟩ := group_same s (1 + x.a % 5)
    unfold Story.makes
    dsimp only
    split
    · rw [e2]; exact ⟨by omega, e1⟩
    · simp [Story.writes, e2, e1]
  · split
    · unfold Story.begins
      split
      · simp [Story.writes]
      · simp
    · split
      · simp
      · split
        · simp
        · rename_i o ho
          split
          · simp [Story.ends, Story.writes]
          · split
            · simp [Story.commits, Story.writes]
            · split
              · unfold Story.aborts
                dsimp only
                have h1 := undos_same o (x.a % s.V.length).toNat s.L.length 0 { s.writes (rec1 6 o.tx o.last) with V := s.V.set (x.a % s.V.length).toNat { o with last := (s.R.length : Int) + 1 } }
                simp only [Story.writes, List.length_append, List.length_singleton] at h1 ⊢
                split
                · simp only [List.length_append, List.length_singleton]
                  exact ⟨by omega, h1.1⟩
                · exact ⟨by omega, h1.1⟩
              · split
                · unfold Story.adds
                  dsimp only
                  have h1 := change_same s 3 (x.a % s.V.length).toNat (x.b % s.L.length).toNat (x.d.tmod 1000)
                  split
                  · exact ⟨by show (s.change _ _ _ _).R.length ≤ _; omega, h1.1⟩
                  · exact ⟨by omega, h1.1⟩
                · simp
end Go.SL.Tld
namespace Go.SL.Tld
open Go Go.SL Go.SL.Sec Go.SL.Rec
open Go.SL.Und (RecV recv rec_one fits)
def FitR (r : RecV) : Prop := fits r.id ∧ fits r.delta
structure Story.Fit (s : Story) : Prop where
  r : ∀ r ∈ s.R, FitR r
  l : ∀ p ∈ s.L, fits p.id
  v : ∀ o ∈ s.V, ∀ z ∈ o.nets, fits z
theorem fits0 : fits 0 := by unfold fits; omega
theorem fits_wr (z : Int) : fits (wr z) := wr_in z
theorem fits_mod (d : Int) : fits (d.tmod 1000) := by
  have h1 := Int.tmod_lt_of_pos d (show (0 : Int) < 1000 by decide)
  have h2 := Int.tmod_lt_of_pos (-d) (show (0 : Int) < 1000 by decide)
  rw [Int.neg_tmod] at h2
  unfold fits; omega
theorem Story.Fit.writes {s : Story} (h : s.Fit) {r : RecV} (hr : FitR r) : (s.writes r).Fit :=
  ⟨fun x hx => by
    rcases List.mem_append.1 hx with hx | hx
    · exact h.r x hx
    · obtain rfl := List.mem_singleton.1 hx; exact hr, h.l, h.v⟩
theorem Story.Fit.setV {s : Story} (h : s.Fit) {i : Nat} {o : OpenV} (ho : ∀ z ∈ o.nets, fits z) : ({ s with V := s.V.set i o } : Story).Fit :=
  ⟨h.r, h.l, fun p hp => (set_mem' hp).elim (fun e => e ▸ ho) (h.v p)⟩
theorem Story.Fit.cutV {s : Story} (h : s.Fit) (t : Nat) : ({ s with V := s.V.take t ++ s.V.drop (t + 1) } : Story).Fit :=
  ⟨h.r, h.l, fun p hp => h.v p ((List.mem_append.1 hp).elim List.mem_of_mem_take List.mem_of_mem_drop)⟩
theorem Story.Fit.change {s : Story} (h : s.Fit) (kind : Int) (t k : Nat) {d : Int} (hd : fits d) : (s.change kind t k d).Fit := by
  unfold Story.change
  split
  · rename_i o p ho hp
    exact (h.writes (r := recD kind o.tx o.last p d) ⟨h.l p (List.mem_of_getElem? hp), hd⟩).setV (h.v o (List.mem_of_getElem? ho))
  · exact h
theorem fits_get {l : List Int} (h : ∀ z ∈ l, fits z) (k : Nat) : fits ((l[k]?).getD 0) := by
  cases e : l[k]? with
  | none => exact fits0
  | some z => exact h z (List.mem_of_getElem? e)
theorem Story.Fit.undos {o : OpenV} (ho : ∀ z ∈ o.nets, fits z) {t : Nat} : ∀ (n k : Nat) {s : Story}, s.Fit → (Story.undos o t n k s).Fit
  | 0, _, _, h => h
  | n + 1, k, s, h => by
    unfold Story.undos
    refine Story.Fit.undos ho n (k + 1) ?_
    unfold Story.undo1
    split
    · exact h.change _ _ _ (fits_get ho k)
    · exact h
theorem fit1 (kind tx prev : Int) : FitR (rec1 kind tx prev) := ⟨fits0, fits0⟩
theorem Story.Fit.does {s : Story} (h : s.Fit) (hl : s.L.length < 60) (x : DeedV) : (s.does x).Fit := by
  unfold Story.does
  dsimp only
  split
  · have hg : ∀ g : Int, (s.group g).1.Fit := fun g => by
      unfold Story.group
      split
      · exact ⟨h.r, h.l, h.v⟩
      · exact h
    unfold Story.makes
    dsimp only
    split
    · exact hg _
    · have h1 := hg (1 + x.a % 5)
      have hid : fits ((s.L.length : Int) + 1) := by unfold fits; omega
      have hh : ({ (s.group (1 + x.a % 5)).1 with L := s.L ++ [⟨(s.L.length : Int) + 1, 1 + x.a % 5, -1099511627776, 1099511627776, x.d.tmod 1000, 2 * ((s.L.length : Int) % ((s.pages + 1) / 2)), (s.L.length : Int) / ((s.pages + 1) / 2), (s.group (1 + x.a % 5)).2.1, (s.group (1 + x.a % 5)).2.2⟩], S := s.S ++ [x.d.tmod 1000] } : Story).Fit := ⟨h1.r, fun p hp => ?_, h1.v⟩
      · exact hh.writes (r := recC _) ⟨hid, fits0⟩
      rcases List.mem_append.1 hp with hp | hp
      · exact h.l p hp
      · obtain rfl := List.mem_singleton.1 hp; exact hid
  · split
    · unfold Story.begins
      split
      · have h1 := h.writes (fit1 1 s.nxt 0)
        refine ⟨h1.r, h1.l, fun o ho => ?_⟩
        rcases List.mem_append.1 ho with ho | ho
        · exact h.v o ho
        · obtain rfl := List.mem_singleton.1 ho
          intro z hz
          obtain rfl := List.eq_of_mem_replicate hz
          exact fits0
      · exact h
    · split
      · exact h
      · split
        · exact h
        · rename_i o ho
          have hoo := h.v o (List.mem_of_getElem? ho)
          split
          · exact (h.writes (fit1 7 o.tx o.last)).cutV _
          · split
            · have := (h.writes (fit1 5 o.tx o.last)).setV (i := (x.a % s.V.length).toNat) (o := { o with last := (s.R.length : Int) + 1, com := true }) hoo
              exact ⟨this.r, this.l, this.v⟩
            · split
              · unfold Story.aborts
                dsimp only
                have h1 := (h.writes (fit1 6 o.tx o.last)).setV (i := (x.a % s.V.length).toNat) (o := { o with last := (s.R.length : Int) + 1 }) hoo
                have h2 := Story.Fit.undos (o := o) hoo (t := (x.a % s.V.length).toNat) s.L.length 0 h1
                split
                · rename_i o2 _
                  exact (h2.writes (fit1 7 o.tx o2.last)).cutV _
                · exact h2
              · split
                · unfold Story.adds
                  dsimp only
                  have h1 := h.change 3 (x.a % s.V.length).toNat (x.b % s.L.length).toNat (fits_mod x.d)
                  split
                  · rename_i o1 ho1
                    refine h1.setV fun z hz => ?_
                    rcases set_mem' hz with rfl | hz
                    · exact fits_wr _
                    · exact h1.v o1 (List.mem_of_getElem? ho1) z hz
                  · exact h1
                · exact h
theorem plays_fit (most : Int) : ∀ (l : List DeedV) (s : Story), s.Ok → s.Fit → (Story.plays most l s).Fit
  | [], s, _, h => h
  | x :: l, s, ho, h => by
    unfold Story.plays
    split
    · rename_i hl
      have h1 := h.does hl x
      split
      · exact ⟨fun r hr => h1.r r (List.mem_of_mem_take hr), h1.l, h1.v⟩
      · exact plays_fit most l _ (ho.does hl x) h1
    · exact h
theorem plays_len {most : Nat} : ∀ (l : List DeedV) (s : Story), s.R.length ≤ most → (Story.plays most l s).R.length ≤ most
  | [], s, h => h
  | x :: l, s, h => by
    unfold Story.plays
    split
    · split
      · simp; omega
      · exact plays_len l _ (by omega)
    · exact h
theorem told_fit (pages most : Int) (l : List DeedV) (hp : 2 ≤ pages ∧ pages ≤ 64) : ∀ r ∈ (Story.plays most l (told0 pages)).R, FitR r :=
  (plays_fit most l (told0 pages) ⟨hp, by simp [told0], fun o ho => by simp [told0] at ho, by simp [told0], by simp [told0], by simp [told0], by simp [told0], fun g hg => by simp [told0] at hg⟩ ⟨fun r hr => by simp [told0] at hr, fun p hp => by simp [told0] at hp, fun o ho => by simp [told0] at ho⟩).r
end Go.SL.Tld
