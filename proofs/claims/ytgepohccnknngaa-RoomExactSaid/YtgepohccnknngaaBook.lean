/- The statements' own list of transactions: what it holds in memory, and what its functions do. No condition. -/
import Derived.Test.YtgepohccnknngaaRoomLaw
import Derived.Test.YtgepohccnknngaaVecOps
namespace Go.Proofs.Ytgepohccnknngaa
open Go Go.SL
set_option pp.maxSteps 400

/-- Where x first stands. -/
def posN (x : Int) : List Int → Option Nat
  | [] => none
  | y :: l => if y = x then some 0 else (posN x l).map (· + 1)
def posI (x : Int) (l : List Int) : Int := match posN x l with
  | some i => i
  | none => -1
theorem posI_of {x : Int} {l : List Int} {i : Nat} (h : posN x l = some i) : posI x l = (i : Int) := by rw [posI, h]
theorem posI_no {x : Int} {l : List Int} (h : posN x l = none) : posI x l = -1 := by rw [posI, h]
theorem posN_at (x : Int) : ∀ (l : List Int) (i : Nat), (∀ j < i, l[j]? ≠ some x) → l[i]? = some x → posN x l = some i
  | [], _, _, h => by simp at h
  | y :: l, 0, _, h => by simp at h; simp [posN, h]
  | y :: l, i + 1, hlt, h => by
    have h0 : y ≠ x := fun e => hlt 0 (by omega) (by simp [e])
    have := posN_at x l i (fun j hj => by have := hlt (j + 1) (by omega); simpa using this) (by simpa using h)
    simp [posN, h0, this]
theorem posN_none (x : Int) : ∀ (l : List Int), (∀ j < l.length, l[j]? ≠ some x) → posN x l = none
  | [], _ => rfl
  | y :: l, h => by
    have h0 : y ≠ x := fun e => h 0 (by simp) (by simp [e])
    have := posN_none x l (fun j hj => by have := h (j + 1) (by simpa using hj); simpa using this)
    simp [posN, h0, this]
theorem posN_some {x : Int} : ∀ {l : List Int} {i : Nat}, posN x l = some i → l[i]? = some x
  | [], _, h => by cases h
  | y :: l, i, h => by
    simp only [posN] at h
    split at h
    · rename_i e; cases h; simp [e]
    · cases hp : posN x l with
      | none => rw [hp] at h; cases h
      | some k => rw [hp] at h; cases h; simpa using posN_some hp
theorem posN_none_iff {x : Int} : ∀ {l : List Int}, posN x l = none ↔ x ∉ l
  | [] => by simp [posN]
  | y :: l => by
    have := posN_none_iff (x := x) (l := l)
    simp only [posN]
    split
    · rename_i e; simp [e]
    · rename_i e; simp [this, Ne.symm e]

theorem place_spec {W : World} {H R : HProp} {a : Option Addr} {n cap : Nat} {xs : List Int} {x : Int} (ht : Take H (vec t_int 1 ints a cap xs) R) (hn : n = xs.length) (hb : xs.length ≤ 4611686018427387904) :
    Does prog W f_quotalaw15_place ⟨[.slice a n cap, .int .i64 x]⟩ H (Ret fun v G => v = .int .i64 (posI x xs) ∧ G = H) := by
  have he := ht.eq
  subst he hn
  refine f_quotalaw15_place.does _ _ ?_
  conv => whnf
  refine LoopK.intro tab_ok (L := f_quotalaw15_place.live) (ι := Nat) (fun i => i ≤ xs.length ∧ ∀ j < i, xs[j]? ≠ some x)
    (fun i => [(0, .slice a xs.length cap), (1, .int .i64 x), (5, .int .i64 i)]) (fun _ => vec t_int 1 ints a cap xs • R)
    (fun i => xs.length - i) 0 ⟨by simp, by simp⟩ (fun t v h => h) (Imp.refl _) ?_
  rintro i ⟨hi, hlt⟩
  conv => whnf
  refine spl_intro (fun h1 => ?_) (fun h1 => ?_)
  · have h1' : i < xs.length := by simpa using h1
    obtain ⟨y, hy⟩ : ∃ y, xs[i]? = some y := ⟨_, List.getElem?_eq_getElem h1'⟩
    conv => whnf
    refine IxS.v (i := i) rfl rfl h1' (fun b off ha => ?_)
    conv => whnf
    subst ha
    conv => whnf
    refine Ld.v0 hy rfl ?_
    conv => whnf
    refine spl_intro (fun h2 => ?_) (fun h2 => ?_)
    · have h2' : y = x := by simpa using h2
      conv => whnf
      have e : posI x xs = i := by rw [posI, posN_at x xs i hlt (by rw [hy, h2'])]
      rw [e]; exact Ret.eq rfl (Imp.refl _)
    · have h2' : ¬ y = x := by simpa using h2
      conv => whnf
      refine Ar.i64 (by omega) ?_
      conv => whnf
      refine ⟨rfl, i + 1, ⟨by omega, fun j hj => ?_⟩, fun t v h => h, Imp.refl _, by omega⟩
      by_cases e : j = i
      · subst e; rw [hy]; simpa using h2'
      · exact hlt j (by omega)
  · conv => whnf
    have h1' : i = xs.length := by simp at h1; omega
    subst h1'
    have e : posI x xs = -1 := by rw [posI, posN_none x xs hlt]
    rw [e]; exact Ret.eq rfl (Imp.refl _)

theorem ints_one (ys : List Int) : ∀ v ∈ ys.flatMap ints, v.oneCell' = true := by
  intro v hv
  obtain ⟨z, _, hz⟩ := List.mem_flatMap.1 hv
  have : v = .int .i64 z := by simpa [ints, one] using hz
  subst this; rfl
theorem without_spec {W : World} {H R : HProp} {a : Option Addr} {n cap : Nat} {xs : List Int} {i : Nat} (ht : Take H (vec t_int 1 ints a cap xs) R) (hn : n = xs.length) (hi : i < xs.length) (hb : xs.length ≤ 1073741824) :
    Does prog W f_quotalaw15_without ⟨[.slice a n cap, .int .i64 i]⟩ H (Ret fun v G => ∃ a' cap', v = .slice a' (xs.eraseIdx i).length cap' ∧ G = (vec t_int 1 ints a' cap' (xs.eraseIdx i) • H)) := by
  have he := ht.eq
  subst he hn
  refine Does.learn (p := xs.length ≤ cap) (fun w hs => vec_len hs) fun hcap => ?_
  refine f_quotalaw15_without.does _ _ ?_
  conv => whnf
  refine OpX.of_quiet (OpQ.slh tab_ok rfl rfl rfl rfl ⟨by omega, by omega⟩ ?_)
  conv => whnf
  refine OpX.appendNil tab_ok ints (Sized.one _) ints_one rfl rfl rfl rfl rfl rfl (fun k h => by cases h) rfl rfl (xs.take i) (Src.take (Sized.one _) .here (by omega)) (by simp; omega) (by simp; omega) fun a1 cap1 => ?_
  conv => whnf
  refine Ar.i64 (by omega) ?_
  conv => whnf
  refine OpX.of_quiet (OpQ.sll tab_ok rfl rfl rfl rfl ⟨by omega, by omega⟩ ?_)
  conv => whnf
  have hsrc : ∀ w, Sat W (vec t_int 1 ints a1 cap1 (xs.take i) • vec t_int 1 ints a cap xs • R) w → _ := fun w hw => Src.drop (P := prog) (i := i + 1) (n := xs.length) (sz := 1) (enc := ints) (Sized.one _) (VecAt.there .here) rfl (by omega) w hw
  refine OpX.append tab_ok (Sized.one _) ints_one rfl rfl rfl rfl rfl rfl (fun k h => by cases h) rfl (by simp; omega) rfl (ys := xs.drop (i + 1)) hsrc (by simp) .here (by simp; omega) fun a2 cap2 => ?_
  conv => whnf
  rw [← List.eraseIdx_eq_take_drop_succ]
  refine ⟨_, _, rfl, Imp.refl _, a2, cap2, ?_, rfl⟩
  rw [List.length_eraseIdx, if_pos hi]
  congr 1; omega

structure BTx where
  num : Int
  cs : List Int
  com : Bool
  und : Bool
abbrev BRow := BTx × (Option Addr × Nat)
def btx (r : BRow) : List Value := [.int .i64 r.1.num, .slice r.2.1 r.1.cs.length r.2.2, .bool r.1.com, .bool r.1.und]
instance : SizedC 4 btx := ⟨fun _ => rfl⟩
def bcs (r : BRow) : HProp := vec t_int 1 ints r.2.1 r.2.2 r.1.cs
def bookc (b : Nat) (B : List BTx) : HProp := ex fun sa : Option Addr => ex fun sc : Nat => ex fun l : List BRow => SL.pure (l.map (·.1) = B) •
  pts b (.cells ⟨[.slice sa l.length sc]⟩ t_quotalaw15_Book) • vec t_quotalaw15_Tx 4 btx sa sc l • bigL bcs l

theorem book_open {W : World} {H R : HProp} {b : Nat} {B : List BTx} {f : FuncId} {args : Array Value} {Q : Ending → HProp → Prop} (ht : Take H (bookc b B) R)
    (k : ∀ sa sc (l : List BRow), l.map (·.1) = B → Does prog W f args (pts b (.cells ⟨[.slice sa l.length sc]⟩ t_quotalaw15_Book) • vec t_quotalaw15_Tx 4 btx sa sc l • bigL bcs l • R) Q) : Does prog W f args H Q := by
  rw [ht.eq]
  unfold bookc
  refine Does.ex fun sa => Does.ex fun sc => Does.ex fun l => ?_
  rw [star_assoc]
  refine Does.pure fun hB => ?_
  rw [star_assoc, star_assoc]
  exact k sa sc l hB
theorem book_shut {H R : HProp} {b : Nat} {B : List BTx} (sa : Option Addr) (sc : Nat) (l : List BRow) (hB : l.map (·.1) = B)
    (h : Imp H (pts b (.cells ⟨[.slice sa l.length sc]⟩ t_quotalaw15_Book) • vec t_quotalaw15_Tx 4 btx sa sc l • bigL bcs l • R)) : Imp H (bookc b B • R) :=
  Imp.exi sa (Imp.exi sc (Imp.exi l (Imp.assoc (Imp.purei hB (Imp.assoc (h.trans (Imp.right (Ent.of_eq (star_assoc _ _ _).symm).imp)))))))

theorem at_spec {W : World} {H R1 R2 : HProp} {b : Nat} {sa : Option Addr} {sc : Nat} {l : List BRow} {tx : Int} [PtsC H b (.cells ⟨[.slice sa l.length sc]⟩ t_quotalaw15_Book) R1] [VecC H sa t_quotalaw15_Tx 4 btx sc l R2]
    (hb : l.length ≤ 4611686018427387904) :
    Does prog W f_quotalaw15_Book_at ⟨[ptr b, .int .i64 tx]⟩ H (Ret fun v G => v = .int .i64 (posI tx (l.map fun r => r.1.num)) ∧ G = H) := by
  refine f_quotalaw15_Book_at.does _ _ ?_
  conv => whnf
  refine LoopK.intro tab_ok (L := f_quotalaw15_Book_at.live) (ι := Nat) (fun i => i ≤ l.length ∧ ∀ j < i, (l.map fun r => r.1.num)[j]? ≠ some tx)
    (fun i => [(0, ptr b), (1, .int .i64 tx), (5, .int .i64 i)]) (fun _ => H)
    (fun i => l.length - i) 0 ⟨by simp, by simp⟩ (fun t v h => h) (Imp.refl _) ?_
  rintro i ⟨hi, hlt⟩
  conv => whnf
  refine Ld.i ?_
  conv => whnf
  refine spl_intro (fun h1 => ?_) (fun h1 => ?_)
  · have h1' : i < l.length := by simpa using h1
    obtain ⟨y, hy⟩ : ∃ y, l[i]? = some y := ⟨_, List.getElem?_eq_getElem h1'⟩
    conv => whnf
    refine Ld.i ?_
    conv => whnf
    refine IxS.v (i := i) rfl rfl h1' (fun b off ha => ?_)
    conv => whnf
    subst ha
    conv => whnf
    refine Ld.v0 hy rfl ?_
    conv => whnf
    refine spl_intro (fun h2 => ?_) (fun h2 => ?_)
    · have h2' : y.1.num = tx := by simpa using h2
      conv => whnf
      have e : posI tx (l.map fun r => r.1.num) = i := by rw [posI, posN_at tx _ i hlt (by simp [hy, h2'])]
      rw [e]; exact Ret.eq rfl (Imp.refl _)
    · have h2' : ¬ y.1.num = tx := by simpa using h2
      conv => whnf
      refine Ar.i64 (by omega) ?_
      conv => whnf
      refine ⟨rfl, i + 1, ⟨by omega, fun j hj => ?_⟩, fun t v h => h, Imp.refl _, by omega⟩
      by_cases e : j = i
      · subst e; simpa [hy] using h2'
      · exact hlt j (by omega)
  · conv => whnf
    have h1' : i = l.length := by simp at h1; omega
    subst h1'
    have e : posI tx (l.map fun r => r.1.num) = -1 := by rw [posI, posN_none tx _ (by simpa using hlt)]
    rw [e]; exact Ret.eq rfl (Imp.refl _)

structure OpV where
  kind : Int
  two : Bool
  tx : Int
  counter : Int
  what : Int
  free : Int
  more : Int
def opv (o : OpV) : List Value := [.int .i64 o.kind, .bool o.two, .int .i64 o.tx, .int .i64 o.counter, .int .i64 o.what, .int .i64 o.free, .int .i64 o.more]
def BTx.owes (t : BTx) : Int := if t.com = true then 1 else if t.und = true then 1 + t.cs.length else 2 + t.cs.length
theorem owes_spec {W : World} {H : HProp} {r : BRow} (hb : r.1.cs.length ≤ 1073741824) :
    Does prog W f_quotalaw15_Tx_owes ⟨[.agg ⟨[.int .i64 r.1.num, .slice r.2.1 r.1.cs.length r.2.2, .bool r.1.com, .bool r.1.und]⟩]⟩ H (Ret fun v G => v = .int .i64 r.1.owes ∧ G = H) := by
  refine f_quotalaw15_Tx_owes.does _ ?_
  conv => whnf
  intro ob hob
  conv => whnf
  refine Ld.i ?_
  conv => whnf
  refine spl_intro (fun h1 => ?_) (fun h1 => ?_)
  · conv => whnf
    have e : r.1.owes = 1 := by simp [BTx.owes, h1]
    rw [e]; exact Ret.eq rfl Imp.drop
  · conv => whnf
    refine Ld.i ?_
    conv => whnf
    refine spl_intro (fun h2 => ?_) (fun h2 => ?_)
    · conv => whnf
      refine Ld.i ?_
      conv => whnf
      refine Ar.i64 (by omega) ?_
      conv => whnf
      have e : r.1.owes = 1 + r.1.cs.length := by simp [BTx.owes, h1, h2]
      rw [e]; exact Ret.eq rfl Imp.drop
    · conv => whnf
      refine Ld.i ?_
      conv => whnf
      refine Ar.i64 (by omega) ?_
      conv => whnf
      have e : r.1.owes = 2 + r.1.cs.length := by simp [BTx.owes, h1, h2]
      rw [e]; exact Ret.eq rfl Imp.drop
end Go.Proofs.Ytgepohccnknngaa
