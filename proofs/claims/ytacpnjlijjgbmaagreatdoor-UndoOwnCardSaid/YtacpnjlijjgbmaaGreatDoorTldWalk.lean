/- Stories (quotaref18's tools), walked. Conditions: in each statement. -/
import Derived.Test.YtacpnjlijjgbmaaGreatDoorTldModel
import Derived.Test.YtacpnjlijjgbmaaGreatDoorPart
import Derived.Test.YtacpnjlijjgbmaaGreatDoorTabEq
namespace Go.SL.Tld
open Go Go.SL Go.SL.Sec Go.SL.Rec
open Go.SL.Und (RecV recv rec_one fits)
def bls : Bool → List Value := one Value.bool
instance : SizedC 1 bls := ⟨Sized.one _⟩
theorem ints_one : ∀ ys : List Int, ∀ v ∈ ys.flatMap ints, v.oneCell' = true := by
  intro ys v hv
  obtain ⟨d, _, hv⟩ := List.mem_flatMap.1 hv
  simp only [ints, one, List.mem_cons, List.not_mem_nil, or_false] at hv
  subst hv; rfl
theorem bls_one : ∀ ys : List Bool, ∀ v ∈ ys.flatMap bls, v.oneCell' = true := by
  intro ys v hv
  obtain ⟨d, _, hv⟩ := List.mem_flatMap.1 hv
  simp only [bls, one, List.mem_cons, List.not_mem_nil, or_false] at hv
  subst hv; rfl
instance : OneC ints := ⟨ints_one⟩
instance : OneC bls := ⟨bls_one⟩
instance {z : Int} : DecOf ints [.int .i64 z] z := ⟨rfl⟩
instance {z : Bool} : DecOf bls [.bool z] z := ⟨rfl⟩
def slotv (s : Int × Int) : List Value := [.int .i64 s.1, .int .i64 s.2]
instance : SizedC 2 slotv := ⟨fun _ => rfl⟩
instance {s : Int × Int} : LitL (slotv s) [.int .i64 s.1, .int .i64 s.2] := ⟨rfl⟩
instance {a b : Int} : DecOf slotv [.int .i64 a, .int .i64 b] (a, b) := ⟨rfl⟩
instance : OneC slotv := ⟨fun ys v hv => by
  obtain ⟨d, _, hv⟩ := List.mem_flatMap.1 hv
  simp only [slotv, List.mem_cons, List.not_mem_nil, or_false] at hv
  rcases hv with rfl | rfl <;> rfl⟩
def placev (p : PlaceV) : List Value := [.int .i64 p.id, .int .i64 p.grp, .int .i64 p.lo, .int .i64 p.hi, .int .i64 p.val, .int .i64 p.wp, .int .i64 p.wi, .int .i64 p.sp, .int .i64 p.si]
instance : SizedC 9 placev := ⟨fun _ => rfl⟩
instance {p : PlaceV} : LitL (placev p) [.int .i64 p.id, .int .i64 p.grp, .int .i64 p.lo, .int .i64 p.hi, .int .i64 p.val, .int .i64 p.wp, .int .i64 p.wi, .int .i64 p.sp, .int .i64 p.si] := ⟨rfl⟩
instance {a b c d e f g h i : Int} : DecOf placev [.int .i64 a, .int .i64 b, .int .i64 c, .int .i64 d, .int .i64 e, .int .i64 f, .int .i64 g, .int .i64 h, .int .i64 i] ⟨a, b, c, d, e, f, g, h, i⟩ := ⟨rfl⟩
instance : OneC placev := ⟨fun ys v hv => by
  obtain ⟨d, _, hv⟩ := List.mem_flatMap.1 hv
  simp only [placev, List.mem_cons, List.not_mem_nil, or_false] at hv
  rcases hv with rfl | rfl | rfl | rfl | rfl | rfl | rfl | rfl | rfl <;> rfl⟩
/-- A transaction that lives, and where its lists lie. -/
structure OpenX where
  o : OpenV
  na : Option Addr
  nc : Nat
  ha : Option Addr
  hc : Nat
def openv (x : OpenX) : List Value := [.int .i64 x.o.tx, .int .i64 x.o.last, .bool x.o.com, .slice x.na x.o.nets.length x.nc, .slice x.ha x.o.holds.length x.hc]
instance : SizedC 5 openv := ⟨fun _ => rfl⟩
instance {x : OpenX} : LitL (openv x) [.int .i64 x.o.tx, .int .i64 x.o.last, .bool x.o.com, .slice x.na x.o.nets.length x.nc, .slice x.ha x.o.holds.length x.hc] := ⟨rfl⟩
instance : OneC openv := ⟨fun ys v hv => by
  obtain ⟨d, _, hv⟩ := List.mem_flatMap.1 hv
  simp only [openv, List.mem_cons, List.not_mem_nil, or_false] at hv
  rcases hv with rfl | rfl | rfl | rfl | rfl <;> rfl⟩
structure StoryX where
  pages : Int
  ra : Option Addr
  rc : Nat
  R : List RecV
  la : Option Addr
  lc : Nat
  L : List PlaceV
  ga : Option Addr
  gc : Nat
  G : List (Int × Int)
  ia : Option Addr
  ic : Nat
  I : List Int
  va : Option Addr
  vc : Nat
  V : List OpenX
  nxt : Int
  sa : Option Addr
  sc : Nat
  S : List Int
def StoryX.val (X : StoryX) : Story := ⟨X.pages, X.R, X.L, X.G, X.I, X.V.map (·.o), X.nxt, X.S⟩
/-- Records, live ones and settled values put in. -/
def StoryX.upd (X : StoryX) (ra : Option Addr) (rc : Nat) (R : List RecV) (V : List OpenX) (S : List Int) : StoryX := { X with ra := ra, rc := rc, R := R, V := V, S := S }
theorem val_get {X : StoryX} {t : Nat} {x : OpenX} (h : X.V[t]? = some x) : X.val.V[t]? = some x.o := by simp [StoryX.val, h]
theorem val_len (X : StoryX) : X.val.V.length = X.V.length := by simp [StoryX.val]
end Go.SL.Tld
namespace Go.SL.Tld
open Go Go.SL Go.SL.Sec Go.SL.Rec
theorem set_take_drop {α : Type} {A S : List α} {i : Nat} {y : α} (hl : A.length = S.length) (hi : i < S.length) (hy : A[i]? = some y) : (A.take i ++ S.drop i).set i y = A.take (i + 1) ++ S.drop (i + 1) := by
  have h1 : (A.take i).length = i := by rw [List.length_take]; omega
  rw [List.set_append_right _ _ (by omega), h1, Nat.sub_self, List.drop_eq_getElem_cons hi, List.set_cons_zero, List.take_add_one, hy]
  simp
theorem get_take_drop {α : Type} {A S : List α} {i : Nat} (hl : A.length = S.length) (hi : i < S.length) : (A.take i ++ S.drop i)[i]? = S[i]? := by
  have h1 : (A.take i).length = i := by rw [List.length_take]; omega
  rw [List.getElem?_append_right (by omega), h1, Nat.sub_self, List.getElem?_drop, Nat.add_zero]
theorem addUp_get : ∀ {l m : List Int} {i : Nat} {x y : Int}, l[i]? = some x → m[i]? = some y → (addUp l m)[i]? = some (wr (x + y))
  | [], _, _, _, _, h, _ => by simp at h
  | _ :: _, [], _, _, _, _, h => by simp at h
  | a :: l, b :: m, 0, x, y, h, k => by
    simp at h k; subst h k
    simp [addUp]
  | a :: l, b :: m, i + 1, x, y, h, k => by
    simp only [addUp, List.getElem?_cons_succ]
    exact addUp_get (by simpa using h) (by simpa using k)
theorem undos_next {o : OpenV} {t n k : Nat} {s : Story} (hk : k < n) : Story.undos o t (n - k) k s = Story.undos o t (n - (k + 1)) (k + 1) (Story.undo1 o t k s) := by
  obtain ⟨m, hm⟩ : ∃ m, n - k = m + 1 := ⟨n - k - 1, by omega⟩
  have : n - (k + 1) = m := by omega
  rw [hm, this, Story.undos]
end Go.SL.Tld
namespace Go.Proofs.YtacpnjlijjgbmaaGreatDoor
open Go Go.SL Go.SL.Sec Go.SL.Rec Go.SL.Tld
open Go.SL.Und (RecV recv rec_one fits)
def deedA (x : DeedV) : Value := .agg ⟨[.int .i64 x.kind, .int .i64 x.a, .int .i64 x.b, .int .i64 x.d]⟩
def tptr (b : Nat) : Value := .pointer (some ⟨b, 0, none⟩)
def openc (x : OpenX) : HProp := vec t_int64 1 ints x.na x.nc x.o.nets • vec t_bool 1 bls x.ha x.hc x.o.holds
def storyo (s : Nat) (X : StoryX) : HProp :=
  pts s (.cells ⟨[.int .i64 X.pages, .slice X.ra X.R.length X.rc, .slice X.la X.L.length X.lc, .slice X.ga X.G.length X.gc, .slice X.ia X.I.length X.ic, .slice X.va X.V.length X.vc, .int .i64 X.nxt, .slice X.sa X.S.length X.sc]⟩ t_quotaref18_Story) •
  vec t_api_Record 17 recv X.ra X.rc X.R • vec t_quotaref18_Place 9 placev X.la X.lc X.L • vec t_api_Slot 2 slotv X.ga X.gc X.G • vec t_int 1 ints X.ia X.ic X.I • vec t_quotaref18_Open 5 openv X.va X.vc X.V • vec t_int64 1 ints X.sa X.sc X.S • bigL openc X.V
theorem storyo_eq (s : Nat) (X : StoryX) (R : HProp) : (storyo s X • R) = (pts s (.cells ⟨[.int .i64 X.pages, .slice X.ra X.R.length X.rc, .slice X.la X.L.length X.lc, .slice X.ga X.G.length X.gc, .slice X.ia X.I.length X.ic, .slice X.va X.V.length X.vc, .int .i64 X.nxt, .slice X.sa X.S.length X.sc]⟩ t_quotaref18_Story) •
  vec t_api_Record 17 recv X.ra X.rc X.R • vec t_quotaref18_Place 9 placev X.la X.lc X.L • vec t_api_Slot 2 slotv X.ga X.gc X.G • vec t_int 1 ints X.ia X.ic X.I • vec t_quotaref18_Open 5 openv X.va X.vc X.V • vec t_int64 1 ints X.sa X.sc X.S • bigL openc X.V • R) := by
  unfold storyo; simp only [star_assoc]
theorem storyo_fold (s : Nat) (X : StoryX) (R : HProp) : Imp (pts s (.cells ⟨[.int .i64 X.pages, .slice X.ra X.R.length X.rc, .slice X.la X.L.length X.lc, .slice X.ga X.G.length X.gc, .slice X.ia X.I.length X.ic, .slice X.va X.V.length X.vc, .int .i64 X.nxt, .slice X.sa X.S.length X.sc]⟩ t_quotaref18_Story) •
  vec t_api_Record 17 recv X.ra X.rc X.R • vec t_quotaref18_Place 9 placev X.la X.lc X.L • vec t_api_Slot 2 slotv X.ga X.gc X.G • vec t_int 1 ints X.ia X.ic X.I • vec t_quotaref18_Open 5 openv X.va X.vc X.V • vec t_int64 1 ints X.sa X.sc X.S • bigL openc X.V • R) (storyo s X • R) := by
  rw [storyo_eq]; exact Imp.refl _
section
variable {W : World} {R : HProp} {s : Nat} {X : StoryX}
instance (priority := 100) RdC.story {k : Nat} {v : Value} [LAt [.int .i64 X.pages, .slice X.ra X.R.length X.rc, .slice X.la X.L.length X.lc, .slice X.ga X.G.length X.gc, .slice X.ia X.I.length X.ic, .slice X.va X.V.length X.vc, .int .i64 X.nxt, .slice X.sa X.S.length X.sc] k v] : RdC W (storyo s X • R) ⟨s, k, none⟩ v := by rw [storyo_eq]; infer_instance
instance (priority := 100) RowC.storyV : RowC W (storyo s X • R) X.va 5 openv X.V := by rw [storyo_eq]; infer_instance
instance (priority := 100) RowC.storyL : RowC W (storyo s X • R) X.la 9 placev X.L := by rw [storyo_eq]; infer_instance
instance (priority := 100) RowC.storyG : RowC W (storyo s X • R) X.ga 2 slotv X.G := by rw [storyo_eq]; infer_instance
instance (priority := 100) RowC.storyS : RowC W (storyo s X • R) X.sa 1 ints X.S := by rw [storyo_eq]; infer_instance
instance (priority := 100) RowC.storyR : RowC W (storyo s X • R) X.ra 17 recv X.R := by rw [storyo_eq]; infer_instance
theorem storyo_at {t : Nat} {x : OpenX} (h : X.V[t]? = some x) : (storyo s X • R) = (pts s (.cells ⟨[.int .i64 X.pages, .slice X.ra X.R.length X.rc, .slice X.la X.L.length X.lc, .slice X.ga X.G.length X.gc, .slice X.ia X.I.length X.ic, .slice X.va X.V.length X.vc, .int .i64 X.nxt, .slice X.sa X.S.length X.sc]⟩ t_quotaref18_Story) •
  vec t_api_Record 17 recv X.ra X.rc X.R • vec t_quotaref18_Place 9 placev X.la X.lc X.L • vec t_api_Slot 2 slotv X.ga X.gc X.G • vec t_int 1 ints X.ia X.ic X.I • vec t_quotaref18_Open 5 openv X.va X.vc X.V • vec t_int64 1 ints X.sa X.sc X.S • vec t_int64 1 ints x.na x.nc x.o.nets • vec t_bool 1 bls x.ha x.hc x.o.holds • bigL openc (X.V.eraseIdx t) • R) := by
  rw [storyo_eq, bigL_take openc X.V t x h]; simp only [openc, star_assoc]
theorem storyo_put {t : Nat} {x y : OpenX} (h : X.V[t]? = some x) : (storyo s { X with V := X.V.set t y } • R) = (pts s (.cells ⟨[.int .i64 X.pages, .slice X.ra X.R.length X.rc, .slice X.la X.L.length X.lc, .slice X.ga X.G.length X.gc, .slice X.ia X.I.length X.ic, .slice X.va X.V.length X.vc, .int .i64 X.nxt, .slice X.sa X.S.length X.sc]⟩ t_quotaref18_Story) •
  vec t_api_Record 17 recv X.ra X.rc X.R • vec t_quotaref18_Place 9 placev X.la X.lc X.L • vec t_api_Slot 2 slotv X.ga X.gc X.G • vec t_int 1 ints X.ia X.ic X.I • vec t_quotaref18_Open 5 openv X.va X.vc (X.V.set t y) • vec t_int64 1 ints X.sa X.sc X.S • vec t_int64 1 ints y.na y.nc y.o.nets • vec t_bool 1 bls y.ha y.hc y.o.holds • bigL openc (X.V.eraseIdx t) • R) := by
  rw [storyo_eq]
  dsimp only
  rw [bigL_set openc y X.V t x h, List.length_set]; simp only [openc, star_assoc]
instance (priority := 95) RowC.storyN {t : Nat} {x : OpenX} [h : GetC X.V t x] : RowC W (storyo s X • R) x.na 1 ints x.o.nets := by rw [storyo_at h.h]; infer_instance
instance (priority := 95) RowC.storyH {t : Nat} {x : OpenX} [h : GetC X.V t x] : RowC W (storyo s X • R) x.ha 1 bls x.o.holds := by rw [storyo_at h.h]; infer_instance
instance (priority := 120) KeepC.story {A : HProp} [k : KeepC R A] : KeepC (storyo s X • R) (rdcs s [(5, .slice X.va X.V.length X.vc)] • A) := ⟨by
  rw [storyo_eq]
  exact Imp.rdcs ⟨rfl, trivial⟩ (Imp.trans (by first | exact Imp.refl _ | exact Imp.drop | exact Imp.fin | ((repeat (refine Imp.pick ?_)); first | exact Imp.refl _ | exact Imp.emp _ | exact Imp.fin)) k.h)⟩
/-- Stores into a transaction that lives. -/
theorem St.last {P : Program} {b off t : Nat} {x : OpenX} {n : Int} {K : HProp → Prop} (ha : X.va = some ⟨b, off, none⟩) (h : X.V[t]? = some x) (k : K (storyo s { X with V := X.V.set t { x with o := { x.o with last := n } } } • R)) :
    Req ([Value.int .i64 n].length = 1 ∧ [Value.int .i64 n].all (·.oneCell') = true) (St P W (storyo s X • R) ⟨b, off + t * 5 + 1, none⟩ [.int .i64 n] K) := by
  have e := storyo_at (s := s) (R := R) h
  rw [ha] at e
  refine Req.conv (Imp.refl _) ?_ k
  rw [e, storyo_put h, ha]
  exact St.v (i := t) (j := 1) h { x with o := { x.o with last := n } } rfl (by simp) ⟨rfl, rfl⟩ (by first | exact Imp.refl _ | exact Imp.drop | exact Imp.fin | ((repeat (refine Imp.pick ?_)); first | exact Imp.refl _ | exact Imp.emp _ | exact Imp.fin))
theorem St.com {P : Program} {b off t : Nat} {x : OpenX} {n : Bool} {K : HProp → Prop} (ha : X.va = some ⟨b, off, none⟩) (h : X.V[t]? = some x) (k : K (storyo s { X with V := X.V.set t { x with o := { x.o with com := n } } } • R)) :
    Req ([Value.bool n].length = 1 ∧ [Value.bool n].all (·.oneCell') = true) (St P W (storyo s X • R) ⟨b, off + t * 5 + 2, none⟩ [.bool n] K) := by
  have e := storyo_at (s := s) (R := R) h
  rw [ha] at e
  refine Req.conv (Imp.refl _) ?_ k
  rw [e, storyo_put h, ha]
  exact St.v (i := t) (j := 2) h { x with o := { x.o with com := n } } rfl (by simp) ⟨rfl, rfl⟩ (by first | exact Imp.refl _ | exact Imp.drop | exact Imp.fin | ((repeat (refine Imp.pick ?_)); first | exact Imp.refl _ | exact Imp.emp _ | exact Imp.fin))
theorem St.net {P : Program} {b off t i : Nat} {x : OpenX} {n : Int} {K : HProp → Prop} (h : X.V[t]? = some x) (ha : x.na = some ⟨b, off, none⟩) (hi : i < x.o.nets.length) (k : K (storyo s { X with V := X.V.set t { x with o := { x.o with nets := x.o.nets.set i n } } } • R)) :
    Req ([Value.int .i64 n].length = 1 ∧ [Value.int .i64 n].all (·.oneCell') = true) (St P W (storyo s X • R) ⟨b, off + i * 1, none⟩ [.int .i64 n] K) := by
  have e := storyo_at (s := s) (R := R) h
  rw [ha] at e
  refine Req.conv (Imp.refl _) ?_ k
  rw [e, storyo_put h]
  rw [vec_set h (show openv { x with o := { x.o with nets := x.o.nets.set i n } } = openv x by simp [openv])]
  dsimp only
  rw [ha]
  exact St.v0 (i := i) (List.getElem?_eq_getElem hi) n rfl (by simp) ⟨rfl, rfl⟩ (by first | exact Imp.refl _ | exact Imp.drop | exact Imp.fin | ((repeat (refine Imp.pick ?_)); first | exact Imp.refl _ | exact Imp.emp _ | exact Imp.fin))
theorem St.hold {P : Program} {b off t i : Nat} {x : OpenX} {n : Bool} {K : HProp → Prop} (h : X.V[t]? = some x) (ha : x.ha = some ⟨b, off, none⟩) (hi : i < x.o.holds.length) (k : K (storyo s { X with V := X.V.set t { x with o := { x.o with holds := x.o.holds.set i n } } } • R)) :
    Req ([Value.bool n].length = 1 ∧ [Value.bool n].all (·.oneCell') = true) (St P W (storyo s X • R) ⟨b, off + i * 1, none⟩ [.bool n] K) := by
  have e := storyo_at (s := s) (R := R) h
  rw [ha] at e
  refine Req.conv (Imp.refl _) ?_ k
  rw [e, storyo_put h]
  rw [vec_set h (show openv { x with o := { x.o with holds := x.o.holds.set i n } } = openv x by simp [openv])]
  dsimp only
  rw [ha]
  exact St.v0 (i := i) (List.getElem?_eq_getElem hi) n rfl (by simp) ⟨rfl, rfl⟩ (by first | exact Imp.refl _ | exact Imp.drop | exact Imp.fin | ((repeat (refine Imp.pick ?_)); first | exact Imp.refl _ | exact Imp.emp _ | exact Imp.fin))
theorem St.settled {P : Program} {b off i : Nat} {n : Int} {K : HProp → Prop} (ha : X.sa = some ⟨b, off, none⟩) (hi : i < X.S.length) (k : K (storyo s { X with S := X.S.set i n } • R)) :
    Req ([Value.int .i64 n].length = 1 ∧ [Value.int .i64 n].all (·.oneCell') = true) (St P W (storyo s X • R) ⟨b, off + i * 1, none⟩ [.int .i64 n] K) := by
  have e := storyo_eq s X R
  rw [ha] at e
  refine Req.conv (Imp.refl _) ?_ k
  rw [e, storyo_eq]
  dsimp only
  rw [ha, List.length_set]
  exact St.v0 (i := i) (List.getElem?_eq_getElem hi) n rfl (by simp) ⟨rfl, rfl⟩ (by first | exact Imp.refl _ | exact Imp.drop | exact Imp.fin | ((repeat (refine Imp.pick ?_)); first | exact Imp.refl _ | exact Imp.emp _ | exact Imp.fin))
end
theorem tbrought_spec {W : World} {R : HProp} {x n : Int} (hn : 1 ≤ n ∧ n ≤ 9223372036854775807) : Does prog W f_quotaref18_brought ⟨[.int .i64 x, .int .i64 n]⟩ R (Ret fun v G => v = .int .i64 (x % n) ∧ G = R) := by
  have h1 := Int.tmod_lt_of_pos x (show 0 < n by omega)
  have h2 : -n < x.tmod n := by
    have := Int.tmod_lt_of_pos (-x) (show 0 < n by omega)
    rw [Int.neg_tmod] at this; omega
  have h3 := Int.emod_nonneg x (show n ≠ 0 by omega)
  have h4 := Int.emod_lt_of_pos x (show 0 < n by omega)
  have h5 : x % n = if x.tmod n < 0 then x.tmod n + n else x.tmod n := by
    have e1 := Int.tmod_eq_emod (a := x) (b := n)
    by_cases h : 0 ≤ x ∨ n ∣ x
    · rw [if_pos h] at e1
      rw [if_neg (by omega)]; omega
    · rw [if_neg h] at e1
      rw [if_pos (by omega)]; omega
  refine f_quotaref18_brought.does _ _ ?_
  conv => whnf
  repeat' (first
    | (refine spl_f (by with_reducible exact ndec_self _) ?_; conv => whnf)
    | (refine spl_f (by with_reducible exact nbeq_self _) ?_; conv => whnf)
    | (refine spl_t (by with_reducible exact beq_self _) ?_; conv => whnf)
    | (refine spl_dec (fun hd => ?_) (fun hd => ?_) <;> first | (exfalso; omega) | (conv => whnf))
    | (refine spl_ndec (fun hd => ?_) (fun hd => ?_) <;> first | (exfalso; omega) | (conv => whnf))
    | (refine spl_intro (fun hd => ?_) (fun hd => ?_) <;> (conv => whnf))
    | (refine Ld.i ?_; conv => whnf)
    | (refine LdN.i ?_; conv => whnf)
    | (refine St.i ⟨rfl, rfl⟩ (List.cons_ne_nil _ _) ?_; conv => whnf)
    | (refine Ar.i64 (by omega) ?_; conv => whnf)
    | (refine Ar.u64 (by omega) ?_; conv => whnf)
    | (refine Ar.i64d (by omega) (by omega) ?_; conv => whnf)
    | (refine Shr.i (by rfl) (by decide) ?_; conv => whnf)
    | (refine Shl.i (by rfl) (by decide) ?_; conv => whnf)
    | (refine Req.mk (by omega) ?_; conv => whnf)
    | (intro blk hblk; conv => whnf)
    | (refine Sub.on (by first | exact Imp.refl _ | exact Imp.drop | exact Imp.fin | ((repeat (refine Imp.pick ?_)); first | exact Imp.refl _ | exact Imp.emp _ | exact Imp.fin)) ?_; conv => whnf)
    | (refine Sub.on (Imp.trans KeepC.h (by first | exact Imp.refl _ | exact Imp.drop | exact Imp.fin | ((repeat (refine Imp.pick ?_)); first | exact Imp.refl _ | exact Imp.emp _ | exact Imp.fin))) ?_; conv => whnf)
    | fail)
  · rw [h5, if_pos (by omega)]
    refine Ret.eq rfl ?_
    first | exact Imp.refl _ | exact Imp.drop | exact Imp.fin | ((repeat (refine Imp.pick ?_)); first | exact Imp.refl _ | exact Imp.emp _ | exact Imp.fin)
  · rw [h5, if_neg (by omega)]
    refine Ret.eq rfl ?_
    first | exact Imp.refl _ | exact Imp.drop | exact Imp.fin | ((repeat (refine Imp.pick ?_)); first | exact Imp.refl _ | exact Imp.emp _ | exact Imp.fin)
theorem writes_spec {W : World} {H R : HProp} {s : Nat} {X : StoryX} {r : RecV} [t : ObjC storyo H s X R] (hb : X.R.length ≤ 10000000) :
    Does prog W f_quotaref18_Story_writes ⟨[tptr s, recA r]⟩ H (Ret fun v G => ∃ ra' rc', v = .int .i64 ((X.R.length : Int) + 1) ∧ G = (storyo s { X with ra := ra', rc := rc', R := X.R ++ [{ r with lsn := (X.R.length : Int) + 1 }] } • R)) := by
  rw [t.h.eq]
  rw [storyo_eq]
  unfold recA tptr
  refine f_quotaref18_Story_writes.does _ _ ?_
  conv => whnf
  repeat' (first
    | (refine spl_f (by with_reducible exact ndec_self _) ?_; conv => whnf)
    | (refine spl_f (by with_reducible exact nbeq_self _) ?_; conv => whnf)
    | (refine spl_t (by with_reducible exact beq_self _) ?_; conv => whnf)
    | (refine spl_dec (fun hd => ?_) (fun hd => ?_) <;> first | (exfalso; omega) | (conv => whnf))
    | (refine spl_ndec (fun hd => ?_) (fun hd => ?_) <;> first | (exfalso; omega) | (conv => whnf))
    | (refine spl_intro (fun hd => ?_) (fun hd => ?_) <;> (conv => whnf))
    | (refine Ld.i ?_; conv => whnf)
    | (refine LdN.i ?_; conv => whnf)
    | (refine St.i ⟨rfl, rfl⟩ (List.cons_ne_nil _ _) ?_; conv => whnf)
    | (refine Ar.i64 (by omega) ?_; conv => whnf)
    | (refine Ar.u64 (by omega) ?_; conv => whnf)
    | (refine Ar.i64d (by omega) (by omega) ?_; conv => whnf)
    | (refine Shr.i (by rfl) (by decide) ?_; conv => whnf)
    | (refine Shl.i (by rfl) (by decide) ?_; conv => whnf)
    | (refine Req.mk (by omega) ?_; conv => whnf)
    | (intro blk hblk; conv => whnf)
    | (refine OpX.app1g tab_ok rfl rfl rfl rfl rfl rfl (by first | rfl | assumption | omega | decide | (simp; done) | (simp; omega) | (simp at *; omega)) (fun a' c' => ?_); conv => whnf)
    | (refine Sub.on (by first | exact Imp.refl _ | exact Imp.drop | exact Imp.fin | ((repeat (refine Imp.pick ?_)); first | exact Imp.refl _ | exact Imp.emp _ | exact Imp.fin)) ?_; conv => whnf)
    | (refine Sub.on (Imp.trans KeepC.h (by first | exact Imp.refl _ | exact Imp.drop | exact Imp.fin | ((repeat (refine Imp.pick ?_)); first | exact Imp.refl _ | exact Imp.emp _ | exact Imp.fin))) ?_; conv => whnf)
    | (refine DrawK.introK tab_ok mixed 12 f_quotaref18_Story_writes.last2 f_quotaref18_Story_writes.plan2 rfl (by kernel_rfl) ?_; conv => whnf)
    | fail)
  refine ⟨_, _, rfl, ?_, a', c', rfl, rfl⟩
  rw [storyo_eq]
  first | exact Imp.refl _ | exact Imp.drop | exact Imp.fin | ((repeat (refine Imp.pick ?_)); first | exact Imp.refl _ | exact Imp.emp _ | exact Imp.fin)
theorem leaves_spec {W : World} {H R : HProp} {s : Nat} {X : StoryX} {t : Nat} [tk : ObjC storyo H s X R] (ht : t < X.V.length) (hl : X.V.length ≤ 20) :
    Does prog W f_quotaref18_Story_leaves ⟨[tptr s, .int .i64 t]⟩ H (Ret fun v G => ∃ X', X'.val = X.val.leave t ∧ v = .tuple ⟨[]⟩ ∧ G = (storyo s X' • R)) := by
  rw [tk.h.eq]
  rw [storyo_eq]
  unfold tptr
  have ht2 : (X.V.take t).length = t := by rw [List.length_take]; omega
  refine f_quotaref18_Story_leaves.does _ _ ?_
  conv => whnf
  repeat' (first
    | (refine spl_f (by with_reducible exact ndec_self _) ?_; conv => whnf)
    | (refine spl_f (by with_reducible exact nbeq_self _) ?_; conv => whnf)
    | (refine spl_t (by with_reducible exact beq_self _) ?_; conv => whnf)
    | (refine spl_dec (fun hd => ?_) (fun hd => ?_) <;> first | (exfalso; omega) | (conv => whnf))
    | (refine spl_ndec (fun hd => ?_) (fun hd => ?_) <;> first | (exfalso; omega) | (conv => whnf))
    | (refine spl_intro (fun hd => ?_) (fun hd => ?_) <;> (conv => whnf))
    | (refine Ld.i ?_; conv => whnf)
    | (refine LdN.i ?_; conv => whnf)
    | (refine St.i ⟨rfl, rfl⟩ (List.cons_ne_nil _ _) ?_; conv => whnf)
    | (refine Ar.i64 (by omega) ?_; conv => whnf)
    | (refine Ar.u64 (by omega) ?_; conv => whnf)
    | (refine Ar.i64d (by omega) (by omega) ?_; conv => whnf)
    | (refine Shr.i (by rfl) (by decide) ?_; conv => whnf)
    | (refine Shl.i (by rfl) (by decide) ?_; conv => whnf)
    | (refine Req.mk (by omega) ?_; conv => whnf)
    | (intro blk hblk; conv => whnf)
    | (refine OpX.of_quiet (OpQ.slh tab_ok rfl rfl rfl rfl (by omega) ?_); conv => whnf)
    | (refine OpX.of_quiet (OpQ.slv tab_ok rfl rfl rfl rfl (by omega) ?_); conv => whnf)
    | (refine OpX.appNt (ys := X.V) tab_ok t rfl rfl rfl rfl rfl (by omega) (by omega) ⟨rfl, OneC.h⟩ (fun na nc => ?_); conv => whnf)
    | (refine OpX.of_quiet (OpQ.slr tab_ok (t + 1) rfl rfl rfl rfl (by first | rfl | assumption | omega | decide | (simp; done) | (simp; omega) | (simp at *; omega)) (by omega) ?_); conv => whnf)
    | (refine OpX.appRd (xs := X.V.take t) (ys := X.V) tab_ok rfl rfl rfl rfl ht2.symm rfl (by omega) ⟨rfl, OneC.h⟩ (fun na nc => ?_); conv => whnf)
    | (refine Sub.on (by first | exact Imp.refl _ | exact Imp.drop | exact Imp.fin | ((repeat (refine Imp.pick ?_)); first | exact Imp.refl _ | exact Imp.emp _ | exact Imp.fin)) ?_; conv => whnf)
    | (refine Sub.on (Imp.trans KeepC.h (by first | exact Imp.refl _ | exact Imp.drop | exact Imp.fin | ((repeat (refine Imp.pick ?_)); first | exact Imp.refl _ | exact Imp.emp _ | exact Imp.fin))) ?_; conv => whnf)
    | fail)
  refine ⟨_, _, rfl, ?_, { X with va := na, vc := nc, V := X.V.take t ++ X.V.drop (t + 1) }, ?_, rfl, rfl⟩
  · rw [storyo_eq]
    dsimp only
    have hb : Imp (bigL openc X.V) (bigL openc (X.V.take t ++ X.V.drop (t + 1))) := by
      obtain ⟨x, hx⟩ : ∃ x, X.V[t]? = some x := ⟨_, List.getElem?_eq_getElem ht⟩
      rw [bigL_take openc X.V t x hx, List.eraseIdx_eq_take_drop_succ]
      exact Imp.drop
    refine Imp.pick (Imp.pick (Imp.pick (Imp.pick (Imp.pick (Imp.pick (Imp.pick ?_))))))
    exact Imp.trans (by first | exact Imp.refl _ | exact Imp.drop | exact Imp.fin | ((repeat (refine Imp.pick ?_)); first | exact Imp.refl _ | exact Imp.emp _ | exact Imp.fin)) (hb.star (Imp.refl _))
  · simp [StoryX.val, Story.leave]
theorem change_spec {W : World} {H R : HProp} {s : Nat} {X : StoryX} {kind d : Int} {t k : Nat} {x : OpenX} {p : PlaceV} [tk : ObjC storyo H s X R] (hx : X.V[t]? = some x) (hp : X.L[k]? = some p) (hb : X.R.length ≤ 10000000) :
    Does prog W f_quotaref18_Story_change ⟨[tptr s, .int .i64 kind, .int .i64 t, .int .i64 k, .int .i64 d]⟩ H (Ret fun v G => ∃ X', X'.val = X.val.change kind t k d ∧ (∀ j, j ≠ t → X'.V[j]? = X.V[j]?) ∧ X'.V[t]? = some { x with o := { x.o with last := (X.R.length : Int) + 1 } } ∧ v = .tuple ⟨[]⟩ ∧ G = (storyo s X' • R)) := by
  have ht := (List.getElem?_eq_some_iff.1 hx).1
  have hk := (List.getElem?_eq_some_iff.1 hp).1
  rw [tk.h.eq]
  unfold tptr
  refine f_quotaref18_Story_change.does _ _ _ _ _ ?_
  conv => whnf
  repeat' (first
    | (refine DrawK.introK tab_ok mixed 26 f_quotaref18_Story_change.last2 f_quotaref18_Story_change.plan2 rfl (by kernel_rfl) ?_; conv => whnf)
    | (refine CallK.ret f_quotaref18_Story_writes.ok (writes_spec (X := X) (r := recD kind x.o.tx x.o.last p d) hb) ?_; rintro v G ⟨ra', rc', rfl, rfl⟩; conv => whnf)
    | (refine spl_f (by with_reducible exact ndec_self _) ?_; conv => whnf)
    | (refine spl_f (by with_reducible exact nbeq_self _) ?_; conv => whnf)
    | (refine spl_t (by with_reducible exact beq_self _) ?_; conv => whnf)
    | (refine spl_dec (fun hd => ?_) (fun hd => ?_) <;> first | (exfalso; omega) | (conv => whnf))
    | (refine spl_ndec (fun hd => ?_) (fun hd => ?_) <;> first | (exfalso; omega) | (conv => whnf))
    | (refine spl_intro (fun hd => ?_) (fun hd => ?_) <;> (conv => whnf))
    | (refine Ld.i ?_; conv => whnf)
    | (refine LdN.i ?_; conv => whnf)
    | (refine St.i ⟨rfl, rfl⟩ (List.cons_ne_nil _ _) ?_; conv => whnf)
    | (refine Ar.i64 (by omega) ?_; conv => whnf)
    | (refine Ar.u64 (by omega) ?_; conv => whnf)
    | (refine Ar.i64d (by omega) (by omega) ?_; conv => whnf)
    | (refine Shr.i (by rfl) (by decide) ?_; conv => whnf)
    | (refine Shl.i (by rfl) (by decide) ?_; conv => whnf)
    | (refine Req.mk (by omega) ?_; conv => whnf)
    | (intro blk hblk; conv => whnf)
    | (refine IxS.r (xs := X.V) (i := t) rfl rfl ht (fun ab off ha => ?_); have rv : RowC W (storyo s X • R) (some ⟨ab, off, none⟩) 5 openv X.V := ha ▸ inferInstance; conv => whnf)
    | (refine IxS.r (xs := X.L) (i := k) rfl rfl hk (fun ab off ha => ?_); have rl : RowC W (storyo s X • R) (some ⟨ab, off, none⟩) 9 placev X.L := ha ▸ inferInstance; conv => whnf)
    | (refine LdN.r hx rfl ?_; conv => whnf)
    | (refine Ld.r hx rfl ?_; conv => whnf)
    | (refine Ld.r0 hx rfl ?_; conv => whnf)
    | (refine LdN.rp hx ?_; conv => whnf)
    | (refine LdN.r hp rfl ?_; conv => whnf)
    | (refine Ld.r hp rfl ?_; conv => whnf)
    | (refine Ld.r0 hp rfl ?_; conv => whnf)
    | (refine LdN.rp hp ?_; conv => whnf)
    | (refine St.last (by assumption) hx ?_; conv => whnf)
    | (refine Sub.on (by first | exact Imp.refl _ | exact Imp.drop | exact Imp.fin | ((repeat (refine Imp.pick ?_)); first | exact Imp.refl _ | exact Imp.emp _ | exact Imp.fin)) ?_; conv => whnf)
    | (refine Sub.on (Imp.trans KeepC.h (by first | exact Imp.refl _ | exact Imp.drop | exact Imp.fin | ((repeat (refine Imp.pick ?_)); first | exact Imp.refl _ | exact Imp.emp _ | exact Imp.fin))) ?_; conv => whnf)
    | (refine DrawK.introH tab_ok mixed 26 f_quotaref18_Story_change.last2 f_quotaref18_Story_change.plan2 _ rfl (by kernel_rfl) (Sub.of (by first | exact Imp.refl _ | exact Imp.drop | exact Imp.fin | ((repeat (refine Imp.pick ?_)); first | exact Imp.refl _ | exact Imp.emp _ | exact Imp.fin))) ?_; conv => whnf)
    | (refine CallK.ret f_quotaref18_Story_writes.ok (writes_spec (by first | rfl | assumption | omega | decide | (simp; done) | (simp; omega) | (simp at *; omega))) ?_; rintro v G ⟨e_ra', e_rc', rfl, rfl⟩; conv => whnf)
    | (refine CallK.ret f_quotaref18_Story_writes.ok (writes_spec (by first | rfl | assumption | omega | decide | (simp; done) | (simp; omega) | (simp at *; omega))) ?_; rintro v G ⟨e_ra', e_rc', rfl, rfl⟩; conv => whnf)
    | fail)
  refine ⟨_, _, rfl, Imp.right (Q' := R) ?_, _, ?_, fun j hj => ?_, ?_, rfl, rfl⟩
  · first | exact Imp.refl _ | exact Imp.drop | exact Imp.fin | ((repeat (refine Imp.pick ?_)); first | exact Imp.refl _ | exact Imp.emp _ | exact Imp.fin)
  · unfold Story.change
    rw [val_get hx, show X.val.L[k]? = some p from hp]
    simp [StoryX.val, Story.writes, recD]
  · exact List.getElem?_set_ne hj.symm
  · exact List.getElem?_set_self ht
theorem drop_at {α : Type} {l : List α} {i : Nat} {x : α} (h : l[i]? = some x) : l.drop i = x :: l.drop (i + 1) := by
  obtain ⟨h1, rfl⟩ := List.getElem?_eq_some_iff.1 h
  exact List.drop_eq_getElem_cons h1
end Go.Proofs.YtacpnjlijjgbmaaGreatDoor
