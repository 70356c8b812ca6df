/- Copies of rows; whether a row is all zeros: walked. Conditions: in each statement. -/
import Derived.Test.YtgcknlpkhhpkjaaGreatDoorPart16
import Derived.Test.YtgcknlpkhhpkjaaGreatDoorPart12
import Derived.Test.YtgcknlpkhhpkjaaGreatDoorPart17
namespace Go.SL.Rec
open Go Go.SL
/-- A counter on a page. -/
structure CntV where
  id : Int
  grp : Int
  lo : Int
  hi : Int
  val : Int
  deriving DecidableEq
def cntv (c : CntV) : List Value := [.int .i64 c.id, .int .i64 c.grp, .int .i64 c.lo, .int .i64 c.hi, .int .i64 c.val]
instance : SizedC 5 cntv := ⟨fun _ => rfl⟩
instance {c : CntV} : LitL (cntv c) [.int .i64 c.id, .int .i64 c.grp, .int .i64 c.lo, .int .i64 c.hi, .int .i64 c.val] := ⟨rfl⟩
instance {a b c d e : Int} : DecOf cntv [.int .i64 a, .int .i64 b, .int .i64 c, .int .i64 d, .int .i64 e] ⟨a, b, c, d, e⟩ := ⟨rfl⟩
instance : OneC cntv := ⟨fun ys v hv => by
  obtain ⟨d, _, hv⟩ := List.mem_flatMap.1 hv
  simp only [cntv, List.mem_cons, List.not_mem_nil, or_false] at hv
  rcases hv with rfl | rfl | rfl | rfl | rfl <;> rfl⟩
/-- A group's sum on a page. -/
structure GrpV where
  id : Int
  sum : Int
  deriving DecidableEq
def grpv (c : GrpV) : List Value := [.int .i64 c.id, .int .i64 c.sum]
instance : SizedC 2 grpv := ⟨fun _ => rfl⟩
instance {c : GrpV} : LitL (grpv c) [.int .i64 c.id, .int .i64 c.sum] := ⟨rfl⟩
instance {a b : Int} : DecOf grpv [.int .i64 a, .int .i64 b] ⟨a, b⟩ := ⟨rfl⟩
instance : OneC grpv := ⟨fun ys v hv => by
  obtain ⟨d, _, hv⟩ := List.mem_flatMap.1 hv
  simp only [grpv, List.mem_cons, List.not_mem_nil, or_false] at hv
  rcases hv with rfl | rfl <;> rfl⟩
end Go.SL.Rec
namespace Go.Proofs.YtgcknlpkhhpkjaaGreatDoor
open Go Go.SL Go.SL.Sec Go.SL.Fld Go.SL.Pts Go.SL.Rec
open Go.SL.Und (RecV recv fits)
theorem cloneL_spec {W : World} {R : HProp} {a : Option Addr} {n cap : Nat} {l : List LiveV} [c : RowN W R a n 4 livev l] (hb : l.length ≤ 1000000000) :
    Does prog W f_slices_Clone_S_api_Live_api_Live ⟨[.slice a n cap]⟩ R (Ret fun v G => ∃ a' cap', l.length ≤ cap' ∧ v = .slice a' l.length cap' ∧ G = (vec t_api_Live 4 livev a' cap' l • R)) := by
  refine Does.vlen (V := fun a' cap' => .slice a' l.length cap') ?_
  have hn := c.len
  subst hn
  haveI c' := c.row
  cases a with
  | none =>
    refine Does.nil c' fun hl => ?_
    subst hl
    refine f_slices_Clone_S_api_Live_api_Live.does _ ?_
    conv => whnf
    skip
    refine ⟨_, _, rfl, ?_, none, 0, rfl, rfl⟩
    refine Imp.vnil ?_
    first | exact Imp.refl _ | exact Imp.drop | exact Imp.fin | ((repeat (refine Imp.pick ?_)); first | exact Imp.refl _ | exact Imp.emp _ | exact Imp.fin)
  | some x =>
    refine f_slices_Clone_S_api_Live_api_Live.does _ ?_
    conv => whnf
    repeat' (first
      | (intro blk hblk; conv => whnf)
      | (refine OpX.appE (ys := l) tab_ok rfl rfl rfl rfl rfl rfl (by omega) (fun a' c' => ?_); conv => whnf)
      | fail)
    refine ⟨_, _, rfl, ?_, a', c', rfl, rfl⟩
    first | exact Imp.refl _ | exact Imp.drop | exact Imp.fin | ((repeat (refine Imp.pick ?_)); first | exact Imp.refl _ | exact Imp.emp _ | exact Imp.fin)
theorem cloneD_spec {W : World} {R : HProp} {a : Option Addr} {n cap : Nat} {l : List DirtyV} [c : RowN W R a n 2 dirtyv l] (hb : l.length ≤ 1000000000) :
    Does prog W f_slices_Clone_S_api_Dirty_api_Dirty ⟨[.slice a n cap]⟩ R (Ret fun v G => ∃ a' cap', l.length ≤ cap' ∧ v = .slice a' l.length cap' ∧ G = (vec t_api_Dirty 2 dirtyv a' cap' l • R)) := by
  refine Does.vlen (V := fun a' cap' => .slice a' l.length cap') ?_
  have hn := c.len
  subst hn
  haveI c' := c.row
  cases a with
  | none =>
    refine Does.nil c' fun hl => ?_
    subst hl
    refine f_slices_Clone_S_api_Dirty_api_Dirty.does _ ?_
    conv => whnf
    skip
    refine ⟨_, _, rfl, ?_, none, 0, rfl, rfl⟩
    refine Imp.vnil ?_
    first | exact Imp.refl _ | exact Imp.drop | exact Imp.fin | ((repeat (refine Imp.pick ?_)); first | exact Imp.refl _ | exact Imp.emp _ | exact Imp.fin)
  | some x =>
    refine f_slices_Clone_S_api_Dirty_api_Dirty.does _ ?_
    conv => whnf
    repeat' (first
      | (intro blk hblk; conv => whnf)
      | (refine OpX.appE (ys := l) tab_ok rfl rfl rfl rfl rfl rfl (by omega) (fun a' c' => ?_); conv => whnf)
      | fail)
    refine ⟨_, _, rfl, ?_, a', c', rfl, rfl⟩
    first | exact Imp.refl _ | exact Imp.drop | exact Imp.fin | ((repeat (refine Imp.pick ?_)); first | exact Imp.refl _ | exact Imp.emp _ | exact Imp.fin)
theorem cloneC_spec {W : World} {R : HProp} {a : Option Addr} {n cap : Nat} {l : List CntV} [c : RowN W R a n 5 cntv l] (hb : l.length ≤ 1000000000) :
    Does prog W f_slices_Clone_S_api_Counter_api_Counter ⟨[.slice a n cap]⟩ R (Ret fun v G => ∃ a' cap', l.length ≤ cap' ∧ v = .slice a' l.length cap' ∧ G = (vec t_api_Counter 5 cntv a' cap' l • R)) := by
  refine Does.vlen (V := fun a' cap' => .slice a' l.length cap') ?_
  have hn := c.len
  subst hn
  haveI c' := c.row
  cases a with
  | none =>
    refine Does.nil c' fun hl => ?_
    subst hl
    refine f_slices_Clone_S_api_Counter_api_Counter.does _ ?_
    conv => whnf
    skip
    refine ⟨_, _, rfl, ?_, none, 0, rfl, rfl⟩
    refine Imp.vnil ?_
    first | exact Imp.refl _ | exact Imp.drop | exact Imp.fin | ((repeat (refine Imp.pick ?_)); first | exact Imp.refl _ | exact Imp.emp _ | exact Imp.fin)
  | some x =>
    refine f_slices_Clone_S_api_Counter_api_Counter.does _ ?_
    conv => whnf
    repeat' (first
      | (intro blk hblk; conv => whnf)
      | (refine OpX.appE (ys := l) tab_ok rfl rfl rfl rfl rfl rfl (by omega) (fun a' c' => ?_); conv => whnf)
      | fail)
    refine ⟨_, _, rfl, ?_, a', c', rfl, rfl⟩
    first | exact Imp.refl _ | exact Imp.drop | exact Imp.fin | ((repeat (refine Imp.pick ?_)); first | exact Imp.refl _ | exact Imp.emp _ | exact Imp.fin)
theorem cloneP_spec {W : World} {R : HProp} {a : Option Addr} {n cap : Nat} {l : List GrpV} [c : RowN W R a n 2 grpv l] (hb : l.length ≤ 1000000000) :
    Does prog W f_slices_Clone_S_api_Group_api_Group ⟨[.slice a n cap]⟩ R (Ret fun v G => ∃ a' cap', l.length ≤ cap' ∧ v = .slice a' l.length cap' ∧ G = (vec t_api_Group 2 grpv a' cap' l • R)) := by
  refine Does.vlen (V := fun a' cap' => .slice a' l.length cap') ?_
  have hn := c.len
  subst hn
  haveI c' := c.row
  cases a with
  | none =>
    refine Does.nil c' fun hl => ?_
    subst hl
    refine f_slices_Clone_S_api_Group_api_Group.does _ ?_
    conv => whnf
    skip
    refine ⟨_, _, rfl, ?_, none, 0, rfl, rfl⟩
    refine Imp.vnil ?_
    first | exact Imp.refl _ | exact Imp.drop | exact Imp.fin | ((repeat (refine Imp.pick ?_)); first | exact Imp.refl _ | exact Imp.emp _ | exact Imp.fin)
  | some x =>
    refine f_slices_Clone_S_api_Group_api_Group.does _ ?_
    conv => whnf
    repeat' (first
      | (intro blk hblk; conv => whnf)
      | (refine OpX.appE (ys := l) tab_ok rfl rfl rfl rfl rfl rfl (by omega) (fun a' c' => ?_); conv => whnf)
      | fail)
    refine ⟨_, _, rfl, ?_, a', c', rfl, rfl⟩
    first | exact Imp.refl _ | exact Imp.drop | exact Imp.fin | ((repeat (refine Imp.pick ?_)); first | exact Imp.refl _ | exact Imp.emp _ | exact Imp.fin)
/-- Are all of them zeros? -/
def zerosB (l : List Int) : Bool := l.all fun b => decide (b = 0)
theorem index_spec {W : World} {R : HProp} {a : Option Addr} {n c : Nat} {l : List Int} {g : FuncId} (hg : Callable prog g) (hpr : ∀ b : Int, Does prog W g ⟨[.int .u8 b]⟩ R (Ret fun v G => v = .bool (!decide (b = 0)) ∧ G = R)) [ro : RowN W R a n 1 bytv l] (hl : l.length ≤ 16777216) :
    Does prog W f_slices_IndexFunc_S_byte_byte ⟨[.slice a n c, .func (.func g) #[] #[]]⟩ R (Ret fun v G => ∃ z : Int, (z ≥ 0 ↔ zerosB l = false) ∧ v = .int .i64 z ∧ G = R) := by
  have hn := ro.len
  subst hn
  haveI r' := ro.row
  refine f_slices_IndexFunc_S_byte_byte.does _ _ ?_
  conv => whnf
  skip
  refine LoopK.keep tab_ok (L := f_slices_IndexFunc_S_byte_byte.live) (ι := Nat) (fun i => i ≤ l.length ∧ zerosB l = zerosB (l.drop i)) (fun i => [(8, .int .i64 i)]) (fun i => l.length - i) 0 (by simp) (fun t v h => h) ?_
  rintro i ⟨hi, hz⟩
  conv => whnf
  by_cases h1 : i < l.length
  · obtain ⟨b, hb⟩ : ∃ b, l[i]? = some b := ⟨_, List.getElem?_eq_getElem h1⟩
    have hdr : zerosB (l.drop i) = (decide (b = 0) && zerosB (l.drop (i + 1))) := by
      rw [drop_of hb]; simp [zerosB]
    rw [hdr] at hz
    repeat' (first
      | (refine spl_dec (fun hd => ?_) (fun hd => ?_) <;> first | (exfalso; omega) | (conv => whnf))
      | (refine IxS.r (xs := l) (i := i) rfl rfl h1 (fun ab off ha => ?_); cases ha; conv => whnf)
      | (refine Ld.r0 hb rfl ?_; conv => whnf)
      | fail)
    refine CallK.ret hg (hpr _) ?_
    rintro v G ⟨rfl, rfl⟩
    conv => whnf
    repeat' (first
      | (refine spl_ndec (fun hd => ?_) (fun hd => ?_) <;> first | (exfalso; omega) | (conv => whnf))
      | (refine Ar.i64 (by omega) ?_; conv => whnf)
      | fail)
    · refine ⟨_, _, rfl, Imp.refl _, i, ?_, rfl, rfl⟩
      rw [hz, decide_eq_false (by assumption)]
      simp
    · refine ⟨rfl, i + 1, ⟨h1, ?_⟩, fun t v h => h, Imp.refl _, by omega⟩
      have hb0 : b = 0 := by assumption
      rw [hz, hb0]; simp
  · rw [List.drop_eq_nil_of_le (by omega)] at hz
    repeat' (first
      | (refine spl_dec (fun hd => ?_) (fun hd => ?_) <;> first | (exfalso; omega) | (conv => whnf))
      | fail)
    refine ⟨_, _, rfl, Imp.refl _, -1, ?_, rfl, rfl⟩
    rw [hz]
    simp [zerosB]
theorem contains_spec {W : World} {R : HProp} {a : Option Addr} {n c : Nat} {l : List Int} {g : FuncId} (hg : Callable prog g) (hpr : ∀ b : Int, Does prog W g ⟨[.int .u8 b]⟩ R (Ret fun v G => v = .bool (!decide (b = 0)) ∧ G = R)) [ro : RowN W R a n 1 bytv l] (hl : l.length ≤ 16777216) :
    Does prog W f_slices_ContainsFunc_S_byte_byte ⟨[.slice a n c, .func (.func g) #[] #[]]⟩ R (Ret fun v G => v = .bool (!zerosB l) ∧ G = R) := by
  refine f_slices_ContainsFunc_S_byte_byte.does _ _ ?_
  conv => whnf
  repeat' (first
    | (refine CallK.ret f_slices_IndexFunc_S_byte_byte.ok (index_spec hg hpr hl) ?_; rintro v G ⟨z, hz, rfl, rfl⟩; conv => whnf)
    | fail)
  refine Ret.eq (congrArg Value.bool ?_) (Imp.refl _)
  by_cases h : z ≥ 0
  · rw [decide_eq_true h, hz.1 h]; rfl
  · rw [decide_eq_false h]
    cases hz0 : zerosB l with
    | true => rfl
    | false => exact absurd (hz.2 hz0) h
theorem lblank1_spec {W : World} {R : HProp} {b : Int} : Does prog W f_log_blank_1 ⟨[.int .u8 b]⟩ R (Ret fun v G => v = .bool (!decide (b = 0)) ∧ G = R) := by
  refine f_log_blank_1.does _ ?_
  conv => whnf
  skip
  refine Ret.eq rfl ?_
  first | exact Imp.refl _ | exact Imp.drop | exact Imp.fin | ((repeat (refine Imp.pick ?_)); first | exact Imp.refl _ | exact Imp.emp _ | exact Imp.fin)
theorem lblank_spec {W : World} {R : HProp} {a : Option Addr} {n c : Nat} {l : List Int} [ro : RowN W R a n 1 bytv l] (hl : l.length ≤ 16777216) :
    Does prog W f_log_blank ⟨[.slice a n c]⟩ R (Ret fun v G => v = .bool (zerosB l) ∧ G = R) := by
  refine f_log_blank.does _ ?_
  conv => whnf
  repeat' (first
    | (refine CallK.ret f_slices_ContainsFunc_S_byte_byte.ok (contains_spec f_log_blank_1.ok (fun b => lblank1_spec) hl) ?_; rintro v G ⟨rfl, rfl⟩; conv => whnf)
    | fail)
  refine Ret.eq ?_ (Imp.refl _)
  rw [Bool.not_not]
end Go.Proofs.YtgcknlpkhhpkjaaGreatDoor
/- A page as bytes, in plain words: laying it down, reading it back. No condition. -/
namespace Go.SL.Pg
open Go Go.SL Go.SL.Sec Go.SL.Fld Go.SL.Rec
open Go.Proofs.YtgcknlpkhhpkjaaGreatDoor (zerosB)
/-- A page. -/
structure PgM where
  num : Int
  lsn : Int
  C : List CntV
  G : List GrpV
  deriving DecidableEq
def PgM.no : PgM := ⟨0, 0, [], []⟩
def cntF (c : CntV) : Int := if ¬ ((1 ≤ c.id ∧ c.id ≤ 1048576) ∧ (1 ≤ c.grp ∧ c.grp ≤ 1048576)) then 23 else if c.lo > c.hi then 11 else 0
def grpF (g : GrpV) : Int := if ¬ (1 ≤ g.id ∧ g.id ≤ 1048576) then 23 else 0
/-- The first that is not right. -/
def firstF {α : Type} (f : α → Int) : List α → Int
  | [] => 0
  | c :: l => if f c ≠ 0 then f c else firstF f l
def contF (C : List CntV) (G : List GrpV) : Int := if firstF cntF C ≠ 0 then firstF cntF C else firstF grpF G
/-- Why a page can't be written. -/
def PgM.fault (p : PgM) : Int :=
  if ¬ (0 ≤ p.num ∧ p.num ≤ 63) then 4 else if p.C.length > 0 ∧ p.G.length > 0 then 70 else if p.C.length > 31 ∨ p.G.length > 84 then 6 else
  if ¬ (0 ≤ p.lsn ∧ p.lsn ≤ 2147483647) ∨ ¬ (p.lsn = 0 ↔ p.C.length + p.G.length = 0) then 23 else contF p.C p.G
/-- A number of 64 bits, without and with a sign. -/
def u64 (z : Int) : Int := z % 18446744073709551616
def s64 (z : Int) : Int := if z < 9223372036854775808 then z else z - 18446744073709551616
def In64 (z : Int) : Prop := -9223372036854775808 ≤ z ∧ z ≤ 9223372036854775807
theorem s64_u64 {z : Int} (h : In64 z) : s64 (u64 z) = z := by unfold s64 u64; unfold In64 at h; split <;> omega
theorem u64_bd (z : Int) : 0 ≤ u64 z ∧ u64 z < 18446744073709551616 := by unfold u64; omega
theorem s64_bd {z : Int} (h : 0 ≤ z ∧ z < 18446744073709551616) : In64 (s64 z) := by unfold s64 In64; split <;> omega
/-- All numbers have 64 bits. -/
def CntIn (c : CntV) : Prop := In64 c.id ∧ In64 c.grp ∧ In64 c.lo ∧ In64 c.hi ∧ In64 c.val
def GrpIn (g : GrpV) : Prop := In64 g.id ∧ In64 g.sum
structure PgM.In (p : PgM) : Prop where
  num : In64 p.num
  lsn : In64 p.lsn
  C : ∀ c ∈ p.C, CntIn c
  G : ∀ g ∈ p.G, GrpIn g
/-- Numbers one behind the other: their sizes and they. -/
def lays : List (Nat × Int) → List Int
  | [] => []
  | p :: l => Fld.leB p.1 p.2 ++ lays l
def laysN : List (Nat × Int) → Nat
  | [] => 0
  | p :: l => p.1 + laysN l
theorem lays_len : ∀ l : List (Nat × Int), (lays l).length = laysN l
  | [] => rfl
  | p :: l => by rw [lays, laysN, List.length_append, leB_len, lays_len l]
theorem lays_byt : ∀ l : List (Nat × Int), Byt (lays l)
  | [] => Byt.nil
  | _ :: l => (leB_byt _ _).append (lays_byt l)
/-- Bytes laid over others. -/
def over (b : List Int) (at_ : Nat) (x : List Int) : List Int := b.take at_ ++ x ++ b.drop (at_ + x.length)
theorem over_len {b x : List Int} {at_ : Nat} (h : at_ + x.length ≤ b.length) : (over b at_ x).length = b.length := by
  unfold over; rw [List.length_append, List.length_append, List.length_take, List.length_drop]; omega
theorem over_nil (b : List Int) (at_ : Nat) : over b at_ [] = b := by simp [over]
theorem over_over {b x y : List Int} {at_ : Nat} (h : at_ + x.length ≤ b.length) : over (over b at_ x) (at_ + x.length) y = over b at_ (x ++ y) := by
  unfold over
  have h1 : (b.take at_ ++ x).length = at_ + x.length := by rw [List.length_append, List.length_take]; omega
  have e1 : (b.take at_ ++ x ++ b.drop (at_ + x.length)).take (at_ + x.length) = b.take at_ ++ x := by
    rw [← h1]; exact List.take_left
  have e2 : (b.take at_ ++ x ++ b.drop (at_ + x.length)).drop (at_ + x.length + y.length) = b.drop (at_ + (x ++ y).length) := by
    rw [← List.drop_drop, show (b.take at_ ++ x ++ b.drop (at_ + x.length)).drop (at_ + x.length) = b.drop (at_ + x.length) by rw [← h1]; exact List.drop_left, List.drop_drop, List.length_append, Nat.add_assoc]
  rw [e1, e2, List.append_assoc, List.append_assoc, List.append_assoc, List.append_assoc]
theorem putB_over (b : List Int) (at_ size : Nat) (n : Int) : putB b at_ size n = over b at_ (Fld.leB size n) := by
  unfold putB over; rw [leB_len]
theorem over_byt {b x : List Int} {at_ : Nat} (h : Byt b) (k : Byt x) : Byt (over b at_ x) := ((h.take _).append k).append (h.drop _)
/-- A counter's, a group's bytes. -/
def cntL (c : CntV) : List (Nat × Int) := [(4, u64 c.id), (4, u64 c.grp), (8, u64 c.lo), (8, u64 c.hi), (8, u64 c.val)]
def grpL (g : GrpV) : List (Nat × Int) := [(4, u64 g.id), (8, u64 g.sum)]
def PgM.headL (p : PgM) : List (Nat × Int) := [(1, 113), (1, if p.G.length > 0 then 2 else 1), (2, u64 p.num), (2, ((p.C.length + p.G.length : Nat) : Int)), (2, 0), (4, u64 p.lsn)]
def PgM.body (p : PgM) : List Int := (p.C.flatMap fun c => lays (cntL c)) ++ p.G.flatMap fun g => lays (grpL g)
def z1024 : List Int := List.replicate 1024 0
theorem z1024_eq : z1024 = List.replicate 1024 0 := rfl
theorem z1024_len : z1024.length = 1024 := List.length_replicate
theorem z1024_byt : Byt z1024 := Byt.rep 1024
/-- A page's bytes but for the checksum. -/
def PgM.bare (p : PgM) : List Int := over (over z1024 0 (lays p.headL)) 16 p.body
def sumP (b : List Int) : Int := crcV (b.take 12 ++ [0, 0, 0, 0] ++ b.drop 16)
/-- A page's bytes. -/
def encP (p : PgM) : List Int := if p.C.length + p.G.length = 0 then z1024 else over p.bare 12 (Fld.leB 4 (sumP p.bare))
theorem flat_len {α : Type} {f : α → List Int} {m : Nat} (h : ∀ x, (f x).length = m) : ∀ l : List α, (l.flatMap f).length = l.length * m
  | [] => by simp
  | x :: l => by rw [List.flatMap_cons, List.length_append, h, flat_len h l, List.length_cons, Nat.succ_mul]; omega
theorem flat_drop {α : Type} {f : α → List Int} {m : Nat} (h : ∀ x, (f x).length = m) : ∀ (l : List α) (i : Nat), (l.flatMap f).drop (i * m) = (l.drop i).flatMap f
  | l, 0 => by simp
  | [], i + 1 => by simp
  | x :: l, i + 1 => by
    rw [List.flatMap_cons, List.drop_succ_cons, ← flat_drop h l i, show (i + 1) * m = (f x).length + i * m by rw [h, Nat.succ_mul]; omega, ← List.drop_drop, List.drop_left]
theorem cntL_len (c : CntV) : (lays (cntL c)).length = 32 := by rw [lays_len]; rfl
theorem grpL_len (g : GrpV) : (lays (grpL g)).length = 12 := by rw [lays_len]; rfl
theorem headL_len (p : PgM) : (lays p.headL).length = 12 := by rw [lays_len]; rfl
theorem flat_byt {α : Type} {f : α → List Int} (h : ∀ x, Byt (f x)) : ∀ l : List α, Byt (l.flatMap f)
  | [] => Byt.nil
  | x :: l => by rw [List.flatMap_cons]; exact (h x).append (flat_byt h l)
theorem body_byt (p : PgM) : Byt p.body := (flat_byt (fun _ => lays_byt _) _).append (flat_byt (fun _ => lays_byt _) _)
theorem body_len (p : PgM) : p.body.length = p.C.length * 32 + p.G.length * 12 := by
  unfold PgM.body; rw [List.length_append, flat_len cntL_len, flat_len grpL_len]
/-- Reading. -/
def cntD (b : List Int) (i : Nat) : CntV := ⟨getB b (16 + i * 32) 4, getB b (16 + i * 32 + 4) 4, s64 (getB b (16 + i * 32 + 8) 8), s64 (getB b (16 + i * 32 + 16) 8), s64 (getB b (16 + i * 32 + 24) 8)⟩
def grpD (b : List Int) (i : Nat) : GrpV := ⟨getB b (16 + i * 12) 4, s64 (getB b (16 + i * 12 + 4) 8)⟩
def cntsD (b : List Int) (n : Nat) : List CntV := (List.range n).map (cntD b)
def grpsD (b : List Int) (n : Nat) : List GrpV := (List.range n).map (grpD b)
def pgD (b : List Int) (number : Int) : PgM :=
  if getB b 1 1 = 2 then ⟨number, getB b 8 4, [], grpsD b (getB b 4 2).toNat⟩ else ⟨number, getB b 8 4, cntsD b (getB b 4 2).toNat, []⟩
def szD (b : List Int) : Nat := if getB b 1 1 = 2 then 12 else 32
def decP (b : List Int) (number : Int) : Int × PgM :=
  if ¬ (0 ≤ number ∧ number ≤ 63) then (4, .no) else if b.length ≠ 1024 then (42, .no) else if zerosB b = true then (0, ⟨number, 0, [], []⟩) else
  if getB b 0 1 ≠ 113 then (80, .no) else if getB b 1 1 ≠ 1 ∧ getB b 1 1 ≠ 2 then (70, .no) else
  if getB b 12 4 ≠ sumP b then (81, .no) else if getB b 2 2 ≠ number then (82, .no) else
  if ¬ (1 ≤ getB b 4 2 ∧ getB b 4 2 ≤ if getB b 1 1 = 2 then 84 else 31) ∨ ¬ (1 ≤ getB b 8 4 ∧ getB b 8 4 ≤ 2147483647) then (23, .no) else
  if contF (pgD b number).C (pgD b number).G ≠ 0 then (contF (pgD b number).C (pgD b number).G, .no) else
  if getB b 6 2 ≠ 0 ∨ zerosB (b.drop (16 + (getB b 4 2).toNat * szD b)) = false then (23, .no) else (0, pgD b number)
end Go.SL.Pg
/- What a page's bytes say is the page. Conditions: in each statement. -/
namespace Go.SL.Pg
open Go Go.SL Go.SL.Sec Go.SL.Fld Go.SL.Rec
open Go.Proofs.YtgcknlpkhhpkjaaGreatDoor (zerosB)
theorem getB_drop (b : List Int) (a m k : Nat) : getB b (a + m) k = getB (b.drop a) m k := by unfold getB; rw [List.drop_drop]
theorem getB_head {k : Nat} {n : Int} {y : List Int} (h0 : 0 ≤ n) (h1 : n < 256 ^ k) : getB (Fld.leB k n ++ y) 0 k = n := by
  unfold getB
  rw [List.drop_zero, List.take_append_of_le_length (by rw [leB_len]; exact Nat.le_refl _), List.take_of_length_le (by rw [leB_len]; exact Nat.le_refl _), leV_leB _ _ h0 h1]
theorem lays_get : ∀ (l : List (Nat × Int)) (i : Nat) (k : Nat) (n : Int) (y : List Int), l[i]? = some (k, n) → 0 ≤ n → n < 256 ^ k → getB (lays l ++ y) (laysN (l.take i)) k = n
  | [], _, _, _, _, h, _, _ => by simp at h
  | q :: l, 0, k, n, y, h, h0, h1 => by
    simp at h; subst h
    rw [lays, List.append_assoc]
    exact getB_head h0 h1
  | q :: l, i + 1, k, n, y, h, h0, h1 => by
    rw [List.take_succ_cons, laysN, lays, List.append_assoc, getB_drop]
    have e : (Fld.leB q.1 q.2 ++ (lays l ++ y)).drop q.1 = lays l ++ y := by
      conv => lhs; arg 1; rw [← leB_len q.1 q.2]
      exact List.drop_left
    rw [e]
    exact lays_get l i k n y (by simpa using h) h0 h1
def PgM.rest (p : PgM) : List Int := p.body ++ z1024.drop (16 + p.body.length)
def PgM.flat (p : PgM) (s : List Int) : List Int := lays p.headL ++ (s ++ p.rest)
theorem bare_flat {p : PgM} (h : 16 + p.body.length ≤ 1024) : p.bare = p.flat [0, 0, 0, 0] := by
  have hl := headL_len p
  have e1 : over z1024 0 (lays p.headL) = lays p.headL ++ z1024.drop 12 := by
    unfold over; rw [List.take_zero, List.nil_append, Nat.zero_add, hl]
  unfold PgM.bare PgM.flat PgM.rest
  rw [e1]
  unfold over
  have e2 : (lays p.headL ++ z1024.drop 12).take 16 = lays p.headL ++ [0, 0, 0, 0] := by
    rw [show 16 = (lays p.headL).length + 4 by omega, List.take_length_add_append]
    congr 1
  have e3 : (lays p.headL ++ z1024.drop 12).drop (16 + p.body.length) = z1024.drop (16 + p.body.length) := by
    rw [show 16 + p.body.length = (lays p.headL).length + (4 + p.body.length) by omega, List.drop_length_add_append, List.drop_drop]
    congr 1
  rw [e2, e3, List.append_assoc, List.append_assoc]
theorem flat_take {p : PgM} {s : List Int} : (p.flat s).take 12 = lays p.headL := by
  unfold PgM.flat; rw [← headL_len p]; exact List.take_left
theorem flat_d12 {p : PgM} {s : List Int} : (p.flat s).drop 12 = s ++ p.rest := by
  unfold PgM.flat
  conv => lhs; arg 1; rw [← headL_len p]
  exact List.drop_left
theorem flat_drop16 {p : PgM} {s : List Int} (hs : s.length = 4) : (p.flat s).drop 16 = p.rest := by
  rw [show 16 = 12 + 4 from rfl, ← List.drop_drop, flat_d12, ← hs]
  exact List.drop_left
theorem flat_sum {p : PgM} {s : List Int} (hs : s.length = 4) : sumP (p.flat s) = sumP (p.flat [0, 0, 0, 0]) := by
  unfold sumP; rw [flat_take, flat_take, flat_drop16 hs, flat_drop16 rfl]
theorem flat_over {p : PgM} {s t : List Int} (hs : s.length = 4) (ht : t.length = 4) : over (p.flat s) 12 t = p.flat t := by
  unfold over
  rw [flat_take, ht, flat_drop16 hs, List.append_assoc]; rfl
theorem enc_flat {p : PgM} (h : 16 + p.body.length ≤ 1024) (hn : p.C.length + p.G.length ≠ 0) : encP p = p.flat (Fld.leB 4 (sumP (p.flat [0, 0, 0, 0]))) := by
  unfold encP
  rw [if_neg hn, bare_flat h, flat_over rfl (leB_len _ _)]
theorem PgM.flat_len {p : PgM} {s : List Int} (h : 16 + p.body.length ≤ 1024) (hs : s.length = 4) : (p.flat s).length = 1024 := by
  unfold PgM.flat PgM.rest
  rw [List.length_append, List.length_append, List.length_append, List.length_drop, headL_len, hs, z1024_len]; omega
theorem PgM.flat_byt {p : PgM} {s : List Int} (hs : Byt s) : Byt (p.flat s) := (lays_byt _).append (hs.append ((body_byt p).append (z1024_byt.drop _)))
theorem PgM.fault_ok {p : PgM} (h : p.fault = 0) : (0 ≤ p.num ∧ p.num ≤ 63) ∧ ¬ (p.C.length > 0 ∧ p.G.length > 0) ∧ (p.C.length ≤ 31 ∧ p.G.length ≤ 84) ∧ (0 ≤ p.lsn ∧ p.lsn ≤ 2147483647) ∧ (p.lsn = 0 ↔ p.C.length + p.G.length = 0) ∧ contF p.C p.G = 0 := by
  unfold PgM.fault at h
  split at h
  · exact absurd h (by decide)
  split at h
  · exact absurd h (by decide)
  split at h
  · exact absurd h (by decide)
  split at h
  · exact absurd h (by decide)
  rename_i h1 h2 h3 h4
  exact ⟨Decidable.not_not.1 h1, h2, by omega, Decidable.not_not.1 fun k => h4 (.inl k), Decidable.not_not.1 fun k => h4 (.inr k), h⟩
theorem PgM.body_le {p : PgM} (h : p.fault = 0) : 16 + p.body.length ≤ 1024 := by
  obtain ⟨_, h2, h3, _⟩ := PgM.fault_ok h
  rw [body_len]; omega
theorem encP_len {p : PgM} (h : p.fault = 0) : (encP p).length = 1024 := by
  by_cases hn : p.C.length + p.G.length = 0
  · unfold encP; rw [if_pos hn]; exact z1024_len
  · rw [enc_flat (PgM.body_le h) hn]; exact PgM.flat_len (PgM.body_le h) (leB_len _ _)
theorem encP_byt {p : PgM} (h : p.fault = 0) : Byt (encP p) := by
  by_cases hn : p.C.length + p.G.length = 0
  · unfold encP; rw [if_pos hn]; exact z1024_byt
  · rw [enc_flat (PgM.body_le h) hn]; exact PgM.flat_byt (leB_byt _ _)
theorem zerosB_rep (n : Nat) : zerosB (List.replicate n 0) = true := by
  unfold zerosB; rw [List.all_eq_true]; intro x hx; rw [List.eq_of_mem_replicate hx]; rfl
theorem zerosB_z (n : Nat) : zerosB (z1024.drop n) = true := by
  rw [z1024_eq, List.drop_replicate]; exact zerosB_rep _
theorem range_map {α : Type} (f : Nat → α) (l : List α) (h : ∀ i x, l[i]? = some x → f i = x) : (List.range l.length).map f = l := by
  apply List.ext_getElem?
  intro i
  rw [List.getElem?_map]
  by_cases hi : i < l.length
  · rw [List.getElem?_range hi, List.getElem?_eq_getElem hi]
    exact congrArg some (h i _ (List.getElem?_eq_getElem hi))
  · rw [List.getElem?_eq_none (by simp; omega), List.getElem?_eq_none (by omega)]; rfl
theorem crc_bd (l : List Int) : 0 ≤ crcV l ∧ crcV l < 4294967296 := by
  unfold crcV
  have := (~~~ (crcL (BitVec.allOnes 32) l)).isLt
  omega
theorem u64_small {z : Int} (h : 0 ≤ z ∧ z ≤ 9223372036854775807) : u64 z = z := by unfold u64; omega
theorem firstF_mem {α : Type} {f : α → Int} : ∀ {l : List α}, firstF f l = 0 → ∀ x ∈ l, f x = 0
  | [], _, x, h => by cases h
  | c :: l, h, x, hx => by
    unfold firstF at h
    split at h
    · rename_i k; exact absurd h k
    · rename_i k
      rcases List.mem_cons.1 hx with rfl | hx
      · exact Decidable.not_not.1 k
      · exact firstF_mem h x hx
theorem contF_mem {C : List CntV} {G : List GrpV} (h : contF C G = 0) : (∀ c ∈ C, cntF c = 0) ∧ ∀ g ∈ G, grpF g = 0 := by
  unfold contF at h
  split at h
  · rename_i k; exact absurd h k
  · rename_i k; exact ⟨firstF_mem (Decidable.not_not.1 k), firstF_mem h⟩
theorem cntF_ok {c : CntV} (h : cntF c = 0) : (1 ≤ c.id ∧ c.id ≤ 1048576) ∧ (1 ≤ c.grp ∧ c.grp ≤ 1048576) ∧ c.lo ≤ c.hi := by
  unfold cntF at h
  split at h
  · exact absurd h (by decide)
  · split at h
    · exact absurd h (by decide)
    · rename_i h1 h2
      have := Decidable.not_not.1 h1
      exact ⟨this.1, this.2, by omega⟩
theorem grpF_ok {g : GrpV} (h : grpF g = 0) : 1 ≤ g.id ∧ g.id ≤ 1048576 := by
  unfold grpF at h
  split at h
  · exact absurd h (by decide)
  · rename_i h1; exact Decidable.not_not.1 h1
theorem p4 : (256 : Int) ^ 4 = 4294967296 := by decide
theorem p8 : (256 : Int) ^ 8 = 18446744073709551616 := by decide
theorem p2 : (256 : Int) ^ 2 = 65536 := by decide
theorem p1 : (256 : Int) ^ 1 = 256 := by decide
theorem cnt_at {p : PgM} {s : List Int} (hs : s.length = 4) (hl : 16 + p.body.length ≤ 1024) (hG : p.G = []) {i : Nat} {c : CntV} (h : p.C[i]? = some c) : ∃ y, (p.flat s).drop (16 + i * 32) = lays (cntL c) ++ y := by
  have hi := (List.getElem?_eq_some_iff.1 h).1
  rw [← List.drop_drop, flat_drop16 hs]
  unfold PgM.rest PgM.body
  rw [hG, List.flatMap_nil, List.append_nil, List.drop_append_of_le_length (by rw [flat_len cntL_len]; omega), flat_drop cntL_len, drop_of h, List.flatMap_cons, List.append_assoc]
  exact ⟨_, rfl⟩
theorem grp_at {p : PgM} {s : List Int} (hs : s.length = 4) (hC : p.C = []) {i : Nat} {g : GrpV} (h : p.G[i]? = some g) : ∃ y, (p.flat s).drop (16 + i * 12) = lays (grpL g) ++ y := by
  have hi := (List.getElem?_eq_some_iff.1 h).1
  rw [← List.drop_drop, flat_drop16 hs]
  unfold PgM.rest PgM.body
  rw [hC, List.flatMap_nil, List.nil_append, List.drop_append_of_le_length (by rw [flat_len grpL_len]; omega), flat_drop grpL_len, drop_of h, List.flatMap_cons, List.append_assoc]
  exact ⟨_, rfl⟩
theorem cntD_of {b : List Int} {i : Nat} {c : CntV} {y : List Int} (h : b.drop (16 + i * 32) = lays (cntL c) ++ y) (hi : CntIn c) (hf : cntF c = 0) : cntD b i = c := by
  obtain ⟨h1, h2, h3⟩ := cntF_ok hf
  obtain ⟨i1, i2, i3, i4, i5⟩ := hi
  have b3 := u64_bd c.lo
  have b4 := u64_bd c.hi
  have b5 := u64_bd c.val
  have e1 := lays_get (cntL c) 0 4 (u64 c.id) y rfl (by rw [u64_small (by omega)]; omega) (by rw [u64_small (by omega), p4]; omega)
  have e2 := lays_get (cntL c) 1 4 (u64 c.grp) y rfl (by rw [u64_small (by omega)]; omega) (by rw [u64_small (by omega), p4]; omega)
  have e3 := lays_get (cntL c) 2 8 (u64 c.lo) y rfl b3.1 (by rw [p8]; exact b3.2)
  have e4 := lays_get (cntL c) 3 8 (u64 c.hi) y rfl b4.1 (by rw [p8]; exact b4.2)
  have e5 := lays_get (cntL c) 4 8 (u64 c.val) y rfl b5.1 (by rw [p8]; exact b5.2)
  unfold cntD
  rw [show 16 + i * 32 = (16 + i * 32) + 0 from rfl, getB_drop, Nat.add_zero, getB_drop b _ 4, getB_drop b _ 8, getB_drop b _ 16, getB_drop b _ 24, h]
  rw [show laysN ((cntL c).take 0) = 0 from rfl] at e1
  rw [show laysN ((cntL c).take 1) = 4 from rfl] at e2
  rw [show laysN ((cntL c).take 2) = 8 from rfl] at e3
  rw [show laysN ((cntL c).take 3) = 16 from rfl] at e4
  rw [show laysN ((cntL c).take 4) = 24 from rfl] at e5
  rw [e1, e2, e3, e4, e5, s64_u64 i3, s64_u64 i4, s64_u64 i5, u64_small (by omega), u64_small (by omega)]
theorem grpD_of {b : List Int} {i : Nat} {g : GrpV} {y : List Int} (h : b.drop (16 + i * 12) = lays (grpL g) ++ y) (hi : GrpIn g) (hf : grpF g = 0) : grpD b i = g := by
  have h1 := grpF_ok hf
  have b2 := u64_bd g.sum
  have e1 := lays_get (grpL g) 0 4 (u64 g.id) y rfl (by rw [u64_small (by omega)]; omega) (by rw [u64_small (by omega), p4]; omega)
  have e2 := lays_get (grpL g) 1 8 (u64 g.sum) y rfl b2.1 (by rw [p8]; exact b2.2)
  unfold grpD
  rw [show 16 + i * 12 = (16 + i * 12) + 0 from rfl, getB_drop, Nat.add_zero, getB_drop b _ 4, h]
  rw [show laysN ((grpL g).take 0) = 0 from rfl] at e1
  rw [show laysN ((grpL g).take 1) = 4 from rfl] at e2
  rw [e1, e2, s64_u64 hi.2, u64_small (by omega)]
/-- A blank page. -/
theorem dec_zero {n : Int} (hn : 0 ≤ n ∧ n ≤ 63) : decP z1024 n = (0, ⟨n, 0, [], []⟩) := by
  unfold decP
  rw [if_neg (fun k => k hn), if_neg (fun k => k z1024_len), if_pos (show zerosB z1024 = true from zerosB_rep 1024)]
theorem dec_enc {p : PgM} (h : p.fault = 0) (hi : p.In) : decP (encP p) p.num = (0, p) := by
  obtain ⟨h1, h2, h3, h4, h5, h6⟩ := PgM.fault_ok h
  obtain ⟨cC, cG⟩ := contF_mem h6
  by_cases hn : p.C.length + p.G.length = 0
  · have hC : p.C = [] := List.eq_nil_of_length_eq_zero (by omega)
    have hG : p.G = [] := List.eq_nil_of_length_eq_zero (by omega)
    unfold encP
    rw [if_pos hn, dec_zero h1]
    have : p.lsn = 0 := h5.2 hn
    rw [← this, ← hC]
    conv => lhs; rw [show p.C = p.C from rfl]
    obtain ⟨num, lsn, C, G⟩ := p
    simp at hC hG
    subst hC hG
    rfl
  have hl := PgM.body_le h
  have hpos : 1 ≤ p.lsn := by
    have : p.lsn ≠ 0 := fun k => hn (h5.1 k)
    omega
  rw [enc_flat hl hn]
  obtain ⟨S, hS⟩ : ∃ S, S = Fld.leB 4 (sumP (p.flat [0, 0, 0, 0])) := ⟨_, rfl⟩
  have hSl : S.length = 4 := by rw [hS]; exact leB_len _ _
  have hsum : sumP (p.flat S) = sumP (p.flat [0, 0, 0, 0]) := flat_sum hSl
  have hcrc : 0 ≤ sumP (p.flat [0, 0, 0, 0]) ∧ sumP (p.flat [0, 0, 0, 0]) < 4294967296 := crc_bd _
  have g12 : getB (p.flat S) 12 4 = sumP (p.flat [0, 0, 0, 0]) := by
    rw [show 12 = 12 + 0 from rfl, getB_drop, flat_d12, hS]
    exact getB_head hcrc.1 (by rw [p4]; exact hcrc.2)
  rw [← hS]
  have hd : ∀ i k n, p.headL[i]? = some (k, n) → 0 ≤ n → n < 256 ^ k → getB (p.flat S) (laysN (p.headL.take i)) k = n := fun i k n a b c => lays_get p.headL i k n (S ++ p.rest) a b c
  obtain ⟨kd, hkd⟩ : ∃ kd : Int, kd = if p.G.length > 0 then 2 else 1 := ⟨_, rfl⟩
  have hk2 : kd = 1 ∨ kd = 2 := by rw [hkd]; split <;> omega
  have g0 : getB (p.flat S) 0 1 = 113 := hd 0 1 113 rfl (by decide) (by decide)
  have g1 : getB (p.flat S) 1 1 = kd := hd 1 1 kd (by rw [hkd]; rfl) (by omega) (by rw [p1]; omega)
  have g2 : getB (p.flat S) 2 2 = p.num := by
    have := hd 2 2 (u64 p.num) rfl (u64_bd _).1 (by rw [u64_small (by omega), p2]; omega)
    rw [u64_small (z := p.num) (by omega)] at this; exact this
  have g4 : getB (p.flat S) 4 2 = ((p.C.length + p.G.length : Nat) : Int) := hd 3 2 _ rfl (by omega) (by rw [p2]; omega)
  have g6 : getB (p.flat S) 6 2 = 0 := hd 4 2 0 rfl (by decide) (by decide)
  have g8 : getB (p.flat S) 8 4 = p.lsn := by
    have := hd 5 4 (u64 p.lsn) rfl (u64_bd _).1 (by rw [u64_small (by omega), p4]; omega)
    rw [u64_small (z := p.lsn) (by omega)] at this; exact this
  have hz : zerosB (p.flat S) ≠ true := fun k => by
    have hm : (113 : Int) ∈ p.flat S := List.mem_append_left _ (by unfold PgM.headL lays Fld.leB; simp)
    unfold zerosB at k
    have := of_decide_eq_true (List.all_eq_true.1 k _ hm)
    exact absurd this (by decide)
  have hb : pgD (p.flat S) p.num = p := by
    unfold pgD
    rw [g1, g8, g4, Int.toNat_natCast]
    by_cases hg : p.G.length > 0
    · have hC : p.C = [] := List.eq_nil_of_length_eq_zero (by omega)
      rw [if_pos (by rw [hkd, if_pos hg]), hC, List.length_nil, Nat.zero_add]
      have : grpsD (p.flat S) p.G.length = p.G := range_map _ _ fun i g hx => by
        obtain ⟨y, hy⟩ := grp_at hSl hC hx
        exact grpD_of hy (hi.G g (List.mem_of_getElem? hx)) (cG g (List.mem_of_getElem? hx))
      rw [this]
      obtain ⟨num, lsn, C, G⟩ := p
      simp at hC
      subst hC
      rfl
    · have hG : p.G = [] := List.eq_nil_of_length_eq_zero (by omega)
      rw [if_neg (by rw [hkd, if_neg hg]; decide), hG, List.length_nil, Nat.add_zero]
      have : cntsD (p.flat S) p.C.length = p.C := range_map _ _ fun i c hx => by
        obtain ⟨y, hy⟩ := cnt_at hSl hl hG hx
        exact cntD_of hy (hi.C c (List.mem_of_getElem? hx)) (cC c (List.mem_of_getElem? hx))
      rw [this]
      obtain ⟨num, lsn, C, G⟩ := p
      simp at hG
      subst hG
      rfl
  have hend : zerosB ((p.flat S).drop (16 + (p.C.length + p.G.length) * szD (p.flat S))) = true := by
    have e : 16 + (p.C.length + p.G.length) * szD (p.flat S) = 16 + p.body.length := by
      unfold szD
      rw [g1, body_len]
      by_cases hg : p.G.length > 0
      · rw [if_pos (by rw [hkd, if_pos hg])]; omega
      · rw [if_neg (by rw [hkd, if_neg hg]; decide)]; omega
    rw [e, ← List.drop_drop, flat_drop16 hSl]
    unfold PgM.rest
    rw [List.drop_left]
    exact zerosB_z _
  unfold decP
  rw [if_neg (fun k => k h1), if_neg (fun k => k (PgM.flat_len hl hSl)), if_neg hz, if_neg (fun k => k g0), if_neg (by rw [g1]; omega), if_neg (by rw [g12, hsum]; exact fun k => k rfl), if_neg (fun k => k g2)]
  rw [if_neg (by
    rw [g4, g1, g8, hkd]
    split
    · simp
      omega
    · simp
      omega)]
  rw [hb, if_neg (fun k => k h6), g4, Int.toNat_natCast, if_neg (by rw [g6, hend]; decide)]
end Go.SL.Pg
