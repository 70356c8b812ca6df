/- The rules once more, their side conditions found by instances. No condition. -/
import Derived.Test.YtacpnjlijjgbmaaGreatDoorVec
namespace Go.SL
open Go

class LAt (l : List Value) (off : Nat) (v : outParam Value) : Prop where h : l[off]? = some v
instance LAt.zero {x : Value} {l : List Value} : LAt (x :: l) 0 x := ⟨rfl⟩
instance LAt.succ {x v : Value} {l : List Value} {n : Nat} [i : LAt l n v] : LAt (x :: l) (n + 1) v := ⟨by simpa using i.h⟩
class LTake (l : List Value) (n : Nat) (vs : outParam (List Value)) : Prop where h : l.take n = vs ∧ vs.length = n
instance LTake.zero {l : List Value} : LTake l 0 [] := ⟨rfl, rfl⟩
instance LTake.succ {x : Value} {l vs : List Value} {n : Nat} [i : LTake l n vs] : LTake (x :: l) (n + 1) (x :: vs) := ⟨by simp [i.h.1], by simp [i.h.2]⟩
class LSub (l : List Value) (off n : Nat) (vs : outParam (List Value)) : Prop where h : (l.drop off).take n = vs ∧ vs.length = n
instance LSub.zero {l vs : List Value} {n : Nat} [i : LTake l n vs] : LSub l 0 n vs := ⟨i.h⟩
instance LSub.succ {x : Value} {l vs : List Value} {off n : Nat} [i : LSub l off n vs] : LSub (x :: l) (off + 1) n vs := ⟨by simpa using i.h⟩

class RdC (W : World) (H : HProp) (a : Addr) (v : outParam Value) : Prop where h : Rd W H a v
section
variable {P : Program} {W : World} {T : Tab} {H R X : HProp} {b off : Nat} {l : List Value} {t : TypeId} {fz : Nat × Nat} {v : Value} {a : Addr}
instance (priority := 90) RdC.there [i : RdC W R a v] : RdC W (X • R) a v := ⟨i.h.there⟩
instance (priority := 100) RdC.here [i : LAt l off v] : RdC W (pts b (.cells ⟨l⟩ t fz) • R) ⟨b, off, none⟩ v := ⟨Rd.pts i.h⟩
instance RdC.last [i : LAt l off v] : RdC W (pts b (.cells ⟨l⟩ t fz)) ⟨b, off, none⟩ v := ⟨Rd.last i.h⟩
theorem Ld.i {K : Value → Prop} [i : RdC W H a v] (k : K v) : Ld W H a K := ⟨v, i.h, k⟩

class RdLC (W : World) (H : HProp) (b off n : Nat) (vs : outParam (List Value)) : Prop where h : RdL W H b off vs ∧ vs.length = n
instance (priority := 90) RdLC.there {n : Nat} {vs : List Value} [i : RdLC W R b off n vs] : RdLC W (X • R) b off n vs := ⟨i.h.1.there, i.h.2⟩
instance (priority := 100) RdLC.here {n : Nat} {vs : List Value} [i : LSub l off n vs] : RdLC W (pts b (.cells ⟨l⟩ t fz) • R) b off n vs := ⟨RdL.pts (n := n) i.h.1, i.h.2⟩
theorem LdN.i {n : Nat} {K : Value → Prop} {vs : List Value} [i : RdLC W H b off n vs] (k : K (.agg ⟨vs⟩)) : LdN W H ⟨b, off, none⟩ n K := LdN.cells i.h.1 i.h.2 k

class PtsC (H : HProp) (b : Nat) (o : outParam Obj) (R : outParam HProp) : Prop where h : Take H (pts b o) R
instance (priority := 90) PtsC.there {o : Obj} [i : PtsC H b o R] : PtsC (X • H) b o (X • R) := ⟨i.h.there⟩
instance (priority := 100) PtsC.here {o : Obj} : PtsC (pts b o • R) b o R := ⟨.here⟩
instance PtsC.last {o : Obj} : PtsC (pts b o) b o emp := ⟨.last⟩
theorem St.i {vs : List Value} {n : Nat} {K : HProp → Prop} [i : PtsC H b (.cells ⟨l⟩ t (0, 0)) R] (hv : vs.length = n ∧ vs.all (·.oneCell') = true) (hne : vs ≠ [])
    (h : setL l off vs fun l' => K (pts b (.cells ⟨l'⟩ t (0, 0)) • R)) : Req (vs.length = n ∧ vs.all (·.oneCell') = true) (St P W H ⟨b, off, none⟩ vs K) := ⟨hv, St.lit i.h hne h⟩

class MapC (H : HProp) (r : Nat) (kk : outParam IntKind) (l : outParam (List (Int × Value))) (R : outParam HProp) : Prop where h : Take H (mapc r kk l) R
instance (priority := 90) MapC.there {r : Nat} {kk : IntKind} {l : List (Int × Value)} [i : MapC H r kk l R] : MapC (X • H) r kk l (X • R) := ⟨i.h.there⟩
instance (priority := 100) MapC.here {r : Nat} {kk : IntKind} {l : List (Int × Value)} : MapC (mapc r kk l • R) r kk l R := ⟨.here⟩
instance MapC.last {r : Nat} {kk : IntKind} {l : List (Int × Value)} : MapC (mapc r kk l) r kk l emp := ⟨.last⟩
theorem MapC.at' {r : Nat} {kk : IntKind} {l : List (Int × Value)} (i : MapC H r kk l R) : MapAt W H r kk l := by
  have := i.h.eq; subst this; exact MapAt.here

theorem zero_ex (hT : T.ok P) {t : TypeId} {r : TRow} (hr : T t = some r) : ∃ z, ∀ w, (zeroValue t).run P w = .ok z w := by
  obtain ⟨i, hi, _, _, hz, _⟩ := (hT _ _ hr).info
  exact ⟨_, fun w => by simp [zeroValue, typeInfo, hi, hz]; rfl⟩

/-- m[k] -/
theorem OpQ.lk (hT : T.ok P) {t kt et : TypeId} {k0 kk : IntKind} {m key : Operand} {ty : TypeId} {ev : Operand → Option Value} {K : Value → Prop} {r : Nat} {k : Int} {l : List (Int × Value)} {c1 c2 : List Value} {a1 a2 : Bool} {s1 s2 b1 b2 : Nat} {r3 : TRow}
    [i : MapC H r kk l R] (h1 : T t = some ⟨.map kt et, c1, a1, s1, b1⟩) (h2 : T kt = some ⟨.int k0, c2, a2, s2, b2⟩) (h3 : T et = some r3)
    (hm : ev m = some (.map (some r))) (hk : ev key = some (.int kk k))
    (yes : ∀ v, l.lookup k = some v → K v) (no : l.lookup k = none → zK r3 K) : OpQ P W (.lookup t m key false) ty ev H K := by
  cases hl : l.lookup k with
  | none =>
    obtain ⟨z, hz, hz'⟩ := zK_elim hT h3 (no hl)
    exact OpQ.lookup hT h1 rfl h2 rfl hz hm hk i.at' yes fun _ => hz'
  | some v =>
    obtain ⟨z, hz⟩ := zero_ex hT h3
    exact OpQ.lookup hT h1 rfl h2 rfl hz hm hk i.at' yes fun e => by rw [hl] at e; cases e
/-- v, ok := m[k] -/
theorem OpQ.lk2 (hT : T.ok P) {t kt et : TypeId} {k0 kk : IntKind} {m key : Operand} {ty : TypeId} {ev : Operand → Option Value} {K : Value → Prop} {r : Nat} {k : Int} {l : List (Int × Value)} {c1 c2 : List Value} {a1 a2 : Bool} {s1 s2 b1 b2 : Nat} {r3 : TRow}
    [i : MapC H r kk l R] (h1 : T t = some ⟨.map kt et, c1, a1, s1, b1⟩) (h2 : T kt = some ⟨.int k0, c2, a2, s2, b2⟩) (h3 : T et = some r3)
    (hm : ev m = some (.map (some r))) (hk : ev key = some (.int kk k))
    (yes : ∀ v, l.lookup k = some v → K (.tuple ⟨[v, .bool true]⟩)) (no : l.lookup k = none → zK r3 fun z => K (.tuple ⟨[z, .bool false]⟩)) : OpQ P W (.lookup t m key true) ty ev H K := by
  cases hl : l.lookup k with
  | none =>
    obtain ⟨z, hz, hz'⟩ := zK_elim hT h3 (no hl)
    exact OpQ.lookup_ok hT h1 rfl h2 rfl hz hm hk i.at' yes fun _ => hz'
  | some v =>
    obtain ⟨z, hz⟩ := zero_ex hT h3
    exact OpQ.lookup_ok hT h1 rfl h2 rfl hz hm hk i.at' yes fun e => by rw [hl] at e; cases e
/-- len(m) -/
theorem OpQ.lm (hT : T.ok P) {t kt et : TypeId} {x : Operand} {ty : TypeId} {ev : Operand → Option Value} {K : Value → Prop} {r : Nat} {kk : IntKind} {l : List (Int × Value)} {c1 : List Value} {a1 : Bool} {s1 b1 : Nat}
    [i : MapC H r kk l R] (h1 : T t = some ⟨.map kt et, c1, a1, s1, b1⟩) (hm : ev x = some (.map (some r))) (k : K (.int .i64 l.length)) :
    OpQ P W (.call ⟨.builtin .len, ⟨[x]⟩, ⟨[t]⟩⟩) ty ev H K := OpQ.len_map hT h1 rfl hm i.at' k
/-- m[k] = v -/
theorem OpX.up (hT : T.ok P) {t kt et : TypeId} {k0 kk : IntKind} {m key x : Operand} {ty : TypeId} {ev : Operand → Option Value} {K : Value → HProp → Prop} {Kp : List PanicEntry → HProp → Prop}
    {r : Nat} {k : Int} {v : Value} {l : List (Int × Value)} {c1 c2 : List Value} {a1 a2 : Bool} {s1 s2 b1 b2 : Nat}
    [i : MapC H r kk l R] (h1 : T t = some ⟨.map kt et, c1, a1, s1, b1⟩) (h2 : T kt = some ⟨.int k0, c2, a2, s2, b2⟩)
    (hm : ev m = some (.map (some r))) (hk : ev key = some (.int kk k)) (hv : ev x = some v)
    (hK : K undef (mapc r kk (updKV k v l) • R)) : OpX P W (.mapUpdate t m key x) ty ev H K Kp := OpX.update hT h1 rfl h2 rfl hm hk hv i.h hK
class TkC (H Y : HProp) (R : outParam HProp) : Prop where h : Take H Y R
instance (priority := 90) TkC.there {Y : HProp} [i : TkC H Y R] : TkC (X • H) Y (X • R) := ⟨i.h.there⟩
instance (priority := 100) TkC.here {Y : HProp} : TkC (Y • R) Y R := ⟨.here⟩
instance (priority := 80) TkC.assoc {A B Y : HProp} [i : TkC (A • B • H) Y R] : TkC ((A • B) • H) Y R := ⟨by rw [star_assoc]; exact i.h⟩
instance TkC.last {Y : HProp} : TkC Y Y emp := ⟨.last⟩
/-- The next chunk of the right side, wherever it stands on the left. -/
theorem Imp.pick {Y G : HProp} [i : TkC H Y R] (h : Imp R G) : Imp H (Y • G) := by rw [i.h.eq]; exact Imp.right h
theorem Imp.fin {Y : HProp} [i : TkC H Y R] : Imp H Y := by rw [i.h.eq]; exact Imp.drop_r
theorem Imp.exi {α : Sort _} {f : α → HProp} {G : HProp} (x : α) (h : Imp H (f x • G)) : Imp H (SL.ex f • G) := by rw [ex_star]; exact Imp.ex x h
theorem Imp.assoc {A B C : HProp} (h : Imp H (A • B • C)) : Imp H ((A • B) • C) := by rw [star_assoc]; exact h
theorem Imp.purei {p : Prop} {G : HProp} (hp : p) (h : Imp H G) : Imp H (SL.pure p • G) := Imp.pure hp h
theorem Imp.empi {G : HProp} (h : Imp H G) : Imp H (SL.emp • G) := by rw [emp_star]; exact h
theorem spl_t {b : Bool} {p q : Prop} (h : b = true) (k : p) : spl b p q := by subst h; exact k
theorem spl_f {b : Bool} {p q : Prop} (h : b = false) (k : q) : spl b p q := by subst h; exact k
end
end Go.SL
