/- Rules for single operations: cells, calls, maps with whole numbers as keys. No condition. -/
import Derived.Test.YtacpnjlijjgbmaaGreatDoorDraw
import Derived.IntWalk
namespace Go.SL
open Go

section
variable {P : Program} {W : World} {T : Tab}

theorem Rd.pts {b off : Nat} {l : List Value} {t : TypeId} {fz : Nat × Nat} {R : HProp} {v : Value} (h : l[off]? = some v) :
    Rd W (pts b (.cells ⟨l⟩ t fz) • R) ⟨b, off, none⟩ v := fun w hs => by simp [World.cell?, hs.at, h]
theorem Rd.last {b off : Nat} {l : List Value} {t : TypeId} {fz : Nat × Nat} {v : Value} (h : l[off]? = some v) :
    Rd W (SL.pts b (.cells ⟨l⟩ t fz)) ⟨b, off, none⟩ v := fun w hs => Rd.pts h w (by rw [star_emp]; exact hs)
theorem Rd.there {X R : HProp} {a : Addr} {v : Value} (h : Rd W R a v) : Rd W (X • R) a v := fun w hs => h w hs.right
theorem Rd.left {X R : HProp} {a : Addr} {v : Value} (h : Rd W X a v) : Rd W (X • R) a v := fun w hs => h w hs.left
theorem Rd.sub {H A : HProp} {a : Addr} {v : Value} (h : Rd W A a v) (hs : Sub W H A) : Rd W H a v := fun w h' => h w (hs w h')
theorem Ld.intro {H : HProp} {a : Addr} {K : Value → Prop} {v : Value} (h : Rd W H a v) (k : K v) : Ld W H a K := ⟨v, h, k⟩
theorem LdN.intro {H : HProp} {a : Addr} {n : Nat} {K : Value → Prop} {vs : List Value} (h : ∀ i v, vs[i]? = some v → Rd W H (a.add i) v) (hn : vs.length = n) (k : K (.agg ⟨vs⟩)) : LdN W H a n K :=
  ⟨vs, hn, h, k⟩
/-- Several cells, one behind the other. -/
structure RdL (W : World) (H : HProp) (b off : Nat) (vs : List Value) : Prop where
  rd : ∀ i v, vs[i]? = some v → Rd W H ⟨b, off + i, none⟩ v
theorem RdL.pts {b off : Nat} {l vs : List Value} {t : TypeId} {fz : Nat × Nat} {R : HProp} {n : Nat} (h : (l.drop off).take n = vs) :
    RdL W (pts b (.cells ⟨l⟩ t fz) • R) b off vs := ⟨fun i v hv => Rd.pts (by
  subst h
  rw [List.getElem?_take, List.getElem?_drop] at hv
  split at hv
  · exact hv
  · cases hv)⟩
theorem RdL.there {X R : HProp} {b off : Nat} {vs : List Value} (h : RdL W R b off vs) : RdL W (X • R) b off vs := ⟨fun i v hv => (h.rd i v hv).there⟩
theorem RdL.left {X R : HProp} {b off : Nat} {vs : List Value} (h : RdL W X b off vs) : RdL W (X • R) b off vs := ⟨fun i v hv => (h.rd i v hv).left⟩
theorem Addr.add_eq (b off i : Nat) : (⟨b, off, none⟩ : Addr).add i = ⟨b, off + i, none⟩ := by
  unfold Addr.add; split <;> simp_all
theorem LdN.cells {H : HProp} {b off n : Nat} {K : Value → Prop} {vs : List Value} (h : RdL W H b off vs) (hn : vs.length = n) (k : K (.agg ⟨vs⟩)) : LdN W H ⟨b, off, none⟩ n K :=
  ⟨vs, hn, fun i v hv => by rw [Addr.add_eq]; exact h.rd i v hv, k⟩

theorem Take.here {X R : HProp} : Take (X • R) X R := ⟨rfl⟩
theorem Take.last {X : HProp} : Take X X emp := ⟨(star_emp _).symm⟩
theorem Take.there {H X R Y : HProp} (h : Take H X R) : Take (Y • H) X (Y • R) := ⟨by rw [h.eq, star_left_comm]⟩
theorem Take.split {H A X Y R : HProp} (e : A = (X • Y)) (h : Take H A R) : Take H X (Y • R) := ⟨by rw [h.eq, e, star_assoc]⟩
theorem Take.two {H X Y R R' : HProp} (h : Take H X R) (h' : Take R Y R') : Take H (X • Y) R' := ⟨by rw [h.eq, h'.eq, star_assoc]⟩

theorem Ar.i64 {e : Int} {K : Int → Prop} (h : -9223372036854775808 ≤ e ∧ e ≤ 9223372036854775807) (hk : K e) : Ar .i64 e K := ⟨by rw [IntWalk.i64_in _ h]; exact hk⟩
theorem Ar.u64 {e : Int} {K : Int → Prop} (h : 0 ≤ e ∧ e ≤ 18446744073709551615) (hk : K e) : Ar .u64 e K := ⟨by rw [IntWalk.u64_in _ h]; exact hk⟩
theorem Ar.u32 {e : Int} {K : Int → Prop} (h : 0 ≤ e ∧ e ≤ 4294967295) (hk : K e) : Ar .u32 e K := ⟨by rw [IntWalk.u32_in _ h]; exact hk⟩
theorem Ar.u8 {e : Int} {K : Int → Prop} (h : 0 ≤ e ∧ e ≤ 255) (hk : K e) : Ar .u8 e K := ⟨by rw [IntWalk.u8_in _ h]; exact hk⟩
theorem Ar.wrap {k : IntKind} {e : Int} {K : Int → Prop} (hk : K (k.wrap e)) : Ar k e K := ⟨hk⟩

/-- The call returns, with such a value and such a heap. -/
def Ret (post : Value → HProp → Prop) (e : Ending) (H : HProp) : Prop := ∃ v G, e = .returned v ∧ Imp H G ∧ post v G
theorem Ret.eq {A v : Value} {B H : HProp} (hv : v = A) (hi : Imp H B) : Ret (fun v G => v = A ∧ G = B) (.returned v) H := ⟨v, B, rfl, hi, hv, rfl⟩
theorem CallK.ret {f : FuncId} {args : List Value} {H : HProp} {K : Value → HProp → Prop} {Kp : List PanicEntry → HProp → Prop} {post : Value → HProp → Prop}
    (ok : Callable P f) (h : Does P W f ⟨args⟩ H (Ret post)) (k : ∀ v G, post v G → K v G) : CallK P W f args H K Kp :=
  ⟨.inl ⟨ok, ⟨fun w hs => (h.run w hs).mono fun e w' ⟨H', hs', v, G, he, hent, hp⟩ => ⟨G, hs'.imp hent, by subst he; exact k v G hp⟩⟩⟩⟩
/-- A call of a function that the model carries out by itself. -/
theorem CallK.ext {f : FuncId} {args : List Value} {H : HProp} {K : Value → HProp → Prop} {Kp : List PanicEntry → HProp → Prop} {v : Value}
    (h : ∀ w, (callFunc f ⟨args⟩).run P w = .ok (.value v) w) (k : K v H) : CallK P W f args H K Kp := ⟨.inr fun w hs => ⟨v, w, H, h w, hs, k⟩⟩
/-- A call that returns or panics. -/
theorem CallK.both {f : FuncId} {args : List Value} {H : HProp} {K : Value → HProp → Prop} {Kp : List PanicEntry → HProp → Prop} {Q : Ending → HProp → Prop}
    (ok : Callable P f) (h : Does P W f ⟨args⟩ H Q) (k : ∀ e G, Q e G → CallQ K Kp e G) : CallK P W f args H K Kp :=
  ⟨.inl ⟨ok, ⟨fun w hs => (h.run w hs).mono fun e _ ⟨H', hs', hq⟩ => ⟨H', hs', k e H' hq⟩⟩⟩⟩
theorem Does.ent {f : FuncId} {args : Array Value} {H H' : HProp} {Q : Ending → HProp → Prop} (h : Does P W f args H' Q) (e : Ent H H') : Does P W f args H Q := h.mono e fun _ _ h => h
theorem Does.imp {f : FuncId} {args : Array Value} {H H' : HProp} {Q : Ending → HProp → Prop} (e : Imp H H') (h : Does P W f args H' Q) : Does P W f args H Q := ⟨fun w hs => h.run w (hs.imp e)⟩
theorem Does.ex {α : Sort _} {f : FuncId} {args : Array Value} {G : α → HProp} {R : HProp} {Q : Ending → HProp → Prop} (h : ∀ x, Does P W f args (G x • R) Q) : Does P W f args (SL.ex G • R) Q :=
  ⟨fun w hs => by rw [ex_star] at hs; obtain ⟨x, hx⟩ := hs.ex; exact (h x).run w hx⟩
theorem Does.pure {p : Prop} {f : FuncId} {args : Array Value} {R : HProp} {Q : Ending → HProp → Prop} (h : p → Does P W f args R Q) : Does P W f args (SL.pure p • R) Q :=
  ⟨fun w hs => (h hs.pure.1).run w hs.pure.2⟩

/-! ### Maps with whole numbers as keys -/
structure MapRep (kk : IntKind) (es : Array MapEntry) (clock : Nat) (l : List (Int × Value)) : Prop where
  kv : es.toList.map (fun e => (e.key, e.val)) = l.map (fun p => (Value.int kk p.1, p.2))
  nd : (l.map (·.1)).Nodup
  born : (es.toList.map (·.born)).Nodup
  lt : ∀ e ∈ es.toList, e.born < clock
/-- Block r is a map that reads as l (in the order in which the keys came). -/
def mapc (r : Nat) (kk : IntKind) (l : List (Int × Value)) : HProp := ex fun es => ex fun clock => SL.pure (MapRep kk es clock l) • pts r (.map es clock)
def MapAt (W : World) (H : HProp) (r : Nat) (kk : IntKind) (l : List (Int × Value)) : Prop :=
  ∀ w, Sat W H w → ∃ es clock, w.heap[r]? = some (.map es clock) ∧ MapRep kk es clock l
theorem Sat.map {w : World} {r : Nat} {kk : IntKind} {l : List (Int × Value)} {R : HProp} (h : Sat W (mapc r kk l • R) w) :
    ∃ es clock, MapRep kk es clock l ∧ Sat W (pts r (.map es clock) • R) w := by
  unfold mapc at h
  rw [ex_star] at h
  obtain ⟨es, h⟩ := h.ex
  rw [ex_star] at h
  obtain ⟨clock, h⟩ := h.ex
  rw [star_assoc] at h
  exact ⟨es, clock, h.pure.1, h.pure.2⟩
theorem Sat.mk_map {w : World} {r : Nat} {kk : IntKind} {l : List (Int × Value)} {R : HProp} {es : Array MapEntry} {clock : Nat} (hm : MapRep kk es clock l)
    (h : Sat W (pts r (.map es clock) • R) w) : Sat W (mapc r kk l • R) w :=
  h.mono (Ent.left (Ent.ex es (Ent.ex clock (Ent.pure hm (Ent.refl _)))))
theorem MapAt.here {r : Nat} {kk : IntKind} {l : List (Int × Value)} {R : HProp} : MapAt W (mapc r kk l • R) r kk l := fun _ hs =>
  let ⟨es, clock, h1, h2⟩ := hs.map; ⟨es, clock, h2.at, h1⟩
theorem MapAt.last {r : Nat} {kk : IntKind} {l : List (Int × Value)} : MapAt W (mapc r kk l) r kk l := fun _ hs => MapAt.here _ (by rw [star_emp]; exact hs)
theorem MapAt.there {X R : HProp} {r : Nat} {kk : IntKind} {l : List (Int × Value)} (h : MapAt W R r kk l) : MapAt W (X • R) r kk l := fun w hs => h w hs.right
theorem MapAt.left {X R : HProp} {r : Nat} {kk : IntKind} {l : List (Int × Value)} (h : MapAt W X r kk l) : MapAt W (X • R) r kk l := fun w hs => h w hs.left

/-- Where a key stands, and what stands beside it. -/
def findI (k : Int) : List (Int × Value) → Nat → Option (Nat × Value)
  | [], _ => none
  | p :: l, i => if k = p.1 then some (i, p.2) else findI k l (i + 1)
theorem findI_snd (k : Int) : ∀ (l : List (Int × Value)) (i : Nat), (findI k l i).map (·.2) = l.lookup k
  | [], _ => rfl
  | (a, v) :: l, i => by
    by_cases h : k = a
    · simp [findI, List.lookup, h]
    · have : (k == a) = false := by simpa using h
      simp [findI, List.lookup, h, this, findI_snd k l (i + 1)]
theorem findNow_int (k0 kk : IntKind) (k : Int) : ∀ (es : List MapEntry) (l : List (Int × Value)) (i : Nat), es.map (fun e => (e.key, e.val)) = l.map (fun p => (Value.int kk p.1, p.2)) →
    Instr.findNow (.int k0) (.int kk k) es i = some (findI k l i)
  | [], [], _, _ => rfl
  | [], _ :: _, _, h => by simp at h
  | _ :: _, [], _, h => by simp at h
  | e :: es, p :: l, i, h => by
    simp only [List.map_cons, List.cons.injEq, Prod.mk.injEq] at h
    obtain ⟨⟨h1, h2⟩, h3⟩ := h
    simp only [Instr.findNow, h1, Instr.sameNow, if_true, findI]
    by_cases hk : k = p.1
    · simp [hk, h2]
    · have : (k == p.1) = false := by simpa using hk
      simp [this, hk, findNow_int k0 kk k es l (i + 1) h3]
theorem run_findKey_int {kt : TypeId} {k0 kk : IntKind} {k : Int} {es : Array MapEntry} {clock : Nat} {l : List (Int × Value)} (hu : P.underlying kt = some (.int k0)) (hm : MapRep kk es clock l) (w : World) :
    (Instr.findKey kt (.int kk k) es.toList).run P w = .ok (findI k l 0) w := by
  simp only [Instr.findKey, Sem.run_bind, run_underlying hu, Result.andThen_ok, findNow_int k0 kk k es.toList l 0 hm.kv, Sem.run_pure]
theorem run_checkKey_int {kt : TypeId} {k0 kk : IntKind} {k : Int} (hu : P.underlying kt = some (.int k0)) (b : Bool) (n : Nat) (w : World) :
    (Instr.checkKey b (n + 1) kt (.int kk k)).run P w = .ok () w := by
  simp [Instr.checkKey, run_underlying hu]

/-- m[k] -/
theorem OpQ.lookup (hT : T.ok P) {t kt et : TypeId} {k0 kk : IntKind} {m key : Operand} {ty : TypeId} {ev : Operand → Option Value} {H : HProp} {K : Value → Prop} {r : Nat} {k : Int} {l : List (Int × Value)}
    {r1 r2 : TRow} {z : Value}
    (h1 : T t = some r1) (h1' : r1.und = .map kt et) (h2 : T kt = some r2) (h2' : r2.und = .int k0)
    (hz : ∀ w, (zeroValue et).run P w = .ok z w)
    (hm : ev m = some (.map (some r))) (hk : ev key = some (.int kk k)) (ha : MapAt W H r kk l)
    (yes : ∀ v, l.lookup k = some v → K v) (no : l.lookup k = none → K z) : OpQ P W (.lookup t m key false) ty ev H K := by
  have hu1 := (hT _ _ h1).und
  have hu2 := (hT _ _ h2).und
  rw [h1'] at hu1
  rw [h2'] at hu2
  have hf := findI_snd k l 0
  refine ⟨⟨(l.lookup k).getD z, fun w ρ hs he o' ho hty => ?_, ?_⟩⟩
  · obtain ⟨es, clock, hb, hrep⟩ := ha w hs
    obtain ⟨dst, op, ty', pos, after, guard⟩ := o'
    simp only at ho hty
    subst ho hty
    simp only [execOp, Instr.lookup, Sem.run_bind, run_underlying hu1, Result.andThen_ok, he _ _ hm, he _ _ hk, getObj, Sem.run, hb, Sem.run_pure, run_checkKey_int hu2, run_findKey_int hu2 hrep]
    rw [← hf]
    cases findI k l 0 with
    | none => simp [hz w]
    | some p => simp
  · cases hl : l.lookup k with
    | none => exact no hl
    | some v => exact yes v hl
/-- v, ok := m[k] -/
theorem OpQ.lookup_ok (hT : T.ok P) {t kt et : TypeId} {k0 kk : IntKind} {m key : Operand} {ty : TypeId} {ev : Operand → Option Value} {H : HProp} {K : Value → Prop} {r : Nat} {k : Int} {l : List (Int × Value)}
    {r1 r2 : TRow} {z : Value}
    (h1 : T t = some r1) (h1' : r1.und = .map kt et) (h2 : T kt = some r2) (h2' : r2.und = .int k0)
    (hz : ∀ w, (zeroValue et).run P w = .ok z w)
    (hm : ev m = some (.map (some r))) (hk : ev key = some (.int kk k)) (ha : MapAt W H r kk l)
    (yes : ∀ v, l.lookup k = some v → K (.tuple ⟨[v, .bool true]⟩)) (no : l.lookup k = none → K (.tuple ⟨[z, .bool false]⟩)) : OpQ P W (.lookup t m key true) ty ev H K := by
  have hu1 := (hT _ _ h1).und
  have hu2 := (hT _ _ h2).und
  rw [h1'] at hu1
  rw [h2'] at hu2
  have hf := findI_snd k l 0
  refine ⟨⟨match l.lookup k with | some v => .tuple ⟨[v, .bool true]⟩ | none => .tuple ⟨[z, .bool false]⟩, fun w ρ hs he o' ho hty => ?_, ?_⟩⟩
  · obtain ⟨es, clock, hb, hrep⟩ := ha w hs
    obtain ⟨dst, op, ty', pos, after, guard⟩ := o'
    simp only at ho hty
    subst ho hty
    simp only [execOp, Instr.lookup, Sem.run_bind, run_underlying hu1, Result.andThen_ok, he _ _ hm, he _ _ hk, getObj, Sem.run, hb, Sem.run_pure, run_checkKey_int hu2, run_findKey_int hu2 hrep]
    rw [← hf]
    cases findI k l 0 with
    | none => simp [hz w]
    | some p => simp
  · cases hl : l.lookup k with
    | none => exact no hl
    | some v => exact yes v hl
/-- len(m) -/
theorem OpQ.len_map (hT : T.ok P) {t kt et : TypeId} {x : Operand} {ty : TypeId} {ev : Operand → Option Value} {H : HProp} {K : Value → Prop} {r : Nat} {kk : IntKind} {l : List (Int × Value)} {r1 : TRow}
    (h1 : T t = some r1) (h1' : r1.und = .map kt et) (hm : ev x = some (.map (some r))) (ha : MapAt W H r kk l) (k : K (.int .i64 l.length)) :
    OpQ P W (.call ⟨.builtin .len, ⟨[x]⟩, ⟨[t]⟩⟩) ty ev H K := by
  have hu1 := (hT _ _ h1).und
  rw [h1'] at hu1
  refine ⟨⟨_, fun w ρ hs he o' ho hty => ?_, k⟩⟩
  obtain ⟨es, clock, hb, hrep⟩ := ha w hs
  obtain ⟨dst, op, ty', pos, after, guard⟩ := o'
  simp only at ho hty
  subst ho hty
  have hl : es.size = l.length := by simpa using congrArg List.length hrep.kv
  simp [execOp, resolve, invoke, builtin, Builtin.len_, he _ _ hm, run_underlying hu1, goInt, getObj, Sem.run, hb, hl]
/-- make(map) -/
theorem OpX.makeMap {t : TypeId} {ty : TypeId} {ev : Operand → Option Value} {H : HProp} {K : Value → HProp → Prop} {Kp : List PanicEntry → HProp → Prop} (kk : IntKind)
    (k : ∀ b, W.heap.size ≤ b → K (.map (some b)) (mapc b kk [] • H)) : OpX P W (.makeMap t none) ty ev H K Kp := by
  refine ⟨fun w ρ hs he o' ho hty => ⟨.value (.map (some w.heap.size)), { w with heap := w.heap.push (.map #[] 0) }, _, ?_, ?_, k w.heap.size hs.1.size⟩⟩
  · obtain ⟨dst, op, ty', pos, after, guard⟩ := o'
    simp only at ho hty
    subst ho hty
    simp [execOp, Instr.makeMap]
  · exact Sat.mk_map ⟨rfl, by simp, by simp, by simp⟩ (hs.alloc _)

def updKV {α : Type} (k : Int) (v : α) : List (Int × α) → List (Int × α)
  | [] => [(k, v)]
  | p :: l => if k = p.1 then (k, v) :: l else p :: updKV k v l
theorem updKV_keys {α : Type} (k : Int) (v : α) : ∀ l : List (Int × α), (updKV k v l).map (·.1) = if k ∈ l.map (·.1) then l.map (·.1) else l.map (·.1) ++ [k]
  | [] => by simp [updKV]
  | p :: l => by
    by_cases h : k = p.1
    · simp [updKV, h]
    · simp only [updKV, h, if_false, List.map_cons, updKV_keys k v l, List.mem_cons, false_or]
      split <;> simp
theorem updKV_lookup {α : Type} (k : Int) (v : α) (j : Int) : ∀ l : List (Int × α), (updKV k v l).lookup j = if j = k then some v else l.lookup j
  | [] => by
    by_cases h : j = k
    · simp [updKV, h]
    · have : (j == k) = false := by simpa using h
      simp [updKV, h, List.lookup, this]
  | (a, u) :: l => by
    by_cases h : k = a
    · subst h
      by_cases hj : j = k
      · simp [updKV, hj]
      · have : (j == k) = false := by simpa using hj
        simp [updKV, List.lookup, hj, this]
    · simp only [updKV, h, if_false, List.lookup]
      by_cases hj : j = a
      · subst hj
        have : ¬ j = k := fun e => h e.symm
        simp [this]
      · have : (j == a) = false := by simpa using hj
        simp [this, updKV_lookup k v j l]
theorem findI_none (k : Int) : ∀ (l : List (Int × Value)) (i : Nat), findI k l i = none ↔ k ∉ l.map (·.1)
  | [], _ => by simp [findI]
  | p :: l, i => by
    by_cases h : k = p.1
    · simp [findI, h]
    · have := findI_none k l (i + 1)
      simp only [List.mem_map] at this
      simp [findI, h, this]
theorem updKV_none {α : Type} (k : Int) (v : α) : ∀ l : List (Int × α), k ∉ l.map (·.1) → updKV k v l = l ++ [(k, v)]
  | [], _ => rfl
  | p :: l, h => by
    simp only [List.map_cons, List.mem_cons, not_or] at h
    simp [updKV, h.1, updKV_none k v l h.2]
theorem updKV_some (k : Int) (v : Value) : ∀ (l : List (Int × Value)) (i j : Nat) (u : Value), findI k l i = some (j, u) →
    i ≤ j ∧ j - i < l.length ∧ updKV k v l = l.set (j - i) (k, v) ∧ (l[j - i]?).map (·.1) = some k
  | [], _, _, _, h => by simp [findI] at h
  | p :: l, i, j, u, h => by
    by_cases hk : k = p.1
    · simp only [findI, hk, if_true, Option.some.injEq, Prod.mk.injEq] at h
      obtain ⟨rfl, rfl⟩ := h
      simp [updKV, hk]
    · simp only [findI, hk, if_false] at h
      obtain ⟨h1, h2, h3, h4⟩ := updKV_some k v l (i + 1) j u h
      have e : j - i = (j - (i + 1)) + 1 := by omega
      refine ⟨by omega, by simp; omega, ?_, ?_⟩
      · rw [e]; simp [updKV, hk, h3]
      · rw [e]; simpa using h4
/-- m[k] = v -/
theorem OpX.update (hT : T.ok P) {t kt et : TypeId} {k0 kk : IntKind} {m key x : Operand} {ty : TypeId} {ev : Operand → Option Value} {H R : HProp} {K : Value → HProp → Prop} {Kp : List PanicEntry → HProp → Prop}
    {r : Nat} {k : Int} {v : Value} {l : List (Int × Value)} {r1 r2 : TRow}
    (h1 : T t = some r1) (h1' : r1.und = .map kt et) (h2 : T kt = some r2) (h2' : r2.und = .int k0)
    (hm : ev m = some (.map (some r))) (hk : ev key = some (.int kk k)) (hv : ev x = some v) (ht : Take H (mapc r kk l) R)
    (hK : K undef (mapc r kk (updKV k v l) • R)) : OpX P W (.mapUpdate t m key x) ty ev H K Kp := by
  have hu1 := (hT _ _ h1).und
  have hu2 := (hT _ _ h2).und
  rw [h1'] at hu1
  rw [h2'] at hu2
  refine ⟨fun w ρ hs he o' ho hty => ?_⟩
  obtain ⟨dst, op, ty', pos, after, guard⟩ := o'
  simp only at ho hty
  subst ho hty
  rw [ht.eq] at hs
  obtain ⟨es, clock, hrep, hs⟩ := hs.map
  have hb := hs.at
  have hlt := hs.lt
  cases hf : findI k l 0 with
  | none =>
    refine ⟨.skip, { w with heap := w.heap.setIfInBounds r (.map (es.push { key := .int kk k, val := v, born := clock }) (clock + 1)) }, _, ?_, ?_, hK⟩
    · simp only [execOp, Instr.mapUpdate, Sem.run_bind, run_underlying hu1, Result.andThen_ok, he _ _ hm, he _ _ hk, he _ _ hv, getObj, setObj, Sem.run, hb, Sem.run_pure, run_checkKey_int hu2, run_findKey_int hu2 hrep, hf]
    · have hnot := (findI_none k l 0).1 hf
      refine Sat.mk_map ⟨?_, ?_, ?_, ?_⟩ (hs.set (.map (es.push { key := .int kk k, val := v, born := clock }) (clock + 1)) ⟨rfl, rfl, rfl, by simp⟩ (by simp [hlt]) fun j hj => by simp [Ne.symm hj])
      · rw [updKV_none k v l hnot]; simp [hrep.kv]
      · rw [updKV_keys, if_neg hnot]
        exact List.nodup_append.2 ⟨hrep.nd, by simp, fun a ha b hb => by simp at hb; subst hb; exact fun e => hnot (e ▸ ha)⟩
      · simp only [Array.toList_push, List.map_append, List.map_cons, List.map_nil]
        refine List.nodup_append.2 ⟨hrep.born, by simp, fun a ha b hb => ?_⟩
        simp at hb; subst hb
        obtain ⟨e, he', rfl⟩ := List.mem_map.1 ha
        exact fun e' => absurd (hrep.lt e he') (by omega)
      · intro e he'
        simp only [Array.toList_push, List.mem_append, List.mem_singleton] at he'
        rcases he' with he' | rfl
        · have := hrep.lt e he'; omega
        · exact Nat.lt_succ_self _
  | some p =>
    obtain ⟨i, u⟩ := p
    obtain ⟨_, h5, h6, h7⟩ := updKV_some k v l 0 i u hf
    simp only [Nat.sub_zero] at h5 h6 h7
    have hlen : es.toList.length = l.length := by simpa using congrArg List.length hrep.kv
    have hi : i < es.size := by rw [← hlen] at h5; simpa using h5
    have hkey : (es[i]?).map (·.key) = some (.int kk k) := by
      have := congrArg (fun q => q[i]?) hrep.kv
      simp only [List.getElem?_map] at this
      have hl : l[i]? = some (l[i]'h5) := by simp [h5]
      rw [hl] at this h7
      simp only [Option.map_some, Option.some.injEq] at h7
      rw [Array.getElem?_toList] at this
      cases he' : es[i]? with
      | none => rw [he'] at this; simp at this
      | some e => rw [he'] at this; simp at this; simp [this.1, h7]
    refine ⟨.skip, { w with heap := w.heap.setIfInBounds r (.map (es.modify i fun e => { e with key := .int kk k, val := v }) clock) }, _, ?_, ?_, hK⟩
    · simp only [execOp, Instr.mapUpdate, Sem.run_bind, run_underlying hu1, Result.andThen_ok, he _ _ hm, he _ _ hk, he _ _ hv, getObj, setObj, Sem.run, hb, Sem.run_pure, run_checkKey_int hu2, run_findKey_int hu2 hrep, hf, hkey, Option.getD_some]
      simp [Instr.keyThatStays, Instr.sameBits, hb]
    · refine Sat.mk_map ⟨?_, ?_, ?_, ?_⟩ (hs.set (.map (es.modify i fun e => { e with key := .int kk k, val := v }) clock) ⟨rfl, rfl, rfl, by simp⟩ (by simp [hlt]) fun j hj => by simp [Ne.symm hj])
      · rw [h6]
        apply List.ext_getElem?
        intro j
        have hj := congrArg (fun q => q[j]?) hrep.kv
        simp only [List.getElem?_map, Array.getElem?_toList] at hj
        simp only [List.getElem?_map, Array.getElem?_toList, Array.getElem?_modify, List.getElem?_set]
        by_cases hji : i = j
        · subst hji; simp [h5, hi]
        · simp [hji, hj]
      · rw [updKV_keys]
        have : k ∈ l.map (·.1) := by
          have := mt (findI_none k l 0).2 (by simp [hf])
          simpa using this
        rw [if_pos this]; exact hrep.nd
      · have : (es.modify i fun e => { e with key := .int kk k, val := v }).toList.map (·.born) = es.toList.map (·.born) := by
          apply List.ext_getElem?
          intro j
          simp only [List.getElem?_map, Array.getElem?_toList, Array.getElem?_modify]
          by_cases hji : i = j
          · subst hji; simp [hi]
          · simp [hji]
        rw [this]; exact hrep.born
      · intro e he'
        obtain ⟨j, hj⟩ := List.getElem?_of_mem he'
        simp only [Array.getElem?_toList, Array.getElem?_modify] at hj
        split at hj
        · rename_i hji
          subst hji
          simp [hi] at hj
          subst hj
          exact hrep.lt es[i] (by simp)
        · exact hrep.lt e (List.mem_of_getElem? (by rw [Array.getElem?_toList]; exact hj))
end
end Go.SL
