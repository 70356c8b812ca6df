/- slices.Sorted(maps.Keys(m)) of a map whose keys are ints: a new slice that holds the keys, sorted. Conditions: those of the shelf's contracts. -/
import Derived.Test.YtacpnjlijjgbmaaGreatDoorVecAuto
import Derived.Shelf.SlIterI.Nil
import Derived.Shelf.SortM.Plain
import Derived.Shelf.SortM.SortNone
namespace Go.SL
open Go Go.Proofs Go.Shelf Go.RowKit Go.Maps

/-- Numbers in their order. -/
def sortI (l : List Int) : List Int := l.mergeSort leI
theorem sortI_perm {l l' : List Int} (h : l.Perm l') : sortI l = sortI l' := mergeSort_of_perm_i h
theorem sortI_length (l : List Int) : (sortI l).length = l.length := by simp [sortI]
theorem sortI_mem {l : List Int} {x : Int} : x ∈ sortI l ↔ x ∈ l := by simp [sortI]

theorem flat_one {α : Type} (f : α → Value) : ∀ l : List α, l.flatMap (one f) = l.map f
  | [] => rfl
  | x :: l => by rw [List.flatMap_cons, flat_one f l]; rfl

/-- A new block of a world that has grown. -/
theorem Sat.fresh {W w w' : World} {H : HProp} {g : Nat} {o : Obj} (h : Sat W H w) (hb : Below w.heap.size w w') (hg : w.heap.size ≤ g) (ho : w'.heap[g]? = some o) : Sat W (pts g o • H) w' := by
  obtain ⟨h1, a, s, x⟩ := h
  have hlt : ∀ k v, a k = some v → k < w.heap.size := fun k v hk => by
    have := s k v hk
    rcases Nat.lt_or_ge k w.heap.size with h | h
    · exact h
    · simp [hp, Array.getElem?_eq_none h] at this
  refine ⟨h1.trans ⟨hb.os, hb.tape, hb.output, hb.size⟩, (fun k => if k = g then some o else a k), ?_, (fun k => if k = g then some o else none), a, ?_, ?_, rfl, x⟩
  · intro k v hk
    by_cases e : k = g
    · subst e; simp only [if_true] at hk; rw [← hk]; exact ho
    · simp only [e, if_false] at hk
      show w'.heap[k]? = some v
      rw [hb.block k (hlt k v hk)]; exact s k v hk
  · intro k
    by_cases e : k = g
    · right
      cases hv : a k with
      | none => rfl
      | some v => have := hlt k v hv; omega
    · left; simp [e]
  · funext k
    by_cases e : k = g <;> simp [Heap.join, e]

theorem intKeys_perm {P : Program} {k : TypeId} (hk : P.underlying k = some (.int .i64)) {es : Array MapEntry} {clock : Nat} {l : List (Int × Value)} (hrep : MapRep .i64 es clock l)
    (hb : ∀ x ∈ l, -9223372036854775808 ≤ x.1 ∧ x.1 ≤ 9223372036854775807) (R : Value → Option (DataW Unit × List MemPlace)) (hR : ∀ v, R v = some (.lit (.bool true), [])) :
    (∀ x ∈ es.toList, ∃ y, WideElems.rd P k R x = some y) ∧ (intKeys (.map ((es.toList.map (WideElems.rg P k R)).foldr DataW.insert []))).Perm (l.map (·.1)) := by
  have hkv := hrep.kv
  have key : ∀ (es : List MapEntry) (l : List (Int × Value)), es.map (fun e => (e.key, e.val)) = l.map (fun p => (Value.int .i64 p.1, p.2)) →
      (∀ x ∈ l, -9223372036854775808 ≤ x.1 ∧ x.1 ≤ 9223372036854775807) → (∀ x ∈ es, ∃ y, WideElems.rd P k R x = some y) ∧ (es.map (WideElems.rg P k R)).map (fun p => intOf p.1) = l.map (·.1) := by
    intro es
    induction es with
    | nil => intro l h _; cases l <;> simp_all
    | cons e es ih =>
      intro l h hb
      cases l with
      | nil => simp at h
      | cons p l =>
        simp only [List.map_cons, List.cons.injEq, Prod.mk.injEq] at h
        obtain ⟨⟨h1, h2⟩, h3⟩ := h
        obtain ⟨i1, i2⟩ := ih l h3 fun x hx => hb x (List.mem_cons_of_mem _ hx)
        have hw : (Lit.int .i64 p.1).wf = true := by
          have := hb p (by simp)
          simp [Lit.wf, IntKind.min, IntKind.max, IntKind.signed, IntKind.bits]; omega
        have hrd : WideElems.rd P k R e = some (.int .i64 p.1, .lit (.bool true)) := by
          simp [WideElems.rd, h1, keyOf_int_mk hk hw, hR]
        refine ⟨fun x hx => ?_, ?_⟩
        · rcases List.mem_cons.1 hx with rfl | hx
          · exact ⟨_, hrd⟩
          · exact i1 x hx
        · rw [List.map_cons, List.map_cons, List.map_cons, i2]
          simp [WideElems.rg, hrd, intOf]
  obtain ⟨k1, k2⟩ := key es.toList l hkv hb
  refine ⟨k1, ?_⟩
  show (List.map (fun p : Lit × DataW Unit => intOf p.1) _).Perm _
  rw [← k2]
  exact (WideShapes.sorted_perm _).map _

/-- slices.Sorted(maps.Keys(m)), at what maps.Keys has handed back. -/
theorem Does.sorted {P : Program} {ρs ρk ρo : Ren} {W : World} (Ls : SlLaysZI.n6 P ρs) (Lk : SlLaysZI.n7 P ρk) (Lo : SlLaysM.n5 P ρo) {fS kf : Nat} {tI tB : TypeId} (h1 : ρs.f 6 = fS) (h2 : ρk.f 10 = kf) (h3 : ρs.f 9 = ρo.f 5) (h4 : ρs.t 26 = tI)
    {H R1 R : HProp} {B r : Nat} {fz : Nat × Nat} {l : List (Int × Value)} [p : PtsC H B (.cells ⟨[.map (some r)]⟩ tB fz) R1] [m : MapC R1 r .i64 l R]
    (hl : l.length ≤ 17592186044416) (hk : ∀ x ∈ l, -9223372036854775808 ≤ x.1 ∧ x.1 ≤ 9223372036854775807) :
    Does P W fS ⟨[.func (.func kf) ⟨[]⟩ ⟨[.pointer (some ⟨B, 0, none⟩)]⟩]⟩ H (Ret fun v G => ∃ a cap, v = .slice a l.length cap ∧ G = (vec tI 1 ints a cap (sortI (l.map (·.1))) • mapc r .i64 l • R)) := by
  subst h1 h2 h4
  refine ⟨fun w hs => ?_⟩
  rw [p.h.eq, m.h.eq] at hs
  have hB := hs.at
  have hBlt := hs.lt
  have hs2 : Sat W (mapc r .i64 l • R) w := hs.right
  obtain ⟨es, clock, hrep, hs3⟩ := hs2.map
  have hr := hs3.at
  have hsz : es.size = l.length := by simpa using congrArg List.length hrep.kv
  obtain ⟨Rc, hRc⟩ : ∃ Rc : Value → Option (DataW Unit × List MemPlace), ∀ v, Rc v = some (.lit (.bool true), []) := ⟨_, fun _ => rfl⟩
  obtain ⟨q1, q2⟩ := intKeys_perm Lk.t26 hrep hk Rc hRc
  have hst : MapKept.Stamped es clock := by
    refine ⟨hrep.lt, hrep.born, ?_⟩
    have : es.toList.map (·.key) = l.map fun p => Value.int .i64 p.1 := by
      have := congrArg (List.map Prod.fst) hrep.kv
      simpa [List.map_map, Function.comp_def] using this
    rw [this]
    have hnd := hrep.nd
    rw [List.Nodup, List.pairwise_map] at hnd ⊢
    exact hnd.imp fun h e => h (by simpa using e)
  obtain ⟨D0, hD0⟩ : ∃ D0 : DataW Unit, D0 = .map ((es.toList.map (WideElems.rg P (ρk.t 26) Rc)).foldr DataW.insert []) := ⟨_, rfl⟩
  rw [← hD0] at q2
  have hDs : Maps.size D0 = l.length := by
    subst hD0
    rw [Maps.size_eq, (WideShapes.sorted_perm _).length_eq]
    simpa using hsz
  have hown : w.ownsMap P (ρk.t 26) Rc r es.size D0 := ⟨es, clock, hr, ⟨by unfold maxLen; omega, hst, q1⟩, Nat.le_refl _, hD0⟩
  have hseq := AnyZI.keys_gives (ρ := ρk) { Lk with } Fence.wide 2 trivial rfl (by omega) B r es.size D0 w hBlt (by simp [World.cell?, hB]) hown
  have sorts : AnyZI.SortsIn P ρs Fence.wide 4 := ⟨fun blk off cap ss W hH hblk hsz => callsIn_wide.2 (h3 ▸ AnyM.slices_Sort_int Lo blk off cap ss W hH hblk hsz),
    fun p cap W => callsIn_wide.2 (h3 ▸ AnyM.slices_Sort_int_none Lo p cap W)⟩
  have cS := AnyZI.sorted_in Ls Fence.wide 5 trivial trivial trivial trivial rfl (by omega) sorts (h3 ▸ Lo.f5.enters rfl) (ρk.f 10) #[.pointer (some ⟨B, 0, none⟩)] trivial (Lk.f10.enters rfl) _ (Maps.size D0)
    (by unfold maxLen; omega) (by omega) w hseq
  refine (callsIn_wide.1 cS).mono ?_
  rintro e w' ⟨v, ss, rfl, hS, hrow, hnil, hb⟩
  have hpm : ss.Perm (l.map (·.1)) := hS.trans q2
  have hlen : ss.length = l.length := by simpa using hpm.length_eq
  have hms : (ss.mergeSort fun x y => decide (x ≤ y)) = sortI (l.map (·.1)) := sortI_perm hpm
  rw [hms] at hrow
  rcases hrow.2 with ⟨rfl, hz⟩ | ⟨g, cap, cur, rfl, hbase, hg, r1, r2, r3, r4⟩
  · have hl0 : l = [] := List.eq_nil_of_length_eq_zero (by omega)
    subst hl0
    refine ⟨_, hs2.grown ⟨hb.os, hb.tape, hb.output, hb.size⟩ fun k hk => hb.block k hk, _, _, rfl, ?_, none, 0, rfl, rfl⟩
    have h := (vec_nil (t := ρs.t 26) (sz := 1) (enc := ints)).imp.left (Q := (mapc r .i64 [] • R))
    rw [emp_star] at h
    simpa [sortI] using h
  · refine ⟨_, hs2.fresh hb hbase hg, _, _, rfl, ?_, some ⟨g, 0, none⟩, cap, by rw [hlen], rfl⟩
    refine Imp.left (Ent.imp ?_)
    obtain ⟨cl⟩ := cur
    simp only [List.size_toArray, Nat.mul_one] at r3 r4
    have hsl : (sortI (l.map (·.1))).length = l.length := by simp [sortI_length]
    have h5 := vec_some (t := ρs.t 26) (sz := 1) (enc := ints) (b := g) (off := 0) (pre := []) (xs := sortI (l.map (·.1))) (cap := cap) (junk := cl.drop ss.length) rfl (by omega) (by simp [hsl, hlen, r3])
    have h6 : ([] ++ (sortI (l.map (·.1))).flatMap ints ++ cl.drop ss.length : List Value) = cl := by
      have : (sortI (l.map (·.1))).flatMap ints = (sortI (l.map (·.1))).map encZ := by
        exact flat_one _ _
      rw [List.nil_append, this, ← r4]
      exact List.take_append_drop _ _
    rw [h6] at h5
    exact h5
end Go.SL
