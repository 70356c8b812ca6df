/- What an argument of any shape holds: numbers, bools, structs, slices, one inside the other; and that no slice is greater than a machine. No condition. -/
import Derived.Test.YtacpnjlijjgbmaaGreatDoorWalk
import Derived.SizedLaws
namespace Go.SL
open Go Go.RowKit
theorem len1 {α : Type} {l : List α} (h : l.length = 1) : ∃ a0, l = [a0] := by
  match l, h with
  | [a0], _ => exact ⟨a0, rfl⟩
theorem len2 {α : Type} {l : List α} (h : l.length = 2) : ∃ a0 a1, l = [a0, a1] := by
  match l, h with
  | a0 :: l, h =>
    obtain ⟨a1, rfl⟩ := len1 (Nat.succ.inj h)
    exact ⟨a0, a1, rfl⟩
theorem len3 {α : Type} {l : List α} (h : l.length = 3) : ∃ a0 a1 a2, l = [a0, a1, a2] := by
  match l, h with
  | a0 :: l, h =>
    obtain ⟨a1, a2, rfl⟩ := len2 (Nat.succ.inj h)
    exact ⟨a0, a1, a2, rfl⟩
theorem len4 {α : Type} {l : List α} (h : l.length = 4) : ∃ a0 a1 a2 a3, l = [a0, a1, a2, a3] := by
  match l, h with
  | a0 :: l, h =>
    obtain ⟨a1, a2, a3, rfl⟩ := len3 (Nat.succ.inj h)
    exact ⟨a0, a1, a2, a3, rfl⟩
theorem len5 {α : Type} {l : List α} (h : l.length = 5) : ∃ a0 a1 a2 a3 a4, l = [a0, a1, a2, a3, a4] := by
  match l, h with
  | a0 :: l, h =>
    obtain ⟨a1, a2, a3, a4, rfl⟩ := len4 (Nat.succ.inj h)
    exact ⟨a0, a1, a2, a3, a4, rfl⟩
theorem len6 {α : Type} {l : List α} (h : l.length = 6) : ∃ a0 a1 a2 a3 a4 a5, l = [a0, a1, a2, a3, a4, a5] := by
  match l, h with
  | a0 :: l, h =>
    obtain ⟨a1, a2, a3, a4, a5, rfl⟩ := len5 (Nat.succ.inj h)
    exact ⟨a0, a1, a2, a3, a4, a5, rfl⟩
theorem len7 {α : Type} {l : List α} (h : l.length = 7) : ∃ a0 a1 a2 a3 a4 a5 a6, l = [a0, a1, a2, a3, a4, a5, a6] := by
  match l, h with
  | a0 :: l, h =>
    obtain ⟨a1, a2, a3, a4, a5, a6, rfl⟩ := len6 (Nat.succ.inj h)
    exact ⟨a0, a1, a2, a3, a4, a5, a6, rfl⟩
theorem len8 {α : Type} {l : List α} (h : l.length = 8) : ∃ a0 a1 a2 a3 a4 a5 a6 a7, l = [a0, a1, a2, a3, a4, a5, a6, a7] := by
  match l, h with
  | a0 :: l, h =>
    obtain ⟨a1, a2, a3, a4, a5, a6, a7, rfl⟩ := len7 (Nat.succ.inj h)
    exact ⟨a0, a1, a2, a3, a4, a5, a6, a7, rfl⟩
theorem len9 {α : Type} {l : List α} (h : l.length = 9) : ∃ a0 a1 a2 a3 a4 a5 a6 a7 a8, l = [a0, a1, a2, a3, a4, a5, a6, a7, a8] := by
  match l, h with
  | a0 :: l, h =>
    obtain ⟨a1, a2, a3, a4, a5, a6, a7, a8, rfl⟩ := len8 (Nat.succ.inj h)
    exact ⟨a0, a1, a2, a3, a4, a5, a6, a7, a8, rfl⟩
theorem len10 {α : Type} {l : List α} (h : l.length = 10) : ∃ a0 a1 a2 a3 a4 a5 a6 a7 a8 a9, l = [a0, a1, a2, a3, a4, a5, a6, a7, a8, a9] := by
  match l, h with
  | a0 :: l, h =>
    obtain ⟨a1, a2, a3, a4, a5, a6, a7, a8, a9, rfl⟩ := len9 (Nat.succ.inj h)
    exact ⟨a0, a1, a2, a3, a4, a5, a6, a7, a8, a9, rfl⟩
theorem len11 {α : Type} {l : List α} (h : l.length = 11) : ∃ a0 a1 a2 a3 a4 a5 a6 a7 a8 a9 a10, l = [a0, a1, a2, a3, a4, a5, a6, a7, a8, a9, a10] := by
  match l, h with
  | a0 :: l, h =>
    obtain ⟨a1, a2, a3, a4, a5, a6, a7, a8, a9, a10, rfl⟩ := len10 (Nat.succ.inj h)
    exact ⟨a0, a1, a2, a3, a4, a5, a6, a7, a8, a9, a10, rfl⟩
theorem len12 {α : Type} {l : List α} (h : l.length = 12) : ∃ a0 a1 a2 a3 a4 a5 a6 a7 a8 a9 a10 a11, l = [a0, a1, a2, a3, a4, a5, a6, a7, a8, a9, a10, a11] := by
  match l, h with
  | a0 :: l, h =>
    obtain ⟨a1, a2, a3, a4, a5, a6, a7, a8, a9, a10, a11, rfl⟩ := len11 (Nat.succ.inj h)
    exact ⟨a0, a1, a2, a3, a4, a5, a6, a7, a8, a9, a10, a11, rfl⟩
theorem len13 {α : Type} {l : List α} (h : l.length = 13) : ∃ a0 a1 a2 a3 a4 a5 a6 a7 a8 a9 a10 a11 a12, l = [a0, a1, a2, a3, a4, a5, a6, a7, a8, a9, a10, a11, a12] := by
  match l, h with
  | a0 :: l, h =>
    obtain ⟨a1, a2, a3, a4, a5, a6, a7, a8, a9, a10, a11, a12, rfl⟩ := len12 (Nat.succ.inj h)
    exact ⟨a0, a1, a2, a3, a4, a5, a6, a7, a8, a9, a10, a11, a12, rfl⟩
theorem len14 {α : Type} {l : List α} (h : l.length = 14) : ∃ a0 a1 a2 a3 a4 a5 a6 a7 a8 a9 a10 a11 a12 a13, l = [a0, a1, a2, a3, a4, a5, a6, a7, a8, a9, a10, a11, a12, a13] := by
  match l, h with
  | a0 :: l, h =>
    obtain ⟨a1, a2, a3, a4, a5, a6, a7, a8, a9, a10, a11, a12, a13, rfl⟩ := len13 (Nat.succ.inj h)
    exact ⟨a0, a1, a2, a3, a4, a5, a6, a7, a8, a9, a10, a11, a12, a13, rfl⟩
theorem len15 {α : Type} {l : List α} (h : l.length = 15) : ∃ a0 a1 a2 a3 a4 a5 a6 a7 a8 a9 a10 a11 a12 a13 a14, l = [a0, a1, a2, a3, a4, a5, a6, a7, a8, a9, a10, a11, a12, a13, a14] := by
  match l, h with
  | a0 :: l, h =>
    obtain ⟨a1, a2, a3, a4, a5, a6, a7, a8, a9, a10, a11, a12, a13, a14, rfl⟩ := len14 (Nat.succ.inj h)
    exact ⟨a0, a1, a2, a3, a4, a5, a6, a7, a8, a9, a10, a11, a12, a13, a14, rfl⟩
theorem len16 {α : Type} {l : List α} (h : l.length = 16) : ∃ a0 a1 a2 a3 a4 a5 a6 a7 a8 a9 a10 a11 a12 a13 a14 a15, l = [a0, a1, a2, a3, a4, a5, a6, a7, a8, a9, a10, a11, a12, a13, a14, a15] := by
  match l, h with
  | a0 :: l, h =>
    obtain ⟨a1, a2, a3, a4, a5, a6, a7, a8, a9, a10, a11, a12, a13, a14, a15, rfl⟩ := len15 (Nat.succ.inj h)
    exact ⟨a0, a1, a2, a3, a4, a5, a6, a7, a8, a9, a10, a11, a12, a13, a14, a15, rfl⟩
theorem len17 {α : Type} {l : List α} (h : l.length = 17) : ∃ a0 a1 a2 a3 a4 a5 a6 a7 a8 a9 a10 a11 a12 a13 a14 a15 a16, l = [a0, a1, a2, a3, a4, a5, a6, a7, a8, a9, a10, a11, a12, a13, a14, a15, a16] := by
  match l, h with
  | a0 :: l, h =>
    obtain ⟨a1, a2, a3, a4, a5, a6, a7, a8, a9, a10, a11, a12, a13, a14, a15, a16, rfl⟩ := len16 (Nat.succ.inj h)
    exact ⟨a0, a1, a2, a3, a4, a5, a6, a7, a8, a9, a10, a11, a12, a13, a14, a15, a16, rfl⟩
section
variable {H : Type} {enc : TypeId × Value → H} {P : Program} {W : World}
/-- The cells read as the datum. -/
def DecR (enc : TypeId × Value → H) (P : Program) (W : World) (t : TypeId) (cs : List Value) (d : DataW H) : Prop := ∃ n ps, DataW.trod enc P W 0 (fun _ => true) true n t cs = some (d, ps)
/-- No part of it is greater than a machine's memory. -/
def Fits (P : Program) (t : TypeId) (d : DataW H) : Prop := ∀ n ∈ d.weights P t, n ≤ reachBytes
theorem DecR.of_trod {t : TypeId} {v : Value} {d : DataW H} {ps : List MemPlace} (h : DataW.Trod enc P W 0 (fun _ => true) true t v d ps) : DecR enc P W t v.cells.toList d := by
  obtain ⟨n, hn⟩ := h
  exact ⟨n, ps, hn⟩
theorem Fits.of_each {ts : List TypeId} {ds : List (DataW H)} (h : (DataW.weightsEach P ts ds).all (· ≤ reachBytes) = true) {j : Nat} {t : TypeId} {d : DataW H} (ht : ts[j]? = some t) (hd : ds[j]? = some d) : Fits P t d := fun n hn => by
  have := List.all_eq_true.1 h _ (DataW.weights_mem_each ht hd n hn)
  simpa using this
theorem DecR.int {t : TypeId} {k : IntKind} {cs : List Value} {d : DataW H} (ht : P.underlying t = some (.int k)) (h : DecR enc P W t cs d) : ∃ z, cs = [.int k z] ∧ (Lit.int k z).wf = true := by
  obtain ⟨n, ps, h⟩ := h
  obtain ⟨z, h1, _, h2⟩ := DataW.trod_int ht h
  exact ⟨z, h1, h2⟩
theorem DecR.bool {t : TypeId} {cs : List Value} {d : DataW H} (ht : P.underlying t = some .bool) (h : DecR enc P W t cs d) : ∃ z, cs = [.bool z] := by
  obtain ⟨n, ps, h⟩ := h
  obtain ⟨z, h1, _⟩ := DataW.trod_bool ht h
  exact ⟨z, h1⟩
theorem DecR.string {t : TypeId} {cs : List Value} {d : DataW H} (ht : P.underlying t = some .string) (h : DecR enc P W t cs d) : ∃ s, cs = [.string s] ∧ s.size ≤ maxLen ∧ (Fits P t d → s.size ≤ reachBytes) := by
  obtain ⟨n, ps, h⟩ := h
  cases n with
  | zero => simp [DataW.trod] at h
  | succ n =>
    simp only [DataW.trod, ht] at h
    split at h <;> try (rename_i e _; cases e; done)
    all_goals first
      | (rename_i s heq; cases heq)
      | skip
    all_goals first
      | (split at h
         · rename_i hs
           cases h
           exact ⟨_, rfl, hs, fun hf => by simpa using hf _ (by simp [DataW.weights])⟩
         · cases h)
      | simp_all
/-- A struct: field by field. -/
theorem DecR.struct {t : TypeId} {fs : Array Field} {cs : List Value} {d : DataW H} (ht : P.underlying t = some (.struct fs)) (h : DecR enc P W t cs d) :
    cs.length = P.cellsOf t ∧ ∀ (i : Nat) (f : Field), fs.toList[i]? = some f → ∃ y, DecR enc P W f.type ((cs.drop f.offset).take (P.cellsOf f.type)) y ∧ (Fits P t d → Fits P f.type y) := by
  obtain ⟨n, ps, h⟩ := h
  cases n with
  | zero => simp [DataW.trod] at h
  | succ k =>
    simp only [DataW.trod, ht] at h
    split at h
    · rename_i hl
      obtain ⟨xs, hxs, he⟩ := Option.map_eq_some_iff.1 h
      have hd : d = .agg (xs.map (·.1)) := by cases he; rfl
      subst hd
      have key : ∀ (l : List Field) (ys : List (DataW H × List MemPlace)), l.mapM (fun f => DataW.trod enc P W 0 (fun _ => true) true k f.type ((cs.drop f.offset).take (P.cellsOf f.type))) = some ys →
          ∀ (i : Nat) (f : Field), l[i]? = some f → ∃ y, ys[i]? = some y ∧ DataW.trod enc P W 0 (fun _ => true) true k f.type ((cs.drop f.offset).take (P.cellsOf f.type)) = some y := by
        intro l
        induction l with
        | nil => intro _ _ i f hf; simp at hf
        | cons g l ih =>
          intro ys hys i f hf
          simp only [List.mapM_cons, Option.bind_eq_bind, Option.bind_eq_some_iff] at hys
          obtain ⟨y, hy, ys', hys', e⟩ := hys
          cases e
          cases i with
          | zero => simp at hf; subst hf; exact ⟨y, rfl, hy⟩
          | succ i =>
            obtain ⟨z, h1, h2⟩ := ih ys' hys' i f (by simpa using hf)
            exact ⟨z, by simpa using h1, h2⟩
      refine ⟨hl, fun i f hf => ?_⟩
      obtain ⟨y, h1, h2⟩ := key _ _ hxs i f hf
      refine ⟨y.1, ⟨k, y.2, by rw [h2]⟩, fun hb m hm => hb m ?_⟩
      simp only [DataW.weights, ht]
      exact DataW.weights_mem_each (j := i) (by simp [hf]) (by simp [h1]) m hm
    · cases h
theorem weightsAll_mem : ∀ {e : TypeId} {ds : List (DataW H)} {j : Nat} {d : DataW H}, ds[j]? = some d → ∀ n ∈ d.weights P e, n ∈ DataW.weightsAll P e ds
  | e, d0 :: ds, 0, d, hd, n, hn => by
    simp only [List.getElem?_cons_zero, Option.some.injEq] at hd
    subst hd
    simp only [DataW.weightsAll, List.mem_append]
    exact Or.inl hn
  | e, d0 :: ds, j + 1, d, hd, n, hn => by
    simp only [List.getElem?_cons_succ] at hd
    simp only [DataW.weightsAll, List.mem_append]
    exact Or.inr (weightsAll_mem hd n hn)
  | _, [], _, _, hd, _, _ => by simp at hd
/-- A slice: element by element. -/
theorem DecR.slice {α : Type} {Ok : α → Prop} {enc' : α → List Value} {t e : TypeId} {cs : List Value} {d : DataW H} (ht : P.underlying t = some (.slice e)) (dec : ∀ cs d, DecR enc P W e cs d → Fits P e d → ∃ x, Ok x ∧ cs = enc' x)
    (hsz : ∀ x, (enc' x).length = P.cellsOf e) (hpos : 0 < P.cellsOf e) (h : DecR enc P W t cs d) (hb : Fits P t d) :
    ∃ a len cap xs, cs = [.slice a len cap] ∧ OldVec W (P.cellsOf e) enc' a len cap xs ∧ (∀ x ∈ xs, Ok x) ∧ cap * P.bytesOf e ≤ reachBytes := by
  obtain ⟨n, ps, hf⟩ := h
  rcases Deep.open_slice ht hf with ⟨rfl, _⟩ | ⟨a', len', cap', m, n, D, Pl, rfl, _, hl, hm, hmm, hx0, hx⟩
  · exact ⟨none, 0, 0, [], rfl, ⟨rfl, ⟨Nat.le_refl _, Nat.zero_le _⟩, fun i x h => by simp at h⟩, fun x h => by simp at h, by simp⟩
  · simp only [if_true] at hmm
    subst hmm
    have hd : d = .slice ((List.range len').map D) ((List.range (m - len')).map fun j => D (len' + j)) := by cases hx0; rfl
    subst hd
    have hw : (len' + (m - len')) * P.bytesOf e ≤ reachBytes := hb _ (by simp [DataW.weights, ht])
    have hfit : ∀ i, i < len' → Fits P e (D i) := fun i hi q hq => hb q (by
      simp only [DataW.weights, ht, List.mem_cons, List.mem_append]
      exact Or.inr (Or.inl (weightsAll_mem (j := i) (by simp [hi]) q hq)))
    obtain ⟨xs, h1, h2⟩ := list_of (p := fun i (x : α) => Ok x ∧ W.cells? 0 (a'.add (i * P.cellsOf e)) (P.cellsOf e) = some (enc' x)) len' fun i hi => by
      obtain ⟨cs', h3, h4⟩ := hx i (by omega)
      obtain ⟨x, hok, rfl⟩ := dec _ _ ⟨_, _, h4⟩ (hfit i hi)
      exact ⟨x, hok, h3⟩
    refine ⟨some a', len', m, xs, rfl, ⟨h1.symm, ⟨hl, hm⟩, fun i x hi => ?_⟩, fun x hx => ?_, by rwa [show len' + (m - len') = m by omega] at hw⟩
    · obtain ⟨_, h3⟩ := h2 i x hi
      obtain ⟨_, h4, h5⟩ := World.cells?_some h3
      obtain ⟨b, off, sp⟩ := a'
      have h6 : sp = none := by
        obtain ⟨x0, hx0⟩ : ∃ x0, xs[0]? = some x0 := by
          cases xs with
          | nil => simp at hi
          | cons y ys => exact ⟨y, rfl⟩
        obtain ⟨_, h3'⟩ := h2 0 x0 hx0
        obtain ⟨_, _, h5'⟩ := World.cells?_some h3'
        have h7 := h5' 0 hpos
        have h8 : 0 < (enc' x0).length := by rw [hsz]; exact hpos
        rw [List.getElem?_eq_getElem h8] at h7
        simp only [Nat.zero_mul, Addr.add, if_true] at h7
        unfold World.cell? at h7
        split at h7
        · cases sp with
          | none => rfl
          | some k => simp at h7
        · cases h7
      subst h6
      refine ⟨b, off, rfl, fun j v hj => ?_⟩
      have hjl : j < P.cellsOf e := by
        rcases Nat.lt_or_ge j (enc' x).length with h | h
        · rw [← hsz x]; exact h
        · simp [List.getElem?_eq_none h] at hj
      have := h5 j hjl
      rw [hj, Addr.add_eq, Addr.add_eq] at this
      exact this
    · obtain ⟨i, hi⟩ := List.getElem?_of_mem hx
      exact (h2 i x hi).1
/-- A value that is its own cells. -/
theorem DecR.agg {t : TypeId} {fs : Array Field} {r : Reach} {b0 : Nat} {v : Value} {d : DataW H} {ps : List MemPlace} (ht : P.underlying t = some (.struct fs)) (hval : Value.okWide P W r b0 t v) (hd : DataW.Trod enc P W 0 (fun _ => true) true t v d ps) :
    ∃ cs, v = .agg ⟨cs⟩ ∧ DecR enc P W t cs d := by
  simp only [Value.okWide, ht] at hval
  obtain ⟨⟨cs⟩, rfl, _⟩ := hval
  obtain ⟨fuel, hf⟩ := hd
  exact ⟨cs, rfl, fuel, ps, hf⟩
/-- A value of one cell. -/
theorem DecR.slc {t e : TypeId} {r : Reach} {b0 : Nat} {v : Value} {d : DataW H} {ps : List MemPlace} (ht : P.underlying t = some (.slice e)) (hval : Value.okWide P W r b0 t v) (hd : DataW.Trod enc P W 0 (fun _ => true) true t v d ps) :
    ∃ a len cap, v = .slice a len cap ∧ DecR enc P W t [.slice a len cap] d := by
  obtain ⟨a, len, cap, rfl⟩ := WideShapes.okWide_slice ht hval
  obtain ⟨fuel, hf⟩ := hd
  exact ⟨a, len, cap, rfl, fuel, ps, hf⟩
theorem DecR.num {t : TypeId} {k : IntKind} {r : Reach} {b0 : Nat} {v : Value} {d : DataW H} {ps : List MemPlace} (ht : P.underlying t = some (.int k)) (hval : Value.okWide P W r b0 t v) (hd : DataW.Trod enc P W 0 (fun _ => true) true t v d ps) :
    ∃ z, v = .int k z ∧ (Lit.int k z).wf = true := by
  obtain ⟨n, rfl⟩ := WideShapes.okWide_int ht hval
  obtain ⟨z, h1, h2⟩ := DecR.int ht (DecR.of_trod hd)
  simp [Value.cells] at h1
  subst h1
  exact ⟨n, rfl, h2⟩
end
end Go.SL
