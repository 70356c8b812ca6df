/- A law's row: what its arguments hold, and what its statement asks behind the call. No condition. -/
import Derived.Test.YtacpnjlijjgbmaaGreatDoorVecAuto
import Derived.ProofKit
import Derived.OpenShut
import Derived.Carry
import Derived.Deep.Slices
namespace Go.SL
open Go Go.ChangeShapes Go.WideShapes Go.ChangeAt Go.RowKit

/-- Of what there was nothing has turned. -/
theorem Sat.below {W w : World} {R : HProp} (h : Sat W (SL.old W • R) w) : Below W.heap.size W w :=
  ⟨h.1.os, h.1.tape, h.1.output, h.1.size, fun k hk => h.old k hk⟩
theorem Does.law {P : Program} {W : World} {f : FuncId} {args : Array Value} {v : Value} (h : Does P W f args (old W • emp) (Ret fun u G => u = v ∧ G = (old W • emp))) :
    Calls P f args W fun e w' => e = .returned v ∧ Below W.heap.size W w' := by
  refine (h.run W (Sat.start W)).mono fun e w' ⟨H', hs, u, G, he, hi, hu, hG⟩ => ?_
  subst hu hG
  exact ⟨he, (hs.imp hi).below⟩

variable {H : Type} {enc : TypeId × Value → H} {P : Program}
theorem TrodAll.stays (hl : laidOutB P = true) {W W' : World} {sp : Nat → Bool} (hb : Below W.heap.size W W') :
    ∀ (ts : List TypeId) (vs : List Value) (ds : List (DataW H)) (ps : List MemPlace), (ts.all fun t => P.readableRec t && decide (t < P.types.size)) = true →
      DataW.TrodAll enc P W 0 (fun _ => true) true ts vs ds ps → (∀ x ∈ ps, x.block < W.heap.size) → (∀ x ∈ ps, sp x.block = true) → DataW.TrodAll enc P W' 0 sp true ts vs ds ps
  | [], [], [], _, _, h, _, _ => h
  | t :: ts, v :: vs, d :: ds, ps, hr, h, hlt, hsp => by
    obtain ⟨p, q, h1, h2, rfl⟩ := h
    simp only [List.all_cons, Bool.and_eq_true, decide_eq_true_eq] at hr
    exact ⟨p, q, WideElems.Trod_stays hl hr.1.1 hr.1.2 h1 (fun x hx => hb.same (hlt x (List.mem_append_left _ hx))) (fun x hx => hsp x (List.mem_append_left _ hx)),
      TrodAll.stays hl hb ts vs ds q hr.2 h2 (fun x hx => hlt x (List.mem_append_right _ hx)) (fun x hx => hsp x (List.mem_append_right _ hx)), rfl⟩
  | [], _ :: _, _, _, _, h, _, _ => h.elim
  | [], [], _ :: _, _, _, h, _, _ => h.elim
  | _ :: _, [], _, _, _, h, _, _ => h.elim
  | _ :: _, _ :: _, [], _, _, h, _, _ => h.elim
theorem TrodAll.len {W : World} {sp : Nat → Bool} {hd : Bool} {b : Nat} : ∀ (ts : List TypeId) (vs : List Value) (ds : List (DataW H)) (ps : List MemPlace),
      DataW.TrodAll enc P W b sp hd ts vs ds ps → ds.length = ts.length ∧ vs.length = ts.length
  | [], [], [], _, _ => ⟨rfl, rfl⟩
  | t :: ts, v :: vs, d :: ds, ps, h => by
    obtain ⟨p, q, h1, h2, rfl⟩ := h
    have := TrodAll.len ts vs ds q h2
    simp [this.1, this.2]
  | [], _ :: _, _, _, h => h.elim
  | [], [], _ :: _, _, h => h.elim
  | _ :: _, [], _, _, h => h.elim
  | _ :: _, _ :: _, [], _, h => h.elim

/-- What the statement asks, behind a call that has answered true and written nothing that was there. -/
theorem law_post {f : Func} {s : ChangeSpec} {apart fresh handsOn again : Bool} {W W' : World} {args : Array Value} {ds gs : List (DataW H)} {before : List MemPlace} {bt : TypeId}
    (hW : DataW.Whole enc P f.params.toList s.vars apart W args.toList ds gs before) (hv : s.vars = [])
    (hl : laidOutB P = true) (hr : (f.params.toList.all fun t => P.readableRec t && decide (t < P.types.size)) = true)
    (hrt : f.resultTypes = #[bt]) (hbt : P.underlying bt = some .bool)
    (hfn : s.fn H (ds ++ gs) = { results := [.lit (.bool true)], args := ds }) (hb : Below W.heap.size W W') : s.post enc P f apart fresh handsOn again W args (.bool true) W' := by
  have hlt : ∀ p ∈ before, p.block < W.heap.size := fun p hp => by simpa using hW.lt p hp
  have hW' := hW
  obtain ⟨pa, q, hA, hV, rfl, hz, hn⟩ := hW
  rw [hv] at hV
  have hq : gs = [] ∧ q = [] := by cases gs <;> simp_all [DataW.TrodVars]
  obtain ⟨rfl, rfl⟩ := hq
  simp only [List.append_nil] at hlt hz hn hfn hW'
  have hres : ∀ (b : Nat) (sp : Nat → Bool) (hd : Bool), DataW.TrodAll enc P W' b sp hd f.resultTypes.toList ((Value.bool true).resultList f.resultTypes.size) [.lit (.bool true)] [] := fun b sp hd => by
    rw [hrt]
    exact trodAll_cons_mk (shut_bool hbt _) trodAll_mk0
  have hargs : ∀ sp : Nat → Bool, (∀ x ∈ pa, sp x.block = true) → DataW.TrodAll enc P W' 0 sp true f.params.toList args.toList ds pa := fun sp hsp => TrodAll.stays hl hb _ _ _ _ hr hA hlt hsp
  have hvars : ∀ sp : Nat → Bool, DataW.TrodVars enc P W' sp s.vars [] [] := fun sp => by rw [hv]; rfl
  refine ⟨ds, [], pa, [], pa, [], by simpa using hW', ?_, ?_, ?_, ?_, fun _ => ⟨?_, ?_⟩⟩
  · rw [List.append_nil, hfn]; exact hres _ _ _
  · rw [List.append_nil, hfn]; exact hargs _ fun x hx => by simpa using hlt x hx
  · rw [List.append_nil, hfn, hv]; rfl
  · exact World.keptBut_mono (fun _ f => f.elim) (hb.frame fun _ => False)
  · intro j t r h1 h2
    rw [hrt] at h1 h2
    cases j with
    | zero =>
      have ht : t = bt := by simpa using h1.symm
      have hr : r = .bool true := by simpa [Value.resultList] using h2.symm
      subst ht hr
      exact okWide_bool_mk hbt _
    | succ j => simp at h1
  · refine ⟨[.lit (.bool true)] ++ ds, [], [] ++ pa ++ [], ⟨[] ++ pa, [], trodAll_append (hargs _ fun _ _ => rfl) (hres _ _ _), hvars _, rfl, ?_, ?_⟩, ?_⟩
    · intro b off hp
      have hp' : MemPlace.cell b off ∈ pa := by simpa using hp
      rw [hb.frozen (hlt _ hp')]
      exact hz b off hp'
    · intro ha; simpa using hn ha
    · intro p hp _; simpa using hp

/-! ### What the arguments hold -/
section
variable {W : World} {α : Type} {sz : Nat} {enc' : α → List Value}
/-- The slice reads as xs in the world at the start. -/
structure OldVec (W : World) (sz : Nat) (enc' : α → List Value) (a : Option Addr) (len cap : Nat) (xs : List α) : Prop where
  hlen : len = xs.length
  hcap : len ≤ cap ∧ cap ≤ maxLen
  at' : ∀ i x, xs[i]? = some x → ∃ b off, a = some ⟨b, off, none⟩ ∧ ∀ j v, (enc' x)[j]? = some v → W.cell? ⟨b, off + i * sz + j, none⟩ = some v
class OldC (W : World) (H : HProp) : Prop where h : ∀ a v, W.cell? a = some v → Rd W H a v
instance (priority := 90) OldC.there {R X : HProp} [i : OldC W R] : OldC W (X • R) := ⟨fun a v h => (i.h a v h).there⟩
theorem rd_old {R : HProp} (a : Addr) (v : Value) (h : W.cell? a = some v) : Rd W (old W • R) a v := by
  intro w hs
  have hlt : a.block < W.heap.size := World.block_lt_of_cell? _ _ h
  rw [World.cell?_of_block (w := W) (hs.old a.block hlt)]
  exact h
instance (priority := 100) OldC.here {R : HProp} : OldC W (old W • R) := ⟨rd_old⟩
instance OldC.last : OldC W (old W) := ⟨fun a v h w hs => by
  have hs' : Sat W (old W • emp) w := by rw [star_emp]; exact hs
  exact rd_old a v h w hs'⟩
variable {HH : HProp} {a : Option Addr} {len cap : Nat} {xs : List α}
theorem IxS.o {i size : Nat} {n : Int} {K : Addr → Prop} (ho : OldVec W sz enc' a len cap xs) (hn : n = (i : Int)) (hi : i < xs.length)
    (k : ∀ b off, a = some ⟨b, off, none⟩ → K ⟨b, off + i * size, none⟩) : IxS W HH a len n size K := by
  subst hn
  obtain ⟨b, off, rfl, _⟩ := ho.at' i _ (List.getElem?_eq_getElem hi)
  exact ⟨fun w _ => ⟨_, rfl, by omega, by have := ho.hlen; omega, by rw [show ((i : Int)).toNat = i by simp, Addr.add_eq]; exact k b off rfl⟩⟩
theorem Ld.o0 {b off i : Nat} {x : α} {v : Value} {K : Value → Prop} [c : OldC W HH] (ho : OldVec W sz enc' (some ⟨b, off, none⟩) len cap xs) (hx : xs[i]? = some x) (hj : (enc' x)[0]? = some v) (k : K v) :
    Ld W HH ⟨b, off + i * sz, none⟩ K := by
  obtain ⟨b', off', hb, h⟩ := ho.at' i x hx
  cases hb
  exact Ld.intro (c.h _ _ (h 0 v hj)) k
theorem Ld.o {b off i j : Nat} {x : α} {v : Value} {K : Value → Prop} [c : OldC W HH] (ho : OldVec W sz enc' (some ⟨b, off, none⟩) len cap xs) (hx : xs[i]? = some x) (hj : (enc' x)[j]? = some v) (k : K v) :
    Ld W HH ⟨b, off + i * sz + j, none⟩ K := by
  obtain ⟨b', off', hb, h⟩ := ho.at' i x hx
  cases hb
  exact Ld.intro (c.h _ _ (h j v hj)) k
theorem LdN.o {b off i n : Nat} {x : α} {l : List Value} {K : Value → Prop} [c : OldC W HH] (ho : OldVec W sz enc' (some ⟨b, off, none⟩) len cap xs) (hx : xs[i]? = some x) (hl : enc' x = l) (hn : l.length = n) (k : K (.agg ⟨l⟩)) :
    LdN W HH ⟨b, off + i * sz, none⟩ n K := by
  subst hl
  obtain ⟨b', off', hb, h⟩ := ho.at' i x hx
  cases hb
  exact ⟨_, hn, fun j v hj => by rw [Addr.add_eq]; exact c.h _ _ (h j v hj), k⟩
end

/-- Whatever reads as a value of type t is written by enc'. -/
def Decodes {H : Type} (enc : TypeId × Value → H) (P : Program) (W : World) (t : TypeId) {α : Type} (Ok : α → Prop) (enc' : α → List Value) : Prop :=
  ∀ n cs y, DataW.trod enc P W 0 (fun _ => true) true n t cs = some y → ∃ x, Ok x ∧ cs = enc' x
theorem list_of {α : Type} {p : Nat → α → Prop} : ∀ n : Nat, (∀ i, i < n → ∃ x, p i x) → ∃ xs : List α, xs.length = n ∧ ∀ i x, xs[i]? = some x → p i x
  | 0, _ => ⟨[], rfl, fun i x h => by simp at h⟩
  | n + 1, h => by
    obtain ⟨xs, h1, h2⟩ := list_of n fun i hi => h i (by omega)
    obtain ⟨y, hy⟩ := h n (by omega)
    refine ⟨xs ++ [y], by simp [h1], fun i x hx => ?_⟩
    by_cases hi : i < n
    · rw [List.getElem?_append_left (by omega)] at hx; exact h2 i x hx
    · rw [List.getElem?_append_right (by omega), h1] at hx
      cases hk : i - n with
      | zero =>
        rw [hk] at hx
        have : i = n := by omega
        subst this
        have : y = x := by simpa using hx
        subst this; exact hy
      | succ k => rw [hk] at hx; simp at hx
theorem arg_slice {W : World} {α : Type} {Ok : α → Prop} {enc' : α → List Value} {r : Reach} {b0 : Nat} {t e : TypeId} {v : Value} {d : DataW H} {ps : List MemPlace} (ht : P.underlying t = some (.slice e))
    (hval : Value.okWide P W r b0 t v) (hd : DataW.Trod enc P W 0 (fun _ => true) true t v d ps) (dec : Decodes enc P W e Ok enc') (hsz : ∀ x, (enc' x).length = P.cellsOf e) (hpos : 0 < P.cellsOf e) :
    ∃ a len cap xs, v = .slice a len cap ∧ OldVec W (P.cellsOf e) enc' a len cap xs ∧ ∀ x ∈ xs, Ok x := by
  obtain ⟨a, len, cap, rfl⟩ := okWide_slice ht hval
  obtain ⟨fuel, hf⟩ := hd
  rcases Deep.open_slice ht hf with ⟨hcs, _⟩ | ⟨a', len', cap', m, n, D, Pl, hcs, _, hl, hm, hmm, _, hx⟩
  · simp [Value.cells] at hcs
    obtain ⟨rfl, rfl, rfl⟩ := hcs
    exact ⟨none, 0, 0, [], rfl, ⟨rfl, ⟨Nat.le_refl _, Nat.zero_le _⟩, fun i x h => by simp at h⟩, fun x h => by simp at h⟩
  · simp [Value.cells] at hcs
    obtain ⟨rfl, rfl, rfl⟩ := hcs
    simp only [if_true] at hmm
    obtain ⟨xs, h1, h2⟩ := list_of (p := fun i (x : α) => Ok x ∧ W.cells? 0 (a'.add (i * P.cellsOf e)) (P.cellsOf e) = some (enc' x)) len fun i hi => by
      obtain ⟨cs', h3, h4⟩ := hx i (by omega)
      obtain ⟨x, hok, rfl⟩ := dec _ _ _ h4
      exact ⟨x, hok, h3⟩
    refine ⟨some a', len, cap, xs, rfl, ⟨h1.symm, ⟨hl, hm⟩, fun i x hi => ?_⟩, fun x hx => ?_⟩
    · obtain ⟨_, h3⟩ := h2 i x hi
      obtain ⟨_, h4, h5⟩ := World.cells?_some h3
      obtain ⟨b, off, sp⟩ := a'
      have h6 : sp = none := by
        obtain ⟨x0, hx0⟩ : ∃ x0, xs[0]? = some x0 := by
          cases xs with
          | nil => simp at hi
          | cons y ys => exact ⟨y, rfl⟩
        obtain ⟨_, h3'⟩ := h2 0 x0 hx0
        obtain ⟨_, _, h5'⟩ := World.cells?_some h3'
        have h7 := h5' 0 hpos
        have h8 : 0 < (enc' x0).length := by rw [hsz]; exact hpos
        rw [List.getElem?_eq_getElem h8] at h7
        simp only [Nat.zero_mul, Addr.add, if_true] at h7
        unfold World.cell? at h7
        split at h7
        · cases sp with
          | none => rfl
          | some k => simp at h7
        · cases h7
      subst h6
      refine ⟨b, off, rfl, fun j v hj => ?_⟩
      have hjl : j < P.cellsOf e := by
        rcases Nat.lt_or_ge j (enc' x).length with h | h
        · rw [← hsz x]; exact h
        · simp [List.getElem?_eq_none h] at hj
      have := h5 j hjl
      rw [hj, Addr.add_eq, Addr.add_eq] at this
      exact this
    · obtain ⟨i, hi⟩ := List.getElem?_of_mem hx
      exact (h2 i x hi).1
theorem arg_agg {W : World} {α : Type} {Ok : α → Prop} {enc' : α → List Value} {r : Reach} {b0 : Nat} {t : TypeId} {fs : Array Field} {v : Value} {d : DataW H} {ps : List MemPlace} (ht : P.underlying t = some (.struct fs))
    (hval : Value.okWide P W r b0 t v) (hd : DataW.Trod enc P W 0 (fun _ => true) true t v d ps) (dec : Decodes enc P W t Ok enc') : ∃ x, v = .agg ⟨enc' x⟩ ∧ Ok x := by
  simp only [Value.okWide, ht] at hval
  obtain ⟨cs, rfl, _⟩ := hval
  obtain ⟨fuel, hf⟩ := hd
  obtain ⟨x, hok, hx⟩ := dec _ _ _ hf
  refine ⟨x, ?_, hok⟩
  simp only [Value.cells] at hx
  rw [← hx]
theorem trod_fields {W : World} {n : Nat} {t : TypeId} {fs : Array Field} {cs : List Value} {x : DataW H × List MemPlace} (ht : P.underlying t = some (.struct fs))
    (h : DataW.trod enc P W 0 (fun _ => true) true n t cs = some x) : cs.length = P.cellsOf t ∧ ∃ k, ∀ f ∈ fs.toList, ∃ y, DataW.trod enc P W 0 (fun _ => true) true k f.type ((cs.drop f.offset).take (P.cellsOf f.type)) = some y := by
  cases n with
  | zero => simp [DataW.trod] at h
  | succ k =>
    simp only [DataW.trod, ht] at h
    split at h
    · rename_i hl
      obtain ⟨xs, hxs, _⟩ := Option.map_eq_some_iff.1 h
      refine ⟨hl, k, fun f hf => ?_⟩
      have : ∀ (l : List Field) (ys : List (DataW H × List MemPlace)), l.mapM (fun f => DataW.trod enc P W 0 (fun _ => true) true k f.type ((cs.drop f.offset).take (P.cellsOf f.type))) = some ys → ∀ f ∈ l, ∃ y, DataW.trod enc P W 0 (fun _ => true) true k f.type ((cs.drop f.offset).take (P.cellsOf f.type)) = some y := by
        intro l
        induction l with
        | nil => intro _ _ f hf; simp at hf
        | cons g l ih =>
          intro ys hys f hf
          simp only [List.mapM_cons, Option.bind_eq_bind, Option.bind_eq_some_iff] at hys
          obtain ⟨y, hy, ys', hys', _⟩ := hys
          rcases List.mem_cons.1 hf with rfl | hf
          · exact ⟨y, hy⟩
          · exact ih ys' hys' f hf
      exact this _ _ hxs f hf
    · cases h
/-- An int's bounds. -/
theorem wf_i64 {n : Int} (h : (Lit.int .i64 n).wf = true) : -9223372036854775808 ≤ n ∧ n ≤ 9223372036854775807 := by
  simpa [Lit.wf, IntKind.min, IntKind.max, IntKind.signed, IntKind.bits] using h
end Go.SL
