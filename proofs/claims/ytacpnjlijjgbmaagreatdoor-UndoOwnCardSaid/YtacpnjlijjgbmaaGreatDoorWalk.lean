/- Walking with less text: loops off the frame at hand, loops of a few rounds, rows that are read wherever they lie. No condition. -/
import Derived.Test.YtacpnjlijjgbmaaGreatDoorEqs
import Derived.Test.YtacpnjlijjgbmaaGreatDoorArgs
import Derived.LoopNIn
namespace Go.SL
open Go
section
variable {P : Program} {W : World} {T : Tab} {N : Nat} {H R X : HProp}
theorem Sub.of {A : HProp} (h : Imp H A) : Sub W H A := fun _ hs => hs.imp h
theorem Sub.on {A : HProp} {K : Prop} (h : Imp H A) (k : K) : Req (Sub W H A) K := ⟨Sub.of h, k⟩
theorem Sub.emp : Sub W H emp := Sub.of (Imp.emp _)
theorem Does.post {f : FuncId} {args : Array Value} {Q Q' : Ending → HProp → Prop} (h : Does P W f args H Q) (k : ∀ e w H', Sat W H' w → Q e H' → ∃ H'', Sat W H'' w ∧ Q' e H'') :
    Does P W f args H Q' := ⟨fun w hs => (h.run w hs).mono fun e w' ⟨H', h1, h2⟩ => k e w' H' h1 h2⟩
theorem Does.have {p : Prop} {f : FuncId} {args : Array Value} {Q : Ending → HProp → Prop} (h : ∀ w, Sat W H w → p) (k : p → Does P W f args H Q) : Does P W f args H Q := ⟨fun w hs => (k (h w hs)).run w hs⟩
theorem Fr.sub_hd {k : Nat} {u : Value} {fr fr' : Fr} (h0 : Fr.get fr' k = none) (h : ∀ t v, Fr.get fr' t = some v → Fr.get fr t = some v) : ∀ t v, Fr.get fr' t = some v → Fr.get ((k, u) :: fr) t = some v := by
  intro t v ht
  rw [Fr.get_cons]
  split
  · rename_i e; subst e; rw [h0] at ht; cases ht
  · exact h t v ht
theorem Fr.sub_tl (e : Fr) : ∀ (fr : Fr) (t : Nat) (v : Value), Fr.get fr t = some v → Fr.get (fr ++ e) t = some v
  | [], _, _, h => by cases h
  | (k, u) :: fr, t, v, h => by
    rw [List.cons_append, Fr.get_cons]
    rw [Fr.get_cons] at h
    split at h
    · rename_i e'; simp only [e', if_true]; exact h
    · rename_i e'; simp only [e', if_false]; exact Fr.sub_tl e fr t v h
/-- All of a frame's entries stand in another one. -/
def Fr.inn (fr' : Fr) : Fr → Prop
  | [] => True
  | (k, v) :: r => fr'.get k = some v ∧ Fr.inn fr' r
theorem Fr.inn_sub {fr' : Fr} : ∀ {fr : Fr}, Fr.inn fr' fr → ∀ t v, fr.get t = some v → fr'.get t = some v
  | [], _, _, _, h => by cases h
  | (k, u) :: fr, h, t, v, ht => by
    rw [Fr.get_cons] at ht
    split at ht
    · rename_i e; subst e; cases ht; exact h.1
    · exact Fr.inn_sub h.2 t v ht

def setF (k : Nat) (v : Value) : Fr → Fr
  | [] => [(k, v)]
  | (j, u) :: fr => match Nat.beq j k with
    | true => (k, v) :: fr
    | false => (j, u) :: setF k v fr
/-- A frame with other values in some slots. -/
def putF : List (Nat × Value) → Fr → Fr
  | [], fr => fr
  | (k, v) :: l, fr => setF k v (putF l fr)
/-- A loop: what turns in the frame (sl) and in the heap (A); all else stays. -/
theorem LoopK.at (hT : T.ok P) {L : Nat → Option (List Nat)} {c : Code} {fr : Fr} {ds : List Deferred} {Q : PostC}
    {ι : Type} (I : ι → Prop) (sl : ι → List (Nat × Value)) (A : ι → HProp) {R : HProp} (μ : ι → Nat) (i : ι) (hI : I i) (hF : ∀ t v, (putF (sl i) fr).get t = some v → fr.get t = some v) (hH : Imp H (A i • R))
    (round : ∀ i, I i → exec P W T N L c (fun e fr' ds' H' => match e with
      | .normal => ds' = ds ∧ ∃ j, I j ∧ (∀ t v, (putF (sl j) fr).get t = some v → fr'.get t = some v) ∧ Imp H' (A j • R) ∧ μ j < μ i
      | e => Q e fr' ds' H') (putF (sl i) fr) ds (A i • R)) : LoopK P W N c fr ds H Q :=
  LoopK.intro hT I (fun j => putF (sl j) fr) (fun j => A j • R) μ i hI hF hH round

/-- A loop that leaves the heap as it is. -/
theorem LoopK.keep (hT : T.ok P) {L : Nat → Option (List Nat)} {c : Code} {fr : Fr} {ds : List Deferred} {Q : PostC}
    {ι : Type} (I : ι → Prop) (sl : ι → List (Nat × Value)) (μ : ι → Nat) (i : ι) (hI : I i) (hF : ∀ t v, (putF (sl i) fr).get t = some v → fr.get t = some v)
    (round : ∀ i, I i → exec P W T N L c (fun e fr' ds' H' => match e with
      | .normal => ds' = ds ∧ ∃ j, I j ∧ (∀ t v, (putF (sl j) fr).get t = some v → fr'.get t = some v) ∧ Imp H' H ∧ μ j < μ i
      | e => Q e fr' ds' H') (putF (sl i) fr) ds H) : LoopK P W N c fr ds H Q :=
  LoopK.intro hT I (fun j => putF (sl j) fr) (fun _ => H) μ i hI hF (Imp.refl _) round

/-- A loop's rounds, one behind the other, n at most. -/
def roundsK (P : Program) (W : World) (T : Tab) (N : Nat) (L : Nat → Option (List Nat)) (c : Code) (Q : PostC) : Nat → Fr → List Deferred → HProp → Prop
  | 0, _, _, _ => False
  | n + 1, fr, ds, H => exec P W T N L c (fun e fr' ds' H' => match e with
    | .normal => roundsK P W T N L c Q n fr' ds' H'
    | e => Q e fr' ds' H') fr ds H
theorem LoopK.rounds (hT : T.ok P) {L : Nat → Option (List Nat)} {c : Code} {fr : Fr} {ds : List Deferred} {Q : PostC} (n : Nat) (h : roundsK P W T N L c Q n fr ds H) : LoopK P W N c fr ds H Q := by
  refine ⟨fun ρ a w hpl h1 h2 h3 h4 => wpIn_loop_rounds n ?_⟩
  induction n generalizing fr ds H a w with
  | zero => exact h.elim
  | succ n ih =>
    refine wpIn_mono (exec_sound hT L _ _ _ _ _ h ρ a w hpl h1 h2 h3 h4) ?_
    rintro e a' w' ⟨fr', H', g1, g2, g3, g4⟩
    cases e with
    | normal => exact ih g4 a' w' g1 g2 rfl g3
    | _ => exact ⟨fr', H', g1, g2, g3, g4⟩

theorem nbeq_self {α : Type} [BEq α] [ReflBEq α] (x : α) : (!(x == x)) = false := by simp
theorem beq_self {α : Type} [BEq α] [ReflBEq α] (x : α) : (x == x) = true := by simp
theorem ndec_self {α : Type} (x : α) [d : Decidable (x = x)] : (!decide (x = x)) = false := by simp
theorem spl_dec {p : Prop} [d : Decidable p] {A B : Prop} (h1 : p → A) (h2 : ¬ p → B) : spl (decide p) A B := by
  by_cases h : p
  · rw [decide_eq_true h]; exact h1 h
  · rw [decide_eq_false h]; exact h2 h
theorem spl_ndec {p : Prop} [d : Decidable p] {A B : Prop} (h1 : ¬ p → A) (h2 : p → B) : spl (!decide p) A B := by
  by_cases h : p
  · rw [decide_eq_true h]; exact h2 h
  · rw [decide_eq_false h]; exact h1 h

theorem drop_of {α : Type} {xs : List α} {i : Nat} {x : α} (h : xs[i]? = some x) : xs.drop i = x :: xs.drop (i + 1) := by
  obtain ⟨h1, h2⟩ := List.getElem?_eq_some_iff.1 h
  rw [← h2]; exact List.drop_eq_getElem_cons h1
theorem drop_all {α : Type} {xs : List α} {i : Nat} (h : ¬ i < xs.length) : xs.drop i = [] := List.drop_eq_nil_of_le (by omega)

/-! ### Rows that are read -/
/-- H lets the row at a be read: it holds xs. -/
class RowC {α : outParam Type} (W : World) (H : HProp) (a : Option Addr) (sz : outParam Nat) (enc : outParam (α → List Value)) (xs : outParam (List α)) : Prop where
  h : ∀ w, Sat W H w → ∀ i x, xs[i]? = some x → ∃ b off, a = some ⟨b, off, none⟩ ∧ ∀ j v, (enc x)[j]? = some v → Rd W H ⟨b, off + i * sz + j, none⟩ v
variable {α : Type} {sz : Nat} {enc : α → List Value} {a : Option Addr} {xs : List α}
instance (priority := 90) RowC.there [c : RowC W R a sz enc xs] : RowC W (X • R) a sz enc xs := ⟨fun w hs i x hx => by
  obtain ⟨b, off, ha, h⟩ := c.h w hs.right i x hx
  exact ⟨b, off, ha, fun j v hj => (h j v hj).there⟩⟩
theorem RowC.vec {t : TypeId} {cap : Nat} (hsz : Sized sz enc) (hv : VecAt W H t sz enc a cap xs) : RowC W H a sz enc xs := ⟨fun w hs i x hx => by
  obtain ⟨R, hR⟩ := hv w hs
  cases hR with
  | nil ha hc hx' _ => subst hx'; simp at hx
  | mk b off pre junk ha hp hl hj _ =>
    subst ha
    exact ⟨b, off, rfl, fun j v hj => Rd.vec hsz hv hx hj⟩⟩
instance (priority := 100) RowC.here {t : TypeId} {cap : Nat} [s : SizedC sz enc] : RowC W (SL.vec t sz enc a cap xs • R) a sz enc xs := RowC.vec s.h VecAt.here
instance (priority := 80) RowC.left [c : RowC W X a sz enc xs] : RowC W (X • R) a sz enc xs := ⟨fun w hs i x hx => by
  obtain ⟨b, off, ha, h⟩ := c.h w hs.left i x hx
  exact ⟨b, off, ha, fun j v hj => (h j v hj).left⟩⟩
theorem RowC.pts {b : Nat} {l : List Value} {t : TypeId} {fz : Nat × Nat} (hsz : Sized sz enc) (xs : List α) (h : l = xs.flatMap enc) : RowC W (SL.pts b (.cells ⟨l⟩ t fz) • R) (some ⟨b, 0, none⟩) sz enc xs := ⟨fun w hs i x hx => by
  subst h
  exact ⟨b, 0, rfl, fun j v hj => by rw [Nat.zero_add]; exact Rd.pts (hsz.get _ _ _ _ _ hx hj)⟩⟩
theorem RowC.nil : RowC W H none sz enc [] := ⟨fun w hs i x hx => by simp at hx⟩
class OldR {α : outParam Type} (W : World) (sz : outParam Nat) (enc : outParam (α → List Value)) (a : Option Addr) (xs : outParam (List α)) : Prop where
  at' : ∀ i x, xs[i]? = some x → ∃ b off, a = some ⟨b, off, none⟩ ∧ ∀ j v, (enc x)[j]? = some v → W.cell? ⟨b, off + i * sz + j, none⟩ = some v
theorem OldVec.r {len cap : Nat} (h : OldVec W sz enc a len cap xs) : OldR W sz enc a xs := ⟨h.at'⟩
instance (priority := 100) RowC.old [o : OldR W sz enc a xs] : RowC W (old W • R) a sz enc xs := ⟨fun w hs i x hx => by
  obtain ⟨b, off, ha, h⟩ := o.at' i x hx
  exact ⟨b, off, ha, fun j v hj => rd_old _ _ (h j v hj)⟩⟩
/-- Cells, written out. -/
class LitL (l : List Value) (l' : outParam (List Value)) : Prop where h : l = l'
instance (priority := 10) LitL.same {l : List Value} : LitL l l := ⟨rfl⟩
theorem IxS.r {len i size : Nat} {n : Int} {K : Addr → Prop} [c : RowC W H a sz enc xs] (hn : n = (i : Int)) (hlen : len = xs.length) (hi : i < xs.length)
    (k : ∀ b off, a = some ⟨b, off, none⟩ → K ⟨b, off + i * size, none⟩) : IxS W H a len n size K := by
  subst hn
  refine ⟨fun w hs => ?_⟩
  obtain ⟨b, off, rfl, _⟩ := c.h w hs i _ (List.getElem?_eq_getElem hi)
  exact ⟨_, rfl, by omega, by omega, by rw [show ((i : Int)).toNat = i by simp, Addr.add_eq]; exact k b off rfl⟩
theorem Ld.r0 {b off i : Nat} {x : α} {v : Value} {K : Value → Prop} [c : RowC W H (some ⟨b, off, none⟩) sz enc xs] (hx : xs[i]? = some x) (hj : (enc x)[0]? = some v) (k : K v) :
    Ld W H ⟨b, off + i * sz, none⟩ K := Ld.intro (fun w hs => by
  obtain ⟨b', off', hb, h⟩ := c.h w hs i x hx
  cases hb
  exact h 0 v hj w hs) k
theorem Ld.r {b off i j : Nat} {x : α} {v : Value} {K : Value → Prop} [c : RowC W H (some ⟨b, off, none⟩) sz enc xs] (hx : xs[i]? = some x) (hj : (enc x)[j]? = some v) (k : K v) :
    Ld W H ⟨b, off + i * sz + j, none⟩ K := Ld.intro (fun w hs => by
  obtain ⟨b', off', hb, h⟩ := c.h w hs i x hx
  cases hb
  exact h j v hj w hs) k
theorem LdN.r {b off i n : Nat} {x : α} {l : List Value} {K : Value → Prop} [c : RowC W H (some ⟨b, off, none⟩) sz enc xs] [li : LitL (enc x) l] (hx : xs[i]? = some x) (hn : l.length = n) (k : K (.agg ⟨l⟩)) :
    LdN W H ⟨b, off + i * sz, none⟩ n K := by
  have hl := li.h
  subst hl
  exact ⟨_, hn, fun j v hj w hs => by
    obtain ⟨b', off', hb, h⟩ := c.h w hs i x hx
    cases hb
    rw [Addr.add_eq]
    exact h j v hj w hs, k⟩
/-- A number, counted out. -/
def natK : Nat → (Nat → Prop) → Prop
  | 0, K => K 0
  | n + 1, K => natK n fun m => K (m + 1)
theorem natK_elim {n : Nat} {K : Nat → Prop} (h : natK n K) : K n := by
  induction n generalizing K with
  | zero => exact h
  | succ n ih => exact ih h
/-- An index that is known. -/
theorem IxS.at {len size b off : Nat} {n : Int} {K : Addr → Prop} (hn : 0 ≤ n ∧ n < len) (k : natK (off + n.toNat * size) fun j => K ⟨b, j, none⟩) : IxS W H (some ⟨b, off, none⟩) len n size K :=
  ⟨fun _ _ => ⟨_, rfl, hn.1, hn.2, by rw [Addr.add_eq]; exact natK_elim k⟩⟩
theorem Imp.vnil {t : TypeId} {G : HProp} (h : Imp H G) : Imp H (SL.vec t sz enc none 0 ([] : List α) • G) := by
  have h1 := (vec_nil (t := t) (sz := sz) (enc := enc)).imp.left (Q := G)
  rw [emp_star] at h1
  exact h.trans h1
theorem RowC.take (n : Nat) (c : RowC W H a sz enc xs) : RowC W H a sz enc (xs.take n) := ⟨fun w hs i x hx => c.h w hs i x (by
  rw [List.getElem?_take] at hx
  split at hx
  · exact hx
  · cases hx)⟩
/-- Its cells, as a source of append. -/
theorem RowC.src [c : RowC W H a sz enc xs] {n cap : Nat} (hsz : Sized sz enc) (hn : n = xs.length) : Src P W H (.slice a n cap) n sz (xs.flatMap enc) := by
  subst hn
  intro w hs
  by_cases hx : xs = []
  · subst hx
    cases a with
    | none => exact ⟨rfl, rfl⟩
    | some a => exact ⟨by simpa [Builtin.firstCells] using run_loadCells_list (P := P) (w := w) a [] (fun j v hj => by simp at hj), rfl⟩
  · obtain ⟨x, hx0⟩ : ∃ x, xs[0]? = some x := by
      cases xs with
      | nil => exact absurd rfl hx
      | cons y ys => exact ⟨y, rfl⟩
    obtain ⟨b, off, rfl, _⟩ := c.h w hs 0 x hx0
    refine Src.cells (b := b) (off := off) ⟨fun j v hj => ?_⟩ (by rw [hsz.flat]) w hs
    have hlt : j < (xs.flatMap enc).length := by
      rcases Nat.lt_or_ge j (xs.flatMap enc).length with h | h
      · exact h
      · simp [List.getElem?_eq_none h] at hj
    rw [hsz.flat] at hlt
    have hpos : 0 < sz := by
      rcases Nat.eq_zero_or_pos sz with h | h
      · subst h; simp at hlt
      · exact h
    have hi : j / sz < xs.length := (Nat.div_lt_iff_lt_mul hpos).2 hlt
    obtain ⟨b', off', hb, h⟩ := c.h w hs (j / sz) _ (List.getElem?_eq_getElem hi)
    cases hb
    have hm : j % sz < (enc xs[j / sz]).length := by rw [hsz]; exact Nat.mod_lt _ hpos
    have h1 := hsz.get xs (j / sz) (j % sz) _ _ (List.getElem?_eq_getElem hi) (List.getElem?_eq_getElem hm)
    have h2 : j / sz * sz + j % sz = j := by rw [Nat.mul_comm]; exact Nat.div_add_mod j sz
    rw [h2, hj] at h1
    have h3 := h (j % sz) v (by rw [List.getElem?_eq_getElem hm]; exact h1.symm)
    rwa [Nat.add_assoc, h2] at h3

/-- s[:i] of a slice that owns its cells. -/
theorem OpQ.slv (hT : T.ok P) {st : TypeId} {s i : Operand} {ty : TypeId} {ev : Operand → Option Value} {K : Value → Prop} {t : TypeId} {n cap : Nat} {k : IntKind} {z : Int} {e : TypeId} {c1 : List Value} {a1 : Bool} {s1 b1 : Nat} {r2 : TRow}
    [c : VecC H a t sz enc cap xs R] (hs : ev s = some (.slice a n cap)) (hi : ev i = some (.int k z)) (h1 : T st = some ⟨.slice e, c1, a1, s1, b1⟩) (h2 : T e = some r2) (hz : 0 ≤ z ∧ z ≤ xs.length) (hk : K (.slice a z.toNat cap)) :
    OpQ P W (.slice st s none (some i) none) ty ev H K := by
  refine ⟨_, fun w ρ hw he o' ho hty => ?_, hk⟩
  have hl : xs.length ≤ cap := by
    have hw' := hw
    rw [c.h.eq] at hw'
    exact vec_len hw'
  obtain ⟨v, hr, hv⟩ := (OpQ.slh (W := W) (H := H) (K := fun v => v = .slice a z.toNat cap) (ty := ty) hT hs hi h1 h2 ⟨hz.1, by omega⟩ rfl).ex
  rw [hr w ρ hw he o' ho hty, hv]
/-- append(s, y..) -/
theorem OpX.appR (hT : T.ok P) {st : TypeId} {s y : Operand} {ty : TypeId} {ev : Operand → Option Value} {K : Value → HProp → Prop} {Kp : List PanicEntry → HProp → Prop} {t : TypeId} {b : Option Addr} {ys : List α}
    {n m cap cap' : Nat} {c1 c2 : List Value} {a1 a2 : Bool} {s1 b1 b2 : Nat} {d : TypeDesc}
    [c : VecC H a t sz enc cap xs R] [sc : SizedC sz enc] [e : RowC W H b sz enc ys] (hs : ev s = some (.slice a n cap)) (hy : ev y = some (.slice b m cap'))
    (h1 : T st = some ⟨.slice t, c1, a1, s1, b1⟩) (h2 : T t = some ⟨d, c2, a2, sz, b2⟩) (hn : n = xs.length) (hm : m = ys.length) (hb : 2 * (xs.length + ys.length) * b2 ≤ 281474976710656 ∧ xs.length + ys.length ≤ 9223372036854775807)
    (hl : c2.length = sz ∧ ∀ ys : List α, ∀ v ∈ ys.flatMap enc, v.oneCell' = true)
    (k : ∀ a' cap', K (.slice a' (n + m) cap') (SL.vec t sz enc a' cap' (xs ++ ys) • R)) :
    OpX P W (.call ⟨.builtin .append, ⟨[s, y]⟩, ⟨[st, st]⟩⟩) ty ev H K Kp := by
  refine OpX.append hT sc.h hl.2 h1 rfl h2 rfl hl.1 h1 (fun k e => by cases e) hs hn hy (ys := ys) (RowC.src sc.h hm) hm.symm c.h (by subst hn hm; exact hb) k
/-- append(nil, y..) -/
theorem OpX.appN (hT : T.ok P) {st : TypeId} {s y : Operand} {ty : TypeId} {ev : Operand → Option Value} {K : Value → HProp → Prop} {Kp : List PanicEntry → HProp → Prop} {t : TypeId} {b : Option Addr} {ys : List α}
    {m cap' : Nat} {c1 c2 : List Value} {a1 a2 : Bool} {s1 b1 b2 : Nat} {d : TypeDesc}
    [sc : SizedC sz enc] [e : RowC W H b sz enc ys] (hs : ev s = some (.slice none 0 0)) (hy : ev y = some (.slice b m cap'))
    (h1 : T st = some ⟨.slice t, c1, a1, s1, b1⟩) (h2 : T t = some ⟨d, c2, a2, sz, b2⟩) (hm : m = ys.length) (hb : 2 * ys.length * b2 ≤ 281474976710656 ∧ ys.length ≤ 9223372036854775807)
    (hl : c2.length = sz ∧ ∀ ys : List α, ∀ v ∈ ys.flatMap enc, v.oneCell' = true)
    (k : ∀ a' cap', K (.slice a' m cap') (SL.vec t sz enc a' cap' ys • H)) :
    OpX P W (.call ⟨.builtin .append, ⟨[s, y]⟩, ⟨[st, st]⟩⟩) ty ev H K Kp := by
  subst hm
  exact OpX.appendNil hT enc sc.h hl.2 h1 rfl h2 rfl hl.1 h1 (fun k e => by cases e) hs hy ys (RowC.src sc.h rfl) rfl (by simpa using hb) k
/-- clear(m) -/
theorem OpX.clr (hT : T.ok P) {t kt et : TypeId} {m : Operand} {tys : List TypeId} {ty : TypeId} {ev : Operand → Option Value} {K : Value → HProp → Prop} {Kp : List PanicEntry → HProp → Prop}
    {r : Nat} {kk : IntKind} {l : List (Int × Value)} {c1 : List Value} {a1 : Bool} {s1 b1 : Nat} [i : MapC H r kk l R] (h1 : T t = some ⟨.map kt et, c1, a1, s1, b1⟩) (hm : ev m = some (.map (some r)))
    (hK : K (.tuple ⟨[]⟩) (mapc r kk [] • R)) : OpX P W (.call ⟨.builtin .clear, ⟨[m]⟩, ⟨t :: tys⟩⟩) ty ev H K Kp := by
  have hu1 := (hT _ _ h1).und
  refine ⟨fun w ρ hs he o' ho hty => ?_⟩
  obtain ⟨dst, op, ty', pos, after, guard⟩ := o'
  simp only at ho hty
  subst ho hty
  rw [i.h.eq] at hs
  obtain ⟨es, clock, hrep, hs⟩ := hs.map
  have hb := hs.at
  have hlt := hs.lt
  have hget : ∀ {α : Type} (f : Obj → Sem α), (getObj r >>= f).run P w = (f (.map es clock)).run P w := fun f => by
    rw [Sem.run_bind]; simp [getObj, Sem.run, hb]
  refine ⟨.value (.tuple ⟨[]⟩), { w with heap := w.heap.setIfInBounds r (.map #[] clock) }, _, ?_, ?_, hK⟩
  · simp only [execOp, resolve, Sem.run_bind, Sem.run_pure, Result.andThen_ok, invoke, builtin, Builtin.clear_, List.map_toArray, List.map_cons, List.map_nil, he _ _ hm]
    have hg : (getObj r).run P w = .ok (.map es clock) w := by simp [getObj, Sem.run, hb]
    simp [run_underlying hu1, hg, Result.andThen, setObj, Sem.run, hb]
  · exact Sat.mk_map ⟨rfl, by simp, by simp, by simp⟩ (hs.set (.map #[] clock) ⟨rfl, rfl, rfl, by simp⟩ (by simp [hlt]) fun j hj => by simp [Ne.symm hj])
end
end Go.SL
namespace Go.SL
open Go
/-! ### Maps of what one function writes -/
theorem mapv_length {α β : Type} (f : α → β) (m : List (Int × α)) : (mapv f m).length = m.length := by simp [mapv]
section
variable {P : Program} {W : World} {T : Tab} {H R : HProp} {α : Type} {f : α → Value} {m : List (Int × α)}
theorem OpQ.lkv (hT : T.ok P) {t kt et : TypeId} {k0 kk : IntKind} {mo key : Operand} {ty : TypeId} {ev : Operand → Option Value} {K : Value → Prop} {r : Nat} {k : Int} {c1 c2 : List Value} {a1 a2 : Bool} {s1 s2 b1 b2 : Nat} {r3 : TRow}
    [i : MapC H r kk (mapv f m) R] (h1 : T t = some ⟨.map kt et, c1, a1, s1, b1⟩) (h2 : T kt = some ⟨.int k0, c2, a2, s2, b2⟩) (h3 : T et = some r3)
    (hm : ev mo = some (.map (some r))) (hk : ev key = some (.int kk k))
    (yes : ∀ u, m.lookup k = some u → K (f u)) (no : m.lookup k = none → zK r3 K) : OpQ P W (.lookup t mo key false) ty ev H K := by
  have e := mapv_lookup f k m
  refine OpQ.lk hT h1 h2 h3 hm hk (fun v hv => ?_) (fun hn => no ?_)
  · rw [e] at hv
    obtain ⟨u, hu, rfl⟩ := Option.map_eq_some_iff.1 hv
    exact yes u hu
  · rw [e] at hn
    exact Option.map_eq_none_iff.1 hn
theorem OpQ.lk2v (hT : T.ok P) {t kt et : TypeId} {k0 kk : IntKind} {mo key : Operand} {ty : TypeId} {ev : Operand → Option Value} {K : Value → Prop} {r : Nat} {k : Int} {c1 c2 : List Value} {a1 a2 : Bool} {s1 s2 b1 b2 : Nat} {r3 : TRow}
    [i : MapC H r kk (mapv f m) R] (h1 : T t = some ⟨.map kt et, c1, a1, s1, b1⟩) (h2 : T kt = some ⟨.int k0, c2, a2, s2, b2⟩) (h3 : T et = some r3)
    (hm : ev mo = some (.map (some r))) (hk : ev key = some (.int kk k))
    (yes : ∀ u, m.lookup k = some u → K (.tuple ⟨[f u, .bool true]⟩)) (no : m.lookup k = none → zK r3 fun z => K (.tuple ⟨[z, .bool false]⟩)) : OpQ P W (.lookup t mo key true) ty ev H K := by
  have e := mapv_lookup f k m
  refine OpQ.lk2 hT h1 h2 h3 hm hk (fun v hv => ?_) (fun hn => no ?_)
  · rw [e] at hv
    obtain ⟨u, hu, rfl⟩ := Option.map_eq_some_iff.1 hv
    exact yes u hu
  · rw [e] at hn
    exact Option.map_eq_none_iff.1 hn
theorem OpX.lkv (hT : T.ok P) {t kt et : TypeId} {k0 kk : IntKind} {mo key : Operand} {ty : TypeId} {ev : Operand → Option Value} {K : Value → HProp → Prop} {Kp : List PanicEntry → HProp → Prop} {r : Nat} {k : Int} {c1 c2 : List Value} {a1 a2 : Bool} {s1 s2 b1 b2 : Nat} {r3 : TRow}
    [i : MapC H r kk (mapv f m) R] (h1 : T t = some ⟨.map kt et, c1, a1, s1, b1⟩) (h2 : T kt = some ⟨.int k0, c2, a2, s2, b2⟩) (h3 : T et = some r3)
    (hm : ev mo = some (.map (some r))) (hk : ev key = some (.int kk k))
    (yes : ∀ u, m.lookup k = some u → K (f u) H) (no : m.lookup k = none → zK r3 fun z => K z H) : OpX P W (.lookup t mo key false) ty ev H K Kp := OpX.of_quiet (OpQ.lkv hT h1 h2 h3 hm hk yes no)
theorem OpX.lk2v (hT : T.ok P) {t kt et : TypeId} {k0 kk : IntKind} {mo key : Operand} {ty : TypeId} {ev : Operand → Option Value} {K : Value → HProp → Prop} {Kp : List PanicEntry → HProp → Prop} {r : Nat} {k : Int} {c1 c2 : List Value} {a1 a2 : Bool} {s1 s2 b1 b2 : Nat} {r3 : TRow}
    [i : MapC H r kk (mapv f m) R] (h1 : T t = some ⟨.map kt et, c1, a1, s1, b1⟩) (h2 : T kt = some ⟨.int k0, c2, a2, s2, b2⟩) (h3 : T et = some r3)
    (hm : ev mo = some (.map (some r))) (hk : ev key = some (.int kk k))
    (yes : ∀ u, m.lookup k = some u → K (.tuple ⟨[f u, .bool true]⟩) H) (no : m.lookup k = none → zK r3 fun z => K (.tuple ⟨[z, .bool false]⟩) H) : OpX P W (.lookup t mo key true) ty ev H K Kp := OpX.of_quiet (OpQ.lk2v hT h1 h2 h3 hm hk yes no)
theorem OpX.upv (hT : T.ok P) {t kt et : TypeId} {k0 kk : IntKind} {mo key x : Operand} {ty : TypeId} {ev : Operand → Option Value} {K : Value → HProp → Prop} {Kp : List PanicEntry → HProp → Prop}
    {r : Nat} {k : Int} {v : Value} {c1 c2 : List Value} {a1 a2 : Bool} {s1 s2 b1 b2 : Nat}
    [i : MapC H r kk (mapv f m) R] (u : α) (h1 : T t = some ⟨.map kt et, c1, a1, s1, b1⟩) (h2 : T kt = some ⟨.int k0, c2, a2, s2, b2⟩)
    (hm : ev mo = some (.map (some r))) (hk : ev key = some (.int kk k)) (hv : ev x = some v) (hu : v = f u)
    (hK : K undef (mapc r kk (mapv f (updKV k u m)) • R)) : OpX P W (.mapUpdate t mo key x) ty ev H K Kp := by
  subst hu
  refine OpX.up hT h1 h2 hm hk hv ?_
  rw [← mapv_upd]; exact hK
end
end Go.SL
