/- What undo.Left computes, in plain words. No condition. -/
import Derived.Test.YtgcknlpkhhpkjaaGreatDoorPart6
import Derived.Test.YtgcknlpkhhpkjaaGreatDoorPart3
namespace Go.SL.Und

/-- A record of the log. -/
structure RecV where
  lsn : Int
  kind : Int
  tx : Int
  prev : Int
  wp : Int
  wi : Int
  sp : Int
  si : Int
  delta : Int
  id : Int
  grp : Int
  lo : Int
  hi : Int
  val : Int
  lv : SlV
  dt : SlV
  nxt : Int
def recv (r : RecV) : List Value :=
  [.int .i64 r.lsn, .int .i64 r.kind, .int .i64 r.tx, .int .i64 r.prev, .int .i64 r.wp, .int .i64 r.wi, .int .i64 r.sp, .int .i64 r.si, .int .i64 r.delta,
   .int .i64 r.id, .int .i64 r.grp, .int .i64 r.lo, .int .i64 r.hi, .int .i64 r.val, .slice r.lv.1 r.lv.2.1 r.lv.2.2, .slice r.dt.1 r.dt.2.1 r.dt.2.2, .int .i64 r.nxt]
theorem rec_one : ∀ ys : List RecV, ∀ v ∈ ys.flatMap recv, v.oneCell' = true := by
  intro ys v hv
  obtain ⟨d, _, hv⟩ := List.mem_flatMap.1 hv
  simp only [recv, List.mem_cons, List.not_mem_nil, or_false] at hv
  rcases hv with rfl | rfl | rfl | rfl | rfl | rfl | rfl | rfl | rfl | rfl | rfl | rfl | rfl | rfl | rfl | rfl | rfl <;> rfl
instance : SizedC 17 recv := ⟨fun _ => rfl⟩
/-- An undo record of the transaction. -/
def undoR (tx : Int) (r : RecV) (d : Int) : RecV := ⟨0, 4, tx, 0, r.wp, r.wi, r.sp, r.si, d, r.id, 0, 0, 0, 0, (none, 0, 0), (none, 0, 0), 0⟩
def fits (z : Int) : Prop := -9223372036854775808 ≤ z ∧ z ≤ 9223372036854775807
instance (z : Int) : Decidable (fits z) := inferInstanceAs (Decidable (_ ∧ _))
/-- Is that what is held? -/
def sameH (r h : RecV) : Prop := r.delta = h.delta ∧ (r.wp = h.wp ∧ r.wi = h.wi) ∧ (r.sp = h.sp ∧ r.si = h.si)
instance (r h : RecV) : Decidable (sameH r h) := inferInstanceAs (Decidable (_ ∧ _ ∧ _))
/-- What is held, behind one record; or an error. -/
def left1 (tx : Int) (m : List (Int × RecV)) (r : RecV) : Int × List (Int × RecV) :=
  if r.tx ≠ tx then (0, m) else
  if r.kind = 3 then
    (match m.lookup r.id with
     | none => (0, updKV r.id (undoR tx r r.delta) m)
     | some h => if fits (h.delta + r.delta) then (0, updKV r.id (undoR tx r (h.delta + r.delta)) m) else (10, m))
  else if r.kind = 4 then
    (match m.lookup r.id with
     | none => (120, m)
     | some h => if sameH r h then (0, delKV r.id m) else (60, m))
  else if r.kind = 5 then (0, []) else (0, m)
/-- All records: the first error, what is held. -/
def leftG (tx : Int) (m : List (Int × RecV)) : List RecV → Int × List (Int × RecV)
  | [] => (0, m)
  | r :: rs => if (left1 tx m r).1 = 0 then leftG tx (left1 tx m r).2 rs else ((left1 tx m r).1, [])
def recZ : RecV := ⟨0, 0, 0, 0, 0, 0, 0, 0, 0, 0, 0, 0, 0, 0, (none, 0, 0), (none, 0, 0), 0⟩
/-- What is held, by counter. -/
def outR (m : List (Int × RecV)) : List RecV := (sortI (m.map (·.1))).map fun k => (m.lookup k).getD recZ
/-- Left: the error, and the list. -/
def leftF (rs : List RecV) (tx : Int) : Int × List RecV :=
  if tx < 1 ∨ tx > 2147483647 then (130, []) else if (leftG tx [] rs).1 = 0 then (0, outR (leftG tx [] rs).2) else ((leftG tx [] rs).1, [])
/-- Each record lies under its counter's number. -/
def KeyOk (m : List (Int × RecV)) : Prop := (∀ p ∈ m, p.2.id = p.1) ∧ (m.map (·.1)).Nodup
theorem KeyOk.nil : KeyOk [] := ⟨fun _ h => (by cases h), List.nodup_nil⟩
theorem KeyOk.del {m : List (Int × RecV)} (h : KeyOk m) (k : Int) : KeyOk (delKV k m) :=
  ⟨fun p hp => h.1 p (List.mem_filter.1 hp).1, del_nodup _ _ h.2⟩
end Go.SL.Und
/- A region that draws its order, where two loud operations may come up in either order: both are walked. No condition. -/
namespace Go.SL
open Go
/-- An order; at a fork either of two operations may come up. -/
inductive PT where
  | nil
  | op (i : Nat) (t : PT)
  | two (i : Nat) (t : PT) (j : Nat) (s : PT)
def PT.size : PT → Nat
  | .nil => 0
  | .op _ t => t.size + 1
  | .two _ t _ s => max t.size s.size + 1
def ptOk (ops : List Oper) : PT → Array Bool → Bool
  | .nil, listed => (Region.ready .any ⟨ops⟩ listed).isEmpty
  | .op i t, listed => match ops[i]? with
    | none => false
    | some o => (match quietOp o.op with
        | true => (Region.ready .any ⟨ops⟩ listed).contains i && Region.free .any ⟨ops⟩ listed i
        | false => Region.ready .any ⟨ops⟩ listed == [i]) && ptOk ops t (listed.setIfInBounds i true)
  | .two i t j s, listed => Region.ready .any ⟨ops⟩ listed == [i, j] && (match ops[i]?, ops[j]? with
      | some o, some p => !quietOp o.op && !quietOp p.op
      | _, _ => false) && ptOk ops t (listed.setIfInBounds i true) && ptOk ops s (listed.setIfInBounds j true)
def treeOk (ops : List Oper) (t : PT) : Bool := Region.noSelect ⟨ops⟩ && Nat.ble t.size ops.length && ptOk ops t (Array.replicate ops.length false)

def loudK (P : Program) (W : World) (T : Tab) (N : Nat) (A : HProp) (o : Oper) (fr : Fr) (ds : List Deferred) (H : HProp) (K : ContK) (Kp : PanK) : Prop :=
  op1 P W T N o fr ds H (fun fr ds H => Req (Sub W H A) (K fr ds H)) fun c _ ds H => Kp c [] ds H
def execTree (P : Program) (W : World) (T : Tab) (N : Nat) (A : HProp) (all : List Oper) : PT → Fr → List Deferred → HProp → ContK → PanK → Prop
  | .nil, fr, ds, H, K, _ => K fr ds H
  | .op i t, fr, ds, H, K, Kp => match all[i]? with
    | some o => guarded all o fr
        (fun fr => match quietOp o.op with
          | true => opK P W T o.op o.type fr.eval A (fun v _ => putK N fr v (fun fr => execTree P W T N A all t fr ds H K Kp) o.dst) (fun _ _ => False)
              (OpQ P W o.op o.type fr.eval A fun v => putK N fr v (fun fr => execTree P W T N A all t fr ds H K Kp) o.dst)
          | false => loudK P W T N A o fr ds H (fun fr ds H => execTree P W T N A all t fr ds H K Kp) Kp)
        (fun fr => putK N fr undef (fun fr => execTree P W T N A all t fr ds H K Kp) o.dst)
    | none => False
  | .two i t j s, fr, ds, H, K, Kp => match all[i]?, all[j]? with
    | some o, some p =>
      guarded all o fr (fun fr => loudK P W T N A o fr ds H (fun fr ds H => execTree P W T N A all t fr ds H K Kp) Kp) (fun fr => putK N fr undef (fun fr => execTree P W T N A all t fr ds H K Kp) o.dst) ∧
      guarded all p fr (fun fr => loudK P W T N A p fr ds H (fun fr ds H => execTree P W T N A all s fr ds H K Kp) Kp) (fun fr => putK N fr undef (fun fr => execTree P W T N A all s fr ds H K Kp) p.dst)
    | _, _ => False

section
variable {P : Program} {W : World} {T : Tab} {N : Nat} {A : HProp}
theorem execTree_sound (hT : T.ok P) (all : List Oper) (hsel : Region.noSelect ⟨all⟩ = true) {K : ContK} {Kp : PanK} :
    ∀ (t : PT) (n : Nat) (listed : Array Bool) (fr : Fr) (ds : List Deferred) (H : HProp), ptOk all t listed = true → t.size ≤ n →
      execTree P W T N A all t fr ds H K Kp → Closed ⟨all⟩ listed → ∀ (a : Act) (w : World), fr.rep a.tmps → a.tmps.size = N → a.defers = ds → Sat W H w → Sat W A w →
      wpAnyF P ⟨all⟩ (LiftD W N K Kp) (Sat W A) [] n listed a w
  | .nil, n, listed, fr, ds, H, hp, _, h, _, a, w, hrep, hN, hd, hs, hA => by
    simp only [ptOk, List.isEmpty_iff] at hp
    exact wpAnyF.done hp ⟨fr, H, hrep, hN, hs, hd ▸ h⟩ _
  | .op i t, 0, _, _, _, _, _, hn, _, _, _, _, _, _, _, _, _ => by simp [PT.size] at hn
  | .two i t j s, 0, _, _, _, _, _, hn, _, _, _, _, _, _, _, _, _ => by simp [PT.size] at hn
  | .op i t, n + 1, listed, fr, ds, H, hp, hn, h, hcl, a, w, hrep, hN, hd, hs, hA => by
    have ih := execTree_sound hT all hsel (K := K) (Kp := Kp) t n (listed.setIfInBounds i true)
    have hn' : t.size ≤ n := by simp [PT.size] at hn; omega
    unfold execTree at h
    split at h
    · rename_i o ho
      have hoa : (⟨all⟩ : Array Oper)[i]? = some o := by simpa using ho
      simp only [ptOk, ho, Bool.and_eq_true] at hp
      obtain ⟨hp1, hp2⟩ := hp
      obtain ⟨fr', hrep', h⟩ := guarded_elim hrep h
      have hQ : ∀ v c a w, LiftD W N K Kp (.panic c) (Act.put a o.dst v) w → LiftD W N K Kp (.panic c) a w := by
        rintro v c a w ⟨H, h1, h2, h3⟩
        refine ⟨H, ?_, h2, ?_⟩
        · cases hd : o.dst <;> simpa [Act.put, hd] using h1
        · cases hd : o.dst <;> simpa [Act.put, hd] using h3
      have hirA : i ∈ Region.ready .any ⟨all⟩ listed := by
        cases hq : quietOp o.op with
        | true => simp only [hq, Bool.and_eq_true] at hp1; simpa using hp1.1
        | false => simp only [hq, beq_iff_eq] at hp1; rw [hp1]; simp
      have skipped : putK N fr' undef (fun fr => execTree P W T N A all t fr ds H K Kp) o.dst →
          wpAnyF P ⟨all⟩ (LiftD W N K Kp) (Sat W A) [] n (listed.setIfInBounds i true) (a.put o.dst undef) w := by
        intro h
        obtain ⟨fr'', h1, h2, h3, h4⟩ := putK_elim hN hrep' h
        exact ih _ _ _ hp2 hn' h4 (hcl.put hirA) _ w h1 h2 (by rw [h3, hd]) hs hA
      cases hq : quietOp o.op with
      | true =>
        simp only [hq, Bool.and_eq_true] at hp1
        have first := fun v a w => wpAnyF.first (P := P) (S := Sat W A) (Q := LiftD W N K Kp) (F := []) (v := v) hoa rfl (fun j hj => by simp at hj) (Region.noSelect_spec hsel) (hQ v) n listed a w (Region.free_spec hoa hp1.2) hirA hcl
        rcases h with ⟨hw, h⟩ | ⟨hw, h⟩
        · simp only [hq] at h
          have he : ∀ x v, fr'.eval x = some v → a.eval x = v := fun x v e => Fr.rep_eval hrep' e
          have : ∃ v, Runs P W o.op o.type fr'.eval A v ∧ putK N fr' v (fun fr => execTree P W T N A all t fr ds H K Kp) o.dst := by
            rcases opK_quiet hT ⟨w, hA⟩ hq h with h | ⟨v, hr, hk⟩
            · exact h.ex
            · exact ⟨v, hr, hk⟩
          obtain ⟨v, hr, hk⟩ := this
          refine first v a w (.inl ⟨hw, fun w hw => hr w a.eval hw he o rfl rfl⟩) hA ?_
          obtain ⟨fr'', h1, h2, h3, h4⟩ := putK_elim hN hrep' hk
          exact ih _ _ _ hp2 hn' h4 (hcl.put hirA) _ w h1 h2 (by rw [h3, hd]) hs hA
        · exact first undef a w (.inr ⟨hw, rfl⟩) hA (skipped h)
      | false =>
        simp only [hq] at hp1
        refine wpAnyF.one (by simpa using hp1) ?_
        unfold wpOp
        simp only [hoa]
        rcases h with ⟨hw, h⟩ | ⟨hw, h⟩
        · simp only [hw, if_true]
          simp only [hq] at h
          refine .inl (op1_sound hT hN hrep' hd hs h ?_ ?_)
          · intro a' w' fr'' ds' H' h1 h2 h3 h4 h5
            exact ⟨fun _ => h5.p _ h4, ih _ _ _ hp2 hn' h5.k (hcl.put hirA) a' w' h1 h2 h3 h4 (h5.p _ h4)⟩
          · intro c w' H' h1 h2
            exact ⟨H', hN, h1, hd ▸ h2⟩
        · simp only [hw, Bool.false_eq_true, if_false]
          exact ⟨fun _ => hA, skipped h⟩
    · exact h.elim
  | .two i t j s, n + 1, listed, fr, ds, H, hp, hn, h, hcl, a, w, hrep, hN, hd, hs, hA => by
    have ih1 := execTree_sound hT all hsel (K := K) (Kp := Kp) t n (listed.setIfInBounds i true)
    have ih2 := execTree_sound hT all hsel (K := K) (Kp := Kp) s n (listed.setIfInBounds j true)
    have hn' : t.size ≤ n ∧ s.size ≤ n := by simp only [PT.size] at hn; omega
    unfold execTree at h
    split at h
    · rename_i o p ho hpj
      have hoa : (⟨all⟩ : Array Oper)[i]? = some o := by simpa using ho
      have hpa : (⟨all⟩ : Array Oper)[j]? = some p := by simpa using hpj
      simp only [ptOk, ho, hpj, Bool.and_eq_true, beq_iff_eq] at hp
      obtain ⟨⟨⟨hr, _⟩, hp1⟩, hp2⟩ := hp
      have one : ∀ (k : Nat) (ok : Oper) (u : PT), k ∈ Region.ready .any ⟨all⟩ listed → (⟨all⟩ : Array Oper)[k]? = some ok → ptOk all u (listed.setIfInBounds k true) = true →
          (∀ (fr : Fr) (ds : List Deferred) (H : HProp), ptOk all u (listed.setIfInBounds k true) = true → u.size ≤ n → execTree P W T N A all u fr ds H K Kp → Closed ⟨all⟩ (listed.setIfInBounds k true) → ∀ (a : Act) (w : World), fr.rep a.tmps → a.tmps.size = N → a.defers = ds → Sat W H w → Sat W A w →
            wpAnyF P ⟨all⟩ (LiftD W N K Kp) (Sat W A) [] n (listed.setIfInBounds k true) a w) → u.size ≤ n →
          guarded all ok fr (fun fr => loudK P W T N A ok fr ds H (fun fr ds H => execTree P W T N A all u fr ds H K Kp) Kp) (fun fr => putK N fr undef (fun fr => execTree P W T N A all u fr ds H K Kp) ok.dst) →
          wpOp P ⟨all⟩ (LiftD W N K Kp) k (fun a' w' => ((([] : List Nat).contains k = false) → Sat W A w') ∧ wpAnyF P ⟨all⟩ (LiftD W N K Kp) (Sat W A) [] n (listed.setIfInBounds k true) a' w') a w := by
        intro k ok u hkr hk hpu ih hu h
        obtain ⟨fr', hrep', h⟩ := guarded_elim hrep h
        unfold wpOp
        simp only [hk]
        rcases h with ⟨hw, h⟩ | ⟨hw, h⟩
        · simp only [hw, if_true]
          refine .inl (op1_sound hT hN hrep' hd hs h ?_ ?_)
          · intro a' w' fr'' ds' H' h1 h2 h3 h4 h5
            exact ⟨fun _ => h5.p _ h4, ih _ _ _ hpu hu h5.k (hcl.put hkr) a' w' h1 h2 h3 h4 (h5.p _ h4)⟩
          · intro c w' H' h1 h2
            exact ⟨H', hN, h1, hd ▸ h2⟩
        · simp only [hw, Bool.false_eq_true, if_false]
          obtain ⟨fr'', h1, h2, h3, h4⟩ := putK_elim hN hrep' h
          exact ⟨fun _ => hA, ih _ _ _ hpu hu h4 (hcl.put hkr) _ w h1 h2 (by rw [h3, hd]) hs hA⟩
      refine ⟨fun h0 => (by rw [hr] at h0; cases h0), fun k hk => ?_⟩
      rw [hr] at hk
      rcases List.mem_cons.1 hk with rfl | hk
      · exact one _ o t (by rw [hr]; simp) hoa hp1 ih1 hn'.1 h.1
      · obtain rfl : k = j := by simpa using hk
        exact one _ p s (by rw [hr]; simp) hpa hp2 ih2 hn'.2 h.2
    · exact h.elim

theorem DrawK.tree (hT : T.ok P) (hm : P.follows .mixedOrders = true) {ops : List Oper} (t : PT) (A : HProp) {fr : Fr} {ds : List Deferred} {H : HProp} {K : ContK} {Kp : PanK}
    (hp : treeOk ops t = true) (hA : Sub W H A) (h : execTree P W T N A ops t fr ds H K fun c _ ds H => Kp c [] ds H) : DrawK P W T N ops fr ds H K Kp := by
  simp only [treeOk, Bool.and_eq_true] at hp
  obtain ⟨⟨hp1, hp2⟩, hp3⟩ := hp
  refine ⟨fun id a w h1 h2 h3 h4 => ?_⟩
  have hs : Sat W H { w with drawn := w.drawn + 1 } := h4.same ⟨rfl, rfl, rfl, Nat.le_refl _⟩ rfl
  have := execTree_sound hT ops hp1 t ops.length _ fr ds H hp3 (Nat.le_of_ble_eq_true hp2) h (Closed.none _) a _ h1 h2 h3 hs (hA _ hs)
  refine wp_mono (wp_region_any hm (wpAnyF.any _ _ _ _ this)) ?_
  rintro e a' w' h7
  cases e with
  | normal => exact h7
  | panic c =>
    obtain ⟨H', g1, g2, g3⟩ := h7
    exact ⟨[], H', Fr.rep_nil _, g1, g2, g3⟩
  | _ => exact h7.elim
/-- The first slot that a region writes: it tells which region it is. -/
def fstDst : List Oper → Nat
  | [] => 0
  | o :: r => match o.dst with
    | some t => t
    | none => fstDst r
theorem DrawK.introH (hT : T.ok P) (hm : P.follows .mixedOrders = true) {ops : List Oper} (t : Nat) (F plan : List Nat) (A : HProp) {fr : Fr} {ds : List Deferred} {H : HProp} {K : ContK} {Kp : PanK}
    (_ : fstDst ops = t) (hp : plannedOk ops F plan = true) (hA : Sub W H A) (h : execPlan P W T N A ops F plan fr ds H K fun c _ ds H => Kp c [] ds H) : DrawK P W T N ops fr ds H K Kp := DrawK.intro hT hm F plan A hp hA h
theorem DrawK.treeH (hT : T.ok P) (hm : P.follows .mixedOrders = true) {ops : List Oper} (n : Nat) (t : PT) (A : HProp) {fr : Fr} {ds : List Deferred} {H : HProp} {K : ContK} {Kp : PanK}
    (_ : fstDst ops = n) (hp : treeOk ops t = true) (hA : Sub W H A) (h : execTree P W T N A ops t fr ds H K fun c _ ds H => Kp c [] ds H) : DrawK P W T N ops fr ds H K Kp := DrawK.tree hT hm t A hp hA h
end
end Go.SL
/- Maps whose entries are known; the rest of a row. Conditions: in each statement. -/
namespace Go.SL
open Go
section
variable {P : Program} {W : World} {T : Tab} {H R : HProp} {α : Type} {f : α → Value} {m : List (Int × α)}
theorem OpX.lks (hT : T.ok P) {t kt et : TypeId} {k0 kk : IntKind} {mo key : Operand} {ty : TypeId} {ev : Operand → Option Value} {K : Value → HProp → Prop} {Kp : List PanicEntry → HProp → Prop} {r : Nat} {k : Int} {u : α} {c1 c2 : List Value} {a1 a2 : Bool} {s1 s2 b1 b2 : Nat} {r3 : TRow}
    [i : MapC H r kk (mapv f m) R] (hl : m.lookup k = some u) (h1 : T t = some ⟨.map kt et, c1, a1, s1, b1⟩) (h2 : T kt = some ⟨.int k0, c2, a2, s2, b2⟩) (h3 : T et = some r3)
    (hm : ev mo = some (.map (some r))) (hk : ev key = some (.int kk k)) (yes : K (f u) H) : OpX P W (.lookup t mo key false) ty ev H K Kp :=
  OpX.lkv hT h1 h2 h3 hm hk (fun u' hu => by rw [hl] at hu; cases hu; exact yes) (fun hu => by rw [hl] at hu; cases hu)
theorem OpX.delv (hT : T.ok P) {t kt et : TypeId} {k0 kk : IntKind} {mo key : Operand} {tys : List TypeId} {ty : TypeId} {ev : Operand → Option Value} {K : Value → HProp → Prop} {Kp : List PanicEntry → HProp → Prop} {r : Nat} {k : Int} {c1 c2 : List Value} {a1 a2 : Bool} {s1 s2 b1 b2 : Nat}
    [i : MapC H r kk (mapv f m) R] (h1 : T t = some ⟨.map kt et, c1, a1, s1, b1⟩) (h2 : T kt = some ⟨.int k0, c2, a2, s2, b2⟩)
    (hm : ev mo = some (.map (some r))) (hk : ev key = some (.int kk k)) (hK : K (.tuple ⟨[]⟩) (mapc r kk (mapv f (delKV k m)) • R)) : OpX P W (.call ⟨.builtin .delete, ⟨[mo, key]⟩, ⟨t :: tys⟩⟩) ty ev H K Kp := by
  refine OpX.del hT h1 h2 hm hk ?_
  rw [← mapv_del]; exact hK
/-- Where the rest of a row begins. -/
def dropA (a : Option Addr) (z c size : Nat) : Option Addr := if c = z then a else a.map (·.add (z * size))
theorem RowC.drop {sz : Nat} {enc : α → List Value} {a : Option Addr} {xs : List α} (z c : Nat) (hc : xs.length ≤ c) (h : RowC W H a sz enc xs) : RowC W H (dropA a z c sz) sz enc (xs.drop z) := ⟨fun w hs i x hx => by
  rw [List.getElem?_drop] at hx
  have hlt : z + i < xs.length := (List.getElem?_eq_some_iff.1 hx).1
  obtain ⟨b, off, ha, hj⟩ := h.h w hs _ x hx
  refine ⟨b, off + z * sz, ?_, fun j v hv => ?_⟩
  · unfold dropA
    rw [if_neg (by omega), ha, Option.map_some, Addr.add_eq]
  · have := hj j v hv
    rwa [Nat.add_mul, ← Nat.add_assoc] at this⟩
theorem OpQ.slr (hT : T.ok P) {st : TypeId} {s i : Operand} {ty : TypeId} {ev : Operand → Option Value} {K : Value → Prop} {a : Option Addr} {n c : Nat} {k : IntKind} {z : Int} {e : TypeId} {c1 : List Value} {a1 : Bool} {s1 b1 : Nat} {r2 : TRow} (zn : Nat)
    (hs : ev s = some (.slice a n c)) (hi : ev i = some (.int k z)) (h1 : T st = some ⟨.slice e, c1, a1, s1, b1⟩) (h2 : T e = some r2) (hz : z = (zn : Int)) (hn : zn ≤ n) (hk : K (.slice (dropA a zn c r2.size) (n - zn) (c - zn))) :
    OpQ P W (.slice st s (some i) none none) ty ev H K := by
  subst hz
  refine OpQ.sll hT hs hi h1 h2 ⟨by omega, by omega⟩ ?_
  unfold dropv
  rw [Int.toNat_natCast]
  exact hk
/-- A part of an element. -/
theorem LdN.rp {sz : Nat} {enc : α → List Value} {xs : List α} {b off i j n : Nat} {x : α} {l vs : List Value} {K : Value → Prop} [c : RowC W H (some ⟨b, off, none⟩) sz enc xs] [li : LitL (enc x) l] [s : LSub l j n vs] (hx : xs[i]? = some x) (k : K (.agg ⟨vs⟩)) :
    LdN W H ⟨b, off + i * sz + j, none⟩ n K := ⟨vs, s.h.2, fun q v hq w hs => by
  obtain ⟨b', off', e, h⟩ := c.h w hs i x hx
  cases e
  have hq2 : (enc x)[j + q]? = some v := by
    rw [li.h]
    have h1 := s.h.1
    rw [← h1, List.getElem?_take] at hq
    split at hq
    · rwa [List.getElem?_drop] at hq
    · cases hq
  have := h _ v hq2 w hs
  rwa [Addr.add_eq, Nat.add_assoc (off + i * sz)], k⟩
end
end Go.SL
/- Shifts and masks by known numbers; numbers brought to 64 bits. No condition. -/
namespace Go.SL
open Go
theorem Ar.u64w {e : Int} {K : Int → Prop} (hk : K (e % 18446744073709551616)) : Ar .u64 e K := ⟨by
  have : IntKind.u64.wrap e = e % 18446744073709551616 := by simp [IntKind.wrap, IntKind.bits, IntKind.signed]
  rw [this]; exact hk⟩
theorem Ar.u8w {e : Int} {K : Int → Prop} (hk : K (e % 256)) : Ar .u8 e K := ⟨by rw [IntKind.wrap_u8]; exact hk⟩
theorem Ar.i64w {e : Int} {K : Int → Prop} (hk : K ((e + 9223372036854775808) % 18446744073709551616 - 9223372036854775808)) : Ar .i64 e K := ⟨by rw [IntKind.wrap_i64]; exact hk⟩
/-- Powers of two, by their exponents. -/
def p2T : List (Nat × Int) := [(0, 1), (1, 2), (2, 4), (3, 8), (4, 16), (5, 32), (6, 64), (7, 128), (8, 256), (12, 4096), (14, 16384), (16, 65536), (20, 1048576), (21, 2097152), (24, 16777216), (28, 268435456), (31, 2147483648), (32, 4294967296), (35, 34359738368), (40, 1099511627776), (42, 4398046511104), (48, 281474976710656), (49, 562949953421312), (56, 72057594037927936), (62, 4611686018427387904), (63, 9223372036854775808)]
def p2L : List (Nat × Int) → Nat → Option Int
  | [], _ => none
  | (i, c) :: l, n => match Nat.beq i n with
    | true => some c
    | false => p2L l n
theorem p2L_aux {n : Nat} {c : Int} : ∀ l : List (Nat × Int), (∀ p ∈ l, (2 : Int) ^ p.1 = p.2 ∧ p.1 ≤ 63) → p2L l n = some c → (2 : Int) ^ n = c ∧ n ≤ 63
  | [], _, h => by cases h
  | (i, d) :: l, hl, h => by
    unfold p2L at h
    split at h
    · rename_i e
      have := Nat.eq_of_beq_eq_true e
      cases h
      exact this ▸ hl _ List.mem_cons_self
    · exact p2L_aux l (fun q hq => hl q (List.mem_cons_of_mem _ hq)) h
theorem p2L_eq {n : Nat} {c : Int} (h : p2L p2T n = some c) : (2 : Int) ^ n = c ∧ n ≤ 63 := p2L_aux p2T (by decide) h
theorem two_cast (j : Nat) : ((2 ^ j : Nat) : Int) = 2 ^ j := by simp
theorem Shr.i {k : IntKind} {n m c : Int} {K : Int → Prop} (h : p2L p2T m.toNat = some c) (h0 : 0 ≤ m ∧ m.toNat ≤ k.bits) (hk : K (n / c)) : Shr k n m K := by
  refine ⟨h0.1, ?_⟩
  rw [Nat.min_eq_left h0.2, (p2L_eq h).1, Int.fdiv_eq_ediv_of_nonneg]
  · exact hk
  · rw [← (p2L_eq h).1]; exact Int.le_of_lt (Int.pow_pos (by decide))
theorem Shl.i {k : IntKind} {n m c : Int} {K : Int → Prop} (h : p2L p2T m.toNat = some c) (h0 : 0 ≤ m ∧ m.toNat ≤ k.bits) (hk : Ar k (n * c) K) : Shl k n m K := by
  refine ⟨h0.1, ?_⟩
  rw [Nat.min_eq_left h0.2, (p2L_eq h).1]
  exact hk.ex
/-- Masks, by their widths. -/
theorem bits_low (k : IntKind) (i : Nat) (hi : i < k.bits) (n : Int) : bits .and k n (2 ^ i - 1) = n % 2 ^ i := by
  have hp : (0 : Int) < 2 ^ i := Int.pow_pos (by decide)
  have hb : (0 : Int) < 2 ^ k.bits := Int.pow_pos (by decide)
  have h1 : (BitVec.ofInt k.bits (2 ^ i - 1)).toNat = 2 ^ i - 1 := by
    have e : ((2 : Int) ^ i - 1) = ((2 ^ i - 1 : Nat) : Int) := by
      rw [Int.natCast_sub (Nat.one_le_two_pow)]; simp
    rw [e, BitVec.ofInt_natCast, BitVec.toNat_ofNat]
    have h7 : 2 ^ i < 2 ^ k.bits := Nat.pow_lt_pow_right (by decide) hi
    exact Nat.mod_eq_of_lt (Nat.lt_of_le_of_lt (Nat.sub_le _ _) h7)
  have h2 : ((BitVec.ofInt k.bits n).toNat : Int) = n % 2 ^ k.bits := by
    rw [BitVec.toNat_ofInt, two_cast]
    exact Int.toNat_of_nonneg (Int.emod_nonneg n (Int.ne_of_gt hb))
  have h3 : (((BitVec.ofInt k.bits n).toNat % 2 ^ i : Nat) : Int) = n % 2 ^ i := by
    rw [Int.natCast_emod, h2, two_cast]
    exact Int.emod_emod_of_dvd n ⟨2 ^ (k.bits - i), by rw [← Int.pow_add]; congr 1; omega⟩
  simp only [bits, BitVec.toNat_and, h1, Nat.and_two_pow_sub_one_eq_mod, h3]
  have h4 := Int.emod_nonneg n (Int.ne_of_gt hp)
  have h5 := Int.emod_lt_of_pos n hp
  have h6 : (2 : Int) ^ i ≤ 2 ^ (k.bits - 1) := by
    exact_mod_cast Nat.pow_le_pow_right (by decide) (show i ≤ k.bits - 1 by omega)
  cases k <;> simp only [IntKind.bits, Nat.reduceSub, Int.reducePow] at h6 <;> simp [IntKind.wrap, IntKind.bits, IntKind.signed] <;> omega
def mT : List (Nat × Int) := [(0, 0), (1, 1), (2, 3), (3, 7), (4, 15), (5, 31), (6, 63), (7, 127), (8, 255), (16, 65535), (32, 4294967295)]
theorem Bt.low {k : IntKind} {n m : Int} {K : Int → Prop} (i : Nat) {c : Int} (h : (2 : Int) ^ i - 1 = m) (hi : i < k.bits) (hc : (2 : Int) ^ i = c) (hk : K (n % c)) : Bt .and k n m K := by
  subst h hc
  exact ⟨by rw [bits_low k i hi]; exact hk⟩
end Go.SL
