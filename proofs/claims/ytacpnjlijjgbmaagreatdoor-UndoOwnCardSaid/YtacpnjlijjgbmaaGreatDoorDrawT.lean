/- A region that draws its order, where two loud operations may come up in either order: both are walked. No condition. -/
import Derived.Test.YtacpnjlijjgbmaaGreatDoorDraw
namespace Go.SL
open Go
/-- An order; at a fork either of two operations may come up. -/
inductive PT where
  | nil
  | op (i : Nat) (t : PT)
  | two (i : Nat) (t : PT) (j : Nat) (s : PT)
def PT.size : PT → Nat
  | .nil => 0
  | .op _ t => t.size + 1
  | .two _ t _ s => max t.size s.size + 1
def ptOk (ops : List Oper) : PT → Array Bool → Bool
  | .nil, listed => (Region.ready .any ⟨ops⟩ listed).isEmpty
  | .op i t, listed => match ops[i]? with
    | none => false
    | some o => (match quietOp o.op with
        | true => (Region.ready .any ⟨ops⟩ listed).contains i && Region.free .any ⟨ops⟩ listed i
        | false => Region.ready .any ⟨ops⟩ listed == [i]) && ptOk ops t (listed.setIfInBounds i true)
  | .two i t j s, listed => Region.ready .any ⟨ops⟩ listed == [i, j] && (match ops[i]?, ops[j]? with
      | some o, some p => !quietOp o.op && !quietOp p.op
      | _, _ => false) && ptOk ops t (listed.setIfInBounds i true) && ptOk ops s (listed.setIfInBounds j true)
def treeOk (ops : List Oper) (t : PT) : Bool := Region.noSelect ⟨ops⟩ && Nat.ble t.size ops.length && ptOk ops t (Array.replicate ops.length false)

def loudK (P : Program) (W : World) (T : Tab) (N : Nat) (A : HProp) (o : Oper) (fr : Fr) (ds : List Deferred) (H : HProp) (K : ContK) (Kp : PanK) : Prop :=
  op1 P W T N o fr ds H (fun fr ds H => Req (Sub W H A) (K fr ds H)) fun c _ ds H => Kp c [] ds H
def execTree (P : Program) (W : World) (T : Tab) (N : Nat) (A : HProp) (all : List Oper) : PT → Fr → List Deferred → HProp → ContK → PanK → Prop
  | .nil, fr, ds, H, K, _ => K fr ds H
  | .op i t, fr, ds, H, K, Kp => match all[i]? with
    | some o => guarded all o fr
        (fun fr => match quietOp o.op with
          | true => opK P W T o.op o.type fr.eval A (fun v _ => putK N fr v (fun fr => execTree P W T N A all t fr ds H K Kp) o.dst) (fun _ _ => False)
              (OpQ P W o.op o.type fr.eval A fun v => putK N fr v (fun fr => execTree P W T N A all t fr ds H K Kp) o.dst)
          | false => loudK P W T N A o fr ds H (fun fr ds H => execTree P W T N A all t fr ds H K Kp) Kp)
        (fun fr => putK N fr undef (fun fr => execTree P W T N A all t fr ds H K Kp) o.dst)
    | none => False
  | .two i t j s, fr, ds, H, K, Kp => match all[i]?, all[j]? with
    | some o, some p =>
      guarded all o fr (fun fr => loudK P W T N A o fr ds H (fun fr ds H => execTree P W T N A all t fr ds H K Kp) Kp) (fun fr => putK N fr undef (fun fr => execTree P W T N A all t fr ds H K Kp) o.dst) ∧
      guarded all p fr (fun fr => loudK P W T N A p fr ds H (fun fr ds H => execTree P W T N A all s fr ds H K Kp) Kp) (fun fr => putK N fr undef (fun fr => execTree P W T N A all s fr ds H K Kp) p.dst)
    | _, _ => False

section
variable {P : Program} {W : World} {T : Tab} {N : Nat} {A : HProp}
theorem execTree_sound (hT : T.ok P) (all : List Oper) (hsel : Region.noSelect ⟨all⟩ = true) {K : ContK} {Kp : PanK} :
    ∀ (t : PT) (n : Nat) (listed : Array Bool) (fr : Fr) (ds : List Deferred) (H : HProp), ptOk all t listed = true → t.size ≤ n →
      execTree P W T N A all t fr ds H K Kp → Closed ⟨all⟩ listed → ∀ (a : Act) (w : World), fr.rep a.tmps → a.tmps.size = N → a.defers = ds → Sat W H w → Sat W A w →
      wpAnyF P ⟨all⟩ (LiftD W N K Kp) (Sat W A) [] n listed a w
  | .nil, n, listed, fr, ds, H, hp, _, h, _, a, w, hrep, hN, hd, hs, hA => by
    simp only [ptOk, List.isEmpty_iff] at hp
    exact wpAnyF.done hp ⟨fr, H, hrep, hN, hs, hd ▸ h⟩ _
  | .op i t, 0, _, _, _, _, _, hn, _, _, _, _, _, _, _, _, _ => by simp [PT.size] at hn
  | .two i t j s, 0, _, _, _, _, _, hn, _, _, _, _, _, _, _, _, _ => by simp [PT.size] at hn
  | .op i t, n + 1, listed, fr, ds, H, hp, hn, h, hcl, a, w, hrep, hN, hd, hs, hA => by
    have ih := execTree_sound hT all hsel (K := K) (Kp := Kp) t n (listed.setIfInBounds i true)
    have hn' : t.size ≤ n := by simp [PT.size] at hn; omega
    unfold execTree at h
    split at h
    · rename_i o ho
      have hoa : (⟨all⟩ : Array Oper)[i]? = some o := by simpa using ho
      simp only [ptOk, ho, Bool.and_eq_true] at hp
      obtain ⟨hp1, hp2⟩ := hp
      obtain ⟨fr', hrep', h⟩ := guarded_elim hrep h
      have hQ : ∀ v c a w, LiftD W N K Kp (.panic c) (Act.put a o.dst v) w → LiftD W N K Kp (.panic c) a w := by
        rintro v c a w ⟨H, h1, h2, h3⟩
        refine ⟨H, ?_, h2, ?_⟩
        · cases hd : o.dst <;> simpa [Act.put, hd] using h1
        · cases hd : o.dst <;> simpa [Act.put, hd] using h3
      have hirA : i ∈ Region.ready .any ⟨all⟩ listed := by
        cases hq : quietOp o.op with
        | true => simp only [hq, Bool.and_eq_true] at hp1; simpa using hp1.1
        | false => simp only [hq, beq_iff_eq] at hp1; rw [hp1]; simp
      have skipped : putK N fr' undef (fun fr => execTree P W T N A all t fr ds H K Kp) o.dst →
          wpAnyF P ⟨all⟩ (LiftD W N K Kp) (Sat W A) [] n (listed.setIfInBounds i true) (a.put o.dst undef) w := by
        intro h
        obtain ⟨fr'', h1, h2, h3, h4⟩ := putK_elim hN hrep' h
        exact ih _ _ _ hp2 hn' h4 (hcl.put hirA) _ w h1 h2 (by rw [h3, hd]) hs hA
      cases hq : quietOp o.op with
      | true =>
        simp only [hq, Bool.and_eq_true] at hp1
        have first := fun v a w => wpAnyF.first (P := P) (S := Sat W A) (Q := LiftD W N K Kp) (F := []) (v := v) hoa rfl (fun j hj => by simp at hj) (Region.noSelect_spec hsel) (hQ v) n listed a w (Region.free_spec hoa hp1.2) hirA hcl
        rcases h with ⟨hw, h⟩ | ⟨hw, h⟩
        · simp only [hq] at h
          have he : ∀ x v, fr'.eval x = some v → a.eval x = v := fun x v e => Fr.rep_eval hrep' e
          have : ∃ v, Runs P W o.op o.type fr'.eval A v ∧ putK N fr' v (fun fr => execTree P W T N A all t fr ds H K Kp) o.dst := by
            rcases opK_quiet hT ⟨w, hA⟩ hq h with h | ⟨v, hr, hk⟩
            · exact h.ex
            · exact ⟨v, hr, hk⟩
          obtain ⟨v, hr, hk⟩ := this
          refine first v a w (.inl ⟨hw, fun w hw => hr w a.eval hw he o rfl rfl⟩) hA ?_
          obtain ⟨fr'', h1, h2, h3, h4⟩ := putK_elim hN hrep' hk
          exact ih _ _ _ hp2 hn' h4 (hcl.put hirA) _ w h1 h2 (by rw [h3, hd]) hs hA
        · exact first undef a w (.inr ⟨hw, rfl⟩) hA (skipped h)
      | false =>
        simp only [hq] at hp1
        refine wpAnyF.one (by simpa using hp1) ?_
        unfold wpOp
        simp only [hoa]
        rcases h with ⟨hw, h⟩ | ⟨hw, h⟩
        · simp only [hw, if_true]
          simp only [hq] at h
          refine .inl (op1_sound hT hN hrep' hd hs h ?_ ?_)
          · intro a' w' fr'' ds' H' h1 h2 h3 h4 h5
            exact ⟨fun _ => h5.p _ h4, ih _ _ _ hp2 hn' h5.k (hcl.put hirA) a' w' h1 h2 h3 h4 (h5.p _ h4)⟩
          · intro c w' H' h1 h2
            exact ⟨H', hN, h1, hd ▸ h2⟩
        · simp only [hw, Bool.false_eq_true, if_false]
          exact ⟨fun _ => hA, skipped h⟩
    · exact h.elim
  | .two i t j s, n + 1, listed, fr, ds, H, hp, hn, h, hcl, a, w, hrep, hN, hd, hs, hA => by
    have ih1 := execTree_sound hT all hsel (K := K) (Kp := Kp) t n (listed.setIfInBounds i true)
    have ih2 := execTree_sound hT all hsel (K := K) (Kp := Kp) s n (listed.setIfInBounds j true)
    have hn' : t.size ≤ n ∧ s.size ≤ n := by simp only [PT.size] at hn; omega
    unfold execTree at h
    split at h
    · rename_i o p ho hpj
      have hoa : (⟨all⟩ : Array Oper)[i]? = some o := by simpa using ho
      have hpa : (⟨all⟩ : Array Oper)[j]? = some p := by simpa using hpj
      simp only [ptOk, ho, hpj, Bool.and_eq_true, beq_iff_eq] at hp
      obtain ⟨⟨⟨hr, _⟩, hp1⟩, hp2⟩ := hp
      have one : ∀ (k : Nat) (ok : Oper) (u : PT), k ∈ Region.ready .any ⟨all⟩ listed → (⟨all⟩ : Array Oper)[k]? = some ok → ptOk all u (listed.setIfInBounds k true) = true →
          (∀ (fr : Fr) (ds : List Deferred) (H : HProp), ptOk all u (listed.setIfInBounds k true) = true → u.size ≤ n → execTree P W T N A all u fr ds H K Kp → Closed ⟨all⟩ (listed.setIfInBounds k true) → ∀ (a : Act) (w : World), fr.rep a.tmps → a.tmps.size = N → a.defers = ds → Sat W H w → Sat W A w →
            wpAnyF P ⟨all⟩ (LiftD W N K Kp) (Sat W A) [] n (listed.setIfInBounds k true) a w) → u.size ≤ n →
          guarded all ok fr (fun fr => loudK P W T N A ok fr ds H (fun fr ds H => execTree P W T N A all u fr ds H K Kp) Kp) (fun fr => putK N fr undef (fun fr => execTree P W T N A all u fr ds H K Kp) ok.dst) →
          wpOp P ⟨all⟩ (LiftD W N K Kp) k (fun a' w' => ((([] : List Nat).contains k = false) → Sat W A w') ∧ wpAnyF P ⟨all⟩ (LiftD W N K Kp) (Sat W A) [] n (listed.setIfInBounds k true) a' w') a w := by
        intro k ok u hkr hk hpu ih hu h
        obtain ⟨fr', hrep', h⟩ := guarded_elim hrep h
        unfold wpOp
        simp only [hk]
        rcases h with ⟨hw, h⟩ | ⟨hw, h⟩
        · simp only [hw, if_true]
          refine .inl (op1_sound hT hN hrep' hd hs h ?_ ?_)
          · intro a' w' fr'' ds' H' h1 h2 h3 h4 h5
            exact ⟨fun _ => h5.p _ h4, ih _ _ _ hpu hu h5.k (hcl.put hkr) a' w' h1 h2 h3 h4 (h5.p _ h4)⟩
          · intro c w' H' h1 h2
            exact ⟨H', hN, h1, hd ▸ h2⟩
        · simp only [hw, Bool.false_eq_true, if_false]
          obtain ⟨fr'', h1, h2, h3, h4⟩ := putK_elim hN hrep' h
          exact ⟨fun _ => hA, ih _ _ _ hpu hu h4 (hcl.put hkr) _ w h1 h2 (by rw [h3, hd]) hs hA⟩
      refine ⟨fun h0 => (by rw [hr] at h0; cases h0), fun k hk => ?_⟩
      rw [hr] at hk
      rcases List.mem_cons.1 hk with rfl | hk
      · exact one _ o t (by rw [hr]; simp) hoa hp1 ih1 hn'.1 h.1
      · obtain rfl : k = j := by simpa using hk
        exact one _ p s (by rw [hr]; simp) hpa hp2 ih2 hn'.2 h.2
    · exact h.elim

theorem DrawK.tree (hT : T.ok P) (hm : P.follows .mixedOrders = true) {ops : List Oper} (t : PT) (A : HProp) {fr : Fr} {ds : List Deferred} {H : HProp} {K : ContK} {Kp : PanK}
    (hp : treeOk ops t = true) (hA : Sub W H A) (h : execTree P W T N A ops t fr ds H K fun c _ ds H => Kp c [] ds H) : DrawK P W T N ops fr ds H K Kp := by
  simp only [treeOk, Bool.and_eq_true] at hp
  obtain ⟨⟨hp1, hp2⟩, hp3⟩ := hp
  refine ⟨fun id a w h1 h2 h3 h4 => ?_⟩
  have hs : Sat W H { w with drawn := w.drawn + 1 } := h4.same ⟨rfl, rfl, rfl, Nat.le_refl _⟩ rfl
  have := execTree_sound hT ops hp1 t ops.length _ fr ds H hp3 (Nat.le_of_ble_eq_true hp2) h (Closed.none _) a _ h1 h2 h3 hs (hA _ hs)
  refine wp_mono (wp_region_any hm (wpAnyF.any _ _ _ _ this)) ?_
  rintro e a' w' h7
  cases e with
  | normal => exact h7
  | panic c =>
    obtain ⟨H', g1, g2, g3⟩ := h7
    exact ⟨[], H', Fr.rep_nil _, g1, g2, g3⟩
  | _ => exact h7.elim
/-- The first slot that a region writes: it tells which region it is. -/
def fstDst : List Oper → Nat
  | [] => 0
  | o :: r => match o.dst with
    | some t => t
    | none => fstDst r
theorem DrawK.introH (hT : T.ok P) (hm : P.follows .mixedOrders = true) {ops : List Oper} (t : Nat) (F plan : List Nat) (A : HProp) {fr : Fr} {ds : List Deferred} {H : HProp} {K : ContK} {Kp : PanK}
    (_ : fstDst ops = t) (hp : plannedOk ops F plan = true) (hA : Sub W H A) (h : execPlan P W T N A ops F plan fr ds H K fun c _ ds H => Kp c [] ds H) : DrawK P W T N ops fr ds H K Kp := DrawK.intro hT hm F plan A hp hA h
theorem DrawK.treeH (hT : T.ok P) (hm : P.follows .mixedOrders = true) {ops : List Oper} (n : Nat) (t : PT) (A : HProp) {fr : Fr} {ds : List Deferred} {H : HProp} {K : ContK} {Kp : PanK}
    (_ : fstDst ops = n) (hp : treeOk ops t = true) (hA : Sub W H A) (h : execTree P W T N A ops t fr ds H K fun c _ ds H => Kp c [] ds H) : DrawK P W T N ops fr ds H K Kp := DrawK.tree hT hm t A hp hA h
end
end Go.SL
