/- A region that draws its order, with forks, and with a forced end. No condition. -/
import Derived.Test.YtacpnjlijjgbmaaGreatDoorDrawT
namespace Go.SL
open Go
/-- Is there an operation that is not in F? -/
def PT.some (F : List Nat) : PT → Bool
  | .nil => false
  | .op i t => !F.contains i || t.some F
  | .two i t j s => (!F.contains i || t.some F) || (!F.contains j || s.some F)
def ptOkF (ops : List Oper) (F : List Nat) : PT → Array Bool → Bool
  | .nil, listed => (Region.ready .any ⟨ops⟩ listed).isEmpty
  | .op i t, listed => match ops[i]? with
    | none => false
    | some o => (match quietOp o.op && !F.contains i with
        | true => (Region.ready .any ⟨ops⟩ listed).contains i && Region.free .any ⟨ops⟩ listed i
        | false => Region.ready .any ⟨ops⟩ listed == [i]) && (!F.contains i || !t.some F) && ptOkF ops F t (listed.setIfInBounds i true)
  | .two i t j s, listed => Region.ready .any ⟨ops⟩ listed == [i, j] && !F.contains i && !F.contains j && ptOkF ops F t (listed.setIfInBounds i true) && ptOkF ops F s (listed.setIfInBounds j true)
def treeOkF (ops : List Oper) (F : List Nat) (t : PT) : Bool := Region.noSelect ⟨ops⟩ && Nat.ble t.size ops.length && lastOk ops F && ptOkF ops F t (Array.replicate ops.length false)
def execTreeF (P : Program) (W : World) (T : Tab) (N : Nat) (A : HProp) (all : List Oper) (F : List Nat) : PT → Fr → List Deferred → HProp → ContK → PanK → Prop
  | .nil, fr, ds, H, K, _ => K fr ds H
  | .op i t, fr, ds, H, K, Kp => match all[i]? with
    | some o => guarded all o fr
        (fun fr => match quietOp o.op && !F.contains i with
          | true => opK P W T o.op o.type fr.eval A (fun v _ => putK N fr v (fun fr => execTreeF P W T N A all F t fr ds H K Kp) o.dst) (fun _ _ => False)
              (OpQ P W o.op o.type fr.eval A fun v => putK N fr v (fun fr => execTreeF P W T N A all F t fr ds H K Kp) o.dst)
          | false => op1 P W T N o fr ds H (fun fr ds H => match F.contains i with
            | true => execTreeF P W T N A all F t fr ds H K Kp
            | false => Req (Sub W H A) (execTreeF P W T N A all F t fr ds H K Kp)) fun c _ ds H => Kp c [] ds H)
        (fun fr => putK N fr undef (fun fr => execTreeF P W T N A all F t fr ds H K Kp) o.dst)
    | none => False
  | .two i t j s, fr, ds, H, K, Kp => match all[i]?, all[j]? with
    | some o, some p =>
      guarded all o fr (fun fr => loudK P W T N A o fr ds H (fun fr ds H => execTreeF P W T N A all F t fr ds H K Kp) Kp) (fun fr => putK N fr undef (fun fr => execTreeF P W T N A all F t fr ds H K Kp) o.dst) ∧
      guarded all p fr (fun fr => loudK P W T N A p fr ds H (fun fr ds H => execTreeF P W T N A all F s fr ds H K Kp) Kp) (fun fr => putK N fr undef (fun fr => execTreeF P W T N A all F s fr ds H K Kp) p.dst)
    | _, _ => False
section
variable {P : Program} {W : World} {T : Tab} {N : Nat} {A : HProp}
theorem execTreeF_sound (hT : T.ok P) (all : List Oper) (F : List Nat) (hsel : Region.noSelect ⟨all⟩ = true) (hF : lastOk all F = true) {K : ContK} {Kp : PanK} :
    ∀ (t : PT) (n : Nat) (listed : Array Bool) (fr : Fr) (ds : List Deferred) (H : HProp), ptOkF all F t listed = true → t.size ≤ n →
      execTreeF P W T N A all F t fr ds H K Kp → Closed ⟨all⟩ listed → ∀ (a : Act) (w : World), fr.rep a.tmps → a.tmps.size = N → a.defers = ds → Sat W H w → (t.some F = true → Sat W A w) →
      wpAnyF P ⟨all⟩ (LiftD W N K Kp) (Sat W A) F n listed a w
  | .nil, n, listed, fr, ds, H, hp, _, h, _, a, w, hrep, hN, hd, hs, hA => by
    simp only [ptOkF, List.isEmpty_iff] at hp
    exact wpAnyF.done hp ⟨fr, H, hrep, hN, hs, hd ▸ h⟩ _
  | .op i t, 0, _, _, _, _, _, hn, _, _, _, _, _, _, _, _, _ => by simp [PT.size] at hn
  | .two i t j s, 0, _, _, _, _, _, hn, _, _, _, _, _, _, _, _, _ => by simp [PT.size] at hn
  | .op i t, n + 1, listed, fr, ds, H, hp, hn, h, hcl, a, w, hrep, hN, hd, hs, hA => by
    have ih := execTreeF_sound hT all F hsel hF (K := K) (Kp := Kp) t n (listed.setIfInBounds i true)
    have hn' : t.size ≤ n := by simp [PT.size] at hn; omega
    have hA' : t.some F = true → Sat W A w := fun h => hA (by simp [PT.some, h])
    unfold execTreeF at h
    split at h
    · rename_i o ho
      have hoa : (⟨all⟩ : Array Oper)[i]? = some o := by simpa using ho
      simp only [ptOkF, ho, Bool.and_eq_true] at hp
      obtain ⟨⟨hp1, hp0⟩, hp2⟩ := hp
      obtain ⟨fr', hrep', h⟩ := guarded_elim hrep h
      have hQ : ∀ v c a w, LiftD W N K Kp (.panic c) (Act.put a o.dst v) w → LiftD W N K Kp (.panic c) a w := by
        rintro v c a w ⟨H, h1, h2, h3⟩
        refine ⟨H, ?_, h2, ?_⟩
        · cases hd : o.dst <;> simpa [Act.put, hd] using h1
        · cases hd : o.dst <;> simpa [Act.put, hd] using h3
      have hirA : i ∈ Region.ready .any ⟨all⟩ listed := by
        cases hq : (quietOp o.op && !F.contains i) with
        | true => simp only [hq, Bool.and_eq_true] at hp1; simpa using hp1.1
        | false => simp only [hq, beq_iff_eq] at hp1; rw [hp1]; simp
      have skipped : putK N fr' undef (fun fr => execTreeF P W T N A all F t fr ds H K Kp) o.dst →
          wpAnyF P ⟨all⟩ (LiftD W N K Kp) (Sat W A) F n (listed.setIfInBounds i true) (a.put o.dst undef) w := by
        intro h
        obtain ⟨fr'', h1, h2, h3, h4⟩ := putK_elim hN hrep' h
        exact ih _ _ _ hp2 hn' h4 (hcl.put hirA) _ w h1 h2 (by rw [h3, hd]) hs hA'
      cases hq : (quietOp o.op && !F.contains i) with
      | true =>
        simp only [hq, Bool.and_eq_true] at hp1
        have hq2 : quietOp o.op = true ∧ F.contains i = false := by simpa using hq
        have hAw := hA (by unfold PT.some; rw [hq2.2]; rfl)
        have hlt : i < all.length := by
          rcases Nat.lt_or_ge i all.length with h | h
          · exact h
          · simp [List.getElem?_eq_none h] at ho
        have hwait : ∀ j, F.contains j = true → Waits (⟨all⟩ : Array Oper) j i := fun j hj => lastOk_waits hF hlt hq2.2 hj
        have first := fun v a w => wpAnyF.first (P := P) (S := Sat W A) (Q := LiftD W N K Kp) (v := v) hoa hq2.2 hwait (Region.noSelect_spec hsel) (hQ v) n listed a w (Region.free_spec hoa hp1.2) hirA hcl
        rcases h with ⟨hw, h⟩ | ⟨hw, h⟩
        · simp only [hq] at h
          have he : ∀ x v, fr'.eval x = some v → a.eval x = v := fun x v e => Fr.rep_eval hrep' e
          have : ∃ v, Runs P W o.op o.type fr'.eval A v ∧ putK N fr' v (fun fr => execTreeF P W T N A all F t fr ds H K Kp) o.dst := by
            rcases opK_quiet hT ⟨w, hAw⟩ hq2.1 h with h | ⟨v, hr, hk⟩
            · exact h.ex
            · exact ⟨v, hr, hk⟩
          obtain ⟨v, hr, hk⟩ := this
          refine first v a w (.inl ⟨hw, fun w hw => hr w a.eval hw he o rfl rfl⟩) hAw ?_
          obtain ⟨fr'', h1, h2, h3, h4⟩ := putK_elim hN hrep' hk
          exact ih _ _ _ hp2 hn' h4 (hcl.put hirA) _ w h1 h2 (by rw [h3, hd]) hs hA'
        · exact first undef a w (.inr ⟨hw, rfl⟩) hAw (skipped h)
      | false =>
        simp only [hq] at hp1
        refine wpAnyF.one (by simpa using hp1) ?_
        unfold wpOp
        simp only [hoa]
        rcases h with ⟨hw, h⟩ | ⟨hw, h⟩
        · simp only [hw, if_true]
          simp only [hq] at h
          refine .inl (op1_sound hT hN hrep' hd hs h ?_ ?_)
          · intro a' w' fr'' ds' H' h1 h2 h3 h4 h5
            cases hc : F.contains i with
            | true =>
              simp only [hc] at h5
              refine ⟨fun h => (by cases h), ih _ _ _ hp2 hn' h5 (hcl.put hirA) a' w' h1 h2 h3 h4 fun hx => ?_⟩
              simp only [hc, Bool.not_true, Bool.false_or] at hp0
              rw [hx] at hp0; cases hp0
            | false =>
              simp only [hc] at h5
              exact ⟨fun _ => h5.p _ h4, ih _ _ _ hp2 hn' h5.k (hcl.put hirA) a' w' h1 h2 h3 h4 fun _ => h5.p _ h4⟩
          · intro c w' H' h1 h2
            exact ⟨H', hN, h1, hd ▸ h2⟩
        · simp only [hw, Bool.false_eq_true, if_false]
          exact ⟨fun hc => hA (by unfold PT.some; rw [hc]; rfl), skipped h⟩
    · exact h.elim
  | .two i t j s, n + 1, listed, fr, ds, H, hp, hn, h, hcl, a, w, hrep, hN, hd, hs, hA => by
    have ih1 := execTreeF_sound hT all F hsel hF (K := K) (Kp := Kp) t n (listed.setIfInBounds i true)
    have ih2 := execTreeF_sound hT all F hsel hF (K := K) (Kp := Kp) s n (listed.setIfInBounds j true)
    have hn' : t.size ≤ n ∧ s.size ≤ n := by simp only [PT.size] at hn; omega
    unfold execTreeF at h
    split at h
    · rename_i o p ho hpj
      have hoa : (⟨all⟩ : Array Oper)[i]? = some o := by simpa using ho
      have hpa : (⟨all⟩ : Array Oper)[j]? = some p := by simpa using hpj
      simp only [ptOkF, Bool.and_eq_true, beq_iff_eq] at hp
      obtain ⟨⟨⟨⟨hr, hi⟩, hj⟩, hp1⟩, hp2⟩ := hp
      have hiF : F.contains i = false := by simpa using hi
      have hjF : F.contains j = false := by simpa using hj
      have hAw := hA (by unfold PT.some; rw [hiF]; rfl)
      have one : ∀ (k : Nat) (ok : Oper) (u : PT), k ∈ Region.ready .any ⟨all⟩ listed → (⟨all⟩ : Array Oper)[k]? = some ok → ptOkF all F u (listed.setIfInBounds k true) = true →
          (∀ (fr : Fr) (ds : List Deferred) (H : HProp), ptOkF all F u (listed.setIfInBounds k true) = true → u.size ≤ n → execTreeF P W T N A all F u fr ds H K Kp → Closed ⟨all⟩ (listed.setIfInBounds k true) → ∀ (a : Act) (w : World), fr.rep a.tmps → a.tmps.size = N → a.defers = ds → Sat W H w → (u.some F = true → Sat W A w) →
            wpAnyF P ⟨all⟩ (LiftD W N K Kp) (Sat W A) F n (listed.setIfInBounds k true) a w) → u.size ≤ n →
          guarded all ok fr (fun fr => loudK P W T N A ok fr ds H (fun fr ds H => execTreeF P W T N A all F u fr ds H K Kp) Kp) (fun fr => putK N fr undef (fun fr => execTreeF P W T N A all F u fr ds H K Kp) ok.dst) →
          wpOp P ⟨all⟩ (LiftD W N K Kp) k (fun a' w' => ((F.contains k = false) → Sat W A w') ∧ wpAnyF P ⟨all⟩ (LiftD W N K Kp) (Sat W A) F n (listed.setIfInBounds k true) a' w') a w := by
        intro k ok u hkr hk hpu ih hu h
        obtain ⟨fr', hrep', h⟩ := guarded_elim hrep h
        unfold wpOp
        simp only [hk]
        rcases h with ⟨hw, h⟩ | ⟨hw, h⟩
        · simp only [hw, if_true]
          refine .inl (op1_sound hT hN hrep' hd hs h ?_ ?_)
          · intro a' w' fr'' ds' H' h1 h2 h3 h4 h5
            exact ⟨fun _ => h5.p _ h4, ih _ _ _ hpu hu h5.k (hcl.put hkr) a' w' h1 h2 h3 h4 fun _ => h5.p _ h4⟩
          · intro c w' H' h1 h2
            exact ⟨H', hN, h1, hd ▸ h2⟩
        · simp only [hw, Bool.false_eq_true, if_false]
          obtain ⟨fr'', h1, h2, h3, h4⟩ := putK_elim hN hrep' h
          exact ⟨fun _ => hAw, ih _ _ _ hpu hu h4 (hcl.put hkr) _ w h1 h2 (by rw [h3, hd]) hs fun _ => hAw⟩
      refine ⟨fun h0 => (by rw [hr] at h0; cases h0), fun k hk => ?_⟩
      rw [hr] at hk
      rcases List.mem_cons.1 hk with rfl | hk
      · exact one _ o t (by rw [hr]; simp) hoa hp1 ih1 hn'.1 h.1
      · obtain rfl : k = j := by simpa using hk
        exact one _ p s (by rw [hr]; simp) hpa hp2 ih2 hn'.2 h.2
    · exact h.elim
theorem DrawK.treeF (hT : T.ok P) (hm : P.follows .mixedOrders = true) {ops : List Oper} (n : Nat) (F : List Nat) (t : PT) (A : HProp) {fr : Fr} {ds : List Deferred} {H : HProp} {K : ContK} {Kp : PanK}
    (_ : fstDst ops = n) (hp : treeOkF ops F t = true) (hA : Sub W H A) (h : execTreeF P W T N A ops F t fr ds H K fun c _ ds H => Kp c [] ds H) : DrawK P W T N ops fr ds H K Kp := by
  simp only [treeOkF, Bool.and_eq_true] at hp
  obtain ⟨⟨⟨hp1, hp2⟩, hp4⟩, hp3⟩ := hp
  refine ⟨fun id a w h1 h2 h3 h4 => ?_⟩
  have hs : Sat W H { w with drawn := w.drawn + 1 } := h4.same ⟨rfl, rfl, rfl, Nat.le_refl _⟩ rfl
  have := execTreeF_sound hT ops F hp1 hp4 t ops.length _ fr ds H hp3 (Nat.le_of_ble_eq_true hp2) h (Closed.none _) a _ h1 h2 h3 hs (fun _ => hA _ hs)
  refine wp_mono (wp_region_any hm (wpAnyF.any _ _ _ _ this)) ?_
  rintro e a' w' h7
  cases e with
  | normal => exact h7
  | panic c =>
    obtain ⟨H', g1, g2, g3⟩ := h7
    exact ⟨[], H', Fr.rep_nil _, g1, g2, g3⟩
  | _ => exact h7.elim
end
end Go.SL
