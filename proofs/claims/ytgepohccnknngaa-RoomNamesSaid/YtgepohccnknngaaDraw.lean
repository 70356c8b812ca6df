/- A region that draws its order, in one order: quiet operations on what stays, the others one behind the other. No condition. -/
import Derived.Test.YtgepohccnknngaaCode
import Derived.OrdersHeld
namespace Go.SL
open Go

def planOk (ops : List Oper) : List Nat → Array Bool → Bool
  | [], listed => (Region.ready .any ⟨ops⟩ listed).isEmpty
  | i :: rest, listed => match ops[i]? with
    | none => false
    | some o => (if quietOp o.op then (Region.ready .any ⟨ops⟩ listed).contains i && Region.free .any ⟨ops⟩ listed i else Region.ready .any ⟨ops⟩ listed == [i]) &&
        planOk ops rest (listed.setIfInBounds i true)
def plannedOk (ops : List Oper) (plan : List Nat) : Bool :=
  Region.noSelect ⟨ops⟩ && plan.length == ops.length && planOk ops plan (Array.replicate ops.length false)

/-- Whatever holds H holds A. -/
def Sub (W : World) (H A : HProp) : Prop := ∀ w, Sat W H w → Sat W A w
theorem Sub.refl (W : World) (H : HProp) : Sub W H H := fun _ h => h
theorem Sub.left {W : World} {P Q A : HProp} (h : Sub W P A) : Sub W (P • Q) A := fun w hs => h w hs.left
theorem Sub.right {W : World} {P Q A : HProp} (h : Sub W Q A) : Sub W (P • Q) A := fun w hs => h w hs.right

def guarded (all : List Oper) (o : Oper) (fr : Fr) (run skip : Fr → Prop) : Prop := match o.guard with
  | none => run fr
  | some (j, want) => match all[j]? with
    | some ⟨some t, _, _, _, _, _⟩ => match fr.get t with
      | some (.bool b) => spl b
          (match want with
           | true => run ((t, .bool true) :: fr)
           | false => skip ((t, .bool true) :: fr))
          (match want with
           | false => run ((t, .bool false) :: fr)
           | true => skip ((t, .bool false) :: fr))
      | some (.tuple _) => skip fr
      | _ => False
    | _ => False

def execPlan (P : Program) (W : World) (T : Tab) (N : Nat) (A : HProp) (all : List Oper) : List Nat → Fr → List Deferred → HProp → ContK → PanK → Prop
  | [], fr, ds, H, K, _ => K fr ds H
  | i :: rest, fr, ds, H, K, Kp => match all[i]? with
    | some o => guarded all o fr
        (fun fr => match quietOp o.op with
          | true => opK P W T o.op o.type fr.eval A (fun v _ => putK N fr v (fun fr => execPlan P W T N A all rest fr ds H K Kp) o.dst) (fun _ _ => False)
              (OpQ P W o.op o.type fr.eval A fun v => putK N fr v (fun fr => execPlan P W T N A all rest fr ds H K Kp) o.dst)
          | false => op1 P W T N o fr ds H (fun fr ds H => Req (Sub W H A) (execPlan P W T N A all rest fr ds H K Kp)) fun c _ ds H => Kp c [] ds H)
        (fun fr => putK N fr undef (fun fr => execPlan P W T N A all rest fr ds H K Kp) o.dst)
    | none => False

def LiftD (W : World) (N : Nat) (K : ContK) (Kp : PanK) : Exit → Act → World → Prop
  | .normal, a, w => ∃ fr H, fr.rep a.tmps ∧ a.tmps.size = N ∧ Sat W H w ∧ K fr a.defers H
  | .panic c, a, w => ∃ H, a.tmps.size = N ∧ Sat W H w ∧ Kp c [] a.defers H
  | _, _, _ => False

section
variable {P : Program} {W : World} {T : Tab} {N : Nat} {A : HProp}

theorem guarded_elim {all : List Oper} {o : Oper} {fr : Fr} {run skip : Fr → Prop} {a : Act} (hrep : fr.rep a.tmps) (h : guarded all o fr run skip) :
    ∃ fr', fr'.rep a.tmps ∧ ((Region.wanted o (yielded ⟨all⟩ a.tmps) = true ∧ run fr') ∨ (Region.wanted o (yielded ⟨all⟩ a.tmps) = false ∧ skip fr')) := by
  unfold guarded at h
  split at h
  · rename_i hg
    exact ⟨fr, hrep, .inl ⟨by simp [Region.wanted, hg], h⟩⟩
  · rename_i j want hg
    split at h
    · rename_i t op ty pos after guard ho
      split at h
      · rename_i b hb
        have hy : yielded ⟨all⟩ a.tmps j = some b := by
          have := hrep _ _ hb
          simp [yielded, ho, this]
        have hrep' : Fr.rep ((t, .bool b) :: fr) a.tmps := Fr.rep_cons hrep (hrep _ _ hb)
        simp only [Region.wanted, hg, hy]
        rcases spl_elim h with ⟨rfl, h⟩ | ⟨rfl, h⟩
        · cases want with
          | true => exact ⟨_, hrep', .inl ⟨rfl, h⟩⟩
          | false => exact ⟨_, hrep', .inr ⟨rfl, h⟩⟩
        · cases want with
          | true => exact ⟨_, hrep', .inr ⟨rfl, h⟩⟩
          | false => exact ⟨_, hrep', .inl ⟨rfl, h⟩⟩
      · rename_i vs hb
        have hy : yielded ⟨all⟩ a.tmps j = none := by
          have := hrep _ _ hb
          simp [yielded, ho, this]
        exact ⟨fr, hrep, .inr ⟨by simp [Region.wanted, hg, hy], h⟩⟩
      · exact h.elim
    · exact h.elim

theorem execPlan_sound (hT : T.ok P) (all : List Oper) (hsel : Region.noSelect ⟨all⟩ = true) {K : ContK} {Kp : PanK} :
    ∀ (plan : List Nat) (k : Nat) (listed : Array Bool) (fr : Fr) (ds : List Deferred) (H : HProp), planOk all plan listed = true →
      execPlan P W T N A all plan fr ds H K Kp → ∀ (a : Act) (w : World), fr.rep a.tmps → a.tmps.size = N → a.defers = ds → Sat W H w → Sat W A w →
      wpAnyH P .any ⟨all⟩ (LiftD W N K Kp) (Sat W A) (plan.length + k) listed a w
  | [], k, listed, fr, ds, H, hp, h, a, w, hrep, hN, hd, hs, hA => by
    simp only [planOk, List.isEmpty_iff] at hp
    exact wpAnyH_done hp ⟨fr, H, hrep, hN, hs, hd ▸ h⟩ _
  | i :: rest, k, listed, fr, ds, H, hp, h, a, w, hrep, hN, hd, hs, hA => by
    have ih := execPlan_sound hT all hsel (K := K) (Kp := Kp) rest k (listed.setIfInBounds i true)
    unfold execPlan at h
    split at h
    · rename_i o ho
      have hoa : (⟨all⟩ : Array Oper)[i]? = some o := by simpa using ho
      simp only [planOk, ho, Bool.and_eq_true] at hp
      obtain ⟨hp1, hp2⟩ := hp
      obtain ⟨fr', hrep', h⟩ := guarded_elim hrep h
      rw [show (i :: rest).length + k = (rest.length + k) + 1 by simp; omega]
      have hQ : ∀ v c a w, LiftD W N K Kp (.panic c) (Act.put a o.dst v) w → LiftD W N K Kp (.panic c) a w := by
        rintro v c a w ⟨H, h1, h2, h3⟩
        refine ⟨H, ?_, h2, ?_⟩
        · cases hd : o.dst <;> simpa [Act.put, hd] using h1
        · cases hd : o.dst <;> simpa [Act.put, hd] using h3
      have skipped : Region.wanted o (yielded ⟨all⟩ a.tmps) = false → putK N fr' undef (fun fr => execPlan P W T N A all rest fr ds H K Kp) o.dst →
          wpAnyH P .any ⟨all⟩ (LiftD W N K Kp) (Sat W A) (rest.length + k) (listed.setIfInBounds i true) (a.put o.dst undef) w := by
        intro hw h
        obtain ⟨fr'', h1, h2, h3, h4⟩ := putK_elim hN hrep' h
        exact ih _ _ _ hp2 h4 _ w h1 h2 (by rw [h3, hd]) hs hA
      cases hq : quietOp o.op with
      | true =>
        rw [hq, if_pos rfl, Bool.and_eq_true] at hp1
        rcases h with ⟨hw, h⟩ | ⟨hw, h⟩
        · simp only [hq] at h
          have he : ∀ x v, fr'.eval x = some v → a.eval x = v := fun x v e => Fr.rep_eval hrep' e
          have : ∃ v, Runs P W o.op o.type fr'.eval A v ∧ putK N fr' v (fun fr => execPlan P W T N A all rest fr ds H K Kp) o.dst := by
            rcases opK_quiet hT ⟨w, hA⟩ hq h with h | ⟨v, hr, hk⟩
            · exact h.ex
            · exact ⟨v, hr, hk⟩
          obtain ⟨v, hr, hk⟩ := this
          refine wpAnyH_take hoa hsel hp1.2 hp1.1 (hQ v) (.inl ⟨hw, fun w hw => hr w a.eval hw he o rfl rfl⟩) hA ?_
          obtain ⟨fr'', h1, h2, h3, h4⟩ := putK_elim hN hrep' hk
          exact ih _ _ _ hp2 h4 _ w h1 h2 (by rw [h3, hd]) hs hA
        · exact wpAnyH_take hoa hsel hp1.2 hp1.1 (hQ _) (.inr ⟨hw, rfl⟩) hA (skipped hw h)
      | false =>
        rw [hq, if_neg (by simp)] at hp1
        refine wpAnyH_all (by simpa using hp1) (by simp) ?_
        intro j hj
        obtain rfl : j = i := by simpa using hj
        unfold wpOp
        simp only [hoa]
        rcases h with ⟨hw, h⟩ | ⟨hw, h⟩
        · simp only [hw, if_true]
          simp only [hq] at h
          refine .inl (op1_sound hT hN hrep' hd hs h ?_ ?_)
          · intro a' w' fr'' ds' H' h1 h2 h3 h4 ⟨h5, h6⟩
            exact ⟨h5 _ h4, ih _ _ _ hp2 h6 a' w' h1 h2 h3 h4 (h5 _ h4)⟩
          · intro c w' H' h1 h2
            exact ⟨H', hN, h1, hd ▸ h2⟩
        · simp only [hw, Bool.false_eq_true, if_false]
          exact ⟨hA, skipped hw h⟩
    · exact h.elim

theorem DrawK.intro (hT : T.ok P) (hm : P.follows .mixedOrders = true) {ops : List Oper} (plan : List Nat) (A : HProp) {fr : Fr} {ds : List Deferred} {H : HProp} {K : ContK} {Kp : PanK}
    (hp : plannedOk ops plan = true) (hA : Sub W H A) (h : execPlan P W T N A ops plan fr ds H K fun c _ ds H => Kp c [] ds H) : DrawK P W T N ops fr ds H K Kp := by
  simp only [plannedOk, Bool.and_eq_true, beq_iff_eq] at hp
  obtain ⟨⟨hp1, hp2⟩, hp3⟩ := hp
  refine ⟨fun id a w h1 h2 h3 h4 => ?_⟩
  have hs : Sat W H { w with drawn := w.drawn + 1 } := h4.same ⟨rfl, rfl, rfl, Nat.le_refl _⟩ rfl
  have := execPlan_sound hT ops hp1 plan 0 _ fr ds H hp3 h a _ h1 h2 h3 hs (hA _ hs)
  refine wp_mono (wp_region_held hm (S := Sat W A) (by simpa [hp2] using this)) ?_
  rintro e a' w' h7
  cases e with
  | normal => exact h7
  | panic c =>
    obtain ⟨H', g1, g2, g3⟩ := h7
    exact ⟨[], H', Fr.rep_nil _, g1, g2, g3⟩
  | _ => exact h7.elim
end
end Go.SL
