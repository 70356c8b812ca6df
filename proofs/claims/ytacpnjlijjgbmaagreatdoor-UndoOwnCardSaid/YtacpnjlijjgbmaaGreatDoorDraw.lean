/- A region that draws its order, in one order: quiet operations on what stays, the others one behind the other. No condition. -/
import Derived.Test.YtacpnjlijjgbmaaGreatDoorCode
import Derived.OrdersHeld
namespace Go.SL
open Go

def planOk (ops : List Oper) (F : List Nat) : List Nat → Array Bool → Bool
  | [], listed => (Region.ready .any ⟨ops⟩ listed).isEmpty
  | i :: rest, listed => match ops[i]? with
    | none => false
    | some o => (match quietOp o.op && !F.contains i with
        | true => (Region.ready .any ⟨ops⟩ listed).contains i && Region.free .any ⟨ops⟩ listed i
        | false => Region.ready .any ⟨ops⟩ listed == [i]) &&
        (!F.contains i || rest.all F.contains) && planOk ops F rest (listed.setIfInBounds i true)
/-- What an operation waits for, through others too: a mask of their numbers. -/
def maskOf (acc : List Nat) : List Edge → Nat
  | [] => 0
  | e :: es => match Region.binds .any e with
    | true => ((1 <<< e.on) ||| acc.getD e.on 0) ||| maskOf acc es
    | false => maskOf acc es
def ancs : List Oper → List Nat → List Nat
  | [], acc => acc
  | o :: r, acc => ancs r (acc ++ [maskOf acc o.after.toList])
/-- Each operation of F waits for each that is not in F. -/
def lastOk (ops : List Oper) (F : List Nat) : Bool := match F with
  | [] => true
  | _ => F.all fun j => match (ancs ops [])[j]? with
    | none => false
    | some m => (List.range ops.length).all fun i => F.contains i || m.testBit i
/-- Whatever has come up, what it waits for has come up too. -/
def Closed (ops : Array Oper) (listed : Array Bool) : Prop := ∀ (k : Nat) o, listed.getD k false = true → ops[k]? = some o → ∀ e ∈ o.after, Region.binds .any e = true → listed.getD e.on false = true
def Waits (ops : Array Oper) (k i : Nat) : Prop := ∀ listed, Closed ops listed → (∀ o, ops[k]? = some o → ∀ e ∈ o.after, Region.binds .any e = true → listed.getD e.on false = true) → listed.getD i false = true
theorem maskOf_bit {acc : List Nat} {i : Nat} : ∀ {es : List Edge}, (maskOf acc es).testBit i = true → ∃ e ∈ es, Region.binds .any e = true ∧ (e.on = i ∨ (acc.getD e.on 0).testBit i = true)
  | [], h => by simp [maskOf] at h
  | e :: es, h => by
    unfold maskOf at h
    split at h
    · rename_i hb
      simp only [Nat.testBit_or, Bool.or_eq_true] at h
      rcases h with (h | h) | h
      · rw [Nat.one_shiftLeft, Nat.testBit_two_pow] at h
        exact ⟨e, List.mem_cons_self, hb, .inl (by simpa using h)⟩
      · exact ⟨e, List.mem_cons_self, hb, .inr h⟩
      · obtain ⟨e', h1, h2⟩ := maskOf_bit h
        exact ⟨e', List.mem_cons_of_mem _ h1, h2⟩
    · obtain ⟨e', h1, h2⟩ := maskOf_bit h
      exact ⟨e', List.mem_cons_of_mem _ h1, h2⟩
theorem ancs_good (ops : List Oper) : ∀ (r : List Oper) (acc : List Nat), ops.drop acc.length = r → (∀ (k m i : Nat), acc[k]? = some m → m.testBit i = true → Waits ⟨ops⟩ k i) →
    ∀ (k m i : Nat), (ancs r acc)[k]? = some m → m.testBit i = true → Waits ⟨ops⟩ k i
  | [], acc, _, h => h
  | o :: r, acc, hr, h => by
    have hlt : acc.length < ops.length := by
      rcases Nat.lt_or_ge acc.length ops.length with h' | h'
      · exact h'
      · rw [List.drop_eq_nil_of_le h'] at hr; cases hr
    have hdr : ops[acc.length] :: ops.drop (acc.length + 1) = o :: r := by rw [← hr]; exact (List.drop_eq_getElem_cons hlt).symm
    have ho : ops[acc.length] = o := (List.cons.inj hdr).1
    refine ancs_good ops r _ (by rw [List.length_append]; exact (List.cons.inj hdr).2) fun k m i hk hm => ?_
    by_cases hka : k < acc.length
    · rw [List.getElem?_append_left hka] at hk
      exact h k m i hk hm
    · have hk' : k = acc.length := by
        have := (List.getElem?_eq_some_iff.1 hk).1
        simp at this
        omega
      subst hk'
      rw [List.getElem?_append_right (Nat.le_refl _), Nat.sub_self] at hk
      cases hk
      obtain ⟨e, he, hb, hi⟩ := maskOf_bit hm
      intro listed hc hready
      have hoa : (⟨ops⟩ : Array Oper)[acc.length]? = some o := by simp [hlt, ho]
      have hl := hready o hoa e (by simpa using he) hb
      rcases hi with rfl | hi
      · exact hl
      · cases ha : acc[e.on]? with
        | none => simp [List.getD, ha] at hi
        | some m' =>
          have : (acc.getD e.on 0) = m' := by simp [List.getD, ha]
          rw [this] at hi
          exact h e.on m' i ha hi listed hc (fun o' ho' => hc e.on o' hl ho')
theorem lastOk_waits {ops : List Oper} {F : List Nat} (h : lastOk ops F = true) {i j : Nat} (hi : i < ops.length) (hiF : F.contains i = false) (hj : F.contains j = true) : Waits ⟨ops⟩ j i := by
  unfold lastOk at h
  split at h
  · simp at hj
  · rw [List.all_eq_true] at h
    have := h j (by simpa using hj)
    split at this
    · cases this
    · rename_i m hm
      rw [List.all_eq_true] at this
      have h2 := this i (by simpa using hi)
      rw [hiF, Bool.false_or] at h2
      exact ancs_good ops ops [] (by simp) (fun k m i hk _ => by simp at hk) j m i hm h2
theorem Closed.none {ops : Array Oper} (n : Nat) : Closed ops (Array.replicate n false) := fun k o h => by
  simp [Array.getD_eq_getD_getElem?, Array.getElem?_replicate] at h
  split at h <;> simp_all
theorem Closed.put {ops : Array Oper} {listed : Array Bool} {j : Nat} (h : Closed ops listed) (hj : j ∈ Region.ready .any ops listed) : Closed ops (listed.setIfInBounds j true) := fun k o hk ho e he hb => by
  refine getD_set_true ?_
  by_cases e1 : k = j
  · subst e1
    obtain ⟨_, oj, hoj, hall⟩ := mem_ready.1 hj
    rw [ho] at hoj; cases hoj
    exact hall e he hb
  · rw [getD_set_ne false (Ne.symm e1)] at hk
    exact h k o hk ho e he hb
def plannedOk (ops : List Oper) (F plan : List Nat) : Bool :=
  Region.noSelect ⟨ops⟩ && plan.length == ops.length && lastOk ops F && planOk ops F plan (Array.replicate ops.length false)

section
variable {P : Program} {ops : Array Oper} {Q : Exit → Act → World → Prop} {S : World → Prop} {F : List Nat}
/-- Whatever order is picked; S holds behind every operation that is not in F. -/
def wpAnyF (P : Program) (ops : Array Oper) (Q : Exit → Act → World → Prop) (S : World → Prop) (F : List Nat) : Nat → Array Bool → Act → World → Prop
  | 0, listed, a, w => Region.ready .any ops listed = [] ∧ Q .normal a w
  | fuel + 1, listed, a, w => (Region.ready .any ops listed = [] → Q .normal a w) ∧
    ∀ i ∈ Region.ready .any ops listed, wpOp P ops Q i (fun a' w' => (F.contains i = false → S w') ∧ wpAnyF P ops Q S F fuel (listed.setIfInBounds i true) a' w') a w
theorem wpAnyF.any : ∀ (fuel : Nat) (listed : Array Bool) (a : Act) (w : World), wpAnyF P ops Q S F fuel listed a w → wpAny P .any ops Q fuel listed a w
  | 0, _, _, _, h => h
  | fuel + 1, _, _, _, h => ⟨h.1, fun i hi => wpOp_mono (fun a' w' h' => wpAnyF.any fuel _ a' w' h'.2) (h.2 i hi)⟩
theorem wpAnyF.done {listed : Array Bool} {a : Act} {w : World} (hr : Region.ready .any ops listed = []) (h : Q .normal a w) : ∀ fuel, wpAnyF P ops Q S F fuel listed a w
  | 0 => ⟨hr, h⟩
  | _ + 1 => ⟨fun _ => h, by rw [hr]; simp⟩
theorem wpAnyF.one {i : Nat} {fuel : Nat} {listed : Array Bool} {a : Act} {w : World} (hr : Region.ready .any ops listed = [i])
    (h : wpOp P ops Q i (fun a' w' => (F.contains i = false → S w') ∧ wpAnyF P ops Q S F fuel (listed.setIfInBounds i true) a' w') a w) : wpAnyF P ops Q S F (fuel + 1) listed a w :=
  ⟨fun h0 => (by rw [hr] at h0; cases h0), fun j hj => (by
    rw [hr] at hj
    obtain rfl : j = i := by simpa using hj
    exact h)⟩
/-- A quiet operation that may come up comes up first. -/
theorem wpAnyF.first {i : Nat} {oi : Oper} {v : Value} (hi : ops[i]? = some oi) (hiF : F.contains i = false)
    (hF : ∀ j, F.contains j = true → Waits ops j i)
    (hsel : ∀ (j : Nat) (o : Oper) cs b, ops[j]? = some o → o.op ≠ .select cs b) (hQ : ∀ c a w, Q (.panic c) (a.put oi.dst v) w → Q (.panic c) a w) :
    ∀ (fuel : Nat) (listed : Array Bool) (a : Act) (w : World),
      (∀ j oj, ops[j]? = some oj → j ≠ i → listed.getD j true = false → (∀ e ∈ oj.after, Region.binds .any e = true → e.on ≠ i) → oi.apart ops oj = true) →
      i ∈ Region.ready .any ops listed → Closed ops listed → YieldsIf P ops S oi v a → S w →
      wpAnyF P ops Q S F fuel (listed.setIfInBounds i true) (a.put oi.dst v) w → wpAnyF P ops Q S F (fuel + 1) listed a w := by
  intro fuel
  induction fuel with
  | zero =>
    intro listed a w _ hr _ hy hS h
    refine ⟨fun h0 => (by rw [h0] at hr; cases hr), fun j hj => ?_⟩
    by_cases hji : j = i
    · subst hji; exact hy.wpOp hi hS ⟨fun _ => hS, h⟩
    · have := ready_mono hj hji
      rw [h.1] at this; cases this
  | succ fuel ih =>
    intro listed a w hfree hr hcl hy hS h
    refine ⟨fun h0 => (by rw [h0] at hr; cases hr), fun j hj => ?_⟩
    by_cases hji : j = i
    · subst hji; exact hy.wpOp hi hS ⟨fun _ => hS, h⟩
    · have h1 := h.2 j (ready_mono hj hji)
      obtain ⟨hjun, oj, hoj, hall⟩ := mem_ready.1 hj
      have hnot : ∀ e ∈ oj.after, Region.binds .any e = true → e.on ≠ i := fun e he hb heq => by
        have h2 := hall e he hb
        have h0 := (mem_ready.1 hr).1
        rw [heq] at h2
        rcases Nat.lt_or_ge i listed.size with h' | h'
        · simp [h'] at h0 h2; rw [h0] at h2; cases h2
        · simp [Array.getElem?_eq_none h'] at h2
      have hjF : F.contains j = false := by
        cases hc : F.contains j with
        | false => rfl
        | true =>
          have h2 := hF j hc listed hcl (fun o ho => by rw [hoj] at ho; cases ho; exact hall)
          have h0 := (mem_ready.1 hr).1
          rcases Nat.lt_or_ge i listed.size with h' | h'
          · simp [h'] at h0 h2; rw [h0] at h2; cases h2
          · simp [Array.getElem?_eq_none h'] at h2
      have h2 := wpOp_putIf hoj (hfree j oj hoj hji hjun hnot) (fun cs b => hsel i oi cs b hi) (fun cs b => hsel j oj cs b hoj) hQ hy h1
      have hfree' : ∀ k ok, ops[k]? = some ok → k ≠ i → (listed.setIfInBounds j true).getD k true = false →
          (∀ e ∈ ok.after, Region.binds .any e = true → e.on ≠ i) → oi.apart ops ok = true := fun k ok hk hki hun hno => by
        refine hfree k ok hk hki ?_ hno
        by_cases hjk : j = k
        · subst hjk; exact hjun
        · rw [getD_set_ne true hjk] at hun; exact hun
      refine wpOp_mono (fun a' w' h3 => ?_) h2
      obtain ⟨hy', hS', h4⟩ := h3
      refine ⟨hS', ih (listed.setIfInBounds j true) a' w' hfree' (ready_mono hr (Ne.symm hji)) (hcl.put hj) hy' (hS' hjF) ?_⟩
      rw [Array.setIfInBounds_comm _ _ hji]
      exact h4
end

/-- Whatever holds H holds A. -/
def Sub (W : World) (H A : HProp) : Prop := ∀ w, Sat W H w → Sat W A w
theorem Sub.refl (W : World) (H : HProp) : Sub W H H := fun _ h => h
theorem Sub.left {W : World} {P Q A : HProp} (h : Sub W P A) : Sub W (P • Q) A := fun w hs => h w hs.left
theorem Sub.right {W : World} {P Q A : HProp} (h : Sub W Q A) : Sub W (P • Q) A := fun w hs => h w hs.right

def guarded (all : List Oper) (o : Oper) (fr : Fr) (run skip : Fr → Prop) : Prop := match o.guard with
  | none => run fr
  | some (j, want) => match all[j]? with
    | some ⟨some t, _, _, _, _, _⟩ => match fr.get t with
      | some (.bool b) => spl b
          (match want with
           | true => run ((t, .bool true) :: fr)
           | false => skip ((t, .bool true) :: fr))
          (match want with
           | false => run ((t, .bool false) :: fr)
           | true => skip ((t, .bool false) :: fr))
      | some (.tuple _) => skip fr
      | _ => False
    | _ => False

def execPlan (P : Program) (W : World) (T : Tab) (N : Nat) (A : HProp) (all : List Oper) (F : List Nat) : List Nat → Fr → List Deferred → HProp → ContK → PanK → Prop
  | [], fr, ds, H, K, _ => K fr ds H
  | i :: rest, fr, ds, H, K, Kp => match all[i]? with
    | some o => guarded all o fr
        (fun fr => match quietOp o.op && !F.contains i with
          | true => opK P W T o.op o.type fr.eval A (fun v _ => putK N fr v (fun fr => execPlan P W T N A all F rest fr ds H K Kp) o.dst) (fun _ _ => False)
              (OpQ P W o.op o.type fr.eval A fun v => putK N fr v (fun fr => execPlan P W T N A all F rest fr ds H K Kp) o.dst)
          | false => op1 P W T N o fr ds H (fun fr ds H => match F.contains i with
            | true => execPlan P W T N A all F rest fr ds H K Kp
            | false => Req (Sub W H A) (execPlan P W T N A all F rest fr ds H K Kp)) fun c _ ds H => Kp c [] ds H)
        (fun fr => putK N fr undef (fun fr => execPlan P W T N A all F rest fr ds H K Kp) o.dst)
    | none => False

def LiftD (W : World) (N : Nat) (K : ContK) (Kp : PanK) : Exit → Act → World → Prop
  | .normal, a, w => ∃ fr H, fr.rep a.tmps ∧ a.tmps.size = N ∧ Sat W H w ∧ K fr a.defers H
  | .panic c, a, w => ∃ H, a.tmps.size = N ∧ Sat W H w ∧ Kp c [] a.defers H
  | _, _, _ => False

section
variable {P : Program} {W : World} {T : Tab} {N : Nat} {A : HProp}

theorem guarded_elim {all : List Oper} {o : Oper} {fr : Fr} {run skip : Fr → Prop} {a : Act} (hrep : fr.rep a.tmps) (h : guarded all o fr run skip) :
    ∃ fr', fr'.rep a.tmps ∧ ((Region.wanted o (yielded ⟨all⟩ a.tmps) = true ∧ run fr') ∨ (Region.wanted o (yielded ⟨all⟩ a.tmps) = false ∧ skip fr')) := by
  unfold guarded at h
  split at h
  · rename_i hg
    exact ⟨fr, hrep, .inl ⟨by simp [Region.wanted, hg], h⟩⟩
  · rename_i j want hg
    split at h
    · rename_i t op ty pos after guard ho
      split at h
      · rename_i b hb
        have hy : yielded ⟨all⟩ a.tmps j = some b := by
          have := hrep _ _ hb
          simp [yielded, ho, this]
        have hrep' : Fr.rep ((t, .bool b) :: fr) a.tmps := Fr.rep_cons hrep (hrep _ _ hb)
        simp only [Region.wanted, hg, hy]
        rcases spl_elim h with ⟨rfl, h⟩ | ⟨rfl, h⟩
        · cases want with
          | true => exact ⟨_, hrep', .inl ⟨rfl, h⟩⟩
          | false => exact ⟨_, hrep', .inr ⟨rfl, h⟩⟩
        · cases want with
          | true => exact ⟨_, hrep', .inr ⟨rfl, h⟩⟩
          | false => exact ⟨_, hrep', .inl ⟨rfl, h⟩⟩
      · rename_i vs hb
        have hy : yielded ⟨all⟩ a.tmps j = none := by
          have := hrep _ _ hb
          simp [yielded, ho, this]
        exact ⟨fr, hrep, .inr ⟨by simp [Region.wanted, hg, hy], h⟩⟩
      · exact h.elim
    · exact h.elim

theorem execPlan_sound (hT : T.ok P) (all : List Oper) (F : List Nat) (hsel : Region.noSelect ⟨all⟩ = true) (hF : lastOk all F = true) {K : ContK} {Kp : PanK} :
    ∀ (plan : List Nat) (k : Nat) (listed : Array Bool) (fr : Fr) (ds : List Deferred) (H : HProp), planOk all F plan listed = true →
      execPlan P W T N A all F plan fr ds H K Kp → Closed ⟨all⟩ listed → ∀ (a : Act) (w : World), fr.rep a.tmps → a.tmps.size = N → a.defers = ds → Sat W H w → ((∃ i ∈ plan, F.contains i = false) → Sat W A w) →
      wpAnyF P ⟨all⟩ (LiftD W N K Kp) (Sat W A) F (plan.length + k) listed a w
  | [], k, listed, fr, ds, H, hp, h, _, a, w, hrep, hN, hd, hs, hA => by
    simp only [planOk, List.isEmpty_iff] at hp
    exact wpAnyF.done hp ⟨fr, H, hrep, hN, hs, hd ▸ h⟩ _
  | i :: rest, k, listed, fr, ds, H, hp, h, hcl, a, w, hrep, hN, hd, hs, hA => by
    have ih := execPlan_sound hT all F hsel hF (K := K) (Kp := Kp) rest k (listed.setIfInBounds i true)
    unfold execPlan at h
    split at h
    · rename_i o ho
      have hoa : (⟨all⟩ : Array Oper)[i]? = some o := by simpa using ho
      simp only [planOk, ho, Bool.and_eq_true] at hp
      obtain ⟨⟨hp1, hp0⟩, hp2⟩ := hp
      obtain ⟨fr', hrep', h⟩ := guarded_elim hrep h
      rw [show (i :: rest).length + k = (rest.length + k) + 1 by simp; omega]
      have hA' : (∃ i ∈ rest, F.contains i = false) → Sat W A w := fun ⟨j, hj, hjf⟩ => hA ⟨j, List.mem_cons_of_mem _ hj, hjf⟩
      have hQ : ∀ v c a w, LiftD W N K Kp (.panic c) (Act.put a o.dst v) w → LiftD W N K Kp (.panic c) a w := by
        rintro v c a w ⟨H, h1, h2, h3⟩
        refine ⟨H, ?_, h2, ?_⟩
        · cases hd : o.dst <;> simpa [Act.put, hd] using h1
        · cases hd : o.dst <;> simpa [Act.put, hd] using h3
      have hirA : i ∈ Region.ready .any ⟨all⟩ listed := by
        cases hq : (quietOp o.op && !F.contains i) with
        | true => simp only [hq, Bool.and_eq_true] at hp1; simpa using hp1.1
        | false => simp only [hq, beq_iff_eq] at hp1; rw [hp1]; simp
      have skipped : putK N fr' undef (fun fr => execPlan P W T N A all F rest fr ds H K Kp) o.dst →
          wpAnyF P ⟨all⟩ (LiftD W N K Kp) (Sat W A) F (rest.length + k) (listed.setIfInBounds i true) (a.put o.dst undef) w := by
        intro h
        obtain ⟨fr'', h1, h2, h3, h4⟩ := putK_elim hN hrep' h
        exact ih _ _ _ hp2 h4 (hcl.put hirA) _ w h1 h2 (by rw [h3, hd]) hs hA'
      cases hq : (quietOp o.op && !F.contains i) with
      | true =>
        simp only [hq, Bool.and_eq_true] at hp1
        have hq2 : quietOp o.op = true ∧ F.contains i = false := by simpa using hq
        have hAw := hA ⟨i, by simp, hq2.2⟩
        have hlt : i < all.length := by
          rcases Nat.lt_or_ge i all.length with h | h
          · exact h
          · simp [List.getElem?_eq_none h] at ho
        have hwait : ∀ j, F.contains j = true → Waits (⟨all⟩ : Array Oper) j i := fun j hj => lastOk_waits hF hlt hq2.2 hj
        have hir : i ∈ Region.ready .any ⟨all⟩ listed := by simpa using hp1.1
        have first := fun v a w => wpAnyF.first (P := P) (S := Sat W A) (Q := LiftD W N K Kp) (v := v) hoa hq2.2 hwait (Region.noSelect_spec hsel) (hQ v) (rest.length + k) listed a w (Region.free_spec hoa hp1.2) hir hcl
        rcases h with ⟨hw, h⟩ | ⟨hw, h⟩
        · simp only [hq] at h
          have he : ∀ x v, fr'.eval x = some v → a.eval x = v := fun x v e => Fr.rep_eval hrep' e
          have : ∃ v, Runs P W o.op o.type fr'.eval A v ∧ putK N fr' v (fun fr => execPlan P W T N A all F rest fr ds H K Kp) o.dst := by
            rcases opK_quiet hT ⟨w, hAw⟩ hq2.1 h with h | ⟨v, hr, hk⟩
            · exact h.ex
            · exact ⟨v, hr, hk⟩
          obtain ⟨v, hr, hk⟩ := this
          refine first v a w (.inl ⟨hw, fun w hw => hr w a.eval hw he o rfl rfl⟩) hAw ?_
          obtain ⟨fr'', h1, h2, h3, h4⟩ := putK_elim hN hrep' hk
          exact ih _ _ _ hp2 h4 (hcl.put hir) _ w h1 h2 (by rw [h3, hd]) hs hA'
        · exact first undef a w (.inr ⟨hw, rfl⟩) hAw (skipped h)
      | false =>
        simp only [hq] at hp1
        refine wpAnyF.one (by simpa using hp1) ?_
        unfold wpOp
        simp only [hoa]
        rcases h with ⟨hw, h⟩ | ⟨hw, h⟩
        · simp only [hw, if_true]
          simp only [hq] at h
          refine .inl (op1_sound hT hN hrep' hd hs h ?_ ?_)
          · intro a' w' fr'' ds' H' h1 h2 h3 h4 h5
            cases hc : F.contains i with
            | true =>
              simp only [hc] at h5
              refine ⟨fun h => (by cases h), ih _ _ _ hp2 h5 (hcl.put hirA) a' w' h1 h2 h3 h4 fun hx => ?_⟩
              obtain ⟨j, hj, hjf⟩ := hx
              simp only [hc, Bool.not_true, Bool.false_or, List.all_eq_true] at hp0
              rw [hp0 j hj] at hjf; cases hjf
            | false =>
              simp only [hc] at h5
              exact ⟨fun _ => h5.p _ h4, ih _ _ _ hp2 h5.k (hcl.put hirA) a' w' h1 h2 h3 h4 fun _ => h5.p _ h4⟩
          · intro c w' H' h1 h2
            exact ⟨H', hN, h1, hd ▸ h2⟩
        · simp only [hw, Bool.false_eq_true, if_false]
          refine ⟨fun hc => hA ⟨i, by simp, hc⟩, skipped h⟩
    · exact h.elim

theorem DrawK.intro (hT : T.ok P) (hm : P.follows .mixedOrders = true) {ops : List Oper} (F plan : List Nat) (A : HProp) {fr : Fr} {ds : List Deferred} {H : HProp} {K : ContK} {Kp : PanK}
    (hp : plannedOk ops F plan = true) (hA : Sub W H A) (h : execPlan P W T N A ops F plan fr ds H K fun c _ ds H => Kp c [] ds H) : DrawK P W T N ops fr ds H K Kp := by
  simp only [plannedOk, Bool.and_eq_true, beq_iff_eq] at hp
  obtain ⟨⟨⟨hp1, hp2⟩, hp4⟩, hp3⟩ := hp
  refine ⟨fun id a w h1 h2 h3 h4 => ?_⟩
  have hs : Sat W H { w with drawn := w.drawn + 1 } := h4.same ⟨rfl, rfl, rfl, Nat.le_refl _⟩ rfl
  have := execPlan_sound hT ops F hp1 hp4 plan 0 _ fr ds H hp3 h (Closed.none _) a _ h1 h2 h3 hs fun _ => hA _ hs
  refine wp_mono (wp_region_any hm (wpAnyF.any _ _ _ _ (by simpa [hp2] using this))) ?_
  rintro e a' w' h7
  cases e with
  | normal => exact h7
  | panic c =>
    obtain ⟨H', g1, g2, g3⟩ := h7
    exact ⟨[], H', Fr.rep_nil _, g1, g2, g3⟩
  | _ => exact h7.elim
end
end Go.SL
