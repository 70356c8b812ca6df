/- Ranges over a function: the loop, its iterator, its rounds; the mark that a function leaves with. No condition. -/
import Derived.Test.YtacpnjlijjgbmaaGreatDoorWalk
import Derived.RangeFuncIn
import Derived.RangeFuncRecord
namespace Go.SL
open Go
section
variable {P : Program} {W : World} {T : Tab} {N : Nat} {H R : HProp}

/-- The contract of an iterator: it hands n times what encs says to the body of whatever loop, and ends when all has been handed or the body has said no. F: what it owns itself. -/
def IterSpec (P : Program) (W : World) (gf : FuncId) (lb : List Value) (n : Nat) (encs : Nat → List Value) (F : HProp) : Prop :=
  ∀ (l : Nat) (J : Nat → HProp) (Jx : HProp),
    (∀ k, k < n → YieldK P W l (encs k) (F • J k) (fun v H' => (v = .bool true ∧ Imp H' (F • J (k + 1))) ∨ (v = .bool false ∧ Imp H' (F • Jx))) (fun _ _ => False)) →
    Does P W gf ⟨.func (.yield l) ⟨[]⟩ ⟨[]⟩ :: lb⟩ (F • J 0) (Ret fun _ G => G = (F • J n) ∨ G = (F • Jx))
/-- The block of a loop's deferred calls. -/
def dfr (D : Nat) : HProp := pts D (.deferred (some []))
def markD (D : Nat) : Deferred := { target := .collected D, args := #[] }
/-- The loop's parameters, in the frame. -/
def bindF : List Tmp → List Value → Fr → Fr
  | p :: ps, v :: vs, fr => bindF ps vs ((p, v) :: fr)
  | _, _, fr => fr
theorem bindF_rep : ∀ (ps : List Tmp) (vs : List Value) (fr : Fr) (tmps : Array Value), fr.rep tmps → (∀ p ∈ ps, p < tmps.size) →
    (bindF ps vs fr).rep ((ps.zip vs).foldl (fun t (p, v) => t.setIfInBounds p v) tmps)
  | [], _, fr, tmps, h, _ => by simpa [bindF] using h
  | _ :: _, [], fr, tmps, h, _ => by simpa [bindF] using h
  | p :: ps, v :: vs, fr, tmps, h, hp => by
    simp only [bindF, List.zip_cons_cons, List.foldl_cons]
    refine bindF_rep ps vs _ _ ?_ (fun q hq => by simpa using hp q (List.mem_cons_of_mem _ hq))
    intro t u hu
    rw [Fr.get_cons] at hu
    split at hu
    · rename_i e; subst e; cases hu
      have := hp p (by simp)
      simp [this]
    · rename_i e
      rw [Array.getElem?_setIfInBounds_ne e]
      exact h t u hu
theorem foldl_size : ∀ (l : List (Tmp × Value)) (tmps : Array Value), (l.foldl (fun t (p, v) => t.setIfInBounds p v) tmps).size = tmps.size
  | [], _ => rfl
  | (p, v) :: l, tmps => by rw [List.foldl_cons, foldl_size l]; simp

/-- How a round may be left. -/
def roundQ (J : Nat → HProp) (Jx : Code → HProp) (jumps : List Code) (k : Nat) (X : HProp) : PostC
  | .normal, _, _, H' => True ∧ Imp H' (X • J (k + 1))
  | .ret, _, _, H' => Code.ret ∈ jumps ∧ Imp H' (X • Jx .ret)
  | .exit id, _, _, H' => Code.exit id ∈ jumps ∧ Imp H' (X • Jx (.exit id))
  | .goto t, _, _, H' => Code.goto t ∈ jumps ∧ Imp H' (X • Jx (.goto t))
  | _, _, _, _ => False
/-- What is asked of the assignment to the loop's left sides, and behind it of the body. -/
def asQ (P : Program) (W : World) (T : Tab) (N : Nat) (L : Nat → Option (List Nat)) (bd : Code) (J : Nat → HProp) (Jx : Code → HProp) (jumps : List Code) (k : Nat) (X : HProp) : PostC
  | .normal, fr1, ds1, H1 => ds1 = [] ∧ ∃ E, Imp H1 (X • E) ∧ ∀ Y, exec P W T N L bd (roundQ J Jx jumps k Y) fr1 [] (Y • E)
  | _, _, _, _ => False

theorem Same.putObj {w : World} {r : Nat} {o : Obj} : Same w (w.putObj r o) := ⟨rfl, rfl, rfl, by simp⟩
theorem Sat.putObj {w : World} {r : Nat} {o : Obj} (h : Sat W (pts r o • R) w) (o' : Obj) : Sat W (pts r o' • R) (w.putObj r o') :=
  h.set o' Same.putObj (World.putObj_heap_same h.lt) fun _ hk => World.putObj_heap_other hk

theorem RangeK.introG (hT : T.ok P) {L : Nat → Option (List Nat)} {g : Operand} {ps : List Tmp} {as bd : Code} {fr : Fr} {ds : List Deferred} {Q : PostC} {gf : FuncId} {lb : List Value}
    (hg : fr.eval g = some (.func (.func gf) ⟨[]⟩ ⟨lb⟩)) (hcall : Callable P gf) (n : Nat) (encs : Nat → List Value) (hps : ∀ k, (encs k).length = ps.length) (hlt : ∀ p ∈ ps, p < N)
    (hpa : plainC as = true) (hpb : plainC bd = true) (J : Nat → HProp) (Jx : Code → HProp) (jumps : List Code) (F : HProp) (hH : Imp H (F • J 0)) (iter : IterSpec P W gf lb n encs F)
    (round : ∀ k, k < n → ∀ X w, Sat W (X • J k) w → ∃ G, Sat W (X • G) w ∧ exec P W T N L as (asQ P W T N L bd J Jx jumps k X) (bindF ps (encs k) fr) [] (X • G))
    (done : ∀ D w, Sat W (dfr D • F • J n) w → ∃ G, Sat W (dfr D • F • G) w ∧ Q .normal fr (markD D :: ds) (dfr D • F • G))
    (stop : ∀ D c w, c ∈ jumps → Sat W (dfr D • F • Jx c) w → ∃ G, Sat W (dfr D • F • G) w ∧ match c with
      | .ret => Q .ret fr (markD D :: ds) (dfr D • F • G)
      | .exit id => Q (.exit id) fr (markD D :: ds) (dfr D • F • G)
      | .goto t => Q (.goto t) fr (markD D :: ds) (dfr D • F • G)
      | _ => False) : RangeK P W N (.rangeFunc g ⟨ps⟩ as bd) fr ds H Q := by
  refine ⟨fun a w hrep hN hd hs => wpIn_rangeFunc ?_⟩
  intro fn hfn
  obtain ⟨rec, hrec⟩ : ∃ rec : LoopState → Option Code → Loop, rec = fun st pe => { state := st, pending := pe, fn, tmps := a.tmps, params := ⟨ps⟩, assign := as, body := bd, defers := w.heap.size } := ⟨_, rfl⟩
  obtain ⟨W1, hW1⟩ : ∃ W1, (w.alloc (.deferred (some []))).alloc (.loop (rec .ready none)) = W1 := ⟨_, rfl⟩
  obtain ⟨D, hD⟩ : ∃ D, D = w.heap.size := ⟨_, rfl⟩
  obtain ⟨l, hl⟩ : ∃ l, l = w.heap.size + 1 := ⟨_, rfl⟩
  have hs1 : Sat W (pts l (.loop (rec .ready none)) • dfr D • H) W1 := by
    have h1 := hs.alloc (.deferred (some []))
    have h2 := h1.alloc (.loop (rec .ready none))
    rw [← hW1, hl, hD]
    have h3 : w.heap.size + 1 = (w.heap.push (Obj.deferred (some []))).size := by simp
    rw [h3]
    exact h2
  have hev : a.eval g = .func (.func gf) ⟨[]⟩ ⟨lb⟩ := Fr.rep_eval hrep hg
  let pl : LoopState → Option Code → HProp := fun st pe => pts l (.loop (rec st pe))
  let J' : Nat → HProp := fun k => (pl .ready none • dfr D • J k)
  let Jx' : HProp := SL.ex fun c => (SL.pure (c ∈ jumps) • pl .done (some c) • dfr D • Jx c)
  have hyield : ∀ k, k < n → YieldK P W l (encs k) (F • J' k) (fun v H' => (v = .bool true ∧ Imp H' (F • J' (k + 1))) ∨ (v = .bool false ∧ Imp H' (F • Jx'))) (fun _ _ => False) := by
    intro k hk
    refine ⟨fun w1 hs1 => ?_⟩
    have hs2 : Sat W (pl .ready none • F • dfr D • J k) w1 := by rw [star_left_comm]; exact hs1
    have hrd := hs2.at
    have hy := run_yield (P := P) (args := ⟨encs k⟩) hrd (by rw [hrec]; simpa using hps k)
    refine ⟨_, _, _, _, hy, ?_⟩
    rw [hrec]
    refine roundIn_of_wpIn (F := Fence.wide) trivial ?_
    have hsx : Sat W ((F • pl .ready none • dfr D) • J k) w1 := by simpa only [star_assoc] using hs1
    have hrep' : (bindF ps (encs k) fr).rep ((((⟨ps⟩ : Array Tmp).zip ⟨encs k⟩).foldl (fun tmps (t, a) => tmps.setIfInBounds t a) a.tmps)) := by
      simpa using bindF_rep ps (encs k) fr a.tmps hrep (fun p hp => by rw [hN]; exact hlt p hp)
    have hsz : (((⟨ps⟩ : Array Tmp).zip ⟨encs k⟩).foldl (fun tmps (t, a) => tmps.setIfInBounds t a) a.tmps).size = N := by
      have := foldl_size (ps.zip (encs k)) a.tmps
      simp only [List.zip_toArray, List.foldl_toArray]
      rw [this]; exact hN
    obtain ⟨G0, hsg, hround⟩ := round k hk (F • pl .ready none • dfr D) w1 hsx
    refine wpIn_mono (exec_sound hT L as _ _ _ _ hround (some l) ⟨_, []⟩ w1 (.inr hpa) hrep' hsz rfl hsg) ?_
    rintro e a1 w2 ⟨fr1, H1, g1, g2, g3, g4⟩
    cases e with
    | normal =>
      obtain ⟨hds1, E, hi, hb⟩ := g4
      have hs3 : Sat W (pl .ready none • F • dfr D • E) w2 := by
        have := g3.imp hi
        simp only [star_assoc] at this
        rw [star_left_comm] at this
        exact this
      have hbr := run_beginRound (P := P) hs3.at (by rw [hrec])
      refine ⟨_, hbr, ?_⟩
      have hbusy : ({ rec .ready none with state := .busy } : Loop) = rec .busy none := by rw [hrec]
      rw [hbusy]
      have hs4 := hs3.putObj (.loop (rec .busy none))
      have hs5 : Sat W ((F • pl .busy none • dfr D) • E) (w2.putObj l (.loop (rec .busy none))) := by
        rw [star_assoc, star_assoc, star_left_comm]; exact hs4
      have a1d : a1.defers = [] := hds1
      refine wpIn_mono (exec_sound hT L bd _ _ _ _ (hb (F • pl .busy none • dfr D)) (some l) a1 _ (.inr hpb) g1 g2 a1d hs5) ?_
      have fin : ∀ (jump : Option Code) (G : HProp) (w3 : World), Sat W ((F • pl .busy none • dfr D) • G) w3 →
          (Instr.endRound l jump).run P w3 = .ok (.bool jump.isNone) (w3.putObj l (.loop (rec (if jump.isNone then .ready else .done) jump))) ∧
          Sat W (F • pl (if jump.isNone then .ready else .done) jump • dfr D • G) (w3.putObj l (.loop (rec (if jump.isNone then .ready else .done) jump))) := by
        intro jump G w3 hs6
        have hs7 : Sat W (pl .busy none • F • dfr D • G) w3 := by
          simp only [star_assoc] at hs6
          rw [star_left_comm] at hs6
          exact hs6
        have hr := run_endRound (P := P) jump hs7.at
        have he : ({ rec .busy none with state := if jump.isNone then .ready else .done, pending := jump } : Loop) = rec (if jump.isNone then .ready else .done) jump := by rw [hrec]
        rw [he] at hr
        refine ⟨hr, ?_⟩
        rw [star_left_comm]
        exact hs7.putObj _
      rintro e2 a2 w3 ⟨fr2, H2, k1, k2, k3, k4⟩
      cases e2 with
      | normal =>
        obtain ⟨hr, hs6⟩ := fin none (J (k + 1)) w3 (k3.imp k4.2)
        exact ⟨_, _, hr, _, hs6, .inl ⟨rfl, Imp.refl _⟩⟩
      | ret =>
        obtain ⟨hm, k4⟩ := k4
        obtain ⟨hr, hs6⟩ := fin (some .ret) (Jx .ret) w3 (k3.imp k4)
        exact ⟨_, _, hr, _, hs6, .inr ⟨rfl, Imp.right (Imp.ex Code.ret (Imp.pure hm (Imp.refl _)))⟩⟩
      | exit id =>
        obtain ⟨hm, k4⟩ := k4
        obtain ⟨hr, hs6⟩ := fin (some (.exit id)) (Jx (.exit id)) w3 (k3.imp k4)
        exact ⟨_, _, hr, _, hs6, .inr ⟨rfl, Imp.right (Imp.ex (Code.exit id) (Imp.pure hm (Imp.refl _)))⟩⟩
      | goto t =>
        obtain ⟨hm, k4⟩ := k4
        obtain ⟨hr, hs6⟩ := fin (some (.goto t)) (Jx (.goto t)) w3 (k3.imp k4)
        exact ⟨_, _, hr, _, hs6, .inr ⟨rfl, Imp.right (Imp.ex (Code.goto t) (Imp.pure hm (Imp.refl _)))⟩⟩
      | panic c => exact k4.elim
      | outgrown => exact k4.elim
    | exit id => exact g4.elim
    | goto t => exact g4.elim
    | ret => exact g4.elim
    | panic c => exact g4.elim
    | outgrown => exact g4.elim
  have hdoes := iter l J' Jx' hyield
  have hs2 : Sat W (F • J' 0) W1 := by
    have h3 : Sat W (pl .ready none • dfr D • F • J 0) W1 := hs1.imp (Imp.right (Imp.right hH))
    show Sat W (F • pl .ready none • dfr D • J 0) W1
    rw [star_left_comm F, star_left_comm F]
    exact h3
  refine ⟨l, [markD D], W1, { target := .fn (.func gf) ⟨lb⟩, args := #[.func (.yield l) #[] #[]] }, W1, gf, ⟨.func (.yield l) ⟨[]⟩ ⟨[]⟩ :: lb⟩, W1, ?_, ?_, fun _ _ => trivial, ?_, fun hh => (by cases hh), ?_⟩
  · rw [← hW1, hl, hD, hrec]; exact run_enterLoop_outer _ _ _ _ _
  · simp only [resolve, hev]
    simp [go_sem]
  · simp only [invoke]
    rw [hcall.h]
    simp
  · refine (callsIn_wide (n := 0 - 1)).2 ((hdoes.run W1 hs2).mono ?_)
    rintro e w3 ⟨H', hs3, v, G, rfl, hi, hG⟩
    have hs4 := hs3.imp hi
    rcases hG with rfl | rfl
    · have hs5 : Sat W (pl .ready none • F • dfr D • J n) w3 := by
        have : Sat W (F • pl .ready none • dfr D • J n) w3 := hs4
        rw [star_left_comm] at this; exact this
      have hend := run_endLoop (P := P) hs5.at (by rw [hrec]; simp)
      obtain ⟨X, hX⟩ : ∃ X : Loop, X = { rec .ready none with state := .exhausted } := ⟨_, rfl⟩
      rw [← hX, show (rec .ready none).pending = none by rw [hrec]] at hend
      refine ⟨_, _, hend, ?_⟩
      have hs8 : Sat W (dfr D • F • J n) (w3.putObj l (.loop X)) := by
        have h6 := (hs5.putObj (.loop X)).right
        rw [star_left_comm] at h6
        exact h6
      obtain ⟨G0, hsg, hdone⟩ := done D _ hs8
      exact ⟨fr, _, hrep, hN, hsg, by rw [← hd] at hdone; exact hdone⟩
    · have hs5 : Sat W (Jx' • F) w3 := by rw [star_comm]; exact hs4
      rw [show Jx' = _ from rfl, ex_star] at hs5
      obtain ⟨c, hs6⟩ := hs5.ex
      rw [star_assoc] at hs6
      obtain ⟨hc, hs7⟩ := hs6.pure
      rw [star_assoc] at hs7
      have hend := run_endLoop (P := P) hs7.at (by rw [hrec]; simp)
      obtain ⟨X, hX⟩ : ∃ X : Loop, X = { rec .done (some c) with state := .exhausted } := ⟨_, rfl⟩
      rw [← hX, show (rec .done (some c)).pending = some c by rw [hrec]] at hend
      refine ⟨_, _, hend, ?_⟩
      have hs8 : Sat W (dfr D • F • Jx c) (w3.putObj l (.loop X)) := by
        have h6 := (hs7.putObj (.loop X)).right
        rw [star_assoc, star_comm (Jx c) F] at h6
        exact h6
      obtain ⟨G0, hsg, hst⟩ := stop D c _ hc hs8
      cases c with
      | ret => exact wpIn_ret ⟨fr, _, hrep, hN, hsg, by rw [← hd] at hst; exact hst⟩
      | exit id => exact wpIn_exit ⟨fr, _, hrep, hN, hsg, by rw [← hd] at hst; exact hst⟩
      | goto t => exact wpIn_goto ⟨fr, _, hrep, hN, hsg, by rw [← hd] at hst; exact hst⟩
      | _ => exact hst.elim

/-- A chunk with a state of its own, and what is known of it. -/
def known {σ : Type} (φ : σ → Prop) (J : σ → HProp) : HProp := SL.ex fun s => SL.pure (φ s) • J s
theorem known_sat {σ : Type} {φ : σ → Prop} {J : σ → HProp} {X : HProp} {w : World} (h : Sat W (X • known φ J) w) : ∃ s, φ s ∧ Sat W (X • J s) w := by
  rw [star_comm, known, ex_star] at h
  obtain ⟨s, h⟩ := h.ex
  rw [star_assoc] at h
  obtain ⟨hp, h⟩ := h.pure
  rw [star_comm] at h
  exact ⟨s, hp, h⟩
theorem Imp.known {σ : Type} {φ : σ → Prop} {J : σ → HProp} (s : σ) (h : φ s) {G : HProp} (hi : Imp G (J s)) : Imp G (known φ J) := Imp.ex s (Imp.pure h hi)
/-- The loop, where what is known of its rounds is kept beside the heap. -/
theorem RangeK.intro (hT : T.ok P) {L : Nat → Option (List Nat)} {g : Operand} {ps : List Tmp} {as bd : Code} {fr : Fr} {ds : List Deferred} {Q : PostC} {gf : FuncId} {lb : List Value}
    (hg : fr.eval g = some (.func (.func gf) ⟨[]⟩ ⟨lb⟩)) (hcall : Callable P gf) (n : Nat) (encs : Nat → List Value) (hps : ∀ k, (encs k).length = ps.length) (hlt : ∀ p ∈ ps, p < N)
    (hpa : plainC as = true) (hpb : plainC bd = true) {σ τ : Type} (φ : Nat → σ → Prop) (J : Nat → σ → HProp) (ψ : Code → τ → Prop) (Jx : Code → τ → HProp) (jumps : List Code) (F : HProp) (s0 : σ) (h0 : φ 0 s0) (hH : Imp H (F • J 0 s0)) (iter : IterSpec P W gf lb n encs F)
    (round : ∀ k s, k < n → φ k s → ∀ X, exec P W T N L as (asQ P W T N L bd (fun k => known (φ k) (J k)) (fun c => known (ψ c) (Jx c)) jumps k X) (bindF ps (encs k) fr) [] (X • J k s))
    (done : ∀ D s, φ n s → Q .normal fr (markD D :: ds) (dfr D • F • J n s))
    (stop : ∀ D c s, c ∈ jumps → ψ c s → match c with
      | .ret => Q .ret fr (markD D :: ds) (dfr D • F • Jx .ret s)
      | .exit id => Q (.exit id) fr (markD D :: ds) (dfr D • F • Jx (.exit id) s)
      | .goto t => Q (.goto t) fr (markD D :: ds) (dfr D • F • Jx (.goto t) s)
      | _ => False) : RangeK P W N (.rangeFunc g ⟨ps⟩ as bd) fr ds H Q := by
  refine RangeK.introG (L := L) hT hg hcall n encs hps hlt hpa hpb (fun k => known (φ k) (J k)) (fun c => known (ψ c) (Jx c)) jumps F (Imp.trans hH (Imp.right (Imp.known s0 h0 (Imp.refl _)))) iter ?_ ?_ ?_
  · intro k hk X w hs
    obtain ⟨s, h1, h2⟩ := known_sat hs
    exact ⟨_, h2, round k s hk h1 X⟩
  · intro D w hs
    rw [← star_assoc] at hs
    obtain ⟨s, h1, h2⟩ := known_sat hs
    rw [star_assoc] at h2
    exact ⟨_, h2, done D s h1⟩
  · intro D c w hc hs
    rw [← star_assoc] at hs
    obtain ⟨s, h1, h2⟩ := known_sat hs
    rw [star_assoc] at h2
    have := stop D c s hc h1
    refine ⟨_, h2, ?_⟩
    cases c <;> exact this

/-- A function that leaves with a loop's mark. -/
theorem LeaveD.mark (hT : T.ok P) {rs : List ResultVar} {Rr : Ending → HProp → Prop} {fr : Fr} {D : Nat} [t : TkC H (dfr D) R]
    (h : resK W T fr R rs fun l => oneK l fun v => Rr (.returned v) R) : LeaveD P W rs Rr .returning fr [markD D] H := by
  refine ⟨fun fn tmps w hr hrep hs => ?_⟩
  rw [t.h.eq] at hs
  have htk := run_takeDeferred (P := P) hs.at
  have hs2 := (hs.putObj (.deferred none)).right
  obtain ⟨v, hv, hk⟩ := results_run hT hr hrep hs2 h
  refine ⟨by simp, .inl ⟨D, _, rfl, htk, ?_⟩⟩
  exact ⟨v, hv, R, hs2, hk⟩
/-- A call of a loop's body, by what is known of it. -/
theorem YieldK.use {l : Nat} {vs : List Value} {H0 : HProp} {K0 K : Value → HProp → Prop} {Kp : List PanicEntry → HProp → Prop} (h : YieldK P W l vs H0 K0 (fun _ _ => False)) (hi : Imp H H0)
    (k : ∀ v H', K0 v H' → ∃ H'', Imp H' H'' ∧ K v H'') : YieldK P W l vs H K Kp := by
  refine ⟨fun w hs => ?_⟩
  obtain ⟨f, tmps, as, bd, h1, h2⟩ := h.run w (hs.imp hi)
  refine ⟨f, tmps, as, bd, h1, h2.mono ?_⟩
  rintro e w' ⟨H', hs', hq⟩
  cases e with
  | returned v =>
    obtain ⟨H'', hi', hk⟩ := k v H' hq
    exact ⟨H'', hs'.imp hi', hk⟩
  | panicked c => exact hq.elim
  | outgrown => exact hq.elim
end
end Go.SL
