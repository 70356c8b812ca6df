/- Deferred calls that may recover; how a function leaves with them. No condition. -/
import Derived.Test.YtacpnjlijjgbmaaGreatDoorRange
import Derived.RecoverIn
namespace Go.SL
open Go

abbrev PostD := Exit → Fr → List Deferred → FrameMode → HProp → Prop
abbrev ContD := Fr → List Deferred → FrameMode → HProp → Prop
/-- A deferred call of a function, the frame below in this mode. -/
structure DDoes (P : Program) (W : World) (f : FuncId) (args : Array Value) (u : FrameMode) (H : HProp) (Q : Ending → FrameMode → HProp → Prop) : Prop where
  run : ∀ w, Sat W H w → CallsDIn Fence.wide 0 P f args u w fun e u' w' => ∃ H', Sat W H' w' ∧ Q e u' H'
/-- What recover answers, and the mode behind it. -/
def recK (u : FrameMode) (K : Value → FrameMode → Prop) : Prop := match u with
  | .panicking (⟨v, false, false⟩ :: older) => K v (.panicking (⟨v, true, false⟩ :: older))
  | .returning => K .nilIface .returning
  | _ => False
theorem recK_elim {u : FrameMode} {K : Value → FrameMode → Prop} (h : recK u K) (c₀ : Frame) (cs : List Frame) :
    (∃ v u', recoverD ({ c₀ with mode := u } :: cs) = some (v, { c₀ with mode := u' } :: cs) ∧ K v u') ∨ (recoverD ({ c₀ with mode := u } :: cs) = none ∧ K .nilIface u) := by
  unfold recK at h
  split at h
  · rename_i v older
    exact .inl ⟨v, _, rfl, h⟩
  · exact .inr ⟨rfl, h⟩
  · exact h.elim
def isRec : Op → Bool
  | .call ⟨.builtin .recover, _, _⟩ => true
  | _ => false
def hasRec : Code → Bool
  | .region _ ops _ => ops.toList.any fun o => isRec o.op
  | .seq a b => hasRec a || hasRec b
  | .cond _ a b => hasRec a || hasRec b
  | .block _ c => hasRec c
  | _ => false
def execOpsD (P : Program) (W : World) (T : Tab) (N : Nat) : List Oper → Fr → List Deferred → FrameMode → HProp → ContD → (List PanicEntry → Fr → List Deferred → FrameMode → HProp → Prop) → Prop
  | [], fr, ds, u, H, K, _ => K fr ds u H
  | o :: rest, fr, ds, u, H, K, Kp => match o.guard with
    | none => match isRec o.op with
      | true => recK u fun v u => putK N fr v (fun fr => execOpsD P W T N rest fr ds u H K Kp) o.dst
      | false => op1 P W T N o fr ds H (fun fr ds H => execOpsD P W T N rest fr ds u H K Kp) (fun c fr ds H => Kp c fr ds u H)
    | some _ => False
def execD (P : Program) (W : World) (T : Tab) (N : Nat) (L : Nat → Option (List Nat)) : Code → PostD → Fr → List Deferred → FrameMode → HProp → Prop
  | .region id ⟨l⟩ false, Q, fr, ds, u, H => execOpsD P W T N l fr ds u H (fun fr ds u H => keepO fr (L id) fun fr => Q .normal fr ds u H) fun c fr ds u H => Q (.panic c) fr ds u H
  | .seq a b, Q, fr, ds, u, H => execD P W T N L a (fun e fr ds u H => match e with
    | .normal => execD P W T N L b Q fr ds u H
    | e => Q e fr ds u H) fr ds u H
  | .cond (.tmp x) a b, Q, fr, ds, u, H => match fr.get x with
    | some (.bool t) => spl t (execD P W T N L a Q ((x, .bool true) :: fr) ds u H) (execD P W T N L b Q ((x, .bool false) :: fr) ds u H)
    | _ => False
  | .block id c, Q, fr, ds, u, H => execD P W T N L c (fun e fr ds u H => match e with
    | .exit j => match Nat.beq j id with
      | true => Q .normal fr ds u H
      | false => Q (.exit j) fr ds u H
    | e => Q e fr ds u H) fr ds u H
  | c, Q, fr, ds, u, H => exec P W T N L c (fun e fr ds H => Q e fr ds u H) fr ds H

def LiftS (W : World) (N : Nat) (c₀ : Frame) (cs₀ : List Frame) (Q : PostD) : Exit → Act → List Frame → World → Prop :=
  fun e a cs w => ∃ fr H u, fr.rep a.tmps ∧ a.tmps.size = N ∧ Sat W H w ∧ cs = { c₀ with mode := u } :: cs₀ ∧ Q e fr a.defers u H

section
variable {P : Program} {W : World} {T : Tab} {N : Nat}
theorem wpS_mono {c : Code} {Q Q' : Exit → Act → List Frame → World → Prop} {a : Act} {cs : List Frame} {w : World} (h : c.wpS P Q a cs w) (hq : ∀ e a cs w, Q e a cs w → Q' e a cs w) : c.wpS P Q' a cs w :=
  fun b k hb hr => let ⟨e, a', cs', w', q, r⟩ := h b k hb hr; ⟨e, a', cs', w', hq _ _ _ _ q, r⟩
def inBlockS (id : Nat) (Q : Exit → Act → List Frame → World → Prop) : Exit → Act → List Frame → World → Prop
  | .exit id', a, cs, w => if id' = id then Q .normal a cs w else Q (.exit id') a cs w
  | e, a, cs, w => Q e a cs w
theorem wpS_block {id : Nat} {c : Code} {Q : Exit → Act → List Frame → World → Prop} {a : Act} {cs : List Frame} {w : World} (h : c.wpS P (inBlockS id Q) a cs w) : (Code.block id c).wpS P Q a cs w := by
  intro b k hb hr
  obtain ⟨e, a₁, cs₁, w₁, hq, harr⟩ := h b (.inBlock id :: k) hb hr
  cases e with
  | normal => exact ⟨.normal, a₁, cs₁, w₁, hq, .head step_block (Steps.trans harr (.one step_inBlock))⟩
  | exit id' =>
    by_cases hid : id' = id
    · simp only [inBlockS, hid, if_true] at hq
      exact ⟨.normal, a₁, cs₁, w₁, hq, .head step_block (harr k (by simp [exitTo, hid]))⟩
    · simp only [inBlockS, hid, if_false] at hq
      refine ⟨.exit id', a₁, cs₁, w₁, hq, fun k' hk => .head step_block (harr k' ?_)⟩
      have : (id == id') = false := by simp; exact fun h => hid h.symm
      simp [exitTo, this, hk]
  | goto l => exact ⟨_, a₁, cs₁, w₁, hq, fun k' hk => .head step_block (harr k' (by simp [gotoIn, hk]))⟩
  | ret => exact ⟨_, a₁, cs₁, w₁, hq, .of_steps (.one step_block) harr⟩
  | panic ch => exact ⟨_, a₁, cs₁, w₁, hq, .of_steps (.one step_block) harr⟩
  | outgrown => exact ⟨_, a₁, cs₁, w₁, hq, .of_steps (b := b) (k := k) (cs := cs₁) (e := .outgrown) (.one step_block) harr⟩

theorem execOpsD_sound (hT : T.ok P) (all : List Oper) (c₀ : Frame) (cs₀ : List Frame) (Q : PostD) : ∀ (l : List Oper) (n : Nat) (fr : Fr) (ds : List Deferred) (u : FrameMode) (H : HProp), all.drop n = l →
    execOpsD P W T N l fr ds u H (fun fr ds u H => Q .normal fr ds u H) (fun c fr ds u H => Q (.panic c) fr ds u H) → ∀ (a : Act) (w : World), fr.rep a.tmps → a.tmps.size = N → a.defers = ds → Sat W H w →
      wpOpsS P ⟨all⟩ (LiftS W N c₀ cs₀ Q) ((List.range all.length).drop n) a ({ c₀ with mode := u } :: cs₀) w
  | [], n, fr, ds, u, H, hl, h, a, w, hrep, hN, hd, hs => by
    have : (List.range all.length).drop n = [] := by
      have := congrArg List.length hl
      simp at this
      exact List.drop_eq_nil_of_le (by simp; omega)
    rw [this]
    exact ⟨fr, H, u, hrep, hN, hs, rfl, hd ▸ h⟩
  | o :: rest, n, fr, ds, u, H, hl, h, a, w, hrep, hN, hd, hs => by
    have hn : n < all.length := by
      rcases Nat.lt_or_ge n all.length with h | h
      · exact h
      · rw [List.drop_eq_nil_of_le h] at hl; cases hl
    have ho : all[n]? = some o := by
      have := congrArg (fun l => l[0]?) hl
      simpa using this
    have hr : all.drop (n + 1) = rest := by
      have := congrArg List.tail hl
      simpa using this
    have hd' : (List.range all.length).drop n = n :: (List.range all.length).drop (n + 1) := by
      rw [List.drop_eq_getElem_cons (by simpa using hn)]
      simp
    rw [hd']
    have ho' : (⟨all⟩ : Array Oper)[n]? = some o := by simpa using ho
    have ih := fun fr ds u H => execOpsD_sound hT all c₀ cs₀ Q rest (n + 1) fr ds u H hr
    unfold execOpsD at h
    split at h
    · rename_i hg
      have hw : Region.wanted o (yielded (⟨all⟩ : Array Oper) a.tmps) = true := by simp [Region.wanted, hg]
      simp only [wpOpsS, ho', hw, if_true]
      split at h
      · rename_i hrec
        have hex : (execOp a.eval o).run P w = .ok .recover w := by
          obtain ⟨dst, op, ty, pos, after, guard⟩ := o
          simp only at hrec
          unfold isRec at hrec
          split at hrec
          · simp [execOp, resolve, invoke, builtin]
          · cases hrec
        simp only [hex]
        rcases recK_elim h c₀ cs₀ with ⟨v, u', h1, h2⟩ | ⟨h1, h2⟩
        · simp only [h1]
          obtain ⟨fr', g1, g2, g3, g4⟩ := putK_elim hN hrep h2
          exact ih _ _ _ _ g4 _ w g1 g2 (by rw [g3, hd]) hs
        · simp only [h1]
          obtain ⟨fr', g1, g2, g3, g4⟩ := putK_elim hN hrep h2
          exact ih _ _ _ _ g4 _ w g1 g2 (by rw [g3, hd]) hs
      · have key : o.wp P a w (fun a' w' => wpOpsS P ⟨all⟩ (LiftS W N c₀ cs₀ Q) ((List.range all.length).drop (n + 1)) a' ({ c₀ with mode := u } :: cs₀) w') (fun e a' w' => LiftS W N c₀ cs₀ Q e a' ({ c₀ with mode := u } :: cs₀) w') := by
          refine op1_sound hT hN hrep hd hs h ?_ ?_
          · intro a' w' fr' ds' H' h1 h2 h3 h4 h5
            exact ih _ _ _ _ h5 a' w' h1 h2 h3 h4
          · intro c w' H' h1 h2
            exact ⟨fr, H', u, hrep, hN, h1, rfl, hd ▸ h2⟩
        unfold Oper.wp at key
        split
        · rename_i w' hrr
          rw [hrr] at key
          exact key.elim
        · exact key
    · exact h.elim

theorem execD_sound (hT : T.ok P) (L : Nat → Option (List Nat)) (c₀ : Frame) (cs₀ : List Frame) : ∀ (c : Code) (Q : PostD) (fr : Fr) (ds : List Deferred) (u : FrameMode) (H : HProp), execD P W T N L c Q fr ds u H →
    ∀ (a : Act) (w : World), fr.rep a.tmps → a.tmps.size = N → a.defers = ds → Sat W H w → c.wpS P (LiftS W N c₀ cs₀ Q) a ({ c₀ with mode := u } :: cs₀) w := by
  have old : ∀ (c : Code) (Q : PostD) (fr : Fr) (ds : List Deferred) (u : FrameMode) (H : HProp), exec P W T N L c (fun e fr ds H => Q e fr ds u H) fr ds H →
      ∀ (a : Act) (w : World), fr.rep a.tmps → a.tmps.size = N → a.defers = ds → Sat W H w → c.wpS P (LiftS W N c₀ cs₀ Q) a ({ c₀ with mode := u } :: cs₀) w := by
    intro c Q fr ds u H h a w h1 h2 h3 h4
    refine wpS_of_wp (wp_mono (wpIn_wide.1 (exec_sound hT L c _ _ _ _ h none a w (.inl rfl) h1 h2 h3 h4)) ?_)
    rintro e a' w' ⟨fr', H', g1, g2, g3, g4⟩
    exact ⟨fr', H', u, g1, g2, g3, rfl, g4⟩
  intro c
  induction c with
  | region id ops draw =>
    intro Q fr ds u H h a w h1 h2 h3 h4
    obtain ⟨l⟩ := ops
    cases draw with
    | false =>
      have := execOpsD_sound hT l c₀ cs₀ (fun e fr ds u H => match e with | .normal => keepO fr (L id) fun fr => Q .normal fr ds u H | .panic c => Q (.panic c) fr ds u H | _ => False) l 0 fr ds u H rfl h a w h1 h2 h3 h4
      refine wpS_mono (wpS_region (by simpa using this)) ?_
      rintro e a' cs' w' ⟨fr', H', u', g1, g2, g3, rfl, g4⟩
      cases e with
      | normal =>
        obtain ⟨fr'', h5, h6⟩ := keepO_elim g1 g4
        exact ⟨fr'', H', u', h5, g2, g3, rfl, h6⟩
      | panic c => exact ⟨fr', H', u', g1, g2, g3, rfl, g4⟩
      | _ => exact g4.elim
    | true => exact old _ _ _ _ _ _ h a w h1 h2 h3 h4
  | seq x y ihx ihy =>
    intro Q fr ds u H h a w h1 h2 h3 h4
    refine wpS_seq (wpS_mono (ihx _ _ _ _ _ h a w h1 h2 h3 h4) ?_)
    rintro e a' cs' w' ⟨fr', H', u', g1, g2, g3, rfl, g4⟩
    cases e with
    | normal => exact ihy _ _ _ _ _ g4 a' w' g1 g2 rfl g3
    | _ => exact ⟨fr', H', u', g1, g2, g3, rfl, g4⟩
  | cond c x y ihx ihy =>
    intro Q fr ds u H h a w h1 h2 h3 h4
    cases c with
    | tmp z =>
      simp only [execD] at h
      split at h
      · rename_i t ht
        refine wpS_cond (c := .tmp z) (Fr.rep_eval h1 ht) ?_
        rcases spl_elim h with ⟨rfl, h⟩ | ⟨rfl, h⟩
        · exact ihx _ _ _ _ _ h a w (Fr.rep_cons h1 (h1 _ _ ht)) h2 h3 h4
        · exact ihy _ _ _ _ _ h a w (Fr.rep_cons h1 (h1 _ _ ht)) h2 h3 h4
      · exact h.elim
    | _ => exact old _ _ _ _ _ _ h a w h1 h2 h3 h4
  | block id c ih =>
    intro Q fr ds u H h a w h1 h2 h3 h4
    refine wpS_block (wpS_mono (ih _ _ _ _ _ h a w h1 h2 h3 h4) ?_)
    rintro e a' cs' w' ⟨fr', H', u', g1, g2, g3, rfl, g4⟩
    cases e with
    | exit j =>
      simp only at g4
      by_cases hj : j = id
      · subst hj
        simp only [inBlockS, if_true]
        have : Nat.beq j j = true := by simp
        rw [this] at g4
        exact ⟨fr', H', u', g1, g2, g3, rfl, g4⟩
      · simp only [inBlockS, if_neg hj]
        have : Nat.beq j id = false := by
          cases hb : Nat.beq j id with
          | false => rfl
          | true => exact absurd (Nat.eq_of_beq_eq_true hb) hj
        rw [this] at g4
        exact ⟨fr', H', u', g1, g2, g3, rfl, g4⟩
    | _ => exact ⟨fr', H', u', g1, g2, g3, rfl, g4⟩
  | _ => exact fun Q fr ds u H h a w h1 h2 h3 h4 => old _ _ _ _ _ _ h a w h1 h2 h3 h4

/-- What is asked at the end of a deferred function. -/
def bodyD (W : World) (T : Tab) (rs : List ResultVar) (R : Ending → FrameMode → HProp → Prop) : PostD
  | .normal, fr, [], u, H => resK W T fr H rs fun l => oneK l fun v => R (.returned v) u H
  | .ret, fr, [], u, H => resK W T fr H rs fun l => oneK l fun v => R (.returned v) u H
  | .panic c, _, [], u, H => R (.panicked c) u H
  | _, _, _, _, _ => False
/-- A deferred function's contract out of its code. -/
theorem DDoes.of_exec (hT : T.ok P) {f : FuncId} {fn : Func} {c : Code} {args : List Value} {u : FrameMode} {H : HProp} {R : Ending → FrameMode → HProp → Prop} {rs : List ResultVar}
    (L : Nat → Option (List Nat)) (hf : P.funcs[f]? = some fn) (hb : fn.body = some c) (hr : fn.results = ⟨rs⟩) (hN : fn.ntmps = N) (hle : args.length ≤ N)
    (h : execD P W T N L c (bodyD W T rs R) (argFr 0 args) [] u H) : DDoes P W f ⟨args⟩ u H R := by
  refine ⟨fun w hs => ⟨trivial, fun c₀ cs hu _ => ?_⟩⟩
  let b : Frame := { (default : Frame) with fn := f, kind := .deferred }
  have henter : Frame.enter P f ⟨args⟩ .deferred = b.at { tmps := ⟨args⟩ ++ Array.replicate (fn.ntmps - args.length) undef, defers := [] } [.code c] := by
    simp [Frame.enter, Frame.at, hf, hb, b]
  have hrep : (argFr 0 args).rep (⟨args⟩ ++ Array.replicate (fn.ntmps - args.length) undef : Array Value) := by
    refine argFr_rep _ _ _ fun i v hv => ?_
    have hi : i < args.length := by
      rcases Nat.lt_or_ge i args.length with h | h
      · exact h
      · simp [List.getElem?_eq_none h] at hv
    rw [Array.getElem?_append_left (by simpa using hi)]
    simpa using hv
  have hc0 : c₀ = { c₀ with mode := u } := by subst hu; rfl
  obtain ⟨e, a', cs', w', ⟨fr, H', u', g1, g2, g3, rfl, g4⟩, harr⟩ := execD_sound hT L c₀ cs c _ _ _ _ _ h { tmps := ⟨args⟩ ++ Array.replicate (fn.ntmps - args.length) undef, defers := [] } w hrep (by simp [hN]; omega) rfl hs b [] rfl rfl
  rw [← henter, ← hc0] at harr
  have res : resK W T fr H' rs (fun l => oneK l fun v => R (.returned v) u' H') → ∃ v, (results fn a'.tmps).run P w' = .ok v w' ∧ R (.returned v) u' H' := fun h => results_run hT hr g1 g3 h
  cases e with
  | normal =>
    cases hd : a'.defers with
    | nil =>
      rw [hd] at g4
      obtain ⟨v, hv, hk⟩ := res g4
      exact ⟨.returned v, u', w', _, ⟨H', g3, hk⟩, stepsIn_wide.2 (Steps.trans harr (.one step_end)), rfl, rfl, rfl, hd, fn, hf, hv⟩
    | cons d ds => rw [hd] at g4; exact g4.elim
  | ret =>
    cases hd : a'.defers with
    | nil =>
      rw [hd] at g4
      obtain ⟨v, hv, hk⟩ := res g4
      obtain ⟨todo, hs'⟩ := harr
      exact ⟨.returned v, u', w', _, ⟨H', g3, hk⟩, stepsIn_wide.2 hs', rfl, rfl, rfl, hd, fn, hf, hv⟩
    | cons d ds => rw [hd] at g4; exact g4.elim
  | panic chain =>
    cases hd : a'.defers with
    | nil =>
      rw [hd] at g4
      obtain ⟨todo, hs'⟩ := harr
      exact ⟨.panicked chain, u', w', _, ⟨H', g3, g4⟩, stepsIn_wide.2 hs', rfl, rfl, rfl, hd, fn, hf⟩
    | cons d ds => rw [hd] at g4; exact g4.elim
  | exit id => cases hd : a'.defers <;> (rw [hd] at g4; exact g4.elim)
  | goto l => cases hd : a'.defers <;> (rw [hd] at g4; exact g4.elim)
  | outgrown => cases hd : a'.defers <;> (rw [hd] at g4; exact g4.elim)

theorem callsD_mono {n : Nat} {f : FuncId} {args : Array Value} {u : FrameMode} {w : World} {R R' : Ending → FrameMode → World → Prop} (h : CallsDIn Fence.wide n P f args u w R) (hq : ∀ e u w, R e u w → R' e u w) : CallsDIn Fence.wide n P f args u w R' :=
  ⟨h.1, fun c cs hc hr => let ⟨e, u', w', fr, h1, h2⟩ := h.2 c cs hc hr; ⟨e, u', w', fr, hq _ _ _ h1, h2⟩⟩
/-- What a function still has to do on its way out. -/
def leaveK (P : Program) (W : World) (T : Tab) (rs : List ResultVar) (R : Ending → HProp → Prop) (fr : Fr) : List Deferred → FrameMode → HProp → Prop
  | [], .returning, H => resK W T fr H rs fun l => oneK l fun v => R (.returned v) H
  | [], .panicking c, H => R (.panicked c) H
  | [], .run, _ => False
  | d :: ds, u, H => LeaveD P W rs R u fr (d :: ds) H
theorem leaveK_elim (hT : T.ok P) {rs : List ResultVar} {R : Ending → HProp → Prop} {fr : Fr} {ds : List Deferred} {u : FrameMode} {H : HProp} (h : leaveK P W T rs R fr ds u H) {fn : Func} {tmps : Array Value} {w : World}
    (hr : fn.results = ⟨rs⟩) (hrep : fr.rep tmps) (hs : Sat W H w) : LeavesInM Fence.wide 0 P fn tmps (fun e w' => ∃ H', Sat W H' w' ∧ R e H') ds u w := by
  cases ds with
  | nil =>
    cases u with
    | returning =>
      obtain ⟨v, hv, hk⟩ := results_run hT hr hrep hs h
      exact ⟨v, hv, H, hs, hk⟩
    | panicking c => exact ⟨H, hs, h⟩
    | run => exact h.elim
  | cons d ds => exact h.run fn tmps w hr hrep hs
/-- A function that leaves with a deferred call. -/
theorem LeaveD.call (hT : T.ok P) {rs : List ResultVar} {R : Ending → HProp → Prop} {u : FrameMode} {fr : Fr} {ds : List Deferred} {H : HProp} {g : FuncId} {first cap : List Value} {Q : Ending → FrameMode → HProp → Prop}
    (hu : u ≠ .run) (ok : Callable P g) (h : DDoes P W g ⟨first ++ cap⟩ u H Q)
    (k : ∀ e u' H', Q e u' H' → match e with
      | .returned _ => leaveK P W T rs R fr ds (settle u') H'
      | .panicked c => leaveK P W T rs R fr ds (raised u' c) H'
      | .outgrown => False) : LeaveD P W rs R u fr ({ target := .fn (.func g) ⟨cap⟩, args := ⟨first⟩ } :: ds) H := by
  refine ⟨fun fn tmps w hr hrep hs => ⟨hu, .inr ⟨fun hh => (by cases hh), .func g, ⟨cap⟩, g, ⟨first ++ cap⟩, rfl, ?_, fun _ _ => trivial, ?_⟩⟩⟩
  · simp only [invoke]
    rw [ok.h]
    simp
  · refine callsD_mono (h.run w hs) ?_
    rintro e u' w' ⟨H', hs', hq⟩
    have hk := k e u' H' hq
    cases e with
    | returned v => exact leaveK_elim hT hk hr hrep hs'
    | panicked c => exact leaveK_elim hT hk hr hrep hs'
    | outgrown => exact hk.elim
theorem DDoes.imp {f : FuncId} {args : Array Value} {u : FrameMode} {H H' : HProp} {Q : Ending → FrameMode → HProp → Prop} (e : Imp H H') (h : DDoes P W f args u H' Q) : DDoes P W f args u H Q := ⟨fun w hs => h.run w (hs.imp e)⟩
/-- The deferred call returns, with such a value, mode and heap. -/
def RetD (post : Value → FrameMode → HProp → Prop) (e : Ending) (u : FrameMode) (H : HProp) : Prop := ∃ v G, e = .returned v ∧ Imp H G ∧ post v u G
theorem RetD.eq {A v : Value} {B H : HProp} {u u' : FrameMode} (hv : v = A) (hu : u = u') (hi : Imp H B) : RetD (fun v u G => v = A ∧ u = u' ∧ G = B) (.returned v) u H := ⟨v, B, rfl, hi, hv, hu, rfl⟩
theorem LeaveD.ret (hT : T.ok P) {rs : List ResultVar} {R : Ending → HProp → Prop} {u : FrameMode} {fr : Fr} {ds : List Deferred} {H : HProp} {g : FuncId} {first cap : List Value} {post : Value → FrameMode → HProp → Prop}
    (hu : u ≠ .run) (ok : Callable P g) (h : DDoes P W g ⟨first ++ cap⟩ u H (RetD post))
    (k : ∀ v u' G, post v u' G → leaveK P W T rs R fr ds (settle u') G) : LeaveD P W rs R u fr ({ target := .fn (.func g) ⟨cap⟩, args := ⟨first⟩ } :: ds) H := by
  refine LeaveD.call hT hu ok (Q := fun e u' H' => ∃ v, e = .returned v ∧ post v u' H') ⟨fun w hs => ⟨(h.run w hs).1, fun c cs hc hr => ?_⟩⟩ ?_
  · obtain ⟨e, u', w', fr, ⟨H', hs', v, G, he, hi, hp⟩, h2⟩ := (h.run w hs).2 c cs hc hr
    exact ⟨e, u', w', fr, ⟨G, hs'.imp hi, v, he, hp⟩, h2⟩
  · rintro e u' H' ⟨v, rfl, hp⟩
    exact k v u' H' hp
/-- The call panics, with such a chain and such a heap. -/
def Thr (post : List PanicEntry → HProp → Prop) (e : Ending) (H : HProp) : Prop := ∃ c G, e = .panicked c ∧ Imp H G ∧ post c G
theorem Thr.eq {A c : List PanicEntry} {B H : HProp} (hv : c = A) (hi : Imp H B) : Thr (fun c G => c = A ∧ G = B) (.panicked c) H := ⟨c, B, rfl, hi, hv, rfl⟩
theorem CallK.thr {f : FuncId} {args : List Value} {H : HProp} {K : Value → HProp → Prop} {Kp : List PanicEntry → HProp → Prop} {post : List PanicEntry → HProp → Prop}
    (ok : Callable P f) (h : Does P W f ⟨args⟩ H (Thr post)) (k : ∀ c G, post c G → Kp c G) : CallK P W f args H K Kp :=
  ⟨.inl ⟨ok, ⟨fun w hs => (h.run w hs).mono fun e w' ⟨H', hs', c, G, he, hent, hp⟩ => ⟨G, hs'.imp hent, by subst he; exact k c G hp⟩⟩⟩⟩
/-- One panic, not recovered. -/
abbrev pan (v : Value) : List PanicEntry := [{ v := v, recovered := false }]
end
end Go.SL
