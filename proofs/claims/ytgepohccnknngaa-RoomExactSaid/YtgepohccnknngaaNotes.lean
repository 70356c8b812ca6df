/- The statements' own list: a call that was answered goes into it. No condition. -/
import Derived.Test.YtgepohccnknngaaBook
namespace Go.Proofs.Ytgepohccnknngaa
open Go Go.SL
set_option pp.maxSteps 400

def notesB (B : List BTx) (o : OpV) : List BTx :=
  if o.kind = 1 then B ++ [⟨o.tx, [], false, false⟩]
  else match posN o.tx (B.map (·.num)) with
    | none => B
    | some i => match B[i]? with
      | none => B
      | some t =>
        if o.kind = 2 then (match posN o.counter t.cs with
          | none => B.set i ⟨t.num, t.cs ++ [o.counter], t.com, t.und⟩
          | some _ => B)
        else if o.kind = 3 then
          if o.what = 5 then B.set i ⟨t.num, t.cs, true, t.und⟩
          else if o.what = 6 then B.set i ⟨t.num, t.cs, t.com, true⟩
          else if o.what = 4 then (match posN o.counter t.cs with
            | none => B
            | some k => B.set i ⟨t.num, t.cs.eraseIdx k, t.com, t.und⟩)
          else if o.what = 7 then B.eraseIdx i
          else B
        else B

theorem Sub.of {W : World} {H A : HProp} (h : Imp H A) : Sub W H A := fun _ hs => hs.imp h

theorem Imp.newrow {α : Type} {f : α → HProp} {x : α} {R : HProp} (h : Imp emp (f x)) : Imp R (bigL f [x] • R) := by
  have := h.left (Q := R)
  rw [emp_star] at this
  simpa [bigL, star_assoc, star_emp, emp_star] using this
theorem btx_one (ys : List BRow) : ∀ v ∈ ys.flatMap btx, v.oneCell' = true := by
  intro v hv
  obtain ⟨z, _, hz⟩ := List.mem_flatMap.1 hv
  simp only [btx, List.mem_cons, List.not_mem_nil, or_false] at hz
  rcases hz with rfl | rfl | rfl | rfl <;> rfl
theorem notes_spec {W : World} {H R : HProp} {b : Nat} {B : List BTx} {o : OpV} (ht : Take H (bookc b B) R) (hlen : B.length ≤ 4000) (hcs : ∀ t ∈ B, t.cs.length ≤ 4000) :
    Does prog W f_quotalaw15_Book_notes ⟨[ptr b, .agg ⟨opv o⟩]⟩ H (Ret fun _ G => G = (bookc b (notesB B o) • R)) := by
  unfold opv
  refine book_open ht fun sa sc l hB => ?_
  have hl : l.length = B.length := by rw [← hB]; simp
  have hnums : (B.map (·.num)) = l.map fun r => r.1.num := by rw [← hB]; simp [Function.comp_def]
  by_cases k1 : o.kind = 1
  · have e : notesB B o = B ++ [⟨o.tx, [], false, false⟩] := by simp [notesB, k1]
    rw [e]
    refine f_quotalaw15_Book_notes.does _ _ ?_
    conv => whnf
    intro ob hob
    conv => whnf
    refine Ld.i ?_
    conv => whnf
    refine CallK.ret f_quotalaw15_Book_at.ok (at_spec (by omega)) ?_
    rintro v G ⟨rfl, rfl⟩
    conv => whnf
    refine Ld.i ?_
    conv => whnf
    refine spl_t (by simp [k1]) ?_
    conv => whnf
    refine DrawK.intro tab_ok mixed f_quotalaw15_Book_notes.last3 f_quotalaw15_Book_notes.plan3 (pts ob (.cells ⟨[.int .i64 o.kind, .bool o.two, .int .i64 o.tx, .int .i64 o.counter, .int .i64 o.what, .int .i64 o.free, .int .i64 o.more]⟩ t_quotalaw15_Op) • pts b (.cells ⟨[.slice sa l.length sc]⟩ t_quotalaw15_Book) • emp) (by kernel_rfl) (Sub.of (Imp.pick (Imp.pick (Imp.emp _)))) ?_
    conv => whnf
    refine Ld.i ?_
    conv => whnf
    refine Ld.i ?_
    conv => whnf
    intro bl hbl
    refine ⟨Sub.of (Imp.pick (Imp.pick (Imp.emp _))), ?_⟩
    conv => whnf
    refine OpX.app1 (enc := btx) tab_ok rfl rfl rfl rfl (⟨⟨o.tx, [], false, false⟩, none, 0⟩ : BRow) rfl rfl (by omega) ⟨rfl, btx_one⟩ fun a' cap' => ?_
    conv => whnf
    refine ⟨Sub.of (Imp.pick (Imp.pick (Imp.emp _))), ?_⟩
    conv => whnf
    refine St.i ⟨rfl, rfl⟩ (by simp) ?_
    conv => whnf
    refine ⟨_, _, rfl, book_shut a' cap' (l ++ [(⟨⟨o.tx, [], false, false⟩, none, 0⟩ : BRow)]) (by simp [hB]) ?_, rfl⟩
    rw [bigL_append]
    have hnil : Imp emp (bcs (⟨⟨o.tx, [], false, false⟩, none, 0⟩ : BRow)) := vec_nil.imp
    simp only [List.length_append, List.length_cons, List.length_nil]
    refine Imp.pick (Imp.pick (Imp.assoc (Imp.pick ?_)))
    exact Imp.drop.trans (Imp.drop.trans (Imp.newrow hnil))
  cases hp : posN o.tx (B.map (·.num)) with
  | none =>
    have e : notesB B o = B := by simp [notesB, k1, hp]
    rw [e]
    refine f_quotalaw15_Book_notes.does _ _ ?_
    conv => whnf
    intro ob hob
    conv => whnf
    refine Ld.i ?_
    conv => whnf
    refine CallK.ret f_quotalaw15_Book_at.ok (at_spec (by omega)) ?_
    rintro v G ⟨rfl, rfl⟩
    rw [← hnums, posI_no hp]
    conv => whnf
    refine Ld.i ?_
    conv => whnf
    refine spl_f (by simp [k1]) ?_
    conv => whnf
    exact ⟨_, _, rfl, (book_shut sa sc l hB Imp.drop), rfl⟩
  | some i =>
    obtain ⟨x, hx⟩ : ∃ x, l[i]? = some x := by
      have := posN_some hp
      rw [hnums, List.getElem?_map] at this
      exact (Option.map_eq_some_iff.1 this).imp fun _ h => h.1
    have hil : i < l.length := by
      rcases Nat.lt_or_ge i l.length with h | h
      · exact h
      · simp [List.getElem?_eq_none h] at hx
    have hBi : B[i]? = some x.1 := by rw [← hB, List.getElem?_map, hx]; rfl
    have hcx : x.1.cs.length ≤ 4000 := hcs x.1 (List.mem_of_getElem? hBi)
    have hset : ∀ t : BTx, ∀ q : Option Addr × Nat, (l.set i (t, q)).map (·.1) = B.set i t := fun t q => by rw [List.map_set, hB]
    rw [show bigL bcs l = _ from bigL_take bcs l i x hx]
    obtain ⟨⟨num, cs, com, und⟩, ca, cc⟩ := x
    simp only at hcx hBi
    refine Does.imp (H' := pts b (.cells ⟨[.slice sa l.length sc]⟩ t_quotalaw15_Book) • vec t_quotalaw15_Tx 4 btx sa sc l • vec t_int 1 ints ca cc cs • bigL bcs (l.eraseIdx i) • R) (Imp.pick (Imp.pick (by rw [star_assoc]; exact Imp.refl _))) ?_
    have same : ∀ {H}, Imp H (pts b (.cells ⟨[.slice sa l.length sc]⟩ t_quotalaw15_Book) • vec t_quotalaw15_Tx 4 btx sa sc l • vec t_int 1 ints ca cc cs • bigL bcs (l.eraseIdx i) • R) → Imp H (bookc b B • R) := fun hi => by
      refine book_shut sa sc l hB (hi.trans ?_)
      rw [show bigL bcs l = _ from bigL_take bcs l i _ hx]
      exact Imp.pick (Imp.pick (Imp.assoc (Imp.refl _)))
    have shut : ∀ (t : BTx) (a' : Option Addr) (cap' : Nat) {H}, Imp H (pts b (.cells ⟨[.slice sa l.length sc]⟩ t_quotalaw15_Book) • vec t_quotalaw15_Tx 4 btx sa sc (l.set i (t, a', cap')) • vec t_int 1 ints a' cap' t.cs • bigL bcs (l.eraseIdx i) • R) → Imp H (bookc b (B.set i t) • R) := fun t a' cap' _ hi => by
      refine book_shut sa sc (l.set i (t, a', cap')) (hset t _) (hi.trans ?_)
      rw [show bigL bcs (l.set i (t, a', cap')) = _ from bigL_set bcs (t, a', cap') l i _ hx, List.length_set]
      exact Imp.pick (Imp.pick (Imp.assoc (Imp.refl _)))
    refine Does.learn (p := l.length ≤ sc) (fun w hs => ?_) fun hcap => ?_
    · exact vec_len hs.right
    refine f_quotalaw15_Book_notes.does _ _ ?_
    conv => whnf
    intro ob hob
    conv => whnf
    refine Ld.i ?_
    conv => whnf
    refine CallK.ret f_quotalaw15_Book_at.ok (at_spec (by omega)) ?_
    rintro v G ⟨rfl, rfl⟩
    rw [← hnums, posI_of hp]
    conv => whnf
    refine Ld.i ?_
    conv => whnf
    refine spl_f (by simp [k1]) ?_
    conv => whnf
    refine DrawK.intro tab_ok mixed f_quotalaw15_Book_notes.last5 f_quotalaw15_Book_notes.plan5 (pts ob (.cells ⟨[.int .i64 o.kind, .bool o.two, .int .i64 o.tx, .int .i64 o.counter, .int .i64 o.what, .int .i64 o.free, .int .i64 o.more]⟩ t_quotalaw15_Op) • pts b (.cells ⟨[.slice sa l.length sc]⟩ t_quotalaw15_Book) • vec t_quotalaw15_Tx 4 btx sa sc l • emp) (by kernel_rfl) (Sub.of (Imp.pick (Imp.pick (Imp.pick (Imp.emp _))))) ?_
    conv => whnf
    refine Ld.i ?_
    conv => whnf
    by_cases k2 : o.kind = 2
    case pos =>
      refine spl_t (by simp [k2]) ?_
      conv => whnf
      refine Ld.i ?_
      conv => whnf
      refine IxS.v (i := i) rfl rfl hil (fun ab off ha => ?_)
      conv => whnf
      subst ha
      conv => whnf
      refine Ld.v hx rfl ?_
      conv => whnf
      refine Ld.i ?_
      conv => whnf
      refine CallK.ret f_quotalaw15_place.ok (place_spec (.there (.there (.there .here))) rfl (by omega)) ?_
      rintro v G ⟨rfl, rfl⟩
      conv => whnf
      refine ⟨Sub.of (Imp.pick (Imp.pick (Imp.pick (Imp.emp _)))), ?_⟩
      conv => whnf
      cases hq : posN o.counter cs with
      | some j =>
        have e : notesB B o = B := by simp [notesB, k2, hp, hBi, hq]
        rw [e, posI_of hq]
        conv => whnf
        refine Ld.i ?_
        conv => whnf
        refine spl_f (by simp [k2]) ?_
        conv => whnf
        refine Ld.i ?_
        conv => whnf
        refine spl_f (by simp [k2]) ?_
        conv => whnf
        refine Ld.i ?_
        conv => whnf
        refine spl_f (by simp [k2]) ?_
        conv => whnf
        refine Ld.i ?_
        conv => whnf
        refine spl_f (by simp [k2]) ?_
        conv => whnf
        exact ⟨_, _, rfl, same Imp.drop, rfl⟩
      | none =>
        have e : notesB B o = B.set i ⟨num, cs ++ [o.counter], com, und⟩ := by simp [notesB, k2, hp, hBi, hq]
        rw [e, posI_no hq]
        conv => whnf
        refine DrawK.intro tab_ok mixed f_quotalaw15_Book_notes.last6 f_quotalaw15_Book_notes.plan6 (pts ob (.cells ⟨[.int .i64 o.kind, .bool o.two, .int .i64 o.tx, .int .i64 o.counter, .int .i64 o.what, .int .i64 o.free, .int .i64 o.more]⟩ t_quotalaw15_Op) • pts b (.cells ⟨[.slice (some ⟨ab, off, none⟩) l.length sc]⟩ t_quotalaw15_Book) • vec t_quotalaw15_Tx 4 btx (some ⟨ab, off, none⟩) sc l • emp) (by kernel_rfl) (Sub.of (Imp.pick (Imp.pick (Imp.pick (Imp.emp _))))) ?_
        conv => whnf
        refine Ld.i ?_
        conv => whnf
        refine Ld.i ?_
        conv => whnf
        refine IxS.v (i := i) rfl rfl hil (fun ab' off' ha => ?_)
        conv => whnf
        cases ha
        conv => whnf
        refine Ld.v hx rfl ?_
        conv => whnf
        refine Ld.i ?_
        conv => whnf
        intro bl hbl
        conv => whnf
        refine ⟨Sub.of (Imp.pick (Imp.pick (Imp.pick (Imp.emp _)))), ?_⟩
        conv => whnf
        refine OpX.app1 (a := ca) (enc := ints) tab_ok rfl rfl rfl rfl o.counter rfl rfl (by simp only; omega) ⟨rfl, ints_one⟩ fun a' cap' => ?_
        conv => whnf
        refine ⟨Sub.of (Imp.pick (Imp.pick (Imp.pick (Imp.emp _)))), ?_⟩
        conv => whnf
        refine IxS.v (i := i) rfl rfl hil (fun ab' off' ha => ?_)
        conv => whnf
        cases ha
        conv => whnf
        refine St.v hx (⟨num, cs ++ [o.counter], com, und⟩, a', cap') (by simp [btx]) (by simp) ⟨rfl, rfl⟩ ?_
        conv => whnf
        exact ⟨_, _, rfl, shut ⟨num, cs ++ [o.counter], com, und⟩ a' cap' (Imp.pick (Imp.pick (Imp.pick (Imp.pick (Imp.drop.trans (Imp.drop.trans (Imp.refl _))))))), rfl⟩
    refine spl_f (by simp [k2]) ?_
    conv => whnf
    by_cases k3 : o.kind = 3
    case neg =>
      have e : notesB B o = B := by simp [notesB, k1, k2, k3, hp, hBi]
      rw [e]
      refine Ld.i ?_
      conv => whnf
      refine spl_f (by simp [k3]) ?_
      conv => whnf
      refine Ld.i ?_
      conv => whnf
      refine spl_f (by simp [k3]) ?_
      conv => whnf
      refine Ld.i ?_
      conv => whnf
      refine spl_f (by simp [k3]) ?_
      conv => whnf
      refine Ld.i ?_
      conv => whnf
      refine spl_f (by simp [k3]) ?_
      conv => whnf
      exact ⟨_, _, rfl, same Imp.drop, rfl⟩
    by_cases w5 : o.what = 5
    case pos =>
      have e : notesB B o = B.set i ⟨num, cs, true, und⟩ := by simp [notesB, k3, hp, hBi, w5]
      rw [e]
      refine Ld.i ?_
      conv => whnf
      refine spl_t (by simp [k3]) ?_
      conv => whnf
      refine Ld.i ?_
      conv => whnf
      refine spl_t (by simp [w5]) ?_
      conv => whnf
      refine Ld.i ?_
      conv => whnf
      refine IxS.v (i := i) rfl rfl hil (fun ab off ha => ?_)
      conv => whnf
      subst ha
      conv => whnf
      refine St.v hx (⟨num, cs, true, und⟩, ca, cc) (by simp [btx]) (by simp) ⟨rfl, rfl⟩ ?_
      conv => whnf
      exact ⟨_, _, rfl, shut ⟨num, cs, true, und⟩ ca cc (Imp.pick (Imp.pick (Imp.pick (Imp.pick (Imp.drop.trans (Imp.refl _)))))), rfl⟩
    refine Ld.i ?_
    conv => whnf
    refine spl_t (by simp [k3]) ?_
    conv => whnf
    refine Ld.i ?_
    conv => whnf
    refine spl_f (by simp [w5]) ?_
    conv => whnf
    by_cases w6 : o.what = 6
    case pos =>
      have e : notesB B o = B.set i ⟨num, cs, com, true⟩ := by simp [notesB, k3, hp, hBi, w6]
      rw [e]
      refine Ld.i ?_
      conv => whnf
      refine spl_t (by simp [k3]) ?_
      conv => whnf
      refine Ld.i ?_
      conv => whnf
      refine spl_t (by simp [w6]) ?_
      conv => whnf
      refine Ld.i ?_
      conv => whnf
      refine IxS.v (i := i) rfl rfl hil (fun ab off ha => ?_)
      conv => whnf
      subst ha
      conv => whnf
      refine St.v hx (⟨num, cs, com, true⟩, ca, cc) (by simp [btx]) (by simp) ⟨rfl, rfl⟩ ?_
      conv => whnf
      exact ⟨_, _, rfl, shut ⟨num, cs, com, true⟩ ca cc (Imp.pick (Imp.pick (Imp.pick (Imp.pick (Imp.drop.trans (Imp.refl _)))))), rfl⟩
    refine Ld.i ?_
    conv => whnf
    refine spl_t (by simp [k3]) ?_
    conv => whnf
    refine Ld.i ?_
    conv => whnf
    refine spl_f (by simp [w6]) ?_
    conv => whnf
    by_cases w4 : o.what = 4
    case pos =>
      refine Ld.i ?_
      conv => whnf
      refine spl_t (by simp [k3]) ?_
      conv => whnf
      refine Ld.i ?_
      conv => whnf
      refine spl_t (by simp [w4]) ?_
      conv => whnf
      refine DrawK.intro tab_ok mixed f_quotalaw15_Book_notes.last12 f_quotalaw15_Book_notes.plan12 (pts ob (.cells ⟨[.int .i64 o.kind, .bool o.two, .int .i64 o.tx, .int .i64 o.counter, .int .i64 o.what, .int .i64 o.free, .int .i64 o.more]⟩ t_quotalaw15_Op) • pts b (.cells ⟨[.slice sa l.length sc]⟩ t_quotalaw15_Book) • vec t_quotalaw15_Tx 4 btx sa sc l • emp) (by kernel_rfl) (Sub.of (Imp.pick (Imp.pick (Imp.pick (Imp.emp _))))) ?_
      conv => whnf
      refine Ld.i ?_
      conv => whnf
      refine IxS.v (i := i) rfl rfl hil (fun ab off ha => ?_)
      conv => whnf
      subst ha
      conv => whnf
      refine Ld.v hx rfl ?_
      conv => whnf
      refine Ld.i ?_
      conv => whnf
      refine CallK.ret f_quotalaw15_place.ok (place_spec (.there (.there (.there .here))) rfl (by omega)) ?_
      rintro v G ⟨rfl, rfl⟩
      conv => whnf
      refine ⟨Sub.of (Imp.pick (Imp.pick (Imp.pick (Imp.emp _)))), ?_⟩
      conv => whnf
      cases hq : posN o.counter cs with
      | none =>
        have e : notesB B o = B := by simp [notesB, k3, hp, hBi, w4, hq]
        rw [e, posI_no hq]
        conv => whnf
        exact ⟨_, _, rfl, same Imp.drop, rfl⟩
      | some j =>
        have e : notesB B o = B.set i ⟨num, cs.eraseIdx j, com, und⟩ := by simp [notesB, k3, hp, hBi, w4, hq]
        rw [e, posI_of hq]
        have hj : j < cs.length := by
          have := posN_some hq
          rcases Nat.lt_or_ge j cs.length with h | h
          · exact h
          · simp [List.getElem?_eq_none h] at this
        conv => whnf
        refine DrawK.intro tab_ok mixed f_quotalaw15_Book_notes.last14 f_quotalaw15_Book_notes.plan14 (pts b (.cells ⟨[.slice (some ⟨ab, off, none⟩) l.length sc]⟩ t_quotalaw15_Book) • vec t_quotalaw15_Tx 4 btx (some ⟨ab, off, none⟩) sc l • emp) (by kernel_rfl) (Sub.of (Imp.pick (Imp.pick (Imp.emp _)))) ?_
        conv => whnf
        refine Ld.i ?_
        conv => whnf
        refine Ld.i ?_
        conv => whnf
        refine IxS.v (i := i) rfl rfl hil (fun ab' off' ha => ?_)
        conv => whnf
        cases ha
        conv => whnf
        refine Ld.v hx rfl ?_
        conv => whnf
        refine CallK.ret f_quotalaw15_without.ok (without_spec (.there (.there (.there .here))) rfl hj (by omega)) ?_
        rintro v G ⟨a', cap', rfl, rfl⟩
        conv => whnf
        refine ⟨Sub.of (Imp.pick (Imp.pick (Imp.emp _))), ?_⟩
        conv => whnf
        refine IxS.v (i := i) rfl rfl hil (fun ab' off' ha => ?_)
        conv => whnf
        cases ha
        conv => whnf
        refine St.v hx (⟨num, cs.eraseIdx j, com, und⟩, a', cap') (by simp [btx]) (by simp) ⟨rfl, rfl⟩ ?_
        conv => whnf
        refine ⟨_, _, rfl, shut ⟨num, cs.eraseIdx j, com, und⟩ a' cap' (Imp.pick (Imp.pick (Imp.pick (Imp.pick (Imp.drop.trans (Imp.drop.trans (Imp.refl _))))))), rfl⟩
    refine Ld.i ?_
    conv => whnf
    refine spl_t (by simp [k3]) ?_
    conv => whnf
    refine Ld.i ?_
    conv => whnf
    refine spl_f (by simp [w4]) ?_
    conv => whnf
    by_cases w7 : o.what = 7
    case neg =>
      have e : notesB B o = B := by simp [notesB, k3, w4, w5, w6, w7, hp, hBi]
      rw [e]
      refine Ld.i ?_
      conv => whnf
      refine spl_t (by simp [k3]) ?_
      conv => whnf
      refine Ld.i ?_
      conv => whnf
      refine spl_f (by simp [w7]) ?_
      conv => whnf
      exact ⟨_, _, rfl, same Imp.drop, rfl⟩
    have e : notesB B o = B.eraseIdx i := by simp [notesB, k3, w7, hp, hBi]
    rw [e]
    refine Ld.i ?_
    conv => whnf
    refine spl_t (by simp [k3]) ?_
    conv => whnf
    refine Ld.i ?_
    conv => whnf
    refine spl_t (by simp [w7]) ?_
    conv => whnf
    refine Ld.i ?_
    conv => whnf
    refine OpX.of_quiet (OpQ.slh tab_ok rfl rfl rfl rfl ⟨by omega, by omega⟩ ?_)
    conv => whnf
    refine OpX.appendNil tab_ok btx (fun _ => rfl) btx_one rfl rfl rfl rfl rfl rfl (fun k h => by cases h) rfl rfl (l.take i) (Src.take (fun _ => rfl) (.there (.there .here)) (by omega)) (by simp; omega) (by simp; omega) fun a1 cap1 => ?_
    conv => whnf
    refine Ld.i ?_
    conv => whnf
    refine Ar.i64 (by omega) ?_
    conv => whnf
    refine OpX.of_quiet (OpQ.sll tab_ok rfl rfl rfl rfl ⟨by omega, by omega⟩ ?_)
    conv => whnf
    have hsrc : ∀ w, Sat W (vec t_quotalaw15_Tx 4 btx a1 cap1 (l.take i) • pts ob (.cells ⟨[.int .i64 o.kind, .bool o.two, .int .i64 o.tx, .int .i64 o.counter, .int .i64 o.what, .int .i64 o.free, .int .i64 o.more]⟩ t_quotalaw15_Op) •
        pts b (.cells ⟨[.slice sa l.length sc]⟩ t_quotalaw15_Book) • vec t_quotalaw15_Tx 4 btx sa sc l • vec t_int 1 ints ca cc cs • bigL bcs (l.eraseIdx i) • R) w → _ :=
      fun w hw => Src.drop (P := prog) (i := i + 1) (n := l.length) (sz := 4) (enc := btx) (fun _ => rfl) (VecAt.there (VecAt.there (VecAt.there .here))) rfl (by omega) w hw
    refine OpX.append (sz := 4) (enc := btx) (a := a1) (cap := cap1) (xs := l.take i) tab_ok (fun _ => rfl) btx_one rfl rfl rfl rfl rfl rfl (fun k h => by cases h) rfl (by simp; omega) rfl (ys := l.drop (i + 1)) hsrc (by simp) .here (by simp; omega) fun a2 cap2 => ?_
    conv => whnf
    refine St.i ⟨rfl, rfl⟩ (by simp) ?_
    conv => whnf
    rw [← List.eraseIdx_eq_take_drop_succ]
    have hlen2 : (i : Int).toNat + (l.length - (i + 1)) = (l.eraseIdx i).length := by rw [List.length_eraseIdx, if_pos hil]; omega
    refine ⟨_, _, rfl, book_shut a2 cap2 (l.eraseIdx i) (by rw [map_eraseIdx', hB]) ?_, rfl⟩
    rw [hlen2]
    exact Imp.pick (Imp.pick (Imp.drop.trans (Imp.drop.trans (Imp.drop.trans (Imp.refl _)))))
end Go.Proofs.Ytgepohccnknngaa
