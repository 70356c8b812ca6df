/- The program's room: what it holds in memory, and what its functions do. No condition. -/
import Derived.Test.YtgepohccnknngaaTab
import Derived.Test.YtgepohccnknngaaMaps
namespace Go.Proofs.Ytgepohccnknngaa
open Go Go.SL

/-- A transaction: its state, the counters that it holds. -/
structure Life where
  st : Int
  held : List Int
def heldc (l : List Int) : List (Int × Value) := l.map fun c => (c, .int .i64 1)
def lifec (b : Nat) (L : Life) : HProp := ex fun h => pts b (.cells ⟨[.int .i64 L.st, .map (some h)]⟩ t_room_life) • mapc h .i64 (heldc L.held)
def Life.promised (L : Life) : Int := if L.st = 0 then 2 + L.held.length else if L.st = 2 then 1 + L.held.length else 1
theorem heldc_nil : heldc [] = [] := rfl
theorem heldc_len (l : List Int) : (heldc l).length = l.length := by simp [heldc]

abbrev ptr (b : Nat) : Value := .pointer (some ⟨b, 0, none⟩)
abbrev RoomSt := List (Int × (Nat × Life))
abbrev rptrs (l : RoomSt) : List (Int × Value) := mapv (fun x => ptr x.1) l
abbrev rlives (l : RoomSt) : HProp := bigM (fun _ x => lifec x.1 x.2) l
def roomc (r : Nat) (M : List (Int × Life)) : HProp := ex fun m => ex fun l : RoomSt => SL.pure (mapv (·.2) l = M) •
  pts r (.cells ⟨[.map (some m)]⟩ t_room_Room) • mapc m .i64 (rptrs l) • rlives l

set_option pp.maxSteps 400
theorem promised_spec {W : World} {H R : HProp} {b : Nat} {L : Life} (ht : Take H (lifec b L) R) (hl : L.held.length ≤ 1000) :
    Does prog W f_room_life_promised ⟨[ptr b]⟩ H (Ret fun v G => v = .int .i64 L.promised ∧ G = H) := by
  rw [ht.eq]
  unfold lifec
  refine Does.ex fun h => ?_
  rw [star_assoc]
  have hlen := heldc_len L.held
  have hent : Imp (pts b (.cells ⟨[.int .i64 L.st, .map (some h)]⟩ t_room_life) • mapc h .i64 (heldc L.held) • R)
      ((ex fun h => pts b (.cells ⟨[.int .i64 L.st, .map (some h)]⟩ t_room_life) • mapc h .i64 (heldc L.held)) • R) :=
    Imp.exi h (Imp.assoc (Imp.refl _))
  refine f_room_life_promised.does _ ?_
  conv => whnf
  refine Ld.i ?_
  conv => whnf
  refine spl_intro (fun h0 => ?_) (fun h0 => ?_)
  · conv => whnf
    refine Ld.i ?_
    conv => whnf
    refine OpX.of_quiet (OpQ.lm tab_ok rfl rfl ?_)
    conv => whnf
    refine Ar.i64 (by omega) ?_
    conv => whnf
    exact ⟨_, _, rfl, hent, by simp at h0; simp [Life.promised, h0, hlen], rfl⟩
  · conv => whnf
    refine spl_intro (fun h1 => ?_) (fun h1 => ?_)
    · conv => whnf
      refine Ld.i ?_
      conv => whnf
      refine OpX.of_quiet (OpQ.lm tab_ok rfl rfl ?_)
      conv => whnf
      refine Ar.i64 (by omega) ?_
      conv => whnf
      exact ⟨_, _, rfl, hent, by simp at h0 h1; simp [Life.promised, h1, hlen], rfl⟩
    · conv => whnf
      exact ⟨_, _, rfl, hent, by simp at h0 h1; simp [Life.promised, h0, h1], rfl⟩

theorem room_shut {H R : HProp} {r : Nat} (m : Nat) (l : RoomSt) {M : List (Int × Life)} (hM : mapv (·.2) l = M)
    (h : Imp H (pts r (.cells ⟨[.map (some m)]⟩ t_room_Room) • mapc m .i64 (rptrs l) • rlives l • R)) : Imp H (roomc r M • R) :=
  Imp.exi m (Imp.exi l (Imp.assoc (Imp.purei hM (Imp.assoc (h.trans (Imp.right (Ent.of_eq (star_assoc _ _ _).symm).imp))))))

theorem new_spec {W : World} {H : HProp} : Does prog W f_room_New ⟨[]⟩ H (Ret fun v G => ∃ r, v = ptr r ∧ G = (roomc r [] • H)) := by
  refine f_room_New.does ?_
  conv => whnf
  refine OpX.makeMap .i64 fun m hm => ?_
  conv => whnf
  intro r hr
  conv => whnf
  exact ⟨_, _, rfl, room_shut m [] rfl (by simp only [mapv_nil]; exact Imp.pick (Imp.pick (Imp.empi (Imp.refl _)))), r, rfl, rfl⟩

theorem room_open {W : World} {H R : HProp} {r : Nat} {M : List (Int × Life)} {f : FuncId} {args : Array Value} {Q : Ending → HProp → Prop} (ht : Take H (roomc r M) R)
    (k : ∀ m (l : RoomSt), (l.map (·.1)).Nodup → mapv (·.2) l = M →
      Does prog W f args (pts r (.cells ⟨[.map (some m)]⟩ t_room_Room) • mapc m .i64 (rptrs l) • rlives l • R) Q) : Does prog W f args H Q := by
  rw [ht.eq]
  unfold roomc
  refine Does.ex fun m => ?_
  refine Does.ex fun l => ?_
  rw [star_assoc]
  refine Does.pure fun hM => ?_
  rw [star_assoc, star_assoc]
  refine Does.learn (p := (l.map (·.1)).Nodup) (fun w hs => ?_) fun hnd => k m l hnd hM
  have : MapC (pts r (.cells ⟨[.map (some m)]⟩ t_room_Room) • mapc m .i64 (rptrs l) • rlives l • R) m .i64 (rptrs l) _ := inferInstance
  have := this.nodup hs
  rwa [mapv_keys] at this
/-- The room, with a transaction taken out. -/
theorem room_open_lf {W : World} {H R : HProp} {r : Nat} {M : List (Int × Life)} {tx : Int} {L : Life} {f : FuncId} {args : Array Value} {Q : Ending → HProp → Prop} (ht : Take H (roomc r M) R) (hL : M.lookup tx = some L)
    (k : ∀ m (l : RoomSt) b, (l.map (·.1)).Nodup → mapv (·.2) l = M → l.lookup tx = some (b, L) →
      Does prog W f args (pts r (.cells ⟨[.map (some m)]⟩ t_room_Room) • mapc m .i64 (rptrs l) • lifec b L • rlives (delKV tx l) • R) Q) : Does prog W f args H Q := by
  refine room_open ht fun m l hnd hM => ?_
  have h1 : (l.lookup tx).map (·.2) = some L := by rw [← mapv_lookup, hM, hL]
  cases h2 : l.lookup tx with
  | none => rw [h2] at h1; cases h1
  | some x =>
    obtain ⟨b, L'⟩ := x
    rw [h2] at h1
    simp only [Option.map_some, Option.some.injEq] at h1
    subst h1
    rw [show rlives l = _ from bigM_take _ tx (b, L') l hnd h2]
    exact Does.imp (Imp.pick (Imp.pick (Imp.pick (Imp.refl _)))) (k m l b hnd hM h2)
theorem room_open_at {W : World} {H R : HProp} {r : Nat} {M : List (Int × Life)} {tx : Int} {L : Life} {f : FuncId} {args : Array Value} {Q : Ending → HProp → Prop} (ht : Take H (roomc r M) R) (hL : M.lookup tx = some L)
    (k : ∀ m (l : RoomSt) b h, (l.map (·.1)).Nodup → mapv (·.2) l = M → l.lookup tx = some (b, L) →
      Does prog W f args (pts r (.cells ⟨[.map (some m)]⟩ t_room_Room) • mapc m .i64 (rptrs l) • pts b (.cells ⟨[.int .i64 L.st, .map (some h)]⟩ t_room_life) • mapc h .i64 (heldc L.held) • rlives (delKV tx l) • R) Q) : Does prog W f args H Q := by
  refine room_open_lf ht hL fun m l b hnd hM hl => ?_
  refine Does.imp (H' := lifec b L • pts r (.cells ⟨[.map (some m)]⟩ t_room_Room) • mapc m .i64 (rptrs l) • rlives (delKV tx l) • R) (Imp.pick (Imp.pick (Imp.pick (Imp.refl _)))) ?_
  unfold lifec
  refine Does.ex fun h => ?_
  exact Does.imp (Imp.pick (Imp.pick (Imp.pick (Imp.pick (Imp.pick Imp.fin))))) (k m l b h hnd hM hl)
theorem room_shut_lf {H R : HProp} {r : Nat} (m b : Nat) (l : RoomSt) {M : List (Int × Life)} (tx : Int) {L : Life} (L' : Life) (hnd : (l.map (·.1)).Nodup) (hM : mapv (·.2) l = M) (hl : l.lookup tx = some (b, L))
    (hi : Imp H (pts r (.cells ⟨[.map (some m)]⟩ t_room_Room) • mapc m .i64 (rptrs l) • lifec b L' • rlives (delKV tx l) • R)) :
    Imp H (roomc r (updKV tx L' M) • R) := by
  have e1 : rptrs (updKV tx (b, L') l) = rptrs l := by
    show mapv _ _ = _
    rw [mapv_upd]
    exact upd_same tx _ _ (by rw [mapv_lookup, hl]; rfl)
  have e2 : mapv (·.2) (updKV tx (b, L') l) = updKV tx L' M := by rw [mapv_upd, hM]
  refine room_shut m (updKV tx (b, L') l) e2 (hi.trans ?_)
  rw [show rlives (updKV tx (b, L') l) = _ from bigM_upd _ tx (b, L') l hnd, e1]
  exact Imp.pick (Imp.pick (Imp.assoc (Imp.pick (Imp.pick Imp.fin))))
theorem room_shut_at {H R : HProp} {r : Nat} (m b h : Nat) (l : RoomSt) {M : List (Int × Life)} (tx : Int) {L : Life} (L' : Life) (hnd : (l.map (·.1)).Nodup) (hM : mapv (·.2) l = M) (hl : l.lookup tx = some (b, L))
    (hi : Imp H (pts r (.cells ⟨[.map (some m)]⟩ t_room_Room) • mapc m .i64 (rptrs l) • pts b (.cells ⟨[.int .i64 L'.st, .map (some h)]⟩ t_room_life) • mapc h .i64 (heldc L'.held) • rlives (delKV tx l) • R)) :
    Imp H (roomc r (updKV tx L' M) • R) :=
  room_shut_lf m b l tx L' hnd hM hl (hi.trans (Imp.pick (Imp.pick (Imp.exi h (Imp.assoc (Imp.pick (Imp.pick (Imp.pick Imp.fin))))))))

def beginR (M : List (Int × Life)) (tx : Int) : Int × List (Int × Life) :=
  if tx < 1 ∨ 2147483647 < tx then (4, M) else if (M.lookup tx).isSome then (121, M) else if 32 ≤ M.length then (131, M) else (0, updKV tx ⟨0, []⟩ M)

theorem begin_spec {W : World} {H R : HProp} {r : Nat} {M : List (Int × Life)} {tx : Int} (ht : Take H (roomc r M) R) :
    Does prog W f_room_Room_Begin ⟨[ptr r, .int .i64 tx]⟩ H (Ret fun v G => v = .int .i64 (beginR M tx).1 ∧ G = (roomc r (beginR M tx).2 • R)) := by
  refine room_open ht fun m l hnd hM => ?_
  have hlen : (rptrs l).length = M.length := by subst hM; simp [mapv]
  have hlk : (rptrs l).lookup tx = none ↔ M.lookup tx = none := by subst hM; rw [mapv_lookup, mapv_lookup]; simp
  refine f_room_Room_Begin.does _ _ ?_
  conv => whnf
  refine spl_intro (fun h1 => ?_) (fun h1 => ?_)
  · conv => whnf
    exact ⟨_, _, rfl, room_shut m l hM (Imp.refl _), by simp at h1; simp [beginR, h1], by simp at h1; simp [beginR, h1]⟩
  conv => whnf
  refine spl_intro (fun h2 => ?_) (fun h2 => ?_)
  · conv => whnf
    exact ⟨_, _, rfl, room_shut m l hM (Imp.refl _), by simp at h2; simp [beginR, h2], by simp at h2; simp [beginR, h2]⟩
  conv => whnf
  have hin : ¬ (tx < 1 ∨ 2147483647 < tx) := by simp at h1 h2; omega
  refine Ld.i ?_
  conv => whnf
  refine OpX.of_quiet (OpQ.lk tab_ok rfl rfl rfl rfl rfl (fun v hv => ?_) (fun hv => ?_))
  · rw [mapv_lookup] at hv
    obtain ⟨x, hx, rfl⟩ := Option.map_eq_some_iff.1 hv
    conv => whnf
    have hs : M.lookup tx = some x.2 := by rw [← hM, mapv_lookup, hx]; rfl
    exact ⟨_, _, rfl, room_shut m l hM (Imp.refl _), by simp [beginR, hin, hs], by simp [beginR, hin, hs]⟩
  · conv => whnf
    refine Ld.i ?_
    conv => whnf
    refine OpX.of_quiet (OpQ.lm tab_ok rfl rfl ?_)
    conv => whnf
    have hn := hlk.1 hv
    refine spl_intro (fun h3 => ?_) (fun h3 => ?_)
    · conv => whnf
      have h3' : 32 ≤ M.length := by simp [hlen] at h3; omega
      exact ⟨_, _, rfl, room_shut m l hM (Imp.refl _), by simp [beginR, hin, hn, h3'], by simp [beginR, hin, hn, h3']⟩
    · conv => whnf
      have h3' : ¬ 32 ≤ M.length := by simp [hlen] at h3; omega
      refine Ld.i ?_
      conv => whnf
      refine OpX.makeMap .i64 fun h hh => ?_
      conv => whnf
      intro b hb
      conv => whnf
      refine OpX.up tab_ok rfl rfl rfl rfl rfl ?_
      conv => whnf
      have hn2 : l.lookup tx = none := by rw [mapv_lookup] at hv; simpa using hv
      refine ⟨_, _, rfl, room_shut m (updKV tx (b, (⟨0, []⟩ : Life)) l) (M := updKV tx ⟨0, []⟩ M) (by rw [mapv_upd, hM]) ?_, by simp [beginR, hin, hn, h3'], by simp only [beginR, hin, hn, h3']; rfl⟩
      rw [show rlives _ = _ from bigM_ins _ _ _ _ hn2, show rptrs _ = _ from mapv_upd _ _ _ _]
      refine Imp.pick (Imp.pick (Imp.assoc (Imp.exi h (Imp.assoc (Imp.pick ?_)))))
      simp only [heldc_nil]
      exact Imp.pick (Imp.pick Imp.fin)

def ofR (M : List (Int × Life)) (tx : Int) : Int := match M.lookup tx with
  | some L => L.promised
  | none => 0
/-- No transaction holds too much. -/
def SmallR (M : List (Int × Life)) : Prop := ∀ k L, M.lookup k = some L → L.held.length ≤ 1000

theorem of_spec {W : World} {H R : HProp} {r : Nat} {M : List (Int × Life)} {tx : Int} (ht : Take H (roomc r M) R) (hsm : SmallR M) :
    Does prog W f_room_Room_Of ⟨[ptr r, .int .i64 tx]⟩ H (Ret fun v G => v = .int .i64 (ofR M tx) ∧ G = H) := by
  cases hL : M.lookup tx with
  | none =>
    refine room_open ht fun m l hnd hM => ?_
    have hlk : (rptrs l).lookup tx = none := by subst hM; rw [mapv_lookup] at hL ⊢; simpa using hL
    refine f_room_Room_Of.does _ _ ?_
    conv => whnf
    refine Ld.i ?_
    conv => whnf
    refine OpX.of_quiet (OpQ.lk tab_ok rfl rfl rfl rfl rfl (fun v hv => ?_) (fun hv => ?_))
    conv => whnf
    · rw [hlk] at hv; cases hv
    · conv => whnf
      exact ⟨_, _, rfl, room_shut m l hM (Imp.refl _), by simp [ofR, hL], ht.eq.symm⟩
  | some L =>
    refine room_open_lf ht hL fun m l b hnd hM hl => ?_
    have hlk : (rptrs l).lookup tx = some (ptr b) := by rw [mapv_lookup, hl]; rfl
    refine f_room_Room_Of.does _ _ ?_
    conv => whnf
    refine Ld.i ?_
    conv => whnf
    refine OpX.of_quiet (OpQ.lk tab_ok rfl rfl rfl rfl rfl (fun v hv => ?_) (fun hv => ?_))
    conv => whnf
    · rw [hlk] at hv; cases hv
      conv => whnf
      refine CallK.ret f_room_life_promised.ok (promised_spec (Take.there (Take.there Take.here)) (hsm tx L hL)) ?_
      rintro v G ⟨rfl, rfl⟩
      conv => whnf
      refine ⟨_, _, rfl, room_shut_lf m b l tx L hnd hM hl (Imp.refl _), by simp [ofR, hL], ?_⟩
      rw [upd_same tx L M hL]; exact ht.eq.symm
    · rw [hlk] at hv; cases hv

def holdR (M : List (Int × Life)) (tx c : Int) : Int × List (Int × Life) := match M.lookup tx with
  | none => (130, M)
  | some L => if c < 1 ∨ 1048576 < c then (4, M) else if ¬ L.st = 0 then (70, M) else if c ∈ L.held then (0, M) else if 64 ≤ L.held.length then (131, M)
    else (0, updKV tx ⟨L.st, L.held ++ [c]⟩ M)
theorem heldc_lookup (c : Int) : ∀ l : List Int, (heldc l).lookup c = if c ∈ l then some (.int .i64 1) else none
  | [] => rfl
  | a :: l => by
    have := heldc_lookup c l
    unfold heldc at this ⊢
    by_cases h : c = a
    · simp [h]
    · have hb : (c == a) = false := by simpa using h
      simp [List.lookup, hb, this, h]
theorem heldc_upd (c : Int) (l : List Int) (h : c ∉ l) : updKV c (.int .i64 1) (heldc l) = heldc (l ++ [c]) := by
  rw [updKV_none]
  · simp [heldc]
  · simpa [heldc] using h

theorem hold_spec {W : World} {H R : HProp} {r : Nat} {M : List (Int × Life)} {tx c : Int} (ht : Take H (roomc r M) R) :
    Does prog W f_room_Room_Hold ⟨[ptr r, .int .i64 tx, .int .i64 c]⟩ H (Ret fun v G => v = .int .i64 (holdR M tx c).1 ∧ G = (roomc r (holdR M tx c).2 • R)) := by
  cases hL : M.lookup tx with
  | none =>
    refine room_open ht fun m l hnd hM => ?_
    have hlk : (rptrs l).lookup tx = none := by subst hM; rw [mapv_lookup] at hL ⊢; simpa using hL
    refine f_room_Room_Hold.does _ _ _ ?_
    conv => whnf
    refine Ld.i ?_
    conv => whnf
    refine OpX.of_quiet (OpQ.lk tab_ok rfl rfl rfl rfl rfl (fun v hv => ?_) (fun hv => ?_))
    conv => whnf
    · rw [hlk] at hv; cases hv
    · conv => whnf
      exact ⟨_, _, rfl, room_shut m l hM (Imp.refl _), by simp [holdR, hL], by simp [holdR, hL]⟩
  | some L =>
    refine room_open_at ht hL fun m l b h hnd hM hl => ?_
    have hlk : (rptrs l).lookup tx = some (ptr b) := by rw [mapv_lookup, hl]; rfl
    have same : ∀ {H}, Imp H (pts r (.cells ⟨[.map (some m)]⟩ t_room_Room) • mapc m .i64 (rptrs l) • pts b (.cells ⟨[.int .i64 L.st, .map (some h)]⟩ t_room_life) • mapc h .i64 (heldc L.held) • rlives (delKV tx l) • R) → Imp H (roomc r M • R) := fun hi => by
      have := room_shut_at m b h l tx L hnd hM hl hi
      rwa [upd_same tx L M hL] at this
    refine f_room_Room_Hold.does _ _ _ ?_
    conv => whnf
    refine Ld.i ?_
    conv => whnf
    refine OpX.of_quiet (OpQ.lk tab_ok rfl rfl rfl rfl rfl (fun v hv => ?_) (fun hv => ?_))
    conv => whnf
    · rw [hlk] at hv; cases hv
      conv => whnf
      refine spl_intro (fun h1 => ?_) (fun h1 => ?_)
      conv => whnf
      · conv => whnf
        exact ⟨_, _, rfl, same (Imp.refl _), by simp at h1; simp [holdR, hL, h1], by simp at h1; simp [holdR, hL, h1]⟩
      conv => whnf
      refine spl_intro (fun h2 => ?_) (fun h2 => ?_)
      conv => whnf
      · conv => whnf
        exact ⟨_, _, rfl, same (Imp.refl _), by simp at h2; simp [holdR, hL, h2], by simp at h2; simp [holdR, hL, h2]⟩
      conv => whnf
      have hin : ¬ (c < 1 ∨ 1048576 < c) := by simp at h1 h2; omega
      refine Ld.i ?_
      conv => whnf
      refine spl_intro (fun h3 => ?_) (fun h3 => ?_)
      conv => whnf
      · have h3' : ¬ L.st = 0 := by simpa using h3
        conv => whnf
        exact ⟨_, _, rfl, same (Imp.refl _), by simp [holdR, hL, hin, h3'], by simp [holdR, hL, hin, h3']⟩
      have h3' : L.st = 0 := by simpa using h3
      conv => whnf
      refine Ld.i ?_
      conv => whnf
      refine OpX.of_quiet (OpQ.lk tab_ok rfl rfl rfl rfl rfl (fun v hv => ?_) (fun hv => ?_))
      conv => whnf
      · rw [heldc_lookup] at hv
        split at hv
        · rename_i hin2
          cases hv
          conv => whnf
          exact ⟨_, _, rfl, same (Imp.refl _), by simp [holdR, hL, hin, h3', hin2], by simp [holdR, hL, hin, h3', hin2]⟩
        · cases hv
      · have hni : c ∉ L.held := by
          rw [heldc_lookup] at hv; split at hv
          · cases hv
          · assumption
        conv => whnf
        refine Ld.i ?_
        conv => whnf
        refine OpX.of_quiet (OpQ.lm tab_ok rfl rfl ?_)
        conv => whnf
        refine spl_intro (fun h4 => ?_) (fun h4 => ?_)
        conv => whnf
        · have h4' : 64 ≤ L.held.length := by simp [heldc_len] at h4; omega
          conv => whnf
          exact ⟨_, _, rfl, same (Imp.refl _), by simp [holdR, hL, hin, h3', hni, h4'], by simp [holdR, hL, hin, h3', hni, h4']⟩
        · have h4' : ¬ 64 ≤ L.held.length := by simp [heldc_len] at h4; omega
          conv => whnf
          refine Ld.i ?_
          conv => whnf
          refine OpX.up tab_ok rfl rfl rfl rfl rfl ?_
          conv => whnf
          rw [heldc_upd c L.held hni]
          have e : holdR M tx c = (0, updKV tx ⟨L.st, L.held ++ [c]⟩ M) := by simp only [holdR, hL, hin, h3', hni, h4', not_true_eq_false, if_false]
          rw [e]
          exact Ret.eq rfl (room_shut_at m b h l tx ⟨L.st, L.held ++ [c]⟩ hnd hM hl (Imp.pick (Imp.pick (Imp.pick (Imp.pick (Imp.pick Imp.fin))))))
    · rw [hlk] at hv; cases hv

def promisedR (M : List (Int × Life)) : Int := (M.map fun p => p.2.promised).sum
theorem Life.promised_pos (L : Life) (h : L.held.length ≤ 1000) : 1 ≤ L.promised ∧ L.promised ≤ 1002 := by unfold Life.promised; split <;> (try split) <;> omega
theorem promisedR_bd : ∀ M : List (Int × Life), (∀ p ∈ M, p.2.held.length ≤ 1000) → 0 ≤ promisedR M ∧ promisedR M ≤ M.length * 1002
  | [], _ => by simp [promisedR]
  | p :: M, h => by
    have ih := promisedR_bd M fun q hq => h q (List.mem_cons_of_mem _ hq)
    have := Life.promised_pos p.2 (h p (by simp))
    unfold promisedR at ih ⊢
    simp only [List.map_cons, List.sum_cons, List.length_cons]
    omega
theorem SmallR.mem {M : List (Int × Life)} (hnd : (M.map (·.1)).Nodup) (h : SmallR M) : ∀ p ∈ M, p.2.held.length ≤ 1000 := fun p hp => h p.1 p.2 (lookup_of_mem p.1 p.2 M hnd hp)

theorem promisedR_spec {W : World} {H R : HProp} {r : Nat} {M : List (Int × Life)} (ht : Take H (roomc r M) R) (hsm : SmallR M) (hlen : M.length ≤ 1000) :
    Does prog W f_room_Room_Promised ⟨[ptr r]⟩ H (Ret fun v G => v = .int .i64 (promisedR M) ∧ G = H) := by
  refine room_open ht fun m l hnd hM => ?_
  have hndM : (M.map (·.1)).Nodup := by rw [← hM, mapv_keys]; exact hnd
  have hbd := promisedR_bd M (hsm.mem hndM)
  have hsum : promisedR M = (l.map fun p => p.2.2.promised).sum := by rw [← hM]; simp [promisedR, mapv, Function.comp_def]
  refine f_room_Room_Promised.does _ ?_
  conv => whnf
  refine Ld.i ?_
  conv => whnf
  refine OpX.rng tab_ok rfl rfl (fun it hit => ?_)
  conv => whnf
  refine LoopK.intro tab_ok (L := f_room_Room_Promised.live) (ι := Int × RoomSt × Option (Int × Value))
    (fun i => i.1 + (i.2.1.map fun p => p.2.2.promised).sum = promisedR M ∧ 0 ≤ i.1 ∧ (∀ x ∈ i.2.1, x ∈ l))
    (fun i => [(3, .int .i64 i.1), (10, ptr it)])
    (fun i => iterc it m .i64 (rptrs l) (rptrs i.2.1) i.2.2 • pts r (.cells ⟨[.map (some m)]⟩ t_room_Room) • rlives l • R)
    (fun i => i.2.1.length) (0, l, none) ⟨by simp [hsum], by simp, fun x h => h⟩ (fun t v h => h) (Imp.pick (Imp.pick (Imp.pick Imp.fin))) ?_
  rintro ⟨n, todo, cur⟩ ⟨hn, hn0, hsub⟩
  simp only at hn hn0 hsub
  conv => whnf
  refine OpX.nxt rfl (fun h0 => ?_) (fun j p hp => ?_)
  · conv => whnf
    have h0' : todo = [] := by simpa [mapv] using h0
    subst h0'
    simp at hn
    exact ⟨_, _, rfl, room_shut m l hM (Imp.pick (Imp.pick (Imp.pick Imp.fin))), by rw [hn], ht.eq.symm⟩
  · obtain ⟨x, hx, rfl⟩ : ∃ x, todo[j]? = some x ∧ (x.1, ptr x.2.1) = p := by
      simp only [mapv, List.getElem?_map] at hp
      exact Option.map_eq_some_iff.1 hp
    obtain ⟨k, b, L⟩ := x
    have hmem := hsub _ (List.mem_of_getElem? hx)
    have hlk := lookup_of_mem k (b, L) l hnd hmem
    have hML : M.lookup k = some L := by rw [← hM, mapv_lookup, hlk]; rfl
    have hLs := hsm k L hML
    have hLp := Life.promised_pos L hLs
    have hse := sum_erase (todo.map fun p => p.2.2.promised) j L.promised (by simp [hx])
    rw [← map_eraseIdx'] at hse
    have hpos := promisedR_bd (mapv (·.2) (todo.eraseIdx j)) (fun p hp => by
      obtain ⟨y, hy, rfl⟩ := List.mem_map.1 hp
      have hy' := hsub y (List.mem_of_mem_eraseIdx hy)
      exact hsm y.1 y.2.2 (by rw [← hM, mapv_lookup, lookup_of_mem y.1 y.2 l hnd hy']; rfl))
    have hps : promisedR (mapv (·.2) (todo.eraseIdx j)) = ((todo.eraseIdx j).map fun p => p.2.2.promised).sum := by simp [promisedR, mapv, Function.comp_def]
    rw [hps] at hpos
    conv => whnf
    refine OpX.ent rfl ?_
    conv => whnf
    refine CallK.ret f_room_life_promised.ok (promised_spec (Take.split (bigM_take _ k (b, L) l hnd hlk) (Take.there (Take.there Take.here))) hLs) ?_
    rintro v G ⟨rfl, rfl⟩
    conv => whnf
    refine Ar.i64 (by omega) ?_
    conv => whnf
    have hlen2 : (todo.eraseIdx j).length < todo.length := by
      have : j < todo.length := by
        rcases Nat.lt_or_ge j todo.length with h | h
        · exact h
        · simp [List.getElem?_eq_none h] at hx
      rw [List.length_eraseIdx]; simp [this]; omega
    refine ⟨rfl, (n + L.promised, todo.eraseIdx j, some (k, ptr b)), ⟨by simp only; omega, by simp only; omega, fun x hx => hsub x (List.mem_of_mem_eraseIdx hx)⟩, fun t v h => h, ?_, hlen2⟩
    simp only [mapv, map_eraseIdx']
    exact Imp.refl _

def wroteR (M : List (Int × Life)) (tx kind c : Int) : Int × List (Int × Life) := match M.lookup tx with
  | none => (130, M)
  | some L => if kind = 5 then (if L.st = 0 then (0, updKV tx ⟨1, L.held⟩ M) else (70, M))
    else if kind = 6 then (if L.st = 0 then (0, updKV tx ⟨2, L.held⟩ M) else (70, M))
    else if kind = 4 then (if L.st = 2 then (if c ∈ L.held then (0, updKV tx ⟨L.st, L.held.filter fun x => !decide (x = c)⟩ M) else (120, M)) else (70, M))
    else if kind = 7 then (if L.st = 0 ∨ (L.st = 2 ∧ L.held ≠ []) then (70, M) else (0, delKV tx M))
    else (70, M)
theorem heldc_del (c : Int) (l : List Int) : delKV c (heldc l) = heldc (l.filter fun x => !decide (x = c)) := by
  simp [delKV, heldc, List.filter_map, Function.comp_def]

theorem wrote_spec {W : World} {H R : HProp} {r : Nat} {M : List (Int × Life)} {tx kind c : Int} (ht : Take H (roomc r M) R) :
    Does prog W f_room_Room_Wrote ⟨[ptr r, .int .i64 tx, .int .i64 kind, .int .i64 c]⟩ H (Ret fun v G => v = .int .i64 (wroteR M tx kind c).1 ∧ G = (roomc r (wroteR M tx kind c).2 • R)) := by
  cases hL : M.lookup tx with
  | none =>
    refine room_open ht fun m l hnd hM => ?_
    have hlk : (rptrs l).lookup tx = none := by subst hM; rw [mapv_lookup] at hL ⊢; simpa using hL
    refine f_room_Room_Wrote.does _ _ _ _ ?_
    conv => whnf
    refine Ld.i ?_
    conv => whnf
    refine OpX.of_quiet (OpQ.lk tab_ok rfl rfl rfl rfl rfl (fun v hv => ?_) (fun hv => ?_))
    conv => whnf
    · rw [hlk] at hv; cases hv
    · conv => whnf
      have e : wroteR M tx kind c = (130, M) := by simp [wroteR, hL]
      rw [e]
      exact Ret.eq rfl (room_shut m l hM (Imp.refl _))
  | some L =>
    refine room_open_at ht hL fun m l b h hnd hM hl => ?_
    have hlk : (rptrs l).lookup tx = some (ptr b) := by rw [mapv_lookup, hl]; rfl
    have same : ∀ {H}, Imp H (pts r (.cells ⟨[.map (some m)]⟩ t_room_Room) • mapc m .i64 (rptrs l) • pts b (.cells ⟨[.int .i64 L.st, .map (some h)]⟩ t_room_life) • mapc h .i64 (heldc L.held) • rlives (delKV tx l) • R) → Imp H (roomc r M • R) := fun hi => by
      have := room_shut_at m b h l tx L hnd hM hl hi
      rwa [upd_same tx L M hL] at this
    refine f_room_Room_Wrote.does _ _ _ _ ?_
    conv => whnf
    refine Ld.i ?_
    conv => whnf
    refine OpX.of_quiet (OpQ.lk tab_ok rfl rfl rfl rfl rfl (fun v hv => ?_) (fun hv => ?_))
    conv => whnf
    case refine_2 => rw [hlk] at hv; cases hv
    rw [hlk] at hv; cases hv
    conv => whnf
    by_cases k5 : kind = 5
    · refine spl_t (by simp [k5]) ?_
      conv => whnf
      refine Ld.i ?_
      conv => whnf
      refine spl_intro (fun h1 => ?_) (fun h1 => ?_)
      conv => whnf
      · conv => whnf
        have e : wroteR M tx kind c = (70, M) := by simp at h1; simp [wroteR, hL, k5, h1]
        rw [e]; exact Ret.eq rfl (same (Imp.refl _))
      conv => whnf
      refine St.i ⟨rfl, rfl⟩ (by simp) ?_
      conv => whnf
      refine spl_t (by simp [k5]) ?_
      conv => whnf
      refine St.i ⟨rfl, rfl⟩ (by simp) ?_
      conv => whnf
      have e : wroteR M tx kind c = (0, updKV tx ⟨1, L.held⟩ M) := by simp at h1; simp [wroteR, hL, k5, h1]
      rw [e]; exact Ret.eq rfl (room_shut_at m b h l tx ⟨1, L.held⟩ hnd hM hl (Imp.pick (Imp.pick (Imp.pick Imp.fin))))
    by_cases k6 : kind = 6
    · refine spl_f (by simp [k5]) ?_
      conv => whnf
      refine spl_t (by simp [k6]) ?_
      conv => whnf
      refine Ld.i ?_
      conv => whnf
      refine spl_intro (fun h1 => ?_) (fun h1 => ?_)
      conv => whnf
      · conv => whnf
        have e : wroteR M tx kind c = (70, M) := by simp at h1; simp [wroteR, hL, k6, h1]
        rw [e]; exact Ret.eq rfl (same (Imp.refl _))
      conv => whnf
      refine St.i ⟨rfl, rfl⟩ (by simp) ?_
      conv => whnf
      refine spl_f (by simp [k5]) ?_
      conv => whnf
      have e : wroteR M tx kind c = (0, updKV tx ⟨2, L.held⟩ M) := by simp at h1; simp [wroteR, hL, k6, h1]
      rw [e]; exact Ret.eq rfl (room_shut_at m b h l tx ⟨2, L.held⟩ hnd hM hl (Imp.pick (Imp.pick (Imp.pick Imp.fin))))
    refine spl_f (by simp [k5]) ?_
    conv => whnf
    refine spl_f (by simp [k6]) ?_
    conv => whnf
    by_cases k4 : kind = 4
    · refine spl_t (by simp [k4]) ?_
      conv => whnf
      refine Ld.i ?_
      conv => whnf
      refine spl_intro (fun h1 => ?_) (fun h1 => ?_)
      conv => whnf
      · conv => whnf
        have e : wroteR M tx kind c = (70, M) := by simp at h1; simp [wroteR, hL, k4, h1]
        rw [e]; exact Ret.eq rfl (same (Imp.refl _))
      conv => whnf
      refine Ld.i ?_
      conv => whnf
      refine OpX.of_quiet (OpQ.lk tab_ok rfl rfl rfl rfl rfl (fun v hv => ?_) (fun hv => ?_))
      conv => whnf
      · rw [heldc_lookup] at hv
        split at hv
        · rename_i hin
          cases hv
          conv => whnf
          refine Ld.i ?_
          conv => whnf
          refine OpX.del tab_ok rfl rfl rfl rfl ?_
          conv => whnf
          rw [heldc_del]
          have e : wroteR M tx kind c = (0, updKV tx ⟨L.st, L.held.filter fun x => !decide (x = c)⟩ M) := by simp at h1; simp [wroteR, hL, k4, h1, hin]
          rw [e]; exact Ret.eq rfl (room_shut_at m b h l tx ⟨L.st, L.held.filter fun x => !decide (x = c)⟩ hnd hM hl (Imp.pick (Imp.pick (Imp.pick Imp.fin))))
        · cases hv
      · have hni : c ∉ L.held := by
          rw [heldc_lookup] at hv; split at hv
          · cases hv
          · assumption
        conv => whnf
        have e : wroteR M tx kind c = (120, M) := by simp at h1; simp [wroteR, hL, k4, h1, hni]
        rw [e]; exact Ret.eq rfl (same (Imp.refl _))
    refine spl_f (by simp [k4]) ?_
    conv => whnf
    by_cases k7 : kind = 7
    · have del : ¬ (L.st = 0 ∨ (L.st = 2 ∧ L.held ≠ [])) → ∀ {H}, Imp H (mapc m .i64 (delKV tx (rptrs l)) • pts r (.cells ⟨[.map (some m)]⟩ t_room_Room) • pts b (.cells ⟨[.int .i64 L.st, .map (some h)]⟩ t_room_life) • mapc h .i64 (heldc L.held) • rlives (delKV tx l) • R) →
          Ret (fun v G => v = .int .i64 (wroteR M tx kind c).1 ∧ G = (roomc r (wroteR M tx kind c).2 • R)) (.returned (.int .i64 0)) H := fun hc H hi => by
        have e : wroteR M tx kind c = (0, delKV tx M) := by simp only [wroteR, hL, k7, hc]; rfl
        rw [e]
        refine Ret.eq rfl (hi.trans (room_shut m (delKV tx l) (by rw [mapv_del, hM]) ?_))
        rw [show rptrs (delKV tx l) = _ from mapv_del _ _ _]
        exact Imp.pick (Imp.pick (Imp.drop.trans (Imp.drop.trans (Imp.refl _))))
      have stay : (L.st = 0 ∨ (L.st = 2 ∧ L.held ≠ [])) → wroteR M tx kind c = (70, M) := fun hc => by simp only [wroteR, hL, k7, hc]; rfl
      refine spl_t (by simp [k7]) ?_
      conv => whnf
      refine Ld.i ?_
      conv => whnf
      refine spl_intro (fun h1 => ?_) (fun h1 => ?_)
      conv => whnf
      · conv => whnf
        rw [stay (by simp at h1; exact .inl h1)]; exact Ret.eq rfl (same (Imp.refl _))
      conv => whnf
      refine Ld.i ?_
      conv => whnf
      refine spl_intro (fun h2 => ?_) (fun h2 => ?_)
      conv => whnf
      · conv => whnf
        refine Ld.i ?_
        conv => whnf
        refine OpX.of_quiet (OpQ.lm tab_ok rfl rfl ?_)
        conv => whnf
        refine spl_intro (fun h3 => ?_) (fun h3 => ?_)
        conv => whnf
        · conv => whnf
          rw [stay (by simp [heldc_len] at h1 h2 h3; exact .inr ⟨h2, fun e => by simp [e] at h3⟩)]; exact Ret.eq rfl (same (Imp.refl _))
        · conv => whnf
          refine Ld.i ?_
          conv => whnf
          refine OpX.del tab_ok rfl rfl rfl rfl ?_
          conv => whnf
          exact del (by simp [heldc_len] at h1 h2 h3; simp [h1, h3]) (Imp.refl _)
      · conv => whnf
        refine Ld.i ?_
        conv => whnf
        refine OpX.del tab_ok rfl rfl rfl rfl ?_
        conv => whnf
        exact del (by simp at h1 h2; simp [h1, h2]) (Imp.refl _)
    · refine spl_f (by simp [k7]) ?_
      conv => whnf
      have e : wroteR M tx kind c = (70, M) := by simp [wroteR, hL, k4, k5, k6, k7]
      rw [e]; exact Ret.eq rfl (same (Imp.refl _))

def mayR (M : List (Int × Life)) (free parts more : Int) : Int :=
  if free < 0 ∨ parts < 0 ∨ more < 0 then 4 else if free < parts ∨ free - parts < more ∨ free - parts - more < promisedR M then 6 else 0
theorem may_spec {W : World} {H R : HProp} {r : Nat} {M : List (Int × Life)} {free parts more : Int} (ht : Take H (roomc r M) R) (hsm : SmallR M) (hlen : M.length ≤ 1000) (hp : 0 ≤ promisedR M)
    (hb : (-9223372036854775808 ≤ free ∧ free ≤ 9223372036854775807) ∧ (-9223372036854775808 ≤ parts ∧ parts ≤ 9223372036854775807) ∧ (-9223372036854775808 ≤ more ∧ more ≤ 9223372036854775807)) :
    Does prog W f_room_Room_May ⟨[ptr r, .int .i64 free, .int .i64 parts, .int .i64 more]⟩ H (Ret fun v G => v = .int .i64 (mayR M free parts more) ∧ G = H) := by
  refine f_room_Room_May.does _ _ _ _ ?_
  conv => whnf
  have four : (free < 0 ∨ parts < 0 ∨ more < 0) → mayR M free parts more = 4 := fun h => by simp only [mayR, h]; rfl
  refine spl_intro (fun h1 => ?_) (fun h1 => ?_)
  conv => whnf
  · conv => whnf
    rw [four (by simp at h1; omega)]; exact Ret.eq rfl (Imp.refl _)
  conv => whnf
  refine spl_intro (fun h2 => ?_) (fun h2 => ?_)
  conv => whnf
  · conv => whnf
    rw [four (by simp at h2; omega)]; exact Ret.eq rfl (Imp.refl _)
  conv => whnf
  refine spl_intro (fun h3 => ?_) (fun h3 => ?_)
  conv => whnf
  · conv => whnf
    rw [four (by simp at h3; omega)]; exact Ret.eq rfl (Imp.refl _)
  have hpos : ¬ (free < 0 ∨ parts < 0 ∨ more < 0) := by simp at h1 h2 h3; omega
  conv => whnf
  refine CallK.ret f_room_Room_Promised.ok (promisedR_spec ht hsm hlen) ?_
  rintro v H ⟨rfl, rfl⟩
  conv => whnf
  intro b hbb
  conv => whnf
  refine LoopK.intro tab_ok (L := f_room_Room_May.live) (ι := Nat × Int)
    (fun i => (i.1 = 0 ∧ i.2 = free) ∨ (i.1 = 1 ∧ i.2 = free - parts ∧ 0 ≤ i.2) ∨ (i.1 = 2 ∧ i.2 = free - parts - more ∧ 0 ≤ free - parts ∧ 0 ≤ i.2) ∨ (i.1 = 3 ∧ i.2 = free - parts - more - promisedR M ∧ 0 ≤ free - parts ∧ 0 ≤ free - parts - more ∧ 0 ≤ i.2))
    (fun i => [(1, .int .i64 i.2), (25, .slice (some ⟨b, 0, none⟩) 3 3), (26, .int .i64 3), (27, .int .i64 i.1)])
    (fun _ => pts b (.cells ⟨[.int .i64 parts, .int .i64 more, .int .i64 (promisedR M)]⟩ t_int) • H)
    (fun i => 3 - i.1) (0, free) (.inl ⟨rfl, rfl⟩) (fun t v h => h) (Imp.refl _) ?_
  have six : (free < parts ∨ free - parts < more ∨ free - parts - more < promisedR M) → mayR M free parts more = 6 := fun h => by simp only [mayR, hpos, h]; rfl
  rintro ⟨i, rem⟩ (⟨rfl, rfl⟩ | ⟨rfl, hr, i1⟩ | ⟨rfl, hr, i1, i2⟩ | ⟨rfl, hr, i1, i2, i3⟩)
  · conv => whnf
    refine IxS.at' (i := 0) (o := 0) rfl (by decide) rfl ?_
    conv => whnf
    refine Ld.i ?_
    conv => whnf
    refine spl_intro (fun h4 => ?_) (fun h4 => ?_)
    conv => whnf
    · conv => whnf
      rw [six (by simp at h4; omega)]; exact Ret.eq rfl Imp.drop
    · have h4' : parts ≤ rem := by simpa using h4
      conv => whnf
      refine Ar.i64 (by omega) ?_
      conv => whnf
      refine Ar.i64 (by omega) ?_
      conv => whnf
      exact ⟨rfl, (1, rem - parts), .inr (.inl ⟨rfl, rfl, by simp only; omega⟩), fun t v h => h, Imp.refl _, by simp only; omega⟩
  · simp only at hr i1
    conv => whnf
    refine IxS.at' (i := 1) (o := 1) rfl (by decide) rfl ?_
    conv => whnf
    refine Ld.i ?_
    conv => whnf
    refine spl_intro (fun h4 => ?_) (fun h4 => ?_)
    conv => whnf
    · conv => whnf
      rw [six (by simp at h4; omega)]; exact Ret.eq rfl Imp.drop
    · have h4' : more ≤ rem := by simpa using h4
      conv => whnf
      refine Ar.i64 (by omega) ?_
      conv => whnf
      refine Ar.i64 (by omega) ?_
      conv => whnf
      exact ⟨rfl, (2, rem - more), .inr (.inr (.inl ⟨rfl, by simp only; omega, by omega, by simp only; omega⟩)), fun t v h => h, Imp.refl _, by simp only; omega⟩
  · simp only at hr i2
    conv => whnf
    refine IxS.at' (i := 2) (o := 2) rfl (by decide) rfl ?_
    conv => whnf
    refine Ld.i ?_
    conv => whnf
    refine spl_intro (fun h4 => ?_) (fun h4 => ?_)
    conv => whnf
    · conv => whnf
      rw [six (by simp at h4; omega)]; exact Ret.eq rfl Imp.drop
    · have h4' : promisedR M ≤ rem := by simpa using h4
      conv => whnf
      refine Ar.i64 (by omega) ?_
      conv => whnf
      refine Ar.i64 (by omega) ?_
      conv => whnf
      exact ⟨rfl, (3, rem - promisedR M), .inr (.inr (.inr ⟨rfl, by simp only; omega, by omega, by omega, by simp only; omega⟩)), fun t v h => h, Imp.refl _, by simp only; omega⟩
  · simp only at hr i3
    conv => whnf
    have e : mayR M free parts more = 0 := by
      simp only [mayR, hpos, if_false]
      rw [if_neg (by omega)]
    rw [e]; exact Ret.eq rfl Imp.drop
end Go.Proofs.Ytgepohccnknngaa
