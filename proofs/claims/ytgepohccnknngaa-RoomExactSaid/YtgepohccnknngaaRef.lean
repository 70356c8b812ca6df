/- The document's room: what it holds in memory, and what its functions do: the same as the program's. No condition. -/
import Derived.Test.YtgepohccnknngaaRoomRows
namespace Go.Proofs.Ytgepohccnknngaa
open Go Go.SL
set_option pp.maxSteps 400

abbrev RRow := (Int × Life) × (Option Addr × Nat)
def rtx (x : RRow) : List Value := [.int .i64 x.1.1, .int .i64 x.1.2.st, .slice x.2.1 x.1.2.held.length x.2.2]
instance : SizedC 3 rtx := ⟨fun _ => rfl⟩
def rcs (x : RRow) : HProp := vec t_int 1 ints x.2.1 x.2.2 x.1.2.held
def refc (b : Nat) (M : List (Int × Life)) : HProp := ex fun sa : Option Addr => ex fun sc : Nat => ex fun l : List RRow => SL.pure (l.map (·.1) = M) •
  pts b (.cells ⟨[.slice sa l.length sc]⟩ t_quotaref15_Room) • vec t_quotaref15_Tx 3 rtx sa sc l • bigL rcs l
theorem ref_open {W : World} {H R : HProp} {b : Nat} {M : List (Int × Life)} {f : FuncId} {args : Array Value} {Q : Ending → HProp → Prop} (ht : Take H (refc b M) R)
    (k : ∀ sa sc (l : List RRow), l.map (·.1) = M → Does prog W f args (pts b (.cells ⟨[.slice sa l.length sc]⟩ t_quotaref15_Room) • vec t_quotaref15_Tx 3 rtx sa sc l • bigL rcs l • R) Q) : Does prog W f args H Q := by
  rw [ht.eq]
  unfold refc
  refine Does.ex fun sa => Does.ex fun sc => Does.ex fun l => ?_
  rw [star_assoc]
  refine Does.pure fun hB => ?_
  rw [star_assoc, star_assoc]
  exact k sa sc l hB
theorem ref_shut {H R : HProp} {b : Nat} {M : List (Int × Life)} (sa : Option Addr) (sc : Nat) (l : List RRow) (hB : l.map (·.1) = M)
    (h : Imp H (pts b (.cells ⟨[.slice sa l.length sc]⟩ t_quotaref15_Room) • vec t_quotaref15_Tx 3 rtx sa sc l • bigL rcs l • R)) : Imp H (refc b M • R) :=
  Imp.exi sa (Imp.exi sc (Imp.exi l (Imp.assoc (Imp.purei hB (Imp.assoc (h.trans (Imp.right (Ent.of_eq (star_assoc _ _ _).symm).imp)))))))
theorem rtx_one (ys : List RRow) : ∀ v ∈ ys.flatMap rtx, v.oneCell' = true := by
  intro v hv
  obtain ⟨z, _, hz⟩ := List.mem_flatMap.1 hv
  simp only [rtx, List.mem_cons, List.not_mem_nil, or_false] at hz
  rcases hz with rfl | rfl | rfl <;> rfl

theorem rat_spec {W : World} {H R1 R2 : HProp} {b : Nat} {sa : Option Addr} {sc : Nat} {l : List RRow} {tx : Int} [PtsC H b (.cells ⟨[.slice sa l.length sc]⟩ t_quotaref15_Room) R1] [VecC H sa t_quotaref15_Tx 3 rtx sc l R2]
    (hb : l.length ≤ 4611686018427387904) :
    Does prog W f_quotaref15_Room_at ⟨[ptr b, .int .i64 tx]⟩ H (Ret fun v G => v = .int .i64 (posI tx (l.map fun r => r.1.1)) ∧ G = H) := by
  refine f_quotaref15_Room_at.does _ _ ?_
  conv => whnf
  refine LoopK.intro tab_ok (L := f_quotaref15_Room_at.live) (ι := Nat) (fun i => i ≤ l.length ∧ ∀ j < i, (l.map fun r => r.1.1)[j]? ≠ some tx)
    (fun i => [(0, ptr b), (1, .int .i64 tx), (5, .int .i64 i)]) (fun _ => H)
    (fun i => l.length - i) 0 ⟨by simp, by simp⟩ (fun t v h => h) (Imp.refl _) ?_
  rintro i ⟨hi, hlt⟩
  conv => whnf
  refine Ld.i ?_
  conv => whnf
  refine spl_intro (fun h1 => ?_) (fun h1 => ?_)
  · have h1' : i < l.length := by simpa using h1
    obtain ⟨y, hy⟩ : ∃ y, l[i]? = some y := ⟨_, List.getElem?_eq_getElem h1'⟩
    conv => whnf
    refine Ld.i ?_
    conv => whnf
    refine IxS.v (i := i) rfl rfl h1' (fun b off ha => ?_)
    conv => whnf
    subst ha
    conv => whnf
    refine Ld.v0 hy rfl ?_
    conv => whnf
    refine spl_intro (fun h2 => ?_) (fun h2 => ?_)
    · have h2' : y.1.1 = tx := by simpa using h2
      conv => whnf
      have e : posI tx (l.map fun r => r.1.1) = i := by rw [posI, posN_at tx _ i hlt (by simp [hy, h2'])]
      rw [e]; exact Ret.eq rfl (Imp.refl _)
    · have h2' : ¬ y.1.1 = tx := by simpa using h2
      conv => whnf
      refine Ar.i64 (by omega) ?_
      conv => whnf
      refine ⟨rfl, i + 1, ⟨by omega, fun j hj => ?_⟩, fun t v h => h, Imp.refl _, by omega⟩
      by_cases e : j = i
      · subst e; simpa [hy] using h2'
      · exact hlt j (by omega)
  · conv => whnf
    have h1' : i = l.length := by simp at h1; omega
    subst h1'
    have e : posI tx (l.map fun r => r.1.1) = -1 := by rw [posI, posN_none tx _ (by simpa using hlt)]
    rw [e]; exact Ret.eq rfl (Imp.refl _)

theorem rwithout_spec {W : World} {H R : HProp} {a : Option Addr} {n cap : Nat} {xs : List Int} {i : Nat} (ht : Take H (vec t_int 1 ints a cap xs) R) (hn : n = xs.length) (hi : i < xs.length) (hb : xs.length ≤ 1073741824) :
    Does prog W f_quotaref15_without ⟨[.slice a n cap, .int .i64 i]⟩ H (Ret fun v G => ∃ a' cap', v = .slice a' (xs.eraseIdx i).length cap' ∧ G = (vec t_int 1 ints a' cap' (xs.eraseIdx i) • H)) := by
  have he := ht.eq
  subst he hn
  refine Does.learn (p := xs.length ≤ cap) (fun w hs => vec_len hs) fun hcap => ?_
  refine f_quotaref15_without.does _ _ ?_
  conv => whnf
  refine OpX.of_quiet (OpQ.slh tab_ok rfl rfl rfl rfl ⟨by omega, by omega⟩ ?_)
  conv => whnf
  refine OpX.appendNil tab_ok ints (Sized.one _) ints_one rfl rfl rfl rfl rfl rfl (fun k h => by cases h) rfl rfl (xs.take i) (Src.take (Sized.one _) .here (by omega)) (by simp; omega) (by simp; omega) fun a1 cap1 => ?_
  conv => whnf
  refine Ar.i64 (by omega) ?_
  conv => whnf
  refine OpX.of_quiet (OpQ.sll tab_ok rfl rfl rfl rfl ⟨by omega, by omega⟩ ?_)
  conv => whnf
  have hsrc : ∀ w, Sat W (vec t_int 1 ints a1 cap1 (xs.take i) • vec t_int 1 ints a cap xs • R) w → _ := fun w hw => Src.drop (P := prog) (i := i + 1) (n := xs.length) (sz := 1) (enc := ints) (Sized.one _) (VecAt.there .here) rfl (by omega) w hw
  refine OpX.append tab_ok (Sized.one _) ints_one rfl rfl rfl rfl rfl rfl (fun k h => by cases h) rfl (by simp; omega) rfl (ys := xs.drop (i + 1)) hsrc (by simp) .here (by simp; omega) fun a2 cap2 => ?_
  conv => whnf
  rw [← List.eraseIdx_eq_take_drop_succ]
  refine ⟨_, _, rfl, Imp.refl _, a2, cap2, ?_, rfl⟩
  rw [List.length_eraseIdx, if_pos hi]
  congr 1; omega

theorem rnew_spec {W : World} {H : HProp} : Does prog W f_quotaref15_New ⟨[]⟩ H (Ret fun v G => ∃ r, v = ptr r ∧ G = (refc r [] • H)) := by
  refine f_quotaref15_New.does ?_
  conv => whnf
  intro r hr
  conv => whnf
  refine ⟨_, _, rfl, ref_shut none 0 [] rfl (Imp.pick ?_), r, rfl, rfl⟩
  have := (vec_nil (t := t_quotaref15_Tx) (sz := 3) (enc := rtx)).imp.left (Q := H)
  rw [emp_star] at this
  refine this.trans (Imp.right ?_)
  show Imp H (emp • H)
  rw [emp_star]; exact Imp.refl _
theorem rtxpromised_spec {W : World} {H : HProp} {x : RRow} (hw : WfL x.1.2) :
    Does prog W f_quotaref15_Tx_promised ⟨[.agg ⟨[.int .i64 x.1.1, .int .i64 x.1.2.st, .slice x.2.1 x.1.2.held.length x.2.2]⟩]⟩ H (Ret fun v G => v = .int .i64 x.1.2.promised ∧ G = H) := by
  have hl := hw.len
  refine f_quotaref15_Tx_promised.does _ ?_
  conv => whnf
  intro ob hob
  conv => whnf
  refine Ld.i ?_
  conv => whnf
  refine spl_intro (fun h1 => ?_) (fun h1 => ?_)
  · have h1' : x.1.2.st = 1 := by simpa using h1
    conv => whnf
    rw [show x.1.2.promised = 1 by simp [Life.promised, h1']]
    exact Ret.eq rfl Imp.drop
  have h1' : ¬ x.1.2.st = 1 := by simpa using h1
  conv => whnf
  refine spl_intro (fun h2 => ?_) (fun h2 => ?_)
  · have h2' : x.1.2.st = 2 := by simpa using h2
    conv => whnf
    refine Ld.i ?_
    conv => whnf
    refine Ar.i64 (by omega) ?_
    conv => whnf
    rw [show x.1.2.promised = 1 + x.1.2.held.length by simp [Life.promised, h2']]
    exact Ret.eq rfl Imp.drop
  · have h2' : ¬ x.1.2.st = 2 := by simpa using h2
    conv => whnf
    refine Ld.i ?_
    conv => whnf
    refine Ar.i64 (by omega) ?_
    conv => whnf
    rw [show x.1.2.promised = 2 + x.1.2.held.length by have := hw.st; simp [Life.promised, show x.1.2.st = 0 by omega]]
    exact Ret.eq rfl Imp.drop
theorem rholds_spec {W : World} {H R : HProp} {x : RRow} {c : Int} (ht : Take H (vec t_int 1 ints x.2.1 x.2.2 x.1.2.held) R) (hb : x.1.2.held.length ≤ 4611686018427387904) :
    Does prog W f_quotaref15_Tx_holds ⟨[.agg ⟨[.int .i64 x.1.1, .int .i64 x.1.2.st, .slice x.2.1 x.1.2.held.length x.2.2]⟩, .int .i64 c]⟩ H (Ret fun v G => v = .int .i64 (posI c x.1.2.held) ∧ G = H) := by
  have he := ht.eq
  subst he
  obtain ⟨⟨k, ⟨st, xs⟩⟩, a, cap⟩ := x
  dsimp only at hb ⊢
  refine f_quotaref15_Tx_holds.does _ _ ?_
  conv => whnf
  intro ob hob
  conv => whnf
  refine LoopK.intro tab_ok (L := f_quotaref15_Tx_holds.live) (ι := Nat) (fun i => i ≤ xs.length ∧ ∀ j < i, xs[j]? ≠ some c)
    (fun i => [(1, .int .i64 c), (2, ptr ob), (5, .int .i64 i)]) (fun _ => pts ob (.cells ⟨[.int .i64 k, .int .i64 st, .slice a xs.length cap]⟩ t_quotaref15_Tx) • vec t_int 1 ints a cap xs • R)
    (fun i => xs.length - i) 0 ⟨by simp, by simp⟩ (fun t v h => h) (Imp.refl _) ?_
  rintro i ⟨hi, hlt⟩
  conv => whnf
  refine Ld.i ?_
  conv => whnf
  refine spl_intro (fun h1 => ?_) (fun h1 => ?_)
  · have h1' : i < xs.length := by simpa using h1
    obtain ⟨y, hy⟩ : ∃ y, xs[i]? = some y := ⟨_, List.getElem?_eq_getElem h1'⟩
    conv => whnf
    refine Ld.i ?_
    conv => whnf
    refine IxS.v (i := i) rfl rfl h1' (fun b off ha => ?_)
    conv => whnf
    subst ha
    conv => whnf
    refine Ld.v0 hy rfl ?_
    conv => whnf
    refine spl_intro (fun h2 => ?_) (fun h2 => ?_)
    · have h2' : y = c := by simpa using h2
      conv => whnf
      have e : posI c xs = i := by rw [posI, posN_at c xs i hlt (by rw [hy, h2'])]
      rw [e]; exact Ret.eq rfl Imp.drop
    · have h2' : ¬ y = c := by simpa using h2
      conv => whnf
      refine Ar.i64 (by omega) ?_
      conv => whnf
      refine ⟨rfl, i + 1, ⟨by omega, fun j hj => ?_⟩, fun t v h => h, Imp.refl _, by omega⟩
      by_cases e : j = i
      · subst e; rw [hy]; simpa using h2'
      · exact hlt j (by omega)
  · conv => whnf
    have h1' : i = xs.length := by simp at h1; omega
    subst h1'
    have e : posI c xs = -1 := by rw [posI, posN_none c xs hlt]
    rw [e]; exact Ret.eq rfl Imp.drop

theorem ref_chunk {W : World} {H R : HProp} {r : Nat} {M : List (Int × Life)} {f : FuncId} {args : Array Value} {v : Value} (ht : Take H (refc r M) R)
    (k : ∀ sa sc (l : List RRow), l.map (·.1) = M → Does prog W f args (pts r (.cells ⟨[.slice sa l.length sc]⟩ t_quotaref15_Room) • vec t_quotaref15_Tx 3 rtx sa sc l • bigL rcs l • R)
      (Ret fun u G => u = v ∧ G = (pts r (.cells ⟨[.slice sa l.length sc]⟩ t_quotaref15_Room) • vec t_quotaref15_Tx 3 rtx sa sc l • bigL rcs l • R))) :
    Does prog W f args H (Ret fun u G => u = v ∧ G = H) := by
  refine ref_open ht fun sa sc l hM => ?_
  refine Does.post (k sa sc l hM) ?_
  rintro e w H' hs ⟨u, G, rfl, hi, rfl, rfl⟩
  exact ⟨_, hs.imp (hi.trans (ref_shut sa sc l hM (Imp.refl _))), _, _, rfl, Imp.refl _, rfl, ht.eq.symm⟩
theorem promisedR_take (M : List (Int × Life)) (i : Nat) (p : Int × Life) (h : M[i]? = some p) : promisedR (M.take (i + 1)) = promisedR (M.take i) + p.2.promised := by
  rw [List.take_add_one, h]
  simp [promisedR]
theorem ref_at {M : List (Int × Life)} {l : List RRow} (hM : l.map (fun r : RRow => r.1) = M) {i : Nat} {x : RRow} (hx : l[i]? = some x) (hwf : WfR M) :
    M[i]? = some x.1 ∧ WfL x.1.2 ∧ M.lookup x.1.1 = some x.1.2 := by
  have h1 : M[i]? = some x.1 := by rw [← hM, List.getElem?_map, hx]; rfl
  have hm := List.mem_of_getElem? h1
  exact ⟨h1, hwf.each _ hm, lookup_of_mem x.1.1 x.1.2 M hwf.nd hm⟩
theorem rpromised_spec {W : World} {H R1 R2 : HProp} {b : Nat} {sa : Option Addr} {sc : Nat} {l : List RRow} {M : List (Int × Life)} [PtsC H b (.cells ⟨[.slice sa l.length sc]⟩ t_quotaref15_Room) R1] [VecC H sa t_quotaref15_Tx 3 rtx sc l R2]
    (hM : l.map (fun r : RRow => r.1) = M) (hwf : WfR M) :
    Does prog W f_quotaref15_Room_Promised ⟨[ptr b]⟩ H (Ret fun v G => v = .int .i64 (promisedR M) ∧ G = H) := by
  have hll : l.length = M.length := by rw [← hM]; simp
  have hlen := hwf.len
  have hbt : ∀ i, 0 ≤ promisedR (M.take i) ∧ promisedR (M.take i) ≤ 1002000 := fun i => by
    have h1 := promisedR_bd (M.take i) (fun p hp => hwf.small.mem hwf.nd p (List.mem_of_mem_take hp))
    have h2 : (M.take i).length ≤ 1000 := by rw [List.length_take]; omega
    omega
  refine f_quotaref15_Room_Promised.does _ ?_
  conv => whnf
  refine LoopK.intro tab_ok (L := f_quotaref15_Room_Promised.live) (ι := Nat × Int) (fun i => i.1 ≤ l.length ∧ i.2 = promisedR (M.take i.1))
    (fun i => [(0, ptr b), (3, .int .i64 i.2), (4, .int .i64 i.1)]) (fun _ => H)
    (fun i => l.length - i.1) (0, 0) ⟨by simp, by simp [promisedR]⟩ (fun t v h => h) (Imp.refl _) ?_
  rintro ⟨i, s⟩ ⟨hi, hs⟩
  dsimp only at hi hs ⊢
  conv => whnf
  refine Ld.i ?_
  conv => whnf
  refine spl_intro (fun h1 => ?_) (fun h1 => ?_)
  · have h1' : i < l.length := by simpa using h1
    obtain ⟨y, hy⟩ : ∃ y, l[i]? = some y := ⟨_, List.getElem?_eq_getElem h1'⟩
    obtain ⟨hp, hw, hlk⟩ := ref_at hM hy hwf
    have hst := promisedR_take M i _ hp
    have hb1 := hbt i
    have hb2 := hbt (i + 1)
    conv => whnf
    refine Ld.i ?_
    conv => whnf
    refine IxS.v (i := i) rfl rfl h1' (fun b off ha => ?_)
    conv => whnf
    subst ha
    conv => whnf
    refine LdN.v hy rfl ?_
    conv => whnf
    refine CallK.ret f_quotaref15_Tx_promised.ok (rtxpromised_spec (x := y) hw) ?_
    rintro v G ⟨rfl, rfl⟩
    conv => whnf
    refine Ar.i64 (by omega) ?_
    conv => whnf
    refine Ar.i64 (by omega) ?_
    conv => whnf
    exact ⟨rfl, (i + 1, s + y.1.2.promised), ⟨by simp only; omega, by simp only; omega⟩, fun t v h => h, Imp.refl _, by simp only; omega⟩
  · conv => whnf
    have h1' : i = l.length := by simp at h1; omega
    have hfull : M.take i = M := List.take_of_length_le (by omega)
    rw [hfull] at hs
    rw [hs]; exact Ret.eq rfl (Imp.refl _)
theorem rof_spec {W : World} {H R1 R2 : HProp} {b : Nat} {sa : Option Addr} {sc : Nat} {l : List RRow} {M : List (Int × Life)} {tx : Int} [PtsC H b (.cells ⟨[.slice sa l.length sc]⟩ t_quotaref15_Room) R1] [VecC H sa t_quotaref15_Tx 3 rtx sc l R2]
    (hM : l.map (fun r : RRow => r.1) = M) (hwf : WfR M) :
    Does prog W f_quotaref15_Room_Of ⟨[ptr b, .int .i64 tx]⟩ H (Ret fun v G => v = .int .i64 (ofR M tx) ∧ G = H) := by
  have hll : l.length = M.length := by rw [← hM]; simp
  have hlen := hwf.len
  have hk : (l.map fun r => r.1.1) = M.map (·.1) := by rw [← hM]; simp [Function.comp_def]
  refine f_quotaref15_Room_Of.does _ _ ?_
  conv => whnf
  refine CallK.ret f_quotaref15_Room_at.ok (rat_spec (by omega)) ?_
  rintro v G ⟨rfl, rfl⟩
  rw [hk]
  cases hL : M.lookup tx with
  | none =>
    rw [posI_no (posN_of_none tx M hL)]
    conv => whnf
    rw [show ofR M tx = 0 by rw [ofR, hL]]
    exact Ret.eq rfl (Imp.refl _)
  | some L =>
    obtain ⟨i, p1, p2, _⟩ := posN_of_lookup tx M L hL
    rw [posI_of p1]
    have hx : ∃ x, l[i]? = some x ∧ x.1 = (tx, L) := by
      rw [← hM, List.getElem?_map] at p2
      exact Option.map_eq_some_iff.1 p2
    obtain ⟨x, hx, hx1⟩ := hx
    have hil : i < l.length := by
      rcases Nat.lt_or_ge i l.length with h | h
      · exact h
      · simp [List.getElem?_eq_none h] at hx
    obtain ⟨_, hw, _⟩ := ref_at hM hx hwf
    conv => whnf
    refine Ld.i ?_
    conv => whnf
    refine IxS.v (i := i) rfl rfl hil (fun b off ha => ?_)
    conv => whnf
    subst ha
    conv => whnf
    refine LdN.v hx rfl ?_
    conv => whnf
    refine CallK.ret f_quotaref15_Tx_promised.ok (rtxpromised_spec (x := x) hw) ?_
    rintro v G ⟨rfl, rfl⟩
    conv => whnf
    rw [show ofR M tx = x.1.2.promised by rw [ofR, hL, hx1]]
    exact Ret.eq rfl (Imp.refl _)

theorem rmay_spec {W : World} {H R1 R2 : HProp} {b : Nat} {sa : Option Addr} {sc : Nat} {l : List RRow} {M : List (Int × Life)} {free parts more : Int} [PtsC H b (.cells ⟨[.slice sa l.length sc]⟩ t_quotaref15_Room) R1] [VecC H sa t_quotaref15_Tx 3 rtx sc l R2]
    (hM : l.map (fun r : RRow => r.1) = M) (hwf : WfR M)
    (hb : (-9223372036854775808 ≤ free ∧ free ≤ 9223372036854775807) ∧ (-9223372036854775808 ≤ parts ∧ parts ≤ 9223372036854775807) ∧ (-9223372036854775808 ≤ more ∧ more ≤ 9223372036854775807)) :
    Does prog W f_quotaref15_Room_May ⟨[ptr b, .int .i64 free, .int .i64 parts, .int .i64 more]⟩ H (Ret fun v G => v = .int .i64 (mayR M free parts more) ∧ G = H) := by
  refine f_quotaref15_Room_May.does _ _ _ _ ?_
  conv => whnf
  by_cases h1 : free < 0
  refine spl_t (by simp; omega) ?_
  conv => whnf
  rw [show mayR M free parts more = 4 by rw [mayR, if_pos (by omega)]]
  exact Ret.eq rfl (Imp.refl _)
  refine spl_f (by simp; omega) ?_
  conv => whnf
  by_cases h2 : parts < 0
  refine spl_t (by simp; omega) ?_
  conv => whnf
  rw [show mayR M free parts more = 4 by rw [mayR, if_pos (by omega)]]
  exact Ret.eq rfl (Imp.refl _)
  refine spl_f (by simp; omega) ?_
  conv => whnf
  by_cases h3 : more < 0
  refine spl_t (by simp; omega) ?_
  conv => whnf
  rw [show mayR M free parts more = 4 by rw [mayR, if_pos (by omega)]]
  exact Ret.eq rfl (Imp.refl _)
  refine spl_f (by simp; omega) ?_
  conv => whnf
  have e0 : mayR M free parts more = if free < parts ∨ free - parts < more ∨ free - parts - more < promisedR M then 6 else 0 := by rw [mayR, if_neg (by omega)]
  rw [e0]
  by_cases h4 : free < parts
  refine spl_t (by simp; omega) ?_
  conv => whnf
  rw [if_pos (by omega)]
  exact Ret.eq rfl (Imp.refl _)
  refine spl_f (by simp; omega) ?_
  conv => whnf
  refine Ar.i64 (by omega) ?_
  conv => whnf
  by_cases h5 : free - parts < more
  refine spl_t (by simp; omega) ?_
  conv => whnf
  rw [if_pos (by omega)]
  exact Ret.eq rfl (Imp.refl _)
  refine spl_f (by simp; omega) ?_
  conv => whnf
  refine CallK.ret f_quotaref15_Room_Promised.ok (rpromised_spec hM hwf) ?_
  rintro v G ⟨rfl, rfl⟩
  conv => whnf
  refine Ar.i64 (by omega) ?_
  conv => whnf
  refine Ar.i64 (by omega) ?_
  conv => whnf
  by_cases h6 : free - parts - more < promisedR M
  refine spl_t (by simp; omega) ?_
  conv => whnf
  rw [if_pos (by omega)]
  exact Ret.eq rfl (Imp.refl _)
  refine spl_f (by simp; omega) ?_
  conv => whnf
  rw [if_neg (by omega)]
  exact Ret.eq rfl (Imp.refl _)

theorem rbegin_spec {W : World} {H R : HProp} {r : Nat} {M : List (Int × Life)} {tx : Int} (ht : Take H (refc r M) R) (hwf : WfR M) :
    Does prog W f_quotaref15_Room_Begin ⟨[ptr r, .int .i64 tx]⟩ H (Ret fun v G => v = .int .i64 (beginR M tx).1 ∧ G = (refc r (beginR M tx).2 • R)) := by
  refine ref_open ht fun sa sc l hM => ?_
  have hll : l.length = M.length := by rw [← hM]; simp
  have hlen := hwf.len
  have hk : (l.map fun r => r.1.1) = M.map (·.1) := by rw [← hM]; simp [Function.comp_def]
  refine f_quotaref15_Room_Begin.does _ _ ?_
  conv => whnf
  by_cases h1 : tx < 1
  refine spl_t (by simp; omega) ?_
  conv => whnf
  rw [show beginR M tx = (4, M) by rw [beginR, if_pos (by omega)]]
  exact Ret.eq rfl (ref_shut sa sc l hM (Imp.refl _))
  refine spl_f (by simp; omega) ?_
  conv => whnf
  by_cases h2 : 2147483647 < tx
  refine spl_t (by simp; omega) ?_
  conv => whnf
  rw [show beginR M tx = (4, M) by rw [beginR, if_pos (by omega)]]
  exact Ret.eq rfl (ref_shut sa sc l hM (Imp.refl _))
  refine spl_f (by simp; omega) ?_
  conv => whnf
  refine CallK.ret f_quotaref15_Room_at.ok (rat_spec (by omega)) ?_
  rintro v G ⟨rfl, rfl⟩
  rw [hk]
  cases hL : M.lookup tx with
  | some L =>
    obtain ⟨i, p1, _, _⟩ := posN_of_lookup tx M L hL
    rw [posI_of p1]
    conv => whnf
    rw [show beginR M tx = (121, M) by rw [beginR, if_neg (by omega), if_pos (by rw [hL]; rfl)]]
    exact Ret.eq rfl (ref_shut sa sc l hM (Imp.refl _))
  | none =>
    rw [posI_no (posN_of_none tx M hL)]
    conv => whnf
    refine Ld.i ?_
    conv => whnf
    by_cases h3 : 32 ≤ M.length
    refine spl_t (decide_eq_true (by omega)) ?_
    conv => whnf
    rw [show beginR M tx = (131, M) by rw [beginR, if_neg (by omega), if_neg (by rw [hL]; decide), if_pos h3]]
    exact Ret.eq rfl (ref_shut sa sc l hM (Imp.refl _))
    refine spl_f (decide_eq_false (by omega)) ?_
    conv => whnf
    rw [show beginR M tx = (0, M ++ [(tx, ⟨0, []⟩)]) by rw [beginR, if_neg (by omega), if_neg (by rw [hL]; decide), if_neg h3, updKV_none _ _ _ (no_key hL)]]
    refine Ld.i ?_
    conv => whnf
    intro bl hbl
    conv => whnf
    refine OpX.app1 (enc := rtx) tab_ok rfl rfl rfl rfl (⟨(tx, ⟨0, []⟩), none, 0⟩ : RRow) rfl rfl (by omega) ⟨rfl, rtx_one⟩ fun a' cap' => ?_
    conv => whnf
    refine St.i ⟨rfl, rfl⟩ (by simp) ?_
    conv => whnf
    refine Ret.eq rfl (ref_shut a' cap' (l ++ [(⟨(tx, ⟨0, []⟩), none, 0⟩ : RRow)]) (by simp [hM]) ?_)
    rw [bigL_append]
    have hnil : Imp emp (rcs (⟨(tx, ⟨0, []⟩), none, 0⟩ : RRow)) := vec_nil.imp
    simp only [List.length_append, List.length_cons, List.length_nil]
    refine Imp.pick (Imp.pick (Imp.assoc (Imp.pick ?_)))
    exact Imp.drop.trans (Imp.newrow hnil)

theorem rhold_spec {W : World} {H R : HProp} {r : Nat} {M : List (Int × Life)} {tx c : Int} (ht : Take H (refc r M) R) (hwf : WfR M) :
    Does prog W f_quotaref15_Room_Hold ⟨[ptr r, .int .i64 tx, .int .i64 c]⟩ H (Ret fun v G => v = .int .i64 (holdR M tx c).1 ∧ G = (refc r (holdR M tx c).2 • R)) := by
  refine ref_open ht fun sa sc l hM => ?_
  have hll : l.length = M.length := by rw [← hM]; simp
  have hlen := hwf.len
  have hk : (l.map fun r => r.1.1) = M.map (·.1) := by rw [← hM]; simp [Function.comp_def]
  cases hL : M.lookup tx with
  | none =>
    refine f_quotaref15_Room_Hold.does _ _ _ ?_
    conv => whnf
    refine CallK.ret f_quotaref15_Room_at.ok (rat_spec (by omega)) ?_
    rintro v G ⟨rfl, rfl⟩
    rw [hk, posI_no (posN_of_none tx M hL)]
    conv => whnf
    rw [show holdR M tx c = (130, M) by rw [holdR, hL]]
    exact Ret.eq rfl (ref_shut sa sc l hM (Imp.refl _))
  | some L =>
    obtain ⟨i, p1, p2, p3⟩ := posN_of_lookup tx M L hL
    obtain ⟨x, hx, hx1⟩ : ∃ x, l[i]? = some x ∧ x.1 = (tx, L) := by
      rw [← hM, List.getElem?_map] at p2
      exact Option.map_eq_some_iff.1 p2
    have hil : i < l.length := by
      rcases Nat.lt_or_ge i l.length with h | h
      · exact h
      · simp [List.getElem?_eq_none h] at hx
    obtain ⟨_, hw, _⟩ := ref_at hM hx hwf
    obtain ⟨x1, ca, cc⟩ := x
    simp only at hx1 hw
    subst hx1
    have hwl : L.held.length ≤ 64 := hw.len
    rw [show bigL rcs l = _ from bigL_take rcs l i _ hx]
    refine Does.imp (H' := pts r (.cells ⟨[.slice sa l.length sc]⟩ t_quotaref15_Room) • vec t_quotaref15_Tx 3 rtx sa sc l • vec t_int 1 ints ca cc L.held • bigL rcs (l.eraseIdx i) • R) (Imp.pick (Imp.pick (by rw [star_assoc]; exact Imp.refl _))) ?_
    refine Does.learn (p := l.length ≤ sc) (fun w hs => vec_len hs.right) fun hcap => ?_
    have same : ∀ {H}, Imp H (pts r (.cells ⟨[.slice sa l.length sc]⟩ t_quotaref15_Room) • vec t_quotaref15_Tx 3 rtx sa sc l • vec t_int 1 ints ca cc L.held • bigL rcs (l.eraseIdx i) • R) → Imp H (refc r M • R) := fun hi => by
      refine ref_shut sa sc l hM (hi.trans ?_)
      rw [show bigL rcs l = _ from bigL_take rcs l i _ hx]
      exact Imp.pick (Imp.pick (Imp.assoc (Imp.refl _)))
    have shut : ∀ (L' : Life) (a' : Option Addr) (cap' : Nat) {H}, Imp H (pts r (.cells ⟨[.slice sa l.length sc]⟩ t_quotaref15_Room) • vec t_quotaref15_Tx 3 rtx sa sc (l.set i ((tx, L'), a', cap')) • vec t_int 1 ints a' cap' L'.held • bigL rcs (l.eraseIdx i) • R) → Imp H (refc r (updKV tx L' M) • R) := fun L' a' cap' _ hi => by
      refine ref_shut sa sc (l.set i ((tx, L'), a', cap')) (by rw [List.map_set, hM, p3]) (hi.trans ?_)
      rw [show bigL rcs (l.set i ((tx, L'), a', cap')) = _ from bigL_set rcs ((tx, L'), a', cap') l i _ hx, List.length_set]
      exact Imp.pick (Imp.pick (Imp.assoc (Imp.refl _)))
    refine f_quotaref15_Room_Hold.does _ _ _ ?_
    conv => whnf
    refine CallK.ret f_quotaref15_Room_at.ok (rat_spec (by omega)) ?_
    rintro v G ⟨rfl, rfl⟩
    rw [hk, posI_of p1]
    conv => whnf
    by_cases h1 : c < 1
    refine spl_t (by simp; omega) ?_
    conv => whnf
    rw [show holdR M tx c = (4, M) by simp only [holdR, hL]; rw [if_pos (by omega)]]
    exact Ret.eq rfl (same (Imp.refl _))
    refine spl_f (by simp; omega) ?_
    conv => whnf
    by_cases h2 : 1048576 < c
    refine spl_t (by simp; omega) ?_
    conv => whnf
    rw [show holdR M tx c = (4, M) by simp only [holdR, hL]; rw [if_pos (by omega)]]
    exact Ret.eq rfl (same (Imp.refl _))
    refine spl_f (by simp; omega) ?_
    conv => whnf
    refine Ld.i ?_
    conv => whnf
    refine IxS.v (i := i) rfl rfl hil (fun ab off ha => ?_)
    conv => whnf
    subst ha
    conv => whnf
    refine Ld.v hx rfl ?_
    conv => whnf
    by_cases h3 : L.st = 0
    rotate_left 1
    refine spl_t (by simp [h3]) ?_
    conv => whnf
    rw [show holdR M tx c = (70, M) by simp only [holdR, hL]; rw [if_neg (by omega), if_pos h3]]
    exact Ret.eq rfl (same (Imp.refl _))
    refine spl_f (by simp [h3]) ?_
    conv => whnf
    refine Ld.i ?_
    conv => whnf
    refine IxS.v (i := i) rfl rfl hil (fun ab' off' ha => ?_)
    conv => whnf
    cases ha
    conv => whnf
    refine LdN.v hx rfl ?_
    conv => whnf
    refine CallK.ret f_quotaref15_Tx_holds.ok (rholds_spec (x := ((tx, L), ca, cc)) (.there (.there .here)) (by simp only; omega)) ?_
    rintro v G ⟨rfl, rfl⟩
    dsimp only
    cases hq : posN c L.held with
    | some j =>
      rw [posI_of hq]
      conv => whnf
      have hin : c ∈ L.held := List.mem_of_getElem? (posN_some hq)
      rw [show holdR M tx c = (0, M) by simp only [holdR, hL]; rw [if_neg (by omega), if_neg (by simp [h3]), if_pos hin]]
      exact Ret.eq rfl (same (Imp.refl _))
    | none =>
      rw [posI_no hq]
      have hin : ¬ c ∈ L.held := posN_none_iff.1 hq
      conv => whnf
      refine Ld.i ?_
      conv => whnf
      refine IxS.v (i := i) rfl rfl hil (fun ab' off' ha => ?_)
      conv => whnf
      cases ha
      conv => whnf
      refine Ld.v hx rfl ?_
      conv => whnf
      by_cases h4 : 64 ≤ L.held.length
      refine spl_t (decide_eq_true (by simp only; omega)) ?_
      conv => whnf
      rw [show holdR M tx c = (131, M) by simp only [holdR, hL]; rw [if_neg (by omega), if_neg (by simp [h3]), if_neg hin, if_pos h4]]
      exact Ret.eq rfl (same (Imp.refl _))
      refine spl_f (decide_eq_false (by simp only; omega)) ?_
      conv => whnf
      rw [show holdR M tx c = (0, updKV tx ⟨L.st, L.held ++ [c]⟩ M) by simp only [holdR, hL]; rw [if_neg (by omega), if_neg (by simp [h3]), if_neg hin, if_neg h4]]
      refine DrawK.intro tab_ok mixed f_quotaref15_Room_Hold.last12 f_quotaref15_Room_Hold.plan12 (pts r (.cells ⟨[.slice (some ⟨ab, off, none⟩) l.length sc]⟩ t_quotaref15_Room) • vec t_quotaref15_Tx 3 rtx (some ⟨ab, off, none⟩) sc l • emp) (by kernel_rfl) (Sub.of (Imp.pick (Imp.pick (Imp.emp _)))) ?_
      conv => whnf
      refine Ld.i ?_
      conv => whnf
      refine Ld.i ?_
      conv => whnf
      refine IxS.v (i := i) rfl rfl hil (fun ab' off' ha => ?_)
      conv => whnf
      cases ha
      conv => whnf
      refine Ld.v hx rfl ?_
      conv => whnf
      intro bl hbl
      conv => whnf
      refine ⟨Sub.of (Imp.pick (Imp.pick (Imp.emp _))), ?_⟩
      conv => whnf
      refine OpX.app1 (a := ca) (enc := ints) tab_ok rfl rfl rfl rfl c rfl rfl (by simp only; omega) ⟨rfl, ints_one⟩ fun a' cap' => ?_
      conv => whnf
      refine ⟨Sub.of (Imp.pick (Imp.pick (Imp.emp _))), ?_⟩
      conv => whnf
      refine IxS.v (i := i) rfl rfl hil (fun ab' off' ha => ?_)
      conv => whnf
      cases ha
      conv => whnf
      refine St.v hx ((tx, ⟨L.st, L.held ++ [c]⟩), a', cap') (by simp [rtx]) (by simp) ⟨rfl, rfl⟩ ?_
      conv => whnf
      exact Ret.eq rfl (shut ⟨L.st, L.held ++ [c]⟩ a' cap' (Imp.pick (Imp.pick (Imp.pick (Imp.pick (Imp.drop.trans (Imp.refl _)))))))

theorem rwrote_spec {W : World} {H R : HProp} {r : Nat} {M : List (Int × Life)} {tx kind c : Int} (ht : Take H (refc r M) R) (hwf : WfR M) :
    Does prog W f_quotaref15_Room_Wrote ⟨[ptr r, .int .i64 tx, .int .i64 kind, .int .i64 c]⟩ H (Ret fun v G => v = .int .i64 (wroteR M tx kind c).1 ∧ G = (refc r (wroteR M tx kind c).2 • R)) := by
  refine ref_open ht fun sa sc l hM => ?_
  have hll : l.length = M.length := by rw [← hM]; simp
  have hlen := hwf.len
  have hk : (l.map fun r => r.1.1) = M.map (·.1) := by rw [← hM]; simp [Function.comp_def]
  cases hL : M.lookup tx with
  | none =>
    refine f_quotaref15_Room_Wrote.does _ _ _ _ ?_
    conv => whnf
    refine CallK.ret f_quotaref15_Room_at.ok (rat_spec (by omega)) ?_
    rintro v G ⟨rfl, rfl⟩
    rw [hk, posI_no (posN_of_none tx M hL)]
    conv => whnf
    rw [show wroteR M tx kind c = (130, M) by rw [wroteR, hL]]
    exact Ret.eq rfl (ref_shut sa sc l hM (Imp.refl _))
  | some L =>
    obtain ⟨i, p1, p2, p3⟩ := posN_of_lookup tx M L hL
    obtain ⟨x, hx, hx1⟩ : ∃ x, l[i]? = some x ∧ x.1 = (tx, L) := by
      rw [← hM, List.getElem?_map] at p2
      exact Option.map_eq_some_iff.1 p2
    have hil : i < l.length := by
      rcases Nat.lt_or_ge i l.length with h | h
      · exact h
      · simp [List.getElem?_eq_none h] at hx
    obtain ⟨_, hw, _⟩ := ref_at hM hx hwf
    obtain ⟨x1, ca, cc⟩ := x
    simp only at hx1 hw
    subst hx1
    have hwl : L.held.length ≤ 64 := hw.len
    rw [show bigL rcs l = _ from bigL_take rcs l i _ hx]
    refine Does.imp (H' := pts r (.cells ⟨[.slice sa l.length sc]⟩ t_quotaref15_Room) • vec t_quotaref15_Tx 3 rtx sa sc l • vec t_int 1 ints ca cc L.held • bigL rcs (l.eraseIdx i) • R) (Imp.pick (Imp.pick (by rw [star_assoc]; exact Imp.refl _))) ?_
    refine Does.learn (p := l.length ≤ sc) (fun w hs => vec_len hs.right) fun hcap => ?_
    have same : ∀ {H}, Imp H (pts r (.cells ⟨[.slice sa l.length sc]⟩ t_quotaref15_Room) • vec t_quotaref15_Tx 3 rtx sa sc l • vec t_int 1 ints ca cc L.held • bigL rcs (l.eraseIdx i) • R) → Imp H (refc r M • R) := fun hi => by
      refine ref_shut sa sc l hM (hi.trans ?_)
      rw [show bigL rcs l = _ from bigL_take rcs l i _ hx]
      exact Imp.pick (Imp.pick (Imp.assoc (Imp.refl _)))
    have shut : ∀ (L' : Life) (a' : Option Addr) (cap' : Nat) {H}, Imp H (pts r (.cells ⟨[.slice sa l.length sc]⟩ t_quotaref15_Room) • vec t_quotaref15_Tx 3 rtx sa sc (l.set i ((tx, L'), a', cap')) • vec t_int 1 ints a' cap' L'.held • bigL rcs (l.eraseIdx i) • R) → Imp H (refc r (updKV tx L' M) • R) := fun L' a' cap' _ hi => by
      refine ref_shut sa sc (l.set i ((tx, L'), a', cap')) (by rw [List.map_set, hM, p3]) (hi.trans ?_)
      rw [show bigL rcs (l.set i ((tx, L'), a', cap')) = _ from bigL_set rcs ((tx, L'), a', cap') l i _ hx, List.length_set]
      exact Imp.pick (Imp.pick (Imp.assoc (Imp.refl _)))
    refine f_quotaref15_Room_Wrote.does _ _ _ _ ?_
    conv => whnf
    refine CallK.ret f_quotaref15_Room_at.ok (rat_spec (by omega)) ?_
    rintro v G ⟨rfl, rfl⟩
    rw [hk, posI_of p1]
    conv => whnf
    refine Ld.i ?_
    conv => whnf
    refine IxS.v (i := i) rfl rfl hil (fun ab off ha => ?_)
    conv => whnf
    subst ha
    conv => whnf
    refine LdN.v (l := [.int .i64 tx, .int .i64 L.st, .slice ca L.held.length cc]) hx rfl ?_
    conv => whnf
    intro tb htb
    conv => whnf
    refine St.i ⟨rfl, rfl⟩ (by simp) ?_
    conv => whnf
    by_cases w5 : kind = 5
    refine spl_t (by simp [w5]) ?_
    conv => whnf
    refine Ld.i ?_
    conv => whnf
    by_cases s0 : ¬ L.st = 0
    refine spl_t (by simp [s0]) ?_
    conv => whnf
    rw [show wroteR M tx kind c = (70, M) by simp only [wroteR, hL]; rw [if_pos w5, if_neg s0]]
    exact Ret.eq rfl (same Imp.drop)
    rw [Classical.not_not] at s0
    refine spl_f (by simp [s0]) ?_
    conv => whnf
    refine Ld.i ?_
    conv => whnf
    refine IxS.v (i := i) rfl rfl hil (fun ab' off' ha => ?_)
    conv => whnf
    cases ha
    conv => whnf
    refine St.v hx ((tx, ⟨1, L.held⟩), ca, cc) (by simp [rtx]) (by simp) ⟨rfl, rfl⟩ ?_
    conv => whnf
    refine spl_f (by simp [w5]) ?_
    conv => whnf
    rw [show wroteR M tx kind c = (0, updKV tx ⟨1, L.held⟩ M) by simp only [wroteR, hL]; rw [if_pos w5, if_pos s0]]
    exact Ret.eq rfl (shut ⟨1, L.held⟩ ca cc (Imp.pick (Imp.pick (Imp.pick (Imp.pick (Imp.drop.trans (Imp.refl _)))))))
    refine spl_f (by simp [w5]) ?_
    conv => whnf
    by_cases w6 : kind = 6
    refine spl_t (by simp [w6]) ?_
    conv => whnf
    refine Ld.i ?_
    conv => whnf
    by_cases s0 : ¬ L.st = 0
    refine spl_t (by simp [s0]) ?_
    conv => whnf
    rw [show wroteR M tx kind c = (70, M) by simp only [wroteR, hL]; rw [if_neg w5, if_pos w6, if_neg s0]]
    exact Ret.eq rfl (same Imp.drop)
    rw [Classical.not_not] at s0
    refine spl_f (by simp [s0]) ?_
    conv => whnf
    refine Ld.i ?_
    conv => whnf
    refine IxS.v (i := i) rfl rfl hil (fun ab' off' ha => ?_)
    conv => whnf
    cases ha
    conv => whnf
    refine St.v hx ((tx, ⟨1, L.held⟩), ca, cc) (by simp [rtx]) (by simp) ⟨rfl, rfl⟩ ?_
    conv => whnf
    refine spl_t (by simp [w6]) ?_
    conv => whnf
    have hil2 : i < (l.set i ((tx, (⟨1, L.held⟩ : Life)), ca, cc)).length := by simpa using hil
    have hx2 : (l.set i ((tx, (⟨1, L.held⟩ : Life)), ca, cc))[i]? = some ((tx, ⟨1, L.held⟩), ca, cc) := by rw [List.getElem?_set_self hil]
    refine Ld.i ?_
    conv => whnf
    refine IxS.v (i := i) rfl (by simp) hil2 (fun ab' off' ha => ?_)
    conv => whnf
    cases ha
    conv => whnf
    refine St.v hx2 ((tx, ⟨2, L.held⟩), ca, cc) (by simp [rtx]) (by simp) ⟨rfl, rfl⟩ ?_
    conv => whnf
    rw [List.set_set]
    rw [show wroteR M tx kind c = (0, updKV tx ⟨2, L.held⟩ M) by simp only [wroteR, hL]; rw [if_neg w5, if_pos w6, if_pos s0]]
    exact Ret.eq rfl (shut ⟨2, L.held⟩ ca cc (Imp.pick (Imp.pick (Imp.pick (Imp.pick (Imp.drop.trans (Imp.refl _)))))))
    refine spl_f (by simp [w6]) ?_
    conv => whnf
    by_cases w4 : kind = 4
    refine spl_t (by simp [w4]) ?_
    conv => whnf
    refine Ld.i ?_
    conv => whnf
    by_cases s2 : ¬ L.st = 2
    refine spl_t (by simp [s2]) ?_
    conv => whnf
    rw [show wroteR M tx kind c = (70, M) by simp only [wroteR, hL]; rw [if_neg w5, if_neg w6, if_pos w4, if_neg s2]]
    exact Ret.eq rfl (same Imp.drop)
    rw [Classical.not_not] at s2
    refine spl_f (by simp [s2]) ?_
    conv => whnf
    refine LdN.i ?_
    conv => whnf
    refine CallK.ret f_quotaref15_Tx_holds.ok (rholds_spec (x := ((tx, L), ca, cc)) (.there (.there (.there .here))) (by simp only; omega)) ?_
    rintro v G ⟨rfl, rfl⟩
    dsimp only
    cases hq : posN c L.held with
    | none =>
      rw [posI_no hq]
      have hin : ¬ c ∈ L.held := posN_none_iff.1 hq
      conv => whnf
      rw [show wroteR M tx kind c = (120, M) by simp only [wroteR, hL]; rw [if_neg w5, if_neg w6, if_pos w4, if_pos s2, if_neg hin]]
      exact Ret.eq rfl (same Imp.drop)
    | some j =>
      rw [posI_of hq]
      have hin : c ∈ L.held := List.mem_of_getElem? (posN_some hq)
      have hj : j < L.held.length := by
        have := posN_some hq
        rcases Nat.lt_or_ge j L.held.length with h | h
        · exact h
        · simp [List.getElem?_eq_none h] at this
      conv => whnf
      refine DrawK.intro tab_ok mixed f_quotaref15_Room_Wrote.last20 f_quotaref15_Room_Wrote.plan20 (pts tb (.cells ⟨[.int .i64 tx, .int .i64 L.st, .slice ca L.held.length cc]⟩ t_quotaref15_Tx) • pts r (.cells ⟨[.slice (some ⟨ab, off, none⟩) l.length sc]⟩ t_quotaref15_Room) • emp) (by kernel_rfl) (Sub.of (Imp.pick (Imp.pick (Imp.emp _)))) ?_
      conv => whnf
      refine Ld.i ?_
      conv => whnf
      refine Ld.i ?_
      conv => whnf
      refine CallK.ret f_quotaref15_without.ok (rwithout_spec (.there (.there (.there .here))) rfl hj (by omega)) ?_
      rintro v G ⟨a', cap', rfl, rfl⟩
      conv => whnf
      refine ⟨Sub.of (Imp.pick (Imp.pick (Imp.emp _))), ?_⟩
      conv => whnf
      refine IxS.v (i := i) rfl rfl hil (fun ab' off' ha => ?_)
      conv => whnf
      cases ha
      conv => whnf
      refine St.v hx ((tx, ⟨L.st, L.held.eraseIdx j⟩), a', cap') (by simp [rtx]) (by simp) ⟨rfl, rfl⟩ ?_
      conv => whnf
      rw [show wroteR M tx kind c = (0, updKV tx ⟨L.st, L.held.eraseIdx j⟩ M) by simp only [wroteR, hL]; rw [if_neg w5, if_neg w6, if_pos w4, if_pos s2, if_pos hin, filter_pos c L.held j hw.nd hq]]
      exact Ret.eq rfl (shut ⟨L.st, L.held.eraseIdx j⟩ a' cap' (Imp.pick (Imp.pick (Imp.pick (Imp.pick (Imp.drop.trans (Imp.drop.trans (Imp.refl _))))))))
    refine spl_f (by simp [w4]) ?_
    conv => whnf
    by_cases w7 : ¬ kind = 7
    refine spl_f (by simp [w7]) ?_
    conv => whnf
    rw [show wroteR M tx kind c = (70, M) by simp only [wroteR, hL]; rw [if_neg w5, if_neg w6, if_neg w4, if_neg w7]]
    exact Ret.eq rfl (same Imp.drop)
    rw [Classical.not_not] at w7
    refine spl_t (by simp [w7]) ?_
    conv => whnf
    refine Ld.i ?_
    conv => whnf
    by_cases s0 : L.st = 0
    refine spl_t (by simp [s0]) ?_
    conv => whnf
    rw [show wroteR M tx kind c = (70, M) by simp only [wroteR, hL]; rw [if_neg w5, if_neg w6, if_neg w4, if_pos w7, if_pos (.inl s0)]]
    exact Ret.eq rfl (same Imp.drop)
    refine spl_f (by simp [s0]) ?_
    conv => whnf
    refine Ld.i ?_
    conv => whnf
    by_cases hst : L.st = 2 ∧ L.held ≠ []
    have hpos : 0 < L.held.length := List.length_pos_iff.2 hst.2
    refine spl_t (by simp [hst.1]) ?_
    conv => whnf
    refine Ld.i ?_
    conv => whnf
    refine spl_t (decide_eq_true (by omega)) ?_
    conv => whnf
    rw [show wroteR M tx kind c = (70, M) by simp only [wroteR, hL]; rw [if_neg w5, if_neg w6, if_neg w4, if_pos w7, if_pos (.inr hst)]]
    exact Ret.eq rfl (same Imp.drop)
    rw [show wroteR M tx kind c = (0, delKV tx M) by simp only [wroteR, hL]; rw [if_neg w5, if_neg w6, if_neg w4, if_pos w7, if_neg (fun h => h.elim s0 hst)]]
    rw [delKV_pos tx M i hwf.nd p1]
    by_cases s2 : L.st = 2
    have hne : L.held.length = 0 := by
      have : L.held = [] := Classical.byContradiction fun hne => hst ⟨s2, hne⟩
      rw [this]; rfl
    refine spl_t (by simp [s2]) ?_
    conv => whnf
    refine Ld.i ?_
    conv => whnf
    refine spl_f (decide_eq_false (by omega)) ?_
    conv => whnf
    rotate_left 1
    refine spl_f (by simp [s2]) ?_
    conv => whnf
    rotate_left 1
    all_goals
      refine Ld.i ?_
      conv => whnf
      refine OpX.of_quiet (OpQ.slh tab_ok rfl rfl rfl rfl ⟨by omega, by omega⟩ ?_)
      conv => whnf
      refine OpX.appendNil tab_ok rtx (fun _ => rfl) rtx_one rfl rfl rfl rfl rfl rfl (fun k h => by cases h) rfl rfl (l.take i) (Src.take (fun _ => rfl) (.there (.there .here)) (by omega)) (by simp; omega) (by simp; omega) fun a1 cap1 => ?_
      conv => whnf
      refine Ld.i ?_
      conv => whnf
      refine Ar.i64 (by omega) ?_
      conv => whnf
      refine OpX.of_quiet (OpQ.sll tab_ok rfl rfl rfl rfl ⟨by omega, by omega⟩ ?_)
      conv => whnf
      have hsrc : ∀ w, Sat W (vec t_quotaref15_Tx 3 rtx a1 cap1 (l.take i) • pts tb (.cells ⟨[.int .i64 tx, .int .i64 L.st, .slice ca L.held.length cc]⟩ t_quotaref15_Tx) • pts r (.cells ⟨[.slice (some ⟨ab, off, none⟩) l.length sc]⟩ t_quotaref15_Room) • vec t_quotaref15_Tx 3 rtx (some ⟨ab, off, none⟩) sc l • vec t_int 1 ints ca cc L.held • bigL rcs (l.eraseIdx i) • R) w → _ :=
        fun w hw => Src.drop (P := prog) (i := i + 1) (n := l.length) (sz := 3) (enc := rtx) (fun _ => rfl) (VecAt.there (VecAt.there (VecAt.there .here))) rfl (by omega) w hw
      refine OpX.append (sz := 3) (enc := rtx) (a := a1) (cap := cap1) (xs := l.take i) tab_ok (fun _ => rfl) rtx_one rfl rfl rfl rfl rfl rfl (fun k h => by cases h) rfl (by simp; omega) rfl (ys := l.drop (i + 1)) hsrc (by simp) .here (by simp; omega) fun a2 cap2 => ?_
      conv => whnf
      refine St.i ⟨rfl, rfl⟩ (by simp) ?_
      conv => whnf
      rw [← List.eraseIdx_eq_take_drop_succ]
      have hlen2 : (i : Int).toNat + (l.length - (i + 1)) = (l.eraseIdx i).length := by rw [List.length_eraseIdx, if_pos hil]; omega
      refine Ret.eq rfl (ref_shut a2 cap2 (l.eraseIdx i) (by rw [map_eraseIdx', hM]) ?_)
      rw [hlen2]
      exact Imp.pick (Imp.pick (Imp.drop.trans (Imp.drop.trans (Imp.drop.trans (Imp.refl _)))))
end Go.Proofs.Ytgepohccnknngaa
