/- Stories: Told. Conditions: in each statement. -/
import Derived.Test.YtacpnjlijjgbmaaGreatDoorTldDoes1
import Derived.Test.YtacpnjlijjgbmaaGreatDoorTldDoes2
import Derived.Test.YtacpnjlijjgbmaaGreatDoorTldDoes3
namespace Go.SL.Tld
open Go Go.SL Go.SL.Sec Go.SL.Rec
instance : SizedC 4 (fun x : DeedV => [Value.int .i64 x.kind, .int .i64 x.a, .int .i64 x.b, .int .i64 x.d]) := ⟨fun _ => rfl⟩
def deedv (x : DeedV) : List Value := [.int .i64 x.kind, .int .i64 x.a, .int .i64 x.b, .int .i64 x.d]
instance : SizedC 4 deedv := ⟨fun _ => rfl⟩
instance {x : DeedV} : LitL (deedv x) [.int .i64 x.kind, .int .i64 x.a, .int .i64 x.b, .int .i64 x.d] := ⟨rfl⟩
end Go.SL.Tld
namespace Go.Proofs.YtacpnjlijjgbmaaGreatDoor
open Go Go.SL Go.SL.Sec Go.SL.Rec Go.SL.Tld
open Go.SL.Und (RecV recv rec_one fits)
theorem does_spec {W : World} {H R : HProp} {s : Nat} {X : StoryX} {x : DeedV} [tk : ObjC storyo H s X R] (hX : X.val.Ok) (hb : X.R.length ≤ 9000000) :
    Does prog W f_quotaref18_Story_does ⟨[tptr s, deedA x]⟩ H (Ret fun v G => ∃ X' c, X'.val = X.val.does x ∧ v = .bool c ∧ G = (storyo s X' • R)) := by
  by_cases h1 : x.kind % 10 < 2
  · exact does_make hX hb h1
  by_cases h2 : x.kind % 10 < 4
  · exact does_begin hX hb ⟨by omega, h2⟩
  by_cases hv : X.V.length = 0
  · exact does_none (by omega) hv
  have e1 := Int.emod_nonneg x.a (show ((X.V.length : Nat) : Int) ≠ 0 by omega)
  have e2 := Int.emod_lt_of_pos x.a (show (0 : Int) < (X.V.length : Nat) by omega)
  obtain ⟨t, ht⟩ := Int.eq_ofNat_of_zero_le e1
  obtain ⟨o, ho⟩ : ∃ o, X.V[t]? = some o := ⟨_, List.getElem?_eq_getElem (by omega)⟩
  cases hc : o.o.com with
  | true => exact does_end hX hb (by omega) hv ht.symm ho hc
  | false =>
    by_cases h8 : x.kind % 10 = 8
    · exact does_commit hX hb h8 hv ht.symm ho hc
    by_cases h9 : x.kind % 10 = 9
    · exact does_abort hX hb h9 hv ht.symm ho hc
    by_cases hl : X.L.length = 0
    · exact does_idle hX ⟨by omega, h8, h9⟩ hv ht.symm ho hc hl
    have e3 := Int.emod_nonneg x.b (show ((X.L.length : Nat) : Int) ≠ 0 by omega)
    obtain ⟨k, hk⟩ := Int.eq_ofNat_of_zero_le e3
    exact does_add hX hb ⟨by omega, h8, h9⟩ hv ht.symm ho hc (by omega) hk.symm
/-- A story that has not begun. -/
def toldX (pages : Int) : StoryX := ⟨pages, none, 0, [], none, 0, [], none, 0, [], none, 0, [], none, 0, [], 1, none, 0, []⟩
theorem toldX_ok {pages : Int} (h : 2 ≤ pages ∧ pages ≤ 64) : (toldX pages).val.Ok :=
  ⟨h, by simp [toldX, StoryX.val], fun o ho => by simp [toldX, StoryX.val] at ho, by simp [toldX, StoryX.val], by simp [toldX, StoryX.val], by simp [toldX, StoryX.val], by simp [toldX, StoryX.val], fun g hg => by simp [toldX, StoryX.val] at hg⟩
theorem toldX_fold {s : Nat} {pages : Int} {H R : HProp} (h : Imp H (pts s (.cells ⟨[.int .i64 pages, .slice none 0 0, .slice none 0 0, .slice none 0 0, .slice none 0 0, .slice none 0 0, .int .i64 1, .slice none 0 0]⟩ t_quotaref18_Story) • R)) : Imp H (storyo s (toldX pages) • R) := by
  rw [storyo_eq]
  refine Imp.trans h (Imp.right ?_)
  exact Imp.vnil (Imp.vnil (Imp.vnil (Imp.vnil (Imp.vnil (Imp.vnil (Imp.empi (Imp.refl _)))))))
theorem told_spec {W : World} {R : HProp} {a : Option Addr} {n c : Nat} {l : List DeedV} {pages : Int} {most : Nat} [ro : RowN W R a n 4 deedv l] (hp : 2 ≤ pages ∧ pages ≤ 64) (hm : 1 ≤ most ∧ most ≤ 1000000) (hl : l.length ≤ 9223372036854775807) :
    Does prog W f_quotaref18_Told ⟨[.slice a n c, .int .i64 pages, .int .i64 most]⟩ R (Ret fun v G => ∃ s X, X.val = Story.plays most l (told0 pages) ∧ v = tptr s ∧ G = (storyo s X • R)) := by
  have hn := ro.len
  subst hn
  haveI r' := ro.row
  refine f_quotaref18_Told.does _ _ _ ?_
  conv => whnf
  repeat' (first
    | (refine spl_f (by with_reducible exact ndec_self _) ?_; conv => whnf)
    | (refine spl_f (by with_reducible exact nbeq_self _) ?_; conv => whnf)
    | (refine spl_t (by with_reducible exact beq_self _) ?_; conv => whnf)
    | (refine spl_dec (fun hd => ?_) (fun hd => ?_) <;> first | (exfalso; omega) | (conv => whnf))
    | (refine spl_ndec (fun hd => ?_) (fun hd => ?_) <;> first | (exfalso; omega) | (conv => whnf))
    | (refine spl_intro (fun hd => ?_) (fun hd => ?_) <;> (conv => whnf))
    | (refine Ld.i ?_; conv => whnf)
    | (refine LdN.i ?_; conv => whnf)
    | (refine St.i ⟨rfl, rfl⟩ (List.cons_ne_nil _ _) ?_; conv => whnf)
    | (refine Ar.i64 (by omega) ?_; conv => whnf)
    | (refine Ar.u64 (by omega) ?_; conv => whnf)
    | (refine Ar.i64d (by omega) (by omega) ?_; conv => whnf)
    | (refine Shr.i (by rfl) (by decide) ?_; conv => whnf)
    | (refine Shl.i (by rfl) (by decide) ?_; conv => whnf)
    | (refine Req.mk (by omega) ?_; conv => whnf)
    | (intro blk hblk; conv => whnf)
    | (refine Sub.on (by first | exact Imp.refl _ | exact Imp.drop | exact Imp.fin | ((repeat (refine Imp.pick ?_)); first | exact Imp.refl _ | exact Imp.emp _ | exact Imp.fin)) ?_; conv => whnf)
    | (refine Sub.on (Imp.trans KeepC.h (by first | exact Imp.refl _ | exact Imp.drop | exact Imp.fin | ((repeat (refine Imp.pick ?_)); first | exact Imp.refl _ | exact Imp.emp _ | exact Imp.fin))) ?_; conv => whnf)
    | (refine CallK.ret f_quotaref18_Story_does.ok (does_spec (by first | rfl | assumption | omega | decide | (simp; done) | (simp; omega) | (simp at *; omega)) (by first | rfl | assumption | omega | decide | (simp; done) | (simp; omega) | (simp at *; omega))) ?_; rintro v G ⟨e_X', e_c, e_h1, rfl, rfl⟩; conv => whnf)
    | fail)
  refine LoopK.at tab_ok (L := f_quotaref18_Told.live) (ι := Nat × StoryX) (fun i => i.1 ≤ l.length ∧ i.2.val.Ok ∧ i.2.R.length ≤ most ∧ Story.plays most (l.drop i.1) i.2.val = Story.plays most l (told0 pages))
    (fun i => [(8, .int .i64 i.1)]) (fun i => storyo blk i.2) (fun i => l.length - i.1) (0, toldX pages) ⟨by simp, toldX_ok hp, by simp [toldX], rfl⟩ (fun t v h => h) (toldX_fold (by first | exact Imp.refl _ | exact Imp.drop | exact Imp.fin | ((repeat (refine Imp.pick ?_)); first | exact Imp.refl _ | exact Imp.emp _ | exact Imp.fin))) ?_
  rintro ⟨i, X⟩ ⟨hi, hX, hR, hpl⟩
  dsimp only at hi hX hR hpl ⊢
  have hXl : X.L.length ≤ 60 := hX.ll
  conv => whnf
  by_cases h1 : i < l.length
  · obtain ⟨x, hx⟩ : ∃ x, l[i]? = some x := ⟨_, List.getElem?_eq_getElem h1⟩
    rw [drop_at hx, Story.plays] at hpl
    by_cases h60 : X.L.length < 60
    · rw [if_pos (by exact h60)] at hpl
      have hd := does_R X.val x hXl
      have hXn := hX.does (by exact h60) x
      by_cases hms : ((X.val.does x).R.length : Int) ≥ most
      · rw [if_pos hms] at hpl
        repeat' (first
          | (refine CallK.ret f_quotaref18_Story_does.ok (does_spec (x := x) hX (by omega)) ?_; rintro v G ⟨X', c', hX', rfl, rfl⟩; have hXr : X'.R.length = (X.val.does x).R.length := congrArg (fun z : Story => z.R.length) hX'; rw [storyo_eq]; conv => whnf)
          | (refine spl_f (by with_reducible exact ndec_self _) ?_; conv => whnf)
          | (refine spl_f (by with_reducible exact nbeq_self _) ?_; conv => whnf)
          | (refine spl_t (by with_reducible exact beq_self _) ?_; conv => whnf)
          | (refine spl_dec (fun hd => ?_) (fun hd => ?_) <;> first | (exfalso; omega) | (conv => whnf))
          | (refine spl_ndec (fun hd => ?_) (fun hd => ?_) <;> first | (exfalso; omega) | (conv => whnf))
          | (refine spl_intro (fun hd => ?_) (fun hd => ?_) <;> (conv => whnf))
          | (refine Ld.i ?_; conv => whnf)
          | (refine LdN.i ?_; conv => whnf)
          | (refine St.i ⟨rfl, rfl⟩ (List.cons_ne_nil _ _) ?_; conv => whnf)
          | (refine Ar.i64 (by omega) ?_; conv => whnf)
          | (refine Ar.u64 (by omega) ?_; conv => whnf)
          | (refine Ar.i64d (by omega) (by omega) ?_; conv => whnf)
          | (refine Shr.i (by rfl) (by decide) ?_; conv => whnf)
          | (refine Shl.i (by rfl) (by decide) ?_; conv => whnf)
          | (refine Req.mk (by omega) ?_; conv => whnf)
          | (intro blk hblk; conv => whnf)
          | (refine IxS.r (xs := l) (i := i) rfl rfl h1 (fun ab off ha => ?_); cases ha; conv => whnf)
          | (refine LdN.r hx rfl ?_; conv => whnf)
          | (refine Ld.r hx rfl ?_; conv => whnf)
          | (refine Ld.r0 hx rfl ?_; conv => whnf)
          | (refine LdN.rp hx ?_; conv => whnf)
          | (refine OpX.of_quiet (OpQ.slv tab_ok rfl rfl rfl rfl (by omega) ?_); conv => whnf)
          | (refine Sub.on (by first | exact Imp.refl _ | exact Imp.drop | exact Imp.fin | ((repeat (refine Imp.pick ?_)); first | exact Imp.refl _ | exact Imp.emp _ | exact Imp.fin)) ?_; conv => whnf)
          | (refine Sub.on (Imp.trans KeepC.h (by first | exact Imp.refl _ | exact Imp.drop | exact Imp.fin | ((repeat (refine Imp.pick ?_)); first | exact Imp.refl _ | exact Imp.emp _ | exact Imp.fin))) ?_; conv => whnf)
          | (refine CallK.ret f_quotaref18_Story_does.ok (does_spec (by first | rfl | assumption | omega | decide | (simp; done) | (simp; omega) | (simp at *; omega)) (by first | rfl | assumption | omega | decide | (simp; done) | (simp; omega) | (simp at *; omega))) ?_; rintro v G ⟨e_X', e_c, e_h1, rfl, rfl⟩; conv => whnf)
          | fail)
        have hlt : (X'.R.take most).length = most := by rw [List.length_take]; omega
        refine ⟨_, _, rfl, ?_, blk, { X' with R := X'.R.take most }, ?_, rfl, rfl⟩
        · rw [storyo_eq]
          dsimp only
          rw [hlt, Int.toNat_natCast]
          refine Imp.pick (Imp.vtake (xs := X'.R) ?_ most)
          first | exact Imp.refl _ | exact Imp.drop | exact Imp.fin | ((repeat (refine Imp.pick ?_)); first | exact Imp.refl _ | exact Imp.emp _ | exact Imp.fin)
        · rw [← hpl, ← hX', Int.toNat_natCast]
          rfl
      · rw [if_neg hms] at hpl
        repeat' (first
          | (refine CallK.ret f_quotaref18_Story_does.ok (does_spec (x := x) hX (by omega)) ?_; rintro v G ⟨X', c', hX', rfl, rfl⟩; have hXr : X'.R.length = (X.val.does x).R.length := congrArg (fun z : Story => z.R.length) hX'; conv => whnf)
          | (refine spl_f (by with_reducible exact ndec_self _) ?_; conv => whnf)
          | (refine spl_f (by with_reducible exact nbeq_self _) ?_; conv => whnf)
          | (refine spl_t (by with_reducible exact beq_self _) ?_; conv => whnf)
          | (refine spl_dec (fun hd => ?_) (fun hd => ?_) <;> first | (exfalso; omega) | (conv => whnf))
          | (refine spl_ndec (fun hd => ?_) (fun hd => ?_) <;> first | (exfalso; omega) | (conv => whnf))
          | (refine spl_intro (fun hd => ?_) (fun hd => ?_) <;> (conv => whnf))
          | (refine Ld.i ?_; conv => whnf)
          | (refine LdN.i ?_; conv => whnf)
          | (refine St.i ⟨rfl, rfl⟩ (List.cons_ne_nil _ _) ?_; conv => whnf)
          | (refine Ar.i64 (by omega) ?_; conv => whnf)
          | (refine Ar.u64 (by omega) ?_; conv => whnf)
          | (refine Ar.i64d (by omega) (by omega) ?_; conv => whnf)
          | (refine Shr.i (by rfl) (by decide) ?_; conv => whnf)
          | (refine Shl.i (by rfl) (by decide) ?_; conv => whnf)
          | (refine Req.mk (by omega) ?_; conv => whnf)
          | (intro blk hblk; conv => whnf)
          | (refine IxS.r (xs := l) (i := i) rfl rfl h1 (fun ab off ha => ?_); cases ha; conv => whnf)
          | (refine LdN.r hx rfl ?_; conv => whnf)
          | (refine Ld.r hx rfl ?_; conv => whnf)
          | (refine Ld.r0 hx rfl ?_; conv => whnf)
          | (refine LdN.rp hx ?_; conv => whnf)
          | (refine Sub.on (by first | exact Imp.refl _ | exact Imp.drop | exact Imp.fin | ((repeat (refine Imp.pick ?_)); first | exact Imp.refl _ | exact Imp.emp _ | exact Imp.fin)) ?_; conv => whnf)
          | (refine Sub.on (Imp.trans KeepC.h (by first | exact Imp.refl _ | exact Imp.drop | exact Imp.fin | ((repeat (refine Imp.pick ?_)); first | exact Imp.refl _ | exact Imp.emp _ | exact Imp.fin))) ?_; conv => whnf)
          | (refine CallK.ret f_quotaref18_Story_does.ok (does_spec (by first | rfl | assumption | omega | decide | (simp; done) | (simp; omega) | (simp at *; omega)) (by first | rfl | assumption | omega | decide | (simp; done) | (simp; omega) | (simp at *; omega))) ?_; rintro v G ⟨e_X', e_c, e_h1, rfl, rfl⟩; conv => whnf)
          | fail)
        refine ⟨rfl, (i + 1, X'), ⟨h1, by rw [hX']; exact hXn, by dsimp only; omega, by rw [hX']; exact hpl⟩, fun t v h => h, ?_, by dsimp only; omega⟩
        exact Imp.refl _
    · rw [if_neg (by exact h60)] at hpl
      repeat' (first
        | (refine spl_f (by with_reducible exact ndec_self _) ?_; conv => whnf)
        | (refine spl_f (by with_reducible exact nbeq_self _) ?_; conv => whnf)
        | (refine spl_t (by with_reducible exact beq_self _) ?_; conv => whnf)
        | (refine spl_dec (fun hd => ?_) (fun hd => ?_) <;> first | (exfalso; omega) | (conv => whnf))
        | (refine spl_ndec (fun hd => ?_) (fun hd => ?_) <;> first | (exfalso; omega) | (conv => whnf))
        | (refine spl_intro (fun hd => ?_) (fun hd => ?_) <;> (conv => whnf))
        | (refine Ld.i ?_; conv => whnf)
        | (refine LdN.i ?_; conv => whnf)
        | (refine St.i ⟨rfl, rfl⟩ (List.cons_ne_nil _ _) ?_; conv => whnf)
        | (refine Ar.i64 (by omega) ?_; conv => whnf)
        | (refine Ar.u64 (by omega) ?_; conv => whnf)
        | (refine Ar.i64d (by omega) (by omega) ?_; conv => whnf)
        | (refine Shr.i (by rfl) (by decide) ?_; conv => whnf)
        | (refine Shl.i (by rfl) (by decide) ?_; conv => whnf)
        | (refine Req.mk (by omega) ?_; conv => whnf)
        | (intro blk hblk; conv => whnf)
        | (refine Sub.on (by first | exact Imp.refl _ | exact Imp.drop | exact Imp.fin | ((repeat (refine Imp.pick ?_)); first | exact Imp.refl _ | exact Imp.emp _ | exact Imp.fin)) ?_; conv => whnf)
        | (refine Sub.on (Imp.trans KeepC.h (by first | exact Imp.refl _ | exact Imp.drop | exact Imp.fin | ((repeat (refine Imp.pick ?_)); first | exact Imp.refl _ | exact Imp.emp _ | exact Imp.fin))) ?_; conv => whnf)
        | (refine CallK.ret f_quotaref18_Story_does.ok (does_spec (by first | rfl | assumption | omega | decide | (simp; done) | (simp; omega) | (simp at *; omega)) (by first | rfl | assumption | omega | decide | (simp; done) | (simp; omega) | (simp at *; omega))) ?_; rintro v G ⟨e_X', e_c, e_h1, rfl, rfl⟩; conv => whnf)
        | fail)
      refine ⟨_, _, rfl, ?_, blk, X, hpl, rfl, rfl⟩
      first | exact Imp.refl _ | exact Imp.drop | exact Imp.fin | ((repeat (refine Imp.pick ?_)); first | exact Imp.refl _ | exact Imp.emp _ | exact Imp.fin)
  · rw [List.drop_eq_nil_of_le (by omega), Story.plays] at hpl
    repeat' (first
      | (refine spl_f (by with_reducible exact ndec_self _) ?_; conv => whnf)
      | (refine spl_f (by with_reducible exact nbeq_self _) ?_; conv => whnf)
      | (refine spl_t (by with_reducible exact beq_self _) ?_; conv => whnf)
      | (refine spl_dec (fun hd => ?_) (fun hd => ?_) <;> first | (exfalso; omega) | (conv => whnf))
      | (refine spl_ndec (fun hd => ?_) (fun hd => ?_) <;> first | (exfalso; omega) | (conv => whnf))
      | (refine spl_intro (fun hd => ?_) (fun hd => ?_) <;> (conv => whnf))
      | (refine Ld.i ?_; conv => whnf)
      | (refine LdN.i ?_; conv => whnf)
      | (refine St.i ⟨rfl, rfl⟩ (List.cons_ne_nil _ _) ?_; conv => whnf)
      | (refine Ar.i64 (by omega) ?_; conv => whnf)
      | (refine Ar.u64 (by omega) ?_; conv => whnf)
      | (refine Ar.i64d (by omega) (by omega) ?_; conv => whnf)
      | (refine Shr.i (by rfl) (by decide) ?_; conv => whnf)
      | (refine Shl.i (by rfl) (by decide) ?_; conv => whnf)
      | (refine Req.mk (by omega) ?_; conv => whnf)
      | (intro blk hblk; conv => whnf)
      | (refine Sub.on (by first | exact Imp.refl _ | exact Imp.drop | exact Imp.fin | ((repeat (refine Imp.pick ?_)); first | exact Imp.refl _ | exact Imp.emp _ | exact Imp.fin)) ?_; conv => whnf)
      | (refine Sub.on (Imp.trans KeepC.h (by first | exact Imp.refl _ | exact Imp.drop | exact Imp.fin | ((repeat (refine Imp.pick ?_)); first | exact Imp.refl _ | exact Imp.emp _ | exact Imp.fin))) ?_; conv => whnf)
      | (refine CallK.ret f_quotaref18_Story_does.ok (does_spec (by first | rfl | assumption | omega | decide | (simp; done) | (simp; omega) | (simp at *; omega)) (by first | rfl | assumption | omega | decide | (simp; done) | (simp; omega) | (simp at *; omega))) ?_; rintro v G ⟨e_X', e_c, e_h1, rfl, rfl⟩; conv => whnf)
      | fail)
    refine ⟨_, _, rfl, ?_, blk, X, hpl, rfl, rfl⟩
    first | exact Imp.refl _ | exact Imp.drop | exact Imp.fin | ((repeat (refine Imp.pick ?_)); first | exact Imp.refl _ | exact Imp.emp _ | exact Imp.fin)
end Go.Proofs.YtacpnjlijjgbmaaGreatDoor
