/- The document's Made: a right page out of any; walked. Conditions: in each statement. -/
import Derived.Test.YtgcknlpkhhpkjaaGreatDoorPart30
namespace Go.Proofs.YtgcknlpkhhpkjaaGreatDoor
open Go Go.SL Go.SL.Sec Go.SL.Fld Go.SL.Pts Go.SL.Rec Go.SL.Twn Go.SL.Pg Go.SL.Mst Go.SL.Pool
theorem emod_tmod {x n : Int} (hn : 0 < n) : x % n = if x.tmod n < 0 then x.tmod n + n else x.tmod n := by
 have h1 := Int.tmod_lt_of_pos x hn
 have h2 : -n < x.tmod n := by
  have := Int.tmod_lt_of_pos (-x) hn
  rw [Int.neg_tmod] at this; omega
 have h3 := Int.emod_nonneg x (show n ≠ 0 by omega)
 have h4 := Int.emod_lt_of_pos x hn
 have e1 := Int.tmod_eq_emod (a := x) (b := n)
 by_cases h : 0 ≤ x ∨ n ∣ x
 ·rw [if_pos h] at e1
  rw [if_neg (by omega)]; omega
 ·rw [if_neg h] at e1
  rw [if_pos (by omega)]; omega
theorem pick_spec {W : World} {R : HProp} {n lo hi : Int} (h : 0 ≤ lo ∧ lo ≤ hi ∧ hi ≤ 4294967296) : Does prog W f_z21 ⟨[.int .i64 n, .int .i64 lo, .int .i64 hi]⟩ R (Ret fun v G => v = .int .i64 (pickI n lo hi) ∧ G = R) := by
 have h1 := Int.tmod_lt_of_pos n (show 0 < hi - lo + 1 by omega)
 have h2 : -(hi - lo + 1) < n.tmod (hi - lo + 1) := by
  have := Int.tmod_lt_of_pos (-n) (show 0 < hi - lo + 1 by omega)
  rw [Int.neg_tmod] at this; omega
 unfold pickI
 rw [emod_tmod (show 0 < hi - lo + 1 by omega)]
 refine f_z21.does _ _ _ ?_
 conv => whnf
 repeat' (first
  | (refine spl_dec (fun hd => ?_) (fun hd => ?_) <;> first | (exfalso; omega) | (conv => whnf))
  | ((first | refine Ar.i64 (by omega) ?_ | refine Req.mk (by omega) ?_); conv => whnf))
 ·rw [if_pos (by omega), show lo + (n.tmod (hi - lo + 1) + (hi - lo + 1)) = lo + (n.tmod (hi - lo + 1) + hi - lo + 1) by omega]
  refine Ret.eq rfl ?_
  first | exact .refl _ | exact .drop | exact .fin | ((repeat refine .pick ?_); first | exact .refl _ | exact .emp _ | exact .fin)
 ·rw [if_neg (by omega)]
  refine Ret.eq rfl ?_
  first | exact .refl _ | exact .drop | exact .fin | ((repeat refine .pick ?_); first | exact .refl _ | exact .emp _ | exact .fin)
set_option maxHeartbeats 4000000 in
-- @noauto
theorem made_spec {W : World} {R : HProp} {num lsn : Int} {ca ga : Option Addr} {nC cc nG gc : Nat} {C : List CntV} {G : List GrpV} (rc : RowN W R ca nC 5 cntv C) (rg : RowN W R ga nG 2 grpv G) (hC : C.length ≤ 9223372036854775807) (hG : G.length ≤ 9223372036854775807) :
  Does prog W f_z2h ⟨[.agg ⟨[.int .i64 num, .int .i64 lsn, .slice ca nC cc, .slice ga nG gc]⟩]⟩ R (Ret fun v Q => ∃ x : PgX, x.m = madeP ⟨num, lsn, C, G⟩ ∧ v = pgv x ∧ Q = (pgc x • R)) := by
 have hn := rc.len
 have hm := rg.len
 haveI rC := rc.row
 haveI rG := rg.row
 subst hn hm
 refine f_z2h.does _ ?_
 conv => whnf
 repeat' (first
  | ((first | refine Ld.i ?_ | refine St.i ⟨rfl, rfl⟩ (List.cons_ne_nil _ _) ?_); conv => whnf)
  | (intro blk hblk; conv => whnf)
  | (refine CallK.ret f_z21.ok (pick_spec (by first | rfl | assumption | omega | decide | (simp; done) | (simp; omega) | (simp at *; omega))) ?_; rintro v G ⟨rfl, rfl⟩; conv => whnf))
 refine LoopK.at tab_ok (L := f_z2h.live) (ι := Nat × Option Addr × Nat) (fun i => i.1 ≤ C.length ∧ i.1 ≤ 31) (fun i => [(4, .int .i64 i.1)])
  (fun i => pts blk (.cells ⟨[.int .i64 (pickI num 0 63), i0, .slice i.2.1 i.1 i.2.2, .slice none 0 0]⟩ t_z19) • vec t_z1a 5 cntv i.2.1 i.2.2 ((C.take i.1).map madeC)) (fun i => C.length - i.1) (0, none, 0) ⟨by simp, by simp⟩ (fun t v h => h)
  (Imp.assoc (Imp.pick (Imp.vnil (Imp.refl _)))) ?_
 rintro ⟨i, a, cap⟩ ⟨hi1, hi2⟩
 dsimp only at hi1 hi2 ⊢
 simp only [star_assoc]
 conv => whnf
 by_cases h3 : i < C.length ∧ i < 31
 ·obtain ⟨c, hc⟩ : ∃ c, C[i]? = some c := ⟨_, List.getElem?_eq_getElem h3.1⟩
  have h31 := h3.1
  have h32 := h3.2
  have hT : (C.take (i + 1)).map madeC = (C.take i).map madeC ++ [madeC c] := by rw [List.take_add_one, hc, List.map_append]; rfl
  have hL : ((C.take i).map madeC).length = i := by rw [List.length_map, List.length_take]; omega
  by_cases hb : c.lo > c.hi
  ·have hM : madeC c = ⟨pickI c.id 1 1048576, pickI c.grp 1 1048576, c.hi, c.lo, c.val⟩ := by unfold madeC; rw [if_pos hb, if_pos hb]
   repeat' (first
    | (refine spl_t (by simp; omega) ?_; conv => whnf)
    | ((first | refine Ld.i ?_ | refine LdN.i ?_ | refine St.i ⟨rfl, rfl⟩ (List.cons_ne_nil _ _) ?_); conv => whnf)
    | (intro blk hblk; conv => whnf)
    | (refine IxS.r (a := ca) (xs := C) (i := i) rfl rfl h31 (fun ab off ha => ?_); cases ha; conv => whnf)
    | (refine LdN.r hc rfl ?_; conv => whnf)
    | (refine CallK.ret f_z21.ok (pick_spec (by first | rfl | assumption | omega | decide | (simp; done) | (simp; omega) | (simp at *; omega))) ?_; rintro v G ⟨rfl, rfl⟩; conv => whnf))
   refine OpX.app1 (xs := (C.take i).map madeC) tab_ok rfl rfl rfl rfl (madeC c) (by rw [hM]; rfl) hL.symm (by omega) ⟨rfl, OneC.h⟩ (fun a' cap' => ?_)
   rw [← hT]
   repeat' (first
    | ((first | refine St.i ⟨rfl, rfl⟩ (List.cons_ne_nil _ _) ?_ | refine Ar.i64 (by omega) ?_); conv => whnf))
   refine ⟨rfl, (i + 1, a', cap'), ⟨by dsimp only; omega, by dsimp only; omega⟩, fun t v h => h, ?_, by dsimp only; omega⟩
   first | exact .refl _ | exact .drop | exact .fin | ((repeat refine .pick ?_); first | exact .refl _ | exact .emp _ | exact .fin)
  ·have hM : madeC c = ⟨pickI c.id 1 1048576, pickI c.grp 1 1048576, c.lo, c.hi, c.val⟩ := by unfold madeC; rw [if_neg hb, if_neg hb]
   repeat' (first
    | (refine spl_t (by simp; omega) ?_; conv => whnf)
    | (refine spl_dec (fun hd => ?_) (fun hd => ?_) <;> first | (exfalso; omega) | (conv => whnf))
    | ((first | refine Ld.i ?_ | refine LdN.i ?_ | refine St.i ⟨rfl, rfl⟩ (List.cons_ne_nil _ _) ?_); conv => whnf)
    | (intro blk hblk; conv => whnf)
    | (refine IxS.r (a := ca) (xs := C) (i := i) rfl rfl h31 (fun ab off ha => ?_); cases ha; conv => whnf)
    | (refine LdN.r hc rfl ?_; conv => whnf)
    | (refine CallK.ret f_z21.ok (pick_spec (by first | rfl | assumption | omega | decide | (simp; done) | (simp; omega) | (simp at *; omega))) ?_; rintro v G ⟨rfl, rfl⟩; conv => whnf))
   refine OpX.app1 (xs := (C.take i).map madeC) tab_ok rfl rfl rfl rfl (madeC c) (by rw [hM]; rfl) hL.symm (by omega) ⟨rfl, OneC.h⟩ (fun a' cap' => ?_)
   rw [← hT]
   repeat' (first
    | ((first | refine St.i ⟨rfl, rfl⟩ (List.cons_ne_nil _ _) ?_ | refine Ar.i64 (by omega) ?_); conv => whnf))
   refine ⟨rfl, (i + 1, a', cap'), ⟨by dsimp only; omega, by dsimp only; omega⟩, fun t v h => h, ?_, by dsimp only; omega⟩
   first | exact .refl _ | exact .drop | exact .fin | ((repeat refine .pick ?_); first | exact .refl _ | exact .emp _ | exact .fin)
 ·have hT : C.take i = C.take 31 := by
   by_cases c : i < C.length
   ·rw [show i = 31 by omega]
   ·rw [List.take_of_length_le (by omega), List.take_of_length_le (by omega)]
  obtain ⟨C', hC'⟩ : ∃ C', C' = (C.take 31).map madeC := ⟨_, rfl⟩
  have hl : C'.length = i := by rw [hC', ← hT, List.length_map, List.length_take]; omega
  have hex : ∀ {p q : Prop}, q → spl (decide ((i : Int) < C.length) && decide ((i : Int) < 31)) p q := fun k => spl_f (by simp; omega) k
  have hP : madeP ⟨num, lsn, C, G⟩ = ⟨pickI num 0 63, if C'.length + (if C'.length = 0 then (G.take 84).map madeG else []).length > 0 then pickI lsn 1 2147483647 else 0, C', if C'.length = 0 then (G.take 84).map madeG else []⟩ := by rw [hC']; rfl
  rw [hT, ← hC', hP]
  subst hl
  by_cases h0 : C'.length = 0
  ·have hnil : C' = [] := List.length_eq_zero_iff.1 h0
   subst hnil
   rw [if_pos (show ([] : List CntV).length = 0 from rfl)]
   repeat' (first
    | (refine spl_dec (fun hd => ?_) (fun hd => ?_) <;> first | (exfalso; omega) | (conv => whnf))
    | (refine Ld.i ?_; conv => whnf))
   all_goals
    refine LoopK.at tab_ok (L := f_z2h.live) (ι := Nat × Option Addr × Nat) (fun j => j.1 ≤ G.length ∧ j.1 ≤ 84) (fun j => [(6, .int .i64 j.1)])
     (fun j => pts blk (.cells ⟨[.int .i64 (pickI num 0 63), i0, .slice a 0 cap, .slice j.2.1 j.1 j.2.2]⟩ t_z19) • vec t_zt 2 grpv j.2.1 j.2.2 ((G.take j.1).map madeG)) (fun j => G.length - j.1) (0, none, 0) ⟨by simp, by simp⟩ (fun t v h => h)
     (Imp.assoc (Imp.pick (Imp.vnil (Imp.refl _)))) ?_
    rintro ⟨j, a2, cap2⟩ ⟨hj1, hj2⟩
    dsimp only at hj1 hj2 ⊢
    simp only [star_assoc]
    conv => whnf
    by_cases h3 : j < G.length ∧ j < 84
    ·obtain ⟨g, hg⟩ : ∃ g, G[j]? = some g := ⟨_, List.getElem?_eq_getElem h3.1⟩
     have h31 := h3.1
     have h32 := h3.2
     have hTG : (G.take (j + 1)).map madeG = (G.take j).map madeG ++ [madeG g] := by rw [List.take_add_one, hg, List.map_append]; rfl
     have hL : ((G.take j).map madeG).length = j := by rw [List.length_map, List.length_take]; omega
     repeat' (first
      | (refine spl_t (by simp; omega) ?_; conv => whnf)
      | ((first | refine Ld.i ?_ | refine LdN.i ?_ | refine St.i ⟨rfl, rfl⟩ (List.cons_ne_nil _ _) ?_); conv => whnf)
      | (intro blk hblk; conv => whnf)
      | (refine IxS.r (a := ga) (xs := G) (i := j) rfl rfl h31 (fun ab off ha => ?_); cases ha; conv => whnf)
      | (refine LdN.r hg rfl ?_; conv => whnf)
      | (refine CallK.ret f_z21.ok (pick_spec (by first | rfl | assumption | omega | decide | (simp; done) | (simp; omega) | (simp at *; omega))) ?_; rintro v G ⟨rfl, rfl⟩; conv => whnf))
     refine OpX.app1 (xs := (G.take j).map madeG) tab_ok rfl rfl rfl rfl (madeG g) rfl hL.symm (by omega) ⟨rfl, OneC.h⟩ (fun a' cap' => ?_)
     rw [← hTG]
     repeat' (first
      | ((first | refine St.i ⟨rfl, rfl⟩ (List.cons_ne_nil _ _) ?_ | refine Ar.i64 (by omega) ?_); conv => whnf))
     refine ⟨rfl, (j + 1, a', cap'), ⟨by dsimp only; omega, by dsimp only; omega⟩, fun t v h => h, ?_, by dsimp only; omega⟩
     first | exact .refl _ | exact .drop | exact .fin | ((repeat refine .pick ?_); first | exact .refl _ | exact .emp _ | exact .fin)
    ·have hTG : G.take j = G.take 84 := by
      by_cases c : j < G.length
      ·rw [show j = 84 by omega]
      ·rw [List.take_of_length_le (by omega), List.take_of_length_le (by omega)]
     obtain ⟨G', hG'⟩ : ∃ G', G' = (G.take 84).map madeG := ⟨_, rfl⟩
     have hl : G'.length = j := by rw [hG', ← hTG, List.length_map, List.length_take]; omega
     rw [hTG, ← hG']
     subst hl
     by_cases g0 : G'.length = 0
     ·rw [if_neg (show ¬ (([] : List CntV).length + G'.length > 0) by simp only [List.length_nil]; omega)]
      repeat' (first
       | (refine spl_f (by simp; omega) ?_; conv => whnf)
       | (refine spl_dec (fun hd => ?_) (fun hd => ?_) <;> first | (exfalso; omega) | (conv => whnf))
       | ((first | refine Ld.i ?_ | refine LdN.i ?_ | refine St.i ⟨rfl, rfl⟩ (List.cons_ne_nil _ _) ?_ | refine Ar.i64 (by omega) ?_); conv => whnf))
      all_goals
       refine ⟨_, _, rfl, ?_, ⟨⟨pickI num 0 63, 0, [], G'⟩, a, cap, a2, cap2⟩, rfl, rfl, rfl⟩
       rw [pgc_eq]
       first | exact .refl _ | exact .drop | exact .fin | ((repeat refine .pick ?_); first | exact .refl _ | exact .emp _ | exact .fin)
     ·rw [if_pos (show ([] : List CntV).length + G'.length > 0 by simp only [List.length_nil]; omega)]
      repeat' (first
       | (refine spl_f (by simp; omega) ?_; conv => whnf)
       | (refine spl_dec (fun hd => ?_) (fun hd => ?_) <;> first | (exfalso; omega) | (conv => whnf))
       | ((first | refine Ld.i ?_ | refine LdN.i ?_ | refine St.i ⟨rfl, rfl⟩ (List.cons_ne_nil _ _) ?_ | refine Ar.i64 (by omega) ?_); conv => whnf)
       | (refine CallK.ret f_z21.ok (pick_spec (by first | rfl | assumption | omega | decide | (simp; done) | (simp; omega) | (simp at *; omega))) ?_; rintro v G ⟨rfl, rfl⟩; conv => whnf))
      all_goals
       refine ⟨_, _, rfl, ?_, ⟨⟨pickI num 0 63, pickI lsn 1 2147483647, [], G'⟩, a, cap, a2, cap2⟩, rfl, rfl, rfl⟩
       rw [pgc_eq]
       first | exact .refl _ | exact .drop | exact .fin | ((repeat refine .pick ?_); first | exact .refl _ | exact .emp _ | exact .fin)
  ·rw [if_neg h0, if_pos (by simp; omega)]
   repeat' (first
    | (refine spl_f (by simp; omega) ?_; conv => whnf)
    | (refine spl_dec (fun hd => ?_) (fun hd => ?_) <;> first | (exfalso; omega) | (conv => whnf))
    | (refine Ld.i ?_; conv => whnf))
   all_goals
    refine LoopK.rounds tab_ok (L := f_z2h.live) 1 ?_
    conv => whnf
    repeat' (first
     | (refine spl_dec (fun hd => ?_) (fun hd => ?_) <;> first | (exfalso; omega) | (conv => whnf))
     | ((first | refine Ld.i ?_ | refine LdN.i ?_ | refine St.i ⟨rfl, rfl⟩ (List.cons_ne_nil _ _) ?_ | refine Ar.i64 (by omega) ?_); conv => whnf)
     | (refine CallK.ret f_z21.ok (pick_spec (by first | rfl | assumption | omega | decide | (simp; done) | (simp; omega) | (simp at *; omega))) ?_; rintro v G ⟨rfl, rfl⟩; conv => whnf))
    all_goals
     refine ⟨_, _, rfl, ?_, ⟨⟨pickI num 0 63, pickI lsn 1 2147483647, C', []⟩, a, cap, none, 0⟩, rfl, rfl, rfl⟩
     rw [pgc_eq]
     refine Imp.pick (Imp.vnil ?_)
     first | exact .refl _ | exact .drop | exact .fin | ((repeat refine .pick ?_); first | exact .refl _ | exact .emp _ | exact .fin)
end Go.Proofs.YtgcknlpkhhpkjaaGreatDoor
