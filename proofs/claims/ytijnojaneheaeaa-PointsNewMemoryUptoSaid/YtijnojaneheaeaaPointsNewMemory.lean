/- PointsNewMemory answers true, and nothing that was there turns, where what it reads is of a bulk that a machine bears. No condition. -/
import Derived.Test.YtijnojaneheaeaaRows
import Derived.Test.YtijnojaneheaeaaPtsRows
namespace Go.Proofs.Ytijnojaneheaeaa.pointsNewMemory
open Go Go.SL Go.SL.Pts Go.ChangeShapes Go.WideShapes Go.ChangeAt Go.RowKit
theorem laid : laidOutB Try.prog = true := by kernel_rfl
/-- What the list of a turn holds. -/
def M (A B : List DirtyV) (j : Nat) : List DirtyV := match j % 3 with
  | 0 => outL fun k => mn (mAt k A) (mAt k B)
  | 1 => outL fun k => mAt k B
  | _ => outL fun k => mAt k A
theorem nand_self {α β : Type} [DecidableEq α] [DecidableEq β] (a : α) (b : β) : (!(decide (a = a) && decide (b = b))) = false := by simp
theorem M_len (A B : List DirtyV) (j : Nat) : (M A B j).length ≤ 64 := by
  unfold M
  split <;> exact outL_len _

theorem merged_M {W : World} {R : HProp} {a b : Option Addr} {n n' cap cap' : Nat} {xs ys L : List DirtyV} (f : Int → Option Int) [c : RowC W R a 2 dirtyv xs] [d : RowC W R b 2 dirtyv ys] (hL : outL f = L) (hx : OkM xs) (hy : OkM ys) (hf : ∀ k, mn (mAt k xs) (mAt k ys) = f k) (hb : xs.length + ys.length ≤ 1000000) (hn : n = xs.length) (hn' : n' = ys.length) :
    Does prog W f_quotalaw16_merged ⟨[.slice a n cap, .slice b n' cap']⟩ R (Ret fun v G => ∃ a' cap', v = .slice a' L.length cap' ∧ G = (vec t_api_Dirty 2 dirtyv a' cap' L • R)) := by
  subst hL
  exact merged_as f hx hy hf hb hn hn'
set_option maxHeartbeats 8000000 in
theorem walk {W : World} {a1 a2 : Option Addr} {n1 n2 c1 c2 : Nat} {x1 x2 : List DirtyV} (o1 : OldVec W 2 dirtyv a1 n1 c1 x1) (o2 : OldVec W 2 dirtyv a2 n2 c2 x2) :
    Does prog W f_quotalaw16_PointsNewMemory ⟨[.slice a1 n1 c1, .slice a2 n2 c2]⟩ (old W • emp) (Ret fun v G => v = .bool true ∧ G = (old W • emp)) := by
  obtain ⟨A, hA⟩ : ∃ A, A = fitF x1 := ⟨_, rfl⟩
  obtain ⟨B, hB⟩ : ∃ B, B = fitF x2 := ⟨_, rfl⟩
  have okA : OkM A ∧ A.length ≤ 2000 := hA ▸ fit_ok x1
  have okB : OkM B ∧ B.length ≤ 2000 := hB ▸ fit_ok x2
  have ok0 : OkM [] := fun p h => by cases h
  haveI r1 : OldR W 2 dirtyv a1 x1 := o1.r
  haveI r2 : OldR W 2 dirtyv a2 x2 := o2.r
  refine f_quotalaw16_PointsNewMemory.does _ _ ?_
  conv => whnf
  repeat' (first
    | (refine spl_f (by with_reducible exact ndec_self _) ?_; conv => whnf)
    | (refine spl_f (by with_reducible exact nbeq_self _) ?_; conv => whnf)
    | (refine spl_t (by with_reducible exact beq_self _) ?_; conv => whnf)
    | (refine spl_dec (fun hd => ?_) (fun hd => ?_) <;> first | (exfalso; omega) | (conv => whnf))
    | (refine spl_ndec (fun hd => ?_) (fun hd => ?_) <;> first | (exfalso; omega) | (conv => whnf))
    | (refine spl_intro (fun hd => ?_) (fun hd => ?_) <;> (conv => whnf))
    | (refine Ld.i ?_; conv => whnf)
    | (refine LdN.i ?_; conv => whnf)
    | (refine St.i ⟨rfl, rfl⟩ (List.cons_ne_nil _ _) ?_; conv => whnf)
    | (refine Ar.i64 (by omega) ?_; conv => whnf)
    | (refine Ar.u64 (by omega) ?_; conv => whnf)
    | (refine Shr.i (by rfl) (by decide) ?_; conv => whnf)
    | (refine Shl.i (by rfl) (by decide) ?_; conv => whnf)
    | (refine Req.mk (by omega) ?_; conv => whnf)
    | (intro blk hblk; conv => whnf)
    | (refine CallK.ret f_quotalaw16_awake.ok (awake_spec) ?_; rintro v G ⟨rfl, rfl⟩; conv => whnf)
    | fail)
  refine CallK.ret f_quotalaw16_fit.ok (fit_spec (c := RowC.old (o := r1)) o1.hlen) ?_
  rintro v G ⟨pa, ca, rfl, rfl⟩
  rw [← hA]
  repeat' (first
    | (refine spl_f (by with_reducible exact ndec_self _) ?_; conv => whnf)
    | (refine spl_f (by with_reducible exact nbeq_self _) ?_; conv => whnf)
    | (refine spl_t (by with_reducible exact beq_self _) ?_; conv => whnf)
    | (refine spl_dec (fun hd => ?_) (fun hd => ?_) <;> first | (exfalso; omega) | (conv => whnf))
    | (refine spl_ndec (fun hd => ?_) (fun hd => ?_) <;> first | (exfalso; omega) | (conv => whnf))
    | (refine spl_intro (fun hd => ?_) (fun hd => ?_) <;> (conv => whnf))
    | (refine Ld.i ?_; conv => whnf)
    | (refine LdN.i ?_; conv => whnf)
    | (refine St.i ⟨rfl, rfl⟩ (List.cons_ne_nil _ _) ?_; conv => whnf)
    | (refine Ar.i64 (by omega) ?_; conv => whnf)
    | (refine Ar.u64 (by omega) ?_; conv => whnf)
    | (refine Shr.i (by rfl) (by decide) ?_; conv => whnf)
    | (refine Shl.i (by rfl) (by decide) ?_; conv => whnf)
    | (refine Req.mk (by omega) ?_; conv => whnf)
    | (intro blk hblk; conv => whnf)
    | fail)
  refine CallK.ret f_quotalaw16_fit.ok (fit_spec (c := RowC.there (c := RowC.old (o := r2))) o2.hlen) ?_
  rintro v G ⟨pb, cb, rfl, rfl⟩
  rw [← hB]
  clear r1 r2
  repeat' (first
    | (refine spl_f (by with_reducible exact ndec_self _) ?_; conv => whnf)
    | (refine spl_f (by with_reducible exact nbeq_self _) ?_; conv => whnf)
    | (refine spl_t (by with_reducible exact beq_self _) ?_; conv => whnf)
    | (refine spl_dec (fun hd => ?_) (fun hd => ?_) <;> first | (exfalso; omega) | (conv => whnf))
    | (refine spl_ndec (fun hd => ?_) (fun hd => ?_) <;> first | (exfalso; omega) | (conv => whnf))
    | (refine spl_intro (fun hd => ?_) (fun hd => ?_) <;> (conv => whnf))
    | (refine Ld.i ?_; conv => whnf)
    | (refine LdN.i ?_; conv => whnf)
    | (refine St.i ⟨rfl, rfl⟩ (List.cons_ne_nil _ _) ?_; conv => whnf)
    | (refine Ar.i64 (by omega) ?_; conv => whnf)
    | (refine Ar.u64 (by omega) ?_; conv => whnf)
    | (refine Shr.i (by rfl) (by decide) ?_; conv => whnf)
    | (refine Shl.i (by rfl) (by decide) ?_; conv => whnf)
    | (refine Req.mk (by omega) ?_; conv => whnf)
    | (intro blk hblk; conv => whnf)
    | fail)
  refine LoopK.at tab_ok (L := f_quotalaw16_PointsNewMemory.live) (ι := Nat × List RowV × List RowV × (Option Addr × Nat) × (Option Addr × Nat))
    (fun i => i.1 ≤ 6 ∧ i.2.1.map (·.xs) = (List.range i.1).map (M A B) ∧ i.2.2.1.map (·.xs) = (List.range i.1).map (M A B))
    (fun i => [(7, .int .i64 i.1), (5, .slice i.2.2.2.1.1 i.1 i.2.2.2.1.2), (6, .slice i.2.2.2.2.1 i.1 i.2.2.2.2.2)])
    (fun i => vec t_S_api_Dirty 1 rv i.2.2.2.1.1 i.2.2.2.1.2 i.2.1 • vec t_S_api_Dirty 1 rv i.2.2.2.2.1 i.2.2.2.2.2 i.2.2.1 • bigL rowc i.2.1 • bigL rowc i.2.2.1) (fun i => 6 - i.1) (0, [], [], (none, 0), (none, 0)) ⟨by simp, rfl, rfl⟩ (fun t v h => h)
    (Imp.assoc (Imp.vnil (Imp.assoc (Imp.vnil (Imp.assoc (Imp.empi (Imp.empi (Imp.refl _)))))))) ?_
  rintro ⟨i, Gs, Ws, ⟨ga, gc⟩, wa, wc⟩ ⟨hi, hG, hW⟩
  dsimp only at hi hG hW ⊢
  simp only [star_assoc]
  have lG : Gs.length = i := by simpa using congrArg List.length hG
  have lW : Ws.length = i := by simpa using congrArg List.length hW
  conv => whnf
  by_cases h6 : i < 6
  · have hi6 : i = 0 ∨ i = 1 ∨ i = 2 ∨ i = 3 ∨ i = 4 ∨ i = 5 := by omega
    have hGs : ∀ r : RowV, r.xs = M A B i → (Gs ++ [r]).map (·.xs) = (List.range (i + 1)).map (M A B) := fun r hr => by
      rw [List.range_succ, List.map_append, List.map_append, hG]; simp [hr]
    have hWs : ∀ r : RowV, r.xs = M A B i → (Ws ++ [r]).map (·.xs) = (List.range (i + 1)).map (M A B) := fun r hr => by
      rw [List.range_succ, List.map_append, List.map_append, hW]; simp [hr]
    have m0 := M_len A B 0
    have m1 := M_len A B 1
    have m2 := M_len A B 2
    have m3 := M_len A B 3
    have m4 := M_len A B 4
    have m5 := M_len A B 5
    rcases hi6 with rfl | rfl | rfl | rfl | rfl | rfl
    · repeat' (first
        | (refine spl_f (by with_reducible exact ndec_self _) ?_; conv => whnf)
        | (refine spl_f (by with_reducible exact nbeq_self _) ?_; conv => whnf)
        | (refine spl_t (by with_reducible exact beq_self _) ?_; conv => whnf)
        | (refine spl_dec (fun hd => ?_) (fun hd => ?_) <;> first | (exfalso; omega) | (conv => whnf))
        | (refine spl_ndec (fun hd => ?_) (fun hd => ?_) <;> first | (exfalso; omega) | (conv => whnf))
        | (refine spl_intro (fun hd => ?_) (fun hd => ?_) <;> (conv => whnf))
        | (refine Ld.i ?_; conv => whnf)
        | (refine LdN.i ?_; conv => whnf)
        | (refine St.i ⟨rfl, rfl⟩ (List.cons_ne_nil _ _) ?_; conv => whnf)
        | (refine Ar.i64 (by omega) ?_; conv => whnf)
        | (refine Ar.u64 (by omega) ?_; conv => whnf)
        | (refine Shr.i (by rfl) (by decide) ?_; conv => whnf)
        | (refine Shl.i (by rfl) (by decide) ?_; conv => whnf)
        | (refine Req.mk (by omega) ?_; conv => whnf)
        | (intro blk hblk; conv => whnf)
        | (refine spl_t (by decide) ?_; conv => whnf)
        | (refine spl_f (by decide) ?_; conv => whnf)
        | (refine CallK.ret f_quotalaw16_merged.ok ((merged_M (xs := A) (ys := B) (L := M A B 0) (fun k => mn (mAt k A) (mAt k B)) rfl okA.1 okB.1 (fun k => rfl) (by omega) rfl rfl)) ?_; rintro v G ⟨g, gc', rfl, rfl⟩; conv => whnf)
        | fail)
      refine OpX.app1 tab_ok rfl rfl rfl rfl (⟨g, gc', M A B 0⟩ : RowV) rfl lG.symm (by omega) ⟨rfl, rv_one⟩ (fun ga' gc2 => ?_)
      repeat' (first
        | (refine spl_f (by with_reducible exact ndec_self _) ?_; conv => whnf)
        | (refine spl_f (by with_reducible exact nbeq_self _) ?_; conv => whnf)
        | (refine spl_t (by with_reducible exact beq_self _) ?_; conv => whnf)
        | (refine spl_dec (fun hd => ?_) (fun hd => ?_) <;> first | (exfalso; omega) | (conv => whnf))
        | (refine spl_ndec (fun hd => ?_) (fun hd => ?_) <;> first | (exfalso; omega) | (conv => whnf))
        | (refine spl_intro (fun hd => ?_) (fun hd => ?_) <;> (conv => whnf))
        | (refine Ld.i ?_; conv => whnf)
        | (refine LdN.i ?_; conv => whnf)
        | (refine St.i ⟨rfl, rfl⟩ (List.cons_ne_nil _ _) ?_; conv => whnf)
        | (refine Ar.i64 (by omega) ?_; conv => whnf)
        | (refine Ar.u64 (by omega) ?_; conv => whnf)
        | (refine Shr.i (by rfl) (by decide) ?_; conv => whnf)
        | (refine Shl.i (by rfl) (by decide) ?_; conv => whnf)
        | (refine Req.mk (by omega) ?_; conv => whnf)
        | (intro blk hblk; conv => whnf)
        | fail)
      refine OpX.appN (ys := M A B 0) tab_ok rfl rfl rfl rfl rfl (by omega) ⟨rfl, dirty_one⟩ (fun w wc' => ?_)
      repeat' (first
        | (refine spl_f (by with_reducible exact ndec_self _) ?_; conv => whnf)
        | (refine spl_f (by with_reducible exact nbeq_self _) ?_; conv => whnf)
        | (refine spl_t (by with_reducible exact beq_self _) ?_; conv => whnf)
        | (refine spl_dec (fun hd => ?_) (fun hd => ?_) <;> first | (exfalso; omega) | (conv => whnf))
        | (refine spl_ndec (fun hd => ?_) (fun hd => ?_) <;> first | (exfalso; omega) | (conv => whnf))
        | (refine spl_intro (fun hd => ?_) (fun hd => ?_) <;> (conv => whnf))
        | (refine Ld.i ?_; conv => whnf)
        | (refine LdN.i ?_; conv => whnf)
        | (refine St.i ⟨rfl, rfl⟩ (List.cons_ne_nil _ _) ?_; conv => whnf)
        | (refine Ar.i64 (by omega) ?_; conv => whnf)
        | (refine Ar.u64 (by omega) ?_; conv => whnf)
        | (refine Shr.i (by rfl) (by decide) ?_; conv => whnf)
        | (refine Shl.i (by rfl) (by decide) ?_; conv => whnf)
        | (refine Req.mk (by omega) ?_; conv => whnf)
        | (intro blk hblk; conv => whnf)
        | fail)
      refine OpX.app1 tab_ok rfl rfl rfl rfl (⟨w, wc', M A B 0⟩ : RowV) rfl lW.symm (by omega) ⟨rfl, rv_one⟩ (fun wa' wc2 => ?_)
      repeat' (first
        | (refine spl_f (by with_reducible exact ndec_self _) ?_; conv => whnf)
        | (refine spl_f (by with_reducible exact nbeq_self _) ?_; conv => whnf)
        | (refine spl_t (by with_reducible exact beq_self _) ?_; conv => whnf)
        | (refine spl_dec (fun hd => ?_) (fun hd => ?_) <;> first | (exfalso; omega) | (conv => whnf))
        | (refine spl_ndec (fun hd => ?_) (fun hd => ?_) <;> first | (exfalso; omega) | (conv => whnf))
        | (refine spl_intro (fun hd => ?_) (fun hd => ?_) <;> (conv => whnf))
        | (refine Ld.i ?_; conv => whnf)
        | (refine LdN.i ?_; conv => whnf)
        | (refine St.i ⟨rfl, rfl⟩ (List.cons_ne_nil _ _) ?_; conv => whnf)
        | (refine Ar.i64 (by omega) ?_; conv => whnf)
        | (refine Ar.u64 (by omega) ?_; conv => whnf)
        | (refine Shr.i (by rfl) (by decide) ?_; conv => whnf)
        | (refine Shl.i (by rfl) (by decide) ?_; conv => whnf)
        | (refine Req.mk (by omega) ?_; conv => whnf)
        | (intro blk hblk; conv => whnf)
        | fail)
      refine ⟨rfl, (0 + 1, Gs ++ [⟨g, gc', M A B 0⟩], Ws ++ [⟨w, wc', M A B 0⟩], (ga', gc2), wa', wc2), ⟨by dsimp only; omega, hGs _ rfl, hWs _ rfl⟩, fun t v h => h, ?_, by dsimp only; omega⟩
      dsimp only
      rw [bigL_snoc, bigL_snoc]
      simp only [star_assoc]
      unfold rowc
      first | exact Imp.refl _ | exact Imp.drop | exact Imp.fin | ((repeat (refine Imp.pick ?_)); first | exact Imp.refl _ | exact Imp.emp _ | exact Imp.fin)
    · repeat' (first
        | (refine spl_f (by with_reducible exact ndec_self _) ?_; conv => whnf)
        | (refine spl_f (by with_reducible exact nbeq_self _) ?_; conv => whnf)
        | (refine spl_t (by with_reducible exact beq_self _) ?_; conv => whnf)
        | (refine spl_dec (fun hd => ?_) (fun hd => ?_) <;> first | (exfalso; omega) | (conv => whnf))
        | (refine spl_ndec (fun hd => ?_) (fun hd => ?_) <;> first | (exfalso; omega) | (conv => whnf))
        | (refine spl_intro (fun hd => ?_) (fun hd => ?_) <;> (conv => whnf))
        | (refine Ld.i ?_; conv => whnf)
        | (refine LdN.i ?_; conv => whnf)
        | (refine St.i ⟨rfl, rfl⟩ (List.cons_ne_nil _ _) ?_; conv => whnf)
        | (refine Ar.i64 (by omega) ?_; conv => whnf)
        | (refine Ar.u64 (by omega) ?_; conv => whnf)
        | (refine Shr.i (by rfl) (by decide) ?_; conv => whnf)
        | (refine Shl.i (by rfl) (by decide) ?_; conv => whnf)
        | (refine Req.mk (by omega) ?_; conv => whnf)
        | (intro blk hblk; conv => whnf)
        | (refine spl_t (by decide) ?_; conv => whnf)
        | (refine spl_f (by decide) ?_; conv => whnf)
        | (refine CallK.ret f_quotalaw16_merged.ok ((merged_M (xs := A) (ys := B) (L := M A B 0) (fun k => mn (mAt k A) (mAt k B)) rfl okA.1 okB.1 (fun k => rfl) (by omega) rfl rfl)) ?_; rintro v G ⟨g, gc', rfl, rfl⟩; conv => whnf)
        | (refine CallK.ret f_quotalaw16_merged.ok ((merged_M (xs := B) (ys := []) (L := M A B 1) (d := RowC.nil) (fun k => mAt k B) rfl okB.1 ok0 (fun k => mn_none _) (by simp only [List.length_nil]; omega) rfl rfl)) ?_; rintro v G ⟨g, gc', rfl, rfl⟩; conv => whnf)
        | fail)
      refine OpX.app1 tab_ok rfl rfl rfl rfl (⟨g, gc', M A B 1⟩ : RowV) rfl lG.symm (by omega) ⟨rfl, rv_one⟩ (fun ga' gc2 => ?_)
      repeat' (first
        | (refine spl_f (by with_reducible exact ndec_self _) ?_; conv => whnf)
        | (refine spl_f (by with_reducible exact nbeq_self _) ?_; conv => whnf)
        | (refine spl_t (by with_reducible exact beq_self _) ?_; conv => whnf)
        | (refine spl_dec (fun hd => ?_) (fun hd => ?_) <;> first | (exfalso; omega) | (conv => whnf))
        | (refine spl_ndec (fun hd => ?_) (fun hd => ?_) <;> first | (exfalso; omega) | (conv => whnf))
        | (refine spl_intro (fun hd => ?_) (fun hd => ?_) <;> (conv => whnf))
        | (refine Ld.i ?_; conv => whnf)
        | (refine LdN.i ?_; conv => whnf)
        | (refine St.i ⟨rfl, rfl⟩ (List.cons_ne_nil _ _) ?_; conv => whnf)
        | (refine Ar.i64 (by omega) ?_; conv => whnf)
        | (refine Ar.u64 (by omega) ?_; conv => whnf)
        | (refine Shr.i (by rfl) (by decide) ?_; conv => whnf)
        | (refine Shl.i (by rfl) (by decide) ?_; conv => whnf)
        | (refine Req.mk (by omega) ?_; conv => whnf)
        | (intro blk hblk; conv => whnf)
        | fail)
      refine OpX.appN (ys := M A B 1) tab_ok rfl rfl rfl rfl rfl (by omega) ⟨rfl, dirty_one⟩ (fun w wc' => ?_)
      repeat' (first
        | (refine spl_f (by with_reducible exact ndec_self _) ?_; conv => whnf)
        | (refine spl_f (by with_reducible exact nbeq_self _) ?_; conv => whnf)
        | (refine spl_t (by with_reducible exact beq_self _) ?_; conv => whnf)
        | (refine spl_dec (fun hd => ?_) (fun hd => ?_) <;> first | (exfalso; omega) | (conv => whnf))
        | (refine spl_ndec (fun hd => ?_) (fun hd => ?_) <;> first | (exfalso; omega) | (conv => whnf))
        | (refine spl_intro (fun hd => ?_) (fun hd => ?_) <;> (conv => whnf))
        | (refine Ld.i ?_; conv => whnf)
        | (refine LdN.i ?_; conv => whnf)
        | (refine St.i ⟨rfl, rfl⟩ (List.cons_ne_nil _ _) ?_; conv => whnf)
        | (refine Ar.i64 (by omega) ?_; conv => whnf)
        | (refine Ar.u64 (by omega) ?_; conv => whnf)
        | (refine Shr.i (by rfl) (by decide) ?_; conv => whnf)
        | (refine Shl.i (by rfl) (by decide) ?_; conv => whnf)
        | (refine Req.mk (by omega) ?_; conv => whnf)
        | (intro blk hblk; conv => whnf)
        | fail)
      refine OpX.app1 tab_ok rfl rfl rfl rfl (⟨w, wc', M A B 1⟩ : RowV) rfl lW.symm (by omega) ⟨rfl, rv_one⟩ (fun wa' wc2 => ?_)
      repeat' (first
        | (refine spl_f (by with_reducible exact ndec_self _) ?_; conv => whnf)
        | (refine spl_f (by with_reducible exact nbeq_self _) ?_; conv => whnf)
        | (refine spl_t (by with_reducible exact beq_self _) ?_; conv => whnf)
        | (refine spl_dec (fun hd => ?_) (fun hd => ?_) <;> first | (exfalso; omega) | (conv => whnf))
        | (refine spl_ndec (fun hd => ?_) (fun hd => ?_) <;> first | (exfalso; omega) | (conv => whnf))
        | (refine spl_intro (fun hd => ?_) (fun hd => ?_) <;> (conv => whnf))
        | (refine Ld.i ?_; conv => whnf)
        | (refine LdN.i ?_; conv => whnf)
        | (refine St.i ⟨rfl, rfl⟩ (List.cons_ne_nil _ _) ?_; conv => whnf)
        | (refine Ar.i64 (by omega) ?_; conv => whnf)
        | (refine Ar.u64 (by omega) ?_; conv => whnf)
        | (refine Shr.i (by rfl) (by decide) ?_; conv => whnf)
        | (refine Shl.i (by rfl) (by decide) ?_; conv => whnf)
        | (refine Req.mk (by omega) ?_; conv => whnf)
        | (intro blk hblk; conv => whnf)
        | fail)
      refine ⟨rfl, (1 + 1, Gs ++ [⟨g, gc', M A B 1⟩], Ws ++ [⟨w, wc', M A B 1⟩], (ga', gc2), wa', wc2), ⟨by dsimp only; omega, hGs _ rfl, hWs _ rfl⟩, fun t v h => h, ?_, by dsimp only; omega⟩
      dsimp only
      rw [bigL_snoc, bigL_snoc]
      simp only [star_assoc]
      unfold rowc
      first | exact Imp.refl _ | exact Imp.drop | exact Imp.fin | ((repeat (refine Imp.pick ?_)); first | exact Imp.refl _ | exact Imp.emp _ | exact Imp.fin)
    · repeat' (first
        | (refine spl_f (by with_reducible exact ndec_self _) ?_; conv => whnf)
        | (refine spl_f (by with_reducible exact nbeq_self _) ?_; conv => whnf)
        | (refine spl_t (by with_reducible exact beq_self _) ?_; conv => whnf)
        | (refine spl_dec (fun hd => ?_) (fun hd => ?_) <;> first | (exfalso; omega) | (conv => whnf))
        | (refine spl_ndec (fun hd => ?_) (fun hd => ?_) <;> first | (exfalso; omega) | (conv => whnf))
        | (refine spl_intro (fun hd => ?_) (fun hd => ?_) <;> (conv => whnf))
        | (refine Ld.i ?_; conv => whnf)
        | (refine LdN.i ?_; conv => whnf)
        | (refine St.i ⟨rfl, rfl⟩ (List.cons_ne_nil _ _) ?_; conv => whnf)
        | (refine Ar.i64 (by omega) ?_; conv => whnf)
        | (refine Ar.u64 (by omega) ?_; conv => whnf)
        | (refine Shr.i (by rfl) (by decide) ?_; conv => whnf)
        | (refine Shl.i (by rfl) (by decide) ?_; conv => whnf)
        | (refine Req.mk (by omega) ?_; conv => whnf)
        | (intro blk hblk; conv => whnf)
        | (refine spl_t (by decide) ?_; conv => whnf)
        | (refine spl_f (by decide) ?_; conv => whnf)
        | (refine CallK.ret f_quotalaw16_merged.ok ((merged_M (xs := A) (ys := B) (L := M A B 0) (fun k => mn (mAt k A) (mAt k B)) rfl okA.1 okB.1 (fun k => rfl) (by omega) rfl rfl)) ?_; rintro v G ⟨g, gc', rfl, rfl⟩; conv => whnf)
        | (refine CallK.ret f_quotalaw16_merged.ok ((merged_M (xs := []) (ys := A) (L := M A B 2) (c := RowC.nil) (fun k => mAt k A) rfl ok0 okA.1 (fun k => rfl) (by simp only [List.length_nil]; omega) rfl rfl)) ?_; rintro v G ⟨g, gc', rfl, rfl⟩; conv => whnf)
        | fail)
      refine OpX.app1 tab_ok rfl rfl rfl rfl (⟨g, gc', M A B 2⟩ : RowV) rfl lG.symm (by omega) ⟨rfl, rv_one⟩ (fun ga' gc2 => ?_)
      repeat' (first
        | (refine spl_f (by with_reducible exact ndec_self _) ?_; conv => whnf)
        | (refine spl_f (by with_reducible exact nbeq_self _) ?_; conv => whnf)
        | (refine spl_t (by with_reducible exact beq_self _) ?_; conv => whnf)
        | (refine spl_dec (fun hd => ?_) (fun hd => ?_) <;> first | (exfalso; omega) | (conv => whnf))
        | (refine spl_ndec (fun hd => ?_) (fun hd => ?_) <;> first | (exfalso; omega) | (conv => whnf))
        | (refine spl_intro (fun hd => ?_) (fun hd => ?_) <;> (conv => whnf))
        | (refine Ld.i ?_; conv => whnf)
        | (refine LdN.i ?_; conv => whnf)
        | (refine St.i ⟨rfl, rfl⟩ (List.cons_ne_nil _ _) ?_; conv => whnf)
        | (refine Ar.i64 (by omega) ?_; conv => whnf)
        | (refine Ar.u64 (by omega) ?_; conv => whnf)
        | (refine Shr.i (by rfl) (by decide) ?_; conv => whnf)
        | (refine Shl.i (by rfl) (by decide) ?_; conv => whnf)
        | (refine Req.mk (by omega) ?_; conv => whnf)
        | (intro blk hblk; conv => whnf)
        | fail)
      refine OpX.appN (ys := M A B 2) tab_ok rfl rfl rfl rfl rfl (by omega) ⟨rfl, dirty_one⟩ (fun w wc' => ?_)
      repeat' (first
        | (refine spl_f (by with_reducible exact ndec_self _) ?_; conv => whnf)
        | (refine spl_f (by with_reducible exact nbeq_self _) ?_; conv => whnf)
        | (refine spl_t (by with_reducible exact beq_self _) ?_; conv => whnf)
        | (refine spl_dec (fun hd => ?_) (fun hd => ?_) <;> first | (exfalso; omega) | (conv => whnf))
        | (refine spl_ndec (fun hd => ?_) (fun hd => ?_) <;> first | (exfalso; omega) | (conv => whnf))
        | (refine spl_intro (fun hd => ?_) (fun hd => ?_) <;> (conv => whnf))
        | (refine Ld.i ?_; conv => whnf)
        | (refine LdN.i ?_; conv => whnf)
        | (refine St.i ⟨rfl, rfl⟩ (List.cons_ne_nil _ _) ?_; conv => whnf)
        | (refine Ar.i64 (by omega) ?_; conv => whnf)
        | (refine Ar.u64 (by omega) ?_; conv => whnf)
        | (refine Shr.i (by rfl) (by decide) ?_; conv => whnf)
        | (refine Shl.i (by rfl) (by decide) ?_; conv => whnf)
        | (refine Req.mk (by omega) ?_; conv => whnf)
        | (intro blk hblk; conv => whnf)
        | fail)
      refine OpX.app1 tab_ok rfl rfl rfl rfl (⟨w, wc', M A B 2⟩ : RowV) rfl lW.symm (by omega) ⟨rfl, rv_one⟩ (fun wa' wc2 => ?_)
      repeat' (first
        | (refine spl_f (by with_reducible exact ndec_self _) ?_; conv => whnf)
        | (refine spl_f (by with_reducible exact nbeq_self _) ?_; conv => whnf)
        | (refine spl_t (by with_reducible exact beq_self _) ?_; conv => whnf)
        | (refine spl_dec (fun hd => ?_) (fun hd => ?_) <;> first | (exfalso; omega) | (conv => whnf))
        | (refine spl_ndec (fun hd => ?_) (fun hd => ?_) <;> first | (exfalso; omega) | (conv => whnf))
        | (refine spl_intro (fun hd => ?_) (fun hd => ?_) <;> (conv => whnf))
        | (refine Ld.i ?_; conv => whnf)
        | (refine LdN.i ?_; conv => whnf)
        | (refine St.i ⟨rfl, rfl⟩ (List.cons_ne_nil _ _) ?_; conv => whnf)
        | (refine Ar.i64 (by omega) ?_; conv => whnf)
        | (refine Ar.u64 (by omega) ?_; conv => whnf)
        | (refine Shr.i (by rfl) (by decide) ?_; conv => whnf)
        | (refine Shl.i (by rfl) (by decide) ?_; conv => whnf)
        | (refine Req.mk (by omega) ?_; conv => whnf)
        | (intro blk hblk; conv => whnf)
        | fail)
      refine ⟨rfl, (2 + 1, Gs ++ [⟨g, gc', M A B 2⟩], Ws ++ [⟨w, wc', M A B 2⟩], (ga', gc2), wa', wc2), ⟨by dsimp only; omega, hGs _ rfl, hWs _ rfl⟩, fun t v h => h, ?_, by dsimp only; omega⟩
      dsimp only
      rw [bigL_snoc, bigL_snoc]
      simp only [star_assoc]
      unfold rowc
      first | exact Imp.refl _ | exact Imp.drop | exact Imp.fin | ((repeat (refine Imp.pick ?_)); first | exact Imp.refl _ | exact Imp.emp _ | exact Imp.fin)
    · repeat' (first
        | (refine spl_f (by with_reducible exact ndec_self _) ?_; conv => whnf)
        | (refine spl_f (by with_reducible exact nbeq_self _) ?_; conv => whnf)
        | (refine spl_t (by with_reducible exact beq_self _) ?_; conv => whnf)
        | (refine spl_dec (fun hd => ?_) (fun hd => ?_) <;> first | (exfalso; omega) | (conv => whnf))
        | (refine spl_ndec (fun hd => ?_) (fun hd => ?_) <;> first | (exfalso; omega) | (conv => whnf))
        | (refine spl_intro (fun hd => ?_) (fun hd => ?_) <;> (conv => whnf))
        | (refine Ld.i ?_; conv => whnf)
        | (refine LdN.i ?_; conv => whnf)
        | (refine St.i ⟨rfl, rfl⟩ (List.cons_ne_nil _ _) ?_; conv => whnf)
        | (refine Ar.i64 (by omega) ?_; conv => whnf)
        | (refine Ar.u64 (by omega) ?_; conv => whnf)
        | (refine Shr.i (by rfl) (by decide) ?_; conv => whnf)
        | (refine Shl.i (by rfl) (by decide) ?_; conv => whnf)
        | (refine Req.mk (by omega) ?_; conv => whnf)
        | (intro blk hblk; conv => whnf)
        | (refine spl_t (by decide) ?_; conv => whnf)
        | (refine spl_f (by decide) ?_; conv => whnf)
        | (refine CallK.ret f_quotalaw16_merged.ok ((merged_M (xs := A) (ys := B) (L := M A B 3) (fun k => mn (mAt k A) (mAt k B)) rfl okA.1 okB.1 (fun k => rfl) (by omega) rfl rfl)) ?_; rintro v G ⟨g, gc', rfl, rfl⟩; conv => whnf)
        | fail)
      refine OpX.app1 tab_ok rfl rfl rfl rfl (⟨g, gc', M A B 3⟩ : RowV) rfl lG.symm (by omega) ⟨rfl, rv_one⟩ (fun ga' gc2 => ?_)
      repeat' (first
        | (refine spl_f (by with_reducible exact ndec_self _) ?_; conv => whnf)
        | (refine spl_f (by with_reducible exact nbeq_self _) ?_; conv => whnf)
        | (refine spl_t (by with_reducible exact beq_self _) ?_; conv => whnf)
        | (refine spl_dec (fun hd => ?_) (fun hd => ?_) <;> first | (exfalso; omega) | (conv => whnf))
        | (refine spl_ndec (fun hd => ?_) (fun hd => ?_) <;> first | (exfalso; omega) | (conv => whnf))
        | (refine spl_intro (fun hd => ?_) (fun hd => ?_) <;> (conv => whnf))
        | (refine Ld.i ?_; conv => whnf)
        | (refine LdN.i ?_; conv => whnf)
        | (refine St.i ⟨rfl, rfl⟩ (List.cons_ne_nil _ _) ?_; conv => whnf)
        | (refine Ar.i64 (by omega) ?_; conv => whnf)
        | (refine Ar.u64 (by omega) ?_; conv => whnf)
        | (refine Shr.i (by rfl) (by decide) ?_; conv => whnf)
        | (refine Shl.i (by rfl) (by decide) ?_; conv => whnf)
        | (refine Req.mk (by omega) ?_; conv => whnf)
        | (intro blk hblk; conv => whnf)
        | fail)
      refine OpX.appN (ys := M A B 3) tab_ok rfl rfl rfl rfl rfl (by omega) ⟨rfl, dirty_one⟩ (fun w wc' => ?_)
      repeat' (first
        | (refine spl_f (by with_reducible exact ndec_self _) ?_; conv => whnf)
        | (refine spl_f (by with_reducible exact nbeq_self _) ?_; conv => whnf)
        | (refine spl_t (by with_reducible exact beq_self _) ?_; conv => whnf)
        | (refine spl_dec (fun hd => ?_) (fun hd => ?_) <;> first | (exfalso; omega) | (conv => whnf))
        | (refine spl_ndec (fun hd => ?_) (fun hd => ?_) <;> first | (exfalso; omega) | (conv => whnf))
        | (refine spl_intro (fun hd => ?_) (fun hd => ?_) <;> (conv => whnf))
        | (refine Ld.i ?_; conv => whnf)
        | (refine LdN.i ?_; conv => whnf)
        | (refine St.i ⟨rfl, rfl⟩ (List.cons_ne_nil _ _) ?_; conv => whnf)
        | (refine Ar.i64 (by omega) ?_; conv => whnf)
        | (refine Ar.u64 (by omega) ?_; conv => whnf)
        | (refine Shr.i (by rfl) (by decide) ?_; conv => whnf)
        | (refine Shl.i (by rfl) (by decide) ?_; conv => whnf)
        | (refine Req.mk (by omega) ?_; conv => whnf)
        | (intro blk hblk; conv => whnf)
        | fail)
      refine OpX.app1 tab_ok rfl rfl rfl rfl (⟨w, wc', M A B 3⟩ : RowV) rfl lW.symm (by omega) ⟨rfl, rv_one⟩ (fun wa' wc2 => ?_)
      repeat' (first
        | (refine spl_f (by with_reducible exact ndec_self _) ?_; conv => whnf)
        | (refine spl_f (by with_reducible exact nbeq_self _) ?_; conv => whnf)
        | (refine spl_t (by with_reducible exact beq_self _) ?_; conv => whnf)
        | (refine spl_dec (fun hd => ?_) (fun hd => ?_) <;> first | (exfalso; omega) | (conv => whnf))
        | (refine spl_ndec (fun hd => ?_) (fun hd => ?_) <;> first | (exfalso; omega) | (conv => whnf))
        | (refine spl_intro (fun hd => ?_) (fun hd => ?_) <;> (conv => whnf))
        | (refine Ld.i ?_; conv => whnf)
        | (refine LdN.i ?_; conv => whnf)
        | (refine St.i ⟨rfl, rfl⟩ (List.cons_ne_nil _ _) ?_; conv => whnf)
        | (refine Ar.i64 (by omega) ?_; conv => whnf)
        | (refine Ar.u64 (by omega) ?_; conv => whnf)
        | (refine Shr.i (by rfl) (by decide) ?_; conv => whnf)
        | (refine Shl.i (by rfl) (by decide) ?_; conv => whnf)
        | (refine Req.mk (by omega) ?_; conv => whnf)
        | (intro blk hblk; conv => whnf)
        | fail)
      refine ⟨rfl, (3 + 1, Gs ++ [⟨g, gc', M A B 3⟩], Ws ++ [⟨w, wc', M A B 3⟩], (ga', gc2), wa', wc2), ⟨by dsimp only; omega, hGs _ rfl, hWs _ rfl⟩, fun t v h => h, ?_, by dsimp only; omega⟩
      dsimp only
      rw [bigL_snoc, bigL_snoc]
      simp only [star_assoc]
      unfold rowc
      first | exact Imp.refl _ | exact Imp.drop | exact Imp.fin | ((repeat (refine Imp.pick ?_)); first | exact Imp.refl _ | exact Imp.emp _ | exact Imp.fin)
    · repeat' (first
        | (refine spl_f (by with_reducible exact ndec_self _) ?_; conv => whnf)
        | (refine spl_f (by with_reducible exact nbeq_self _) ?_; conv => whnf)
        | (refine spl_t (by with_reducible exact beq_self _) ?_; conv => whnf)
        | (refine spl_dec (fun hd => ?_) (fun hd => ?_) <;> first | (exfalso; omega) | (conv => whnf))
        | (refine spl_ndec (fun hd => ?_) (fun hd => ?_) <;> first | (exfalso; omega) | (conv => whnf))
        | (refine spl_intro (fun hd => ?_) (fun hd => ?_) <;> (conv => whnf))
        | (refine Ld.i ?_; conv => whnf)
        | (refine LdN.i ?_; conv => whnf)
        | (refine St.i ⟨rfl, rfl⟩ (List.cons_ne_nil _ _) ?_; conv => whnf)
        | (refine Ar.i64 (by omega) ?_; conv => whnf)
        | (refine Ar.u64 (by omega) ?_; conv => whnf)
        | (refine Shr.i (by rfl) (by decide) ?_; conv => whnf)
        | (refine Shl.i (by rfl) (by decide) ?_; conv => whnf)
        | (refine Req.mk (by omega) ?_; conv => whnf)
        | (intro blk hblk; conv => whnf)
        | (refine spl_t (by decide) ?_; conv => whnf)
        | (refine spl_f (by decide) ?_; conv => whnf)
        | (refine CallK.ret f_quotalaw16_merged.ok ((merged_M (xs := A) (ys := B) (L := M A B 0) (fun k => mn (mAt k A) (mAt k B)) rfl okA.1 okB.1 (fun k => rfl) (by omega) rfl rfl)) ?_; rintro v G ⟨g, gc', rfl, rfl⟩; conv => whnf)
        | (refine CallK.ret f_quotalaw16_merged.ok ((merged_M (xs := B) (ys := []) (L := M A B 4) (d := RowC.nil) (fun k => mAt k B) rfl okB.1 ok0 (fun k => mn_none _) (by simp only [List.length_nil]; omega) rfl rfl)) ?_; rintro v G ⟨g, gc', rfl, rfl⟩; conv => whnf)
        | fail)
      refine OpX.app1 tab_ok rfl rfl rfl rfl (⟨g, gc', M A B 4⟩ : RowV) rfl lG.symm (by omega) ⟨rfl, rv_one⟩ (fun ga' gc2 => ?_)
      repeat' (first
        | (refine spl_f (by with_reducible exact ndec_self _) ?_; conv => whnf)
        | (refine spl_f (by with_reducible exact nbeq_self _) ?_; conv => whnf)
        | (refine spl_t (by with_reducible exact beq_self _) ?_; conv => whnf)
        | (refine spl_dec (fun hd => ?_) (fun hd => ?_) <;> first | (exfalso; omega) | (conv => whnf))
        | (refine spl_ndec (fun hd => ?_) (fun hd => ?_) <;> first | (exfalso; omega) | (conv => whnf))
        | (refine spl_intro (fun hd => ?_) (fun hd => ?_) <;> (conv => whnf))
        | (refine Ld.i ?_; conv => whnf)
        | (refine LdN.i ?_; conv => whnf)
        | (refine St.i ⟨rfl, rfl⟩ (List.cons_ne_nil _ _) ?_; conv => whnf)
        | (refine Ar.i64 (by omega) ?_; conv => whnf)
        | (refine Ar.u64 (by omega) ?_; conv => whnf)
        | (refine Shr.i (by rfl) (by decide) ?_; conv => whnf)
        | (refine Shl.i (by rfl) (by decide) ?_; conv => whnf)
        | (refine Req.mk (by omega) ?_; conv => whnf)
        | (intro blk hblk; conv => whnf)
        | fail)
      refine OpX.appN (ys := M A B 4) tab_ok rfl rfl rfl rfl rfl (by omega) ⟨rfl, dirty_one⟩ (fun w wc' => ?_)
      repeat' (first
        | (refine spl_f (by with_reducible exact ndec_self _) ?_; conv => whnf)
        | (refine spl_f (by with_reducible exact nbeq_self _) ?_; conv => whnf)
        | (refine spl_t (by with_reducible exact beq_self _) ?_; conv => whnf)
        | (refine spl_dec (fun hd => ?_) (fun hd => ?_) <;> first | (exfalso; omega) | (conv => whnf))
        | (refine spl_ndec (fun hd => ?_) (fun hd => ?_) <;> first | (exfalso; omega) | (conv => whnf))
        | (refine spl_intro (fun hd => ?_) (fun hd => ?_) <;> (conv => whnf))
        | (refine Ld.i ?_; conv => whnf)
        | (refine LdN.i ?_; conv => whnf)
        | (refine St.i ⟨rfl, rfl⟩ (List.cons_ne_nil _ _) ?_; conv => whnf)
        | (refine Ar.i64 (by omega) ?_; conv => whnf)
        | (refine Ar.u64 (by omega) ?_; conv => whnf)
        | (refine Shr.i (by rfl) (by decide) ?_; conv => whnf)
        | (refine Shl.i (by rfl) (by decide) ?_; conv => whnf)
        | (refine Req.mk (by omega) ?_; conv => whnf)
        | (intro blk hblk; conv => whnf)
        | fail)
      refine OpX.app1 tab_ok rfl rfl rfl rfl (⟨w, wc', M A B 4⟩ : RowV) rfl lW.symm (by omega) ⟨rfl, rv_one⟩ (fun wa' wc2 => ?_)
      repeat' (first
        | (refine spl_f (by with_reducible exact ndec_self _) ?_; conv => whnf)
        | (refine spl_f (by with_reducible exact nbeq_self _) ?_; conv => whnf)
        | (refine spl_t (by with_reducible exact beq_self _) ?_; conv => whnf)
        | (refine spl_dec (fun hd => ?_) (fun hd => ?_) <;> first | (exfalso; omega) | (conv => whnf))
        | (refine spl_ndec (fun hd => ?_) (fun hd => ?_) <;> first | (exfalso; omega) | (conv => whnf))
        | (refine spl_intro (fun hd => ?_) (fun hd => ?_) <;> (conv => whnf))
        | (refine Ld.i ?_; conv => whnf)
        | (refine LdN.i ?_; conv => whnf)
        | (refine St.i ⟨rfl, rfl⟩ (List.cons_ne_nil _ _) ?_; conv => whnf)
        | (refine Ar.i64 (by omega) ?_; conv => whnf)
        | (refine Ar.u64 (by omega) ?_; conv => whnf)
        | (refine Shr.i (by rfl) (by decide) ?_; conv => whnf)
        | (refine Shl.i (by rfl) (by decide) ?_; conv => whnf)
        | (refine Req.mk (by omega) ?_; conv => whnf)
        | (intro blk hblk; conv => whnf)
        | fail)
      refine ⟨rfl, (4 + 1, Gs ++ [⟨g, gc', M A B 4⟩], Ws ++ [⟨w, wc', M A B 4⟩], (ga', gc2), wa', wc2), ⟨by dsimp only; omega, hGs _ rfl, hWs _ rfl⟩, fun t v h => h, ?_, by dsimp only; omega⟩
      dsimp only
      rw [bigL_snoc, bigL_snoc]
      simp only [star_assoc]
      unfold rowc
      first | exact Imp.refl _ | exact Imp.drop | exact Imp.fin | ((repeat (refine Imp.pick ?_)); first | exact Imp.refl _ | exact Imp.emp _ | exact Imp.fin)
    · repeat' (first
        | (refine spl_f (by with_reducible exact ndec_self _) ?_; conv => whnf)
        | (refine spl_f (by with_reducible exact nbeq_self _) ?_; conv => whnf)
        | (refine spl_t (by with_reducible exact beq_self _) ?_; conv => whnf)
        | (refine spl_dec (fun hd => ?_) (fun hd => ?_) <;> first | (exfalso; omega) | (conv => whnf))
        | (refine spl_ndec (fun hd => ?_) (fun hd => ?_) <;> first | (exfalso; omega) | (conv => whnf))
        | (refine spl_intro (fun hd => ?_) (fun hd => ?_) <;> (conv => whnf))
        | (refine Ld.i ?_; conv => whnf)
        | (refine LdN.i ?_; conv => whnf)
        | (refine St.i ⟨rfl, rfl⟩ (List.cons_ne_nil _ _) ?_; conv => whnf)
        | (refine Ar.i64 (by omega) ?_; conv => whnf)
        | (refine Ar.u64 (by omega) ?_; conv => whnf)
        | (refine Shr.i (by rfl) (by decide) ?_; conv => whnf)
        | (refine Shl.i (by rfl) (by decide) ?_; conv => whnf)
        | (refine Req.mk (by omega) ?_; conv => whnf)
        | (intro blk hblk; conv => whnf)
        | (refine spl_t (by decide) ?_; conv => whnf)
        | (refine spl_f (by decide) ?_; conv => whnf)
        | (refine CallK.ret f_quotalaw16_merged.ok ((merged_M (xs := A) (ys := B) (L := M A B 0) (fun k => mn (mAt k A) (mAt k B)) rfl okA.1 okB.1 (fun k => rfl) (by omega) rfl rfl)) ?_; rintro v G ⟨g, gc', rfl, rfl⟩; conv => whnf)
        | (refine CallK.ret f_quotalaw16_merged.ok ((merged_M (xs := []) (ys := A) (L := M A B 5) (c := RowC.nil) (fun k => mAt k A) rfl ok0 okA.1 (fun k => rfl) (by simp only [List.length_nil]; omega) rfl rfl)) ?_; rintro v G ⟨g, gc', rfl, rfl⟩; conv => whnf)
        | fail)
      refine OpX.app1 tab_ok rfl rfl rfl rfl (⟨g, gc', M A B 5⟩ : RowV) rfl lG.symm (by omega) ⟨rfl, rv_one⟩ (fun ga' gc2 => ?_)
      repeat' (first
        | (refine spl_f (by with_reducible exact ndec_self _) ?_; conv => whnf)
        | (refine spl_f (by with_reducible exact nbeq_self _) ?_; conv => whnf)
        | (refine spl_t (by with_reducible exact beq_self _) ?_; conv => whnf)
        | (refine spl_dec (fun hd => ?_) (fun hd => ?_) <;> first | (exfalso; omega) | (conv => whnf))
        | (refine spl_ndec (fun hd => ?_) (fun hd => ?_) <;> first | (exfalso; omega) | (conv => whnf))
        | (refine spl_intro (fun hd => ?_) (fun hd => ?_) <;> (conv => whnf))
        | (refine Ld.i ?_; conv => whnf)
        | (refine LdN.i ?_; conv => whnf)
        | (refine St.i ⟨rfl, rfl⟩ (List.cons_ne_nil _ _) ?_; conv => whnf)
        | (refine Ar.i64 (by omega) ?_; conv => whnf)
        | (refine Ar.u64 (by omega) ?_; conv => whnf)
        | (refine Shr.i (by rfl) (by decide) ?_; conv => whnf)
        | (refine Shl.i (by rfl) (by decide) ?_; conv => whnf)
        | (refine Req.mk (by omega) ?_; conv => whnf)
        | (intro blk hblk; conv => whnf)
        | fail)
      refine OpX.appN (ys := M A B 5) tab_ok rfl rfl rfl rfl rfl (by omega) ⟨rfl, dirty_one⟩ (fun w wc' => ?_)
      repeat' (first
        | (refine spl_f (by with_reducible exact ndec_self _) ?_; conv => whnf)
        | (refine spl_f (by with_reducible exact nbeq_self _) ?_; conv => whnf)
        | (refine spl_t (by with_reducible exact beq_self _) ?_; conv => whnf)
        | (refine spl_dec (fun hd => ?_) (fun hd => ?_) <;> first | (exfalso; omega) | (conv => whnf))
        | (refine spl_ndec (fun hd => ?_) (fun hd => ?_) <;> first | (exfalso; omega) | (conv => whnf))
        | (refine spl_intro (fun hd => ?_) (fun hd => ?_) <;> (conv => whnf))
        | (refine Ld.i ?_; conv => whnf)
        | (refine LdN.i ?_; conv => whnf)
        | (refine St.i ⟨rfl, rfl⟩ (List.cons_ne_nil _ _) ?_; conv => whnf)
        | (refine Ar.i64 (by omega) ?_; conv => whnf)
        | (refine Ar.u64 (by omega) ?_; conv => whnf)
        | (refine Shr.i (by rfl) (by decide) ?_; conv => whnf)
        | (refine Shl.i (by rfl) (by decide) ?_; conv => whnf)
        | (refine Req.mk (by omega) ?_; conv => whnf)
        | (intro blk hblk; conv => whnf)
        | fail)
      refine OpX.app1 tab_ok rfl rfl rfl rfl (⟨w, wc', M A B 5⟩ : RowV) rfl lW.symm (by omega) ⟨rfl, rv_one⟩ (fun wa' wc2 => ?_)
      repeat' (first
        | (refine spl_f (by with_reducible exact ndec_self _) ?_; conv => whnf)
        | (refine spl_f (by with_reducible exact nbeq_self _) ?_; conv => whnf)
        | (refine spl_t (by with_reducible exact beq_self _) ?_; conv => whnf)
        | (refine spl_dec (fun hd => ?_) (fun hd => ?_) <;> first | (exfalso; omega) | (conv => whnf))
        | (refine spl_ndec (fun hd => ?_) (fun hd => ?_) <;> first | (exfalso; omega) | (conv => whnf))
        | (refine spl_intro (fun hd => ?_) (fun hd => ?_) <;> (conv => whnf))
        | (refine Ld.i ?_; conv => whnf)
        | (refine LdN.i ?_; conv => whnf)
        | (refine St.i ⟨rfl, rfl⟩ (List.cons_ne_nil _ _) ?_; conv => whnf)
        | (refine Ar.i64 (by omega) ?_; conv => whnf)
        | (refine Ar.u64 (by omega) ?_; conv => whnf)
        | (refine Shr.i (by rfl) (by decide) ?_; conv => whnf)
        | (refine Shl.i (by rfl) (by decide) ?_; conv => whnf)
        | (refine Req.mk (by omega) ?_; conv => whnf)
        | (intro blk hblk; conv => whnf)
        | fail)
      refine ⟨rfl, (5 + 1, Gs ++ [⟨g, gc', M A B 5⟩], Ws ++ [⟨w, wc', M A B 5⟩], (ga', gc2), wa', wc2), ⟨by dsimp only; omega, hGs _ rfl, hWs _ rfl⟩, fun t v h => h, ?_, by dsimp only; omega⟩
      dsimp only
      rw [bigL_snoc, bigL_snoc]
      simp only [star_assoc]
      unfold rowc
      first | exact Imp.refl _ | exact Imp.drop | exact Imp.fin | ((repeat (refine Imp.pick ?_)); first | exact Imp.refl _ | exact Imp.emp _ | exact Imp.fin)
  have e6 : i = 6 := by omega
  subst e6
  have hGk : ∀ (k : Nat) (r : RowV), Gs[k]? = some r → r.xs = M A B k := fun k r h => by
    have := congrArg (fun l => l[k]?) hG
    have hk : k < 6 := by have := (List.getElem?_eq_some_iff.1 h).1; omega
    simpa [h, hk] using this
  have hWk : ∀ (k : Nat) (r : RowV), Ws[k]? = some r → r.xs = M A B k := fun k r h => by
    have := congrArg (fun l => l[k]?) hW
    have hk : k < 6 := by have := (List.getElem?_eq_some_iff.1 h).1; omega
    simpa [h, hk] using this
  repeat' (first
    | (refine spl_f (by with_reducible exact ndec_self _) ?_; conv => whnf)
    | (refine spl_f (by with_reducible exact nbeq_self _) ?_; conv => whnf)
    | (refine spl_t (by with_reducible exact beq_self _) ?_; conv => whnf)
    | (refine spl_dec (fun hd => ?_) (fun hd => ?_) <;> first | (exfalso; omega) | (conv => whnf))
    | (refine spl_ndec (fun hd => ?_) (fun hd => ?_) <;> first | (exfalso; omega) | (conv => whnf))
    | (refine spl_intro (fun hd => ?_) (fun hd => ?_) <;> (conv => whnf))
    | (refine Ld.i ?_; conv => whnf)
    | (refine LdN.i ?_; conv => whnf)
    | (refine St.i ⟨rfl, rfl⟩ (List.cons_ne_nil _ _) ?_; conv => whnf)
    | (refine Ar.i64 (by omega) ?_; conv => whnf)
    | (refine Ar.u64 (by omega) ?_; conv => whnf)
    | (refine Shr.i (by rfl) (by decide) ?_; conv => whnf)
    | (refine Shl.i (by rfl) (by decide) ?_; conv => whnf)
    | (refine Req.mk (by omega) ?_; conv => whnf)
    | (intro blk hblk; conv => whnf)
    | fail)
  refine LoopK.keep tab_ok (L := f_quotalaw16_PointsNewMemory.live) (ι := Nat) (fun i => i ≤ 6) (fun i => [(9, .int .i64 i)]) (fun i => 6 - i) 0 (by simp) (fun t v h => h) ?_
  intro k hk
  conv => whnf
  refine spl_dec (fun h6' => ?_) (fun h6' => ?_)
  · obtain ⟨r, hr⟩ : ∃ r, Gs[k]? = some r := ⟨_, List.getElem?_eq_getElem (by omega)⟩
    obtain ⟨s, hs⟩ : ∃ s, Ws[k]? = some s := ⟨_, List.getElem?_eq_getElem (by omega)⟩
    obtain ⟨s3, hs3⟩ : ∃ s, Ws[k - 3]? = some s := ⟨_, List.getElem?_eq_getElem (by omega)⟩
    haveI mr : MemC Gs r := ⟨List.mem_of_getElem? hr⟩
    haveI ms : MemC Ws s := ⟨List.mem_of_getElem? hs⟩
    haveI ms3 : MemC Ws s3 := ⟨List.mem_of_getElem? hs3⟩
    have e1 : r.xs = s.xs := (hGk k r hr).trans (hWk k s hs).symm
    have e3 : 3 ≤ k → s.xs = s3.xs := fun h3 => by
      rw [hWk k s hs, hWk _ s3 hs3]
      unfold M
      rw [show (k - 3) % 3 = k % 3 by omega]
    have hl : r.xs.length ≤ 64 := (hGk k r hr) ▸ M_len A B k
    have hl2 : s.xs.length ≤ 64 := (hWk k s hs) ▸ M_len A B k
    conv => whnf
    repeat' (first
      | (refine spl_f (by with_reducible exact ndec_self _) ?_; conv => whnf)
      | (refine spl_f (by with_reducible exact nbeq_self _) ?_; conv => whnf)
      | (refine spl_t (by with_reducible exact beq_self _) ?_; conv => whnf)
      | (refine spl_dec (fun hd => ?_) (fun hd => ?_) <;> first | (exfalso; omega) | (conv => whnf))
      | (refine spl_ndec (fun hd => ?_) (fun hd => ?_) <;> first | (exfalso; omega) | (conv => whnf))
      | (refine spl_intro (fun hd => ?_) (fun hd => ?_) <;> (conv => whnf))
      | (refine Ld.i ?_; conv => whnf)
      | (refine LdN.i ?_; conv => whnf)
      | (refine St.i ⟨rfl, rfl⟩ (List.cons_ne_nil _ _) ?_; conv => whnf)
      | (refine Ar.i64 (by omega) ?_; conv => whnf)
      | (refine Ar.u64 (by omega) ?_; conv => whnf)
      | (refine Shr.i (by rfl) (by decide) ?_; conv => whnf)
      | (refine Shl.i (by rfl) (by decide) ?_; conv => whnf)
      | (refine Req.mk (by omega) ?_; conv => whnf)
      | (intro blk hblk; conv => whnf)
      | (refine DrawK.intro tab_ok mixed f_quotalaw16_PointsNewMemory.last20 f_quotalaw16_PointsNewMemory.plan20 _ (by kernel_rfl) (Sub.of (by first | exact Imp.refl _ | exact Imp.drop | exact Imp.fin | ((repeat (refine Imp.pick ?_)); first | exact Imp.refl _ | exact Imp.emp _ | exact Imp.fin))) ?_; conv => whnf)
      | (refine Sub.on (by first | exact Imp.refl _ | exact Imp.drop | exact Imp.fin | ((repeat (refine Imp.pick ?_)); first | exact Imp.refl _ | exact Imp.emp _ | exact Imp.fin)) ?_; conv => whnf)
      | (refine IxS.r (i := k) rfl lG.symm (by omega) (fun ab off ha => ?_); cases ha; conv => whnf)
      | (refine IxS.r (i := k) rfl lW.symm (by omega) (fun ab off ha => ?_); cases ha; conv => whnf)
      | (refine IxS.r (i := k - 3) (by omega) lW.symm (by omega) (fun ab off ha => ?_); cases ha; conv => whnf)
      | (refine LdN.r hr rfl ?_; conv => whnf)
      | (refine Ld.r hr rfl ?_; conv => whnf)
      | (refine Ld.r0 hr rfl ?_; conv => whnf)
      | (refine LdN.rp hr ?_; conv => whnf)
      | (refine LdN.r hs rfl ?_; conv => whnf)
      | (refine Ld.r hs rfl ?_; conv => whnf)
      | (refine Ld.r0 hs rfl ?_; conv => whnf)
      | (refine LdN.rp hs ?_; conv => whnf)
      | (refine LdN.r hs3 rfl ?_; conv => whnf)
      | (refine Ld.r hs3 rfl ?_; conv => whnf)
      | (refine Ld.r0 hs3 rfl ?_; conv => whnf)
      | (refine LdN.rp hs3 ?_; conv => whnf)
      | (refine CallK.ret f_quotalaw16_same.ok ((same_spec (xs := r.xs) (ys := s.xs) rfl rfl (by omega))) ?_; rintro v G ⟨rfl, rfl⟩; conv => whnf)
      | (refine CallK.ret f_quotalaw16_same.ok ((same_spec (xs := s.xs) (ys := s3.xs) rfl rfl (by omega))) ?_; rintro v G ⟨rfl, rfl⟩; conv => whnf)
      | fail)
    · exact absurd e1 (by assumption)
    · exact absurd (e3 (by omega)) (by assumption)
    all_goals exact ⟨rfl, k + 1, by omega, fun t v h => h, Imp.refl _, by omega⟩
  have lens : ∀ (k : Nat) (r : RowV), Gs[k]? = some r → r.xs.length ≤ 64 := fun k r h => (hGk k r h) ▸ M_len A B k
  conv => whnf
  repeat' (first
    | (refine spl_f (by with_reducible exact ndec_self _) ?_; conv => whnf)
    | (refine spl_f (by with_reducible exact nbeq_self _) ?_; conv => whnf)
    | (refine spl_t (by with_reducible exact beq_self _) ?_; conv => whnf)
    | (refine spl_dec (fun hd => ?_) (fun hd => ?_) <;> first | (exfalso; omega) | (conv => whnf))
    | (refine spl_ndec (fun hd => ?_) (fun hd => ?_) <;> first | (exfalso; omega) | (conv => whnf))
    | (refine spl_intro (fun hd => ?_) (fun hd => ?_) <;> (conv => whnf))
    | (refine Ld.i ?_; conv => whnf)
    | (refine LdN.i ?_; conv => whnf)
    | (refine St.i ⟨rfl, rfl⟩ (List.cons_ne_nil _ _) ?_; conv => whnf)
    | (refine Ar.i64 (by omega) ?_; conv => whnf)
    | (refine Ar.u64 (by omega) ?_; conv => whnf)
    | (refine Shr.i (by rfl) (by decide) ?_; conv => whnf)
    | (refine Shl.i (by rfl) (by decide) ?_; conv => whnf)
    | (refine Req.mk (by omega) ?_; conv => whnf)
    | (intro blk hblk; conv => whnf)
    | fail)
  refine LoopK.at tab_ok (L := f_quotalaw16_PointsNewMemory.live) (ι := Nat × List RowV) (fun i => i.1 ≤ 6 ∧ i.2.length = 6 ∧ (∀ (j : Nat) (r r' : RowV), Gs[j]? = some r → i.2[j]? = some r' → r'.a = r.a ∧ r'.cap = r.cap ∧ r'.xs.length = r.xs.length) ∧ ∀ (j : Nat) (r' : RowV), j < i.1 → i.2[j]? = some r' → ∀ m : Nat, m < r'.xs.length → r'.xs[m]? = some (-1 - (j : Int), 0 - (m : Int)))
    (fun i => [(10, .int .i64 i.1)]) (fun i => bigL rowc i.2) (fun i => 6 - i.1) (0, Gs) ⟨by simp, lG, fun j r r' h h' => by dsimp only at h'; rw [h] at h'; cases h'; exact ⟨rfl, rfl, rfl⟩, fun j r' h => by simp at h⟩ (fun t v h => h) (Imp.pick (Imp.refl _)) ?_
  rintro ⟨k, Xs⟩ ⟨hk, lX, hX, hmk⟩
  dsimp only at hk lX hX hmk ⊢
  conv => whnf
  refine spl_dec (fun h6' => ?_) (fun h6' => ?_)
  · obtain ⟨r, hr⟩ : ∃ r, Gs[k]? = some r := ⟨_, List.getElem?_eq_getElem (by omega)⟩
    obtain ⟨q, hq⟩ : ∃ q, Xs[k]? = some q := ⟨_, List.getElem?_eq_getElem (by omega)⟩
    obtain ⟨qa, qc, ql⟩ := hX k r q hr hq
    have hl := lens k r hr
    conv => whnf
    refine LoopK.at tab_ok (L := f_quotalaw16_PointsNewMemory.live) (ι := Nat × List DirtyV) (fun i => i.1 ≤ r.xs.length ∧ i.2.length = r.xs.length ∧ ∀ m, m < i.1 → i.2[m]? = some (-1 - (k : Int), 0 - (m : Int))) (fun i => [(11, .int .i64 i.1)]) (fun i => vec t_api_Dirty 2 dirtyv r.a r.cap i.2)
      (fun i => r.xs.length - i.1) (0, q.xs) ⟨by simp, ql, fun m h => by simp at h⟩ (fun t v h => h)
      (by
        rw [bigL_take rowc Xs k q hq, star_assoc, show rowc q = vec t_api_Dirty 2 dirtyv r.a r.cap q.xs by rw [← qa, ← qc]; rfl]
        exact Imp.pick (Imp.refl _)) ?_
    rintro ⟨i, L⟩ ⟨hi2, lL, hL⟩
    dsimp only at hi2 lL hL ⊢
    conv => whnf
    by_cases h2 : i < r.xs.length
    · obtain ⟨x, hx⟩ : ∃ x, L[i]? = some x := ⟨_, List.getElem?_eq_getElem (by omega)⟩
      repeat' (first
        | (refine spl_f (by with_reducible exact ndec_self _) ?_; conv => whnf)
        | (refine spl_f (by with_reducible exact nbeq_self _) ?_; conv => whnf)
        | (refine spl_t (by with_reducible exact beq_self _) ?_; conv => whnf)
        | (refine spl_dec (fun hd => ?_) (fun hd => ?_) <;> first | (exfalso; omega) | (conv => whnf))
        | (refine spl_ndec (fun hd => ?_) (fun hd => ?_) <;> first | (exfalso; omega) | (conv => whnf))
        | (refine spl_intro (fun hd => ?_) (fun hd => ?_) <;> (conv => whnf))
        | (refine Ld.i ?_; conv => whnf)
        | (refine LdN.i ?_; conv => whnf)
        | (refine St.i ⟨rfl, rfl⟩ (List.cons_ne_nil _ _) ?_; conv => whnf)
        | (refine Ar.i64 (by omega) ?_; conv => whnf)
        | (refine Ar.u64 (by omega) ?_; conv => whnf)
        | (refine Shr.i (by rfl) (by decide) ?_; conv => whnf)
        | (refine Shl.i (by rfl) (by decide) ?_; conv => whnf)
        | (refine Req.mk (by omega) ?_; conv => whnf)
        | (intro blk hblk; conv => whnf)
        | (refine IxS.r (i := k) rfl lG.symm (by omega) (fun ab off ha => ?_); cases ha; conv => whnf)
        | (refine LdN.r hr rfl ?_; conv => whnf)
        | (refine Ld.r hr rfl ?_; conv => whnf)
        | (refine Ld.r0 hr rfl ?_; conv => whnf)
        | (refine LdN.rp hr ?_; conv => whnf)
        | (refine IxS.v (i := i) rfl lL.symm (by omega) (fun ab off ha => ?_); rw [ha]; conv => whnf)
        | (refine St.v0 hx (-1 - (k : Int), 0 - (i : Int)) rfl (by simp) ⟨rfl, rfl⟩ ?_; conv => whnf)
        | fail)
      refine ⟨rfl, (i + 1, L.set i (-1 - (k : Int), 0 - (i : Int))), ⟨by dsimp only; omega, by simp [lL], fun m hm => ?_⟩, fun t v h => h, ?_, by dsimp only; omega⟩
      · dsimp only at hm ⊢
        rw [List.getElem?_set]
        by_cases e : i = m
        · subst e
          rw [if_pos rfl, if_pos (by omega)]
        · rw [if_neg e]; exact hL m (by omega)
      · first | exact Imp.refl _ | exact Imp.drop | exact Imp.fin | ((repeat (refine Imp.pick ?_)); first | exact Imp.refl _ | exact Imp.emp _ | exact Imp.fin)
    · repeat' (first
        | (refine spl_f (by with_reducible exact ndec_self _) ?_; conv => whnf)
        | (refine spl_f (by with_reducible exact nbeq_self _) ?_; conv => whnf)
        | (refine spl_t (by with_reducible exact beq_self _) ?_; conv => whnf)
        | (refine spl_dec (fun hd => ?_) (fun hd => ?_) <;> first | (exfalso; omega) | (conv => whnf))
        | (refine spl_ndec (fun hd => ?_) (fun hd => ?_) <;> first | (exfalso; omega) | (conv => whnf))
        | (refine spl_intro (fun hd => ?_) (fun hd => ?_) <;> (conv => whnf))
        | (refine Ld.i ?_; conv => whnf)
        | (refine LdN.i ?_; conv => whnf)
        | (refine St.i ⟨rfl, rfl⟩ (List.cons_ne_nil _ _) ?_; conv => whnf)
        | (refine Ar.i64 (by omega) ?_; conv => whnf)
        | (refine Ar.u64 (by omega) ?_; conv => whnf)
        | (refine Shr.i (by rfl) (by decide) ?_; conv => whnf)
        | (refine Shl.i (by rfl) (by decide) ?_; conv => whnf)
        | (refine Req.mk (by omega) ?_; conv => whnf)
        | (intro blk hblk; conv => whnf)
        | (refine IxS.r (i := k) rfl lG.symm (by omega) (fun ab off ha => ?_); cases ha; conv => whnf)
        | (refine LdN.r hr rfl ?_; conv => whnf)
        | (refine Ld.r hr rfl ?_; conv => whnf)
        | (refine Ld.r0 hr rfl ?_; conv => whnf)
        | (refine LdN.rp hr ?_; conv => whnf)
        | fail)
      refine ⟨rfl, (k + 1, Xs.set k ⟨r.a, r.cap, L⟩), ⟨by dsimp only; omega, by simp [lX], fun j r1 r1' hj hj' => ?_, fun j r' hj hj' m hm => ?_⟩, fun t v h => h, ?_, by dsimp only; omega⟩
      · dsimp only at hj'
        rw [List.getElem?_set] at hj'
        by_cases e : k = j
        · subst e
          rw [if_pos rfl, if_pos (by omega)] at hj'
          cases hj'
          rw [hr] at hj
          cases hj
          exact ⟨rfl, rfl, lL⟩
        · rw [if_neg e] at hj'
          exact hX j r1 r1' hj hj'
      · dsimp only at hj hj'
        rw [List.getElem?_set] at hj'
        by_cases e : k = j
        · subst e
          rw [if_pos rfl, if_pos (by omega)] at hj'
          cases hj'
          dsimp only at hm ⊢
          exact hL m (by omega)
        · rw [if_neg e] at hj'
          exact hmk j r' (by omega) hj' m hm
      · dsimp only
        rw [bigL_set rowc _ Xs k q hq, star_assoc]
        exact Imp.refl _
  have e6 : k = 6 := by omega
  subst e6
  conv => whnf
  repeat' (first
    | (refine spl_f (by with_reducible exact ndec_self _) ?_; conv => whnf)
    | (refine spl_f (by with_reducible exact nbeq_self _) ?_; conv => whnf)
    | (refine spl_t (by with_reducible exact beq_self _) ?_; conv => whnf)
    | (refine spl_dec (fun hd => ?_) (fun hd => ?_) <;> first | (exfalso; omega) | (conv => whnf))
    | (refine spl_ndec (fun hd => ?_) (fun hd => ?_) <;> first | (exfalso; omega) | (conv => whnf))
    | (refine spl_intro (fun hd => ?_) (fun hd => ?_) <;> (conv => whnf))
    | (refine Ld.i ?_; conv => whnf)
    | (refine LdN.i ?_; conv => whnf)
    | (refine St.i ⟨rfl, rfl⟩ (List.cons_ne_nil _ _) ?_; conv => whnf)
    | (refine Ar.i64 (by omega) ?_; conv => whnf)
    | (refine Ar.u64 (by omega) ?_; conv => whnf)
    | (refine Shr.i (by rfl) (by decide) ?_; conv => whnf)
    | (refine Shl.i (by rfl) (by decide) ?_; conv => whnf)
    | (refine Req.mk (by omega) ?_; conv => whnf)
    | (intro blk hblk; conv => whnf)
    | fail)
  refine LoopK.at tab_ok (L := f_quotalaw16_PointsNewMemory.live) (ι := Nat × List MoreV × (Option Addr × Nat)) (fun i => i.1 ≤ 6 ∧ i.2.1.map (·.r) = Xs.take i.1 ∧ ∀ (j : Nat) (m : MoreV), i.2.1[j]? = some m → m.x = (-1 - (j : Int), 0 - (m.r.xs.length : Int)))
    (fun i => [(13, .int .i64 i.1), (12, .slice i.2.2.1 i.1 i.2.2.2)]) (fun i => vec t_S_api_Dirty 1 mv i.2.2.1 i.2.2.2 i.2.1 • bigL morec i.2.1 • bigL rowc (Xs.drop i.1)) (fun i => 6 - i.1) (0, [], (none, 0)) ⟨by simp, by simp, fun j m h => by simp at h⟩ (fun t v h => h)
    (Imp.assoc (Imp.vnil (Imp.assoc (Imp.empi (Imp.refl _))))) ?_
  rintro ⟨k, Ms, ma, mc⟩ ⟨hk, hM, hx⟩
  dsimp only at hk hM hx ⊢
  have lM : Ms.length = k := by
    have := congrArg List.length hM
    simp [lX] at this
    omega
  simp only [star_assoc]
  conv => whnf
  refine spl_dec (fun h6' => ?_) (fun h6' => ?_)
  · obtain ⟨r, hr⟩ : ∃ r, Gs[k]? = some r := ⟨_, List.getElem?_eq_getElem (by omega)⟩
    obtain ⟨q, hq⟩ : ∃ q, Xs[k]? = some q := ⟨_, List.getElem?_eq_getElem (by omega)⟩
    obtain ⟨qa, qc, ql⟩ := hX k r q hr hq
    have hl := lens k r hr
    have hsplit : bigL rowc (Xs.drop k) = (vec t_api_Dirty 2 dirtyv r.a r.cap q.xs • bigL rowc (Xs.drop (k + 1))) := by
      rw [drop_of hq, ← qa, ← qc]; rfl
    rw [hsplit]
    simp only [star_assoc]
    conv => whnf
    repeat' (first
      | (refine spl_f (by with_reducible exact ndec_self _) ?_; conv => whnf)
      | (refine spl_f (by with_reducible exact nbeq_self _) ?_; conv => whnf)
      | (refine spl_t (by with_reducible exact beq_self _) ?_; conv => whnf)
      | (refine spl_dec (fun hd => ?_) (fun hd => ?_) <;> first | (exfalso; omega) | (conv => whnf))
      | (refine spl_ndec (fun hd => ?_) (fun hd => ?_) <;> first | (exfalso; omega) | (conv => whnf))
      | (refine spl_intro (fun hd => ?_) (fun hd => ?_) <;> (conv => whnf))
      | (refine Ld.i ?_; conv => whnf)
      | (refine LdN.i ?_; conv => whnf)
      | (refine St.i ⟨rfl, rfl⟩ (List.cons_ne_nil _ _) ?_; conv => whnf)
      | (refine Ar.i64 (by omega) ?_; conv => whnf)
      | (refine Ar.u64 (by omega) ?_; conv => whnf)
      | (refine Shr.i (by rfl) (by decide) ?_; conv => whnf)
      | (refine Shl.i (by rfl) (by decide) ?_; conv => whnf)
      | (refine Req.mk (by omega) ?_; conv => whnf)
      | (intro blk hblk; conv => whnf)
      | (refine DrawK.intro tab_ok mixed f_quotalaw16_PointsNewMemory.last33 f_quotalaw16_PointsNewMemory.plan33 (vec t_S_api_Dirty 1 rv ga gc Gs • emp) (by kernel_rfl) (Sub.of (by first | exact Imp.refl _ | exact Imp.drop | exact Imp.fin | ((repeat (refine Imp.pick ?_)); first | exact Imp.refl _ | exact Imp.emp _ | exact Imp.fin))) ?_; conv => whnf)
      | (refine Sub.on (by first | exact Imp.refl _ | exact Imp.drop | exact Imp.fin | ((repeat (refine Imp.pick ?_)); first | exact Imp.refl _ | exact Imp.emp _ | exact Imp.fin)) ?_; conv => whnf)
      | (refine IxS.r (i := k) rfl lG.symm (by omega) (fun ab off ha => ?_); cases ha; conv => whnf)
      | (refine LdN.r hr rfl ?_; conv => whnf)
      | (refine Ld.r hr rfl ?_; conv => whnf)
      | (refine Ld.r0 hr rfl ?_; conv => whnf)
      | (refine LdN.rp hr ?_; conv => whnf)
      | fail)
    refine OpX.app1b tab_ok rfl rfl rfl rfl (-1 - (k : Int), 0 - (r.xs.length : Int)) rfl ql.symm (by omega) ⟨rfl, dirty_one⟩ (fun a' c' => ?_)
    repeat' (first
      | (refine spl_f (by with_reducible exact ndec_self _) ?_; conv => whnf)
      | (refine spl_f (by with_reducible exact nbeq_self _) ?_; conv => whnf)
      | (refine spl_t (by with_reducible exact beq_self _) ?_; conv => whnf)
      | (refine spl_dec (fun hd => ?_) (fun hd => ?_) <;> first | (exfalso; omega) | (conv => whnf))
      | (refine spl_ndec (fun hd => ?_) (fun hd => ?_) <;> first | (exfalso; omega) | (conv => whnf))
      | (refine spl_intro (fun hd => ?_) (fun hd => ?_) <;> (conv => whnf))
      | (refine Ld.i ?_; conv => whnf)
      | (refine LdN.i ?_; conv => whnf)
      | (refine St.i ⟨rfl, rfl⟩ (List.cons_ne_nil _ _) ?_; conv => whnf)
      | (refine Ar.i64 (by omega) ?_; conv => whnf)
      | (refine Ar.u64 (by omega) ?_; conv => whnf)
      | (refine Shr.i (by rfl) (by decide) ?_; conv => whnf)
      | (refine Shl.i (by rfl) (by decide) ?_; conv => whnf)
      | (refine Req.mk (by omega) ?_; conv => whnf)
      | (intro blk hblk; conv => whnf)
      | (refine Sub.on (by first | exact Imp.refl _ | exact Imp.drop | exact Imp.fin | ((repeat (refine Imp.pick ?_)); first | exact Imp.refl _ | exact Imp.emp _ | exact Imp.fin)) ?_; conv => whnf)
      | fail)
    refine OpX.app1 tab_ok rfl rfl rfl rfl (⟨q, a', c', (-1 - (k : Int), 0 - (r.xs.length : Int))⟩ : MoreV) (by simp only [mv, ql]) lM.symm (by omega) ⟨rfl, mv_one⟩ (fun a2 c2 => ?_)
    repeat' (first
      | (refine spl_f (by with_reducible exact ndec_self _) ?_; conv => whnf)
      | (refine spl_f (by with_reducible exact nbeq_self _) ?_; conv => whnf)
      | (refine spl_t (by with_reducible exact beq_self _) ?_; conv => whnf)
      | (refine spl_dec (fun hd => ?_) (fun hd => ?_) <;> first | (exfalso; omega) | (conv => whnf))
      | (refine spl_ndec (fun hd => ?_) (fun hd => ?_) <;> first | (exfalso; omega) | (conv => whnf))
      | (refine spl_intro (fun hd => ?_) (fun hd => ?_) <;> (conv => whnf))
      | (refine Ld.i ?_; conv => whnf)
      | (refine LdN.i ?_; conv => whnf)
      | (refine St.i ⟨rfl, rfl⟩ (List.cons_ne_nil _ _) ?_; conv => whnf)
      | (refine Ar.i64 (by omega) ?_; conv => whnf)
      | (refine Ar.u64 (by omega) ?_; conv => whnf)
      | (refine Shr.i (by rfl) (by decide) ?_; conv => whnf)
      | (refine Shl.i (by rfl) (by decide) ?_; conv => whnf)
      | (refine Req.mk (by omega) ?_; conv => whnf)
      | (intro blk hblk; conv => whnf)
      | (refine Sub.on (by first | exact Imp.refl _ | exact Imp.drop | exact Imp.fin | ((repeat (refine Imp.pick ?_)); first | exact Imp.refl _ | exact Imp.emp _ | exact Imp.fin)) ?_; conv => whnf)
      | fail)
    refine ⟨rfl, (k + 1, Ms ++ [⟨q, a', c', (-1 - (k : Int), 0 - (r.xs.length : Int))⟩], (a2, c2)), ⟨by dsimp only; omega, ?_, fun j m hj => ?_⟩, fun t v h => h, ?_, by dsimp only; omega⟩
    · dsimp only
      rw [List.map_append, hM, List.take_add_one, hq]; rfl
    · dsimp only at hj
      by_cases e : j < Ms.length
      · rw [List.getElem?_append_left e] at hj
        exact hx j m hj
      · rw [List.getElem?_append_right (by omega)] at hj
        have e0 : j - Ms.length = 0 := by
          rcases Nat.eq_zero_or_pos (j - Ms.length) with h | h
          · exact h
          · rw [List.getElem?_eq_none (by simp; omega)] at hj; cases hj
        rw [e0] at hj
        cases hj
        dsimp only
        rw [ql, show j = k by omega]
    · dsimp only
      rw [bigL_snoc]
      have e2 : morec ⟨q, a', c', (-1 - (k : Int), 0 - (r.xs.length : Int))⟩ = appc t_api_Dirty 2 dirtyv r.a r.cap q.xs a' c' (-1 - (k : Int), 0 - (r.xs.length : Int)) := by rw [← qa, ← qc]; rfl
      rw [e2]
      simp only [star_assoc]
      first | exact Imp.refl _ | exact Imp.drop | exact Imp.fin | ((repeat (refine Imp.pick ?_)); first | exact Imp.refl _ | exact Imp.emp _ | exact Imp.fin)
  have e6 : k = 6 := by omega
  subst e6
  conv => whnf
  repeat' (first
    | (refine spl_f (by with_reducible exact ndec_self _) ?_; conv => whnf)
    | (refine spl_f (by with_reducible exact nbeq_self _) ?_; conv => whnf)
    | (refine spl_t (by with_reducible exact beq_self _) ?_; conv => whnf)
    | (refine spl_dec (fun hd => ?_) (fun hd => ?_) <;> first | (exfalso; omega) | (conv => whnf))
    | (refine spl_ndec (fun hd => ?_) (fun hd => ?_) <;> first | (exfalso; omega) | (conv => whnf))
    | (refine spl_intro (fun hd => ?_) (fun hd => ?_) <;> (conv => whnf))
    | (refine Ld.i ?_; conv => whnf)
    | (refine LdN.i ?_; conv => whnf)
    | (refine St.i ⟨rfl, rfl⟩ (List.cons_ne_nil _ _) ?_; conv => whnf)
    | (refine Ar.i64 (by omega) ?_; conv => whnf)
    | (refine Ar.u64 (by omega) ?_; conv => whnf)
    | (refine Shr.i (by rfl) (by decide) ?_; conv => whnf)
    | (refine Shl.i (by rfl) (by decide) ?_; conv => whnf)
    | (refine Req.mk (by omega) ?_; conv => whnf)
    | (intro blk hblk; conv => whnf)
    | fail)
  refine LoopK.keep tab_ok (L := f_quotalaw16_PointsNewMemory.live) (ι := Nat) (fun i => i ≤ 6) (fun i => [(14, .int .i64 i)]) (fun i => 6 - i) 0 (by simp) (fun t v h => h) ?_
  intro k hk5
  conv => whnf
  refine spl_dec (fun h6' => ?_) (fun h6' => ?_)
  · obtain ⟨r, hr⟩ : ∃ r, Gs[k]? = some r := ⟨_, List.getElem?_eq_getElem (by omega)⟩
    obtain ⟨q, hq⟩ : ∃ q, Xs[k]? = some q := ⟨_, List.getElem?_eq_getElem (by omega)⟩
    obtain ⟨m, hm⟩ : ∃ m, Ms[k]? = some m := ⟨_, List.getElem?_eq_getElem (by omega)⟩
    obtain ⟨qa, qc, ql⟩ := hX k r q hr hq
    have hmr : m.r = q := by
      have := congrArg (fun l => l[k]?) hM
      simp only [List.getElem?_map, hm, Option.map_some] at this
      rw [List.getElem?_take_of_lt (by omega), hq] at this
      exact Option.some.inj this
    have hmx := hx k m hm
    rw [hmr] at hmx
    have hl := lens k r hr
    obtain ⟨N, hN⟩ : ∃ N, N = q.xs ++ [m.x] := ⟨_, rfl⟩
    have hNl : m.r.xs.length + 1 = N.length := by rw [hN, hmr]; simp
    have hNi : ∀ i, i < N.length → N[i]? = some (-1 - (k : Int), 0 - (i : Int)) := fun i hi => by
      rw [hN]
      by_cases e : i < q.xs.length
      · rw [List.getElem?_append_left e]; exact hmk k q (by omega) hq i e
      · rw [List.getElem?_append_right (by omega), hmx]
        have : i = q.xs.length := by rw [hmr] at hNl; omega
        subst this
        simp
    have hOi : ∀ i, i < r.xs.length → q.xs[i]? = some (-1 - (k : Int), 0 - (i : Int)) := fun i hi => hmk k q (by omega) hq i (by omega)
    have i1 : MemN Ms m.a N := ⟨m, List.mem_of_getElem? hm, rfl, by rw [hN, hmr]⟩
    have i2 : MemO Ms r.a q.xs := ⟨m, List.mem_of_getElem? hm, by rw [hmr, qa], by rw [hmr]⟩
    have hNn : N.length = r.xs.length + 1 := by rw [← hNl, hmr, ql]
    clear hmr hmx hN qa qc
    conv => whnf
    refine LoopK.keep tab_ok (L := f_quotalaw16_PointsNewMemory.live) (ι := Nat) (fun i => i ≤ N.length) (fun i => [(15, .int .i64 i)]) (fun i => N.length - i) 0 (by simp) (fun t v h => h) ?_
    intro i hi5
    conv => whnf
    by_cases h7 : i < N.length
    · have hn := hNi i h7
      by_cases h8 : i < r.xs.length
      · have ho := hOi i h8
        repeat' (first
          | (refine spl_f (by with_reducible exact nand_self _ _) ?_; conv => whnf)
          | (refine spl_f (by with_reducible exact ndec_self _) ?_; conv => whnf)
          | (refine spl_f (by with_reducible exact nbeq_self _) ?_; conv => whnf)
          | (refine spl_t (by with_reducible exact beq_self _) ?_; conv => whnf)
          | (refine spl_dec (fun hd => ?_) (fun hd => ?_) <;> first | (exfalso; omega) | (conv => whnf))
          | (refine spl_ndec (fun hd => ?_) (fun hd => ?_) <;> first | (exfalso; omega) | (conv => whnf))
          | (refine spl_intro (fun hd => ?_) (fun hd => ?_) <;> (conv => whnf))
          | (refine Ld.i ?_; conv => whnf)
          | (refine LdN.i ?_; conv => whnf)
          | (refine St.i ⟨rfl, rfl⟩ (List.cons_ne_nil _ _) ?_; conv => whnf)
          | (refine Ar.i64 (by omega) ?_; conv => whnf)
          | (refine Ar.u64 (by omega) ?_; conv => whnf)
          | (refine Shr.i (by rfl) (by decide) ?_; conv => whnf)
          | (refine Shl.i (by rfl) (by decide) ?_; conv => whnf)
          | (refine Req.mk (by omega) ?_; conv => whnf)
          | (intro blk hblk; conv => whnf)
          | (refine IxS.r (i := k) rfl lM.symm (by omega) (fun ab off ha => ?_); cases ha; conv => whnf)
          | (refine LdN.r hm rfl ?_; conv => whnf)
          | (refine Ld.r hm rfl ?_; conv => whnf)
          | (refine Ld.r0 hm rfl ?_; conv => whnf)
          | (refine LdN.rp hm ?_; conv => whnf)
          | (refine IxS.r (i := k) rfl lG.symm (by omega) (fun ab off ha => ?_); cases ha; conv => whnf)
          | (refine LdN.r hr rfl ?_; conv => whnf)
          | (refine Ld.r hr rfl ?_; conv => whnf)
          | (refine Ld.r0 hr rfl ?_; conv => whnf)
          | (refine LdN.rp hr ?_; conv => whnf)
          | (refine DrawK.intro tab_ok mixed f_quotalaw16_PointsNewMemory.last40 f_quotalaw16_PointsNewMemory.plan40 _ (by kernel_rfl) (Sub.of (by first | exact Imp.refl _ | exact Imp.drop | exact Imp.fin | ((repeat (refine Imp.pick ?_)); first | exact Imp.refl _ | exact Imp.emp _ | exact Imp.fin))) ?_; conv => whnf)
          | (refine IxS.r (i := i) rfl hNl h7 (fun ab off ha => ?_); have i1' := i1; rw [ha] at i1' ⊢; conv => whnf)
          | (refine LdN.r hn rfl ?_; conv => whnf)
          | (refine Ld.r hn rfl ?_; conv => whnf)
          | (refine Ld.r0 hn rfl ?_; conv => whnf)
          | (refine LdN.rp hn ?_; conv => whnf)
          | (refine IxS.r (i := i) rfl ql.symm (by omega) (fun ab off ha => ?_); have i2' := i2; rw [ha] at i2' ⊢; conv => whnf)
          | (refine LdN.r ho rfl ?_; conv => whnf)
          | (refine Ld.r ho rfl ?_; conv => whnf)
          | (refine Ld.r0 ho rfl ?_; conv => whnf)
          | (refine LdN.rp ho ?_; conv => whnf)
          | (refine OpX.of_quiet (OpQ.eqs rfl rfl ?_); conv => whnf)
          | (refine OpX.of_quiet (OpQ.nes rfl rfl ?_); conv => whnf)
          | (refine OpQ.eqs rfl rfl ?_; conv => whnf)
          | (refine OpQ.nes rfl rfl ?_; conv => whnf)
          | fail)
        exact ⟨rfl, i + 1, h7, fun t v h => h, Imp.refl _, by omega⟩
      · repeat' (first
          | (refine spl_f (by with_reducible exact nand_self _ _) ?_; conv => whnf)
          | (refine spl_f (by with_reducible exact ndec_self _) ?_; conv => whnf)
          | (refine spl_f (by with_reducible exact nbeq_self _) ?_; conv => whnf)
          | (refine spl_t (by with_reducible exact beq_self _) ?_; conv => whnf)
          | (refine spl_dec (fun hd => ?_) (fun hd => ?_) <;> first | (exfalso; omega) | (conv => whnf))
          | (refine spl_ndec (fun hd => ?_) (fun hd => ?_) <;> first | (exfalso; omega) | (conv => whnf))
          | (refine spl_intro (fun hd => ?_) (fun hd => ?_) <;> (conv => whnf))
          | (refine Ld.i ?_; conv => whnf)
          | (refine LdN.i ?_; conv => whnf)
          | (refine St.i ⟨rfl, rfl⟩ (List.cons_ne_nil _ _) ?_; conv => whnf)
          | (refine Ar.i64 (by omega) ?_; conv => whnf)
          | (refine Ar.u64 (by omega) ?_; conv => whnf)
          | (refine Shr.i (by rfl) (by decide) ?_; conv => whnf)
          | (refine Shl.i (by rfl) (by decide) ?_; conv => whnf)
          | (refine Req.mk (by omega) ?_; conv => whnf)
          | (intro blk hblk; conv => whnf)
          | (refine IxS.r (i := k) rfl lM.symm (by omega) (fun ab off ha => ?_); cases ha; conv => whnf)
          | (refine LdN.r hm rfl ?_; conv => whnf)
          | (refine Ld.r hm rfl ?_; conv => whnf)
          | (refine Ld.r0 hm rfl ?_; conv => whnf)
          | (refine LdN.rp hm ?_; conv => whnf)
          | (refine IxS.r (i := k) rfl lG.symm (by omega) (fun ab off ha => ?_); cases ha; conv => whnf)
          | (refine LdN.r hr rfl ?_; conv => whnf)
          | (refine Ld.r hr rfl ?_; conv => whnf)
          | (refine Ld.r0 hr rfl ?_; conv => whnf)
          | (refine LdN.rp hr ?_; conv => whnf)
          | (refine DrawK.intro tab_ok mixed f_quotalaw16_PointsNewMemory.last40 f_quotalaw16_PointsNewMemory.plan40 _ (by kernel_rfl) (Sub.of (by first | exact Imp.refl _ | exact Imp.drop | exact Imp.fin | ((repeat (refine Imp.pick ?_)); first | exact Imp.refl _ | exact Imp.emp _ | exact Imp.fin))) ?_; conv => whnf)
          | (refine IxS.r (i := i) rfl hNl h7 (fun ab off ha => ?_); have i1' := i1; rw [ha] at i1' ⊢; conv => whnf)
          | (refine LdN.r hn rfl ?_; conv => whnf)
          | (refine Ld.r hn rfl ?_; conv => whnf)
          | (refine Ld.r0 hn rfl ?_; conv => whnf)
          | (refine LdN.rp hn ?_; conv => whnf)
          | (refine OpX.of_quiet (OpQ.eqs rfl rfl ?_); conv => whnf)
          | (refine OpX.of_quiet (OpQ.nes rfl rfl ?_); conv => whnf)
          | (refine OpQ.eqs rfl rfl ?_; conv => whnf)
          | (refine OpQ.nes rfl rfl ?_; conv => whnf)
          | fail)
        exact ⟨rfl, i + 1, h7, fun t v h => h, Imp.refl _, by omega⟩
    · repeat' (first
        | (refine spl_f (by with_reducible exact nand_self _ _) ?_; conv => whnf)
        | (refine spl_f (by with_reducible exact ndec_self _) ?_; conv => whnf)
        | (refine spl_f (by with_reducible exact nbeq_self _) ?_; conv => whnf)
        | (refine spl_t (by with_reducible exact beq_self _) ?_; conv => whnf)
        | (refine spl_dec (fun hd => ?_) (fun hd => ?_) <;> first | (exfalso; omega) | (conv => whnf))
        | (refine spl_ndec (fun hd => ?_) (fun hd => ?_) <;> first | (exfalso; omega) | (conv => whnf))
        | (refine spl_intro (fun hd => ?_) (fun hd => ?_) <;> (conv => whnf))
        | (refine Ld.i ?_; conv => whnf)
        | (refine LdN.i ?_; conv => whnf)
        | (refine St.i ⟨rfl, rfl⟩ (List.cons_ne_nil _ _) ?_; conv => whnf)
        | (refine Ar.i64 (by omega) ?_; conv => whnf)
        | (refine Ar.u64 (by omega) ?_; conv => whnf)
        | (refine Shr.i (by rfl) (by decide) ?_; conv => whnf)
        | (refine Shl.i (by rfl) (by decide) ?_; conv => whnf)
        | (refine Req.mk (by omega) ?_; conv => whnf)
        | (intro blk hblk; conv => whnf)
        | (refine IxS.r (i := k) rfl lM.symm (by omega) (fun ab off ha => ?_); cases ha; conv => whnf)
        | (refine LdN.r hm rfl ?_; conv => whnf)
        | (refine Ld.r hm rfl ?_; conv => whnf)
        | (refine Ld.r0 hm rfl ?_; conv => whnf)
        | (refine LdN.rp hm ?_; conv => whnf)
        | fail)
      exact ⟨rfl, k + 1, by omega, fun t v h => h, Imp.refl _, by omega⟩
  · obtain ⟨s, hs⟩ : ∃ s, Ws[0]? = some s := ⟨_, List.getElem?_eq_getElem (by omega)⟩
    have hs2 : s.xs = M A B 0 := hWk 0 s hs
    have m0 := M_len A B 0
    haveI ms : MemC Ws s := ⟨List.mem_of_getElem? hs⟩
    conv => whnf
    repeat' (first
      | (refine spl_f (by with_reducible exact ndec_self _) ?_; conv => whnf)
      | (refine spl_f (by with_reducible exact nbeq_self _) ?_; conv => whnf)
      | (refine spl_t (by with_reducible exact beq_self _) ?_; conv => whnf)
      | (refine spl_dec (fun hd => ?_) (fun hd => ?_) <;> first | (exfalso; omega) | (conv => whnf))
      | (refine spl_ndec (fun hd => ?_) (fun hd => ?_) <;> first | (exfalso; omega) | (conv => whnf))
      | (refine spl_intro (fun hd => ?_) (fun hd => ?_) <;> (conv => whnf))
      | (refine Ld.i ?_; conv => whnf)
      | (refine LdN.i ?_; conv => whnf)
      | (refine St.i ⟨rfl, rfl⟩ (List.cons_ne_nil _ _) ?_; conv => whnf)
      | (refine Ar.i64 (by omega) ?_; conv => whnf)
      | (refine Ar.u64 (by omega) ?_; conv => whnf)
      | (refine Shr.i (by rfl) (by decide) ?_; conv => whnf)
      | (refine Shl.i (by rfl) (by decide) ?_; conv => whnf)
      | (refine Req.mk (by omega) ?_; conv => whnf)
      | (intro blk hblk; conv => whnf)
      | (refine DrawK.intro tab_ok mixed f_quotalaw16_PointsNewMemory.last42 f_quotalaw16_PointsNewMemory.plan42 _ (by kernel_rfl) (Sub.of (by first | exact Imp.refl _ | exact Imp.drop | exact Imp.fin | ((repeat (refine Imp.pick ?_)); first | exact Imp.refl _ | exact Imp.emp _ | exact Imp.fin))) ?_; conv => whnf)
      | (refine Sub.on (by first | exact Imp.refl _ | exact Imp.drop | exact Imp.fin | ((repeat (refine Imp.pick ?_)); first | exact Imp.refl _ | exact Imp.emp _ | exact Imp.fin)) ?_; conv => whnf)
      | (refine CallK.ret f_quotalaw16_merged.ok ((merged_M (xs := A) (ys := B) (L := M A B 0) (fun k => mn (mAt k A) (mAt k B)) rfl okA.1 okB.1 (fun k => rfl) (by omega) rfl rfl)) ?_; rintro v G ⟨g, gc', rfl, rfl⟩; conv => whnf)
      | (refine IxS.r (i := 0) rfl lW.symm (by omega) (fun ab off ha => ?_); cases ha; conv => whnf)
      | (refine LdN.r hs rfl ?_; conv => whnf)
      | (refine Ld.r hs rfl ?_; conv => whnf)
      | (refine Ld.r0 hs rfl ?_; conv => whnf)
      | (refine LdN.rp hs ?_; conv => whnf)
      | (refine CallK.ret f_quotalaw16_same.ok ((same_spec (xs := M A B 0) (ys := s.xs) rfl rfl (by omega))) ?_; rintro v G ⟨rfl, rfl⟩; conv => whnf)
      | fail)
    refine Ret.eq (congrArg Value.bool (decide_eq_true hs2.symm)) ?_
    first | exact Imp.refl _ | exact Imp.drop | exact Imp.fin | ((repeat (refine Imp.pick ?_)); first | exact Imp.refl _ | exact Imp.emp _ | exact Imp.fin)
end Go.Proofs.Ytijnojaneheaeaa.pointsNewMemory
