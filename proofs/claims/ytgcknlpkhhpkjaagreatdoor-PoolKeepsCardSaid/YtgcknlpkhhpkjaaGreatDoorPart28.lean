/- The program's pool: Get and Pin; walked. Conditions: in each statement. -/
import Derived.Test.YtgcknlpkhhpkjaaGreatDoorPart26
import Derived.Test.YtgcknlpkhhpkjaaGreatDoorPart27
import Derived.Test.YtgcknlpkhhpkjaaGreatDoorPart6
import Derived.Test.YtgcknlpkhhpkjaaGreatDoorPart9
import Derived.Test.YtgcknlpkhhpkjaaGreatDoorPart21
import Derived.Test.YtgcknlpkhhpkjaaGreatDoorPart20
namespace Go.SL.Pool
open Go Go.SL Go.SL.Sec Go.SL.Fld Go.SL.Rec Go.SL.Twn Go.SL.Pg
theorem Sto.Ok.pin {S : Sto} (h : S.Ok) (n : Int) : (S.pin n).2.Ok := by
 have hg := (h.get n).1
 unfold Sto.pin
 dsimp only
 split
 ·exact hg
 cases hl : (S.get n).2.P.held.lookup n with
 | none => exact hg
 | some f =>
  dsimp only
  have k := hg.fr n f hl
  refine Sto.Ok.put hg ⟨k.num, k.pin, k.C, k.G, k.lsn, k.key, k.dirty, k.used⟩ fun m g hm hu => ?_
  exact hg.us m n g f hm hl hu
end Go.SL.Pool
namespace Go.Proofs.YtgcknlpkhhpkjaaGreatDoor
open Go Go.SL Go.SL.Sec Go.SL.Fld Go.SL.Pts Go.SL.Rec Go.SL.Twn Go.SL.Pg Go.SL.Mst Go.SL.Pool
def GetE (p : Nat) (n : Int) (S : StoX) (T : Int × Sto) (R : HProp) (v : Value) (G : HProp) : Prop := ∃ S' : StoX, S'.Ok ∧ S.Same S' ∧ S'.val = T.2 ∧
  ((T.1 = 0 ∧ ∃ f x, S'.P.held.lookup n = some f ∧ x.m = f.pg.m ∧ v = .tuple ⟨[pgv x, .nilIface]⟩ ∧ G = (stoo p S' • pgc x • R)) ∨
   (T.1 ≠ 0 ∧ ∃ b, v = .tuple ⟨[pgv (pg0 0 0), .iface t_z5 (ptr b)]⟩ ∧ G = (fltc b wGet n T.1 • stoo p S' • R)))
-- @noauto
theorem pget_spec {W : World} {R : HProp} {p : Nat} {S : StoX} {n : Int} [le : LaidE W] [lc : LaidC W] [lp : LaidP W] [oc : OldC W R] (hS : S.Ok) (hc : 0 ≤ S.P.clock ∧ S.P.clock ≤ 1000000000) :
  Does prog W f_z1p ⟨[ptr p, .int .i64 n]⟩ (stoo p S • R) (Ret (GetE p n S (S.val.get n) R)) := by
 obtain ⟨T, hT⟩ : ∃ T, T = S.val.get n := ⟨_, rfl⟩
 rw [← hT]
 refine f_z1p.does _ _ ?_
 conv => whnf
 repeat' (first
  | (intro blk hblk; conv => whnf))
 refine CallK.imp (H' := stoo p S • pts blk (.cells ⟨[i0, i0, .slice none 0 0, .slice none 0 0]⟩ t_page_Page) • R) (by first | exact .refl _ | exact .drop | exact .fin | ((repeat refine .pick ?_); first | exact .refl _ | exact .emp _ | exact .fin)) ?_
 refine CallK.ret f_z14.ok (pget0_spec hS hc) ?_
 rw [← hT]
 rintro v G ⟨S1, hS1, hs1, hv1, rfl, ⟨h0, f, hlk, rfl⟩ | ⟨h0, rfl⟩⟩
 ·have hnd := hS1.nd
  have fk := hS1.val.fr n f.val (look_val hlk)
  haveI rf : ∀ (Q : HProp) (k : Nat) (v : Value) [LAt (frv f) k v], RdC W (poolo p S1.P • Q) ⟨f.b, k, none⟩ v := fun Q k v _ => rd_frame hnd hlk
  haveI rl : ∀ (Q : HProp) (k m : Nat) (vs : List Value) [LSub (frv f) k m vs], RdLC W (poolo p S1.P • Q) f.b k m vs := fun Q k m vs _ => rdl_frame hnd hlk
  haveI rC : ∀ Q : HProp, RowC W (poolo p S1.P • Q) f.pg.ca 5 cntv f.pg.m.C := fun Q => rowC_frame hnd hlk
  haveI rG : ∀ Q : HProp, RowC W (poolo p S1.P • Q) f.pg.ga 2 grpv f.pg.m.G := fun Q => rowG_frame hnd hlk
  have hC : f.pg.m.C.length ≤ 31 := fk.C
  have hG : f.pg.m.G.length ≤ 84 := fk.G
  rw [stoo_eq]
  conv => whnf
  repeat' (first
   | (refine CallK.ret f_z1v.ok (pcopy_spec (num := f.pg.m.num) (lsn := f.pg.m.lsn) (C := f.pg.m.C) (G := f.pg.m.G) (rc := ⟨inferInstance, rfl⟩) (rg := ⟨inferInstance, rfl⟩) (by omega) (by omega)) ?_; rintro v G ⟨x, hx, rfl, rfl⟩; conv => whnf)
   | ((first | refine LdN.i ?_ | refine St.i ⟨rfl, rfl⟩ (List.cons_ne_nil _ _) ?_); conv => whnf))
  refine ⟨_, _, rfl, ?_, S1, hS1, hs1, hv1, .inl ⟨h0, f, x, hlk, hx, rfl, rfl⟩⟩
  rw [stoo_eq]
  first | exact .refl _ | exact .drop | exact .fin | ((repeat refine .pick ?_); first | exact .refl _ | exact .emp _ | exact .fin)
 ·conv => whnf
  repeat' (first
   | (rw [decide_eq_false h0]; conv => whnf))
  refine CallK.ret f_z1c.ok (presult_spec (w := wGet)) ?_
  rintro v G' (⟨h1, rfl, rfl⟩ | ⟨h1, b, rfl, rfl⟩)
  ·exact absurd h1 h0
  ·conv => whnf
   repeat' (first
    | ((first | refine LdN.i ?_ | refine St.i ⟨rfl, rfl⟩ (List.cons_ne_nil _ _) ?_); conv => whnf))
   exact ⟨_, _, rfl, (by first | exact .refl _ | exact .drop | exact .fin | ((repeat refine .pick ?_); first | exact .refl _ | exact .emp _ | exact .fin)), S1, hS1, hs1, hv1, .inr ⟨h1, _, rfl, rfl⟩⟩
-- @noauto
theorem ppin_spec {W : World} {R : HProp} {p : Nat} {S : StoX} {n : Int} [le : LaidE W] [lc : LaidC W] [lp : LaidP W] [oc : OldC W R] (hS : S.Ok) (hc : 0 ≤ S.P.clock ∧ S.P.clock ≤ 1000000000) (hp : ∀ f, (S.val.get n).2.P.held.lookup n = some f → -1000000000 ≤ f.pins ∧ f.pins ≤ 1000000000) :
  Does prog W f_z33 ⟨[ptr p, .int .i64 n]⟩ (stoo p S • R) (Ret (StoE p S wPin n (S.val.pin n) R)) := by
 obtain ⟨T, hT⟩ : ∃ T, T = S.val.get n := ⟨_, rfl⟩
 obtain ⟨U, hU⟩ : ∃ U, U = S.val.pin n := ⟨_, rfl⟩
 have hok := hS.val.pin n
 rw [← hU] at hok ⊢
 unfold Sto.pin at hU
 rw [← hT] at hU hp
 dsimp only at hU
 refine f_z33.does _ _ ?_
 conv => whnf
 skip
 refine CallK.ret f_z14.ok (pget0_spec hS hc) ?_
 rw [← hT]
 rintro v G ⟨S1, hS1, hs1, hv1, rfl, ⟨h0, f, hlk, rfl⟩ | ⟨h0, rfl⟩⟩
 ·have hnd := hS1.nd
  have hl2 : T.2.P.held.lookup n = some f.val := by rw [← hv1]; exact look_val hlk
  have hpi := hp f.val hl2
  rw [show f.val.pins = f.pins from rfl] at hpi
  rw [if_neg (fun k => k h0), hl2] at hU
  dsimp only at hU
  rw [stoo_eq, poolo_eq, bigM_at hnd hlk]
  conv => whnf
  repeat' (first
   | (refine CallK.ret f_z1c.ok (presult_spec (w := wPin)) ?_; rintro v G' hE; conv => whnf)
   | ((first | refine Ld.i ?_ | refine St.i ⟨rfl, rfl⟩ (List.cons_ne_nil _ _) ?_ | refine Ar.i64 (by omega) ?_); conv => whnf))
  have hv : (⟨S1.P.put n { f with pins := f.pins + 1 }, S1.L, S1.D⟩ : StoX).val = U.2 := by
   rw [hU, ← hv1]
   unfold StoX.val
   dsimp only
   rw [put_val]
   rfl
  have e1 : mapv fptr (updKV n { f with pins := f.pins + 1 } S1.P.held) = mapv fptr S1.P.held := by
   rw [mapv_upd]
   refine upd_same n _ _ ?_
   rw [mapv_lookup, hlk]; rfl
  rcases hE with ⟨_, rfl, rfl⟩ | ⟨h1, b, rfl, rfl⟩
  rotate_left
  ·exact absurd rfl h1
  refine ⟨_, _, rfl, ?_, ⟨S1.P.put n { f with pins := f.pins + 1 }, S1.L, S1.D⟩, ⟨by rw [hv]; exact hok, hS1.L, hS1.D, hS1.ld⟩, hs1.trans ⟨rfl, rfl⟩, hv, .inl ⟨by rw [hU], rfl, rfl⟩⟩
  refine Imp.stoo (l := S1.P.l) (d := S1.P.d) (by rfl) (by rfl) ?_
  rw [poolo_eq]
  unfold PoolX.put
  dsimp only
  rw [e1, bigM_upd _ n _ _ hnd, star_assoc, frc_eq]
  first | exact .refl _ | exact .drop | exact .fin | ((repeat refine .pick ?_); first | exact .refl _ | exact .emp _ | exact .fin)
 ·rw [if_pos h0] at hU
  conv => whnf
  repeat' (first
   | (rw [decide_eq_false h0]; conv => whnf)
   | (refine CallK.ret f_z1c.ok (presult_spec (w := wPin)) ?_; rintro v G' hE; conv => whnf))
  rcases hE with ⟨h1, rfl, rfl⟩ | ⟨h1, b, rfl, rfl⟩
  ·exact absurd h1 h0
  ·exact ⟨_, _, rfl, Imp.refl _, S1, hS1, hs1, by rw [hv1, hU], .inr ⟨by rw [hU]; exact h1, _, rfl, by rw [hU]⟩⟩
end Go.Proofs.YtgcknlpkhhpkjaaGreatDoor
/- The shelf's contracts on maps.Keys, slices.Sorted, slices.Sort at ints, laid at this program. No condition. -/
namespace Go.Proofs.YtgcknlpkhhpkjaaGreatDoor
open Go.Proofs Go.RowKit Go.Maps Go.Sort Go.Shelf
def laySorted_ren : Go.Shelf.Ren := ⟨fun | 6 => 94 | 8 => 182 | 9 => 183 | 11 => 253 | 13 => 255 | 12 => 254 | 23 => 307 | 24 => 308 | 14 => 298 | 15 => 299 | 16 => 300 | 17 => 301 | 18 => 302 | 19 => 303 | 20 => 304 | 21 => 305 | 22 => 306 | 25 => 339 | 26 => 340 | 27 => 341 | 28 => 342 | 29 => 343 | 30 => 344 | 31 => 351 | n => n, fun | 26 => 3 | 28 => 181 | 24 => 42 | 0 => 0 | 3 => 3 | 37 => 361 | 48 => 175 | 50 => 172 | 4 => 4 | 40 => 406 | 39 => 405 | 45 => 272 | 5 => 5 | 9 => 9 | 51 => 439 | 55 => 335 | 57 => 453 | 58 => 184 | 33 => 270 | n => n, fun | n => n⟩
theorem laySorted : Go.Proofs.SlLaysZI.n6 Tryz.prog laySorted_ren where
 mixed := by kernel_rfl
 f6 := ⟨Tryz.f94.name, by decide, Tryz.func94.trans (congrArg some (by kernel_rfl))⟩
 f8 := ⟨Tryz.f182.name, by decide, Tryz.func182.trans (congrArg some (by kernel_rfl))⟩
 f11 := ⟨Tryz.f253.name, by decide, Tryz.func253.trans (congrArg some (by kernel_rfl))⟩
 t0 := Tryz.underlying0
 a0 := Tryz.isAgg0
 z0 := Tryz.sizeOf0
 v0 := Tryz.zeroValue0
 t24 := Tryz.underlying42
 a24 := Tryz.isAgg42
 z24 := Tryz.sizeOf42
 v24 := Tryz.zeroValue42
 t26 := Tryz.underlying3
 a26 := Tryz.isAgg3
 z26 := Tryz.sizeOf3
 v26 := Tryz.zeroValue3
 t28 := Tryz.underlying181
 a28 := Tryz.isAgg181
 z28 := Tryz.sizeOf181
 v28 := Tryz.zeroValue181
 i26 := by kernel_rfl
def laySort_ren : Go.Shelf.Ren := ⟨fun | 5 => 183 | 8 => 255 | 7 => 254 | 19 => 307 | 20 => 308 | 10 => 298 | 11 => 299 | 12 => 300 | 13 => 301 | 14 => 302 | 15 => 303 | 16 => 304 | 17 => 305 | 18 => 306 | 30 => 339 | 31 => 340 | 32 => 341 | 33 => 342 | 34 => 343 | 35 => 344 | 40 => 351 | n => n, fun | 23 => 42 | 25 => 3 | 3 => 3 | 32 => 361 | 22 => 42 | 0 => 0 | 44 => 175 | 46 => 172 | 4 => 4 | 36 => 406 | 35 => 405 | 41 => 272 | 5 => 5 | 9 => 9 | 53 => 439 | 57 => 335 | 63 => 453 | 64 => 184 | n => n, fun | n => n⟩
theorem laySort : Go.Proofs.SlLaysM.n5 Tryz.prog laySort_ren where
 mixed := by kernel_rfl
 f5 := ⟨Tryz.f183.name, by decide, Tryz.func183.trans (congrArg some (by kernel_rfl))⟩
 f7 := ⟨Tryz.f254.name, by decide, Tryz.func254.trans (congrArg some (by kernel_rfl))⟩
 f8 := Tryz.func255.trans (congrArg some (by kernel_rfl))
 f10 := ⟨Tryz.f298.name, by decide, Tryz.func298.trans (congrArg some (by kernel_rfl))⟩
 f11 := ⟨Tryz.f299.name, by decide, Tryz.func299.trans (congrArg some (by kernel_rfl))⟩
 f12 := ⟨Tryz.f300.name, by decide, Tryz.func300.trans (congrArg some (by kernel_rfl))⟩
 f13 := ⟨Tryz.f301.name, by decide, Tryz.func301.trans (congrArg some (by kernel_rfl))⟩
 f14 := ⟨Tryz.f302.name, by decide, Tryz.func302.trans (congrArg some (by kernel_rfl))⟩
 f15 := ⟨Tryz.f303.name, by decide, Tryz.func303.trans (congrArg some (by kernel_rfl))⟩
 f16 := ⟨Tryz.f304.name, by decide, Tryz.func304.trans (congrArg some (by kernel_rfl))⟩
 f17 := ⟨Tryz.f305.name, by decide, Tryz.func305.trans (congrArg some (by kernel_rfl))⟩
 f18 := ⟨Tryz.f306.name, by decide, Tryz.func306.trans (congrArg some (by kernel_rfl))⟩
 f19 := Tryz.func307.trans (congrArg some (by kernel_rfl))
 f20 := Tryz.func308.trans (congrArg some (by kernel_rfl))
 f30 := ⟨Tryz.f339.name, by decide, Tryz.func339.trans (congrArg some (by kernel_rfl))⟩
 f31 := Tryz.func340.trans (congrArg some (by kernel_rfl))
 f32 := Tryz.func341.trans (congrArg some (by kernel_rfl))
 f33 := ⟨Tryz.f342.name, by decide, Tryz.func342.trans (congrArg some (by kernel_rfl))⟩
 f34 := ⟨Tryz.f343.name, by decide, Tryz.func343.trans (congrArg some (by kernel_rfl))⟩
 f35 := ⟨Tryz.f344.name, by decide, Tryz.func344.trans (congrArg some (by kernel_rfl))⟩
 f40 := ⟨Tryz.f351.name, by decide, Tryz.func351.trans (congrArg some (by kernel_rfl))⟩
 t0 := Tryz.underlying0
 a0 := Tryz.isAgg0
 z0 := Tryz.sizeOf0
 v0 := Tryz.zeroValue0
 t3 := Tryz.underlying3
 a3 := Tryz.isAgg3
 z3 := Tryz.sizeOf3
 v3 := Tryz.zeroValue3
 t4 := Tryz.underlying4
 a4 := Tryz.isAgg4
 z4 := Tryz.sizeOf4
 v4 := Tryz.zeroValue4
 t5 := Tryz.underlying5
 a5 := Tryz.isAgg5
 z5 := Tryz.sizeOf5
 v5 := Tryz.zeroValue5
 t9 := Tryz.underlying9
 a9 := Tryz.isAgg9
 z9 := Tryz.sizeOf9
 v9 := Tryz.zeroValue9
 t22 := Tryz.underlying42
 a22 := Tryz.isAgg42
 z22 := Tryz.sizeOf42
 v22 := Tryz.zeroValue42
 t23 := Tryz.underlying42
 a23 := Tryz.isAgg42
 z23 := Tryz.sizeOf42
 v23 := Tryz.zeroValue42
 t25 := Tryz.underlying3
 a25 := Tryz.isAgg3
 z25 := Tryz.sizeOf3
 v25 := Tryz.zeroValue3
 t32 := Tryz.underlying361
 a32 := Tryz.isAgg361
 z32 := Tryz.sizeOf361
 v32 := Tryz.zeroValue361
 t35 := Tryz.underlying405
 a35 := Tryz.isAgg405
 z35 := Tryz.sizeOf405
 v35 := Tryz.zeroValue405
 t36 := Tryz.underlying406
 a36 := Tryz.isAgg406
 z36 := Tryz.sizeOf406
 v36 := Tryz.zeroValue406
 t41 := Tryz.underlying272
 a41 := Tryz.isAgg272
 z41 := Tryz.sizeOf272
 v41 := Tryz.zeroValue272
 t44 := Tryz.underlying175
 a44 := Tryz.isAgg175
 z44 := Tryz.sizeOf175
 v44 := Tryz.zeroValue175
 t46 := Tryz.underlying172
 a46 := Tryz.isAgg172
 z46 := Tryz.sizeOf172
 v46 := Tryz.zeroValue172
 t53 := Tryz.underlying439
 a53 := Tryz.isAgg439
 z53 := Tryz.sizeOf439
 v53 := Tryz.zeroValue439
 t57 := Tryz.underlying335
 a57 := Tryz.isAgg335
 z57 := Tryz.sizeOf335
 v57 := Tryz.zeroValue335
 t63 := Tryz.underlying453
 a63 := Tryz.isAgg453
 z63 := Tryz.sizeOf453
 v63 := Tryz.zeroValue453
 t64 := Tryz.underlying184
 a64 := Tryz.isAgg184
 z64 := Tryz.sizeOf184
 v64 := Tryz.zeroValue184
def layKeys_pool_frame_ren : Go.Shelf.Ren := ⟨fun | 7 => 95 | 10 => 184 | n => n, fun | 23 => 153 | 26 => 3 | 3 => 152 | 28 => 181 | 0 => 0 | 27 => 180 | 33 => 270 | 4 => 4 | n => n, fun | n => n⟩
theorem layKeys_pool_frame : Go.Proofs.SlLaysZI.n7 Tryz.prog layKeys_pool_frame_ren where
 mixed := by kernel_rfl
 f7 := ⟨Tryz.f95.name, by decide, Tryz.func95.trans (congrArg some (by kernel_rfl))⟩
 f10 := ⟨Tryz.f184.name, by decide, Tryz.func184.trans (congrArg some (by kernel_rfl))⟩
 t0 := Tryz.underlying0
 a0 := Tryz.isAgg0
 z0 := Tryz.sizeOf0
 v0 := Tryz.zeroValue0
 t4 := Tryz.underlying4
 a4 := Tryz.isAgg4
 z4 := Tryz.sizeOf4
 v4 := Tryz.zeroValue4
 t23 := Tryz.underlying153
 a23 := Tryz.isAgg153
 z23 := Tryz.sizeOf153
 v23 := Tryz.zeroValue153
 t26 := Tryz.underlying3
 a26 := Tryz.isAgg3
 z26 := Tryz.sizeOf3
 v26 := Tryz.zeroValue3
 t27 := Tryz.underlying180
 a27 := Tryz.isAgg180
 z27 := Tryz.sizeOf180
 v27 := Tryz.zeroValue180
 t28 := Tryz.underlying181
 a28 := Tryz.isAgg181
 z28 := Tryz.sizeOf181
 v28 := Tryz.zeroValue181
 t33 := Tryz.underlying270
 a33 := Tryz.isAgg270
 z33 := Tryz.sizeOf270
 v33 := Tryz.zeroValue270
end Go.Proofs.YtgcknlpkhhpkjaaGreatDoor
/- The program's pool: what is held, what is dirty; walked. Conditions: in each statement. -/
namespace Go.Proofs.YtgcknlpkhhpkjaaGreatDoor
open Go Go.SL Go.SL.Sec Go.SL.Fld Go.SL.Pts Go.SL.Rec Go.SL.Twn Go.SL.Pg Go.SL.Mst Go.SL.Pool
theorem pkeys_spec {W : World} {H : HProp} {r : Nat} : Does prog W f_z3o ⟨[.map (some r)]⟩ H (Ret fun v G => ∃ B, v = .func (.func f_z43) ⟨[]⟩ ⟨[ptr B]⟩ ∧ G = (pts B (.cells ⟨[.map (some r)]⟩ t_M_int_P_pool_frame) • H)) := by
 refine f_z3o.does _ ?_
 conv => whnf
 repeat' (first
  | (intro blk hblk; conv => whnf))
 exact ⟨_, _, rfl, Imp.refl _, _, rfl, rfl⟩
-- @noauto
theorem pheld_spec {W : World} {R : HProp} {p : Nat} {X : PoolX} (hl : X.held.length ≤ 1000000) (hk : ∀ x ∈ X.held, 0 ≤ x.1 ∧ x.1 ≤ 1000000) :
  Does prog W f_z22 ⟨[ptr p]⟩ (poolo p X • R) (Ret fun v G => ∃ a c, v = .slice a X.held.length c ∧ G = (vec t_int 1 ints a c (sortI (X.held.map (·.1))) • poolo p X • R)) := by
 rw [poolo_eq]
 refine f_z22.does _ ?_
 conv => whnf
 repeat' (first
  | (refine Ld.i ?_; conv => whnf))
 refine CallK.ret f_z3o.ok pkeys_spec ?_
 rintro v G ⟨B, rfl, rfl⟩
 conv => whnf
 skip
 refine CallK.ret f_z42.ok (Does.sorted laySorted layKeys_pool_frame laySort rfl rfl rfl rfl (l := mapv fptr X.held) (by rw [mapv_length]; omega) (fun z hz => by obtain ⟨q, hq, rfl⟩ := List.mem_map.1 hz; have := hk q hq; dsimp only; omega)) ?_
 rintro v G ⟨ka, kc, rfl, rfl⟩
 rw [mapv_keys, mapv_length, show laySorted_ren.t 26 = t_int from rfl]
 conv => whnf
 skip
 exact ⟨_, _, rfl, (by first | exact .refl _ | exact .drop | exact .fin | ((repeat refine .pick ?_); first | exact .refl _ | exact .emp _ | exact .fin)), ka, kc, rfl, rfl⟩
set_option maxHeartbeats 1000000 in
-- @noauto
theorem pdirty_spec {W : World} {R : HProp} {p : Nat} {X : PoolX} (hnd : (X.held.map (·.1)).Nodup) (hl : X.held.length ≤ 1000000) (hk : ∀ x ∈ X.held, 0 ≤ x.1 ∧ x.1 ≤ 1000000) :
  Does prog W f_z23 ⟨[ptr p]⟩ (poolo p X • R) (Ret fun v G => ∃ a c, v = .slice a (X.val.dirtyL (sortI (X.held.map (·.1)))).length c ∧ G = (vec t_api_Dirty 2 dirtyv a c (X.val.dirtyL (sortI (X.held.map (·.1)))) • poolo p X • R)) := by
 refine f_z23.does _ ?_
 conv => whnf
 skip
 refine CallK.ret f_z22.ok (pheld_spec hl hk) ?_
 obtain ⟨K, hK⟩ : ∃ K, K = sortI (X.held.map (·.1)) := ⟨_, rfl⟩
 have hKl : K.length = X.held.length := by rw [hK, sortI_length, List.length_map]
 rw [← hK, ← hKl]
 rintro v G ⟨ka, kc, rfl, rfl⟩
 have hKm : ∀ k ∈ K, ∃ f, X.held.lookup k = some f := fun k hk' => by
  obtain ⟨q, hq, rfl⟩ := List.mem_map.1 (sortI_mem.1 (hK ▸ hk'))
  exact ⟨_, lookup_of_mem q.1 q.2 _ hnd hq⟩
 conv => whnf
 skip
 refine LoopK.at tab_ok (L := f_z23.live) (ι := Nat × Option Addr × Nat) (fun i => i.1 ≤ K.length)
  (fun i => [(10, .int .i64 i.1), (3, .slice i.2.1 (X.val.dirtyL (K.take i.1)).length i.2.2)]) (fun i => vec t_api_Dirty 2 dirtyv i.2.1 i.2.2 (X.val.dirtyL (K.take i.1))) (fun i => K.length - i.1) (0, none, 0) (by simp) (fun t v h => h) (Imp.vnil (Imp.refl _)) ?_
 rintro ⟨i, oa, oc⟩ hi
 dsimp only at hi ⊢
 conv => whnf
 by_cases h1 : i < K.length
 ·obtain ⟨x, hx⟩ : ∃ x, K[i]? = some x := ⟨_, List.getElem?_eq_getElem h1⟩
  obtain ⟨f, hlk⟩ := hKm x (List.mem_of_getElem? hx)
  haveI rf : ∀ (Q : HProp) (k : Nat) (v : Value) [LAt (frv f) k v], RdC W (poolo p X • Q) ⟨f.b, k, none⟩ v := fun Q k v _ => rd_frame hnd hlk
  have hT : X.val.dirtyL (K.take (i + 1)) = X.val.dirtyL (K.take i) ++ (if f.dirty then [(x, f.since)] else []) := by
   rw [List.take_add_one, hx]
   unfold PoolM.dirtyL
   rw [List.filterMap_append]
   congr 1
   simp only [Option.toList, List.filterMap_cons, List.filterMap_nil, look_val hlk]
   rw [show f.val.dirty = f.dirty from rfl, show f.val.since = f.since from rfl]
   cases f.dirty with
   | true => rfl
   | false => rfl
  have hlen : (X.val.dirtyL (K.take i)).length ≤ i := by
   unfold PoolM.dirtyL
   refine Nat.le_trans (List.length_filterMap_le _ _) ?_
   rw [List.length_take]; omega
  cases hfd : f.dirty with
  | false =>
   rw [hfd, if_neg (by decide), List.append_nil] at hT
   repeat' (first
    | (refine spl_f hfd ?_; conv => whnf)
    | (refine spl_dec (fun hd => ?_) (fun hd => ?_) <;> first | (exfalso; omega) | (conv => whnf))
    | ((first | refine Ld.i ?_ | refine Ar.i64 (by omega) ?_); conv => whnf)
    | (refine IxS.r (i := i) rfl rfl h1 (fun ab off ha => ?_); subst ha; conv => whnf)
    | ((first | refine Ld.r0 hx rfl ?_ | refine OpX.lks tab_ok hlk rfl rfl rfl rfl rfl ?_); conv => whnf))
   refine ⟨rfl, (i + 1, oa, oc), h1, by rw [← hT]; exact fun t v h => h, ?_, by dsimp only; omega⟩
   dsimp only
   rw [hT]
   first | exact .refl _ | exact .drop | exact .fin | ((repeat refine .pick ?_); first | exact .refl _ | exact .emp _ | exact .fin)
  | true =>
   rw [hfd, if_pos rfl] at hT
   repeat' (first
    | (refine spl_t hfd ?_; conv => whnf)
    | (refine spl_dec (fun hd => ?_) (fun hd => ?_) <;> first | (exfalso; omega) | (conv => whnf))
    | (refine Ld.i ?_; conv => whnf)
    | (intro blk hblk; conv => whnf)
    | (refine IxS.r (i := i) rfl rfl h1 (fun ab off ha => ?_); subst ha; conv => whnf)
    | ((first | refine Ld.r0 hx rfl ?_ | refine OpX.lks tab_ok hlk rfl rfl rfl rfl rfl ?_); conv => whnf))
   refine OpX.app1 tab_ok rfl rfl rfl rfl (x, f.since) rfl rfl (by omega) ⟨rfl, OneC.h⟩ (fun a' c' => ?_)
   rw [← hT]
   repeat' (first
    | (refine Ar.i64 (by omega) ?_; conv => whnf))
   refine ⟨rfl, (i + 1, a', c'), h1, by rw [hT, List.length_append]; exact fun t v h => h, ?_, by dsimp only; omega⟩
   first | exact .refl _ | exact .drop | exact .fin | ((repeat refine .pick ?_); first | exact .refl _ | exact .emp _ | exact .fin)
 ·have hi' : i = K.length := by omega
  subst hi'
  repeat' (first
   | (refine spl_dec (fun hd => ?_) (fun hd => ?_) <;> first | (exfalso; omega) | (conv => whnf)))
  rw [List.take_length]
  refine ⟨_, _, rfl, ?_, oa, oc, rfl, rfl⟩
  first | exact .refl _ | exact .drop | exact .fin | ((repeat refine .pick ?_); first | exact .refl _ | exact .emp _ | exact .fin)
end Go.Proofs.YtgcknlpkhhpkjaaGreatDoor
/- The program's pool.New, walked. Conditions: in each statement. -/
namespace Go.Proofs.YtgcknlpkhhpkjaaGreatDoor
open Go Go.SL Go.SL.Sec Go.SL.Fld Go.SL.Pts Go.SL.Rec Go.SL.Twn Go.SL.Pg Go.SL.Mst Go.SL.Pool
abbrev pool0 (d l : Nat) (p lg f : Int) (r : Nat) : PoolX := ⟨d, l, p, lg, f, r, [], 0, false⟩
-- @noauto
theorem pnew_nil {W : World} {R : HProp} {l : Nat} {p lg f : Int} :
  Does prog W f_z25 ⟨[.pointer none, ptr l, .agg ⟨[.int .i64 p, .int .i64 lg, .int .i64 f]⟩]⟩ R (Ret fun v G => v = .tuple ⟨[.pointer none, .int .i64 3]⟩ ∧ G = R) := by
 refine f_z25.does _ _ _ ?_
 conv => whnf
 repeat' (first
  | (intro blk hblk; conv => whnf))
 refine Ret.eq rfl ?_
 first | exact .refl _ | exact .drop | exact .fin | ((repeat refine .pick ?_); first | exact .refl _ | exact .emp _ | exact .fin)
-- @noauto
theorem pnew_spec {W : World} {R : HProp} {d l : Nat} {p lg f : Int} {X : DevX} (hX : X.Ok) (hm : MayP p lg f) (hs : X.val.secs = 5 + 2 * p + lg) :
  Does prog W f_z25 ⟨[ptr d, ptr l, .agg ⟨[.int .i64 p, .int .i64 lg, .int .i64 f]⟩]⟩ (devo d X • R) (Ret fun v G => ∃ q r, v = .tuple ⟨[ptr q, i0]⟩ ∧ G = (poolo q (pool0 d l p lg f r) • devo d X • R)) := by
 refine f_z25.does _ _ _ ?_
 conv => whnf
 repeat' (first
  | (refine CallK.ret f_z32.ok (need_yes hm) ?_; rintro v G ⟨rfl, rfl⟩; conv => whnf)
  | (refine CallK.ret f_z1i.ok (sectors_spec (X := X) hX) ?_; rw [hs]; rintro v G ⟨rfl, rfl⟩; conv => whnf)
  | ((first | refine spl_f (by with_reducible exact ndec_self _) ?_ | refine LdN.i ?_); conv => whnf)
  | (intro blk hblk; conv => whnf)
  | (refine OpX.makeMap .i64 (fun r hr => ?_); conv => whnf))
 refine ⟨_, _, rfl, ?_, blk, r, rfl, rfl⟩
 rw [poolo_eq]
 show Imp _ (pts blk (.cells ⟨[ptr d, ptr l, .int .i64 p, .int .i64 lg, .int .i64 f, .map (some r), i0, .bool false]⟩ t_pool_Pool) • mapc r .i64 [] • emp • devo d X • R)
 rw [emp_star]
 first | exact .refl _ | exact .drop | exact .fin | ((repeat refine .pick ?_); first | exact .refl _ | exact .emp _ | exact .fin)
end Go.Proofs.YtgcknlpkhhpkjaaGreatDoor
/- A pool over a new disk; a log that grows; plain words. Conditions: in each statement. -/
namespace Go.Proofs.YtgcknlpkhhpkjaaGreatDoor
open Go Go.SL Go.SL.Sec Go.SL.Fld Go.SL.Pts Go.SL.Rec Go.SL.Twn Go.SL.Pg Go.SL.Mst Go.SL.Pool
def zeroD (n : Int) : Dev := (freshX none 0 (List.replicate (n * 512).toNat 0)).val
theorem zeroD_secs {n : Int} (h : 0 ≤ n) : (zeroD n).secs = n := by
 unfold Dev.secs zeroD
 show ((List.replicate (n * 512).toNat (0 : Int)).length : Int) / 512 = n
 rw [List.length_replicate]; omega
theorem zeroD_ok {n : Int} (h : 1 ≤ n ∧ n ≤ 8192) : (zeroD n).Ok := by
 refine (fresh_ok (a := none) (c := (n * 512).toNat) (img := List.replicate (n * 512).toNat 0) ?_ ?_ (Byt.rep _) ?_).val
 ·rw [List.length_replicate]; omega
 ·rw [List.length_replicate]; omega
 ·rw [List.length_replicate]; exact Nat.le_refl _
theorem zeroD_at {n i : Int} (h : 0 ≤ i ∧ i < n) : (zeroD n).at i = z512 := by
 show secOf (List.replicate (n * 512).toNat (0 : Int)) i = z512
 unfold secOf
 rw [List.drop_replicate, List.take_replicate, z512_eq]
 congr 1
 omega
theorem secsL_zero {n first : Int} : ∀ {k : Nat}, (∀ i : Nat, i < k → (0 ≤ first + (i : Nat) ∧ first + (i : Nat) < n)) → secsL (zeroD n) first k = List.replicate k z512
 | 0, _ => rfl
 | k + 1, h => by rw [secsL_succ, secsL_zero fun i hi => h i (by omega), zeroD_at (h k (by omega)), List.replicate_succ']
theorem foundG_zero : ∀ k : Nat, foundG 0 (List.replicate k z512) = []
 | 0 => rfl
 | k + 1 => by
  rw [List.replicate_succ, foundG]
  have : okS 0 z512 = none := by
   unfold okS
   refine if_pos (.inl ?_)
   show ¬ (List.replicate 512 (0 : Int))[0]? = some 108
   rw [List.getElem?_replicate, if_pos (by decide)]
   decide
  rw [this]
theorem wipG_zero (first : Int) (D : Dev) : ∀ k i : Nat, wipG first i (List.replicate k z512) false D = (0, D)
 | 0, _ => rfl
 | k + 1, i => by
  rw [List.replicate_succ, wipG]
  have : zerosB z512 = true := by unfold zerosB; rw [z512_eq]; exact List.all_eq_true.2 fun x hx => by rw [List.mem_replicate] at hx; simpa using hx.2
  rw [if_pos this]
  exact wipG_zero first D k (i + 1)
theorem openF_zero {n first : Int} {k : Nat} (h : ∀ i : Nat, i < k → (0 ≤ first + (i : Nat) ∧ first + (i : Nat) < n)) : openF (zeroD n) first k = ((0, 0), ⟨first, k, [], [], 0, none⟩, zeroD n) := by
 unfold openF
 rw [secsL_zero h, foundG_zero]
 show (if (0 : Int) ≠ 0 then _ else _) = _
 rw [if_neg (by decide)]
 show ((0, (wipG first 0 (List.replicate k z512) false (zeroD n)).1), (⟨first, k, [], [], 0, none⟩ : LogM), (wipG first 0 (List.replicate k z512) false (zeroD n)).2) = _
 rw [wipG_zero]
end Go.Proofs.YtgcknlpkhhpkjaaGreatDoor
namespace Go.SL.Pool
open Go Go.SL Go.SL.Sec Go.SL.Fld Go.SL.Rec Go.SL.Twn Go.SL.Pg Go.SL.Mst
open Go.Proofs.YtgcknlpkhhpkjaaGreatDoor (zeroD zeroD_ok zeroD_at zeroD_secs)
def sto0 (p lg f : Int) : Sto := ⟨⟨p, lg, f, [], 0, false⟩, ⟨5 + 2 * p, lg, [], [], 0, none⟩, zeroD (5 + 2 * p + lg)⟩
def last0 (n : Int) : PgM := ⟨n, 0, [], []⟩
theorem last0_fault {n : Int} (h : 0 ≤ n ∧ n ≤ 63) : (last0 n).fault = 0 := by
 unfold PgM.fault last0
 dsimp only
 rw [if_neg (fun k => k h), if_neg (by simp), if_neg (by simp), if_neg (by simp)]
 rfl
theorem last0_in {n : Int} (h : 0 ≤ n ∧ n ≤ 63) : (last0 n).In := ⟨by unfold In64 last0; dsimp only; omega, by unfold In64 last0; dsimp only; omega, fun c hc => (by cases hc), fun c hc => (by cases hc)⟩
theorem enc_last0 (n : Int) : encP (last0 n) = z1024 := if_pos rfl
theorem ok0 {p lg f : Int} (h : MayP p lg f) : (sto0 p lg f).Ok := by
 have h' := h
 unfold MayP at h'
 exact ⟨h, zeroD_ok (by omega), rfl, zeroD_secs (by omega), rfl, rfl, rfl, by show (0 : Int) ≤ lg; omega, fun b hb => (by cases hb), List.nodup_nil, fun n f hf => (by cases hf), fun n m f g hf => (by cases hf)⟩
theorem keeps0 {p lg f : Int} (h : MayP p lg f) : Keeps (sto0 p lg f) last0 := by
 have h' := h
 unfold MayP at h'
 refine ⟨rfl, h'.1, ⟨rfl, rfl⟩, zeroD_ok (by omega), zeroD_secs (by omega), rfl, rfl, rfl, by show (0 : Int) ≤ lg; omega, fun b hb => (by cases hb), List.nodup_nil, fun n f hf => (by cases hf), fun n hn _ => ?_, fun n hn => ?_⟩
 ·have hn' : 0 ≤ n ∧ n < p := hn
  rw [enc_last0]
  show (zeroD (5 + 2 * p + lg)).at (5 + 2 * n) ++ (zeroD (5 + 2 * p + lg)).at (5 + 2 * n + 1) = z1024
  rw [zeroD_at (by omega), zeroD_at (by omega), z512_eq, z1024_eq, List.replicate_append_replicate]
 ·have hn' : 0 ≤ n ∧ n < p := hn
  exact ⟨rfl, last0_fault (by omega), last0_in (by omega), Int.le_refl _⟩
def Sto.app (S : Sto) (r : RecM) (b : List Int) : Sto := { S with L := { S.L with recs := S.L.recs ++ [r], bys := S.L.bys ++ [b] } }
theorem Keeps.app {S : Sto} {last : Int → PgM} (K : Keeps S last) {r : RecM} {b : List Int} (hc : (S.L.recs.length : Int) + 1 ≤ S.L.count) (hb : Byt b ∧ b.length ≤ 505) : Keeps (S.app r b) last := by
 have hl : (S.L.recs ++ [r]).length = S.L.recs.length + 1 := by simp
 refine ⟨K.run, K.pages, K.calm, K.dok, K.secs, K.first, K.err, ?_, ?_, ?_, K.nd, K.key, K.home, fun n hn => ?_⟩
 ·show S.L.forced + (S.L.bys ++ [b]).length = (S.L.recs ++ [r]).length
  rw [hl, List.length_append, List.length_singleton]; have := K.forced; omega
 ·show ((S.L.recs ++ [r]).length : Int) ≤ S.L.count
  rw [hl]; omega
 ·intro x hx
  rcases List.mem_append.1 hx with h | h
  ·exact K.bys x h
  ·cases List.mem_singleton.1 h; exact hb
 ·obtain ⟨h1, h2, h3, h4⟩ := K.good n hn
  refine ⟨h1, h2, h3, ?_⟩
  show (last n).lsn ≤ ((S.L.recs ++ [r]).length : Int)
  rw [hl]; omega
theorem Sto.Ok.app {S : Sto} (h : S.Ok) {r : RecM} {b : List Int} (hc : (S.L.recs.length : Int) + 1 ≤ S.L.count) (hb : Byt b ∧ b.length ≤ 505) : (S.app r b).Ok := by
 have hl : (S.L.recs ++ [r]).length = S.L.recs.length + 1 := by simp
 refine ⟨h.may, h.dok, h.q, h.secs, h.first, h.cnt, ?_, ?_, ?_, h.nd, fun n f hf => ?_, h.us⟩
 ·show S.L.forced + (S.L.bys ++ [b]).length = (S.L.recs ++ [r]).length
  rw [hl, List.length_append, List.length_singleton]; have := h.forced; omega
 ·show ((S.L.recs ++ [r]).length : Int) ≤ S.L.count
  rw [hl]; omega
 ·intro x hx
  rcases List.mem_append.1 hx with k | k
  ·exact h.bys x k
  ·cases List.mem_singleton.1 k; exact hb
 ·have k := h.fr n f hf
  refine ⟨k.num, k.pin, k.C, k.G, k.lsn, k.key, fun hd => ?_, k.used⟩
  obtain ⟨k1, k2⟩ := k.dirty hd
  refine ⟨k1, ?_⟩
  show f.pg.lsn ≤ ((S.L.recs ++ [r]).length : Int)
  rw [hl]; omega
def Sto.force (S : Sto) (n : Int) : Int × Sto := ((S.L.force S.D n).1, ⟨S.P, (S.L.force S.D n).2.1, (S.L.force S.D n).2.2⟩)
theorem Keeps.force {S : Sto} {last : Int → PgM} (K : Keeps S last) {n : Int} (hn : 0 ≤ n ∧ n ≤ S.L.recs.length) : (S.force n).1 = 0 ∧ Keeps (S.force n).2 last ∧ (S.force n).2.L.recs = S.L.recs ∧ (S.force n).2.L.count = S.L.count ∧ n ≤ (S.force n).2.L.forced := by
 obtain ⟨a1, a2, a3, a4, a5, a6, a7, a8', F, a8, a9⟩ := force_calm K.calm K.dok K.err (by rw [K.first]; have := K.pages; omega) (by rw [K.first, K.secs]; omega) K.forced K.recs K.bys hn
 have hat : ∀ m, 0 ≤ m ∧ m < S.P.pages → pageOf (S.L.force S.D n).2.2 m = pageOf S.D m := fun m hm => by
  have e1 := K.first
  unfold pageOf
  rw [a8.sec _ (by omega), a8.sec _ (by omega), a9 _ (by omega), a9 _ (by omega)]
  rfl
 refine ⟨a1, ⟨K.run, K.pages, a8.calm, a8.ok, ?_, ?_, a2, ?_, ?_, a7, K.nd, fun m f hm => ?_, fun m hm hno => ?_, fun m hm => ?_⟩, a5, a4, a8'⟩
 ·show (S.L.force S.D n).2.2.secs = 5 + 2 * S.P.pages + (S.L.force S.D n).2.1.count
  rw [a8.secs, a4]; exact K.secs
 ·show (S.L.force S.D n).2.1.first = _
  rw [a3]; exact K.first
 ·show (S.L.force S.D n).2.1.forced + (S.L.force S.D n).2.1.bys.length = (S.L.force S.D n).2.1.recs.length
  rw [a5]; exact a6
 ·show ((S.L.force S.D n).2.1.recs.length : Int) ≤ (S.L.force S.D n).2.1.count
  rw [a5, a4]; exact K.recs
 ·obtain ⟨k1, k2, k3⟩ := K.key m f hm
  exact ⟨k1, k2, fun hd => by show pageOf (S.L.force S.D n).2.2 m = _; rw [hat m k1]; exact k3 hd⟩
 ·show pageOf (S.L.force S.D n).2.2 m = _
  rw [hat m hm]; exact K.home m hm hno
 ·have := K.good m hm
  show _ ∧ _ ∧ _ ∧ (last m).lsn ≤ ((S.L.force S.D n).2.1.recs.length : Int)
  rw [a5]; exact this
end Go.SL.Pool
/- The log under the pool: a record more, Force; walked. Conditions: in each statement. -/
namespace Go.SL.Pool
open Go Go.SL Go.SL.Sec Go.SL.Fld Go.SL.Rec Go.SL.Twn Go.SL.Pg Go.SL.Mst
open Go.SL.Und (RecV recv fits)
def begR (t : Int) : RecV := { Rec.recZ with kind := 1, tx := t }
def begN (n : Nat) (t : Int) : RecV := { begR t with lsn := (n : Int) + 1 }
theorem begN_chk {n : Nat} {t : Int} (hn : n ≤ 1000000) (ht : 1 ≤ t ∧ t ≤ 1000000) : chkF (begN n t) [] [] = 0 := by
 unfold chkF
 rw [if_neg (show ¬ ((begN n t).kind < 1 ∨ (begN n t).kind > 8) by show ¬ ((1 : Int) < 1 ∨ (1 : Int) > 8); decide)]
 rw [if_pos ((FieldsP.one (show (begN n t).kind = 1 from rfl)).2 ⟨?_, ?_, ?_⟩)]
 ·show 0 ≤ (n : Int) + 1 ∧ (n : Int) + 1 ≤ 2147483647
  omega
 ·show 1 ≤ t ∧ t ≤ 2147483647
  omega
 ·unfold BlankP begN begR Rec.recZ
  simp
theorem begN_enc (n : Nat) {t : Int} (ht : 1 ≤ t ∧ t ≤ 1000000) : Byt (encR (begN n t) [] []) ∧ (encR (begN n t) [] []).length ≤ 505 := by
 have e : encR (begN n t) [] [] = encN 1 ++ (encN t.toNat ++ []) ++ [] ++ [] := rfl
 rw [e]
 have h1 := encN_len10 (n := 1) (by decide)
 have h2 := encN_len10 (n := t.toNat) (by omega)
 refine ⟨((((encN_byt 1).append ((encN_byt _).append Byt.nil)).append Byt.nil).append Byt.nil), ?_⟩
 simp only [List.length_append, List.length_nil]
 omega
def Sto.beg (S : Sto) (t : Int) : Int × Sto := if S.L.count - S.L.recs.length = 0 then (6, S) else (0, S.app ⟨begN S.L.recs.length t, [], []⟩ (encR (begN S.L.recs.length t) [] []))
end Go.SL.Pool
namespace Go.Proofs.YtgcknlpkhhpkjaaGreatDoor
open Go Go.SL Go.SL.Sec Go.SL.Fld Go.SL.Pts Go.SL.Rec Go.SL.Twn Go.SL.Pg Go.SL.Mst Go.SL.Pool
theorem logok_val {X : LogX} {M : LogM} (h : X.val = M) (h1 : 0 ≤ M.count ∧ M.count ≤ 4096) (h2 : ∀ m ∈ M.recs, m.L.length ≤ 32 ∧ m.D.length ≤ 16 ∧ bare m.r = m.r) (h3 : (M.recs.length : Int) ≤ M.count) (h4 : M.forced + M.bys.length = M.recs.length) (h5 : ∀ b ∈ M.bys, Byt b ∧ b.length ≤ 505) : X.Ok := by
 subst h
 have e1 : X.val.recs.length = X.recs.length := List.length_map ..
 have e2 : X.val.bys.length = X.bys.length := List.length_map ..
 rw [e1] at h3 h4
 rw [e2] at h4
 exact ⟨h1, fun x hx => h2 x.m (List.mem_map.2 ⟨x, hx, rfl⟩), h3, h4, fun x hx => h5 x.b (List.mem_map.2 ⟨x, hx, rfl⟩)⟩
-- @noauto
theorem pbeg_spec {W : World} {R : HProp} {p : Nat} {S : StoX} {t : Int} (hS : S.Ok) (he : S.L.err = none) (ht : 1 ≤ t ∧ t ≤ 1000000) :
  Does prog W f_zl ⟨[ptr S.P.l, recA (begR t)]⟩ (stoo p S • R) (Ret fun v G => ∃ S' : StoX, S'.Ok ∧ S.Same S' ∧ S'.val = (S.val.beg t).2 ∧ v = .tuple ⟨[.int .i64 (if (S.val.beg t).1 = 0 then (S.L.recs.length : Int) + 1 else 0), .int .i64 (S.val.beg t).1]⟩ ∧ G = (stoo p S' • R)) := by
 have hcnt := hS.L.cnt
 have hlen := hS.L.len
 have hc := begN_chk (n := S.L.recs.length) (t := t) (by omega) ht
 have erl : S.val.L.recs.length = S.L.recs.length := List.length_map ..
 have hz : ∀ (α : Type) (Q : HProp) (sz : Nat) (enc : α → List Value), RowC W Q none sz enc [] := fun α Q sz enc => ⟨fun w hs i x hx => by cases hx⟩
 haveI rl : ∀ Q : HProp, RowN W Q (begR t).lv.1 (begR t).lv.2.1 4 livev [] := fun Q => ⟨hz _ _ _ _, rfl⟩
 haveI rd : ∀ Q : HProp, RowN W Q (begR t).dt.1 (begR t).dt.2.1 2 dirtyv [] := fun Q => ⟨hz _ _ _ _, rfl⟩
 unfold Sto.beg
 rw [erl, show S.val.L.count = S.L.count from rfl, stoo_eq, star_left_comm (poolo p S.P)]
 by_cases c : S.L.count - S.L.recs.length = 0
 ·rw [if_pos c]
  refine (append_no (X := S.L) (r := begR t) (L := []) (D := []) (e := 6) hS.L he (.inr ⟨hc, c, rfl⟩)).post fun en w H' hs hQ => ?_
  obtain ⟨v, G, h1, h2, rfl, rfl⟩ := hQ
  exact ⟨H', hs, _, _, h1, h2, S, hS, .refl S, rfl, rfl, ((stoo_eq p S R).trans (star_left_comm _ _ _)).symm⟩
 ·rw [if_neg c]
  refine (append_yes (X := S.L) (r := begR t) (L := []) (D := []) hS.L he (fun o ho => by cases ho) hc c).post fun en w H' hs hQ => ?_
  obtain ⟨v, G, h1, h2, X', hd, hv, rfl, rfl⟩ := hQ
  have hok := hS.val.app (r := ⟨begN S.L.recs.length t, [], []⟩) (b := encR (begN S.L.recs.length t) [] []) (by rw [erl]; have : S.val.L.count = S.L.count := rfl; omega) (begN_enc _ ht)
  have hval : (⟨S.P, X', S.D⟩ : StoX).val = S.val.app ⟨begN S.L.recs.length t, [], []⟩ (encR (begN S.L.recs.length t) [] []) := by
   show (⟨S.P.val, X'.val, S.D.val⟩ : Sto) = _
   rw [hv]; rfl
  refine ⟨H', hs, _, _, h1, h2, ⟨S.P, X', S.D⟩, ⟨by rw [hval]; exact hok, ?_, hS.D, hd.trans hS.ld⟩, ⟨rfl, rfl⟩, hval, rfl, ((stoo_eq p ⟨S.P, X', S.D⟩ R).trans (star_left_comm _ _ _)).symm⟩
  refine logok_val hv hcnt (fun m hm => ?_) ?_ ?_ ?_
  ·rcases List.mem_append.1 hm with k | k
   ·obtain ⟨x, hx, rfl⟩ := List.mem_map.1 k
    exact hS.L.recs x hx
   ·cases List.mem_singleton.1 k
    exact ⟨Nat.zero_le _, Nat.zero_le _, rfl⟩
  ·exact hok.recs
  ·exact hok.forced
  ·exact hok.bys
def StoF (p : Nat) (S : StoX) (T : Int × Sto) (R : HProp) (v : Value) (G : HProp) : Prop := ∃ (S' : StoX) (J : HProp), S'.Ok ∧ S.Same S' ∧ S'.val = T.2 ∧ (J = R ∨ ∃ b e, J = (fltc b wForce 0 e • R)) ∧ ErrV T.1 v G ∧ G = (stoo p S' • J)
end Go.Proofs.YtgcknlpkhhpkjaaGreatDoor
