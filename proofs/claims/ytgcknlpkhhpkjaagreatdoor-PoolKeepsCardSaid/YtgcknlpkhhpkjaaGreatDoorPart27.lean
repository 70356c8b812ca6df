/- The program's pool: Get and Pin; walked. Conditions: in each statement. -/
import Derived.Test.YtgcknlpkhhpkjaaGreatDoorPart25
import Derived.Test.YtgcknlpkhhpkjaaGreatDoorPart26
import Derived.Test.YtgcknlpkhhpkjaaGreatDoorPart6
import Derived.Test.YtgcknlpkhhpkjaaGreatDoorPart9
import Derived.Test.YtgcknlpkhhpkjaaGreatDoorPart19
import Derived.Test.YtgcknlpkhhpkjaaGreatDoorPart17
namespace Go.SL.Pool
open Go Go.SL Go.SL.Sec Go.SL.Fld Go.SL.Rec Go.SL.Twn Go.SL.Pg
theorem Sto.Ok.pin {S : Sto} (h : S.Ok) (n : Int) : (S.pin n).2.Ok := by
 have hg := (h.get n).1
 unfold Sto.pin
 dsimp only
 split
 ·exact hg
 cases hl : (S.get n).2.P.held.lookup n with
 | none => exact hg
 | some f =>
  dsimp only
  have k := hg.fr n f hl
  refine Sto.Ok.put hg ⟨k.num, k.pin, k.C, k.G, k.lsn, k.key, k.dirty, k.used⟩ fun m g hm hu => ?_
  exact hg.us m n g f hm hl hu
end Go.SL.Pool
namespace Go.Proofs.YtgcknlpkhhpkjaaGreatDoor
open Go Go.SL Go.SL.Sec Go.SL.Fld Go.SL.Pts Go.SL.Rec Go.SL.Twn Go.SL.Pg Go.SL.Mst Go.SL.Pool
def GetE (p : Nat) (n : Int) (S : StoX) (T : Int × Sto) (R : HProp) (v : Value) (G : HProp) : Prop := ∃ S' : StoX, S'.Ok ∧ S.Same S' ∧ S'.val = T.2 ∧
 ((T.1 = 0 ∧ ∃ f x, S'.P.held.lookup n = some f ∧ x.m = f.pg.m ∧ v = .tuple ⟨[pgv x, .nilIface]⟩ ∧ G = (stoo p S' • pgc x • R)) ∨
   (T.1 ≠ 0 ∧ ∃ b, v = .tuple ⟨[pgv (pg0 0 0), .iface t_z5 (ptr b)]⟩ ∧ G = (fltc b wGet n T.1 • stoo p S' • R)))
-- @noauto
theorem pget_spec {W : World} {R : HProp} {p : Nat} {S : StoX} {n : Int} [le : LaidE W] [lc : LaidC W] [lp : LaidP W] [oc : OldC W R] (hS : S.Ok) (hc : 0 ≤ S.P.clock ∧ S.P.clock ≤ 1000000000) :
  Does prog W f_z1p ⟨[ptr p, .int .i64 n]⟩ (stoo p S • R) (Ret (GetE p n S (S.val.get n) R)) := by
 obtain ⟨T, hT⟩ : ∃ T, T = S.val.get n := ⟨_, rfl⟩
 rw [← hT]
 refine f_z1p.does _ _ ?_
 conv => whnf
 repeat' (first
  | (intro blk hblk; conv => whnf))
 refine CallK.imp (H' := stoo p S • pts blk (.cells ⟨[i0, i0, .slice none 0 0, .slice none 0 0]⟩ t_page_Page) • R) (by first | exact .refl _ | exact .drop | exact .fin | ((repeat refine .pick ?_); first | exact .refl _ | exact .emp _ | exact .fin)) ?_
 refine CallK.ret f_z14.ok (pget0_spec hS hc) ?_
 rw [← hT]
 rintro v G ⟨S1, hS1, hs1, hv1, rfl, ⟨h0, f, hlk, rfl⟩ | ⟨h0, rfl⟩⟩
 ·have hnd := hS1.nd
  have fk := hS1.val.fr n f.val (look_val hlk)
  haveI rf : ∀ (Q : HProp) (k : Nat) (v : Value) [LAt (frv f) k v], RdC W (poolo p S1.P • Q) ⟨f.b, k, none⟩ v := fun Q k v _ => rd_frame hnd hlk
  haveI rl : ∀ (Q : HProp) (k m : Nat) (vs : List Value) [LSub (frv f) k m vs], RdLC W (poolo p S1.P • Q) f.b k m vs := fun Q k m vs _ => rdl_frame hnd hlk
  haveI rC : ∀ Q : HProp, RowC W (poolo p S1.P • Q) f.pg.ca 5 cntv f.pg.m.C := fun Q => rowC_frame hnd hlk
  haveI rG : ∀ Q : HProp, RowC W (poolo p S1.P • Q) f.pg.ga 2 grpv f.pg.m.G := fun Q => rowG_frame hnd hlk
  have hC : f.pg.m.C.length ≤ 31 := fk.C
  have hG : f.pg.m.G.length ≤ 84 := fk.G
  rw [stoo_eq]
  conv => whnf
  repeat' (first
   | (refine CallK.ret f_z1v.ok (pcopy_spec (num := f.pg.m.num) (lsn := f.pg.m.lsn) (C := f.pg.m.C) (G := f.pg.m.G) (rc := ⟨inferInstance, rfl⟩) (rg := ⟨inferInstance, rfl⟩) (by omega) (by omega)) ?_; rintro v G ⟨x, hx, rfl, rfl⟩; conv => whnf)
   | ((first | refine LdN.i ?_ | refine St.i ⟨rfl, rfl⟩ (List.cons_ne_nil _ _) ?_); conv => whnf))
  refine ⟨_, _, rfl, ?_, S1, hS1, hs1, hv1, .inl ⟨h0, f, x, hlk, hx, rfl, rfl⟩⟩
  rw [stoo_eq]
  first | exact .refl _ | exact .drop | exact .fin | ((repeat refine .pick ?_); first | exact .refl _ | exact .emp _ | exact .fin)
 ·conv => whnf
  repeat' (first
   | (rw [decide_eq_false h0]; conv => whnf))
  refine CallK.ret f_z1c.ok (presult_spec (w := wGet)) ?_
  rintro v G' (⟨h1, rfl, rfl⟩ | ⟨h1, b, rfl, rfl⟩)
  ·exact absurd h1 h0
  ·conv => whnf
   repeat' (first
    | ((first | refine LdN.i ?_ | refine St.i ⟨rfl, rfl⟩ (List.cons_ne_nil _ _) ?_); conv => whnf))
   exact ⟨_, _, rfl, (by first | exact .refl _ | exact .drop | exact .fin | ((repeat refine .pick ?_); first | exact .refl _ | exact .emp _ | exact .fin)), S1, hS1, hs1, hv1, .inr ⟨h1, _, rfl, rfl⟩⟩
-- @noauto
theorem ppin_spec {W : World} {R : HProp} {p : Nat} {S : StoX} {n : Int} [le : LaidE W] [lc : LaidC W] [lp : LaidP W] [oc : OldC W R] (hS : S.Ok) (hc : 0 ≤ S.P.clock ∧ S.P.clock ≤ 1000000000) (hp : ∀ f, (S.val.get n).2.P.held.lookup n = some f → -1000000000 ≤ f.pins ∧ f.pins ≤ 1000000000) :
  Does prog W f_z33 ⟨[ptr p, .int .i64 n]⟩ (stoo p S • R) (Ret (StoE p S wPin n (S.val.pin n) R)) := by
 obtain ⟨T, hT⟩ : ∃ T, T = S.val.get n := ⟨_, rfl⟩
 obtain ⟨U, hU⟩ : ∃ U, U = S.val.pin n := ⟨_, rfl⟩
 have hok := hS.val.pin n
 rw [← hU] at hok ⊢
 unfold Sto.pin at hU
 rw [← hT] at hU hp
 dsimp only at hU
 refine f_z33.does _ _ ?_
 conv => whnf
 skip
 refine CallK.ret f_z14.ok (pget0_spec hS hc) ?_
 rw [← hT]
 rintro v G ⟨S1, hS1, hs1, hv1, rfl, ⟨h0, f, hlk, rfl⟩ | ⟨h0, rfl⟩⟩
 ·have hnd := hS1.nd
  have hl2 : T.2.P.held.lookup n = some f.val := by rw [← hv1]; exact look_val hlk
  have hpi := hp f.val hl2
  rw [show f.val.pins = f.pins from rfl] at hpi
  rw [if_neg (fun k => k h0), hl2] at hU
  dsimp only at hU
  rw [stoo_eq, poolo_eq, bigM_at hnd hlk]
  conv => whnf
  repeat' (first
   | (refine CallK.ret f_z1c.ok (presult_spec (w := wPin)) ?_; rintro v G' hE; conv => whnf)
   | ((first | refine Ld.i ?_ | refine St.i ⟨rfl, rfl⟩ (List.cons_ne_nil _ _) ?_ | refine Ar.i64 (by omega) ?_); conv => whnf))
  have hv : (⟨S1.P.put n { f with pins := f.pins + 1 }, S1.L, S1.D⟩ : StoX).val = U.2 := by
   rw [hU, ← hv1]
   unfold StoX.val
   dsimp only
   rw [put_val]
   rfl
  have e1 : mapv fptr (updKV n { f with pins := f.pins + 1 } S1.P.held) = mapv fptr S1.P.held := by
   rw [mapv_upd]
   refine upd_same n _ _ ?_
   rw [mapv_lookup, hlk]; rfl
  rcases hE with ⟨_, rfl, rfl⟩ | ⟨h1, b, rfl, rfl⟩
  rotate_left
  ·exact absurd rfl h1
  refine ⟨_, _, rfl, ?_, ⟨S1.P.put n { f with pins := f.pins + 1 }, S1.L, S1.D⟩, ⟨by rw [hv]; exact hok, hS1.L, hS1.D, hS1.ld⟩, hs1.trans ⟨rfl, rfl⟩, hv, .inl ⟨by rw [hU], rfl, rfl⟩⟩
  refine Imp.stoo (l := S1.P.l) (d := S1.P.d) (by rfl) (by rfl) ?_
  rw [poolo_eq]
  unfold PoolX.put
  dsimp only
  rw [e1, bigM_upd _ n _ _ hnd, star_assoc, frc_eq]
  first | exact .refl _ | exact .drop | exact .fin | ((repeat refine .pick ?_); first | exact .refl _ | exact .emp _ | exact .fin)
 ·rw [if_pos h0] at hU
  conv => whnf
  repeat' (first
   | (rw [decide_eq_false h0]; conv => whnf)
   | (refine CallK.ret f_z1c.ok (presult_spec (w := wPin)) ?_; rintro v G' hE; conv => whnf))
  rcases hE with ⟨h1, rfl, rfl⟩ | ⟨h1, b, rfl, rfl⟩
  ·exact absurd h1 h0
  ·exact ⟨_, _, rfl, Imp.refl _, S1, hS1, hs1, by rw [hv1, hU], .inr ⟨by rw [hU]; exact h1, _, rfl, by rw [hU]⟩⟩
end Go.Proofs.YtgcknlpkhhpkjaaGreatDoor
/- The shelf's contracts on maps.Keys, slices.Sorted, slices.Sort at ints, laid at this program. No condition. -/
namespace Go.Proofs.YtgcknlpkhhpkjaaGreatDoor
open Go.Proofs Go.RowKit Go.Maps Go.Sort Go.Shelf
def laySorted_ren : Go.Shelf.Ren := ⟨fun | 6 => 94 | 8 => 182 | 9 => 183 | 11 => 253 | 13 => 255 | 12 => 254 | 23 => 307 | 24 => 308 | 14 => 298 | 15 => 299 | 16 => 300 | 17 => 301 | 18 => 302 | 19 => 303 | 20 => 304 | 21 => 305 | 22 => 306 | 25 => 339 | 26 => 340 | 27 => 341 | 28 => 342 | 29 => 343 | 30 => 344 | 31 => 351 | n => n, fun | 26 => 3 | 28 => 181 | 24 => 42 | 0 => 0 | 3 => 3 | 37 => 361 | 48 => 175 | 50 => 172 | 4 => 4 | 40 => 406 | 39 => 405 | 45 => 272 | 5 => 5 | 9 => 9 | 51 => 439 | 55 => 335 | 57 => 453 | 58 => 184 | 33 => 270 | n => n, fun | n => n⟩
theorem laySorted : Go.Proofs.SlLaysZI.n6 Tryz.prog laySorted_ren where
 mixed := by kernel_rfl
 f6 := ⟨Tryz.f94.name, by decide, Tryz.func94.trans (congrArg some (by kernel_rfl))⟩
 f8 := ⟨Tryz.f182.name, by decide, Tryz.func182.trans (congrArg some (by kernel_rfl))⟩
 f11 := ⟨Tryz.f253.name, by decide, Tryz.func253.trans (congrArg some (by kernel_rfl))⟩
 t0 := Tryz.underlying0
 a0 := Tryz.isAgg0
 z0 := Tryz.sizeOf0
 v0 := Tryz.zeroValue0
 t24 := Tryz.underlying42
 a24 := Tryz.isAgg42
 z24 := Tryz.sizeOf42
 v24 := Tryz.zeroValue42
 t26 := Tryz.underlying3
 a26 := Tryz.isAgg3
 z26 := Tryz.sizeOf3
 v26 := Tryz.zeroValue3
 t28 := Tryz.underlying181
 a28 := Tryz.isAgg181
 z28 := Tryz.sizeOf181
 v28 := Tryz.zeroValue181
 i26 := by kernel_rfl
def laySort_ren : Go.Shelf.Ren := ⟨fun | 5 => 183 | 8 => 255 | 7 => 254 | 19 => 307 | 20 => 308 | 10 => 298 | 11 => 299 | 12 => 300 | 13 => 301 | 14 => 302 | 15 => 303 | 16 => 304 | 17 => 305 | 18 => 306 | 30 => 339 | 31 => 340 | 32 => 341 | 33 => 342 | 34 => 343 | 35 => 344 | 40 => 351 | n => n, fun | 23 => 42 | 25 => 3 | 3 => 3 | 32 => 361 | 22 => 42 | 0 => 0 | 44 => 175 | 46 => 172 | 4 => 4 | 36 => 406 | 35 => 405 | 41 => 272 | 5 => 5 | 9 => 9 | 53 => 439 | 57 => 335 | 63 => 453 | 64 => 184 | n => n, fun | n => n⟩
theorem laySort : Go.Proofs.SlLaysM.n5 Tryz.prog laySort_ren where
 mixed := by kernel_rfl
 f5 := ⟨Tryz.f183.name, by decide, Tryz.func183.trans (congrArg some (by kernel_rfl))⟩
 f7 := ⟨Tryz.f254.name, by decide, Tryz.func254.trans (congrArg some (by kernel_rfl))⟩
 f8 := Tryz.func255.trans (congrArg some (by kernel_rfl))
 f10 := ⟨Tryz.f298.name, by decide, Tryz.func298.trans (congrArg some (by kernel_rfl))⟩
 f11 := ⟨Tryz.f299.name, by decide, Tryz.func299.trans (congrArg some (by kernel_rfl))⟩
 f12 := ⟨Tryz.f300.name, by decide, Tryz.func300.trans (congrArg some (by kernel_rfl))⟩
 f13 := ⟨Tryz.f301.name, by decide, Tryz.func301.trans (congrArg some (by kernel_rfl))⟩
 f14 := ⟨Tryz.f302.name, by decide, Tryz.func302.trans (congrArg some (by kernel_rfl))⟩
 f15 := ⟨Tryz.f303.name, by decide, Tryz.func303.trans (congrArg some (by kernel_rfl))⟩
 f16 := ⟨Tryz.f304.name, by decide, Tryz.func304.trans (congrArg some (by kernel_rfl))⟩
 f17 := ⟨Tryz.f305.name, by decide, Tryz.func305.trans (congrArg some (by kernel_rfl))⟩
 f18 := ⟨Tryz.f306.name, by decide, Tryz.func306.trans (congrArg some (by kernel_rfl))⟩
 f19 := Tryz.func307.trans (congrArg some (by kernel_rfl))
 f20 := Tryz.func308.trans (congrArg some (by kernel_rfl))
 f30 := ⟨Tryz.f339.name, by decide, Tryz.func339.trans (congrArg some (by kernel_rfl))⟩
 f31 := Tryz.func340.trans (congrArg some (by kernel_rfl))
 f32 := Tryz.func341.trans (congrArg some (by kernel_rfl))
 f33 := ⟨Tryz.f342.name, by decide, Tryz.func342.trans (congrArg some (by kernel_rfl))⟩
 f34 := ⟨Tryz.f343.name, by decide, Tryz.func343.trans (congrArg some (by kernel_rfl))⟩
 f35 := ⟨Tryz.f344.name, by decide, Tryz.func344.trans (congrArg some (by kernel_rfl))⟩
 f40 := ⟨Tryz.f351.name, by decide, Tryz.func351.trans (congrArg some (by kernel_rfl))⟩
 t0 := Tryz.underlying0
 a0 := Tryz.isAgg0
 z0 := Tryz.sizeOf0
 v0 := Tryz.zeroValue0
 t3 := Tryz.underlying3
 a3 := Tryz.isAgg3
 z3 := Tryz.sizeOf3
 v3 := Tryz.zeroValue3
 t4 := Tryz.underlying4
 a4 := Tryz.isAgg4
 z4 := Tryz.sizeOf4
 v4 := Tryz.zeroValue4
 t5 := Tryz.underlying5
 a5 := Tryz.isAgg5
 z5 := Tryz.sizeOf5
 v5 := Tryz.zeroValue5
 t9 := Tryz.underlying9
 a9 := Tryz.isAgg9
 z9 := Tryz.sizeOf9
 v9 := Tryz.zeroValue9
 t22 := Tryz.underlying42
 a22 := Tryz.isAgg42
 z22 := Tryz.sizeOf42
 v22 := Tryz.zeroValue42
 t23 := Tryz.underlying42
 a23 := Tryz.isAgg42
 z23 := Tryz.sizeOf42
 v23 := Tryz.zeroValue42
 t25 := Tryz.underlying3
 a25 := Tryz.isAgg3
 z25 := Tryz.sizeOf3
 v25 := Tryz.zeroValue3
 t32 := Tryz.underlying361
 a32 := Tryz.isAgg361
 z32 := Tryz.sizeOf361
 v32 := Tryz.zeroValue361
 t35 := Tryz.underlying405
 a35 := Tryz.isAgg405
 z35 := Tryz.sizeOf405
 v35 := Tryz.zeroValue405
 t36 := Tryz.underlying406
 a36 := Tryz.isAgg406
 z36 := Tryz.sizeOf406
 v36 := Tryz.zeroValue406
 t41 := Tryz.underlying272
 a41 := Tryz.isAgg272
 z41 := Tryz.sizeOf272
 v41 := Tryz.zeroValue272
 t44 := Tryz.underlying175
 a44 := Tryz.isAgg175
 z44 := Tryz.sizeOf175
 v44 := Tryz.zeroValue175
 t46 := Tryz.underlying172
 a46 := Tryz.isAgg172
 z46 := Tryz.sizeOf172
 v46 := Tryz.zeroValue172
 t53 := Tryz.underlying439
 a53 := Tryz.isAgg439
 z53 := Tryz.sizeOf439
 v53 := Tryz.zeroValue439
 t57 := Tryz.underlying335
 a57 := Tryz.isAgg335
 z57 := Tryz.sizeOf335
 v57 := Tryz.zeroValue335
 t63 := Tryz.underlying453
 a63 := Tryz.isAgg453
 z63 := Tryz.sizeOf453
 v63 := Tryz.zeroValue453
 t64 := Tryz.underlying184
 a64 := Tryz.isAgg184
 z64 := Tryz.sizeOf184
 v64 := Tryz.zeroValue184
def layKeys_pool_frame_ren : Go.Shelf.Ren := ⟨fun | 7 => 95 | 10 => 184 | n => n, fun | 23 => 153 | 26 => 3 | 3 => 152 | 28 => 181 | 0 => 0 | 27 => 180 | 33 => 270 | 4 => 4 | n => n, fun | n => n⟩
theorem layKeys_pool_frame : Go.Proofs.SlLaysZI.n7 Tryz.prog layKeys_pool_frame_ren where
 mixed := by kernel_rfl
 f7 := ⟨Tryz.f95.name, by decide, Tryz.func95.trans (congrArg some (by kernel_rfl))⟩
 f10 := ⟨Tryz.f184.name, by decide, Tryz.func184.trans (congrArg some (by kernel_rfl))⟩
 t0 := Tryz.underlying0
 a0 := Tryz.isAgg0
 z0 := Tryz.sizeOf0
 v0 := Tryz.zeroValue0
 t4 := Tryz.underlying4
 a4 := Tryz.isAgg4
 z4 := Tryz.sizeOf4
 v4 := Tryz.zeroValue4
 t23 := Tryz.underlying153
 a23 := Tryz.isAgg153
 z23 := Tryz.sizeOf153
 v23 := Tryz.zeroValue153
 t26 := Tryz.underlying3
 a26 := Tryz.isAgg3
 z26 := Tryz.sizeOf3
 v26 := Tryz.zeroValue3
 t27 := Tryz.underlying180
 a27 := Tryz.isAgg180
 z27 := Tryz.sizeOf180
 v27 := Tryz.zeroValue180
 t28 := Tryz.underlying181
 a28 := Tryz.isAgg181
 z28 := Tryz.sizeOf181
 v28 := Tryz.zeroValue181
 t33 := Tryz.underlying270
 a33 := Tryz.isAgg270
 z33 := Tryz.sizeOf270
 v33 := Tryz.zeroValue270
end Go.Proofs.YtgcknlpkhhpkjaaGreatDoor
/- The program's pool: what is held, what is dirty; walked. Conditions: in each statement. -/
namespace Go.Proofs.YtgcknlpkhhpkjaaGreatDoor
open Go Go.SL Go.SL.Sec Go.SL.Fld Go.SL.Pts Go.SL.Rec Go.SL.Twn Go.SL.Pg Go.SL.Mst Go.SL.Pool
theorem pkeys_spec {W : World} {H : HProp} {r : Nat} : Does prog W f_z3o ⟨[.map (some r)]⟩ H (Ret fun v G => ∃ B, v = .func (.func f_z43) ⟨[]⟩ ⟨[ptr B]⟩ ∧ G = (pts B (.cells ⟨[.map (some r)]⟩ t_M_int_P_pool_frame) • H)) := by
 refine f_z3o.does _ ?_
 conv => whnf
 repeat' (first
  | (intro blk hblk; conv => whnf))
 exact ⟨_, _, rfl, Imp.refl _, _, rfl, rfl⟩
-- @noauto
theorem pheld_spec {W : World} {R : HProp} {p : Nat} {X : PoolX} (hl : X.held.length ≤ 1000000) (hk : ∀ x ∈ X.held, 0 ≤ x.1 ∧ x.1 ≤ 1000000) :
  Does prog W f_z22 ⟨[ptr p]⟩ (poolo p X • R) (Ret fun v G => ∃ a c, v = .slice a X.held.length c ∧ G = (vec t_int 1 ints a c (sortI (X.held.map (·.1))) • poolo p X • R)) := by
 rw [poolo_eq]
 refine f_z22.does _ ?_
 conv => whnf
 repeat' (first
  | (refine Ld.i ?_; conv => whnf))
 refine CallK.ret f_z3o.ok pkeys_spec ?_
 rintro v G ⟨B, rfl, rfl⟩
 conv => whnf
 skip
 refine CallK.ret f_z42.ok (Does.sorted laySorted layKeys_pool_frame laySort rfl rfl rfl rfl (l := mapv fptr X.held) (by rw [mapv_length]; omega) (fun z hz => by obtain ⟨q, hq, rfl⟩ := List.mem_map.1 hz; have := hk q hq; dsimp only; omega)) ?_
 rintro v G ⟨ka, kc, rfl, rfl⟩
 rw [mapv_keys, mapv_length, show laySorted_ren.t 26 = t_int from rfl]
 conv => whnf
 skip
 exact ⟨_, _, rfl, (by first | exact .refl _ | exact .drop | exact .fin | ((repeat refine .pick ?_); first | exact .refl _ | exact .emp _ | exact .fin)), ka, kc, rfl, rfl⟩
set_option maxHeartbeats 1000000 in
-- @noauto
theorem pdirty_spec {W : World} {R : HProp} {p : Nat} {X : PoolX} (hnd : (X.held.map (·.1)).Nodup) (hl : X.held.length ≤ 1000000) (hk : ∀ x ∈ X.held, 0 ≤ x.1 ∧ x.1 ≤ 1000000) :
  Does prog W f_z23 ⟨[ptr p]⟩ (poolo p X • R) (Ret fun v G => ∃ a c, v = .slice a (X.val.dirtyL (sortI (X.held.map (·.1)))).length c ∧ G = (vec t_api_Dirty 2 dirtyv a c (X.val.dirtyL (sortI (X.held.map (·.1)))) • poolo p X • R)) := by
 refine f_z23.does _ ?_
 conv => whnf
 skip
 refine CallK.ret f_z22.ok (pheld_spec hl hk) ?_
 obtain ⟨K, hK⟩ : ∃ K, K = sortI (X.held.map (·.1)) := ⟨_, rfl⟩
 have hKl : K.length = X.held.length := by rw [hK, sortI_length, List.length_map]
 rw [← hK, ← hKl]
 rintro v G ⟨ka, kc, rfl, rfl⟩
 have hKm : ∀ k ∈ K, ∃ f, X.held.lookup k = some f := fun k hk' => by
  obtain ⟨q, hq, rfl⟩ := List.mem_map.1 (sortI_mem.1 (hK ▸ hk'))
  exact ⟨_, lookup_of_mem q.1 q.2 _ hnd hq⟩
 conv => whnf
 skip
 refine LoopK.at tab_ok (L := f_z23.live) (ι := Nat × Option Addr × Nat) (fun i => i.1 ≤ K.length)
  (fun i => [(10, .int .i64 i.1), (3, .slice i.2.1 (X.val.dirtyL (K.take i.1)).length i.2.2)]) (fun i => vec t_api_Dirty 2 dirtyv i.2.1 i.2.2 (X.val.dirtyL (K.take i.1))) (fun i => K.length - i.1) (0, none, 0) (by simp) (fun t v h => h) (Imp.vnil (Imp.refl _)) ?_
 rintro ⟨i, oa, oc⟩ hi
 dsimp only at hi ⊢
 conv => whnf
 by_cases h1 : i < K.length
 ·obtain ⟨x, hx⟩ : ∃ x, K[i]? = some x := ⟨_, List.getElem?_eq_getElem h1⟩
  obtain ⟨f, hlk⟩ := hKm x (List.mem_of_getElem? hx)
  haveI rf : ∀ (Q : HProp) (k : Nat) (v : Value) [LAt (frv f) k v], RdC W (poolo p X • Q) ⟨f.b, k, none⟩ v := fun Q k v _ => rd_frame hnd hlk
  have hT : X.val.dirtyL (K.take (i + 1)) = X.val.dirtyL (K.take i) ++ (if f.dirty then [(x, f.since)] else []) := by
   rw [List.take_add_one, hx]
   unfold PoolM.dirtyL
   rw [List.filterMap_append]
   congr 1
   simp only [Option.toList, List.filterMap_cons, List.filterMap_nil, look_val hlk]
   rw [show f.val.dirty = f.dirty from rfl, show f.val.since = f.since from rfl]
   cases f.dirty with
   | true => rfl
   | false => rfl
  have hlen : (X.val.dirtyL (K.take i)).length ≤ i := by
   unfold PoolM.dirtyL
   refine Nat.le_trans (List.length_filterMap_le _ _) ?_
   rw [List.length_take]; omega
  cases hfd : f.dirty with
  | false =>
   rw [hfd, if_neg (by decide), List.append_nil] at hT
   repeat' (first
    | (refine spl_f hfd ?_; conv => whnf)
    | (refine spl_dec (fun hd => ?_) (fun hd => ?_) <;> first | (exfalso; omega) | (conv => whnf))
    | ((first | refine Ld.i ?_ | refine Ar.i64 (by omega) ?_); conv => whnf)
    | (refine IxS.r (i := i) rfl rfl h1 (fun ab off ha => ?_); subst ha; conv => whnf)
    | ((first | refine Ld.r0 hx rfl ?_ | refine OpX.lks tab_ok hlk rfl rfl rfl rfl rfl ?_); conv => whnf))
   refine ⟨rfl, (i + 1, oa, oc), h1, by rw [← hT]; exact fun t v h => h, ?_, by dsimp only; omega⟩
   dsimp only
   rw [hT]
   first | exact .refl _ | exact .drop | exact .fin | ((repeat refine .pick ?_); first | exact .refl _ | exact .emp _ | exact .fin)
  | true =>
   rw [hfd, if_pos rfl] at hT
   repeat' (first
    | (refine spl_t hfd ?_; conv => whnf)
    | (refine spl_dec (fun hd => ?_) (fun hd => ?_) <;> first | (exfalso; omega) | (conv => whnf))
    | (refine Ld.i ?_; conv => whnf)
    | (intro blk hblk; conv => whnf)
    | (refine IxS.r (i := i) rfl rfl h1 (fun ab off ha => ?_); subst ha; conv => whnf)
    | ((first | refine Ld.r0 hx rfl ?_ | refine OpX.lks tab_ok hlk rfl rfl rfl rfl rfl ?_); conv => whnf))
   refine OpX.app1 tab_ok rfl rfl rfl rfl (x, f.since) rfl rfl (by omega) ⟨rfl, OneC.h⟩ (fun a' c' => ?_)
   rw [← hT]
   repeat' (first
    | (refine Ar.i64 (by omega) ?_; conv => whnf))
   refine ⟨rfl, (i + 1, a', c'), h1, by rw [hT, List.length_append]; exact fun t v h => h, ?_, by dsimp only; omega⟩
   first | exact .refl _ | exact .drop | exact .fin | ((repeat refine .pick ?_); first | exact .refl _ | exact .emp _ | exact .fin)
 ·have hi' : i = K.length := by omega
  subst hi'
  repeat' (first
   | (refine spl_dec (fun hd => ?_) (fun hd => ?_) <;> first | (exfalso; omega) | (conv => whnf)))
  rw [List.take_length]
  refine ⟨_, _, rfl, ?_, oa, oc, rfl, rfl⟩
  first | exact .refl _ | exact .drop | exact .fin | ((repeat refine .pick ?_); first | exact .refl _ | exact .emp _ | exact .fin)
end Go.Proofs.YtgcknlpkhhpkjaaGreatDoor
/- The program's pool.New, walked. Conditions: in each statement. -/
namespace Go.Proofs.YtgcknlpkhhpkjaaGreatDoor
open Go Go.SL Go.SL.Sec Go.SL.Fld Go.SL.Pts Go.SL.Rec Go.SL.Twn Go.SL.Pg Go.SL.Mst Go.SL.Pool
abbrev pool0 (d l : Nat) (p lg f : Int) (r : Nat) : PoolX := ⟨d, l, p, lg, f, r, [], 0, false⟩
-- @noauto
theorem pnew_nil {W : World} {R : HProp} {l : Nat} {p lg f : Int} :
  Does prog W f_z25 ⟨[.pointer none, ptr l, .agg ⟨[.int .i64 p, .int .i64 lg, .int .i64 f]⟩]⟩ R (Ret fun v G => v = .tuple ⟨[.pointer none, .int .i64 3]⟩ ∧ G = R) := by
 refine f_z25.does _ _ _ ?_
 conv => whnf
 repeat' (first
  | (intro blk hblk; conv => whnf))
 refine Ret.eq rfl ?_
 first | exact .refl _ | exact .drop | exact .fin | ((repeat refine .pick ?_); first | exact .refl _ | exact .emp _ | exact .fin)
-- @noauto
theorem pnew_spec {W : World} {R : HProp} {d l : Nat} {p lg f : Int} {X : DevX} (hX : X.Ok) (hm : MayP p lg f) (hs : X.val.secs = 5 + 2 * p + lg) :
  Does prog W f_z25 ⟨[ptr d, ptr l, .agg ⟨[.int .i64 p, .int .i64 lg, .int .i64 f]⟩]⟩ (devo d X • R) (Ret fun v G => ∃ q r, v = .tuple ⟨[ptr q, i0]⟩ ∧ G = (poolo q (pool0 d l p lg f r) • devo d X • R)) := by
 refine f_z25.does _ _ _ ?_
 conv => whnf
 repeat' (first
  | (refine CallK.ret f_z32.ok (need_yes hm) ?_; rintro v G ⟨rfl, rfl⟩; conv => whnf)
  | (refine CallK.ret f_z1i.ok (sectors_spec (X := X) hX) ?_; rw [hs]; rintro v G ⟨rfl, rfl⟩; conv => whnf)
  | ((first | refine spl_f (by with_reducible exact ndec_self _) ?_ | refine LdN.i ?_); conv => whnf)
  | (intro blk hblk; conv => whnf)
  | (refine OpX.makeMap .i64 (fun r hr => ?_); conv => whnf))
 refine ⟨_, _, rfl, ?_, blk, r, rfl, rfl⟩
 rw [poolo_eq]
 show Imp _ (pts blk (.cells ⟨[ptr d, ptr l, .int .i64 p, .int .i64 lg, .int .i64 f, .map (some r), i0, .bool false]⟩ t_pool_Pool) • mapc r .i64 [] • emp • devo d X • R)
 rw [emp_star]
 first | exact .refl _ | exact .drop | exact .fin | ((repeat refine .pick ?_); first | exact .refl _ | exact .emp _ | exact .fin)
end Go.Proofs.YtgcknlpkhhpkjaaGreatDoor
/- The program's log.Open: what the sectors hold. Conditions: in each statement. -/
namespace Go.Proofs.YtgcknlpkhhpkjaaGreatDoor
open Go Go.SL Go.SL.Sec Go.SL.Fld Go.SL.Pts Go.SL.Rec
open Go.SL.Und (RecV recv fits)
def okS (i : Nat) (s : List Int) : Option (List Int) :=
 if s[0]? ≠ some 108 ∨ s[511]? ≠ some 165 ∨ getB s 1 4 ≠ (i : Int) + 1 ∨ getB s 5 2 < 1 ∨ getB s 5 2 > 502 then none else
 if zerosB ((s.drop (7 + (getB s 5 2).toNat)).take (504 - (getB s 5 2).toNat)) then some ((s.drop 7).take (getB s 5 2).toNat) else none
def foundG : Nat → List (List Int) → List (List Int)
 | _, [] => []
 | i, s :: l => match okS i s with
  | some b => b :: foundG (i + 1) l
  | none => []
structure SecX (W : World) (R : HProp) (s : BytX) : Prop where
 row : RowC W R s.a 1 bytv s.b
 len : s.b.length = 512
 cap : s.b.length ≤ s.c
 byt : Byt s.b
theorem SecX.there {W : World} {R Y : HProp} {s : BytX} (h : SecX W R s) : SecX W (Y • R) s := ⟨(by haveI := h.row; infer_instance), h.len, h.cap, h.byt⟩
def Sub7 (s x : BytX) : Prop := x.a = dropA s.a 7 s.c 1 ∧ x.b = (s.b.drop 7).take x.b.length
theorem SecX.sub {W : World} {R : HProp} {s x : BytX} (h : SecX W R s) (k : Sub7 s x) : RowC W R x.a 1 bytv x.b := by
 rw [k.1, k.2]
 exact RowC.take _ (RowC.drop 7 s.c h.cap h.row)
set_option maxHeartbeats 1000000 in
theorem found_spec {W : World} {R : HProp} {a : Option Addr} {n c : Nat} {all : List BytX} [ro : RowN W R a n 1 bytx all] (hs : ∀ s ∈ all, SecX W R s) (hl : all.length ≤ 10000) :
  Does prog W f_z2q ⟨[.slice a n c]⟩ R (Ret fun v G => ∃ oa oc outs, outs.map (·.b) = foundG 0 (all.map (·.b)) ∧ (∀ (i : Nat) (x : BytX), outs[i]? = some x → ∃ s, all[i]? = some s ∧ Sub7 s x) ∧ v = .slice oa outs.length oc ∧ G = (vec t_S_uint8 1 bytx oa oc outs • R)) := by
 have hn := ro.len
 subst hn
 haveI r' := ro.row
 refine f_z2q.does _ ?_
 conv => whnf
 skip
 refine LoopK.at tab_ok (L := f_z2q.live) (ι := Nat × List BytX × Option Addr × Nat) (fun i => i.1 ≤ all.length ∧ i.2.1.length = i.1 ∧ i.2.1.map (·.b) ++ foundG i.1 ((all.drop i.1).map (·.b)) = foundG 0 (all.map (·.b)) ∧ ∀ (j : Nat) (x : BytX), i.2.1[j]? = some x → ∃ s, all[j]? = some s ∧ Sub7 s x)
  (fun i => [(11, .int .i64 i.1), (3, .slice i.2.2.1 i.2.1.length i.2.2.2)]) (fun i => vec t_S_uint8 1 bytx i.2.2.1 i.2.2.2 i.2.1) (fun i => all.length - i.1) (0, [], none, 0) ⟨by simp, rfl, rfl, fun j x h => by simp at h⟩ (fun t v h => h) (Imp.vnil (Imp.refl _)) ?_
 rintro ⟨i, outs, oa, oc⟩ ⟨hi, hol, hf, ho⟩
 dsimp only at hi hol hf ho ⊢
 conv => whnf
 by_cases h1 : i < all.length
 ·obtain ⟨s, hsx⟩ : ∃ s, all[i]? = some s := ⟨_, List.getElem?_eq_getElem h1⟩
  obtain ⟨sr, sl, scap, sb⟩ := hs s (List.mem_of_getElem? hsx)
  haveI := sr
  obtain ⟨z0, hz0⟩ : ∃ z, s.b[0]? = some z := ⟨_, List.getElem?_eq_getElem (by omega)⟩
  obtain ⟨z1, hz1⟩ : ∃ z, s.b[511]? = some z := ⟨_, List.getElem?_eq_getElem (by omega)⟩
  rw [drop_of hsx, List.map_cons, foundG] at hf
  have hg1 := getB_bd sb 1 4
  have hg2 := getB_bd sb 5 2
  have hp1 : (256 : Int) ^ 4 = 4294967296 := by decide
  have hp2 : (256 : Int) ^ 2 = 65536 := by decide
  rw [hp1] at hg1
  rw [hp2] at hg2
  obtain ⟨N, hN⟩ : ∃ N, N = getB s.b 5 2 := ⟨_, rfl⟩
  obtain ⟨M, hM⟩ : ∃ M, M = getB s.b 1 4 := ⟨_, rfl⟩
  by_cases hbad : s.b[0]? ≠ some 108 ∨ s.b[511]? ≠ some 165 ∨ getB s.b 1 4 ≠ (i : Int) + 1 ∨ getB s.b 5 2 < 1 ∨ getB s.b 5 2 > 502
  ·have hk : okS i s.b = none := by unfold okS; rw [if_pos hbad]
   rw [hk] at hf
   rw [hz0, hz1, ← hN, ← hM] at hbad
   simp only [ne_eq, Option.some.injEq] at hbad
   rw [← hN] at hg2
   rw [← hM] at hg1
   repeat' (first
    | (refine CallK.ret f_z2j.ok (number_spec (l := s.b) (z := 5) (s := 2) (by omega) (by omega) (by omega) sb) ?_; rw [show getB s.b (Int.toNat 5) (Int.toNat 2) = N from hN.symm]; rintro v G ⟨rfl, rfl⟩; conv => whnf)
    | (refine CallK.ret f_z2j.ok (number_spec (l := s.b) (z := 1) (s := 4) (by omega) (by omega) (by omega) sb) ?_; rw [show getB s.b (Int.toNat 1) (Int.toNat 4) = M from hM.symm]; rintro v G ⟨rfl, rfl⟩; conv => whnf)
    | (refine spl_dec (fun hd => ?_) (fun hd => ?_) <;> first | (exfalso; omega) | (conv => whnf))
    | (refine spl_ndec (fun hd => ?_) (fun hd => ?_) <;> first | (exfalso; omega) | (conv => whnf))
    | (refine Ar.i64 (by omega) ?_; conv => whnf)
    | (refine IxS.r (xs := all) (i := i) rfl rfl h1 (fun ab off ha => ?_); have rv : RowC W R (some ⟨ab, off, none⟩) 1 bytx all := ha ▸ inferInstance; conv => whnf)
    | (refine Ld.r0 hsx rfl ?_; conv => whnf)
    | (refine IxS.r (xs := s.b) (i := 0) rfl rfl (by omega) (fun ab off ha => ?_); have rz : RowC W R (some ⟨ab, off, none⟩) 1 bytv s.b := ha ▸ sr; conv => whnf)
    | (refine Ld.r0 hz0 rfl ?_; conv => whnf)
    | (refine IxS.r (xs := s.b) (i := 511) rfl rfl (by omega) (fun ab off ha => ?_); have rz : RowC W R (some ⟨ab, off, none⟩) 1 bytv s.b := ha ▸ sr; conv => whnf)
    | (refine Ld.r0 hz1 rfl ?_; conv => whnf))
   all_goals exact ⟨_, _, rfl, Imp.refl _, oa, oc, outs, by rw [← hf, List.append_nil], ho, rfl, rfl⟩
  ·have hg : s.b[0]? = some 108 ∧ s.b[511]? = some 165 ∧ getB s.b 1 4 = (i : Int) + 1 ∧ 1 ≤ getB s.b 5 2 ∧ getB s.b 5 2 ≤ 502 :=
    ⟨Classical.byContradiction fun h => hbad (.inl h), Classical.byContradiction fun h => hbad (.inr (.inl h)), Classical.byContradiction fun h => hbad (.inr (.inr (.inl h))), by omega, by omega⟩
   have hk : okS i s.b = if zerosB ((s.b.drop (7 + N.toNat)).take (504 - N.toNat)) then some ((s.b.drop 7).take N.toNat) else none := by unfold okS; rw [if_neg hbad, ← hN]
   rw [hk] at hf
   obtain ⟨g0, g1, g2, g3, g4⟩ := hg
   rw [hz0, Option.some.injEq] at g0
   rw [hz1, Option.some.injEq] at g1
   rw [← hN] at g3 g4 hg2
   rw [← hM] at g2 hg1
   clear hk hbad
   subst g0 g1
   obtain ⟨n, hn⟩ : ∃ n : Nat, N = n := ⟨N.toNat, by omega⟩
   rw [show N.toNat = n by omega] at hf
   obtain ⟨pad, hpad⟩ : ∃ p, p = (s.b.drop (7 + n)).take (504 - n) := ⟨_, rfl⟩
   have hpl : pad.length = 504 - n := by rw [hpad, List.length_take, List.length_drop]; omega
   haveI rp : RowC W R (dropA s.a (7 + n) s.c 1) 1 bytv pad := by rw [hpad]; exact RowC.take _ (RowC.drop (7 + n) s.c scap sr)
   rw [← hpad] at hf
   obtain ⟨tk, htk⟩ : ∃ p, p = (s.b.drop 7).take n := ⟨_, rfl⟩
   have htl : tk.length = n := by rw [htk, List.length_take, List.length_drop]; omega
   rw [← htk] at hf
   repeat' (first
    | (refine CallK.ret f_z2j.ok (number_spec (l := s.b) (z := 5) (s := 2) (by omega) (by omega) (by omega) sb) ?_; rw [show getB s.b (Int.toNat 5) (Int.toNat 2) = N from hN.symm]; rintro v G ⟨rfl, rfl⟩; conv => whnf)
    | (refine CallK.ret f_z2j.ok (number_spec (l := s.b) (z := 1) (s := 4) (by omega) (by omega) (by omega) sb) ?_; rw [show getB s.b (Int.toNat 1) (Int.toNat 4) = M from hM.symm]; rintro v G ⟨rfl, rfl⟩; conv => whnf)
    | (refine spl_dec (fun hd => ?_) (fun hd => ?_) <;> first | (exfalso; omega) | (conv => whnf))
    | (refine spl_ndec (fun hd => ?_) (fun hd => ?_) <;> first | (exfalso; omega) | (conv => whnf))
    | (refine Ar.i64 (by omega) ?_; conv => whnf)
    | (refine OpX.of_quiet (OpQ.sly tab_ok (7 + n) (504 - n) 1 rfl rfl rfl rfl rfl rfl (by omega) (by omega) (by omega) ?_); rw [← hpl]; conv => whnf)
    | (refine IxS.r (xs := all) (i := i) rfl rfl h1 (fun ab off ha => ?_); have rv : RowC W R (some ⟨ab, off, none⟩) 1 bytx all := ha ▸ inferInstance; conv => whnf)
    | (refine Ld.r0 hsx rfl ?_; conv => whnf)
    | (refine IxS.r (xs := s.b) (i := 0) rfl rfl (by omega) (fun ab off ha => ?_); have rz : RowC W R (some ⟨ab, off, none⟩) 1 bytv s.b := ha ▸ sr; conv => whnf)
    | (refine Ld.r0 hz0 rfl ?_; conv => whnf)
    | (refine IxS.r (xs := s.b) (i := 511) rfl rfl (by omega) (fun ab off ha => ?_); have rz : RowC W R (some ⟨ab, off, none⟩) 1 bytv s.b := ha ▸ sr; conv => whnf)
    | (refine Ld.r0 hz1 rfl ?_; conv => whnf))
   refine LoopK.keep tab_ok (L := f_z2q.live) (ι := Nat) (fun j => j ≤ pad.length ∧ zerosB pad = zerosB (pad.drop j)) (fun j => [(48, .int .i64 j)]) (fun j => pad.length - j) 0 (by simp) (fun t v h => h) ?_
   rintro j ⟨hj, hz⟩
   conv => whnf
   by_cases h2 : j < pad.length
   ·obtain ⟨b, hb⟩ : ∃ b, pad[j]? = some b := ⟨_, List.getElem?_eq_getElem h2⟩
    rw [show zerosB (pad.drop j) = (decide (b = 0) && zerosB (pad.drop (j + 1))) by rw [drop_of hb]; simp [zerosB]] at hz
    by_cases hb0 : b = 0
    ·rw [decide_eq_true hb0, Bool.true_and] at hz
     subst hb0
     repeat' (first
      | (refine spl_dec (fun hd => ?_) (fun hd => ?_) <;> first | (exfalso; omega) | (conv => whnf))
      | (refine Ar.i64 (by omega) ?_; conv => whnf)
      | (refine IxS.r (xs := pad) (i := j) rfl rfl h2 (fun ab off ha => ?_); have rz : RowC W R (some ⟨ab, off, none⟩) 1 bytv pad := ha ▸ rp; conv => whnf)
      | (refine Ld.r0 hb rfl ?_; conv => whnf))
     exact ⟨rfl, j + 1, ⟨h2, hz⟩, fun t v h => h, Imp.refl _, by omega⟩
    ·rw [decide_eq_false hb0, Bool.false_and] at hz
     rw [hz] at hf
     repeat' (first
      | (refine spl_dec (fun hd => ?_) (fun hd => ?_) <;> first | (exfalso; omega) | (conv => whnf))
      | (refine spl_ndec (fun hd => ?_) (fun hd => ?_) <;> first | (exfalso; omega) | (conv => whnf))
      | (refine IxS.r (xs := pad) (i := j) rfl rfl h2 (fun ab off ha => ?_); have rz : RowC W R (some ⟨ab, off, none⟩) 1 bytv pad := ha ▸ rp; conv => whnf)
      | (refine Ld.r0 hb rfl ?_; conv => whnf))
     exact ⟨_, _, rfl, Imp.refl _, oa, oc, outs, by rw [← hf]; exact (List.append_nil _).symm, ho, rfl, rfl⟩
   ·rw [List.drop_eq_nil_of_le (by omega)] at hz
    rw [hz] at hf
    repeat' (first
     | (refine spl_dec (fun hd => ?_) (fun hd => ?_) <;> first | (exfalso; omega) | (conv => whnf))
     | (refine Ar.i64 (by omega) ?_; conv => whnf)
     | (intro blk hblk; conv => whnf)
     | (refine OpX.of_quiet (OpQ.sly tab_ok 7 n 1 rfl rfl rfl rfl rfl rfl (by omega) (by omega) (by omega) ?_); conv => whnf)
     | (refine OpX.app1g (xs := outs) (x := (⟨dropA s.a 7 s.c 1, s.c - 7, tk⟩ : BytX)) (dx := by exact ⟨by unfold bytx; dsimp only; rw [htl]⟩) tab_ok rfl rfl rfl rfl rfl rfl (by omega) (fun a' c' => ?_); conv => whnf))
    refine ⟨rfl, (i + 1, outs ++ [(⟨dropA s.a 7 s.c 1, s.c - 7, tk⟩ : BytX)], _, _), ⟨h1, by simp; omega, ?_, fun j x hx => ?_⟩, fun t v h => h, ?_, by dsimp only; omega⟩
    ·rw [← hf, List.map_append, List.append_assoc]; rfl
    ·by_cases hj2 : j < outs.length
     ·rw [List.getElem?_append_left hj2] at hx
      exact ho j x hx
     ·have hjl : j < (outs ++ [(⟨dropA s.a 7 s.c 1, s.c - 7, tk⟩ : BytX)]).length := (List.getElem?_eq_some_iff.1 hx).1
      rw [List.length_append] at hjl
      have hji : j = i := by simp at hjl; omega
      subst hji
      rw [List.getElem?_append_right (by omega), show j - outs.length = 0 by omega] at hx
      cases hx
      exact ⟨s, hsx, rfl, by dsimp only; rw [htl, htk]⟩
    ·first | exact .refl _ | exact .drop | exact .fin | ((repeat refine .pick ?_); first | exact .refl _ | exact .emp _ | exact .fin)
 ·rw [List.drop_eq_nil_of_le (by omega), List.map_nil, foundG, List.append_nil] at hf
  repeat' (first
   | (refine spl_dec (fun hd => ?_) (fun hd => ?_) <;> first | (exfalso; omega) | (conv => whnf)))
  exact ⟨_, _, rfl, Imp.refl _, oa, oc, outs, hf, ho, rfl, rfl⟩
end Go.Proofs.YtgcknlpkhhpkjaaGreatDoor
/- The program's log: zeros behind the end. Conditions: in each statement. -/
namespace Go.SL.Rec
open Go Go.SL Go.SL.Sec Go.SL.Fld Go.SL.Pts
def z512 : List Int := List.replicate 512 0
theorem z512_eq : z512 = List.replicate 512 0 := rfl
theorem z512_len : z512.length = 512 := List.length_replicate
def wipG (first : Int) : Nat → List (List Int) → Bool → Dev → Int × Dev
 | _, [], wd, D => if wd then D.sync else (0, D)
 | i, s :: l, wd, D => if Go.Proofs.YtgcknlpkhhpkjaaGreatDoor.zerosB s then wipG first (i + 1) l wd D else
  if (D.write (first + i) z512).1 = 0 then wipG first (i + 1) l true (D.write (first + i) z512).2 else D.write (first + i) z512
end Go.SL.Rec
namespace Go.Proofs.YtgcknlpkhhpkjaaGreatDoor
open Go Go.SL Go.SL.Sec Go.SL.Fld Go.SL.Pts Go.SL.Rec
open Go.SL.Und (RecV recv fits)
set_option maxHeartbeats 1000000 in
-- @noauto
theorem wipe_spec {W : World} {R : HProp} {l d : Nat} {X : LogX} {Y : DevX} {a : Option Addr} {n c : Nat} {all : List BytX} [ro : RowN W R a n 1 bytx all] (hs : ∀ s ∈ all, SecX W R s) (hX : X.Ok) (hY : Y.Ok) (hq : Y.ps.length ≤ 500000) (hd : X.d = d) (hf : 0 ≤ X.first ∧ X.first ≤ 8192) (hl : (all.length : Int) = X.count) :
  Does prog W f_z1j ⟨[ptr l, .slice a n c]⟩ (logo l X • devo d Y • R)
   (fun en G => ∃ G', Imp G G' ∧ AskQ (wipG X.first X.recs.length ((all.map (·.b)).drop X.recs.length) false Y.val).1 (fun G => ∃ Y' : DevX, Y'.Ok ∧ Y'.val = (wipG X.first X.recs.length ((all.map (·.b)).drop X.recs.length) false Y.val).2 ∧ Y'.ps.length ≤ Y.ps.length + all.length ∧
    G = (devo d Y' • logo l X • R)) en G') := by
 subst hd
 have hn := ro.len
 subst hn
 haveI r' := ro.row
 have hlen := hX.len
 have hcnt := hX.cnt
 obtain ⟨B, hB⟩ : ∃ B, B = all.map (·.b) := ⟨_, rfl⟩
 have hBi : ∀ (i : Nat) (x : BytX), all[i]? = some x → B[i]? = some x.b := fun i x hx => by rw [hB, List.getElem?_map, hx]; rfl
 have hBl : B.length = all.length := by rw [hB, List.length_map]
 rw [← hB]
 obtain ⟨RR, hRR⟩ : ∃ RR, RR = wipG X.first X.recs.length (B.drop X.recs.length) false Y.val := ⟨_, rfl⟩
 rw [← hRR]
 have hZl : z512.length = 512 := z512_len
 have hZb : Byt z512 := z512_eq ▸ Byt.rep 512
 haveI r512 : ∀ (a : Option Addr) (c : Nat) (Q : HProp), RowN W (vec t_uint8 1 bytv a c z512 • Q) a 512 1 bytv z512 := fun a c Q => ⟨inferInstance, hZl.symm⟩
 refine f_z1j.does _ _ ?_
 conv => whnf
 repeat' (first
  | (refine Ld.i ?_; conv => whnf))
 refine LoopK.at tab_ok (L := f_z1j.live) (ι := Nat × Bool × DevX) (fun i => X.recs.length ≤ i.1 ∧ i.1 ≤ all.length ∧ wipG X.first i.1 (B.drop i.1) i.2.1 i.2.2.val = RR ∧ i.2.2.Ok ∧ i.2.2.ps.length ≤ Y.ps.length + i.1 - X.recs.length) (fun i => [(4, .bool i.2.1), (5, .int .i64 i.1)])
  (fun i => devo X.d i.2.2) (fun i => all.length - i.1) (X.recs.length, false, Y) ⟨by simp, by dsimp only; omega, by rw [hRR], hY, by dsimp only; omega⟩ (fun t v h => h) (Imp.pick (Imp.refl _)) ?_
 rintro ⟨k, wd, Z⟩ ⟨hk0, hk, hw, hZ, hZq⟩
 dsimp only at hk0 hk hw hZ hZq ⊢
 conv => whnf
 by_cases h1 : k < all.length
 ·obtain ⟨x, hx⟩ : ∃ x, all[k]? = some x := ⟨_, List.getElem?_eq_getElem h1⟩
  obtain ⟨sr, sl, scap, sb⟩ := hs x (List.mem_of_getElem? hx)
  haveI := sr
  haveI rn : ∀ Q : HProp, RowC W (Q • R) x.a 1 bytv x.b := fun Q => inferInstance
  rw [drop_of (hBi k x hx), wipG] at hw
  obtain ⟨bz, hbz⟩ : ∃ bz, bz = zerosB x.b := ⟨_, rfl⟩
  rw [← hbz] at hw
  cases bz with
  | true =>
   rw [if_pos rfl] at hw
   repeat' (first
    | (refine CallK.ret f_z2t.ok (lblank_spec (l := x.b) (by omega)) ?_; rw [← hbz]; rintro v G ⟨rfl, rfl⟩; conv => whnf)
    | (refine spl_dec (fun hd => ?_) (fun hd => ?_) <;> first | (exfalso; omega) | (conv => whnf))
    | ((first | refine Ld.i ?_ | refine Ar.i64 (by omega) ?_); conv => whnf)
    | (refine IxS.r (xs := all) (i := k) rfl rfl h1 (fun ab off ha => ?_); have rv : RowC W R (some ⟨ab, off, none⟩) 1 bytx all := ha ▸ inferInstance; conv => whnf)
    | (refine Ld.r0 hx rfl ?_; conv => whnf))
   refine ⟨rfl, (k + 1, wd, Z), ⟨by dsimp only; omega, h1, hw, hZ, by dsimp only; omega⟩, fun t v h => h, Imp.refl _, by dsimp only; omega⟩
  | false =>
   rw [if_neg (by decide)] at hw
   obtain ⟨e, he⟩ : ∃ e, e = (Z.val.write (X.first + k) z512).1 := ⟨_, rfl⟩
   rw [← he] at hw
   by_cases he0 : e = 0
   ·rw [if_pos he0] at hw
    repeat' (first
     | (refine DrawK.introK tab_ok mixed 25 f_z1j.last5 f_z1j.plan5 rfl (by kernel_rfl) ?_; conv => whnf)
     | (refine CallK.ret f_z2t.ok (lblank_spec (l := x.b) (by omega)) ?_; rw [← hbz]; rintro v G ⟨rfl, rfl⟩; conv => whnf)
     | (refine CallK.ret f_z16.ok (write_spec (X := Z) (b := z512) hZ (by omega) hZb (by omega)) ?_; rintro v G ⟨Z', hZ', hZv, hZl', rfl, rfl⟩; rw [← he, he0]; conv => whnf)
     | (refine CallK.ret f_zz.ok asked_ok ?_; rintro v G ⟨rfl, rfl⟩; conv => whnf)
     | (refine spl_dec (fun hd => ?_) (fun hd => ?_) <;> first | (exfalso; omega) | (conv => whnf))
     | ((first | refine Ld.i ?_ | refine Ar.i64 (by omega) ?_); conv => whnf)
     | (refine IxS.r (xs := all) (i := k) rfl rfl h1 (fun ab off ha => ?_); have rv : RowC W R (some ⟨ab, off, none⟩) 1 bytx all := ha ▸ inferInstance; conv => whnf)
     | (refine Ld.r0 hx rfl ?_; conv => whnf)
     | (refine OpX.make tab_ok bytv 0 rfl rfl rfl rfl rfl rfl (by omega) (fun s hs => ?_); rw [show (Int.toNat 512) = 512 from rfl, ← z512_eq]; conv => whnf)
     | (refine Req.mk (Sub.of (Imp.trans Imp.drop Imp.drop)) ?_; conv => whnf))
    refine ⟨rfl, (k + 1, true, Z'), ⟨by dsimp only; omega, h1, by rw [hZv]; exact hw, hZ', by dsimp only; omega⟩, fun t v h => h, ?_, by dsimp only; omega⟩
    first | exact .refl _ | exact .drop | exact .fin | ((repeat refine .pick ?_); first | exact .refl _ | exact .emp _ | exact .fin)
   ·rw [if_neg he0] at hw
    repeat' (first
     | (refine DrawK.introK tab_ok mixed 25 f_z1j.last5 f_z1j.plan5 rfl (by kernel_rfl) ?_; conv => whnf)
     | (refine CallK.ret f_z2t.ok (lblank_spec (l := x.b) (by omega)) ?_; rw [← hbz]; rintro v G ⟨rfl, rfl⟩; conv => whnf)
     | (refine CallK.ret f_z16.ok (write_spec (X := Z) (b := z512) hZ (by omega) hZb (by omega)) ?_; rintro v G ⟨Z', hZ', hZv, hZl', rfl, rfl⟩; rw [← he]; conv => whnf)
     | (refine CallK.thr f_zz.ok (asked_no he0) ?_; rintro c G ⟨rfl, rfl⟩; conv => whnf)
     | (refine spl_dec (fun hd => ?_) (fun hd => ?_) <;> first | (exfalso; omega) | (conv => whnf))
     | ((first | refine Ld.i ?_ | refine Ar.i64 (by omega) ?_); conv => whnf)
     | (refine IxS.r (xs := all) (i := k) rfl rfl h1 (fun ab off ha => ?_); have rv : RowC W R (some ⟨ab, off, none⟩) 1 bytx all := ha ▸ inferInstance; conv => whnf)
     | (refine Ld.r0 hx rfl ?_; conv => whnf)
     | (refine OpX.make tab_ok bytv 0 rfl rfl rfl rfl rfl rfl (by omega) (fun s hs => ?_); rw [show (Int.toNat 512) = 512 from rfl, ← z512_eq]; conv => whnf)
     | (refine Req.mk (Sub.of (Imp.trans Imp.drop Imp.drop)) ?_; conv => whnf))
    refine ⟨_, ?_, .inr ⟨?_, ?_⟩, Z', hZ', ?_, ?_, rfl⟩
    ·first | exact .refl _ | exact .drop | exact .fin | ((repeat refine .pick ?_); first | exact .refl _ | exact .emp _ | exact .fin)
    ·rw [← hw, ← he]; exact he0
    ·rw [← hw, ← he]
    ·rw [hZv, ← hw]
    ·omega
 ·rw [List.drop_eq_nil_of_le (by omega), wipG] at hw
  cases wd with
  | false =>
   rw [if_neg (by decide)] at hw
   repeat' (first
    | (refine spl_dec (fun hd => ?_) (fun hd => ?_) <;> first | (exfalso; omega) | (conv => whnf))
    | (refine Ld.i ?_; conv => whnf))
   refine ⟨_, ?_, .inl ⟨?_, rfl⟩, Z, hZ, ?_, ?_, rfl⟩
   ·first | exact .refl _ | exact .drop | exact .fin | ((repeat refine .pick ?_); first | exact .refl _ | exact .emp _ | exact .fin)
   ·rw [← hw]
   ·rw [← hw]
   ·omega
  | true =>
   rw [if_pos rfl] at hw
   obtain ⟨e, he⟩ : ∃ e, e = Z.val.sync.1 := ⟨_, rfl⟩
   by_cases he0 : e = 0
   ·repeat' (first
     | (refine CallK.ret f_z10.ok (sync_spec (X := Z) hZ (by omega)) ?_; rintro v G ⟨Z', hZ', hZv, hZl, rfl, rfl⟩; rw [← he, he0]; conv => whnf)
     | (refine CallK.ret f_zz.ok asked_ok ?_; rintro v G ⟨rfl, rfl⟩; conv => whnf)
     | (refine spl_dec (fun hd => ?_) (fun hd => ?_) <;> first | (exfalso; omega) | (conv => whnf))
     | (refine Ld.i ?_; conv => whnf))
    refine ⟨_, ?_, .inl ⟨?_, rfl⟩, Z', hZ', ?_, ?_, rfl⟩
    ·first | exact .refl _ | exact .drop | exact .fin | ((repeat refine .pick ?_); first | exact .refl _ | exact .emp _ | exact .fin)
    ·rw [← hw, ← he]; exact he0
    ·rw [hZv, ← hw]
    ·omega
   ·repeat' (first
     | (refine CallK.ret f_z10.ok (sync_spec (X := Z) hZ (by omega)) ?_; rintro v G ⟨Z', hZ', hZv, hZl, rfl, rfl⟩; rw [← he]; conv => whnf)
     | (refine CallK.thr f_zz.ok (asked_no he0) ?_; rintro c G ⟨rfl, rfl⟩; conv => whnf)
     | (refine spl_dec (fun hd => ?_) (fun hd => ?_) <;> first | (exfalso; omega) | (conv => whnf))
     | (refine Ld.i ?_; conv => whnf))
    refine ⟨_, ?_, .inr ⟨?_, ?_⟩, Z', hZ', ?_, ?_, rfl⟩
    ·first | exact .refl _ | exact .drop | exact .fin | ((repeat refine .pick ?_); first | exact .refl _ | exact .emp _ | exact .fin)
    ·rw [← hw, ← he]; exact he0
    ·rw [← hw, ← he]
    ·rw [hZv, ← hw]
    ·omega
end Go.Proofs.YtgcknlpkhhpkjaaGreatDoor
