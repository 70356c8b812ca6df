/- The law's store: a Put played; walked. Conditions: in each statement. -/
import Derived.Test.YtgcknlpkhhpkjaaGreatDoorPart31
import Derived.Test.YtgcknlpkhhpkjaaGreatDoorPart32
import Derived.Test.YtgcknlpkhhpkjaaGreatDoorPart6
import Derived.SizedLaws
namespace Go.Proofs.YtgcknlpkhhpkjaaGreatDoor
open Go Go.SL Go.SL.Sec Go.SL.Fld Go.SL.Pts Go.SL.Rec Go.SL.Twn Go.SL.Pg Go.SL.Mst Go.SL.Pool
theorem DrawK.imp {P : Program} {W : World} {T : Tab} {N : Nat} {ops : List Oper} {fr : Fr} {ds : List Deferred} {H H' : HProp} {K : ContK} {Kp : PanK} (h : Imp H H') (k : DrawK P W T N ops fr ds H' K Kp) : DrawK P W T N ops fr ds H K Kp :=
 ⟨fun id a w h1 h2 h3 hs => k.run id a w h1 h2 h3 (hs.imp h)⟩
section
variable {W : World} {R : HProp} {b : Nat} {X : StX} {S : StoX} {o : OpV}
-- @noauto
theorem qlastO_spec {H : HProp} {n : Int} {r : RowX} {i : Nat} {x : PgX} [t : ObjC storec H b X R] (hn : 0 ≤ n) (hr : X.H[n.toNat]? = some r) (hi : r.xs.length = i + 1) (hx : r.xs[i]? = some x) (hl : r.xs.length ≤ 1000000000) :
  Does prog W f_zu ⟨[ptr b, .int .i64 n]⟩ H (Ret fun v G => v = pgv x ∧ G = (storec b X • R)) := by rw [t.h.eq]; exact qlast_spec hn hr hi hx hl
set_option maxHeartbeats 4000000 in
-- @noauto
theorem puts_spec [le : LaidE W] [lc : LaidC W] [lp : LaidP W] [oc : OldC W R] (rc : OldR W 5 cntv o.ca o.m.pg.C) (rg : OldR W 2 grpv o.ga o.m.pg.G) (hC : o.m.pg.C.length ≤ 9223372036854775807) (hG : o.m.pg.G.length ≤ 9223372036854775807) (hpi : o.m.pg.In) (hai : In64 o.m.a) (hX : X.Ok S) (hb : SmallX X S) :
  Does prog W f_z1 ⟨[ptr b, .agg ⟨opl o⟩]⟩ (storec b X • stoo X.q S • R) (Ret (PlayQ b X ((stmOf X S).puts o.m) R)) := by
 have hpg := hX.pages
 have hpp : S.val.P.pages = X.p := hX.p.symm
 have hn := mod_bd (a := o.m.n) (show 0 < X.p by omega)
 obtain ⟨n, hnn⟩ : ∃ n, n = o.m.n % X.p := ⟨_, rfl⟩
 obtain ⟨T, hT⟩ : ∃ T, T = S.val.get n := ⟨_, rfl⟩
 have hBd := Bd.get hb.bd (by decide) hX.sto.val.nd n
 rw [← hT] at hBd
 have hTp : T.2.P.pages = S.val.P.pages := hBd.pages.trans rfl
 obtain ⟨r, i, x, hr, hi, hx, hlp, hx1, hx2⟩ := hX.last (n := n) (by rw [hnn]; exact hn)
 obtain ⟨pp, hpp2⟩ : ∃ pp, pp = putP o.m n x.m := ⟨_, rfl⟩
 obtain ⟨U, hU⟩ : ∃ U, U = T.2.put pp := ⟨_, rfl⟩
 have hUp : U.2.P.pages = S.val.P.pages := by
  rw [hU]; exact (Bd.sput hBd pp).pages.trans rfl
 have hrow : (X.had[n.toNat]?).getD [] = r.m := by
  unfold StX.had
  rw [List.getElem?_map, hr]; rfl
 have e : (stmOf X S).puts o.m = if T.1 ≠ 0 then (downE T.1 T.2 || decide (T.1 = 6), ⟨T.2, X.had, X.E⟩) else
   if pp.lsn > U.2.L.recs.length then (decide (U.1 = 4) || downE U.1 U.2, ⟨U.2, X.had, X.E⟩) else
   if U.1 ≠ 0 then (false, ⟨U.2, X.had, X.E⟩) else (true, ⟨U.2, X.had.set n.toNat (r.m ++ [pp]), X.E⟩) := by
  unfold StM.puts
  rw [hU, hT, ← hrow, hpp2, ← hlp, hnn, ← hpp]
  rfl
 rw [e]
 have hm := List.mem_of_getElem? hr
 have hrl := hb.row hm
 refine f_z1.does _ _ ?_
 conv => whnf
 repeat' (first
  | (intro blk hblk; conv => whnf))
 obtain ⟨b3, hb3⟩ : ∃ b3, b3 = blk := ⟨_, rfl⟩
 rw [← hb3]
 repeat' (first
  | (refine Ld.i ?_; conv => whnf)
  | (refine DrawK.introH tab_ok mixed 9 f_z1.last1 f_z1.plan1 _ rfl (by kernel_rfl) (Sub.of (by first | exact .refl _ | exact .drop | exact .fin | ((repeat refine .pick ?_); first | exact .refl _ | exact .emp _ | exact .fin))) ?_; conv => whnf)
  | (refine CallK.ret f_zk.ok (qbrought_spec (by first | rfl | assumption | omega | decide | (simp; done) | (simp; omega) | (simp at *; omega))) ?_; rintro v G ⟨rfl, rfl⟩; conv => whnf))
 rw [← hnn]
 refine CallK.ret f_z1p.ok (sget_spec (S := S) hX.sto hb.clock) ?_
 rw [← hT]
 rintro v G ⟨S', hS', hs', hv', ⟨h0, f, y, hlk, hy, rfl, rfl⟩ | ⟨h0, k, rfl, rfl⟩⟩
 rotate_left
 ·conv => whnf
  repeat' (first
   | (refine St.i ⟨rfl, rfl⟩ (List.cons_ne_nil _ _) ?_; conv => whnf)
   | (intro blk hblk; conv => whnf))
  refine CallK.imp (H' := fltc k wGet n T.1 • stoo X.q S' • storec b X • R) (by first | exact .refl _ | exact .drop | exact .fin | ((repeat refine .pick ?_); first | exact .refl _ | exact .emp _ | exact .fin)) ?_
  refine CallK.ret f_zv.ok (ends_flt h0 (hs'.d.trans hX.d)) ?_
  rintro v G ⟨rfl, rfl⟩
  rw [if_pos h0, hv']
  cases hde : downE T.1 T.2 with
  | true =>
   conv => whnf
   skip
   refine ⟨_, _, rfl, ?_, X, S', hX.next hS' hs' (by rw [hv']; exact hTp), .refl X, ?_, rfl, rfl⟩
   ·first | exact .refl _ | exact .drop | exact .fin | ((repeat refine .pick ?_); first | exact .refl _ | exact .emp _ | exact .fin)
   ·show (⟨S'.val, X.had, X.E⟩ : StM) = _
    rw [hv']
  | false =>
   conv => whnf
   skip
   refine CallK.ret f_z1b.ok (qis_flt (by decide)) ?_
   rintro v G ⟨rfl, rfl⟩
   conv => whnf
   skip
   refine ⟨_, _, rfl, ?_, X, S', hX.next hS' hs' (by rw [hv']; exact hTp), .refl X, ?_, rfl, rfl⟩
   ·first | exact .refl _ | exact .drop | exact .fin | ((repeat refine .pick ?_); first | exact .refl _ | exact .emp _ | exact .fin)
   ·show (⟨S'.val, X.had, X.E⟩ : StM) = _
    rw [hv']
 rw [if_neg (fun k => k h0)]
 conv => whnf
 repeat' (first
  | ((first | refine LdN.i ?_ | refine St.i ⟨rfl, rfl⟩ (List.cons_ne_nil _ _) ?_); conv => whnf)
  | (intro blk hblk; conv => whnf))
 refine CallK.imp (H' := stoo X.q S' • pts b3 (.cells ⟨opl o⟩ t_z3w) • storec b X • R) (by first | exact .refl _ | exact .drop | exact .fin | ((repeat refine .pick ?_); first | exact .refl _ | exact .emp _ | exact .fin)) ?_
 refine CallK.ret f_z2h.ok (made_spec (C := o.m.pg.C) (G := o.m.pg.G) ⟨RowC.oldC rc inferInstance, rfl⟩ ⟨RowC.oldC rg inferInstance, rfl⟩ hC hG) ?_
 rintro v G ⟨m, hmm, rfl, rfl⟩
 have hmm' : m.m = madeP o.m.pg := hmm
 conv => whnf
 repeat' (first
  | (refine St.i ⟨rfl, rfl⟩ (List.cons_ne_nil _ _) ?_; conv => whnf)
  | (intro blk hblk; conv => whnf))
 repeat' (first
  | (refine CallK.ret f_zk.ok (qbrought_spec (x := o.m.a) (n := 3) (by omega)) ?_; rintro v G ⟨rfl, rfl⟩; conv => whnf)
  | (refine CallK.ret f_zu.ok (qlastO_spec (X := X) (by omega) hr hi hx (by omega)) ?_; rintro v G ⟨rfl, rfl⟩; conv => whnf)
  | ((first | refine Ld.i ?_ | refine St.i ⟨rfl, rfl⟩ (List.cons_ne_nil _ _) ?_ | refine Ar.i64 (by omega) ?_); conv => whnf)
  | (refine Sub.on (by first | exact .refl _ | exact .drop | exact .fin | ((repeat refine .pick ?_); first | exact .refl _ | exact .emp _ | exact .fin)) ?_; conv => whnf)
  | (refine DrawK.introH tab_ok mixed 41 f_z1.last7 f_z1.plan7 _ rfl (by kernel_rfl) (Sub.of (by first | exact .refl _ | exact .drop | exact .fin | ((repeat refine .pick ?_); first | exact .refl _ | exact .emp _ | exact .fin))) ?_; conv => whnf))
 obtain ⟨ml1, ml2, ml3⟩ := madeP_len o.m.pg
 rw [← hmm'] at ml1 ml2 ml3
 obtain ⟨b8, hb8⟩ : ∃ b8, b8 = blk := ⟨_, rfl⟩
 rw [← hb8]
 rw [pgc_eq m]
 obtain ⟨pb1, pb2, pb3, pb4, pb5, pb6⟩ := putP_bd o.m n x.m
 rw [← hpp2] at pb1 pb2 pb3 pb4 pb5 pb6
 have hppi : pp.In := by rw [hpp2]; exact putP_in hpi hai (by omega) ⟨hx1, hx2⟩
 have hppC : pp = ⟨n, x.m.lsn + 1 + o.m.a % 3, m.m.C, if m.m.C.length + m.m.G.length = 0 then [⟨1, o.m.a⟩] else m.m.G⟩ := by rw [hpp2, hmm']; rfl
 repeat' (first
  | (refine spl_dec (fun hd => ?_) (fun hd => ?_) <;> first | (exfalso; omega) | (conv => whnf))
  | ((first | refine Ld.i ?_ | refine St.i ⟨rfl, rfl⟩ (List.cons_ne_nil _ _) ?_ | refine Ar.i64 (by omega) ?_); conv => whnf)
  | (intro blk hblk; conv => whnf))
 ·rw [if_pos (by omega)] at hppC
  refine DrawK.imp (H' := pts b8 (.cells ⟨PgX.cells ⟨pp, m.ca, m.cc, some ⟨blk, 0, none⟩, 1⟩⟩ t_z19) • pgc ⟨pp, m.ca, m.cc, some ⟨blk, 0, none⟩, 1⟩ • stoo X.q S' • storec b X • R) ?_ ?_
  ·rw [pgc_eq, hppC]
   unfold PgX.cells
   dsimp only
   refine Imp.pick (Imp.pick (Imp.vnew (sz := 2) (enc := grpv) [⟨1, o.m.a⟩] rfl ?_))
   first | exact .refl _ | exact .drop | exact .fin | ((repeat refine .pick ?_); first | exact .refl _ | exact .emp _ | exact .fin)
  obtain ⟨z, hz⟩ : ∃ z, z = (⟨pp, m.ca, m.cc, some ⟨blk, 0, none⟩, 1⟩ : PgX) := ⟨_, rfl⟩
  have hzm : z.m = pp := by rw [hz]
  rw [← hz]
  clear hz hppC
  unfold PgX.cells
  refine DrawK.introH tab_ok mixed 64 f_z1.last10 f_z1.plan10 (storec b X • pts b8 (.cells ⟨[.int .i64 z.m.num, .int .i64 z.m.lsn, .slice z.ca z.m.C.length z.cc, .slice z.ga z.m.G.length z.gc]⟩ t_z19) • emp) rfl (by kernel_rfl) (Sub.of (by first | exact .refl _ | exact .drop | exact .fin | ((repeat refine .pick ?_); first | exact .refl _ | exact .emp _ | exact .fin))) ?_
  rw [pgc_eq z]
  have zC : z.m.C.length ≤ 31 := by rw [hzm]; exact pb1
  have zG : z.m.G.length ≤ 84 := by rw [hzm]; exact pb2
  conv => whnf
  repeat' (first
   | (refine CallK.ret f_z2z.ok (qown_spec (C := z.m.C) (G := z.m.G) (by omega) (by omega)) ?_; rintro v G ⟨u, hu, rfl, rfl⟩; conv => whnf)
   | (refine CallK.ret f_z37.ok qout_spec ?_; rintro v G ⟨rfl, rfl⟩; conv => whnf)
   | ((first | refine Ld.i ?_ | refine LdN.i ?_); conv => whnf)
   | (refine Sub.on (by first | exact .refl _ | exact .drop | exact .fin | ((repeat refine .pick ?_); first | exact .refl _ | exact .emp _ | exact .fin)) ?_; conv => whnf))
  have hum : u.m = pp := by rw [hu, ← hzm]
  have hup : (⟨u.m.num, u.m.lsn, u.m.C, u.m.G⟩ : PgM) = pp := hum
  have hck : 0 ≤ S'.P.clock ∧ S'.P.clock ≤ 1000000000 := by
   have h9 := hBd.clock
   rw [← hv'] at h9
   have : S'.val.P.clock = S'.P.clock := rfl
   omega
  have hput := fun Q : HProp => fun (i1 : OldC W Q) (i2 : RowN W Q u.ca u.m.C.length 5 cntv u.m.C) (i3 : RowN W Q u.ga u.m.G.length 2 grpv u.m.G) => sput_spec (W := W) (H := stoo X.q S' • Q) (p := X.q) (R := Q) (S := S') (num := u.m.num) (lsn := u.m.lsn) (ca := u.ca) (ga := u.ga) (nC := u.m.C.length) (cc := u.cc) (nG := u.m.G.length) (gc := u.gc) (C := u.m.C) (G := u.m.G) (by rw [hum]; omega) (by rw [hum]; omega) hS' (by rw [hup]; exact hppi) hck
  have hun : u.m.num = n := by rw [hum, hpp2]; rfl
  rw [hup, hv', ← hU, hun] at hput
  rw [pgc_eq u, hun]
  refine CallK.imp (H' := stoo X.q S' • vec t_z1a 5 cntv u.ca u.cc u.m.C • vec t_zt 2 grpv u.ga u.gc u.m.G • storec b X • pts b8 (.cells ⟨[.int .i64 z.m.num, .int .i64 z.m.lsn, .slice z.ca z.m.C.length z.cc, .slice z.ga z.m.G.length z.gc]⟩ t_z19) • vec t_z1a 5 cntv z.ca z.cc z.m.C • vec t_zt 2 grpv z.ga z.gc z.m.G • R) (by first | exact .refl _ | exact .drop | exact .fin | ((repeat refine .pick ?_); first | exact .refl _ | exact .emp _ | exact .fin)) ?_
  refine CallK.ret f_z1f.ok (hput _ inferInstance inferInstance inferInstance) ?_
  rintro v G ⟨S2, hS2, hs2, hv2, ⟨g0, rfl, rfl⟩ | ⟨g0, k2, rfl, rfl⟩⟩
  ·have hl2 : S2.P.l = X.l := hs2.l.trans (hs'.l.trans hX.l)
   have erl : U.2.L.recs.length = S2.L.recs.length := by rw [← hv2]; exact List.length_map ..
   have hSS := hs'.trans hs2
   have hX2 : X.Ok S2 := hX.next hS2 hSS (by rw [hv2]; exact hUp)
   rw [erl, ← hzm]
   by_cases c : z.m.lsn > S2.L.recs.length
   ·rw [if_pos c, g0]
    conv => whnf
    repeat' (first
     | (refine DrawK.introH tab_ok mixed 72 f_z1.last11 f_z1.plan11 _ rfl (by kernel_rfl) (Sub.of (by first | exact .refl _ | exact .drop | exact .fin | ((repeat refine .pick ?_); first | exact .refl _ | exact .emp _ | exact .fin))) ?_; conv => whnf)
     | (refine CallK.ret f_zo.ok (slast_spec (p := X.q) (S := S2) hl2) ?_; rintro v G ⟨rfl, rfl⟩; conv => whnf)
     | (refine CallK.ret f_z1b.ok (qis_nil (by decide)) ?_; rintro v G ⟨rfl, rfl⟩; conv => whnf)
     | (refine spl_dec (fun hd => ?_) (fun hd => ?_) <;> first | (exfalso; omega) | (conv => whnf))
     | (refine Ld.i ?_; conv => whnf)
     | (refine Sub.on (by first | exact .refl _ | exact .drop | exact .fin | ((repeat refine .pick ?_); first | exact .refl _ | exact .emp _ | exact .fin)) ?_; conv => whnf))
    refine CallK.imp (H' := storec b X • stoo X.q S2 • R) (by first | exact .refl _ | exact .drop | exact .fin | ((repeat refine .pick ?_); first | exact .refl _ | exact .emp _ | exact .fin)) ?_
    refine CallK.ret f_zv.ok ends_nil ?_
    rintro v G ⟨rfl, rfl⟩
    conv => whnf
    skip
    refine ⟨_, _, rfl, Imp.refl _, X, S2, hX2, .refl X, ?_, rfl, rfl⟩
    show (⟨S2.val, X.had, X.E⟩ : StM) = _
    rw [hv2]
   ·rw [if_neg c, if_neg (fun k => k g0)]
    conv => whnf
    repeat' (first
     | (refine DrawK.introH tab_ok mixed 72 f_z1.last11 f_z1.plan11 _ rfl (by kernel_rfl) (Sub.of (by first | exact .refl _ | exact .drop | exact .fin | ((repeat refine .pick ?_); first | exact .refl _ | exact .emp _ | exact .fin))) ?_; conv => whnf)
     | (refine CallK.ret f_zo.ok (slast_spec (p := X.q) (S := S2) hl2) ?_; rintro v G ⟨rfl, rfl⟩; conv => whnf)
     | (refine spl_dec (fun hd => ?_) (fun hd => ?_) <;> first | (exfalso; omega) | (conv => whnf))
     | (refine Ld.i ?_; conv => whnf)
     | (refine Sub.on (by first | exact .refl _ | exact .drop | exact .fin | ((repeat refine .pick ?_); first | exact .refl _ | exact .emp _ | exact .fin)) ?_; conv => whnf))
    have hltH : n.toNat < X.H.length := by
     rcases Nat.lt_or_ge n.toNat X.H.length with h9 | h9
     ·exact h9
     ·rw [List.getElem?_eq_none h9] at hr; cases hr
    refine DrawK.imp (H' := pts b (.cells ⟨[.int .i64 X.p, .int .i64 X.lg, .int .i64 X.f, ptr X.d, ptr X.l, ptr X.q, .slice X.ha X.H.length X.hc, .slice X.da X.E.length X.dc]⟩ t_z3y) • vec t_z3z 1 rowxv X.ha X.hc X.H • pts b8 (.cells ⟨[.int .i64 z.m.num, .int .i64 z.m.lsn, .slice z.ca z.m.C.length z.cc, .slice z.ga z.m.G.length z.gc]⟩ t_z19) • vec t_z19 4 PgX.cells r.a r.cap r.xs • bigL pgc r.xs • vec t_int 1 ints X.da X.dc X.E • bigL rowxc (X.H.eraseIdx n.toNat) • vec t_z1a 5 cntv z.ca z.cc z.m.C • vec t_zt 2 grpv z.ga z.gc z.m.G • stoo X.q S2 • R) ?_ ?_
    ·rw [storec_eq, bigL_take rowxc X.H n.toNat r hr]
     unfold rowxc
     simp only [star_assoc]
     first | exact .refl _ | exact .drop | exact .fin | ((repeat refine .pick ?_); first | exact .refl _ | exact .emp _ | exact .fin)
    obtain ⟨xa, hxa⟩ : ∃ a, a = X.ha := ⟨_, rfl⟩
    rw [← hxa]
    refine DrawK.introH tab_ok mixed 90 f_z1.last15 f_z1.plan15 (pts b (.cells ⟨[.int .i64 X.p, .int .i64 X.lg, .int .i64 X.f, ptr X.d, ptr X.l, ptr X.q, .slice xa X.H.length X.hc, .slice X.da X.E.length X.dc]⟩ t_z3y) • vec t_z3z 1 rowxv xa X.hc X.H • pts b8 (.cells ⟨[.int .i64 z.m.num, .int .i64 z.m.lsn, .slice z.ca z.m.C.length z.cc, .slice z.ga z.m.G.length z.gc]⟩ t_z19) • emp) rfl (by kernel_rfl) (Sub.of (by first | exact .refl _ | exact .drop | exact .fin | ((repeat refine .pick ?_); first | exact .refl _ | exact .emp _ | exact .fin))) ?_
    conv => whnf
    repeat' (first
     | ((first | refine Ld.i ?_ | refine LdN.i ?_); conv => whnf)
     | (intro blk hblk; conv => whnf)
     | (refine Sub.on (by first | exact .refl _ | exact .drop | exact .fin | ((repeat refine .pick ?_); first | exact .refl _ | exact .emp _ | exact .fin)) ?_; conv => whnf)
     | (refine IxS.r (xs := X.H) (i := n.toNat) (by omega) rfl hltH (fun ab off ha => ?_); cases ha; conv => whnf)
     | (refine Ld.r0 (xs := X.H) hr rfl ?_; conv => whnf))
    refine OpX.app1 (xs := r.xs) tab_ok rfl rfl rfl rfl z rfl rfl (by omega) ⟨rfl, pgx_one⟩ (fun a' cap' => ?_)
    conv => whnf
    repeat' (first
     | (refine Sub.on (by first | exact .refl _ | exact .drop | exact .fin | ((repeat refine .pick ?_); first | exact .refl _ | exact .emp _ | exact .fin)) ?_; conv => whnf)
     | (refine IxS.r (xs := X.H) (i := n.toNat) (by omega) rfl hltH (fun ab off ha => ?_); cases ha; conv => whnf)
     | (refine St.v0 (xs := X.H) hr (⟨a', cap', r.xs ++ [z]⟩ : RowX) (by unfold rowxv; dsimp only; rw [List.length_append, List.length_singleton]; rfl) (Nat.le_refl 1) ⟨rfl, rfl⟩ ?_; conv => whnf))
    have hmset : (X.H.set n.toNat ⟨a', cap', r.xs ++ [z]⟩).map RowX.m = X.had.set n.toNat (r.m ++ [z.m]) := by
     unfold StX.had
     rw [List.map_set]
     congr 1
     unfold RowX.m
     rw [List.map_append]; rfl
    refine ⟨_, _, rfl, ?_, { X with H := X.H.set n.toNat ⟨a', cap', r.xs ++ [z]⟩ }, S2, ⟨hS2, hX2.d, hX2.l, hX2.p, ?_, hX2.el⟩, ⟨rfl, rfl, rfl, rfl, rfl, rfl⟩, ?_, rfl, rfl⟩
    ·rw [storec_eq]
     dsimp only [storev]
     rw [List.length_set, bigL_set rowxc _ X.H n.toNat r hr]
     unfold rowxc
     dsimp only
     rw [bigL_snoc]
     simp only [star_assoc]
     rw [pgc_eq z, ← hxa]
     first | exact .refl _ | exact .drop | exact .fin | ((repeat refine .pick ?_); first | exact .refl _ | exact .emp _ | exact .fin)
    ·show HadOk X.p ((X.H.set n.toNat ⟨a', cap', r.xs ++ [z]⟩).map RowX.m)
     have h8 := hX.had.set (n := n) (q := z.m) ⟨by rw [hzm]; omega, by
      have q1 := hS2.L.len
      have q2 := hS2.L.cnt
      omega⟩
     rw [hrow] at h8
     rw [hmset]; exact h8
    ·show (⟨S2.val, (X.H.set n.toNat ⟨a', cap', r.xs ++ [z]⟩).map RowX.m, X.E⟩ : StM) = _
     rw [hmset, hv2]
  ·have hl2 : S2.P.l = X.l := hs2.l.trans (hs'.l.trans hX.l)
   have erl : U.2.L.recs.length = S2.L.recs.length := by rw [← hv2]; exact List.length_map ..
   have hSS := hs'.trans hs2
   have hX2 : X.Ok S2 := hX.next hS2 hSS (by rw [hv2]; exact hUp)
   rw [erl, ← hzm]
   by_cases c : z.m.lsn > S2.L.recs.length
   ·rw [if_pos c]
    conv => whnf
    repeat' (first
     | (refine DrawK.introH tab_ok mixed 72 f_z1.last11 f_z1.plan11 _ rfl (by kernel_rfl) (Sub.of (by first | exact .refl _ | exact .drop | exact .fin | ((repeat refine .pick ?_); first | exact .refl _ | exact .emp _ | exact .fin))) ?_; conv => whnf)
     | (refine CallK.ret f_zo.ok (slast_spec (p := X.q) (S := S2) hl2) ?_; rintro v G ⟨rfl, rfl⟩; conv => whnf)
     | (refine spl_dec (fun hd => ?_) (fun hd => ?_) <;> first | (exfalso; omega) | (conv => whnf))
     | (refine Ld.i ?_; conv => whnf)
     | (refine Sub.on (by first | exact .refl _ | exact .drop | exact .fin | ((repeat refine .pick ?_); first | exact .refl _ | exact .emp _ | exact .fin)) ?_; conv => whnf))
    refine CallK.imp (H' := fltc k2 wPut n U.1 • stoo X.q S2 • storec b X • R) (by first | exact .refl _ | exact .drop | exact .fin | ((repeat refine .pick ?_); first | exact .refl _ | exact .emp _ | exact .fin)) ?_
    refine CallK.ret f_z1b.ok (qis_flt (by decide)) ?_
    rintro v G ⟨rfl, rfl⟩
    by_cases c4 : U.1 = 4
    ·rw [decide_eq_true c4, Bool.true_or]
     conv => whnf
     skip
     refine ⟨_, _, rfl, ?_, X, S2, hX2, .refl X, ?_, rfl, rfl⟩
     ·first | exact .refl _ | exact .drop | exact .fin | ((repeat refine .pick ?_); first | exact .refl _ | exact .emp _ | exact .fin)
     ·show (⟨S2.val, X.had, X.E⟩ : StM) = _
      rw [hv2]
    ·rw [decide_eq_false c4, Bool.false_or]
     conv => whnf
     skip
     refine CallK.ret f_zv.ok (ends_flt g0 (hSS.d.trans hX.d)) ?_
     rintro v G ⟨rfl, rfl⟩
     rw [hv2]
     conv => whnf
     skip
     refine ⟨_, _, rfl, ?_, X, S2, hX2, .refl X, ?_, rfl, rfl⟩
     ·first | exact .refl _ | exact .drop | exact .fin | ((repeat refine .pick ?_); first | exact .refl _ | exact .emp _ | exact .fin)
     ·show (⟨S2.val, X.had, X.E⟩ : StM) = _
      rw [hv2]
   ·rw [if_neg c, if_pos g0]
    conv => whnf
    repeat' (first
     | (refine DrawK.introH tab_ok mixed 72 f_z1.last11 f_z1.plan11 _ rfl (by kernel_rfl) (Sub.of (by first | exact .refl _ | exact .drop | exact .fin | ((repeat refine .pick ?_); first | exact .refl _ | exact .emp _ | exact .fin))) ?_; conv => whnf)
     | (refine CallK.ret f_zo.ok (slast_spec (p := X.q) (S := S2) hl2) ?_; rintro v G ⟨rfl, rfl⟩; conv => whnf)
     | (refine spl_dec (fun hd => ?_) (fun hd => ?_) <;> first | (exfalso; omega) | (conv => whnf))
     | (refine Ld.i ?_; conv => whnf)
     | (refine Sub.on (by first | exact .refl _ | exact .drop | exact .fin | ((repeat refine .pick ?_); first | exact .refl _ | exact .emp _ | exact .fin)) ?_; conv => whnf))
    refine ⟨_, _, rfl, ?_, X, S2, hX2, .refl X, ?_, rfl, rfl⟩
    ·first | exact .refl _ | exact .drop | exact .fin | ((repeat refine .pick ?_); first | exact .refl _ | exact .emp _ | exact .fin)
    ·show (⟨S2.val, X.had, X.E⟩ : StM) = _
     rw [hv2]
 ·rw [if_neg (by omega)] at hppC
  refine DrawK.imp (H' := pts b8 (.cells ⟨PgX.cells ⟨pp, m.ca, m.cc, m.ga, m.gc⟩⟩ t_z19) • pgc ⟨pp, m.ca, m.cc, m.ga, m.gc⟩ • stoo X.q S' • storec b X • R) ?_ ?_
  ·rw [pgc_eq, hppC]
   unfold PgX.cells
   dsimp only
   first | exact .refl _ | exact .drop | exact .fin | ((repeat refine .pick ?_); first | exact .refl _ | exact .emp _ | exact .fin)
  obtain ⟨z, hz⟩ : ∃ z, z = (⟨pp, m.ca, m.cc, m.ga, m.gc⟩ : PgX) := ⟨_, rfl⟩
  have hzm : z.m = pp := by rw [hz]
  rw [← hz]
  clear hz hppC
  unfold PgX.cells
  refine DrawK.introH tab_ok mixed 64 f_z1.last10 f_z1.plan10 (storec b X • pts b8 (.cells ⟨[.int .i64 z.m.num, .int .i64 z.m.lsn, .slice z.ca z.m.C.length z.cc, .slice z.ga z.m.G.length z.gc]⟩ t_z19) • emp) rfl (by kernel_rfl) (Sub.of (by first | exact .refl _ | exact .drop | exact .fin | ((repeat refine .pick ?_); first | exact .refl _ | exact .emp _ | exact .fin))) ?_
  rw [pgc_eq z]
  have zC : z.m.C.length ≤ 31 := by rw [hzm]; exact pb1
  have zG : z.m.G.length ≤ 84 := by rw [hzm]; exact pb2
  conv => whnf
  repeat' (first
   | (refine CallK.ret f_z2z.ok (qown_spec (C := z.m.C) (G := z.m.G) (by omega) (by omega)) ?_; rintro v G ⟨u, hu, rfl, rfl⟩; conv => whnf)
   | (refine CallK.ret f_z37.ok qout_spec ?_; rintro v G ⟨rfl, rfl⟩; conv => whnf)
   | ((first | refine Ld.i ?_ | refine LdN.i ?_); conv => whnf)
   | (refine Sub.on (by first | exact .refl _ | exact .drop | exact .fin | ((repeat refine .pick ?_); first | exact .refl _ | exact .emp _ | exact .fin)) ?_; conv => whnf))
  have hum : u.m = pp := by rw [hu, ← hzm]
  have hup : (⟨u.m.num, u.m.lsn, u.m.C, u.m.G⟩ : PgM) = pp := hum
  have hck : 0 ≤ S'.P.clock ∧ S'.P.clock ≤ 1000000000 := by
   have h9 := hBd.clock
   rw [← hv'] at h9
   have : S'.val.P.clock = S'.P.clock := rfl
   omega
  have hput := fun Q : HProp => fun (i1 : OldC W Q) (i2 : RowN W Q u.ca u.m.C.length 5 cntv u.m.C) (i3 : RowN W Q u.ga u.m.G.length 2 grpv u.m.G) => sput_spec (W := W) (H := stoo X.q S' • Q) (p := X.q) (R := Q) (S := S') (num := u.m.num) (lsn := u.m.lsn) (ca := u.ca) (ga := u.ga) (nC := u.m.C.length) (cc := u.cc) (nG := u.m.G.length) (gc := u.gc) (C := u.m.C) (G := u.m.G) (by rw [hum]; omega) (by rw [hum]; omega) hS' (by rw [hup]; exact hppi) hck
  have hun : u.m.num = n := by rw [hum, hpp2]; rfl
  rw [hup, hv', ← hU, hun] at hput
  rw [pgc_eq u, hun]
  refine CallK.imp (H' := stoo X.q S' • vec t_z1a 5 cntv u.ca u.cc u.m.C • vec t_zt 2 grpv u.ga u.gc u.m.G • storec b X • pts b8 (.cells ⟨[.int .i64 z.m.num, .int .i64 z.m.lsn, .slice z.ca z.m.C.length z.cc, .slice z.ga z.m.G.length z.gc]⟩ t_z19) • vec t_z1a 5 cntv z.ca z.cc z.m.C • vec t_zt 2 grpv z.ga z.gc z.m.G • R) (by first | exact .refl _ | exact .drop | exact .fin | ((repeat refine .pick ?_); first | exact .refl _ | exact .emp _ | exact .fin)) ?_
  refine CallK.ret f_z1f.ok (hput _ inferInstance inferInstance inferInstance) ?_
  rintro v G ⟨S2, hS2, hs2, hv2, ⟨g0, rfl, rfl⟩ | ⟨g0, k2, rfl, rfl⟩⟩
  ·have hl2 : S2.P.l = X.l := hs2.l.trans (hs'.l.trans hX.l)
   have erl : U.2.L.recs.length = S2.L.recs.length := by rw [← hv2]; exact List.length_map ..
   have hSS := hs'.trans hs2
   have hX2 : X.Ok S2 := hX.next hS2 hSS (by rw [hv2]; exact hUp)
   rw [erl, ← hzm]
   by_cases c : z.m.lsn > S2.L.recs.length
   ·rw [if_pos c, g0]
    conv => whnf
    repeat' (first
     | (refine DrawK.introH tab_ok mixed 72 f_z1.last11 f_z1.plan11 _ rfl (by kernel_rfl) (Sub.of (by first | exact .refl _ | exact .drop | exact .fin | ((repeat refine .pick ?_); first | exact .refl _ | exact .emp _ | exact .fin))) ?_; conv => whnf)
     | (refine CallK.ret f_zo.ok (slast_spec (p := X.q) (S := S2) hl2) ?_; rintro v G ⟨rfl, rfl⟩; conv => whnf)
     | (refine CallK.ret f_z1b.ok (qis_nil (by decide)) ?_; rintro v G ⟨rfl, rfl⟩; conv => whnf)
     | (refine spl_dec (fun hd => ?_) (fun hd => ?_) <;> first | (exfalso; omega) | (conv => whnf))
     | (refine Ld.i ?_; conv => whnf)
     | (refine Sub.on (by first | exact .refl _ | exact .drop | exact .fin | ((repeat refine .pick ?_); first | exact .refl _ | exact .emp _ | exact .fin)) ?_; conv => whnf))
    refine CallK.imp (H' := storec b X • stoo X.q S2 • R) (by first | exact .refl _ | exact .drop | exact .fin | ((repeat refine .pick ?_); first | exact .refl _ | exact .emp _ | exact .fin)) ?_
    refine CallK.ret f_zv.ok ends_nil ?_
    rintro v G ⟨rfl, rfl⟩
    conv => whnf
    skip
    refine ⟨_, _, rfl, Imp.refl _, X, S2, hX2, .refl X, ?_, rfl, rfl⟩
    show (⟨S2.val, X.had, X.E⟩ : StM) = _
    rw [hv2]
   ·rw [if_neg c, if_neg (fun k => k g0)]
    conv => whnf
    repeat' (first
     | (refine DrawK.introH tab_ok mixed 72 f_z1.last11 f_z1.plan11 _ rfl (by kernel_rfl) (Sub.of (by first | exact .refl _ | exact .drop | exact .fin | ((repeat refine .pick ?_); first | exact .refl _ | exact .emp _ | exact .fin))) ?_; conv => whnf)
     | (refine CallK.ret f_zo.ok (slast_spec (p := X.q) (S := S2) hl2) ?_; rintro v G ⟨rfl, rfl⟩; conv => whnf)
     | (refine spl_dec (fun hd => ?_) (fun hd => ?_) <;> first | (exfalso; omega) | (conv => whnf))
     | (refine Ld.i ?_; conv => whnf)
     | (refine Sub.on (by first | exact .refl _ | exact .drop | exact .fin | ((repeat refine .pick ?_); first | exact .refl _ | exact .emp _ | exact .fin)) ?_; conv => whnf))
    have hltH : n.toNat < X.H.length := by
     rcases Nat.lt_or_ge n.toNat X.H.length with h9 | h9
     ·exact h9
     ·rw [List.getElem?_eq_none h9] at hr; cases hr
    refine DrawK.imp (H' := pts b (.cells ⟨[.int .i64 X.p, .int .i64 X.lg, .int .i64 X.f, ptr X.d, ptr X.l, ptr X.q, .slice X.ha X.H.length X.hc, .slice X.da X.E.length X.dc]⟩ t_z3y) • vec t_z3z 1 rowxv X.ha X.hc X.H • pts b8 (.cells ⟨[.int .i64 z.m.num, .int .i64 z.m.lsn, .slice z.ca z.m.C.length z.cc, .slice z.ga z.m.G.length z.gc]⟩ t_z19) • vec t_z19 4 PgX.cells r.a r.cap r.xs • bigL pgc r.xs • vec t_int 1 ints X.da X.dc X.E • bigL rowxc (X.H.eraseIdx n.toNat) • vec t_z1a 5 cntv z.ca z.cc z.m.C • vec t_zt 2 grpv z.ga z.gc z.m.G • stoo X.q S2 • R) ?_ ?_
    ·rw [storec_eq, bigL_take rowxc X.H n.toNat r hr]
     unfold rowxc
     simp only [star_assoc]
     first | exact .refl _ | exact .drop | exact .fin | ((repeat refine .pick ?_); first | exact .refl _ | exact .emp _ | exact .fin)
    obtain ⟨xa, hxa⟩ : ∃ a, a = X.ha := ⟨_, rfl⟩
    rw [← hxa]
    refine DrawK.introH tab_ok mixed 90 f_z1.last15 f_z1.plan15 (pts b (.cells ⟨[.int .i64 X.p, .int .i64 X.lg, .int .i64 X.f, ptr X.d, ptr X.l, ptr X.q, .slice xa X.H.length X.hc, .slice X.da X.E.length X.dc]⟩ t_z3y) • vec t_z3z 1 rowxv xa X.hc X.H • pts b8 (.cells ⟨[.int .i64 z.m.num, .int .i64 z.m.lsn, .slice z.ca z.m.C.length z.cc, .slice z.ga z.m.G.length z.gc]⟩ t_z19) • emp) rfl (by kernel_rfl) (Sub.of (by first | exact .refl _ | exact .drop | exact .fin | ((repeat refine .pick ?_); first | exact .refl _ | exact .emp _ | exact .fin))) ?_
    conv => whnf
    repeat' (first
     | ((first | refine Ld.i ?_ | refine LdN.i ?_); conv => whnf)
     | (intro blk hblk; conv => whnf)
     | (refine Sub.on (by first | exact .refl _ | exact .drop | exact .fin | ((repeat refine .pick ?_); first | exact .refl _ | exact .emp _ | exact .fin)) ?_; conv => whnf)
     | (refine IxS.r (xs := X.H) (i := n.toNat) (by omega) rfl hltH (fun ab off ha => ?_); cases ha; conv => whnf)
     | (refine Ld.r0 (xs := X.H) hr rfl ?_; conv => whnf))
    refine OpX.app1 (xs := r.xs) tab_ok rfl rfl rfl rfl z rfl rfl (by omega) ⟨rfl, pgx_one⟩ (fun a' cap' => ?_)
    conv => whnf
    repeat' (first
     | (refine Sub.on (by first | exact .refl _ | exact .drop | exact .fin | ((repeat refine .pick ?_); first | exact .refl _ | exact .emp _ | exact .fin)) ?_; conv => whnf)
     | (refine IxS.r (xs := X.H) (i := n.toNat) (by omega) rfl hltH (fun ab off ha => ?_); cases ha; conv => whnf)
     | (refine St.v0 (xs := X.H) hr (⟨a', cap', r.xs ++ [z]⟩ : RowX) (by unfold rowxv; dsimp only; rw [List.length_append, List.length_singleton]; rfl) (Nat.le_refl 1) ⟨rfl, rfl⟩ ?_; conv => whnf))
    have hmset : (X.H.set n.toNat ⟨a', cap', r.xs ++ [z]⟩).map RowX.m = X.had.set n.toNat (r.m ++ [z.m]) := by
     unfold StX.had
     rw [List.map_set]
     congr 1
     unfold RowX.m
     rw [List.map_append]; rfl
    refine ⟨_, _, rfl, ?_, { X with H := X.H.set n.toNat ⟨a', cap', r.xs ++ [z]⟩ }, S2, ⟨hS2, hX2.d, hX2.l, hX2.p, ?_, hX2.el⟩, ⟨rfl, rfl, rfl, rfl, rfl, rfl⟩, ?_, rfl, rfl⟩
    ·rw [storec_eq]
     dsimp only [storev]
     rw [List.length_set, bigL_set rowxc _ X.H n.toNat r hr]
     unfold rowxc
     dsimp only
     rw [bigL_snoc]
     simp only [star_assoc]
     rw [pgc_eq z, ← hxa]
     first | exact .refl _ | exact .drop | exact .fin | ((repeat refine .pick ?_); first | exact .refl _ | exact .emp _ | exact .fin)
    ·show HadOk X.p ((X.H.set n.toNat ⟨a', cap', r.xs ++ [z]⟩).map RowX.m)
     have h8 := hX.had.set (n := n) (q := z.m) ⟨by rw [hzm]; omega, by
      have q1 := hS2.L.len
      have q2 := hS2.L.cnt
      omega⟩
     rw [hrow] at h8
     rw [hmset]; exact h8
    ·show (⟨S2.val, (X.H.set n.toNat ⟨a', cap', r.xs ++ [z]⟩).map RowX.m, X.E⟩ : StM) = _
     rw [hmset, hv2]
  ·have hl2 : S2.P.l = X.l := hs2.l.trans (hs'.l.trans hX.l)
   have erl : U.2.L.recs.length = S2.L.recs.length := by rw [← hv2]; exact List.length_map ..
   have hSS := hs'.trans hs2
   have hX2 : X.Ok S2 := hX.next hS2 hSS (by rw [hv2]; exact hUp)
   rw [erl, ← hzm]
   by_cases c : z.m.lsn > S2.L.recs.length
   ·rw [if_pos c]
    conv => whnf
    repeat' (first
     | (refine DrawK.introH tab_ok mixed 72 f_z1.last11 f_z1.plan11 _ rfl (by kernel_rfl) (Sub.of (by first | exact .refl _ | exact .drop | exact .fin | ((repeat refine .pick ?_); first | exact .refl _ | exact .emp _ | exact .fin))) ?_; conv => whnf)
     | (refine CallK.ret f_zo.ok (slast_spec (p := X.q) (S := S2) hl2) ?_; rintro v G ⟨rfl, rfl⟩; conv => whnf)
     | (refine spl_dec (fun hd => ?_) (fun hd => ?_) <;> first | (exfalso; omega) | (conv => whnf))
     | (refine Ld.i ?_; conv => whnf)
     | (refine Sub.on (by first | exact .refl _ | exact .drop | exact .fin | ((repeat refine .pick ?_); first | exact .refl _ | exact .emp _ | exact .fin)) ?_; conv => whnf))
    refine CallK.imp (H' := fltc k2 wPut n U.1 • stoo X.q S2 • storec b X • R) (by first | exact .refl _ | exact .drop | exact .fin | ((repeat refine .pick ?_); first | exact .refl _ | exact .emp _ | exact .fin)) ?_
    refine CallK.ret f_z1b.ok (qis_flt (by decide)) ?_
    rintro v G ⟨rfl, rfl⟩
    by_cases c4 : U.1 = 4
    ·rw [decide_eq_true c4, Bool.true_or]
     conv => whnf
     skip
     refine ⟨_, _, rfl, ?_, X, S2, hX2, .refl X, ?_, rfl, rfl⟩
     ·first | exact .refl _ | exact .drop | exact .fin | ((repeat refine .pick ?_); first | exact .refl _ | exact .emp _ | exact .fin)
     ·show (⟨S2.val, X.had, X.E⟩ : StM) = _
      rw [hv2]
    ·rw [decide_eq_false c4, Bool.false_or]
     conv => whnf
     skip
     refine CallK.ret f_zv.ok (ends_flt g0 (hSS.d.trans hX.d)) ?_
     rintro v G ⟨rfl, rfl⟩
     rw [hv2]
     conv => whnf
     skip
     refine ⟨_, _, rfl, ?_, X, S2, hX2, .refl X, ?_, rfl, rfl⟩
     ·first | exact .refl _ | exact .drop | exact .fin | ((repeat refine .pick ?_); first | exact .refl _ | exact .emp _ | exact .fin)
     ·show (⟨S2.val, X.had, X.E⟩ : StM) = _
      rw [hv2]
   ·rw [if_neg c, if_pos g0]
    conv => whnf
    repeat' (first
     | (refine DrawK.introH tab_ok mixed 72 f_z1.last11 f_z1.plan11 _ rfl (by kernel_rfl) (Sub.of (by first | exact .refl _ | exact .drop | exact .fin | ((repeat refine .pick ?_); first | exact .refl _ | exact .emp _ | exact .fin))) ?_; conv => whnf)
     | (refine CallK.ret f_zo.ok (slast_spec (p := X.q) (S := S2) hl2) ?_; rintro v G ⟨rfl, rfl⟩; conv => whnf)
     | (refine spl_dec (fun hd => ?_) (fun hd => ?_) <;> first | (exfalso; omega) | (conv => whnf))
     | (refine Ld.i ?_; conv => whnf)
     | (refine Sub.on (by first | exact .refl _ | exact .drop | exact .fin | ((repeat refine .pick ?_); first | exact .refl _ | exact .emp _ | exact .fin)) ?_; conv => whnf))
    refine ⟨_, _, rfl, ?_, X, S2, hX2, .refl X, ?_, rfl, rfl⟩
    ·first | exact .refl _ | exact .drop | exact .fin | ((repeat refine .pick ?_); first | exact .refl _ | exact .emp _ | exact .fin)
    ·show (⟨S2.val, X.had, X.E⟩ : StM) = _
     rw [hv2]
end
end Go.Proofs.YtgcknlpkhhpkjaaGreatDoor
/- What an argument of any shape holds: numbers, bools, structs, slices, one inside the other; and that no slice is greater than a machine. No condition. -/
namespace Go.SL
open Go Go.RowKit
theorem len1 {α : Type} {l : List α} (h : l.length = 1) : ∃ a0, l = [a0] := by
 match l, h with
 | [a0], _ => exact ⟨a0, rfl⟩
theorem len2 {α : Type} {l : List α} (h : l.length = 2) : ∃ a0 a1, l = [a0, a1] := by
 match l, h with
 | a0 :: l, h =>
  obtain ⟨a1, rfl⟩ := len1 (Nat.succ.inj h)
  exact ⟨a0, a1, rfl⟩
theorem len3 {α : Type} {l : List α} (h : l.length = 3) : ∃ a0 a1 a2, l = [a0, a1, a2] := by
 match l, h with
 | a0 :: l, h =>
  obtain ⟨a1, a2, rfl⟩ := len2 (Nat.succ.inj h)
  exact ⟨a0, a1, a2, rfl⟩
theorem len4 {α : Type} {l : List α} (h : l.length = 4) : ∃ a0 a1 a2 a3, l = [a0, a1, a2, a3] := by
 match l, h with
 | a0 :: l, h =>
  obtain ⟨a1, a2, a3, rfl⟩ := len3 (Nat.succ.inj h)
  exact ⟨a0, a1, a2, a3, rfl⟩
theorem len5 {α : Type} {l : List α} (h : l.length = 5) : ∃ a0 a1 a2 a3 a4, l = [a0, a1, a2, a3, a4] := by
 match l, h with
 | a0 :: l, h =>
  obtain ⟨a1, a2, a3, a4, rfl⟩ := len4 (Nat.succ.inj h)
  exact ⟨a0, a1, a2, a3, a4, rfl⟩
theorem len6 {α : Type} {l : List α} (h : l.length = 6) : ∃ a0 a1 a2 a3 a4 a5, l = [a0, a1, a2, a3, a4, a5] := by
 match l, h with
 | a0 :: l, h =>
  obtain ⟨a1, a2, a3, a4, a5, rfl⟩ := len5 (Nat.succ.inj h)
  exact ⟨a0, a1, a2, a3, a4, a5, rfl⟩
theorem len7 {α : Type} {l : List α} (h : l.length = 7) : ∃ a0 a1 a2 a3 a4 a5 a6, l = [a0, a1, a2, a3, a4, a5, a6] := by
 match l, h with
 | a0 :: l, h =>
  obtain ⟨a1, a2, a3, a4, a5, a6, rfl⟩ := len6 (Nat.succ.inj h)
  exact ⟨a0, a1, a2, a3, a4, a5, a6, rfl⟩
theorem len8 {α : Type} {l : List α} (h : l.length = 8) : ∃ a0 a1 a2 a3 a4 a5 a6 a7, l = [a0, a1, a2, a3, a4, a5, a6, a7] := by
 match l, h with
 | a0 :: l, h =>
  obtain ⟨a1, a2, a3, a4, a5, a6, a7, rfl⟩ := len7 (Nat.succ.inj h)
  exact ⟨a0, a1, a2, a3, a4, a5, a6, a7, rfl⟩
theorem len9 {α : Type} {l : List α} (h : l.length = 9) : ∃ a0 a1 a2 a3 a4 a5 a6 a7 a8, l = [a0, a1, a2, a3, a4, a5, a6, a7, a8] := by
 match l, h with
 | a0 :: l, h =>
  obtain ⟨a1, a2, a3, a4, a5, a6, a7, a8, rfl⟩ := len8 (Nat.succ.inj h)
  exact ⟨a0, a1, a2, a3, a4, a5, a6, a7, a8, rfl⟩
theorem len10 {α : Type} {l : List α} (h : l.length = 10) : ∃ a0 a1 a2 a3 a4 a5 a6 a7 a8 a9, l = [a0, a1, a2, a3, a4, a5, a6, a7, a8, a9] := by
 match l, h with
 | a0 :: l, h =>
  obtain ⟨a1, a2, a3, a4, a5, a6, a7, a8, a9, rfl⟩ := len9 (Nat.succ.inj h)
  exact ⟨a0, a1, a2, a3, a4, a5, a6, a7, a8, a9, rfl⟩
theorem len11 {α : Type} {l : List α} (h : l.length = 11) : ∃ a0 a1 a2 a3 a4 a5 a6 a7 a8 a9 a10, l = [a0, a1, a2, a3, a4, a5, a6, a7, a8, a9, a10] := by
 match l, h with
 | a0 :: l, h =>
  obtain ⟨a1, a2, a3, a4, a5, a6, a7, a8, a9, a10, rfl⟩ := len10 (Nat.succ.inj h)
  exact ⟨a0, a1, a2, a3, a4, a5, a6, a7, a8, a9, a10, rfl⟩
section
variable {H : Type} {enc : TypeId × Value → H} {P : Program} {W : World}
def DecR (enc : TypeId × Value → H) (P : Program) (W : World) (t : TypeId) (cs : List Value) (d : DataW H) : Prop := ∃ n ps, DataW.trod enc P W 0 (fun _ => true) true n t cs = some (d, ps)
def Fits (P : Program) (t : TypeId) (d : DataW H) : Prop := ∀ n ∈ d.weights P t, n ≤ reachBytes
theorem DecR.of_trod {t : TypeId} {v : Value} {d : DataW H} {ps : List MemPlace} (h : DataW.Trod enc P W 0 (fun _ => true) true t v d ps) : DecR enc P W t v.cells.toList d := by
 obtain ⟨n, hn⟩ := h
 exact ⟨n, ps, hn⟩
theorem Fits.of_each {ts : List TypeId} {ds : List (DataW H)} (h : (DataW.weightsEach P ts ds).all (· ≤ reachBytes) = true) {j : Nat} {t : TypeId} {d : DataW H} (ht : ts[j]? = some t) (hd : ds[j]? = some d) : Fits P t d := fun n hn => by
 have := List.all_eq_true.1 h _ (DataW.weights_mem_each ht hd n hn)
 simpa using this
theorem DecR.int {t : TypeId} {k : IntKind} {cs : List Value} {d : DataW H} (ht : P.underlying t = some (.int k)) (h : DecR enc P W t cs d) : ∃ z, cs = [.int k z] ∧ (Lit.int k z).wf = true := by
 obtain ⟨n, ps, h⟩ := h
 obtain ⟨z, h1, _, h2⟩ := DataW.trod_int ht h
 exact ⟨z, h1, h2⟩
theorem DecR.bool {t : TypeId} {cs : List Value} {d : DataW H} (ht : P.underlying t = some .bool) (h : DecR enc P W t cs d) : ∃ z, cs = [.bool z] := by
 obtain ⟨n, ps, h⟩ := h
 obtain ⟨z, h1, _⟩ := DataW.trod_bool ht h
 exact ⟨z, h1⟩
theorem DecR.string {t : TypeId} {cs : List Value} {d : DataW H} (ht : P.underlying t = some .string) (h : DecR enc P W t cs d) : ∃ s, cs = [.string s] ∧ s.size ≤ maxLen ∧ (Fits P t d → s.size ≤ reachBytes) := by
  obtain ⟨n, ps, h⟩ := h
  cases n with
  | zero => simp [DataW.trod] at h
  | succ n =>
    simp only [DataW.trod, ht] at h
    split at h <;> try (rename_i e _; cases e; done)
    all_goals first
      | (rename_i s heq; cases heq)
      | skip
    all_goals first
      | (split at h
         · rename_i hs
           cases h
           exact ⟨_, rfl, hs, fun hf => by simpa using hf _ (by simp [DataW.weights])⟩
         · cases h)
      | simp_all
theorem DecR.struct {t : TypeId} {fs : Array Field} {cs : List Value} {d : DataW H} (ht : P.underlying t = some (.struct fs)) (h : DecR enc P W t cs d) :
  cs.length = P.cellsOf t ∧ ∀ (i : Nat) (f : Field), fs.toList[i]? = some f → ∃ y, DecR enc P W f.type ((cs.drop f.offset).take (P.cellsOf f.type)) y ∧ (Fits P t d → Fits P f.type y) := by
 obtain ⟨n, ps, h⟩ := h
 cases n with
 | zero => simp [DataW.trod] at h
 | succ k =>
  simp only [DataW.trod, ht] at h
  split at h
  ·rename_i hl
   obtain ⟨xs, hxs, he⟩ := Option.map_eq_some_iff.1 h
   have hd : d = .agg (xs.map (·.1)) := by cases he; rfl
   subst hd
   have key : ∀ (l : List Field) (ys : List (DataW H × List MemPlace)), l.mapM (fun f => DataW.trod enc P W 0 (fun _ => true) true k f.type ((cs.drop f.offset).take (P.cellsOf f.type))) = some ys →
     ∀ (i : Nat) (f : Field), l[i]? = some f → ∃ y, ys[i]? = some y ∧ DataW.trod enc P W 0 (fun _ => true) true k f.type ((cs.drop f.offset).take (P.cellsOf f.type)) = some y := by
    intro l
    induction l with
    | nil => intro _ _ i f hf; simp at hf
    | cons g l ih =>
     intro ys hys i f hf
     simp only [List.mapM_cons, Option.bind_eq_bind, Option.bind_eq_some_iff] at hys
     obtain ⟨y, hy, ys', hys', e⟩ := hys
     cases e
     cases i with
     | zero => simp at hf; subst hf; exact ⟨y, rfl, hy⟩
     | succ i =>
      obtain ⟨z, h1, h2⟩ := ih ys' hys' i f (by simpa using hf)
      exact ⟨z, by simpa using h1, h2⟩
   refine ⟨hl, fun i f hf => ?_⟩
   obtain ⟨y, h1, h2⟩ := key _ _ hxs i f hf
   refine ⟨y.1, ⟨k, y.2, by rw [h2]⟩, fun hb m hm => hb m ?_⟩
   simp only [DataW.weights, ht]
   exact DataW.weights_mem_each (j := i) (by simp [hf]) (by simp [h1]) m hm
  ·cases h
theorem weightsAll_mem : ∀ {e : TypeId} {ds : List (DataW H)} {j : Nat} {d : DataW H}, ds[j]? = some d → ∀ n ∈ d.weights P e, n ∈ DataW.weightsAll P e ds
 | e, d0 :: ds, 0, d, hd, n, hn => by
  simp only [List.getElem?_cons_zero, Option.some.injEq] at hd
  subst hd
  simp only [DataW.weightsAll, List.mem_append]
  exact Or.inl hn
 | e, d0 :: ds, j + 1, d, hd, n, hn => by
  simp only [List.getElem?_cons_succ] at hd
  simp only [DataW.weightsAll, List.mem_append]
  exact Or.inr (weightsAll_mem hd n hn)
 | _, [], _, _, hd, _, _ => by simp at hd
theorem DecR.slice {α : Type} {Ok : α → Prop} {enc' : α → List Value} {t e : TypeId} {cs : List Value} {d : DataW H} (ht : P.underlying t = some (.slice e)) (dec : ∀ cs d, DecR enc P W e cs d → Fits P e d → ∃ x, Ok x ∧ cs = enc' x)
  (hsz : ∀ x, (enc' x).length = P.cellsOf e) (hpos : 0 < P.cellsOf e) (h : DecR enc P W t cs d) (hb : Fits P t d) :
  ∃ a len cap xs, cs = [.slice a len cap] ∧ OldVec W (P.cellsOf e) enc' a len cap xs ∧ (∀ x ∈ xs, Ok x) ∧ cap * P.bytesOf e ≤ reachBytes := by
 obtain ⟨n, ps, hf⟩ := h
 rcases Deep.open_slice ht hf with ⟨rfl, _⟩ | ⟨a', len', cap', m, n, D, Pl, rfl, _, hl, hm, hmm, hx0, hx⟩
 ·exact ⟨none, 0, 0, [], rfl, ⟨rfl, ⟨Nat.le_refl _, Nat.zero_le _⟩, fun i x h => by simp at h⟩, fun x h => by simp at h, by simp⟩
 ·simp only [if_true] at hmm
  subst hmm
  have hd : d = .slice ((List.range len').map D) ((List.range (m - len')).map fun j => D (len' + j)) := by cases hx0; rfl
  subst hd
  have hw : (len' + (m - len')) * P.bytesOf e ≤ reachBytes := hb _ (by simp [DataW.weights, ht])
  have hfit : ∀ i, i < len' → Fits P e (D i) := fun i hi q hq => hb q (by
   simp only [DataW.weights, ht, List.mem_cons, List.mem_append]
   exact Or.inr (Or.inl (weightsAll_mem (j := i) (by simp [hi]) q hq)))
  obtain ⟨xs, h1, h2⟩ := list_of (p := fun i (x : α) => Ok x ∧ W.cells? 0 (a'.add (i * P.cellsOf e)) (P.cellsOf e) = some (enc' x)) len' fun i hi => by
   obtain ⟨cs', h3, h4⟩ := hx i (by omega)
   obtain ⟨x, hok, rfl⟩ := dec _ _ ⟨_, _, h4⟩ (hfit i hi)
   exact ⟨x, hok, h3⟩
  refine ⟨some a', len', m, xs, rfl, ⟨h1.symm, ⟨hl, hm⟩, fun i x hi => ?_⟩, fun x hx => ?_, by rwa [show len' + (m - len') = m by omega] at hw⟩
  ·obtain ⟨_, h3⟩ := h2 i x hi
   obtain ⟨_, h4, h5⟩ := World.cells?_some h3
   obtain ⟨b, off, sp⟩ := a'
   have h6 : sp = none := by
    obtain ⟨x0, hx0⟩ : ∃ x0, xs[0]? = some x0 := by
     cases xs with
     | nil => simp at hi
     | cons y ys => exact ⟨y, rfl⟩
    obtain ⟨_, h3'⟩ := h2 0 x0 hx0
    obtain ⟨_, _, h5'⟩ := World.cells?_some h3'
    have h7 := h5' 0 hpos
    have h8 : 0 < (enc' x0).length := by rw [hsz]; exact hpos
    rw [List.getElem?_eq_getElem h8] at h7
    simp only [Nat.zero_mul, Addr.add, if_true] at h7
    unfold World.cell? at h7
    split at h7
    ·cases sp with
     | none => rfl
     | some k => simp at h7
    ·cases h7
   subst h6
   refine ⟨b, off, rfl, fun j v hj => ?_⟩
   have hjl : j < P.cellsOf e := by
    rcases Nat.lt_or_ge j (enc' x).length with h | h
    ·rw [← hsz x]; exact h
    ·simp [List.getElem?_eq_none h] at hj
   have := h5 j hjl
   rw [hj, Addr.add_eq, Addr.add_eq] at this
   exact this
  ·obtain ⟨i, hi⟩ := List.getElem?_of_mem hx
   exact (h2 i x hi).1
theorem DecR.agg {t : TypeId} {fs : Array Field} {r : Reach} {b0 : Nat} {v : Value} {d : DataW H} {ps : List MemPlace} (ht : P.underlying t = some (.struct fs)) (hval : Value.okWide P W r b0 t v) (hd : DataW.Trod enc P W 0 (fun _ => true) true t v d ps) :
  ∃ cs, v = .agg ⟨cs⟩ ∧ DecR enc P W t cs d := by
 simp only [Value.okWide, ht] at hval
 obtain ⟨⟨cs⟩, rfl, _⟩ := hval
 obtain ⟨fuel, hf⟩ := hd
 exact ⟨cs, rfl, fuel, ps, hf⟩
theorem DecR.slc {t e : TypeId} {r : Reach} {b0 : Nat} {v : Value} {d : DataW H} {ps : List MemPlace} (ht : P.underlying t = some (.slice e)) (hval : Value.okWide P W r b0 t v) (hd : DataW.Trod enc P W 0 (fun _ => true) true t v d ps) :
  ∃ a len cap, v = .slice a len cap ∧ DecR enc P W t [.slice a len cap] d := by
 obtain ⟨a, len, cap, rfl⟩ := WideShapes.okWide_slice ht hval
 obtain ⟨fuel, hf⟩ := hd
 exact ⟨a, len, cap, rfl, fuel, ps, hf⟩
theorem DecR.num {t : TypeId} {k : IntKind} {r : Reach} {b0 : Nat} {v : Value} {d : DataW H} {ps : List MemPlace} (ht : P.underlying t = some (.int k)) (hval : Value.okWide P W r b0 t v) (hd : DataW.Trod enc P W 0 (fun _ => true) true t v d ps) :
  ∃ z, v = .int k z ∧ (Lit.int k z).wf = true := by
 obtain ⟨n, rfl⟩ := WideShapes.okWide_int ht hval
 obtain ⟨z, h1, h2⟩ := DecR.int ht (DecR.of_trod hd)
 simp [Value.cells] at h1
 subst h1
 exact ⟨n, rfl, h2⟩
end
end Go.SL
