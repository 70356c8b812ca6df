/- RoomExact answers true, and nothing that was there turns. No condition. -/
import Derived.Test.YtgepohccnknngaaRef
namespace Go.Proofs.Ytgepohccnknngaa.roomExact
open Go Go.SL Go.ChangeShapes Go.WideShapes Go.ChangeAt Go.RowKit
set_option pp.maxSteps 400

class RefC (H : HProp) (r : Nat) (M : outParam (List (Int × Life))) (R : outParam HProp) : Prop where h : Take H (refc r M) R
section
variable {H R X : HProp} {r : Nat} {M : List (Int × Life)}
instance (priority := 90) RefC.there [i : RefC H r M R] : RefC (X • H) r M (X • R) := ⟨i.h.there⟩
instance (priority := 100) RefC.here : RefC (refc r M • R) r M R := ⟨.here⟩
instance RefC.last : RefC (refc r M) r M emp := ⟨.last⟩
theorem fk [i : RefC H r M R] : Take H (refc r M) R := i.h
end
def Bd (z : Int) : Prop := -9223372036854775808 ≤ z ∧ z ≤ 9223372036854775807
def OkO (o : OpV) : Prop := Bd o.free ∧ Bd o.tx ∧ Bd o.more

theorem begun_spec {W : World} {H : HProp} : Does prog W f_quotalaw15_begun ⟨[]⟩ H (Ret fun v G => ∃ p r, v = .tuple ⟨[.agg ⟨[ptr p, ptr r]⟩, .bool true]⟩ ∧ G = (roomc p [] • refc r [] • H)) := by
  refine f_quotalaw15_begun.does ?_
  conv => whnf
  intro cb hcb
  conv => whnf
  refine CallK.ret f_room_New.ok new_spec ?_
  rintro v G ⟨p, rfl, rfl⟩
  conv => whnf
  refine CallK.ret f_quotaref15_New.ok rnew_spec ?_
  rintro v G ⟨r, rfl, rfl⟩
  conv => whnf
  refine St.i ⟨rfl, rfl⟩ (by simp) ?_
  conv => whnf
  refine LdN.i ?_
  conv => whnf
  refine ⟨_, _, rfl, Imp.pick (Imp.pick (Imp.drop.trans (Imp.refl _))), p, r, ?_, rfl⟩
  rfl

theorem plays_spec {W : World} {H R1 R : HProp} {p r : Nat} {M : List (Int × Life)} {o : OpV} [a : RoomC H p M R1] [b : RefC R1 r M R] (hwf : WfR M) (hok : OkO o) :
    Does prog W f_quotalaw15_Both_plays ⟨[.agg ⟨[ptr p, ptr r]⟩, .agg ⟨opv o⟩]⟩ H (Ret fun v G => v = .bool true ∧ G = (roomc p (askedR M o).2 • refc r (askedR M o).2 • R)) := by
  refine Does.imp (H' := roomc p M • refc r M • R) (by rw [a.h.eq]; exact Imp.right (by rw [b.h.eq]; exact Imp.refl _)) ?_
  have hml : M.length ≤ 1000 := by have := hwf.len; omega
  have hbd := promisedR_bd M (hwf.small.mem hwf.nd)
  unfold opv
  obtain ⟨kind, two, tx, counter, what, free, more⟩ := o
  obtain ⟨hf, htx, hmo⟩ := hok
  dsimp only at hf htx hmo ⊢
  refine f_quotalaw15_Both_plays.does _ _ ?_
  conv => whnf
  intro bb hbb
  conv => whnf
  intro ob hob
  conv => whnf
  refine Ld.i ?_
  conv => whnf
  by_cases k1 : kind = 1
  have e : askedR M ⟨kind, two, tx, counter, what, free, more⟩ = beginR M tx := by simp [askedR, k1]
  rw [e]
  refine spl_t (by simp [k1]) ?_
  conv => whnf
  refine DrawK.intro tab_ok mixed f_quotalaw15_Both_plays.last3 f_quotalaw15_Both_plays.plan3 (pts ob (.cells ⟨[.int .i64 kind, .bool two, .int .i64 tx, .int .i64 counter, .int .i64 what, .int .i64 free, .int .i64 more]⟩ t_quotalaw15_Op) • pts bb (.cells ⟨[ptr p, ptr r]⟩ t_quotalaw15_Both) • emp) (by kernel_rfl) (Sub.of (Imp.pick (Imp.pick (Imp.emp _)))) ?_
  conv => whnf
  refine Ld.i ?_
  conv => whnf
  refine Ld.i ?_
  conv => whnf
  refine Ld.i ?_
  conv => whnf
  refine Ld.i ?_
  conv => whnf
  refine CallK.ret f_room_Room_Begin.ok (begin_spec rk) ?_
  rintro v G ⟨rfl, rfl⟩
  conv => whnf
  refine ⟨Sub.of (Imp.pick (Imp.pick (Imp.emp _))), ?_⟩
  conv => whnf
  refine CallK.ret f_quotalaw15_num.ok num_spec ?_
  rintro v G ⟨rfl, rfl⟩
  conv => whnf
  refine ⟨Sub.of (Imp.pick (Imp.pick (Imp.emp _))), ?_⟩
  conv => whnf
  refine CallK.ret f_quotaref15_Room_Begin.ok (rbegin_spec fk hwf) ?_
  rintro v G ⟨rfl, rfl⟩
  conv => whnf
  refine ⟨Sub.of (Imp.pick (Imp.pick (Imp.emp _))), ?_⟩
  conv => whnf
  simp only [decide_true]
  exact Ret.eq rfl (Imp.pick (Imp.pick (Imp.drop.trans (Imp.drop.trans (Imp.refl _)))))
  refine spl_f (by simp [k1]) ?_
  conv => whnf
  by_cases k2 : kind = 2
  have e : askedR M ⟨kind, two, tx, counter, what, free, more⟩ = holdR M tx counter := by simp [askedR, k2]
  rw [e]
  refine spl_t (by simp [k2]) ?_
  conv => whnf
  refine DrawK.intro tab_ok mixed f_quotalaw15_Both_plays.last5 f_quotalaw15_Both_plays.plan5 (pts ob (.cells ⟨[.int .i64 kind, .bool two, .int .i64 tx, .int .i64 counter, .int .i64 what, .int .i64 free, .int .i64 more]⟩ t_quotalaw15_Op) • pts bb (.cells ⟨[ptr p, ptr r]⟩ t_quotalaw15_Both) • emp) (by kernel_rfl) (Sub.of (Imp.pick (Imp.pick (Imp.emp _)))) ?_
  conv => whnf
  refine Ld.i ?_
  conv => whnf
  refine Ld.i ?_
  conv => whnf
  refine Ld.i ?_
  conv => whnf
  refine Ld.i ?_
  conv => whnf
  refine Ld.i ?_
  conv => whnf
  refine Ld.i ?_
  conv => whnf
  refine CallK.ret f_room_Room_Hold.ok (hold_spec rk) ?_
  rintro v G ⟨rfl, rfl⟩
  conv => whnf
  refine ⟨Sub.of (Imp.pick (Imp.pick (Imp.emp _))), ?_⟩
  conv => whnf
  refine CallK.ret f_quotalaw15_num.ok num_spec ?_
  rintro v G ⟨rfl, rfl⟩
  conv => whnf
  refine ⟨Sub.of (Imp.pick (Imp.pick (Imp.emp _))), ?_⟩
  conv => whnf
  refine CallK.ret f_quotaref15_Room_Hold.ok (rhold_spec fk hwf) ?_
  rintro v G ⟨rfl, rfl⟩
  conv => whnf
  refine ⟨Sub.of (Imp.pick (Imp.pick (Imp.emp _))), ?_⟩
  conv => whnf
  simp only [decide_true]
  exact Ret.eq rfl (Imp.pick (Imp.pick (Imp.drop.trans (Imp.drop.trans (Imp.refl _)))))
  refine spl_f (by simp [k2]) ?_
  conv => whnf
  by_cases k3 : kind = 3
  have e : askedR M ⟨kind, two, tx, counter, what, free, more⟩ = wroteR M tx what counter := by simp [askedR, k3]
  rw [e]
  refine spl_t (by simp [k3]) ?_
  conv => whnf
  refine DrawK.intro tab_ok mixed f_quotalaw15_Both_plays.last7 f_quotalaw15_Both_plays.plan7 (pts ob (.cells ⟨[.int .i64 kind, .bool two, .int .i64 tx, .int .i64 counter, .int .i64 what, .int .i64 free, .int .i64 more]⟩ t_quotalaw15_Op) • pts bb (.cells ⟨[ptr p, ptr r]⟩ t_quotalaw15_Both) • emp) (by kernel_rfl) (Sub.of (Imp.pick (Imp.pick (Imp.emp _)))) ?_
  conv => whnf
  refine Ld.i ?_
  conv => whnf
  refine Ld.i ?_
  conv => whnf
  refine Ld.i ?_
  conv => whnf
  refine Ld.i ?_
  conv => whnf
  refine Ld.i ?_
  conv => whnf
  refine Ld.i ?_
  conv => whnf
  refine Ld.i ?_
  conv => whnf
  refine Ld.i ?_
  conv => whnf
  refine CallK.ret f_room_Room_Wrote.ok (wrote_spec rk) ?_
  rintro v G ⟨rfl, rfl⟩
  conv => whnf
  refine ⟨Sub.of (Imp.pick (Imp.pick (Imp.emp _))), ?_⟩
  conv => whnf
  refine CallK.ret f_quotalaw15_num.ok num_spec ?_
  rintro v G ⟨rfl, rfl⟩
  conv => whnf
  refine ⟨Sub.of (Imp.pick (Imp.pick (Imp.emp _))), ?_⟩
  conv => whnf
  refine CallK.ret f_quotaref15_Room_Wrote.ok (rwrote_spec fk hwf) ?_
  rintro v G ⟨rfl, rfl⟩
  conv => whnf
  refine ⟨Sub.of (Imp.pick (Imp.pick (Imp.emp _))), ?_⟩
  conv => whnf
  simp only [decide_true]
  exact Ret.eq rfl (Imp.pick (Imp.pick (Imp.drop.trans (Imp.drop.trans (Imp.refl _)))))
  refine spl_f (by simp [k3]) ?_
  conv => whnf
  have e : askedR M ⟨kind, two, tx, counter, what, free, more⟩ = (-1, M) := by simp [askedR, k1, k2, k3]
  rw [e]
  by_cases k4 : kind = 4
  refine spl_t (by simp [k4]) ?_
  conv => whnf
  refine DrawK.intro tab_ok mixed f_quotalaw15_Both_plays.last9 f_quotalaw15_Both_plays.plan9 (pts ob (.cells ⟨[.int .i64 kind, .bool two, .int .i64 tx, .int .i64 counter, .int .i64 what, .int .i64 free, .int .i64 more]⟩ t_quotalaw15_Op) • pts bb (.cells ⟨[ptr p, ptr r]⟩ t_quotalaw15_Both) • emp) (by kernel_rfl) (Sub.of (Imp.pick (Imp.pick (Imp.emp _)))) ?_
  conv => whnf
  refine Ld.i ?_
  conv => whnf
  refine Ld.i ?_
  conv => whnf
  refine Ld.i ?_
  conv => whnf
  refine Ld.i ?_
  conv => whnf
  refine Ld.i ?_
  conv => whnf
  refine Ld.i ?_
  conv => whnf
  refine Ld.i ?_
  conv => whnf
  refine Ld.i ?_
  conv => whnf
  refine CallK.ret f_room_Room_May.ok (may_spec rk hwf.small hml hbd.1 ⟨hf, htx, hmo⟩) ?_
  rintro v G ⟨rfl, rfl⟩
  conv => whnf
  refine ⟨Sub.of (Imp.pick (Imp.pick (Imp.emp _))), ?_⟩
  conv => whnf
  refine CallK.ret f_quotalaw15_num.ok num_spec ?_
  rintro v G ⟨rfl, rfl⟩
  conv => whnf
  refine ⟨Sub.of (Imp.pick (Imp.pick (Imp.emp _))), ?_⟩
  conv => whnf
  refine CallK.ret f_quotaref15_Room_May.ok (ref_chunk (r := r) fk fun sa sc l hM => rmay_spec hM hwf ⟨hf, htx, hmo⟩) ?_
  rintro v G ⟨rfl, rfl⟩
  conv => whnf
  refine ⟨Sub.of (Imp.pick (Imp.pick (Imp.emp _))), ?_⟩
  conv => whnf
  simp only [decide_true]
  exact Ret.eq rfl (Imp.pick (Imp.pick (Imp.drop.trans (Imp.drop.trans (Imp.refl _)))))
  refine spl_f (by simp [k4]) ?_
  conv => whnf
  by_cases k5 : kind = 5
  refine spl_t (by simp [k5]) ?_
  conv => whnf
  refine DrawK.intro tab_ok mixed f_quotalaw15_Both_plays.last11 f_quotalaw15_Both_plays.plan11 (pts ob (.cells ⟨[.int .i64 kind, .bool two, .int .i64 tx, .int .i64 counter, .int .i64 what, .int .i64 free, .int .i64 more]⟩ t_quotalaw15_Op) • pts bb (.cells ⟨[ptr p, ptr r]⟩ t_quotalaw15_Both) • emp) (by kernel_rfl) (Sub.of (Imp.pick (Imp.pick (Imp.emp _)))) ?_
  conv => whnf
  refine Ld.i ?_
  conv => whnf
  refine Ld.i ?_
  conv => whnf
  refine CallK.ret f_room_Room_Promised.ok (promisedR_spec rk hwf.small hml) ?_
  rintro v G ⟨rfl, rfl⟩
  conv => whnf
  refine ⟨Sub.of (Imp.pick (Imp.pick (Imp.emp _))), ?_⟩
  conv => whnf
  refine CallK.ret f_quotaref15_Room_Promised.ok (ref_chunk (r := r) fk fun sa sc l hM => rpromised_spec hM hwf) ?_
  rintro v G ⟨rfl, rfl⟩
  conv => whnf
  refine ⟨Sub.of (Imp.pick (Imp.pick (Imp.emp _))), ?_⟩
  conv => whnf
  refine spl_t (by simp) ?_
  conv => whnf
  refine Ld.i ?_
  conv => whnf
  refine Ld.i ?_
  conv => whnf
  refine Ld.i ?_
  conv => whnf
  refine Ld.i ?_
  conv => whnf
  refine CallK.ret f_room_Room_Of.ok (of_spec rk hwf.small) ?_
  rintro v G ⟨rfl, rfl⟩
  conv => whnf
  refine ⟨Sub.of (Imp.pick (Imp.pick (Imp.emp _))), ?_⟩
  conv => whnf
  refine CallK.ret f_quotaref15_Room_Of.ok (ref_chunk (r := r) fk fun sa sc l hM => rof_spec hM hwf) ?_
  rintro v G ⟨rfl, rfl⟩
  conv => whnf
  refine ⟨Sub.of (Imp.pick (Imp.pick (Imp.emp _))), ?_⟩
  conv => whnf
  simp only [decide_true]
  exact Ret.eq rfl (Imp.pick (Imp.pick (Imp.drop.trans (Imp.drop.trans (Imp.refl _)))))
  refine spl_f (by simp [k5]) ?_
  conv => whnf
  exact Ret.eq rfl (Imp.pick (Imp.pick (Imp.drop.trans (Imp.drop.trans (Imp.refl _)))))

theorem looks_spec {W : World} {H R1 R : HProp} {p r : Nat} {M : List (Int × Life)} [a : RoomC H p M R1] [b : RefC R1 r M R] (hwf : WfR M) :
    Does prog W f_quotalaw15_Both_looks ⟨[.agg ⟨[ptr p, ptr r]⟩]⟩ H (Ret fun v G => v = .bool true ∧ G = (roomc p M • refc r M • R)) := by
  refine Does.imp (H' := refc r M • roomc p M • R) (by rw [a.h.eq, b.h.eq]; exact Imp.pick (Imp.pick (Imp.refl _))) ?_
  refine ref_open .here fun sa sc l hM => ?_
  have hml : M.length ≤ 1000 := by have := hwf.len; omega
  have hll : l.length = M.length := by rw [← hM]; simp
  refine f_quotalaw15_Both_looks.does _ ?_
  conv => whnf
  intro bb hbb
  conv => whnf
  refine LoopK.intro tab_ok (L := f_quotalaw15_Both_looks.live) (ι := Nat) (fun i => i ≤ l.length)
    (fun i => [(1, ptr bb), (3, .int .i64 i)]) (fun _ => pts bb (.cells ⟨[ptr p, ptr r]⟩ t_quotalaw15_Both) • pts r (.cells ⟨[.slice sa l.length sc]⟩ t_quotaref15_Room) • vec t_quotaref15_Tx 3 rtx sa sc l • bigL rcs l • roomc p M • R)
    (fun i => l.length - i) 0 (by simp) (fun t v h => h) (Imp.refl _) ?_
  rintro i hi
  conv => whnf
  refine Ld.i ?_
  conv => whnf
  refine Ld.i ?_
  conv => whnf
  by_cases h6' : i < l.length
  refine spl_t (by simp; omega) ?_
  conv => whnf
  obtain ⟨x, hx⟩ : ∃ x, l[i]? = some x := ⟨_, List.getElem?_eq_getElem h6'⟩
  refine Ld.i ?_
  conv => whnf
  refine Ld.i ?_
  conv => whnf
  refine IxS.v (i := i) rfl rfl h6' (fun ab off ha => ?_)
  conv => whnf
  subst ha
  conv => whnf
  refine Ld.v0 hx rfl ?_
  conv => whnf
  refine DrawK.intro tab_ok mixed f_quotalaw15_Both_looks.last5 f_quotalaw15_Both_looks.plan5 (pts bb (.cells ⟨[ptr p, ptr r]⟩ t_quotalaw15_Both) • emp) (by kernel_rfl) (Sub.of (Imp.pick (Imp.emp _))) ?_
  conv => whnf
  refine Ld.i ?_
  conv => whnf
  refine Ld.i ?_
  conv => whnf
  refine CallK.ret f_room_Room_Of.ok (of_spec rk hwf.small) ?_
  rintro v G ⟨rfl, rfl⟩
  conv => whnf
  refine ⟨Sub.of (Imp.pick (Imp.emp _)), ?_⟩
  conv => whnf
  refine CallK.ret f_quotaref15_Room_Of.ok (rof_spec hM hwf) ?_
  rintro v G ⟨rfl, rfl⟩
  conv => whnf
  refine ⟨Sub.of (Imp.pick (Imp.emp _)), ?_⟩
  conv => whnf
  refine spl_f (by simp) ?_
  conv => whnf
  refine Ar.i64 (by omega) ?_
  conv => whnf
  exact ⟨rfl, i + 1, by omega, fun t v h => h, Imp.refl _, by omega⟩
  refine spl_f (by simp; omega) ?_
  conv => whnf
  refine DrawK.intro tab_ok mixed f_quotalaw15_Both_looks.last7 f_quotalaw15_Both_looks.plan7 (pts bb (.cells ⟨[ptr p, ptr r]⟩ t_quotalaw15_Both) • emp) (by kernel_rfl) (Sub.of (Imp.pick (Imp.emp _))) ?_
  conv => whnf
  refine Ld.i ?_
  conv => whnf
  refine Ld.i ?_
  conv => whnf
  refine CallK.ret f_room_Room_Promised.ok (promisedR_spec rk hwf.small hml) ?_
  rintro v G ⟨rfl, rfl⟩
  conv => whnf
  refine ⟨Sub.of (Imp.pick (Imp.emp _)), ?_⟩
  conv => whnf
  refine CallK.ret f_quotaref15_Room_Promised.ok (rpromised_spec hM hwf) ?_
  rintro v G ⟨rfl, rfl⟩
  conv => whnf
  refine ⟨Sub.of (Imp.pick (Imp.emp _)), ?_⟩
  conv => whnf
  simp only [decide_true]
  exact Ret.eq rfl ((ref_shut sa sc l hM Imp.drop).trans (Imp.pick (Imp.pick (Imp.refl _))))

theorem walk {W : World} {a : Option Addr} {len cap : Nat} {xs : List OpV} (ho : OldVec W 7 opv a len cap xs) (hok : ∀ x ∈ xs, OkO x) :
    Does prog W f_quotalaw15_RoomExact ⟨[.slice a len cap]⟩ (old W • emp) (Ret fun v G => v = .bool true ∧ G = (old W • emp)) := by
  have hlen := ho.hlen
  refine f_quotalaw15_RoomExact.does _ ?_
  conv => whnf
  refine CallK.ret f_quotalaw15_begun.ok begun_spec ?_
  rintro v G ⟨pa, ra, rfl, rfl⟩
  conv => whnf
  intro ab hab
  conv => whnf
  refine St.i ⟨rfl, rfl⟩ (by simp) ?_
  conv => whnf
  refine CallK.ret f_quotalaw15_begun.ok begun_spec ?_
  rintro v G ⟨pb, rb, rfl, rfl⟩
  conv => whnf
  intro bb hbb
  conv => whnf
  refine St.i ⟨rfl, rfl⟩ (by simp) ?_
  conv => whnf
  refine CallK.ret f_quotalaw15_awake.ok awake_spec ?_
  rintro v G ⟨rfl, rfl⟩
  conv => whnf
  refine LoopK.intro tab_ok (L := f_quotalaw15_RoomExact.live) (ι := Nat × Int × List (Int × Life) × List (Int × Life))
    (fun i => i.2.1 = (i.1 : Int) ∧ i.1 ≤ xs.length ∧ i.1 ≤ 3000 ∧ WfR i.2.2.1 ∧ WfR i.2.2.2)
    (fun i => [(0, .slice a len cap), (3, ptr ab), (5, ptr bb), (7, .int .i64 i.2.1)])
    (fun i => roomc pa i.2.2.1 • refc ra i.2.2.1 • roomc pb i.2.2.2 • refc rb i.2.2.2 • pts ab (.cells ⟨[ptr pa, ptr ra]⟩ t_quotalaw15_Both) • pts bb (.cells ⟨[ptr pb, ptr rb]⟩ t_quotalaw15_Both) • old W • emp)
    (fun i => 3000 - i.1) (0, 0, [], []) ⟨by simp, by simp, by simp, WfR.nil, WfR.nil⟩ (fun t v h => h) (Imp.pick (Imp.pick (Imp.pick (Imp.pick (Imp.pick (Imp.pick (Imp.refl _))))))) ?_
  rintro ⟨i, z, A, B⟩ ⟨hz, hi, hi2, hA, hB⟩
  dsimp only at hz hi hi2 hA hB ⊢
  conv => whnf
  by_cases hc1 : i < xs.length
  refine spl_t (by simp; omega) ?_
  conv => whnf
  by_cases hc2 : i < 3000
  refine spl_t (by simp; omega) ?_
  conv => whnf
  obtain ⟨x, hx⟩ : ∃ x, xs[i]? = some x := ⟨_, List.getElem?_eq_getElem hc1⟩
  have hox := hok x (List.mem_of_getElem? hx)
  refine LdN.i ?_
  conv => whnf
  intro xb hxb
  conv => whnf
  refine St.i ⟨rfl, rfl⟩ (by simp) ?_
  conv => whnf
  refine IxS.o (i := i) ho hz hc1 (fun sb off ha => ?_)
  conv => whnf
  subst ha
  conv => whnf
  refine Ld.o ho hx rfl ?_
  conv => whnf
  refine spl_intro (fun h2 => ?_) (fun h2 => ?_)
  conv => whnf
  refine LdN.i ?_
  conv => whnf
  refine St.i ⟨rfl, rfl⟩ (by simp) ?_
  conv => whnf
  refine DrawK.intro tab_ok mixed f_quotalaw15_RoomExact.last11 f_quotalaw15_RoomExact.plan11 (pts xb (.cells ⟨[ptr pb, ptr rb]⟩ t_quotalaw15_Both) • old W • emp) (by kernel_rfl) (Sub.of (Imp.pick (Imp.pick (Imp.emp _)))) ?_
  conv => whnf
  refine LdN.i ?_
  conv => whnf
  refine IxS.o (i := i) ho hz hc1 (fun sb' off' ha => ?_)
  conv => whnf
  cases ha
  conv => whnf
  refine LdN.o ho hx rfl rfl ?_
  conv => whnf
  refine CallK.ret f_quotalaw15_Both_plays.ok (plays_spec (p := pb) (r := rb) (o := x) hB hox) ?_
  rintro v G ⟨rfl, rfl⟩
  conv => whnf
  refine ⟨Sub.of (Imp.pick (Imp.pick (Imp.emp _))), ?_⟩
  conv => whnf
  refine Ar.i64 (by omega) ?_
  conv => whnf
  exact ⟨rfl, (i + 1, z + 1, A, (askedR B x).2), ⟨by simp only; omega, by simp only; omega, by simp only; omega, by simp only; first | exact asked_wf hA x | exact hA, by simp only; first | exact asked_wf hB x | exact hB⟩, fun t v h => h,
    Imp.pick (Imp.pick (Imp.pick (Imp.pick (Imp.pick (Imp.pick (Imp.pick (Imp.emp _))))))), by simp only; omega⟩
  conv => whnf
  refine DrawK.intro tab_ok mixed f_quotalaw15_RoomExact.last11 f_quotalaw15_RoomExact.plan11 (pts xb (.cells ⟨[ptr pa, ptr ra]⟩ t_quotalaw15_Both) • old W • emp) (by kernel_rfl) (Sub.of (Imp.pick (Imp.pick (Imp.emp _)))) ?_
  conv => whnf
  refine LdN.i ?_
  conv => whnf
  refine IxS.o (i := i) ho hz hc1 (fun sb' off' ha => ?_)
  conv => whnf
  cases ha
  conv => whnf
  refine LdN.o ho hx rfl rfl ?_
  conv => whnf
  refine CallK.ret f_quotalaw15_Both_plays.ok (plays_spec (p := pa) (r := ra) (o := x) hA hox) ?_
  rintro v G ⟨rfl, rfl⟩
  conv => whnf
  refine ⟨Sub.of (Imp.pick (Imp.pick (Imp.emp _))), ?_⟩
  conv => whnf
  refine Ar.i64 (by omega) ?_
  conv => whnf
  exact ⟨rfl, (i + 1, z + 1, (askedR A x).2, B), ⟨by simp only; omega, by simp only; omega, by simp only; omega, by simp only; first | exact asked_wf hA x | exact hA, by simp only; first | exact asked_wf hB x | exact hB⟩, fun t v h => h,
    Imp.pick (Imp.pick (Imp.pick (Imp.pick (Imp.pick (Imp.pick (Imp.pick (Imp.emp _))))))), by simp only; omega⟩
  refine spl_f (by simp; omega) ?_
  conv => whnf
  rotate_left 1
  refine spl_f (by simp; omega) ?_
  conv => whnf
  all_goals
    refine LdN.i ?_
    conv => whnf
    refine CallK.ret f_quotalaw15_Both_looks.ok (looks_spec (p := pa) (r := ra) hA) ?_
    rintro v G ⟨rfl, rfl⟩
    conv => whnf
    refine LdN.i ?_
    conv => whnf
    refine CallK.ret f_quotalaw15_Both_looks.ok (looks_spec (p := pb) (r := rb) hB) ?_
    rintro v G ⟨rfl, rfl⟩
    conv => whnf
    exact Ret.eq rfl (Imp.pick (Imp.emp _))

theorem op_bd {H : Type} {enc : TypeId × Value → H} {W : World} : Decodes enc Try.prog W t_quotalaw15_Op OkO opv := by
  intro n cs y h
  obtain ⟨hl, k, hf⟩ := trod_fields Try.underlying32 h
  have hl : cs.length = 7 := hl
  match cs, hl with
  | [c0, c1, c2, c3, c4, c5, c6], _ =>
    obtain ⟨y0, h0⟩ := hf ⟨"Kind", 3, 0, false, "", "", 0⟩ (by simp)
    obtain ⟨y1, h1⟩ := hf ⟨"Two", 4, 1, false, "", "", 8⟩ (by simp)
    obtain ⟨y2, h2⟩ := hf ⟨"Tx", 3, 2, false, "", "", 16⟩ (by simp)
    obtain ⟨y3, h3⟩ := hf ⟨"Counter", 3, 3, false, "", "", 24⟩ (by simp)
    obtain ⟨y4, h4⟩ := hf ⟨"What", 30, 4, false, "", "", 32⟩ (by simp)
    obtain ⟨y5, h5⟩ := hf ⟨"Free", 3, 5, false, "", "", 40⟩ (by simp)
    obtain ⟨y6, h6⟩ := hf ⟨"More", 3, 6, false, "", "", 48⟩ (by simp)
    obtain ⟨z0, e0, _⟩ := DataW.trod_int Try.underlying3 h0
    obtain ⟨z1, e1, _⟩ := DataW.trod_bool Try.underlying4 h1
    obtain ⟨z2, e2, _, w2⟩ := DataW.trod_int Try.underlying3 h2
    obtain ⟨z3, e3, _⟩ := DataW.trod_int Try.underlying3 h3
    obtain ⟨z4, e4, _⟩ := DataW.trod_int Try.underlying30 h4
    obtain ⟨z5, e5, _, w5⟩ := DataW.trod_int Try.underlying3 h5
    obtain ⟨z6, e6, _, w6⟩ := DataW.trod_int Try.underlying3 h6
    refine ⟨⟨z0, z1, z2, z3, z4, z5, z6⟩, ⟨wf_i64 w5, wf_i64 w2, wf_i64 w6⟩, ?_⟩
    have c3 : Try.prog.cellsOf 3 = 1 := by kernel_rfl
    have c4 : Try.prog.cellsOf 4 = 1 := by kernel_rfl
    have c30 : Try.prog.cellsOf 30 = 1 := by kernel_rfl
    simp [c3, c4, c30] at e0 e1 e2 e3 e4 e5 e6
    simp [opv, e0, e1, e2, e3, e4, e5, e6]

set_option maxRecDepth 100000 in
theorem lifted (os : Os) (started : os.Started) (H : Type) (enc : TypeId × Value → H) :
    ReturnsInHanded {} Try.checked os 4 .any (Rows.roomExactSpec.pre6 enc Try.prog Try.f4 Rows.roomExactRow.domain false) (Rows.roomExactSpec.post enc Try.prog Try.f4 false true false false) := by
  refine returnsInHanded_of_change (C := Try.checked) (by kernel_rfl) started (by kernel_rfl) Try.func4
    (ChangeSpec.witness6 (enc := enc) (C := Try.checked) false ⟨#[], #[.slice none 0 0], []⟩ 8 (by kernel_rfl) (by kernel_rfl) (by kernel_rfl) (by kernel_rfl)) ?_
  intro W base args ds gs before hval0 hW _ _
  have hval : ∀ (j : Nat) t v, Try.f4.params[j]? = some t → args[j]? = some v → Value.okWide Try.prog W .any base t v := hval0
  have hW' := hW
  obtain ⟨p, q, hA0, hV, rfl, _, _⟩ := hW'
  have hA : DataW.TrodAll enc Try.prog W 0 (fun _ => true) true Try.f4.params.toList args.toList ds p := hA0
  rw [Try.params4] at hA hval
  obtain ⟨v0, d0, rfl, rfl, h0⟩ := trodAll_one hA
  obtain ⟨rfl, rfl⟩ := trodVars_none hV
  obtain ⟨a, len, cap, xs, rfl, ho, hok⟩ := arg_slice Try.underlying23 (hval 0 23 v0 rfl rfl) h0 op_bd (fun _ => by show 7 = _; kernel_rfl) (of_decide_eq_true (by kernel_rfl))
  exact (Does.law (walk ho hok)).mono fun e W' ⟨he, hb⟩ => ⟨_, he, law_post hW rfl laid (by kernel_rfl) rfl Try.underlying4 rfl hb⟩

theorem proved : Rows.RoomExactSaid :=
  OpenClaim.holds_of_wide 4 Try.f4 rfl rfl rfl rfl rfl rfl rfl ⟨rfl, rfl, rfl, rfl, rfl⟩ rfl rfl rfl rfl rfl (by kernel_rfl) Try.func4 (by kernel_rfl)
    (of_decide_eq_true (by kernel_rfl)) (by unfold Func.isWrapper; first | (rw [if_pos (by decide +kernel)]; kernel_rfl) | (rw [if_neg (by decide +kernel)]; exact ⟨rfl, rfl⟩))
    (fun os started H enc _ => lifted os started H enc)
end Go.Proofs.Ytgepohccnknngaa.roomExact
