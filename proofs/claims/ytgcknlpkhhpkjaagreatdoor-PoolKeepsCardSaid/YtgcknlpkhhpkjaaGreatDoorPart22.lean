/- What the model carries out by itself in errors.As at *api.Errno. Conditions: in each statement. -/
import Derived.Test.YtgcknlpkhhpkjaaGreatDoorPart18
import Derived.Test.YtgcknlpkhhpkjaaGreatDoorPart21
import Derived.LaidEql
import Derived.Stop.Asserts
import Derived.RowKitTokens
import Derived.Test.YtgcknlpkhhpkjaaGreatDoorPart19
import Derived.Test.YtgcknlpkhhpkjaaGreatDoorPart16
namespace Go.SL
open Go
section
variable {P : Program} {W : World} {H : HProp} {ev : Operand → Option Value} {K : Value → HProp → Prop} {Kp : List PanicEntry → HProp → Prop}
theorem inv_run {x : Operand} {args : List Operand} {tys : Array TypeId} {name : String} {t : TypeId} {v : Value} {l : List Value} {ρ : Operand → Value} {o' : Oper}
  (hx : ev x = some (.iface t v)) (ha : args.mapM ev = some l) (he : ∀ x v, ev x = some v → ρ x = v) (ho : o'.op = .call ⟨.invoke x name, ⟨args⟩, tys⟩) (w : World) :
  (execOp ρ o').run P w = (callMethod (.iface t v) name ⟨l⟩).run P w := by
 have hm : args.map ρ = l := by
  clear ho
  induction args generalizing l with
  | nil => simp at ha; subst ha; rfl
  | cons y r ih =>
   simp only [List.mapM_cons] at ha
   cases hy : ev y with
   | none => rw [hy] at ha; cases ha
   | some u =>
    rw [hy] at ha
    cases hr : r.mapM ev with
    | none => rw [hr] at ha; cases ha
    | some l2 =>
     rw [hr] at ha
     cases ha
     rw [List.map_cons, ih hr, he _ _ hy]
 simp [execOp, ho, resolve, invoke, he _ _ hx, hm]
theorem OpX.inv {x : Operand} {args : List Operand} {tys : Array TypeId} {name : String} {ty : TypeId} {t : TypeId} {v u : Value} {l : List Value}
  (hx : ev x = some (.iface t v)) (ha : args.mapM ev = some l) (h : ∀ w, (callMethod (.iface t v) name ⟨l⟩).run P w = .ok (.value u) w) (k : K u H) : OpX P W (.call ⟨.invoke x name, ⟨args⟩, tys⟩) ty ev H K Kp :=
 ⟨fun w _ hs he _ ho _ => ⟨.value u, w, H, (inv_run hx ha he ho w).trans (h w), hs, k⟩⟩
theorem OpX.invD {x : Operand} {args : List Operand} {tys : Array TypeId} {name : String} {ty : TypeId} {t : TypeId} {v : Value} {l : List Value} {f : FuncId} {a : List Value} {post : Value → HProp → Prop}
  (hx : ev x = some (.iface t v)) (ha : args.mapM ev = some l) (h : ∀ w, (callMethod (.iface t v) name ⟨l⟩).run P w = .ok (.enter f ⟨a⟩) w) (hd : Does P W f ⟨a⟩ H (Ret post)) (k : ∀ v G, post v G → K v G) : OpX P W (.call ⟨.invoke x name, ⟨args⟩, tys⟩) ty ev H K Kp :=
 ⟨fun w _ hs he _ ho _ => ⟨.enter f ⟨a⟩, w, H, (inv_run hx ha he ho w).trans (h w), hs, ⟨fun w hs => (hd.run w hs).mono fun e w' ⟨H', hs', v, G, he, hent, hp⟩ => ⟨G, hs'.imp hent, by subst he; exact k v G hp⟩⟩⟩⟩
theorem CallK.extA {f : FuncId} {args : List Value} {o : Obj} {u : Nat → Value} (h : ∀ w, (callFunc f ⟨args⟩).run P w = .ok (.value (u w.heap.size)) { w with heap := w.heap.push o }) (k : ∀ b, W.heap.size ≤ b → K (u b) (pts b o • H)) : CallK P W f args H K Kp :=
 ⟨.inr fun w hs => ⟨_, _, _, h w, hs.alloc o, k _ hs.1.size⟩⟩
theorem CallK.extS {f : FuncId} {args : List Value} {a : Addr} {vs : List Value} {v : Value} {b k : Nat} {u : Value} [r : RdC W H ⟨b, k, none⟩ u] (h : ∀ w, w.cell? ⟨b, k, none⟩ = some u → (callFunc f ⟨args⟩).run P w = ((storeCells a vs 0).run P w).andThen fun _ w' => .ok (.value v) w') (ho : ∀ v ∈ vs, v.oneCell' = true) (st : St P W H a vs (fun H' => K v H')) : CallK P W f args H K Kp :=
 ⟨.inr fun w hs => by
  obtain ⟨w', H', h1, h2, h3⟩ := st.run w hs ho
  exact ⟨v, w', H', by rw [h w (r.h w hs), h1]; rfl, h2, h3⟩⟩
theorem CallK.extR {f : FuncId} {args : List Value} {b k : Nat} {u v : Value} [r : RdC W H ⟨b, k, none⟩ u] (h : ∀ w, w.cell? ⟨b, k, none⟩ = some u → (callFunc f ⟨args⟩).run P w = .ok (.value v) w) (kk : K v H) : CallK P W f args H K Kp :=
 ⟨.inr fun w hs => ⟨v, w, H, h w (r.h w hs), hs, kk⟩⟩
theorem OpX.asr {x : Operand} {s t : TypeId} {ok : Bool} {ty : TypeId} {u v : Value} (hx : ev x = some u) (h : ∀ w, (Instr.typeAssert u s t ok).run P w = .ok v w) (k : K v H) : OpX P W (.typeAssert x s t ok) ty ev H K Kp :=
 ⟨fun w ρ hs he o' ho hty => ⟨.value v, w, H, by
  obtain ⟨dst, op, ty', pos, after, guard⟩ := o'
  simp only at ho hty
  subst ho hty
  simp [execOp, he _ _ hx, h], hs, k⟩⟩
end
end Go.SL
namespace Go.Proofs.YtgcknlpkhhpkjaaGreatDoor
open Go Go.SL Go.SL.Sec Go.SL.Fld Go.SL.Pts Go.SL.Rec Go.SL.Twn Go.Extern.Stop Go.Stop Go.Extern
abbrev thd (t : TypeId) : Value := .agg ⟨[.pointer (some ⟨g_count, t, none⟩)]⟩
abbrev rty (t : TypeId) : Value := .iface t_rtype (thd t)
theorem x_valueOf (b : Nat) (w : World) : (callFunc x_internal_reflectlite_ValueOf ⟨[.iface t_zj (ptr b)]⟩).run prog w = .ok (.value (.agg ⟨[.pointer (some ⟨g_count, t_zj, none⟩), ptr w.heap.size, .int .u64 150]⟩)) { w with heap := w.heap.push (.cells ⟨[ptr b]⟩ t_zj) } := by
 rw [@run_callFunc_extern prog x_internal_reflectlite_ValueOf _ (fun args => ReflectliteValue.unpack (args.getD 0 (.tuple #[]))) x_internal_reflectlite_ValueOf.fn (by kernel_rfl) (by kernel_rfl) (by kernel_rfl) (by kernel_rfl)]
 kernel_rfl
theorem x_valueOfE (e : Int) (w : World) : (callFunc x_internal_reflectlite_ValueOf ⟨[.iface t_z2 (.int .i64 e)]⟩).run prog w = .ok (.value (.agg ⟨[.pointer (some ⟨g_count, t_z2, none⟩), ptr w.heap.size, .int .u64 130]⟩)) { w with heap := w.heap.push (.cells ⟨[.int .i64 e]⟩ t_z2) } := by
 rw [@run_callFunc_extern prog x_internal_reflectlite_ValueOf _ (fun args => ReflectliteValue.unpack (args.getD 0 (.tuple #[]))) x_internal_reflectlite_ValueOf.fn (by kernel_rfl) (by kernel_rfl) (by kernel_rfl) (by kernel_rfl)]
 kernel_rfl
theorem x_type (b : Nat) (w : World) : (callFunc x_internal_reflectlite_Value_Type ⟨[.agg ⟨[.pointer (some ⟨g_count, t_zj, none⟩), ptr b, .int .u64 150]⟩]⟩).run prog w = .ok (.value (rty t_zj)) w := by
 rw [@run_callFunc_extern prog x_internal_reflectlite_Value_Type _ (ReflectliteValue.methodAny (ReflectliteValue.valueError "reflectlite.Value.Type" 0) (fun t _ _ _ => ReflectliteType.toType t)) x_internal_reflectlite_Value_Type.fn (by kernel_rfl) (by kernel_rfl) (by kernel_rfl) (by kernel_rfl)]
 kernel_rfl
theorem x_kind (w : World) : (callMethod (rty t_zj) "Kind" #[]).run prog w = .ok (.value (.int .u8 22)) w := by kernel_rfl
theorem x_kindE (w : World) : (callMethod (rty t_z2) "Kind" #[]).run prog w = .ok (.value (.int .u8 2)) w := by kernel_rfl
theorem x_elem (w : World) : (callMethod (rty t_zj) "Elem" #[]).run prog w = .ok (.value (rty t_z2)) w := by kernel_rfl
theorem x_implements (w : World) : (callMethod (rty t_z2) "Implements" #[rty t_error]).run prog w = .ok (.value (.bool true)) w := by kernel_rfl
theorem x_assignN (w : World) : (callMethod (rty t_z5) "AssignableTo" #[rty t_z2]).run prog w = .ok (.value (.bool false)) w := by kernel_rfl
theorem x_assignY (w : World) : (callMethod (rty t_z2) "AssignableTo" #[rty t_z2]).run prog w = .ok (.value (.bool true)) w := by kernel_rfl
theorem x_unwrap (b : Nat) (w : World) : (callMethod (.iface t_z5 (ptr b)) "Unwrap" #[]).run prog w = .ok (.enter f_z3k ⟨[ptr b]⟩) w := by kernel_rfl
theorem x_typeOfF (b : Nat) (w : World) : (callFunc x_internal_reflectlite_TypeOf ⟨[.iface t_z5 (ptr b)]⟩).run prog w = .ok (.value (rty t_z5)) w := by
 rw [@run_callFunc_extern prog x_internal_reflectlite_TypeOf _ ReflectliteType.typeOf x_internal_reflectlite_TypeOf.fn (by kernel_rfl) (by kernel_rfl) (by kernel_rfl) (by kernel_rfl)]
 kernel_rfl
theorem x_typeOfE (e : Int) (w : World) : (callFunc x_internal_reflectlite_TypeOf ⟨[.iface t_z2 (.int .i64 e)]⟩).run prog w = .ok (.value (rty t_z2)) w := by
 rw [@run_callFunc_extern prog x_internal_reflectlite_TypeOf _ ReflectliteType.typeOf x_internal_reflectlite_TypeOf.fn (by kernel_rfl) (by kernel_rfl) (by kernel_rfl) (by kernel_rfl)]
 kernel_rfl
theorem rlm (z : Sem Value) (f : TypeId → Addr → Nat → Nat → Sem Value) (v : Value) :
  ReflectliteValue.method z f #[v] = (do match ← ReflectliteValue.parts v with | none => z | some (t, a, fl) => f t a fl (fl % 32)) := rfl
theorem x_parts (b : Nat) (w : World) : (ReflectliteValue.parts (.agg ⟨[.pointer (some ⟨g_count, t_zj, none⟩), ptr b, .int .u64 150]⟩)).run prog w = .ok (some (t_zj, ⟨b, 0, none⟩, 150)) w := by kernel_rfl
theorem x_isNil (b t : Nat) (w : World) (h : w.cell? ⟨b, 0, none⟩ = some (ptr t)) : (callFunc x_internal_reflectlite_Value_IsNil ⟨[.agg ⟨[.pointer (some ⟨g_count, t_zj, none⟩), ptr b, .int .u64 150]⟩]⟩).run prog w = .ok (.value (.bool false)) w := by
 rw [@run_callFunc_extern prog x_internal_reflectlite_Value_IsNil _ (ReflectliteValue.method (ReflectliteValue.valueError "reflectlite.Value.IsNil" 0) ReflectliteValue.isNil) x_internal_reflectlite_Value_IsNil.fn (by kernel_rfl) (by kernel_rfl) (by kernel_rfl) (by kernel_rfl)]
 rw [rlm]
 simp only [Sem.run_bind, x_parts, Result.andThen]
 simp [ReflectliteValue.isNil, loadVar, isAgg, underlying, h, Result.andThen]
theorem x_elemOf (w : World) : (Rtype.elem? t_zj).run prog w = .ok (some t_z2) w := by kernel_rfl
theorem x_mk (p : Addr) (w : World) : (ReflectliteValue.mk t_z2 p ReflectliteValue.flagAddr).run prog w = .ok (.agg ⟨[.pointer (some ⟨g_count, t_z2, none⟩), .pointer (some p), .int .u64 386]⟩) w := by kernel_rfl
theorem x_elemV (b t : Nat) (w : World) (h : w.cell? ⟨b, 0, none⟩ = some (ptr t)) : (callFunc x_internal_reflectlite_Value_Elem ⟨[.agg ⟨[.pointer (some ⟨g_count, t_zj, none⟩), ptr b, .int .u64 150]⟩]⟩).run prog w = .ok (.value (.agg ⟨[.pointer (some ⟨g_count, t_z2, none⟩), ptr t, .int .u64 386]⟩)) w := by
 rw [@run_callFunc_extern prog x_internal_reflectlite_Value_Elem _ (ReflectliteValue.method (ReflectliteValue.valueError "reflectlite.Value.Elem" 0) ReflectliteValue.elem) x_internal_reflectlite_Value_Elem.fn (by kernel_rfl) (by kernel_rfl) (by kernel_rfl) (by kernel_rfl)]
 rw [rlm]
 simp only [Sem.run_bind, x_parts, Result.andThen]
 simp [ReflectliteValue.elem, loadVar, isAgg, underlying, h, Result.andThen, x_elemOf, x_mk]
theorem rls (v x : Value) : ReflectliteValue.set #[v, x] = (do
  let (some (dst, a, fl), some (src, b, _)) := (← ReflectliteValue.parts v, ← ReflectliteValue.parts x)
   | unsupported (.noEntry "extern/(internal/reflectlite.Value).Set.zeroValue")
  if fl / ReflectliteValue.flagAddr % 2 == 0 then unsupported (.noEntry "extern/(internal/reflectlite.Value).Set.unaddressable")
  let val ← loadVar src b
  if ← Rtype.directlyAssignable dst src then storeVar dst a val
  else if ← Rtype.implements dst src then
   if (← Rtype.kind src) == 20 then
    match val with
    | .nilIface => unsupported (.noEntry "extern/reflectlite: a nil value of one interface type handed on as a value of another")
    | _ => storeVar dst a val
   else storeVar dst a (.iface src val)
  else panicString ("reflectlite.Set: value of type " ++ (← Rtype.spelt src) ++ " is not assignable to type " ++ (← Rtype.spelt dst))
  pure (.tuple #[])) := rfl
theorem x_partsA (b : Nat) (w : World) : (ReflectliteValue.parts (.agg ⟨[.pointer (some ⟨g_count, t_z2, none⟩), ptr b, .int .u64 386]⟩)).run prog w = .ok (some (t_z2, ⟨b, 0, none⟩, 386)) w := by kernel_rfl
theorem x_partsE (b : Nat) (w : World) : (ReflectliteValue.parts (.agg ⟨[.pointer (some ⟨g_count, t_z2, none⟩), ptr b, .int .u64 130]⟩)).run prog w = .ok (some (t_z2, ⟨b, 0, none⟩, 130)) w := by kernel_rfl
theorem x_direct (w : World) : (Rtype.directlyAssignable t_z2 t_z2).run prog w = .ok true w := by kernel_rfl
theorem x_set (tb sb : Nat) (e : Int) (w : World) (h : w.cell? ⟨sb, 0, none⟩ = some (.int .i64 e)) :
  (callFunc x_internal_reflectlite_Value_Set ⟨[.agg ⟨[.pointer (some ⟨g_count, t_z2, none⟩), ptr tb, .int .u64 386]⟩, .agg ⟨[.pointer (some ⟨g_count, t_z2, none⟩), ptr sb, .int .u64 130]⟩]⟩).run prog w = ((storeCells ⟨tb, 0, none⟩ [.int .i64 e] 0).run prog w).andThen fun _ w' => .ok (.value (.tuple #[])) w' := by
 rw [@run_callFunc_extern prog x_internal_reflectlite_Value_Set _ ReflectliteValue.set x_internal_reflectlite_Value_Set.fn (by kernel_rfl) (by kernel_rfl) (by kernel_rfl) (by kernel_rfl)]
 rw [rls]
 simp only [Sem.run_bind, x_partsA, x_partsE, Result.andThen]
 simp [ReflectliteValue.flagAddr, loadVar, isAgg, underlying, h, Result.andThen, x_direct, storeVar, Value.cells]
 cases Sem.run prog (storeCells ⟨tb, 0, none⟩ [Value.int IntKind.i64 e]) w <;> rfl
end Go.Proofs.YtgcknlpkhhpkjaaGreatDoor
/- The number within an error: errors.As at *api.Errno, walked. Conditions: in each statement. -/
namespace Go.Proofs.YtgcknlpkhhpkjaaGreatDoor
open Go Go.SL Go.SL.Sec Go.SL.Fld Go.SL.Pts Go.SL.Rec Go.SL.Twn
class LaidE (W : World) : Prop where
 et : W.cell? ⟨g_errors_errorType, 0, none⟩ = some (rty t_error)
instance (priority := 70) RdC.ety {W : World} {H : HProp} [l : LaidE W] [oc : OldC W H] : RdC W H ⟨g_errors_errorType, 0, none⟩ (rty t_error) := ⟨oc.h _ _ l.et⟩
theorem unwrap_spec {W : World} {R : HProp} {b : Nat} {w : ByteArray} {z e : Int} : Does prog W f_z3k ⟨[ptr b]⟩ (fltc b w z e • R) (Ret fun v G => v = .iface t_z2 (.int .i64 e) ∧ G = (fltc b w z e • R)) := by
 unfold fltc
 refine f_z3k.does _ ?_
 conv => whnf
 repeat' (first
  | (refine Ld.i ?_; conv => whnf))
 refine Ret.eq rfl ?_
 first | exact .refl _ | exact .drop | exact .fin | ((repeat refine .pick ?_); first | exact .refl _ | exact .emp _ | exact .fin)
theorem x_asrA (b : Nat) (w : World) : (Instr.typeAssert (.iface t_z5 (ptr b)) t_error t_z4e true).run prog w = .ok (.tuple ⟨[.nilIface, .bool false]⟩) w := Go.run_typeAssert_lacksB u_interface_Asinterface_bool (by kernel_rfl) (by kernel_rfl) _ _ w
theorem x_asrU (b : Nat) (w : World) : (Instr.typeAssert (.iface t_z5 (ptr b)) t_error t_interface_Unwrap_error true).run prog w = .ok (.tuple ⟨[.iface t_z5 (ptr b), .bool true]⟩) w := Go.run_typeAssert_hasB u_interface_Unwrap_error (by kernel_rfl) _ _ w
abbrev tval (b : Nat) : Value := .agg ⟨[.pointer (some ⟨g_count, t_zj, none⟩), ptr b, .int .u64 150]⟩
-- @noauto
theorem as_fault {W : World} {R : HProp} {vb tb b : Nat} {e o z : Int} {wd : ByteArray} {tg : Value} :
  Does prog W f_z3a ⟨[.iface t_z5 (ptr b), tg, tval vb, rty t_z2]⟩ (pts vb (.cells ⟨[ptr tb]⟩ t_zj) • pts tb (.cells ⟨[.int .i64 o]⟩ t_z2) • fltc b wd z e • R)
   (Ret fun v G => v = .bool true ∧ G = (pts vb (.cells ⟨[ptr tb]⟩ t_zj) • pts tb (.cells ⟨[.int .i64 e]⟩ t_z2) • fltc b wd z e • R)) := by
 refine f_z3a.does _ _ _ _ ?_
 conv => whnf
 repeat' (first
  | (intro blk hblk; conv => whnf))
 refine LoopK.rounds tab_ok (L := f_z3a.live) 2 ?_
 conv => whnf
 skip
 refine CallK.ext (x_typeOfF b) ?_
 conv => whnf
 skip
 refine OpX.inv (t := t_rtype) (v := thd t_z5) (l := [rty t_z2]) rfl rfl x_assignN ?_
 conv => whnf
 skip
 refine OpX.asr rfl (x_asrA b) ?_
 conv => whnf
 skip
 refine OpX.asr rfl (x_asrU b) ?_
 conv => whnf
 skip
 refine OpX.invD (t := t_z5) (v := ptr b) (l := []) (f := f_z3k) (a := [ptr b]) rfl rfl (x_unwrap b) (Does.imp (H' := fltc b wd z e • pts vb (.cells ⟨[ptr tb]⟩ t_zj) • pts tb (.cells ⟨[.int .i64 o]⟩ t_z2) • pts blk (.cells ⟨[.pointer (some ⟨g_count, t_zj, none⟩), ptr vb, .int .u64 150]⟩ t_reflectlite_Value) • R) (by first | exact .refl _ | exact .drop | exact .fin | ((repeat refine .pick ?_); first | exact .refl _ | exact .emp _ | exact .fin)) unwrap_spec) ?_
 rintro v G ⟨rfl, rfl⟩
 conv => whnf
 skip
 refine CallK.ext (x_typeOfE e) ?_
 conv => whnf
 skip
 refine OpX.inv (t := t_rtype) (v := thd t_z2) (l := [rty t_z2]) rfl rfl x_assignY ?_
 conv => whnf
 repeat' (first
  | (refine LdN.i ?_; conv => whnf))
 refine CallK.extR (b := vb) (k := 0) (u := ptr tb) (x_elemV vb tb) ?_
 conv => whnf
 skip
 refine CallK.extA (o := .cells ⟨[.int .i64 e]⟩ t_z2) (u := fun n => .agg ⟨[.pointer (some ⟨g_count, t_z2, none⟩), ptr n, .int .u64 130]⟩) (x_valueOfE e) (fun sb hsb => ?_)
 conv => whnf
 skip
 refine CallK.extS (a := ⟨tb, 0, none⟩) (vs := [.int .i64 e]) (v := .tuple ⟨[]⟩) (b := sb) (k := 0) (u := .int .i64 e) (x_set tb sb e) (by simp [Value.oneCell']) ?_
 refine (St.i (n := 1) ⟨rfl, rfl⟩ (List.cons_ne_nil _ _) ?_).k
 conv => whnf
 skip
 refine ⟨_, _, rfl, ?_, rfl, rfl⟩
 first | exact .refl _ | exact .drop | exact .fin | ((repeat refine .pick ?_); first | exact .refl _ | exact .emp _ | exact .fin)
-- @noauto
theorem eas_fault {W : World} {R : HProp} {tb b : Nat} {e o z : Int} {wd : ByteArray} [le : LaidE W] [oc : OldC W (fltc b wd z e • R)] :
  Does prog W f_z3n ⟨[.iface t_z5 (ptr b), .iface t_zj (ptr tb)]⟩ (pts tb (.cells ⟨[.int .i64 o]⟩ t_z2) • fltc b wd z e • R) (Ret fun v G => v = .bool true ∧ G = (pts tb (.cells ⟨[.int .i64 e]⟩ t_z2) • fltc b wd z e • R)) := by
 refine f_z3n.does _ _ ?_
 conv => whnf
 skip
 refine CallK.extA (o := .cells ⟨[ptr tb]⟩ t_zj) (u := fun n => .agg ⟨[.pointer (some ⟨g_count, t_zj, none⟩), ptr n, .int .u64 150]⟩) (x_valueOf tb) (fun vb hvb => ?_)
 conv => whnf
 repeat' (first
  | ((first | refine LdN.i ?_ | refine St.i ⟨rfl, rfl⟩ (List.cons_ne_nil _ _) ?_); conv => whnf)
  | (intro blk hblk; conv => whnf))
 refine CallK.ext (x_type vb) ?_
 conv => whnf
 skip
 refine OpX.inv (t := t_rtype) (v := thd t_zj) (l := []) rfl rfl x_kind ?_
 conv => whnf
 repeat' (first
  | (refine LdN.i ?_; conv => whnf))
 refine CallK.extR (b := vb) (k := 0) (u := ptr tb) (x_isNil vb tb) ?_
 conv => whnf
 skip
 refine OpX.inv (t := t_rtype) (v := thd t_zj) (l := []) rfl rfl x_elem ?_
 conv => whnf
 skip
 refine OpX.inv (t := t_rtype) (v := thd t_z2) (l := []) rfl rfl x_kindE ?_
 conv => whnf
 repeat' (first
  | (refine Ld.i ?_; conv => whnf))
 refine OpX.inv (t := t_rtype) (v := thd t_z2) (l := [rty t_error]) rfl rfl x_implements ?_
 conv => whnf
 repeat' (first
  | (refine LdN.i ?_; conv => whnf))
 refine CallK.ret f_z3a.ok (Does.imp (H' := pts vb (.cells ⟨[ptr tb]⟩ t_zj) • pts tb (.cells ⟨[.int .i64 o]⟩ t_z2) • fltc b wd z e • R) (by first | exact .refl _ | exact .drop | exact .fin | ((repeat refine .pick ?_); first | exact .refl _ | exact .emp _ | exact .fin)) as_fault) ?_
 rintro v G ⟨rfl, rfl⟩
 conv => whnf
 skip
 refine ⟨_, _, rfl, ?_, rfl, rfl⟩
 first | exact .refl _ | exact .drop | exact .fin | ((repeat refine .pick ?_); first | exact .refl _ | exact .emp _ | exact .fin)
-- @noauto
theorem code_fault {W : World} {R : HProp} {b : Nat} {e z : Int} {wd : ByteArray} [le : LaidE W] [oc : OldC W (fltc b wd z e • R)] :
  Does prog W f_zn ⟨[.iface t_z5 (ptr b)]⟩ (fltc b wd z e • R) (Ret fun v G => v = .int .i64 e ∧ G = (fltc b wd z e • R)) := by
 refine f_zn.does _ ?_
 conv => whnf
 repeat' (first
  | (intro blk hblk; conv => whnf))
 refine CallK.ret f_z3n.ok (eas_fault (R := R) (tb := blk) (o := 0) (e := e) (b := b) (z := z) (wd := wd)) ?_
 rintro v G ⟨rfl, rfl⟩
 conv => whnf
 repeat' (first
  | (refine Ld.i ?_; conv => whnf))
 refine ⟨_, _, rfl, ?_, rfl, rfl⟩
 first | exact .refl _ | exact .drop | exact .fin | ((repeat refine .pick ?_); first | exact .refl _ | exact .emp _ | exact .fin)
-- @noauto
theorem code_nil {W : World} {R : HProp} : Does prog W f_zn ⟨[.nilIface]⟩ R (Ret fun v G => v = i0 ∧ G = R) := by
 refine f_zn.does _ ?_
 conv => whnf
 skip
 refine Ret.eq rfl ?_
 first | exact .refl _ | exact .drop | exact .fin | ((repeat refine .pick ?_); first | exact .refl _ | exact .emp _ | exact .fin)
def ErrV (e : Int) (v : Value) (G : HProp) : Prop := (e = 0 ∧ v = .nilIface) ∨ (e ≠ 0 ∧ ∃ b w z G0, v = .iface t_z5 (ptr b) ∧ G = (fltc b w z e • G0))
-- @noauto
theorem code_any {W : World} {G : HProp} {e : Int} {v : Value} [le : LaidE W] [oc : OldC W G] (h : ErrV e v G) : Does prog W f_zn ⟨[v]⟩ G (Ret fun u Q => u = .int .i64 e ∧ Q = G) := by
 rcases h with ⟨rfl, rfl⟩ | ⟨_, b, w, z, G0, rfl, rfl⟩
 ·exact code_nil
 ·exact code_fault
end Go.Proofs.YtgcknlpkhhpkjaaGreatDoor
/- The program's package twin, walked: Read. Conditions: in each statement. -/
namespace Go.Proofs.YtgcknlpkhhpkjaaGreatDoor
open Go Go.SL Go.SL.Sec Go.SL.Fld Go.SL.Pts Go.SL.Rec Go.SL.Twn
theorem read_of {D : Dev} {i : Int} (hd : D.down = false) (h : 0 ≤ i ∧ i < D.secs) : D.read i = (0, D.at i) := by
 unfold Dev.read
 rw [if_neg (by rw [hd]; decide), if_neg (by omega)]
set_option maxHeartbeats 1000000 in
-- @noauto
theorem twread_yes {W : World} {H R : HProp} {d : Nat} {X : DevX} {z : Int} [t : DevC H d X R] (hX : X.Ok) (hq : X.ps.length ≤ 1000000) (hd : X.down = false) (ht : ThereP X.val.secs z 2) :
  Does prog W f_z12 ⟨[ptr d, .int .i64 z]⟩ H (Ret fun v G => ∃ a c, v = .tuple ⟨[.slice a 1024 c, .nilIface]⟩ ∧ G = (vec t_uint8 1 bytv a c (X.val.at z ++ X.val.at (z + 1)) • devo d X • R)) := by
 rw [t.h.eq]
 have hts := ht
 unfold ThereP at hts
 have hsec : 0 ≤ X.val.secs ∧ X.val.secs ≤ 8192 := by
  have := hX.len
  unfold Dev.secs DevX.val
  dsimp only
  omega
 have e1 := read_of (D := X.val) (i := z) hd (by omega)
 have e2 := read_of (D := X.val) (i := z + 1) hd (by omega)
 have l1 := (Dev.read_len (i := z) hX.val (by rw [e1])).1
 have l2 := (Dev.read_len (i := z + 1) hX.val (by rw [e2])).1
 have f1 : (X.val.read z).1 = 0 := by rw [e1]
 have f2 : (X.val.read (z + 1)).1 = 0 := by rw [e2]
 have g1 : (X.val.read z).2 = X.val.at z := by rw [e1]
 have g2 : (X.val.read (z + 1)).2 = X.val.at (z + 1) := by rw [e2]
 rw [g1] at l1
 rw [g2] at l2
 clear e1 e2
 have l3 : (X.val.at z ++ X.val.at (z + 1)).length = 1024 := by rw [List.length_append]; omega
 refine f_z12.does _ _ ?_
 conv => whnf
 repeat' (first
  | (refine CallK.ret f_z13.ok (running_ok (X := X) hd) ?_; rintro v G ⟨rfl, rfl⟩; conv => whnf)
  | (refine CallK.ret f_z1g.ok (there_spec (X := X) hX (by omega)) ?_; rw [decide_eq_true ht]; rintro v G ⟨rfl, rfl⟩; conv => whnf)
  | (refine CallK.ret f_twin_get.ok (tget_ok (X := X) (i := z) hX hq f1) ?_; rw [g1]; rintro v G ⟨a1, c1, hc1, rfl, rfl⟩; conv => whnf)
  | (refine CallK.ret f_twin_get.ok (tget_ok (X := X) (i := z + 1) hX hq f2) ?_; rw [g2]; rintro v G ⟨a2, c2, hc2, rfl, rfl⟩; conv => whnf)
  | ((first | refine St.i ⟨rfl, rfl⟩ (List.cons_ne_nil _ _) ?_ | refine Ar.i64 (by omega) ?_); conv => whnf)
  | (intro blk hblk; conv => whnf)
  | (refine CallK.ret f_zf.ok (tneed_ok) ?_; rintro v G ⟨rfl, rfl⟩; conv => whnf)
  | (refine OpX.appRg (xs := X.val.at z) (ys := X.val.at (z + 1)) tab_ok rfl rfl rfl rfl rfl l1.symm l2.symm (by omega) (fun a' c' => ?_); rw [l3]; conv => whnf))
 all_goals
  refine LeaveD.ret tab_ok (by simp) f_zw.ok (DDoes.imp (by first | exact .refl _ | exact .drop | exact .fin | ((repeat refine .pick ?_); first | exact .refl _ | exact .emp _ | exact .fin)) (read1_ok (v := .nilIface) (R := vec t_uint8 1 bytv a' c' (X.val.at z ++ X.val.at (z + 1)) • devo d X • R))) ?_
  rintro _ _ G ⟨rfl, rfl⟩
  conv => whnf
  repeat' (first
   | (refine Ld.i ?_; conv => whnf))
  refine ⟨_, _, rfl, ?_, a', c', rfl, rfl⟩
  first | exact .refl _ | exact .drop | exact .fin | ((repeat refine .pick ?_); first | exact .refl _ | exact .emp _ | exact .fin)
-- @noauto
theorem twread_no {W : World} {H R : HProp} {d : Nat} {X : DevX} {z : Int} [t : DevC H d X R] (hX : X.Ok) (hn : X.down = true ∨ ¬ ThereP X.val.secs z 2) :
  Does prog W f_z12 ⟨[ptr d, .int .i64 z]⟩ H (Ret fun v G => ∃ b, v = .tuple ⟨[.slice none 0 0, .iface t_z5 (ptr b)]⟩ ∧ G = (fltc b wRead 0 (if X.down then 40 else 4) • devo d X • R)) := by
 rw [t.h.eq]
 refine f_z12.does _ _ ?_
 conv => whnf
 cases hd : X.down with
 | true =>
  rw [if_pos rfl]
  repeat' (first
   | (refine CallK.thr f_z13.ok (running_no (X := X) hd) ?_; rintro c G ⟨rfl, rfl⟩; conv => whnf)
   | (intro blk hblk; conv => whnf))
  all_goals
   refine LeaveD.ret tab_ok (by simp) f_zw.ok (DDoes.imp (by first | exact .refl _ | exact .drop | exact .fin | ((repeat refine .pick ?_); first | exact .refl _ | exact .emp _ | exact .fin)) (read1_no (v := .nilIface) (e := 40) (R := devo d X • R) (older := []))) ?_
   rintro _ _ G ⟨b, rfl, rfl⟩
   conv => whnf
   repeat' (first
    | (refine Ld.i ?_; conv => whnf))
   refine ⟨_, _, rfl, ?_, b, rfl, rfl⟩
   first | exact .refl _ | exact .drop | exact .fin | ((repeat refine .pick ?_); first | exact .refl _ | exact .emp _ | exact .fin)
 | false =>
  rw [if_neg (by decide)]
  have ht : ¬ ThereP X.val.secs z 2 := hn.resolve_left (by rw [hd]; decide)
  repeat' (first
   | (refine CallK.ret f_z13.ok (running_ok (X := X) hd) ?_; rintro v G ⟨rfl, rfl⟩; conv => whnf)
   | (refine CallK.ret f_z1g.ok (there_spec (X := X) hX (by omega)) ?_; rw [decide_eq_false ht]; rintro v G ⟨rfl, rfl⟩; conv => whnf)
   | (intro blk hblk; conv => whnf)
   | (refine CallK.thr f_zf.ok (tneed_no) ?_; rintro c G ⟨rfl, rfl⟩; conv => whnf))
  all_goals
   refine LeaveD.ret tab_ok (by simp) f_zw.ok (DDoes.imp (by first | exact .refl _ | exact .drop | exact .fin | ((repeat refine .pick ?_); first | exact .refl _ | exact .emp _ | exact .fin)) (read1_no (v := .nilIface) (e := 4) (R := devo d X • R) (older := []))) ?_
   rintro _ _ G ⟨b, rfl, rfl⟩
   conv => whnf
   repeat' (first
    | (refine Ld.i ?_; conv => whnf))
   refine ⟨_, _, rfl, ?_, b, rfl, rfl⟩
   first | exact .refl _ | exact .drop | exact .fin | ((repeat refine .pick ?_); first | exact .refl _ | exact .emp _ | exact .fin)
end Go.Proofs.YtgcknlpkhhpkjaaGreatDoor
/- The program's package twin, walked: Write, its good way. Conditions: in each statement. -/
namespace Go.Proofs.YtgcknlpkhhpkjaaGreatDoor
open Go Go.SL Go.SL.Sec Go.SL.Fld Go.SL.Pts Go.SL.Rec Go.SL.Twn
def TwrQ (e : Int) (P : HProp → Prop) (v : Value) (G : HProp) : Prop := (e = 0 ∧ v = .nilIface ∧ P G) ∨ (e ≠ 0 ∧ ∃ k G0, v = .iface t_z5 (ptr k) ∧ G = (fltc k wWrite 0 e • G0) ∧ P G0)
set_option maxHeartbeats 1000000 in
-- @noauto
theorem twwrite_go {W : World} {H R : HProp} {d : Nat} {X : DevX} {z h : Int} {a : Option Addr} {n c : Nat} {b : List Int} [t : DevC H d X R] [ro : RowN W R a n 1 bytv b] (hX : X.Ok) (hq : X.ps.length ≤ 400000) (hb : b.length = 1024) (hc : 1024 ≤ c) (hby : Byt b) (hd : X.down = false) (h3 : ThereP X.val.secs z 3) (hm : TmayP X.val.secs z h) :
  Does prog W f_z2a ⟨[ptr d, .int .i64 z, .int .i64 h, .slice a n c]⟩ H (Ret (TwrQ (twW X.val z h b).1 fun G => ∃ X' : DevX, X'.Ok ∧ X'.val = (twW X.val z h b).2 ∧ X'.ps.length ≤ X.ps.length + 6 ∧ G = (devo d X' • R))) := by
 rw [t.h.eq]
 have hl := ro.len
 subst hl
 haveI r' := ro.row
 have hsec : 0 ≤ X.val.secs ∧ X.val.secs ≤ 8192 := by
  have := hX.len
  unfold Dev.secs DevX.val
  dsimp only
  omega
 have h3' := h3
 unfold ThereP at h3'
 have hm' := hm.1
 unfold ThereP at hm'
 obtain ⟨T, hT⟩ : ∃ T, T = twW X.val z h b := ⟨_, rfl⟩
 rw [← hT]
 have hdv : X.val.down = X.down := rfl
 unfold twW at hT
 rw [hdv, if_neg (by rw [hd]; decide), if_neg (fun k => k ⟨h3, hm⟩), if_neg (fun k => k hb)] at hT
 dsimp only at hT
 refine f_z2a.does _ _ _ _ ?_
 conv => whnf
 repeat' (first
  | (refine CallK.ret f_z13.ok (running_ok (X := X) hd) ?_; rintro v G ⟨rfl, rfl⟩; conv => whnf)
  | (refine CallK.ret f_z1g.ok (there_spec (X := X) hX (by omega)) ?_; rw [decide_eq_true h3]; rintro v G ⟨rfl, rfl⟩; conv => whnf)
  | (refine CallK.ret f_z2p.ok (tmay_spec (X := X) hX (by omega)) ?_; rw [decide_eq_true hm]; rintro v G ⟨rfl, rfl⟩; conv => whnf)
  | (rw [show decide ((b.length : Int) = 1024) = true from decide_eq_true (by omega)]; conv => whnf)
  | (refine Ar.i64 (by omega) ?_; conv => whnf)
  | (intro blk hblk; conv => whnf)
  | (refine CallK.ret f_zf.ok (tneed_ok) ?_; rintro v G ⟨rfl, rfl⟩; conv => whnf))
 obtain ⟨P1, hP1⟩ : ∃ P, P = pws (z + 1) b 2 0 X.val := ⟨_, rfl⟩
 rw [← hP1] at hT
 refine CallK.any f_z27.ok (put_go (X := X) (b := b) (n := 2) (R := pts _ (.cells ⟨[.nilIface]⟩ t_error) • R) inferInstance hX (by omega) (by omega) (by omega) (by omega) (by omega) hby rfl) ?_
 rw [← hP1]
 rintro en G ⟨⟨h0, rfl⟩ | ⟨h0, rfl⟩, X1, hX1, hv1, hq1, rfl⟩
 rotate_left
 ·rw [if_pos h0] at hT
  subst hT
  skip
  refine LeaveD.ret tab_ok (by simp) f_za.ok (DDoes.imp (by first | exact .refl _ | exact .drop | exact .fin | ((repeat refine .pick ?_); first | exact .refl _ | exact .emp _ | exact .fin)) (write1_no (v := .nilIface) (e := T.1) (R := devo d X1 • R) (older := []))) ?_
  rintro _ _ G ⟨b, rfl, rfl⟩
  conv => whnf
  repeat' (first
   | (refine Ld.i ?_; conv => whnf))
  refine ⟨_, _, rfl, ?_, .inr ⟨h0, b, _, rfl, rfl, X1, hX1, hv1, by omega, rfl⟩⟩
  first | exact .refl _ | exact .drop | exact .fin | ((repeat refine .pick ?_); first | exact .refl _ | exact .emp _ | exact .fin)
 rw [if_neg (fun k => k h0), ← hv1] at hT
 repeat' (first
  | (refine OpX.make tab_ok bytv 0 rfl rfl rfl rfl rfl rfl (by omega) (fun s hs => ?_); rw [show (Int.toNat 512) = 512 from rfl, ← t512_eq]; conv => whnf))
 refine LoopK.at tab_ok (L := f_z2a.live) (ι := Nat) (fun k => k ≤ 4) (fun k => [(34, .int .i64 k)]) (fun k => vec t_uint8 1 bytv (some ⟨s, 0, none⟩) 512 (putB t512 0 k h)) (fun k => 4 - k) 0 (by simp) (fun t v h => h) (by rw [putB_zero]; exact Imp.pick (Imp.refl _)) ?_
 rintro k hk
 conv => whnf
 have hlen : (putB t512 0 k h).length = 512 := by rw [putB_len (by rw [t512_len]; omega), t512_len]
 by_cases h2 : k < 4
 ·have hzk : 0 + k < t512.length := by rw [t512_len]; omega
  repeat' (first
   | (refine Shr.v (8 * k) (by omega) (by simp [IntKind.bits]; omega) ?_; rw [p256]; conv => whnf)
   | (refine spl_dec (fun hd => ?_) (fun hd => ?_) <;> first | (exfalso; omega) | (conv => whnf))
   | (refine Ar.i64 (by omega) ?_; conv => whnf)
   | (refine IxS.v (i := 0 + k) (xs := putB t512 0 k h) (by omega) hlen.symm (by omega) (fun ab off' ha => ?_); cases ha; conv => whnf)
   | ((first | refine Ar.u8w ?_ | refine St.v0 (putB_get hzk) (h / 256 ^ k % 256) rfl (Nat.le_refl _) ⟨rfl, rfl⟩ ?_); conv => whnf))
  rw [putB_succ hzk]
  exact ⟨rfl, k + 1, by omega, fun t v h => h, Imp.refl _, by omega⟩
 have hmk : putB t512 0 k h = mark4 h := by rw [show k = 4 by omega]; rfl
 rw [hmk] at hlen ⊢
 have hbm : Byt (mark4 h) := mark4_byt
 have hms : ∀ st, (mark4 h).set 511 st = Twn.mark h st := fun st => rfl
 clear hmk
 obtain ⟨M4, hM4⟩ : ∃ M, M = mark4 h := ⟨_, rfl⟩
 rw [← hM4] at hlen hbm hms ⊢
 clear hM4
 obtain ⟨y, hy⟩ : ∃ y, M4[511]? = some y := ⟨_, List.getElem?_eq_getElem (by omega)⟩
 have lmk : ∀ st, (Twn.mark h st).length = 512 := fun st => by rw [← hms, List.length_set]; exact hlen
 have bmk : ∀ st, 0 ≤ st ∧ st < 256 → Byt (Twn.mark h st) := fun st k => hms st ▸ Byt.set hbm k
 repeat' (first
  | (refine spl_dec (fun hd => ?_) (fun hd => ?_) <;> first | (exfalso; omega) | (conv => whnf))
  | (refine IxS.v (i := 511) (xs := M4) rfl hlen.symm (by omega) (fun ab off' ha => ?_); cases ha; conv => whnf)
  | (refine St.v0 (i := 511) hy 165 rfl (by decide) ⟨rfl, rfl⟩ ?_; conv => whnf))
 rw [hms]
 obtain ⟨P2, hP2⟩ : ∃ P, P = pws z (Twn.mark h 165) 1 0 X1.val := ⟨_, rfl⟩
 rw [← hP2] at hT
 refine CallK.imp (H' := (devo d X1 • vec t_uint8 1 bytv (some ⟨s, 0, none⟩) 512 (Twn.mark h 165) • pts _ (.cells ⟨[.nilIface]⟩ t_error) • R)) (by first | exact .refl _ | exact .drop | exact .fin | ((repeat refine .pick ?_); first | exact .refl _ | exact .emp _ | exact .fin)) ?_
 refine CallK.any f_z27.ok (put_go (nn := 512) (X := X1) (b := Twn.mark h 165) (n := 1) inferInstance hX1 (by omega) (by omega) (by rw [lmk]) (by omega) (by rw [lmk]; exact Nat.le_refl _) (bmk _ (by omega)) (lmk _).symm) ?_
 rw [← hP2]
 clear h0
 rintro en G ⟨⟨h0, rfl⟩ | ⟨h0, rfl⟩, X2, hX2, hv2, hq2, rfl⟩
 rotate_left
 ·rw [if_pos h0] at hT
  subst hT
  skip
  refine LeaveD.ret tab_ok (by simp) f_za.ok (DDoes.imp (by first | exact .refl _ | exact .drop | exact .fin | ((repeat refine .pick ?_); first | exact .refl _ | exact .emp _ | exact .fin)) (write1_no (v := .nilIface) (e := T.1) (R := devo d X2 • R) (older := []))) ?_
  rintro _ _ G ⟨b, rfl, rfl⟩
  conv => whnf
  repeat' (first
   | (refine Ld.i ?_; conv => whnf))
  refine ⟨_, _, rfl, ?_, .inr ⟨h0, b, _, rfl, rfl, X2, hX2, hv2, by omega, rfl⟩⟩
  first | exact .refl _ | exact .drop | exact .fin | ((repeat refine .pick ?_); first | exact .refl _ | exact .emp _ | exact .fin)
 rw [if_neg (fun k => k h0), ← hv2] at hT
 skip
 obtain ⟨P3, hP3⟩ : ∃ P, P = pws h b 2 0 X2.val := ⟨_, rfl⟩
 rw [← hP3] at hT
 refine CallK.any f_z27.ok (put_go (X := X2) (b := b) (n := 2) (R := vec t_uint8 1 bytv (some ⟨s, 0, none⟩) 512 (Twn.mark h 165) • pts _ (.cells ⟨[.nilIface]⟩ t_error) • R) inferInstance hX2 (by omega) (by omega) (by omega) (by omega) (by omega) hby rfl) ?_
 rw [← hP3]
 clear h0
 rintro en G ⟨⟨h0, rfl⟩ | ⟨h0, rfl⟩, X3, hX3, hv3, hq3, rfl⟩
 rotate_left
 ·rw [if_pos h0] at hT
  subst hT
  skip
  refine LeaveD.ret tab_ok (by simp) f_za.ok (DDoes.imp (by first | exact .refl _ | exact .drop | exact .fin | ((repeat refine .pick ?_); first | exact .refl _ | exact .emp _ | exact .fin)) (write1_no (v := .nilIface) (e := T.1) (R := devo d X3 • R) (older := []))) ?_
  rintro _ _ G ⟨b, rfl, rfl⟩
  conv => whnf
  repeat' (first
   | (refine Ld.i ?_; conv => whnf))
  refine ⟨_, _, rfl, ?_, .inr ⟨h0, b, _, rfl, rfl, X3, hX3, hv3, by omega, rfl⟩⟩
  first | exact .refl _ | exact .drop | exact .fin | ((repeat refine .pick ?_); first | exact .refl _ | exact .emp _ | exact .fin)
 rw [if_neg (fun k => k h0), ← hv3] at hT
 obtain ⟨y2, hy2⟩ : ∃ y, (Twn.mark h 165)[511]? = some y := ⟨_, List.getElem?_eq_getElem (Nat.lt_of_lt_of_eq (by decide : 511 < 512) (lmk _).symm)⟩
 repeat' (first
  | (refine IxS.v (i := 511) (xs := Twn.mark h 165) rfl (lmk _).symm (Nat.lt_of_lt_of_eq (by decide : 511 < 512) (lmk _).symm) (fun ab off' ha => ?_); cases ha; conv => whnf)
  | (refine St.v0 (i := 511) hy2 0 rfl (by decide) ⟨rfl, rfl⟩ ?_; conv => whnf))
 rw [show (Twn.mark h 165).set 511 0 = Twn.mark h 0 by rw [← hms, ← hms, List.set_set]]
 obtain ⟨P4, hP4⟩ : ∃ P, P = pws z (Twn.mark h 0) 1 0 X3.val := ⟨_, rfl⟩
 rw [← hP4] at hT
 refine CallK.imp (H' := (devo d X3 • vec t_uint8 1 bytv (some ⟨s, 0, none⟩) 512 (Twn.mark h 0) • pts _ (.cells ⟨[.nilIface]⟩ t_error) • R)) (by first | exact .refl _ | exact .drop | exact .fin | ((repeat refine .pick ?_); first | exact .refl _ | exact .emp _ | exact .fin)) ?_
 refine CallK.any f_z27.ok (put_go (nn := 512) (X := X3) (b := Twn.mark h 0) (n := 1) inferInstance hX3 (by omega) (by omega) (by rw [lmk]) (by omega) (by rw [lmk]; exact Nat.le_refl _) (bmk _ (by omega)) (lmk _).symm) ?_
 rw [← hP4]
 clear h0
 rintro en G ⟨⟨h0, rfl⟩ | ⟨h0, rfl⟩, X4, hX4, hv4, hq4, rfl⟩
 rotate_left
 ·subst hT
  skip
  refine LeaveD.ret tab_ok (by simp) f_za.ok (DDoes.imp (by first | exact .refl _ | exact .drop | exact .fin | ((repeat refine .pick ?_); first | exact .refl _ | exact .emp _ | exact .fin)) (write1_no (v := .nilIface) (e := T.1) (R := devo d X4 • R) (older := []))) ?_
  rintro _ _ G ⟨b, rfl, rfl⟩
  conv => whnf
  repeat' (first
   | (refine Ld.i ?_; conv => whnf))
  refine ⟨_, _, rfl, ?_, .inr ⟨h0, b, _, rfl, rfl, X4, hX4, hv4, by omega, rfl⟩⟩
  first | exact .refl _ | exact .drop | exact .fin | ((repeat refine .pick ?_); first | exact .refl _ | exact .emp _ | exact .fin)
 subst hT
 repeat' (first
  | (refine St.i ⟨rfl, rfl⟩ (List.cons_ne_nil _ _) ?_; conv => whnf))
 refine LeaveD.ret tab_ok (by simp) f_za.ok (DDoes.imp (by first | exact .refl _ | exact .drop | exact .fin | ((repeat refine .pick ?_); first | exact .refl _ | exact .emp _ | exact .fin)) (write1_ok (v := .nilIface) (R := devo d X4 • R))) ?_
 rintro _ _ G ⟨rfl, rfl⟩
 conv => whnf
 repeat' (first
  | (refine Ld.i ?_; conv => whnf))
 refine ⟨_, _, rfl, ?_, .inl ⟨h0, rfl, X4, hX4, hv4, by omega, rfl⟩⟩
 first | exact .refl _ | exact .drop | exact .fin | ((repeat refine .pick ?_); first | exact .refl _ | exact .emp _ | exact .fin)
end Go.Proofs.YtgcknlpkhhpkjaaGreatDoor
/- The program's package twin, walked: Finish. Conditions: in each statement. -/
namespace Go.SL
open Go
theorem CallK.have {P : Program} {W : World} {H : HProp} {p : Prop} {f : FuncId} {args : List Value} {K : Value → HProp → Prop} {Kp : List PanicEntry → HProp → Prop} (h : ∀ w, Sat W H w → p) (k : p → CallK P W f args H K Kp) : CallK P W f args H K Kp := by
 by_cases hp : p
 ·exact k hp
 ·exact ⟨.inr fun w hs => absurd (h w hs) hp⟩
end Go.SL
namespace Go.SL.Twn
open Go Go.SL Go.SL.Sec Go.SL.Fld Go.SL.Pts Go.SL.Rec
open Go.Proofs.YtgcknlpkhhpkjaaGreatDoor (zerosB)
def fin (D : Dev) (z : Int) : Int × Bool × Dev :=
 if D.down then (40, false, D) else if ¬ ThereP D.secs z 3 then (4, false, D) else
 if (D.at z)[511]? = some 0 then (0, false, D) else
 let h := getB (D.at z) 0 4
 if ¬ ((D.at z)[511]? = some 165 ∧ zerosB (((D.at z).drop 4).take 507) = true ∧ TmayP D.secs z h) then (84, false, D) else
 let r1 := pws h (D.at (z + 1) ++ D.at (z + 2)) 2 0 D
 if r1.1 ≠ 0 then (r1.1, false, r1.2) else
 let r2 := pws z ((D.at z).set 511 0) 1 0 r1.2
 if r2.1 ≠ 0 then (r2.1, false, r2.2) else (0, true, r2.2)
theorem Dev.at_byt {D : Dev} {i : Int} (h : D.Ok) : Byt (D.at i) := by
 unfold Dev.at
 cases hl : lastOf i D.q with
 | none => exact (h.byt.drop _).take _
 | some b =>
  obtain ⟨p, hp, rfl⟩ := lastOf_mem hl
  exact (h.q p hp).2.2.2
end Go.SL.Twn
namespace Go.Proofs.YtgcknlpkhhpkjaaGreatDoor
open Go Go.SL Go.SL.Sec Go.SL.Fld Go.SL.Pts Go.SL.Rec Go.SL.Twn
abbrev wFinish : ByteArray := ⟨#[70, 105, 110, 105, 115, 104]⟩
def FinQ (e : Int) (done : Bool) (P : HProp → Prop) (v : Value) (G : HProp) : Prop := (e = 0 ∧ v = .tuple ⟨[.bool done, .nilIface]⟩ ∧ P G) ∨ (e ≠ 0 ∧ ∃ k G0, v = .tuple ⟨[.bool false, .iface t_z5 (ptr k)]⟩ ∧ G = (fltc k wFinish 0 e • G0) ∧ P G0)
end Go.Proofs.YtgcknlpkhhpkjaaGreatDoor
