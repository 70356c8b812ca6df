/- What the model carries out by itself in errors.As at *api.Errno. Conditions: in each statement. -/
import Derived.Test.YtbcedpankkdfoaaGreatDoorPart18
import Derived.Test.YtbcedpankkdfoaaGreatDoorPart23
import Derived.LaidEql
import Derived.Stop.Asserts
import Derived.RowKitTokens
import Derived.Test.YtbcedpankkdfoaaGreatDoorPart22
namespace Go.SL
open Go
section
variable {P:Program} {W:World} {H:HProp} {ev:Operand → Option Value} {K:Value → HProp → Prop} {Kp:List PanicEntry → HProp → Prop}
theorem inv_run {x:Operand} {args:List Operand} {tys:Array TypeId} {name:String} {t:TypeId} {v:Value} {l:List Value} {ρ:Operand → Value} {o':Oper}
  (hx:ev x = some (.iface t v)) (ha:args.mapM ev = some l) (he:∀ x v,ev x = some v → ρ x = v) (ho:o'.op = .call ⟨.invoke x name,⟨args⟩,tys⟩) (w:World) :
  (execOp ρ o').run P w = (callMethod (.iface t v) name ⟨l⟩).run P w:=by
 have hm:args.map ρ = l:=by
  clear ho
  induction args generalizing l with
  | nil=>simp at ha;subst ha;rfl
  | cons y r ih =>
   simp only [List.mapM_cons] at ha
   cases hy:ev y with
   | none=>rw [hy] at ha;cases ha
   | some u =>
    rw [hy] at ha
    cases hr:r.mapM ev with
    | none=>rw [hr] at ha;cases ha
    | some l2 =>
     rw [hr] at ha
     cases ha
     rw [List.map_cons,ih hr,he _ _ hy]
 simp [execOp,ho,resolve,invoke,he _ _ hx,hm]
theorem OpX.inv {x:Operand} {args:List Operand} {tys:Array TypeId} {name:String} {ty:TypeId} {t:TypeId} {v u:Value} {l:List Value}
  (hx:ev x = some (.iface t v)) (ha:args.mapM ev = some l) (h:∀ w,(callMethod (.iface t v) name ⟨l⟩).run P w = .ok (.value u) w) (k:K u H):OpX P W (.call ⟨.invoke x name,⟨args⟩,tys⟩) ty ev H K Kp :=
 ⟨fun w _ hs he _ ho _=>⟨.value u,w,H,(inv_run hx ha he ho w).trans (h w),hs,k⟩⟩
theorem OpX.invD {x:Operand} {args:List Operand} {tys:Array TypeId} {name:String} {ty:TypeId} {t:TypeId} {v:Value} {l:List Value} {f:FuncId} {a:List Value} {post:Value → HProp → Prop}
  (hx:ev x = some (.iface t v)) (ha:args.mapM ev = some l) (h:∀ w,(callMethod (.iface t v) name ⟨l⟩).run P w = .ok (.enter f ⟨a⟩) w) (hd:Does P W f ⟨a⟩ H (Ret post)) (k:∀ v G,post v G → K v G):OpX P W (.call ⟨.invoke x name,⟨args⟩,tys⟩) ty ev H K Kp :=
 ⟨fun w _ hs he _ ho _=>⟨.enter f ⟨a⟩,w,H,(inv_run hx ha he ho w).trans (h w),hs,⟨fun w hs=>(hd.run w hs).mono fun e w' ⟨H',hs',v,G,he,hent,hp⟩=>⟨G,hs'.imp hent,by subst he;exact k v G hp⟩⟩⟩⟩
theorem CallK.extA {f:FuncId} {args:List Value} {o:Obj} {u:Nat → Value} (h:∀ w,(callFunc f ⟨args⟩).run P w = .ok (.value (u w.heap.size)) { w with heap:=w.heap.push o }) (k:∀ b,W.heap.size ≤ b → K (u b) (pts b o•H)):CallK P W f args H K Kp :=
 ⟨.inr fun w hs=>⟨_,_,_,h w,hs.alloc o,k _ hs.1.size⟩⟩
theorem CallK.extS {f:FuncId} {args:List Value} {a:Addr} {vs:List Value} {v:Value} {b k:Nat} {u:Value} [r:RdC W H ⟨b,k,none⟩ u] (h:∀ w,w.cell? ⟨b,k,none⟩ = some u → (callFunc f ⟨args⟩).run P w = ((storeCells a vs 0).run P w).andThen fun _ w'=>.ok (.value v) w') (ho:∀ v ∈ vs,v.oneCell' = true) (st:St P W H a vs (fun H'=>K v H')):CallK P W f args H K Kp :=
 ⟨.inr fun w hs=>by
  obtain ⟨w',H',h1,h2,h3⟩:=st.run w hs ho
  exact ⟨v,w',H',by rw [h w (r.h w hs),h1];rfl,h2,h3⟩⟩
theorem CallK.extR {f:FuncId} {args:List Value} {b k:Nat} {u v:Value} [r:RdC W H ⟨b,k,none⟩ u] (h:∀ w,w.cell? ⟨b,k,none⟩ = some u → (callFunc f ⟨args⟩).run P w = .ok (.value v) w) (kk:K v H):CallK P W f args H K Kp :=
 ⟨.inr fun w hs=>⟨v,w,H,h w (r.h w hs),hs,kk⟩⟩
theorem OpX.asr {x:Operand} {s t:TypeId} {ok:Bool} {ty:TypeId} {u v:Value} (hx:ev x = some u) (h:∀ w,(Instr.typeAssert u s t ok).run P w = .ok v w) (k:K v H):OpX P W (.typeAssert x s t ok) ty ev H K Kp :=
 ⟨fun w ρ hs he o' ho hty=>⟨.value v,w,H,by
  obtain ⟨dst,op,ty',pos,after,guard⟩:=o'
  simp only at ho hty
  subst ho hty
  simp [execOp,he _ _ hx,h],hs,k⟩⟩
end
end Go.SL
namespace Go.Proofs.YtbcedpankkdfoaaGreatDoor
open Go Go.SL Go.SL.Sec Go.SL.Fld Go.SL.Pts Go.SL.Rec Go.SL.Twn Go.Extern.Stop Go.Stop Go.Extern
abbrev thd (t:TypeId):Value:=.agg ⟨[.pointer (some ⟨g_count,t,none⟩)]⟩
abbrev rty (t:TypeId):Value:=.iface t_rtype (thd t)
theorem x_valueOf (b:Nat) (w:World):(callFunc x_internal_reflectlite_ValueOf ⟨[.iface t_zn (ptr b)]⟩).run prog w = .ok (.value (.agg ⟨[.pointer (some ⟨g_count,t_zn,none⟩),ptr w.heap.size,.int .u64 150]⟩)) { w with heap:=w.heap.push (.cells ⟨[ptr b]⟩ t_zn) }:=by
 rw [@run_callFunc_extern prog x_internal_reflectlite_ValueOf _ (fun args=>ReflectliteValue.unpack (args.getD 0 (.tuple #[]))) x_internal_reflectlite_ValueOf.fn (by kernel_rfl) (by kernel_rfl) (by kernel_rfl) (by kernel_rfl)]
 kernel_rfl
theorem x_valueOfE (e:Int) (w:World):(callFunc x_internal_reflectlite_ValueOf ⟨[.iface t_z3 (.int .i64 e)]⟩).run prog w = .ok (.value (.agg ⟨[.pointer (some ⟨g_count,t_z3,none⟩),ptr w.heap.size,.int .u64 130]⟩)) { w with heap:=w.heap.push (.cells ⟨[.int .i64 e]⟩ t_z3) }:=by
 rw [@run_callFunc_extern prog x_internal_reflectlite_ValueOf _ (fun args=>ReflectliteValue.unpack (args.getD 0 (.tuple #[]))) x_internal_reflectlite_ValueOf.fn (by kernel_rfl) (by kernel_rfl) (by kernel_rfl) (by kernel_rfl)]
 kernel_rfl
theorem x_type (b:Nat) (w:World):(callFunc x_internal_reflectlite_Value_Type ⟨[.agg ⟨[.pointer (some ⟨g_count,t_zn,none⟩),ptr b,.int .u64 150]⟩]⟩).run prog w = .ok (.value (rty t_zn)) w:=by
 rw [@run_callFunc_extern prog x_internal_reflectlite_Value_Type _ (ReflectliteValue.methodAny (ReflectliteValue.valueError "reflectlite.Value.Type" 0) (fun t _ _ _ => ReflectliteType.toType t)) x_internal_reflectlite_Value_Type.fn (by kernel_rfl) (by kernel_rfl) (by kernel_rfl) (by kernel_rfl)]
 kernel_rfl
theorem x_kind (w : World) : (callMethod (rty t_zn) "Kind" #[]).run prog w = .ok (.value (.int .u8 22)) w := by kernel_rfl
theorem x_kindE (w : World) : (callMethod (rty t_z3) "Kind" #[]).run prog w = .ok (.value (.int .u8 2)) w := by kernel_rfl
theorem x_elem (w : World) : (callMethod (rty t_zn) "Elem" #[]).run prog w = .ok (.value (rty t_z3)) w := by kernel_rfl
theorem x_implements (w : World) : (callMethod (rty t_z3) "Implements" #[rty t_error]).run prog w = .ok (.value (.bool true)) w := by kernel_rfl
theorem x_assignN (w : World) : (callMethod (rty t_z5) "AssignableTo" #[rty t_z3]).run prog w = .ok (.value (.bool false)) w := by kernel_rfl
theorem x_assignY (w : World) : (callMethod (rty t_z3) "AssignableTo" #[rty t_z3]).run prog w = .ok (.value (.bool true)) w := by kernel_rfl
theorem x_unwrap (b : Nat) (w : World) : (callMethod (.iface t_z5 (ptr b)) "Unwrap" #[]).run prog w = .ok (.enter f_z3q ⟨[ptr b]⟩) w := by kernel_rfl
theorem x_typeOfF (b:Nat) (w:World):(callFunc x_internal_reflectlite_TypeOf ⟨[.iface t_z5 (ptr b)]⟩).run prog w = .ok (.value (rty t_z5)) w:=by
 rw [@run_callFunc_extern prog x_internal_reflectlite_TypeOf _ ReflectliteType.typeOf x_internal_reflectlite_TypeOf.fn (by kernel_rfl) (by kernel_rfl) (by kernel_rfl) (by kernel_rfl)]
 kernel_rfl
theorem x_typeOfE (e:Int) (w:World):(callFunc x_internal_reflectlite_TypeOf ⟨[.iface t_z3 (.int .i64 e)]⟩).run prog w = .ok (.value (rty t_z3)) w:=by
 rw [@run_callFunc_extern prog x_internal_reflectlite_TypeOf _ ReflectliteType.typeOf x_internal_reflectlite_TypeOf.fn (by kernel_rfl) (by kernel_rfl) (by kernel_rfl) (by kernel_rfl)]
 kernel_rfl
theorem rlm (z:Sem Value) (f:TypeId → Addr → Nat → Nat → Sem Value) (v:Value) :
  ReflectliteValue.method z f #[v] = (do match ← ReflectliteValue.parts v with|none=>z|some (t,a,fl)=>f t a fl (fl % 32)):=rfl
theorem x_parts (b:Nat) (w:World):(ReflectliteValue.parts (.agg ⟨[.pointer (some ⟨g_count,t_zn,none⟩),ptr b,.int .u64 150]⟩)).run prog w = .ok (some (t_zn,⟨b,0,none⟩,150)) w:=by kernel_rfl
theorem x_isNil (b t:Nat) (w:World) (h:w.cell? ⟨b,0,none⟩ = some (ptr t)):(callFunc x_internal_reflectlite_Value_IsNil ⟨[.agg ⟨[.pointer (some ⟨g_count,t_zn,none⟩),ptr b,.int .u64 150]⟩]⟩).run prog w = .ok (.value (.bool false)) w:=by
 rw [@run_callFunc_extern prog x_internal_reflectlite_Value_IsNil _ (ReflectliteValue.method (ReflectliteValue.valueError "reflectlite.Value.IsNil" 0) ReflectliteValue.isNil) x_internal_reflectlite_Value_IsNil.fn (by kernel_rfl) (by kernel_rfl) (by kernel_rfl) (by kernel_rfl)]
 rw [rlm]
 simp only [Sem.run_bind,x_parts,Result.andThen]
 simp [ReflectliteValue.isNil,loadVar,isAgg,underlying,h,Result.andThen]
theorem x_elemOf (w:World):(Rtype.elem? t_zn).run prog w = .ok (some t_z3) w:=by kernel_rfl
theorem x_mk (p:Addr) (w:World):(ReflectliteValue.mk t_z3 p ReflectliteValue.flagAddr).run prog w = .ok (.agg ⟨[.pointer (some ⟨g_count,t_z3,none⟩),.pointer (some p),.int .u64 386]⟩) w:=by kernel_rfl
theorem x_elemV (b t:Nat) (w:World) (h:w.cell? ⟨b,0,none⟩ = some (ptr t)):(callFunc x_internal_reflectlite_Value_Elem ⟨[.agg ⟨[.pointer (some ⟨g_count,t_zn,none⟩),ptr b,.int .u64 150]⟩]⟩).run prog w = .ok (.value (.agg ⟨[.pointer (some ⟨g_count,t_z3,none⟩),ptr t,.int .u64 386]⟩)) w:=by
 rw [@run_callFunc_extern prog x_internal_reflectlite_Value_Elem _ (ReflectliteValue.method (ReflectliteValue.valueError "reflectlite.Value.Elem" 0) ReflectliteValue.elem) x_internal_reflectlite_Value_Elem.fn (by kernel_rfl) (by kernel_rfl) (by kernel_rfl) (by kernel_rfl)]
 rw [rlm]
 simp only [Sem.run_bind,x_parts,Result.andThen]
 simp [ReflectliteValue.elem,loadVar,isAgg,underlying,h,Result.andThen,x_elemOf,x_mk]
theorem rls (v x:Value):ReflectliteValue.set #[v,x] = (do
  let (some (dst,a,fl),some (src,b,_)):=(← ReflectliteValue.parts v,← ReflectliteValue.parts x)
   | unsupported (.noEntry "extern/(internal/reflectlite.Value).Set.zeroValue")
  if fl / ReflectliteValue.flagAddr % 2 == 0 then unsupported (.noEntry "extern/(internal/reflectlite.Value).Set.unaddressable")
  let val ← loadVar src b
  if ← Rtype.directlyAssignable dst src then storeVar dst a val
  else if ← Rtype.implements dst src then
   if (← Rtype.kind src) == 20 then
    match val with
    | .nilIface => unsupported (.noEntry "extern/reflectlite: a nil value of one interface type handed on as a value of another")
    | _=>storeVar dst a val
   else storeVar dst a (.iface src val)
  else panicString ("reflectlite.Set: value of type " ++ (← Rtype.spelt src) ++ " is not assignable to type " ++ (← Rtype.spelt dst))
  pure (.tuple #[])):=rfl
theorem x_partsA (b:Nat) (w:World):(ReflectliteValue.parts (.agg ⟨[.pointer (some ⟨g_count,t_z3,none⟩),ptr b,.int .u64 386]⟩)).run prog w = .ok (some (t_z3,⟨b,0,none⟩,386)) w:=by kernel_rfl
theorem x_partsE (b:Nat) (w:World):(ReflectliteValue.parts (.agg ⟨[.pointer (some ⟨g_count,t_z3,none⟩),ptr b,.int .u64 130]⟩)).run prog w = .ok (some (t_z3,⟨b,0,none⟩,130)) w:=by kernel_rfl
theorem x_direct (w:World):(Rtype.directlyAssignable t_z3 t_z3).run prog w = .ok true w:=by kernel_rfl
theorem x_set (tb sb:Nat) (e:Int) (w:World) (h:w.cell? ⟨sb,0,none⟩ = some (.int .i64 e)) :
  (callFunc x_internal_reflectlite_Value_Set ⟨[.agg ⟨[.pointer (some ⟨g_count,t_z3,none⟩),ptr tb,.int .u64 386]⟩,.agg ⟨[.pointer (some ⟨g_count,t_z3,none⟩),ptr sb,.int .u64 130]⟩]⟩).run prog w = ((storeCells ⟨tb,0,none⟩ [.int .i64 e] 0).run prog w).andThen fun _ w'=>.ok (.value (.tuple #[])) w':=by
 rw [@run_callFunc_extern prog x_internal_reflectlite_Value_Set _ ReflectliteValue.set x_internal_reflectlite_Value_Set.fn (by kernel_rfl) (by kernel_rfl) (by kernel_rfl) (by kernel_rfl)]
 rw [rls]
 simp only [Sem.run_bind,x_partsA,x_partsE,Result.andThen]
 simp [ReflectliteValue.flagAddr,loadVar,isAgg,underlying,h,Result.andThen,x_direct,storeVar,Value.cells]
 cases Sem.run prog (storeCells ⟨tb,0,none⟩ [Value.int IntKind.i64 e]) w <;> rfl
end Go.Proofs.YtbcedpankkdfoaaGreatDoor
/- The number within an error: errors.As at *api.Errno, walked. Conditions: in each statement. -/
namespace Go.Proofs.YtbcedpankkdfoaaGreatDoor
open Go Go.SL Go.SL.Sec Go.SL.Fld Go.SL.Pts Go.SL.Rec Go.SL.Twn
class LaidE (W:World):Prop where
 et:W.cell? ⟨g_errors_errorType,0,none⟩ = some (rty t_error)
instance (priority:=70) RdC.ety {W:World} {H:HProp} [l:LaidE W] [oc:OldC W H]:RdC W H ⟨g_errors_errorType,0,none⟩ (rty t_error):=⟨oc.h _ _ l.et⟩
theorem unwrap_spec {W:World} {R:HProp} {b:Nat} {w:ByteArray} {z e:Int}:Does prog W f_z3q ⟨[ptr b]⟩ (fltc b w z e•R) (Ret fun v G=>v = .iface t_z3 (.int .i64 e) ∧ G = (fltc b w z e•R)):=by
 unfold fltc
 refine f_z3q.does _ ?_
 conv=>whnf
 repeat' (first
  | (refine Ld.i ?_;conv=>whnf))
 refine Ret.eq rfl ?_
 first|exact .refl _|exact .drop|exact .fin|((repeat refine .pick ?_);first|exact .refl _|exact .emp _|exact .fin)
theorem x_asrA (b:Nat) (w:World):(Instr.typeAssert (.iface t_z5 (ptr b)) t_error t_z4g true).run prog w = .ok (.tuple ⟨[.nilIface,.bool false]⟩) w:=Go.run_typeAssert_lacksB u_interface_Asinterface_bool (by kernel_rfl) (by kernel_rfl) _ _ w
theorem x_asrU (b:Nat) (w:World):(Instr.typeAssert (.iface t_z5 (ptr b)) t_error t_interface_Unwrap_error true).run prog w = .ok (.tuple ⟨[.iface t_z5 (ptr b),.bool true]⟩) w:=Go.run_typeAssert_hasB u_interface_Unwrap_error (by kernel_rfl) _ _ w
abbrev tval (b:Nat):Value:=.agg ⟨[.pointer (some ⟨g_count,t_zn,none⟩),ptr b,.int .u64 150]⟩
theorem as_fault {W:World} {R:HProp} {vb tb b:Nat} {e o z:Int} {wd:ByteArray} {tg:Value} :
  Does prog W f_z3g ⟨[.iface t_z5 (ptr b),tg,tval vb,rty t_z3]⟩ (pts vb (.cells ⟨[ptr tb]⟩ t_zn)•pts tb (.cells ⟨[.int .i64 o]⟩ t_z3)•fltc b wd z e•R)
   (Ret fun v G=>v = .bool true ∧ G = (pts vb (.cells ⟨[ptr tb]⟩ t_zn)•pts tb (.cells ⟨[.int .i64 e]⟩ t_z3)•fltc b wd z e•R)):=by
 refine f_z3g.does _ _ _ _ ?_
 conv=>whnf
 repeat' (first
  | (intro blk hblk;conv=>whnf))
 refine LoopK.rounds tab_ok (L:=f_z3g.live) 2 ?_
 conv=>whnf
 skip
 refine CallK.ext (x_typeOfF b) ?_
 conv=>whnf
 skip
 refine OpX.inv (t:=t_rtype) (v:=thd t_z5) (l:=[rty t_z3]) rfl rfl x_assignN ?_
 conv=>whnf
 skip
 refine OpX.asr rfl (x_asrA b) ?_
 conv=>whnf
 skip
 refine OpX.asr rfl (x_asrU b) ?_
 conv=>whnf
 skip
 refine OpX.invD (t:=t_z5) (v:=ptr b) (l:=[]) (f:=f_z3q) (a:=[ptr b]) rfl rfl (x_unwrap b) (Does.imp (H':=fltc b wd z e•pts vb (.cells ⟨[ptr tb]⟩ t_zn)•pts tb (.cells ⟨[.int .i64 o]⟩ t_z3)•pts blk (.cells ⟨[.pointer (some ⟨g_count,t_zn,none⟩),ptr vb,.int .u64 150]⟩ t_reflectlite_Value)•R) (by first|exact .refl _|exact .drop|exact .fin|((repeat refine .pick ?_);first|exact .refl _|exact .emp _|exact .fin)) unwrap_spec) ?_
 rintro v G ⟨rfl,rfl⟩
 conv=>whnf
 skip
 refine CallK.ext (x_typeOfE e) ?_
 conv=>whnf
 skip
 refine OpX.inv (t:=t_rtype) (v:=thd t_z3) (l:=[rty t_z3]) rfl rfl x_assignY ?_
 conv=>whnf
 repeat' (first
  | (refine LdN.i ?_;conv=>whnf))
 refine CallK.extR (b:=vb) (k:=0) (u:=ptr tb) (x_elemV vb tb) ?_
 conv=>whnf
 skip
 refine CallK.extA (o:=.cells ⟨[.int .i64 e]⟩ t_z3) (u:=fun n=>.agg ⟨[.pointer (some ⟨g_count,t_z3,none⟩),ptr n,.int .u64 130]⟩) (x_valueOfE e) (fun sb hsb=>?_)
 conv=>whnf
 skip
 refine CallK.extS (a:=⟨tb,0,none⟩) (vs:=[.int .i64 e]) (v:=.tuple ⟨[]⟩) (b:=sb) (k:=0) (u:=.int .i64 e) (x_set tb sb e) (by simp [Value.oneCell']) ?_
 refine (St.i (n:=1) ⟨rfl,rfl⟩ (List.cons_ne_nil _ _) ?_).k
 conv=>whnf
 skip
 refine ⟨_,_,rfl,?_,rfl,rfl⟩
 first|exact .refl _|exact .drop|exact .fin|((repeat refine .pick ?_);first|exact .refl _|exact .emp _|exact .fin)
theorem eas_fault {W:World} {R:HProp} {tb b:Nat} {e o z:Int} {wd:ByteArray} [le:LaidE W] [oc:OldC W (fltc b wd z e•R)] :
  Does prog W f_z3t ⟨[.iface t_z5 (ptr b),.iface t_zn (ptr tb)]⟩ (pts tb (.cells ⟨[.int .i64 o]⟩ t_z3)•fltc b wd z e•R) (Ret fun v G=>v = .bool true ∧ G = (pts tb (.cells ⟨[.int .i64 e]⟩ t_z3)•fltc b wd z e•R)):=by
 refine f_z3t.does _ _ ?_
 conv=>whnf
 skip
 refine CallK.extA (o:=.cells ⟨[ptr tb]⟩ t_zn) (u:=fun n=>.agg ⟨[.pointer (some ⟨g_count,t_zn,none⟩),ptr n,.int .u64 150]⟩) (x_valueOf tb) (fun vb hvb=>?_)
 conv=>whnf
 repeat' (first
  | ((first|refine LdN.i ?_|refine St.i ⟨rfl,rfl⟩ (List.cons_ne_nil _ _) ?_);conv=>whnf)
  | (intro blk hblk;conv=>whnf))
 refine CallK.ext (x_type vb) ?_
 conv=>whnf
 skip
 refine OpX.inv (t:=t_rtype) (v:=thd t_zn) (l:=[]) rfl rfl x_kind ?_
 conv=>whnf
 repeat' (first
  | (refine LdN.i ?_;conv=>whnf))
 refine CallK.extR (b:=vb) (k:=0) (u:=ptr tb) (x_isNil vb tb) ?_
 conv=>whnf
 skip
 refine OpX.inv (t:=t_rtype) (v:=thd t_zn) (l:=[]) rfl rfl x_elem ?_
 conv=>whnf
 skip
 refine OpX.inv (t:=t_rtype) (v:=thd t_z3) (l:=[]) rfl rfl x_kindE ?_
 conv=>whnf
 repeat' (first
  | (refine Ld.i ?_;conv=>whnf))
 refine OpX.inv (t:=t_rtype) (v:=thd t_z3) (l:=[rty t_error]) rfl rfl x_implements ?_
 conv=>whnf
 repeat' (first
  | (refine LdN.i ?_;conv=>whnf))
 refine CallK.ret f_z3g.ok (Does.imp (H':=pts vb (.cells ⟨[ptr tb]⟩ t_zn)•pts tb (.cells ⟨[.int .i64 o]⟩ t_z3)•fltc b wd z e•R) (by first|exact .refl _|exact .drop|exact .fin|((repeat refine .pick ?_);first|exact .refl _|exact .emp _|exact .fin)) as_fault) ?_
 rintro v G ⟨rfl,rfl⟩
 conv=>whnf
 skip
 refine ⟨_,_,rfl,?_,rfl,rfl⟩
 first|exact .refl _|exact .drop|exact .fin|((repeat refine .pick ?_);first|exact .refl _|exact .emp _|exact .fin)
theorem code_fault {W:World} {R:HProp} {b:Nat} {e z:Int} {wd:ByteArray} [le:LaidE W] [oc:OldC W (fltc b wd z e•R)] :
  Does prog W f_zx ⟨[.iface t_z5 (ptr b)]⟩ (fltc b wd z e•R) (Ret fun v G=>v = .int .i64 e ∧ G = (fltc b wd z e•R)):=by
 refine f_zx.does _ ?_
 conv=>whnf
 repeat' (first
  | (intro blk hblk;conv=>whnf))
 refine CallK.ret f_z3t.ok (eas_fault (R:=R) (tb:=blk) (o:=0) (e:=e) (b:=b) (z:=z) (wd:=wd)) ?_
 rintro v G ⟨rfl,rfl⟩
 conv=>whnf
 repeat' (first
  | (refine Ld.i ?_;conv=>whnf))
 refine ⟨_,_,rfl,?_,rfl,rfl⟩
 first|exact .refl _|exact .drop|exact .fin|((repeat refine .pick ?_);first|exact .refl _|exact .emp _|exact .fin)
theorem code_nil {W:World} {R:HProp}:Does prog W f_zx ⟨[.nilIface]⟩ R (Ret fun v G=>v = i0 ∧ G = R):=by
 refine f_zx.does _ ?_
 conv=>whnf
 skip
 refine Ret.eq rfl ?_
 first|exact .refl _|exact .drop|exact .fin|((repeat refine .pick ?_);first|exact .refl _|exact .emp _|exact .fin)
def ErrV (e:Int) (v:Value) (G:HProp):Prop:=(e = 0 ∧ v = .nilIface) ∨ (e ≠ 0 ∧ ∃ b w z G0,v = .iface t_z5 (ptr b) ∧ G = (fltc b w z e•G0))
theorem code_any {W:World} {G:HProp} {e:Int} {v:Value} [le:LaidE W] [oc:OldC W G] (h:ErrV e v G):Does prog W f_zx ⟨[v]⟩ G (Ret fun u Q=>u = .int .i64 e ∧ Q = G):=by
 rcases h with ⟨rfl,rfl⟩|⟨_,b,w,z,G0,rfl,rfl⟩
 ·exact code_nil
 ·exact code_fault
end Go.Proofs.YtbcedpankkdfoaaGreatDoor
/- The program's page.Encode, walked. Conditions: in each statement. -/
namespace Go.SL.Pg
open Go Go.SL Go.SL.Sec Go.SL.Fld Go.SL.Rec
theorem cntL_ok {c:CntV} (h:cntF c = 0):∀ p ∈ cntL c,(1 ≤ p.1 ∧ p.1 ≤ 8) ∧ 0 ≤ p.2 ∧ p.2 < 256 ^ p.1:=by
 obtain ⟨h1,h2,h3⟩:=cntF_ok h
 have b3:=u64_bd c.lo
 have b4:=u64_bd c.hi
 have b5:=u64_bd c.val
 have e1:=u64_small (z:=c.id) (by omega)
 have e2:=u64_small (z:=c.grp) (by omega)
 intro p hp
 simp only [cntL,List.mem_cons,List.not_mem_nil,or_false] at hp
 rcases hp with rfl|rfl|rfl|rfl|rfl
 ·exact ⟨by simp,by rw [e1,p4];omega⟩
 ·exact ⟨by simp,by rw [e2,p4];omega⟩
 ·exact ⟨by simp,by rw [p8];exact b3⟩
 ·exact ⟨by simp,by rw [p8];exact b4⟩
 ·exact ⟨by simp,by rw [p8];exact b5⟩
theorem grpL_ok {g:GrpV} (h:grpF g = 0):∀ p ∈ grpL g,(1 ≤ p.1 ∧ p.1 ≤ 8) ∧ 0 ≤ p.2 ∧ p.2 < 256 ^ p.1:=by
 have h1:=grpF_ok h
 have b2:=u64_bd g.sum
 have e1:=u64_small (z:=g.id) (by omega)
 intro p hp
 simp only [grpL,List.mem_cons,List.not_mem_nil,or_false] at hp
 rcases hp with rfl|rfl
 ·exact ⟨by simp,by rw [e1,p4];omega⟩
 ·exact ⟨by simp,by rw [p8];exact b2⟩
theorem headL_ok {p:PgM} (h:p.fault = 0):∀ q ∈ p.headL,(1 ≤ q.1 ∧ q.1 ≤ 8) ∧ 0 ≤ q.2 ∧ q.2 < 256 ^ q.1:=by
 obtain ⟨h1,h2,h3,h4,h5,h6⟩:=PgM.fault_ok h
 have e1:=u64_small (z:=p.num) (by omega)
 have e2:=u64_small (z:=p.lsn) (by omega)
 intro q hq
 simp only [PgM.headL,List.mem_cons,List.not_mem_nil,or_false] at hq
 rcases hq with rfl|rfl|rfl|rfl|rfl|rfl
 ·exact ⟨by simp,by decide⟩
 ·refine ⟨by simp,?_⟩
  dsimp only
  rw [p1]
  split <;> omega
 ·exact ⟨by simp,by rw [e1,p2];omega⟩
 ·exact ⟨by simp,by rw [p2];dsimp only;omega⟩
 ·exact ⟨by simp,by decide⟩
 ·exact ⟨by simp,by rw [e2,p4];omega⟩
theorem flat_take1 {α:Type} {f:α → List Int} {l:List α} {i:Nat} {x:α} (h:l[i]? = some x):(l.take (i + 1)).flatMap f = (l.take i).flatMap f ++ f x:=by
 rw [List.take_add_one,h,List.flatMap_append];simp
end Go.SL.Pg
namespace Go.Proofs.YtbcedpankkdfoaaGreatDoor
open Go Go.SL Go.SL.Sec Go.SL.Fld Go.SL.Pts Go.SL.Rec Go.SL.Pg
section
variable {W:World} {R:HProp} {num lsn:Int} {ca ga:Option Addr} {nC cc nG gc:Nat} {C:List CntV} {G:List GrpV}
theorem pencode_no [rc:RowN W R ca nC 5 cntv C] [rg:RowN W R ga nG 2 grpv G] (hC:C.length ≤ 1000000000) (hG:G.length ≤ 1000000000) (hf:PgM.fault ⟨num,lsn,C,G⟩ ≠ 0) :
  Does prog W f_zi ⟨[.agg ⟨[.int .i64 num,.int .i64 lsn,.slice ca nC cc,.slice ga nG gc]⟩]⟩ R (Ret fun v Q=>v = .tuple ⟨[.slice none 0 0,.int .i64 (PgM.fault ⟨num,lsn,C,G⟩)]⟩ ∧ Q = R):=by
 obtain ⟨F,hF⟩:∃ F,F = PgM.fault ⟨num,lsn,C,G⟩:=⟨_,rfl⟩
 rw [← hF] at hf ⊢
 refine f_zi.does _ ?_
 conv=>whnf
 repeat' (first
  | (refine CallK.ret f_z1b.ok (refused_spec hC hG) ?_;rw [← hF];rintro v G ⟨rfl,rfl⟩;conv=>whnf)
  | (rw [decide_eq_false hf];conv=>whnf)
  | (refine LdN.i ?_;conv=>whnf)
  | (intro blk hblk;conv=>whnf))
 refine Ret.eq rfl ?_
 first|exact .refl _|exact .drop|exact .fin|((repeat refine .pick ?_);first|exact .refl _|exact .emp _|exact .fin)
set_option maxHeartbeats 2000000 in
theorem pencode_yes [lc:LaidC W] [lp:LaidP W] [oc:OldC W R] [rc:RowN W R ca nC 5 cntv C] [rg:RowN W R ga nG 2 grpv G] (hf:PgM.fault ⟨num,lsn,C,G⟩ = 0) :
  Does prog W f_zi ⟨[.agg ⟨[.int .i64 num,.int .i64 lsn,.slice ca nC cc,.slice ga nG gc]⟩]⟩ R (Ret fun v Q=>∃ a c,1024 ≤ c ∧ v = .tuple ⟨[.slice a 1024 c,i0]⟩ ∧ Q = (vec t_uint8 1 bytv a c (encP ⟨num,lsn,C,G⟩)•R)):=by
 have h1:=rc.len
 have h2:=rg.len
 subst h1 h2
 haveI rC:=rc.row
 haveI rG:=rg.row
 obtain ⟨f1,f2,f3,f4,f5,f6⟩:=PgM.fault_ok hf
 dsimp only at f1 f2 f3 f4 f5 f6
 obtain ⟨cC,cG⟩:=contF_mem f6
 haveI:=lp.h1
 haveI:=lp.c1
 haveI:=lp.gr1
 refine f_zi.does _ ?_
 conv=>whnf
 by_cases hn:C.length + G.length = 0
 ·have e:encP ⟨num,lsn,C,G⟩ = z1024:=by unfold encP;rw [if_pos hn]
  rw [e]
  repeat' (first
   | (refine CallK.ret f_z1b.ok (refused_spec (C:=C) (G:=G) (by omega) (by omega)) ?_;rw [hf];rintro v G ⟨rfl,rfl⟩;conv=>whnf)
   | (refine CallK.ret f_z2h.ok (size_spec (by omega) (by omega)) ?_;rw [hn];rintro v G ⟨rfl,rfl⟩;conv=>whnf)
   | (refine LdN.i ?_;conv=>whnf)
   | (intro blk hblk;conv=>whnf)
   | (refine OpX.make tab_ok bytv 0 rfl rfl rfl rfl rfl rfl (by omega) (fun s hs=>?_);rw [show List.replicate (Int.toNat 1024) (0:Int) = z1024 from rfl,show Int.toNat 1024 = 1024 from rfl];conv=>whnf))
  refine ⟨_,_,rfl,?_,some ⟨s,0,none⟩,1024,Nat.le_refl _,rfl,rfl⟩
  first|exact .refl _|exact .drop|exact .fin|((repeat refine .pick ?_);first|exact .refl _|exact .emp _|exact .fin)
 obtain ⟨z,hz⟩:∃ z:Nat,z = C.length + G.length:=⟨_,rfl⟩
 have hz0:¬ ((z:Nat):Int) = 0:=by omega
 have hH:∀ kd:Int,kd = (if G.length > 0 then 2 else 1) → [(1,113),(1,kd),(2,num),(2,(z:Int)),(2,0),(4,lsn)] = PgM.headL ⟨num,lsn,C,G⟩:=fun kd hk=>by
  unfold PgM.headL
  dsimp only
  rw [hk,hz,u64_small (z:=num) (by omega),u64_small (z:=lsn) (by omega)]
 obtain ⟨hd12,hhd⟩:∃ h,h = over z1024 0 (lays (PgM.headL ⟨num,lsn,C,G⟩)):=⟨_,rfl⟩
 have hhl:hd12.length = 1024:=by rw [hhd,over_len (by rw [headL_len,z1024_len];omega),z1024_len]
 have hcf:∀ i,((C.take i).flatMap fun c=>lays (cntL c)).length = min i C.length * 32:=fun i=>by rw [flat_len cntL_len,List.length_take]
 have hgf:∀ i,((G.take i).flatMap fun g=>lays (grpL g)).length = min i G.length * 12:=fun i=>by rw [flat_len grpL_len,List.length_take]
 by_cases hg:G.length > 0
 ·repeat' (first
   | (refine CallK.ret f_z1b.ok (refused_spec (C:=C) (G:=G) (by omega) (by omega)) ?_;rw [hf];rintro v G ⟨rfl,rfl⟩;conv=>whnf)
   | (refine OpX.make tab_ok bytv 0 rfl rfl rfl rfl rfl rfl (by omega) (fun s hs=>?_);rw [show List.replicate (Int.toNat 1024) (0:Int) = z1024 from rfl,show Int.toNat 1024 = 1024 from rfl];conv=>whnf)
   | (refine CallK.ret f_z2h.ok (size_spec (by omega) (by omega)) ?_;rw [← hz];rintro v G ⟨rfl,rfl⟩;conv=>whnf)
   | (rw [decide_eq_false hz0];conv=>whnf)
   | (refine spl_dec (fun hd=>?_) (fun hd=>?_) <;> first|(exfalso;omega)|(conv=>whnf))
   | ((first|refine Ld.i ?_|refine LdN.i ?_|refine Ar.u64 (by omega) ?_);conv=>whnf)
   | (intro blk hblk;conv=>whnf)
   | (refine Sub.on (by first|exact .refl _|exact .drop|exact .fin|((repeat refine .pick ?_);first|exact .refl _|exact .emp _|exact .fin)) ?_;conv=>whnf)
   | (refine DrawK.introH tab_ok mixed 25 f_zi.last10 f_zi.plan10 _ rfl (by kernel_rfl) (Sub.of (by first|exact .refl _|exact .drop|exact .fin|((repeat refine .pick ?_);first|exact .refl _|exact .emp _|exact .fin))) ?_;conv=>whnf))
  refine CallK.ret f_z1y.ok (plaid_spec (l:=z1024) (z:=0) (PgM.headL ⟨num,lsn,C,G⟩) (rs:=⟨inferInstance,rfl⟩) (rn:=⟨inferInstance,rfl⟩) z1024_len.symm rfl (by rw [← hH 2 (by rw [if_pos hg])];rfl) ⟨by omega,by rw [z1024_len];simp [PgM.headL,laysN]⟩ (by rw [z1024_len];decide) (headL_ok hf) (by simp [PgM.headL])) ?_
  rw [show Int.toNat 0 = 0 from rfl,← hhd]
  rintro v Q ⟨rfl,rfl⟩
  conv=>whnf
  repeat' (first
   | (refine Ld.i ?_;conv=>whnf))
  refine LoopK.at tab_ok (L:=f_zi.live) (ι:=Nat) (fun i=>i ≤ C.length) (fun i=>[(42,.int .i64 i)]) (fun i=>vec t_uint8 1 bytv (some ⟨s,0,none⟩) 1024 (over hd12 16 ((C.take i).flatMap fun c=>lays (cntL c)))) (fun i=>C.length - i) 0 (Nat.zero_le _) (fun t v h=>h) (by rw [List.take_zero,List.flatMap_nil,over_nil];exact Imp.refl _) ?_
  rintro i hi
  conv=>whnf
  have hfl:=hcf i
  have hol:(over hd12 16 ((C.take i).flatMap fun c=>lays (cntL c))).length = 1024:=by rw [over_len (by rw [hfl];omega),hhl]
  by_cases k1:i < C.length
  ·exact absurd k1 (by omega)
  ·rw [List.take_of_length_le (by omega)]
   have hcl:(C.flatMap fun c=>lays (cntL c)).length = C.length * 32:=flat_len cntL_len C
   repeat' (first
    | (refine spl_dec (fun hd=>?_) (fun hd=>?_) <;> first|(exfalso;omega)|(conv=>whnf))
    | (refine Ld.i ?_;conv=>whnf))
   refine LoopK.at tab_ok (L:=f_zi.live) (ι:=Nat) (fun i=>i ≤ G.length) (fun i=>[(75,.int .i64 i)]) (fun i=>vec t_uint8 1 bytv (some ⟨s,0,none⟩) 1024 (over hd12 16 ((C.flatMap fun c=>lays (cntL c)) ++ (G.take i).flatMap fun g=>lays (grpL g)))) (fun i=>G.length - i) 0 (Nat.zero_le _) (fun t v h=>h) (by rw [List.take_zero,List.flatMap_nil,List.append_nil];exact Imp.refl _) ?_
   rintro j hj
   conv=>whnf
   have hgl:=hgf j
   have hol2:(over hd12 16 ((C.flatMap fun c=>lays (cntL c)) ++ (G.take j).flatMap fun g=>lays (grpL g))).length = 1024:=by rw [over_len (by rw [List.length_append,hcl,hgl,hhl];omega),hhl]
   by_cases k2:j < G.length
   ·obtain ⟨x,hx⟩:∃ x,G[j]? = some x:=⟨_,List.getElem?_eq_getElem k2⟩
    have cf:=cG x (List.mem_of_getElem? hx)
    have hxb:=grpF_ok cf
    repeat' (first
     | (refine spl_dec (fun hd=>?_) (fun hd=>?_) <;> first|(exfalso;omega)|(conv=>whnf))
     | ((first|refine Ld.i ?_|refine St.i ⟨rfl,rfl⟩ (List.cons_ne_nil _ _) ?_|refine Ar.i64 (by omega) ?_|refine Ar.u64 (by omega) ?_);conv=>whnf)
     | (intro blk hblk;conv=>whnf)
     | (refine IxS.r (i:=j) rfl rfl k2 (fun ab off ha=>?_);cases ha;conv=>whnf)
     | ((first|refine LdN.r hx rfl ?_|refine Ar.u64w ?_);conv=>whnf))
    refine CallK.ret f_z1y.ok (plaid_spec (l:=over hd12 16 ((C.flatMap fun c=>lays (cntL c)) ++ (G.take j).flatMap fun g=>lays (grpL g))) (z:=16 + (j:Int) * 12) (grpL x) (rs:=⟨inferInstance,rfl⟩) (rn:=⟨inferInstance,rfl⟩) hol2.symm rfl (by simp only [grpL,List.map_cons,List.map_nil];rw [u64_small (z:=x.id) (by omega)];rfl) ⟨by omega,by rw [hol2];simp only [grpL,laysN];omega⟩ (by rw [hol2];decide) (grpL_ok cf) (by simp [grpL])) ?_
    rintro v Q ⟨rfl,rfl⟩
    conv=>whnf
    have e:over (over hd12 16 ((C.flatMap fun c=>lays (cntL c)) ++ (G.take j).flatMap fun g=>lays (grpL g))) (16 + (j:Int) * 12).toNat (lays (grpL x)) = over hd12 16 ((C.flatMap fun c=>lays (cntL c)) ++ (G.take (j + 1)).flatMap fun g=>lays (grpL g)):=by
     rw [flat_take1 hx,← List.append_assoc,show (16 + (j:Int) * 12).toNat = 16 + ((C.flatMap fun c=>lays (cntL c)) ++ (G.take j).flatMap fun g=>lays (grpL g)).length by rw [List.length_append,hcl,hgl];omega]
     exact over_over (by rw [List.length_append,hcl,hgl,hhl];omega)
    rw [e]
    repeat' (first
     | (refine Ar.i64 (by omega) ?_;conv=>whnf))
    all_goals
     refine ⟨rfl,j + 1,k2,fun t v h=>h,?_,by omega⟩
     first|exact .refl _|exact .drop|exact .fin|((repeat refine .pick ?_);first|exact .refl _|exact .emp _|exact .fin)
   ·rw [List.take_of_length_le (l:=G) (by omega)] at hol2 ⊢
    obtain ⟨B,hB⟩:∃ B,B = over hd12 16 ((C.flatMap fun c=>lays (cntL c)) ++ G.flatMap fun g=>lays (grpL g)):=⟨_,rfl⟩
    have hBb:B = PgM.bare ⟨num,lsn,C,G⟩:=by rw [hB,hhd];rfl
    have hBy:Byt B:=by rw [hBb];exact over_byt (over_byt z1024_byt (lays_byt _)) (body_byt _)
    rw [← hB] at hol2 ⊢
    have hsb:=crc_bd (B.take 12 ++ [0,0,0,0] ++ B.drop 16)
    obtain ⟨cs,hcs⟩:∃ c,c = sumP B:=⟨_,rfl⟩
    rw [show crcV (B.take 12 ++ [0,0,0,0] ++ B.drop 16) = sumP B from rfl,← hcs] at hsb
    repeat' (first
     | (refine CallK.ret f_zk.ok (psum_spec (l:=B) hol2.symm hol2 (Nat.le_refl _) hBy) ?_;rw [← hcs];rintro v Q ⟨rfl,rfl⟩;conv=>whnf)
     | (refine spl_dec (fun hd=>?_) (fun hd=>?_) <;> first|(exfalso;omega)|(conv=>whnf))
     | (refine Ar.u64 (by omega) ?_;conv=>whnf)
     | (intro blk hblk;conv=>whnf))
    refine CallK.ret f_z1y.ok (plaid_spec (l:=B) (z:=12) [(4,cs)] (rs:=⟨inferInstance,rfl⟩) (rn:=⟨inferInstance,rfl⟩) hol2.symm rfl rfl ⟨by omega,by rw [hol2];simp [laysN]⟩ (by rw [hol2];decide) (by simp only [List.mem_cons,List.not_mem_nil,or_false];rintro p rfl;exact ⟨by simp,by rw [p4];exact hsb⟩) (by simp)) ?_
    rintro v Q ⟨rfl,rfl⟩
    have e:over B (Int.toNat 12) (lays [(4,cs)]) = encP ⟨num,lsn,C,G⟩:=by
     unfold encP
     rw [if_neg hn,← hBb,hcs]
     show over B 12 (Fld.leB 4 _ ++ []) = _
     rw [List.append_nil]
    rw [e]
    conv=>whnf
    skip
    refine ⟨_,_,rfl,?_,some ⟨s,0,none⟩,1024,Nat.le_refl _,rfl,rfl⟩
    first|exact .refl _|exact .drop|exact .fin|((repeat refine .pick ?_);first|exact .refl _|exact .emp _|exact .fin)
 ·repeat' (first
   | (refine CallK.ret f_z1b.ok (refused_spec (C:=C) (G:=G) (by omega) (by omega)) ?_;rw [hf];rintro v G ⟨rfl,rfl⟩;conv=>whnf)
   | (refine OpX.make tab_ok bytv 0 rfl rfl rfl rfl rfl rfl (by omega) (fun s hs=>?_);rw [show List.replicate (Int.toNat 1024) (0:Int) = z1024 from rfl,show Int.toNat 1024 = 1024 from rfl];conv=>whnf)
   | (refine CallK.ret f_z2h.ok (size_spec (by omega) (by omega)) ?_;rw [← hz];rintro v G ⟨rfl,rfl⟩;conv=>whnf)
   | (rw [decide_eq_false hz0];conv=>whnf)
   | (refine spl_dec (fun hd=>?_) (fun hd=>?_) <;> first|(exfalso;omega)|(conv=>whnf))
   | ((first|refine Ld.i ?_|refine LdN.i ?_|refine Ar.u64 (by omega) ?_);conv=>whnf)
   | (intro blk hblk;conv=>whnf)
   | (refine Sub.on (by first|exact .refl _|exact .drop|exact .fin|((repeat refine .pick ?_);first|exact .refl _|exact .emp _|exact .fin)) ?_;conv=>whnf)
   | (refine DrawK.introH tab_ok mixed 25 f_zi.last10 f_zi.plan10 _ rfl (by kernel_rfl) (Sub.of (by first|exact .refl _|exact .drop|exact .fin|((repeat refine .pick ?_);first|exact .refl _|exact .emp _|exact .fin))) ?_;conv=>whnf))
  refine CallK.ret f_z1y.ok (plaid_spec (l:=z1024) (z:=0) (PgM.headL ⟨num,lsn,C,G⟩) (rs:=⟨inferInstance,rfl⟩) (rn:=⟨inferInstance,rfl⟩) z1024_len.symm rfl (by rw [← hH 1 (by rw [if_neg hg])];rfl) ⟨by omega,by rw [z1024_len];simp [PgM.headL,laysN]⟩ (by rw [z1024_len];decide) (headL_ok hf) (by simp [PgM.headL])) ?_
  rw [show Int.toNat 0 = 0 from rfl,← hhd]
  rintro v Q ⟨rfl,rfl⟩
  conv=>whnf
  repeat' (first
   | (refine Ld.i ?_;conv=>whnf))
  refine LoopK.at tab_ok (L:=f_zi.live) (ι:=Nat) (fun i=>i ≤ C.length) (fun i=>[(42,.int .i64 i)]) (fun i=>vec t_uint8 1 bytv (some ⟨s,0,none⟩) 1024 (over hd12 16 ((C.take i).flatMap fun c=>lays (cntL c)))) (fun i=>C.length - i) 0 (Nat.zero_le _) (fun t v h=>h) (by rw [List.take_zero,List.flatMap_nil,over_nil];exact Imp.refl _) ?_
  rintro i hi
  conv=>whnf
  have hfl:=hcf i
  have hol:(over hd12 16 ((C.take i).flatMap fun c=>lays (cntL c))).length = 1024:=by rw [over_len (by rw [hfl];omega),hhl]
  by_cases k1:i < C.length
  ·obtain ⟨x,hx⟩:∃ x,C[i]? = some x:=⟨_,List.getElem?_eq_getElem k1⟩
   have cf:=cC x (List.mem_of_getElem? hx)
   have hxb:=cntF_ok cf
   repeat' (first
    | (refine spl_dec (fun hd=>?_) (fun hd=>?_) <;> first|(exfalso;omega)|(conv=>whnf))
    | ((first|refine Ld.i ?_|refine St.i ⟨rfl,rfl⟩ (List.cons_ne_nil _ _) ?_|refine Ar.i64 (by omega) ?_|refine Ar.u64 (by omega) ?_);conv=>whnf)
    | (intro blk hblk;conv=>whnf)
    | (refine IxS.r (i:=i) rfl rfl k1 (fun ab off ha=>?_);cases ha;conv=>whnf)
    | ((first|refine LdN.r hx rfl ?_|refine Ar.u64w ?_);conv=>whnf))
   refine CallK.ret f_z1y.ok (plaid_spec (l:=over hd12 16 ((C.take i).flatMap fun c=>lays (cntL c))) (z:=16 + (i:Int) * 32) (cntL x) (rs:=⟨inferInstance,rfl⟩) (rn:=⟨inferInstance,rfl⟩) hol.symm rfl (by simp only [cntL,List.map_cons,List.map_nil];rw [u64_small (z:=x.id) (by omega),u64_small (z:=x.grp) (by omega)];rfl) ⟨by omega,by rw [hol];simp only [cntL,laysN];omega⟩ (by rw [hol];decide) (cntL_ok cf) (by simp [cntL])) ?_
   rintro v Q ⟨rfl,rfl⟩
   conv=>whnf
   have e:over (over hd12 16 ((C.take i).flatMap fun c=>lays (cntL c))) (16 + (i:Int) * 32).toNat (lays (cntL x)) = over hd12 16 ((C.take (i + 1)).flatMap fun c=>lays (cntL c)):=by
    rw [flat_take1 hx,show (16 + (i:Int) * 32).toNat = 16 + ((C.take i).flatMap fun c=>lays (cntL c)).length by rw [hfl];omega]
    exact over_over (by rw [hfl,hhl];omega)
   rw [e]
   repeat' (first
    | (refine Ar.i64 (by omega) ?_;conv=>whnf))
   all_goals
    refine ⟨rfl,i + 1,k1,fun t v h=>h,?_,by omega⟩
    first|exact .refl _|exact .drop|exact .fin|((repeat refine .pick ?_);first|exact .refl _|exact .emp _|exact .fin)
  ·rw [List.take_of_length_le (by omega)]
   have hcl:(C.flatMap fun c=>lays (cntL c)).length = C.length * 32:=flat_len cntL_len C
   repeat' (first
    | (refine spl_dec (fun hd=>?_) (fun hd=>?_) <;> first|(exfalso;omega)|(conv=>whnf))
    | (refine Ld.i ?_;conv=>whnf))
   refine LoopK.at tab_ok (L:=f_zi.live) (ι:=Nat) (fun i=>i ≤ G.length) (fun i=>[(75,.int .i64 i)]) (fun i=>vec t_uint8 1 bytv (some ⟨s,0,none⟩) 1024 (over hd12 16 ((C.flatMap fun c=>lays (cntL c)) ++ (G.take i).flatMap fun g=>lays (grpL g)))) (fun i=>G.length - i) 0 (Nat.zero_le _) (fun t v h=>h) (by rw [List.take_zero,List.flatMap_nil,List.append_nil];exact Imp.refl _) ?_
   rintro j hj
   conv=>whnf
   have hgl:=hgf j
   have hol2:(over hd12 16 ((C.flatMap fun c=>lays (cntL c)) ++ (G.take j).flatMap fun g=>lays (grpL g))).length = 1024:=by rw [over_len (by rw [List.length_append,hcl,hgl,hhl];omega),hhl]
   by_cases k2:j < G.length
   ·exact absurd k2 (by omega)
   ·rw [List.take_of_length_le (l:=G) (by omega)] at hol2 ⊢
    obtain ⟨B,hB⟩:∃ B,B = over hd12 16 ((C.flatMap fun c=>lays (cntL c)) ++ G.flatMap fun g=>lays (grpL g)):=⟨_,rfl⟩
    have hBb:B = PgM.bare ⟨num,lsn,C,G⟩:=by rw [hB,hhd];rfl
    have hBy:Byt B:=by rw [hBb];exact over_byt (over_byt z1024_byt (lays_byt _)) (body_byt _)
    rw [← hB] at hol2 ⊢
    have hsb:=crc_bd (B.take 12 ++ [0,0,0,0] ++ B.drop 16)
    obtain ⟨cs,hcs⟩:∃ c,c = sumP B:=⟨_,rfl⟩
    rw [show crcV (B.take 12 ++ [0,0,0,0] ++ B.drop 16) = sumP B from rfl,← hcs] at hsb
    repeat' (first
     | (refine CallK.ret f_zk.ok (psum_spec (l:=B) hol2.symm hol2 (Nat.le_refl _) hBy) ?_;rw [← hcs];rintro v Q ⟨rfl,rfl⟩;conv=>whnf)
     | (refine spl_dec (fun hd=>?_) (fun hd=>?_) <;> first|(exfalso;omega)|(conv=>whnf))
     | (refine Ar.u64 (by omega) ?_;conv=>whnf)
     | (intro blk hblk;conv=>whnf))
    refine CallK.ret f_z1y.ok (plaid_spec (l:=B) (z:=12) [(4,cs)] (rs:=⟨inferInstance,rfl⟩) (rn:=⟨inferInstance,rfl⟩) hol2.symm rfl rfl ⟨by omega,by rw [hol2];simp [laysN]⟩ (by rw [hol2];decide) (by simp only [List.mem_cons,List.not_mem_nil,or_false];rintro p rfl;exact ⟨by simp,by rw [p4];exact hsb⟩) (by simp)) ?_
    rintro v Q ⟨rfl,rfl⟩
    have e:over B (Int.toNat 12) (lays [(4,cs)]) = encP ⟨num,lsn,C,G⟩:=by
     unfold encP
     rw [if_neg hn,← hBb,hcs]
     show over B 12 (Fld.leB 4 _ ++ []) = _
     rw [List.append_nil]
    rw [e]
    conv=>whnf
    skip
    refine ⟨_,_,rfl,?_,some ⟨s,0,none⟩,1024,Nat.le_refl _,rfl,rfl⟩
    first|exact .refl _|exact .drop|exact .fin|((repeat refine .pick ?_);first|exact .refl _|exact .emp _|exact .fin)
end
end Go.Proofs.YtbcedpankkdfoaaGreatDoor
/- The program's page.Copy, walked. Conditions: in each statement. -/
namespace Go.Proofs.YtbcedpankkdfoaaGreatDoor
open Go Go.SL Go.SL.Sec Go.SL.Fld Go.SL.Pts Go.SL.Rec Go.SL.Pg
theorem pcopy_spec {W:World} {R:HProp} {num lsn:Int} {ca ga:Option Addr} {nC cc nG gc:Nat} {C:List CntV} {G:List GrpV} [rc:RowN W R ca nC 5 cntv C] [rg:RowN W R ga nG 2 grpv G] (hC:C.length ≤ 1000000000) (hG:G.length ≤ 1000000000) :
  Does prog W f_z21 ⟨[.agg ⟨[.int .i64 num,.int .i64 lsn,.slice ca nC cc,.slice ga nG gc]⟩]⟩ R (Ret fun v Q=>∃ x:PgX,x.m = ⟨num,lsn,C,G⟩ ∧ v = pgv x ∧ Q = (pgc x•R)):=by
 refine f_z21.does _ ?_
 conv=>whnf
 repeat' (first
  | (refine CallK.ret f_z3i.ok (cloneC_spec (l:=C) (by omega)) ?_;rintro v Q ⟨ka,kc,hka,rfl,rfl⟩;conv=>whnf)
  | (refine CallK.ret f_z3j.ok (cloneP_spec (l:=G) (by omega)) ?_;rintro v Q ⟨ja,jc,hja,rfl,rfl⟩;conv=>whnf)
  | ((first|refine Ld.i ?_|refine LdN.i ?_|refine St.i ⟨rfl,rfl⟩ (List.cons_ne_nil _ _) ?_);conv=>whnf)
  | (intro blk hblk;conv=>whnf)
  | (refine Sub.on (by first|exact .refl _|exact .drop|exact .fin|((repeat refine .pick ?_);first|exact .refl _|exact .emp _|exact .fin)) ?_;conv=>whnf)
  | (refine DrawK.introH tab_ok mixed 5 f_z21.last2 f_z21.plan2 _ rfl (by kernel_rfl) (Sub.of (by first|exact .refl _|exact .drop|exact .fin|((repeat refine .pick ?_);first|exact .refl _|exact .emp _|exact .fin))) ?_;conv=>whnf))
 refine ⟨_,_,rfl,?_,⟨⟨num,lsn,C,G⟩,ka,kc,ja,jc⟩,rfl,rfl,rfl⟩
 rw [pgc_eq]
 first|exact .refl _|exact .drop|exact .fin|((repeat refine .pick ?_);first|exact .refl _|exact .emp _|exact .fin)
end Go.Proofs.YtbcedpankkdfoaaGreatDoor
