/- The numbers of the functions and types by name, the type table, the live slots, the plans of the regions that draw: written by a program (tools/gen.py). No condition. -/
import Derived.Test.YtgepohccnknngaaProg
import Derived.KernelRfl
import Derived.Test.YtgepohccnknngaaDraw
namespace Go.Proofs.Ytgepohccnknngaa
open Go Go.SL
abbrev f_quotalaw15_RoomNames : Nat := 3
abbrev f_quotalaw15_RoomExact : Nat := 4
abbrev f_quotalaw15_RoomSuffices : Nat := 5
abbrev f_quotalaw15_RoomLeast : Nat := 6
abbrev f_quotalaw15_RoomMay : Nat := 7
abbrev f_quotalaw15_RoomSteady : Nat := 8
abbrev f_quotalaw15_awake : Nat := 9
abbrev f_quotalaw15_begun : Nat := 10
abbrev f_quotalaw15_Both_plays : Nat := 11
abbrev f_quotalaw15_Both_looks : Nat := 12
abbrev f_quotalaw15_grown : Nat := 13
abbrev f_room_Room_Promised : Nat := 14
abbrev f_quotalaw15_brought : Nat := 15
abbrev f_quotalaw15_num : Nat := 16
abbrev f_room_Room_May : Nat := 17
abbrev f_quotalaw15_Book_ends : Nat := 18
abbrev f_room_Room_Of : Nat := 19
abbrev f_quotalaw15_Tx_owes : Nat := 20
abbrev f_room_Room_Hold : Nat := 21
abbrev f_room_New : Nat := 22
abbrev f_quotalaw15_asked : Nat := 23
abbrev f_quotalaw15_Book_notes : Nat := 24
abbrev f_room_Room_Begin : Nat := 25
abbrev f_room_Room_Wrote : Nat := 26
abbrev f_quotaref15_New : Nat := 27
abbrev f_quotaref15_Room_Begin : Nat := 28
abbrev f_quotaref15_Room_Hold : Nat := 29
abbrev f_quotaref15_Room_Wrote : Nat := 30
abbrev f_quotaref15_Room_May : Nat := 31
abbrev f_quotaref15_Room_Promised : Nat := 32
abbrev f_quotaref15_Room_Of : Nat := 33
abbrev f_room_life_promised : Nat := 34
abbrev f_quotalaw15_Book_at : Nat := 35
abbrev f_quotalaw15_place : Nat := 36
abbrev f_quotalaw15_without : Nat := 37
abbrev f_quotaref15_Room_at : Nat := 38
abbrev f_quotaref15_Tx_holds : Nat := 39
abbrev f_quotaref15_without : Nat := 40
abbrev f_quotaref15_Tx_promised : Nat := 41
abbrev t_int : Nat := 3
abbrev t_bool : Nat := 4
abbrev t_S_quotalaw15_Op : Nat := 23
abbrev t_P_room_Room : Nat := 24
abbrev t_P_quotaref15_Room : Nat := 25
abbrev t_quotalaw15_Both : Nat := 27
abbrev t_api_Kind : Nat := 30
abbrev t_quotalaw15_Op : Nat := 32
abbrev t_S_int : Nat := 35
abbrev t_P_quotalaw15_Book : Nat := 36
abbrev t_S_quotalaw15_Tx : Nat := 40
abbrev t_quotalaw15_Book : Nat := 42
abbrev t_api_Errno : Nat := 45
abbrev t_quotalaw15_Tx : Nat := 51
abbrev t_S_quotaref15_Tx : Nat := 63
abbrev t_quotaref15_Room : Nat := 65
abbrev t_quotaref15_Tx : Nat := 67
abbrev t_M_int_P_room_life : Nat := 68
abbrev t_room_Room : Nat := 70
abbrev t_P_room_life : Nat := 71
abbrev t_room_state : Nat := 72
abbrev t_M_int_int : Nat := 73
abbrev t_room_life : Nat := 75
noncomputable abbrev prog : Program := Go.Proofs.Try.prog
def findT : List (Nat × TRow) → Nat → Option TRow
  | [], _ => none
  | (k, r) :: l, t => match Nat.beq k t with
    | true => some r
    | false => findT l t
def rows : List (Nat × TRow) := [
  (3, ⟨(.int .i64), [(.int .i64 0)], false, 1, 8⟩),
  (32, ⟨(.struct ⟨[⟨"Kind", 3, 0, false, "", "", 0⟩, ⟨"Two", 4, 1, false, "", "", 8⟩, ⟨"Tx", 3, 2, false, "", "", 16⟩, ⟨"Counter", 3, 3, false, "", "", 24⟩, ⟨"What", 30, 4, false, "", "", 32⟩, ⟨"Free", 3, 5, false, "", "", 40⟩, ⟨"More", 3, 6, false, "", "", 48⟩]⟩), [(.int .i64 0), (.bool false), (.int .i64 0), (.int .i64 0), (.int .i64 0), (.int .i64 0), (.int .i64 0)], true, 7, 56⟩),
  (24, ⟨(.pointer 70), [(.pointer none)], false, 1, 8⟩),
  (40, ⟨(.slice 51), [(.slice none 0 0)], false, 1, 24⟩),
  (35, ⟨(.slice 3), [(.slice none 0 0)], false, 1, 24⟩),
  (63, ⟨(.slice 67), [(.slice none 0 0)], false, 1, 24⟩),
  (27, ⟨(.struct ⟨[⟨"P", 24, 0, false, "", "", 0⟩, ⟨"R", 25, 1, false, "", "", 8⟩]⟩), [(.pointer none), (.pointer none)], true, 2, 16⟩),
  (51, ⟨(.struct ⟨[⟨"number", 3, 0, false, "", "quota/quotalaw15", 0⟩, ⟨"counters", 35, 1, false, "", "quota/quotalaw15", 8⟩, ⟨"committed", 4, 2, false, "", "quota/quotalaw15", 32⟩, ⟨"undoing", 4, 3, false, "", "quota/quotalaw15", 33⟩]⟩), [(.int .i64 0), (.slice none 0 0), (.bool false), (.bool false)], true, 4, 40⟩),
  (42, ⟨(.struct ⟨[⟨"l", 40, 0, false, "", "quota/quotalaw15", 0⟩]⟩), [(.slice none 0 0)], true, 1, 24⟩),
  (67, ⟨(.struct ⟨[⟨"Number", 3, 0, false, "", "", 0⟩, ⟨"State", 3, 1, false, "", "", 8⟩, ⟨"Holds", 35, 2, false, "", "", 16⟩]⟩), [(.int .i64 0), (.int .i64 0), (.slice none 0 0)], true, 3, 40⟩),
  (30, ⟨(.int .i64), [(.int .i64 0)], false, 1, 8⟩),
  (4, ⟨.bool, [(.bool false)], false, 1, 1⟩),
  (65, ⟨(.struct ⟨[⟨"L", 63, 0, false, "", "", 0⟩]⟩), [(.slice none 0 0)], true, 1, 24⟩),
  (45, ⟨(.int .i64), [(.int .i64 0)], false, 1, 8⟩),
  (25, ⟨(.pointer 65), [(.pointer none)], false, 1, 8⟩),
  (75, ⟨(.struct ⟨[⟨"state", 72, 0, false, "", "quota/room", 0⟩, ⟨"held", 73, 1, false, "", "quota/room", 8⟩]⟩), [(.int .i64 0), (.map none)], true, 2, 16⟩),
  (68, ⟨(.map 3 71), [(.map none)], false, 1, 8⟩),
  (73, ⟨(.map 3 3), [(.map none)], false, 1, 8⟩),
  (72, ⟨(.int .i64), [(.int .i64 0)], false, 1, 8⟩),
  (23, ⟨(.slice 32), [(.slice none 0 0)], false, 1, 24⟩),
  (70, ⟨(.struct ⟨[⟨"txs", 68, 0, false, "", "quota/room", 0⟩]⟩), [(.map none)], true, 1, 8⟩),
  (36, ⟨(.pointer 42), [(.pointer none)], false, 1, 8⟩),
  (71, ⟨(.pointer 75), [(.pointer none)], false, 1, 8⟩)]
def tab : Tab := fun t => findT rows t
def AllOk (P : Program) : List (Nat × TRow) → Prop
  | [] => True
  | p :: l => p.2.ok P p.1 ∧ AllOk P l
theorem findT_ok {P : Program} : ∀ (l : List (Nat × TRow)), AllOk P l → ∀ t r, findT l t = some r → r.ok P t
  | [], _, _, _, h => by simp [findT] at h
  | (k, r) :: l, ⟨h1, h2⟩, t, r', h => by
    simp only [findT] at h
    split at h
    · rename_i hb; cases h; obtain rfl := Nat.eq_of_beq_eq_true hb; exact h1
    · exact findT_ok l h2 t r' h
theorem row3 : TRow.ok prog 3 ⟨(.int .i64), [(.int .i64 0)], false, 1, 8⟩ := ⟨Go.Proofs.Try.underlying3, rfl, Go.Proofs.Try.t3, by kernel_rfl, by kernel_rfl, by kernel_rfl, by kernel_rfl, fun _ => ⟨_, rfl, rfl⟩⟩
theorem row32 : TRow.ok prog 32 ⟨(.struct ⟨[⟨"Kind", 3, 0, false, "", "", 0⟩, ⟨"Two", 4, 1, false, "", "", 8⟩, ⟨"Tx", 3, 2, false, "", "", 16⟩, ⟨"Counter", 3, 3, false, "", "", 24⟩, ⟨"What", 30, 4, false, "", "", 32⟩, ⟨"Free", 3, 5, false, "", "", 40⟩, ⟨"More", 3, 6, false, "", "", 48⟩]⟩), [(.int .i64 0), (.bool false), (.int .i64 0), (.int .i64 0), (.int .i64 0), (.int .i64 0), (.int .i64 0)], true, 7, 56⟩ := ⟨Go.Proofs.Try.underlying32, rfl, Go.Proofs.Try.t32, by kernel_rfl, by kernel_rfl, by kernel_rfl, by kernel_rfl, fun h => by cases h⟩
theorem row24 : TRow.ok prog 24 ⟨(.pointer 70), [(.pointer none)], false, 1, 8⟩ := ⟨Go.Proofs.Try.underlying24, rfl, Go.Proofs.Try.t24, by kernel_rfl, by kernel_rfl, by kernel_rfl, by kernel_rfl, fun _ => ⟨_, rfl, rfl⟩⟩
theorem row40 : TRow.ok prog 40 ⟨(.slice 51), [(.slice none 0 0)], false, 1, 24⟩ := ⟨Go.Proofs.Try.underlying40, rfl, Go.Proofs.Try.t40, by kernel_rfl, by kernel_rfl, by kernel_rfl, by kernel_rfl, fun _ => ⟨_, rfl, rfl⟩⟩
theorem row35 : TRow.ok prog 35 ⟨(.slice 3), [(.slice none 0 0)], false, 1, 24⟩ := ⟨Go.Proofs.Try.underlying35, rfl, Go.Proofs.Try.t35, by kernel_rfl, by kernel_rfl, by kernel_rfl, by kernel_rfl, fun _ => ⟨_, rfl, rfl⟩⟩
theorem row63 : TRow.ok prog 63 ⟨(.slice 67), [(.slice none 0 0)], false, 1, 24⟩ := ⟨Go.Proofs.Try.underlying63, rfl, Go.Proofs.Try.t63, by kernel_rfl, by kernel_rfl, by kernel_rfl, by kernel_rfl, fun _ => ⟨_, rfl, rfl⟩⟩
theorem row27 : TRow.ok prog 27 ⟨(.struct ⟨[⟨"P", 24, 0, false, "", "", 0⟩, ⟨"R", 25, 1, false, "", "", 8⟩]⟩), [(.pointer none), (.pointer none)], true, 2, 16⟩ := ⟨Go.Proofs.Try.underlying27, rfl, Go.Proofs.Try.t27, by kernel_rfl, by kernel_rfl, by kernel_rfl, by kernel_rfl, fun h => by cases h⟩
theorem row51 : TRow.ok prog 51 ⟨(.struct ⟨[⟨"number", 3, 0, false, "", "quota/quotalaw15", 0⟩, ⟨"counters", 35, 1, false, "", "quota/quotalaw15", 8⟩, ⟨"committed", 4, 2, false, "", "quota/quotalaw15", 32⟩, ⟨"undoing", 4, 3, false, "", "quota/quotalaw15", 33⟩]⟩), [(.int .i64 0), (.slice none 0 0), (.bool false), (.bool false)], true, 4, 40⟩ := ⟨Go.Proofs.Try.underlying51, rfl, Go.Proofs.Try.t51, by kernel_rfl, by kernel_rfl, by kernel_rfl, by kernel_rfl, fun h => by cases h⟩
theorem row42 : TRow.ok prog 42 ⟨(.struct ⟨[⟨"l", 40, 0, false, "", "quota/quotalaw15", 0⟩]⟩), [(.slice none 0 0)], true, 1, 24⟩ := ⟨Go.Proofs.Try.underlying42, rfl, Go.Proofs.Try.t42, by kernel_rfl, by kernel_rfl, by kernel_rfl, by kernel_rfl, fun h => by cases h⟩
theorem row67 : TRow.ok prog 67 ⟨(.struct ⟨[⟨"Number", 3, 0, false, "", "", 0⟩, ⟨"State", 3, 1, false, "", "", 8⟩, ⟨"Holds", 35, 2, false, "", "", 16⟩]⟩), [(.int .i64 0), (.int .i64 0), (.slice none 0 0)], true, 3, 40⟩ := ⟨Go.Proofs.Try.underlying67, rfl, Go.Proofs.Try.t67, by kernel_rfl, by kernel_rfl, by kernel_rfl, by kernel_rfl, fun h => by cases h⟩
theorem row30 : TRow.ok prog 30 ⟨(.int .i64), [(.int .i64 0)], false, 1, 8⟩ := ⟨Go.Proofs.Try.underlying30, rfl, Go.Proofs.Try.t30, by kernel_rfl, by kernel_rfl, by kernel_rfl, by kernel_rfl, fun _ => ⟨_, rfl, rfl⟩⟩
theorem row4 : TRow.ok prog 4 ⟨.bool, [(.bool false)], false, 1, 1⟩ := ⟨Go.Proofs.Try.underlying4, rfl, Go.Proofs.Try.t4, by kernel_rfl, by kernel_rfl, by kernel_rfl, by kernel_rfl, fun _ => ⟨_, rfl, rfl⟩⟩
theorem row65 : TRow.ok prog 65 ⟨(.struct ⟨[⟨"L", 63, 0, false, "", "", 0⟩]⟩), [(.slice none 0 0)], true, 1, 24⟩ := ⟨Go.Proofs.Try.underlying65, rfl, Go.Proofs.Try.t65, by kernel_rfl, by kernel_rfl, by kernel_rfl, by kernel_rfl, fun h => by cases h⟩
theorem row45 : TRow.ok prog 45 ⟨(.int .i64), [(.int .i64 0)], false, 1, 8⟩ := ⟨Go.Proofs.Try.underlying45, rfl, Go.Proofs.Try.t45, by kernel_rfl, by kernel_rfl, by kernel_rfl, by kernel_rfl, fun _ => ⟨_, rfl, rfl⟩⟩
theorem row25 : TRow.ok prog 25 ⟨(.pointer 65), [(.pointer none)], false, 1, 8⟩ := ⟨Go.Proofs.Try.underlying25, rfl, Go.Proofs.Try.t25, by kernel_rfl, by kernel_rfl, by kernel_rfl, by kernel_rfl, fun _ => ⟨_, rfl, rfl⟩⟩
theorem row75 : TRow.ok prog 75 ⟨(.struct ⟨[⟨"state", 72, 0, false, "", "quota/room", 0⟩, ⟨"held", 73, 1, false, "", "quota/room", 8⟩]⟩), [(.int .i64 0), (.map none)], true, 2, 16⟩ := ⟨Go.Proofs.Try.underlying75, rfl, Go.Proofs.Try.t75, by kernel_rfl, by kernel_rfl, by kernel_rfl, by kernel_rfl, fun h => by cases h⟩
theorem row68 : TRow.ok prog 68 ⟨(.map 3 71), [(.map none)], false, 1, 8⟩ := ⟨Go.Proofs.Try.underlying68, rfl, Go.Proofs.Try.t68, by kernel_rfl, by kernel_rfl, by kernel_rfl, by kernel_rfl, fun _ => ⟨_, rfl, rfl⟩⟩
theorem row73 : TRow.ok prog 73 ⟨(.map 3 3), [(.map none)], false, 1, 8⟩ := ⟨Go.Proofs.Try.underlying73, rfl, Go.Proofs.Try.t73, by kernel_rfl, by kernel_rfl, by kernel_rfl, by kernel_rfl, fun _ => ⟨_, rfl, rfl⟩⟩
theorem row72 : TRow.ok prog 72 ⟨(.int .i64), [(.int .i64 0)], false, 1, 8⟩ := ⟨Go.Proofs.Try.underlying72, rfl, Go.Proofs.Try.t72, by kernel_rfl, by kernel_rfl, by kernel_rfl, by kernel_rfl, fun _ => ⟨_, rfl, rfl⟩⟩
theorem row23 : TRow.ok prog 23 ⟨(.slice 32), [(.slice none 0 0)], false, 1, 24⟩ := ⟨Go.Proofs.Try.underlying23, rfl, Go.Proofs.Try.t23, by kernel_rfl, by kernel_rfl, by kernel_rfl, by kernel_rfl, fun _ => ⟨_, rfl, rfl⟩⟩
theorem row70 : TRow.ok prog 70 ⟨(.struct ⟨[⟨"txs", 68, 0, false, "", "quota/room", 0⟩]⟩), [(.map none)], true, 1, 8⟩ := ⟨Go.Proofs.Try.underlying70, rfl, Go.Proofs.Try.t70, by kernel_rfl, by kernel_rfl, by kernel_rfl, by kernel_rfl, fun h => by cases h⟩
theorem row36 : TRow.ok prog 36 ⟨(.pointer 42), [(.pointer none)], false, 1, 8⟩ := ⟨Go.Proofs.Try.underlying36, rfl, Go.Proofs.Try.t36, by kernel_rfl, by kernel_rfl, by kernel_rfl, by kernel_rfl, fun _ => ⟨_, rfl, rfl⟩⟩
theorem row71 : TRow.ok prog 71 ⟨(.pointer 75), [(.pointer none)], false, 1, 8⟩ := ⟨Go.Proofs.Try.underlying71, rfl, Go.Proofs.Try.t71, by kernel_rfl, by kernel_rfl, by kernel_rfl, by kernel_rfl, fun _ => ⟨_, rfl, rfl⟩⟩
theorem tab_ok : Tab.ok tab prog := findT_ok rows (⟨row3, row32, row24, row40, row35, row63, row27, row51, row42, row67, row30, row4, row65, row45, row25, row75, row68, row73, row72, row23, row70, row36, row71, trivial⟩)
theorem mixed : prog.follows .mixedOrders = true := by kernel_rfl
theorem f_quotalaw15_RoomNames.ok : Callable prog f_quotalaw15_RoomNames := callable_of Go.Proofs.Try.func3 (by kernel_rfl) rfl
def f_quotalaw15_RoomNames.live : Nat → Option (List Nat) := fun i => match i with
  | 0 => some []
  | 1 => some [0]
  | 2 => some [0]
  | _ => none
theorem f_quotalaw15_RoomNames.does {W : World} {H : HProp} {R : Ending → HProp → Prop} (h : exec prog W tab 10 f_quotalaw15_RoomNames.live (codeOf Go.Proofs.Try.f3) (bodyQ W tab [.tmp 0] R) (argFr 0 []) [] H) : Does prog W f_quotalaw15_RoomNames ⟨[]⟩ H R :=
  Does.of_exec tab_ok f_quotalaw15_RoomNames.live Go.Proofs.Try.func3 rfl rfl rfl (by simp) h
theorem f_quotalaw15_RoomExact.ok : Callable prog f_quotalaw15_RoomExact := callable_of Go.Proofs.Try.func4 (by kernel_rfl) rfl
def f_quotalaw15_RoomExact.live : Nat → Option (List Nat) := fun i => match i with
  | 0 => some [0]
  | 1 => some [0, 3, 4]
  | 2 => some [0, 3, 4, 5, 6]
  | 3 => some [0, 3, 5, 27]
  | 4 => some [2]
  | 5 => some [0, 3, 5, 7]
  | 6 => some [0, 3, 5, 7, 35]
  | 7 => some [0, 3, 5, 7]
  | 8 => some [0, 3, 5, 7, 8]
  | 9 => some [0, 3, 5, 7, 8, 43]
  | 10 => some [0, 3, 5, 7, 8]
  | 11 => some [0, 3, 5, 7, 9]
  | 12 => some [0, 3, 5, 7, 52]
  | 13 => some [2]
  | 14 => some [2]
  | _ => none
theorem f_quotalaw15_RoomExact.does {W : World} {H : HProp} {R : Ending → HProp → Prop} (a0 : Value) (h : exec prog W tab 59 f_quotalaw15_RoomExact.live (codeOf Go.Proofs.Try.f4) (bodyQ W tab [.tmp 2] R) (argFr 0 [a0]) [] H) : Does prog W f_quotalaw15_RoomExact ⟨[a0]⟩ H R :=
  Does.of_exec tab_ok f_quotalaw15_RoomExact.live Go.Proofs.Try.func4 rfl rfl rfl (by simp) h
def f_quotalaw15_RoomExact.plan11 : List Nat := [0, 1, 2, 3, 4, 5, 6]
def f_quotalaw15_RoomExact.last11 : List Nat := [6]
theorem f_quotalaw15_RoomSuffices.ok : Callable prog f_quotalaw15_RoomSuffices := callable_of Go.Proofs.Try.func5 (by kernel_rfl) rfl
def f_quotalaw15_RoomSuffices.live : Nat → Option (List Nat) := fun i => match i with
  | 0 => some [0, 1]
  | 1 => some [1, 5, 6]
  | 2 => some [1, 5, 6, 22]
  | 3 => some [4]
  | 4 => some [1, 5, 6, 7]
  | 5 => some [1, 5, 6, 7, 8]
  | 6 => some [1, 5, 6, 7, 8, 30]
  | 7 => some [1, 5, 6, 7, 8]
  | 8 => some [1, 5, 6, 7, 8, 9]
  | 9 => some [1, 5, 6, 7, 8, 9, 36]
  | 10 => some [1, 5, 6, 7, 8, 9]
  | 11 => some [1, 5, 6, 7, 8, 9, 10]
  | 12 => some [1, 5, 6, 7, 8, 9, 10, 59]
  | 13 => some [4]
  | 14 => some [1, 5, 6, 7, 8, 11]
  | 15 => some [1, 5, 6, 7, 8, 11]
  | 16 => some [1, 5, 6, 7, 8, 77]
  | 17 => some [4]
  | 18 => some [4]
  | _ => none
theorem f_quotalaw15_RoomSuffices.does {W : World} {H : HProp} {R : Ending → HProp → Prop} (a0 a1 : Value) (h : exec prog W tab 87 f_quotalaw15_RoomSuffices.live (codeOf Go.Proofs.Try.f5) (bodyQ W tab [.tmp 4] R) (argFr 0 [a0, a1]) [] H) : Does prog W f_quotalaw15_RoomSuffices ⟨[a0, a1]⟩ H R :=
  Does.of_exec tab_ok f_quotalaw15_RoomSuffices.live Go.Proofs.Try.func5 rfl rfl rfl (by simp) h
theorem f_quotalaw15_RoomLeast.ok : Callable prog f_quotalaw15_RoomLeast := callable_of Go.Proofs.Try.func6 (by kernel_rfl) rfl
def f_quotalaw15_RoomLeast.live : Nat → Option (List Nat) := fun i => match i with
  | 0 => some [0]
  | 1 => some [3, 4]
  | 2 => some [3, 4, 21]
  | 3 => some [2]
  | 4 => some [3, 4, 5]
  | 5 => some [3, 4, 5, 6]
  | 6 => some [3, 4, 5, 6, 28]
  | 7 => some [3, 4, 5, 6]
  | 8 => some [3, 4, 5, 6, 49]
  | 9 => some [2]
  | 10 => some [3, 4, 5, 6]
  | 11 => some [3, 4, 5, 63]
  | 12 => some [2]
  | 13 => some [3, 4, 5, 7]
  | 14 => some [3, 4, 5, 7, 69]
  | 15 => some [3, 4, 5, 7, 8]
  | 16 => some [3, 4, 5, 7, 8, 9]
  | 17 => some [3, 4, 5, 7, 8, 9]
  | 18 => some [3, 4, 5, 7, 8, 91]
  | 19 => some [2]
  | 20 => some [3, 4, 5, 7, 8, 10]
  | 21 => some [3, 4, 5, 7, 122]
  | 22 => some [2]
  | 23 => some [2]
  | _ => none
theorem f_quotalaw15_RoomLeast.does {W : World} {H : HProp} {R : Ending → HProp → Prop} (a0 : Value) (h : exec prog W tab 126 f_quotalaw15_RoomLeast.live (codeOf Go.Proofs.Try.f6) (bodyQ W tab [.tmp 2] R) (argFr 0 [a0]) [] H) : Does prog W f_quotalaw15_RoomLeast ⟨[a0]⟩ H R :=
  Does.of_exec tab_ok f_quotalaw15_RoomLeast.live Go.Proofs.Try.func6 rfl rfl rfl (by simp) h
def f_quotalaw15_RoomLeast.plan8 : List Nat := [0, 1, 2, 3, 4, 5, 6, 7, 8, 10, 11, 12, 13, 14, 15, 16, 9, 17, 18]
def f_quotalaw15_RoomLeast.last8 : List Nat := []
theorem f_quotalaw15_RoomMay.ok : Callable prog f_quotalaw15_RoomMay := callable_of Go.Proofs.Try.func7 (by kernel_rfl) rfl
def f_quotalaw15_RoomMay.live : Nat → Option (List Nat) := fun i => match i with
  | 0 => some [0, 1, 2, 3]
  | 1 => some [1, 2, 3, 9, 10]
  | 2 => some [1, 2, 3, 9, 10, 26]
  | 3 => some [8]
  | 4 => some [1, 2, 3, 9, 10, 11]
  | 5 => some [1, 2, 3, 9, 10, 11, 12]
  | 6 => some [1, 2, 3, 9, 10, 11, 12, 13]
  | 7 => some [1, 2, 3, 9, 10, 11, 12, 13, 14]
  | 8 => some [1, 2, 3, 9, 10, 11, 12, 13, 14, 41]
  | 9 => some [1, 9, 10, 11, 12, 13, 14]
  | 10 => some [1, 9, 10, 11, 12, 13, 14, 52]
  | 11 => some [1, 9, 10, 11, 12, 13, 14]
  | 12 => some [1, 9, 10, 11, 80]
  | 13 => some [8]
  | 14 => some [9, 10, 101]
  | 15 => some [8]
  | 16 => some [9, 10, 15]
  | 17 => some [9, 10, 15, 108]
  | 18 => some [9, 10, 15]
  | 19 => some [9, 10, 15, 129]
  | 20 => some [8]
  | 21 => some [8]
  | _ => none
theorem f_quotalaw15_RoomMay.does {W : World} {H : HProp} {R : Ending → HProp → Prop} (a0 a1 a2 a3 : Value) (h : exec prog W tab 130 f_quotalaw15_RoomMay.live (codeOf Go.Proofs.Try.f7) (bodyQ W tab [.tmp 8] R) (argFr 0 [a0, a1, a2, a3]) [] H) : Does prog W f_quotalaw15_RoomMay ⟨[a0, a1, a2, a3]⟩ H R :=
  Does.of_exec tab_ok f_quotalaw15_RoomMay.live Go.Proofs.Try.func7 rfl rfl rfl (by simp) h
def f_quotalaw15_RoomMay.plan19 : List Nat := [0, 1, 2, 3, 4, 5, 6, 7, 8, 10, 11, 12, 13, 14, 15, 16, 9, 17, 18]
def f_quotalaw15_RoomMay.last19 : List Nat := []
theorem f_quotalaw15_RoomSteady.ok : Callable prog f_quotalaw15_RoomSteady := callable_of Go.Proofs.Try.func8 (by kernel_rfl) rfl
def f_quotalaw15_RoomSteady.live : Nat → Option (List Nat) := fun i => match i with
  | 0 => some [0, 3]
  | 1 => some [0, 3, 5]
  | 2 => some [0, 3, 5, 6]
  | 3 => some [0, 3, 5, 6, 23]
  | 4 => some [4]
  | 5 => some [0, 3, 5, 6, 7]
  | 6 => some [0, 3, 5, 6, 7, 8]
  | 7 => some [0, 3, 5, 6, 7, 8, 33]
  | 8 => some [0, 3, 5, 6, 7, 8]
  | 9 => some [0, 3, 5, 6, 7, 8, 9]
  | 10 => some [0, 3, 5, 6, 7, 8, 9, 10]
  | 11 => some [0, 3, 5, 6, 7, 8, 9, 10, 44]
  | 12 => some [0, 3, 5, 6, 7, 8, 9, 10, 46]
  | 13 => some [0, 3, 5, 6, 7, 8, 9, 10]
  | 14 => some [0, 3, 5, 6, 7, 8, 61]
  | 15 => some [4]
  | 16 => some [3, 5, 6, 7, 11]
  | 17 => some [3, 5, 6, 7, 11, 68]
  | 18 => some [3, 5, 6, 7, 11]
  | 19 => some [3, 5, 6, 7, 11, 91]
  | 20 => some [4]
  | 21 => some [4]
  | _ => none
theorem f_quotalaw15_RoomSteady.does {W : World} {H : HProp} {R : Ending → HProp → Prop} (a0 a1 : Value) (h : exec prog W tab 106 f_quotalaw15_RoomSteady.live (codeOf Go.Proofs.Try.f8) (bodyQ W tab [.tmp 4] R) (argFr 0 [a0, a1]) [] H) : Does prog W f_quotalaw15_RoomSteady ⟨[a0, a1]⟩ H R :=
  Does.of_exec tab_ok f_quotalaw15_RoomSteady.live Go.Proofs.Try.func8 rfl rfl rfl (by simp) h
def f_quotalaw15_RoomSteady.plan19 : List Nat := [0, 1, 2, 3, 4, 5, 6, 7, 8, 10, 11, 12, 13, 14, 15, 16, 17, 18, 9, 19, 20]
def f_quotalaw15_RoomSteady.last19 : List Nat := []
def f_quotalaw15_RoomSteady.plan21 : List Nat := [0, 1, 3, 4, 2, 5, 6, 7, 8, 10, 9, 11, 12, 13, 14]
def f_quotalaw15_RoomSteady.last21 : List Nat := [14]
theorem f_quotalaw15_awake.ok : Callable prog f_quotalaw15_awake := callable_of Go.Proofs.Try.func9 (by kernel_rfl) rfl
def f_quotalaw15_awake.live : Nat → Option (List Nat) := fun i => match i with
  | 0 => some []
  | 1 => some [1]
  | 2 => some [1, 33]
  | 3 => some [0]
  | 4 => some [1, 54]
  | 5 => some [0]
  | 6 => some [0]
  | _ => none
theorem f_quotalaw15_awake.does {W : World} {H : HProp} {R : Ending → HProp → Prop} (h : exec prog W tab 75 f_quotalaw15_awake.live (codeOf Go.Proofs.Try.f9) (bodyQ W tab [.tmp 0] R) (argFr 0 []) [] H) : Does prog W f_quotalaw15_awake ⟨[]⟩ H R :=
  Does.of_exec tab_ok f_quotalaw15_awake.live Go.Proofs.Try.func9 rfl rfl rfl (by simp) h
theorem f_quotalaw15_begun.ok : Callable prog f_quotalaw15_begun := callable_of Go.Proofs.Try.func10 (by kernel_rfl) rfl
def f_quotalaw15_begun.live : Nat → Option (List Nat) := fun i => match i with
  | 0 => some [0]
  | 1 => some [0, 2]
  | 2 => some [0, 1]
  | _ => none
theorem f_quotalaw15_begun.does {W : World} {H : HProp} {R : Ending → HProp → Prop} (h : exec prog W tab 9 f_quotalaw15_begun.live (codeOf Go.Proofs.Try.f10) (bodyQ W tab [.cell 0 27, .tmp 1] R) (argFr 0 []) [] H) : Does prog W f_quotalaw15_begun ⟨[]⟩ H R :=
  Does.of_exec tab_ok f_quotalaw15_begun.live Go.Proofs.Try.func10 rfl rfl rfl (by simp) h
theorem f_quotalaw15_Both_plays.ok : Callable prog f_quotalaw15_Both_plays := callable_of Go.Proofs.Try.func11 (by kernel_rfl) rfl
def f_quotalaw15_Both_plays.live : Nat → Option (List Nat) := fun i => match i with
  | 0 => some [2, 3]
  | 1 => some [2, 3, 6]
  | 2 => some [2, 3, 6, 7]
  | 3 => some [4]
  | 4 => some [2, 3, 6, 21]
  | 5 => some [4]
  | 6 => some [2, 3, 6, 39]
  | 7 => some [4]
  | 8 => some [2, 3, 6, 61]
  | 9 => some [4]
  | 10 => some [2, 3, 83]
  | 11 => some [4]
  | 12 => some [4]
  | _ => none
theorem f_quotalaw15_Both_plays.does {W : World} {H : HProp} {R : Ending → HProp → Prop} (a0 a1 : Value) (h : exec prog W tab 105 f_quotalaw15_Both_plays.live (codeOf Go.Proofs.Try.f11) (bodyQ W tab [.tmp 4] R) (argFr 0 [a0, a1]) [] H) : Does prog W f_quotalaw15_Both_plays ⟨[a0, a1]⟩ H R :=
  Does.of_exec tab_ok f_quotalaw15_Both_plays.live Go.Proofs.Try.func11 rfl rfl rfl (by simp) h
def f_quotalaw15_Both_plays.plan3 : List Nat := [0, 1, 2, 3, 6, 7, 8, 9, 4, 5, 10, 11, 12]
def f_quotalaw15_Both_plays.last3 : List Nat := [12]
def f_quotalaw15_Both_plays.plan5 : List Nat := [0, 1, 2, 3, 4, 5, 8, 9, 10, 11, 12, 13, 6, 7, 14, 15, 16]
def f_quotalaw15_Both_plays.last5 : List Nat := [16]
def f_quotalaw15_Both_plays.plan7 : List Nat := [0, 1, 2, 3, 4, 5, 6, 7, 10, 11, 12, 13, 14, 15, 16, 17, 8, 9, 18, 19, 20]
def f_quotalaw15_Both_plays.last7 : List Nat := [20]
def f_quotalaw15_Both_plays.plan9 : List Nat := [0, 1, 2, 3, 4, 5, 6, 7, 10, 11, 12, 13, 14, 15, 16, 17, 8, 9, 18, 19, 20]
def f_quotalaw15_Both_plays.last9 : List Nat := [20]
def f_quotalaw15_Both_plays.plan11 : List Nat := [0, 1, 3, 4, 2, 5, 6, 7, 8, 9, 10, 11, 13, 14, 15, 16, 12, 17, 18, 19, 20]
def f_quotalaw15_Both_plays.last11 : List Nat := [20]
theorem f_quotalaw15_Both_looks.ok : Callable prog f_quotalaw15_Both_looks := callable_of Go.Proofs.Try.func12 (by kernel_rfl) rfl
def f_quotalaw15_Both_looks.live : Nat → Option (List Nat) := fun i => match i with
  | 0 => some [1]
  | 1 => some [1, 3]
  | 2 => some [1, 3, 12]
  | 3 => some [1, 3]
  | 4 => some [1, 3, 4]
  | 5 => some [1, 3, 32]
  | 6 => some [2]
  | 7 => some [2]
  | _ => none
theorem f_quotalaw15_Both_looks.does {W : World} {H : HProp} {R : Ending → HProp → Prop} (a0 : Value) (h : exec prog W tab 40 f_quotalaw15_Both_looks.live (codeOf Go.Proofs.Try.f12) (bodyQ W tab [.tmp 2] R) (argFr 0 [a0]) [] H) : Does prog W f_quotalaw15_Both_looks ⟨[a0]⟩ H R :=
  Does.of_exec tab_ok f_quotalaw15_Both_looks.live Go.Proofs.Try.func12 rfl rfl rfl (by simp) h
def f_quotalaw15_Both_looks.plan5 : List Nat := [0, 1, 2, 4, 5, 6, 3, 7, 8]
def f_quotalaw15_Both_looks.last5 : List Nat := []
def f_quotalaw15_Both_looks.plan7 : List Nat := [0, 1, 3, 4, 2, 5, 6, 7]
def f_quotalaw15_Both_looks.last7 : List Nat := [7]
theorem f_quotalaw15_grown.ok : Callable prog f_quotalaw15_grown := callable_of Go.Proofs.Try.func13 (by kernel_rfl) rfl
def f_quotalaw15_grown.live : Nat → Option (List Nat) := fun i => match i with
  | 0 => some [0]
  | 1 => some [0, 4]
  | 2 => some [0, 4, 5]
  | 3 => some [0, 4, 5, 12]
  | 4 => some [2, 3]
  | 5 => some [0, 4, 5, 6]
  | 6 => some [0, 4, 5, 6, 21]
  | 7 => some [0, 4, 5, 6]
  | 8 => some [0, 4, 5, 6, 7]
  | 9 => some [0, 4, 5, 6, 31]
  | 10 => some [0, 4, 5, 6]
  | 11 => some [2, 3]
  | _ => none
theorem f_quotalaw15_grown.does {W : World} {H : HProp} {R : Ending → HProp → Prop} (a0 : Value) (h : exec prog W tab 40 f_quotalaw15_grown.live (codeOf Go.Proofs.Try.f13) (bodyQ W tab [.tmp 2, .tmp 3] R) (argFr 0 [a0]) [] H) : Does prog W f_quotalaw15_grown ⟨[a0]⟩ H R :=
  Does.of_exec tab_ok f_quotalaw15_grown.live Go.Proofs.Try.func13 rfl rfl rfl (by simp) h
theorem f_room_Room_Promised.ok : Callable prog f_room_Room_Promised := callable_of Go.Proofs.Try.func14 (by kernel_rfl) rfl
def f_room_Room_Promised.live : Nat → Option (List Nat) := fun i => match i with
  | 0 => some [0]
  | 1 => some [0, 3]
  | 2 => some [3, 10]
  | 3 => some [3, 10, 12]
  | 4 => some [3, 5, 10]
  | 5 => some [3, 10]
  | 6 => some [2]
  | _ => none
theorem f_room_Room_Promised.does {W : World} {H : HProp} {R : Ending → HProp → Prop} (a0 : Value) (h : exec prog W tab 20 f_room_Room_Promised.live (codeOf Go.Proofs.Try.f14) (bodyQ W tab [.tmp 2] R) (argFr 0 [a0]) [] H) : Does prog W f_room_Room_Promised ⟨[a0]⟩ H R :=
  Does.of_exec tab_ok f_room_Room_Promised.live Go.Proofs.Try.func14 rfl rfl rfl (by simp) h
theorem f_quotalaw15_brought.ok : Callable prog f_quotalaw15_brought := callable_of Go.Proofs.Try.func15 (by kernel_rfl) rfl
def f_quotalaw15_brought.live : Nat → Option (List Nat) := fun i => match i with
  | 0 => some [0, 1]
  | 1 => some [0, 1]
  | 2 => some [0, 1, 9]
  | 3 => some [4]
  | 4 => some [4]
  | _ => none
theorem f_quotalaw15_brought.does {W : World} {H : HProp} {R : Ending → HProp → Prop} (a0 a1 : Value) (h : exec prog W tab 14 f_quotalaw15_brought.live (codeOf Go.Proofs.Try.f15) (bodyQ W tab [.tmp 4] R) (argFr 0 [a0, a1]) [] H) : Does prog W f_quotalaw15_brought ⟨[a0, a1]⟩ H R :=
  Does.of_exec tab_ok f_quotalaw15_brought.live Go.Proofs.Try.func15 rfl rfl rfl (by simp) h
theorem f_quotalaw15_num.ok : Callable prog f_quotalaw15_num := callable_of Go.Proofs.Try.func16 (by kernel_rfl) rfl
def f_quotalaw15_num.live : Nat → Option (List Nat) := fun i => match i with
  | 0 => some [0]
  | 1 => some [2]
  | _ => none
theorem f_quotalaw15_num.does {W : World} {H : HProp} {R : Ending → HProp → Prop} (a0 : Value) (h : exec prog W tab 4 f_quotalaw15_num.live (codeOf Go.Proofs.Try.f16) (bodyQ W tab [.tmp 2] R) (argFr 0 [a0]) [] H) : Does prog W f_quotalaw15_num ⟨[a0]⟩ H R :=
  Does.of_exec tab_ok f_quotalaw15_num.live Go.Proofs.Try.func16 rfl rfl rfl (by simp) h
theorem f_room_Room_May.ok : Callable prog f_room_Room_May := callable_of Go.Proofs.Try.func17 (by kernel_rfl) rfl
def f_room_Room_May.live : Nat → Option (List Nat) := fun i => match i with
  | 0 => some [0, 1, 2, 3]
  | 1 => some [0, 1, 2, 3, 20]
  | 2 => some [8]
  | 3 => some [1, 25, 26, 27]
  | 4 => some [1, 25, 26, 27, 28]
  | 5 => some [1, 10, 25, 26, 27]
  | 6 => some [1, 10, 25, 26, 27, 33]
  | 7 => some [8]
  | 8 => some [1, 25, 26, 27]
  | 9 => some [1, 25, 26, 27]
  | 10 => some [8]
  | _ => none
theorem f_room_Room_May.does {W : World} {H : HProp} {R : Ending → HProp → Prop} (a0 a1 a2 a3 : Value) (h : exec prog W tab 38 f_room_Room_May.live (codeOf Go.Proofs.Try.f17) (bodyQ W tab [.tmp 8] R) (argFr 0 [a0, a1, a2, a3]) [] H) : Does prog W f_room_Room_May ⟨[a0, a1, a2, a3]⟩ H R :=
  Does.of_exec tab_ok f_room_Room_May.live Go.Proofs.Try.func17 rfl rfl rfl (by simp) h
theorem f_quotalaw15_Book_ends.ok : Callable prog f_quotalaw15_Book_ends := callable_of Go.Proofs.Try.func18 (by kernel_rfl) rfl
def f_quotalaw15_Book_ends.live : Nat → Option (List Nat) := fun i => match i with
  | 0 => some [0, 1, 2, 3]
  | 1 => some [0, 1, 3, 9]
  | 2 => some [0, 1, 3, 9, 10]
  | 3 => some [0, 1, 3, 9, 10, 22]
  | 4 => some [0, 1, 10]
  | 5 => some [0, 1, 3, 9, 10, 37]
  | 6 => some [0, 1, 10]
  | 7 => some [0, 1, 3, 9, 10, 47]
  | 8 => some [0, 1, 3, 9, 10]
  | 9 => some [0, 1, 10]
  | 10 => some [0, 10, 11]
  | 11 => some [0, 10, 71]
  | 12 => some [8]
  | 13 => some []
  | 14 => some [8]
  | _ => none
theorem f_quotalaw15_Book_ends.does {W : World} {H : HProp} {R : Ending → HProp → Prop} (a0 a1 a2 a3 : Value) (h : exec prog W tab 75 f_quotalaw15_Book_ends.live (codeOf Go.Proofs.Try.f18) (bodyQ W tab [.tmp 8] R) (argFr 0 [a0, a1, a2, a3]) [] H) : Does prog W f_quotalaw15_Book_ends ⟨[a0, a1, a2, a3]⟩ H R :=
  Does.of_exec tab_ok f_quotalaw15_Book_ends.live Go.Proofs.Try.func18 rfl rfl rfl (by simp) h
def f_quotalaw15_Book_ends.plan9 : List Nat := [0, 1, 2, 3, 4, 5, 6, 7, 8, 9, 10]
def f_quotalaw15_Book_ends.last9 : List Nat := [9, 10]
theorem f_room_Room_Of.ok : Callable prog f_room_Room_Of := callable_of Go.Proofs.Try.func19 (by kernel_rfl) rfl
def f_room_Room_Of.live : Nat → Option (List Nat) := fun i => match i with
  | 0 => some [0, 1]
  | 1 => some [5]
  | 2 => some [5, 13]
  | 3 => some [4]
  | 4 => some [4]
  | _ => none
theorem f_room_Room_Of.does {W : World} {H : HProp} {R : Ending → HProp → Prop} (a0 a1 : Value) (h : exec prog W tab 16 f_room_Room_Of.live (codeOf Go.Proofs.Try.f19) (bodyQ W tab [.tmp 4] R) (argFr 0 [a0, a1]) [] H) : Does prog W f_room_Room_Of ⟨[a0, a1]⟩ H R :=
  Does.of_exec tab_ok f_room_Room_Of.live Go.Proofs.Try.func19 rfl rfl rfl (by simp) h
theorem f_quotalaw15_Tx_owes.ok : Callable prog f_quotalaw15_Tx_owes := callable_of Go.Proofs.Try.func20 (by kernel_rfl) rfl
def f_quotalaw15_Tx_owes.live : Nat → Option (List Nat) := fun i => match i with
  | 0 => some [1]
  | 1 => some [1, 4]
  | 2 => some [2]
  | 3 => some [1, 6]
  | 4 => some [2]
  | 5 => some [2]
  | _ => none
theorem f_quotalaw15_Tx_owes.does {W : World} {H : HProp} {R : Ending → HProp → Prop} (a0 : Value) (h : exec prog W tab 15 f_quotalaw15_Tx_owes.live (codeOf Go.Proofs.Try.f20) (bodyQ W tab [.tmp 2] R) (argFr 0 [a0]) [] H) : Does prog W f_quotalaw15_Tx_owes ⟨[a0]⟩ H R :=
  Does.of_exec tab_ok f_quotalaw15_Tx_owes.live Go.Proofs.Try.func20 rfl rfl rfl (by simp) h
theorem f_room_Room_Hold.ok : Callable prog f_room_Room_Hold := callable_of Go.Proofs.Try.func21 (by kernel_rfl) rfl
def f_room_Room_Hold.live : Nat → Option (List Nat) := fun i => match i with
  | 0 => some [0, 1, 2]
  | 1 => some [2, 7]
  | 2 => some [2, 7, 14]
  | 3 => some [6]
  | 4 => some [2, 7, 17]
  | 5 => some [6]
  | 6 => some [2, 7, 24]
  | 7 => some [6]
  | 8 => some [2, 7, 30]
  | 9 => some [6]
  | 10 => some [2, 7, 38]
  | 11 => some [6]
  | 12 => some []
  | 13 => some [6]
  | _ => none
theorem f_room_Room_Hold.does {W : World} {H : HProp} {R : Ending → HProp → Prop} (a0 a1 a2 : Value) (h : exec prog W tab 50 f_room_Room_Hold.live (codeOf Go.Proofs.Try.f21) (bodyQ W tab [.tmp 6] R) (argFr 0 [a0, a1, a2]) [] H) : Does prog W f_room_Room_Hold ⟨[a0, a1, a2]⟩ H R :=
  Does.of_exec tab_ok f_room_Room_Hold.live Go.Proofs.Try.func21 rfl rfl rfl (by simp) h
theorem f_room_New.ok : Callable prog f_room_New := callable_of Go.Proofs.Try.func22 (by kernel_rfl) rfl
def f_room_New.live : Nat → Option (List Nat) := fun i => match i with
  | 0 => some []
  | 1 => some [0]
  | _ => none
theorem f_room_New.does {W : World} {H : HProp} {R : Ending → HProp → Prop} (h : exec prog W tab 4 f_room_New.live (codeOf Go.Proofs.Try.f22) (bodyQ W tab [.tmp 0] R) (argFr 0 []) [] H) : Does prog W f_room_New ⟨[]⟩ H R :=
  Does.of_exec tab_ok f_room_New.live Go.Proofs.Try.func22 rfl rfl rfl (by simp) h
theorem f_quotalaw15_asked.ok : Callable prog f_quotalaw15_asked := callable_of Go.Proofs.Try.func23 (by kernel_rfl) rfl
def f_quotalaw15_asked.live : Nat → Option (List Nat) := fun i => match i with
  | 0 => some [0, 3]
  | 1 => some [0, 3, 6]
  | 2 => some [0, 3, 6, 7]
  | 3 => some [4]
  | 4 => some [0, 3, 6, 14]
  | 5 => some [4]
  | 6 => some [0, 3, 23]
  | 7 => some [4]
  | 8 => some [4]
  | _ => none
theorem f_quotalaw15_asked.does {W : World} {H : HProp} {R : Ending → HProp → Prop} (a0 a1 : Value) (h : exec prog W tab 34 f_quotalaw15_asked.live (codeOf Go.Proofs.Try.f23) (bodyQ W tab [.tmp 4] R) (argFr 0 [a0, a1]) [] H) : Does prog W f_quotalaw15_asked ⟨[a0, a1]⟩ H R :=
  Does.of_exec tab_ok f_quotalaw15_asked.live Go.Proofs.Try.func23 rfl rfl rfl (by simp) h
theorem f_quotalaw15_Book_notes.ok : Callable prog f_quotalaw15_Book_notes := callable_of Go.Proofs.Try.func24 (by kernel_rfl) rfl
def f_quotalaw15_Book_notes.live : Nat → Option (List Nat) := fun i => match i with
  | 0 => some [0, 3]
  | 1 => some [0, 3, 4]
  | 2 => some [0, 3, 4, 11]
  | 3 => some []
  | 4 => some [0, 3, 4, 27]
  | 5 => some [0, 3, 4, 30]
  | 6 => some []
  | 7 => some [0, 3, 4, 67]
  | 8 => some []
  | 9 => some [0, 3, 4, 83]
  | 10 => some []
  | 11 => some [0, 3, 4, 99]
  | 12 => some [0, 4, 5]
  | 13 => some [0, 4, 5, 120]
  | 14 => some []
  | 15 => some [0, 4, 138]
  | 16 => some [0, 4, 6]
  | 17 => some [0, 4, 6]
  | 18 => some []
  | _ => none
theorem f_quotalaw15_Book_notes.does {W : World} {H : HProp} {R : Ending → HProp → Prop} (a0 a1 : Value) (h : exec prog W tab 167 f_quotalaw15_Book_notes.live (codeOf Go.Proofs.Try.f24) (bodyQ W tab [] R) (argFr 0 [a0, a1]) [] H) : Does prog W f_quotalaw15_Book_notes ⟨[a0, a1]⟩ H R :=
  Does.of_exec tab_ok f_quotalaw15_Book_notes.live Go.Proofs.Try.func24 rfl rfl rfl (by simp) h
def f_quotalaw15_Book_notes.plan3 : List Nat := [0, 1, 2, 3, 4, 5, 6, 7, 8, 9, 10, 11, 12]
def f_quotalaw15_Book_notes.last3 : List Nat := [10, 11, 12]
def f_quotalaw15_Book_notes.plan5 : List Nat := [0, 1, 2, 3, 4, 5, 6, 7, 8, 9, 10, 11, 12, 13, 14, 15, 16, 17]
def f_quotalaw15_Book_notes.last5 : List Nat := []
def f_quotalaw15_Book_notes.plan6 : List Nat := [0, 1, 2, 3, 4, 5, 6, 7, 8, 9, 10, 11, 12, 13, 14, 15, 16, 17, 18, 19]
def f_quotalaw15_Book_notes.last6 : List Nat := [17, 18, 19]
def f_quotalaw15_Book_notes.plan12 : List Nat := [0, 1, 2, 3, 4, 5, 6, 7, 8, 9, 10, 11]
def f_quotalaw15_Book_notes.last12 : List Nat := [11]
def f_quotalaw15_Book_notes.plan14 : List Nat := [0, 1, 2, 3, 4, 5, 6, 7, 8, 9, 10, 11, 12, 13, 14, 15, 16, 17]
def f_quotalaw15_Book_notes.last14 : List Nat := [15, 16, 17]
theorem f_room_Room_Begin.ok : Callable prog f_room_Room_Begin := callable_of Go.Proofs.Try.func25 (by kernel_rfl) rfl
def f_room_Room_Begin.live : Nat → Option (List Nat) := fun i => match i with
  | 0 => some [0, 1]
  | 1 => some [0, 1, 10]
  | 2 => some [4]
  | 3 => some [0, 1, 17]
  | 4 => some [4]
  | 5 => some [0, 1, 23]
  | 6 => some [4]
  | 7 => some []
  | 8 => some [4]
  | _ => none
theorem f_room_Room_Begin.does {W : World} {H : HProp} {R : Ending → HProp → Prop} (a0 a1 : Value) (h : exec prog W tab 32 f_room_Room_Begin.live (codeOf Go.Proofs.Try.f25) (bodyQ W tab [.tmp 4] R) (argFr 0 [a0, a1]) [] H) : Does prog W f_room_Room_Begin ⟨[a0, a1]⟩ H R :=
  Does.of_exec tab_ok f_room_Room_Begin.live Go.Proofs.Try.func25 rfl rfl rfl (by simp) h
theorem f_room_Room_Wrote.ok : Callable prog f_room_Room_Wrote := callable_of Go.Proofs.Try.func26 (by kernel_rfl) rfl
def f_room_Room_Wrote.live : Nat → Option (List Nat) := fun i => match i with
  | 0 => some [0, 1, 2, 3]
  | 1 => some [0, 1, 2, 3, 9]
  | 2 => some [0, 1, 2, 3, 9, 17]
  | 3 => some [8]
  | 4 => some [0, 1, 2, 3, 9, 18]
  | 5 => some [8]
  | 6 => some [0, 1, 2, 3, 9, 18, 19]
  | 7 => some [0, 1, 2, 3, 9, 18, 19]
  | 8 => some [2, 9, 26]
  | 9 => some [8]
  | 10 => some [2, 9]
  | 11 => some [9, 31]
  | 12 => some []
  | 13 => some [0, 1, 3, 9, 18, 35]
  | 14 => some [3, 9, 41]
  | 15 => some [8]
  | 16 => some [3, 9, 48]
  | 17 => some [8]
  | 18 => some []
  | 19 => some [0, 1, 9, 54]
  | 20 => some [0, 1, 75]
  | 21 => some [8]
  | 22 => some []
  | 23 => some [8]
  | _ => none
theorem f_room_Room_Wrote.does {W : World} {H : HProp} {R : Ending → HProp → Prop} (a0 a1 a2 a3 : Value) (h : exec prog W tab 81 f_room_Room_Wrote.live (codeOf Go.Proofs.Try.f26) (bodyQ W tab [.tmp 8] R) (argFr 0 [a0, a1, a2, a3]) [] H) : Does prog W f_room_Room_Wrote ⟨[a0, a1, a2, a3]⟩ H R :=
  Does.of_exec tab_ok f_room_Room_Wrote.live Go.Proofs.Try.func26 rfl rfl rfl (by simp) h
theorem f_quotaref15_New.ok : Callable prog f_quotaref15_New := callable_of Go.Proofs.Try.func27 (by kernel_rfl) rfl
def f_quotaref15_New.live : Nat → Option (List Nat) := fun i => match i with
  | 0 => some []
  | 1 => some [0]
  | _ => none
theorem f_quotaref15_New.does {W : World} {H : HProp} {R : Ending → HProp → Prop} (h : exec prog W tab 3 f_quotaref15_New.live (codeOf Go.Proofs.Try.f27) (bodyQ W tab [.tmp 0] R) (argFr 0 []) [] H) : Does prog W f_quotaref15_New ⟨[]⟩ H R :=
  Does.of_exec tab_ok f_quotaref15_New.live Go.Proofs.Try.func27 rfl rfl rfl (by simp) h
theorem f_quotaref15_Room_Begin.ok : Callable prog f_quotaref15_Room_Begin := callable_of Go.Proofs.Try.func28 (by kernel_rfl) rfl
def f_quotaref15_Room_Begin.live : Nat → Option (List Nat) := fun i => match i with
  | 0 => some [0, 1]
  | 1 => some [0, 1, 10]
  | 2 => some [4]
  | 3 => some [0, 1, 14]
  | 4 => some [4]
  | 5 => some [0, 1, 20]
  | 6 => some [4]
  | 7 => some []
  | 8 => some [4]
  | _ => none
theorem f_quotaref15_Room_Begin.does {W : World} {H : HProp} {R : Ending → HProp → Prop} (a0 a1 : Value) (h : exec prog W tab 32 f_quotaref15_Room_Begin.live (codeOf Go.Proofs.Try.f28) (bodyQ W tab [.tmp 4] R) (argFr 0 [a0, a1]) [] H) : Does prog W f_quotaref15_Room_Begin ⟨[a0, a1]⟩ H R :=
  Does.of_exec tab_ok f_quotaref15_Room_Begin.live Go.Proofs.Try.func28 rfl rfl rfl (by simp) h
theorem f_quotaref15_Room_Hold.ok : Callable prog f_quotaref15_Room_Hold := callable_of Go.Proofs.Try.func29 (by kernel_rfl) rfl
def f_quotaref15_Room_Hold.live : Nat → Option (List Nat) := fun i => match i with
  | 0 => some [0, 1, 2]
  | 1 => some [0, 2, 7]
  | 2 => some [0, 2, 7, 12]
  | 3 => some [6]
  | 4 => some [0, 2, 7, 18]
  | 5 => some [6]
  | 6 => some [0, 2, 7, 27]
  | 7 => some [6]
  | 8 => some [0, 2, 7, 37]
  | 9 => some [6]
  | 10 => some [0, 2, 7, 47]
  | 11 => some [6]
  | 12 => some []
  | 13 => some [6]
  | _ => none
theorem f_quotaref15_Room_Hold.does {W : World} {H : HProp} {R : Ending → HProp → Prop} (a0 a1 a2 : Value) (h : exec prog W tab 66 f_quotaref15_Room_Hold.live (codeOf Go.Proofs.Try.f29) (bodyQ W tab [.tmp 6] R) (argFr 0 [a0, a1, a2]) [] H) : Does prog W f_quotaref15_Room_Hold ⟨[a0, a1, a2]⟩ H R :=
  Does.of_exec tab_ok f_quotaref15_Room_Hold.live Go.Proofs.Try.func29 rfl rfl rfl (by simp) h
def f_quotaref15_Room_Hold.plan12 : List Nat := [0, 1, 2, 3, 4, 5, 6, 7, 8, 9, 10, 11, 12, 13, 14, 15, 16, 17, 18]
def f_quotaref15_Room_Hold.last12 : List Nat := [16, 17, 18]
theorem f_quotaref15_Room_Wrote.ok : Callable prog f_quotaref15_Room_Wrote := callable_of Go.Proofs.Try.func30 (by kernel_rfl) rfl
def f_quotaref15_Room_Wrote.live : Nat → Option (List Nat) := fun i => match i with
  | 0 => some [0, 1, 2, 3]
  | 1 => some [0, 2, 3, 9]
  | 2 => some [0, 2, 3, 9, 17]
  | 3 => some [8]
  | 4 => some [0, 2, 3, 9, 10]
  | 5 => some [0, 2, 3, 9, 10, 25]
  | 6 => some [0, 2, 3, 9, 10, 25, 26]
  | 7 => some [0, 2, 3, 9, 10, 25, 26]
  | 8 => some [0, 2, 9, 31]
  | 9 => some [8]
  | 10 => some [0, 2, 9]
  | 11 => some [0, 9, 40]
  | 12 => some []
  | 13 => some [8]
  | 14 => some [0, 3, 9, 10, 25, 48]
  | 15 => some [0, 3, 9, 10, 52]
  | 16 => some [8]
  | 17 => some [0, 9, 10, 11]
  | 18 => some [0, 9, 10, 11, 57]
  | 19 => some [8]
  | 20 => some []
  | 21 => some [8]
  | 22 => some [0, 9, 10, 69]
  | 23 => some [0, 9, 84]
  | 24 => some [8]
  | 25 => some [0, 9, 12]
  | 26 => some [0, 9, 12]
  | 27 => some []
  | 28 => some [8]
  | 29 => some [8]
  | _ => none
theorem f_quotaref15_Room_Wrote.does {W : World} {H : HProp} {R : Ending → HProp → Prop} (a0 a1 a2 a3 : Value) (h : exec prog W tab 105 f_quotaref15_Room_Wrote.live (codeOf Go.Proofs.Try.f30) (bodyQ W tab [.tmp 8] R) (argFr 0 [a0, a1, a2, a3]) [] H) : Does prog W f_quotaref15_Room_Wrote ⟨[a0, a1, a2, a3]⟩ H R :=
  Does.of_exec tab_ok f_quotaref15_Room_Wrote.live Go.Proofs.Try.func30 rfl rfl rfl (by simp) h
def f_quotaref15_Room_Wrote.plan20 : List Nat := [0, 1, 2, 3, 4, 5, 6, 7, 8, 9, 10, 11]
def f_quotaref15_Room_Wrote.last20 : List Nat := [9, 10, 11]
theorem f_quotaref15_Room_May.ok : Callable prog f_quotaref15_Room_May := callable_of Go.Proofs.Try.func31 (by kernel_rfl) rfl
def f_quotaref15_Room_May.live : Nat → Option (List Nat) := fun i => match i with
  | 0 => some [0, 1, 2, 3]
  | 1 => some [0, 1, 2, 3, 18]
  | 2 => some [8]
  | 3 => some [38]
  | 4 => some [8]
  | 5 => some [8]
  | _ => none
theorem f_quotaref15_Room_May.does {W : World} {H : HProp} {R : Ending → HProp → Prop} (a0 a1 a2 a3 : Value) (h : exec prog W tab 39 f_quotaref15_Room_May.live (codeOf Go.Proofs.Try.f31) (bodyQ W tab [.tmp 8] R) (argFr 0 [a0, a1, a2, a3]) [] H) : Does prog W f_quotaref15_Room_May ⟨[a0, a1, a2, a3]⟩ H R :=
  Does.of_exec tab_ok f_quotaref15_Room_May.live Go.Proofs.Try.func31 rfl rfl rfl (by simp) h
theorem f_quotaref15_Room_Promised.ok : Callable prog f_quotaref15_Room_Promised := callable_of Go.Proofs.Try.func32 (by kernel_rfl) rfl
def f_quotaref15_Room_Promised.live : Nat → Option (List Nat) := fun i => match i with
  | 0 => some [0]
  | 1 => some [0, 3]
  | 2 => some [0, 3, 4]
  | 3 => some [0, 3, 4, 11]
  | 4 => some [0, 3, 4]
  | 5 => some [0, 3, 4]
  | 6 => some [2]
  | _ => none
theorem f_quotaref15_Room_Promised.does {W : World} {H : HProp} {R : Ending → HProp → Prop} (a0 : Value) (h : exec prog W tab 25 f_quotaref15_Room_Promised.live (codeOf Go.Proofs.Try.f32) (bodyQ W tab [.tmp 2] R) (argFr 0 [a0]) [] H) : Does prog W f_quotaref15_Room_Promised ⟨[a0]⟩ H R :=
  Does.of_exec tab_ok f_quotaref15_Room_Promised.live Go.Proofs.Try.func32 rfl rfl rfl (by simp) h
theorem f_quotaref15_Room_Of.ok : Callable prog f_quotaref15_Room_Of := callable_of Go.Proofs.Try.func33 (by kernel_rfl) rfl
def f_quotaref15_Room_Of.live : Nat → Option (List Nat) := fun i => match i with
  | 0 => some [0, 1]
  | 1 => some [0, 5]
  | 2 => some [0, 5, 10]
  | 3 => some [4]
  | 4 => some [4]
  | _ => none
theorem f_quotaref15_Room_Of.does {W : World} {H : HProp} {R : Ending → HProp → Prop} (a0 a1 : Value) (h : exec prog W tab 19 f_quotaref15_Room_Of.live (codeOf Go.Proofs.Try.f33) (bodyQ W tab [.tmp 4] R) (argFr 0 [a0, a1]) [] H) : Does prog W f_quotaref15_Room_Of ⟨[a0, a1]⟩ H R :=
  Does.of_exec tab_ok f_quotaref15_Room_Of.live Go.Proofs.Try.func33 rfl rfl rfl (by simp) h
theorem f_room_life_promised.ok : Callable prog f_room_life_promised := callable_of Go.Proofs.Try.func34 (by kernel_rfl) rfl
def f_room_life_promised.live : Nat → Option (List Nat) := fun i => match i with
  | 0 => some [0]
  | 1 => some [0, 6]
  | 2 => some [0, 6, 7]
  | 3 => some [2]
  | 4 => some [0, 15]
  | 5 => some [2]
  | 6 => some [2]
  | _ => none
theorem f_room_life_promised.does {W : World} {H : HProp} {R : Ending → HProp → Prop} (a0 : Value) (h : exec prog W tab 23 f_room_life_promised.live (codeOf Go.Proofs.Try.f34) (bodyQ W tab [.tmp 2] R) (argFr 0 [a0]) [] H) : Does prog W f_room_life_promised ⟨[a0]⟩ H R :=
  Does.of_exec tab_ok f_room_life_promised.live Go.Proofs.Try.func34 rfl rfl rfl (by simp) h
theorem f_quotalaw15_Book_at.ok : Callable prog f_quotalaw15_Book_at := callable_of Go.Proofs.Try.func35 (by kernel_rfl) rfl
def f_quotalaw15_Book_at.live : Nat → Option (List Nat) := fun i => match i with
  | 0 => some [0, 1]
  | 1 => some [0, 1, 5]
  | 2 => some [0, 1, 5, 12]
  | 3 => some [0, 1, 5]
  | 4 => some [0, 1, 5, 24]
  | 5 => some [4]
  | 6 => some [4]
  | _ => none
theorem f_quotalaw15_Book_at.does {W : World} {H : HProp} {R : Ending → HProp → Prop} (a0 a1 : Value) (h : exec prog W tab 26 f_quotalaw15_Book_at.live (codeOf Go.Proofs.Try.f35) (bodyQ W tab [.tmp 4] R) (argFr 0 [a0, a1]) [] H) : Does prog W f_quotalaw15_Book_at ⟨[a0, a1]⟩ H R :=
  Does.of_exec tab_ok f_quotalaw15_Book_at.live Go.Proofs.Try.func35 rfl rfl rfl (by simp) h
theorem f_quotalaw15_place.ok : Callable prog f_quotalaw15_place := callable_of Go.Proofs.Try.func36 (by kernel_rfl) rfl
def f_quotalaw15_place.live : Nat → Option (List Nat) := fun i => match i with
  | 0 => some [0, 1]
  | 1 => some [0, 1, 5]
  | 2 => some [0, 1, 5, 9]
  | 3 => some [0, 1, 5]
  | 4 => some [0, 1, 5, 17]
  | 5 => some [4]
  | 6 => some [4]
  | _ => none
theorem f_quotalaw15_place.does {W : World} {H : HProp} {R : Ending → HProp → Prop} (a0 a1 : Value) (h : exec prog W tab 19 f_quotalaw15_place.live (codeOf Go.Proofs.Try.f36) (bodyQ W tab [.tmp 4] R) (argFr 0 [a0, a1]) [] H) : Does prog W f_quotalaw15_place ⟨[a0, a1]⟩ H R :=
  Does.of_exec tab_ok f_quotalaw15_place.live Go.Proofs.Try.func36 rfl rfl rfl (by simp) h
theorem f_quotalaw15_without.ok : Callable prog f_quotalaw15_without := callable_of Go.Proofs.Try.func37 (by kernel_rfl) rfl
def f_quotalaw15_without.live : Nat → Option (List Nat) := fun i => match i with
  | 0 => some [0, 1]
  | 1 => some [0, 1, 5]
  | 2 => some [0, 1, 5]
  | 3 => some [4]
  | _ => none
theorem f_quotalaw15_without.does {W : World} {H : HProp} {R : Ending → HProp → Prop} (a0 a1 : Value) (h : exec prog W tab 17 f_quotalaw15_without.live (codeOf Go.Proofs.Try.f37) (bodyQ W tab [.tmp 4] R) (argFr 0 [a0, a1]) [] H) : Does prog W f_quotalaw15_without ⟨[a0, a1]⟩ H R :=
  Does.of_exec tab_ok f_quotalaw15_without.live Go.Proofs.Try.func37 rfl rfl rfl (by simp) h
theorem f_quotaref15_Room_at.ok : Callable prog f_quotaref15_Room_at := callable_of Go.Proofs.Try.func38 (by kernel_rfl) rfl
def f_quotaref15_Room_at.live : Nat → Option (List Nat) := fun i => match i with
  | 0 => some [0, 1]
  | 1 => some [0, 1, 5]
  | 2 => some [0, 1, 5, 12]
  | 3 => some [0, 1, 5]
  | 4 => some [0, 1, 5, 24]
  | 5 => some [4]
  | 6 => some [4]
  | _ => none
theorem f_quotaref15_Room_at.does {W : World} {H : HProp} {R : Ending → HProp → Prop} (a0 a1 : Value) (h : exec prog W tab 26 f_quotaref15_Room_at.live (codeOf Go.Proofs.Try.f38) (bodyQ W tab [.tmp 4] R) (argFr 0 [a0, a1]) [] H) : Does prog W f_quotaref15_Room_at ⟨[a0, a1]⟩ H R :=
  Does.of_exec tab_ok f_quotaref15_Room_at.live Go.Proofs.Try.func38 rfl rfl rfl (by simp) h
theorem f_quotaref15_Tx_holds.ok : Callable prog f_quotaref15_Tx_holds := callable_of Go.Proofs.Try.func39 (by kernel_rfl) rfl
def f_quotaref15_Tx_holds.live : Nat → Option (List Nat) := fun i => match i with
  | 0 => some [1, 2]
  | 1 => some [1, 2, 5]
  | 2 => some [1, 2, 5, 10]
  | 3 => some [1, 2, 5]
  | 4 => some [1, 2, 5, 19]
  | 5 => some [4]
  | 6 => some [4]
  | _ => none
theorem f_quotaref15_Tx_holds.does {W : World} {H : HProp} {R : Ending → HProp → Prop} (a0 a1 : Value) (h : exec prog W tab 21 f_quotaref15_Tx_holds.live (codeOf Go.Proofs.Try.f39) (bodyQ W tab [.tmp 4] R) (argFr 0 [a0, a1]) [] H) : Does prog W f_quotaref15_Tx_holds ⟨[a0, a1]⟩ H R :=
  Does.of_exec tab_ok f_quotaref15_Tx_holds.live Go.Proofs.Try.func39 rfl rfl rfl (by simp) h
theorem f_quotaref15_without.ok : Callable prog f_quotaref15_without := callable_of Go.Proofs.Try.func40 (by kernel_rfl) rfl
def f_quotaref15_without.live : Nat → Option (List Nat) := fun i => match i with
  | 0 => some [0, 1]
  | 1 => some [0, 1, 5]
  | 2 => some [0, 1, 5]
  | 3 => some [4]
  | _ => none
theorem f_quotaref15_without.does {W : World} {H : HProp} {R : Ending → HProp → Prop} (a0 a1 : Value) (h : exec prog W tab 17 f_quotaref15_without.live (codeOf Go.Proofs.Try.f40) (bodyQ W tab [.tmp 4] R) (argFr 0 [a0, a1]) [] H) : Does prog W f_quotaref15_without ⟨[a0, a1]⟩ H R :=
  Does.of_exec tab_ok f_quotaref15_without.live Go.Proofs.Try.func40 rfl rfl rfl (by simp) h
theorem f_quotaref15_Tx_promised.ok : Callable prog f_quotaref15_Tx_promised := callable_of Go.Proofs.Try.func41 (by kernel_rfl) rfl
def f_quotaref15_Tx_promised.live : Nat → Option (List Nat) := fun i => match i with
  | 0 => some [1]
  | 1 => some [1, 4]
  | 2 => some [1, 4, 5]
  | 3 => some [2]
  | 4 => some [1, 7]
  | 5 => some [2]
  | 6 => some [2]
  | _ => none
theorem f_quotaref15_Tx_promised.does {W : World} {H : HProp} {R : Ending → HProp → Prop} (a0 : Value) (h : exec prog W tab 17 f_quotaref15_Tx_promised.live (codeOf Go.Proofs.Try.f41) (bodyQ W tab [.tmp 2] R) (argFr 0 [a0]) [] H) : Does prog W f_quotaref15_Tx_promised ⟨[a0]⟩ H R :=
  Does.of_exec tab_ok f_quotaref15_Tx_promised.live Go.Proofs.Try.func41 rfl rfl rfl (by simp) h
end Go.Proofs.Ytgepohccnknngaa
