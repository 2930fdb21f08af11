/-
  The code is they.
-/
import Derived.Test.YtanpfcdbfdkclaaKModel
import Derived.Test.YtanpfcdbfdkclaaD12
import Derived.Test.YtanpfcdbfdkclaaSh
import Derived.Test.YtanpfcdbfdkclaaDel
import Derived.Test.YtanpfcdbfdkclaaHd2
namespace Go.Proofs.Ytanpfcdbfdkclaa
open Go.Lad
set_option linter.unusedVariables false
set_option maxRecDepth 100000
theorem mixed : Try.prog.follows .mixedOrders = true := by kernel_rfl
noncomputable abbrev iT : Ty := .int .i64
noncomputable abbrev liT : Ty := .sl iT
noncomputable abbrev aD (t : Ty) : SSh := .c (.v (.d t))
noncomputable def GActT : Ty := (.pair iT (.pair iT (.pair iT (.pair .str liT))))
noncomputable def GFileT : Ty := (.pair .str .str)
noncomputable def GSectorT : Ty := (.pair iT iT)
namespace disk_New
noncomputable def con [Fuel] : Con := ⟨10, [], [], [], [], .one (.v (.loc 0 0)), [(0, .box 56 [.mp 1, .own 2, .mp 3, .d iT, .d .bool, .d iT, .d liT]), (1, .mapI .i64 true GFileT), (2, .arr 70 GSectorT), (3, .mapQ .i64 false .bool)], [iT, .bool, iT, liT, (.sl (.pair iT GFileT)), (.sl GSectorT), (.sl (.pair GSectorT .bool))], fun x => disk_New⟩
noncomputable def env [Fuel] : Env := ⟨Try.prog, [(52, GFileT), (53, .bool)], [], [], [], [], [], [], [], [], [], []⟩
noncomputable def an : An := .seq .no (.seq .no .no)
theorem run [Fuel] : RunIs env Try.f10 an con := fun x => by kernel_rfl
theorem ok [Fuel] : ConOK Try.prog con := run_ok (E := env) run mixed Try.func10 (by kernel_rfl) (cons_nil)
end disk_New
namespace disk_Disk_ends
noncomputable def con [Fuel] : Con := ⟨43, [.c (.v (.loc 1000000 0))], [], [(1000000, .box 56 [.mp 1000001, .own 1000002, .mp 1000003, .d iT, .d .bool, .d iT, .d liT]), (1000001, .mapI .i64 true GFileT), (1000002, .arr 70 GSectorT), (1000003, .mapQ .i64 false .bool)], [iT, .bool, iT, liT, (.sl (.pair iT GFileT)), (.sl GSectorT), (.sl (.pair GSectorT .bool))], .one (.v (.d .bool)), [(1000000, .box 56 [.mp 1000001, .own 1000002, .mp 1000003, .d iT, .d .bool, .d iT, .d liT]), (1000001, .mapI .i64 true GFileT), (1000002, .arr 70 GSectorT), (1000003, .mapQ .i64 false .bool)], [.bool, iT, .bool, iT, liT, (.sl (.pair iT GFileT)), (.sl GSectorT), (.sl (.pair GSectorT .bool))], fun x => disk_Disk_ends x.1 x.2.1 x.2.2.1 x.2.2.2.1 x.2.2.2.2.1 x.2.2.2.2.2.1 x.2.2.2.2.2.2⟩
noncomputable def env [Fuel] : Env := ⟨Try.prog, [], [], [], [1000000], [], [], [], [], [], [], []⟩
noncomputable def an : An := .seq .no (.seq (.join ⟨[(13, .c (.v (.d .bool)))], [], [.bool]⟩ [0] [1000000, 1000001, 1000002, 1000003] true .no (.cond (.seq .no .no) .no)) (.seq .no (.seq .no .no)))
theorem run [Fuel] : RunIs env Try.f43 an con := fun x => by kernel_rfl
theorem ok [Fuel] : ConOK Try.prog con := run_ok (E := env) run mixed Try.func43 (by kernel_rfl) (cons_nil)
end disk_Disk_ends
namespace disk_Disk_may
noncomputable def con [Fuel] : Con := ⟨44, [.c (.v (.loc 1000000 0)), (aD iT)], [(1000000, .box 56 [.mp 1000001, .own 1000002, .mp 1000003, .d iT, .d .bool, .d iT, .d liT]), (1000001, .mapI .i64 true GFileT), (1000002, .arr 70 GSectorT), (1000003, .mapQ .i64 false .bool)], [], [iT, iT, .bool, iT, liT, (.sl (.pair iT GFileT)), (.sl GSectorT), (.sl (.pair GSectorT .bool))], .one (.v (.d iT)), [], [iT], fun x => disk_Disk_may x.1 x.2.1 x.2.2.1 x.2.2.2.1 x.2.2.2.2.1 x.2.2.2.2.2.1 x.2.2.2.2.2.2.1 x.2.2.2.2.2.2.2⟩
noncomputable def env [Fuel] : Env := ⟨Try.prog, [], [], [], [1000000], [], [], [], [], [], [], []⟩
noncomputable def an : An := .seq .no (.seq (.one (.seq .no (.cond (.seq .no .no) (.join ⟨[(10, .c (.v (.d .bool)))], [], [.bool]⟩ [] [] true .no (.cond (.seq .no .no) .no))))) (.seq .no .no))
theorem run [Fuel] : RunIs env Try.f44 an con := fun x => by kernel_rfl
theorem ok [Fuel] : ConOK Try.prog con := run_ok (E := env) run mixed Try.func44 (by kernel_rfl) (cons_nil)
end disk_Disk_may
namespace disk_put
noncomputable def con [Fuel] : Con := ⟨47, [.c (.v (.d .str)), (aD iT), .c (.v (.d .str))], [], [], [.str, iT, .str], .one (.v (.d .str)), [], [.str], fun x => disk_put x.1 x.2.1 x.2.2⟩
noncomputable def env [Fuel] : Env := ⟨Try.prog, [(85, (.int .u8))], [], [], [], [], [], [], [], [], [], []⟩
noncomputable def an : An := .seq .no (.seq (.seq .no (.cond (.seq .no .no) .no)) (.seq .no (.seq .no (.seq .no (.seq .no .no)))))
theorem run [Fuel] : RunIs env Try.f47 an con := fun x => by kernel_rfl
theorem ok [Fuel] : ConOK Try.prog con := run_ok (E := env) run mixed Try.func47 (by kernel_rfl) (cons_nil)
end disk_put
namespace disk_Disk_write
noncomputable def con [Fuel] : Con := ⟨49, [.c (.v (.loc 1000000 0)), (aD iT), (aD iT), .c (.v (.d .str))], [], [(1000000, .box 56 [.mp 1000001, .own 1000002, .mp 1000003, .d iT, .d .bool, .d iT, .d liT]), (1000001, .mapI .i64 true GFileT), (1000002, .arr 70 GSectorT), (1000003, .mapQ .i64 false .bool)], [iT, iT, .str, iT, .bool, iT, liT, (.sl (.pair iT GFileT)), (.sl GSectorT), (.sl (.pair GSectorT .bool))], .one (.v (.d iT)), [(1000000, .box 56 [.mp 1000001, .own 0, .mp 1000003, .d iT, .d .bool, .d iT, .d liT]), (0, .arr 70 GSectorT), (1000001, .mapI .i64 true GFileT), (1000002, .gone), (1000003, .mapQ .i64 false .bool)], [iT, iT, .bool, iT, liT, (.sl GSectorT), (.sl (.pair iT GFileT)), (.sl (.pair GSectorT .bool))], fun x => disk_Disk_write x.1 x.2.1 x.2.2.1 x.2.2.2.1 x.2.2.2.2.1 x.2.2.2.2.2.1 x.2.2.2.2.2.2.1 x.2.2.2.2.2.2.2.1 x.2.2.2.2.2.2.2.2.1 x.2.2.2.2.2.2.2.2.2⟩
noncomputable def env [Fuel] : Env := ⟨Try.prog, [(54, GSectorT)], [disk_Disk_may.con, disk_put.con], [(15, 0), (45, 1)], [1000000], [15], [], [86], [], [50, 52, 71, 72, 79, 80, 84, 85, 13000070, 90000056], [], []⟩
noncomputable def an : An := .seq .no (.seq (.seq .no (.seq .no (.cond (.seq .no .no) .no))) (.seq (.one (.seq .no (.cond (.seq .no .no) (.join ⟨[(22, .c (.v (.d .bool)))], [], [.bool]⟩ [0, 1, 2, 3] [1000000, 1000001, 1000002, 1000003] true .no (.cond (.seq .no .no) (.seq .no (.cond (.seq .no .no) .no))))))) (.seq .no (.seq .no (.seq .no (.seq (.seq .no (.one (.loop ⟨[(0, .c (.v (.loc 1000000 0))), (11, (aD iT))], [(1000000, .box 56 [.mp 1000001, .own 500002, .mp 1000003, .d iT, .d .bool, .d iT, .d liT]), (1000001, .mapI .i64 true GFileT), (500002, .arr 70 GSectorT), (1000003, .mapQ .i64 false .bool)], [iT, iT, .bool, iT, liT, (.sl (.pair iT GFileT)), (.sl GSectorT), (.sl (.pair GSectorT .bool))]⟩ [1, 2, 3] [] (.seq (.seq .no (.cond .no .no)) (.seq (.one (.seq .no (.seq .no (.cond .no .no)))) .no))))) (.seq .no .no)))))))
theorem run [Fuel] : RunIs env Try.f49 an con := fun x => by kernel_rfl
theorem ok [Fuel] : ConOK Try.prog con := run_ok (E := env) run mixed Try.func49 (by kernel_rfl) (cons_cons disk_Disk_may.ok (cons_cons disk_put.ok (cons_nil)))
end disk_Disk_write
namespace disk_Disk_Crash
noncomputable def con [Fuel] : Con := ⟨25, [.c (.v (.loc 1000000 0)), (aD liT)], [], [(1000000, .box 56 [.mp 1000001, .own 1000002, .mp 1000003, .d iT, .d .bool, .d iT, .d liT]), (1000001, .mapI .i64 true GFileT), (1000002, .arr 70 GSectorT), (1000003, .mapQ .i64 false .bool)], [liT, iT, .bool, iT, liT, (.sl (.pair iT GFileT)), (.sl GSectorT), (.sl (.pair GSectorT .bool))], .tup [], [(1000000, .box 56 [.mp 1000001, .own 0, .mp 1, .d iT, .d .bool, .d iT, .d liT]), (0, .arr 70 GSectorT), (1, .mapQ .i64 false .bool), (1000001, .mapI .i64 true GFileT), (1000002, .gone), (1000003, .gone)], [iT, .bool, iT, liT, (.sl GSectorT), (.sl (.pair GSectorT .bool)), (.sl (.pair iT GFileT))], fun x => disk_Disk_Crash x.1 x.2.1 x.2.2.1 x.2.2.2.1 x.2.2.2.2.1 x.2.2.2.2.2.1 x.2.2.2.2.2.2.1 x.2.2.2.2.2.2.2⟩
noncomputable def env [Fuel] : Env := ⟨Try.prog, [(53, .bool)], [disk_put.con], [(74, 0)], [10, 11, 1000000], [], [], [], [71, 73], [33, 35, 38, 62, 65, 70, 79, 81, 82, 7000063, 33000056, 35000070, 38000070], [], [handLast]⟩
noncomputable def an : An := .seq (.seq .no (.cond .no .no)) (.seq .no (.join ⟨[(0, .c (.v (.loc 1000000 0)))], [(1000000, .box 56 [.mp 1000001, .own 1000002, .mp 1000003, .d iT, .d .bool, .d iT, .d liT]), (1000001, .mapI .i64 true GFileT), (1000002, .arr 70 GSectorT), (1000003, .mapQ .i64 false .bool)], [iT, .bool, iT, liT, (.sl (.pair iT GFileT)), (.sl GSectorT), (.sl (.pair GSectorT .bool))]⟩ [] [] true (.seq .no (.one (.loop ⟨[(0, .c (.v (.loc 1000000 0))), (23, .c (.v (.own 1000002))), (25, (aD iT))], [(1000000, .box 56 [.mp 1000001, .own 1000002, .mp 1000003, .d iT, .d .bool, .d iT, .d liT]), (1000002, .arr 70 GSectorT), (1000001, .mapI .i64 true GFileT), (1000003, .mapQ .i64 false .bool)], [iT, iT, .bool, iT, liT, (.sl GSectorT), (.sl (.pair iT GFileT)), (.sl (.pair GSectorT .bool))]⟩ [1, 24] [] (.seq .no (.seq (.cond .no .no) (.seq (.one (.seq .no (.seq .no (.seq (.join ⟨[(60, .c (.v (.d .bool)))], [], [.bool]⟩ [0, 1, 5, 6, 7, 23, 24, 25] [5, 6, 1000000, 1000001, 1000002, 1000003] true .no (.cond .no .no)) (.seq .no .no))))) .no)))))) (.seq (.hand 0) .no)))
theorem run [Fuel] : RunIs env Try.f25 an con := fun x => by kernel_rfl
theorem ok [Fuel] : ConOK Try.prog con := run_ok (E := env) run mixed Try.func25 (by kernel_rfl) (cons_cons disk_put.ok (cons_nil)) (hHd := crash_hands rfl rfl (by kernel_rfl))
end disk_Disk_Crash
namespace disk_Disk_Write
noncomputable def con [Fuel] : Con := ⟨29, [.c (.v (.loc 1000000 0)), (aD iT), (aD iT), .c (.v (.d .str))], [], [(1000000, .box 56 [.mp 1000001, .own 1000002, .mp 1000003, .d iT, .d .bool, .d iT, .d liT]), (1000001, .mapI .i64 true GFileT), (1000002, .arr 70 GSectorT), (1000003, .mapQ .i64 false .bool)], [iT, iT, .str, iT, .bool, iT, liT, (.sl (.pair iT GFileT)), (.sl GSectorT), (.sl (.pair GSectorT .bool))], .one (.v (.d iT)), [(1000000, .box 56 [.mp 1000001, .own 0, .mp 1, .d iT, .d .bool, .d iT, .d liT]), (0, .arr 70 GSectorT), (1, .mapQ .i64 false .bool), (1000001, .mapI .i64 true GFileT), (1000002, .gone), (1000003, .gone)], [iT, iT, .bool, iT, liT, (.sl GSectorT), (.sl (.pair GSectorT .bool)), (.sl (.pair iT GFileT))], fun x => disk_Disk_Write x.1 x.2.1 x.2.2.1 x.2.2.2.1 x.2.2.2.2.1 x.2.2.2.2.2.1 x.2.2.2.2.2.2.1 x.2.2.2.2.2.2.2.1 x.2.2.2.2.2.2.2.2.1 x.2.2.2.2.2.2.2.2.2⟩
noncomputable def env [Fuel] : Env := ⟨Try.prog, [], [disk_Disk_ends.con, disk_Disk_write.con, disk_Disk_Crash.con], [(12, 0), (17, 1), (24, 2)], [], [12, 17, 24], [], [], [], [], [], []⟩
noncomputable def an : An := .seq .no (.seq .no (.seq .no (.seq (.seq .no (.cond (.seq .no (.seq .no .no)) .no)) (.seq .no .no))))
theorem run [Fuel] : RunIs env Try.f29 an con := fun x => by kernel_rfl
theorem ok [Fuel] : ConOK Try.prog con := run_ok (E := env) run mixed Try.func29 (by kernel_rfl) (cons_cons disk_Disk_ends.ok (cons_cons disk_Disk_write.ok (cons_cons disk_Disk_Crash.ok (cons_nil))))
end disk_Disk_Write
namespace disk_Disk_settle_1
noncomputable def con [Fuel] : Con := ⟨57, [.c (.a GSectorT), .c (.v (.loc 1000000 0))], [(1000000, .box 3 [.d iT])], [], [GSectorT, iT], .one (.v (.d .bool)), [], [.bool], fun x => disk_Disk_settle_1 x.1 x.2⟩
noncomputable def env [Fuel] : Env := ⟨Try.prog, [], [], [], [], [], [], [], [], [], [], []⟩
noncomputable def an : An := .seq .no (.seq .no .no)
theorem run [Fuel] : RunIs env Try.f57 an con := fun x => by kernel_rfl
theorem ok [Fuel] : ConOK Try.prog con := run_ok (E := env) run mixed Try.func57 (by kernel_rfl) (cons_nil)
end disk_Disk_settle_1
namespace slices_IndexFunc_disk_sector_disk_sector
noncomputable def con [Fuel] : Con := ⟨63, [.c (.v (.d (.sl GSectorT))), .c (.v (.fn 114 [1000000]))], [(1000000, .box 3 [.d iT])], [], [(.sl GSectorT), iT], .one (.v (.d iT)), [], [iT], fun x => slices_IndexFunc_disk_sector_disk_sector x.1 x.2⟩
noncomputable def env [Fuel] : Env := ⟨Try.prog, [], [disk_Disk_settle_1.con], [(16, 0)], [], [16], [], [], [], [], [], []⟩
noncomputable def an : An := .seq .no (.seq (.seq .no (.one (.loop ⟨[(8, (aD iT))], [], [iT]⟩ [0, 1, 7] [1000000] (.seq .no (.seq (.cond .no .no) (.seq (.one (.seq .no (.seq .no (.cond (.seq .no .no) .no)))) .no)))))) (.seq .no .no))
theorem run [Fuel] : RunIs env Try.f63 an con := fun x => by kernel_rfl
theorem ok [Fuel] : ConOK Try.prog con := run_ok (E := env) run mixed Try.func63 (by kernel_rfl) (cons_cons disk_Disk_settle_1.ok (cons_nil))
end slices_IndexFunc_disk_sector_disk_sector
namespace slices_DeleteFunc_disk_sector_disk_sector
noncomputable def con [Fuel] : Con := ⟨56, [.c (.v (.own 1000000)), .c (.v (.fn 114 [1000001]))], [(1000001, .box 3 [.d iT])], [(1000000, .arr 70 GSectorT)], [iT, (.sl GSectorT)], .one (.v (.own 0)), [(0, .arr 70 GSectorT), (1000000, .gone)], [(.sl GSectorT)], fun x => slices_DeleteFunc_disk_sector_disk_sector x.1 x.2⟩
noncomputable def env [Fuel] : Env := ⟨Try.prog, [], [slices_IndexFunc_disk_sector_disk_sector.con, disk_Disk_settle_1.con], [(10, 0), (28, 1)], [], [10, 28], [], [41], [], [], [], []⟩
noncomputable def an : An := .seq .no (.seq .no (.seq (.seq .no (.cond (.seq .no .no) .no)) (.seq (.seq .no (.one (.loop ⟨[(0, .c (.v (.own 1000000))), (5, (aD iT)), (6, (aD iT))], [(1000000, .arr 70 GSectorT)], [iT, iT, (.sl GSectorT)]⟩ [1] [1000001] (.seq (.seq .no (.cond .no .no)) (.seq (.one (.seq .no (.seq .no (.cond (.seq .no .no) .no)))) .no))))) (.seq .no (.seq .no .no)))))
theorem run [Fuel] : RunIs env Try.f56 an con := fun x => by kernel_rfl
theorem ok [Fuel] : ConOK Try.prog con := run_ok (E := env) run mixed Try.func56 (by kernel_rfl) (cons_cons slices_IndexFunc_disk_sector_disk_sector.ok (cons_cons disk_Disk_settle_1.ok (cons_nil)))
end slices_DeleteFunc_disk_sector_disk_sector
namespace disk_Disk_settle_2
noncomputable def con [Fuel] : Con := ⟨59, [.c (.g [.d iT, .d iT]), .c (.v (.d .bool)), .c (.v (.loc 1000000 0))], [(1000000, .box 3 [.d iT])], [], [iT, iT, .bool, iT], .one (.v (.d .bool)), [], [.bool], fun x => disk_Disk_settle_2 x.1 x.2.1 x.2.2.1 x.2.2.2⟩
noncomputable def env [Fuel] : Env := ⟨Try.prog, [], [], [], [], [], [], [], [], [], [], []⟩
noncomputable def an : An := .seq .no (.seq .no .no)
theorem run [Fuel] : RunIs env Try.f59 an con := fun x => by kernel_rfl
theorem ok [Fuel] : ConOK Try.prog con := run_ok (E := env) run mixed Try.func59 (by kernel_rfl) (cons_nil)
end disk_Disk_settle_2
noncomputable def maps_DeleteFunc.con [Fuel] : Con := delCon
theorem maps_DeleteFunc.ok [Fuel] : ConOK Try.prog maps_DeleteFunc.con := del_ok
namespace disk_Disk_settle
noncomputable def con [Fuel] : Con := ⟨45, [.c (.v (.loc 1000000 0)), (aD iT), .c (.v (.d .str))], [], [(1000000, .box 56 [.mp 1000001, .own 1000002, .mp 1000003, .d iT, .d .bool, .d iT, .d liT]), (1000001, .mapI .i64 true GFileT), (1000002, .arr 70 GSectorT), (1000003, .mapQ .i64 false .bool)], [iT, .str, iT, .bool, iT, liT, (.sl (.pair iT GFileT)), (.sl GSectorT), (.sl (.pair GSectorT .bool))], .tup [], [(1000000, .box 56 [.mp 1000001, .own 0, .mp 1000003, .d iT, .d .bool, .d iT, .d liT]), (0, .arr 70 GSectorT), (1000001, .mapI .i64 true GFileT), (1000002, .gone), (1000003, .mapQ .i64 false .bool)], [iT, .bool, iT, liT, (.sl GSectorT), (.sl (.pair iT GFileT)), (.sl (.pair GSectorT .bool))], fun x => disk_Disk_settle x.1 x.2.1 x.2.2.1 x.2.2.2.1 x.2.2.2.2.1 x.2.2.2.2.2.1 x.2.2.2.2.2.2.1 x.2.2.2.2.2.2.2.1 x.2.2.2.2.2.2.2.2⟩
noncomputable def env [Fuel] : Env := ⟨Try.prog, [], [slices_DeleteFunc_disk_sector_disk_sector.con, maps_DeleteFunc.con], [(20, 0), (28, 1)], [], [20, 28], [], [], [], [9, 10], [], []⟩
noncomputable def an : An := .seq .no (.seq .no (.seq .no .no))
theorem run [Fuel] : RunIs env Try.f45 an con := fun x => by kernel_rfl
theorem ok [Fuel] : ConOK Try.prog con := run_ok (E := env) run mixed Try.func45 (by kernel_rfl) (cons_cons slices_DeleteFunc_disk_sector_disk_sector.ok (cons_cons maps_DeleteFunc.ok (cons_nil)))
end disk_Disk_settle
namespace disk_Disk_Sync
noncomputable def con [Fuel] : Con := ⟨19, [.c (.v (.loc 1000000 0)), (aD iT)], [], [(1000000, .box 56 [.mp 1000001, .own 1000002, .mp 1000003, .d iT, .d .bool, .d iT, .d liT]), (1000001, .mapI .i64 true GFileT), (1000002, .arr 70 GSectorT), (1000003, .mapQ .i64 false .bool)], [iT, iT, .bool, iT, liT, (.sl (.pair iT GFileT)), (.sl GSectorT), (.sl (.pair GSectorT .bool))], .one (.v (.d iT)), [(1000000, .box 56 [.mp 1000001, .own 0, .mp 1, .d iT, .d .bool, .d iT, .d liT]), (0, .arr 70 GSectorT), (1, .mapQ .i64 false .bool), (1000001, .mapI .i64 true GFileT), (1000002, .gone), (1000003, .gone)], [iT, iT, .bool, iT, liT, (.sl GSectorT), (.sl (.pair GSectorT .bool)), (.sl (.pair iT GFileT))], fun x => disk_Disk_Sync x.1 x.2.1 x.2.2.1 x.2.2.2.1 x.2.2.2.2.1 x.2.2.2.2.2.1 x.2.2.2.2.2.2.1 x.2.2.2.2.2.2.2⟩
noncomputable def env [Fuel] : Env := ⟨Try.prog, [], [disk_Disk_ends.con, disk_Disk_Crash.con, disk_Disk_may.con, disk_Disk_settle.con], [(7, 0), (13, 1), (16, 2), (41, 3)], [3], [7, 13, 16, 41], [], [], [], [], [], []⟩
noncomputable def an : An := .seq .no (.join ⟨[(0, .c (.v (.loc 1000000 0)))], [(1000000, .box 56 [.mp 1000001, .own 500001, .mp 500002, .d iT, .d .bool, .d iT, .d liT]), (1000001, .mapI .i64 true GFileT), (500001, .arr 70 GSectorT), (500002, .mapQ .i64 false .bool)], [iT, .bool, iT, liT, (.sl (.pair iT GFileT)), (.sl GSectorT), (.sl (.pair GSectorT .bool))]⟩ [1] [] true (.seq .no (.cond .no .no)) (.seq (.seq .no (.seq .no (.cond (.seq .no .no) .no))) (.seq (.seq .no (.cond (.seq .no (.seq .no .no)) .no)) (.seq .no (.seq .no .no)))))
theorem run [Fuel] : RunIs env Try.f19 an con := fun x => by kernel_rfl
theorem ok [Fuel] : ConOK Try.prog con := run_ok (E := env) run mixed Try.func19 (by kernel_rfl) (cons_cons disk_Disk_ends.ok (cons_cons disk_Disk_Crash.ok (cons_cons disk_Disk_may.ok (cons_cons disk_Disk_settle.ok (cons_nil)))))
end disk_Disk_Sync
noncomputable def maps_Clone.con [Fuel] : Con := cloneConI 40 .i64 true GFileT
theorem maps_Clone.ok [Fuel] : ConOK Try.prog maps_Clone.con := clone_conI (by kernel_rfl) Go.Proofs.Try.maps_Clone_40
namespace slices_Clone_disk_sector_disk_sector
noncomputable def con [Fuel] : Con := ⟨41, [.c (.v (.d (.sl GSectorT)))], [], [], [(.sl GSectorT)], .one (.v (.own 0)), [(0, .arr 70 GSectorT)], [(.sl GSectorT)], fun x => slices_Clone_disk_sector_disk_sector x⟩
noncomputable def env [Fuel] : Env := ⟨Try.prog, [(54, GSectorT)], [], [], [], [], [], [], [], [], [], []⟩
noncomputable def an : An := .seq .no (.seq (.seq .no (.cond (.seq .no .no) .no)) (.seq .no .no))
theorem run [Fuel] : RunIs env Try.f41 an con := fun x => by kernel_rfl
theorem ok [Fuel] : ConOK Try.prog con := run_ok (E := env) run mixed Try.func41 (by kernel_rfl) (cons_nil)
end slices_Clone_disk_sector_disk_sector
noncomputable def maps_Clone_v2.con [Fuel] : Con := cloneCon 42 .i64 false .bool
theorem maps_Clone_v2.ok [Fuel] : ConOK Try.prog maps_Clone_v2.con := clone_con (by kernel_rfl) Go.Proofs.Try.maps_Clone_42
namespace disk_Disk_Copy
noncomputable def con [Fuel] : Con := ⟨18, [.c (.v (.loc 1000000 0))], [(1000000, .box 56 [.mp 1000001, .own 1000002, .mp 1000003, .d iT, .d .bool, .d iT, .d liT]), (1000001, .mapI .i64 true GFileT), (1000002, .arr 70 GSectorT), (1000003, .mapQ .i64 false .bool)], [], [iT, .bool, iT, liT, (.sl (.pair iT GFileT)), (.sl GSectorT), (.sl (.pair GSectorT .bool))], .one (.v (.loc 0 0)), [(0, .box 56 [.mp 1, .own 2, .mp 3, .d iT, .d .bool, .d iT, .d liT]), (1, .mapI .i64 true GFileT), (2, .arr 70 GSectorT), (3, .mapQ .i64 false .bool)], [iT, .bool, iT, liT, (.sl (.pair iT GFileT)), (.sl GSectorT), (.sl (.pair GSectorT .bool))], fun x => disk_Disk_Copy x.1 x.2.1 x.2.2.1 x.2.2.2.1 x.2.2.2.2.1 x.2.2.2.2.2.1 x.2.2.2.2.2.2⟩
noncomputable def env [Fuel] : Env := ⟨Try.prog, [], [maps_Clone.con, slices_Clone_disk_sector_disk_sector.con, maps_Clone_v2.con], [(11, 0), (16, 1), (21, 2)], [], [11, 21, 1000011, 1000021], [], [], [], [10, 15, 20], [], []⟩
noncomputable def an : An := .seq .no (.seq .no (.seq .no (.seq .no .no)))
theorem run [Fuel] : RunIs env Try.f18 an con := fun x => by kernel_rfl
theorem ok [Fuel] : ConOK Try.prog con := run_ok (E := env) run mixed Try.func18 (by kernel_rfl) (cons_cons maps_Clone.ok (cons_cons slices_Clone_disk_sector_disk_sector.ok (cons_cons maps_Clone_v2.ok (cons_nil))))
end disk_Disk_Copy
namespace disk_Disk_Down
noncomputable def con [Fuel] : Con := ⟨14, [.c (.v (.loc 1000000 0))], [(1000000, .box 56 [.mp 1000001, .own 1000002, .mp 1000003, .d iT, .d .bool, .d iT, .d liT]), (1000001, .mapI .i64 true GFileT), (1000002, .arr 70 GSectorT), (1000003, .mapQ .i64 false .bool)], [], [iT, .bool, iT, liT, (.sl (.pair iT GFileT)), (.sl GSectorT), (.sl (.pair GSectorT .bool))], .one (.v (.d .bool)), [], [.bool], fun x => disk_Disk_Down x.1 x.2.1 x.2.2.1 x.2.2.2.1 x.2.2.2.2.1 x.2.2.2.2.2.1 x.2.2.2.2.2.2⟩
noncomputable def env [Fuel] : Env := ⟨Try.prog, [], [], [], [], [], [], [], [], [], [], []⟩
noncomputable def an : An := .seq .no (.seq .no .no)
theorem run [Fuel] : RunIs env Try.f14 an con := fun x => by kernel_rfl
theorem ok [Fuel] : ConOK Try.prog con := run_ok (E := env) run mixed Try.func14 (by kernel_rfl) (cons_nil)
end disk_Disk_Down
namespace disk_Disk_Read
noncomputable def con [Fuel] : Con := ⟨20, [.c (.v (.loc 1000000 0)), (aD iT), (aD iT), (aD iT)], [(1000000, .box 56 [.mp 1000001, .own 1000002, .mp 1000003, .d iT, .d .bool, .d iT, .d liT]), (1000001, .mapI .i64 true GFileT), (1000002, .arr 70 GSectorT), (1000003, .mapQ .i64 false .bool)], [], [iT, iT, iT, iT, .bool, iT, liT, (.sl (.pair iT GFileT)), (.sl GSectorT), (.sl (.pair GSectorT .bool))], .tup [.v (.d .str), .v (.d iT)], [], [.str, iT], fun x => disk_Disk_Read x.1 x.2.1 x.2.2.1 x.2.2.2.1 x.2.2.2.2.1 x.2.2.2.2.2.1 x.2.2.2.2.2.2.1 x.2.2.2.2.2.2.2.1 x.2.2.2.2.2.2.2.2.1 x.2.2.2.2.2.2.2.2.2⟩
noncomputable def env [Fuel] : Env := ⟨Try.prog, [], [disk_Disk_may.con], [(14, 0)], [1000000], [14], [], [], [], [], [], []⟩
noncomputable def an : An := .seq .no (.seq (.seq .no (.seq .no (.cond (.seq .no .no) .no))) (.seq (.join ⟨[(23, .c (.v (.d .bool)))], [], [.bool]⟩ [0, 1, 2, 3] [1000000, 1000001, 1000002, 1000003] true .no (.cond (.seq .no .no) .no)) (.seq .no (.seq .no (.seq .no .no)))))
theorem run [Fuel] : RunIs env Try.f20 an con := fun x => by kernel_rfl
theorem ok [Fuel] : ConOK Try.prog con := run_ok (E := env) run mixed Try.func20 (by kernel_rfl) (cons_cons disk_Disk_may.ok (cons_nil))
end disk_Disk_Read
namespace disk_Disk_Start
noncomputable def con [Fuel] : Con := ⟨26, [.c (.v (.loc 1000000 0))], [], [(1000000, .box 56 [.mp 1000001, .own 1000002, .mp 1000003, .d iT, .d .bool, .d iT, .d liT]), (1000001, .mapI .i64 true GFileT), (1000002, .arr 70 GSectorT), (1000003, .mapQ .i64 false .bool)], [iT, .bool, iT, liT, (.sl (.pair iT GFileT)), (.sl GSectorT), (.sl (.pair GSectorT .bool))], .tup [], [(1000000, .box 56 [.mp 1000001, .own 1000002, .mp 1000003, .d iT, .d .bool, .d iT, .d liT]), (1000001, .mapI .i64 true GFileT), (1000002, .arr 70 GSectorT), (1000003, .mapQ .i64 false .bool)], [iT, .bool, iT, liT, (.sl (.pair iT GFileT)), (.sl GSectorT), (.sl (.pair GSectorT .bool))], fun x => disk_Disk_Start x.1 x.2.1 x.2.2.1 x.2.2.2.1 x.2.2.2.2.1 x.2.2.2.2.2.1 x.2.2.2.2.2.2⟩
noncomputable def env [Fuel] : Env := ⟨Try.prog, [], [], [], [], [], [], [], [], [], [], []⟩
noncomputable def an : An := .no
theorem run [Fuel] : RunIs env Try.f26 an con := fun x => by kernel_rfl
theorem ok [Fuel] : ConOK Try.prog con := run_ok (E := env) run mixed Try.func26 (by kernel_rfl) (cons_nil)
end disk_Disk_Start
namespace disk_Disk_Size
noncomputable def con [Fuel] : Con := ⟨16, [.c (.v (.loc 1000000 0)), (aD iT)], [(1000000, .box 56 [.mp 1000001, .own 1000002, .mp 1000003, .d iT, .d .bool, .d iT, .d liT]), (1000001, .mapI .i64 true GFileT), (1000002, .arr 70 GSectorT), (1000003, .mapQ .i64 false .bool)], [], [iT, iT, .bool, iT, liT, (.sl (.pair iT GFileT)), (.sl GSectorT), (.sl (.pair GSectorT .bool))], .one (.v (.d iT)), [], [iT], fun x => disk_Disk_Size x.1 x.2.1 x.2.2.1 x.2.2.2.1 x.2.2.2.2.1 x.2.2.2.2.2.1 x.2.2.2.2.2.2.1 x.2.2.2.2.2.2.2⟩
noncomputable def env [Fuel] : Env := ⟨Try.prog, [], [], [], [], [], [], [], [], [], [], []⟩
noncomputable def an : An := .seq .no (.seq .no .no)
theorem run [Fuel] : RunIs env Try.f16 an con := fun x => by kernel_rfl
theorem ok [Fuel] : ConOK Try.prog con := run_ok (E := env) run mixed Try.func16 (by kernel_rfl) (cons_nil)
end disk_Disk_Size
namespace ladinglaw02_small
noncomputable def con [Fuel] : Con := ⟨8, [], [], [], [], .one (.v (.d .bool)), [], [.bool], fun x => ladinglaw02_small⟩
noncomputable def env [Fuel] : Env := ⟨Try.prog, [(31, iT)], [disk_New.con, disk_Disk_Write.con, disk_Disk_Sync.con, disk_Disk_Copy.con, disk_Disk_Crash.con, disk_Disk_Down.con, disk_Disk_Read.con, disk_Disk_Start.con, disk_Disk_Size.con], [(16, 0), (20, 1), (22, 2), (24, 1), (26, 3), (31, 4), (33, 5), (36, 6), (40, 7), (43, 6), (48, 4), (50, 7), (53, 6), (57, 1), (60, 4), (62, 7), (65, 6), (112, 8), (117, 1), (122, 1)], [23], [20, 22, 24, 26, 31, 33, 36, 40, 43, 48, 50, 53, 57, 60, 62, 65, 112, 117, 122], [], [30, 47, 59], [], [], [], []⟩
noncomputable def an : An := .seq .no (.seq .no (.seq (.seq .no (.cond (.seq .no .no) .no)) (.seq .no (.seq .no (.seq .no (.seq .no (.seq (.seq .no (.cond (.seq .no .no) .no)) (.seq .no (.seq .no (.seq .no (.seq .no (.seq .no (.seq .no (.seq .no (.seq .no (.seq .no (.seq .no (.seq .no (.seq .no (.join ⟨[(15, .c (.v (.d .bool)))], [], [.bool]⟩ [4, 13, 14] [26, 60, 10026, 10060] true .no (.seq .no .no)))))))))))))))))))))
theorem run [Fuel] : RunIs env Try.f8 an con := fun x => by kernel_rfl
theorem ok [Fuel] : ConOK Try.prog con := run_ok (E := env) run mixed Try.func8 (by kernel_rfl) (cons_cons disk_New.ok (cons_cons disk_Disk_Write.ok (cons_cons disk_Disk_Sync.ok (cons_cons disk_Disk_Copy.ok (cons_cons disk_Disk_Crash.ok (cons_cons disk_Disk_Down.ok (cons_cons disk_Disk_Read.ok (cons_cons disk_Disk_Start.ok (cons_cons disk_Disk_Size.ok (cons_nil))))))))))
end ladinglaw02_small
namespace ladinglaw02_few
noncomputable def con [Fuel] : Con := ⟨9, [.c (.v (.d (.sl GActT)))], [], [], [(.sl GActT)], .one (.v (.d .bool)), [], [.bool], fun x => ladinglaw02_few x⟩
noncomputable def env [Fuel] : Env := ⟨Try.prog, [], [], [], [1000000], [], [], [], [], [], [], []⟩
noncomputable def an : An := .seq .no (.seq (.seq .no (.one (.loop ⟨[(3, (aD iT))], [], [iT]⟩ [0] [] (.seq (.seq .no (.cond .no .no)) (.seq (.one (.join ⟨[(41, .c (.v (.d .bool)))], [], [.bool]⟩ [0, 3] [] true .no (.cond (.seq .no .no) .no))) .no))))) (.seq .no .no))
theorem run [Fuel] : RunIs env Try.f9 an con := fun x => by kernel_rfl
theorem ok [Fuel] : ConOK Try.prog con := run_ok (E := env) run mixed Try.func9 (by kernel_rfl) (cons_nil)
end ladinglaw02_few
namespace disk_Disk_Truncate
noncomputable def con [Fuel] : Con := ⟨30, [.c (.v (.loc 1000000 0)), (aD iT), (aD iT)], [], [(1000000, .box 56 [.mp 1000001, .own 1000002, .mp 1000003, .d iT, .d .bool, .d iT, .d liT]), (1000001, .mapI .i64 true GFileT), (1000002, .arr 70 GSectorT), (1000003, .mapQ .i64 false .bool)], [iT, iT, iT, .bool, iT, liT, (.sl (.pair iT GFileT)), (.sl GSectorT), (.sl (.pair GSectorT .bool))], .one (.v (.d iT)), [(1000000, .box 56 [.mp 1000001, .own 0, .mp 1, .d iT, .d .bool, .d iT, .d liT]), (0, .arr 70 GSectorT), (1, .mapQ .i64 false .bool), (1000001, .mapI .i64 true GFileT), (1000002, .gone), (1000003, .gone)], [iT, iT, .bool, iT, liT, (.sl GSectorT), (.sl (.pair GSectorT .bool)), (.sl (.pair iT GFileT))], fun x => disk_Disk_Truncate x.1 x.2.1 x.2.2.1 x.2.2.2.1 x.2.2.2.2.1 x.2.2.2.2.2.1 x.2.2.2.2.2.2.1 x.2.2.2.2.2.2.2.1 x.2.2.2.2.2.2.2.2⟩
noncomputable def env [Fuel] : Env := ⟨Try.prog, [], [disk_Disk_ends.con, disk_Disk_Crash.con, disk_Disk_may.con, disk_Disk_Size.con, disk_Disk_settle.con], [(9, 0), (15, 1), (18, 2), (28, 3), (42, 4)], [3, 1000000], [9, 15, 18, 28, 42], [], [], [], [], [], []⟩
noncomputable def an : An := .seq .no (.join ⟨[(0, .c (.v (.loc 1000000 0)))], [(1000000, .box 56 [.mp 1000001, .own 500001, .mp 500002, .d iT, .d .bool, .d iT, .d liT]), (1000001, .mapI .i64 true GFileT), (500001, .arr 70 GSectorT), (500002, .mapQ .i64 false .bool)], [iT, .bool, iT, liT, (.sl (.pair iT GFileT)), (.sl GSectorT), (.sl (.pair GSectorT .bool))]⟩ [1, 2] [] true (.seq .no (.cond .no .no)) (.seq (.seq .no (.seq .no (.cond (.seq .no .no) .no))) (.seq (.join ⟨[(30, .c (.v (.d .bool)))], [], [.bool]⟩ [0, 1, 2] [500001, 500002, 1000000, 1000001] true .no (.cond (.seq .no .no) .no)) (.seq .no (.seq .no .no)))))
theorem run [Fuel] : RunIs env Try.f30 an con := fun x => by kernel_rfl
theorem ok [Fuel] : ConOK Try.prog con := run_ok (E := env) run mixed Try.func30 (by kernel_rfl) (cons_cons disk_Disk_ends.ok (cons_cons disk_Disk_Crash.ok (cons_cons disk_Disk_may.ok (cons_cons disk_Disk_Size.ok (cons_cons disk_Disk_settle.ok (cons_nil))))))
end disk_Disk_Truncate
namespace disk_Disk_Lose
noncomputable def con [Fuel] : Con := ⟨31, [.c (.v (.loc 1000000 0)), (aD iT)], [], [(1000000, .box 56 [.mp 1000001, .own 1000002, .mp 1000003, .d iT, .d .bool, .d iT, .d liT]), (1000001, .mapI .i64 true GFileT), (1000002, .arr 70 GSectorT), (1000003, .mapQ .i64 false .bool)], [iT, iT, .bool, iT, liT, (.sl (.pair iT GFileT)), (.sl GSectorT), (.sl (.pair GSectorT .bool))], .tup [], [(1000000, .box 56 [.mp 1000001, .own 1000002, .mp 1000003, .d iT, .d .bool, .d iT, .d liT]), (1000001, .mapI .i64 true GFileT), (1000002, .arr 70 GSectorT), (1000003, .mapQ .i64 false .bool)], [iT, .bool, iT, liT, (.sl (.pair iT GFileT)), (.sl GSectorT), (.sl (.pair GSectorT .bool))], fun x => disk_Disk_Lose x.1 x.2.1 x.2.2.1 x.2.2.2.1 x.2.2.2.2.1 x.2.2.2.2.2.1 x.2.2.2.2.2.2.1 x.2.2.2.2.2.2.2⟩
noncomputable def env [Fuel] : Env := ⟨Try.prog, [], [], [], [], [], [], [], [], [], [], []⟩
noncomputable def an : An := .no
theorem run [Fuel] : RunIs env Try.f31 an con := fun x => by kernel_rfl
theorem ok [Fuel] : ConOK Try.prog con := run_ok (E := env) run mixed Try.func31 (by kernel_rfl) (cons_nil)
end disk_Disk_Lose
namespace slices_Clone_int_int
noncomputable def con [Fuel] : Con := ⟨48, [(aD liT)], [], [], [liT], .one (.v (.own 0)), [(0, .arr 3 iT)], [liT], fun x => slices_Clone_int_int x⟩
noncomputable def env [Fuel] : Env := ⟨Try.prog, [(31, iT)], [], [], [], [], [], [], [], [], [], []⟩
noncomputable def an : An := .seq .no (.seq (.seq .no (.cond (.seq .no .no) .no)) (.seq .no .no))
theorem run [Fuel] : RunIs env Try.f48 an con := fun x => by kernel_rfl
theorem ok [Fuel] : ConOK Try.prog con := run_ok (E := env) run mixed Try.func48 (by kernel_rfl) (cons_nil)
end slices_Clone_int_int
namespace disk_Disk_Arm
noncomputable def con [Fuel] : Con := ⟨27, [.c (.v (.loc 1000000 0)), (aD iT), (aD liT)], [], [(1000000, .box 56 [.mp 1000001, .own 1000002, .mp 1000003, .d iT, .d .bool, .d iT, .d liT]), (1000001, .mapI .i64 true GFileT), (1000002, .arr 70 GSectorT), (1000003, .mapQ .i64 false .bool)], [iT, liT, iT, .bool, iT, liT, (.sl (.pair iT GFileT)), (.sl GSectorT), (.sl (.pair GSectorT .bool))], .tup [], [(1000000, .box 56 [.mp 1000001, .own 1000002, .mp 1000003, .d iT, .d .bool, .d iT, .d liT]), (1000001, .mapI .i64 true GFileT), (1000002, .arr 70 GSectorT), (1000003, .mapQ .i64 false .bool)], [iT, .bool, iT, liT, (.sl (.pair iT GFileT)), (.sl GSectorT), (.sl (.pair GSectorT .bool))], fun x => disk_Disk_Arm x.1 x.2.1 x.2.2.1 x.2.2.2.1 x.2.2.2.2.1 x.2.2.2.2.2.1 x.2.2.2.2.2.2.1 x.2.2.2.2.2.2.2.1 x.2.2.2.2.2.2.2.2⟩
noncomputable def env [Fuel] : Env := ⟨Try.prog, [], [slices_Clone_int_int.con], [(11, 0)], [], [], [], [], [], [], [], []⟩
noncomputable def an : An := .no
theorem run [Fuel] : RunIs env Try.f27 an con := fun x => by kernel_rfl
theorem ok [Fuel] : ConOK Try.prog con := run_ok (E := env) run mixed Try.func27 (by kernel_rfl) (cons_cons slices_Clone_int_int.ok (cons_nil))
end disk_Disk_Arm
namespace ladinglaw02_do
noncomputable def con [Fuel] : Con := ⟨12, [.c (.v (.loc 1000000 0)), .c (.a GActT)], [], [(1000000, .box 56 [.mp 1000001, .own 1000002, .mp 1000003, .d iT, .d .bool, .d iT, .d liT]), (1000001, .mapI .i64 true GFileT), (1000002, .arr 70 GSectorT), (1000003, .mapQ .i64 false .bool)], [GActT, iT, .bool, iT, liT, (.sl (.pair iT GFileT)), (.sl GSectorT), (.sl (.pair GSectorT .bool))], .one (.v (.d iT)), [(1000000, .box 56 [.mp 1000001, .own 0, .mp 1, .d iT, .d .bool, .d iT, .d liT]), (0, .arr 70 GSectorT), (1, .mapQ .i64 false .bool), (1000001, .mapI .i64 true GFileT), (1000002, .gone), (1000003, .gone)], [iT, iT, .bool, iT, liT, (.sl GSectorT), (.sl (.pair GSectorT .bool)), (.sl (.pair iT GFileT))], fun x => ladinglaw02_do x.1 x.2.1 x.2.2.1 x.2.2.2.1 x.2.2.2.2.1 x.2.2.2.2.2.1 x.2.2.2.2.2.2.1 x.2.2.2.2.2.2.2⟩
noncomputable def env [Fuel] : Env := ⟨Try.prog, [], [disk_Disk_Sync.con, disk_Disk_Truncate.con, disk_Disk_Lose.con, disk_Disk_Arm.con, disk_Disk_Crash.con, disk_Disk_Start.con, disk_Disk_Write.con], [(21, 0), (29, 1), (36, 2), (44, 3), (50, 4), (54, 5), (15, 6)], [], [15, 21, 29, 36, 44, 50, 54], [], [], [], [], [], []⟩
noncomputable def an : An := .seq .no (.seq (.seq .no (.one (.seq .no (.cond (.seq .no .no) (.seq .no (.cond (.seq .no .no) (.seq .no (.cond .no (.seq .no (.cond .no (.seq .no (.cond .no (.seq .no (.cond .no (.seq .no .no))))))))))))))) (.seq .no .no))
theorem run [Fuel] : RunIs env Try.f12 an con := fun x => by kernel_rfl
theorem ok [Fuel] : ConOK Try.prog con := run_ok (E := env) run mixed Try.func12 (by kernel_rfl) (cons_cons disk_Disk_Sync.ok (cons_cons disk_Disk_Truncate.ok (cons_cons disk_Disk_Lose.ok (cons_cons disk_Disk_Arm.ok (cons_cons disk_Disk_Crash.ok (cons_cons disk_Disk_Start.ok (cons_cons disk_Disk_Write.ok (cons_nil))))))))
end ladinglaw02_do
namespace ladinglaw02_played
noncomputable def con [Fuel] : Con := ⟨22, [.c (.v (.d (.sl GActT)))], [], [], [(.sl GActT)], .one (.v (.loc 0 0)), [(0, .box 56 [.mp 1, .own 2, .mp 3, .d iT, .d .bool, .d iT, .d liT]), (1, .mapI .i64 true GFileT), (2, .arr 70 GSectorT), (3, .mapQ .i64 false .bool)], [iT, .bool, iT, liT, (.sl (.pair iT GFileT)), (.sl GSectorT), (.sl (.pair GSectorT .bool))], fun x => ladinglaw02_played x⟩
noncomputable def env [Fuel] : Env := ⟨Try.prog, [], [disk_New.con, ladinglaw02_do.con], [(5, 0), (21, 1)], [1000000], [21], [], [], [], [], [], []⟩
noncomputable def an : An := .seq .no (.seq .no (.seq (.seq .no (.one (.loop ⟨[(3, .c (.v (.loc 500001 0))), (4, (aD iT))], [(500001, .box 56 [.mp 500002, .own 500003, .mp 500004, .d iT, .d .bool, .d iT, .d liT]), (500002, .mapI .i64 true GFileT), (500003, .arr 70 GSectorT), (500004, .mapQ .i64 false .bool)], [iT, iT, .bool, iT, liT, (.sl (.pair iT GFileT)), (.sl GSectorT), (.sl (.pair GSectorT .bool))]⟩ [0] [] (.seq (.join ⟨[(13, .c (.v (.d .bool)))], [], [.bool]⟩ [0, 3, 4] [500001, 500002, 500003, 500004] true .no (.cond .no .no)) (.seq (.one .no) .no))))) (.seq .no .no)))
theorem run [Fuel] : RunIs env Try.f22 an con := fun x => by kernel_rfl
theorem ok [Fuel] : ConOK Try.prog con := run_ok (E := env) run mixed Try.func22 (by kernel_rfl) (cons_cons disk_New.ok (cons_cons ladinglaw02_do.ok (cons_nil)))
end ladinglaw02_played
namespace ladinglaw02_DiskReads
noncomputable def con [Fuel] : Con := ⟨7, [.c (.v (.d (.sl GActT))), (aD iT), (aD iT), .c (.v (.d .str)), (aD iT)], [], [], [(.sl GActT), iT, iT, .str, iT], .one (.v (.d .bool)), [], [.bool], fun x => ladinglaw02_DiskReads x.1 x.2.1 x.2.2.1 x.2.2.2.1 x.2.2.2.2⟩
noncomputable def env [Fuel] : Env := ⟨Try.prog, [], [ladinglaw02_small.con, ladinglaw02_few.con, ladinglaw02_played.con, disk_Disk_Arm.con, disk_Disk_Down.con, disk_Disk_Write.con, disk_Disk_Read.con, disk_Disk_Size.con, disk_Disk_Truncate.con, disk_Disk_Crash.con, disk_Disk_Start.con], [(24, 0), (26, 1), (47, 2), (51, 3), (53, 4), (68, 5), (75, 5), (82, 6), (90, 7), (91, 6), (99, 6), (126, 7), (149, 8), (151, 9), (153, 10), (157, 6)], [1000000], [51, 53, 68, 75, 82, 90, 91, 99, 126, 149, 151, 153, 157], [], [], [], [], [], []⟩
noncomputable def an : An := .seq .no (.seq .no (.seq (.join ⟨[(44, .c (.v (.d .bool)))], [], [.bool]⟩ [0, 1, 2, 3, 4, 11] [] true .no (.cond (.seq .no .no) .no)) (.seq .no (.seq (.seq .no (.cond (.seq .no .no) .no)) (.seq .no (.seq (.join ⟨[(61, .c (.v (.d .bool)))], [], [.bool]⟩ [1, 2, 3, 4, 11, 12] [47, 10047, 20047, 30047] true .no (.cond (.seq .no .no) .no)) (.seq .no (.seq .no (.seq .no (.seq .no (.seq (.join ⟨[(128, .c (.v (.d .bool)))], [], [.bool]⟩ [1, 2, 4, 11, 12, 16, 18] [47, 75, 10047, 10075] true .no (.cond (.seq .no .no) .no)) (.seq .no (.seq (.seq .no (.cond (.seq .no .no) .no)) (.seq .no (.seq .no (.seq .no (.seq .no (.seq .no .no))))))))))))))))))
theorem run [Fuel] : RunIs env Try.f7 an con := fun x => by kernel_rfl
theorem ok [Fuel] : ConOK Try.prog con := run_ok (E := env) run mixed Try.func7 (by kernel_rfl) (cons_cons ladinglaw02_small.ok (cons_cons ladinglaw02_few.ok (cons_cons ladinglaw02_played.ok (cons_cons disk_Disk_Arm.ok (cons_cons disk_Disk_Down.ok (cons_cons disk_Disk_Write.ok (cons_cons disk_Disk_Read.ok (cons_cons disk_Disk_Size.ok (cons_cons disk_Disk_Truncate.ok (cons_cons disk_Disk_Crash.ok (cons_cons disk_Disk_Start.ok (cons_nil))))))))))))
end ladinglaw02_DiskReads
namespace ladinglaw02_after
noncomputable def con [Fuel] : Con := ⟨23, [.c (.v (.loc 1000000 0)), (aD iT), (aD liT)], [(1000000, .box 56 [.mp 1000001, .own 1000002, .mp 1000003, .d iT, .d .bool, .d iT, .d liT]), (1000001, .mapI .i64 true GFileT), (1000002, .arr 70 GSectorT), (1000003, .mapQ .i64 false .bool)], [], [iT, liT, iT, .bool, iT, liT, (.sl (.pair iT GFileT)), (.sl GSectorT), (.sl (.pair GSectorT .bool))], .tup [.v (.d .str), .v (.d .bool)], [], [.str, .bool], fun x => ladinglaw02_after x.1 x.2.1 x.2.2.1 x.2.2.2.1 x.2.2.2.2.1 x.2.2.2.2.2.1 x.2.2.2.2.2.2.1 x.2.2.2.2.2.2.2.1 x.2.2.2.2.2.2.2.2⟩
noncomputable def env [Fuel] : Env := ⟨Try.prog, [], [disk_Disk_Copy.con, disk_Disk_Crash.con, disk_Disk_Start.con, disk_Disk_Read.con], [(12, 0), (17, 1), (19, 2), (23, 3)], [], [12, 17, 19, 23], [], [], [], [], [], []⟩
noncomputable def an : An := .seq .no (.seq .no (.seq (.seq .no (.cond (.seq .no .no) .no)) (.seq .no (.seq .no (.seq .no (.seq .no .no))))))
theorem run [Fuel] : RunIs env Try.f23 an con := fun x => by kernel_rfl
theorem ok [Fuel] : ConOK Try.prog con := run_ok (E := env) run mixed Try.func23 (by kernel_rfl) (cons_cons disk_Disk_Copy.ok (cons_cons disk_Disk_Crash.ok (cons_cons disk_Disk_Start.ok (cons_cons disk_Disk_Read.ok (cons_nil)))))
end ladinglaw02_after
namespace ladinglaw02_byteAt
noncomputable def con [Fuel] : Con := ⟨24, [.c (.v (.d .str)), (aD iT)], [], [], [.str, iT], .one (.v (.d (.int .u8))), [], [(.int .u8)], fun x => ladinglaw02_byteAt x.1 x.2⟩
noncomputable def env [Fuel] : Env := ⟨Try.prog, [], [], [], [1000000], [], [], [], [], [], [], []⟩
noncomputable def an : An := .seq .no (.seq (.join ⟨[(12, .c (.v (.d .bool)))], [], [.bool]⟩ [0, 1] [] true .no (.cond (.seq .no .no) .no)) (.seq .no .no))
theorem run [Fuel] : RunIs env Try.f24 an con := fun x => by kernel_rfl
theorem ok [Fuel] : ConOK Try.prog con := run_ok (E := env) run mixed Try.func24 (by kernel_rfl) (cons_nil)
end ladinglaw02_byteAt
namespace ladinglaw02_DiskSurvives
noncomputable def con [Fuel] : Con := ⟨4, [.c (.v (.d (.sl GActT))), (aD iT), (aD liT)], [], [], [(.sl GActT), iT, liT], .one (.v (.d .bool)), [], [.bool], fun x => ladinglaw02_DiskSurvives x.1 x.2.1 x.2.2⟩
noncomputable def env [Fuel] : Env := ⟨Try.prog, [(31, iT)], [ladinglaw02_small.con, ladinglaw02_few.con, ladinglaw02_played.con, disk_Disk_Down.con, disk_Disk_Size.con, disk_Disk_Read.con, ladinglaw02_after.con, ladinglaw02_byteAt.con], [(21, 0), (23, 1), (32, 2), (36, 3), (48, 4), (55, 5), (61, 6), (68, 6), (75, 6), (150, 7)], [24, 25, 1000000], [36, 48, 55, 61, 68, 75], [], [67], [], [], [], []⟩
noncomputable def an : An := .seq .no (.seq .no (.seq (.join ⟨[(29, .c (.v (.d .bool)))], [], [.bool]⟩ [0, 1, 2, 7] [] true .no (.cond (.seq .no .no) .no)) (.seq .no (.seq (.seq .no (.cond (.seq .no .no) .no)) (.seq (.join ⟨[(50, .c (.v (.d .bool)))], [], [.bool]⟩ [1, 2, 7, 8] [32, 10032, 20032, 30032] true .no (.cond (.seq .no .no) .no)) (.seq .no (.seq .no (.seq .no (.seq .no (.seq (.join ⟨[(110, .c (.v (.d .bool)))], [], [.bool]⟩ [7, 9, 11, 15] [] true .no (.cond (.seq .no .no) .no)) (.seq (.seq .no (.one (.loop ⟨[(17, (aD iT))], [], [iT]⟩ [7, 9, 11, 15] [] (.seq (.seq .no (.cond .no .no)) (.seq (.one (.seq .no (.seq .no (.join ⟨[(18, .c (.v (.d .bool))), (19, .c (.v (.d .bool)))], [], [.bool, .bool]⟩ [7, 9, 11, 15, 17] [] true (.seq .no (.one (.loop ⟨[(18, .c (.v (.d .bool))), (19, .c (.v (.d .bool))), (20, (aD iT))], [], [.bool, .bool, iT]⟩ [7, 9, 11, 15, 17] [] (.seq (.join ⟨[(130, .c (.v (.d .bool)))], [], [.bool]⟩ [7, 9, 11, 15, 17, 18, 19, 20] [] true .no (.cond .no .no)) (.seq (.one (.join ⟨[(18, .c (.v (.d .bool)))], [], [.bool]⟩ [7, 9, 11, 15, 17, 19, 20] [] true .no .no)) .no))))) (.join ⟨[(158, .c (.v (.d .bool)))], [], [.bool]⟩ [7, 9, 11, 15, 17] [] true .no (.cond (.seq .no .no) .no)))))) .no))))) (.seq .no .no))))))))))))
theorem run [Fuel] : RunIs env Try.f4 an con := fun x => by kernel_rfl
theorem ok [Fuel] : ConOK Try.prog con := run_ok (E := env) run mixed Try.func4 (by kernel_rfl) (cons_cons ladinglaw02_small.ok (cons_cons ladinglaw02_few.ok (cons_cons ladinglaw02_played.ok (cons_cons disk_Disk_Down.ok (cons_cons disk_Disk_Size.ok (cons_cons disk_Disk_Read.ok (cons_cons ladinglaw02_after.ok (cons_cons ladinglaw02_byteAt.ok (cons_nil)))))))))
end ladinglaw02_DiskSurvives
namespace ladinglaw02_DiskSynced
noncomputable def con [Fuel] : Con := ⟨5, [.c (.v (.d (.sl GActT))), (aD iT), .c (.v (.d (.sl GActT))), (aD liT)], [], [], [(.sl GActT), iT, (.sl GActT), liT], .one (.v (.d .bool)), [], [.bool], fun x => ladinglaw02_DiskSynced x.1 x.2.1 x.2.2.1 x.2.2.2⟩
noncomputable def env [Fuel] : Env := ⟨Try.prog, [], [ladinglaw02_small.con, ladinglaw02_few.con, ladinglaw02_played.con, disk_Disk_Read.con, disk_Disk_Sync.con, ladinglaw02_do.con, disk_Disk_Crash.con, disk_Disk_Start.con], [(19, 0), (21, 1), (25, 1), (35, 2), (41, 3), (46, 4), (52, 3), (87, 5), (90, 6), (92, 7), (96, 3)], [17, 1000000], [41, 46, 52, 87, 90, 92, 96], [], [], [], [], [], []⟩
noncomputable def an : An := .seq .no (.seq .no (.seq (.join ⟨[(32, .c (.v (.d .bool)))], [], [.bool]⟩ [0, 1, 2, 3, 9] [] true .no (.cond (.seq .no .no) .no)) (.seq .no (.seq (.seq .no (.cond (.seq .no .no) .no)) (.seq .no (.seq (.seq .no (.cond (.seq .no .no) .no)) (.seq .no (.join ⟨[(10, .c (.v (.loc 500005 0)))], [(500005, .box 56 [.mp 500006, .own 500007, .mp 500008, .d iT, .d .bool, .d iT, .d liT]), (500006, .mapI .i64 true GFileT), (500007, .arr 70 GSectorT), (500008, .mapQ .i64 false .bool)], [iT, .bool, iT, liT, (.sl (.pair iT GFileT)), (.sl GSectorT), (.sl (.pair GSectorT .bool))]⟩ [1, 3, 9, 11, 13, 14] [] true (.seq .no (.one (.loop ⟨[(10, .c (.v (.loc 500009 0))), (15, (aD iT))], [(500009, .box 56 [.mp 500010, .own 500011, .mp 500012, .d iT, .d .bool, .d iT, .d liT]), (500010, .mapI .i64 true GFileT), (500011, .arr 70 GSectorT), (500012, .mapQ .i64 false .bool)], [iT, iT, .bool, iT, liT, (.sl (.pair iT GFileT)), (.sl GSectorT), (.sl (.pair GSectorT .bool))]⟩ [1, 2, 3, 9, 11, 13, 14] [] (.seq (.seq .no (.cond .no .no)) (.seq (.one (.seq .no (.join ⟨[(81, .c (.v (.d .bool)))], [], [.bool]⟩ [1, 2, 3, 9, 10, 11, 13, 14, 15] [500009, 500010, 500011, 500012] true .no (.cond .no .no)))) .no))))) (.seq .no (.seq .no (.seq .no (.seq .no .no))))))))))))
theorem run [Fuel] : RunIs env Try.f5 an con := fun x => by kernel_rfl
theorem ok [Fuel] : ConOK Try.prog con := run_ok (E := env) run mixed Try.func5 (by kernel_rfl) (cons_cons ladinglaw02_small.ok (cons_cons ladinglaw02_few.ok (cons_cons ladinglaw02_played.ok (cons_cons disk_Disk_Read.ok (cons_cons disk_Disk_Sync.ok (cons_cons ladinglaw02_do.ok (cons_cons disk_Disk_Crash.ok (cons_cons disk_Disk_Start.ok (cons_nil)))))))))
end ladinglaw02_DiskSynced
namespace ladinglaw02_same
noncomputable def con [Fuel] : Con := ⟨28, [.c (.v (.loc 1000000 0)), .c (.v (.loc 1000004 0)), .c (.v (.d (.sl GActT)))], [(1000000, .box 56 [.mp 1000001, .own 1000002, .mp 1000003, .d iT, .d .bool, .d iT, .d liT]), (1000001, .mapI .i64 true GFileT), (1000002, .arr 70 GSectorT), (1000003, .mapQ .i64 false .bool), (1000004, .box 56 [.mp 1000005, .own 1000006, .mp 1000007, .d iT, .d .bool, .d iT, .d liT]), (1000005, .mapI .i64 true GFileT), (1000006, .arr 70 GSectorT), (1000007, .mapQ .i64 false .bool)], [], [(.sl GActT), iT, .bool, iT, liT, (.sl (.pair iT GFileT)), (.sl GSectorT), (.sl (.pair GSectorT .bool)), iT, .bool, iT, liT, (.sl (.pair iT GFileT)), (.sl GSectorT), (.sl (.pair GSectorT .bool))], .one (.v (.d .bool)), [], [.bool], fun x => ladinglaw02_same x.1 x.2.1 x.2.2.1 x.2.2.2.1 x.2.2.2.2.1 x.2.2.2.2.2.1 x.2.2.2.2.2.2.1 x.2.2.2.2.2.2.2.1 x.2.2.2.2.2.2.2.2.1 x.2.2.2.2.2.2.2.2.2.1 x.2.2.2.2.2.2.2.2.2.2.1 x.2.2.2.2.2.2.2.2.2.2.2.1 x.2.2.2.2.2.2.2.2.2.2.2.2.1 x.2.2.2.2.2.2.2.2.2.2.2.2.2.1 x.2.2.2.2.2.2.2.2.2.2.2.2.2.2⟩
noncomputable def env [Fuel] : Env := ⟨Try.prog, [], [disk_Disk_Down.con, disk_Disk_Read.con, disk_Disk_Size.con], [(13, 0), (15, 0), (30, 1), (40, 1), (58, 2), (65, 2)], [1000000], [13, 15, 30, 40, 58, 65, 1000058, 1000065], [], [], [55, 57, 62, 64], [], [], []⟩
noncomputable def an : An := .seq .no (.seq (.seq .no (.cond (.seq .no .no) .no)) (.seq (.seq .no (.one (.loop ⟨[(7, (aD iT))], [], [iT]⟩ [0, 1, 2] [1000000, 1000001, 1000002, 1000003, 1000004, 1000005, 1000006, 1000007] (.seq (.seq .no (.cond .no .no)) (.seq (.one (.seq .no (.seq .no (.join ⟨[(67, .c (.v (.d .bool)))], [], [.bool]⟩ [0, 1, 2, 7] [1000000, 1000001, 1000002, 1000003, 1000004, 1000005, 1000006, 1000007] true .no (.cond (.seq .no .no) .no))))) .no))))) (.seq .no .no)))
theorem run [Fuel] : RunIs env Try.f28 an con := fun x => by kernel_rfl
theorem ok [Fuel] : ConOK Try.prog con := run_ok (E := env) run mixed Try.func28 (by kernel_rfl) (cons_cons disk_Disk_Down.ok (cons_cons disk_Disk_Read.ok (cons_cons disk_Disk_Size.ok (cons_nil))))
end ladinglaw02_same
namespace ladinglaw02_DiskArms
noncomputable def con [Fuel] : Con := ⟨6, [.c (.v (.d (.sl GActT))), (aD iT), (aD liT)], [], [], [(.sl GActT), iT, liT], .one (.v (.d .bool)), [], [.bool], fun x => ladinglaw02_DiskArms x.1 x.2.1 x.2.2⟩
noncomputable def env [Fuel] : Env := ⟨Try.prog, [], [ladinglaw02_small.con, ladinglaw02_few.con, disk_New.con, disk_Disk_Arm.con, ladinglaw02_do.con, disk_Disk_Down.con, disk_Disk_Crash.con, ladinglaw02_same.con, disk_Disk_Start.con], [(15, 0), (17, 1), (33, 2), (34, 2), (44, 3), (69, 4), (83, 5), (93, 4), (107, 4), (117, 6), (126, 5), (132, 7), (134, 8), (136, 8), (145, 7)], [18, 24, 26, 28, 1000000], [44, 69, 83, 93, 107, 117, 126, 132, 134, 136, 145], [], [], [], [], [], []⟩
noncomputable def an : An := .seq .no (.seq .no (.seq (.join ⟨[(31, .c (.v (.d .bool)))], [], [.bool]⟩ [0, 1, 2, 7] [] true .no (.cond (.seq .no .no) .no)) (.seq .no (.seq .no (.seq (.seq .no (.cond (.seq .no .no) .no)) (.seq .no (.seq .no (.join ⟨[(8, .c (.v (.loc 500023 0))), (9, .c (.v (.loc 500024 0)))], [(500023, .box 56 [.mp 500025, .own 500026, .mp 500027, .d iT, .d .bool, .d iT, .d liT]), (500024, .box 56 [.mp 500028, .own 500029, .mp 500030, .d iT, .d .bool, .d iT, .d liT]), (500025, .mapI .i64 true GFileT), (500026, .arr 70 GSectorT), (500027, .mapQ .i64 false .bool), (500028, .mapI .i64 true GFileT), (500029, .arr 70 GSectorT), (500030, .mapQ .i64 false .bool)], [iT, .bool, iT, liT, iT, .bool, iT, liT, (.sl (.pair iT GFileT)), (.sl GSectorT), (.sl (.pair GSectorT .bool)), (.sl (.pair iT GFileT)), (.sl GSectorT), (.sl (.pair GSectorT .bool))]⟩ [0, 7] [] false (.seq .no (.one (.loop ⟨[(8, .c (.v (.loc 500037 0))), (9, .c (.v (.loc 500038 0))), (10, (aD iT)), (11, (aD iT))], [(500037, .box 56 [.mp 500039, .own 500040, .mp 500041, .d iT, .d .bool, .d iT, .d liT]), (500038, .box 56 [.mp 500042, .own 500043, .mp 500044, .d iT, .d .bool, .d iT, .d liT]), (500039, .mapI .i64 true GFileT), (500040, .arr 70 GSectorT), (500041, .mapQ .i64 false .bool), (500042, .mapI .i64 true GFileT), (500043, .arr 70 GSectorT), (500044, .mapQ .i64 false .bool)], [iT, iT, iT, .bool, iT, liT, iT, .bool, iT, liT, (.sl (.pair iT GFileT)), (.sl GSectorT), (.sl (.pair GSectorT .bool)), (.sl (.pair iT GFileT)), (.sl GSectorT), (.sl (.pair GSectorT .bool))]⟩ [0, 1, 2, 7] [] (.seq (.seq .no (.cond .no .no)) (.seq (.one (.seq .no (.seq (.seq .no (.cond (.seq .no .no) .no)) (.join ⟨[(10, (aD iT))], [], [iT]⟩ [0, 1, 2, 7, 8, 9, 11, 12] [500037, 500038, 500039, 500040, 500041, 500042, 500043, 500044] true (.seq .no (.cond .no .no)) (.seq .no (.seq (.join ⟨[(86, .c (.v (.d .bool)))], [], [.bool]⟩ [0, 1, 2, 7, 8, 9, 10, 11, 12, 13] [69, 10069, 500037, 500038, 500039, 500042, 500043, 500044] true .no (.cond (.seq (.seq .no (.cond (.seq .no .no) .no)) .no) .no)) (.join ⟨[(9, .c (.v (.loc 500045 0)))], [(500045, .box 56 [.mp 500046, .own 500047, .mp 500048, .d iT, .d .bool, .d iT, .d liT]), (500046, .mapI .i64 true GFileT), (500047, .arr 70 GSectorT), (500048, .mapQ .i64 false .bool)], [iT, .bool, iT, liT, (.sl (.pair iT GFileT)), (.sl GSectorT), (.sl (.pair GSectorT .bool))]⟩ [0, 1, 2, 7, 8, 10, 11, 12, 13] [69, 10069, 500037, 500039] true (.join ⟨[(101, .c (.v (.d .bool)))], [], [.bool]⟩ [0, 1, 2, 7, 8, 9, 10, 11, 12, 13] [69, 10069, 500037, 500038, 500039, 500042, 500043, 500044] true .no (.cond .no .no)) (.join ⟨[(9, .c (.v (.loc 500049 0)))], [(500049, .box 56 [.mp 500050, .own 500051, .mp 500052, .d iT, .d .bool, .d iT, .d liT]), (500050, .mapI .i64 true GFileT), (500051, .arr 70 GSectorT), (500052, .mapQ .i64 false .bool)], [iT, .bool, iT, liT, (.sl (.pair iT GFileT)), (.sl GSectorT), (.sl (.pair GSectorT .bool))]⟩ [0, 1, 2, 7, 8, 10, 11, 12, 13] [69, 10069, 500037, 500039] true (.join ⟨[(114, .c (.v (.d .bool)))], [], [.bool]⟩ [0, 1, 2, 7, 8, 9, 10, 11, 12, 13] [69, 10069, 500037, 500039, 500045, 500046, 500047, 500048] true .no (.cond .no .no)) (.join ⟨[(128, .c (.v (.d .bool)))], [], [.bool]⟩ [0, 1, 2, 7, 8, 9, 10, 11] [69, 10069, 500037, 500039, 500049, 500050, 500051, 500052] true .no (.cond (.seq .no .no) .no)))))))))) .no))))) (.seq .no (.seq .no (.seq .no (.seq .no .no))))))))))))
theorem run [Fuel] : RunIs env Try.f6 an con := fun x => by kernel_rfl
theorem ok [Fuel] : ConOK Try.prog con := run_ok (E := env) run mixed Try.func6 (by kernel_rfl) (cons_cons ladinglaw02_small.ok (cons_cons ladinglaw02_few.ok (cons_cons disk_New.ok (cons_cons disk_Disk_Arm.ok (cons_cons ladinglaw02_do.ok (cons_cons disk_Disk_Down.ok (cons_cons disk_Disk_Crash.ok (cons_cons ladinglaw02_same.ok (cons_cons disk_Disk_Start.ok (cons_nil))))))))))
end ladinglaw02_DiskArms
end Go.Proofs.Ytanpfcdbfdkclaa
