/-
  The code is they.
-/
import Derived.Test.YtanpfcdbfdkclaaKModel
import Derived.Test.YtanpfcdbfdkclaaD12
import Derived.Test.YtanpfcdbfdkclaaSh
import Derived.Test.YtanpfcdbfdkclaaDel
import Derived.Test.YtanpfcdbfdkclaaHd2
namespace Go.Proofs.Ytanpfcdbfdkclaa
open Go.Lad
set_option linter.unusedVariables false
set_option maxRecDepth 100000
theorem mixed : Try.prog.follows .mixedOrders = true := by kernel_rfl
noncomputable abbrev iT : Ty := .int .i64
noncomputable abbrev liT : Ty := .sl iT
noncomputable abbrev aD (t : Ty) : SSh := .c (.v (.d t))
noncomputable def GActT : Ty := (.pair iT (.pair iT (.pair iT (.pair .str liT))))
noncomputable def GFileT : Ty := (.pair .str .str)
noncomputable def GSectorT : Ty := (.pair iT iT)
noncomputable def GFilexT : Ty := (.pair iT GFileT)
namespace disk_New
noncomputable def con [Fuel] : Con := ⟨10, [], [], [], [], .one (.v (.loc 0 0)), [(0, .box 56 [.mp 1, .own 2, .mp 3, .d iT, .d .bool, .d iT, .d liT]), (1, .mapI .i64 true GFileT), (2, .arr 70 GSectorT), (3, .mapQ .i64 false .bool)], [iT, .bool, iT, liT, (.sl GFilexT), (.sl GSectorT), (.sl (.pair GSectorT .bool))], fun x => disk_New⟩
noncomputable def env [Fuel] : Env := ⟨Try.prog, [(52, GFileT), (53, .bool)], [], [], [], [], [], [], [], [], [], []⟩
noncomputable def an : An := .seq .no (.seq .no .no)
theorem run [Fuel] : RunIs env Try.f10 an con := fun x => by kernel_rfl
theorem ok [Fuel] : ConOK Try.prog con := run_ok (E := env) run mixed Try.func10 (by kernel_rfl) (cons_nil)
end disk_New
namespace disk_Disk_ends
noncomputable def con [Fuel] : Con := ⟨43, [.c (.v (.loc 1000000 0))], [], [(1000000, .box 56 [.mp 1000001, .own 1000002, .mp 1000003, .d iT, .d .bool, .d iT, .d liT]), (1000001, .mapI .i64 true GFileT), (1000002, .arr 70 GSectorT), (1000003, .mapQ .i64 false .bool)], [iT, .bool, iT, liT, (.sl GFilexT), (.sl GSectorT), (.sl (.pair GSectorT .bool))], .one (.v (.d .bool)), [(1000000, .box 56 [.mp 1000001, .own 1000002, .mp 1000003, .d iT, .d .bool, .d iT, .d liT]), (1000001, .mapI .i64 true GFileT), (1000002, .arr 70 GSectorT), (1000003, .mapQ .i64 false .bool)], [.bool, iT, .bool, iT, liT, (.sl GFilexT), (.sl GSectorT), (.sl (.pair GSectorT .bool))], fun x => disk_Disk_ends x.1 x.2.1 x.2.2.1 x.2.2.2.1 x.2.2.2.2.1 x.2.2.2.2.2.1 x.2.2.2.2.2.2⟩
noncomputable def env [Fuel] : Env := ⟨Try.prog, [], [], [], [1000000], [], [], [], [], [], [], []⟩
noncomputable def an : An := .seq .no (.seq (.join ⟨[(13, .c (.v (.d .bool)))], [], [.bool]⟩ [0] [1000000, 1000001, 1000002, 1000003] true .no (.cond (.seq .no .no) .no)) (.seq .no (.seq .no .no)))
theorem run [Fuel] : RunIs env Try.f43 an con := fun x => by kernel_rfl
theorem ok [Fuel] : ConOK Try.prog con := run_ok (E := env) run mixed Try.func43 (by kernel_rfl) (cons_nil)
end disk_Disk_ends
namespace disk_Disk_may
noncomputable def con [Fuel] : Con := ⟨44, [.c (.v (.loc 1000000 0)), (aD iT)], [(1000000, .box 56 [.mp 1000001, .own 1000002, .mp 1000003, .d iT, .d .bool, .d iT, .d liT]), (1000001, .mapI .i64 true GFileT), (1000002, .arr 70 GSectorT), (1000003, .mapQ .i64 false .bool)], [], [iT, iT, .bool, iT, liT, (.sl GFilexT), (.sl GSectorT), (.sl (.pair GSectorT .bool))], .one (.v (.d iT)), [], [iT], fun x => disk_Disk_may x.1 x.2.1 x.2.2.1 x.2.2.2.1 x.2.2.2.2.1 x.2.2.2.2.2.1 x.2.2.2.2.2.2.1 x.2.2.2.2.2.2.2⟩
noncomputable def env [Fuel] : Env := ⟨Try.prog, [], [], [], [1000000], [], [], [], [], [], [], []⟩
noncomputable def an : An := .seq .no (.seq (.one (.seq .no (.cond (.seq .no .no) (.join ⟨[(10, .c (.v (.d .bool)))], [], [.bool]⟩ [] [] true .no (.cond (.seq .no .no) .no))))) (.seq .no .no))
theorem run [Fuel] : RunIs env Try.f44 an con := fun x => by kernel_rfl
theorem ok [Fuel] : ConOK Try.prog con := run_ok (E := env) run mixed Try.func44 (by kernel_rfl) (cons_nil)
end disk_Disk_may
namespace disk_put
noncomputable def con [Fuel] : Con := ⟨47, [.c (.v (.d .str)), (aD iT), .c (.v (.d .str))], [], [], [.str, iT, .str], .one (.v (.d .str)), [], [.str], fun x => disk_put x.1 x.2.1 x.2.2⟩
noncomputable def env [Fuel] : Env := ⟨Try.prog, [(85, (.int .u8))], [], [], [], [], [], [], [], [], [], []⟩
noncomputable def an : An := .seq .no (.seq (.seq .no (.cond (.seq .no .no) .no)) (.seq .no (.seq .no (.seq .no (.seq .no .no)))))
theorem run [Fuel] : RunIs env Try.f47 an con := fun x => by kernel_rfl
theorem ok [Fuel] : ConOK Try.prog con := run_ok (E := env) run mixed Try.func47 (by kernel_rfl) (cons_nil)
end disk_put
namespace disk_Disk_write
noncomputable def con [Fuel] : Con := ⟨49, [.c (.v (.loc 1000000 0)), (aD iT), (aD iT), .c (.v (.d .str))], [], [(1000000, .box 56 [.mp 1000001, .own 1000002, .mp 1000003, .d iT, .d .bool, .d iT, .d liT]), (1000001, .mapI .i64 true GFileT), (1000002, .arr 70 GSectorT), (1000003, .mapQ .i64 false .bool)], [iT, iT, .str, iT, .bool, iT, liT, (.sl GFilexT), (.sl GSectorT), (.sl (.pair GSectorT .bool))], .one (.v (.d iT)), [(1000000, .box 56 [.mp 1000001, .own 0, .mp 1000003, .d iT, .d .bool, .d iT, .d liT]), (0, .arr 70 GSectorT), (1000001, .mapI .i64 true GFileT), (1000002, .gone), (1000003, .mapQ .i64 false .bool)], [iT, iT, .bool, iT, liT, (.sl GSectorT), (.sl GFilexT), (.sl (.pair GSectorT .bool))], fun x => disk_Disk_write x.1 x.2.1 x.2.2.1 x.2.2.2.1 x.2.2.2.2.1 x.2.2.2.2.2.1 x.2.2.2.2.2.2.1 x.2.2.2.2.2.2.2.1 x.2.2.2.2.2.2.2.2.1 x.2.2.2.2.2.2.2.2.2⟩
noncomputable def env [Fuel] : Env := ⟨Try.prog, [(54, GSectorT)], [disk_Disk_may.con, disk_put.con], [(15, 0), (45, 1)], [1000000], [15], [], [86], [], [50, 52, 71, 72, 79, 80, 84, 85, 13000070, 90000056], [], []⟩
noncomputable def an : An := .seq .no (.seq (.seq .no (.seq .no (.cond (.seq .no .no) .no))) (.seq (.one (.seq .no (.cond (.seq .no .no) (.join ⟨[(22, .c (.v (.d .bool)))], [], [.bool]⟩ [0, 1, 2, 3] [1000000, 1000001, 1000002, 1000003] true .no (.cond (.seq .no .no) (.seq .no (.cond (.seq .no .no) .no))))))) (.seq .no (.seq .no (.seq .no (.seq (.seq .no (.one (.loop ⟨[(0, .c (.v (.loc 1000000 0))), (11, (aD iT))], [(1000000, .box 56 [.mp 1000001, .own 500002, .mp 1000003, .d iT, .d .bool, .d iT, .d liT]), (1000001, .mapI .i64 true GFileT), (500002, .arr 70 GSectorT), (1000003, .mapQ .i64 false .bool)], [iT, iT, .bool, iT, liT, (.sl GFilexT), (.sl GSectorT), (.sl (.pair GSectorT .bool))]⟩ [1, 2, 3] [] (.seq (.seq .no (.cond .no .no)) (.seq (.one (.seq .no (.seq .no (.cond .no .no)))) .no))))) (.seq .no .no)))))))
theorem run [Fuel] : RunIs env Try.f49 an con := fun x => by kernel_rfl
theorem ok [Fuel] : ConOK Try.prog con := run_ok (E := env) run mixed Try.func49 (by kernel_rfl) (cons_cons disk_Disk_may.ok (cons_cons disk_put.ok (cons_nil)))
end disk_Disk_write
namespace disk_Disk_Crash
noncomputable def con [Fuel] : Con := ⟨25, [.c (.v (.loc 1000000 0)), (aD liT)], [], [(1000000, .box 56 [.mp 1000001, .own 1000002, .mp 1000003, .d iT, .d .bool, .d iT, .d liT]), (1000001, .mapI .i64 true GFileT), (1000002, .arr 70 GSectorT), (1000003, .mapQ .i64 false .bool)], [liT, iT, .bool, iT, liT, (.sl GFilexT), (.sl GSectorT), (.sl (.pair GSectorT .bool))], .tup [], [(1000000, .box 56 [.mp 1000001, .own 0, .mp 1, .d iT, .d .bool, .d iT, .d liT]), (0, .arr 70 GSectorT), (1, .mapQ .i64 false .bool), (1000001, .mapI .i64 true GFileT), (1000002, .gone), (1000003, .gone)], [iT, .bool, iT, liT, (.sl GSectorT), (.sl (.pair GSectorT .bool)), (.sl GFilexT)], fun x => disk_Disk_Crash x.1 x.2.1 x.2.2.1 x.2.2.2.1 x.2.2.2.2.1 x.2.2.2.2.2.1 x.2.2.2.2.2.2.1 x.2.2.2.2.2.2.2⟩
noncomputable def env [Fuel] : Env := ⟨Try.prog, [(53, .bool)], [disk_put.con], [(74, 0)], [10, 11, 1000000], [], [], [], [71, 73], [33, 35, 38, 62, 65, 70, 79, 81, 82, 7000063, 33000056, 35000070, 38000070], [], [handLast]⟩
noncomputable def an : An := .seq (.seq .no (.cond .no .no)) (.seq .no (.join ⟨[(0, .c (.v (.loc 1000000 0)))], [(1000000, .box 56 [.mp 1000001, .own 1000002, .mp 1000003, .d iT, .d .bool, .d iT, .d liT]), (1000001, .mapI .i64 true GFileT), (1000002, .arr 70 GSectorT), (1000003, .mapQ .i64 false .bool)], [iT, .bool, iT, liT, (.sl GFilexT), (.sl GSectorT), (.sl (.pair GSectorT .bool))]⟩ [] [] true (.seq .no (.one (.loop ⟨[(0, .c (.v (.loc 1000000 0))), (23, .c (.v (.own 1000002))), (25, (aD iT))], [(1000000, .box 56 [.mp 1000001, .own 1000002, .mp 1000003, .d iT, .d .bool, .d iT, .d liT]), (1000002, .arr 70 GSectorT), (1000001, .mapI .i64 true GFileT), (1000003, .mapQ .i64 false .bool)], [iT, iT, .bool, iT, liT, (.sl GSectorT), (.sl GFilexT), (.sl (.pair GSectorT .bool))]⟩ [1, 24] [] (.seq .no (.seq (.cond .no .no) (.seq (.one (.seq .no (.seq .no (.seq (.join ⟨[(60, .c (.v (.d .bool)))], [], [.bool]⟩ [0, 1, 5, 6, 7, 23, 24, 25] [5, 6, 1000000, 1000001, 1000002, 1000003] true .no (.cond .no .no)) (.seq .no .no))))) .no)))))) (.seq (.hand 0) .no)))
theorem run [Fuel] : RunIs env Try.f25 an con := fun x => by kernel_rfl
theorem ok [Fuel] : ConOK Try.prog con := run_ok (E := env) run mixed Try.func25 (by kernel_rfl) (cons_cons disk_put.ok (cons_nil)) (hHd := crash_hands rfl rfl (by kernel_rfl))
end disk_Disk_Crash
namespace disk_Disk_Write
noncomputable def con [Fuel] : Con := ⟨29, [.c (.v (.loc 1000000 0)), (aD iT), (aD iT), .c (.v (.d .str))], [], [(1000000, .box 56 [.mp 1000001, .own 1000002, .mp 1000003, .d iT, .d .bool, .d iT, .d liT]), (1000001, .mapI .i64 true GFileT), (1000002, .arr 70 GSectorT), (1000003, .mapQ .i64 false .bool)], [iT, iT, .str, iT, .bool, iT, liT, (.sl GFilexT), (.sl GSectorT), (.sl (.pair GSectorT .bool))], .one (.v (.d iT)), [(1000000, .box 56 [.mp 1000001, .own 0, .mp 1, .d iT, .d .bool, .d iT, .d liT]), (0, .arr 70 GSectorT), (1, .mapQ .i64 false .bool), (1000001, .mapI .i64 true GFileT), (1000002, .gone), (1000003, .gone)], [iT, iT, .bool, iT, liT, (.sl GSectorT), (.sl (.pair GSectorT .bool)), (.sl GFilexT)], fun x => disk_Disk_Write x.1 x.2.1 x.2.2.1 x.2.2.2.1 x.2.2.2.2.1 x.2.2.2.2.2.1 x.2.2.2.2.2.2.1 x.2.2.2.2.2.2.2.1 x.2.2.2.2.2.2.2.2.1 x.2.2.2.2.2.2.2.2.2⟩
noncomputable def env [Fuel] : Env := ⟨Try.prog, [], [disk_Disk_ends.con, disk_Disk_write.con, disk_Disk_Crash.con], [(12, 0), (17, 1), (24, 2)], [], [12, 17, 24], [], [], [], [], [], []⟩
noncomputable def an : An := .seq .no (.seq .no (.seq .no (.seq (.seq .no (.cond (.seq .no (.seq .no .no)) .no)) (.seq .no .no))))
theorem run [Fuel] : RunIs env Try.f29 an con := fun x => by kernel_rfl
theorem ok [Fuel] : ConOK Try.prog con := run_ok (E := env) run mixed Try.func29 (by kernel_rfl) (cons_cons disk_Disk_ends.ok (cons_cons disk_Disk_write.ok (cons_cons disk_Disk_Crash.ok (cons_nil))))
end disk_Disk_Write
namespace disk_Disk_settle_1
noncomputable def con [Fuel] : Con := ⟨57, [.c (.a GSectorT), .c (.v (.loc 1000000 0))], [(1000000, .box 3 [.d iT])], [], [GSectorT, iT], .one (.v (.d .bool)), [], [.bool], fun x => disk_Disk_settle_1 x.1 x.2⟩
noncomputable def env [Fuel] : Env := ⟨Try.prog, [], [], [], [], [], [], [], [], [], [], []⟩
noncomputable def an : An := .seq .no (.seq .no .no)
theorem run [Fuel] : RunIs env Try.f57 an con := fun x => by kernel_rfl
theorem ok [Fuel] : ConOK Try.prog con := run_ok (E := env) run mixed Try.func57 (by kernel_rfl) (cons_nil)
end disk_Disk_settle_1
namespace slices_IndexFunc_disk_sector_disk_sector
noncomputable def con [Fuel] : Con := ⟨63, [.c (.v (.d (.sl GSectorT))), .c (.v (.fn 114 [1000000]))], [(1000000, .box 3 [.d iT])], [], [(.sl GSectorT), iT], .one (.v (.d iT)), [], [iT], fun x => slices_IndexFunc_disk_sector_disk_sector x.1 x.2⟩
noncomputable def env [Fuel] : Env := ⟨Try.prog, [], [disk_Disk_settle_1.con], [(16, 0)], [], [16], [], [], [], [], [], []⟩
noncomputable def an : An := .seq .no (.seq (.seq .no (.one (.loop ⟨[(8, (aD iT))], [], [iT]⟩ [0, 1, 7] [1000000] (.seq .no (.seq (.cond .no .no) (.seq (.one (.seq .no (.seq .no (.cond (.seq .no .no) .no)))) .no)))))) (.seq .no .no))
theorem run [Fuel] : RunIs env Try.f63 an con := fun x => by kernel_rfl
theorem ok [Fuel] : ConOK Try.prog con := run_ok (E := env) run mixed Try.func63 (by kernel_rfl) (cons_cons disk_Disk_settle_1.ok (cons_nil))
end slices_IndexFunc_disk_sector_disk_sector
namespace slices_DeleteFunc_disk_sector_disk_sector
noncomputable def con [Fuel] : Con := ⟨56, [.c (.v (.own 1000000)), .c (.v (.fn 114 [1000001]))], [(1000001, .box 3 [.d iT])], [(1000000, .arr 70 GSectorT)], [iT, (.sl GSectorT)], .one (.v (.own 0)), [(0, .arr 70 GSectorT), (1000000, .gone)], [(.sl GSectorT)], fun x => slices_DeleteFunc_disk_sector_disk_sector x.1 x.2⟩
noncomputable def env [Fuel] : Env := ⟨Try.prog, [], [slices_IndexFunc_disk_sector_disk_sector.con, disk_Disk_settle_1.con], [(10, 0), (28, 1)], [], [10, 28], [], [41], [], [], [], []⟩
noncomputable def an : An := .seq .no (.seq .no (.seq (.seq .no (.cond (.seq .no .no) .no)) (.seq (.seq .no (.one (.loop ⟨[(0, .c (.v (.own 1000000))), (5, (aD iT)), (6, (aD iT))], [(1000000, .arr 70 GSectorT)], [iT, iT, (.sl GSectorT)]⟩ [1] [1000001] (.seq (.seq .no (.cond .no .no)) (.seq (.one (.seq .no (.seq .no (.cond (.seq .no .no) .no)))) .no))))) (.seq .no (.seq .no .no)))))
theorem run [Fuel] : RunIs env Try.f56 an con := fun x => by kernel_rfl
theorem ok [Fuel] : ConOK Try.prog con := run_ok (E := env) run mixed Try.func56 (by kernel_rfl) (cons_cons slices_IndexFunc_disk_sector_disk_sector.ok (cons_cons disk_Disk_settle_1.ok (cons_nil)))
end slices_DeleteFunc_disk_sector_disk_sector
namespace disk_Disk_settle_2
noncomputable def con [Fuel] : Con := ⟨59, [.c (.g [.d iT, .d iT]), .c (.v (.d .bool)), .c (.v (.loc 1000000 0))], [(1000000, .box 3 [.d iT])], [], [iT, iT, .bool, iT], .one (.v (.d .bool)), [], [.bool], fun x => disk_Disk_settle_2 x.1 x.2.1 x.2.2.1 x.2.2.2⟩
noncomputable def env [Fuel] : Env := ⟨Try.prog, [], [], [], [], [], [], [], [], [], [], []⟩
noncomputable def an : An := .seq .no (.seq .no .no)
theorem run [Fuel] : RunIs env Try.f59 an con := fun x => by kernel_rfl
theorem ok [Fuel] : ConOK Try.prog con := run_ok (E := env) run mixed Try.func59 (by kernel_rfl) (cons_nil)
end disk_Disk_settle_2
noncomputable def maps_DeleteFunc.con [Fuel] : Con := delCon
theorem maps_DeleteFunc.ok [Fuel] : ConOK Try.prog maps_DeleteFunc.con := del_ok
namespace disk_Disk_settle
noncomputable def con [Fuel] : Con := ⟨45, [.c (.v (.loc 1000000 0)), (aD iT), .c (.v (.d .str))], [], [(1000000, .box 56 [.mp 1000001, .own 1000002, .mp 1000003, .d iT, .d .bool, .d iT, .d liT]), (1000001, .mapI .i64 true GFileT), (1000002, .arr 70 GSectorT), (1000003, .mapQ .i64 false .bool)], [iT, .str, iT, .bool, iT, liT, (.sl GFilexT), (.sl GSectorT), (.sl (.pair GSectorT .bool))], .tup [], [(1000000, .box 56 [.mp 1000001, .own 0, .mp 1000003, .d iT, .d .bool, .d iT, .d liT]), (0, .arr 70 GSectorT), (1000001, .mapI .i64 true GFileT), (1000002, .gone), (1000003, .mapQ .i64 false .bool)], [iT, .bool, iT, liT, (.sl GSectorT), (.sl GFilexT), (.sl (.pair GSectorT .bool))], fun x => disk_Disk_settle x.1 x.2.1 x.2.2.1 x.2.2.2.1 x.2.2.2.2.1 x.2.2.2.2.2.1 x.2.2.2.2.2.2.1 x.2.2.2.2.2.2.2.1 x.2.2.2.2.2.2.2.2⟩
noncomputable def env [Fuel] : Env := ⟨Try.prog, [], [slices_DeleteFunc_disk_sector_disk_sector.con, maps_DeleteFunc.con], [(20, 0), (28, 1)], [], [20, 28], [], [], [], [9, 10], [], []⟩
noncomputable def an : An := .seq .no (.seq .no (.seq .no .no))
theorem run [Fuel] : RunIs env Try.f45 an con := fun x => by kernel_rfl
theorem ok [Fuel] : ConOK Try.prog con := run_ok (E := env) run mixed Try.func45 (by kernel_rfl) (cons_cons slices_DeleteFunc_disk_sector_disk_sector.ok (cons_cons maps_DeleteFunc.ok (cons_nil)))
end disk_Disk_settle
namespace disk_Disk_Sync
noncomputable def con [Fuel] : Con := ⟨19, [.c (.v (.loc 1000000 0)), (aD iT)], [], [(1000000, .box 56 [.mp 1000001, .own 1000002, .mp 1000003, .d iT, .d .bool, .d iT, .d liT]), (1000001, .mapI .i64 true GFileT), (1000002, .arr 70 GSectorT), (1000003, .mapQ .i64 false .bool)], [iT, iT, .bool, iT, liT, (.sl GFilexT), (.sl GSectorT), (.sl (.pair GSectorT .bool))], .one (.v (.d iT)), [(1000000, .box 56 [.mp 1000001, .own 0, .mp 1, .d iT, .d .bool, .d iT, .d liT]), (0, .arr 70 GSectorT), (1, .mapQ .i64 false .bool), (1000001, .mapI .i64 true GFileT), (1000002, .gone), (1000003, .gone)], [iT, iT, .bool, iT, liT, (.sl GSectorT), (.sl (.pair GSectorT .bool)), (.sl GFilexT)], fun x => disk_Disk_Sync x.1 x.2.1 x.2.2.1 x.2.2.2.1 x.2.2.2.2.1 x.2.2.2.2.2.1 x.2.2.2.2.2.2.1 x.2.2.2.2.2.2.2⟩
noncomputable def env [Fuel] : Env := ⟨Try.prog, [], [disk_Disk_ends.con, disk_Disk_Crash.con, disk_Disk_may.con, disk_Disk_settle.con], [(7, 0), (13, 1), (16, 2), (41, 3)], [3], [7, 13, 16, 41], [], [], [], [], [], []⟩
noncomputable def an : An := .seq .no (.join ⟨[(0, .c (.v (.loc 1000000 0)))], [(1000000, .box 56 [.mp 1000001, .own 500001, .mp 500002, .d iT, .d .bool, .d iT, .d liT]), (1000001, .mapI .i64 true GFileT), (500001, .arr 70 GSectorT), (500002, .mapQ .i64 false .bool)], [iT, .bool, iT, liT, (.sl GFilexT), (.sl GSectorT), (.sl (.pair GSectorT .bool))]⟩ [1] [] true (.seq .no (.cond .no .no)) (.seq (.seq .no (.seq .no (.cond (.seq .no .no) .no))) (.seq (.seq .no (.cond (.seq .no (.seq .no .no)) .no)) (.seq .no (.seq .no .no)))))
theorem run [Fuel] : RunIs env Try.f19 an con := fun x => by kernel_rfl
theorem ok [Fuel] : ConOK Try.prog con := run_ok (E := env) run mixed Try.func19 (by kernel_rfl) (cons_cons disk_Disk_ends.ok (cons_cons disk_Disk_Crash.ok (cons_cons disk_Disk_may.ok (cons_cons disk_Disk_settle.ok (cons_nil)))))
end disk_Disk_Sync
noncomputable def maps_Clone.con [Fuel] : Con := cloneConI 40 .i64 true GFileT
theorem maps_Clone.ok [Fuel] : ConOK Try.prog maps_Clone.con := clone_conI (by kernel_rfl) Go.Proofs.Try.maps_Clone_40
namespace slices_Clone_disk_sector_disk_sector
noncomputable def con [Fuel] : Con := ⟨41, [.c (.v (.d (.sl GSectorT)))], [], [], [(.sl GSectorT)], .one (.v (.own 0)), [(0, .arr 70 GSectorT)], [(.sl GSectorT)], fun x => slices_Clone_disk_sector_disk_sector x⟩
noncomputable def env [Fuel] : Env := ⟨Try.prog, [(54, GSectorT)], [], [], [], [], [], [], [], [], [], []⟩
noncomputable def an : An := .seq .no (.seq (.seq .no (.cond (.seq .no .no) .no)) (.seq .no .no))
theorem run [Fuel] : RunIs env Try.f41 an con := fun x => by kernel_rfl
theorem ok [Fuel] : ConOK Try.prog con := run_ok (E := env) run mixed Try.func41 (by kernel_rfl) (cons_nil)
end slices_Clone_disk_sector_disk_sector
noncomputable def maps_Clone_v2.con [Fuel] : Con := cloneCon 42 .i64 false .bool
theorem maps_Clone_v2.ok [Fuel] : ConOK Try.prog maps_Clone_v2.con := clone_con (by kernel_rfl) Go.Proofs.Try.maps_Clone_42
namespace disk_Disk_Copy
noncomputable def con [Fuel] : Con := ⟨18, [.c (.v (.loc 1000000 0))], [(1000000, .box 56 [.mp 1000001, .own 1000002, .mp 1000003, .d iT, .d .bool, .d iT, .d liT]), (1000001, .mapI .i64 true GFileT), (1000002, .arr 70 GSectorT), (1000003, .mapQ .i64 false .bool)], [], [iT, .bool, iT, liT, (.sl GFilexT), (.sl GSectorT), (.sl (.pair GSectorT .bool))], .one (.v (.loc 0 0)), [(0, .box 56 [.mp 1, .own 2, .mp 3, .d iT, .d .bool, .d iT, .d liT]), (1, .mapI .i64 true GFileT), (2, .arr 70 GSectorT), (3, .mapQ .i64 false .bool)], [iT, .bool, iT, liT, (.sl GFilexT), (.sl GSectorT), (.sl (.pair GSectorT .bool))], fun x => disk_Disk_Copy x.1 x.2.1 x.2.2.1 x.2.2.2.1 x.2.2.2.2.1 x.2.2.2.2.2.1 x.2.2.2.2.2.2⟩
noncomputable def env [Fuel] : Env := ⟨Try.prog, [], [maps_Clone.con, slices_Clone_disk_sector_disk_sector.con, maps_Clone_v2.con], [(11, 0), (16, 1), (21, 2)], [], [11, 21, 1000011, 1000021], [], [], [], [10, 15, 20], [], []⟩
noncomputable def an : An := .seq .no (.seq .no (.seq .no (.seq .no .no)))
theorem run [Fuel] : RunIs env Try.f18 an con := fun x => by kernel_rfl
theorem ok [Fuel] : ConOK Try.prog con := run_ok (E := env) run mixed Try.func18 (by kernel_rfl) (cons_cons maps_Clone.ok (cons_cons slices_Clone_disk_sector_disk_sector.ok (cons_cons maps_Clone_v2.ok (cons_nil))))
end disk_Disk_Copy
namespace disk_Disk_Down
noncomputable def con [Fuel] : Con := ⟨14, [.c (.v (.loc 1000000 0))], [(1000000, .box 56 [.mp 1000001, .own 1000002, .mp 1000003, .d iT, .d .bool, .d iT, .d liT]), (1000001, .mapI .i64 true GFileT), (1000002, .arr 70 GSectorT), (1000003, .mapQ .i64 false .bool)], [], [iT, .bool, iT, liT, (.sl GFilexT), (.sl GSectorT), (.sl (.pair GSectorT .bool))], .one (.v (.d .bool)), [], [.bool], fun x => disk_Disk_Down x.1 x.2.1 x.2.2.1 x.2.2.2.1 x.2.2.2.2.1 x.2.2.2.2.2.1 x.2.2.2.2.2.2⟩
noncomputable def env [Fuel] : Env := ⟨Try.prog, [], [], [], [], [], [], [], [], [], [], []⟩
noncomputable def an : An := .seq .no (.seq .no .no)
theorem run [Fuel] : RunIs env Try.f14 an con := fun x => by kernel_rfl
theorem ok [Fuel] : ConOK Try.prog con := run_ok (E := env) run mixed Try.func14 (by kernel_rfl) (cons_nil)
end disk_Disk_Down
namespace disk_Disk_Read
noncomputable def con [Fuel] : Con := ⟨20, [.c (.v (.loc 1000000 0)), (aD iT), (aD iT), (aD iT)], [(1000000, .box 56 [.mp 1000001, .own 1000002, .mp 1000003, .d iT, .d .bool, .d iT, .d liT]), (1000001, .mapI .i64 true GFileT), (1000002, .arr 70 GSectorT), (1000003, .mapQ .i64 false .bool)], [], [iT, iT, iT, iT, .bool, iT, liT, (.sl GFilexT), (.sl GSectorT), (.sl (.pair GSectorT .bool))], .tup [.v (.d .str), .v (.d iT)], [], [.str, iT], fun x => disk_Disk_Read x.1 x.2.1 x.2.2.1 x.2.2.2.1 x.2.2.2.2.1 x.2.2.2.2.2.1 x.2.2.2.2.2.2.1 x.2.2.2.2.2.2.2.1 x.2.2.2.2.2.2.2.2.1 x.2.2.2.2.2.2.2.2.2⟩
noncomputable def env [Fuel] : Env := ⟨Try.prog, [], [disk_Disk_may.con], [(14, 0)], [1000000], [14], [], [], [], [], [], []⟩
noncomputable def an : An := .seq .no (.seq (.seq .no (.seq .no (.cond (.seq .no .no) .no))) (.seq (.join ⟨[(23, .c (.v (.d .bool)))], [], [.bool]⟩ [0, 1, 2, 3] [1000000, 1000001, 1000002, 1000003] true .no (.cond (.seq .no .no) .no)) (.seq .no (.seq .no (.seq .no .no)))))
theorem run [Fuel] : RunIs env Try.f20 an con := fun x => by kernel_rfl
theorem ok [Fuel] : ConOK Try.prog con := run_ok (E := env) run mixed Try.func20 (by kernel_rfl) (cons_cons disk_Disk_may.ok (cons_nil))
end disk_Disk_Read
namespace disk_Disk_Start
noncomputable def con [Fuel] : Con := ⟨26, [.c (.v (.loc 1000000 0))], [], [(1000000, .box 56 [.mp 1000001, .own 1000002, .mp 1000003, .d iT, .d .bool, .d iT, .d liT]), (1000001, .mapI .i64 true GFileT), (1000002, .arr 70 GSectorT), (1000003, .mapQ .i64 false .bool)], [iT, .bool, iT, liT, (.sl GFilexT), (.sl GSectorT), (.sl (.pair GSectorT .bool))], .tup [], [(1000000, .box 56 [.mp 1000001, .own 1000002, .mp 1000003, .d iT, .d .bool, .d iT, .d liT]), (1000001, .mapI .i64 true GFileT), (1000002, .arr 70 GSectorT), (1000003, .mapQ .i64 false .bool)], [iT, .bool, iT, liT, (.sl GFilexT), (.sl GSectorT), (.sl (.pair GSectorT .bool))], fun x => disk_Disk_Start x.1 x.2.1 x.2.2.1 x.2.2.2.1 x.2.2.2.2.1 x.2.2.2.2.2.1 x.2.2.2.2.2.2⟩
noncomputable def env [Fuel] : Env := ⟨Try.prog, [], [], [], [], [], [], [], [], [], [], []⟩
noncomputable def an : An := .no
theorem run [Fuel] : RunIs env Try.f26 an con := fun x => by kernel_rfl
theorem ok [Fuel] : ConOK Try.prog con := run_ok (E := env) run mixed Try.func26 (by kernel_rfl) (cons_nil)
end disk_Disk_Start
namespace disk_Disk_Size
noncomputable def con [Fuel] : Con := ⟨16, [.c (.v (.loc 1000000 0)), (aD iT)], [(1000000, .box 56 [.mp 1000001, .own 1000002, .mp 1000003, .d iT, .d .bool, .d iT, .d liT]), (1000001, .mapI .i64 true GFileT), (1000002, .arr 70 GSectorT), (1000003, .mapQ .i64 false .bool)], [], [iT, iT, .bool, iT, liT, (.sl GFilexT), (.sl GSectorT), (.sl (.pair GSectorT .bool))], .one (.v (.d iT)), [], [iT], fun x => disk_Disk_Size x.1 x.2.1 x.2.2.1 x.2.2.2.1 x.2.2.2.2.1 x.2.2.2.2.2.1 x.2.2.2.2.2.2.1 x.2.2.2.2.2.2.2⟩
noncomputable def env [Fuel] : Env := ⟨Try.prog, [], [], [], [], [], [], [], [], [], [], []⟩
noncomputable def an : An := .seq .no (.seq .no .no)
theorem run [Fuel] : RunIs env Try.f16 an con := fun x => by kernel_rfl
theorem ok [Fuel] : ConOK Try.prog con := run_ok (E := env) run mixed Try.func16 (by kernel_rfl) (cons_nil)
end disk_Disk_Size
namespace ladinglaw02_small
noncomputable def con [Fuel] : Con := ⟨8, [], [], [], [], .one (.v (.d .bool)), [], [.bool], fun x => ladinglaw02_small⟩
noncomputable def env [Fuel] : Env := ⟨Try.prog, [(31, iT)], [disk_New.con, disk_Disk_Write.con, disk_Disk_Sync.con, disk_Disk_Copy.con, disk_Disk_Crash.con, disk_Disk_Down.con, disk_Disk_Read.con, disk_Disk_Start.con, disk_Disk_Size.con], [(16, 0), (20, 1), (22, 2), (24, 1), (26, 3), (31, 4), (33, 5), (36, 6), (40, 7), (43, 6), (48, 4), (50, 7), (53, 6), (57, 1), (60, 4), (62, 7), (65, 6), (112, 8), (117, 1), (122, 1)], [23], [20, 22, 24, 26, 31, 33, 36, 40, 43, 48, 50, 53, 57, 60, 62, 65, 112, 117, 122], [], [30, 47, 59], [], [], [], []⟩
noncomputable def an : An := .seq .no (.seq .no (.seq (.seq .no (.cond (.seq .no .no) .no)) (.seq .no (.seq .no (.seq .no (.seq .no (.seq (.seq .no (.cond (.seq .no .no) .no)) (.seq .no (.seq .no (.seq .no (.seq .no (.seq .no (.seq .no (.seq .no (.seq .no (.seq .no (.seq .no (.seq .no (.seq .no (.join ⟨[(15, .c (.v (.d .bool)))], [], [.bool]⟩ [4, 13, 14] [26, 60, 10026, 10060] true .no (.seq .no .no)))))))))))))))))))))
theorem run [Fuel] : RunIs env Try.f8 an con := fun x => by kernel_rfl
theorem ok [Fuel] : ConOK Try.prog con := run_ok (E := env) run mixed Try.func8 (by kernel_rfl) (cons_cons disk_New.ok (cons_cons disk_Disk_Write.ok (cons_cons disk_Disk_Sync.ok (cons_cons disk_Disk_Copy.ok (cons_cons disk_Disk_Crash.ok (cons_cons disk_Disk_Down.ok (cons_cons disk_Disk_Read.ok (cons_cons disk_Disk_Start.ok (cons_cons disk_Disk_Size.ok (cons_nil))))))))))
end ladinglaw02_small
namespace ladinglaw02_few
noncomputable def con [Fuel] : Con := ⟨9, [.c (.v (.d (.sl GActT)))], [], [], [(.sl GActT)], .one (.v (.d .bool)), [], [.bool], fun x => ladinglaw02_few x⟩
noncomputable def env [Fuel] : Env := ⟨Try.prog, [], [], [], [1000000], [], [], [], [], [], [], []⟩
noncomputable def an : An := .seq .no (.seq (.seq .no (.one (.loop ⟨[(3, (aD iT))], [], [iT]⟩ [0] [] (.seq (.seq .no (.cond .no .no)) (.seq (.one (.join ⟨[(41, .c (.v (.d .bool)))], [], [.bool]⟩ [0, 3] [] true .no (.cond (.seq .no .no) .no))) .no))))) (.seq .no .no))
theorem run [Fuel] : RunIs env Try.f9 an con := fun x => by kernel_rfl
theorem ok [Fuel] : ConOK Try.prog con := run_ok (E := env) run mixed Try.func9 (by kernel_rfl) (cons_nil)
end ladinglaw02_few
namespace ladingref02_New
noncomputable def con [Fuel] : Con := ⟨11, [], [], [], [], .one (.v (.loc 0 0)), [(0, .box 60 [.own 1, .own 2, .d iT, .d .bool, .d iT, .d liT]), (1, .arr 65 GFilexT), (2, .arr 78 GSectorT)], [iT, .bool, iT, liT, (.sl GFilexT), (.sl GSectorT)], fun x => ladingref02_New⟩
noncomputable def env [Fuel] : Env := ⟨Try.prog, [], [], [], [], [], [], [], [], [], [], []⟩
noncomputable def an : An := .seq .no (.seq .no .no)
theorem run [Fuel] : RunIs env Try.f11 an con := fun x => by kernel_rfl
theorem ok [Fuel] : ConOK Try.prog con := run_ok (E := env) run mixed Try.func11 (by kernel_rfl) (cons_nil)
end ladingref02_New
namespace disk_Disk_Truncate
noncomputable def con [Fuel] : Con := ⟨30, [.c (.v (.loc 1000000 0)), (aD iT), (aD iT)], [], [(1000000, .box 56 [.mp 1000001, .own 1000002, .mp 1000003, .d iT, .d .bool, .d iT, .d liT]), (1000001, .mapI .i64 true GFileT), (1000002, .arr 70 GSectorT), (1000003, .mapQ .i64 false .bool)], [iT, iT, iT, .bool, iT, liT, (.sl GFilexT), (.sl GSectorT), (.sl (.pair GSectorT .bool))], .one (.v (.d iT)), [(1000000, .box 56 [.mp 1000001, .own 0, .mp 1, .d iT, .d .bool, .d iT, .d liT]), (0, .arr 70 GSectorT), (1, .mapQ .i64 false .bool), (1000001, .mapI .i64 true GFileT), (1000002, .gone), (1000003, .gone)], [iT, iT, .bool, iT, liT, (.sl GSectorT), (.sl (.pair GSectorT .bool)), (.sl GFilexT)], fun x => disk_Disk_Truncate x.1 x.2.1 x.2.2.1 x.2.2.2.1 x.2.2.2.2.1 x.2.2.2.2.2.1 x.2.2.2.2.2.2.1 x.2.2.2.2.2.2.2.1 x.2.2.2.2.2.2.2.2⟩
noncomputable def env [Fuel] : Env := ⟨Try.prog, [], [disk_Disk_ends.con, disk_Disk_Crash.con, disk_Disk_may.con, disk_Disk_Size.con, disk_Disk_settle.con], [(9, 0), (15, 1), (18, 2), (28, 3), (42, 4)], [3, 1000000], [9, 15, 18, 28, 42], [], [], [], [], [], []⟩
noncomputable def an : An := .seq .no (.join ⟨[(0, .c (.v (.loc 1000000 0)))], [(1000000, .box 56 [.mp 1000001, .own 500001, .mp 500002, .d iT, .d .bool, .d iT, .d liT]), (1000001, .mapI .i64 true GFileT), (500001, .arr 70 GSectorT), (500002, .mapQ .i64 false .bool)], [iT, .bool, iT, liT, (.sl GFilexT), (.sl GSectorT), (.sl (.pair GSectorT .bool))]⟩ [1, 2] [] true (.seq .no (.cond .no .no)) (.seq (.seq .no (.seq .no (.cond (.seq .no .no) .no))) (.seq (.join ⟨[(30, .c (.v (.d .bool)))], [], [.bool]⟩ [0, 1, 2] [500001, 500002, 1000000, 1000001] true .no (.cond (.seq .no .no) .no)) (.seq .no (.seq .no .no)))))
theorem run [Fuel] : RunIs env Try.f30 an con := fun x => by kernel_rfl
theorem ok [Fuel] : ConOK Try.prog con := run_ok (E := env) run mixed Try.func30 (by kernel_rfl) (cons_cons disk_Disk_ends.ok (cons_cons disk_Disk_Crash.ok (cons_cons disk_Disk_may.ok (cons_cons disk_Disk_Size.ok (cons_cons disk_Disk_settle.ok (cons_nil))))))
end disk_Disk_Truncate
namespace disk_Disk_Lose
noncomputable def con [Fuel] : Con := ⟨31, [.c (.v (.loc 1000000 0)), (aD iT)], [], [(1000000, .box 56 [.mp 1000001, .own 1000002, .mp 1000003, .d iT, .d .bool, .d iT, .d liT]), (1000001, .mapI .i64 true GFileT), (1000002, .arr 70 GSectorT), (1000003, .mapQ .i64 false .bool)], [iT, iT, .bool, iT, liT, (.sl GFilexT), (.sl GSectorT), (.sl (.pair GSectorT .bool))], .tup [], [(1000000, .box 56 [.mp 1000001, .own 1000002, .mp 1000003, .d iT, .d .bool, .d iT, .d liT]), (1000001, .mapI .i64 true GFileT), (1000002, .arr 70 GSectorT), (1000003, .mapQ .i64 false .bool)], [iT, .bool, iT, liT, (.sl GFilexT), (.sl GSectorT), (.sl (.pair GSectorT .bool))], fun x => disk_Disk_Lose x.1 x.2.1 x.2.2.1 x.2.2.2.1 x.2.2.2.2.1 x.2.2.2.2.2.1 x.2.2.2.2.2.2.1 x.2.2.2.2.2.2.2⟩
noncomputable def env [Fuel] : Env := ⟨Try.prog, [], [], [], [], [], [], [], [], [], [], []⟩
noncomputable def an : An := .no
theorem run [Fuel] : RunIs env Try.f31 an con := fun x => by kernel_rfl
theorem ok [Fuel] : ConOK Try.prog con := run_ok (E := env) run mixed Try.func31 (by kernel_rfl) (cons_nil)
end disk_Disk_Lose
namespace slices_Clone_int_int
noncomputable def con [Fuel] : Con := ⟨48, [(aD liT)], [], [], [liT], .one (.v (.own 0)), [(0, .arr 3 iT)], [liT], fun x => slices_Clone_int_int x⟩
noncomputable def env [Fuel] : Env := ⟨Try.prog, [(31, iT)], [], [], [], [], [], [], [], [], [], []⟩
noncomputable def an : An := .seq .no (.seq (.seq .no (.cond (.seq .no .no) .no)) (.seq .no .no))
theorem run [Fuel] : RunIs env Try.f48 an con := fun x => by kernel_rfl
theorem ok [Fuel] : ConOK Try.prog con := run_ok (E := env) run mixed Try.func48 (by kernel_rfl) (cons_nil)
end slices_Clone_int_int
namespace disk_Disk_Arm
noncomputable def con [Fuel] : Con := ⟨27, [.c (.v (.loc 1000000 0)), (aD iT), (aD liT)], [], [(1000000, .box 56 [.mp 1000001, .own 1000002, .mp 1000003, .d iT, .d .bool, .d iT, .d liT]), (1000001, .mapI .i64 true GFileT), (1000002, .arr 70 GSectorT), (1000003, .mapQ .i64 false .bool)], [iT, liT, iT, .bool, iT, liT, (.sl GFilexT), (.sl GSectorT), (.sl (.pair GSectorT .bool))], .tup [], [(1000000, .box 56 [.mp 1000001, .own 1000002, .mp 1000003, .d iT, .d .bool, .d iT, .d liT]), (1000001, .mapI .i64 true GFileT), (1000002, .arr 70 GSectorT), (1000003, .mapQ .i64 false .bool)], [iT, .bool, iT, liT, (.sl GFilexT), (.sl GSectorT), (.sl (.pair GSectorT .bool))], fun x => disk_Disk_Arm x.1 x.2.1 x.2.2.1 x.2.2.2.1 x.2.2.2.2.1 x.2.2.2.2.2.1 x.2.2.2.2.2.2.1 x.2.2.2.2.2.2.2.1 x.2.2.2.2.2.2.2.2⟩
noncomputable def env [Fuel] : Env := ⟨Try.prog, [], [slices_Clone_int_int.con], [(11, 0)], [], [], [], [], [], [], [], []⟩
noncomputable def an : An := .no
theorem run [Fuel] : RunIs env Try.f27 an con := fun x => by kernel_rfl
theorem ok [Fuel] : ConOK Try.prog con := run_ok (E := env) run mixed Try.func27 (by kernel_rfl) (cons_cons slices_Clone_int_int.ok (cons_nil))
end disk_Disk_Arm
namespace ladinglaw02_do
noncomputable def con [Fuel] : Con := ⟨12, [.c (.v (.loc 1000000 0)), .c (.a GActT)], [], [(1000000, .box 56 [.mp 1000001, .own 1000002, .mp 1000003, .d iT, .d .bool, .d iT, .d liT]), (1000001, .mapI .i64 true GFileT), (1000002, .arr 70 GSectorT), (1000003, .mapQ .i64 false .bool)], [GActT, iT, .bool, iT, liT, (.sl GFilexT), (.sl GSectorT), (.sl (.pair GSectorT .bool))], .one (.v (.d iT)), [(1000000, .box 56 [.mp 1000001, .own 0, .mp 1, .d iT, .d .bool, .d iT, .d liT]), (0, .arr 70 GSectorT), (1, .mapQ .i64 false .bool), (1000001, .mapI .i64 true GFileT), (1000002, .gone), (1000003, .gone)], [iT, iT, .bool, iT, liT, (.sl GSectorT), (.sl (.pair GSectorT .bool)), (.sl GFilexT)], fun x => ladinglaw02_do x.1 x.2.1 x.2.2.1 x.2.2.2.1 x.2.2.2.2.1 x.2.2.2.2.2.1 x.2.2.2.2.2.2.1 x.2.2.2.2.2.2.2⟩
noncomputable def env [Fuel] : Env := ⟨Try.prog, [], [disk_Disk_Sync.con, disk_Disk_Truncate.con, disk_Disk_Lose.con, disk_Disk_Arm.con, disk_Disk_Crash.con, disk_Disk_Start.con, disk_Disk_Write.con], [(21, 0), (29, 1), (36, 2), (44, 3), (50, 4), (54, 5), (15, 6)], [], [15, 21, 29, 36, 44, 50, 54], [], [], [], [], [], []⟩
noncomputable def an : An := .seq .no (.seq (.seq .no (.one (.seq .no (.cond (.seq .no .no) (.seq .no (.cond (.seq .no .no) (.seq .no (.cond .no (.seq .no (.cond .no (.seq .no (.cond .no (.seq .no (.cond .no (.seq .no .no))))))))))))))) (.seq .no .no))
theorem run [Fuel] : RunIs env Try.f12 an con := fun x => by kernel_rfl
theorem ok [Fuel] : ConOK Try.prog con := run_ok (E := env) run mixed Try.func12 (by kernel_rfl) (cons_cons disk_Disk_Sync.ok (cons_cons disk_Disk_Truncate.ok (cons_cons disk_Disk_Lose.ok (cons_cons disk_Disk_Arm.ok (cons_cons disk_Disk_Crash.ok (cons_cons disk_Disk_Start.ok (cons_cons disk_Disk_Write.ok (cons_nil))))))))
end ladinglaw02_do
namespace ladingref02_fits
noncomputable def con [Fuel] : Con := ⟨53, [(aD iT), .c (.v (.d .str))], [], [], [iT, .str], .one (.v (.d .bool)), [], [.bool], fun x => ladingref02_fits x.1 x.2⟩
noncomputable def env [Fuel] : Env := ⟨Try.prog, [], [], [], [], [], [], [], [], [], [], []⟩
noncomputable def an : An := .seq .no (.seq .no .no)
theorem run [Fuel] : RunIs env Try.f53 an con := fun x => by kernel_rfl
theorem ok [Fuel] : ConOK Try.prog con := run_ok (E := env) run mixed Try.func53 (by kernel_rfl) (cons_nil)
end ladingref02_fits
namespace ladingref02_Disk_get
noncomputable def con [Fuel] : Con := ⟨39, [.c (.v (.loc 1000000 0)), (aD iT)], [(1000000, .box 60 [.own 1000001, .own 1000002, .d iT, .d .bool, .d iT, .d liT]), (1000001, .arr 65 GFilexT), (1000002, .arr 78 GSectorT)], [], [iT, iT, .bool, iT, liT, (.sl GFilexT), (.sl GSectorT)], .one (.a GFilexT), [], [GFilexT], fun x => ladingref02_Disk_get x.1 x.2.1 x.2.2.1 x.2.2.2.1 x.2.2.2.2.1 x.2.2.2.2.2.1 x.2.2.2.2.2.2⟩
noncomputable def env [Fuel] : Env := ⟨Try.prog, [], [], [], [], [], [], [], [], [], [], []⟩
noncomputable def an : An := .seq .no (.seq (.seq .no (.one (.loop ⟨[(5, (aD iT))], [], [iT]⟩ [0, 1, 4] [4, 1000000, 1000001, 1000002] (.seq (.seq .no (.cond .no .no)) (.seq (.one (.seq .no (.cond (.seq .no .no) .no))) .no))))) (.seq .no .no))
theorem run [Fuel] : RunIs env Try.f39 an con := fun x => by kernel_rfl
theorem ok [Fuel] : ConOK Try.prog con := run_ok (E := env) run mixed Try.func39 (by kernel_rfl) (cons_nil)
end ladingref02_Disk_get
namespace ladingref02_Put
noncomputable def con [Fuel] : Con := ⟨61, [.c (.v (.d .str)), (aD iT), .c (.v (.d .str))], [], [], [.str, iT, .str], .one (.v (.d .str)), [], [.str], fun x => ladingref02_Put x.1 x.2.1 x.2.2⟩
noncomputable def env [Fuel] : Env := ⟨Try.prog, [(85, (.int .u8))], [], [], [6], [], [], [13, 22], [], [], [], []⟩
noncomputable def an : An := .seq .no (.seq (.seq .no (.cond (.seq .no .no) .no)) (.seq .no (.join ⟨[(7, .c (.v (.own 500002)))], [(500002, .arr 5 (.int .u8))], [(.sl (.int .u8))]⟩ [1, 2] [] true (.one (.loop ⟨[(7, .c (.v (.own 500003)))], [(500003, .arr 5 (.int .u8))], [(.sl (.int .u8))]⟩ [1, 2] [] (.seq (.seq .no (.cond .no .no)) (.one .no)))) (.seq (.seq .no (.one (.loop ⟨[(7, .c (.v (.own 500004))), (8, (aD iT))], [(500004, .arr 5 (.int .u8))], [iT, (.sl (.int .u8))]⟩ [1, 2] [] (.seq (.seq .no (.cond .no .no)) (.seq (.one .no) .no))))) (.seq .no .no)))))
theorem run [Fuel] : RunIs env Try.f61 an con := fun x => by kernel_rfl
theorem ok [Fuel] : ConOK Try.prog con := run_ok (E := env) run mixed Try.func61 (by kernel_rfl) (cons_nil)
end ladingref02_Put
namespace ladingref02_Disk_set
noncomputable def con [Fuel] : Con := ⟨60, [.c (.v (.loc 1000000 0)), .c (.a GFilexT)], [], [(1000000, .box 60 [.own 1000001, .own 1000002, .d iT, .d .bool, .d iT, .d liT]), (1000001, .arr 65 GFilexT), (1000002, .arr 78 GSectorT)], [GFilexT, iT, .bool, iT, liT, (.sl GFilexT), (.sl GSectorT)], .tup [], [(1000000, .box 60 [.own 0, .own 1000002, .d iT, .d .bool, .d iT, .d liT]), (0, .arr 65 GFilexT), (1000001, .arr 65 GFilexT), (1000002, .arr 78 GSectorT)], [iT, .bool, iT, liT, (.sl GFilexT), (.sl GFilexT), (.sl GSectorT)], fun x => ladingref02_Disk_set x.1 x.2.1 x.2.2.1 x.2.2.2.1 x.2.2.2.2.1 x.2.2.2.2.2.1 x.2.2.2.2.2.2⟩
noncomputable def env [Fuel] : Env := ⟨Try.prog, [(57, GFilexT)], [], [], [], [], [], [34, 39], [], [18, 24], [], []⟩
noncomputable def an : An := .seq .no (.seq .no (.seq (.seq .no (.one (.loop ⟨[(4, .c (.v (.own 500002))), (5, (aD iT))], [(500002, .arr 65 GFilexT)], [iT, (.sl GFilexT)]⟩ [0, 3] [3, 1000000, 1000001, 1000002] (.seq (.seq .no (.cond .no .no)) (.seq (.one (.seq .no (.cond .no .no))) .no))))) .no))
theorem run [Fuel] : RunIs env Try.f60 an con := fun x => by kernel_rfl
theorem ok [Fuel] : ConOK Try.prog con := run_ok (E := env) run mixed Try.func60 (by kernel_rfl) (cons_nil)
end ladingref02_Disk_set
namespace ladingref02_Disk_pending
noncomputable def con [Fuel] : Con := ⟨62, [.c (.v (.loc 1000000 0)), (aD iT), (aD iT)], [(1000000, .box 60 [.own 1000001, .own 1000002, .d iT, .d .bool, .d iT, .d liT]), (1000001, .arr 65 GFilexT), (1000002, .arr 78 GSectorT)], [], [iT, iT, iT, .bool, iT, liT, (.sl GFilexT), (.sl GSectorT)], .one (.v (.d .bool)), [], [.bool], fun x => ladingref02_Disk_pending x.1 x.2.1 x.2.2.1 x.2.2.2.1 x.2.2.2.2.1 x.2.2.2.2.2.1 x.2.2.2.2.2.2.1 x.2.2.2.2.2.2.2⟩
noncomputable def env [Fuel] : Env := ⟨Try.prog, [], [], [], [1000000], [], [], [], [], [], [], []⟩
noncomputable def an : An := .seq .no (.seq (.seq .no (.one (.loop ⟨[(7, (aD iT))], [], [iT]⟩ [0, 1, 2] [1000000, 1000001, 1000002] (.seq (.seq .no (.cond .no .no)) (.seq (.one (.join ⟨[(38, .c (.v (.d .bool)))], [], [.bool]⟩ [0, 1, 2, 7] [1000000, 1000001, 1000002] true .no (.cond (.seq .no .no) .no))) .no))))) (.seq .no .no))
theorem run [Fuel] : RunIs env Try.f62 an con := fun x => by kernel_rfl
theorem ok [Fuel] : ConOK Try.prog con := run_ok (E := env) run mixed Try.func62 (by kernel_rfl) (cons_nil)
end ladingref02_Disk_pending
namespace ladingref02_Disk_add
noncomputable def con [Fuel] : Con := ⟨54, [.c (.v (.loc 1000000 0)), (aD iT), (aD iT), .c (.v (.d .str))], [], [(1000000, .box 60 [.own 1000001, .own 1000002, .d iT, .d .bool, .d iT, .d liT]), (1000001, .arr 65 GFilexT), (1000002, .arr 78 GSectorT)], [iT, iT, .str, iT, .bool, iT, liT, (.sl GFilexT), (.sl GSectorT)], .tup [], [(1000000, .box 60 [.own 0, .own 1, .d iT, .d .bool, .d iT, .d liT]), (0, .arr 65 GFilexT), (1, .arr 78 GSectorT), (1000001, .gone), (1000002, .gone)], [iT, .bool, iT, liT, (.sl GFilexT), (.sl GSectorT)], fun x => ladingref02_Disk_add x.1 x.2.1 x.2.2.1 x.2.2.2.1 x.2.2.2.2.1 x.2.2.2.2.2.1 x.2.2.2.2.2.2.1 x.2.2.2.2.2.2.2.1 x.2.2.2.2.2.2.2.2⟩
noncomputable def env [Fuel] : Env := ⟨Try.prog, [(58, GSectorT)], [ladingref02_Disk_get.con, ladingref02_Put.con, ladingref02_Disk_set.con, ladingref02_Disk_pending.con], [(14, 0), (19, 1), (23, 2), (39, 3)], [], [14, 23, 39], [], [49], [], [], [], []⟩
noncomputable def an : An := .seq (.seq .no (.cond .no .no)) (.seq .no (.seq .no (.seq .no (.seq .no (.one (.loop ⟨[(0, .c (.v (.loc 1000000 0))), (9, (aD iT))], [(1000000, .box 60 [.own 500004, .own 500005, .d iT, .d .bool, .d iT, .d liT]), (500004, .arr 65 GFilexT), (500005, .arr 78 GSectorT)], [iT, iT, .bool, iT, liT, (.sl GFilexT), (.sl GSectorT)]⟩ [1, 2, 3] [] (.seq (.seq .no (.cond .no .no)) (.seq (.one (.seq .no (.cond .no .no))) .no))))))))
theorem run [Fuel] : RunIs env Try.f54 an con := fun x => by kernel_rfl
theorem ok [Fuel] : ConOK Try.prog con := run_ok (E := env) run mixed Try.func54 (by kernel_rfl) (cons_cons ladingref02_Disk_get.ok (cons_cons ladingref02_Put.ok (cons_cons ladingref02_Disk_set.ok (cons_cons ladingref02_Disk_pending.ok (cons_nil)))))
end ladingref02_Disk_add
namespace ladingref02_Disk_survive
noncomputable def con [Fuel] : Con := ⟨52, [.c (.v (.loc 1000000 0)), .c (.a GSectorT)], [], [(1000000, .box 60 [.own 1000001, .own 1000002, .d iT, .d .bool, .d iT, .d liT]), (1000001, .arr 65 GFilexT), (1000002, .arr 78 GSectorT)], [GSectorT, iT, .bool, iT, liT, (.sl GFilexT), (.sl GSectorT)], .tup [], [(1000000, .box 60 [.own 0, .own 1000002, .d iT, .d .bool, .d iT, .d liT]), (0, .arr 65 GFilexT), (1000001, .arr 65 GFilexT), (1000002, .arr 78 GSectorT)], [iT, .bool, iT, liT, (.sl GFilexT), (.sl GFilexT), (.sl GSectorT)], fun x => ladingref02_Disk_survive x.1 x.2.1 x.2.2.1 x.2.2.2.1 x.2.2.2.2.1 x.2.2.2.2.2.1 x.2.2.2.2.2.2⟩
noncomputable def env [Fuel] : Env := ⟨Try.prog, [], [ladingref02_Disk_get.con, ladingref02_Put.con, ladingref02_Disk_set.con], [(8, 0), (35, 1), (39, 2)], [4], [8, 39], [], [], [32, 34], [17, 19, 22, 24, 27, 31, 19000078, 24000078, 27000078, 37000065], [], []⟩
noncomputable def an : An := .seq .no (.seq .no (.join ⟨[(4, .c (.v (.loc 500001 0)))], [(500001, .box 65 [.d iT, .d .str, .d .str])], [iT, .str, .str]⟩ [0] [1000000, 1000001, 1000002] true (.seq .no (.cond .no .no)) .no))
theorem run [Fuel] : RunIs env Try.f52 an con := fun x => by kernel_rfl
theorem ok [Fuel] : ConOK Try.prog con := run_ok (E := env) run mixed Try.func52 (by kernel_rfl) (cons_cons ladingref02_Disk_get.ok (cons_cons ladingref02_Put.ok (cons_cons ladingref02_Disk_set.ok (cons_nil))))
end ladingref02_Disk_survive
namespace ladingref02_Disk_Crash
noncomputable def con [Fuel] : Con := ⟨36, [.c (.v (.loc 1000000 0)), (aD liT)], [], [(1000000, .box 60 [.own 1000001, .own 1000002, .d iT, .d .bool, .d iT, .d liT]), (1000001, .arr 65 GFilexT), (1000002, .arr 78 GSectorT)], [liT, iT, .bool, iT, liT, (.sl GFilexT), (.sl GSectorT)], .tup [], [(1000000, .box 60 [.own 0, .own 1, .d iT, .d .bool, .d iT, .d liT]), (0, .arr 65 GFilexT), (1, .arr 78 GSectorT), (1000001, .gone), (1000002, .gone)], [iT, .bool, iT, liT, (.sl GFilexT), (.sl GSectorT)], fun x => ladingref02_Disk_Crash x.1 x.2.1 x.2.2.1 x.2.2.2.1 x.2.2.2.2.1 x.2.2.2.2.2.1 x.2.2.2.2.2.2⟩
noncomputable def env [Fuel] : Env := ⟨Try.prog, [(57, GFilexT)], [ladingref02_Disk_survive.con], [(48, 0)], [8, 1000000], [48], [], [84], [], [62, 70, 78], [], []⟩
noncomputable def an : An := .seq (.seq .no (.cond .no .no)) (.seq .no (.seq .no (.join ⟨[(0, .c (.v (.loc 1000000 0)))], [(1000000, .box 60 [.own 500003, .own 1000002, .d iT, .d .bool, .d iT, .d liT]), (500003, .arr 65 GFilexT), (1000002, .arr 78 GSectorT)], [iT, .bool, iT, liT, (.sl GFilexT), (.sl GSectorT)]⟩ [] [] true (.seq .no (.one (.loop ⟨[(0, .c (.v (.loc 1000000 0))), (4, (aD iT))], [(1000000, .box 60 [.own 500005, .own 1000002, .d iT, .d .bool, .d iT, .d liT]), (500005, .arr 65 GFilexT), (1000002, .arr 78 GSectorT)], [iT, iT, .bool, iT, liT, (.sl GFilexT), (.sl GSectorT)]⟩ [1] [] (.seq (.join ⟨[(28, .c (.v (.d .bool)))], [], [.bool]⟩ [0, 1, 4] [500005, 1000000, 1000002] true .no (.cond .no .no)) (.seq (.one (.seq .no (.cond .no .no))) .no))))) (.seq .no (.seq (.seq .no (.one (.loop ⟨[(5, .c (.v (.own 500007))), (6, (aD iT))], [(500007, .arr 65 GFilexT)], [iT, (.sl GFilexT)]⟩ [0] [500003, 1000000, 1000002] (.seq (.seq .no (.cond .no .no)) (.seq (.one .no) .no))))) (.seq .no .no))))))
theorem run [Fuel] : RunIs env Try.f36 an con := fun x => by kernel_rfl
theorem ok [Fuel] : ConOK Try.prog con := run_ok (E := env) run mixed Try.func36 (by kernel_rfl) (cons_cons ladingref02_Disk_survive.ok (cons_nil))
end ladingref02_Disk_Crash
namespace ladingref02_Disk_comes
noncomputable def con [Fuel] : Con := ⟨50, [.c (.v (.loc 1000000 0)), (aD iT), (aD iT), .c (.v (.d .str))], [], [(1000000, .box 60 [.own 1000001, .own 1000002, .d iT, .d .bool, .d iT, .d liT]), (1000001, .arr 65 GFilexT), (1000002, .arr 78 GSectorT)], [iT, iT, .str, iT, .bool, iT, liT, (.sl GFilexT), (.sl GSectorT)], .tup [], [(1000000, .box 60 [.own 0, .own 1, .d iT, .d .bool, .d iT, .d liT]), (0, .arr 65 GFilexT), (1, .arr 78 GSectorT), (1000001, .gone), (1000002, .gone)], [iT, .bool, iT, liT, (.sl GFilexT), (.sl GSectorT)], fun x => ladingref02_Disk_comes x.1 x.2.1 x.2.2.1 x.2.2.2.1 x.2.2.2.2.1 x.2.2.2.2.2.1 x.2.2.2.2.2.2.1 x.2.2.2.2.2.2.2.1 x.2.2.2.2.2.2.2.2⟩
noncomputable def env [Fuel] : Env := ⟨Try.prog, [], [ladingref02_fits.con, ladingref02_Disk_add.con, ladingref02_Disk_Crash.con], [(40, 0), (46, 1), (52, 2)], [5, 1000000], [46, 52], [], [], [], [], [], []⟩
noncomputable def an : An := .seq (.join ⟨[(18, .c (.v (.d .bool)))], [], [.bool]⟩ [0, 1, 2, 3] [1000000, 1000001, 1000002] true .no (.cond .no .no)) (.seq .no (.seq (.seq .no (.cond .no .no)) (.join ⟨[(0, .c (.v (.loc 1000000 0)))], [(1000000, .box 60 [.own 500001, .own 500002, .d iT, .d .bool, .d iT, .d liT]), (500001, .arr 65 GFilexT), (500002, .arr 78 GSectorT)], [iT, .bool, iT, liT, (.sl GFilexT), (.sl GSectorT)]⟩ [] [] true (.join ⟨[(41, .c (.v (.d .bool)))], [], [.bool]⟩ [0, 1, 2, 3] [1000000, 1000001, 1000002] true .no (.cond .no .no)) .no)))
theorem run [Fuel] : RunIs env Try.f50 an con := fun x => by kernel_rfl
theorem ok [Fuel] : ConOK Try.prog con := run_ok (E := env) run mixed Try.func50 (by kernel_rfl) (cons_cons ladingref02_fits.ok (cons_cons ladingref02_Disk_add.ok (cons_cons ladingref02_Disk_Crash.ok (cons_nil))))
end ladingref02_Disk_comes
namespace ladingref02_Disk_may
noncomputable def con [Fuel] : Con := ⟨46, [.c (.v (.loc 1000000 0)), (aD iT)], [(1000000, .box 60 [.own 1000001, .own 1000002, .d iT, .d .bool, .d iT, .d liT]), (1000001, .arr 65 GFilexT), (1000002, .arr 78 GSectorT)], [], [iT, iT, .bool, iT, liT, (.sl GFilexT), (.sl GSectorT)], .one (.v (.d iT)), [], [iT], fun x => ladingref02_Disk_may x.1 x.2.1 x.2.2.1 x.2.2.2.1 x.2.2.2.2.1 x.2.2.2.2.2.1 x.2.2.2.2.2.2⟩
noncomputable def env [Fuel] : Env := ⟨Try.prog, [], [], [], [1000000], [], [], [], [], [], [], []⟩
noncomputable def an : An := .seq .no (.seq (.seq .no (.cond (.seq .no .no) .no)) (.seq (.join ⟨[(14, .c (.v (.d .bool)))], [], [.bool]⟩ [] [] true .no (.cond (.seq .no .no) .no)) (.seq .no .no)))
theorem run [Fuel] : RunIs env Try.f46 an con := fun x => by kernel_rfl
theorem ok [Fuel] : ConOK Try.prog con := run_ok (E := env) run mixed Try.func46 (by kernel_rfl) (cons_nil)
end ladingref02_Disk_may
namespace ladingref02_Disk_settle
noncomputable def con [Fuel] : Con := ⟨51, [.c (.v (.loc 1000000 0)), (aD iT), .c (.v (.d .str))], [], [(1000000, .box 60 [.own 1000001, .own 1000002, .d iT, .d .bool, .d iT, .d liT]), (1000001, .arr 65 GFilexT), (1000002, .arr 78 GSectorT)], [iT, .str, iT, .bool, iT, liT, (.sl GFilexT), (.sl GSectorT)], .tup [], [(1000000, .box 60 [.own 0, .own 1, .d iT, .d .bool, .d iT, .d liT]), (0, .arr 65 GFilexT), (1, .arr 78 GSectorT), (1000001, .gone), (1000002, .arr 78 GSectorT)], [iT, .bool, iT, liT, (.sl GFilexT), (.sl GSectorT), (.sl GSectorT)], fun x => ladingref02_Disk_settle x.1 x.2.1 x.2.2.1 x.2.2.2.1 x.2.2.2.2.1 x.2.2.2.2.2.1 x.2.2.2.2.2.2.1 x.2.2.2.2.2.2.2⟩
noncomputable def env [Fuel] : Env := ⟨Try.prog, [(58, GSectorT)], [ladingref02_Disk_set.con], [(13, 0)], [], [13], [], [41], [], [], [], []⟩
noncomputable def an : An := .seq .no (.seq .no (.seq (.seq .no (.one (.loop ⟨[(6, .c (.v (.own 500002))), (7, (aD iT))], [(500002, .arr 78 GSectorT)], [iT, (.sl GSectorT)]⟩ [0, 1] [13, 1000000, 1000002] (.seq (.seq .no (.cond .no .no)) (.seq (.one (.seq .no (.cond .no .no))) .no))))) .no))
theorem run [Fuel] : RunIs env Try.f51 an con := fun x => by kernel_rfl
theorem ok [Fuel] : ConOK Try.prog con := run_ok (E := env) run mixed Try.func51 (by kernel_rfl) (cons_cons ladingref02_Disk_set.ok (cons_nil))
end ladingref02_Disk_settle
namespace ladingref02_Disk_Sync
noncomputable def con [Fuel] : Con := ⟨32, [.c (.v (.loc 1000000 0)), (aD iT)], [], [(1000000, .box 60 [.own 1000001, .own 1000002, .d iT, .d .bool, .d iT, .d liT]), (1000001, .arr 65 GFilexT), (1000002, .arr 78 GSectorT)], [iT, iT, .bool, iT, liT, (.sl GFilexT), (.sl GSectorT)], .one (.v (.d iT)), [(1000000, .box 60 [.own 0, .own 1, .d iT, .d .bool, .d iT, .d liT]), (0, .arr 65 GFilexT), (1, .arr 78 GSectorT), (1000001, .gone), (1000002, .gone)], [iT, iT, .bool, iT, liT, (.sl GFilexT), (.sl GSectorT)], fun x => ladingref02_Disk_Sync x.1 x.2.1 x.2.2.1 x.2.2.2.1 x.2.2.2.2.1 x.2.2.2.2.2.1 x.2.2.2.2.2.2⟩
noncomputable def env [Fuel] : Env := ⟨Try.prog, [], [ladingref02_Disk_comes.con, ladingref02_Disk_may.con, ladingref02_Disk_get.con, ladingref02_Disk_settle.con], [(7, 0), (10, 1), (30, 2), (32, 3)], [], [7, 10, 30, 32], [], [], [], [], [], []⟩
noncomputable def an : An := .seq .no (.seq .no (.seq .no (.seq (.seq .no (.cond (.seq .no .no) .no)) (.seq (.seq .no (.cond (.seq .no (.seq .no .no)) .no)) (.seq .no (.seq .no .no))))))
theorem run [Fuel] : RunIs env Try.f32 an con := fun x => by kernel_rfl
theorem ok [Fuel] : ConOK Try.prog con := run_ok (E := env) run mixed Try.func32 (by kernel_rfl) (cons_cons ladingref02_Disk_comes.ok (cons_cons ladingref02_Disk_may.ok (cons_cons ladingref02_Disk_get.ok (cons_cons ladingref02_Disk_settle.ok (cons_nil)))))
end ladingref02_Disk_Sync
namespace ladingref02_Disk_Truncate
noncomputable def con [Fuel] : Con := ⟨33, [.c (.v (.loc 1000000 0)), (aD iT), (aD iT)], [], [(1000000, .box 60 [.own 1000001, .own 1000002, .d iT, .d .bool, .d iT, .d liT]), (1000001, .arr 65 GFilexT), (1000002, .arr 78 GSectorT)], [iT, iT, iT, .bool, iT, liT, (.sl GFilexT), (.sl GSectorT)], .one (.v (.d iT)), [(1000000, .box 60 [.own 0, .own 1, .d iT, .d .bool, .d iT, .d liT]), (0, .arr 65 GFilexT), (1, .arr 78 GSectorT), (1000001, .gone), (1000002, .gone)], [iT, iT, .bool, iT, liT, (.sl GFilexT), (.sl GSectorT)], fun x => ladingref02_Disk_Truncate x.1 x.2.1 x.2.2.1 x.2.2.2.1 x.2.2.2.2.1 x.2.2.2.2.2.1 x.2.2.2.2.2.2.1 x.2.2.2.2.2.2.2⟩
noncomputable def env [Fuel] : Env := ⟨Try.prog, [], [ladingref02_Disk_comes.con, ladingref02_Disk_may.con, ladingref02_Disk_get.con, ladingref02_Disk_settle.con], [(10, 0), (13, 1), (19, 2), (34, 3)], [1000000], [10, 13, 19, 34], [], [], [], [], [], []⟩
noncomputable def an : An := .seq .no (.seq .no (.seq .no (.seq (.seq .no (.cond (.seq .no .no) .no)) (.seq .no (.seq (.join ⟨[(28, .c (.v (.d .bool)))], [], [.bool]⟩ [0, 1, 2, 8] [10, 10010, 1000000] true .no (.cond (.seq .no .no) .no)) (.seq .no (.seq .no .no)))))))
theorem run [Fuel] : RunIs env Try.f33 an con := fun x => by kernel_rfl
theorem ok [Fuel] : ConOK Try.prog con := run_ok (E := env) run mixed Try.func33 (by kernel_rfl) (cons_cons ladingref02_Disk_comes.ok (cons_cons ladingref02_Disk_may.ok (cons_cons ladingref02_Disk_get.ok (cons_cons ladingref02_Disk_settle.ok (cons_nil)))))
end ladingref02_Disk_Truncate
namespace ladingref02_Disk_Lose
noncomputable def con [Fuel] : Con := ⟨34, [.c (.v (.loc 1000000 0)), (aD iT)], [], [(1000000, .box 60 [.own 1000001, .own 1000002, .d iT, .d .bool, .d iT, .d liT]), (1000001, .arr 65 GFilexT), (1000002, .arr 78 GSectorT)], [iT, iT, .bool, iT, liT, (.sl GFilexT), (.sl GSectorT)], .tup [], [(1000000, .box 60 [.own 1000001, .own 1000002, .d iT, .d .bool, .d iT, .d liT]), (1000001, .arr 65 GFilexT), (1000002, .arr 78 GSectorT)], [iT, .bool, iT, liT, (.sl GFilexT), (.sl GSectorT)], fun x => ladingref02_Disk_Lose x.1 x.2.1 x.2.2.1 x.2.2.2.1 x.2.2.2.2.1 x.2.2.2.2.2.1 x.2.2.2.2.2.2⟩
noncomputable def env [Fuel] : Env := ⟨Try.prog, [], [], [], [], [], [], [], [], [], [], []⟩
noncomputable def an : An := .no
theorem run [Fuel] : RunIs env Try.f34 an con := fun x => by kernel_rfl
theorem ok [Fuel] : ConOK Try.prog con := run_ok (E := env) run mixed Try.func34 (by kernel_rfl) (cons_nil)
end ladingref02_Disk_Lose
namespace ladingref02_Disk_Arm
noncomputable def con [Fuel] : Con := ⟨35, [.c (.v (.loc 1000000 0)), (aD iT), (aD liT)], [], [(1000000, .box 60 [.own 1000001, .own 1000002, .d iT, .d .bool, .d iT, .d liT]), (1000001, .arr 65 GFilexT), (1000002, .arr 78 GSectorT)], [iT, liT, iT, .bool, iT, liT, (.sl GFilexT), (.sl GSectorT)], .tup [], [(1000000, .box 60 [.own 1000001, .own 1000002, .d iT, .d .bool, .d iT, .d liT]), (1000001, .arr 65 GFilexT), (1000002, .arr 78 GSectorT)], [iT, .bool, iT, liT, (.sl GFilexT), (.sl GSectorT)], fun x => ladingref02_Disk_Arm x.1 x.2.1 x.2.2.1 x.2.2.2.1 x.2.2.2.2.1 x.2.2.2.2.2.1 x.2.2.2.2.2.2.1 x.2.2.2.2.2.2.2⟩
noncomputable def env [Fuel] : Env := ⟨Try.prog, [(31, iT)], [], [], [], [], [], [], [], [], [], []⟩
noncomputable def an : An := .seq .no .no
theorem run [Fuel] : RunIs env Try.f35 an con := fun x => by kernel_rfl
theorem ok [Fuel] : ConOK Try.prog con := run_ok (E := env) run mixed Try.func35 (by kernel_rfl) (cons_nil)
end ladingref02_Disk_Arm
namespace ladingref02_Disk_Start
noncomputable def con [Fuel] : Con := ⟨37, [.c (.v (.loc 1000000 0))], [], [(1000000, .box 60 [.own 1000001, .own 1000002, .d iT, .d .bool, .d iT, .d liT]), (1000001, .arr 65 GFilexT), (1000002, .arr 78 GSectorT)], [iT, .bool, iT, liT, (.sl GFilexT), (.sl GSectorT)], .tup [], [(1000000, .box 60 [.own 1000001, .own 1000002, .d iT, .d .bool, .d iT, .d liT]), (1000001, .arr 65 GFilexT), (1000002, .arr 78 GSectorT)], [iT, .bool, iT, liT, (.sl GFilexT), (.sl GSectorT)], fun x => ladingref02_Disk_Start x.1 x.2.1 x.2.2.1 x.2.2.2.1 x.2.2.2.2.1 x.2.2.2.2.2⟩
noncomputable def env [Fuel] : Env := ⟨Try.prog, [], [], [], [], [], [], [], [], [], [], []⟩
noncomputable def an : An := .no
theorem run [Fuel] : RunIs env Try.f37 an con := fun x => by kernel_rfl
theorem ok [Fuel] : ConOK Try.prog con := run_ok (E := env) run mixed Try.func37 (by kernel_rfl) (cons_nil)
end ladingref02_Disk_Start
namespace ladingref02_Disk_Write
noncomputable def con [Fuel] : Con := ⟨38, [.c (.v (.loc 1000000 0)), (aD iT), (aD iT), .c (.v (.d .str))], [], [(1000000, .box 60 [.own 1000001, .own 1000002, .d iT, .d .bool, .d iT, .d liT]), (1000001, .arr 65 GFilexT), (1000002, .arr 78 GSectorT)], [iT, iT, .str, iT, .bool, iT, liT, (.sl GFilexT), (.sl GSectorT)], .one (.v (.d iT)), [(1000000, .box 60 [.own 0, .own 1, .d iT, .d .bool, .d iT, .d liT]), (0, .arr 65 GFilexT), (1, .arr 78 GSectorT), (1000001, .gone), (1000002, .gone)], [iT, iT, .bool, iT, liT, (.sl GFilexT), (.sl GSectorT)], fun x => ladingref02_Disk_Write x.1 x.2.1 x.2.2.1 x.2.2.2.1 x.2.2.2.2.1 x.2.2.2.2.2.1 x.2.2.2.2.2.2.1 x.2.2.2.2.2.2.2.1 x.2.2.2.2.2.2.2.2⟩
noncomputable def env [Fuel] : Env := ⟨Try.prog, [], [ladingref02_Disk_comes.con, ladingref02_Disk_may.con, ladingref02_fits.con, ladingref02_Disk_add.con], [(14, 0), (17, 1), (25, 2), (31, 3)], [], [14, 17, 31], [], [], [], [], [], []⟩
noncomputable def an : An := .seq .no (.seq .no (.seq .no (.seq (.seq .no (.cond (.seq .no .no) .no)) (.seq (.seq .no (.cond (.seq .no .no) .no)) (.seq (.seq .no (.cond (.seq .no .no) .no)) (.seq .no (.seq .no .no)))))))
theorem run [Fuel] : RunIs env Try.f38 an con := fun x => by kernel_rfl
theorem ok [Fuel] : ConOK Try.prog con := run_ok (E := env) run mixed Try.func38 (by kernel_rfl) (cons_cons ladingref02_Disk_comes.ok (cons_cons ladingref02_Disk_may.ok (cons_cons ladingref02_fits.ok (cons_cons ladingref02_Disk_add.ok (cons_nil)))))
end ladingref02_Disk_Write
namespace ladinglaw02_tell
noncomputable def con [Fuel] : Con := ⟨13, [.c (.v (.loc 1000000 0)), .c (.a GActT)], [], [(1000000, .box 60 [.own 1000001, .own 1000002, .d iT, .d .bool, .d iT, .d liT]), (1000001, .arr 65 GFilexT), (1000002, .arr 78 GSectorT)], [GActT, iT, .bool, iT, liT, (.sl GFilexT), (.sl GSectorT)], .one (.v (.d iT)), [(1000000, .box 60 [.own 0, .own 1, .d iT, .d .bool, .d iT, .d liT]), (0, .arr 65 GFilexT), (1, .arr 78 GSectorT), (1000001, .gone), (1000002, .gone)], [iT, iT, .bool, iT, liT, (.sl GFilexT), (.sl GSectorT)], fun x => ladinglaw02_tell x.1 x.2.1 x.2.2.1 x.2.2.2.1 x.2.2.2.2.1 x.2.2.2.2.2.1 x.2.2.2.2.2.2⟩
noncomputable def env [Fuel] : Env := ⟨Try.prog, [], [ladingref02_Disk_Sync.con, ladingref02_Disk_Truncate.con, ladingref02_Disk_Lose.con, ladingref02_Disk_Arm.con, ladingref02_Disk_Crash.con, ladingref02_Disk_Start.con, ladingref02_Disk_Write.con], [(21, 0), (29, 1), (36, 2), (44, 3), (50, 4), (54, 5), (15, 6)], [], [15, 21, 29, 36, 44, 50, 54], [], [], [], [], [], []⟩
noncomputable def an : An := .seq .no (.seq (.seq .no (.one (.seq .no (.cond (.seq .no .no) (.seq .no (.cond (.seq .no .no) (.seq .no (.cond .no (.seq .no (.cond .no (.seq .no (.cond .no (.seq .no (.cond .no (.seq .no .no))))))))))))))) (.seq .no .no))
theorem run [Fuel] : RunIs env Try.f13 an con := fun x => by kernel_rfl
theorem ok [Fuel] : ConOK Try.prog con := run_ok (E := env) run mixed Try.func13 (by kernel_rfl) (cons_cons ladingref02_Disk_Sync.ok (cons_cons ladingref02_Disk_Truncate.ok (cons_cons ladingref02_Disk_Lose.ok (cons_cons ladingref02_Disk_Arm.ok (cons_cons ladingref02_Disk_Crash.ok (cons_cons ladingref02_Disk_Start.ok (cons_cons ladingref02_Disk_Write.ok (cons_nil))))))))
end ladinglaw02_tell
namespace ladingref02_Disk_Down
noncomputable def con [Fuel] : Con := ⟨15, [.c (.v (.loc 1000000 0))], [(1000000, .box 60 [.own 1000001, .own 1000002, .d iT, .d .bool, .d iT, .d liT]), (1000001, .arr 65 GFilexT), (1000002, .arr 78 GSectorT)], [], [iT, .bool, iT, liT, (.sl GFilexT), (.sl GSectorT)], .one (.v (.d .bool)), [], [.bool], fun x => ladingref02_Disk_Down x.1 x.2.1 x.2.2.1 x.2.2.2.1 x.2.2.2.2.1 x.2.2.2.2.2⟩
noncomputable def env [Fuel] : Env := ⟨Try.prog, [], [], [], [], [], [], [], [], [], [], []⟩
noncomputable def an : An := .seq .no (.seq .no .no)
theorem run [Fuel] : RunIs env Try.f15 an con := fun x => by kernel_rfl
theorem ok [Fuel] : ConOK Try.prog con := run_ok (E := env) run mixed Try.func15 (by kernel_rfl) (cons_nil)
end ladingref02_Disk_Down
namespace ladingref02_Disk_Size
noncomputable def con [Fuel] : Con := ⟨17, [.c (.v (.loc 1000000 0)), (aD iT)], [(1000000, .box 60 [.own 1000001, .own 1000002, .d iT, .d .bool, .d iT, .d liT]), (1000001, .arr 65 GFilexT), (1000002, .arr 78 GSectorT)], [], [iT, iT, .bool, iT, liT, (.sl GFilexT), (.sl GSectorT)], .one (.v (.d iT)), [], [iT], fun x => ladingref02_Disk_Size x.1 x.2.1 x.2.2.1 x.2.2.2.1 x.2.2.2.2.1 x.2.2.2.2.2.1 x.2.2.2.2.2.2⟩
noncomputable def env [Fuel] : Env := ⟨Try.prog, [], [ladingref02_Disk_get.con], [(7, 0)], [], [7], [], [], [], [], [], []⟩
noncomputable def an : An := .seq .no (.seq .no .no)
theorem run [Fuel] : RunIs env Try.f17 an con := fun x => by kernel_rfl
theorem ok [Fuel] : ConOK Try.prog con := run_ok (E := env) run mixed Try.func17 (by kernel_rfl) (cons_cons ladingref02_Disk_get.ok (cons_nil))
end ladingref02_Disk_Size
namespace ladingref02_Disk_Read
noncomputable def con [Fuel] : Con := ⟨21, [.c (.v (.loc 1000000 0)), (aD iT), (aD iT), (aD iT)], [(1000000, .box 60 [.own 1000001, .own 1000002, .d iT, .d .bool, .d iT, .d liT]), (1000001, .arr 65 GFilexT), (1000002, .arr 78 GSectorT)], [], [iT, iT, iT, iT, .bool, iT, liT, (.sl GFilexT), (.sl GSectorT)], .tup [.v (.d .str), .v (.d iT)], [], [.str, iT], fun x => ladingref02_Disk_Read x.1 x.2.1 x.2.2.1 x.2.2.2.1 x.2.2.2.2.1 x.2.2.2.2.2.1 x.2.2.2.2.2.2.1 x.2.2.2.2.2.2.2.1 x.2.2.2.2.2.2.2.2⟩
noncomputable def env [Fuel] : Env := ⟨Try.prog, [], [ladingref02_Disk_may.con, ladingref02_Disk_get.con], [(14, 0), (26, 1)], [1000000], [14, 26], [], [], [], [], [], []⟩
noncomputable def an : An := .seq .no (.seq .no (.seq (.seq .no (.cond (.seq .no .no) .no)) (.seq (.join ⟨[(23, .c (.v (.d .bool)))], [], [.bool]⟩ [0, 1, 2, 3] [1000000, 1000001, 1000002] true .no (.cond (.seq .no .no) .no)) (.seq .no (.seq (.seq .no (.cond (.seq .no .no) .no)) (.seq .no .no))))))
theorem run [Fuel] : RunIs env Try.f21 an con := fun x => by kernel_rfl
theorem ok [Fuel] : ConOK Try.prog con := run_ok (E := env) run mixed Try.func21 (by kernel_rfl) (cons_cons ladingref02_Disk_may.ok (cons_cons ladingref02_Disk_get.ok (cons_nil)))
end ladingref02_Disk_Read
namespace ladinglaw02_DiskTells
noncomputable def con [Fuel] : Con := ⟨3, [.c (.v (.d (.sl GActT))), (aD iT), (aD iT), (aD iT)], [], [], [(.sl GActT), iT, iT, iT], .one (.v (.d .bool)), [], [.bool], fun x => ladinglaw02_DiskTells x.1 x.2.1 x.2.2.1 x.2.2.2⟩
noncomputable def env [Fuel] : Env := ⟨Try.prog, [], [ladinglaw02_small.con, ladinglaw02_few.con, disk_New.con, ladingref02_New.con, ladinglaw02_do.con, ladinglaw02_tell.con, disk_Disk_Down.con, ladingref02_Disk_Down.con, disk_Disk_Size.con, ladingref02_Disk_Size.con, disk_Disk_Copy.con, disk_Disk_Sync.con, disk_Disk_Read.con, ladingref02_Disk_Read.con], [(18, 0), (20, 1), (23, 2), (24, 3), (38, 4), (44, 5), (48, 6), (50, 7), (56, 8), (59, 9), (68, 10), (75, 4), (78, 11), (85, 12), (93, 13)], [20, 1000000], [38, 44, 48, 50, 56, 59, 68, 75, 78, 85, 93, 1000048, 1000050, 1000056, 1000059], [], [], [36, 37, 42, 43], [], [], []⟩
noncomputable def an : An := .seq .no (.seq .no (.seq (.seq .no (.cond (.seq .no .no) .no)) (.seq .no (.seq .no (.seq (.seq .no (.cond (.seq .no .no) .no)) (.join ⟨[(10, .c (.v (.loc 500025 0))), (11, .c (.v (.loc 500026 0)))], [(500025, .box 56 [.mp 500027, .own 500028, .mp 500029, .d iT, .d .bool, .d iT, .d liT]), (500026, .box 60 [.own 500030, .own 500031, .d iT, .d .bool, .d iT, .d liT]), (500027, .mapI .i64 true GFileT), (500028, .arr 70 GSectorT), (500029, .mapQ .i64 false .bool), (500030, .arr 65 GFilexT), (500031, .arr 78 GSectorT)], [iT, .bool, iT, liT, iT, .bool, iT, liT, (.sl GFilexT), (.sl GSectorT), (.sl (.pair GSectorT .bool)), (.sl GFilexT), (.sl GSectorT)]⟩ [1, 2, 3, 9] [] false (.seq .no (.one (.loop ⟨[(10, .c (.v (.loc 500042 0))), (11, .c (.v (.loc 500043 0))), (12, (aD iT))], [(500042, .box 56 [.mp 500044, .own 500045, .mp 500046, .d iT, .d .bool, .d iT, .d liT]), (500043, .box 60 [.own 500047, .own 500048, .d iT, .d .bool, .d iT, .d liT]), (500044, .mapI .i64 true GFileT), (500045, .arr 70 GSectorT), (500046, .mapQ .i64 false .bool), (500047, .arr 65 GFilexT), (500048, .arr 78 GSectorT)], [iT, iT, .bool, iT, liT, iT, .bool, iT, liT, (.sl GFilexT), (.sl GSectorT), (.sl (.pair GSectorT .bool)), (.sl GFilexT), (.sl GSectorT)]⟩ [0, 1, 2, 3, 9] [] (.seq (.seq .no (.cond .no .no)) (.seq (.one (.seq (.join ⟨[(10, .c (.v (.loc 500049 0))), (11, .c (.v (.loc 500050 0))), (61, .c (.v (.d .bool)))], [(500049, .box 56 [.mp 500051, .own 500052, .mp 500053, .d iT, .d .bool, .d iT, .d liT]), (500050, .box 60 [.own 500054, .own 500055, .d iT, .d .bool, .d iT, .d liT]), (500051, .mapI .i64 true GFileT), (500052, .arr 70 GSectorT), (500053, .mapQ .i64 false .bool), (500054, .arr 65 GFilexT), (500055, .arr 78 GSectorT)], [.bool, iT, .bool, iT, liT, iT, .bool, iT, liT, (.sl GFilexT), (.sl GSectorT), (.sl (.pair GSectorT .bool)), (.sl GFilexT), (.sl GSectorT)]⟩ [0, 1, 2, 3, 9, 12] [] true .no (.cond (.seq .no .no) .no)) (.seq .no (.cond (.seq .no (.seq (.seq .no (.cond (.seq .no .no) .no)) (.seq .no (.seq .no .no)))) .no)))) .no))))) (.seq .no (.seq .no (.seq .no .no)))))))))
theorem run [Fuel] : RunIs env Try.f3 an con := fun x => by kernel_rfl
theorem ok [Fuel] : ConOK Try.prog con := run_ok (E := env) run mixed Try.func3 (by kernel_rfl) (cons_cons ladinglaw02_small.ok (cons_cons ladinglaw02_few.ok (cons_cons disk_New.ok (cons_cons ladingref02_New.ok (cons_cons ladinglaw02_do.ok (cons_cons ladinglaw02_tell.ok (cons_cons disk_Disk_Down.ok (cons_cons ladingref02_Disk_Down.ok (cons_cons disk_Disk_Size.ok (cons_cons ladingref02_Disk_Size.ok (cons_cons disk_Disk_Copy.ok (cons_cons disk_Disk_Sync.ok (cons_cons disk_Disk_Read.ok (cons_cons ladingref02_Disk_Read.ok (cons_nil)))))))))))))))
end ladinglaw02_DiskTells
end Go.Proofs.Ytanpfcdbfdkclaa
