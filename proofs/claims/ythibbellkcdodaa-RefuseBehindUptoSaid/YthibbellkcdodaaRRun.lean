/-
  The code is they.
-/
import Derived.Test.YthibbellkcdodaaRModel
import Derived.Test.YthibbellkcdodaaD12
import Derived.Test.YthibbellkcdodaaSh
namespace Go.Proofs.Ythibbellkcdodaa
open Go.Lad
set_option linter.unusedVariables false
set_option maxRecDepth 100000
theorem mixed : Try.prog.follows .mixedOrders = true := by kernel_rfl
noncomputable abbrev iT : Ty := .int .i64
noncomputable abbrev liT : Ty := .sl iT
noncomputable abbrev lliT : Ty := .sl liT
noncomputable abbrev lbT : Ty := .sl .bool
noncomputable abbrev aD (t : Ty) : SSh := .c (.v (.d t))
noncomputable def GWhyT : Ty := (.pair iT (.pair iT iT))
noncomputable def GClauseT : Ty := (.pair liT GWhyT)
noncomputable def GRefusalT : Ty := (.pair liT (.pair lliT (.sl lbT)))
namespace ladinglaw30_of
noncomputable def con [Fuel] : Con := ⟨23, [(aD iT), (aD liT)], [], [], [iT, liT], .one (.a GClauseT), [], [GClauseT], fun x => ladinglaw30_of x.1 x.2⟩
noncomputable def env [Fuel] : Env := ⟨Try.prog, [], [], [], [], [], [], [], [], []⟩
noncomputable def an : An := .seq .no (.seq .no .no)
theorem run [Fuel] : RunIs env Try.f23 an con := fun x => by kernel_rfl
theorem ok [Fuel] : ConOK Try.prog con := run_ok (E := env) run mixed Try.func23 (by kernel_rfl) (cons_nil)
end ladinglaw30_of
namespace clause_Right_1_1
noncomputable def con [Fuel] : Con := ⟨40, [(aD iT), .c (.v (.loc 1000000 0))], [(1000000, .box 3 [.d iT])], [], [iT, iT], .one (.v (.d .bool)), [], [.bool], fun x => clause_Right_1_1 x.1 x.2⟩
noncomputable def env [Fuel] : Env := ⟨Try.prog, [], [], [], [], [], [], [], [], []⟩
noncomputable def an : An := .seq .no (.seq .no .no)
theorem run [Fuel] : RunIs env Try.f40 an con := fun x => by kernel_rfl
theorem ok [Fuel] : ConOK Try.prog con := run_ok (E := env) run mixed Try.func40 (by kernel_rfl) (cons_nil)
end clause_Right_1_1
namespace slices_IndexFunc_int_int
noncomputable def con [Fuel] : Con := ⟨64, [(aD liT), .c (.v (.fn 80 [1000000]))], [(1000000, .box 3 [.d iT])], [], [liT, iT], .one (.v (.d iT)), [], [iT], fun x => slices_IndexFunc_int_int x.1 x.2⟩
noncomputable def env [Fuel] : Env := ⟨Try.prog, [], [clause_Right_1_1.con], [(16, 0)], [], [16], [], [], [], []⟩
noncomputable def an : An := .seq .no (.seq (.seq .no (.one (.loop ⟨[(8, (aD iT))], [], [iT]⟩ [0, 1, 7] [1000000] (.seq .no (.seq (.cond .no .no) (.seq (.one (.seq .no (.seq .no (.cond (.seq .no .no) .no)))) .no)))))) (.seq .no .no))
theorem run [Fuel] : RunIs env Try.f64 an con := fun x => by kernel_rfl
theorem ok [Fuel] : ConOK Try.prog con := run_ok (E := env) run mixed Try.func64 (by kernel_rfl) (cons_cons clause_Right_1_1.ok (cons_nil))
end slices_IndexFunc_int_int
namespace slices_ContainsFunc_int_int
noncomputable def con [Fuel] : Con := ⟨39, [(aD liT), .c (.v (.fn 80 [1000000]))], [(1000000, .box 3 [.d iT])], [], [liT, iT], .one (.v (.d .bool)), [], [.bool], fun x => slices_ContainsFunc_int_int x.1 x.2⟩
noncomputable def env [Fuel] : Env := ⟨Try.prog, [], [slices_IndexFunc_int_int.con], [(7, 0)], [], [7], [], [], [], []⟩
noncomputable def an : An := .seq .no (.seq .no .no)
theorem run [Fuel] : RunIs env Try.f39 an con := fun x => by kernel_rfl
theorem ok [Fuel] : ConOK Try.prog con := run_ok (E := env) run mixed Try.func39 (by kernel_rfl) (cons_cons slices_IndexFunc_int_int.ok (cons_nil))
end slices_ContainsFunc_int_int
namespace clause_Right_1
noncomputable def con [Fuel] : Con := ⟨38, [.c (.a GClauseT), .c (.v (.loc 1000000 0))], [(1000000, .box 3 [.d iT])], [], [GClauseT, iT], .one (.v (.d .bool)), [], [.bool], fun x => clause_Right_1 x.1 x.2⟩
noncomputable def env [Fuel] : Env := ⟨Try.prog, [], [slices_ContainsFunc_int_int.con], [(7, 0)], [], [7], [], [], [], []⟩
noncomputable def an : An := .seq .no (.seq .no .no)
theorem run [Fuel] : RunIs env Try.f38 an con := fun x => by kernel_rfl
theorem ok [Fuel] : ConOK Try.prog con := run_ok (E := env) run mixed Try.func38 (by kernel_rfl) (cons_cons slices_ContainsFunc_int_int.ok (cons_nil))
end clause_Right_1
namespace slices_IndexFunc_api_Clause_api_Clause
noncomputable def con [Fuel] : Con := ⟨63, [.c (.v (.d (.sl GClauseT))), .c (.v (.fn 76 [1000000]))], [(1000000, .box 3 [.d iT])], [], [(.sl GClauseT), iT], .one (.v (.d iT)), [], [iT], fun x => slices_IndexFunc_api_Clause_api_Clause x.1 x.2⟩
noncomputable def env [Fuel] : Env := ⟨Try.prog, [], [clause_Right_1.con], [(16, 0)], [], [16], [], [], [], []⟩
noncomputable def an : An := .seq .no (.seq (.seq .no (.one (.loop ⟨[(8, (aD iT))], [], [iT]⟩ [0, 1, 7] [1000000] (.seq .no (.seq (.cond .no .no) (.seq (.one (.seq .no (.seq .no (.cond (.seq .no .no) .no)))) .no)))))) (.seq .no .no))
theorem run [Fuel] : RunIs env Try.f63 an con := fun x => by kernel_rfl
theorem ok [Fuel] : ConOK Try.prog con := run_ok (E := env) run mixed Try.func63 (by kernel_rfl) (cons_cons clause_Right_1.ok (cons_nil))
end slices_IndexFunc_api_Clause_api_Clause
namespace slices_ContainsFunc_api_Clause_api_Clause
noncomputable def con [Fuel] : Con := ⟨37, [.c (.v (.d (.sl GClauseT))), .c (.v (.fn 76 [1000000]))], [(1000000, .box 3 [.d iT])], [], [(.sl GClauseT), iT], .one (.v (.d .bool)), [], [.bool], fun x => slices_ContainsFunc_api_Clause_api_Clause x.1 x.2⟩
noncomputable def env [Fuel] : Env := ⟨Try.prog, [], [slices_IndexFunc_api_Clause_api_Clause.con], [(7, 0)], [], [7], [], [], [], []⟩
noncomputable def an : An := .seq .no (.seq .no .no)
theorem run [Fuel] : RunIs env Try.f37 an con := fun x => by kernel_rfl
theorem ok [Fuel] : ConOK Try.prog con := run_ok (E := env) run mixed Try.func37 (by kernel_rfl) (cons_cons slices_IndexFunc_api_Clause_api_Clause.ok (cons_nil))
end slices_ContainsFunc_api_Clause_api_Clause
namespace clause_Right
noncomputable def con [Fuel] : Con := ⟨20, [.c (.v (.d (.sl GClauseT))), (aD iT)], [], [], [(.sl GClauseT), iT], .one (.v (.d .bool)), [], [.bool], fun x => clause_Right x.1 x.2⟩
noncomputable def env [Fuel] : Env := ⟨Try.prog, [], [slices_ContainsFunc_api_Clause_api_Clause.con], [(18, 0)], [1000000], [18], [], [], [], []⟩
noncomputable def an : An := .seq .no (.seq (.join ⟨[(15, .c (.v (.d .bool)))], [], [.bool]⟩ [0, 3] [3] true .no (.cond (.seq .no .no) .no)) (.seq .no .no))
theorem run [Fuel] : RunIs env Try.f20 an con := fun x => by kernel_rfl
theorem ok [Fuel] : ConOK Try.prog con := run_ok (E := env) run mixed Try.func20 (by kernel_rfl) (cons_cons slices_ContainsFunc_api_Clause_api_Clause.ok (cons_nil))
end clause_Right
namespace solve_Solve_1
noncomputable def con [Fuel] : Con := ⟨42, [(aD iT), .c (.v (.loc 1000000 0))], [(1000000, .box 3 [.d iT])], [], [iT, iT], .one (.v (.d .bool)), [], [.bool], fun x => solve_Solve_1 x.1 x.2⟩
noncomputable def env [Fuel] : Env := ⟨Try.prog, [], [], [], [], [], [], [], [], []⟩
noncomputable def an : An := .seq .no (.seq .no .no)
theorem run [Fuel] : RunIs env Try.f42 an con := fun x => by kernel_rfl
theorem ok [Fuel] : ConOK Try.prog con := run_ok (E := env) run mixed Try.func42 (by kernel_rfl) (cons_nil)
end solve_Solve_1
namespace slices_IndexFunc_int_int_v2
noncomputable def con [Fuel] : Con := ⟨64, [(aD liT), .c (.v (.fn 84 [1000000]))], [(1000000, .box 3 [.d iT])], [], [liT, iT], .one (.v (.d iT)), [], [iT], fun x => slices_IndexFunc_int_int_v2 x.1 x.2⟩
noncomputable def env [Fuel] : Env := ⟨Try.prog, [], [solve_Solve_1.con], [(16, 0)], [], [16], [], [], [], []⟩
noncomputable def an : An := .seq .no (.seq (.seq .no (.one (.loop ⟨[(8, (aD iT))], [], [iT]⟩ [0, 1, 7] [1000000] (.seq .no (.seq (.cond .no .no) (.seq (.one (.seq .no (.seq .no (.cond (.seq .no .no) .no)))) .no)))))) (.seq .no .no))
theorem run [Fuel] : RunIs env Try.f64 an con := fun x => by kernel_rfl
theorem ok [Fuel] : ConOK Try.prog con := run_ok (E := env) run mixed Try.func64 (by kernel_rfl) (cons_cons solve_Solve_1.ok (cons_nil))
end slices_IndexFunc_int_int_v2
namespace slices_ContainsFunc_int_int_v2
noncomputable def con [Fuel] : Con := ⟨39, [(aD liT), .c (.v (.fn 84 [1000000]))], [(1000000, .box 3 [.d iT])], [], [liT, iT], .one (.v (.d .bool)), [], [.bool], fun x => slices_ContainsFunc_int_int_v2 x.1 x.2⟩
noncomputable def env [Fuel] : Env := ⟨Try.prog, [], [slices_IndexFunc_int_int_v2.con], [(7, 0)], [], [7], [], [], [], []⟩
noncomputable def an : An := .seq .no (.seq .no .no)
theorem run [Fuel] : RunIs env Try.f39 an con := fun x => by kernel_rfl
theorem ok [Fuel] : ConOK Try.prog con := run_ok (E := env) run mixed Try.func39 (by kernel_rfl) (cons_cons slices_IndexFunc_int_int_v2.ok (cons_nil))
end slices_ContainsFunc_int_int_v2
namespace slices_Clone_api_Clause_api_Clause
noncomputable def con [Fuel] : Con := ⟨43, [.c (.v (.d (.sl GClauseT)))], [], [], [(.sl GClauseT)], .one (.v (.own 0)), [(0, .arr 49 GClauseT)], [(.sl GClauseT)], fun x => slices_Clone_api_Clause_api_Clause x⟩
noncomputable def env [Fuel] : Env := ⟨Try.prog, [(22, GClauseT)], [], [], [], [], [], [], [], []⟩
noncomputable def an : An := .seq .no (.seq (.seq .no (.cond (.seq .no .no) .no)) (.seq .no .no))
theorem run [Fuel] : RunIs env Try.f43 an con := fun x => by kernel_rfl
theorem ok [Fuel] : ConOK Try.prog con := run_ok (E := env) run mixed Try.func43 (by kernel_rfl) (cons_nil)
end slices_Clone_api_Clause_api_Clause
namespace slices_Grow_int_int
noncomputable def con [Fuel] : Con := ⟨66, [.c (.v (.nil)), (aD iT)], [], [], [iT], .one (.v (.own 0)), [(0, .arr 3 iT)], [liT], fun x => slices_Grow_int_int x⟩
noncomputable def env [Fuel] : Env := ⟨Try.prog, [(23, iT)], [], [], [], [], [], [25], [], []⟩
noncomputable def an : An := .seq .no (.seq (.seq .no (.cond .no .no)) (.seq (.seq .no (.seq .no (.cond .no .no))) (.seq .no .no)))
theorem run [Fuel] : RunIs env Try.f66 an con := fun x => by kernel_rfl
theorem ok [Fuel] : ConOK Try.prog con := run_ok (E := env) run mixed Try.func66 (by kernel_rfl) (cons_nil)
end slices_Grow_int_int
namespace slices_Concat_int_int
noncomputable def con [Fuel] : Con := ⟨45, [(aD lliT)], [], [], [lliT], .one (.v (.own 0)), [(0, .arr 3 iT)], [liT], fun x => slices_Concat_int_int x⟩
noncomputable def env [Fuel] : Env := ⟨Try.prog, [], [slices_Grow_int_int.con], [(24, 0)], [9], [], [], [], [], []⟩
noncomputable def an : An := .seq .no (.seq .no (.join ⟨[(3, (aD iT))], [], [iT]⟩ [0] [] true (.seq .no (.one (.loop ⟨[(3, (aD iT)), (11, (aD iT))], [], [iT, iT]⟩ [0, 9, 10] [] (.seq .no (.seq (.cond .no .no) (.seq (.one (.seq .no (.seq .no (.seq .no (.cond .no .no))))) .no)))))) (.seq .no (.seq (.seq .no (.one (.loop ⟨[(6, .c (.v (.own 500001))), (27, (aD iT))], [(500001, .arr 3 iT)], [iT, liT]⟩ [25, 26] [] (.seq .no (.seq (.cond .no .no) (.seq (.one (.seq .no .no)) .no)))))) (.seq .no .no)))))
theorem run [Fuel] : RunIs env Try.f45 an con := fun x => by kernel_rfl
theorem ok [Fuel] : ConOK Try.prog con := run_ok (E := env) run mixed Try.func45 (by kernel_rfl) (cons_cons slices_Grow_int_int.ok (cons_nil))
end slices_Concat_int_int
namespace clause_lit
noncomputable def con [Fuel] : Con := ⟨54, [(aD iT)], [], [], [iT], .one (.v (.d .bool)), [], [.bool], fun x => clause_lit x⟩
noncomputable def env [Fuel] : Env := ⟨Try.prog, [], [], [], [], [], [], [], [], []⟩
noncomputable def an : An := .seq .no (.seq .no .no)
theorem run [Fuel] : RunIs env Try.f54 an con := fun x => by kernel_rfl
theorem ok [Fuel] : ConOK Try.prog con := run_ok (E := env) run mixed Try.func54 (by kernel_rfl) (cons_nil)
end clause_lit
namespace slices_Index_int_int
noncomputable def con [Fuel] : Con := ⟨92, [(aD liT), (aD iT)], [], [], [liT, iT], .one (.v (.d iT)), [], [iT], fun x => slices_Index_int_int x.1 x.2⟩
noncomputable def env [Fuel] : Env := ⟨Try.prog, [], [], [], [], [], [], [], [], []⟩
noncomputable def an : An := .seq .no (.seq (.seq .no (.one (.loop ⟨[(8, (aD iT))], [], [iT]⟩ [0, 1, 7] [] (.seq .no (.seq (.cond .no .no) (.seq (.one (.seq .no (.seq .no (.cond (.seq .no .no) .no)))) .no)))))) (.seq .no .no))
theorem run [Fuel] : RunIs env Try.f92 an con := fun x => by kernel_rfl
theorem ok [Fuel] : ConOK Try.prog con := run_ok (E := env) run mixed Try.func92 (by kernel_rfl) (cons_nil)
end slices_Index_int_int
namespace slices_Contains_int_int
noncomputable def con [Fuel] : Con := ⟨80, [(aD liT), (aD iT)], [], [], [liT, iT], .one (.v (.d .bool)), [], [.bool], fun x => slices_Contains_int_int x.1 x.2⟩
noncomputable def env [Fuel] : Env := ⟨Try.prog, [], [slices_Index_int_int.con], [(7, 0)], [], [], [], [], [], []⟩
noncomputable def an : An := .seq .no (.seq .no .no)
theorem run [Fuel] : RunIs env Try.f80 an con := fun x => by kernel_rfl
theorem ok [Fuel] : ConOK Try.prog con := run_ok (E := env) run mixed Try.func80 (by kernel_rfl) (cons_cons slices_Index_int_int.ok (cons_nil))
end slices_Contains_int_int
namespace clause_base_add_v2
noncomputable def con [Fuel] : Con := ⟨57, [.c (.v (.loc 1000000 0)), (aD liT)], [], [(1000000, .box 106 [.own 1000001, .mp 1000002]), (1000001, .arr 23 liT), (1000002, .mapL .i64 3 iT)], [liT, lliT, (.map .i64 iT)], .tup [], [(1000000, .box 106 [.own 0, .mp 1000002]), (0, .arr 23 liT), (1000001, .gone), (1000002, .mapL .i64 3 iT)], [lliT, (.map .i64 iT)], fun x => clause_base_add_v2 x.1 x.2.1 x.2.2⟩
noncomputable def env [Fuel] : Env := ⟨Try.prog, [(23, iT), (24, liT)], [clause_lit.con, slices_Contains_int_int.con], [(14, 0), (18, 1)], [1000000], [], [50], [23, 35, 41], [], [28, 33, 39, 40]⟩
noncomputable def an : An := .seq .no (.seq (.seq .no (.one (.loop ⟨[(0, .c (.v (.loc 1000000 0))), (4, .c (.v (.own 500002))), (9, (aD iT))], [(1000000, .box 106 [.own 1000001, .mp 1000002]), (500002, .arr 3 iT), (1000002, .mapL .i64 3 iT), (1000001, .arr 23 liT)], [iT, liT, (.map .i64 iT), lliT]⟩ [7, 8] [] (.seq .no (.seq (.cond .no .no) (.seq (.one (.seq .no (.join ⟨[(20, .c (.v (.d .bool)))], [], [.bool]⟩ [0, 4, 6, 7, 8, 9] [500002, 1000000, 1000001, 1000002] true .no (.cond (.seq .no .no) .no)))) .no)))))) .no)
theorem run [Fuel] : RunIs env Try.f57 an con := fun x => by kernel_rfl
theorem ok [Fuel] : ConOK Try.prog con := run_ok (E := env) run mixed Try.func57 (by kernel_rfl) (cons_cons clause_lit.ok (cons_cons slices_Contains_int_int.ok (cons_nil)))
end clause_base_add_v2
namespace clause_load
noncomputable def con [Fuel] : Con := ⟨55, [.c (.v (.d (.sl GClauseT)))], [], [], [(.sl GClauseT)], .one (.v (.loc 0 0)), [(0, .box 106 [.own 1, .mp 2]), (1, .arr 23 liT), (2, .mapL .i64 3 iT)], [lliT, (.map .i64 iT)], fun x => clause_load x⟩
noncomputable def env [Fuel] : Env := ⟨Try.prog, [(104, iT)], [clause_base_add_v2.con], [(18, 0)], [], [18], [], [6], [], []⟩
noncomputable def an : An := .seq .no (.seq .no (.seq (.seq .no (.one (.loop ⟨[(3, .c (.v (.loc 500006 0))), (11, (aD iT))], [(500006, .box 106 [.own 500007, .mp 500008]), (500007, .arr 23 liT), (500008, .mapL .i64 3 iT)], [iT, lliT, (.map .i64 iT)]⟩ [9, 10] [] (.seq .no (.seq (.cond .no .no) (.seq (.one (.seq .no .no)) .no)))))) (.seq .no .no)))
theorem run [Fuel] : RunIs env Try.f55 an con := fun x => by kernel_rfl
theorem ok [Fuel] : ConOK Try.prog con := run_ok (E := env) run mixed Try.func55 (by kernel_rfl) (cons_cons clause_base_add_v2.ok (cons_nil))
end clause_load
namespace slices_Clone_int_int
noncomputable def con [Fuel] : Con := ⟨49, [(aD liT)], [], [], [liT], .one (.v (.own 0)), [(0, .arr 3 iT)], [liT], fun x => slices_Clone_int_int x⟩
noncomputable def env [Fuel] : Env := ⟨Try.prog, [(23, iT)], [], [], [], [], [], [], [], []⟩
noncomputable def an : An := .seq .no (.seq (.seq .no (.cond (.seq .no .no) .no)) (.seq .no .no))
theorem run [Fuel] : RunIs env Try.f49 an con := fun x => by kernel_rfl
theorem ok [Fuel] : ConOK Try.prog con := run_ok (E := env) run mixed Try.func49 (by kernel_rfl) (cons_nil)
end slices_Clone_int_int
namespace clause_base_close_1
noncomputable def con [Fuel] : Con := ⟨82, [(aD iT)], [], [], [iT], .one (.v (.d .bool)), [], [.bool], fun x => clause_base_close_1 x⟩
noncomputable def env [Fuel] : Env := ⟨Try.prog, [], [clause_lit.con], [(4, 0)], [], [], [], [], [], []⟩
noncomputable def an : An := .seq .no (.seq .no .no)
theorem run [Fuel] : RunIs env Try.f82 an con := fun x => by kernel_rfl
theorem ok [Fuel] : ConOK Try.prog con := run_ok (E := env) run mixed Try.func82 (by kernel_rfl) (cons_cons clause_lit.ok (cons_nil))
end clause_base_close_1
namespace slices_IndexFunc_int_int_v3
noncomputable def con [Fuel] : Con := ⟨64, [(aD liT), .c (.v (.fn 164 []))], [], [], [liT], .one (.v (.d iT)), [], [iT], fun x => slices_IndexFunc_int_int_v3 x⟩
noncomputable def env [Fuel] : Env := ⟨Try.prog, [], [clause_base_close_1.con], [(16, 0)], [], [], [], [], [], []⟩
noncomputable def an : An := .seq .no (.seq (.seq .no (.one (.loop ⟨[(8, (aD iT))], [], [iT]⟩ [0, 1, 7] [] (.seq .no (.seq (.cond .no .no) (.seq (.one (.seq .no (.seq .no (.cond (.seq .no .no) .no)))) .no)))))) (.seq .no .no))
theorem run [Fuel] : RunIs env Try.f64 an con := fun x => by kernel_rfl
theorem ok [Fuel] : ConOK Try.prog con := run_ok (E := env) run mixed Try.func64 (by kernel_rfl) (cons_cons clause_base_close_1.ok (cons_nil))
end slices_IndexFunc_int_int_v3
namespace slices_DeleteFunc_int_int
noncomputable def con [Fuel] : Con := ⟨81, [.c (.v (.own 1000000)), .c (.v (.fn 164 []))], [], [(1000000, .arr 3 iT)], [liT], .one (.v (.own 0)), [(0, .arr 3 iT), (1000000, .gone)], [liT], fun x => slices_DeleteFunc_int_int x⟩
noncomputable def env [Fuel] : Env := ⟨Try.prog, [], [slices_IndexFunc_int_int_v3.con, clause_base_close_1.con], [(10, 0), (28, 1)], [], [], [], [41], [], []⟩
noncomputable def an : An := .seq .no (.seq .no (.seq (.seq .no (.cond (.seq .no .no) .no)) (.seq (.seq .no (.one (.loop ⟨[(0, .c (.v (.own 1000000))), (5, (aD iT)), (6, (aD iT))], [(1000000, .arr 3 iT)], [iT, iT, liT]⟩ [1] [] (.seq (.seq .no (.cond .no .no)) (.seq (.one (.seq .no (.seq .no (.cond (.seq .no .no) .no)))) .no))))) (.seq .no (.seq .no .no)))))
theorem run [Fuel] : RunIs env Try.f81 an con := fun x => by kernel_rfl
theorem ok [Fuel] : ConOK Try.prog con := run_ok (E := env) run mixed Try.func81 (by kernel_rfl) (cons_cons slices_IndexFunc_int_int_v3.ok (cons_cons clause_base_close_1.ok (cons_nil)))
end slices_DeleteFunc_int_int
namespace clause_look
noncomputable def con [Fuel] : Con := ⟨83, [.c (.v (.vp 1000000)), (aD liT)], [(1000000, .arr 108 .bool)], [], [liT, lbT], .tup [.v (.d iT), .v (.d .bool)], [], [iT, .bool], fun x => clause_look x.1 x.2⟩
noncomputable def env [Fuel] : Env := ⟨Try.prog, [], [], [], [], [], [], [], [], []⟩
noncomputable def an : An := .seq .no (.seq .no (.seq (.seq .no (.one (.loop ⟨[(6, (aD iT)), (11, (aD iT))], [], [iT, iT]⟩ [0, 9, 10] [1000000] (.seq .no (.seq (.cond .no .no) (.seq (.one (.seq .no (.seq (.seq .no (.cond .no .no)) (.seq (.seq .no (.cond (.seq .no .no) .no)) .no)))) .no)))))) (.seq .no .no)))
theorem run [Fuel] : RunIs env Try.f83 an con := fun x => by kernel_rfl
theorem ok [Fuel] : ConOK Try.prog con := run_ok (E := env) run mixed Try.func83 (by kernel_rfl) (cons_nil)
end clause_look
namespace clause_base_close
noncomputable def con [Fuel] : Con := ⟨65, [.c (.v (.ip (.pair lliT (.map .i64 iT)))), (aD liT)], [], [], [(.pair lliT (.map .i64 iT)), liT], .tup [.v (.vp 0), .v (.d .bool)], [(0, .arr 108 .bool)], [.bool, lbT], fun x => clause_base_close x.1 x.2⟩
noncomputable def env [Fuel] : Env := ⟨Try.prog, [(23, iT), (108, .bool)], [slices_Clone_int_int.con, slices_DeleteFunc_int_int.con, clause_look.con], [(16, 0), (17, 1), (105, 2)], [11, 1000000], [17, 105], [], [14, 55, 65, 117], [], []⟩
noncomputable def an : An := .seq .no (.seq .no (.seq .no (.join ⟨[(7, .c (.v (.own 500002)))], [(500002, .arr 3 iT)], [liT]⟩ [0, 6] [14] false (.seq .no (.one (.loop ⟨[(7, .c (.v (.own 500003))), (23, (aD iT))], [(500003, .arr 3 iT)], [iT, liT]⟩ [0, 6, 22] [14] (.seq .no (.seq (.cond .no .no) (.seq (.one (.seq .no (.seq (.seq .no (.cond (.seq .no .no) .no)) (.seq .no (.cond .no .no))))) .no)))))) (.seq (.one (.loop ⟨[(6, .c (.v (.vp 500006))), (7, .c (.v (.own 500007)))], [(500006, .arr 108 .bool), (500007, .arr 3 iT)], [lbT, liT]⟩ [0] [] (.seq (.seq .no (.cond .no .no)) (.one (.seq .no (.seq .no (.seq (.seq .no (.cond .no .no)) (.seq .no (.seq (.seq .no (.cond (.seq .no .no) .no)) (.seq .no (.one (.loop ⟨[(7, .c (.v (.own 500008))), (92, (aD iT))], [(500008, .arr 3 iT)], [iT, liT]⟩ [0, 6, 90, 91] [500006] (.seq .no (.seq (.cond .no .no) (.seq (.one (.seq .no (.seq .no (.seq (.join ⟨[(112, .c (.v (.d .bool)))], [], [.bool]⟩ [0, 6, 7, 12, 13, 90, 91, 92] [500006, 500008] true .no (.cond (.seq .no .no) .no)) (.seq .no (.cond .no .no)))))) .no))))))))))))))) (.seq .no .no)))))
theorem run [Fuel] : RunIs env Try.f65 an con := fun x => by kernel_rfl
theorem ok [Fuel] : ConOK Try.prog con := run_ok (E := env) run mixed Try.func65 (by kernel_rfl) (cons_cons slices_Clone_int_int.ok (cons_cons slices_DeleteFunc_int_int.ok (cons_cons clause_look.ok (cons_nil))))
end clause_base_close
namespace clause_Propagate
noncomputable def con [Fuel] : Con := ⟨44, [.c (.v (.d (.sl GClauseT))), (aD liT)], [], [], [(.sl GClauseT), liT], .tup [.v (.own 0), .v (.d .bool)], [(0, .arr 3 iT)], [.bool, liT], fun x => clause_Propagate x.1 x.2⟩
noncomputable def env [Fuel] : Env := ⟨Try.prog, [(23, iT)], [clause_load.con, clause_base_close.con], [(13, 0), (15, 1)], [], [15], [], [31], [], []⟩
noncomputable def an : An := .seq .no (.seq .no (.seq (.seq .no (.cond (.seq .no .no) .no)) (.seq .no (.seq (.seq .no (.one (.loop ⟨[(8, .c (.v (.own 500002))), (21, (aD iT))], [(500002, .arr 3 iT)], [iT, liT]⟩ [20] [15] (.seq .no (.seq (.cond .no .no) (.seq (.one (.seq .no (.seq .no (.cond .no .no)))) .no)))))) (.seq .no .no)))))
theorem run [Fuel] : RunIs env Try.f44 an con := fun x => by kernel_rfl
theorem ok [Fuel] : ConOK Try.prog con := run_ok (E := env) run mixed Try.func44 (by kernel_rfl) (cons_cons clause_load.ok (cons_cons clause_base_close.ok (cons_nil)))
end clause_Propagate
namespace cmp_isNaN_int
noncomputable def con [Fuel] : Con := ⟨84, [(aD iT)], [], [], [iT], .one (.v (.d .bool)), [], [.bool], fun x => cmp_isNaN_int x⟩
noncomputable def env [Fuel] : Env := ⟨Try.prog, [], [], [], [], [], [], [], [], []⟩
noncomputable def an : An := .seq .no (.seq .no .no)
theorem run [Fuel] : RunIs env Try.f84 an con := fun x => by kernel_rfl
theorem ok [Fuel] : ConOK Try.prog con := run_ok (E := env) run mixed Try.func84 (by kernel_rfl) (cons_nil)
end cmp_isNaN_int
namespace cmp_Less_int
noncomputable def con [Fuel] : Con := ⟨67, [(aD iT), (aD iT)], [], [], [iT, iT], .one (.v (.d .bool)), [], [.bool], fun x => cmp_Less_int x.1 x.2⟩
noncomputable def env [Fuel] : Env := ⟨Try.prog, [], [cmp_isNaN_int.con], [(6, 0), (9, 0)], [], [], [], [], [], []⟩
noncomputable def an : An := .seq .no (.seq .no .no)
theorem run [Fuel] : RunIs env Try.f67 an con := fun x => by kernel_rfl
theorem ok [Fuel] : ConOK Try.prog con := run_ok (E := env) run mixed Try.func67 (by kernel_rfl) (cons_cons cmp_isNaN_int.ok (cons_nil))
end cmp_Less_int
namespace slices_isNaN_int
noncomputable def con [Fuel] : Con := ⟨68, [(aD iT)], [], [], [iT], .one (.v (.d .bool)), [], [.bool], fun x => slices_isNaN_int x⟩
noncomputable def env [Fuel] : Env := ⟨Try.prog, [], [], [], [], [], [], [], [], []⟩
noncomputable def an : An := .seq .no (.seq .no .no)
theorem run [Fuel] : RunIs env Try.f68 an con := fun x => by kernel_rfl
theorem ok [Fuel] : ConOK Try.prog con := run_ok (E := env) run mixed Try.func68 (by kernel_rfl) (cons_nil)
end slices_isNaN_int
namespace slices_BinarySearch_int_int
noncomputable def con [Fuel] : Con := ⟨47, [(aD liT), (aD iT)], [], [], [liT, iT], .tup [.v (.d iT), .v (.d .bool)], [], [iT, .bool], fun x => slices_BinarySearch_int_int x.1 x.2⟩
noncomputable def env [Fuel] : Env := ⟨Try.prog, [], [cmp_Less_int.con, slices_isNaN_int.con], [(27, 0), (47, 1), (50, 1)], [8], [], [], [], [], []⟩
noncomputable def an : An := .seq .no (.seq .no (.seq .no (.join ⟨[(7, (aD iT))], [], [iT]⟩ [0, 1, 6] [] true (.one (.loop ⟨[(7, (aD iT)), (8, (aD iT))], [], [iT, iT]⟩ [0, 1, 6] [] (.seq (.seq .no (.cond .no .no)) (.one (.seq .no (.seq .no (.cond .no .no))))))) (.seq .no .no))))
theorem run [Fuel] : RunIs env Try.f47 an con := fun x => by kernel_rfl
theorem ok [Fuel] : ConOK Try.prog con := run_ok (E := env) run mixed Try.func47 (by kernel_rfl) (cons_cons cmp_Less_int.ok (cons_cons slices_isNaN_int.ok (cons_nil)))
end slices_BinarySearch_int_int
namespace solve_open
noncomputable def con [Fuel] : Con := ⟨46, [(aD liT), (aD iT)], [], [], [liT, iT], .one (.v (.d iT)), [], [iT], fun x => solve_open x.1 x.2⟩
noncomputable def env [Fuel] : Env := ⟨Try.prog, [], [slices_BinarySearch_int_int.con], [(18, 0), (26, 0)], [1000000], [], [], [], [], []⟩
noncomputable def an : An := .seq .no (.seq (.seq .no (.one (.loop ⟨[(11, (aD iT))], [], [iT]⟩ [0, 1, 10] [] (.seq .no (.seq (.cond .no .no) (.seq (.one (.seq .no (.seq .no (.seq .no (.join ⟨[(34, .c (.v (.d .bool)))], [], [.bool]⟩ [0, 1, 5, 10, 11] [] true .no (.cond (.seq .no .no) .no)))))) .no)))))) (.seq .no .no))
theorem run [Fuel] : RunIs env Try.f46 an con := fun x => by kernel_rfl
theorem ok [Fuel] : ConOK Try.prog con := run_ok (E := env) run mixed Try.func46 (by kernel_rfl) (cons_cons slices_BinarySearch_int_int.ok (cons_nil))
end solve_open
namespace solve_Solve
noncomputable def con [Fuel] : Con := ⟨24, [.c (.v (.d (.sl GClauseT))), (aD iT), (aD liT)], [], [], [(.sl GClauseT), iT, liT], .tup [.v (.d lbT), .v (.d lliT), .v (.d iT)], [], [lbT, lliT, iT], fun x => solve_Solve x.1 x.2.1 x.2.2⟩
noncomputable def env [Fuel] : Env := ⟨Try.prog, [(22, GClauseT), (23, iT), (24, liT), (53, .bool)], [clause_Right.con, slices_ContainsFunc_int_int_v2.con, slices_Clone_api_Clause_api_Clause.con, slices_Concat_int_int.con, clause_Propagate.con, solve_open.con, slices_BinarySearch_int_int.con], [(22, 0), (27, 1), (30, 2), (36, 3), (37, 4), (77, 5), (99, 6)], [16, 20, 1000000], [27, 36], [59], [54, 64, 74, 85], [], []⟩
noncomputable def an : An := .seq .no (.seq (.join ⟨[(28, .c (.v (.d .bool)))], [], [.bool]⟩ [0, 2, 4] [4] true .no (.cond (.seq .no .no) .no)) (.seq .no (.seq .no (.seq .no (.one (.loop ⟨[(9, .c (.v (.own 500024))), (10, .c (.v (.own 500025))), (11, .c (.v (.own 500026)))], [(500024, .arr 49 GClauseT), (500025, .arr 23 liT), (500026, .arr 3 iT)], [(.sl GClauseT), lliT, liT]⟩ [2, 4] [4] (.one (.seq .no (.join ⟨[(9, .c (.v (.own 500032))), (10, .c (.v (.own 500033))), (11, .c (.v (.own 500034)))], [(500032, .arr 49 GClauseT), (500033, .arr 23 liT), (500034, .arr 3 iT)], [(.sl GClauseT), lliT, liT]⟩ [2, 4, 12] [4, 37] false (.seq .no (.cond (.seq (.seq .no (.cond (.seq .no .no) .no)) (.seq .no (.join ⟨[(14, .c (.v (.own 500037)))], [(500037, .arr 3 iT)], [liT]⟩ [2, 4, 9, 10, 11] [4, 500024, 500025, 500026] true (.seq .no (.one (.loop ⟨[(14, .c (.v (.own 500039))), (47, (aD iT))], [(500039, .arr 3 iT)], [iT, liT]⟩ [2, 4, 9, 10, 11, 45, 46] [4, 500024, 500025, 500026] (.seq .no (.seq (.cond .no .no) (.seq (.one (.seq .no .no)) .no)))))) (.seq .no (.seq (.seq .no (.cond (.seq .no .no) .no)) (.seq .no .no)))))) .no)) (.seq .no (.seq (.seq .no (.cond (.seq .no .no) .no)) (.seq .no (.seq (.seq .no (.one (.loop ⟨[(18, .c (.v (.own 500040))), (90, (aD iT))], [(500040, .arr 4 .bool)], [iT, lbT]⟩ [12, 89] [37] (.seq .no (.seq (.cond .no .no) (.seq (.one (.seq .no .no)) .no)))))) (.seq .no .no))))))))))))))
theorem run [Fuel] : RunIs env Try.f24 an con := fun x => by kernel_rfl
theorem ok [Fuel] : ConOK Try.prog con := run_ok (E := env) run mixed Try.func24 (by kernel_rfl) (cons_cons clause_Right.ok (cons_cons slices_ContainsFunc_int_int_v2.ok (cons_cons slices_Clone_api_Clause_api_Clause.ok (cons_cons slices_Concat_int_int.ok (cons_cons clause_Propagate.ok (cons_cons solve_open.ok (cons_cons slices_BinarySearch_int_int.ok (cons_nil))))))))
end solve_Solve
noncomputable def slices_Delete_int.con [Fuel] : Con := delCon 48 3
theorem slices_Delete_int.ok [Fuel] : ConOK Try.prog slices_Delete_int.con := del_con (by kernel_rfl) Go.Proofs.Try.slices_Delete_int
namespace refuse_without
noncomputable def con [Fuel] : Con := ⟨25, [(aD liT), (aD iT)], [], [], [liT, iT], .one (.v (.own 0)), [(0, .arr 3 iT)], [liT], fun x => refuse_without x.1 x.2⟩
noncomputable def env [Fuel] : Env := ⟨Try.prog, [], [slices_Clone_int_int.con, slices_Delete_int.con], [(6, 0), (10, 1)], [], [10], [], [], [], []⟩
noncomputable def an : An := .seq .no (.seq .no .no)
theorem run [Fuel] : RunIs env Try.f25 an con := fun x => by kernel_rfl
theorem ok [Fuel] : ConOK Try.prog con := run_ok (E := env) run mixed Try.func25 (by kernel_rfl) (cons_cons slices_Clone_int_int.ok (cons_cons slices_Delete_int.ok (cons_nil)))
end refuse_without
namespace refuse_pick_v2
noncomputable def con [Fuel] : Con := ⟨26, [.c (.v (.d (.sl GClauseT))), (aD liT)], [], [], [(.sl GClauseT), liT], .one (.v (.d (.sl GClauseT))), [], [(.sl GClauseT)], fun x => refuse_pick_v2 x.1 x.2⟩
noncomputable def env [Fuel] : Env := ⟨Try.prog, [(22, GClauseT)], [], [], [], [], [], [19], [], []⟩
noncomputable def an : An := .seq .no (.seq .no (.seq (.seq .no (.one (.loop ⟨[(5, .c (.v (.own 500002))), (10, (aD iT))], [(500002, .arr 49 GClauseT)], [iT, (.sl GClauseT)]⟩ [0, 8, 9] [] (.seq .no (.seq (.cond .no .no) (.seq (.one (.seq .no .no)) .no)))))) (.seq .no .no)))
theorem run [Fuel] : RunIs env Try.f26 an con := fun x => by kernel_rfl
theorem ok [Fuel] : ConOK Try.prog con := run_ok (E := env) run mixed Try.func26 (by kernel_rfl) (cons_nil)
end refuse_pick_v2
namespace solve_Solve_v2
noncomputable def con [Fuel] : Con := ⟨24, [.c (.v (.d (.sl GClauseT))), (aD iT), (aD liT)], [], [], [(.sl GClauseT), iT, liT], .tup [.v (.own 0), .v (.d lliT), .v (.d iT)], [(0, .arr 4 .bool)], [lliT, iT, lbT], fun x => solve_Solve_v2 x.1 x.2.1 x.2.2⟩
noncomputable def env [Fuel] : Env := ⟨Try.prog, [(22, GClauseT), (23, iT), (24, liT), (53, .bool)], [clause_Right.con, slices_ContainsFunc_int_int_v2.con, slices_Clone_api_Clause_api_Clause.con, slices_Concat_int_int.con, clause_Propagate.con, solve_open.con, slices_BinarySearch_int_int.con], [(22, 0), (27, 1), (30, 2), (36, 3), (37, 4), (77, 5), (99, 6)], [16, 20, 1000000], [27, 36], [59], [54, 64, 74, 85], [], []⟩
noncomputable def an : An := .seq .no (.seq (.join ⟨[(28, .c (.v (.d .bool)))], [], [.bool]⟩ [0, 2, 4] [4] true .no (.cond (.seq .no .no) .no)) (.seq .no (.seq .no (.seq .no (.one (.loop ⟨[(9, .c (.v (.own 500024))), (10, .c (.v (.own 500025))), (11, .c (.v (.own 500026)))], [(500024, .arr 49 GClauseT), (500025, .arr 23 liT), (500026, .arr 3 iT)], [(.sl GClauseT), lliT, liT]⟩ [2, 4] [4] (.one (.seq .no (.join ⟨[(9, .c (.v (.own 500032))), (10, .c (.v (.own 500033))), (11, .c (.v (.own 500034)))], [(500032, .arr 49 GClauseT), (500033, .arr 23 liT), (500034, .arr 3 iT)], [(.sl GClauseT), lliT, liT]⟩ [2, 4, 12] [4, 37] false (.seq .no (.cond (.seq (.seq .no (.cond (.seq .no .no) .no)) (.seq .no (.join ⟨[(14, .c (.v (.own 500037)))], [(500037, .arr 3 iT)], [liT]⟩ [2, 4, 9, 10, 11] [4, 500024, 500025, 500026] true (.seq .no (.one (.loop ⟨[(14, .c (.v (.own 500039))), (47, (aD iT))], [(500039, .arr 3 iT)], [iT, liT]⟩ [2, 4, 9, 10, 11, 45, 46] [4, 500024, 500025, 500026] (.seq .no (.seq (.cond .no .no) (.seq (.one (.seq .no .no)) .no)))))) (.seq .no (.seq (.seq .no (.cond (.seq .no .no) .no)) (.seq .no .no)))))) .no)) (.seq .no (.seq (.seq .no (.cond (.seq .no .no) .no)) (.seq .no (.seq (.seq .no (.one (.loop ⟨[(18, .c (.v (.own 500040))), (90, (aD iT))], [(500040, .arr 4 .bool)], [iT, lbT]⟩ [12, 89] [37] (.seq .no (.seq (.cond .no .no) (.seq (.one (.seq .no .no)) .no)))))) (.seq .no .no))))))))))))))
theorem run [Fuel] : RunIs env Try.f24 an con := fun x => by kernel_rfl
theorem ok [Fuel] : ConOK Try.prog con := run_ok (E := env) run mixed Try.func24 (by kernel_rfl) (cons_cons clause_Right.ok (cons_cons slices_ContainsFunc_int_int_v2.ok (cons_cons slices_Clone_api_Clause_api_Clause.ok (cons_cons slices_Concat_int_int.ok (cons_cons clause_Propagate.ok (cons_cons solve_open.ok (cons_cons slices_BinarySearch_int_int.ok (cons_nil))))))))
end solve_Solve_v2
namespace refuse_without_v2
noncomputable def con [Fuel] : Con := ⟨25, [(aD liT), (aD iT)], [], [], [liT, iT], .one (.v (.d liT)), [], [liT], fun x => refuse_without_v2 x.1 x.2⟩
noncomputable def env [Fuel] : Env := ⟨Try.prog, [], [slices_Clone_int_int.con, slices_Delete_int.con], [(6, 0), (10, 1)], [], [10], [], [], [], []⟩
noncomputable def an : An := .seq .no (.seq .no .no)
theorem run [Fuel] : RunIs env Try.f25 an con := fun x => by kernel_rfl
theorem ok [Fuel] : ConOK Try.prog con := run_ok (E := env) run mixed Try.func25 (by kernel_rfl) (cons_cons slices_Clone_int_int.ok (cons_cons slices_Delete_int.ok (cons_nil)))
end refuse_without_v2
namespace refuse_show
noncomputable def con [Fuel] : Con := ⟨27, [.c (.v (.d (.sl GClauseT))), (aD iT), .c (.g [.d liT, .nil, .nil])], [], [], [(.sl GClauseT), iT, liT], .tup [.a GRefusalT, .v (.d iT)], [], [GRefusalT, iT], fun x => refuse_show x.1 x.2.1 x.2.2⟩
noncomputable def env [Fuel] : Env := ⟨Try.prog, [(25, lbT)], [refuse_pick_v2.con, solve_Solve_v2.con, refuse_without_v2.con, solve_Solve.con], [(19, 0), (21, 1), (42, 2), (43, 0), (45, 3)], [], [], [], [56], [], []⟩
noncomputable def an : An := .seq .no (.seq .no (.seq (.seq .no (.cond (.seq .no .no) .no)) (.seq .no (.seq (.seq .no (.one (.loop ⟨[(5, .c (.v (.loc 500004 0))), (34, (aD iT))], [(500004, .box 31 [.d liT, .d lliT, .own 500005]), (500005, .arr 53 lbT)], [iT, liT, lliT, (.sl lbT)]⟩ [0, 1, 6, 33] [6] (.seq .no (.seq (.cond .no .no) (.seq (.one (.seq .no (.seq .no (.seq (.seq .no (.cond (.seq .no .no) .no)) .no)))) .no)))))) (.seq .no .no)))))
theorem run [Fuel] : RunIs env Try.f27 an con := fun x => by kernel_rfl
theorem ok [Fuel] : ConOK Try.prog con := run_ok (E := env) run mixed Try.func27 (by kernel_rfl) (cons_cons refuse_pick_v2.ok (cons_cons solve_Solve_v2.ok (cons_cons refuse_without_v2.ok (cons_cons solve_Solve.ok (cons_nil)))))
end refuse_show
namespace refuse_Core
noncomputable def con [Fuel] : Con := ⟨11, [.c (.v (.d (.sl GClauseT))), (aD iT)], [], [], [(.sl GClauseT), iT], .tup [.a GRefusalT, .v (.d iT)], [], [GRefusalT, iT], fun x => refuse_Core x.1 x.2⟩
noncomputable def env [Fuel] : Env := ⟨Try.prog, [(23, iT)], [clause_Right.con, solve_Solve.con, refuse_without.con, refuse_pick_v2.con, refuse_show.con], [(18, 0), (24, 1), (58, 2), (62, 3), (64, 1), (80, 4)], [15, 25], [], [62], [44], [], []⟩
noncomputable def an : An := .seq .no (.seq (.seq .no (.cond (.seq .no .no) .no)) (.seq (.seq .no (.seq .no (.one (.seq .no (.cond (.seq .no .no) (.seq .no (.cond .no (.seq .no .no)))))))) (.seq .no (.join ⟨[(9, .c (.v (.loc 500006 0)))], [(500006, .box 31 [.own 500007, .nil, .nil]), (500007, .arr 3 iT)], [liT]⟩ [0, 1, 4] [4] true (.seq .no (.one (.loop ⟨[(9, .c (.v (.loc 500011 0))), (38, (aD iT))], [(500011, .box 31 [.own 500012, .nil, .nil]), (500012, .arr 3 iT)], [iT, liT]⟩ [0, 1, 4, 37] [4] (.seq .no (.seq (.cond .no .no) (.seq (.one (.seq .no .no)) .no)))))) (.join ⟨[(9, .c (.v (.loc 500017 0)))], [(500017, .box 31 [.d liT, .nil, .nil])], [liT]⟩ [0, 1, 4] [4] false (.seq .no (.one (.loop ⟨[(9, .c (.v (.loc 500021 0))), (11, (aD iT))], [(500021, .box 31 [.d liT, .nil, .nil])], [iT, liT]⟩ [0, 1, 4] [4] (.seq (.seq .no (.cond .no .no)) (.seq (.one (.seq .no (.seq .no (.seq .no (.one (.seq .no (.cond .no (.seq .no (.cond .no (.seq .no .no)))))))))) .no))))) (.seq .no .no))))))
theorem run [Fuel] : RunIs env Try.f11 an con := fun x => by kernel_rfl
theorem ok [Fuel] : ConOK Try.prog con := run_ok (E := env) run mixed Try.func11 (by kernel_rfl) (cons_cons clause_Right.ok (cons_cons solve_Solve.ok (cons_cons refuse_without.ok (cons_cons refuse_pick_v2.ok (cons_cons refuse_show.ok (cons_nil))))))
end refuse_Core
namespace ladingref26_Same
noncomputable def con [Fuel] : Con := ⟨13, [(aD liT), (aD liT)], [], [], [liT, liT], .one (.v (.d .bool)), [], [.bool], fun x => ladingref26_Same x.1 x.2⟩
noncomputable def env [Fuel] : Env := ⟨Try.prog, [], [], [], [], [], [], [], [19, 20, 23, 24], []⟩
noncomputable def an : An := .seq .no (.seq (.seq .no (.cond (.seq .no .no) .no)) (.seq (.seq .no (.one (.loop ⟨[(5, (aD iT))], [], [iT]⟩ [0, 1] [] (.seq (.seq .no (.cond .no .no)) (.seq (.one (.seq .no (.cond (.seq .no .no) .no))) .no))))) (.seq .no .no)))
theorem run [Fuel] : RunIs env Try.f13 an con := fun x => by kernel_rfl
theorem ok [Fuel] : ConOK Try.prog con := run_ok (E := env) run mixed Try.func13 (by kernel_rfl) (cons_nil)
end ladingref26_Same
namespace slices_IndexFunc_int_int_v4
noncomputable def con [Fuel] : Con := ⟨64, [(aD liT), .c (.v (.fn 108 []))], [], [], [liT], .one (.v (.d iT)), [], [iT], fun x => slices_IndexFunc_int_int_v4 x⟩
noncomputable def env [Fuel] : Env := ⟨Try.prog, [], [clause_lit.con], [(16, 0)], [], [], [], [], [], []⟩
noncomputable def an : An := .seq .no (.seq (.seq .no (.one (.loop ⟨[(8, (aD iT))], [], [iT]⟩ [0, 1, 7] [] (.seq .no (.seq (.cond .no .no) (.seq (.one (.seq .no (.seq .no (.cond (.seq .no .no) .no)))) .no)))))) (.seq .no .no))
theorem run [Fuel] : RunIs env Try.f64 an con := fun x => by kernel_rfl
theorem ok [Fuel] : ConOK Try.prog con := run_ok (E := env) run mixed Try.func64 (by kernel_rfl) (cons_cons clause_lit.ok (cons_nil))
end slices_IndexFunc_int_int_v4
namespace slices_ContainsFunc_int_int_v3
noncomputable def con [Fuel] : Con := ⟨39, [(aD liT), .c (.v (.fn 108 []))], [], [], [liT], .one (.v (.d .bool)), [], [.bool], fun x => slices_ContainsFunc_int_int_v3 x⟩
noncomputable def env [Fuel] : Env := ⟨Try.prog, [], [slices_IndexFunc_int_int_v4.con], [(7, 0)], [], [], [], [], [], []⟩
noncomputable def an : An := .seq .no (.seq .no .no)
theorem run [Fuel] : RunIs env Try.f39 an con := fun x => by kernel_rfl
theorem ok [Fuel] : ConOK Try.prog con := run_ok (E := env) run mixed Try.func39 (by kernel_rfl) (cons_cons slices_IndexFunc_int_int_v4.ok (cons_nil))
end slices_ContainsFunc_int_int_v3
namespace clause_base_follows
noncomputable def con [Fuel] : Con := ⟨56, [.c (.v (.ip (.pair lliT (.map .i64 iT)))), (aD liT)], [], [], [(.pair lliT (.map .i64 iT)), liT], .one (.v (.d .bool)), [], [.bool], fun x => clause_base_follows x.1 x.2⟩
noncomputable def env [Fuel] : Env := ⟨Try.prog, [(23, iT)], [clause_lit.con, clause_base_close.con], [(17, 0), (27, 1)], [8], [27], [], [21], [], []⟩
noncomputable def an : An := .seq .no (.seq .no (.join ⟨[(5, .c (.v (.own 500003)))], [(500003, .arr 3 iT)], [liT]⟩ [0] [] true (.seq .no (.one (.loop ⟨[(5, .c (.v (.own 500005))), (12, (aD iT))], [(500005, .arr 3 iT)], [iT, liT]⟩ [0, 10, 11] [] (.seq .no (.seq (.cond .no .no) (.seq (.one (.seq .no (.seq .no (.cond .no .no)))) .no)))))) (.seq .no (.seq .no .no))))
theorem run [Fuel] : RunIs env Try.f56 an con := fun x => by kernel_rfl
theorem ok [Fuel] : ConOK Try.prog con := run_ok (E := env) run mixed Try.func56 (by kernel_rfl) (cons_cons clause_lit.ok (cons_cons clause_base_close.ok (cons_nil)))
end clause_base_follows
namespace clause_Proof
noncomputable def con [Fuel] : Con := ⟨33, [.c (.v (.d (.sl GClauseT))), (aD lliT)], [], [], [(.sl GClauseT), lliT], .one (.v (.d iT)), [], [iT], fun x => clause_Proof x.1 x.2⟩
noncomputable def env [Fuel] : Env := ⟨Try.prog, [], [slices_ContainsFunc_int_int_v3.con, clause_load.con, clause_base_follows.con, clause_base_add_v2.con], [(21, 0), (24, 1), (33, 2), (37, 3)], [1000000], [33, 37], [], [], [], []⟩
noncomputable def an : An := .seq .no (.seq (.seq .no (.cond (.seq .no .no) .no)) (.seq (.join ⟨[(22, .c (.v (.d .bool)))], [], [.bool]⟩ [0, 1] [] true .no (.cond (.seq .no .no) .no)) (.seq .no (.seq (.seq .no (.one (.loop ⟨[(5, .c (.v (.loc 500001 0))), (27, (aD iT))], [(500001, .box 106 [.own 500002, .mp 500003]), (500002, .arr 23 liT), (500003, .mapL .i64 3 iT)], [iT, lliT, (.map .i64 iT)]⟩ [25, 26] [] (.seq .no (.seq (.cond .no .no) (.seq (.one (.seq .no (.seq (.seq .no (.cond (.seq .no .no) .no)) .no))) .no)))))) (.seq .no .no)))))
theorem run [Fuel] : RunIs env Try.f33 an con := fun x => by kernel_rfl
theorem ok [Fuel] : ConOK Try.prog con := run_ok (E := env) run mixed Try.func33 (by kernel_rfl) (cons_cons slices_ContainsFunc_int_int_v3.ok (cons_cons clause_load.ok (cons_cons clause_base_follows.ok (cons_cons clause_base_add_v2.ok (cons_nil)))))
end clause_Proof
namespace clause_Holds_1_1
noncomputable def con [Fuel] : Con := ⟨59, [(aD iT), .c (.v (.loc 1000000 0)), .c (.v (.loc 1000001 0))], [(1000000, .box 3 [.d iT]), (1000001, .box 53 [.d lbT])], [], [iT, iT, lbT], .one (.v (.d .bool)), [], [.bool], fun x => clause_Holds_1_1 x.1 x.2.1 x.2.2⟩
noncomputable def env [Fuel] : Env := ⟨Try.prog, [], [], [], [], [], [], [], [], []⟩
noncomputable def an : An := .seq .no (.seq .no .no)
theorem run [Fuel] : RunIs env Try.f59 an con := fun x => by kernel_rfl
theorem ok [Fuel] : ConOK Try.prog con := run_ok (E := env) run mixed Try.func59 (by kernel_rfl) (cons_nil)
end clause_Holds_1_1
namespace slices_IndexFunc_int_int_v5
noncomputable def con [Fuel] : Con := ⟨64, [(aD liT), .c (.v (.fn 118 [1000000, 1000001]))], [(1000000, .box 3 [.d iT]), (1000001, .box 53 [.d lbT])], [], [liT, iT, lbT], .one (.v (.d iT)), [], [iT], fun x => slices_IndexFunc_int_int_v5 x.1 x.2.1 x.2.2⟩
noncomputable def env [Fuel] : Env := ⟨Try.prog, [], [clause_Holds_1_1.con], [(16, 0)], [], [16], [], [], [], []⟩
noncomputable def an : An := .seq .no (.seq (.seq .no (.one (.loop ⟨[(8, (aD iT))], [], [iT]⟩ [0, 1, 7] [1000000, 1000001] (.seq .no (.seq (.cond .no .no) (.seq (.one (.seq .no (.seq .no (.cond (.seq .no .no) .no)))) .no)))))) (.seq .no .no))
theorem run [Fuel] : RunIs env Try.f64 an con := fun x => by kernel_rfl
theorem ok [Fuel] : ConOK Try.prog con := run_ok (E := env) run mixed Try.func64 (by kernel_rfl) (cons_cons clause_Holds_1_1.ok (cons_nil))
end slices_IndexFunc_int_int_v5
namespace slices_ContainsFunc_int_int_v4
noncomputable def con [Fuel] : Con := ⟨39, [(aD liT), .c (.v (.fn 118 [1000000, 1000001]))], [(1000000, .box 3 [.d iT]), (1000001, .box 53 [.d lbT])], [], [liT, iT, lbT], .one (.v (.d .bool)), [], [.bool], fun x => slices_ContainsFunc_int_int_v4 x.1 x.2.1 x.2.2⟩
noncomputable def env [Fuel] : Env := ⟨Try.prog, [], [slices_IndexFunc_int_int_v5.con], [(7, 0)], [], [7], [], [], [], []⟩
noncomputable def an : An := .seq .no (.seq .no .no)
theorem run [Fuel] : RunIs env Try.f39 an con := fun x => by kernel_rfl
theorem ok [Fuel] : ConOK Try.prog con := run_ok (E := env) run mixed Try.func39 (by kernel_rfl) (cons_cons slices_IndexFunc_int_int_v5.ok (cons_nil))
end slices_ContainsFunc_int_int_v4
namespace clause_Holds_1
noncomputable def con [Fuel] : Con := ⟨58, [.c (.a GClauseT), .c (.v (.loc 1000000 0)), .c (.v (.loc 1000001 0))], [(1000000, .box 3 [.d iT]), (1000001, .box 53 [.d lbT])], [], [GClauseT, iT, lbT], .one (.v (.d .bool)), [], [.bool], fun x => clause_Holds_1 x.1 x.2.1 x.2.2⟩
noncomputable def env [Fuel] : Env := ⟨Try.prog, [], [slices_ContainsFunc_int_int_v4.con], [(8, 0)], [], [8], [], [], [], []⟩
noncomputable def an : An := .seq .no (.seq .no .no)
theorem run [Fuel] : RunIs env Try.f58 an con := fun x => by kernel_rfl
theorem ok [Fuel] : ConOK Try.prog con := run_ok (E := env) run mixed Try.func58 (by kernel_rfl) (cons_cons slices_ContainsFunc_int_int_v4.ok (cons_nil))
end clause_Holds_1
namespace slices_IndexFunc_api_Clause_api_Clause_v2
noncomputable def con [Fuel] : Con := ⟨63, [.c (.v (.d (.sl GClauseT))), .c (.v (.fn 116 [1000000, 1000001]))], [(1000000, .box 3 [.d iT]), (1000001, .box 53 [.d lbT])], [], [(.sl GClauseT), iT, lbT], .one (.v (.d iT)), [], [iT], fun x => slices_IndexFunc_api_Clause_api_Clause_v2 x.1 x.2.1 x.2.2⟩
noncomputable def env [Fuel] : Env := ⟨Try.prog, [], [clause_Holds_1.con], [(16, 0)], [], [16], [], [], [], []⟩
noncomputable def an : An := .seq .no (.seq (.seq .no (.one (.loop ⟨[(8, (aD iT))], [], [iT]⟩ [0, 1, 7] [1000000, 1000001] (.seq .no (.seq (.cond .no .no) (.seq (.one (.seq .no (.seq .no (.cond (.seq .no .no) .no)))) .no)))))) (.seq .no .no))
theorem run [Fuel] : RunIs env Try.f63 an con := fun x => by kernel_rfl
theorem ok [Fuel] : ConOK Try.prog con := run_ok (E := env) run mixed Try.func63 (by kernel_rfl) (cons_cons clause_Holds_1.ok (cons_nil))
end slices_IndexFunc_api_Clause_api_Clause_v2
namespace slices_ContainsFunc_api_Clause_api_Clause_v2
noncomputable def con [Fuel] : Con := ⟨37, [.c (.v (.d (.sl GClauseT))), .c (.v (.fn 116 [1000000, 1000001]))], [(1000000, .box 3 [.d iT]), (1000001, .box 53 [.d lbT])], [], [(.sl GClauseT), iT, lbT], .one (.v (.d .bool)), [], [.bool], fun x => slices_ContainsFunc_api_Clause_api_Clause_v2 x.1 x.2.1 x.2.2⟩
noncomputable def env [Fuel] : Env := ⟨Try.prog, [], [slices_IndexFunc_api_Clause_api_Clause_v2.con], [(7, 0)], [], [7], [], [], [], []⟩
noncomputable def an : An := .seq .no (.seq .no .no)
theorem run [Fuel] : RunIs env Try.f37 an con := fun x => by kernel_rfl
theorem ok [Fuel] : ConOK Try.prog con := run_ok (E := env) run mixed Try.func37 (by kernel_rfl) (cons_cons slices_IndexFunc_api_Clause_api_Clause_v2.ok (cons_nil))
end slices_ContainsFunc_api_Clause_api_Clause_v2
namespace clause_Holds
noncomputable def con [Fuel] : Con := ⟨34, [.c (.v (.d (.sl GClauseT))), (aD lbT)], [], [], [(.sl GClauseT), lbT], .one (.v (.d .bool)), [], [.bool], fun x => clause_Holds x.1 x.2⟩
noncomputable def env [Fuel] : Env := ⟨Try.prog, [], [slices_ContainsFunc_api_Clause_api_Clause_v2.con], [(11, 0)], [], [11], [], [], [], []⟩
noncomputable def an : An := .seq .no (.seq .no (.seq .no .no))
theorem run [Fuel] : RunIs env Try.f34 an con := fun x => by kernel_rfl
theorem ok [Fuel] : ConOK Try.prog con := run_ok (E := env) run mixed Try.func34 (by kernel_rfl) (cons_cons slices_ContainsFunc_api_Clause_api_Clause_v2.ok (cons_nil))
end clause_Holds
namespace refuse_Check
noncomputable def con [Fuel] : Con := ⟨18, [.c (.v (.d (.sl GClauseT))), (aD iT), .c (.a GRefusalT)], [], [], [(.sl GClauseT), iT, GRefusalT], .one (.v (.d iT)), [], [iT], fun x => refuse_Check x.1 x.2.1 x.2.2⟩
noncomputable def env [Fuel] : Env := ⟨Try.prog, [], [clause_Right.con, refuse_pick_v2.con, clause_Proof.con, refuse_without_v2.con, clause_Holds.con], [(14, 0), (37, 1), (40, 2), (68, 3), (69, 1), (71, 4)], [11, 1000000], [], [], [], [45, 48], [36, 39, 44, 47]⟩
noncomputable def an : An := .seq .no (.seq (.seq .no (.cond (.seq .no .no) .no)) (.seq .no (.join ⟨[], [], []⟩ [0, 1, 5] [5] false (.seq .no (.one (.loop ⟨[(7, (aD iT)), (19, (aD iT))], [], [iT, iT]⟩ [0, 1, 5, 17, 18] [5] (.seq .no (.seq (.cond .no .no) (.seq (.one (.seq .no (.seq (.join ⟨[(31, .c (.v (.d .bool)))], [], [.bool]⟩ [0, 1, 5, 9, 17, 18, 19] [5] true .no (.cond (.seq .no .no) .no)) .no))) .no)))))) (.seq (.join ⟨[(50, .c (.v (.d .bool)))], [], [.bool]⟩ [0, 1, 5] [5] true .no (.cond (.seq .no .no) .no)) (.seq (.seq .no (.one (.loop ⟨[(54, (aD iT))], [], [iT]⟩ [0, 1, 5, 52, 53] [5] (.seq .no (.seq (.cond .no .no) (.seq (.one (.seq .no (.join ⟨[(73, .c (.v (.d .bool)))], [], [.bool]⟩ [0, 1, 5, 52, 53, 54] [5] true .no (.cond (.seq .no .no) .no)))) .no)))))) (.seq .no .no))))))
theorem run [Fuel] : RunIs env Try.f18 an con := fun x => by kernel_rfl
theorem ok [Fuel] : ConOK Try.prog con := run_ok (E := env) run mixed Try.func18 (by kernel_rfl) (cons_cons clause_Right.ok (cons_cons refuse_pick_v2.ok (cons_cons clause_Proof.ok (cons_cons refuse_without_v2.ok (cons_cons clause_Holds.ok (cons_nil))))))
end refuse_Check
noncomputable def slices_Sort_int.con [Fuel] : Con := sortCon 31 3
theorem slices_Sort_int.ok [Fuel] : ConOK Try.prog slices_Sort_int.con := sort_con (by kernel_rfl) Go.Proofs.Try.slices_Sort_int Go.Proofs.Try.slices_Sort_int_none
noncomputable def slices_Compact_int.con [Fuel] : Con := compCon 32 3
theorem slices_Compact_int.ok [Fuel] : ConOK Try.prog slices_Compact_int.con := comp_con (by kernel_rfl) Go.Proofs.Try.slices_Compact_int Go.Proofs.Try.slices_Compact_int_empty
namespace refuse_Facts
noncomputable def con [Fuel] : Con := ⟨16, [.c (.v (.d (.sl GClauseT))), (aD liT)], [], [], [(.sl GClauseT), liT], .one (.v (.d liT)), [], [liT], fun x => refuse_Facts x.1 x.2⟩
noncomputable def env [Fuel] : Env := ⟨Try.prog, [(23, iT)], [slices_Sort_int.con, slices_Compact_int.con], [(42, 0), (44, 1)], [8, 1000000], [42, 44], [], [38], [], []⟩
noncomputable def an : An := .seq .no (.seq .no (.join ⟨[(5, .c (.v (.own 500003)))], [(500003, .arr 3 iT)], [liT]⟩ [] [] true (.seq .no (.one (.loop ⟨[(5, .c (.v (.own 500005))), (10, (aD iT))], [(500005, .arr 3 iT)], [iT, liT]⟩ [0, 8, 9] [] (.seq .no (.seq (.cond .no .no) (.seq (.one (.seq .no (.join ⟨[(30, .c (.v (.d .bool)))], [], [.bool]⟩ [0, 5, 7, 8, 9, 10] [500005] true .no (.cond .no .no)))) .no)))))) (.seq .no (.seq .no .no))))
theorem run [Fuel] : RunIs env Try.f16 an con := fun x => by kernel_rfl
theorem ok [Fuel] : ConOK Try.prog con := run_ok (E := env) run mixed Try.func16 (by kernel_rfl) (cons_cons slices_Sort_int.ok (cons_cons slices_Compact_int.ok (cons_nil)))
end refuse_Facts
namespace ladinglaw30_small
noncomputable def con [Fuel] : Con := ⟨7, [], [], [], [], .one (.v (.d .bool)), [], [.bool], fun x => ladinglaw30_small⟩
noncomputable def env [Fuel] : Env := ⟨Try.prog, [(22, GClauseT), (23, iT)], [ladinglaw30_of.con, refuse_Core.con, ladingref26_Same.con, refuse_Check.con, refuse_Facts.con], [(7, 0), (9, 0), (11, 0), (13, 0), (17, 1), (22, 0), (24, 0), (26, 1), (39, 2), (44, 3), (51, 4), (53, 2)], [], [], [], [6, 8, 10, 12, 14, 21, 23, 25, 38, 52], [], []⟩
noncomputable def an : An := .seq .no (.seq .no (.seq .no (.seq .no (.seq .no .no))))
theorem run [Fuel] : RunIs env Try.f7 an con := fun x => by kernel_rfl
theorem ok [Fuel] : ConOK Try.prog con := run_ok (E := env) run mixed Try.func7 (by kernel_rfl) (cons_cons ladinglaw30_of.ok (cons_cons refuse_Core.ok (cons_cons ladingref26_Same.ok (cons_cons refuse_Check.ok (cons_cons refuse_Facts.ok (cons_nil))))))
end ladinglaw30_small
namespace ladinglaw30_light
noncomputable def con [Fuel] : Con := ⟨8, [.c (.v (.d (.sl GClauseT))), (aD iT)], [], [], [(.sl GClauseT), iT], .one (.v (.d .bool)), [], [.bool], fun x => ladinglaw30_light x.1 x.2⟩
noncomputable def env [Fuel] : Env := ⟨Try.prog, [], [], [], [1000000], [], [], [], [], []⟩
noncomputable def an : An := .seq .no (.seq (.seq .no (.one (.loop ⟨[(5, (aD iT))], [], [iT]⟩ [0, 1] [] (.seq (.join ⟨[(14, .c (.v (.d .bool)))], [], [.bool]⟩ [0, 1, 5] [] true .no (.cond .no .no)) (.seq (.one (.seq .no (.cond (.seq .no .no) .no))) .no))))) (.seq .no .no))
theorem run [Fuel] : RunIs env Try.f8 an con := fun x => by kernel_rfl
theorem ok [Fuel] : ConOK Try.prog con := run_ok (E := env) run mixed Try.func8 (by kernel_rfl) (cons_nil)
end ladinglaw30_light
namespace ladinglaw30_lists
noncomputable def con [Fuel] : Con := ⟨9, [(aD lliT), (aD iT)], [], [], [lliT, iT], .one (.v (.d .bool)), [], [.bool], fun x => ladinglaw30_lists x.1 x.2⟩
noncomputable def env [Fuel] : Env := ⟨Try.prog, [], [], [], [1000000], [], [], [], [], []⟩
noncomputable def an : An := .seq .no (.seq (.seq .no (.one (.loop ⟨[(5, (aD iT))], [], [iT]⟩ [0, 1] [] (.seq (.join ⟨[(14, .c (.v (.d .bool)))], [], [.bool]⟩ [0, 1, 5] [] true .no (.cond .no .no)) (.seq (.one (.seq .no (.cond (.seq .no .no) .no))) .no))))) (.seq .no .no))
theorem run [Fuel] : RunIs env Try.f9 an con := fun x => by kernel_rfl
theorem ok [Fuel] : ConOK Try.prog con := run_ok (E := env) run mixed Try.func9 (by kernel_rfl) (cons_nil)
end ladinglaw30_lists
namespace ladinglaw30_models
noncomputable def con [Fuel] : Con := ⟨10, [.c (.v (.d (.sl lbT))), (aD iT)], [], [], [(.sl lbT), iT], .one (.v (.d .bool)), [], [.bool], fun x => ladinglaw30_models x.1 x.2⟩
noncomputable def env [Fuel] : Env := ⟨Try.prog, [], [], [], [1000000], [], [], [], [], []⟩
noncomputable def an : An := .seq .no (.seq (.seq .no (.one (.loop ⟨[(5, (aD iT))], [], [iT]⟩ [0, 1] [] (.seq (.join ⟨[(14, .c (.v (.d .bool)))], [], [.bool]⟩ [0, 1, 5] [] true .no (.cond .no .no)) (.seq (.one (.seq .no (.cond (.seq .no .no) .no))) .no))))) (.seq .no .no))
theorem run [Fuel] : RunIs env Try.f10 an con := fun x => by kernel_rfl
theorem ok [Fuel] : ConOK Try.prog con := run_ok (E := env) run mixed Try.func10 (by kernel_rfl) (cons_nil)
end ladinglaw30_models
namespace ladingref26_Right
noncomputable def con [Fuel] : Con := ⟨28, [.c (.v (.d (.sl GClauseT))), (aD iT)], [], [], [(.sl GClauseT), iT], .one (.v (.d .bool)), [], [.bool], fun x => ladingref26_Right x.1 x.2⟩
noncomputable def env [Fuel] : Env := ⟨Try.prog, [], [], [], [1000000], [], [], [], [], []⟩
noncomputable def an : An := .seq .no (.seq (.join ⟨[(18, .c (.v (.d .bool)))], [], [.bool]⟩ [0, 1] [] true .no (.cond (.seq .no .no) .no)) (.seq (.seq .no (.one (.loop ⟨[(5, (aD iT))], [], [iT]⟩ [0, 1] [] (.seq (.seq .no (.cond .no .no)) (.seq (.one (.seq .no (.one (.loop ⟨[(6, (aD iT))], [], [iT]⟩ [0, 1, 5] [] (.seq (.seq .no (.cond .no .no)) (.seq (.one (.seq .no (.join ⟨[(55, .c (.v (.d .bool)))], [], [.bool]⟩ [0, 1, 5, 6] [] true .no (.cond (.seq .no .no) .no)))) .no)))))) .no))))) (.seq .no .no)))
theorem run [Fuel] : RunIs env Try.f28 an con := fun x => by kernel_rfl
theorem ok [Fuel] : ConOK Try.prog con := run_ok (E := env) run mixed Try.func28 (by kernel_rfl) (cons_nil)
end ladingref26_Right
namespace ladingref26_set
noncomputable def con [Fuel] : Con := ⟨85, [], [], [], [], .one (.v (.own 0)), [(0, .arr 4 .bool)], [lbT], fun x => ladingref26_set⟩
noncomputable def env [Fuel] : Env := ⟨Try.prog, [(53, .bool)], [], [], [], [], [], [], [], []⟩
noncomputable def an : An := .seq .no (.seq .no .no)
theorem run [Fuel] : RunIs env Try.f85 an con := fun x => by kernel_rfl
theorem ok [Fuel] : ConOK Try.prog con := run_ok (E := env) run mixed Try.func85 (by kernel_rfl) (cons_nil)
end ladingref26_set
namespace ladingref26_Lit
noncomputable def con [Fuel] : Con := ⟨61, [(aD iT)], [], [], [iT], .one (.v (.d .bool)), [], [.bool], fun x => ladingref26_Lit x⟩
noncomputable def env [Fuel] : Env := ⟨Try.prog, [], [], [], [], [], [], [], [], []⟩
noncomputable def an : An := .seq .no (.seq .no .no)
theorem run [Fuel] : RunIs env Try.f61 an con := fun x => by kernel_rfl
theorem ok [Fuel] : ConOK Try.prog con := run_ok (E := env) run mixed Try.func61 (by kernel_rfl) (cons_nil)
end ladingref26_Lit
namespace ladingref26_open
noncomputable def con [Fuel] : Con := ⟨86, [(aD lbT), (aD liT)], [], [], [lbT, liT], .tup [.v (.d iT), .v (.d .bool)], [], [iT, .bool], fun x => ladingref26_open x.1 x.2⟩
noncomputable def env [Fuel] : Env := ⟨Try.prog, [], [ladingref26_Lit.con], [(20, 0)], [1000000], [], [], [], [], []⟩
noncomputable def an : An := .seq .no (.seq .no (.seq (.seq .no (.one (.loop ⟨[(6, (aD iT)), (7, (aD iT))], [], [iT, iT]⟩ [0, 1] [] (.seq (.seq .no (.cond .no .no)) (.seq (.one (.seq .no (.seq (.join ⟨[(33, .c (.v (.d .bool)))], [], [.bool]⟩ [0, 1, 6, 7, 8] [] true .no (.cond .no .no)) (.seq (.seq .no (.cond (.seq .no .no) .no)) .no)))) .no))))) (.seq .no .no)))
theorem run [Fuel] : RunIs env Try.f86 an con := fun x => by kernel_rfl
theorem ok [Fuel] : ConOK Try.prog con := run_ok (E := env) run mixed Try.func86 (by kernel_rfl) (cons_cons ladingref26_Lit.ok (cons_nil))
end ladingref26_open
namespace ladingref26_closure
noncomputable def con [Fuel] : Con := ⟨69, [.c (.v (.d (.sl GClauseT))), (aD liT)], [], [], [(.sl GClauseT), liT], .tup [.v (.d lbT), .v (.d .bool)], [], [lbT, .bool], fun x => ladingref26_closure x.1 x.2⟩
noncomputable def env [Fuel] : Env := ⟨Try.prog, [], [ladingref26_set.con, ladingref26_Lit.con, ladingref26_open.con], [(13, 0), (24, 1), (46, 2)], [7, 20, 1000000], [], [], [], [], []⟩
noncomputable def an : An := .seq .no (.seq .no (.join ⟨[(6, .c (.v (.own 500002)))], [(500002, .arr 4 .bool)], [lbT]⟩ [0] [] true (.seq .no (.one (.loop ⟨[(6, .c (.v (.own 500003))), (7, (aD iT))], [(500003, .arr 4 .bool)], [iT, lbT]⟩ [0, 1] [] (.seq (.seq .no (.cond .no .no)) (.seq (.one (.seq .no (.cond .no .no))) .no))))) (.seq .no (.join ⟨[(6, .c (.v (.own 500006)))], [(500006, .arr 4 .bool)], [lbT]⟩ [] [] false (.one (.loop ⟨[(6, .c (.v (.own 500007))), (8, .c (.v (.d .bool)))], [(500007, .arr 4 .bool)], [.bool, lbT]⟩ [0] [] (.seq (.seq .no (.cond .no .no)) (.one (.seq .no (.seq .no (.one (.loop ⟨[(6, .c (.v (.own 500008))), (8, .c (.v (.d .bool))), (9, (aD iT))], [(500008, .arr 4 .bool)], [.bool, iT, lbT]⟩ [0] [] (.seq (.seq .no (.cond .no .no)) (.seq (.one (.seq .no (.seq (.seq .no (.cond .no .no)) (.seq (.seq .no (.cond (.seq .no .no) .no)) (.seq .no (.cond (.seq .no .no) .no)))))) .no)))))))))) (.seq (.seq .no (.one (.loop ⟨[(12, (aD iT))], [], [iT]⟩ [6] [500006] (.seq (.seq .no (.cond .no .no)) (.seq (.one (.join ⟨[(79, .c (.v (.d .bool)))], [], [.bool]⟩ [6, 12] [500006] true .no (.cond (.seq .no .no) .no))) .no))))) (.seq .no .no))))))
theorem run [Fuel] : RunIs env Try.f69 an con := fun x => by kernel_rfl
theorem ok [Fuel] : ConOK Try.prog con := run_ok (E := env) run mixed Try.func69 (by kernel_rfl) (cons_cons ladingref26_set.ok (cons_cons ladingref26_Lit.ok (cons_cons ladingref26_open.ok (cons_nil))))
end ladingref26_closure
namespace ladingref26_Propagate
noncomputable def con [Fuel] : Con := ⟨50, [.c (.v (.d (.sl GClauseT))), (aD liT)], [], [], [(.sl GClauseT), liT], .tup [.v (.own 0), .v (.d .bool)], [(0, .arr 3 iT)], [.bool, liT], fun x => ladingref26_Propagate x.1 x.2⟩
noncomputable def env [Fuel] : Env := ⟨Try.prog, [(23, iT)], [ladingref26_closure.con], [(13, 0)], [], [], [], [29], [], []⟩
noncomputable def an : An := .seq .no (.seq .no (.seq (.seq .no (.cond (.seq .no .no) .no)) (.seq .no (.seq (.seq .no (.one (.loop ⟨[(8, .c (.v (.own 500002))), (9, (aD iT))], [(500002, .arr 3 iT)], [iT, liT]⟩ [6] [] (.seq (.seq .no (.cond .no .no)) (.seq (.one (.seq .no (.cond .no .no))) .no))))) (.seq .no .no)))))
theorem run [Fuel] : RunIs env Try.f50 an con := fun x => by kernel_rfl
theorem ok [Fuel] : ConOK Try.prog con := run_ok (E := env) run mixed Try.func50 (by kernel_rfl) (cons_cons ladingref26_closure.ok (cons_nil))
end ladingref26_Propagate
namespace ladingref27_has
noncomputable def con [Fuel] : Con := ⟨51, [(aD liT), (aD iT)], [], [], [liT, iT], .one (.v (.d .bool)), [], [.bool], fun x => ladingref27_has x.1 x.2⟩
noncomputable def env [Fuel] : Env := ⟨Try.prog, [], [], [], [], [], [], [], [], []⟩
noncomputable def an : An := .seq .no (.seq (.seq .no (.one (.loop ⟨[(5, (aD iT))], [], [iT]⟩ [0, 1] [] (.seq (.seq .no (.cond .no .no)) (.seq (.one (.seq .no (.cond (.seq .no .no) .no))) .no))))) (.seq .no .no))
theorem run [Fuel] : RunIs env Try.f51 an con := fun x => by kernel_rfl
theorem ok [Fuel] : ConOK Try.prog con := run_ok (E := env) run mixed Try.func51 (by kernel_rfl) (cons_nil)
end ladingref27_has
namespace ladingref27_Solve
noncomputable def con [Fuel] : Con := ⟨29, [.c (.v (.d (.sl GClauseT))), (aD iT), (aD liT)], [], [], [(.sl GClauseT), iT, liT], .tup [.v (.d lbT), .v (.d lliT), .v (.d iT)], [], [lbT, lliT, iT], fun x => ladingref27_Solve x.1 x.2.1 x.2.2⟩
noncomputable def env [Fuel] : Env := ⟨Try.prog, [(22, GClauseT), (23, iT), (24, liT), (53, .bool)], [ladingref26_Right.con, ladingref26_Propagate.con, ladingref27_has.con], [(22, 0), (62, 1), (109, 2), (115, 2), (141, 2)], [8, 18, 25, 28, 1000000], [], [83], [79, 88, 101, 127], [], []⟩
noncomputable def an : An := .seq .no (.seq (.seq .no (.cond (.seq .no .no) .no)) (.join ⟨[], [], []⟩ [0, 1, 2] [] false (.seq .no (.one (.loop ⟨[(9, (aD iT))], [], [iT]⟩ [0, 1, 2] [] (.seq (.seq .no (.cond .no .no)) (.seq (.one (.join ⟨[(51, .c (.v (.d .bool)))], [], [.bool]⟩ [0, 1, 2, 9] [] true .no (.cond (.seq .no .no) .no))) .no))))) (.seq .no (.seq .no (.seq .no (.one (.loop ⟨[(10, .c (.v (.own 500024))), (11, .c (.v (.own 500025))), (12, .c (.v (.own 500026)))], [(500024, .arr 49 GClauseT), (500025, .arr 23 liT), (500026, .arr 3 iT)], [(.sl GClauseT), lliT, liT]⟩ [1, 2] [] (.one (.seq .no (.join ⟨[(10, .c (.v (.own 500032))), (11, .c (.v (.own 500033))), (12, .c (.v (.own 500034)))], [(500032, .arr 49 GClauseT), (500033, .arr 23 liT), (500034, .arr 3 iT)], [(.sl GClauseT), lliT, liT]⟩ [1, 2, 13] [62] false (.seq .no (.cond (.seq .no (.join ⟨[(15, .c (.v (.own 500037)))], [(500037, .arr 3 iT)], [liT]⟩ [1, 2, 10, 11, 12] [500024, 500025, 500026] true (.seq .no (.one (.loop ⟨[(15, .c (.v (.own 500039))), (16, (aD iT))], [(500039, .arr 3 iT)], [iT, liT]⟩ [1, 2, 10, 11, 12] [500024, 500025, 500026] (.seq (.seq .no (.cond .no .no)) (.seq (.one .no) .no))))) (.seq .no (.seq .no (.seq (.seq .no (.cond (.seq .no .no) .no)) (.seq (.seq .no (.cond (.seq .no .no) .no)) (.seq .no .no))))))) .no)) (.seq .no (.join ⟨[(17, (aD iT))], [], [iT]⟩ [1, 2, 10, 11, 12, 13] [62, 500032, 500033, 500034] true (.one (.loop ⟨[(17, (aD iT))], [], [iT]⟩ [1, 2, 10, 11, 12, 13] [62, 500032, 500033, 500034] (.seq (.join ⟨[(117, .c (.v (.d .bool)))], [], [.bool]⟩ [1, 2, 10, 11, 12, 13, 17] [62, 500032, 500033, 500034] true .no (.cond .no .no)) (.one .no)))) (.seq (.seq .no (.cond (.seq .no .no) .no)) (.seq .no (.seq (.seq .no (.one (.loop ⟨[(18, .c (.v (.own 500040))), (19, (aD iT))], [(500040, .arr 4 .bool)], [iT, lbT]⟩ [1, 13] [62] (.seq (.seq .no (.cond .no .no)) (.seq (.one .no) .no))))) (.seq .no .no))))))))))))))))
theorem run [Fuel] : RunIs env Try.f29 an con := fun x => by kernel_rfl
theorem ok [Fuel] : ConOK Try.prog con := run_ok (E := env) run mixed Try.func29 (by kernel_rfl) (cons_cons ladingref26_Right.ok (cons_cons ladingref26_Propagate.ok (cons_cons ladingref27_has.ok (cons_nil))))
end ladingref27_Solve
namespace ladingref30_clauses_v2
noncomputable def con [Fuel] : Con := ⟨30, [.c (.v (.d (.sl GClauseT))), (aD liT), (aD iT)], [], [], [(.sl GClauseT), liT, iT], .one (.v (.d (.sl GClauseT))), [], [(.sl GClauseT)], fun x => ladingref30_clauses_v2 x.1 x.2.1 x.2.2⟩
noncomputable def env [Fuel] : Env := ⟨Try.prog, [(22, GClauseT)], [], [], [], [], [], [26], [], []⟩
noncomputable def an : An := .seq .no (.seq .no (.seq (.seq .no (.one (.loop ⟨[(7, .c (.v (.own 500002))), (8, (aD iT))], [(500002, .arr 49 GClauseT)], [iT, (.sl GClauseT)]⟩ [0, 1, 2] [] (.seq (.seq .no (.cond .no .no)) (.seq (.one (.seq .no (.cond .no .no))) .no))))) (.seq .no .no)))
theorem run [Fuel] : RunIs env Try.f30 an con := fun x => by kernel_rfl
theorem ok [Fuel] : ConOK Try.prog con := run_ok (E := env) run mixed Try.func30 (by kernel_rfl) (cons_nil)
end ladingref30_clauses_v2
namespace ladingref27_Solve_v2
noncomputable def con [Fuel] : Con := ⟨29, [.c (.v (.d (.sl GClauseT))), (aD iT), (aD liT)], [], [], [(.sl GClauseT), iT, liT], .tup [.v (.own 0), .v (.d lliT), .v (.d iT)], [(0, .arr 4 .bool)], [lliT, iT, lbT], fun x => ladingref27_Solve_v2 x.1 x.2.1 x.2.2⟩
noncomputable def env [Fuel] : Env := ⟨Try.prog, [(22, GClauseT), (23, iT), (24, liT), (53, .bool)], [ladingref26_Right.con, ladingref26_Propagate.con, ladingref27_has.con], [(22, 0), (62, 1), (109, 2), (115, 2), (141, 2)], [8, 18, 25, 28, 1000000], [], [83], [79, 88, 101, 127], [], []⟩
noncomputable def an : An := .seq .no (.seq (.seq .no (.cond (.seq .no .no) .no)) (.join ⟨[], [], []⟩ [0, 1, 2] [] false (.seq .no (.one (.loop ⟨[(9, (aD iT))], [], [iT]⟩ [0, 1, 2] [] (.seq (.seq .no (.cond .no .no)) (.seq (.one (.join ⟨[(51, .c (.v (.d .bool)))], [], [.bool]⟩ [0, 1, 2, 9] [] true .no (.cond (.seq .no .no) .no))) .no))))) (.seq .no (.seq .no (.seq .no (.one (.loop ⟨[(10, .c (.v (.own 500024))), (11, .c (.v (.own 500025))), (12, .c (.v (.own 500026)))], [(500024, .arr 49 GClauseT), (500025, .arr 23 liT), (500026, .arr 3 iT)], [(.sl GClauseT), lliT, liT]⟩ [1, 2] [] (.one (.seq .no (.join ⟨[(10, .c (.v (.own 500032))), (11, .c (.v (.own 500033))), (12, .c (.v (.own 500034)))], [(500032, .arr 49 GClauseT), (500033, .arr 23 liT), (500034, .arr 3 iT)], [(.sl GClauseT), lliT, liT]⟩ [1, 2, 13] [62] false (.seq .no (.cond (.seq .no (.join ⟨[(15, .c (.v (.own 500037)))], [(500037, .arr 3 iT)], [liT]⟩ [1, 2, 10, 11, 12] [500024, 500025, 500026] true (.seq .no (.one (.loop ⟨[(15, .c (.v (.own 500039))), (16, (aD iT))], [(500039, .arr 3 iT)], [iT, liT]⟩ [1, 2, 10, 11, 12] [500024, 500025, 500026] (.seq (.seq .no (.cond .no .no)) (.seq (.one .no) .no))))) (.seq .no (.seq .no (.seq (.seq .no (.cond (.seq .no .no) .no)) (.seq (.seq .no (.cond (.seq .no .no) .no)) (.seq .no .no))))))) .no)) (.seq .no (.join ⟨[(17, (aD iT))], [], [iT]⟩ [1, 2, 10, 11, 12, 13] [62, 500032, 500033, 500034] true (.one (.loop ⟨[(17, (aD iT))], [], [iT]⟩ [1, 2, 10, 11, 12, 13] [62, 500032, 500033, 500034] (.seq (.join ⟨[(117, .c (.v (.d .bool)))], [], [.bool]⟩ [1, 2, 10, 11, 12, 13, 17] [62, 500032, 500033, 500034] true .no (.cond .no .no)) (.one .no)))) (.seq (.seq .no (.cond (.seq .no .no) .no)) (.seq .no (.seq (.seq .no (.one (.loop ⟨[(18, .c (.v (.own 500040))), (19, (aD iT))], [(500040, .arr 4 .bool)], [iT, lbT]⟩ [1, 13] [62] (.seq (.seq .no (.cond .no .no)) (.seq (.one .no) .no))))) (.seq .no .no))))))))))))))))
theorem run [Fuel] : RunIs env Try.f29 an con := fun x => by kernel_rfl
theorem ok [Fuel] : ConOK Try.prog con := run_ok (E := env) run mixed Try.func29 (by kernel_rfl) (cons_cons ladingref26_Right.ok (cons_cons ladingref26_Propagate.ok (cons_cons ladingref27_has.ok (cons_nil))))
end ladingref27_Solve_v2
namespace ladingref30_Core
noncomputable def con [Fuel] : Con := ⟨12, [.c (.v (.d (.sl GClauseT))), (aD iT)], [], [], [(.sl GClauseT), iT], .tup [.a GRefusalT, .v (.d iT)], [], [GRefusalT, iT], fun x => ladingref30_Core x.1 x.2⟩
noncomputable def env [Fuel] : Env := ⟨Try.prog, [(23, iT), (25, lbT)], [ladingref26_Right.con, ladingref27_Solve.con, ladingref30_clauses_v2.con, ladingref27_Solve_v2.con], [(26, 0), (32, 1), (72, 2), (74, 1), (103, 2), (105, 3), (125, 2), (127, 1)], [13, 19, 24, 1000000], [], [72], [51, 138], [91, 96], []⟩
noncomputable def an : An := .seq .no (.seq (.seq .no (.cond (.seq .no .no) .no)) (.seq .no (.seq (.seq .no (.cond (.seq .no .no) .no)) (.seq (.seq .no (.cond (.seq .no .no) .no)) (.seq .no (.join ⟨[(9, .c (.v (.own 500003)))], [(500003, .arr 3 iT)], [liT]⟩ [0, 1, 4] [4] true (.seq .no (.one (.loop ⟨[(9, .c (.v (.own 500005))), (10, (aD iT))], [(500005, .arr 3 iT)], [iT, liT]⟩ [0, 1, 4] [4] (.seq (.seq .no (.cond .no .no)) (.seq (.one .no) .no))))) (.join ⟨[(9, (aD liT))], [], [liT]⟩ [0, 1, 4] [4] false (.seq .no (.one (.loop ⟨[(9, (aD liT)), (11, (aD iT))], [], [liT, iT]⟩ [0, 1, 4] [4] (.seq (.seq .no (.cond .no .no)) (.seq (.one (.seq .no (.join ⟨[(12, (aD iT))], [], [iT]⟩ [0, 1, 4, 9, 11] [4] true (.one (.loop ⟨[(12, (aD iT))], [], [iT]⟩ [0, 1, 4, 9, 11] [4] (.seq (.seq .no (.cond .no .no)) (.one .no)))) (.seq .no (.seq (.join ⟨[(83, .c (.v (.d .bool)))], [], [.bool]⟩ [0, 1, 4, 9, 11, 12, 15] [4] true .no (.cond (.seq .no .no) .no)) (.seq .no (.cond .no .no))))))) .no))))) (.seq .no (.seq .no (.seq (.seq .no (.cond (.seq .no .no) .no)) (.seq .no (.seq (.seq .no (.one (.loop ⟨[(16, .c (.v (.loc 500011 0))), (20, (aD iT))], [(500011, .box 35 [.d liT, .d lliT, .own 500012]), (500012, .arr 53 lbT)], [iT, liT, lliT, (.sl lbT)]⟩ [0, 1, 4, 9] [4] (.seq (.seq .no (.cond .no .no)) (.seq (.one (.seq .no (.seq (.seq .no (.cond (.seq .no .no) .no)) .no))) .no))))) (.seq .no .no)))))))))))))
theorem run [Fuel] : RunIs env Try.f12 an con := fun x => by kernel_rfl
theorem ok [Fuel] : ConOK Try.prog con := run_ok (E := env) run mixed Try.func12 (by kernel_rfl) (cons_cons ladingref26_Right.ok (cons_cons ladingref27_Solve.ok (cons_cons ladingref30_clauses_v2.ok (cons_cons ladingref27_Solve_v2.ok (cons_nil)))))
end ladingref30_Core
namespace ladingref30_SameLists
noncomputable def con [Fuel] : Con := ⟨14, [(aD lliT), (aD lliT)], [], [], [lliT, lliT], .one (.v (.d .bool)), [], [.bool], fun x => ladingref30_SameLists x.1 x.2⟩
noncomputable def env [Fuel] : Env := ⟨Try.prog, [], [ladingref26_Same.con], [(25, 0)], [], [], [], [], [19, 20, 23, 24], []⟩
noncomputable def an : An := .seq .no (.seq (.seq .no (.cond (.seq .no .no) .no)) (.seq (.seq .no (.one (.loop ⟨[(5, (aD iT))], [], [iT]⟩ [0, 1] [] (.seq (.seq .no (.cond .no .no)) (.seq (.one (.seq .no (.cond (.seq .no .no) .no))) .no))))) (.seq .no .no)))
theorem run [Fuel] : RunIs env Try.f14 an con := fun x => by kernel_rfl
theorem ok [Fuel] : ConOK Try.prog con := run_ok (E := env) run mixed Try.func14 (by kernel_rfl) (cons_cons ladingref26_Same.ok (cons_nil))
end ladingref30_SameLists
namespace ladingref30_SameModels
noncomputable def con [Fuel] : Con := ⟨15, [.c (.v (.d (.sl lbT))), .c (.v (.d (.sl lbT)))], [], [], [(.sl lbT), (.sl lbT)], .one (.v (.d .bool)), [], [.bool], fun x => ladingref30_SameModels x.1 x.2⟩
noncomputable def env [Fuel] : Env := ⟨Try.prog, [], [], [], [], [], [], [], [20, 21, 22, 25, 26, 27, 40, 41, 43, 44, 47, 48, 50, 51], []⟩
noncomputable def an : An := .seq .no (.seq (.seq .no (.cond (.seq .no .no) .no)) (.seq (.seq .no (.one (.loop ⟨[(5, (aD iT))], [], [iT]⟩ [0, 1] [] (.seq (.seq .no (.cond .no .no)) (.seq (.one (.seq (.seq .no (.cond (.seq .no .no) .no)) (.seq .no (.one (.loop ⟨[(6, (aD iT))], [], [iT]⟩ [0, 1, 5] [] (.seq (.seq .no (.cond .no .no)) (.seq (.one (.seq .no (.cond (.seq .no .no) .no))) .no))))))) .no))))) (.seq .no .no)))
theorem run [Fuel] : RunIs env Try.f15 an con := fun x => by kernel_rfl
theorem ok [Fuel] : ConOK Try.prog con := run_ok (E := env) run mixed Try.func15 (by kernel_rfl) (cons_nil)
end ladingref30_SameModels
namespace ladingref30_Facts
noncomputable def con [Fuel] : Con := ⟨17, [.c (.v (.d (.sl GClauseT))), (aD liT)], [], [], [(.sl GClauseT), liT], .one (.v (.d liT)), [], [liT], fun x => ladingref30_Facts x.1 x.2⟩
noncomputable def env [Fuel] : Env := ⟨Try.prog, [(23, iT)], [], [], [12, 1000000], [], [], [68, 74], [], []⟩
noncomputable def an : An := .seq .no (.seq .no (.seq (.seq .no (.one (.loop ⟨[(5, (aD liT)), (6, (aD iT))], [], [liT, iT]⟩ [0, 1] [] (.seq (.seq .no (.cond .no .no)) (.seq (.one (.seq (.join ⟨[(41, .c (.v (.d .bool)))], [], [.bool]⟩ [0, 1, 5, 6] [] true .no (.cond .no .no)) (.seq .no (.seq .no (.seq .no (.join ⟨[(8, .c (.v (.own 500003))), (9, (aD iT))], [(500003, .arr 3 iT)], [iT, liT]⟩ [0, 1, 5, 6, 7] [] true (.one (.loop ⟨[(8, .c (.v (.own 500005))), (9, (aD iT))], [(500005, .arr 3 iT)], [iT, liT]⟩ [0, 1, 5, 6, 7] [] (.seq (.join ⟨[(62, .c (.v (.d .bool)))], [], [.bool]⟩ [0, 1, 5, 6, 7, 8, 9] [500005] true .no (.cond .no .no)) (.one (.seq .no .no))))) (.seq .no (.seq (.join ⟨[(87, .c (.v (.d .bool)))], [], [.bool]⟩ [0, 1, 5, 6, 8, 9] [75] true .no (.cond .no .no)) .no)))))))) .no))))) (.seq .no .no)))
theorem run [Fuel] : RunIs env Try.f17 an con := fun x => by kernel_rfl
theorem ok [Fuel] : ConOK Try.prog con := run_ok (E := env) run mixed Try.func17 (by kernel_rfl) (cons_nil)
end ladingref30_Facts
namespace ladingref26_Follows
noncomputable def con [Fuel] : Con := ⟨60, [.c (.v (.d (.sl GClauseT))), (aD liT)], [], [], [(.sl GClauseT), liT], .one (.v (.d .bool)), [], [.bool], fun x => ladingref26_Follows x.1 x.2⟩
noncomputable def env [Fuel] : Env := ⟨Try.prog, [(23, iT)], [ladingref26_Lit.con, ladingref26_closure.con], [(19, 0), (31, 1)], [7], [], [31], [26], [], []⟩
noncomputable def an : An := .seq .no (.seq .no (.join ⟨[(5, .c (.v (.own 500003)))], [(500003, .arr 3 iT)], [liT]⟩ [0] [] true (.seq .no (.one (.loop ⟨[(5, .c (.v (.own 500005))), (6, (aD iT))], [(500005, .arr 3 iT)], [iT, liT]⟩ [0, 1] [] (.seq (.seq .no (.cond .no .no)) (.seq (.one (.seq .no (.cond .no .no))) .no))))) (.seq .no (.seq .no .no))))
theorem run [Fuel] : RunIs env Try.f60 an con := fun x => by kernel_rfl
theorem ok [Fuel] : ConOK Try.prog con := run_ok (E := env) run mixed Try.func60 (by kernel_rfl) (cons_cons ladingref26_Lit.ok (cons_cons ladingref26_closure.ok (cons_nil)))
end ladingref26_Follows
namespace ladingref26_Proof
noncomputable def con [Fuel] : Con := ⟨35, [.c (.v (.d (.sl GClauseT))), (aD lliT)], [], [], [(.sl GClauseT), lliT], .one (.v (.d iT)), [], [iT], fun x => ladingref26_Proof x.1 x.2⟩
noncomputable def env [Fuel] : Env := ⟨Try.prog, [(22, GClauseT)], [ladingref26_Follows.con, ladingref26_Lit.con], [(29, 0), (55, 1)], [12], [], [], [37], [], []⟩
noncomputable def an : An := .seq .no (.seq (.seq .no (.cond (.seq .no .no) .no)) (.seq (.seq .no (.cond (.seq .no .no) .no)) (.seq .no (.join ⟨[], [], []⟩ [1] [] false (.seq .no (.one (.loop ⟨[(5, .c (.v (.own 500002))), (6, (aD iT))], [(500002, .arr 49 GClauseT)], [iT, (.sl GClauseT)]⟩ [1] [] (.seq (.seq .no (.cond .no .no)) (.seq (.one (.seq (.seq .no (.cond (.seq .no .no) .no)) .no)) .no))))) (.seq .no (.seq (.seq .no (.one (.loop ⟨[(8, (aD iT))], [], [iT]⟩ [7] [] (.seq (.seq .no (.cond .no .no)) (.seq (.one (.seq .no (.cond (.seq .no .no) .no))) .no))))) (.seq .no .no)))))))
theorem run [Fuel] : RunIs env Try.f35 an con := fun x => by kernel_rfl
theorem ok [Fuel] : ConOK Try.prog con := run_ok (E := env) run mixed Try.func35 (by kernel_rfl) (cons_cons ladingref26_Follows.ok (cons_cons ladingref26_Lit.ok (cons_nil)))
end ladingref26_Proof
namespace ladingref26_True
noncomputable def con [Fuel] : Con := ⟨62, [(aD lbT), (aD iT)], [], [], [lbT, iT], .one (.v (.d .bool)), [], [.bool], fun x => ladingref26_True x.1 x.2⟩
noncomputable def env [Fuel] : Env := ⟨Try.prog, [], [ladingref26_Lit.con], [(7, 0)], [], [], [], [], [], []⟩
noncomputable def an : An := .seq .no (.seq (.seq .no (.cond (.seq .no .no) .no)) (.seq .no (.seq .no .no)))
theorem run [Fuel] : RunIs env Try.f62 an con := fun x => by kernel_rfl
theorem ok [Fuel] : ConOK Try.prog con := run_ok (E := env) run mixed Try.func62 (by kernel_rfl) (cons_cons ladingref26_Lit.ok (cons_nil))
end ladingref26_True
namespace ladingref26_Holds
noncomputable def con [Fuel] : Con := ⟨36, [.c (.v (.d (.sl GClauseT))), (aD lbT)], [], [], [(.sl GClauseT), lbT], .one (.v (.d .bool)), [], [.bool], fun x => ladingref26_Holds x.1 x.2⟩
noncomputable def env [Fuel] : Env := ⟨Try.prog, [], [ladingref26_True.con], [(35, 0)], [9], [], [], [], [], []⟩
noncomputable def an : An := .seq .no (.seq (.seq .no (.one (.loop ⟨[(5, (aD iT))], [], [iT]⟩ [0, 1] [] (.seq (.seq .no (.cond .no .no)) (.seq (.one (.seq .no (.join ⟨[(6, .c (.v (.d .bool)))], [], [.bool]⟩ [0, 1, 5] [] true (.seq .no (.one (.loop ⟨[(6, .c (.v (.d .bool))), (7, (aD iT))], [], [.bool, iT]⟩ [0, 1, 5] [] (.seq (.seq .no (.cond .no .no)) (.seq (.one .no) .no))))) (.seq .no (.cond (.seq .no .no) .no))))) .no))))) (.seq .no .no))
theorem run [Fuel] : RunIs env Try.f36 an con := fun x => by kernel_rfl
theorem ok [Fuel] : ConOK Try.prog con := run_ok (E := env) run mixed Try.func36 (by kernel_rfl) (cons_cons ladingref26_True.ok (cons_nil))
end ladingref26_Holds
namespace ladingref30_Check
noncomputable def con [Fuel] : Con := ⟨19, [.c (.v (.d (.sl GClauseT))), (aD iT), .c (.a GRefusalT)], [], [], [(.sl GClauseT), iT, GRefusalT], .one (.v (.d iT)), [], [iT], fun x => ladingref30_Check x.1 x.2.1 x.2.2⟩
noncomputable def env [Fuel] : Env := ⟨Try.prog, [], [ladingref26_Right.con, ladingref30_clauses_v2.con, ladingref26_Proof.con, ladingref26_Holds.con], [(11, 0), (57, 1), (60, 2), (91, 1), (97, 3)], [8, 1000000], [], [], [], [23, 24, 30, 31, 33, 43, 44, 49, 50, 65, 68, 81, 82, 83, 95, 96], [21, 28, 41, 46, 56, 59, 64, 67, 79, 89, 93]⟩
noncomputable def an : An := .seq .no (.seq (.seq .no (.cond (.seq .no .no) .no)) (.join ⟨[], [], []⟩ [0, 1, 5] [5] false (.seq .no (.one (.loop ⟨[(7, (aD iT))], [], [iT]⟩ [0, 1, 5] [5] (.seq (.seq .no (.cond .no .no)) (.seq (.one (.join ⟨[(53, .c (.v (.d .bool)))], [], [.bool]⟩ [0, 1, 5, 7] [5] true .no (.cond (.seq .no .no) .no))) .no))))) (.seq (.join ⟨[(70, .c (.v (.d .bool)))], [], [.bool]⟩ [0, 1, 5] [5] true .no (.cond (.seq .no .no) .no)) (.seq (.seq .no (.one (.loop ⟨[(8, (aD iT))], [], [iT]⟩ [0, 1, 5] [5] (.seq (.seq .no (.cond .no .no)) (.seq (.one (.join ⟨[(99, .c (.v (.d .bool)))], [], [.bool]⟩ [0, 1, 5, 8] [5] true .no (.cond (.seq .no .no) .no))) .no))))) (.seq .no .no)))))
theorem run [Fuel] : RunIs env Try.f19 an con := fun x => by kernel_rfl
theorem ok [Fuel] : ConOK Try.prog con := run_ok (E := env) run mixed Try.func19 (by kernel_rfl) (cons_cons ladingref26_Right.ok (cons_cons ladingref30_clauses_v2.ok (cons_cons ladingref26_Proof.ok (cons_cons ladingref26_Holds.ok (cons_nil)))))
end ladingref30_Check
namespace ladinglaw30_RefuseTells
noncomputable def con [Fuel] : Con := ⟨3, [.c (.v (.d (.sl GClauseT))), (aD iT), (aD liT), (aD lliT), .c (.v (.d (.sl lbT)))], [], [], [(.sl GClauseT), iT, liT, lliT, (.sl lbT)], .one (.v (.d .bool)), [], [.bool], fun x => ladinglaw30_RefuseTells x.1 x.2.1 x.2.2.1 x.2.2.2.1 x.2.2.2.2⟩
noncomputable def env [Fuel] : Env := ⟨Try.prog, [], [ladinglaw30_small.con, ladinglaw30_light.con, ladinglaw30_lists.con, ladinglaw30_models.con, refuse_Core.con, ladingref30_Core.con, ladingref26_Same.con, ladingref30_SameLists.con, ladingref30_SameModels.con, refuse_Facts.con, ladingref30_Facts.con, refuse_Check.con, ladingref30_Check.con], [(17, 0), (19, 1), (32, 2), (37, 3), (44, 4), (50, 5), (61, 6), (68, 7), (75, 8), (84, 9), (87, 10), (88, 6), (97, 11), (104, 12)], [7, 1000000], [], [], [], [], []⟩
noncomputable def an : An := .seq .no (.seq .no (.seq (.join ⟨[(39, .c (.v (.d .bool)))], [], [.bool]⟩ [0, 1, 2, 3, 4, 11] [] true .no (.cond (.seq .no .no) .no)) (.seq .no (.seq .no (.join ⟨[(16, .c (.v (.d .bool)))], [], [.bool]⟩ [0, 1, 2, 3, 4, 11] [] true .no (.seq .no .no))))))
theorem run [Fuel] : RunIs env Try.f3 an con := fun x => by kernel_rfl
theorem ok [Fuel] : ConOK Try.prog con := run_ok (E := env) run mixed Try.func3 (by kernel_rfl) (cons_cons ladinglaw30_small.ok (cons_cons ladinglaw30_light.ok (cons_cons ladinglaw30_lists.ok (cons_cons ladinglaw30_models.ok (cons_cons refuse_Core.ok (cons_cons ladingref30_Core.ok (cons_cons ladingref26_Same.ok (cons_cons ladingref30_SameLists.ok (cons_cons ladingref30_SameModels.ok (cons_cons refuse_Facts.ok (cons_cons ladingref30_Facts.ok (cons_cons refuse_Check.ok (cons_cons ladingref30_Check.ok (cons_nil))))))))))))))
end ladinglaw30_RefuseTells
namespace ladinglaw30_open
noncomputable def con [Fuel] : Con := ⟨21, [.c (.v (.d (.sl GClauseT))), (aD iT)], [], [], [(.sl GClauseT), iT], .one (.v (.d .bool)), [], [.bool], fun x => ladinglaw30_open x.1 x.2⟩
noncomputable def env [Fuel] : Env := ⟨Try.prog, [(53, .bool)], [clause_Holds.con], [(33, 0)], [9], [], [], [], [], []⟩
noncomputable def an : An := .seq .no (.seq (.seq .no (.one (.loop ⟨[(5, (aD iT))], [], [iT]⟩ [0, 1] [] (.seq (.seq .no (.cond .no .no)) (.seq (.one (.seq .no (.join ⟨[(6, .c (.v (.own 500002)))], [(500002, .arr 4 .bool)], [lbT]⟩ [0, 1, 5] [] true (.seq .no (.one (.loop ⟨[(6, .c (.v (.own 500003))), (7, (aD iT))], [(500003, .arr 4 .bool)], [iT, lbT]⟩ [0, 1, 5] [] (.seq (.seq .no (.cond .no .no)) (.seq (.one .no) .no))))) (.seq .no (.cond (.seq .no .no) .no))))) .no))))) (.seq .no .no))
theorem run [Fuel] : RunIs env Try.f21 an con := fun x => by kernel_rfl
theorem ok [Fuel] : ConOK Try.prog con := run_ok (E := env) run mixed Try.func21 (by kernel_rfl) (cons_cons clause_Holds.ok (cons_nil))
end ladinglaw30_open
namespace ladinglaw30_some
noncomputable def con [Fuel] : Con := ⟨41, [.c (.v (.d (.sl GClauseT))), (aD liT), (aD iT)], [], [], [(.sl GClauseT), liT, iT], .one (.v (.d (.sl GClauseT))), [], [(.sl GClauseT)], fun x => ladinglaw30_some x.1 x.2.1 x.2.2⟩
noncomputable def env [Fuel] : Env := ⟨Try.prog, [(22, GClauseT)], [], [], [1000000], [], [], [42], [], []⟩
noncomputable def an : An := .seq .no (.seq .no (.seq (.seq .no (.one (.loop ⟨[(7, .c (.v (.own 500002))), (8, (aD iT))], [(500002, .arr 49 GClauseT)], [iT, (.sl GClauseT)]⟩ [0, 1, 2] [] (.seq (.seq .no (.cond .no .no)) (.seq (.one (.join ⟨[(33, .c (.v (.d .bool)))], [], [.bool]⟩ [0, 1, 2, 7, 8] [500002] true .no (.cond .no .no))) .no))))) (.seq .no .no)))
theorem run [Fuel] : RunIs env Try.f41 an con := fun x => by kernel_rfl
theorem ok [Fuel] : ConOK Try.prog con := run_ok (E := env) run mixed Try.func41 (by kernel_rfl) (cons_nil)
end ladinglaw30_some
namespace ladinglaw30_minimal
noncomputable def con [Fuel] : Con := ⟨22, [.c (.v (.d (.sl GClauseT))), (aD iT), (aD liT)], [], [], [(.sl GClauseT), iT, liT], .one (.v (.d .bool)), [], [.bool], fun x => ladinglaw30_minimal x.1 x.2.1 x.2.2⟩
noncomputable def env [Fuel] : Env := ⟨Try.prog, [], [ladinglaw30_some.con, ladinglaw30_open.con], [(10, 0), (12, 1), (53, 0), (55, 1)], [1000000], [], [], [], [21, 22, 27, 28, 30, 39, 40, 44, 45], []⟩
noncomputable def an : An := .seq .no (.seq (.seq .no (.cond (.seq .no .no) .no)) (.seq (.seq .no (.one (.loop ⟨[(7, (aD iT))], [], [iT]⟩ [0, 1, 2] [] (.seq (.seq .no (.cond .no .no)) (.seq (.one (.join ⟨[(57, .c (.v (.d .bool)))], [], [.bool]⟩ [0, 1, 2, 7] [] true .no (.cond (.seq .no .no) .no))) .no))))) (.seq .no .no)))
theorem run [Fuel] : RunIs env Try.f22 an con := fun x => by kernel_rfl
theorem ok [Fuel] : ConOK Try.prog con := run_ok (E := env) run mixed Try.func22 (by kernel_rfl) (cons_cons ladinglaw30_some.ok (cons_cons ladinglaw30_open.ok (cons_nil)))
end ladinglaw30_minimal
namespace ladinglaw30_RefuseLeast
noncomputable def con [Fuel] : Con := ⟨4, [.c (.v (.d (.sl GClauseT))), (aD iT)], [], [], [(.sl GClauseT), iT], .one (.v (.d .bool)), [], [.bool], fun x => ladinglaw30_RefuseLeast x.1 x.2⟩
noncomputable def env [Fuel] : Env := ⟨Try.prog, [], [ladinglaw30_small.con, ladinglaw30_light.con, clause_Right.con, refuse_Core.con, ladinglaw30_open.con, ladinglaw30_minimal.con, refuse_Check.con, refuse_Facts.con], [(13, 0), (15, 1), (28, 2), (35, 3), (40, 4), (71, 5), (78, 6), (84, 7)], [19, 1000000], [], [], [], [104, 105, 106, 109, 112, 113, 121, 122, 131, 132, 136, 137], [102]⟩
noncomputable def an : An := .seq .no (.seq .no (.seq (.join ⟨[(30, .c (.v (.d .bool)))], [], [.bool]⟩ [0, 1, 5] [] true .no (.cond (.seq .no .no) .no)) (.seq .no (.seq .no (.seq (.seq .no (.cond (.seq .no .no) .no)) (.seq (.join ⟨[(80, .c (.v (.d .bool)))], [], [.bool]⟩ [0, 5, 6] [6] true .no (.cond (.seq .no .no) .no)) (.seq .no (.seq (.seq .no (.one (.loop ⟨[(10, (aD iT))], [], [iT]⟩ [0, 5, 6, 9] [6] (.seq (.seq .no (.cond .no .no)) (.seq (.one (.seq .no (.join ⟨[(11, .c (.v (.d .bool)))], [], [.bool]⟩ [0, 5, 6, 9, 10] [6] true (.seq .no (.one (.loop ⟨[(11, .c (.v (.d .bool))), (12, (aD iT))], [], [.bool, iT]⟩ [0, 5, 6, 9, 10] [6] (.seq (.seq .no (.cond .no .no)) (.seq (.one .no) .no))))) (.join ⟨[(140, .c (.v (.d .bool)))], [], [.bool]⟩ [0, 5, 6, 9, 10] [6] true .no (.cond (.seq .no .no) .no))))) .no))))) (.seq .no .no)))))))))
theorem run [Fuel] : RunIs env Try.f4 an con := fun x => by kernel_rfl
theorem ok [Fuel] : ConOK Try.prog con := run_ok (E := env) run mixed Try.func4 (by kernel_rfl) (cons_cons ladinglaw30_small.ok (cons_cons ladinglaw30_light.ok (cons_cons clause_Right.ok (cons_cons refuse_Core.ok (cons_cons ladinglaw30_open.ok (cons_cons ladinglaw30_minimal.ok (cons_cons refuse_Check.ok (cons_cons refuse_Facts.ok (cons_nil)))))))))
end ladinglaw30_RefuseLeast
namespace ladinglaw30_RefuseChecks
noncomputable def con [Fuel] : Con := ⟨5, [.c (.v (.d (.sl GClauseT))), (aD iT), (aD liT), (aD lliT), .c (.v (.d (.sl lbT))), (aD iT)], [], [], [(.sl GClauseT), iT, liT, lliT, (.sl lbT), iT], .one (.v (.d .bool)), [], [.bool], fun x => ladinglaw30_RefuseChecks x.1 x.2.1 x.2.2.1 x.2.2.2.1 x.2.2.2.2.1 x.2.2.2.2.2⟩
noncomputable def env [Fuel] : Env := ⟨Try.prog, [(23, iT), (25, lbT)], [ladinglaw30_small.con, ladinglaw30_light.con, clause_Right.con, ladinglaw30_lists.con, ladinglaw30_models.con, refuse_Check.con, ladinglaw30_minimal.con], [(17, 0), (19, 1), (32, 2), (42, 3), (47, 4), (58, 5), (64, 6), (117, 5), (124, 5)], [1000000], [], [], [], [90, 95, 101, 106], []⟩
noncomputable def an : An := .seq .no (.seq .no (.seq (.join ⟨[(49, .c (.v (.d .bool)))], [], [.bool]⟩ [0, 1, 2, 3, 4, 5, 13] [] true .no (.cond (.seq .no .no) .no)) (.seq .no (.seq (.seq .no (.cond (.seq .no .no) .no)) (.seq (.join ⟨[(77, .c (.v (.d .bool)))], [], [.bool]⟩ [0, 1, 2, 3, 4, 5, 13] [] true .no (.cond (.seq .no .no) .no)) (.seq (.join ⟨[(85, .c (.v (.d .bool)))], [], [.bool]⟩ [0, 1, 2, 3, 4, 5, 13] [] true .no (.cond (.seq .no .no) .no)) (.seq .no (.seq .no (.seq .no .no)))))))))
theorem run [Fuel] : RunIs env Try.f5 an con := fun x => by kernel_rfl
theorem ok [Fuel] : ConOK Try.prog con := run_ok (E := env) run mixed Try.func5 (by kernel_rfl) (cons_cons ladinglaw30_small.ok (cons_cons ladinglaw30_light.ok (cons_cons clause_Right.ok (cons_cons ladinglaw30_lists.ok (cons_cons ladinglaw30_models.ok (cons_cons refuse_Check.ok (cons_cons ladinglaw30_minimal.ok (cons_nil))))))))
end ladinglaw30_RefuseChecks
namespace ladinglaw30_RefuseBehind
noncomputable def con [Fuel] : Con := ⟨6, [.c (.v (.d (.sl GClauseT))), .c (.v (.d (.sl GClauseT))), (aD iT)], [], [], [(.sl GClauseT), (.sl GClauseT), iT], .one (.v (.d .bool)), [], [.bool], fun x => ladinglaw30_RefuseBehind x.1 x.2.1 x.2.2⟩
noncomputable def env [Fuel] : Env := ⟨Try.prog, [(22, GClauseT)], [ladinglaw30_small.con, ladinglaw30_light.con, clause_Right.con, refuse_Core.con, ladingref26_Same.con], [(13, 0), (20, 1), (24, 1), (38, 2), (45, 3), (51, 3), (85, 4)], [1000000], [], [51], [], [], []⟩
noncomputable def an : An := .seq .no (.seq .no (.seq .no (.seq (.join ⟨[(40, .c (.v (.d .bool)))], [], [.bool]⟩ [0, 2, 7, 8] [18] true .no (.cond (.seq .no .no) .no)) (.seq .no (.seq .no (.seq (.seq .no (.cond (.seq .no .no) .no)) (.seq .no .no)))))))
theorem run [Fuel] : RunIs env Try.f6 an con := fun x => by kernel_rfl
theorem ok [Fuel] : ConOK Try.prog con := run_ok (E := env) run mixed Try.func6 (by kernel_rfl) (cons_cons ladinglaw30_small.ok (cons_cons ladinglaw30_light.ok (cons_cons clause_Right.ok (cons_cons refuse_Core.ok (cons_cons ladingref26_Same.ok (cons_nil))))))
end ladinglaw30_RefuseBehind
end Go.Proofs.Ythibbellkcdodaa
