/-
  The code is they.
-/
import Derived.Test.YtimiahoaafjmmaaPModel
import Derived.Test.YtimiahoaafjmmaaD12
namespace Go.Proofs.Ytimiahoaafjmmaa
open Go.Lad
set_option linter.unusedVariables false
set_option maxRecDepth 100000
theorem mixed : Try.prog.follows .mixedOrders = true := by kernel_rfl
noncomputable abbrev iT : Ty := .int .i64
noncomputable abbrev liT : Ty := .sl iT
noncomputable abbrev lliT : Ty := .sl liT
noncomputable abbrev lbT : Ty := .sl .bool
noncomputable abbrev aD (t : Ty) : SSh := .c (.v (.d t))
noncomputable def GWhyT : Ty := (.pair iT (.pair iT iT))
noncomputable def GClauseT : Ty := (.pair liT GWhyT)
namespace ladinglaw28_or
noncomputable def con [Fuel] : Con := ⟨23, [(aD iT), (aD iT)], [], [], [iT, iT], .one (.a GClauseT), [], [GClauseT], fun x => ladinglaw28_or x.1 x.2⟩
noncomputable def env [Fuel] : Env := ⟨Try.prog, [(23, iT)], [], [], [], [], [], [7], [], []⟩
noncomputable def an : An := .seq .no (.seq .no .no)
theorem run [Fuel] : RunIs env Try.f23 an con := fun x => by kernel_rfl
theorem ok [Fuel] : ConOK Try.prog con := run_ok (E := env) run mixed Try.func23 (by kernel_rfl) (cons_nil)
end ladinglaw28_or
namespace clause_Right_1_1
noncomputable def con [Fuel] : Con := ⟨40, [(aD iT), .c (.v (.loc 1000000 0))], [(1000000, .box 3 [.d iT])], [], [iT, iT], .one (.v (.d .bool)), [], [.bool], fun x => clause_Right_1_1 x.1 x.2⟩
noncomputable def env [Fuel] : Env := ⟨Try.prog, [], [], [], [], [], [], [], [], []⟩
noncomputable def an : An := .seq .no (.seq .no .no)
theorem run [Fuel] : RunIs env Try.f40 an con := fun x => by kernel_rfl
theorem ok [Fuel] : ConOK Try.prog con := run_ok (E := env) run mixed Try.func40 (by kernel_rfl) (cons_nil)
end clause_Right_1_1
namespace slices_IndexFunc_int_int
noncomputable def con [Fuel] : Con := ⟨60, [(aD liT), .c (.v (.fn 80 [1000000]))], [(1000000, .box 3 [.d iT])], [], [liT, iT], .one (.v (.d iT)), [], [iT], fun x => slices_IndexFunc_int_int x.1 x.2⟩
noncomputable def env [Fuel] : Env := ⟨Try.prog, [], [clause_Right_1_1.con], [(16, 0)], [], [16], [], [], [], []⟩
noncomputable def an : An := .seq .no (.seq (.seq .no (.one (.loop ⟨[(8, (aD iT))], [], [iT]⟩ [0, 1, 7] [1000000] (.seq .no (.seq (.cond .no .no) (.seq (.one (.seq .no (.seq .no (.cond (.seq .no .no) .no)))) .no)))))) (.seq .no .no))
theorem run [Fuel] : RunIs env Try.f60 an con := fun x => by kernel_rfl
theorem ok [Fuel] : ConOK Try.prog con := run_ok (E := env) run mixed Try.func60 (by kernel_rfl) (cons_cons clause_Right_1_1.ok (cons_nil))
end slices_IndexFunc_int_int
namespace slices_ContainsFunc_int_int
noncomputable def con [Fuel] : Con := ⟨39, [(aD liT), .c (.v (.fn 80 [1000000]))], [(1000000, .box 3 [.d iT])], [], [liT, iT], .one (.v (.d .bool)), [], [.bool], fun x => slices_ContainsFunc_int_int x.1 x.2⟩
noncomputable def env [Fuel] : Env := ⟨Try.prog, [], [slices_IndexFunc_int_int.con], [(7, 0)], [], [7], [], [], [], []⟩
noncomputable def an : An := .seq .no (.seq .no .no)
theorem run [Fuel] : RunIs env Try.f39 an con := fun x => by kernel_rfl
theorem ok [Fuel] : ConOK Try.prog con := run_ok (E := env) run mixed Try.func39 (by kernel_rfl) (cons_cons slices_IndexFunc_int_int.ok (cons_nil))
end slices_ContainsFunc_int_int
namespace clause_Right_1
noncomputable def con [Fuel] : Con := ⟨38, [.c (.a GClauseT), .c (.v (.loc 1000000 0))], [(1000000, .box 3 [.d iT])], [], [GClauseT, iT], .one (.v (.d .bool)), [], [.bool], fun x => clause_Right_1 x.1 x.2⟩
noncomputable def env [Fuel] : Env := ⟨Try.prog, [], [slices_ContainsFunc_int_int.con], [(7, 0)], [], [7], [], [], [], []⟩
noncomputable def an : An := .seq .no (.seq .no .no)
theorem run [Fuel] : RunIs env Try.f38 an con := fun x => by kernel_rfl
theorem ok [Fuel] : ConOK Try.prog con := run_ok (E := env) run mixed Try.func38 (by kernel_rfl) (cons_cons slices_ContainsFunc_int_int.ok (cons_nil))
end clause_Right_1
namespace slices_IndexFunc_api_Clause_api_Clause
noncomputable def con [Fuel] : Con := ⟨59, [.c (.v (.d (.sl GClauseT))), .c (.v (.fn 76 [1000000]))], [(1000000, .box 3 [.d iT])], [], [(.sl GClauseT), iT], .one (.v (.d iT)), [], [iT], fun x => slices_IndexFunc_api_Clause_api_Clause x.1 x.2⟩
noncomputable def env [Fuel] : Env := ⟨Try.prog, [], [clause_Right_1.con], [(16, 0)], [], [16], [], [], [], []⟩
noncomputable def an : An := .seq .no (.seq (.seq .no (.one (.loop ⟨[(8, (aD iT))], [], [iT]⟩ [0, 1, 7] [1000000] (.seq .no (.seq (.cond .no .no) (.seq (.one (.seq .no (.seq .no (.cond (.seq .no .no) .no)))) .no)))))) (.seq .no .no))
theorem run [Fuel] : RunIs env Try.f59 an con := fun x => by kernel_rfl
theorem ok [Fuel] : ConOK Try.prog con := run_ok (E := env) run mixed Try.func59 (by kernel_rfl) (cons_cons clause_Right_1.ok (cons_nil))
end slices_IndexFunc_api_Clause_api_Clause
namespace slices_ContainsFunc_api_Clause_api_Clause
noncomputable def con [Fuel] : Con := ⟨37, [.c (.v (.d (.sl GClauseT))), .c (.v (.fn 76 [1000000]))], [(1000000, .box 3 [.d iT])], [], [(.sl GClauseT), iT], .one (.v (.d .bool)), [], [.bool], fun x => slices_ContainsFunc_api_Clause_api_Clause x.1 x.2⟩
noncomputable def env [Fuel] : Env := ⟨Try.prog, [], [slices_IndexFunc_api_Clause_api_Clause.con], [(7, 0)], [], [7], [], [], [], []⟩
noncomputable def an : An := .seq .no (.seq .no .no)
theorem run [Fuel] : RunIs env Try.f37 an con := fun x => by kernel_rfl
theorem ok [Fuel] : ConOK Try.prog con := run_ok (E := env) run mixed Try.func37 (by kernel_rfl) (cons_cons slices_IndexFunc_api_Clause_api_Clause.ok (cons_nil))
end slices_ContainsFunc_api_Clause_api_Clause
namespace clause_Right
noncomputable def con [Fuel] : Con := ⟨19, [.c (.v (.d (.sl GClauseT))), (aD iT)], [], [], [(.sl GClauseT), iT], .one (.v (.d .bool)), [], [.bool], fun x => clause_Right x.1 x.2⟩
noncomputable def env [Fuel] : Env := ⟨Try.prog, [], [slices_ContainsFunc_api_Clause_api_Clause.con], [(18, 0)], [1000000], [18], [], [], [], []⟩
noncomputable def an : An := .seq .no (.seq (.join ⟨[(15, .c (.v (.d .bool)))], [], [.bool]⟩ [0, 3] [3] true .no (.cond (.seq .no .no) .no)) (.seq .no .no))
theorem run [Fuel] : RunIs env Try.f19 an con := fun x => by kernel_rfl
theorem ok [Fuel] : ConOK Try.prog con := run_ok (E := env) run mixed Try.func19 (by kernel_rfl) (cons_cons slices_ContainsFunc_api_Clause_api_Clause.ok (cons_nil))
end clause_Right
namespace prefer_right_1
noncomputable def con [Fuel] : Con := ⟨41, [(aD iT), .c (.v (.loc 1000000 0))], [(1000000, .box 3 [.d iT])], [], [iT, iT], .one (.v (.d .bool)), [], [.bool], fun x => prefer_right_1 x.1 x.2⟩
noncomputable def env [Fuel] : Env := ⟨Try.prog, [], [], [], [], [], [], [], [], []⟩
noncomputable def an : An := .seq .no (.seq .no .no)
theorem run [Fuel] : RunIs env Try.f41 an con := fun x => by kernel_rfl
theorem ok [Fuel] : ConOK Try.prog con := run_ok (E := env) run mixed Try.func41 (by kernel_rfl) (cons_nil)
end prefer_right_1
namespace slices_IndexFunc_int_int_v2
noncomputable def con [Fuel] : Con := ⟨60, [(aD liT), .c (.v (.fn 82 [1000000]))], [(1000000, .box 3 [.d iT])], [], [liT, iT], .one (.v (.d iT)), [], [iT], fun x => slices_IndexFunc_int_int_v2 x.1 x.2⟩
noncomputable def env [Fuel] : Env := ⟨Try.prog, [], [prefer_right_1.con], [(16, 0)], [], [16], [], [], [], []⟩
noncomputable def an : An := .seq .no (.seq (.seq .no (.one (.loop ⟨[(8, (aD iT))], [], [iT]⟩ [0, 1, 7] [1000000] (.seq .no (.seq (.cond .no .no) (.seq (.one (.seq .no (.seq .no (.cond (.seq .no .no) .no)))) .no)))))) (.seq .no .no))
theorem run [Fuel] : RunIs env Try.f60 an con := fun x => by kernel_rfl
theorem ok [Fuel] : ConOK Try.prog con := run_ok (E := env) run mixed Try.func60 (by kernel_rfl) (cons_cons prefer_right_1.ok (cons_nil))
end slices_IndexFunc_int_int_v2
namespace slices_ContainsFunc_int_int_v2
noncomputable def con [Fuel] : Con := ⟨39, [(aD liT), .c (.v (.fn 82 [1000000]))], [(1000000, .box 3 [.d iT])], [], [liT, iT], .one (.v (.d .bool)), [], [.bool], fun x => slices_ContainsFunc_int_int_v2 x.1 x.2⟩
noncomputable def env [Fuel] : Env := ⟨Try.prog, [], [slices_IndexFunc_int_int_v2.con], [(7, 0)], [], [7], [], [], [], []⟩
noncomputable def an : An := .seq .no (.seq .no .no)
theorem run [Fuel] : RunIs env Try.f39 an con := fun x => by kernel_rfl
theorem ok [Fuel] : ConOK Try.prog con := run_ok (E := env) run mixed Try.func39 (by kernel_rfl) (cons_cons slices_IndexFunc_int_int_v2.ok (cons_nil))
end slices_ContainsFunc_int_int_v2
namespace prefer_right
noncomputable def con [Fuel] : Con := ⟨25, [.c (.v (.d (.sl GClauseT))), (aD iT), (aD liT)], [], [], [(.sl GClauseT), iT, liT], .one (.v (.d .bool)), [], [.bool], fun x => prefer_right x.1 x.2.1 x.2.2⟩
noncomputable def env [Fuel] : Env := ⟨Try.prog, [], [clause_Right.con, slices_ContainsFunc_int_int_v2.con], [(9, 0), (18, 1)], [1000000], [18], [], [], [], []⟩
noncomputable def an : An := .seq .no (.seq (.join ⟨[(15, .c (.v (.d .bool)))], [], [.bool]⟩ [2, 4] [4] true .no (.cond (.seq .no .no) .no)) (.seq .no .no))
theorem run [Fuel] : RunIs env Try.f25 an con := fun x => by kernel_rfl
theorem ok [Fuel] : ConOK Try.prog con := run_ok (E := env) run mixed Try.func25 (by kernel_rfl) (cons_cons clause_Right.ok (cons_cons slices_ContainsFunc_int_int_v2.ok (cons_nil)))
end prefer_right
namespace solve_Solve_1
noncomputable def con [Fuel] : Con := ⟨42, [(aD iT), .c (.v (.loc 1000000 0))], [(1000000, .box 3 [.d iT])], [], [iT, iT], .one (.v (.d .bool)), [], [.bool], fun x => solve_Solve_1 x.1 x.2⟩
noncomputable def env [Fuel] : Env := ⟨Try.prog, [], [], [], [], [], [], [], [], []⟩
noncomputable def an : An := .seq .no (.seq .no .no)
theorem run [Fuel] : RunIs env Try.f42 an con := fun x => by kernel_rfl
theorem ok [Fuel] : ConOK Try.prog con := run_ok (E := env) run mixed Try.func42 (by kernel_rfl) (cons_nil)
end solve_Solve_1
namespace slices_IndexFunc_int_int_v3
noncomputable def con [Fuel] : Con := ⟨60, [(aD liT), .c (.v (.fn 84 [1000000]))], [(1000000, .box 3 [.d iT])], [], [liT, iT], .one (.v (.d iT)), [], [iT], fun x => slices_IndexFunc_int_int_v3 x.1 x.2⟩
noncomputable def env [Fuel] : Env := ⟨Try.prog, [], [solve_Solve_1.con], [(16, 0)], [], [16], [], [], [], []⟩
noncomputable def an : An := .seq .no (.seq (.seq .no (.one (.loop ⟨[(8, (aD iT))], [], [iT]⟩ [0, 1, 7] [1000000] (.seq .no (.seq (.cond .no .no) (.seq (.one (.seq .no (.seq .no (.cond (.seq .no .no) .no)))) .no)))))) (.seq .no .no))
theorem run [Fuel] : RunIs env Try.f60 an con := fun x => by kernel_rfl
theorem ok [Fuel] : ConOK Try.prog con := run_ok (E := env) run mixed Try.func60 (by kernel_rfl) (cons_cons solve_Solve_1.ok (cons_nil))
end slices_IndexFunc_int_int_v3
namespace slices_ContainsFunc_int_int_v3
noncomputable def con [Fuel] : Con := ⟨39, [(aD liT), .c (.v (.fn 84 [1000000]))], [(1000000, .box 3 [.d iT])], [], [liT, iT], .one (.v (.d .bool)), [], [.bool], fun x => slices_ContainsFunc_int_int_v3 x.1 x.2⟩
noncomputable def env [Fuel] : Env := ⟨Try.prog, [], [slices_IndexFunc_int_int_v3.con], [(7, 0)], [], [7], [], [], [], []⟩
noncomputable def an : An := .seq .no (.seq .no .no)
theorem run [Fuel] : RunIs env Try.f39 an con := fun x => by kernel_rfl
theorem ok [Fuel] : ConOK Try.prog con := run_ok (E := env) run mixed Try.func39 (by kernel_rfl) (cons_cons slices_IndexFunc_int_int_v3.ok (cons_nil))
end slices_ContainsFunc_int_int_v3
namespace slices_Clone_api_Clause_api_Clause
noncomputable def con [Fuel] : Con := ⟨33, [.c (.v (.d (.sl GClauseT)))], [], [], [(.sl GClauseT)], .one (.v (.own 0)), [(0, .arr 47 GClauseT)], [(.sl GClauseT)], fun x => slices_Clone_api_Clause_api_Clause x⟩
noncomputable def env [Fuel] : Env := ⟨Try.prog, [(22, GClauseT)], [], [], [], [], [], [], [], []⟩
noncomputable def an : An := .seq .no (.seq (.seq .no (.cond (.seq .no .no) .no)) (.seq .no .no))
theorem run [Fuel] : RunIs env Try.f33 an con := fun x => by kernel_rfl
theorem ok [Fuel] : ConOK Try.prog con := run_ok (E := env) run mixed Try.func33 (by kernel_rfl) (cons_nil)
end slices_Clone_api_Clause_api_Clause
namespace slices_Grow_int_int
noncomputable def con [Fuel] : Con := ⟨62, [.c (.v (.nil)), (aD iT)], [], [], [iT], .one (.v (.own 0)), [(0, .arr 3 iT)], [liT], fun x => slices_Grow_int_int x⟩
noncomputable def env [Fuel] : Env := ⟨Try.prog, [(23, iT)], [], [], [], [], [], [25], [], []⟩
noncomputable def an : An := .seq .no (.seq (.seq .no (.cond .no .no)) (.seq (.seq .no (.seq .no (.cond .no .no))) (.seq .no .no)))
theorem run [Fuel] : RunIs env Try.f62 an con := fun x => by kernel_rfl
theorem ok [Fuel] : ConOK Try.prog con := run_ok (E := env) run mixed Try.func62 (by kernel_rfl) (cons_nil)
end slices_Grow_int_int
namespace slices_Concat_int_int
noncomputable def con [Fuel] : Con := ⟨44, [(aD lliT)], [], [], [lliT], .one (.v (.own 0)), [(0, .arr 3 iT)], [liT], fun x => slices_Concat_int_int x⟩
noncomputable def env [Fuel] : Env := ⟨Try.prog, [], [slices_Grow_int_int.con], [(24, 0)], [9], [], [], [], [], []⟩
noncomputable def an : An := .seq .no (.seq .no (.join ⟨[(3, (aD iT))], [], [iT]⟩ [0] [] true (.seq .no (.one (.loop ⟨[(3, (aD iT)), (11, (aD iT))], [], [iT, iT]⟩ [0, 9, 10] [] (.seq .no (.seq (.cond .no .no) (.seq (.one (.seq .no (.seq .no (.seq .no (.cond .no .no))))) .no)))))) (.seq .no (.seq (.seq .no (.one (.loop ⟨[(6, .c (.v (.own 500001))), (27, (aD iT))], [(500001, .arr 3 iT)], [iT, liT]⟩ [25, 26] [] (.seq .no (.seq (.cond .no .no) (.seq (.one (.seq .no .no)) .no)))))) (.seq .no .no)))))
theorem run [Fuel] : RunIs env Try.f44 an con := fun x => by kernel_rfl
theorem ok [Fuel] : ConOK Try.prog con := run_ok (E := env) run mixed Try.func44 (by kernel_rfl) (cons_cons slices_Grow_int_int.ok (cons_nil))
end slices_Concat_int_int
namespace clause_lit
noncomputable def con [Fuel] : Con := ⟨52, [(aD iT)], [], [], [iT], .one (.v (.d .bool)), [], [.bool], fun x => clause_lit x⟩
noncomputable def env [Fuel] : Env := ⟨Try.prog, [], [], [], [], [], [], [], [], []⟩
noncomputable def an : An := .seq .no (.seq .no .no)
theorem run [Fuel] : RunIs env Try.f52 an con := fun x => by kernel_rfl
theorem ok [Fuel] : ConOK Try.prog con := run_ok (E := env) run mixed Try.func52 (by kernel_rfl) (cons_nil)
end clause_lit
namespace slices_Index_int_int
noncomputable def con [Fuel] : Con := ⟨73, [(aD liT), (aD iT)], [], [], [liT, iT], .one (.v (.d iT)), [], [iT], fun x => slices_Index_int_int x.1 x.2⟩
noncomputable def env [Fuel] : Env := ⟨Try.prog, [], [], [], [], [], [], [], [], []⟩
noncomputable def an : An := .seq .no (.seq (.seq .no (.one (.loop ⟨[(8, (aD iT))], [], [iT]⟩ [0, 1, 7] [] (.seq .no (.seq (.cond .no .no) (.seq (.one (.seq .no (.seq .no (.cond (.seq .no .no) .no)))) .no)))))) (.seq .no .no))
theorem run [Fuel] : RunIs env Try.f73 an con := fun x => by kernel_rfl
theorem ok [Fuel] : ConOK Try.prog con := run_ok (E := env) run mixed Try.func73 (by kernel_rfl) (cons_nil)
end slices_Index_int_int
namespace slices_Contains_int_int
noncomputable def con [Fuel] : Con := ⟨66, [(aD liT), (aD iT)], [], [], [liT, iT], .one (.v (.d .bool)), [], [.bool], fun x => slices_Contains_int_int x.1 x.2⟩
noncomputable def env [Fuel] : Env := ⟨Try.prog, [], [slices_Index_int_int.con], [(7, 0)], [], [], [], [], [], []⟩
noncomputable def an : An := .seq .no (.seq .no .no)
theorem run [Fuel] : RunIs env Try.f66 an con := fun x => by kernel_rfl
theorem ok [Fuel] : ConOK Try.prog con := run_ok (E := env) run mixed Try.func66 (by kernel_rfl) (cons_cons slices_Index_int_int.ok (cons_nil))
end slices_Contains_int_int
namespace clause_base_add_v2
noncomputable def con [Fuel] : Con := ⟨55, [.c (.v (.loc 1000000 0)), (aD liT)], [], [(1000000, .box 86 [.own 1000001, .mp 1000002]), (1000001, .arr 23 liT), (1000002, .mapL .i64 3 iT)], [liT, lliT, (.map .i64 iT)], .tup [], [(1000000, .box 86 [.own 0, .mp 1000002]), (0, .arr 23 liT), (1000001, .gone), (1000002, .mapL .i64 3 iT)], [lliT, (.map .i64 iT)], fun x => clause_base_add_v2 x.1 x.2.1 x.2.2⟩
noncomputable def env [Fuel] : Env := ⟨Try.prog, [(23, iT), (51, liT)], [clause_lit.con, slices_Contains_int_int.con], [(14, 0), (18, 1)], [1000000], [], [50], [23, 35, 41], [], [28, 33, 39, 40]⟩
noncomputable def an : An := .seq .no (.seq (.seq .no (.one (.loop ⟨[(0, .c (.v (.loc 1000000 0))), (4, .c (.v (.own 500002))), (9, (aD iT))], [(1000000, .box 86 [.own 1000001, .mp 1000002]), (500002, .arr 3 iT), (1000002, .mapL .i64 3 iT), (1000001, .arr 23 liT)], [iT, liT, (.map .i64 iT), lliT]⟩ [7, 8] [] (.seq .no (.seq (.cond .no .no) (.seq (.one (.seq .no (.join ⟨[(20, .c (.v (.d .bool)))], [], [.bool]⟩ [0, 4, 6, 7, 8, 9] [500002, 1000000, 1000001, 1000002] true .no (.cond (.seq .no .no) .no)))) .no)))))) .no)
theorem run [Fuel] : RunIs env Try.f55 an con := fun x => by kernel_rfl
theorem ok [Fuel] : ConOK Try.prog con := run_ok (E := env) run mixed Try.func55 (by kernel_rfl) (cons_cons clause_lit.ok (cons_cons slices_Contains_int_int.ok (cons_nil)))
end clause_base_add_v2
namespace clause_load
noncomputable def con [Fuel] : Con := ⟨53, [.c (.v (.d (.sl GClauseT)))], [], [], [(.sl GClauseT)], .one (.v (.loc 0 0)), [(0, .box 86 [.own 1, .mp 2]), (1, .arr 23 liT), (2, .mapL .i64 3 iT)], [lliT, (.map .i64 iT)], fun x => clause_load x⟩
noncomputable def env [Fuel] : Env := ⟨Try.prog, [(84, iT)], [clause_base_add_v2.con], [(18, 0)], [], [18], [], [6], [], []⟩
noncomputable def an : An := .seq .no (.seq .no (.seq (.seq .no (.one (.loop ⟨[(3, .c (.v (.loc 500006 0))), (11, (aD iT))], [(500006, .box 86 [.own 500007, .mp 500008]), (500007, .arr 23 liT), (500008, .mapL .i64 3 iT)], [iT, lliT, (.map .i64 iT)]⟩ [9, 10] [] (.seq .no (.seq (.cond .no .no) (.seq (.one (.seq .no .no)) .no)))))) (.seq .no .no)))
theorem run [Fuel] : RunIs env Try.f53 an con := fun x => by kernel_rfl
theorem ok [Fuel] : ConOK Try.prog con := run_ok (E := env) run mixed Try.func53 (by kernel_rfl) (cons_cons clause_base_add_v2.ok (cons_nil))
end clause_load
namespace slices_Clone_int_int
noncomputable def con [Fuel] : Con := ⟨27, [(aD liT)], [], [], [liT], .one (.v (.own 0)), [(0, .arr 3 iT)], [liT], fun x => slices_Clone_int_int x⟩
noncomputable def env [Fuel] : Env := ⟨Try.prog, [(23, iT)], [], [], [], [], [], [], [], []⟩
noncomputable def an : An := .seq .no (.seq (.seq .no (.cond (.seq .no .no) .no)) (.seq .no .no))
theorem run [Fuel] : RunIs env Try.f27 an con := fun x => by kernel_rfl
theorem ok [Fuel] : ConOK Try.prog con := run_ok (E := env) run mixed Try.func27 (by kernel_rfl) (cons_nil)
end slices_Clone_int_int
namespace clause_base_close_1
noncomputable def con [Fuel] : Con := ⟨68, [(aD iT)], [], [], [iT], .one (.v (.d .bool)), [], [.bool], fun x => clause_base_close_1 x⟩
noncomputable def env [Fuel] : Env := ⟨Try.prog, [], [clause_lit.con], [(4, 0)], [], [], [], [], [], []⟩
noncomputable def an : An := .seq .no (.seq .no .no)
theorem run [Fuel] : RunIs env Try.f68 an con := fun x => by kernel_rfl
theorem ok [Fuel] : ConOK Try.prog con := run_ok (E := env) run mixed Try.func68 (by kernel_rfl) (cons_cons clause_lit.ok (cons_nil))
end clause_base_close_1
namespace slices_IndexFunc_int_int_v4
noncomputable def con [Fuel] : Con := ⟨60, [(aD liT), .c (.v (.fn 136 []))], [], [], [liT], .one (.v (.d iT)), [], [iT], fun x => slices_IndexFunc_int_int_v4 x⟩
noncomputable def env [Fuel] : Env := ⟨Try.prog, [], [clause_base_close_1.con], [(16, 0)], [], [], [], [], [], []⟩
noncomputable def an : An := .seq .no (.seq (.seq .no (.one (.loop ⟨[(8, (aD iT))], [], [iT]⟩ [0, 1, 7] [] (.seq .no (.seq (.cond .no .no) (.seq (.one (.seq .no (.seq .no (.cond (.seq .no .no) .no)))) .no)))))) (.seq .no .no))
theorem run [Fuel] : RunIs env Try.f60 an con := fun x => by kernel_rfl
theorem ok [Fuel] : ConOK Try.prog con := run_ok (E := env) run mixed Try.func60 (by kernel_rfl) (cons_cons clause_base_close_1.ok (cons_nil))
end slices_IndexFunc_int_int_v4
namespace slices_DeleteFunc_int_int
noncomputable def con [Fuel] : Con := ⟨67, [.c (.v (.own 1000000)), .c (.v (.fn 136 []))], [], [(1000000, .arr 3 iT)], [liT], .one (.v (.own 0)), [(0, .arr 3 iT), (1000000, .gone)], [liT], fun x => slices_DeleteFunc_int_int x⟩
noncomputable def env [Fuel] : Env := ⟨Try.prog, [], [slices_IndexFunc_int_int_v4.con, clause_base_close_1.con], [(10, 0), (28, 1)], [], [], [], [41], [], []⟩
noncomputable def an : An := .seq .no (.seq .no (.seq (.seq .no (.cond (.seq .no .no) .no)) (.seq (.seq .no (.one (.loop ⟨[(0, .c (.v (.own 1000000))), (5, (aD iT)), (6, (aD iT))], [(1000000, .arr 3 iT)], [iT, iT, liT]⟩ [1] [] (.seq (.seq .no (.cond .no .no)) (.seq (.one (.seq .no (.seq .no (.cond (.seq .no .no) .no)))) .no))))) (.seq .no (.seq .no .no)))))
theorem run [Fuel] : RunIs env Try.f67 an con := fun x => by kernel_rfl
theorem ok [Fuel] : ConOK Try.prog con := run_ok (E := env) run mixed Try.func67 (by kernel_rfl) (cons_cons slices_IndexFunc_int_int_v4.ok (cons_cons clause_base_close_1.ok (cons_nil)))
end slices_DeleteFunc_int_int
namespace clause_look
noncomputable def con [Fuel] : Con := ⟨69, [.c (.v (.vp 1000000)), (aD liT)], [(1000000, .arr 88 .bool)], [], [liT, lbT], .tup [.v (.d iT), .v (.d .bool)], [], [iT, .bool], fun x => clause_look x.1 x.2⟩
noncomputable def env [Fuel] : Env := ⟨Try.prog, [], [], [], [], [], [], [], [], []⟩
noncomputable def an : An := .seq .no (.seq .no (.seq (.seq .no (.one (.loop ⟨[(6, (aD iT)), (11, (aD iT))], [], [iT, iT]⟩ [0, 9, 10] [1000000] (.seq .no (.seq (.cond .no .no) (.seq (.one (.seq .no (.seq (.seq .no (.cond .no .no)) (.seq (.seq .no (.cond (.seq .no .no) .no)) .no)))) .no)))))) (.seq .no .no)))
theorem run [Fuel] : RunIs env Try.f69 an con := fun x => by kernel_rfl
theorem ok [Fuel] : ConOK Try.prog con := run_ok (E := env) run mixed Try.func69 (by kernel_rfl) (cons_nil)
end clause_look
namespace clause_base_close
noncomputable def con [Fuel] : Con := ⟨61, [.c (.v (.ip (.pair lliT (.map .i64 iT)))), (aD liT)], [], [], [(.pair lliT (.map .i64 iT)), liT], .tup [.v (.vp 0), .v (.d .bool)], [(0, .arr 88 .bool)], [.bool, lbT], fun x => clause_base_close x.1 x.2⟩
noncomputable def env [Fuel] : Env := ⟨Try.prog, [(23, iT), (88, .bool)], [slices_Clone_int_int.con, slices_DeleteFunc_int_int.con, clause_look.con], [(16, 0), (17, 1), (105, 2)], [11, 1000000], [17, 105], [], [14, 55, 65, 117], [], []⟩
noncomputable def an : An := .seq .no (.seq .no (.seq .no (.join ⟨[(7, .c (.v (.own 500002)))], [(500002, .arr 3 iT)], [liT]⟩ [0, 6] [14] false (.seq .no (.one (.loop ⟨[(7, .c (.v (.own 500003))), (23, (aD iT))], [(500003, .arr 3 iT)], [iT, liT]⟩ [0, 6, 22] [14] (.seq .no (.seq (.cond .no .no) (.seq (.one (.seq .no (.seq (.seq .no (.cond (.seq .no .no) .no)) (.seq .no (.cond .no .no))))) .no)))))) (.seq (.one (.loop ⟨[(6, .c (.v (.vp 500006))), (7, .c (.v (.own 500007)))], [(500006, .arr 88 .bool), (500007, .arr 3 iT)], [lbT, liT]⟩ [0] [] (.seq (.seq .no (.cond .no .no)) (.one (.seq .no (.seq .no (.seq (.seq .no (.cond .no .no)) (.seq .no (.seq (.seq .no (.cond (.seq .no .no) .no)) (.seq .no (.one (.loop ⟨[(7, .c (.v (.own 500008))), (92, (aD iT))], [(500008, .arr 3 iT)], [iT, liT]⟩ [0, 6, 90, 91] [500006] (.seq .no (.seq (.cond .no .no) (.seq (.one (.seq .no (.seq .no (.seq (.join ⟨[(112, .c (.v (.d .bool)))], [], [.bool]⟩ [0, 6, 7, 12, 13, 90, 91, 92] [500006, 500008] true .no (.cond (.seq .no .no) .no)) (.seq .no (.cond .no .no)))))) .no))))))))))))))) (.seq .no .no)))))
theorem run [Fuel] : RunIs env Try.f61 an con := fun x => by kernel_rfl
theorem ok [Fuel] : ConOK Try.prog con := run_ok (E := env) run mixed Try.func61 (by kernel_rfl) (cons_cons slices_Clone_int_int.ok (cons_cons slices_DeleteFunc_int_int.ok (cons_cons clause_look.ok (cons_nil))))
end clause_base_close
namespace clause_Propagate
noncomputable def con [Fuel] : Con := ⟨43, [.c (.v (.d (.sl GClauseT))), (aD liT)], [], [], [(.sl GClauseT), liT], .tup [.v (.own 0), .v (.d .bool)], [(0, .arr 3 iT)], [.bool, liT], fun x => clause_Propagate x.1 x.2⟩
noncomputable def env [Fuel] : Env := ⟨Try.prog, [(23, iT)], [clause_load.con, clause_base_close.con], [(13, 0), (15, 1)], [], [15], [], [31], [], []⟩
noncomputable def an : An := .seq .no (.seq .no (.seq (.seq .no (.cond (.seq .no .no) .no)) (.seq .no (.seq (.seq .no (.one (.loop ⟨[(8, .c (.v (.own 500002))), (21, (aD iT))], [(500002, .arr 3 iT)], [iT, liT]⟩ [20] [15] (.seq .no (.seq (.cond .no .no) (.seq (.one (.seq .no (.seq .no (.cond .no .no)))) .no)))))) (.seq .no .no)))))
theorem run [Fuel] : RunIs env Try.f43 an con := fun x => by kernel_rfl
theorem ok [Fuel] : ConOK Try.prog con := run_ok (E := env) run mixed Try.func43 (by kernel_rfl) (cons_cons clause_load.ok (cons_cons clause_base_close.ok (cons_nil)))
end clause_Propagate
namespace cmp_isNaN_int
noncomputable def con [Fuel] : Con := ⟨70, [(aD iT)], [], [], [iT], .one (.v (.d .bool)), [], [.bool], fun x => cmp_isNaN_int x⟩
noncomputable def env [Fuel] : Env := ⟨Try.prog, [], [], [], [], [], [], [], [], []⟩
noncomputable def an : An := .seq .no (.seq .no .no)
theorem run [Fuel] : RunIs env Try.f70 an con := fun x => by kernel_rfl
theorem ok [Fuel] : ConOK Try.prog con := run_ok (E := env) run mixed Try.func70 (by kernel_rfl) (cons_nil)
end cmp_isNaN_int
namespace cmp_Less_int
noncomputable def con [Fuel] : Con := ⟨63, [(aD iT), (aD iT)], [], [], [iT, iT], .one (.v (.d .bool)), [], [.bool], fun x => cmp_Less_int x.1 x.2⟩
noncomputable def env [Fuel] : Env := ⟨Try.prog, [], [cmp_isNaN_int.con], [(6, 0), (9, 0)], [], [], [], [], [], []⟩
noncomputable def an : An := .seq .no (.seq .no .no)
theorem run [Fuel] : RunIs env Try.f63 an con := fun x => by kernel_rfl
theorem ok [Fuel] : ConOK Try.prog con := run_ok (E := env) run mixed Try.func63 (by kernel_rfl) (cons_cons cmp_isNaN_int.ok (cons_nil))
end cmp_Less_int
namespace slices_isNaN_int
noncomputable def con [Fuel] : Con := ⟨64, [(aD iT)], [], [], [iT], .one (.v (.d .bool)), [], [.bool], fun x => slices_isNaN_int x⟩
noncomputable def env [Fuel] : Env := ⟨Try.prog, [], [], [], [], [], [], [], [], []⟩
noncomputable def an : An := .seq .no (.seq .no .no)
theorem run [Fuel] : RunIs env Try.f64 an con := fun x => by kernel_rfl
theorem ok [Fuel] : ConOK Try.prog con := run_ok (E := env) run mixed Try.func64 (by kernel_rfl) (cons_nil)
end slices_isNaN_int
namespace slices_BinarySearch_int_int
noncomputable def con [Fuel] : Con := ⟨46, [(aD liT), (aD iT)], [], [], [liT, iT], .tup [.v (.d iT), .v (.d .bool)], [], [iT, .bool], fun x => slices_BinarySearch_int_int x.1 x.2⟩
noncomputable def env [Fuel] : Env := ⟨Try.prog, [], [cmp_Less_int.con, slices_isNaN_int.con], [(27, 0), (47, 1), (50, 1)], [8], [], [], [], [], []⟩
noncomputable def an : An := .seq .no (.seq .no (.seq .no (.join ⟨[(7, (aD iT))], [], [iT]⟩ [0, 1, 6] [] true (.one (.loop ⟨[(7, (aD iT)), (8, (aD iT))], [], [iT, iT]⟩ [0, 1, 6] [] (.seq (.seq .no (.cond .no .no)) (.one (.seq .no (.seq .no (.cond .no .no))))))) (.seq .no .no))))
theorem run [Fuel] : RunIs env Try.f46 an con := fun x => by kernel_rfl
theorem ok [Fuel] : ConOK Try.prog con := run_ok (E := env) run mixed Try.func46 (by kernel_rfl) (cons_cons cmp_Less_int.ok (cons_cons slices_isNaN_int.ok (cons_nil)))
end slices_BinarySearch_int_int
namespace solve_open
noncomputable def con [Fuel] : Con := ⟨45, [(aD liT), (aD iT)], [], [], [liT, iT], .one (.v (.d iT)), [], [iT], fun x => solve_open x.1 x.2⟩
noncomputable def env [Fuel] : Env := ⟨Try.prog, [], [slices_BinarySearch_int_int.con], [(18, 0), (26, 0)], [1000000], [], [], [], [], []⟩
noncomputable def an : An := .seq .no (.seq (.seq .no (.one (.loop ⟨[(11, (aD iT))], [], [iT]⟩ [0, 1, 10] [] (.seq .no (.seq (.cond .no .no) (.seq (.one (.seq .no (.seq .no (.seq .no (.join ⟨[(34, .c (.v (.d .bool)))], [], [.bool]⟩ [0, 1, 5, 10, 11] [] true .no (.cond (.seq .no .no) .no)))))) .no)))))) (.seq .no .no))
theorem run [Fuel] : RunIs env Try.f45 an con := fun x => by kernel_rfl
theorem ok [Fuel] : ConOK Try.prog con := run_ok (E := env) run mixed Try.func45 (by kernel_rfl) (cons_cons slices_BinarySearch_int_int.ok (cons_nil))
end solve_open
namespace solve_Solve
noncomputable def con [Fuel] : Con := ⟨26, [.c (.v (.d (.sl GClauseT))), (aD iT), (aD liT)], [], [], [(.sl GClauseT), iT, liT], .tup [.v (.d lbT), .v (.d lliT), .v (.d iT)], [], [lbT, lliT, iT], fun x => solve_Solve x.1 x.2.1 x.2.2⟩
noncomputable def env [Fuel] : Env := ⟨Try.prog, [(22, GClauseT), (23, iT), (24, .bool), (51, liT)], [clause_Right.con, slices_ContainsFunc_int_int_v3.con, slices_Clone_api_Clause_api_Clause.con, slices_Concat_int_int.con, clause_Propagate.con, solve_open.con, slices_BinarySearch_int_int.con], [(22, 0), (27, 1), (30, 2), (36, 3), (37, 4), (77, 5), (99, 6)], [16, 20, 1000000], [27, 36], [59], [54, 64, 74, 85], [], []⟩
noncomputable def an : An := .seq .no (.seq (.join ⟨[(28, .c (.v (.d .bool)))], [], [.bool]⟩ [0, 2, 4] [4] true .no (.cond (.seq .no .no) .no)) (.seq .no (.seq .no (.seq .no (.one (.loop ⟨[(9, .c (.v (.own 500024))), (10, .c (.v (.own 500025))), (11, .c (.v (.own 500026)))], [(500024, .arr 47 GClauseT), (500025, .arr 23 liT), (500026, .arr 3 iT)], [(.sl GClauseT), lliT, liT]⟩ [2, 4] [4] (.one (.seq .no (.join ⟨[(9, .c (.v (.own 500032))), (10, .c (.v (.own 500033))), (11, .c (.v (.own 500034)))], [(500032, .arr 47 GClauseT), (500033, .arr 23 liT), (500034, .arr 3 iT)], [(.sl GClauseT), lliT, liT]⟩ [2, 4, 12] [4, 37] false (.seq .no (.cond (.seq (.seq .no (.cond (.seq .no .no) .no)) (.seq .no (.join ⟨[(14, .c (.v (.own 500037)))], [(500037, .arr 3 iT)], [liT]⟩ [2, 4, 9, 10, 11] [4, 500024, 500025, 500026] true (.seq .no (.one (.loop ⟨[(14, .c (.v (.own 500039))), (47, (aD iT))], [(500039, .arr 3 iT)], [iT, liT]⟩ [2, 4, 9, 10, 11, 45, 46] [4, 500024, 500025, 500026] (.seq .no (.seq (.cond .no .no) (.seq (.one (.seq .no .no)) .no)))))) (.seq .no (.seq (.seq .no (.cond (.seq .no .no) .no)) (.seq .no .no)))))) .no)) (.seq .no (.seq (.seq .no (.cond (.seq .no .no) .no)) (.seq .no (.seq (.seq .no (.one (.loop ⟨[(18, .c (.v (.own 500040))), (90, (aD iT))], [(500040, .arr 4 .bool)], [iT, lbT]⟩ [12, 89] [37] (.seq .no (.seq (.cond .no .no) (.seq (.one (.seq .no .no)) .no)))))) (.seq .no .no))))))))))))))
theorem run [Fuel] : RunIs env Try.f26 an con := fun x => by kernel_rfl
theorem ok [Fuel] : ConOK Try.prog con := run_ok (E := env) run mixed Try.func26 (by kernel_rfl) (cons_cons clause_Right.ok (cons_cons slices_ContainsFunc_int_int_v3.ok (cons_cons slices_Clone_api_Clause_api_Clause.ok (cons_cons slices_Concat_int_int.ok (cons_cons clause_Propagate.ok (cons_cons solve_open.ok (cons_cons slices_BinarySearch_int_int.ok (cons_nil))))))))
end solve_Solve
namespace solve_Solve_v2
noncomputable def con [Fuel] : Con := ⟨26, [.c (.v (.d (.sl GClauseT))), (aD iT), .c (.v (.own 1000000))], [(1000000, .arr 3 iT)], [], [(.sl GClauseT), iT, liT], .tup [.v (.own 0), .v (.d lliT), .v (.d iT)], [(0, .arr 4 .bool)], [lliT, iT, lbT], fun x => solve_Solve_v2 x.1 x.2.1 x.2.2⟩
noncomputable def env [Fuel] : Env := ⟨Try.prog, [(22, GClauseT), (23, iT), (24, .bool), (51, liT)], [clause_Right.con, slices_ContainsFunc_int_int_v3.con, slices_Clone_api_Clause_api_Clause.con, slices_Concat_int_int.con, clause_Propagate.con, solve_open.con, slices_BinarySearch_int_int.con], [(22, 0), (27, 1), (30, 2), (36, 3), (37, 4), (77, 5), (99, 6)], [16, 20, 1000000], [27, 36], [59], [54, 64, 74, 85], [], []⟩
noncomputable def an : An := .seq .no (.seq (.join ⟨[(28, .c (.v (.d .bool)))], [], [.bool]⟩ [0, 2, 4] [4, 1000000] true .no (.cond (.seq .no .no) .no)) (.seq .no (.seq .no (.seq .no (.one (.loop ⟨[(9, .c (.v (.own 500024))), (10, .c (.v (.own 500025))), (11, .c (.v (.own 500026)))], [(500024, .arr 47 GClauseT), (500025, .arr 23 liT), (500026, .arr 3 iT)], [(.sl GClauseT), lliT, liT]⟩ [2, 4] [4, 1000000] (.one (.seq .no (.join ⟨[(9, .c (.v (.own 500032))), (10, .c (.v (.own 500033))), (11, .c (.v (.own 500034)))], [(500032, .arr 47 GClauseT), (500033, .arr 23 liT), (500034, .arr 3 iT)], [(.sl GClauseT), lliT, liT]⟩ [2, 4, 12] [4, 37, 1000000] false (.seq .no (.cond (.seq (.seq .no (.cond (.seq .no .no) .no)) (.seq .no (.join ⟨[(14, .c (.v (.own 500037)))], [(500037, .arr 3 iT)], [liT]⟩ [2, 4, 9, 10, 11] [4, 500024, 500025, 500026, 1000000] true (.seq .no (.one (.loop ⟨[(14, .c (.v (.own 500039))), (47, (aD iT))], [(500039, .arr 3 iT)], [iT, liT]⟩ [2, 4, 9, 10, 11, 45, 46] [4, 500024, 500025, 500026, 1000000] (.seq .no (.seq (.cond .no .no) (.seq (.one (.seq .no .no)) .no)))))) (.seq .no (.seq (.seq .no (.cond (.seq .no .no) .no)) (.seq .no .no)))))) .no)) (.seq .no (.seq (.seq .no (.cond (.seq .no .no) .no)) (.seq .no (.seq (.seq .no (.one (.loop ⟨[(18, .c (.v (.own 500040))), (90, (aD iT))], [(500040, .arr 4 .bool)], [iT, lbT]⟩ [12, 89] [37] (.seq .no (.seq (.cond .no .no) (.seq (.one (.seq .no .no)) .no)))))) (.seq .no .no))))))))))))))
theorem run [Fuel] : RunIs env Try.f26 an con := fun x => by kernel_rfl
theorem ok [Fuel] : ConOK Try.prog con := run_ok (E := env) run mixed Try.func26 (by kernel_rfl) (cons_cons clause_Right.ok (cons_cons slices_ContainsFunc_int_int_v3.ok (cons_cons slices_Clone_api_Clause_api_Clause.ok (cons_cons slices_Concat_int_int.ok (cons_cons clause_Propagate.ok (cons_cons solve_open.ok (cons_cons slices_BinarySearch_int_int.ok (cons_nil))))))))
end solve_Solve_v2
namespace prefer_Best
noncomputable def con [Fuel] : Con := ⟨11, [.c (.v (.d (.sl GClauseT))), (aD iT), (aD liT)], [], [], [(.sl GClauseT), iT, liT], .tup [.v (.d lbT), .v (.d lbT), .v (.d (.sl lliT)), .v (.d iT)], [], [lbT, lbT, (.sl lliT), iT], fun x => prefer_Best x.1 x.2.1 x.2.2⟩
noncomputable def env [Fuel] : Env := ⟨Try.prog, [(23, iT), (24, .bool), (25, lliT)], [prefer_right.con, solve_Solve.con, slices_Clone_int_int.con, solve_Solve_v2.con], [(25, 0), (30, 1), (46, 2), (54, 3), (89, 3)], [21], [54, 89], [], [48, 65, 68, 75, 78, 82], [], []⟩
noncomputable def an : An := .seq .no (.seq (.seq .no (.cond (.seq .no .no) .no)) (.seq .no (.seq (.seq .no (.cond (.seq .no .no) .no)) (.seq .no (.seq .no (.seq .no (.join ⟨[(13, .c (.v (.own 500009))), (14, .c (.v (.own 500010))), (15, .c (.v (.own 500011)))], [(500009, .arr 3 iT), (500010, .arr 4 .bool), (500011, .arr 51 lliT)], [liT, lbT, (.sl lliT)]⟩ [0, 1] [] false (.seq .no (.one (.loop ⟨[(13, .c (.v (.own 500017))), (14, .c (.v (.own 500018))), (15, .c (.v (.own 500019))), (41, (aD iT))], [(500017, .arr 3 iT), (500018, .arr 4 .bool), (500019, .arr 51 lliT)], [iT, liT, lbT, (.sl lliT)]⟩ [0, 1, 39, 40] [] (.seq .no (.seq (.cond .no .no) (.seq (.one (.seq .no (.seq .no (.seq .no (.seq .no (.one (.seq .no (.cond .no (.seq .no (.cond .no (.seq .no .no))))))))))) .no)))))) (.seq (.seq .no (.seq .no (.cond (.seq .no .no) .no))) (.seq .no .no)))))))))
theorem run [Fuel] : RunIs env Try.f11 an con := fun x => by kernel_rfl
theorem ok [Fuel] : ConOK Try.prog con := run_ok (E := env) run mixed Try.func11 (by kernel_rfl) (cons_cons prefer_right.ok (cons_cons solve_Solve.ok (cons_cons slices_Clone_int_int.ok (cons_cons solve_Solve_v2.ok (cons_nil)))))
end prefer_Best
namespace ladingref28_Bools
noncomputable def con [Fuel] : Con := ⟨13, [(aD lbT), (aD lbT)], [], [], [lbT, lbT], .one (.v (.d .bool)), [], [.bool], fun x => ladingref28_Bools x.1 x.2⟩
noncomputable def env [Fuel] : Env := ⟨Try.prog, [], [], [], [], [], [], [], [19, 20, 23, 24], []⟩
noncomputable def an : An := .seq .no (.seq (.seq .no (.cond (.seq .no .no) .no)) (.seq (.seq .no (.one (.loop ⟨[(5, (aD iT))], [], [iT]⟩ [0, 1] [] (.seq (.seq .no (.cond .no .no)) (.seq (.one (.seq .no (.cond (.seq .no .no) .no))) .no))))) (.seq .no .no)))
theorem run [Fuel] : RunIs env Try.f13 an con := fun x => by kernel_rfl
theorem ok [Fuel] : ConOK Try.prog con := run_ok (E := env) run mixed Try.func13 (by kernel_rfl) (cons_nil)
end ladingref28_Bools
namespace clause_Holds_1_1
noncomputable def con [Fuel] : Con := ⟨51, [(aD iT), .c (.v (.loc 1000000 0)), .c (.v (.loc 1000001 0))], [(1000000, .box 3 [.d iT]), (1000001, .box 24 [.d lbT])], [], [iT, iT, lbT], .one (.v (.d .bool)), [], [.bool], fun x => clause_Holds_1_1 x.1 x.2.1 x.2.2⟩
noncomputable def env [Fuel] : Env := ⟨Try.prog, [], [], [], [], [], [], [], [], []⟩
noncomputable def an : An := .seq .no (.seq .no .no)
theorem run [Fuel] : RunIs env Try.f51 an con := fun x => by kernel_rfl
theorem ok [Fuel] : ConOK Try.prog con := run_ok (E := env) run mixed Try.func51 (by kernel_rfl) (cons_nil)
end clause_Holds_1_1
namespace slices_IndexFunc_int_int_v5
noncomputable def con [Fuel] : Con := ⟨60, [(aD liT), .c (.v (.fn 102 [1000000, 1000001]))], [(1000000, .box 3 [.d iT]), (1000001, .box 24 [.d lbT])], [], [liT, iT, lbT], .one (.v (.d iT)), [], [iT], fun x => slices_IndexFunc_int_int_v5 x.1 x.2.1 x.2.2⟩
noncomputable def env [Fuel] : Env := ⟨Try.prog, [], [clause_Holds_1_1.con], [(16, 0)], [], [16], [], [], [], []⟩
noncomputable def an : An := .seq .no (.seq (.seq .no (.one (.loop ⟨[(8, (aD iT))], [], [iT]⟩ [0, 1, 7] [1000000, 1000001] (.seq .no (.seq (.cond .no .no) (.seq (.one (.seq .no (.seq .no (.cond (.seq .no .no) .no)))) .no)))))) (.seq .no .no))
theorem run [Fuel] : RunIs env Try.f60 an con := fun x => by kernel_rfl
theorem ok [Fuel] : ConOK Try.prog con := run_ok (E := env) run mixed Try.func60 (by kernel_rfl) (cons_cons clause_Holds_1_1.ok (cons_nil))
end slices_IndexFunc_int_int_v5
namespace slices_ContainsFunc_int_int_v4
noncomputable def con [Fuel] : Con := ⟨39, [(aD liT), .c (.v (.fn 102 [1000000, 1000001]))], [(1000000, .box 3 [.d iT]), (1000001, .box 24 [.d lbT])], [], [liT, iT, lbT], .one (.v (.d .bool)), [], [.bool], fun x => slices_ContainsFunc_int_int_v4 x.1 x.2.1 x.2.2⟩
noncomputable def env [Fuel] : Env := ⟨Try.prog, [], [slices_IndexFunc_int_int_v5.con], [(7, 0)], [], [7], [], [], [], []⟩
noncomputable def an : An := .seq .no (.seq .no .no)
theorem run [Fuel] : RunIs env Try.f39 an con := fun x => by kernel_rfl
theorem ok [Fuel] : ConOK Try.prog con := run_ok (E := env) run mixed Try.func39 (by kernel_rfl) (cons_cons slices_IndexFunc_int_int_v5.ok (cons_nil))
end slices_ContainsFunc_int_int_v4
namespace clause_Holds_1
noncomputable def con [Fuel] : Con := ⟨50, [.c (.a GClauseT), .c (.v (.loc 1000000 0)), .c (.v (.loc 1000001 0))], [(1000000, .box 3 [.d iT]), (1000001, .box 24 [.d lbT])], [], [GClauseT, iT, lbT], .one (.v (.d .bool)), [], [.bool], fun x => clause_Holds_1 x.1 x.2.1 x.2.2⟩
noncomputable def env [Fuel] : Env := ⟨Try.prog, [], [slices_ContainsFunc_int_int_v4.con], [(8, 0)], [], [8], [], [], [], []⟩
noncomputable def an : An := .seq .no (.seq .no .no)
theorem run [Fuel] : RunIs env Try.f50 an con := fun x => by kernel_rfl
theorem ok [Fuel] : ConOK Try.prog con := run_ok (E := env) run mixed Try.func50 (by kernel_rfl) (cons_cons slices_ContainsFunc_int_int_v4.ok (cons_nil))
end clause_Holds_1
namespace slices_IndexFunc_api_Clause_api_Clause_v2
noncomputable def con [Fuel] : Con := ⟨59, [.c (.v (.d (.sl GClauseT))), .c (.v (.fn 100 [1000000, 1000001]))], [(1000000, .box 3 [.d iT]), (1000001, .box 24 [.d lbT])], [], [(.sl GClauseT), iT, lbT], .one (.v (.d iT)), [], [iT], fun x => slices_IndexFunc_api_Clause_api_Clause_v2 x.1 x.2.1 x.2.2⟩
noncomputable def env [Fuel] : Env := ⟨Try.prog, [], [clause_Holds_1.con], [(16, 0)], [], [16], [], [], [], []⟩
noncomputable def an : An := .seq .no (.seq (.seq .no (.one (.loop ⟨[(8, (aD iT))], [], [iT]⟩ [0, 1, 7] [1000000, 1000001] (.seq .no (.seq (.cond .no .no) (.seq (.one (.seq .no (.seq .no (.cond (.seq .no .no) .no)))) .no)))))) (.seq .no .no))
theorem run [Fuel] : RunIs env Try.f59 an con := fun x => by kernel_rfl
theorem ok [Fuel] : ConOK Try.prog con := run_ok (E := env) run mixed Try.func59 (by kernel_rfl) (cons_cons clause_Holds_1.ok (cons_nil))
end slices_IndexFunc_api_Clause_api_Clause_v2
namespace slices_ContainsFunc_api_Clause_api_Clause_v2
noncomputable def con [Fuel] : Con := ⟨37, [.c (.v (.d (.sl GClauseT))), .c (.v (.fn 100 [1000000, 1000001]))], [(1000000, .box 3 [.d iT]), (1000001, .box 24 [.d lbT])], [], [(.sl GClauseT), iT, lbT], .one (.v (.d .bool)), [], [.bool], fun x => slices_ContainsFunc_api_Clause_api_Clause_v2 x.1 x.2.1 x.2.2⟩
noncomputable def env [Fuel] : Env := ⟨Try.prog, [], [slices_IndexFunc_api_Clause_api_Clause_v2.con], [(7, 0)], [], [7], [], [], [], []⟩
noncomputable def an : An := .seq .no (.seq .no .no)
theorem run [Fuel] : RunIs env Try.f37 an con := fun x => by kernel_rfl
theorem ok [Fuel] : ConOK Try.prog con := run_ok (E := env) run mixed Try.func37 (by kernel_rfl) (cons_cons slices_IndexFunc_api_Clause_api_Clause_v2.ok (cons_nil))
end slices_ContainsFunc_api_Clause_api_Clause_v2
namespace clause_Holds
noncomputable def con [Fuel] : Con := ⟨32, [.c (.v (.d (.sl GClauseT))), (aD lbT)], [], [], [(.sl GClauseT), lbT], .one (.v (.d .bool)), [], [.bool], fun x => clause_Holds x.1 x.2⟩
noncomputable def env [Fuel] : Env := ⟨Try.prog, [], [slices_ContainsFunc_api_Clause_api_Clause_v2.con], [(11, 0)], [], [11], [], [], [], []⟩
noncomputable def an : An := .seq .no (.seq .no (.seq .no .no))
theorem run [Fuel] : RunIs env Try.f32 an con := fun x => by kernel_rfl
theorem ok [Fuel] : ConOK Try.prog con := run_ok (E := env) run mixed Try.func32 (by kernel_rfl) (cons_cons slices_ContainsFunc_api_Clause_api_Clause_v2.ok (cons_nil))
end clause_Holds
namespace prefer_holds
noncomputable def con [Fuel] : Con := ⟨31, [(aD lbT), (aD iT)], [], [], [lbT, iT], .one (.v (.d .bool)), [], [.bool], fun x => prefer_holds x.1 x.2⟩
noncomputable def env [Fuel] : Env := ⟨Try.prog, [], [], [], [1000000], [], [], [], [], []⟩
noncomputable def an : An := .seq .no (.seq (.one (.join ⟨[(5, .c (.v (.d .bool)))], [], [.bool]⟩ [0, 1] [] true .no (.cond (.seq .no .no) (.join ⟨[(19, .c (.v (.d .bool)))], [], [.bool]⟩ [0, 1] [] true .no (.cond (.seq .no .no) .no))))) (.seq .no .no))
theorem run [Fuel] : RunIs env Try.f31 an con := fun x => by kernel_rfl
theorem ok [Fuel] : ConOK Try.prog con := run_ok (E := env) run mixed Try.func31 (by kernel_rfl) (cons_nil)
end prefer_holds
namespace slices_Clone_api_Clause_api_Clause_v2
noncomputable def con [Fuel] : Con := ⟨33, [.c (.v (.own 1000000))], [(1000000, .arr 47 GClauseT)], [], [(.sl GClauseT)], .one (.v (.own 0)), [(0, .arr 47 GClauseT)], [(.sl GClauseT)], fun x => slices_Clone_api_Clause_api_Clause_v2 x⟩
noncomputable def env [Fuel] : Env := ⟨Try.prog, [(22, GClauseT)], [], [], [], [], [], [4], [], []⟩
noncomputable def an : An := .seq .no (.seq (.seq .no (.cond (.seq .no .no) .no)) (.seq .no .no))
theorem run [Fuel] : RunIs env Try.f33 an con := fun x => by kernel_rfl
theorem ok [Fuel] : ConOK Try.prog con := run_ok (E := env) run mixed Try.func33 (by kernel_rfl) (cons_nil)
end slices_Clone_api_Clause_api_Clause_v2
namespace slices_IndexFunc_int_int_v6
noncomputable def con [Fuel] : Con := ⟨60, [(aD liT), .c (.v (.fn 104 []))], [], [], [liT], .one (.v (.d iT)), [], [iT], fun x => slices_IndexFunc_int_int_v6 x⟩
noncomputable def env [Fuel] : Env := ⟨Try.prog, [], [clause_lit.con], [(16, 0)], [], [], [], [], [], []⟩
noncomputable def an : An := .seq .no (.seq (.seq .no (.one (.loop ⟨[(8, (aD iT))], [], [iT]⟩ [0, 1, 7] [] (.seq .no (.seq (.cond .no .no) (.seq (.one (.seq .no (.seq .no (.cond (.seq .no .no) .no)))) .no)))))) (.seq .no .no))
theorem run [Fuel] : RunIs env Try.f60 an con := fun x => by kernel_rfl
theorem ok [Fuel] : ConOK Try.prog con := run_ok (E := env) run mixed Try.func60 (by kernel_rfl) (cons_cons clause_lit.ok (cons_nil))
end slices_IndexFunc_int_int_v6
namespace slices_ContainsFunc_int_int_v5
noncomputable def con [Fuel] : Con := ⟨39, [(aD liT), .c (.v (.fn 104 []))], [], [], [liT], .one (.v (.d .bool)), [], [.bool], fun x => slices_ContainsFunc_int_int_v5 x⟩
noncomputable def env [Fuel] : Env := ⟨Try.prog, [], [slices_IndexFunc_int_int_v6.con], [(7, 0)], [], [], [], [], [], []⟩
noncomputable def an : An := .seq .no (.seq .no .no)
theorem run [Fuel] : RunIs env Try.f39 an con := fun x => by kernel_rfl
theorem ok [Fuel] : ConOK Try.prog con := run_ok (E := env) run mixed Try.func39 (by kernel_rfl) (cons_cons slices_IndexFunc_int_int_v6.ok (cons_nil))
end slices_ContainsFunc_int_int_v5
namespace clause_base_follows
noncomputable def con [Fuel] : Con := ⟨54, [.c (.v (.ip (.pair lliT (.map .i64 iT)))), (aD liT)], [], [], [(.pair lliT (.map .i64 iT)), liT], .one (.v (.d .bool)), [], [.bool], fun x => clause_base_follows x.1 x.2⟩
noncomputable def env [Fuel] : Env := ⟨Try.prog, [(23, iT)], [clause_lit.con, clause_base_close.con], [(17, 0), (27, 1)], [8], [27], [], [21], [], []⟩
noncomputable def an : An := .seq .no (.seq .no (.join ⟨[(5, .c (.v (.own 500003)))], [(500003, .arr 3 iT)], [liT]⟩ [0] [] true (.seq .no (.one (.loop ⟨[(5, .c (.v (.own 500005))), (12, (aD iT))], [(500005, .arr 3 iT)], [iT, liT]⟩ [0, 10, 11] [] (.seq .no (.seq (.cond .no .no) (.seq (.one (.seq .no (.seq .no (.cond .no .no)))) .no)))))) (.seq .no (.seq .no .no))))
theorem run [Fuel] : RunIs env Try.f54 an con := fun x => by kernel_rfl
theorem ok [Fuel] : ConOK Try.prog con := run_ok (E := env) run mixed Try.func54 (by kernel_rfl) (cons_cons clause_lit.ok (cons_cons clause_base_close.ok (cons_nil)))
end clause_base_follows
namespace clause_Proof
noncomputable def con [Fuel] : Con := ⟨34, [.c (.v (.d (.sl GClauseT))), (aD lliT)], [], [], [(.sl GClauseT), lliT], .one (.v (.d iT)), [], [iT], fun x => clause_Proof x.1 x.2⟩
noncomputable def env [Fuel] : Env := ⟨Try.prog, [], [slices_ContainsFunc_int_int_v5.con, clause_load.con, clause_base_follows.con, clause_base_add_v2.con], [(21, 0), (24, 1), (33, 2), (37, 3)], [1000000], [33, 37], [], [], [], []⟩
noncomputable def an : An := .seq .no (.seq (.seq .no (.cond (.seq .no .no) .no)) (.seq (.join ⟨[(22, .c (.v (.d .bool)))], [], [.bool]⟩ [0, 1] [] true .no (.cond (.seq .no .no) .no)) (.seq .no (.seq (.seq .no (.one (.loop ⟨[(5, .c (.v (.loc 500001 0))), (27, (aD iT))], [(500001, .box 86 [.own 500002, .mp 500003]), (500002, .arr 23 liT), (500003, .mapL .i64 3 iT)], [iT, lliT, (.map .i64 iT)]⟩ [25, 26] [] (.seq .no (.seq (.cond .no .no) (.seq (.one (.seq .no (.seq (.seq .no (.cond (.seq .no .no) .no)) .no))) .no)))))) (.seq .no .no)))))
theorem run [Fuel] : RunIs env Try.f34 an con := fun x => by kernel_rfl
theorem ok [Fuel] : ConOK Try.prog con := run_ok (E := env) run mixed Try.func34 (by kernel_rfl) (cons_cons slices_ContainsFunc_int_int_v5.ok (cons_cons clause_load.ok (cons_cons clause_base_follows.ok (cons_cons clause_base_add_v2.ok (cons_nil)))))
end clause_Proof
namespace prefer_Check
noncomputable def con [Fuel] : Con := ⟨17, [.c (.v (.d (.sl GClauseT))), (aD iT), (aD liT), (aD lbT), (aD lbT), .c (.v (.d (.sl lliT)))], [], [], [(.sl GClauseT), iT, liT, lbT, lbT, (.sl lliT)], .one (.v (.d iT)), [], [iT], fun x => prefer_Check x.1 x.2.1 x.2.2.1 x.2.2.2.1 x.2.2.2.2.1 x.2.2.2.2.2⟩
noncomputable def env [Fuel] : Env := ⟨Try.prog, [(22, GClauseT), (23, iT)], [prefer_right.con, clause_Holds.con, slices_Clone_api_Clause_api_Clause.con, prefer_holds.con, slices_Clone_api_Clause_api_Clause_v2.con, clause_Proof.con], [(20, 0), (29, 1), (47, 2), (61, 3), (89, 4), (97, 5)], [1000000], [89, 1000089], [], [78, 86, 91, 102, 104], [57, 58, 66, 67, 71, 72, 73, 95, 96], [90]⟩
noncomputable def an : An := .seq .no (.seq (.seq .no (.cond (.seq .no .no) .no)) (.seq (.join ⟨[(45, .c (.v (.d .bool)))], [], [.bool]⟩ [0, 2, 3, 4, 5] [] true .no (.cond (.seq .no .no) .no)) (.seq .no (.seq (.seq .no (.one (.loop ⟨[(13, .c (.v (.own 500001))), (50, (aD iT))], [(500001, .arr 47 GClauseT)], [iT, (.sl GClauseT)]⟩ [3, 4, 5, 48, 49] [] (.seq .no (.seq (.cond .no .no) (.seq (.one (.seq .no (.seq (.join ⟨[(76, .c (.v (.d .bool)))], [], [.bool]⟩ [3, 4, 5, 13, 14, 15, 48, 49, 50] [500001] true .no (.cond (.seq .no .no) .no)) (.seq .no (.seq (.seq .no (.cond (.seq .no .no) .no)) (.seq (.seq .no (.cond (.seq .no .no) .no)) .no)))))) .no)))))) (.seq .no .no)))))
theorem run [Fuel] : RunIs env Try.f17 an con := fun x => by kernel_rfl
theorem ok [Fuel] : ConOK Try.prog con := run_ok (E := env) run mixed Try.func17 (by kernel_rfl) (cons_cons prefer_right.ok (cons_cons clause_Holds.ok (cons_cons slices_Clone_api_Clause_api_Clause.ok (cons_cons prefer_holds.ok (cons_cons slices_Clone_api_Clause_api_Clause_v2.ok (cons_cons clause_Proof.ok (cons_nil)))))))
end prefer_Check
namespace ladinglaw28_is
noncomputable def con [Fuel] : Con := ⟨24, [.c (.v (.d (.sl GClauseT))), (aD liT), (aD lbT), (aD lbT)], [], [], [(.sl GClauseT), liT, lbT, lbT], .one (.v (.d .bool)), [], [.bool], fun x => ladinglaw28_is x.1 x.2.1 x.2.2.1 x.2.2.2⟩
noncomputable def env [Fuel] : Env := ⟨Try.prog, [], [prefer_Best.con, ladingref28_Bools.con, prefer_Check.con], [(16, 0), (26, 1), (31, 1), (46, 2)], [], [], [], [], [], []⟩
noncomputable def an : An := .seq .no (.seq .no (.seq .no .no))
theorem run [Fuel] : RunIs env Try.f24 an con := fun x => by kernel_rfl
theorem ok [Fuel] : ConOK Try.prog con := run_ok (E := env) run mixed Try.func24 (by kernel_rfl) (cons_cons prefer_Best.ok (cons_cons ladingref28_Bools.ok (cons_cons prefer_Check.ok (cons_nil))))
end ladinglaw28_is
namespace prefer_Compare
noncomputable def con [Fuel] : Con := ⟨15, [(aD liT), (aD lbT), (aD lbT)], [], [], [liT, lbT, lbT], .one (.v (.d iT)), [], [iT], fun x => prefer_Compare x.1 x.2.1 x.2.2⟩
noncomputable def env [Fuel] : Env := ⟨Try.prog, [], [prefer_holds.con], [(19, 0), (22, 0)], [1000000], [], [], [], [], []⟩
noncomputable def an : An := .seq .no (.seq (.seq .no (.one (.loop ⟨[(13, (aD iT))], [], [iT]⟩ [1, 2, 11, 12] [] (.seq .no (.seq (.cond .no .no) (.seq (.one (.seq .no (.seq .no (.one (.join ⟨[(23, .c (.v (.d .bool)))], [], [.bool]⟩ [1, 2, 9, 10, 11, 12, 13] [] true .no (.cond (.seq .no .no) (.join ⟨[(29, .c (.v (.d .bool)))], [], [.bool]⟩ [1, 2, 11, 12, 13] [] true .no (.cond (.seq .no .no) .no)))))))) .no)))))) (.seq .no .no))
theorem run [Fuel] : RunIs env Try.f15 an con := fun x => by kernel_rfl
theorem ok [Fuel] : ConOK Try.prog con := run_ok (E := env) run mixed Try.func15 (by kernel_rfl) (cons_cons prefer_holds.ok (cons_nil))
end prefer_Compare
namespace ladinglaw28_small
noncomputable def con [Fuel] : Con := ⟨8, [], [], [], [], .one (.v (.d .bool)), [], [.bool], fun x => ladinglaw28_small⟩
noncomputable def env [Fuel] : Env := ⟨Try.prog, [(22, GClauseT), (23, iT), (24, .bool)], [ladinglaw28_or.con, prefer_Best.con, ladinglaw28_is.con, prefer_Compare.con], [(15, 0), (17, 0), (29, 1), (37, 1), (46, 2), (52, 2), (59, 2), (63, 2), (69, 2), (87, 3)], [8, 9], [], [], [16, 18, 20, 21, 22, 24, 26, 28, 36, 43, 45, 49, 51, 56, 58, 62, 66, 68, 84], [], []⟩
noncomputable def an : An := .seq .no (.seq .no (.seq .no (.seq .no (.seq .no (.seq .no (.seq .no (.join ⟨[(13, .c (.v (.d .bool)))], [], [.bool]⟩ [1, 2, 3, 4, 8, 12] [] true .no (.join ⟨[(14, .c (.v (.d .bool)))], [], [.bool]⟩ [3, 4, 8, 12, 13] [] true .no (.seq .no .no)))))))))
theorem run [Fuel] : RunIs env Try.f8 an con := fun x => by kernel_rfl
theorem ok [Fuel] : ConOK Try.prog con := run_ok (E := env) run mixed Try.func8 (by kernel_rfl) (cons_cons ladinglaw28_or.ok (cons_cons prefer_Best.ok (cons_cons ladinglaw28_is.ok (cons_cons prefer_Compare.ok (cons_nil)))))
end ladinglaw28_small
namespace ladingref28_Few
noncomputable def con [Fuel] : Con := ⟨9, [.c (.v (.d (.sl GClauseT))), (aD iT), (aD liT)], [], [], [(.sl GClauseT), iT, liT], .one (.v (.d .bool)), [], [.bool], fun x => ladingref28_Few x.1 x.2.1 x.2.2⟩
noncomputable def env [Fuel] : Env := ⟨Try.prog, [], [], [], [1000000], [], [], [], [], []⟩
noncomputable def an : An := .seq .no (.seq (.seq .no (.one (.loop ⟨[(7, (aD iT))], [], [iT]⟩ [0, 1, 2] [] (.seq (.join ⟨[(15, .c (.v (.d .bool)))], [], [.bool]⟩ [0, 1, 2, 7] [] true .no (.cond .no .no)) (.seq (.one (.seq .no (.cond (.seq .no .no) .no))) .no))))) (.seq .no .no))
theorem run [Fuel] : RunIs env Try.f9 an con := fun x => by kernel_rfl
theorem ok [Fuel] : ConOK Try.prog con := run_ok (E := env) run mixed Try.func9 (by kernel_rfl) (cons_nil)
end ladingref28_Few
namespace ladinglaw28_light
noncomputable def con [Fuel] : Con := ⟨10, [.c (.v (.d (.sl lliT)))], [], [], [(.sl lliT)], .one (.v (.d .bool)), [], [.bool], fun x => ladinglaw28_light x⟩
noncomputable def env [Fuel] : Env := ⟨Try.prog, [], [], [], [1000000], [], [], [], [], []⟩
noncomputable def an : An := .seq .no (.seq (.seq .no (.one (.loop ⟨[(3, (aD iT))], [], [iT]⟩ [0] [] (.seq (.join ⟨[(12, .c (.v (.d .bool)))], [], [.bool]⟩ [0, 3] [] true .no (.cond .no .no)) (.seq (.one (.seq (.seq .no (.cond (.seq .no .no) .no)) (.seq .no (.one (.loop ⟨[(4, (aD iT))], [], [iT]⟩ [0, 3] [] (.seq (.seq .no (.cond .no .no)) (.seq (.one (.seq .no (.cond (.seq .no .no) .no))) .no))))))) .no))))) (.seq .no .no))
theorem run [Fuel] : RunIs env Try.f10 an con := fun x => by kernel_rfl
theorem ok [Fuel] : ConOK Try.prog con := run_ok (E := env) run mixed Try.func10 (by kernel_rfl) (cons_nil)
end ladinglaw28_light
namespace ladingref26_Right
noncomputable def con [Fuel] : Con := ⟨47, [.c (.v (.d (.sl GClauseT))), (aD iT)], [], [], [(.sl GClauseT), iT], .one (.v (.d .bool)), [], [.bool], fun x => ladingref26_Right x.1 x.2⟩
noncomputable def env [Fuel] : Env := ⟨Try.prog, [], [], [], [1000000], [], [], [], [], []⟩
noncomputable def an : An := .seq .no (.seq (.join ⟨[(18, .c (.v (.d .bool)))], [], [.bool]⟩ [0, 1] [] true .no (.cond (.seq .no .no) .no)) (.seq (.seq .no (.one (.loop ⟨[(5, (aD iT))], [], [iT]⟩ [0, 1] [] (.seq (.seq .no (.cond .no .no)) (.seq (.one (.seq .no (.one (.loop ⟨[(6, (aD iT))], [], [iT]⟩ [0, 1, 5] [] (.seq (.seq .no (.cond .no .no)) (.seq (.one (.seq .no (.join ⟨[(55, .c (.v (.d .bool)))], [], [.bool]⟩ [0, 1, 5, 6] [] true .no (.cond (.seq .no .no) .no)))) .no)))))) .no))))) (.seq .no .no)))
theorem run [Fuel] : RunIs env Try.f47 an con := fun x => by kernel_rfl
theorem ok [Fuel] : ConOK Try.prog con := run_ok (E := env) run mixed Try.func47 (by kernel_rfl) (cons_nil)
end ladingref26_Right
namespace ladingref28_Right
noncomputable def con [Fuel] : Con := ⟨28, [.c (.v (.d (.sl GClauseT))), (aD iT), (aD liT)], [], [], [(.sl GClauseT), iT, liT], .one (.v (.d .bool)), [], [.bool], fun x => ladingref28_Right x.1 x.2.1 x.2.2⟩
noncomputable def env [Fuel] : Env := ⟨Try.prog, [], [ladingref26_Right.con], [(10, 0)], [1000000], [], [], [], [], []⟩
noncomputable def an : An := .seq .no (.seq (.join ⟨[(16, .c (.v (.d .bool)))], [], [.bool]⟩ [1, 2] [] true .no (.cond (.seq .no .no) .no)) (.seq (.seq .no (.one (.loop ⟨[(7, (aD iT))], [], [iT]⟩ [1, 2] [] (.seq (.seq .no (.cond .no .no)) (.seq (.one (.join ⟨[(44, .c (.v (.d .bool)))], [], [.bool]⟩ [1, 2, 7] [] true .no (.cond (.seq .no .no) .no))) .no))))) (.seq .no .no)))
theorem run [Fuel] : RunIs env Try.f28 an con := fun x => by kernel_rfl
theorem ok [Fuel] : ConOK Try.prog con := run_ok (E := env) run mixed Try.func28 (by kernel_rfl) (cons_cons ladingref26_Right.ok (cons_nil))
end ladingref28_Right
namespace ladingref26_set
noncomputable def con [Fuel] : Con := ⟨71, [], [], [], [], .one (.v (.own 0)), [(0, .arr 4 .bool)], [lbT], fun x => ladingref26_set⟩
noncomputable def env [Fuel] : Env := ⟨Try.prog, [(24, .bool)], [], [], [], [], [], [], [], []⟩
noncomputable def an : An := .seq .no (.seq .no .no)
theorem run [Fuel] : RunIs env Try.f71 an con := fun x => by kernel_rfl
theorem ok [Fuel] : ConOK Try.prog con := run_ok (E := env) run mixed Try.func71 (by kernel_rfl) (cons_nil)
end ladingref26_set
namespace ladingref26_Lit
noncomputable def con [Fuel] : Con := ⟨58, [(aD iT)], [], [], [iT], .one (.v (.d .bool)), [], [.bool], fun x => ladingref26_Lit x⟩
noncomputable def env [Fuel] : Env := ⟨Try.prog, [], [], [], [], [], [], [], [], []⟩
noncomputable def an : An := .seq .no (.seq .no .no)
theorem run [Fuel] : RunIs env Try.f58 an con := fun x => by kernel_rfl
theorem ok [Fuel] : ConOK Try.prog con := run_ok (E := env) run mixed Try.func58 (by kernel_rfl) (cons_nil)
end ladingref26_Lit
namespace ladingref26_open
noncomputable def con [Fuel] : Con := ⟨72, [(aD lbT), (aD liT)], [], [], [lbT, liT], .tup [.v (.d iT), .v (.d .bool)], [], [iT, .bool], fun x => ladingref26_open x.1 x.2⟩
noncomputable def env [Fuel] : Env := ⟨Try.prog, [], [ladingref26_Lit.con], [(20, 0)], [1000000], [], [], [], [], []⟩
noncomputable def an : An := .seq .no (.seq .no (.seq (.seq .no (.one (.loop ⟨[(6, (aD iT)), (7, (aD iT))], [], [iT, iT]⟩ [0, 1] [] (.seq (.seq .no (.cond .no .no)) (.seq (.one (.seq .no (.seq (.join ⟨[(33, .c (.v (.d .bool)))], [], [.bool]⟩ [0, 1, 6, 7, 8] [] true .no (.cond .no .no)) (.seq (.seq .no (.cond (.seq .no .no) .no)) .no)))) .no))))) (.seq .no .no)))
theorem run [Fuel] : RunIs env Try.f72 an con := fun x => by kernel_rfl
theorem ok [Fuel] : ConOK Try.prog con := run_ok (E := env) run mixed Try.func72 (by kernel_rfl) (cons_cons ladingref26_Lit.ok (cons_nil))
end ladingref26_open
namespace ladingref26_closure
noncomputable def con [Fuel] : Con := ⟨65, [.c (.v (.d (.sl GClauseT))), (aD liT)], [], [], [(.sl GClauseT), liT], .tup [.v (.d lbT), .v (.d .bool)], [], [lbT, .bool], fun x => ladingref26_closure x.1 x.2⟩
noncomputable def env [Fuel] : Env := ⟨Try.prog, [], [ladingref26_set.con, ladingref26_Lit.con, ladingref26_open.con], [(13, 0), (24, 1), (46, 2)], [7, 20, 1000000], [], [], [], [], []⟩
noncomputable def an : An := .seq .no (.seq .no (.join ⟨[(6, .c (.v (.own 500002)))], [(500002, .arr 4 .bool)], [lbT]⟩ [0] [] true (.seq .no (.one (.loop ⟨[(6, .c (.v (.own 500003))), (7, (aD iT))], [(500003, .arr 4 .bool)], [iT, lbT]⟩ [0, 1] [] (.seq (.seq .no (.cond .no .no)) (.seq (.one (.seq .no (.cond .no .no))) .no))))) (.seq .no (.join ⟨[(6, .c (.v (.own 500006)))], [(500006, .arr 4 .bool)], [lbT]⟩ [] [] false (.one (.loop ⟨[(6, .c (.v (.own 500007))), (8, .c (.v (.d .bool)))], [(500007, .arr 4 .bool)], [.bool, lbT]⟩ [0] [] (.seq (.seq .no (.cond .no .no)) (.one (.seq .no (.seq .no (.one (.loop ⟨[(6, .c (.v (.own 500008))), (8, .c (.v (.d .bool))), (9, (aD iT))], [(500008, .arr 4 .bool)], [.bool, iT, lbT]⟩ [0] [] (.seq (.seq .no (.cond .no .no)) (.seq (.one (.seq .no (.seq (.seq .no (.cond .no .no)) (.seq (.seq .no (.cond (.seq .no .no) .no)) (.seq .no (.cond (.seq .no .no) .no)))))) .no)))))))))) (.seq (.seq .no (.one (.loop ⟨[(12, (aD iT))], [], [iT]⟩ [6] [500006] (.seq (.seq .no (.cond .no .no)) (.seq (.one (.join ⟨[(79, .c (.v (.d .bool)))], [], [.bool]⟩ [6, 12] [500006] true .no (.cond (.seq .no .no) .no))) .no))))) (.seq .no .no))))))
theorem run [Fuel] : RunIs env Try.f65 an con := fun x => by kernel_rfl
theorem ok [Fuel] : ConOK Try.prog con := run_ok (E := env) run mixed Try.func65 (by kernel_rfl) (cons_cons ladingref26_set.ok (cons_cons ladingref26_Lit.ok (cons_cons ladingref26_open.ok (cons_nil))))
end ladingref26_closure
namespace ladingref26_Propagate
noncomputable def con [Fuel] : Con := ⟨48, [.c (.v (.d (.sl GClauseT))), (aD liT)], [], [], [(.sl GClauseT), liT], .tup [.v (.own 0), .v (.d .bool)], [(0, .arr 3 iT)], [.bool, liT], fun x => ladingref26_Propagate x.1 x.2⟩
noncomputable def env [Fuel] : Env := ⟨Try.prog, [(23, iT)], [ladingref26_closure.con], [(13, 0)], [], [], [], [29], [], []⟩
noncomputable def an : An := .seq .no (.seq .no (.seq (.seq .no (.cond (.seq .no .no) .no)) (.seq .no (.seq (.seq .no (.one (.loop ⟨[(8, .c (.v (.own 500002))), (9, (aD iT))], [(500002, .arr 3 iT)], [iT, liT]⟩ [6] [] (.seq (.seq .no (.cond .no .no)) (.seq (.one (.seq .no (.cond .no .no))) .no))))) (.seq .no .no)))))
theorem run [Fuel] : RunIs env Try.f48 an con := fun x => by kernel_rfl
theorem ok [Fuel] : ConOK Try.prog con := run_ok (E := env) run mixed Try.func48 (by kernel_rfl) (cons_cons ladingref26_closure.ok (cons_nil))
end ladingref26_Propagate
namespace ladingref27_has
noncomputable def con [Fuel] : Con := ⟨49, [(aD liT), (aD iT)], [], [], [liT, iT], .one (.v (.d .bool)), [], [.bool], fun x => ladingref27_has x.1 x.2⟩
noncomputable def env [Fuel] : Env := ⟨Try.prog, [], [], [], [], [], [], [], [], []⟩
noncomputable def an : An := .seq .no (.seq (.seq .no (.one (.loop ⟨[(5, (aD iT))], [], [iT]⟩ [0, 1] [] (.seq (.seq .no (.cond .no .no)) (.seq (.one (.seq .no (.cond (.seq .no .no) .no))) .no))))) (.seq .no .no))
theorem run [Fuel] : RunIs env Try.f49 an con := fun x => by kernel_rfl
theorem ok [Fuel] : ConOK Try.prog con := run_ok (E := env) run mixed Try.func49 (by kernel_rfl) (cons_nil)
end ladingref27_has
namespace ladingref27_Solve
noncomputable def con [Fuel] : Con := ⟨29, [.c (.v (.d (.sl GClauseT))), (aD iT), (aD liT)], [], [], [(.sl GClauseT), iT, liT], .tup [.v (.d lbT), .v (.d lliT), .v (.d iT)], [], [lbT, lliT, iT], fun x => ladingref27_Solve x.1 x.2.1 x.2.2⟩
noncomputable def env [Fuel] : Env := ⟨Try.prog, [(22, GClauseT), (23, iT), (24, .bool), (51, liT)], [ladingref26_Right.con, ladingref26_Propagate.con, ladingref27_has.con], [(22, 0), (62, 1), (109, 2), (115, 2), (141, 2)], [8, 18, 25, 28, 1000000], [], [83], [79, 88, 101, 127], [], []⟩
noncomputable def an : An := .seq .no (.seq (.seq .no (.cond (.seq .no .no) .no)) (.join ⟨[], [], []⟩ [0, 1, 2] [] false (.seq .no (.one (.loop ⟨[(9, (aD iT))], [], [iT]⟩ [0, 1, 2] [] (.seq (.seq .no (.cond .no .no)) (.seq (.one (.join ⟨[(51, .c (.v (.d .bool)))], [], [.bool]⟩ [0, 1, 2, 9] [] true .no (.cond (.seq .no .no) .no))) .no))))) (.seq .no (.seq .no (.seq .no (.one (.loop ⟨[(10, .c (.v (.own 500024))), (11, .c (.v (.own 500025))), (12, .c (.v (.own 500026)))], [(500024, .arr 47 GClauseT), (500025, .arr 23 liT), (500026, .arr 3 iT)], [(.sl GClauseT), lliT, liT]⟩ [1, 2] [] (.one (.seq .no (.join ⟨[(10, .c (.v (.own 500032))), (11, .c (.v (.own 500033))), (12, .c (.v (.own 500034)))], [(500032, .arr 47 GClauseT), (500033, .arr 23 liT), (500034, .arr 3 iT)], [(.sl GClauseT), lliT, liT]⟩ [1, 2, 13] [62] false (.seq .no (.cond (.seq .no (.join ⟨[(15, .c (.v (.own 500037)))], [(500037, .arr 3 iT)], [liT]⟩ [1, 2, 10, 11, 12] [500024, 500025, 500026] true (.seq .no (.one (.loop ⟨[(15, .c (.v (.own 500039))), (16, (aD iT))], [(500039, .arr 3 iT)], [iT, liT]⟩ [1, 2, 10, 11, 12] [500024, 500025, 500026] (.seq (.seq .no (.cond .no .no)) (.seq (.one .no) .no))))) (.seq .no (.seq .no (.seq (.seq .no (.cond (.seq .no .no) .no)) (.seq (.seq .no (.cond (.seq .no .no) .no)) (.seq .no .no))))))) .no)) (.seq .no (.join ⟨[(17, (aD iT))], [], [iT]⟩ [1, 2, 10, 11, 12, 13] [62, 500032, 500033, 500034] true (.one (.loop ⟨[(17, (aD iT))], [], [iT]⟩ [1, 2, 10, 11, 12, 13] [62, 500032, 500033, 500034] (.seq (.join ⟨[(117, .c (.v (.d .bool)))], [], [.bool]⟩ [1, 2, 10, 11, 12, 13, 17] [62, 500032, 500033, 500034] true .no (.cond .no .no)) (.one .no)))) (.seq (.seq .no (.cond (.seq .no .no) .no)) (.seq .no (.seq (.seq .no (.one (.loop ⟨[(18, .c (.v (.own 500040))), (19, (aD iT))], [(500040, .arr 4 .bool)], [iT, lbT]⟩ [1, 13] [62] (.seq (.seq .no (.cond .no .no)) (.seq (.one .no) .no))))) (.seq .no .no))))))))))))))))
theorem run [Fuel] : RunIs env Try.f29 an con := fun x => by kernel_rfl
theorem ok [Fuel] : ConOK Try.prog con := run_ok (E := env) run mixed Try.func29 (by kernel_rfl) (cons_cons ladingref26_Right.ok (cons_cons ladingref26_Propagate.ok (cons_cons ladingref27_has.ok (cons_nil))))
end ladingref27_Solve
namespace ladingref28_Fixed
noncomputable def con [Fuel] : Con := ⟨30, [(aD liT), (aD lbT), (aD iT)], [], [], [liT, lbT, iT], .one (.v (.own 0)), [(0, .arr 3 iT)], [liT], fun x => ladingref28_Fixed x.1 x.2.1 x.2.2⟩
noncomputable def env [Fuel] : Env := ⟨Try.prog, [(23, iT)], [], [], [], [], [], [23, 31], [], []⟩
noncomputable def an : An := .seq .no (.seq .no (.seq (.seq .no (.one (.loop ⟨[(7, .c (.v (.own 500002))), (8, (aD iT))], [(500002, .arr 3 iT)], [iT, liT]⟩ [0, 1, 2] [] (.seq (.seq .no (.cond .no .no)) (.seq (.one (.seq .no (.cond .no .no))) .no))))) (.seq .no .no)))
theorem run [Fuel] : RunIs env Try.f30 an con := fun x => by kernel_rfl
theorem ok [Fuel] : ConOK Try.prog con := run_ok (E := env) run mixed Try.func30 (by kernel_rfl) (cons_nil)
end ladingref28_Fixed
namespace ladingref28_Best
noncomputable def con [Fuel] : Con := ⟨12, [.c (.v (.d (.sl GClauseT))), (aD iT), (aD liT)], [], [], [(.sl GClauseT), iT, liT], .tup [.v (.d lbT), .v (.d lbT), .v (.d (.sl lliT)), .v (.d iT)], [], [lbT, lbT, (.sl lliT), iT], fun x => ladingref28_Best x.1 x.2.1 x.2.2⟩
noncomputable def env [Fuel] : Env := ⟨Try.prog, [(23, iT), (24, .bool), (25, lliT)], [ladingref28_Right.con, ladingref27_Solve.con, ladingref28_Fixed.con], [(26, 0), (31, 1), (47, 2), (58, 1), (87, 2), (88, 1)], [19, 1000000], [], [58, 88], [52, 74, 78], [50, 51], []⟩
noncomputable def an : An := .seq .no (.seq (.seq .no (.cond (.seq .no .no) .no)) (.seq .no (.seq (.seq .no (.cond (.seq .no .no) .no)) (.seq .no (.seq .no (.join ⟨[(13, .c (.v (.own 500005))), (14, .c (.v (.own 500006)))], [(500005, .arr 4 .bool), (500006, .arr 51 lliT)], [lbT, (.sl lliT)]⟩ [0, 1, 2] [] false (.seq .no (.one (.loop ⟨[(13, .c (.v (.own 500009))), (14, .c (.v (.own 500010))), (15, (aD iT))], [(500009, .arr 4 .bool), (500010, .arr 51 lliT)], [iT, lbT, (.sl lliT)]⟩ [0, 1, 2] [] (.seq (.seq .no (.cond .no .no)) (.seq (.one (.seq .no (.seq .no (.seq (.join ⟨[(67, .c (.v (.d .bool)))], [], [.bool]⟩ [0, 1, 2, 13, 14, 15, 18, 19] [500009, 500010] true .no (.cond (.seq .no .no) .no)) (.seq (.seq .no (.cond .no .no)) (.seq .no .no)))))) .no))))) (.seq .no (.seq (.seq .no (.cond (.seq .no .no) .no)) (.seq .no .no)))))))))
theorem run [Fuel] : RunIs env Try.f12 an con := fun x => by kernel_rfl
theorem ok [Fuel] : ConOK Try.prog con := run_ok (E := env) run mixed Try.func12 (by kernel_rfl) (cons_cons ladingref28_Right.ok (cons_cons ladingref27_Solve.ok (cons_cons ladingref28_Fixed.ok (cons_nil))))
end ladingref28_Best
namespace ladingref28_Proofs
noncomputable def con [Fuel] : Con := ⟨14, [.c (.v (.d (.sl lliT))), .c (.v (.d (.sl lliT)))], [], [], [(.sl lliT), (.sl lliT)], .one (.v (.d .bool)), [], [.bool], fun x => ladingref28_Proofs x.1 x.2⟩
noncomputable def env [Fuel] : Env := ⟨Try.prog, [], [], [], [], [], [], [], [21, 22, 23, 26, 27, 28, 41, 42, 44, 45, 46, 49, 50, 52, 53, 54, 70, 71, 73, 74, 76, 77, 80, 81, 83, 84, 86, 87], []⟩
noncomputable def an : An := .seq .no (.seq (.seq .no (.cond (.seq .no .no) .no)) (.seq (.seq .no (.one (.loop ⟨[(5, (aD iT))], [], [iT]⟩ [0, 1] [] (.seq (.seq .no (.cond .no .no)) (.seq (.one (.seq (.seq .no (.cond (.seq .no .no) .no)) (.seq .no (.one (.loop ⟨[(6, (aD iT))], [], [iT]⟩ [0, 1, 5] [] (.seq (.seq .no (.cond .no .no)) (.seq (.one (.seq (.seq .no (.cond (.seq .no .no) .no)) (.seq .no (.one (.loop ⟨[(7, (aD iT))], [], [iT]⟩ [0, 1, 5, 6] [] (.seq (.seq .no (.cond .no .no)) (.seq (.one (.seq .no (.cond (.seq .no .no) .no))) .no))))))) .no))))))) .no))))) (.seq .no .no)))
theorem run [Fuel] : RunIs env Try.f14 an con := fun x => by kernel_rfl
theorem ok [Fuel] : ConOK Try.prog con := run_ok (E := env) run mixed Try.func14 (by kernel_rfl) (cons_nil)
end ladingref28_Proofs
namespace ladingref28_Holds
noncomputable def con [Fuel] : Con := ⟨22, [(aD lbT), (aD iT)], [], [], [lbT, iT], .one (.v (.d .bool)), [], [.bool], fun x => ladingref28_Holds x.1 x.2⟩
noncomputable def env [Fuel] : Env := ⟨Try.prog, [], [], [], [1000000], [], [], [], [], []⟩
noncomputable def an : An := .seq .no (.seq (.join ⟨[(12, .c (.v (.d .bool)))], [], [.bool]⟩ [0, 1] [] true .no (.cond (.seq .no .no) .no)) (.seq (.join ⟨[(26, .c (.v (.d .bool)))], [], [.bool]⟩ [0, 1] [] true .no (.cond (.seq .no .no) .no)) (.seq .no .no)))
theorem run [Fuel] : RunIs env Try.f22 an con := fun x => by kernel_rfl
theorem ok [Fuel] : ConOK Try.prog con := run_ok (E := env) run mixed Try.func22 (by kernel_rfl) (cons_nil)
end ladingref28_Holds
namespace ladingref28_Compare
noncomputable def con [Fuel] : Con := ⟨16, [(aD liT), (aD lbT), (aD lbT)], [], [], [liT, lbT, lbT], .one (.v (.d iT)), [], [iT], fun x => ladingref28_Compare x.1 x.2.1 x.2.2⟩
noncomputable def env [Fuel] : Env := ⟨Try.prog, [], [ladingref28_Holds.con], [(21, 0), (27, 0)], [1000000], [], [], [], [], []⟩
noncomputable def an : An := .seq .no (.seq (.seq .no (.one (.loop ⟨[(7, (aD iT))], [], [iT]⟩ [0, 1, 2] [] (.seq (.seq .no (.cond .no .no)) (.seq (.one (.seq .no (.seq .no (.seq (.join ⟨[(32, .c (.v (.d .bool)))], [], [.bool]⟩ [0, 1, 2, 7, 8, 9] [] true .no (.cond (.seq .no .no) .no)) (.join ⟨[(37, .c (.v (.d .bool)))], [], [.bool]⟩ [0, 1, 2, 7] [] true .no (.cond (.seq .no .no) .no)))))) .no))))) (.seq .no .no))
theorem run [Fuel] : RunIs env Try.f16 an con := fun x => by kernel_rfl
theorem ok [Fuel] : ConOK Try.prog con := run_ok (E := env) run mixed Try.func16 (by kernel_rfl) (cons_cons ladingref28_Holds.ok (cons_nil))
end ladingref28_Compare
namespace ladingref26_True
noncomputable def con [Fuel] : Con := ⟨56, [(aD lbT), (aD iT)], [], [], [lbT, iT], .one (.v (.d .bool)), [], [.bool], fun x => ladingref26_True x.1 x.2⟩
noncomputable def env [Fuel] : Env := ⟨Try.prog, [], [ladingref26_Lit.con], [(7, 0)], [], [], [], [], [], []⟩
noncomputable def an : An := .seq .no (.seq (.seq .no (.cond (.seq .no .no) .no)) (.seq .no (.seq .no .no)))
theorem run [Fuel] : RunIs env Try.f56 an con := fun x => by kernel_rfl
theorem ok [Fuel] : ConOK Try.prog con := run_ok (E := env) run mixed Try.func56 (by kernel_rfl) (cons_cons ladingref26_Lit.ok (cons_nil))
end ladingref26_True
namespace ladingref26_Holds
noncomputable def con [Fuel] : Con := ⟨35, [.c (.v (.d (.sl GClauseT))), (aD lbT)], [], [], [(.sl GClauseT), lbT], .one (.v (.d .bool)), [], [.bool], fun x => ladingref26_Holds x.1 x.2⟩
noncomputable def env [Fuel] : Env := ⟨Try.prog, [], [ladingref26_True.con], [(35, 0)], [9], [], [], [], [], []⟩
noncomputable def an : An := .seq .no (.seq (.seq .no (.one (.loop ⟨[(5, (aD iT))], [], [iT]⟩ [0, 1] [] (.seq (.seq .no (.cond .no .no)) (.seq (.one (.seq .no (.join ⟨[(6, .c (.v (.d .bool)))], [], [.bool]⟩ [0, 1, 5] [] true (.seq .no (.one (.loop ⟨[(6, .c (.v (.d .bool))), (7, (aD iT))], [], [.bool, iT]⟩ [0, 1, 5] [] (.seq (.seq .no (.cond .no .no)) (.seq (.one .no) .no))))) (.seq .no (.cond (.seq .no .no) .no))))) .no))))) (.seq .no .no))
theorem run [Fuel] : RunIs env Try.f35 an con := fun x => by kernel_rfl
theorem ok [Fuel] : ConOK Try.prog con := run_ok (E := env) run mixed Try.func35 (by kernel_rfl) (cons_cons ladingref26_True.ok (cons_nil))
end ladingref26_Holds
namespace ladingref26_Follows
noncomputable def con [Fuel] : Con := ⟨57, [.c (.v (.d (.sl GClauseT))), (aD liT)], [], [], [(.sl GClauseT), liT], .one (.v (.d .bool)), [], [.bool], fun x => ladingref26_Follows x.1 x.2⟩
noncomputable def env [Fuel] : Env := ⟨Try.prog, [(23, iT)], [ladingref26_Lit.con, ladingref26_closure.con], [(19, 0), (31, 1)], [7], [], [31], [26], [], []⟩
noncomputable def an : An := .seq .no (.seq .no (.join ⟨[(5, .c (.v (.own 500003)))], [(500003, .arr 3 iT)], [liT]⟩ [0] [] true (.seq .no (.one (.loop ⟨[(5, .c (.v (.own 500005))), (6, (aD iT))], [(500005, .arr 3 iT)], [iT, liT]⟩ [0, 1] [] (.seq (.seq .no (.cond .no .no)) (.seq (.one (.seq .no (.cond .no .no))) .no))))) (.seq .no (.seq .no .no))))
theorem run [Fuel] : RunIs env Try.f57 an con := fun x => by kernel_rfl
theorem ok [Fuel] : ConOK Try.prog con := run_ok (E := env) run mixed Try.func57 (by kernel_rfl) (cons_cons ladingref26_Lit.ok (cons_cons ladingref26_closure.ok (cons_nil)))
end ladingref26_Follows
namespace ladingref26_Proof
noncomputable def con [Fuel] : Con := ⟨36, [.c (.v (.d (.sl GClauseT))), (aD lliT)], [], [], [(.sl GClauseT), lliT], .one (.v (.d iT)), [], [iT], fun x => ladingref26_Proof x.1 x.2⟩
noncomputable def env [Fuel] : Env := ⟨Try.prog, [(22, GClauseT)], [ladingref26_Follows.con, ladingref26_Lit.con], [(29, 0), (55, 1)], [12], [], [], [37], [], []⟩
noncomputable def an : An := .seq .no (.seq (.seq .no (.cond (.seq .no .no) .no)) (.seq (.seq .no (.cond (.seq .no .no) .no)) (.seq .no (.join ⟨[], [], []⟩ [1] [] false (.seq .no (.one (.loop ⟨[(5, .c (.v (.own 500002))), (6, (aD iT))], [(500002, .arr 47 GClauseT)], [iT, (.sl GClauseT)]⟩ [1] [] (.seq (.seq .no (.cond .no .no)) (.seq (.one (.seq (.seq .no (.cond (.seq .no .no) .no)) .no)) .no))))) (.seq .no (.seq (.seq .no (.one (.loop ⟨[(8, (aD iT))], [], [iT]⟩ [7] [] (.seq (.seq .no (.cond .no .no)) (.seq (.one (.seq .no (.cond (.seq .no .no) .no))) .no))))) (.seq .no .no)))))))
theorem run [Fuel] : RunIs env Try.f36 an con := fun x => by kernel_rfl
theorem ok [Fuel] : ConOK Try.prog con := run_ok (E := env) run mixed Try.func36 (by kernel_rfl) (cons_cons ladingref26_Follows.ok (cons_cons ladingref26_Lit.ok (cons_nil)))
end ladingref26_Proof
namespace ladingref28_Check
noncomputable def con [Fuel] : Con := ⟨18, [.c (.v (.d (.sl GClauseT))), (aD iT), (aD liT), (aD lbT), (aD lbT), .c (.v (.d (.sl lliT)))], [], [], [(.sl GClauseT), iT, liT, lbT, lbT, (.sl lliT)], .one (.v (.d iT)), [], [iT], fun x => ladingref28_Check x.1 x.2.1 x.2.2.1 x.2.2.2.1 x.2.2.2.2.1 x.2.2.2.2.2⟩
noncomputable def env [Fuel] : Env := ⟨Try.prog, [(22, GClauseT), (23, iT)], [ladingref28_Right.con, ladingref26_Holds.con, ladingref28_Holds.con, ladingref28_Fixed.con, ladingref26_Proof.con], [(20, 0), (43, 1), (61, 2), (79, 3), (106, 4)], [19, 1000000], [], [], [84, 97, 99], [54, 55, 59, 60, 82, 83], []⟩
noncomputable def an : An := .seq .no (.seq (.seq .no (.cond (.seq .no .no) .no)) (.seq (.join ⟨[(45, .c (.v (.d .bool)))], [], [.bool]⟩ [0, 2, 3, 4, 5] [] true .no (.cond (.seq .no .no) .no)) (.seq (.seq .no (.one (.loop ⟨[(13, (aD iT))], [], [iT]⟩ [0, 2, 3, 4, 5] [] (.seq (.seq .no (.cond .no .no)) (.seq (.one (.seq (.seq .no (.cond (.seq .no .no) .no)) (.seq (.seq .no (.cond (.seq (.seq .no (.cond (.seq .no .no) .no)) .no) .no)) (.seq .no (.seq .no (.join ⟨[(14, .c (.v (.own 500002)))], [(500002, .arr 47 GClauseT)], [(.sl GClauseT)]⟩ [0, 2, 3, 4, 5, 13] [] true (.seq .no (.one (.loop ⟨[(14, .c (.v (.own 500003))), (16, (aD iT))], [(500003, .arr 47 GClauseT)], [iT, (.sl GClauseT)]⟩ [0, 2, 3, 4, 5, 13, 15] [85] (.seq (.seq .no (.cond .no .no)) (.seq (.one .no) .no))))) (.seq .no (.cond (.seq .no .no) .no)))))))) .no))))) (.seq .no .no))))
theorem run [Fuel] : RunIs env Try.f18 an con := fun x => by kernel_rfl
theorem ok [Fuel] : ConOK Try.prog con := run_ok (E := env) run mixed Try.func18 (by kernel_rfl) (cons_cons ladingref28_Right.ok (cons_cons ladingref26_Holds.ok (cons_cons ladingref28_Holds.ok (cons_cons ladingref28_Fixed.ok (cons_cons ladingref26_Proof.ok (cons_nil))))))
end ladingref28_Check
namespace ladinglaw28_PreferTells
noncomputable def con [Fuel] : Con := ⟨3, [.c (.v (.d (.sl GClauseT))), (aD iT), (aD liT), (aD lbT), (aD lbT), (aD lbT), .c (.v (.d (.sl lliT)))], [], [], [(.sl GClauseT), iT, liT, lbT, lbT, lbT, (.sl lliT)], .one (.v (.d .bool)), [], [.bool], fun x => ladinglaw28_PreferTells x.1 x.2.1 x.2.2.1 x.2.2.2.1 x.2.2.2.2.1 x.2.2.2.2.2.1 x.2.2.2.2.2.2⟩
noncomputable def env [Fuel] : Env := ⟨Try.prog, [], [ladinglaw28_small.con, ladingref28_Few.con, ladinglaw28_light.con, prefer_Best.con, ladingref28_Best.con, ladingref28_Bools.con, ladingref28_Proofs.con, prefer_Compare.con, ladingref28_Compare.con, prefer_Check.con, ladingref28_Check.con], [(27, 0), (31, 1), (35, 2), (58, 3), (67, 4), (78, 5), (84, 5), (90, 6), (96, 7), (100, 8), (106, 7), (110, 8), (119, 9), (126, 10), (134, 9), (141, 10), (149, 9), (156, 10), (175, 9), (182, 10)], [1000000], [], [], [], [], []⟩
noncomputable def an : An := .seq .no (.seq .no (.seq (.join ⟨[(52, .c (.v (.d .bool)))], [], [.bool]⟩ [0, 1, 2, 3, 4, 5, 6, 15] [] true .no (.cond (.seq .no .no) .no)) (.seq .no (.seq .no (.seq (.join ⟨[(92, .c (.v (.d .bool)))], [], [.bool]⟩ [0, 1, 2, 3, 4, 5, 6, 15, 20, 21, 22] [] true .no (.cond (.seq .no .no) .no)) (.seq (.join ⟨[(112, .c (.v (.d .bool)))], [], [.bool]⟩ [0, 1, 2, 3, 5, 6, 15, 20, 21, 22] [] true .no (.cond (.seq .no .no) .no)) (.seq .no (.seq .no (.seq .no (.seq .no .no))))))))))
theorem run [Fuel] : RunIs env Try.f3 an con := fun x => by kernel_rfl
theorem ok [Fuel] : ConOK Try.prog con := run_ok (E := env) run mixed Try.func3 (by kernel_rfl) (cons_cons ladinglaw28_small.ok (cons_cons ladingref28_Few.ok (cons_cons ladinglaw28_light.ok (cons_cons prefer_Best.ok (cons_cons ladingref28_Best.ok (cons_cons ladingref28_Bools.ok (cons_cons ladingref28_Proofs.ok (cons_cons prefer_Compare.ok (cons_cons ladingref28_Compare.ok (cons_cons prefer_Check.ok (cons_cons ladingref28_Check.ok (cons_nil))))))))))))
end ladinglaw28_PreferTells
namespace ladinglaw28_satisfies
noncomputable def con [Fuel] : Con := ⟨21, [.c (.v (.d (.sl GClauseT))), (aD lbT)], [], [], [(.sl GClauseT), lbT], .one (.v (.d .bool)), [], [.bool], fun x => ladinglaw28_satisfies x.1 x.2⟩
noncomputable def env [Fuel] : Env := ⟨Try.prog, [], [ladingref28_Holds.con], [(35, 0)], [9], [], [], [], [], []⟩
noncomputable def an : An := .seq .no (.seq (.seq .no (.one (.loop ⟨[(5, (aD iT))], [], [iT]⟩ [0, 1] [] (.seq (.seq .no (.cond .no .no)) (.seq (.one (.seq .no (.join ⟨[(6, .c (.v (.d .bool)))], [], [.bool]⟩ [0, 1, 5] [] true (.seq .no (.one (.loop ⟨[(6, .c (.v (.d .bool))), (7, (aD iT))], [], [.bool, iT]⟩ [0, 1, 5] [] (.seq (.seq .no (.cond .no .no)) (.seq (.one .no) .no))))) (.seq .no (.cond (.seq .no .no) .no))))) .no))))) (.seq .no .no))
theorem run [Fuel] : RunIs env Try.f21 an con := fun x => by kernel_rfl
theorem ok [Fuel] : ConOK Try.prog con := run_ok (E := env) run mixed Try.func21 (by kernel_rfl) (cons_cons ladingref28_Holds.ok (cons_nil))
end ladinglaw28_satisfies
namespace ladinglaw28_models
noncomputable def con [Fuel] : Con := ⟨20, [.c (.v (.d (.sl GClauseT))), (aD iT)], [], [], [(.sl GClauseT), iT], .one (.v (.d (.sl lbT))), [], [(.sl lbT)], fun x => ladinglaw28_models x.1 x.2⟩
noncomputable def env [Fuel] : Env := ⟨Try.prog, [(24, .bool), (38, lbT)], [ladinglaw28_satisfies.con], [(48, 0)], [7, 17, 1000000], [], [51], [], [], []⟩
noncomputable def an : An := .seq .no (.seq .no (.seq .no (.join ⟨[(6, (aD iT))], [], [iT]⟩ [0, 1, 5] [] true (.seq .no (.one (.loop ⟨[(6, (aD iT)), (7, (aD iT))], [], [iT, iT]⟩ [0, 1, 5] [] (.seq (.join ⟨[(18, .c (.v (.d .bool)))], [], [.bool]⟩ [0, 1, 5, 6, 7] [] true .no (.cond .no .no)) (.seq (.one .no) .no))))) (.seq (.seq .no (.one (.loop ⟨[(5, .c (.v (.own 500005))), (8, (aD iT))], [(500005, .arr 24 lbT)], [iT, (.sl lbT)]⟩ [0, 1, 6] [] (.seq (.seq .no (.cond .no .no)) (.seq (.one (.seq .no (.seq .no (.join ⟨[(9, .c (.v (.own 500007)))], [(500007, .arr 4 .bool)], [lbT]⟩ [0, 1, 5, 6, 8] [500005] true (.seq .no (.one (.loop ⟨[(9, .c (.v (.own 500008))), (10, (aD iT)), (11, (aD iT))], [(500008, .arr 4 .bool)], [iT, iT, lbT]⟩ [0, 1, 5, 6, 8] [500005] (.seq (.seq .no (.cond .no .no)) (.seq (.one (.seq .no .no)) .no))))) (.seq .no (.cond .no .no)))))) .no))))) (.seq .no .no)))))
theorem run [Fuel] : RunIs env Try.f20 an con := fun x => by kernel_rfl
theorem ok [Fuel] : ConOK Try.prog con := run_ok (E := env) run mixed Try.func20 (by kernel_rfl) (cons_cons ladinglaw28_satisfies.ok (cons_nil))
end ladinglaw28_models
namespace ladinglaw28_PreferBest
noncomputable def con [Fuel] : Con := ⟨4, [.c (.v (.d (.sl GClauseT))), (aD iT), (aD liT)], [], [], [(.sl GClauseT), iT, liT], .one (.v (.d .bool)), [], [.bool], fun x => ladinglaw28_PreferBest x.1 x.2.1 x.2.2⟩
noncomputable def env [Fuel] : Env := ⟨Try.prog, [], [ladinglaw28_small.con, ladingref28_Few.con, clause_Right.con, prefer_Best.con, ladinglaw28_models.con, ladinglaw28_satisfies.con, prefer_Check.con, ladingref28_Holds.con], [(18, 0), (22, 1), (31, 2), (68, 3), (75, 4), (117, 5), (127, 6), (145, 7), (167, 7)], [9, 20, 1000000], [], [], [], [138, 139, 143, 144, 161, 162, 165, 166], []⟩
noncomputable def an : An := .seq .no (.seq .no (.seq (.join ⟨[(33, .c (.v (.d .bool)))], [], [.bool]⟩ [0, 1, 2, 7] [] true .no (.cond (.seq .no .no) .no)) (.join ⟨[], [], []⟩ [0, 1, 2, 7] [] false (.seq .no (.one (.loop ⟨[(8, (aD iT))], [], [iT]⟩ [0, 1, 2, 7] [] (.seq (.seq .no (.cond .no .no)) (.seq (.one (.join ⟨[(62, .c (.v (.d .bool)))], [], [.bool]⟩ [0, 1, 2, 7, 8] [] true .no (.cond (.seq .no .no) .no))) .no))))) (.seq .no (.seq .no (.seq (.seq .no (.cond (.seq .no .no) .no)) (.seq (.join ⟨[(129, .c (.v (.d .bool)))], [], [.bool]⟩ [2, 7, 9, 10, 13] [] true .no (.cond (.seq .no .no) .no)) (.join ⟨[], [], []⟩ [2, 7, 10, 13] [] false (.seq .no (.one (.loop ⟨[(14, (aD iT))], [], [iT]⟩ [2, 7, 9, 10, 13] [] (.seq (.seq .no (.cond .no .no)) (.seq (.one (.seq .no (.cond (.seq .no .no) .no))) .no))))) (.seq (.seq .no (.one (.loop ⟨[(15, (aD iT))], [], [iT]⟩ [2, 7, 10, 13] [] (.seq (.seq .no (.cond .no .no)) (.seq (.one (.seq .no (.one (.loop ⟨[(16, (aD iT))], [], [iT]⟩ [2, 7, 10, 13, 15] [] (.seq (.seq .no (.cond .no .no)) (.seq (.one (.seq .no (.seq (.join ⟨[(175, .c (.v (.d .bool)))], [], [.bool]⟩ [2, 7, 10, 13, 15, 16, 17] [] true .no (.cond (.seq .no .no) .no)) (.seq .no (.cond .no .no))))) .no)))))) .no))))) (.seq .no .no))))))))))
theorem run [Fuel] : RunIs env Try.f4 an con := fun x => by kernel_rfl
theorem ok [Fuel] : ConOK Try.prog con := run_ok (E := env) run mixed Try.func4 (by kernel_rfl) (cons_cons ladinglaw28_small.ok (cons_cons ladingref28_Few.ok (cons_cons clause_Right.ok (cons_cons prefer_Best.ok (cons_cons ladinglaw28_models.ok (cons_cons ladinglaw28_satisfies.ok (cons_cons prefer_Check.ok (cons_cons ladingref28_Holds.ok (cons_nil)))))))))
end ladinglaw28_PreferBest
namespace ladinglaw28_PreferSound
noncomputable def con [Fuel] : Con := ⟨5, [.c (.v (.d (.sl GClauseT))), (aD iT), (aD liT), (aD lbT), (aD lbT), .c (.v (.d (.sl lliT))), .c (.v (.d (.int .u8)))], [], [], [(.sl GClauseT), iT, liT, lbT, lbT, (.sl lliT), (.int .u8)], .one (.v (.d .bool)), [], [.bool], fun x => ladinglaw28_PreferSound x.1 x.2.1 x.2.2.1 x.2.2.2.1 x.2.2.2.2.1 x.2.2.2.2.2.1 x.2.2.2.2.2.2⟩
noncomputable def env [Fuel] : Env := ⟨Try.prog, [(24, .bool)], [ladinglaw28_small.con, ladingref28_Few.con, ladinglaw28_light.con, clause_Right.con, ladinglaw28_models.con, prefer_Check.con, ladinglaw28_satisfies.con, prefer_Compare.con, prefer_Best.con], [(24, 0), (28, 1), (36, 2), (42, 3), (58, 4), (65, 5), (74, 6), (89, 7), (95, 8), (132, 5), (146, 5)], [13, 1000000], [], [], [], [], []⟩
noncomputable def an : An := .seq .no (.seq .no (.seq (.join ⟨[(54, .c (.v (.d .bool)))], [], [.bool]⟩ [0, 1, 2, 3, 4, 5, 6, 15] [] true .no (.cond (.seq .no .no) .no)) (.seq .no (.join ⟨[], [], []⟩ [0, 1, 2, 6, 15] [] false (.seq .no (.cond (.seq (.join ⟨[(76, .c (.v (.d .bool)))], [], [.bool]⟩ [0, 1, 2, 3, 6, 15, 16] [] true .no (.cond (.seq .no .no) .no)) (.seq .no (.one (.loop ⟨[(17, (aD iT))], [], [iT]⟩ [0, 1, 2, 3, 6, 15, 16] [] (.seq (.seq .no (.cond .no .no)) (.seq (.one (.seq .no (.cond (.seq .no .no) .no))) .no)))))) .no)) (.seq .no (.seq (.join ⟨[(106, .c (.v (.d .bool)))], [], [.bool]⟩ [0, 1, 2, 6, 15, 18, 19, 20] [] true .no (.cond (.seq .no .no) .no)) (.seq .no (.seq .no (.seq .no (.seq .no .no))))))))))
theorem run [Fuel] : RunIs env Try.f5 an con := fun x => by kernel_rfl
theorem ok [Fuel] : ConOK Try.prog con := run_ok (E := env) run mixed Try.func5 (by kernel_rfl) (cons_cons ladinglaw28_small.ok (cons_cons ladingref28_Few.ok (cons_cons ladinglaw28_light.ok (cons_cons clause_Right.ok (cons_cons ladinglaw28_models.ok (cons_cons prefer_Check.ok (cons_cons ladinglaw28_satisfies.ok (cons_cons prefer_Compare.ok (cons_cons prefer_Best.ok (cons_nil))))))))))
end ladinglaw28_PreferSound
namespace ladinglaw28_PreferOrder
noncomputable def con [Fuel] : Con := ⟨6, [(aD liT), (aD lbT), (aD lbT), (aD lbT), (aD iT)], [], [], [liT, lbT, lbT, lbT, iT], .one (.v (.d .bool)), [], [.bool], fun x => ladinglaw28_PreferOrder x.1 x.2.1 x.2.2.1 x.2.2.2.1 x.2.2.2.2⟩
noncomputable def env [Fuel] : Env := ⟨Try.prog, [(23, iT)], [ladinglaw28_small.con, prefer_Compare.con, ladingref28_Holds.con], [(19, 0), (42, 1), (46, 1), (50, 1), (54, 1), (62, 1), (111, 2), (117, 2), (128, 1), (131, 2), (136, 2)], [14, 18, 20, 1000000], [], [], [124], [109, 110, 115, 116], []⟩
noncomputable def an : An := .seq .no (.seq .no (.seq (.join ⟨[(37, .c (.v (.d .bool)))], [], [.bool]⟩ [0, 1, 2, 3, 4, 11] [] true .no (.cond (.seq .no .no) .no)) (.seq .no (.seq .no (.seq .no (.seq (.join ⟨[(97, .c (.v (.d .bool)))], [], [.bool]⟩ [0, 1, 2, 4, 11, 12] [] true .no (.cond (.seq .no .no) .no)) (.seq .no (.join ⟨[(15, .c (.v (.d .bool)))], [], [.bool]⟩ [0, 1, 2, 4, 11, 12] [] true (.seq .no (.one (.loop ⟨[(15, .c (.v (.d .bool))), (16, (aD iT))], [], [.bool, iT]⟩ [0, 1, 2, 4, 11, 12] [] (.seq (.seq .no (.cond .no .no)) (.seq (.one .no) .no))))) (.seq .no (.seq .no (.join ⟨[(18, (aD iT))], [], [iT]⟩ [2, 4, 11, 12, 15, 17] [] true (.seq .no (.cond .no .no)) (.join ⟨[(18, (aD iT))], [], [iT]⟩ [11, 12, 15, 17] [] true (.seq .no (.cond .no .no)) (.seq .no .no)))))))))))))
theorem run [Fuel] : RunIs env Try.f6 an con := fun x => by kernel_rfl
theorem ok [Fuel] : ConOK Try.prog con := run_ok (E := env) run mixed Try.func6 (by kernel_rfl) (cons_cons ladinglaw28_small.ok (cons_cons prefer_Compare.ok (cons_cons ladingref28_Holds.ok (cons_nil))))
end ladinglaw28_PreferOrder
namespace ladinglaw28_PreferMore
noncomputable def con [Fuel] : Con := ⟨7, [.c (.v (.d (.sl GClauseT))), (aD iT), (aD liT), .c (.a GClauseT), .c (.v (.d (.int .u8)))], [], [], [(.sl GClauseT), iT, liT, GClauseT, (.int .u8)], .one (.v (.d .bool)), [], [.bool], fun x => ladinglaw28_PreferMore x.1 x.2.1 x.2.2.1 x.2.2.2.1 x.2.2.2.2⟩
noncomputable def env [Fuel] : Env := ⟨Try.prog, [(22, GClauseT), (23, iT)], [ladinglaw28_small.con, ladingref28_Few.con, prefer_Best.con, ladingref28_Bools.con, prefer_Compare.con], [(30, 0), (34, 1), (52, 2), (83, 2), (96, 3), (116, 2), (161, 2), (174, 4)], [18, 1000000], [], [116], [114, 157, 158], [133, 134, 135, 137, 138, 143, 145, 146, 148, 149], [156]⟩
noncomputable def an : An := .seq .no (.seq .no (.seq (.join ⟨[(46, .c (.v (.d .bool)))], [], [.bool]⟩ [0, 1, 2, 4, 8, 11] [8] true .no (.cond (.seq .no .no) .no)) (.seq .no (.seq (.join ⟨[(65, .c (.v (.d .bool)))], [], [.bool]⟩ [0, 1, 2, 4, 8, 11, 12, 13, 15] [8] true .no (.cond (.seq .no .no) .no)) (.seq .no (.seq .no (.seq (.join ⟨[(98, .c (.v (.d .bool)))], [], [.bool]⟩ [0, 1, 2, 8, 11, 12, 13, 16] [8] true .no (.cond (.seq .no .no) .no)) (.join ⟨[(8, .c (.v (.loc 500001 0)))], [(500001, .box 47 [.d liT, .d iT, .d iT, .d iT])], [liT, iT, iT, iT]⟩ [0, 1, 2, 11, 12] [] false (.seq .no (.cond (.seq .no (.seq .no (.seq (.join ⟨[(130, .c (.v (.d .bool)))], [], [.bool]⟩ [0, 1, 2, 8, 11, 12, 13, 16, 23] [8] true .no (.cond (.seq .no .no) .no)) (.join ⟨[(151, .c (.v (.d .bool)))], [], [.bool]⟩ [0, 1, 2, 8, 11, 12] [8] true .no (.cond (.seq .no .no) .no))))) .no)) (.seq .no (.seq .no .no))))))))))
theorem run [Fuel] : RunIs env Try.f7 an con := fun x => by kernel_rfl
theorem ok [Fuel] : ConOK Try.prog con := run_ok (E := env) run mixed Try.func7 (by kernel_rfl) (cons_cons ladinglaw28_small.ok (cons_cons ladingref28_Few.ok (cons_cons prefer_Best.ok (cons_cons ladingref28_Bools.ok (cons_cons prefer_Compare.ok (cons_nil))))))
end ladinglaw28_PreferMore
end Go.Proofs.Ytimiahoaafjmmaa
