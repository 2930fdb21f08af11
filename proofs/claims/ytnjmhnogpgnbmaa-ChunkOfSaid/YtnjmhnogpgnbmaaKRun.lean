/-
  The code is they.
-/
import Derived.Test.YtnjmhnogpgnbmaaKModel
import Derived.Test.YtnjmhnogpgnbmaaD12
import Derived.Test.YtnjmhnogpgnbmaaSh
import Derived.Test.YtnjmhnogpgnbmaaIt
namespace Go.Proofs.Ytnjmhnogpgnbmaa
open Go.Lad
set_option linter.unusedVariables false
set_option maxRecDepth 100000
theorem mixed : Try.prog.follows .mixedOrders = true := by kernel_rfl
noncomputable abbrev iT : Ty := .int .i64
noncomputable abbrev liT : Ty := .sl iT
noncomputable abbrev lsT : Ty := .sl .str
noncomputable abbrev aD (t : Ty) : SSh := .c (.v (.d t))
noncomputable def GManifestT : Ty := (.pair iT (.pair iT liT))
namespace chunk_sized
noncomputable def con [Fuel] : Con := ⟨33, [(aD iT)], [], [], [iT], .one (.v (.d .bool)), [], [.bool], fun x => chunk_sized x⟩
noncomputable def env [Fuel] : Env := ⟨Try.prog, [], [], [], [], [], [], [], [], [], []⟩
noncomputable def an : An := .seq .no (.seq .no .no)
theorem run [Fuel] : RunIs env Try.f33 an con := fun x => by kernel_rfl
theorem ok [Fuel] : ConOK Try.prog con := run_ok (E := env) run mixed Try.func33 (by kernel_rfl) (cons_nil)
end chunk_sized
namespace content_size
noncomputable def con [Fuel] : Con := ⟨40, [(aD lsT)], [], [], [lsT], .one (.v (.d iT)), [], [iT], fun x => content_size x⟩
noncomputable def env [Fuel] : Env := ⟨Try.prog, [], [], [], [], [], [], [], [], [], []⟩
noncomputable def an : An := .seq .no (.seq .no (.seq (.seq .no (.one (.loop ⟨[(3, (aD iT)), (8, (aD iT))], [], [iT, iT]⟩ [6, 7] [] (.seq .no (.seq (.cond .no .no) (.seq (.one (.seq .no .no)) .no)))))) (.seq .no .no)))
theorem run [Fuel] : RunIs env Try.f40 an con := fun x => by kernel_rfl
theorem ok [Fuel] : ConOK Try.prog con := run_ok (E := env) run mixed Try.func40 (by kernel_rfl) (cons_nil)
end content_size
namespace content_Right
noncomputable def con [Fuel] : Con := ⟨27, [(aD lsT)], [], [], [lsT], .one (.v (.d .bool)), [], [.bool], fun x => content_Right x⟩
noncomputable def env [Fuel] : Env := ⟨Try.prog, [(62, .bool)], [content_size.con], [(23, 0)], [7], [], [], [], [], [], []⟩
noncomputable def an : An := .seq .no (.seq .no (.join ⟨[(3, .c (.v (.mp 500002)))], [(500002, .mapS false .bool)], [(.sl (.pair .str .bool))]⟩ [0] [] true (.seq .no (.one (.loop ⟨[(3, .c (.v (.mp 500003))), (9, (aD iT))], [(500003, .mapS false .bool)], [iT, (.sl (.pair .str .bool))]⟩ [0, 7, 8] [] (.seq .no (.seq (.cond .no .no) (.seq (.one (.seq .no .no)) .no)))))) (.seq .no .no)))
theorem run [Fuel] : RunIs env Try.f27 an con := fun x => by kernel_rfl
theorem ok [Fuel] : ConOK Try.prog con := run_ok (E := env) run mixed Try.func27 (by kernel_rfl) (cons_cons content_size.ok (cons_nil))
end content_Right
namespace slices_Index_string_string
noncomputable def con [Fuel] : Con := ⟨41, [(aD lsT), .c (.v (.d .str))], [], [], [lsT, .str], .one (.v (.d iT)), [], [iT], fun x => slices_Index_string_string x.1 x.2⟩
noncomputable def env [Fuel] : Env := ⟨Try.prog, [], [], [], [], [], [], [], [], [], []⟩
noncomputable def an : An := .seq .no (.seq (.seq .no (.one (.loop ⟨[(8, (aD iT))], [], [iT]⟩ [0, 1, 7] [] (.seq .no (.seq (.cond .no .no) (.seq (.one (.seq .no (.seq .no (.cond (.seq .no .no) .no)))) .no)))))) (.seq .no .no))
theorem run [Fuel] : RunIs env Try.f41 an con := fun x => by kernel_rfl
theorem ok [Fuel] : ConOK Try.prog con := run_ok (E := env) run mixed Try.func41 (by kernel_rfl) (cons_nil)
end slices_Index_string_string
namespace content_Print
noncomputable def con [Fuel] : Con := ⟨29, [(aD lsT), .c (.v (.d .str))], [], [], [lsT, .str], .one (.v (.d iT)), [], [iT], fun x => content_Print x.1 x.2⟩
noncomputable def env [Fuel] : Env := ⟨Try.prog, [], [slices_Index_string_string.con], [(7, 0)], [], [], [], [], [], [], []⟩
noncomputable def an : An := .seq .no (.seq .no .no)
theorem run [Fuel] : RunIs env Try.f29 an con := fun x => by kernel_rfl
theorem ok [Fuel] : ConOK Try.prog con := run_ok (E := env) run mixed Try.func29 (by kernel_rfl) (cons_cons slices_Index_string_string.ok (cons_nil))
end content_Print
namespace slices_Clone_string_string
noncomputable def con [Fuel] : Con := ⟨42, [(aD lsT)], [], [], [lsT], .one (.v (.own 0)), [(0, .arr 9 .str)], [lsT], fun x => slices_Clone_string_string x⟩
noncomputable def env [Fuel] : Env := ⟨Try.prog, [(22, .str)], [], [], [], [], [], [], [], [], []⟩
noncomputable def an : An := .seq .no (.seq (.seq .no (.cond (.seq .no .no) .no)) (.seq .no .no))
theorem run [Fuel] : RunIs env Try.f42 an con := fun x => by kernel_rfl
theorem ok [Fuel] : ConOK Try.prog con := run_ok (E := env) run mixed Try.func42 (by kernel_rfl) (cons_nil)
end slices_Clone_string_string
namespace content_Add
noncomputable def con [Fuel] : Con := ⟨30, [(aD lsT), .c (.v (.d .str))], [], [], [lsT, .str], .tup [.v (.own 0), .v (.d iT), .v (.d iT)], [(0, .arr 9 .str)], [iT, iT, lsT], fun x => content_Add x.1 x.2⟩
noncomputable def env [Fuel] : Env := ⟨Try.prog, [(22, .str)], [content_Right.con, content_Print.con, slices_Clone_string_string.con, content_size.con], [(9, 0), (13, 1), (17, 2), (20, 3), (26, 2)], [], [], [], [28], [], [], []⟩
noncomputable def an : An := .seq .no (.seq (.seq .no (.cond (.seq .no .no) .no)) (.seq (.seq .no (.seq .no (.cond (.seq .no .no) .no))) (.seq (.seq .no (.cond (.seq .no .no) .no)) (.seq .no .no))))
theorem run [Fuel] : RunIs env Try.f30 an con := fun x => by kernel_rfl
theorem ok [Fuel] : ConOK Try.prog con := run_ok (E := env) run mixed Try.func30 (by kernel_rfl) (cons_cons content_Right.ok (cons_cons content_Print.ok (cons_cons slices_Clone_string_string.ok (cons_cons content_size.ok (cons_nil)))))
end content_Add
namespace chunk_parts
noncomputable def con [Fuel] : Con := ⟨35, [.c (.v (.d .str)), (aD iT)], [], [], [.str, iT], .one (.v (.fn 96 [0, 1])), [(0, .box 9 [.d .str]), (1, .box 3 [.d iT])], [.str, iT], fun x => chunk_parts x.1 x.2⟩
noncomputable def env [Fuel] : Env := ⟨Try.prog, [], [], [], [], [], [], [], [], [], []⟩
noncomputable def an : An := .seq .no (.seq .no .no)
theorem run [Fuel] : RunIs env Try.f35 an con := fun x => by kernel_rfl
theorem ok [Fuel] : ConOK Try.prog con := run_ok (E := env) run mixed Try.func35 (by kernel_rfl) (cons_nil)
end chunk_parts
namespace chunk_Of
noncomputable def con [Fuel] : Con := ⟨16, [(aD lsT), .c (.v (.d .str)), (aD iT)], [], [], [lsT, .str, iT], .tup [.v (.d lsT), .a GManifestT, .v (.d iT)], [], [lsT, GManifestT, iT], fun x => chunk_Of x.1 x.2.1 x.2.2⟩
noncomputable def env [Fuel] : Env := ⟨Try.prog, [(23, iT)], [chunk_sized.con, content_Right.con, content_Add.con, chunk_parts.con], [(15, 0), (19, 1), (35, 2), (45, 3), (52, 2)], [12, 1000000], [], [], [59], [], [65, 66, 67, 8000025, 10000022, 12000029], [itParts]⟩
noncomputable def an : An := .seq .no (.seq (.join ⟨[(21, .c (.v (.d .bool)))], [], [.bool]⟩ [0, 1, 2, 7] [7] true .no (.cond (.seq .no .no) .no)) (.seq (.seq .no (.cond (.seq .no .no) .no)) (.seq .no (.seq .no (.join ⟨[(9, .c (.v (.loc 500018 0))), (11, .c (.v (.loc 500019 0))), (12, .c (.v (.loc 500020 0)))], [(500018, .box 22 [.own 500021]), (500019, .box 29 [.d iT]), (500020, .box 25 [.d iT, .d iT, .own 500022]), (500021, .arr 9 .str), (500022, .arr 3 iT)], [iT, iT, iT, lsT, liT]⟩ [7] [7] true (.seq .no (.one (.range ⟨[(9, .c (.v (.loc 500034 0))), (10, .c (.v (.loc 500035 0))), (11, .c (.v (.loc 500036 0))), (12, .c (.v (.loc 500037 0)))], [(500034, .box 22 [.own 500038]), (500035, .box 3 [.d iT]), (500036, .box 29 [.d iT]), (500037, .box 25 [.d iT, .d iT, .own 500039]), (500038, .arr 9 .str), (500039, .arr 3 iT)], [iT, iT, iT, iT, lsT, liT]⟩ [7, 45] [7, 45, 10045] .no (.one (.seq (.seq .no (.cond .no .no)) (.seq .no .no)))))) (.seq (.seq .no (.cond (.seq .no .no) .no)) (.seq .no .no)))))))
theorem run [Fuel] : RunIs env Try.f16 an con := fun x => by kernel_rfl
theorem ok [Fuel] : ConOK Try.prog con := run_ok (E := env) run mixed Try.func16 (by kernel_rfl) (cons_cons chunk_sized.ok (cons_cons content_Right.ok (cons_cons content_Add.ok (cons_cons chunk_parts.ok (cons_nil))))) (its_cons itParts_ok (its_nil))
end chunk_Of
namespace content_Text
noncomputable def con [Fuel] : Con := ⟨13, [(aD lsT), (aD iT)], [], [], [lsT, iT], .tup [.v (.d .str), .v (.d .bool)], [], [.str, .bool], fun x => content_Text x.1 x.2⟩
noncomputable def env [Fuel] : Env := ⟨Try.prog, [], [], [], [1000000], [], [], [], [], [], []⟩
noncomputable def an : An := .seq .no (.seq (.join ⟨[(13, .c (.v (.d .bool)))], [], [.bool]⟩ [0, 1] [] true .no (.cond (.seq .no .no) .no)) (.seq .no .no))
theorem run [Fuel] : RunIs env Try.f13 an con := fun x => by kernel_rfl
theorem ok [Fuel] : ConOK Try.prog con := run_ok (E := env) run mixed Try.func13 (by kernel_rfl) (cons_nil)
end content_Text
namespace internal_stringslite_HasPrefix
noncomputable def con [Fuel] : Con := ⟨54, [.c (.v (.d .str)), .c (.v (.d .str))], [], [], [.str, .str], .one (.v (.d .bool)), [], [.bool], fun x => internal_stringslite_HasPrefix x.1 x.2⟩
noncomputable def env [Fuel] : Env := ⟨Try.prog, [], [], [], [], [], [], [], [], [], []⟩
noncomputable def an : An := .seq .no (.seq .no .no)
theorem run [Fuel] : RunIs env Try.f54 an con := fun x => by kernel_rfl
theorem ok [Fuel] : ConOK Try.prog con := run_ok (E := env) run mixed Try.func54 (by kernel_rfl) (cons_nil)
end internal_stringslite_HasPrefix
namespace internal_stringslite_CutPrefix
noncomputable def con [Fuel] : Con := ⟨46, [.c (.v (.d .str)), .c (.v (.d .str))], [], [], [.str, .str], .tup [.v (.d .str), .v (.d .bool)], [], [.str, .bool], fun x => internal_stringslite_CutPrefix x.1 x.2⟩
noncomputable def env [Fuel] : Env := ⟨Try.prog, [], [internal_stringslite_HasPrefix.con], [(8, 0)], [], [], [], [], [], [], []⟩
noncomputable def an : An := .seq .no (.seq (.seq .no (.cond (.seq .no .no) .no)) (.seq .no .no))
theorem run [Fuel] : RunIs env Try.f46 an con := fun x => by kernel_rfl
theorem ok [Fuel] : ConOK Try.prog con := run_ok (E := env) run mixed Try.func46 (by kernel_rfl) (cons_cons internal_stringslite_HasPrefix.ok (cons_nil))
end internal_stringslite_CutPrefix
namespace strings_CutPrefix
noncomputable def con [Fuel] : Con := ⟨32, [.c (.v (.d .str)), .c (.v (.d .str))], [], [], [.str, .str], .tup [.v (.d .str), .v (.d .bool)], [], [.str, .bool], fun x => strings_CutPrefix x.1 x.2⟩
noncomputable def env [Fuel] : Env := ⟨Try.prog, [], [internal_stringslite_CutPrefix.con], [(8, 0)], [], [], [], [], [], [], []⟩
noncomputable def an : An := .seq .no (.seq .no .no)
theorem run [Fuel] : RunIs env Try.f32 an con := fun x => by kernel_rfl
theorem ok [Fuel] : ConOK Try.prog con := run_ok (E := env) run mixed Try.func32 (by kernel_rfl) (cons_cons internal_stringslite_CutPrefix.ok (cons_nil))
end strings_CutPrefix
namespace chunk_Right
noncomputable def con [Fuel] : Con := ⟨12, [(aD lsT), .c (.a GManifestT)], [], [], [lsT, GManifestT], .one (.v (.d .bool)), [], [.bool], fun x => chunk_Right x.1 x.2⟩
noncomputable def env [Fuel] : Env := ⟨Try.prog, [], [content_Text.con, content_Right.con, strings_CutPrefix.con], [(17, 0), (24, 1), (50, 0), (56, 2)], [1000000], [], [], [], [], [], []⟩
noncomputable def an : An := .seq .no (.seq .no (.seq (.join ⟨[(39, .c (.v (.d .bool)))], [], [.bool]⟩ [0, 3, 5] [3] true .no (.cond (.seq .no .no) .no)) (.seq (.seq .no (.one (.loop ⟨[(5, .c (.v (.d .str))), (43, (aD iT))], [], [.str, iT]⟩ [0, 41, 42] [] (.seq .no (.seq (.cond .no .no) (.seq (.one (.seq .no (.seq .no (.seq .no (.seq (.join ⟨[(73, .c (.v (.d .bool)))], [], [.bool]⟩ [0, 11, 41, 42, 43] [] true .no (.cond (.seq .no .no) .no)) .no))))) .no)))))) (.seq .no .no))))
theorem run [Fuel] : RunIs env Try.f12 an con := fun x => by kernel_rfl
theorem ok [Fuel] : ConOK Try.prog con := run_ok (E := env) run mixed Try.func12 (by kernel_rfl) (cons_cons content_Text.ok (cons_cons content_Right.ok (cons_cons strings_CutPrefix.ok (cons_nil))))
end chunk_Right
namespace chunk_Check
noncomputable def con [Fuel] : Con := ⟨14, [(aD lsT), .c (.a GManifestT), (aD iT), .c (.v (.d .str))], [], [], [lsT, GManifestT, iT, .str], .one (.v (.d .bool)), [], [.bool], fun x => chunk_Check x.1 x.2.1 x.2.2.1 x.2.2.2⟩
noncomputable def env [Fuel] : Env := ⟨Try.prog, [], [content_Text.con], [(27, 0)], [1000000], [], [], [], [], [], []⟩
noncomputable def an : An := .seq .no (.seq (.join ⟨[(19, .c (.v (.d .bool)))], [], [.bool]⟩ [0, 2, 3, 5] [5] true .no (.cond (.seq .no .no) .no)) (.seq .no (.seq .no .no)))
theorem run [Fuel] : RunIs env Try.f14 an con := fun x => by kernel_rfl
theorem ok [Fuel] : ConOK Try.prog con := run_ok (E := env) run mixed Try.func14 (by kernel_rfl) (cons_cons content_Text.ok (cons_nil))
end chunk_Check
noncomputable def strings_Join.con [Fuel] : Con := joinCon 31
theorem strings_Join.ok [Fuel] : ConOK Try.prog strings_Join.con := join_con (by kernel_rfl) Go.Proofs.Try.strings_Join_none Go.Proofs.Try.strings_Join
namespace chunk_Join
noncomputable def con [Fuel] : Con := ⟨11, [(aD lsT), .c (.a GManifestT), (aD lsT)], [], [], [lsT, GManifestT, lsT], .tup [.v (.d .str), .v (.d iT)], [], [.str, iT], fun x => chunk_Join x.1 x.2.1 x.2.2⟩
noncomputable def env [Fuel] : Env := ⟨Try.prog, [], [chunk_Right.con, chunk_Check.con, strings_Join.con], [(12, 0), (33, 1), (37, 2)], [9, 1000000], [], [], [], [], [], []⟩
noncomputable def an : An := .seq .no (.seq (.join ⟨[(21, .c (.v (.d .bool)))], [], [.bool]⟩ [0, 2, 4] [4] true .no (.cond (.seq .no .no) .no)) (.join ⟨[], [], []⟩ [2] [] false (.seq .no (.one (.loop ⟨[(24, (aD iT))], [], [iT]⟩ [0, 2, 4, 22, 23] [4] (.seq .no (.seq (.cond .no .no) (.seq (.one (.seq .no (.seq .no (.cond (.seq .no .no) .no)))) .no)))))) (.seq .no .no)))
theorem run [Fuel] : RunIs env Try.f11 an con := fun x => by kernel_rfl
theorem ok [Fuel] : ConOK Try.prog con := run_ok (E := env) run mixed Try.func11 (by kernel_rfl) (cons_cons chunk_Right.ok (cons_cons chunk_Check.ok (cons_cons strings_Join.ok (cons_nil))))
end chunk_Join
namespace slices_AppendSeq_string_string
noncomputable def con [Fuel] : Con := ⟨47, [.c (.v (.nil)), .c (.v (.fn 96 [1000000, 1000001]))], [], [(1000000, .box 9 [.d .str]), (1000001, .box 3 [.d iT])], [.str, iT], .one (.v (.d lsT)), [(1000000, .gone), (1000001, .gone)], [lsT], fun x => slices_AppendSeq_string_string x.1 x.2⟩
noncomputable def env [Fuel] : Env := ⟨Try.prog, [(22, .str)], [], [], [], [], [], [10], [], [], [itParts]⟩
noncomputable def an : An := .seq .no (.seq (.seq .no (.one (.range ⟨[(2, .c (.v (.loc 500004 0)))], [(500004, .box 22 [.own 500005]), (500005, .arr 9 .str)], [lsT]⟩ [6] [1000000, 1000001] .no (.one .no)))) (.seq .no .no))
theorem run [Fuel] : RunIs env Try.f47 an con := fun x => by kernel_rfl
theorem ok [Fuel] : ConOK Try.prog con := run_ok (E := env) run mixed Try.func47 (by kernel_rfl) (cons_nil) (its_cons itParts_ok (its_nil))
end slices_AppendSeq_string_string
namespace slices_Collect_string
noncomputable def con [Fuel] : Con := ⟨34, [.c (.v (.fn 96 [1000000, 1000001]))], [], [(1000000, .box 9 [.d .str]), (1000001, .box 3 [.d iT])], [.str, iT], .one (.v (.d lsT)), [(1000000, .gone), (1000001, .gone)], [lsT], fun x => slices_Collect_string x.1 x.2⟩
noncomputable def env [Fuel] : Env := ⟨Try.prog, [], [slices_AppendSeq_string_string.con], [(4, 0)], [], [4], [], [], [], [], []⟩
noncomputable def an : An := .seq .no (.seq .no .no)
theorem run [Fuel] : RunIs env Try.f34 an con := fun x => by kernel_rfl
theorem ok [Fuel] : ConOK Try.prog con := run_ok (E := env) run mixed Try.func34 (by kernel_rfl) (cons_cons slices_AppendSeq_string_string.ok (cons_nil))
end slices_Collect_string
namespace chunk_Cut
noncomputable def con [Fuel] : Con := ⟨15, [.c (.v (.d .str)), (aD iT)], [], [], [.str, iT], .one (.v (.d lsT)), [], [lsT], fun x => chunk_Cut x.1 x.2⟩
noncomputable def env [Fuel] : Env := ⟨Try.prog, [], [chunk_sized.con, chunk_parts.con, slices_Collect_string.con], [(6, 0), (10, 1), (11, 2)], [], [11], [], [], [], [], []⟩
noncomputable def an : An := .seq .no (.seq (.seq .no (.cond (.seq .no .no) .no)) (.seq .no .no))
theorem run [Fuel] : RunIs env Try.f15 an con := fun x => by kernel_rfl
theorem ok [Fuel] : ConOK Try.prog con := run_ok (E := env) run mixed Try.func15 (by kernel_rfl) (cons_cons chunk_sized.ok (cons_cons chunk_parts.ok (cons_cons slices_Collect_string.ok (cons_nil))))
end chunk_Cut
namespace ladingref04_Same
noncomputable def con [Fuel] : Con := ⟨18, [(aD lsT), (aD lsT)], [], [], [lsT, lsT], .one (.v (.d .bool)), [], [.bool], fun x => ladingref04_Same x.1 x.2⟩
noncomputable def env [Fuel] : Env := ⟨Try.prog, [], [], [], [], [], [], [], [19, 20, 23, 24], [], []⟩
noncomputable def an : An := .seq .no (.seq (.seq .no (.cond (.seq .no .no) .no)) (.seq (.seq .no (.one (.loop ⟨[(5, (aD iT))], [], [iT]⟩ [0, 1] [] (.seq (.seq .no (.cond .no .no)) (.seq (.one (.seq .no (.cond (.seq .no .no) .no))) .no))))) (.seq .no .no)))
theorem run [Fuel] : RunIs env Try.f18 an con := fun x => by kernel_rfl
theorem ok [Fuel] : ConOK Try.prog con := run_ok (E := env) run mixed Try.func18 (by kernel_rfl) (cons_nil)
end ladingref04_Same
namespace ladingref36_Same
noncomputable def con [Fuel] : Con := ⟨19, [.c (.a GManifestT), .c (.a GManifestT)], [], [], [GManifestT, GManifestT], .one (.v (.d .bool)), [], [.bool], fun x => ladingref36_Same x.1 x.2⟩
noncomputable def env [Fuel] : Env := ⟨Try.prog, [], [], [], [1000000], [], [], [], [37, 38, 42, 43], [35, 40], []⟩
noncomputable def an : An := .seq .no (.seq (.join ⟨[(26, .c (.v (.d .bool)))], [], [.bool]⟩ [2, 3] [2, 3] true .no (.cond (.seq .no .no) .no)) (.seq (.seq .no (.one (.loop ⟨[(5, (aD iT))], [], [iT]⟩ [2, 3] [2, 3] (.seq (.seq .no (.cond .no .no)) (.seq (.one (.seq .no (.cond (.seq .no .no) .no))) .no))))) (.seq .no .no)))
theorem run [Fuel] : RunIs env Try.f19 an con := fun x => by kernel_rfl
theorem ok [Fuel] : ConOK Try.prog con := run_ok (E := env) run mixed Try.func19 (by kernel_rfl) (cons_nil)
end ladingref36_Same
namespace ladinglaw36_small
noncomputable def con [Fuel] : Con := ⟨8, [], [], [], [], .one (.v (.d .bool)), [], [.bool], fun x => ladinglaw36_small⟩
noncomputable def env [Fuel] : Env := ⟨Try.prog, [(22, .str), (23, iT)], [chunk_Of.con, chunk_Join.con, chunk_Cut.con, ladingref04_Same.con, ladingref36_Same.con, chunk_Right.con], [(11, 0), (19, 1), (26, 1), (29, 2), (31, 3), (35, 3), (41, 4), (63, 5)], [5], [], [], [10, 18, 25, 30, 34, 39], [], [], []⟩
noncomputable def an : An := .seq .no (.seq .no (.seq .no (.seq .no (.join ⟨[(8, .c (.v (.d .bool)))], [], [.bool]⟩ [1, 2, 3, 4, 5, 7] [2] true .no (.seq .no .no)))))
theorem run [Fuel] : RunIs env Try.f8 an con := fun x => by kernel_rfl
theorem ok [Fuel] : ConOK Try.prog con := run_ok (E := env) run mixed Try.func8 (by kernel_rfl) (cons_cons chunk_Of.ok (cons_cons chunk_Join.ok (cons_cons chunk_Cut.ok (cons_cons ladingref04_Same.ok (cons_cons ladingref36_Same.ok (cons_cons chunk_Right.ok (cons_nil)))))))
end ladinglaw36_small
namespace ladinglaw36_few
noncomputable def con [Fuel] : Con := ⟨9, [(aD lsT), (aD iT)], [], [], [lsT, iT], .one (.v (.d .bool)), [], [.bool], fun x => ladinglaw36_few x.1 x.2⟩
noncomputable def env [Fuel] : Env := ⟨Try.prog, [], [], [], [1000000], [], [], [], [], [], []⟩
noncomputable def an : An := .seq .no (.seq (.seq .no (.one (.loop ⟨[(5, (aD iT))], [], [iT]⟩ [0, 1] [] (.seq (.join ⟨[(14, .c (.v (.d .bool)))], [], [.bool]⟩ [0, 1, 5] [] true .no (.cond .no .no)) (.seq (.one (.seq .no (.cond (.seq .no .no) .no))) .no))))) (.seq .no .no))
theorem run [Fuel] : RunIs env Try.f9 an con := fun x => by kernel_rfl
theorem ok [Fuel] : ConOK Try.prog con := run_ok (E := env) run mixed Try.func9 (by kernel_rfl) (cons_nil)
end ladinglaw36_few
namespace ladinglaw36_light
noncomputable def con [Fuel] : Con := ⟨10, [.c (.a GManifestT)], [], [], [GManifestT], .one (.v (.d .bool)), [], [.bool], fun x => ladinglaw36_light x⟩
noncomputable def env [Fuel] : Env := ⟨Try.prog, [], [], [], [], [], [], [], [], [], []⟩
noncomputable def an : An := .seq .no (.seq .no .no)
theorem run [Fuel] : RunIs env Try.f10 an con := fun x => by kernel_rfl
theorem ok [Fuel] : ConOK Try.prog con := run_ok (E := env) run mixed Try.func10 (by kernel_rfl) (cons_nil)
end ladinglaw36_light
namespace ladinglaw36_ChunkJoins
noncomputable def con [Fuel] : Con := ⟨3, [(aD lsT), .c (.a GManifestT), (aD lsT)], [], [], [lsT, GManifestT, lsT], .one (.v (.d .bool)), [], [.bool], fun x => ladinglaw36_ChunkJoins x.1 x.2.1 x.2.2⟩
noncomputable def env [Fuel] : Env := ⟨Try.prog, [], [ladinglaw36_small.con, ladinglaw36_few.con, ladinglaw36_light.con, chunk_Join.con, chunk_Right.con, content_Text.con, chunk_Check.con], [(18, 0), (20, 1), (24, 2), (29, 1), (37, 3), (42, 4), (68, 5), (88, 6), (100, 5)], [7, 14, 1000000], [], [], [], [76, 77, 86, 87], [82], []⟩
noncomputable def an : An := .seq .no (.seq .no (.seq (.join ⟨[(31, .c (.v (.d .bool)))], [], [.bool]⟩ [0, 2, 4, 7] [4] true .no (.cond (.seq .no .no) .no)) (.seq .no (.seq .no (.join ⟨[(11, .c (.v (.d .bool)))], [], [.bool]⟩ [0, 2, 4, 7, 8, 9, 10] [4] true .no (.seq .no (.join ⟨[(11, .c (.v (.d .bool))), (12, .c (.v (.d .str)))], [], [.bool, .str]⟩ [0, 4, 7, 8, 9, 10] [4] true (.seq .no (.one (.loop ⟨[(11, .c (.v (.d .bool))), (12, .c (.v (.d .str))), (13, (aD iT))], [], [.bool, .str, iT]⟩ [0, 2, 4, 7, 8, 9, 10] [4] (.seq (.join ⟨[(58, .c (.v (.d .bool)))], [], [.bool]⟩ [0, 2, 4, 7, 8, 9, 10, 11, 12, 13] [4] true .no (.cond .no .no)) (.seq (.one (.seq .no (.seq .no .no))) .no))))) (.seq .no (.seq (.join ⟨[(128, .c (.v (.d .bool)))], [], [.bool]⟩ [7, 8, 11, 12, 16] [] true .no (.cond (.seq .no .no) .no)) (.seq .no .no))))))))))
theorem run [Fuel] : RunIs env Try.f3 an con := fun x => by kernel_rfl
theorem ok [Fuel] : ConOK Try.prog con := run_ok (E := env) run mixed Try.func3 (by kernel_rfl) (cons_cons ladinglaw36_small.ok (cons_cons ladinglaw36_few.ok (cons_cons ladinglaw36_light.ok (cons_cons chunk_Join.ok (cons_cons chunk_Right.ok (cons_cons content_Text.ok (cons_cons chunk_Check.ok (cons_nil))))))))
end ladinglaw36_ChunkJoins
namespace ladinglaw36_ChunkCuts
noncomputable def con [Fuel] : Con := ⟨4, [.c (.v (.d .str)), (aD iT)], [], [], [.str, iT], .one (.v (.d .bool)), [], [.bool], fun x => ladinglaw36_ChunkCuts x.1 x.2⟩
noncomputable def env [Fuel] : Env := ⟨Try.prog, [], [ladinglaw36_small.con, chunk_Cut.con], [(12, 0), (19, 1), (82, 1)], [21, 1000000], [], [], [], [], [], []⟩
noncomputable def an : An := .seq .no (.seq .no (.seq (.seq .no (.cond (.seq .no .no) .no)) (.seq .no (.seq (.join ⟨[(25, .c (.v (.d .bool)))], [], [.bool]⟩ [0, 1, 5, 6] [] true .no (.cond (.seq .no .no) .no)) (.seq .no (.seq (.seq .no (.one (.loop ⟨[(7, .c (.v (.d .str))), (8, (aD iT))], [], [.str, iT]⟩ [0, 1, 5, 6] [] (.seq (.seq .no (.cond .no .no)) (.seq (.one (.seq (.join ⟨[(67, .c (.v (.d .bool)))], [], [.bool]⟩ [0, 1, 5, 6, 7, 8] [] true .no (.cond (.seq .no .no) .no)) (.seq .no (.seq (.seq .no (.cond .no .no)) (.seq .no (.seq .no (.join ⟨[(9, .c (.v (.d .str)))], [], [.str]⟩ [0, 1, 5, 6, 7, 8, 10] [] true (.seq .no (.one (.loop ⟨[(9, .c (.v (.d .str))), (11, (aD iT))], [], [.str, iT]⟩ [0, 1, 5, 6, 7, 8, 10] [] (.seq (.seq .no (.cond .no .no)) (.seq (.one .no) .no))))) (.join ⟨[(105, .c (.v (.d .bool)))], [], [.bool]⟩ [0, 1, 5, 6, 7, 8] [] true .no (.cond (.seq .no .no) .no))))))))) .no))))) (.seq .no .no)))))))
theorem run [Fuel] : RunIs env Try.f4 an con := fun x => by kernel_rfl
theorem ok [Fuel] : ConOK Try.prog con := run_ok (E := env) run mixed Try.func4 (by kernel_rfl) (cons_cons ladinglaw36_small.ok (cons_cons chunk_Cut.ok (cons_nil)))
end ladinglaw36_ChunkCuts
namespace ladingref04_Print
noncomputable def con [Fuel] : Con := ⟨49, [(aD lsT), .c (.v (.d .str))], [], [], [lsT, .str], .one (.v (.d iT)), [], [iT], fun x => ladingref04_Print x.1 x.2⟩
noncomputable def env [Fuel] : Env := ⟨Try.prog, [], [], [], [], [], [], [], [], [], []⟩
noncomputable def an : An := .seq .no (.seq (.seq .no (.one (.loop ⟨[(5, (aD iT))], [], [iT]⟩ [0, 1] [] (.seq (.seq .no (.cond .no .no)) (.seq (.one (.seq .no (.cond (.seq .no .no) .no))) .no))))) (.seq .no .no))
theorem run [Fuel] : RunIs env Try.f49 an con := fun x => by kernel_rfl
theorem ok [Fuel] : ConOK Try.prog con := run_ok (E := env) run mixed Try.func49 (by kernel_rfl) (cons_nil)
end ladingref04_Print
namespace ladingref04_bytes
noncomputable def con [Fuel] : Con := ⟨50, [(aD lsT)], [], [], [lsT], .one (.v (.d iT)), [], [iT], fun x => ladingref04_bytes x⟩
noncomputable def env [Fuel] : Env := ⟨Try.prog, [], [], [], [], [], [], [], [], [], []⟩
noncomputable def an : An := .seq .no (.seq .no (.seq (.seq .no (.one (.loop ⟨[(3, (aD iT)), (4, (aD iT))], [], [iT, iT]⟩ [0] [] (.seq (.seq .no (.cond .no .no)) (.seq (.one .no) .no))))) (.seq .no .no)))
theorem run [Fuel] : RunIs env Try.f50 an con := fun x => by kernel_rfl
theorem ok [Fuel] : ConOK Try.prog con := run_ok (E := env) run mixed Try.func50 (by kernel_rfl) (cons_nil)
end ladingref04_bytes
namespace ladingref04_Right
noncomputable def con [Fuel] : Con := ⟨36, [(aD lsT)], [], [], [lsT], .one (.v (.d .bool)), [], [.bool], fun x => ladingref04_Right x⟩
noncomputable def env [Fuel] : Env := ⟨Try.prog, [], [ladingref04_Print.con, ladingref04_bytes.con], [(15, 0), (19, 1)], [6], [], [], [], [], [], []⟩
noncomputable def an : An := .seq .no (.join ⟨[], [], []⟩ [0] [] false (.seq .no (.one (.loop ⟨[(3, (aD iT))], [], [iT]⟩ [0] [] (.seq (.seq .no (.cond .no .no)) (.seq (.one (.seq .no (.cond (.seq .no .no) .no))) .no))))) (.seq .no .no))
theorem run [Fuel] : RunIs env Try.f36 an con := fun x => by kernel_rfl
theorem ok [Fuel] : ConOK Try.prog con := run_ok (E := env) run mixed Try.func36 (by kernel_rfl) (cons_cons ladingref04_Print.ok (cons_cons ladingref04_bytes.ok (cons_nil)))
end ladingref04_Right
namespace ladingref36_Cut
noncomputable def con [Fuel] : Con := ⟨20, [.c (.v (.d .str)), (aD iT)], [], [], [.str, iT], .one (.v (.d lsT)), [], [lsT], fun x => ladingref36_Cut x.1 x.2⟩
noncomputable def env [Fuel] : Env := ⟨Try.prog, [(22, .str)], [], [], [1000000], [], [], [30], [], [], []⟩
noncomputable def an : An := .seq .no (.seq (.join ⟨[(12, .c (.v (.d .bool)))], [], [.bool]⟩ [0, 1] [] true .no (.cond (.seq .no .no) .no)) (.seq .no (.seq (.seq .no (.one (.loop ⟨[(5, .c (.v (.own 500002))), (6, (aD iT))], [(500002, .arr 9 .str)], [iT, lsT]⟩ [0, 1] [] (.seq (.seq .no (.cond .no .no)) (.seq (.one .no) .no))))) (.seq .no .no))))
theorem run [Fuel] : RunIs env Try.f20 an con := fun x => by kernel_rfl
theorem ok [Fuel] : ConOK Try.prog con := run_ok (E := env) run mixed Try.func20 (by kernel_rfl) (cons_nil)
end ladingref36_Cut
namespace ladingref04_Add
noncomputable def con [Fuel] : Con := ⟨37, [(aD lsT), .c (.v (.d .str))], [], [], [lsT, .str], .tup [.v (.own 0), .v (.d iT), .v (.d iT)], [(0, .arr 9 .str)], [iT, iT, lsT], fun x => ladingref04_Add x.1 x.2⟩
noncomputable def env [Fuel] : Env := ⟨Try.prog, [(22, .str)], [ladingref04_Right.con, ladingref04_Print.con, ladingref04_bytes.con], [(10, 0), (17, 1), (23, 2)], [], [], [], [30], [], [], []⟩
noncomputable def an : An := .seq .no (.seq (.seq .no (.cond (.seq .no .no) .no)) (.seq .no (.seq .no (.seq (.seq .no (.cond (.seq .no .no) .no)) (.seq (.seq .no (.cond (.seq .no .no) .no)) (.seq .no .no))))))
theorem run [Fuel] : RunIs env Try.f37 an con := fun x => by kernel_rfl
theorem ok [Fuel] : ConOK Try.prog con := run_ok (E := env) run mixed Try.func37 (by kernel_rfl) (cons_cons ladingref04_Right.ok (cons_cons ladingref04_Print.ok (cons_cons ladingref04_bytes.ok (cons_nil))))
end ladingref04_Add
namespace ladingref04_Add_v2
noncomputable def con [Fuel] : Con := ⟨37, [(aD lsT), .c (.v (.d .str))], [], [], [lsT, .str], .tup [.v (.d lsT), .v (.d iT), .v (.d iT)], [], [lsT, iT, iT], fun x => ladingref04_Add_v2 x.1 x.2⟩
noncomputable def env [Fuel] : Env := ⟨Try.prog, [(22, .str)], [ladingref04_Right.con, ladingref04_Print.con, ladingref04_bytes.con], [(10, 0), (17, 1), (23, 2)], [], [], [], [30], [], [], []⟩
noncomputable def an : An := .seq .no (.seq (.seq .no (.cond (.seq .no .no) .no)) (.seq .no (.seq .no (.seq (.seq .no (.cond (.seq .no .no) .no)) (.seq (.seq .no (.cond (.seq .no .no) .no)) (.seq .no .no))))))
theorem run [Fuel] : RunIs env Try.f37 an con := fun x => by kernel_rfl
theorem ok [Fuel] : ConOK Try.prog con := run_ok (E := env) run mixed Try.func37 (by kernel_rfl) (cons_cons ladingref04_Right.ok (cons_cons ladingref04_Print.ok (cons_cons ladingref04_bytes.ok (cons_nil))))
end ladingref04_Add_v2
namespace ladingref36_Of
noncomputable def con [Fuel] : Con := ⟨17, [(aD lsT), .c (.v (.d .str)), (aD iT)], [], [], [lsT, .str, iT], .tup [.v (.d lsT), .a GManifestT, .v (.d iT)], [], [lsT, GManifestT, iT], fun x => ladingref36_Of x.1 x.2.1 x.2.2⟩
noncomputable def env [Fuel] : Env := ⟨Try.prog, [(23, iT)], [ladingref04_Right.con, ladingref36_Cut.con, ladingref04_Add.con, ladingref04_Add_v2.con], [(20, 0), (34, 1), (42, 2), (66, 3)], [1000000], [], [], [78], [], [82], []⟩
noncomputable def an : An := .seq .no (.seq .no (.seq (.join ⟨[(30, .c (.v (.d .bool)))], [], [.bool]⟩ [0, 1, 2, 7] [7] true .no (.cond (.seq .no .no) .no)) (.seq .no (.seq (.seq .no (.cond (.seq .no .no) .no)) (.seq .no (.seq (.seq .no (.cond (.seq .no .no) .no)) (.seq .no (.seq (.seq .no (.one (.loop ⟨[(11, (aD lsT)), (14, .c (.v (.loc 500004 0))), (15, (aD iT))], [(500004, .box 25 [.d iT, .d iT, .own 500005]), (500005, .arr 3 iT)], [lsT, iT, iT, iT, liT]⟩ [7, 10] [7] (.seq (.seq .no (.cond .no .no)) (.seq (.one (.seq .no (.seq (.seq .no (.cond (.seq .no .no) .no)) (.seq .no .no)))) .no))))) (.seq .no .no)))))))))
theorem run [Fuel] : RunIs env Try.f17 an con := fun x => by kernel_rfl
theorem ok [Fuel] : ConOK Try.prog con := run_ok (E := env) run mixed Try.func17 (by kernel_rfl) (cons_cons ladingref04_Right.ok (cons_cons ladingref36_Cut.ok (cons_cons ladingref04_Add.ok (cons_cons ladingref04_Add_v2.ok (cons_nil)))))
end ladingref36_Of
namespace ladingref04_Text
noncomputable def con [Fuel] : Con := ⟨38, [(aD lsT), (aD iT)], [], [], [lsT, iT], .tup [.v (.d .str), .v (.d .bool)], [], [.str, .bool], fun x => ladingref04_Text x.1 x.2⟩
noncomputable def env [Fuel] : Env := ⟨Try.prog, [], [], [], [1000000], [], [], [], [], [], []⟩
noncomputable def an : An := .seq .no (.seq (.join ⟨[(13, .c (.v (.d .bool)))], [], [.bool]⟩ [0, 1] [] true .no (.cond (.seq .no .no) .no)) (.seq .no .no))
theorem run [Fuel] : RunIs env Try.f38 an con := fun x => by kernel_rfl
theorem ok [Fuel] : ConOK Try.prog con := run_ok (E := env) run mixed Try.func38 (by kernel_rfl) (cons_nil)
end ladingref04_Text
namespace ladingref36_Right
noncomputable def con [Fuel] : Con := ⟨21, [(aD lsT), .c (.a GManifestT)], [], [], [lsT, GManifestT], .one (.v (.d .bool)), [], [.bool], fun x => ladingref36_Right x.1 x.2⟩
noncomputable def env [Fuel] : Env := ⟨Try.prog, [], [ladingref04_Text.con, ladingref04_Right.con], [(16, 0), (20, 1), (54, 0)], [1000000], [], [], [], [], [], []⟩
noncomputable def an : An := .seq .no (.seq .no (.seq .no (.seq (.join ⟨[(39, .c (.v (.d .bool)))], [], [.bool]⟩ [0, 3, 5] [3] true .no (.cond (.seq .no .no) .no)) (.seq .no (.seq (.seq .no (.one (.loop ⟨[(8, (aD iT)), (9, (aD iT))], [], [iT, iT]⟩ [0, 3, 5] [3] (.seq (.seq .no (.cond .no .no)) (.seq (.one (.seq .no (.seq (.join ⟨[(87, .c (.v (.d .bool)))], [], [.bool]⟩ [0, 3, 5, 8, 9, 10] [3] true .no (.cond (.seq .no .no) .no)) .no))) .no))))) (.seq .no .no))))))
theorem run [Fuel] : RunIs env Try.f21 an con := fun x => by kernel_rfl
theorem ok [Fuel] : ConOK Try.prog con := run_ok (E := env) run mixed Try.func21 (by kernel_rfl) (cons_cons ladingref04_Text.ok (cons_cons ladingref04_Right.ok (cons_nil)))
end ladingref36_Right
namespace ladingref36_Check
noncomputable def con [Fuel] : Con := ⟨23, [(aD lsT), .c (.a GManifestT), (aD iT), .c (.v (.d .str))], [], [], [lsT, GManifestT, iT, .str], .one (.v (.d .bool)), [], [.bool], fun x => ladingref36_Check x.1 x.2.1 x.2.2.1 x.2.2.2⟩
noncomputable def env [Fuel] : Env := ⟨Try.prog, [], [ladingref04_Text.con], [(27, 0)], [1000000], [], [], [], [], [], []⟩
noncomputable def an : An := .seq .no (.seq (.join ⟨[(19, .c (.v (.d .bool)))], [], [.bool]⟩ [0, 2, 3, 5] [5] true .no (.cond (.seq .no .no) .no)) (.seq .no (.seq .no .no)))
theorem run [Fuel] : RunIs env Try.f23 an con := fun x => by kernel_rfl
theorem ok [Fuel] : ConOK Try.prog con := run_ok (E := env) run mixed Try.func23 (by kernel_rfl) (cons_cons ladingref04_Text.ok (cons_nil))
end ladingref36_Check
namespace ladingref36_Join
noncomputable def con [Fuel] : Con := ⟨22, [(aD lsT), .c (.a GManifestT), (aD lsT)], [], [], [lsT, GManifestT, lsT], .tup [.v (.d .str), .v (.d iT)], [], [.str, iT], fun x => ladingref36_Join x.1 x.2.1 x.2.2⟩
noncomputable def env [Fuel] : Env := ⟨Try.prog, [], [ladingref36_Right.con, ladingref36_Check.con], [(12, 0), (35, 1)], [1000000], [], [], [], [33, 34], [29], []⟩
noncomputable def an : An := .seq .no (.seq (.join ⟨[(21, .c (.v (.d .bool)))], [], [.bool]⟩ [0, 2, 4] [4] true .no (.cond (.seq .no .no) .no)) (.seq .no (.seq (.seq .no (.one (.loop ⟨[(8, .c (.v (.d .str))), (9, (aD iT))], [], [.str, iT]⟩ [0, 2, 4] [4] (.seq (.seq .no (.cond .no .no)) (.seq (.one (.seq (.seq .no (.cond (.seq .no .no) .no)) .no)) .no))))) (.seq .no .no))))
theorem run [Fuel] : RunIs env Try.f22 an con := fun x => by kernel_rfl
theorem ok [Fuel] : ConOK Try.prog con := run_ok (E := env) run mixed Try.func22 (by kernel_rfl) (cons_cons ladingref36_Right.ok (cons_cons ladingref36_Check.ok (cons_nil)))
end ladingref36_Join
namespace slices_Index_int_int
noncomputable def con [Fuel] : Con := ⟨51, [(aD liT), (aD iT)], [], [], [liT, iT], .one (.v (.d iT)), [], [iT], fun x => slices_Index_int_int x.1 x.2⟩
noncomputable def env [Fuel] : Env := ⟨Try.prog, [], [], [], [], [], [], [], [], [], []⟩
noncomputable def an : An := .seq .no (.seq (.seq .no (.one (.loop ⟨[(8, (aD iT))], [], [iT]⟩ [0, 1, 7] [] (.seq .no (.seq (.cond .no .no) (.seq (.one (.seq .no (.seq .no (.cond (.seq .no .no) .no)))) .no)))))) (.seq .no .no))
theorem run [Fuel] : RunIs env Try.f51 an con := fun x => by kernel_rfl
theorem ok [Fuel] : ConOK Try.prog con := run_ok (E := env) run mixed Try.func51 (by kernel_rfl) (cons_nil)
end slices_Index_int_int
namespace slices_Contains_int_int
noncomputable def con [Fuel] : Con := ⟨39, [(aD liT), (aD iT)], [], [], [liT, iT], .one (.v (.d .bool)), [], [.bool], fun x => slices_Contains_int_int x.1 x.2⟩
noncomputable def env [Fuel] : Env := ⟨Try.prog, [], [slices_Index_int_int.con], [(7, 0)], [], [], [], [], [], [], []⟩
noncomputable def an : An := .seq .no (.seq .no .no)
theorem run [Fuel] : RunIs env Try.f39 an con := fun x => by kernel_rfl
theorem ok [Fuel] : ConOK Try.prog con := run_ok (E := env) run mixed Try.func39 (by kernel_rfl) (cons_cons slices_Index_int_int.ok (cons_nil))
end slices_Contains_int_int
namespace chunk_Missing
noncomputable def con [Fuel] : Con := ⟨25, [.c (.a GManifestT), (aD liT)], [], [], [GManifestT, liT], .one (.v (.d liT)), [], [liT], fun x => chunk_Missing x.1 x.2⟩
noncomputable def env [Fuel] : Env := ⟨Try.prog, [(23, iT)], [slices_Contains_int_int.con], [(18, 0)], [], [], [], [22], [], [], []⟩
noncomputable def an : An := .seq .no (.seq .no (.seq (.seq .no (.one (.loop ⟨[(5, .c (.v (.own 500002))), (11, (aD iT))], [(500002, .arr 3 iT)], [iT, liT]⟩ [1, 9, 10] [] (.seq .no (.seq (.cond .no .no) (.seq (.one (.seq .no (.seq .no (.cond .no .no)))) .no)))))) (.seq .no .no)))
theorem run [Fuel] : RunIs env Try.f25 an con := fun x => by kernel_rfl
theorem ok [Fuel] : ConOK Try.prog con := run_ok (E := env) run mixed Try.func25 (by kernel_rfl) (cons_cons slices_Contains_int_int.ok (cons_nil))
end chunk_Missing
namespace ladingref36_Missing
noncomputable def con [Fuel] : Con := ⟨26, [.c (.a GManifestT), (aD liT)], [], [], [GManifestT, liT], .one (.v (.d liT)), [], [liT], fun x => ladingref36_Missing x.1 x.2⟩
noncomputable def env [Fuel] : Env := ⟨Try.prog, [(23, iT)], [], [], [10], [], [], [39], [26, 27, 31, 32], [29], []⟩
noncomputable def an : An := .seq .no (.seq .no (.seq (.seq .no (.one (.loop ⟨[(5, .c (.v (.own 500002))), (6, (aD iT))], [(500002, .arr 3 iT)], [iT, liT]⟩ [1, 2] [2] (.seq (.seq .no (.cond .no .no)) (.seq (.one (.seq .no (.join ⟨[(7, .c (.v (.d .bool)))], [], [.bool]⟩ [1, 2, 5, 6] [2, 500002] true (.seq .no (.one (.loop ⟨[(7, .c (.v (.d .bool))), (8, (aD iT))], [], [.bool, iT]⟩ [1, 2, 5, 6] [2, 500002] (.seq (.seq .no (.cond .no .no)) (.seq (.one .no) .no))))) (.seq .no (.cond .no .no))))) .no))))) (.seq .no .no)))
theorem run [Fuel] : RunIs env Try.f26 an con := fun x => by kernel_rfl
theorem ok [Fuel] : ConOK Try.prog con := run_ok (E := env) run mixed Try.func26 (by kernel_rfl) (cons_nil)
end ladingref36_Missing
namespace ladingref04_Ints
noncomputable def con [Fuel] : Con := ⟨24, [(aD liT), (aD liT)], [], [], [liT, liT], .one (.v (.d .bool)), [], [.bool], fun x => ladingref04_Ints x.1 x.2⟩
noncomputable def env [Fuel] : Env := ⟨Try.prog, [], [], [], [], [], [], [], [19, 20, 23, 24], [], []⟩
noncomputable def an : An := .seq .no (.seq (.seq .no (.cond (.seq .no .no) .no)) (.seq (.seq .no (.one (.loop ⟨[(5, (aD iT))], [], [iT]⟩ [0, 1] [] (.seq (.seq .no (.cond .no .no)) (.seq (.one (.seq .no (.cond (.seq .no .no) .no))) .no))))) (.seq .no .no)))
theorem run [Fuel] : RunIs env Try.f24 an con := fun x => by kernel_rfl
theorem ok [Fuel] : ConOK Try.prog con := run_ok (E := env) run mixed Try.func24 (by kernel_rfl) (cons_nil)
end ladingref04_Ints
namespace ladinglaw36_ChunkTells
noncomputable def con [Fuel] : Con := ⟨5, [(aD lsT), .c (.v (.d .str)), (aD iT), .c (.a GManifestT), (aD lsT), (aD liT), (aD iT)], [], [], [lsT, .str, iT, GManifestT, lsT, liT, iT], .one (.v (.d .bool)), [], [.bool], fun x => ladinglaw36_ChunkTells x.1 x.2.1 x.2.2.1 x.2.2.2.1 x.2.2.2.2.1 x.2.2.2.2.2.1 x.2.2.2.2.2.2⟩
noncomputable def env [Fuel] : Env := ⟨Try.prog, [], [ladinglaw36_small.con, ladinglaw36_few.con, ladinglaw36_light.con, chunk_Of.con, ladingref36_Of.con, ladingref04_Same.con, ladingref36_Same.con, chunk_Cut.con, ladingref36_Cut.con, chunk_Right.con, ladingref36_Right.con, chunk_Join.con, ladingref36_Join.con, chunk_Check.con, ladingref36_Check.con, chunk_Missing.con, ladingref36_Missing.con, ladingref04_Ints.con], [(27, 0), (29, 1), (38, 2), (43, 1), (56, 3), (64, 4), (74, 5), (79, 6), (84, 7), (87, 8), (88, 5), (93, 9), (96, 10), (103, 11), (110, 12), (132, 13), (137, 14), (143, 15), (146, 16), (147, 17)], [7, 1000000], [], [], [], [], [77, 78, 92, 95, 129, 134, 141, 144], []⟩
noncomputable def an : An := .seq .no (.seq .no (.seq (.join ⟨[(50, .c (.v (.d .bool)))], [], [.bool]⟩ [0, 1, 2, 4, 5, 6, 10, 15] [10] true .no (.cond (.seq .no .no) .no)) (.seq .no (.seq .no (.join ⟨[(22, .c (.v (.d .bool)))], [], [.bool]⟩ [0, 1, 4, 5, 6, 10, 15] [10] true .no (.seq .no (.seq .no (.seq .no .no))))))))
theorem run [Fuel] : RunIs env Try.f5 an con := fun x => by kernel_rfl
theorem ok [Fuel] : ConOK Try.prog con := run_ok (E := env) run mixed Try.func5 (by kernel_rfl) (cons_cons ladinglaw36_small.ok (cons_cons ladinglaw36_few.ok (cons_cons ladinglaw36_light.ok (cons_cons chunk_Of.ok (cons_cons ladingref36_Of.ok (cons_cons ladingref04_Same.ok (cons_cons ladingref36_Same.ok (cons_cons chunk_Cut.ok (cons_cons ladingref36_Cut.ok (cons_cons chunk_Right.ok (cons_cons ladingref36_Right.ok (cons_cons chunk_Join.ok (cons_cons ladingref36_Join.ok (cons_cons chunk_Check.ok (cons_cons ladingref36_Check.ok (cons_cons chunk_Missing.ok (cons_cons ladingref36_Missing.ok (cons_cons ladingref04_Ints.ok (cons_nil)))))))))))))))))))
end ladinglaw36_ChunkTells
namespace chunk_Missing_v2
noncomputable def con [Fuel] : Con := ⟨25, [.c (.a GManifestT), (aD liT)], [], [], [GManifestT, liT], .one (.v (.own 0)), [(0, .arr 3 iT)], [liT], fun x => chunk_Missing_v2 x.1 x.2⟩
noncomputable def env [Fuel] : Env := ⟨Try.prog, [(23, iT)], [slices_Contains_int_int.con], [(18, 0)], [], [], [], [22], [], [], []⟩
noncomputable def an : An := .seq .no (.seq .no (.seq (.seq .no (.one (.loop ⟨[(5, .c (.v (.own 500002))), (11, (aD iT))], [(500002, .arr 3 iT)], [iT, liT]⟩ [1, 9, 10] [] (.seq .no (.seq (.cond .no .no) (.seq (.one (.seq .no (.seq .no (.cond .no .no)))) .no)))))) (.seq .no .no)))
theorem run [Fuel] : RunIs env Try.f25 an con := fun x => by kernel_rfl
theorem ok [Fuel] : ConOK Try.prog con := run_ok (E := env) run mixed Try.func25 (by kernel_rfl) (cons_cons slices_Contains_int_int.ok (cons_nil))
end chunk_Missing_v2
namespace ladinglaw36_ChunkMissing
noncomputable def con [Fuel] : Con := ⟨6, [.c (.a GManifestT), (aD liT), (aD iT)], [], [], [GManifestT, liT, iT], .one (.v (.d .bool)), [], [.bool], fun x => ladinglaw36_ChunkMissing x.1 x.2.1 x.2.2⟩
noncomputable def env [Fuel] : Env := ⟨Try.prog, [(23, iT)], [ladinglaw36_small.con, ladinglaw36_light.con, chunk_Missing.con, chunk_Missing_v2.con], [(16, 0), (18, 1), (28, 2), (103, 3), (121, 3)], [14, 18, 23, 1000000], [], [], [94, 101], [46, 47, 51, 52, 90, 91, 92, 93], [49, 87, 96], []⟩
noncomputable def an : An := .seq .no (.seq .no (.seq (.join ⟨[(24, .c (.v (.d .bool)))], [], [.bool]⟩ [1, 2, 3, 7] [3] true .no (.cond (.seq .no .no) .no)) (.seq .no (.seq .no (.join ⟨[(9, (aD iT))], [], [iT]⟩ [1, 2, 3, 7, 8] [3] false (.seq .no (.one (.loop ⟨[(9, (aD iT)), (10, (aD iT))], [], [iT, iT]⟩ [1, 2, 3, 7, 8] [3] (.seq (.seq .no (.cond .no .no)) (.seq (.one (.seq .no (.join ⟨[(11, .c (.v (.d .bool)))], [], [.bool]⟩ [1, 2, 3, 7, 8, 9, 10] [3] true (.seq .no (.one (.loop ⟨[(11, .c (.v (.d .bool))), (12, (aD iT))], [], [.bool, iT]⟩ [1, 2, 3, 7, 8, 9, 10] [3] (.seq (.seq .no (.cond .no .no)) (.seq (.one .no) .no))))) (.seq (.seq .no (.cond .no .no)) (.seq (.join ⟨[(67, .c (.v (.d .bool)))], [], [.bool]⟩ [1, 2, 3, 7, 8, 9, 10] [3] true .no (.cond (.seq .no .no) .no)) .no))))) .no))))) (.seq .no (.join ⟨[(13, .c (.v (.own 500002)))], [(500002, .arr 3 iT)], [liT]⟩ [1, 2, 3, 7, 8, 9] [3] true (.seq .no (.one (.loop ⟨[(13, .c (.v (.own 500003))), (14, (aD iT))], [(500003, .arr 3 iT)], [iT, liT]⟩ [1, 2, 3, 7, 8, 9] [3] (.seq (.join ⟨[(82, .c (.v (.d .bool)))], [], [.bool]⟩ [1, 2, 3, 7, 8, 9, 13, 14] [3, 500003] true .no (.cond .no .no)) (.seq (.one .no) .no))))) (.seq .no (.seq .no .no)))))))))
theorem run [Fuel] : RunIs env Try.f6 an con := fun x => by kernel_rfl
theorem ok [Fuel] : ConOK Try.prog con := run_ok (E := env) run mixed Try.func6 (by kernel_rfl) (cons_cons ladinglaw36_small.ok (cons_cons ladinglaw36_light.ok (cons_cons chunk_Missing.ok (cons_cons chunk_Missing_v2.ok (cons_nil)))))
end ladinglaw36_ChunkMissing
namespace content_Texts
noncomputable def con [Fuel] : Con := ⟨28, [(aD lsT), (aD liT)], [], [], [lsT, liT], .tup [.v (.d lsT), .v (.d iT)], [], [lsT, iT], fun x => content_Texts x.1 x.2⟩
noncomputable def env [Fuel] : Env := ⟨Try.prog, [(22, .str)], [content_Text.con], [(20, 0)], [], [], [], [27], [], [], []⟩
noncomputable def an : An := .seq .no (.seq .no (.seq (.seq .no (.one (.loop ⟨[(6, .c (.v (.own 500002))), (13, (aD iT))], [(500002, .arr 9 .str)], [iT, lsT]⟩ [0, 11, 12] [] (.seq .no (.seq (.cond .no .no) (.seq (.one (.seq .no (.seq .no (.seq (.seq .no (.cond (.seq .no .no) .no)) .no)))) .no)))))) (.seq .no .no)))
theorem run [Fuel] : RunIs env Try.f28 an con := fun x => by kernel_rfl
theorem ok [Fuel] : ConOK Try.prog con := run_ok (E := env) run mixed Try.func28 (by kernel_rfl) (cons_cons content_Text.ok (cons_nil))
end content_Texts
namespace slices_Clone_string_string_v2
noncomputable def con [Fuel] : Con := ⟨42, [(aD lsT)], [], [], [lsT], .one (.v (.d lsT)), [], [lsT], fun x => slices_Clone_string_string_v2 x⟩
noncomputable def env [Fuel] : Env := ⟨Try.prog, [(22, .str)], [], [], [], [], [], [], [], [], []⟩
noncomputable def an : An := .seq .no (.seq (.seq .no (.cond (.seq .no .no) .no)) (.seq .no .no))
theorem run [Fuel] : RunIs env Try.f42 an con := fun x => by kernel_rfl
theorem ok [Fuel] : ConOK Try.prog con := run_ok (E := env) run mixed Try.func42 (by kernel_rfl) (cons_nil)
end slices_Clone_string_string_v2
namespace content_Add_v2
noncomputable def con [Fuel] : Con := ⟨30, [(aD lsT), .c (.v (.d .str))], [], [], [lsT, .str], .tup [.v (.d lsT), .v (.d iT), .v (.d iT)], [], [lsT, iT, iT], fun x => content_Add_v2 x.1 x.2⟩
noncomputable def env [Fuel] : Env := ⟨Try.prog, [(22, .str)], [content_Right.con, content_Print.con, slices_Clone_string_string_v2.con, content_size.con, slices_Clone_string_string.con], [(9, 0), (13, 1), (17, 2), (20, 3), (26, 4)], [], [], [], [28], [], [], []⟩
noncomputable def an : An := .seq .no (.seq (.seq .no (.cond (.seq .no .no) .no)) (.seq (.seq .no (.seq .no (.cond (.seq .no .no) .no))) (.seq (.seq .no (.cond (.seq .no .no) .no)) (.seq .no .no))))
theorem run [Fuel] : RunIs env Try.f30 an con := fun x => by kernel_rfl
theorem ok [Fuel] : ConOK Try.prog con := run_ok (E := env) run mixed Try.func30 (by kernel_rfl) (cons_cons content_Right.ok (cons_cons content_Print.ok (cons_cons slices_Clone_string_string_v2.ok (cons_cons content_size.ok (cons_cons slices_Clone_string_string.ok (cons_nil))))))
end content_Add_v2
namespace ladinglaw36_ChunkOf
noncomputable def con [Fuel] : Con := ⟨7, [(aD lsT), .c (.v (.d .str)), (aD iT), .c (.v (.d .str))], [], [], [lsT, .str, iT, .str], .one (.v (.d .bool)), [], [.bool], fun x => ladinglaw36_ChunkOf x.1 x.2.1 x.2.2.1 x.2.2.2⟩
noncomputable def env [Fuel] : Env := ⟨Try.prog, [], [ladinglaw36_small.con, ladinglaw36_few.con, chunk_Of.con, ladingref36_Same.con, ladingref04_Same.con, content_Right.con, chunk_Right.con, content_Texts.con, chunk_Join.con, content_Print.con, content_Add_v2.con, chunk_Missing.con], [(23, 0), (25, 1), (42, 2), (57, 3), (70, 4), (75, 5), (81, 6), (88, 7), (95, 8), (102, 2), (124, 4), (130, 3), (136, 9), (144, 10), (162, 11), (155, 6)], [1000000], [], [], [], [], [128, 129, 138], []⟩
noncomputable def an : An := .seq .no (.seq .no (.seq (.join ⟨[(36, .c (.v (.d .bool)))], [], [.bool]⟩ [0, 1, 2, 3, 9] [] true .no (.cond (.seq .no .no) .no)) (.seq .no (.seq (.seq .no (.cond (.seq .no .no) .no)) (.seq (.join ⟨[(83, .c (.v (.d .bool)))], [], [.bool]⟩ [1, 2, 3, 9, 10, 11] [11] true .no (.cond (.seq .no .no) .no)) (.seq .no (.seq .no (.seq .no (.seq (.join ⟨[(140, .c (.v (.d .bool)))], [], [.bool]⟩ [3, 9, 10, 11] [11] true .no (.cond (.seq .no .no) .no)) (.seq .no (.seq .no .no)))))))))))
theorem run [Fuel] : RunIs env Try.f7 an con := fun x => by kernel_rfl
theorem ok [Fuel] : ConOK Try.prog con := run_ok (E := env) run mixed Try.func7 (by kernel_rfl) (cons_cons ladinglaw36_small.ok (cons_cons ladinglaw36_few.ok (cons_cons chunk_Of.ok (cons_cons ladingref36_Same.ok (cons_cons ladingref04_Same.ok (cons_cons content_Right.ok (cons_cons chunk_Right.ok (cons_cons content_Texts.ok (cons_cons chunk_Join.ok (cons_cons content_Print.ok (cons_cons content_Add_v2.ok (cons_cons chunk_Missing.ok (cons_nil)))))))))))))
end ladinglaw36_ChunkOf
end Go.Proofs.Ytnjmhnogpgnbmaa
