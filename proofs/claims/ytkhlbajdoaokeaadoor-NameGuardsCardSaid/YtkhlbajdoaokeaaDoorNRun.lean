/-
  The code is they.
-/
import Derived.Test.YtkhlbajdoaokeaaDoorNModel
import Derived.Test.YtkhlbajdoaokeaaDoorD12
import Derived.Test.YtkhlbajdoaokeaaDoorSh
namespace Go.Proofs.YtkhlbajdoaokeaaDoor
open Go.Lad
set_option linter.unusedVariables false
theorem mixed : Tryd.prog.follows .mixedOrders = true := by kernel_rfl
noncomputable def GHoldT : Ty := (.pair .str (.int .i64))
noncomputable def GActT : Ty := (.pair .bool (.pair .str (.pair (.int .i64) (.int .i64))))
noncomputable def strings_Split.con [Fuel] : Con := splitCon 31
theorem strings_Split.ok [Fuel] : ConOK Tryd.prog strings_Split.con := split_con (g := 0) (by kernel_rfl) rfl Go.Proofs.Tryd.strings_Split
noncomputable abbrev name_Right.ps : List Ty := [.str]
noncomputable abbrev name_Right.qs : List Ty := [.bool]
noncomputable def name_Right.con [Fuel] : Con := ⟨16, [.c (.v (.d .str))], [], [], name_Right.ps, .one (.v (.d .bool)), [], name_Right.qs, fun x => name_Right x⟩
noncomputable def name_Right.env [Fuel] : Env := ⟨Tryd.prog, [], [strings_Split.con], [(11, 0)], [1000000], [], [], [], [], []⟩
noncomputable def name_Right.an : An := .seq .no (.seq (.seq .no (.cond (.seq .no .no) .no)) (.seq (.seq .no (.one (.loop ⟨[(13, .c (.v (.d (.int .i64))))], [], [(.int .i64)]⟩ [11, 12] [] (.seq .no (.seq (.cond .no .no) (.seq (.one (.seq .no (.seq (.join ⟨[(33, .c (.v (.d .bool)))], [], [.bool]⟩ [4, 11, 12, 13] [] true .no (.cond (.seq .no .no) .no)) (.seq .no (.one (.loop ⟨[(37, .c (.v (.d (.int .i64))))], [], [(.int .i64)]⟩ [11, 12, 13, 35, 36] [] (.seq .no (.seq (.cond .no .no) (.seq (.one (.seq .no (.join ⟨[(54, .c (.v (.d .bool)))], [], [.bool]⟩ [11, 12, 13, 35, 36, 37] [] true .no (.cond (.seq .no .no) .no)))) .no))))))))) .no)))))) (.seq .no .no)))
set_option maxRecDepth 100000 in
theorem name_Right.run [Fuel] (x : Tup name_Right.con.ps) : fnT name_Right.env Tryd.f16 name_Right.an name_Right.con.ain name_Right.con.kin name_Right.con.hin name_Right.con.ps name_Right.con.out name_Right.con.hout name_Right.con.qs x = name_Right.con.fn x := by kernel_rfl
theorem name_Right.ok [Fuel] : ConOK Tryd.prog name_Right.con := con_ok (E := name_Right.env) (an := name_Right.an) mixed Tryd.func16 (by kernel_rfl) (cons_cons strings_Split.ok (cons_nil)) name_Right.run
noncomputable abbrev slices_Clone_api_Hold_api_Hold.ps : List Ty := [(.sl GHoldT)]
noncomputable abbrev slices_Clone_api_Hold_api_Hold.qs : List Ty := [(.sl GHoldT)]
noncomputable def slices_Clone_api_Hold_api_Hold.con [Fuel] : Con := ⟨28, [.c (.v (.d (.sl GHoldT)))], [], [], slices_Clone_api_Hold_api_Hold.ps, .one (.v (.own 0)), [(0, .arr 43 GHoldT)], slices_Clone_api_Hold_api_Hold.qs, fun x => slices_Clone_api_Hold_api_Hold x⟩
noncomputable def slices_Clone_api_Hold_api_Hold.env [Fuel] : Env := ⟨Tryd.prog, [(23, GHoldT)], [], [], [], [], [], [], [], []⟩
noncomputable def slices_Clone_api_Hold_api_Hold.an : An := .seq .no (.seq (.seq .no (.cond (.seq .no .no) .no)) (.seq .no .no))
set_option maxRecDepth 100000 in
theorem slices_Clone_api_Hold_api_Hold.run [Fuel] (x : Tup slices_Clone_api_Hold_api_Hold.con.ps) : fnT slices_Clone_api_Hold_api_Hold.env Tryd.f28 slices_Clone_api_Hold_api_Hold.an slices_Clone_api_Hold_api_Hold.con.ain slices_Clone_api_Hold_api_Hold.con.kin slices_Clone_api_Hold_api_Hold.con.hin slices_Clone_api_Hold_api_Hold.con.ps slices_Clone_api_Hold_api_Hold.con.out slices_Clone_api_Hold_api_Hold.con.hout slices_Clone_api_Hold_api_Hold.con.qs x = slices_Clone_api_Hold_api_Hold.con.fn x := by kernel_rfl
theorem slices_Clone_api_Hold_api_Hold.ok [Fuel] : ConOK Tryd.prog slices_Clone_api_Hold_api_Hold.con := con_ok (E := slices_Clone_api_Hold_api_Hold.env) (an := slices_Clone_api_Hold_api_Hold.an) mixed Tryd.func28 (by kernel_rfl) (cons_nil) slices_Clone_api_Hold_api_Hold.run
noncomputable abbrev name_Drop_1.ps : List Ty := [GHoldT, .str]
noncomputable abbrev name_Drop_1.qs : List Ty := [.bool]
noncomputable def name_Drop_1.con [Fuel] : Con := ⟨30, [.c (.a GHoldT), .c (.v (.loc 1000000 0))], [(1000000, .box 9 [.d .str])], [], name_Drop_1.ps, .one (.v (.d .bool)), [], name_Drop_1.qs, fun x => name_Drop_1 x.1 x.2⟩
noncomputable def name_Drop_1.env [Fuel] : Env := ⟨Tryd.prog, [], [], [], [], [], [], [], [], []⟩
noncomputable def name_Drop_1.an : An := .seq .no (.seq .no .no)
set_option maxRecDepth 100000 in
theorem name_Drop_1.run [Fuel] (x : Tup name_Drop_1.con.ps) : fnT name_Drop_1.env Tryd.f30 name_Drop_1.an name_Drop_1.con.ain name_Drop_1.con.kin name_Drop_1.con.hin name_Drop_1.con.ps name_Drop_1.con.out name_Drop_1.con.hout name_Drop_1.con.qs x = name_Drop_1.con.fn x := by kernel_rfl
theorem name_Drop_1.ok [Fuel] : ConOK Tryd.prog name_Drop_1.con := con_ok (E := name_Drop_1.env) (an := name_Drop_1.an) mixed Tryd.func30 (by kernel_rfl) (cons_nil) name_Drop_1.run
noncomputable abbrev slices_IndexFunc_api_Hold_api_Hold.ps : List Ty := [(.sl GHoldT), .str]
noncomputable abbrev slices_IndexFunc_api_Hold_api_Hold.qs : List Ty := [(.int .i64)]
noncomputable def slices_IndexFunc_api_Hold_api_Hold.con [Fuel] : Con := ⟨29, [.c (.v (.d (.sl GHoldT))), .c (.v (.fn 30 [1000000]))], [(1000000, .box 9 [.d .str])], [], slices_IndexFunc_api_Hold_api_Hold.ps, .one (.v (.d (.int .i64))), [], slices_IndexFunc_api_Hold_api_Hold.qs, fun x => slices_IndexFunc_api_Hold_api_Hold x.1 x.2⟩
noncomputable def slices_IndexFunc_api_Hold_api_Hold.env [Fuel] : Env := ⟨Tryd.prog, [], [name_Drop_1.con], [(16, 0)], [], [16], [], [], [], []⟩
noncomputable def slices_IndexFunc_api_Hold_api_Hold.an : An := .seq .no (.seq (.seq .no (.one (.loop ⟨[(8, .c (.v (.d (.int .i64))))], [], [(.int .i64)]⟩ [0, 1, 7] [1000000] (.seq .no (.seq (.cond .no .no) (.seq (.one (.seq .no (.seq .no (.cond (.seq .no .no) .no)))) .no)))))) (.seq .no .no))
set_option maxRecDepth 100000 in
theorem slices_IndexFunc_api_Hold_api_Hold.run [Fuel] (x : Tup slices_IndexFunc_api_Hold_api_Hold.con.ps) : fnT slices_IndexFunc_api_Hold_api_Hold.env Tryd.f29 slices_IndexFunc_api_Hold_api_Hold.an slices_IndexFunc_api_Hold_api_Hold.con.ain slices_IndexFunc_api_Hold_api_Hold.con.kin slices_IndexFunc_api_Hold_api_Hold.con.hin slices_IndexFunc_api_Hold_api_Hold.con.ps slices_IndexFunc_api_Hold_api_Hold.con.out slices_IndexFunc_api_Hold_api_Hold.con.hout slices_IndexFunc_api_Hold_api_Hold.con.qs x = slices_IndexFunc_api_Hold_api_Hold.con.fn x := by kernel_rfl
theorem slices_IndexFunc_api_Hold_api_Hold.ok [Fuel] : ConOK Tryd.prog slices_IndexFunc_api_Hold_api_Hold.con := con_ok (E := slices_IndexFunc_api_Hold_api_Hold.env) (an := slices_IndexFunc_api_Hold_api_Hold.an) mixed Tryd.func29 (by kernel_rfl) (cons_cons name_Drop_1.ok (cons_nil)) slices_IndexFunc_api_Hold_api_Hold.run
noncomputable abbrev name_Drop.ps : List Ty := [(.sl GHoldT), .str, (.int .i64)]
noncomputable abbrev name_Drop.qs : List Ty := [(.sl GHoldT), (.int .i64)]
noncomputable def name_Drop.con [Fuel] : Con := ⟨13, [.c (.v (.d (.sl GHoldT))), .c (.v (.d .str)), .c (.v (.d (.int .i64)))], [], [], name_Drop.ps, .tup [.v (.d (.sl GHoldT)), .v (.d (.int .i64))], [], name_Drop.qs, fun x => name_Drop x.1 x.2.1 x.2.2⟩
noncomputable def name_Drop.env [Fuel] : Env := ⟨Tryd.prog, [(23, GHoldT)], [name_Right.con, slices_Clone_api_Hold_api_Hold.con, slices_IndexFunc_api_Hold_api_Hold.con], [(12, 0), (22, 1), (25, 2)], [1000000], [25], [], [32], [], []⟩
noncomputable def name_Drop.an : An := .seq .no (.seq (.one (.seq .no (.cond (.seq .no .no) (.join ⟨[(14, .c (.v (.d .bool)))], [], [.bool]⟩ [0, 2, 4] [4] true .no (.cond (.seq .no .no) .no))))) (.seq .no (.seq .no (.seq (.seq .no (.cond (.seq .no .no) .no)) (.seq .no (.seq .no .no))))))
set_option maxRecDepth 100000 in
theorem name_Drop.run [Fuel] (x : Tup name_Drop.con.ps) : fnT name_Drop.env Tryd.f13 name_Drop.an name_Drop.con.ain name_Drop.con.kin name_Drop.con.hin name_Drop.con.ps name_Drop.con.out name_Drop.con.hout name_Drop.con.qs x = name_Drop.con.fn x := by kernel_rfl
theorem name_Drop.ok [Fuel] : ConOK Tryd.prog name_Drop.con := con_ok (E := name_Drop.env) (an := name_Drop.an) mixed Tryd.func13 (by kernel_rfl) (cons_cons name_Right.ok (cons_cons slices_Clone_api_Hold_api_Hold.ok (cons_cons slices_IndexFunc_api_Hold_api_Hold.ok (cons_nil)))) name_Drop.run
noncomputable abbrev internal_stringslite_HasPrefix.ps : List Ty := [.str, .str]
noncomputable abbrev internal_stringslite_HasPrefix.qs : List Ty := [.bool]
noncomputable def internal_stringslite_HasPrefix.con [Fuel] : Con := ⟨38, [.c (.v (.d .str)), .c (.v (.d .str))], [], [], internal_stringslite_HasPrefix.ps, .one (.v (.d .bool)), [], internal_stringslite_HasPrefix.qs, fun x => internal_stringslite_HasPrefix x.1 x.2⟩
noncomputable def internal_stringslite_HasPrefix.env [Fuel] : Env := ⟨Tryd.prog, [], [], [], [], [], [], [], [], []⟩
noncomputable def internal_stringslite_HasPrefix.an : An := .seq .no (.seq .no .no)
set_option maxRecDepth 100000 in
theorem internal_stringslite_HasPrefix.run [Fuel] (x : Tup internal_stringslite_HasPrefix.con.ps) : fnT internal_stringslite_HasPrefix.env Tryd.f38 internal_stringslite_HasPrefix.an internal_stringslite_HasPrefix.con.ain internal_stringslite_HasPrefix.con.kin internal_stringslite_HasPrefix.con.hin internal_stringslite_HasPrefix.con.ps internal_stringslite_HasPrefix.con.out internal_stringslite_HasPrefix.con.hout internal_stringslite_HasPrefix.con.qs x = internal_stringslite_HasPrefix.con.fn x := by kernel_rfl
theorem internal_stringslite_HasPrefix.ok [Fuel] : ConOK Tryd.prog internal_stringslite_HasPrefix.con := con_ok (E := internal_stringslite_HasPrefix.env) (an := internal_stringslite_HasPrefix.an) mixed Tryd.func38 (by kernel_rfl) (cons_nil) internal_stringslite_HasPrefix.run
noncomputable abbrev strings_HasPrefix.ps : List Ty := [.str, .str]
noncomputable abbrev strings_HasPrefix.qs : List Ty := [.bool]
noncomputable def strings_HasPrefix.con [Fuel] : Con := ⟨33, [.c (.v (.d .str)), .c (.v (.d .str))], [], [], strings_HasPrefix.ps, .one (.v (.d .bool)), [], strings_HasPrefix.qs, fun x => strings_HasPrefix x.1 x.2⟩
noncomputable def strings_HasPrefix.env [Fuel] : Env := ⟨Tryd.prog, [], [internal_stringslite_HasPrefix.con], [(7, 0)], [], [], [], [], [], []⟩
noncomputable def strings_HasPrefix.an : An := .seq .no (.seq .no .no)
set_option maxRecDepth 100000 in
theorem strings_HasPrefix.run [Fuel] (x : Tup strings_HasPrefix.con.ps) : fnT strings_HasPrefix.env Tryd.f33 strings_HasPrefix.an strings_HasPrefix.con.ain strings_HasPrefix.con.kin strings_HasPrefix.con.hin strings_HasPrefix.con.ps strings_HasPrefix.con.out strings_HasPrefix.con.hout strings_HasPrefix.con.qs x = strings_HasPrefix.con.fn x := by kernel_rfl
theorem strings_HasPrefix.ok [Fuel] : ConOK Tryd.prog strings_HasPrefix.con := con_ok (E := strings_HasPrefix.env) (an := strings_HasPrefix.an) mixed Tryd.func33 (by kernel_rfl) (cons_cons internal_stringslite_HasPrefix.ok (cons_nil)) strings_HasPrefix.run
noncomputable abbrev name_Skeleton.ps : List Ty := [.str]
noncomputable abbrev name_Skeleton.qs : List Ty := [.str]
noncomputable def name_Skeleton.con [Fuel] : Con := ⟨18, [.c (.v (.d .str))], [], [], name_Skeleton.ps, .one (.v (.d .str)), [], name_Skeleton.qs, fun x => name_Skeleton x⟩
noncomputable def name_Skeleton.env [Fuel] : Env := ⟨Tryd.prog, [(53, (.int .u8))], [strings_HasPrefix.con], [(9, 0), (15, 0)], [1000000], [], [], [11, 17, 24, 36, 45], [], []⟩
noncomputable def name_Skeleton.an : An := .seq .no (.seq .no (.seq (.one (.loop ⟨[(0, .c (.v (.d .str))), (3, .c (.v (.own 500002)))], [(500002, .arr 5 (.int .u8))], [.str, (.sl (.int .u8))]⟩ [] [] (.seq (.seq .no (.cond .no .no)) (.one (.seq .no (.seq (.one (.seq .no (.cond .no (.seq .no (.cond .no (.seq .no (.cond .no (.join ⟨[(26, .c (.v (.d .bool)))], [], [.bool]⟩ [0, 3, 4] [500002] true .no (.cond .no (.seq .no (.cond .no .no))))))))))) .no)))))) (.seq .no .no)))
set_option maxRecDepth 100000 in
theorem name_Skeleton.run [Fuel] (x : Tup name_Skeleton.con.ps) : fnT name_Skeleton.env Tryd.f18 name_Skeleton.an name_Skeleton.con.ain name_Skeleton.con.kin name_Skeleton.con.hin name_Skeleton.con.ps name_Skeleton.con.out name_Skeleton.con.hout name_Skeleton.con.qs x = name_Skeleton.con.fn x := by kernel_rfl
theorem name_Skeleton.ok [Fuel] : ConOK Tryd.prog name_Skeleton.con := con_ok (E := name_Skeleton.env) (an := name_Skeleton.an) mixed Tryd.func18 (by kernel_rfl) (cons_cons strings_HasPrefix.ok (cons_nil)) name_Skeleton.run
noncomputable abbrev name_Confusable.ps : List Ty := [.str, .str]
noncomputable abbrev name_Confusable.qs : List Ty := [.bool]
noncomputable def name_Confusable.con [Fuel] : Con := ⟨20, [.c (.v (.d .str)), .c (.v (.d .str))], [], [], name_Confusable.ps, .one (.v (.d .bool)), [], name_Confusable.qs, fun x => name_Confusable x.1 x.2⟩
noncomputable def name_Confusable.env [Fuel] : Env := ⟨Tryd.prog, [], [name_Skeleton.con], [(6, 0), (8, 0)], [], [], [], [], [], []⟩
noncomputable def name_Confusable.an : An := .seq .no (.seq .no .no)
set_option maxRecDepth 100000 in
theorem name_Confusable.run [Fuel] (x : Tup name_Confusable.con.ps) : fnT name_Confusable.env Tryd.f20 name_Confusable.an name_Confusable.con.ain name_Confusable.con.kin name_Confusable.con.hin name_Confusable.con.ps name_Confusable.con.out name_Confusable.con.hout name_Confusable.con.qs x = name_Confusable.con.fn x := by kernel_rfl
theorem name_Confusable.ok [Fuel] : ConOK Tryd.prog name_Confusable.con := con_ok (E := name_Confusable.env) (an := name_Confusable.an) mixed Tryd.func20 (by kernel_rfl) (cons_cons name_Skeleton.ok (cons_nil)) name_Confusable.run
noncomputable abbrev name_Guard_1.ps : List Ty := [.str, .str]
noncomputable abbrev name_Guard_1.qs : List Ty := [.bool]
noncomputable def name_Guard_1.con [Fuel] : Con := ⟨27, [.c (.v (.d .str)), .c (.v (.loc 1000000 0))], [(1000000, .box 9 [.d .str])], [], name_Guard_1.ps, .one (.v (.d .bool)), [], name_Guard_1.qs, fun x => name_Guard_1 x.1 x.2⟩
noncomputable def name_Guard_1.env [Fuel] : Env := ⟨Tryd.prog, [], [name_Confusable.con], [(6, 0)], [], [], [], [], [], []⟩
noncomputable def name_Guard_1.an : An := .seq .no (.seq .no .no)
set_option maxRecDepth 100000 in
theorem name_Guard_1.run [Fuel] (x : Tup name_Guard_1.con.ps) : fnT name_Guard_1.env Tryd.f27 name_Guard_1.an name_Guard_1.con.ain name_Guard_1.con.kin name_Guard_1.con.hin name_Guard_1.con.ps name_Guard_1.con.out name_Guard_1.con.hout name_Guard_1.con.qs x = name_Guard_1.con.fn x := by kernel_rfl
theorem name_Guard_1.ok [Fuel] : ConOK Tryd.prog name_Guard_1.con := con_ok (E := name_Guard_1.env) (an := name_Guard_1.an) mixed Tryd.func27 (by kernel_rfl) (cons_cons name_Confusable.ok (cons_nil)) name_Guard_1.run
noncomputable abbrev slices_IndexFunc_string_string.ps : List Ty := [(.sl .str), .str]
noncomputable abbrev slices_IndexFunc_string_string.qs : List Ty := [(.int .i64)]
noncomputable def slices_IndexFunc_string_string.con [Fuel] : Con := ⟨26, [.c (.v (.d (.sl .str))), .c (.v (.fn 27 [1000000]))], [(1000000, .box 9 [.d .str])], [], slices_IndexFunc_string_string.ps, .one (.v (.d (.int .i64))), [], slices_IndexFunc_string_string.qs, fun x => slices_IndexFunc_string_string x.1 x.2⟩
noncomputable def slices_IndexFunc_string_string.env [Fuel] : Env := ⟨Tryd.prog, [], [name_Guard_1.con], [(16, 0)], [], [16], [], [], [], []⟩
noncomputable def slices_IndexFunc_string_string.an : An := .seq .no (.seq (.seq .no (.one (.loop ⟨[(8, .c (.v (.d (.int .i64))))], [], [(.int .i64)]⟩ [0, 1, 7] [1000000] (.seq .no (.seq (.cond .no .no) (.seq (.one (.seq .no (.seq .no (.cond (.seq .no .no) .no)))) .no)))))) (.seq .no .no))
set_option maxRecDepth 100000 in
theorem slices_IndexFunc_string_string.run [Fuel] (x : Tup slices_IndexFunc_string_string.con.ps) : fnT slices_IndexFunc_string_string.env Tryd.f26 slices_IndexFunc_string_string.an slices_IndexFunc_string_string.con.ain slices_IndexFunc_string_string.con.kin slices_IndexFunc_string_string.con.hin slices_IndexFunc_string_string.con.ps slices_IndexFunc_string_string.con.out slices_IndexFunc_string_string.con.hout slices_IndexFunc_string_string.con.qs x = slices_IndexFunc_string_string.con.fn x := by kernel_rfl
theorem slices_IndexFunc_string_string.ok [Fuel] : ConOK Tryd.prog slices_IndexFunc_string_string.con := con_ok (E := slices_IndexFunc_string_string.env) (an := slices_IndexFunc_string_string.an) mixed Tryd.func26 (by kernel_rfl) (cons_cons name_Guard_1.ok (cons_nil)) slices_IndexFunc_string_string.run
noncomputable abbrev name_Guard.ps : List Ty := [(.sl .str), .str]
noncomputable abbrev name_Guard.qs : List Ty := [.str, .bool]
noncomputable def name_Guard.con [Fuel] : Con := ⟨11, [.c (.v (.d (.sl .str))), .c (.v (.d .str))], [], [], name_Guard.ps, .tup [.v (.d .str), .v (.d .bool)], [], name_Guard.qs, fun x => name_Guard x.1 x.2⟩
noncomputable def name_Guard.env [Fuel] : Env := ⟨Tryd.prog, [], [slices_IndexFunc_string_string.con], [(9, 0)], [], [9], [], [], [], []⟩
noncomputable def name_Guard.an : An := .seq .no (.seq .no (.seq (.seq .no (.cond (.seq .no .no) .no)) (.seq .no .no)))
set_option maxRecDepth 100000 in
theorem name_Guard.run [Fuel] (x : Tup name_Guard.con.ps) : fnT name_Guard.env Tryd.f11 name_Guard.an name_Guard.con.ain name_Guard.con.kin name_Guard.con.hin name_Guard.con.ps name_Guard.con.out name_Guard.con.hout name_Guard.con.qs x = name_Guard.con.fn x := by kernel_rfl
theorem name_Guard.ok [Fuel] : ConOK Tryd.prog name_Guard.con := con_ok (E := name_Guard.env) (an := name_Guard.an) mixed Tryd.func11 (by kernel_rfl) (cons_cons slices_IndexFunc_string_string.ok (cons_nil)) name_Guard.run
noncomputable abbrev slices_Index_string_string.ps : List Ty := [(.sl .str), .str]
noncomputable abbrev slices_Index_string_string.qs : List Ty := [(.int .i64)]
noncomputable def slices_Index_string_string.con [Fuel] : Con := ⟨39, [.c (.v (.d (.sl .str))), .c (.v (.d .str))], [], [], slices_Index_string_string.ps, .one (.v (.d (.int .i64))), [], slices_Index_string_string.qs, fun x => slices_Index_string_string x.1 x.2⟩
noncomputable def slices_Index_string_string.env [Fuel] : Env := ⟨Tryd.prog, [], [], [], [], [], [], [], [], []⟩
noncomputable def slices_Index_string_string.an : An := .seq .no (.seq (.seq .no (.one (.loop ⟨[(8, .c (.v (.d (.int .i64))))], [], [(.int .i64)]⟩ [0, 1, 7] [] (.seq .no (.seq (.cond .no .no) (.seq (.one (.seq .no (.seq .no (.cond (.seq .no .no) .no)))) .no)))))) (.seq .no .no))
set_option maxRecDepth 100000 in
theorem slices_Index_string_string.run [Fuel] (x : Tup slices_Index_string_string.con.ps) : fnT slices_Index_string_string.env Tryd.f39 slices_Index_string_string.an slices_Index_string_string.con.ain slices_Index_string_string.con.kin slices_Index_string_string.con.hin slices_Index_string_string.con.ps slices_Index_string_string.con.out slices_Index_string_string.con.hout slices_Index_string_string.con.qs x = slices_Index_string_string.con.fn x := by kernel_rfl
theorem slices_Index_string_string.ok [Fuel] : ConOK Tryd.prog slices_Index_string_string.con := con_ok (E := slices_Index_string_string.env) (an := slices_Index_string_string.an) mixed Tryd.func39 (by kernel_rfl) (cons_nil) slices_Index_string_string.run
noncomputable abbrev slices_Contains_string_string.ps : List Ty := [(.sl .str), .str]
noncomputable abbrev slices_Contains_string_string.qs : List Ty := [.bool]
noncomputable def slices_Contains_string_string.con [Fuel] : Con := ⟨36, [.c (.v (.d (.sl .str))), .c (.v (.d .str))], [], [], slices_Contains_string_string.ps, .one (.v (.d .bool)), [], slices_Contains_string_string.qs, fun x => slices_Contains_string_string x.1 x.2⟩
noncomputable def slices_Contains_string_string.env [Fuel] : Env := ⟨Tryd.prog, [], [slices_Index_string_string.con], [(7, 0)], [], [], [], [], [], []⟩
noncomputable def slices_Contains_string_string.an : An := .seq .no (.seq .no .no)
set_option maxRecDepth 100000 in
theorem slices_Contains_string_string.run [Fuel] (x : Tup slices_Contains_string_string.con.ps) : fnT slices_Contains_string_string.env Tryd.f36 slices_Contains_string_string.an slices_Contains_string_string.con.ain slices_Contains_string_string.con.kin slices_Contains_string_string.con.hin slices_Contains_string_string.con.ps slices_Contains_string_string.con.out slices_Contains_string_string.con.hout slices_Contains_string_string.con.qs x = slices_Contains_string_string.con.fn x := by kernel_rfl
theorem slices_Contains_string_string.ok [Fuel] : ConOK Tryd.prog slices_Contains_string_string.con := con_ok (E := slices_Contains_string_string.env) (an := slices_Contains_string_string.an) mixed Tryd.func36 (by kernel_rfl) (cons_cons slices_Index_string_string.ok (cons_nil)) slices_Contains_string_string.run
noncomputable abbrev name_Held_1.ps : List Ty := [GHoldT, (.int .i64), .str]
noncomputable abbrev name_Held_1.qs : List Ty := [.bool]
noncomputable def name_Held_1.con [Fuel] : Con := ⟨35, [.c (.a GHoldT), .c (.v (.loc 1000000 0)), .c (.v (.loc 1000001 0))], [(1000000, .box 3 [.d (.int .i64)]), (1000001, .box 9 [.d .str])], [], name_Held_1.ps, .one (.v (.d .bool)), [], name_Held_1.qs, fun x => name_Held_1 x.1 x.2.1 x.2.2⟩
noncomputable def name_Held_1.env [Fuel] : Env := ⟨Tryd.prog, [], [name_Confusable.con], [(13, 0)], [], [], [], [], [], []⟩
noncomputable def name_Held_1.an : An := .seq .no (.seq .no .no)
set_option maxRecDepth 100000 in
theorem name_Held_1.run [Fuel] (x : Tup name_Held_1.con.ps) : fnT name_Held_1.env Tryd.f35 name_Held_1.an name_Held_1.con.ain name_Held_1.con.kin name_Held_1.con.hin name_Held_1.con.ps name_Held_1.con.out name_Held_1.con.hout name_Held_1.con.qs x = name_Held_1.con.fn x := by kernel_rfl
theorem name_Held_1.ok [Fuel] : ConOK Tryd.prog name_Held_1.con := con_ok (E := name_Held_1.env) (an := name_Held_1.an) mixed Tryd.func35 (by kernel_rfl) (cons_cons name_Confusable.ok (cons_nil)) name_Held_1.run
noncomputable abbrev slices_IndexFunc_api_Hold_api_Hold_v2.ps : List Ty := [(.sl GHoldT), (.int .i64), .str]
noncomputable abbrev slices_IndexFunc_api_Hold_api_Hold_v2.qs : List Ty := [(.int .i64)]
noncomputable def slices_IndexFunc_api_Hold_api_Hold_v2.con [Fuel] : Con := ⟨29, [.c (.v (.d (.sl GHoldT))), .c (.v (.fn 35 [1000000, 1000001]))], [(1000000, .box 3 [.d (.int .i64)]), (1000001, .box 9 [.d .str])], [], slices_IndexFunc_api_Hold_api_Hold_v2.ps, .one (.v (.d (.int .i64))), [], slices_IndexFunc_api_Hold_api_Hold_v2.qs, fun x => slices_IndexFunc_api_Hold_api_Hold_v2 x.1 x.2.1 x.2.2⟩
noncomputable def slices_IndexFunc_api_Hold_api_Hold_v2.env [Fuel] : Env := ⟨Tryd.prog, [], [name_Held_1.con], [(16, 0)], [], [16], [], [], [], []⟩
noncomputable def slices_IndexFunc_api_Hold_api_Hold_v2.an : An := .seq .no (.seq (.seq .no (.one (.loop ⟨[(8, .c (.v (.d (.int .i64))))], [], [(.int .i64)]⟩ [0, 1, 7] [1000000, 1000001] (.seq .no (.seq (.cond .no .no) (.seq (.one (.seq .no (.seq .no (.cond (.seq .no .no) .no)))) .no)))))) (.seq .no .no))
set_option maxRecDepth 100000 in
theorem slices_IndexFunc_api_Hold_api_Hold_v2.run [Fuel] (x : Tup slices_IndexFunc_api_Hold_api_Hold_v2.con.ps) : fnT slices_IndexFunc_api_Hold_api_Hold_v2.env Tryd.f29 slices_IndexFunc_api_Hold_api_Hold_v2.an slices_IndexFunc_api_Hold_api_Hold_v2.con.ain slices_IndexFunc_api_Hold_api_Hold_v2.con.kin slices_IndexFunc_api_Hold_api_Hold_v2.con.hin slices_IndexFunc_api_Hold_api_Hold_v2.con.ps slices_IndexFunc_api_Hold_api_Hold_v2.con.out slices_IndexFunc_api_Hold_api_Hold_v2.con.hout slices_IndexFunc_api_Hold_api_Hold_v2.con.qs x = slices_IndexFunc_api_Hold_api_Hold_v2.con.fn x := by kernel_rfl
theorem slices_IndexFunc_api_Hold_api_Hold_v2.ok [Fuel] : ConOK Tryd.prog slices_IndexFunc_api_Hold_api_Hold_v2.con := con_ok (E := slices_IndexFunc_api_Hold_api_Hold_v2.env) (an := slices_IndexFunc_api_Hold_api_Hold_v2.an) mixed Tryd.func29 (by kernel_rfl) (cons_cons name_Held_1.ok (cons_nil)) slices_IndexFunc_api_Hold_api_Hold_v2.run
noncomputable abbrev slices_ContainsFunc_api_Hold_api_Hold.ps : List Ty := [(.sl GHoldT), (.int .i64), .str]
noncomputable abbrev slices_ContainsFunc_api_Hold_api_Hold.qs : List Ty := [.bool]
noncomputable def slices_ContainsFunc_api_Hold_api_Hold.con [Fuel] : Con := ⟨34, [.c (.v (.d (.sl GHoldT))), .c (.v (.fn 35 [1000000, 1000001]))], [(1000000, .box 3 [.d (.int .i64)]), (1000001, .box 9 [.d .str])], [], slices_ContainsFunc_api_Hold_api_Hold.ps, .one (.v (.d .bool)), [], slices_ContainsFunc_api_Hold_api_Hold.qs, fun x => slices_ContainsFunc_api_Hold_api_Hold x.1 x.2.1 x.2.2⟩
noncomputable def slices_ContainsFunc_api_Hold_api_Hold.env [Fuel] : Env := ⟨Tryd.prog, [], [slices_IndexFunc_api_Hold_api_Hold_v2.con], [(7, 0)], [], [7], [], [], [], []⟩
noncomputable def slices_ContainsFunc_api_Hold_api_Hold.an : An := .seq .no (.seq .no .no)
set_option maxRecDepth 100000 in
theorem slices_ContainsFunc_api_Hold_api_Hold.run [Fuel] (x : Tup slices_ContainsFunc_api_Hold_api_Hold.con.ps) : fnT slices_ContainsFunc_api_Hold_api_Hold.env Tryd.f34 slices_ContainsFunc_api_Hold_api_Hold.an slices_ContainsFunc_api_Hold_api_Hold.con.ain slices_ContainsFunc_api_Hold_api_Hold.con.kin slices_ContainsFunc_api_Hold_api_Hold.con.hin slices_ContainsFunc_api_Hold_api_Hold.con.ps slices_ContainsFunc_api_Hold_api_Hold.con.out slices_ContainsFunc_api_Hold_api_Hold.con.hout slices_ContainsFunc_api_Hold_api_Hold.con.qs x = slices_ContainsFunc_api_Hold_api_Hold.con.fn x := by kernel_rfl
theorem slices_ContainsFunc_api_Hold_api_Hold.ok [Fuel] : ConOK Tryd.prog slices_ContainsFunc_api_Hold_api_Hold.con := con_ok (E := slices_ContainsFunc_api_Hold_api_Hold.env) (an := slices_ContainsFunc_api_Hold_api_Hold.an) mixed Tryd.func34 (by kernel_rfl) (cons_cons slices_IndexFunc_api_Hold_api_Hold_v2.ok (cons_nil)) slices_ContainsFunc_api_Hold_api_Hold.run
noncomputable abbrev name_Held.ps : List Ty := [(.sl GHoldT), .str, (.int .i64)]
noncomputable abbrev name_Held.qs : List Ty := [.bool]
noncomputable def name_Held.con [Fuel] : Con := ⟨22, [.c (.v (.d (.sl GHoldT))), .c (.v (.d .str)), .c (.v (.d (.int .i64)))], [], [], name_Held.ps, .one (.v (.d .bool)), [], name_Held.qs, fun x => name_Held x.1 x.2.1 x.2.2⟩
noncomputable def name_Held.env [Fuel] : Env := ⟨Tryd.prog, [], [slices_ContainsFunc_api_Hold_api_Hold.con], [(9, 0)], [], [9], [], [], [], []⟩
noncomputable def name_Held.an : An := .seq .no (.seq .no .no)
set_option maxRecDepth 100000 in
theorem name_Held.run [Fuel] (x : Tup name_Held.con.ps) : fnT name_Held.env Tryd.f22 name_Held.an name_Held.con.ain name_Held.con.kin name_Held.con.hin name_Held.con.ps name_Held.con.out name_Held.con.hout name_Held.con.qs x = name_Held.con.fn x := by kernel_rfl
theorem name_Held.ok [Fuel] : ConOK Tryd.prog name_Held.con := con_ok (E := name_Held.env) (an := name_Held.an) mixed Tryd.func22 (by kernel_rfl) (cons_cons slices_ContainsFunc_api_Hold_api_Hold.ok (cons_nil)) name_Held.run
noncomputable abbrev name_Free.ps : List Ty := [(.sl .str), (.sl GHoldT), .str, (.int .i64)]
noncomputable abbrev name_Free.qs : List Ty := [(.int .i64)]
noncomputable def name_Free.con [Fuel] : Con := ⟨24, [.c (.v (.d (.sl .str))), .c (.v (.d (.sl GHoldT))), .c (.v (.d .str)), .c (.v (.d (.int .i64)))], [], [], name_Free.ps, .one (.v (.d (.int .i64))), [], name_Free.qs, fun x => name_Free x.1 x.2.1 x.2.2.1 x.2.2.2⟩
noncomputable def name_Free.env [Fuel] : Env := ⟨Tryd.prog, [], [name_Right.con, slices_Contains_string_string.con, name_Guard.con, name_Held.con], [(12, 0), (16, 1), (20, 2), (27, 3)], [], [], [], [], [], []⟩
noncomputable def name_Free.an : An := .seq .no (.seq (.seq .no (.cond (.seq .no .no) .no)) (.seq (.seq .no (.cond (.seq .no .no) .no)) (.seq (.seq .no (.seq .no (.cond (.seq .no .no) .no))) (.seq (.seq .no (.cond (.seq .no .no) .no)) (.seq .no .no)))))
set_option maxRecDepth 100000 in
theorem name_Free.run [Fuel] (x : Tup name_Free.con.ps) : fnT name_Free.env Tryd.f24 name_Free.an name_Free.con.ain name_Free.con.kin name_Free.con.hin name_Free.con.ps name_Free.con.out name_Free.con.hout name_Free.con.qs x = name_Free.con.fn x := by kernel_rfl
theorem name_Free.ok [Fuel] : ConOK Tryd.prog name_Free.con := con_ok (E := name_Free.env) (an := name_Free.an) mixed Tryd.func24 (by kernel_rfl) (cons_cons name_Right.ok (cons_cons slices_Contains_string_string.ok (cons_cons name_Guard.ok (cons_cons name_Held.ok (cons_nil))))) name_Free.run
noncomputable abbrev ladinglaw10_small.ps : List Ty := []
noncomputable abbrev ladinglaw10_small.qs : List Ty := [.bool]
noncomputable def ladinglaw10_small.con [Fuel] : Con := ⟨8, [], [], [], ladinglaw10_small.ps, .one (.v (.d .bool)), [], ladinglaw10_small.qs, fun x => ladinglaw10_small⟩
noncomputable def ladinglaw10_small.env [Fuel] : Env := ⟨Tryd.prog, [(22, .str)], [name_Drop.con, name_Guard.con, name_Skeleton.con, name_Confusable.con, name_Right.con, name_Free.con], [(7, 0), (12, 1), (15, 2), (18, 3), (21, 3), (25, 4), (28, 4), (32, 4), (36, 4), (46, 5), (51, 5), (56, 5)], [4], [], [], [11, 55], [], []⟩
noncomputable def ladinglaw10_small.an : An := .seq .no (.seq .no (.seq .no (.join ⟨[(5, .c (.v (.d .bool)))], [], [.bool]⟩ [1, 2, 3, 4] [] true .no (.seq .no .no))))
set_option maxRecDepth 100000 in
theorem ladinglaw10_small.run [Fuel] (x : Tup ladinglaw10_small.con.ps) : fnT ladinglaw10_small.env Tryd.f8 ladinglaw10_small.an ladinglaw10_small.con.ain ladinglaw10_small.con.kin ladinglaw10_small.con.hin ladinglaw10_small.con.ps ladinglaw10_small.con.out ladinglaw10_small.con.hout ladinglaw10_small.con.qs x = ladinglaw10_small.con.fn x := by kernel_rfl
theorem ladinglaw10_small.ok [Fuel] : ConOK Tryd.prog ladinglaw10_small.con := con_ok (E := ladinglaw10_small.env) (an := ladinglaw10_small.an) mixed Tryd.func8 (by kernel_rfl) (cons_cons name_Drop.ok (cons_cons name_Guard.ok (cons_cons name_Skeleton.ok (cons_cons name_Confusable.ok (cons_cons name_Right.ok (cons_cons name_Free.ok (cons_nil))))))) ladinglaw10_small.run
noncomputable abbrev ladinglaw10_short.ps : List Ty := [(.sl .str)]
noncomputable abbrev ladinglaw10_short.qs : List Ty := [.bool]
noncomputable def ladinglaw10_short.con [Fuel] : Con := ⟨9, [.c (.v (.d (.sl .str)))], [], [], ladinglaw10_short.ps, .one (.v (.d .bool)), [], ladinglaw10_short.qs, fun x => ladinglaw10_short x⟩
noncomputable def ladinglaw10_short.env [Fuel] : Env := ⟨Tryd.prog, [], [], [], [1000000], [], [], [], [], []⟩
noncomputable def ladinglaw10_short.an : An := .seq .no (.seq (.seq .no (.one (.loop ⟨[(3, .c (.v (.d (.int .i64))))], [], [(.int .i64)]⟩ [0] [] (.seq (.join ⟨[(11, .c (.v (.d .bool)))], [], [.bool]⟩ [0, 3] [] true .no (.cond .no .no)) (.seq (.one (.seq .no (.cond (.seq .no .no) .no))) .no))))) (.seq .no .no))
set_option maxRecDepth 100000 in
theorem ladinglaw10_short.run [Fuel] (x : Tup ladinglaw10_short.con.ps) : fnT ladinglaw10_short.env Tryd.f9 ladinglaw10_short.an ladinglaw10_short.con.ain ladinglaw10_short.con.kin ladinglaw10_short.con.hin ladinglaw10_short.con.ps ladinglaw10_short.con.out ladinglaw10_short.con.hout ladinglaw10_short.con.qs x = ladinglaw10_short.con.fn x := by kernel_rfl
theorem ladinglaw10_short.ok [Fuel] : ConOK Tryd.prog ladinglaw10_short.con := con_ok (E := ladinglaw10_short.env) (an := ladinglaw10_short.an) mixed Tryd.func9 (by kernel_rfl) (cons_nil) ladinglaw10_short.run
noncomputable abbrev ladinglaw10_few.ps : List Ty := [(.sl GHoldT)]
noncomputable abbrev ladinglaw10_few.qs : List Ty := [.bool]
noncomputable def ladinglaw10_few.con [Fuel] : Con := ⟨10, [.c (.v (.d (.sl GHoldT)))], [], [], ladinglaw10_few.ps, .one (.v (.d .bool)), [], ladinglaw10_few.qs, fun x => ladinglaw10_few x⟩
noncomputable def ladinglaw10_few.env [Fuel] : Env := ⟨Tryd.prog, [], [], [], [1000000], [], [], [], [], []⟩
noncomputable def ladinglaw10_few.an : An := .seq .no (.seq (.seq .no (.one (.loop ⟨[(3, .c (.v (.d (.int .i64))))], [], [(.int .i64)]⟩ [0] [] (.seq (.join ⟨[(11, .c (.v (.d .bool)))], [], [.bool]⟩ [0, 3] [] true .no (.cond .no .no)) (.seq (.one (.seq .no (.cond (.seq .no .no) .no))) .no))))) (.seq .no .no))
set_option maxRecDepth 100000 in
theorem ladinglaw10_few.run [Fuel] (x : Tup ladinglaw10_few.con.ps) : fnT ladinglaw10_few.env Tryd.f10 ladinglaw10_few.an ladinglaw10_few.con.ain ladinglaw10_few.con.kin ladinglaw10_few.con.hin ladinglaw10_few.con.ps ladinglaw10_few.con.out ladinglaw10_few.con.hout ladinglaw10_few.con.qs x = ladinglaw10_few.con.fn x := by kernel_rfl
theorem ladinglaw10_few.ok [Fuel] : ConOK Tryd.prog ladinglaw10_few.con := con_ok (E := ladinglaw10_few.env) (an := ladinglaw10_few.an) mixed Tryd.func10 (by kernel_rfl) (cons_nil) ladinglaw10_few.run
noncomputable abbrev ladingref10_Skeleton.ps : List Ty := [.str]
noncomputable abbrev ladingref10_Skeleton.qs : List Ty := [.str]
noncomputable def ladingref10_Skeleton.con [Fuel] : Con := ⟨19, [.c (.v (.d .str))], [], [], ladingref10_Skeleton.ps, .one (.v (.d .str)), [], ladingref10_Skeleton.qs, fun x => ladingref10_Skeleton x⟩
noncomputable def ladingref10_Skeleton.env [Fuel] : Env := ⟨Tryd.prog, [], [], [], [7, 1000000], [], [], [], [], []⟩
noncomputable def ladingref10_Skeleton.an : An := .seq .no (.seq .no (.seq .no (.seq (.one (.loop ⟨[(3, .c (.v (.d .str))), (4, .c (.v (.d (.int .i64))))], [], [.str, (.int .i64)]⟩ [0] [] (.seq (.seq .no (.cond .no .no)) (.one (.seq .no (.join ⟨[(5, .c (.v (.d .str)))], [], [.str]⟩ [0, 3, 4] [] true (.seq .no (.cond .no .no)) (.seq (.join ⟨[(25, .c (.v (.d .bool)))], [], [.bool]⟩ [0, 3, 4, 5] [] true .no (.cond (.seq (.seq .no (.cond .no .no)) (.seq .no .no)) .no)) (.seq (.seq .no (.one (.seq .no (.cond .no (.seq .no (.cond .no (.join ⟨[(50, .c (.v (.d .bool)))], [], [.bool]⟩ [0, 3, 4] [] true (.seq .no (.cond .no .no)) (.cond .no .no)))))))) .no)))))))) (.seq .no .no))))
set_option maxRecDepth 100000 in
theorem ladingref10_Skeleton.run [Fuel] (x : Tup ladingref10_Skeleton.con.ps) : fnT ladingref10_Skeleton.env Tryd.f19 ladingref10_Skeleton.an ladingref10_Skeleton.con.ain ladingref10_Skeleton.con.kin ladingref10_Skeleton.con.hin ladingref10_Skeleton.con.ps ladingref10_Skeleton.con.out ladingref10_Skeleton.con.hout ladingref10_Skeleton.con.qs x = ladingref10_Skeleton.con.fn x := by kernel_rfl
theorem ladingref10_Skeleton.ok [Fuel] : ConOK Tryd.prog ladingref10_Skeleton.con := con_ok (E := ladingref10_Skeleton.env) (an := ladingref10_Skeleton.an) mixed Tryd.func19 (by kernel_rfl) (cons_nil) ladingref10_Skeleton.run
noncomputable abbrev ladingref10_Guard.ps : List Ty := [(.sl .str), .str]
noncomputable abbrev ladingref10_Guard.qs : List Ty := [.str, .bool]
noncomputable def ladingref10_Guard.con [Fuel] : Con := ⟨12, [.c (.v (.d (.sl .str))), .c (.v (.d .str))], [], [], ladingref10_Guard.ps, .tup [.v (.d .str), .v (.d .bool)], [], ladingref10_Guard.qs, fun x => ladingref10_Guard x.1 x.2⟩
noncomputable def ladingref10_Guard.env [Fuel] : Env := ⟨Tryd.prog, [], [ladingref10_Skeleton.con], [(9, 0), (20, 0)], [], [], [], [], [], []⟩
noncomputable def ladingref10_Guard.an : An := .seq .no (.seq .no (.seq (.seq .no (.one (.loop ⟨[(7, .c (.v (.d (.int .i64))))], [], [(.int .i64)]⟩ [0, 6] [] (.seq (.seq .no (.cond .no .no)) (.seq (.one (.seq .no (.cond (.seq .no .no) .no))) .no))))) (.seq .no .no)))
set_option maxRecDepth 100000 in
theorem ladingref10_Guard.run [Fuel] (x : Tup ladingref10_Guard.con.ps) : fnT ladingref10_Guard.env Tryd.f12 ladingref10_Guard.an ladingref10_Guard.con.ain ladingref10_Guard.con.kin ladingref10_Guard.con.hin ladingref10_Guard.con.ps ladingref10_Guard.con.out ladingref10_Guard.con.hout ladingref10_Guard.con.qs x = ladingref10_Guard.con.fn x := by kernel_rfl
theorem ladingref10_Guard.ok [Fuel] : ConOK Tryd.prog ladingref10_Guard.con := con_ok (E := ladingref10_Guard.env) (an := ladingref10_Guard.an) mixed Tryd.func12 (by kernel_rfl) (cons_cons ladingref10_Skeleton.ok (cons_nil)) ladingref10_Guard.run
noncomputable abbrev ladingref10_letter.ps : List Ty := [(.int .u8)]
noncomputable abbrev ladingref10_letter.qs : List Ty := [.bool]
noncomputable def ladingref10_letter.con [Fuel] : Con := ⟨32, [.c (.v (.d (.int .u8)))], [], [], ladingref10_letter.ps, .one (.v (.d .bool)), [], ladingref10_letter.qs, fun x => ladingref10_letter x⟩
noncomputable def ladingref10_letter.env [Fuel] : Env := ⟨Tryd.prog, [], [], [], [], [], [], [], [], []⟩
noncomputable def ladingref10_letter.an : An := .seq .no (.seq .no .no)
set_option maxRecDepth 100000 in
theorem ladingref10_letter.run [Fuel] (x : Tup ladingref10_letter.con.ps) : fnT ladingref10_letter.env Tryd.f32 ladingref10_letter.an ladingref10_letter.con.ain ladingref10_letter.con.kin ladingref10_letter.con.hin ladingref10_letter.con.ps ladingref10_letter.con.out ladingref10_letter.con.hout ladingref10_letter.con.qs x = ladingref10_letter.con.fn x := by kernel_rfl
theorem ladingref10_letter.ok [Fuel] : ConOK Tryd.prog ladingref10_letter.con := con_ok (E := ladingref10_letter.env) (an := ladingref10_letter.an) mixed Tryd.func32 (by kernel_rfl) (cons_nil) ladingref10_letter.run
noncomputable abbrev ladingref10_Right.ps : List Ty := [.str]
noncomputable abbrev ladingref10_Right.qs : List Ty := [.bool]
noncomputable def ladingref10_Right.con [Fuel] : Con := ⟨17, [.c (.v (.d .str))], [], [], ladingref10_Right.ps, .one (.v (.d .bool)), [], ladingref10_Right.qs, fun x => ladingref10_Right x⟩
noncomputable def ladingref10_Right.env [Fuel] : Env := ⟨Tryd.prog, [], [ladingref10_letter.con], [(30, 0)], [8, 1000000], [], [], [], [], []⟩
noncomputable def ladingref10_Right.an : An := .seq .no (.seq (.join ⟨[(13, .c (.v (.d .bool)))], [], [.bool]⟩ [0] [] true .no (.cond (.seq .no .no) .no)) (.seq (.seq .no (.one (.loop ⟨[(3, .c (.v (.d (.int .i64))))], [], [(.int .i64)]⟩ [0] [] (.seq (.seq .no (.cond .no .no)) (.seq (.one (.seq .no (.join ⟨[(5, .c (.v (.d .bool)))], [], [.bool]⟩ [0, 3, 4] [] true .no (.seq (.join ⟨[(43, .c (.v (.d .bool)))], [], [.bool]⟩ [0, 3, 4] [] true .no (.cond (.seq .no .no) .no)) (.join ⟨[(59, .c (.v (.d .bool)))], [], [.bool]⟩ [0, 3] [] true .no (.cond (.seq .no .no) .no)))))) .no))))) (.seq .no .no)))
set_option maxRecDepth 100000 in
theorem ladingref10_Right.run [Fuel] (x : Tup ladingref10_Right.con.ps) : fnT ladingref10_Right.env Tryd.f17 ladingref10_Right.an ladingref10_Right.con.ain ladingref10_Right.con.kin ladingref10_Right.con.hin ladingref10_Right.con.ps ladingref10_Right.con.out ladingref10_Right.con.hout ladingref10_Right.con.qs x = ladingref10_Right.con.fn x := by kernel_rfl
theorem ladingref10_Right.ok [Fuel] : ConOK Tryd.prog ladingref10_Right.con := con_ok (E := ladingref10_Right.env) (an := ladingref10_Right.an) mixed Tryd.func17 (by kernel_rfl) (cons_cons ladingref10_letter.ok (cons_nil)) ladingref10_Right.run
noncomputable abbrev ladingref10_Drop.ps : List Ty := [(.sl GHoldT), .str, (.int .i64)]
noncomputable abbrev ladingref10_Drop.qs : List Ty := [(.sl GHoldT), (.int .i64)]
noncomputable def ladingref10_Drop.con [Fuel] : Con := ⟨14, [.c (.v (.d (.sl GHoldT))), .c (.v (.d .str)), .c (.v (.d (.int .i64)))], [], [], ladingref10_Drop.ps, .tup [.v (.d (.sl GHoldT)), .v (.d (.int .i64))], [], ladingref10_Drop.qs, fun x => ladingref10_Drop x.1 x.2.1 x.2.2⟩
noncomputable def ladingref10_Drop.env [Fuel] : Env := ⟨Tryd.prog, [(23, GHoldT)], [ladingref10_Right.con], [(11, 0)], [1000000], [], [], [51], [], []⟩
noncomputable def ladingref10_Drop.an : An := .seq .no (.seq (.seq .no (.cond (.seq .no .no) .no)) (.seq (.join ⟨[(18, .c (.v (.d .bool)))], [], [.bool]⟩ [0, 1, 2] [] true .no (.cond (.seq .no .no) .no)) (.seq .no (.seq (.seq .no (.one (.loop ⟨[(9, .c (.v (.d (.int .i64))))], [], [(.int .i64)]⟩ [1, 2, 8] [21] (.seq (.seq .no (.cond .no .no)) (.seq (.one (.seq .no (.cond (.seq .no (.seq .no .no)) .no))) .no))))) (.seq .no .no)))))
set_option maxRecDepth 100000 in
theorem ladingref10_Drop.run [Fuel] (x : Tup ladingref10_Drop.con.ps) : fnT ladingref10_Drop.env Tryd.f14 ladingref10_Drop.an ladingref10_Drop.con.ain ladingref10_Drop.con.kin ladingref10_Drop.con.hin ladingref10_Drop.con.ps ladingref10_Drop.con.out ladingref10_Drop.con.hout ladingref10_Drop.con.qs x = ladingref10_Drop.con.fn x := by kernel_rfl
theorem ladingref10_Drop.ok [Fuel] : ConOK Tryd.prog ladingref10_Drop.con := con_ok (E := ladingref10_Drop.env) (an := ladingref10_Drop.an) mixed Tryd.func14 (by kernel_rfl) (cons_cons ladingref10_Right.ok (cons_nil)) ladingref10_Drop.run
noncomputable abbrev ladingref10_Same.ps : List Ty := [(.sl GHoldT), (.sl GHoldT)]
noncomputable abbrev ladingref10_Same.qs : List Ty := [.bool]
noncomputable def ladingref10_Same.con [Fuel] : Con := ⟨15, [.c (.v (.d (.sl GHoldT))), .c (.v (.d (.sl GHoldT)))], [], [], ladingref10_Same.ps, .one (.v (.d .bool)), [], ladingref10_Same.qs, fun x => ladingref10_Same x.1 x.2⟩
noncomputable def ladingref10_Same.env [Fuel] : Env := ⟨Tryd.prog, [], [], [], [], [], [], [], [19, 20, 23, 24], []⟩
noncomputable def ladingref10_Same.an : An := .seq .no (.seq (.seq .no (.cond (.seq .no .no) .no)) (.seq (.seq .no (.one (.loop ⟨[(5, .c (.v (.d (.int .i64))))], [], [(.int .i64)]⟩ [0, 1] [] (.seq (.seq .no (.cond .no .no)) (.seq (.one (.seq .no (.cond (.seq .no .no) .no))) .no))))) (.seq .no .no)))
set_option maxRecDepth 100000 in
theorem ladingref10_Same.run [Fuel] (x : Tup ladingref10_Same.con.ps) : fnT ladingref10_Same.env Tryd.f15 ladingref10_Same.an ladingref10_Same.con.ain ladingref10_Same.con.kin ladingref10_Same.con.hin ladingref10_Same.con.ps ladingref10_Same.con.out ladingref10_Same.con.hout ladingref10_Same.con.qs x = ladingref10_Same.con.fn x := by kernel_rfl
theorem ladingref10_Same.ok [Fuel] : ConOK Tryd.prog ladingref10_Same.con := con_ok (E := ladingref10_Same.env) (an := ladingref10_Same.an) mixed Tryd.func15 (by kernel_rfl) (cons_nil) ladingref10_Same.run
noncomputable abbrev ladingref10_Confusable.ps : List Ty := [.str, .str]
noncomputable abbrev ladingref10_Confusable.qs : List Ty := [.bool]
noncomputable def ladingref10_Confusable.con [Fuel] : Con := ⟨21, [.c (.v (.d .str)), .c (.v (.d .str))], [], [], ladingref10_Confusable.ps, .one (.v (.d .bool)), [], ladingref10_Confusable.qs, fun x => ladingref10_Confusable x.1 x.2⟩
noncomputable def ladingref10_Confusable.env [Fuel] : Env := ⟨Tryd.prog, [], [ladingref10_Skeleton.con], [(6, 0), (8, 0)], [], [], [], [], [], []⟩
noncomputable def ladingref10_Confusable.an : An := .seq .no (.seq .no .no)
set_option maxRecDepth 100000 in
theorem ladingref10_Confusable.run [Fuel] (x : Tup ladingref10_Confusable.con.ps) : fnT ladingref10_Confusable.env Tryd.f21 ladingref10_Confusable.an ladingref10_Confusable.con.ain ladingref10_Confusable.con.kin ladingref10_Confusable.con.hin ladingref10_Confusable.con.ps ladingref10_Confusable.con.out ladingref10_Confusable.con.hout ladingref10_Confusable.con.qs x = ladingref10_Confusable.con.fn x := by kernel_rfl
theorem ladingref10_Confusable.ok [Fuel] : ConOK Tryd.prog ladingref10_Confusable.con := con_ok (E := ladingref10_Confusable.env) (an := ladingref10_Confusable.an) mixed Tryd.func21 (by kernel_rfl) (cons_cons ladingref10_Skeleton.ok (cons_nil)) ladingref10_Confusable.run
noncomputable abbrev ladingref10_Held.ps : List Ty := [(.sl GHoldT), .str, (.int .i64)]
noncomputable abbrev ladingref10_Held.qs : List Ty := [.bool]
noncomputable def ladingref10_Held.con [Fuel] : Con := ⟨23, [.c (.v (.d (.sl GHoldT))), .c (.v (.d .str)), .c (.v (.d (.int .i64)))], [], [], ladingref10_Held.ps, .one (.v (.d .bool)), [], ladingref10_Held.qs, fun x => ladingref10_Held x.1 x.2.1 x.2.2⟩
noncomputable def ladingref10_Held.env [Fuel] : Env := ⟨Tryd.prog, [], [ladingref10_Skeleton.con], [(10, 0), (30, 0)], [1000000], [], [], [], [], []⟩
noncomputable def ladingref10_Held.an : An := .seq .no (.seq .no (.seq (.seq .no (.one (.loop ⟨[(8, .c (.v (.d (.int .i64))))], [], [(.int .i64)]⟩ [0, 2, 7] [] (.seq (.seq .no (.cond .no .no)) (.seq (.one (.join ⟨[(33, .c (.v (.d .bool)))], [], [.bool]⟩ [0, 2, 7, 8] [] true .no (.cond (.seq .no .no) .no))) .no))))) (.seq .no .no)))
set_option maxRecDepth 100000 in
theorem ladingref10_Held.run [Fuel] (x : Tup ladingref10_Held.con.ps) : fnT ladingref10_Held.env Tryd.f23 ladingref10_Held.an ladingref10_Held.con.ain ladingref10_Held.con.kin ladingref10_Held.con.hin ladingref10_Held.con.ps ladingref10_Held.con.out ladingref10_Held.con.hout ladingref10_Held.con.qs x = ladingref10_Held.con.fn x := by kernel_rfl
theorem ladingref10_Held.ok [Fuel] : ConOK Tryd.prog ladingref10_Held.con := con_ok (E := ladingref10_Held.env) (an := ladingref10_Held.an) mixed Tryd.func23 (by kernel_rfl) (cons_cons ladingref10_Skeleton.ok (cons_nil)) ladingref10_Held.run
noncomputable abbrev ladingref10_Free.ps : List Ty := [(.sl .str), (.sl GHoldT), .str, (.int .i64)]
noncomputable abbrev ladingref10_Free.qs : List Ty := [(.int .i64)]
noncomputable def ladingref10_Free.con [Fuel] : Con := ⟨25, [.c (.v (.d (.sl .str))), .c (.v (.d (.sl GHoldT))), .c (.v (.d .str)), .c (.v (.d (.int .i64)))], [], [], ladingref10_Free.ps, .one (.v (.d (.int .i64))), [], ladingref10_Free.qs, fun x => ladingref10_Free x.1 x.2.1 x.2.2.1 x.2.2.2⟩
noncomputable def ladingref10_Free.env [Fuel] : Env := ⟨Tryd.prog, [], [ladingref10_Right.con, ladingref10_Guard.con, ladingref10_Held.con], [(13, 0), (30, 1), (37, 2)], [8], [], [], [], [], []⟩
noncomputable def ladingref10_Free.an : An := .seq .no (.seq (.seq .no (.cond (.seq .no .no) .no)) (.join ⟨[], [], []⟩ [0, 1, 2, 3] [] false (.seq .no (.one (.loop ⟨[(9, .c (.v (.d (.int .i64))))], [], [(.int .i64)]⟩ [0, 1, 2, 3] [] (.seq (.seq .no (.cond .no .no)) (.seq (.one (.seq .no (.cond (.seq .no .no) .no))) .no))))) (.seq .no (.seq (.seq .no (.cond (.seq .no .no) .no)) (.seq (.seq .no (.cond (.seq .no .no) .no)) (.seq .no .no))))))
set_option maxRecDepth 100000 in
theorem ladingref10_Free.run [Fuel] (x : Tup ladingref10_Free.con.ps) : fnT ladingref10_Free.env Tryd.f25 ladingref10_Free.an ladingref10_Free.con.ain ladingref10_Free.con.kin ladingref10_Free.con.hin ladingref10_Free.con.ps ladingref10_Free.con.out ladingref10_Free.con.hout ladingref10_Free.con.qs x = ladingref10_Free.con.fn x := by kernel_rfl
theorem ladingref10_Free.ok [Fuel] : ConOK Tryd.prog ladingref10_Free.con := con_ok (E := ladingref10_Free.env) (an := ladingref10_Free.an) mixed Tryd.func25 (by kernel_rfl) (cons_cons ladingref10_Right.ok (cons_cons ladingref10_Guard.ok (cons_cons ladingref10_Held.ok (cons_nil)))) ladingref10_Free.run
noncomputable abbrev ladinglaw10_NameTells.ps : List Ty := [(.sl .str), (.sl GHoldT), .str, (.int .i64), (.int .i64)]
noncomputable abbrev ladinglaw10_NameTells.qs : List Ty := [.bool]
noncomputable def ladinglaw10_NameTells.con [Fuel] : Con := ⟨3, [.c (.v (.d (.sl .str))), .c (.v (.d (.sl GHoldT))), .c (.v (.d .str)), .c (.v (.d (.int .i64))), .c (.v (.d (.int .i64)))], [], [], ladinglaw10_NameTells.ps, .one (.v (.d .bool)), [], ladinglaw10_NameTells.qs, fun x => ladinglaw10_NameTells x.1 x.2.1 x.2.2.1 x.2.2.2.1 x.2.2.2.2⟩
noncomputable def ladinglaw10_NameTells.env [Fuel] : Env := ⟨Tryd.prog, [], [ladinglaw10_small.con, ladinglaw10_short.con, ladinglaw10_few.con, name_Guard.con, ladingref10_Guard.con, name_Drop.con, ladingref10_Drop.con, ladingref10_Same.con, name_Right.con, ladingref10_Right.con, name_Skeleton.con, ladingref10_Skeleton.con, name_Confusable.con, ladingref10_Confusable.con, name_Held.con, ladingref10_Held.con, name_Free.con, ladingref10_Free.con], [(21, 0), (23, 1), (27, 2), (39, 3), (45, 4), (52, 5), (59, 6), (78, 7), (83, 8), (85, 9), (90, 10), (92, 11), (106, 12), (112, 13), (119, 14), (123, 15), (131, 16), (136, 17)], [15, 1000000], [], [], [], [103, 104, 109, 110], []⟩
noncomputable def ladinglaw10_NameTells.an : An := .seq .no (.seq .no (.seq (.join ⟨[(34, .c (.v (.d .bool)))], [], [.bool]⟩ [0, 1, 2, 3, 4, 11] [] true .no (.cond (.seq .no .no) .no)) (.seq .no (.seq .no (.seq .no (.seq .no (.seq (.join ⟨[(94, .c (.v (.d .bool)))], [], [.bool]⟩ [0, 1, 2, 3, 11] [] true .no (.cond (.seq .no .no) .no)) (.join ⟨[], [], []⟩ [0, 1, 2, 3, 11] [] false (.seq .no (.one (.loop ⟨[(20, .c (.v (.d (.int .i64))))], [], [(.int .i64)]⟩ [0, 1, 2, 3, 11] [] (.seq (.seq .no (.cond .no .no)) (.seq (.one (.seq .no (.cond (.seq .no .no) .no))) .no))))) (.seq .no .no)))))))))
set_option maxRecDepth 100000 in
theorem ladinglaw10_NameTells.run [Fuel] (x : Tup ladinglaw10_NameTells.con.ps) : fnT ladinglaw10_NameTells.env Tryd.f3 ladinglaw10_NameTells.an ladinglaw10_NameTells.con.ain ladinglaw10_NameTells.con.kin ladinglaw10_NameTells.con.hin ladinglaw10_NameTells.con.ps ladinglaw10_NameTells.con.out ladinglaw10_NameTells.con.hout ladinglaw10_NameTells.con.qs x = ladinglaw10_NameTells.con.fn x := by kernel_rfl
theorem ladinglaw10_NameTells.ok [Fuel] : ConOK Tryd.prog ladinglaw10_NameTells.con := con_ok (E := ladinglaw10_NameTells.env) (an := ladinglaw10_NameTells.an) mixed Tryd.func3 (by kernel_rfl) (cons_cons ladinglaw10_small.ok (cons_cons ladinglaw10_short.ok (cons_cons ladinglaw10_few.ok (cons_cons name_Guard.ok (cons_cons ladingref10_Guard.ok (cons_cons name_Drop.ok (cons_cons ladingref10_Drop.ok (cons_cons ladingref10_Same.ok (cons_cons name_Right.ok (cons_cons ladingref10_Right.ok (cons_cons name_Skeleton.ok (cons_cons ladingref10_Skeleton.ok (cons_cons name_Confusable.ok (cons_cons ladingref10_Confusable.ok (cons_cons name_Held.ok (cons_cons ladingref10_Held.ok (cons_cons name_Free.ok (cons_cons ladingref10_Free.ok (cons_nil))))))))))))))))))) ladinglaw10_NameTells.run
noncomputable abbrev ladinglaw10_NameAlike.ps : List Ty := [.str, .str, .str]
noncomputable abbrev ladinglaw10_NameAlike.qs : List Ty := [.bool]
noncomputable def ladinglaw10_NameAlike.con [Fuel] : Con := ⟨5, [.c (.v (.d .str)), .c (.v (.d .str)), .c (.v (.d .str))], [], [], ladinglaw10_NameAlike.ps, .one (.v (.d .bool)), [], ladinglaw10_NameAlike.qs, fun x => ladinglaw10_NameAlike x.1 x.2.1 x.2.2⟩
noncomputable def ladinglaw10_NameAlike.env [Fuel] : Env := ⟨Tryd.prog, [(22, .str)], [ladinglaw10_small.con, name_Confusable.con], [(14, 0), (31, 1), (35, 1), (38, 1), (44, 1), (49, 1), (52, 1), (82, 1)], [5, 1000000], [], [], [56, 57], [], []⟩
noncomputable def ladinglaw10_NameAlike.an : An := .seq .no (.seq .no (.seq (.join ⟨[(27, .c (.v (.d .bool)))], [], [.bool]⟩ [0, 1, 2, 7] [] true .no (.cond (.seq .no .no) .no)) (.join ⟨[(8, .c (.v (.d .bool)))], [], [.bool]⟩ [0, 1, 7] [] true .no (.seq .no (.seq .no (.seq (.seq .no (.one (.loop ⟨[(11, .c (.v (.d (.int .i64))))], [], [(.int .i64)]⟩ [0, 1, 7, 8, 9, 10] [] (.seq (.seq .no (.cond .no .no)) (.seq (.one (.seq .no (.seq .no (.seq .no (.cond (.seq .no .no) .no))))) .no))))) (.seq .no .no)))))))
set_option maxRecDepth 100000 in
theorem ladinglaw10_NameAlike.run [Fuel] (x : Tup ladinglaw10_NameAlike.con.ps) : fnT ladinglaw10_NameAlike.env Tryd.f5 ladinglaw10_NameAlike.an ladinglaw10_NameAlike.con.ain ladinglaw10_NameAlike.con.kin ladinglaw10_NameAlike.con.hin ladinglaw10_NameAlike.con.ps ladinglaw10_NameAlike.con.out ladinglaw10_NameAlike.con.hout ladinglaw10_NameAlike.con.qs x = ladinglaw10_NameAlike.con.fn x := by kernel_rfl
theorem ladinglaw10_NameAlike.ok [Fuel] : ConOK Tryd.prog ladinglaw10_NameAlike.con := con_ok (E := ladinglaw10_NameAlike.env) (an := ladinglaw10_NameAlike.an) mixed Tryd.func5 (by kernel_rfl) (cons_cons ladinglaw10_small.ok (cons_cons name_Confusable.ok (cons_nil))) ladinglaw10_NameAlike.run
noncomputable abbrev ladinglaw10_NameHolds.ps : List Ty := [(.sl GHoldT), .str, .str, (.int .i64), (.int .i64)]
noncomputable abbrev ladinglaw10_NameHolds.qs : List Ty := [.bool]
noncomputable def ladinglaw10_NameHolds.con [Fuel] : Con := ⟨6, [.c (.v (.d (.sl GHoldT))), .c (.v (.d .str)), .c (.v (.d .str)), .c (.v (.d (.int .i64))), .c (.v (.d (.int .i64)))], [], [], ladinglaw10_NameHolds.ps, .one (.v (.d .bool)), [], ladinglaw10_NameHolds.qs, fun x => ladinglaw10_NameHolds x.1 x.2.1 x.2.2.1 x.2.2.2.1 x.2.2.2.2⟩
noncomputable def ladinglaw10_NameHolds.env [Fuel] : Env := ⟨Tryd.prog, [], [ladinglaw10_small.con, ladinglaw10_few.con, name_Held.con, name_Drop.con, name_Right.con, name_Free.con, name_Confusable.con], [(15, 0), (17, 1), (33, 2), (43, 2), (50, 3), (56, 4), (76, 4), (80, 5), (87, 2), (92, 2), (98, 6), (108, 2), (115, 5), (121, 4), (126, 2)], [1000000], [], [], [], [], []⟩
noncomputable def ladinglaw10_NameHolds.an : An := .seq .no (.seq .no (.seq (.join ⟨[(28, .c (.v (.d .bool)))], [], [.bool]⟩ [0, 1, 2, 3, 4, 11] [] true .no (.cond (.seq .no .no) .no)) (.seq (.join ⟨[(45, .c (.v (.d .bool)))], [], [.bool]⟩ [0, 1, 2, 3, 4, 11] [] true .no (.cond (.seq .no .no) .no)) (.seq .no (.seq (.join ⟨[(65, .c (.v (.d .bool)))], [], [.bool]⟩ [0, 1, 2, 3, 4, 11, 12, 13] [] true .no (.cond (.seq .no .no) .no)) (.seq (.seq .no (.cond (.seq .no .no) .no)) (.seq (.join ⟨[(111, .c (.v (.d .bool)))], [], [.bool]⟩ [0, 2, 3, 11, 12] [] true .no (.cond (.seq .no .no) .no)) (.seq .no (.seq .no .no)))))))))
set_option maxRecDepth 100000 in
theorem ladinglaw10_NameHolds.run [Fuel] (x : Tup ladinglaw10_NameHolds.con.ps) : fnT ladinglaw10_NameHolds.env Tryd.f6 ladinglaw10_NameHolds.an ladinglaw10_NameHolds.con.ain ladinglaw10_NameHolds.con.kin ladinglaw10_NameHolds.con.hin ladinglaw10_NameHolds.con.ps ladinglaw10_NameHolds.con.out ladinglaw10_NameHolds.con.hout ladinglaw10_NameHolds.con.qs x = ladinglaw10_NameHolds.con.fn x := by kernel_rfl
theorem ladinglaw10_NameHolds.ok [Fuel] : ConOK Tryd.prog ladinglaw10_NameHolds.con := con_ok (E := ladinglaw10_NameHolds.env) (an := ladinglaw10_NameHolds.an) mixed Tryd.func6 (by kernel_rfl) (cons_cons ladinglaw10_small.ok (cons_cons ladinglaw10_few.ok (cons_cons name_Held.ok (cons_cons name_Drop.ok (cons_cons name_Right.ok (cons_cons name_Free.ok (cons_cons name_Confusable.ok (cons_nil)))))))) ladinglaw10_NameHolds.run
noncomputable abbrev ladinglaw10_NameTurns.ps : List Ty := [(.sl .str), .str, (.int .i64)]
noncomputable abbrev ladinglaw10_NameTurns.qs : List Ty := [.bool]
noncomputable def ladinglaw10_NameTurns.con [Fuel] : Con := ⟨7, [.c (.v (.d (.sl .str))), .c (.v (.d .str)), .c (.v (.d (.int .i64)))], [], [], ladinglaw10_NameTurns.ps, .one (.v (.d .bool)), [], ladinglaw10_NameTurns.qs, fun x => ladinglaw10_NameTurns x.1 x.2.1 x.2.2⟩
noncomputable def ladinglaw10_NameTurns.env [Fuel] : Env := ⟨Tryd.prog, [(22, .str)], [ladinglaw10_small.con, ladinglaw10_short.con, name_Free.con, name_Confusable.con, name_Guard.con, name_Right.con], [(15, 0), (17, 1), (46, 2), (60, 3), (74, 4), (85, 3), (93, 2), (101, 5), (112, 5)], [13, 1000000], [], [], [], [38, 42], []⟩
noncomputable def ladinglaw10_NameTurns.an : An := .seq .no (.seq .no (.seq (.join ⟨[(33, .c (.v (.d .bool)))], [], [.bool]⟩ [0, 1, 2, 7] [] true .no (.cond (.seq .no .no) .no)) (.seq .no (.seq .no (.seq .no (.seq .no (.join ⟨[(10, .c (.v (.d .bool))), (11, .c (.v (.d .bool)))], [], [.bool, .bool]⟩ [0, 1, 7, 8, 9] [43] true (.seq .no (.one (.loop ⟨[(10, .c (.v (.d .bool))), (11, .c (.v (.d .bool))), (12, .c (.v (.d (.int .i64))))], [], [.bool, .bool, (.int .i64)]⟩ [0, 1, 7, 8, 9] [43] (.seq (.seq .no (.cond .no .no)) (.seq (.one (.seq .no .no)) .no))))) (.seq .no (.seq (.join ⟨[(95, .c (.v (.d .bool)))], [], [.bool]⟩ [1, 7, 9, 10, 11] [] true .no (.cond (.seq .no .no) .no)) (.seq .no .no))))))))))
set_option maxRecDepth 100000 in
theorem ladinglaw10_NameTurns.run [Fuel] (x : Tup ladinglaw10_NameTurns.con.ps) : fnT ladinglaw10_NameTurns.env Tryd.f7 ladinglaw10_NameTurns.an ladinglaw10_NameTurns.con.ain ladinglaw10_NameTurns.con.kin ladinglaw10_NameTurns.con.hin ladinglaw10_NameTurns.con.ps ladinglaw10_NameTurns.con.out ladinglaw10_NameTurns.con.hout ladinglaw10_NameTurns.con.qs x = ladinglaw10_NameTurns.con.fn x := by kernel_rfl
theorem ladinglaw10_NameTurns.ok [Fuel] : ConOK Tryd.prog ladinglaw10_NameTurns.con := con_ok (E := ladinglaw10_NameTurns.env) (an := ladinglaw10_NameTurns.an) mixed Tryd.func7 (by kernel_rfl) (cons_cons ladinglaw10_small.ok (cons_cons ladinglaw10_short.ok (cons_cons name_Free.ok (cons_cons name_Confusable.ok (cons_cons name_Guard.ok (cons_cons name_Right.ok (cons_nil))))))) ladinglaw10_NameTurns.run
noncomputable abbrev ladinglaw10_NameGuards.ps : List Ty := [(.sl GActT)]
noncomputable abbrev ladinglaw10_NameGuards.qs : List Ty := [.bool]
noncomputable def ladinglaw10_NameGuards.con [Fuel] : Con := ⟨4, [.c (.v (.d (.sl GActT)))], [], [], ladinglaw10_NameGuards.ps, .one (.v (.d .bool)), [], ladinglaw10_NameGuards.qs, fun x => ladinglaw10_NameGuards x⟩
noncomputable def ladinglaw10_NameGuards.env [Fuel] : Env := ⟨Tryd.prog, [(22, .str)], [ladinglaw10_small.con, name_Drop.con, name_Free.con, name_Confusable.con, name_Right.con], [(14, 0), (60, 1), (96, 2), (111, 3), (125, 3), (138, 4)], [18, 25, 31, 36, 1000000], [], [], [143], [120, 122, 131, 133], [45, 80, 85, 110, 124, 128]⟩
noncomputable def ladinglaw10_NameGuards.an : An := .seq .no (.seq .no (.seq (.seq .no (.cond (.seq .no .no) .no)) (.seq .no (.seq .no (.seq (.seq .no (.one (.loop ⟨[(4, .c (.v (.own 500003))), (5, .c (.v (.d (.sl GHoldT)))), (6, .c (.v (.d (.int .i64))))], [(500003, .arr 9 .str)], [(.sl GHoldT), (.int .i64), (.sl .str)]⟩ [0, 3] [] (.seq (.seq .no (.cond .no .no)) (.seq (.one (.seq .no (.seq (.seq .no (.cond (.seq .no .no) .no)) (.seq .no (.join ⟨[(8, .c (.v (.d (.int .i64))))], [], [(.int .i64)]⟩ [0, 3, 4, 5, 6, 7] [7, 500003] true (.seq .no (.one (.loop ⟨[(8, .c (.v (.d (.int .i64)))), (9, .c (.v (.d (.int .i64))))], [], [(.int .i64), (.int .i64)]⟩ [0, 3, 4, 5, 6, 7] [7, 500003] (.seq (.seq .no (.cond .no .no)) (.seq (.one (.seq .no (.cond .no .no))) .no))))) (.join ⟨[(4, .c (.v (.own 500004))), (5, .c (.v (.d (.sl GHoldT))))], [(500004, .arr 9 .str)], [(.sl GHoldT), (.sl .str)]⟩ [0, 3, 6, 7] [7] false (.join ⟨[(53, .c (.v (.d .bool)))], [], [.bool]⟩ [0, 3, 4, 5, 6, 7, 8] [7, 500003] true .no (.cond (.seq .no (.seq (.join ⟨[(73, .c (.v (.d .bool)))], [], [.bool]⟩ [0, 3, 4, 5, 6, 7, 8, 10, 11] [7, 500003] true .no (.cond (.seq .no .no) .no)) (.seq .no (.cond (.seq .no .no) .no)))) .no)) (.seq (.join ⟨[(98, .c (.v (.d .bool)))], [], [.bool]⟩ [0, 3, 4, 5, 6, 7] [7, 500004] true .no (.cond .no .no)) (.join ⟨[], [], []⟩ [0, 3, 4, 5, 6, 7] [7, 500004] false (.seq .no (.one (.loop ⟨[(12, .c (.v (.d (.int .i64))))], [], [(.int .i64)]⟩ [0, 3, 4, 5, 6, 7] [7, 500004] (.seq (.seq .no (.cond .no .no)) (.seq (.one (.seq .no (.cond (.seq .no .no) .no))) .no))))) (.join ⟨[], [], []⟩ [0, 3, 4, 5, 6, 7] [7, 500004] false (.seq .no (.one (.loop ⟨[(13, .c (.v (.d (.int .i64))))], [], [(.int .i64)]⟩ [0, 3, 4, 5, 6, 7] [7, 500004] (.seq (.seq .no (.cond .no .no)) (.seq (.one (.join ⟨[(135, .c (.v (.d .bool)))], [], [.bool]⟩ [0, 3, 4, 5, 6, 7, 13] [7, 500004] true .no (.cond (.seq .no .no) .no))) .no))))) (.seq (.seq .no (.cond (.seq .no .no) .no)) .no)))))))))) .no))))) (.seq .no .no))))))
set_option maxRecDepth 100000 in
theorem ladinglaw10_NameGuards.run [Fuel] (x : Tup ladinglaw10_NameGuards.con.ps) : fnT ladinglaw10_NameGuards.env Tryd.f4 ladinglaw10_NameGuards.an ladinglaw10_NameGuards.con.ain ladinglaw10_NameGuards.con.kin ladinglaw10_NameGuards.con.hin ladinglaw10_NameGuards.con.ps ladinglaw10_NameGuards.con.out ladinglaw10_NameGuards.con.hout ladinglaw10_NameGuards.con.qs x = ladinglaw10_NameGuards.con.fn x := by kernel_rfl
theorem ladinglaw10_NameGuards.ok [Fuel] : ConOK Tryd.prog ladinglaw10_NameGuards.con := con_ok (E := ladinglaw10_NameGuards.env) (an := ladinglaw10_NameGuards.an) mixed Tryd.func4 (by kernel_rfl) (cons_cons ladinglaw10_small.ok (cons_cons name_Drop.ok (cons_cons name_Free.ok (cons_cons name_Confusable.ok (cons_cons name_Right.ok (cons_nil)))))) ladinglaw10_NameGuards.run
end Go.Proofs.YtkhlbajdoaokeaaDoor
