/-
  The code is they.
-/
import Derived.Test.YtnbkjaoehkmcpaaKModel
import Derived.Test.YtnbkjaoehkmcpaaD12
namespace Go.Proofs.Ytnbkjaoehkmcpaa
open Go.Lad
set_option linter.unusedVariables false
theorem mixed : Try.prog.follows .mixedOrders = true := by kernel_rfl
noncomputable def GVersionT : Ty := (.pair (.int .i64) (.pair (.int .i64) (.int .i64)))
noncomputable def GRangeT : Ty := (.pair GVersionT GVersionT)
noncomputable def GFeatureT : Ty := (.pair .str (.sl .str))
noncomputable def GNeedT : Ty := (.pair .str (.pair (.sl GRangeT) (.pair (.int .i64) GFeatureT)))
noncomputable def GReleaseT : Ty := (.pair .str (.pair GVersionT (.pair .str (.pair (.sl GNeedT) (.pair (.sl GFeatureT) (.pair (.sl .str) .str))))))
noncomputable def GExpT : Ty := (.pair (.int .i64) (.pair (.int .i64) (.pair .str (.pair .str (.pair (.sl .str) (.sl (.pair .any (.pair .any (.pair .any (.pair .any (.pair .any .any)))))))))))
noncomputable def GAdviceT : Ty := (.pair (.int .i64) (.pair .str (.pair (.sl GRangeT) (.pair .str GExpT))))
noncomputable def GFactT : Ty := (.pair (.int .i64) (.pair .str (.pair GVersionT (.pair GReleaseT (.pair GAdviceT (.pair (.sl (.int .i64)) (.pair (.int .i64) GVersionT)))))))
noncomputable abbrev ladinglaw11_release.ps : List Ty := [.str]
noncomputable abbrev ladinglaw11_release.qs : List Ty := [GFactT]
noncomputable def ladinglaw11_release.con [Fuel] : Con := ⟨18, [.c (.v (.d .str))], [], [], ladinglaw11_release.ps, .one (.a GFactT), [], ladinglaw11_release.qs, fun x => ladinglaw11_release x⟩
noncomputable def ladinglaw11_release.env [Fuel] : Env := ⟨Try.prog, [], [], [], [], [], [], [], [], []⟩
noncomputable def ladinglaw11_release.an : An := .seq .no (.seq .no .no)
set_option maxRecDepth 100000 in
theorem ladinglaw11_release.run [Fuel] (x : Tup ladinglaw11_release.con.ps) : fnT ladinglaw11_release.env Try.f18 ladinglaw11_release.an ladinglaw11_release.con.ain ladinglaw11_release.con.kin ladinglaw11_release.con.hin ladinglaw11_release.con.ps ladinglaw11_release.con.out ladinglaw11_release.con.hout ladinglaw11_release.con.qs x = ladinglaw11_release.con.fn x := by kernel_rfl
theorem ladinglaw11_release.ok [Fuel] : ConOK Try.prog ladinglaw11_release.con := con_ok (E := ladinglaw11_release.env) (an := ladinglaw11_release.an) mixed Try.func18 (by kernel_rfl) (cons_nil) ladinglaw11_release.run
noncomputable abbrev keys_set.ps : List Ty := [(.sl (.int .i64)), (.int .i64)]
noncomputable abbrev keys_set.qs : List Ty := [.bool]
noncomputable def keys_set.con [Fuel] : Con := ⟨34, [.c (.v (.d (.sl (.int .i64)))), .c (.v (.d (.int .i64)))], [], [], keys_set.ps, .one (.v (.d .bool)), [], keys_set.qs, fun x => keys_set x.1 x.2⟩
noncomputable def keys_set.env [Fuel] : Env := ⟨Try.prog, [], [], [], [1000000], [], [], [], [], []⟩
noncomputable def keys_set.an : An := .seq .no (.seq (.join ⟨[(19, .c (.v (.d .bool)))], [], [.bool]⟩ [0] [] true .no (.cond (.seq .no .no) .no)) (.seq (.seq .no (.one (.loop ⟨[(22, .c (.v (.d (.int .i64))))], [], [(.int .i64)]⟩ [0, 20, 21] [] (.seq .no (.seq (.cond .no .no) (.seq (.one (.seq .no (.join ⟨[(45, .c (.v (.d .bool)))], [], [.bool]⟩ [0, 20, 21, 22] [] true .no (.cond (.seq .no .no) .no)))) .no)))))) (.seq .no .no)))
set_option maxRecDepth 100000 in
theorem keys_set.run [Fuel] (x : Tup keys_set.con.ps) : fnT keys_set.env Try.f34 keys_set.an keys_set.con.ain keys_set.con.kin keys_set.con.hin keys_set.con.ps keys_set.con.out keys_set.con.hout keys_set.con.qs x = keys_set.con.fn x := by kernel_rfl
theorem keys_set.ok [Fuel] : ConOK Try.prog keys_set.con := con_ok (E := keys_set.env) (an := keys_set.an) mixed Try.func34 (by kernel_rfl) (cons_nil) keys_set.run
noncomputable abbrev slices_Index_int_int.ps : List Ty := [(.sl (.int .i64)), (.int .i64)]
noncomputable abbrev slices_Index_int_int.qs : List Ty := [(.int .i64)]
noncomputable def slices_Index_int_int.con [Fuel] : Con := ⟨40, [.c (.v (.d (.sl (.int .i64)))), .c (.v (.d (.int .i64)))], [], [], slices_Index_int_int.ps, .one (.v (.d (.int .i64))), [], slices_Index_int_int.qs, fun x => slices_Index_int_int x.1 x.2⟩
noncomputable def slices_Index_int_int.env [Fuel] : Env := ⟨Try.prog, [], [], [], [], [], [], [], [], []⟩
noncomputable def slices_Index_int_int.an : An := .seq .no (.seq (.seq .no (.one (.loop ⟨[(8, .c (.v (.d (.int .i64))))], [], [(.int .i64)]⟩ [0, 1, 7] [] (.seq .no (.seq (.cond .no .no) (.seq (.one (.seq .no (.seq .no (.cond (.seq .no .no) .no)))) .no)))))) (.seq .no .no))
set_option maxRecDepth 100000 in
theorem slices_Index_int_int.run [Fuel] (x : Tup slices_Index_int_int.con.ps) : fnT slices_Index_int_int.env Try.f40 slices_Index_int_int.an slices_Index_int_int.con.ain slices_Index_int_int.con.kin slices_Index_int_int.con.hin slices_Index_int_int.con.ps slices_Index_int_int.con.out slices_Index_int_int.con.hout slices_Index_int_int.con.qs x = slices_Index_int_int.con.fn x := by kernel_rfl
theorem slices_Index_int_int.ok [Fuel] : ConOK Try.prog slices_Index_int_int.con := con_ok (E := slices_Index_int_int.env) (an := slices_Index_int_int.an) mixed Try.func40 (by kernel_rfl) (cons_nil) slices_Index_int_int.run
noncomputable abbrev slices_Contains_int_int.ps : List Ty := [(.sl (.int .i64)), (.int .i64)]
noncomputable abbrev slices_Contains_int_int.qs : List Ty := [.bool]
noncomputable def slices_Contains_int_int.con [Fuel] : Con := ⟨39, [.c (.v (.d (.sl (.int .i64)))), .c (.v (.d (.int .i64)))], [], [], slices_Contains_int_int.ps, .one (.v (.d .bool)), [], slices_Contains_int_int.qs, fun x => slices_Contains_int_int x.1 x.2⟩
noncomputable def slices_Contains_int_int.env [Fuel] : Env := ⟨Try.prog, [], [slices_Index_int_int.con], [(7, 0)], [], [], [], [], [], []⟩
noncomputable def slices_Contains_int_int.an : An := .seq .no (.seq .no .no)
set_option maxRecDepth 100000 in
theorem slices_Contains_int_int.run [Fuel] (x : Tup slices_Contains_int_int.con.ps) : fnT slices_Contains_int_int.env Try.f39 slices_Contains_int_int.an slices_Contains_int_int.con.ain slices_Contains_int_int.con.kin slices_Contains_int_int.con.hin slices_Contains_int_int.con.ps slices_Contains_int_int.con.out slices_Contains_int_int.con.hout slices_Contains_int_int.con.qs x = slices_Contains_int_int.con.fn x := by kernel_rfl
theorem slices_Contains_int_int.ok [Fuel] : ConOK Try.prog slices_Contains_int_int.con := con_ok (E := slices_Contains_int_int.env) (an := slices_Contains_int_int.an) mixed Try.func39 (by kernel_rfl) (cons_cons slices_Index_int_int.ok (cons_nil)) slices_Contains_int_int.run
noncomputable abbrev keys_sign.ps : List Ty := [(.sl (.int .i64)), (.sl (.int .i64)), (.int .i64)]
noncomputable abbrev keys_sign.qs : List Ty := [.bool]
noncomputable def keys_sign.con [Fuel] : Con := ⟨35, [.c (.v (.d (.sl (.int .i64)))), .c (.v (.d (.sl (.int .i64)))), .c (.v (.d (.int .i64)))], [], [], keys_sign.ps, .one (.v (.d .bool)), [], keys_sign.qs, fun x => keys_sign x.1 x.2.1 x.2.2⟩
noncomputable def keys_sign.env [Fuel] : Env := ⟨Try.prog, [(23, (.int .i64))], [slices_Contains_int_int.con], [(18, 0), (22, 0)], [1000000], [], [], [27], [], []⟩
noncomputable def keys_sign.an : An := .seq .no (.seq .no (.seq (.seq .no (.one (.loop ⟨[(7, .c (.v (.own 500002))), (12, .c (.v (.d (.int .i64))))], [(500002, .arr 3 (.int .i64))], [(.int .i64), (.sl (.int .i64))]⟩ [1, 2, 10, 11] [] (.seq .no (.seq (.cond .no .no) (.seq (.one (.seq .no (.join ⟨[(24, .c (.v (.d .bool)))], [], [.bool]⟩ [1, 2, 7, 9, 10, 11, 12] [500002] true .no (.cond .no .no)))) .no)))))) (.seq .no .no)))
set_option maxRecDepth 100000 in
theorem keys_sign.run [Fuel] (x : Tup keys_sign.con.ps) : fnT keys_sign.env Try.f35 keys_sign.an keys_sign.con.ain keys_sign.con.kin keys_sign.con.hin keys_sign.con.ps keys_sign.con.out keys_sign.con.hout keys_sign.con.qs x = keys_sign.con.fn x := by kernel_rfl
theorem keys_sign.ok [Fuel] : ConOK Try.prog keys_sign.con := con_ok (E := keys_sign.env) (an := keys_sign.an) mixed Try.func35 (by kernel_rfl) (cons_cons slices_Contains_int_int.ok (cons_nil)) keys_sign.run
noncomputable abbrev keys_name.ps : List Ty := [GFactT]
noncomputable abbrev keys_name.qs : List Ty := [.str]
noncomputable def keys_name.con [Fuel] : Con := ⟨36, [.c (.a GFactT)], [], [], keys_name.ps, .one (.v (.d .str)), [], keys_name.qs, fun x => keys_name x⟩
noncomputable def keys_name.env [Fuel] : Env := ⟨Try.prog, [], [], [], [], [], [], [], [], []⟩
noncomputable def keys_name.an : An := .seq .no (.seq (.seq .no (.one (.seq .no (.cond (.seq .no .no) (.seq .no (.cond (.seq .no .no) .no)))))) (.seq .no .no))
set_option maxRecDepth 100000 in
theorem keys_name.run [Fuel] (x : Tup keys_name.con.ps) : fnT keys_name.env Try.f36 keys_name.an keys_name.con.ain keys_name.con.kin keys_name.con.hin keys_name.con.ps keys_name.con.out keys_name.con.hout keys_name.con.qs x = keys_name.con.fn x := by kernel_rfl
theorem keys_name.ok [Fuel] : ConOK Try.prog keys_name.con := con_ok (E := keys_name.env) (an := keys_name.an) mixed Try.func36 (by kernel_rfl) (cons_nil) keys_name.run
noncomputable abbrev keys_owns.ps : List Ty := [GFactT, .str]
noncomputable abbrev keys_owns.qs : List Ty := [.bool]
noncomputable def keys_owns.con [Fuel] : Con := ⟨29, [.c (.a GFactT), .c (.v (.d .str))], [], [], keys_owns.ps, .one (.v (.d .bool)), [], keys_owns.qs, fun x => keys_owns x.1 x.2⟩
noncomputable def keys_owns.env [Fuel] : Env := ⟨Try.prog, [], [], [], [], [], [], [], [], []⟩
noncomputable def keys_owns.an : An := .seq .no (.seq .no .no)
set_option maxRecDepth 100000 in
theorem keys_owns.run [Fuel] (x : Tup keys_owns.con.ps) : fnT keys_owns.env Try.f29 keys_owns.an keys_owns.con.ain keys_owns.con.kin keys_owns.con.hin keys_owns.con.ps keys_owns.con.out keys_owns.con.hout keys_owns.con.qs x = keys_owns.con.fn x := by kernel_rfl
theorem keys_owns.ok [Fuel] : ConOK Try.prog keys_owns.con := con_ok (E := keys_owns.env) (an := keys_owns.an) mixed Try.func29 (by kernel_rfl) (cons_nil) keys_owns.run
noncomputable abbrev keys_Owner_1.ps : List Ty := [GFactT, .str]
noncomputable abbrev keys_Owner_1.qs : List Ty := [.bool]
noncomputable def keys_Owner_1.con [Fuel] : Con := ⟨28, [.c (.a GFactT), .c (.v (.loc 1000000 0))], [(1000000, .box 9 [.d .str])], [], keys_Owner_1.ps, .one (.v (.d .bool)), [], keys_Owner_1.qs, fun x => keys_Owner_1 x.1 x.2⟩
noncomputable def keys_Owner_1.env [Fuel] : Env := ⟨Try.prog, [], [keys_owns.con], [(6, 0)], [], [], [], [], [], []⟩
noncomputable def keys_Owner_1.an : An := .seq .no (.seq .no .no)
set_option maxRecDepth 100000 in
theorem keys_Owner_1.run [Fuel] (x : Tup keys_Owner_1.con.ps) : fnT keys_Owner_1.env Try.f28 keys_Owner_1.an keys_Owner_1.con.ain keys_Owner_1.con.kin keys_Owner_1.con.hin keys_Owner_1.con.ps keys_Owner_1.con.out keys_Owner_1.con.hout keys_Owner_1.con.qs x = keys_Owner_1.con.fn x := by kernel_rfl
theorem keys_Owner_1.ok [Fuel] : ConOK Try.prog keys_Owner_1.con := con_ok (E := keys_Owner_1.env) (an := keys_Owner_1.an) mixed Try.func28 (by kernel_rfl) (cons_cons keys_owns.ok (cons_nil)) keys_Owner_1.run
noncomputable abbrev keys_last.ps : List Ty := [(.sl GFactT), .str]
noncomputable abbrev keys_last.qs : List Ty := [(.int .i64)]
noncomputable def keys_last.con [Fuel] : Con := ⟨27, [.c (.v (.d (.sl GFactT))), .c (.v (.fn 28 [1000000]))], [(1000000, .box 9 [.d .str])], [], keys_last.ps, .one (.v (.d (.int .i64))), [], keys_last.qs, fun x => keys_last x.1 x.2⟩
noncomputable def keys_last.env [Fuel] : Env := ⟨Try.prog, [], [keys_Owner_1.con], [(18, 0)], [], [18], [], [], [], []⟩
noncomputable def keys_last.an : An := .seq .no (.seq (.seq .no (.one (.loop ⟨[(5, .c (.v (.d (.int .i64))))], [], [(.int .i64)]⟩ [0, 1] [1000000] (.seq (.seq .no (.cond .no .no)) (.seq (.one (.seq .no (.cond (.seq .no .no) .no))) .no))))) (.seq .no .no))
set_option maxRecDepth 100000 in
theorem keys_last.run [Fuel] (x : Tup keys_last.con.ps) : fnT keys_last.env Try.f27 keys_last.an keys_last.con.ain keys_last.con.kin keys_last.con.hin keys_last.con.ps keys_last.con.out keys_last.con.hout keys_last.con.qs x = keys_last.con.fn x := by kernel_rfl
theorem keys_last.ok [Fuel] : ConOK Try.prog keys_last.con := con_ok (E := keys_last.env) (an := keys_last.an) mixed Try.func27 (by kernel_rfl) (cons_cons keys_Owner_1.ok (cons_nil)) keys_last.run
noncomputable abbrev slices_Clone_int_int.ps : List Ty := [(.sl (.int .i64))]
noncomputable abbrev slices_Clone_int_int.qs : List Ty := [(.sl (.int .i64))]
noncomputable def slices_Clone_int_int.con [Fuel] : Con := ⟨30, [.c (.v (.d (.sl (.int .i64))))], [], [], slices_Clone_int_int.ps, .one (.v (.d (.sl (.int .i64)))), [], slices_Clone_int_int.qs, fun x => slices_Clone_int_int x⟩
noncomputable def slices_Clone_int_int.env [Fuel] : Env := ⟨Try.prog, [(23, (.int .i64))], [], [], [], [], [], [], [], []⟩
noncomputable def slices_Clone_int_int.an : An := .seq .no (.seq (.seq .no (.cond (.seq .no .no) .no)) (.seq .no .no))
set_option maxRecDepth 100000 in
theorem slices_Clone_int_int.run [Fuel] (x : Tup slices_Clone_int_int.con.ps) : fnT slices_Clone_int_int.env Try.f30 slices_Clone_int_int.an slices_Clone_int_int.con.ain slices_Clone_int_int.con.kin slices_Clone_int_int.con.hin slices_Clone_int_int.con.ps slices_Clone_int_int.con.out slices_Clone_int_int.con.hout slices_Clone_int_int.con.qs x = slices_Clone_int_int.con.fn x := by kernel_rfl
theorem slices_Clone_int_int.ok [Fuel] : ConOK Try.prog slices_Clone_int_int.con := con_ok (E := slices_Clone_int_int.env) (an := slices_Clone_int_int.an) mixed Try.func30 (by kernel_rfl) (cons_nil) slices_Clone_int_int.run
noncomputable abbrev keys_Owner.ps : List Ty := [(.sl GFactT), .str]
noncomputable abbrev keys_Owner.qs : List Ty := [(.sl (.int .i64)), (.int .i64), .bool]
noncomputable def keys_Owner.con [Fuel] : Con := ⟨11, [.c (.v (.d (.sl GFactT))), .c (.v (.d .str))], [], [], keys_Owner.ps, .tup [.v (.d (.sl (.int .i64))), .v (.d (.int .i64)), .v (.d .bool)], [], keys_Owner.qs, fun x => keys_Owner x.1 x.2⟩
noncomputable def keys_Owner.env [Fuel] : Env := ⟨Try.prog, [], [keys_last.con, slices_Clone_int_int.con], [(10, 0), (18, 1)], [], [10], [], [], [15, 17, 21, 23], []⟩
noncomputable def keys_Owner.an : An := .seq .no (.seq .no (.seq (.seq .no (.cond (.seq .no .no) .no)) (.seq .no .no)))
set_option maxRecDepth 100000 in
theorem keys_Owner.run [Fuel] (x : Tup keys_Owner.con.ps) : fnT keys_Owner.env Try.f11 keys_Owner.an keys_Owner.con.ain keys_Owner.con.kin keys_Owner.con.hin keys_Owner.con.ps keys_Owner.con.out keys_Owner.con.hout keys_Owner.con.qs x = keys_Owner.con.fn x := by kernel_rfl
theorem keys_Owner.ok [Fuel] : ConOK Try.prog keys_Owner.con := con_ok (E := keys_Owner.env) (an := keys_Owner.an) mixed Try.func11 (by kernel_rfl) (cons_cons keys_last.ok (cons_cons slices_Clone_int_int.ok (cons_nil))) keys_Owner.run
noncomputable abbrev keys_Delegates_1.ps : List Ty := [GFactT, .str]
noncomputable abbrev keys_Delegates_1.qs : List Ty := [.bool]
noncomputable def keys_Delegates_1.con [Fuel] : Con := ⟨31, [.c (.a GFactT), .c (.v (.loc 1000000 0))], [(1000000, .box 9 [.d .str])], [], keys_Delegates_1.ps, .one (.v (.d .bool)), [], keys_Delegates_1.qs, fun x => keys_Delegates_1 x.1 x.2⟩
noncomputable def keys_Delegates_1.env [Fuel] : Env := ⟨Try.prog, [], [], [], [], [], [], [], [], []⟩
noncomputable def keys_Delegates_1.an : An := .seq .no (.seq .no .no)
set_option maxRecDepth 100000 in
theorem keys_Delegates_1.run [Fuel] (x : Tup keys_Delegates_1.con.ps) : fnT keys_Delegates_1.env Try.f31 keys_Delegates_1.an keys_Delegates_1.con.ain keys_Delegates_1.con.kin keys_Delegates_1.con.hin keys_Delegates_1.con.ps keys_Delegates_1.con.out keys_Delegates_1.con.hout keys_Delegates_1.con.qs x = keys_Delegates_1.con.fn x := by kernel_rfl
theorem keys_Delegates_1.ok [Fuel] : ConOK Try.prog keys_Delegates_1.con := con_ok (E := keys_Delegates_1.env) (an := keys_Delegates_1.an) mixed Try.func31 (by kernel_rfl) (cons_nil) keys_Delegates_1.run
noncomputable abbrev keys_last_v2.ps : List Ty := [(.sl GFactT), .str]
noncomputable abbrev keys_last_v2.qs : List Ty := [(.int .i64)]
noncomputable def keys_last_v2.con [Fuel] : Con := ⟨27, [.c (.v (.d (.sl GFactT))), .c (.v (.fn 31 [1000000]))], [(1000000, .box 9 [.d .str])], [], keys_last_v2.ps, .one (.v (.d (.int .i64))), [], keys_last_v2.qs, fun x => keys_last_v2 x.1 x.2⟩
noncomputable def keys_last_v2.env [Fuel] : Env := ⟨Try.prog, [], [keys_Delegates_1.con], [(18, 0)], [], [18], [], [], [], []⟩
noncomputable def keys_last_v2.an : An := .seq .no (.seq (.seq .no (.one (.loop ⟨[(5, .c (.v (.d (.int .i64))))], [], [(.int .i64)]⟩ [0, 1] [1000000] (.seq (.seq .no (.cond .no .no)) (.seq (.one (.seq .no (.cond (.seq .no .no) .no))) .no))))) (.seq .no .no))
set_option maxRecDepth 100000 in
theorem keys_last_v2.run [Fuel] (x : Tup keys_last_v2.con.ps) : fnT keys_last_v2.env Try.f27 keys_last_v2.an keys_last_v2.con.ain keys_last_v2.con.kin keys_last_v2.con.hin keys_last_v2.con.ps keys_last_v2.con.out keys_last_v2.con.hout keys_last_v2.con.qs x = keys_last_v2.con.fn x := by kernel_rfl
theorem keys_last_v2.ok [Fuel] : ConOK Try.prog keys_last_v2.con := con_ok (E := keys_last_v2.env) (an := keys_last_v2.an) mixed Try.func27 (by kernel_rfl) (cons_cons keys_Delegates_1.ok (cons_nil)) keys_last_v2.run
noncomputable abbrev keys_Delegates_2.ps : List Ty := [GFactT, .str]
noncomputable abbrev keys_Delegates_2.qs : List Ty := [.bool]
noncomputable def keys_Delegates_2.con [Fuel] : Con := ⟨32, [.c (.a GFactT), .c (.v (.loc 1000000 0))], [(1000000, .box 9 [.d .str])], [], keys_Delegates_2.ps, .one (.v (.d .bool)), [], keys_Delegates_2.qs, fun x => keys_Delegates_2 x.1 x.2⟩
noncomputable def keys_Delegates_2.env [Fuel] : Env := ⟨Try.prog, [], [], [], [], [], [], [], [], []⟩
noncomputable def keys_Delegates_2.an : An := .seq .no (.seq .no .no)
set_option maxRecDepth 100000 in
theorem keys_Delegates_2.run [Fuel] (x : Tup keys_Delegates_2.con.ps) : fnT keys_Delegates_2.env Try.f32 keys_Delegates_2.an keys_Delegates_2.con.ain keys_Delegates_2.con.kin keys_Delegates_2.con.hin keys_Delegates_2.con.ps keys_Delegates_2.con.out keys_Delegates_2.con.hout keys_Delegates_2.con.qs x = keys_Delegates_2.con.fn x := by kernel_rfl
theorem keys_Delegates_2.ok [Fuel] : ConOK Try.prog keys_Delegates_2.con := con_ok (E := keys_Delegates_2.env) (an := keys_Delegates_2.an) mixed Try.func32 (by kernel_rfl) (cons_nil) keys_Delegates_2.run
noncomputable abbrev keys_last_v3.ps : List Ty := [(.sl GFactT), .str]
noncomputable abbrev keys_last_v3.qs : List Ty := [(.int .i64)]
noncomputable def keys_last_v3.con [Fuel] : Con := ⟨27, [.c (.v (.d (.sl GFactT))), .c (.v (.fn 32 [1000000]))], [(1000000, .box 9 [.d .str])], [], keys_last_v3.ps, .one (.v (.d (.int .i64))), [], keys_last_v3.qs, fun x => keys_last_v3 x.1 x.2⟩
noncomputable def keys_last_v3.env [Fuel] : Env := ⟨Try.prog, [], [keys_Delegates_2.con], [(18, 0)], [], [18], [], [], [], []⟩
noncomputable def keys_last_v3.an : An := .seq .no (.seq (.seq .no (.one (.loop ⟨[(5, .c (.v (.d (.int .i64))))], [], [(.int .i64)]⟩ [0, 1] [1000000] (.seq (.seq .no (.cond .no .no)) (.seq (.one (.seq .no (.cond (.seq .no .no) .no))) .no))))) (.seq .no .no))
set_option maxRecDepth 100000 in
theorem keys_last_v3.run [Fuel] (x : Tup keys_last_v3.con.ps) : fnT keys_last_v3.env Try.f27 keys_last_v3.an keys_last_v3.con.ain keys_last_v3.con.kin keys_last_v3.con.hin keys_last_v3.con.ps keys_last_v3.con.out keys_last_v3.con.hout keys_last_v3.con.qs x = keys_last_v3.con.fn x := by kernel_rfl
theorem keys_last_v3.ok [Fuel] : ConOK Try.prog keys_last_v3.con := con_ok (E := keys_last_v3.env) (an := keys_last_v3.an) mixed Try.func27 (by kernel_rfl) (cons_cons keys_Delegates_2.ok (cons_nil)) keys_last_v3.run
noncomputable abbrev keys_Delegates.ps : List Ty := [(.sl GFactT), .str]
noncomputable abbrev keys_Delegates.qs : List Ty := [(.sl (.int .i64)), (.int .i64), (.int .i64)]
noncomputable def keys_Delegates.con [Fuel] : Con := ⟨12, [.c (.v (.d (.sl GFactT))), .c (.v (.d .str))], [], [], keys_Delegates.ps, .tup [.v (.d (.sl (.int .i64))), .v (.d (.int .i64)), .v (.d (.int .i64))], [], keys_Delegates.qs, fun x => keys_Delegates x.1 x.2⟩
noncomputable def keys_Delegates.env [Fuel] : Env := ⟨Try.prog, [], [keys_last_v2.con, keys_last_v3.con, slices_Clone_int_int.con], [(12, 0), (18, 1), (30, 2)], [], [12, 18], [], [], [], [29, 32, 34]⟩
noncomputable def keys_Delegates.an : An := .seq .no (.seq .no (.seq .no (.seq (.seq .no (.cond (.seq .no .no) .no)) (.seq .no (.seq .no .no)))))
set_option maxRecDepth 100000 in
theorem keys_Delegates.run [Fuel] (x : Tup keys_Delegates.con.ps) : fnT keys_Delegates.env Try.f12 keys_Delegates.an keys_Delegates.con.ain keys_Delegates.con.kin keys_Delegates.con.hin keys_Delegates.con.ps keys_Delegates.con.out keys_Delegates.con.hout keys_Delegates.con.qs x = keys_Delegates.con.fn x := by kernel_rfl
theorem keys_Delegates.ok [Fuel] : ConOK Try.prog keys_Delegates.con := con_ok (E := keys_Delegates.env) (an := keys_Delegates.an) mixed Try.func12 (by kernel_rfl) (cons_cons keys_last_v2.ok (cons_cons keys_last_v3.ok (cons_cons slices_Clone_int_int.ok (cons_nil)))) keys_Delegates.run
noncomputable abbrev keys_May.ps : List Ty := [(.sl GFactT), (.sl (.int .i64)), GFactT, (.sl (.int .i64))]
noncomputable abbrev keys_May.qs : List Ty := [(.int .i64)]
noncomputable def keys_May.con [Fuel] : Con := ⟨17, [.c (.v (.d (.sl GFactT))), .c (.v (.d (.sl (.int .i64)))), .c (.a GFactT), .c (.v (.d (.sl (.int .i64))))], [], [], keys_May.ps, .one (.v (.d (.int .i64))), [], keys_May.qs, fun x => keys_May x.1 x.2.1 x.2.2.1 x.2.2.2⟩
noncomputable def keys_May.env [Fuel] : Env := ⟨Try.prog, [], [keys_set.con, keys_sign.con, keys_name.con, keys_Owner.con, keys_Delegates.con], [(25, 0), (32, 1), (41, 2), (42, 3), (64, 1), (71, 2), (72, 4), (88, 1)], [16, 21, 1000000], [], [], [], [], [58, 60]⟩
noncomputable def keys_May.an : An := .seq .no (.join ⟨[], [], []⟩ [0, 3, 6] [6] false (.seq .no (.one (.join ⟨[(17, .c (.v (.d .bool)))], [], [.bool]⟩ [0, 1, 3, 6, 16] [6] true (.seq .no (.cond .no (.seq .no (.cond .no .no)))) (.cond (.seq .no (.cond (.seq .no .no) .no)) (.join ⟨[(27, .c (.v (.d .bool)))], [], [.bool]⟩ [0, 1, 3, 6, 16] [6] true (.seq .no (.cond .no .no)) (.cond (.seq (.seq .no (.cond (.seq .no .no) .no)) (.seq .no .no)) (.join ⟨[(34, .c (.v (.d .bool)))], [], [.bool]⟩ [0, 3, 6] [6] true (.seq .no (.cond .no (.seq .no (.cond .no .no)))) (.cond .no (.seq .no .no))))))))) (.seq .no (.join ⟨[(9, .c (.v (.d (.sl (.int .i64))))), (10, .c (.v (.d (.int .i64))))], [], [(.sl (.int .i64)), (.int .i64)]⟩ [0, 3, 6] [6] false (.one (.join ⟨[(46, .c (.v (.d .bool)))], [], [.bool]⟩ [0, 3, 6, 9, 10, 11] [6] true .no (.cond (.seq .no .no) (.seq .no (.cond .no .no))))) (.seq (.seq .no (.cond (.seq .no .no) .no)) (.seq (.seq .no (.cond (.seq .no (.join ⟨[(89, .c (.v (.d .bool)))], [], [.bool]⟩ [] [] true .no (.cond (.seq .no .no) .no))) .no)) (.seq .no .no))))))
set_option maxRecDepth 100000 in
theorem keys_May.run [Fuel] (x : Tup keys_May.con.ps) : fnT keys_May.env Try.f17 keys_May.an keys_May.con.ain keys_May.con.kin keys_May.con.hin keys_May.con.ps keys_May.con.out keys_May.con.hout keys_May.con.qs x = keys_May.con.fn x := by kernel_rfl
theorem keys_May.ok [Fuel] : ConOK Try.prog keys_May.con := con_ok (E := keys_May.env) (an := keys_May.an) mixed Try.func17 (by kernel_rfl) (cons_cons keys_set.ok (cons_cons keys_sign.ok (cons_cons keys_name.ok (cons_cons keys_Owner.ok (cons_cons keys_Delegates.ok (cons_nil)))))) keys_May.run
noncomputable abbrev keys_Admit.ps : List Ty := [(.sl GFactT), (.sl (.int .i64)), (.sl (.sl (.int .i64)))]
noncomputable abbrev keys_Admit.qs : List Ty := [(.int .i64), (.int .i64)]
noncomputable def keys_Admit.con [Fuel] : Con := ⟨10, [.c (.v (.d (.sl GFactT))), .c (.v (.d (.sl (.int .i64)))), .c (.v (.d (.sl (.sl (.int .i64)))))], [], [], keys_Admit.ps, .tup [.v (.d (.int .i64)), .v (.d (.int .i64))], [], keys_Admit.qs, fun x => keys_Admit x.1 x.2.1 x.2.2⟩
noncomputable def keys_Admit.env [Fuel] : Env := ⟨Try.prog, [], [keys_May.con], [(33, 0)], [7], [], [], [], [29], [31]⟩
noncomputable def keys_Admit.an : An := .seq .no (.seq (.seq .no (.one (.loop ⟨[(14, .c (.v (.d (.int .i64))))], [], [(.int .i64)]⟩ [0, 1, 2, 12, 13] [] (.seq .no (.seq (.cond .no .no) (.seq (.one (.seq .no (.seq .no (.join ⟨[(10, .c (.v (.d (.sl (.int .i64)))))], [], [(.sl (.int .i64))]⟩ [0, 1, 2, 8, 9, 12, 13, 14] [9] true (.seq .no (.cond .no .no)) (.seq .no (.seq .no (.cond (.seq .no .no) .no))))))) .no)))))) (.seq .no .no))
set_option maxRecDepth 100000 in
theorem keys_Admit.run [Fuel] (x : Tup keys_Admit.con.ps) : fnT keys_Admit.env Try.f10 keys_Admit.an keys_Admit.con.ain keys_Admit.con.kin keys_Admit.con.hin keys_Admit.con.ps keys_Admit.con.out keys_Admit.con.hout keys_Admit.con.qs x = keys_Admit.con.fn x := by kernel_rfl
theorem keys_Admit.ok [Fuel] : ConOK Try.prog keys_Admit.con := con_ok (E := keys_Admit.env) (an := keys_Admit.an) mixed Try.func10 (by kernel_rfl) (cons_cons keys_May.ok (cons_nil)) keys_Admit.run
noncomputable abbrev ladingref11_Ints.ps : List Ty := [(.sl (.int .i64)), (.sl (.int .i64))]
noncomputable abbrev ladingref11_Ints.qs : List Ty := [.bool]
noncomputable def ladingref11_Ints.con [Fuel] : Con := ⟨16, [.c (.v (.d (.sl (.int .i64)))), .c (.v (.d (.sl (.int .i64))))], [], [], ladingref11_Ints.ps, .one (.v (.d .bool)), [], ladingref11_Ints.qs, fun x => ladingref11_Ints x.1 x.2⟩
noncomputable def ladingref11_Ints.env [Fuel] : Env := ⟨Try.prog, [], [], [], [], [], [], [], [19, 20, 23, 24], []⟩
noncomputable def ladingref11_Ints.an : An := .seq .no (.seq (.seq .no (.cond (.seq .no .no) .no)) (.seq (.seq .no (.one (.loop ⟨[(5, .c (.v (.d (.int .i64))))], [], [(.int .i64)]⟩ [0, 1] [] (.seq (.seq .no (.cond .no .no)) (.seq (.one (.seq .no (.cond (.seq .no .no) .no))) .no))))) (.seq .no .no)))
set_option maxRecDepth 100000 in
theorem ladingref11_Ints.run [Fuel] (x : Tup ladingref11_Ints.con.ps) : fnT ladingref11_Ints.env Try.f16 ladingref11_Ints.an ladingref11_Ints.con.ain ladingref11_Ints.con.kin ladingref11_Ints.con.hin ladingref11_Ints.con.ps ladingref11_Ints.con.out ladingref11_Ints.con.hout ladingref11_Ints.con.qs x = ladingref11_Ints.con.fn x := by kernel_rfl
theorem ladingref11_Ints.ok [Fuel] : ConOK Try.prog ladingref11_Ints.con := con_ok (E := ladingref11_Ints.env) (an := ladingref11_Ints.an) mixed Try.func16 (by kernel_rfl) (cons_nil) ladingref11_Ints.run
noncomputable abbrev keys_Chain.ps : List Ty := [(.sl GFactT), .str]
noncomputable abbrev keys_Chain.qs : List Ty := [(.sl (.int .i64))]
noncomputable def keys_Chain.con [Fuel] : Con := ⟨24, [.c (.v (.d (.sl GFactT))), .c (.v (.d .str))], [], [], keys_Chain.ps, .one (.v (.d (.sl (.int .i64)))), [], keys_Chain.qs, fun x => keys_Chain x.1 x.2⟩
noncomputable def keys_Chain.env [Fuel] : Env := ⟨Try.prog, [(23, (.int .i64))], [keys_owns.con], [(17, 0)], [], [], [], [20], [], []⟩
noncomputable def keys_Chain.an : An := .seq .no (.seq .no (.seq (.seq .no (.one (.loop ⟨[(5, .c (.v (.own 500002))), (10, .c (.v (.d (.int .i64))))], [(500002, .arr 3 (.int .i64))], [(.int .i64), (.sl (.int .i64))]⟩ [1, 8, 9] [] (.seq .no (.seq (.cond .no .no) (.seq (.one (.seq .no (.seq .no (.cond .no .no)))) .no)))))) (.seq .no .no)))
set_option maxRecDepth 100000 in
theorem keys_Chain.run [Fuel] (x : Tup keys_Chain.con.ps) : fnT keys_Chain.env Try.f24 keys_Chain.an keys_Chain.con.ain keys_Chain.con.kin keys_Chain.con.hin keys_Chain.con.ps keys_Chain.con.out keys_Chain.con.hout keys_Chain.con.qs x = keys_Chain.con.fn x := by kernel_rfl
theorem keys_Chain.ok [Fuel] : ConOK Try.prog keys_Chain.con := con_ok (E := keys_Chain.env) (an := keys_Chain.an) mixed Try.func24 (by kernel_rfl) (cons_cons keys_owns.ok (cons_nil)) keys_Chain.run
noncomputable abbrev ladinglaw11_small.ps : List Ty := []
noncomputable abbrev ladinglaw11_small.qs : List Ty := [.bool]
noncomputable def ladinglaw11_small.con [Fuel] : Con := ⟨8, [], [], [], ladinglaw11_small.ps, .one (.v (.d .bool)), [], ladinglaw11_small.qs, fun x => ladinglaw11_small⟩
noncomputable def ladinglaw11_small.env [Fuel] : Env := ⟨Try.prog, [(22, GFactT), (23, (.int .i64)), (24, (.sl (.int .i64)))], [ladinglaw11_release.con, keys_May.con, keys_Owner.con, keys_Delegates.con, keys_Admit.con, ladingref11_Ints.con, keys_Chain.con], [(22, 0), (24, 1), (28, 0), (30, 1), (35, 0), (37, 1), (43, 1), (49, 1), (54, 0), (56, 1), (63, 1), (67, 2), (73, 3), (82, 4), (87, 5), (98, 5), (128, 6), (130, 5)], [4, 5, 10], [], [], [15, 17, 19, 23, 29, 36, 42, 48, 55, 60, 62, 79, 80, 81, 86, 97, 129], [], []⟩
noncomputable def ladinglaw11_small.an : An := .seq .no (.seq .no (.seq .no (.join ⟨[(3, .c (.v (.d .bool)))], [], [.bool]⟩ [1, 2] [2] true .no (.join ⟨[(4, .c (.v (.d .bool)))], [], [.bool]⟩ [1, 3] [] true .no (.seq .no (.seq .no (.seq .no (.seq .no (.join ⟨[(14, .c (.v (.d .bool)))], [], [.bool]⟩ [1, 3, 4, 5, 12, 13] [] true .no (.seq .no .no))))))))))
set_option maxRecDepth 100000 in
theorem ladinglaw11_small.run [Fuel] (x : Tup ladinglaw11_small.con.ps) : fnT ladinglaw11_small.env Try.f8 ladinglaw11_small.an ladinglaw11_small.con.ain ladinglaw11_small.con.kin ladinglaw11_small.con.hin ladinglaw11_small.con.ps ladinglaw11_small.con.out ladinglaw11_small.con.hout ladinglaw11_small.con.qs x = ladinglaw11_small.con.fn x := by kernel_rfl
theorem ladinglaw11_small.ok [Fuel] : ConOK Try.prog ladinglaw11_small.con := con_ok (E := ladinglaw11_small.env) (an := ladinglaw11_small.an) mixed Try.func8 (by kernel_rfl) (cons_cons ladinglaw11_release.ok (cons_cons keys_May.ok (cons_cons keys_Owner.ok (cons_cons keys_Delegates.ok (cons_cons keys_Admit.ok (cons_cons ladingref11_Ints.ok (cons_cons keys_Chain.ok (cons_nil)))))))) ladinglaw11_small.run
noncomputable abbrev ladingref11_Few.ps : List Ty := [(.sl GFactT), (.sl (.sl (.int .i64))), (.int .i64)]
noncomputable abbrev ladingref11_Few.qs : List Ty := [.bool]
noncomputable def ladingref11_Few.con [Fuel] : Con := ⟨9, [.c (.v (.d (.sl GFactT))), .c (.v (.d (.sl (.sl (.int .i64))))), .c (.v (.d (.int .i64)))], [], [], ladingref11_Few.ps, .one (.v (.d .bool)), [], ladingref11_Few.qs, fun x => ladingref11_Few x.1 x.2.1 x.2.2⟩
noncomputable def ladingref11_Few.env [Fuel] : Env := ⟨Try.prog, [], [], [], [6, 1000000], [], [], [], [], []⟩
noncomputable def ladingref11_Few.an : An := .seq .no (.join ⟨[], [], []⟩ [0, 1, 2] [] false (.seq .no (.one (.loop ⟨[(7, .c (.v (.d (.int .i64))))], [], [(.int .i64)]⟩ [0, 1, 2] [] (.seq (.join ⟨[(17, .c (.v (.d .bool)))], [], [.bool]⟩ [0, 1, 2, 7] [] true .no (.cond .no .no)) (.seq (.one (.seq .no (.cond (.seq .no .no) .no))) .no))))) (.seq (.seq .no (.one (.loop ⟨[(8, .c (.v (.d (.int .i64))))], [], [(.int .i64)]⟩ [0, 1, 2] [] (.seq (.join ⟨[(35, .c (.v (.d .bool)))], [], [.bool]⟩ [0, 1, 2, 8] [] true .no (.cond .no .no)) (.seq (.one (.seq .no (.cond (.seq .no .no) .no))) .no))))) (.seq .no .no)))
set_option maxRecDepth 100000 in
theorem ladingref11_Few.run [Fuel] (x : Tup ladingref11_Few.con.ps) : fnT ladingref11_Few.env Try.f9 ladingref11_Few.an ladingref11_Few.con.ain ladingref11_Few.con.kin ladingref11_Few.con.hin ladingref11_Few.con.ps ladingref11_Few.con.out ladingref11_Few.con.hout ladingref11_Few.con.qs x = ladingref11_Few.con.fn x := by kernel_rfl
theorem ladingref11_Few.ok [Fuel] : ConOK Try.prog ladingref11_Few.con := con_ok (E := ladingref11_Few.env) (an := ladingref11_Few.an) mixed Try.func9 (by kernel_rfl) (cons_nil) ladingref11_Few.run
noncomputable abbrev ladingref11_Has.ps : List Ty := [(.sl (.int .i64)), (.int .i64)]
noncomputable abbrev ladingref11_Has.qs : List Ty := [.bool]
noncomputable def ladingref11_Has.con [Fuel] : Con := ⟨33, [.c (.v (.d (.sl (.int .i64)))), .c (.v (.d (.int .i64)))], [], [], ladingref11_Has.ps, .one (.v (.d .bool)), [], ladingref11_Has.qs, fun x => ladingref11_Has x.1 x.2⟩
noncomputable def ladingref11_Has.env [Fuel] : Env := ⟨Try.prog, [], [], [], [], [], [], [], [], []⟩
noncomputable def ladingref11_Has.an : An := .seq .no (.seq (.seq .no (.one (.loop ⟨[(5, .c (.v (.d (.int .i64))))], [], [(.int .i64)]⟩ [0, 1] [] (.seq (.seq .no (.cond .no .no)) (.seq (.one (.seq .no (.cond (.seq .no .no) .no))) .no))))) (.seq .no .no))
set_option maxRecDepth 100000 in
theorem ladingref11_Has.run [Fuel] (x : Tup ladingref11_Has.con.ps) : fnT ladingref11_Has.env Try.f33 ladingref11_Has.an ladingref11_Has.con.ain ladingref11_Has.con.kin ladingref11_Has.con.hin ladingref11_Has.con.ps ladingref11_Has.con.out ladingref11_Has.con.hout ladingref11_Has.con.qs x = ladingref11_Has.con.fn x := by kernel_rfl
theorem ladingref11_Has.ok [Fuel] : ConOK Try.prog ladingref11_Has.con := con_ok (E := ladingref11_Has.env) (an := ladingref11_Has.an) mixed Try.func33 (by kernel_rfl) (cons_nil) ladingref11_Has.run
noncomputable abbrev ladingref11_Count.ps : List Ty := [(.sl (.int .i64)), (.sl (.int .i64))]
noncomputable abbrev ladingref11_Count.qs : List Ty := [(.int .i64)]
noncomputable def ladingref11_Count.con [Fuel] : Con := ⟨13, [.c (.v (.d (.sl (.int .i64)))), .c (.v (.d (.sl (.int .i64))))], [], [], ladingref11_Count.ps, .one (.v (.d (.int .i64))), [], ladingref11_Count.qs, fun x => ladingref11_Count x.1 x.2⟩
noncomputable def ladingref11_Count.env [Fuel] : Env := ⟨Try.prog, [], [ladingref11_Has.con], [(18, 0), (27, 0)], [1000000], [], [], [], [16, 17, 22, 25, 26], []⟩
noncomputable def ladingref11_Count.an : An := .seq .no (.seq .no (.seq (.seq .no (.one (.loop ⟨[(5, .c (.v (.d (.int .i64)))), (6, .c (.v (.d (.int .i64))))], [], [(.int .i64), (.int .i64)]⟩ [0, 1] [] (.seq (.seq .no (.cond .no .no)) (.seq (.one (.join ⟨[(29, .c (.v (.d .bool)))], [], [.bool]⟩ [0, 1, 5, 6] [] true .no (.cond .no .no))) .no))))) (.seq .no .no)))
set_option maxRecDepth 100000 in
theorem ladingref11_Count.run [Fuel] (x : Tup ladingref11_Count.con.ps) : fnT ladingref11_Count.env Try.f13 ladingref11_Count.an ladingref11_Count.con.ain ladingref11_Count.con.kin ladingref11_Count.con.hin ladingref11_Count.con.ps ladingref11_Count.con.out ladingref11_Count.con.hout ladingref11_Count.con.qs x = ladingref11_Count.con.fn x := by kernel_rfl
theorem ladingref11_Count.ok [Fuel] : ConOK Try.prog ladingref11_Count.con := con_ok (E := ladingref11_Count.env) (an := ladingref11_Count.an) mixed Try.func13 (by kernel_rfl) (cons_cons ladingref11_Has.ok (cons_nil)) ladingref11_Count.run
noncomputable abbrev ladingref11_Name.ps : List Ty := [GFactT]
noncomputable abbrev ladingref11_Name.qs : List Ty := [.str]
noncomputable def ladingref11_Name.con [Fuel] : Con := ⟨14, [.c (.a GFactT)], [], [], ladingref11_Name.ps, .one (.v (.d .str)), [], ladingref11_Name.qs, fun x => ladingref11_Name x⟩
noncomputable def ladingref11_Name.env [Fuel] : Env := ⟨Try.prog, [], [], [], [], [], [], [], [], []⟩
noncomputable def ladingref11_Name.an : An := .seq .no (.seq (.seq .no (.cond (.seq .no .no) .no)) (.seq (.seq .no (.cond (.seq .no .no) .no)) (.seq .no .no)))
set_option maxRecDepth 100000 in
theorem ladingref11_Name.run [Fuel] (x : Tup ladingref11_Name.con.ps) : fnT ladingref11_Name.env Try.f14 ladingref11_Name.an ladingref11_Name.con.ain ladingref11_Name.con.kin ladingref11_Name.con.hin ladingref11_Name.con.ps ladingref11_Name.con.out ladingref11_Name.con.hout ladingref11_Name.con.qs x = ladingref11_Name.con.fn x := by kernel_rfl
theorem ladingref11_Name.ok [Fuel] : ConOK Try.prog ladingref11_Name.con := con_ok (E := ladingref11_Name.env) (an := ladingref11_Name.an) mixed Try.func14 (by kernel_rfl) (cons_nil) ladingref11_Name.run
noncomputable abbrev ladinglaw11_only.ps : List Ty := [(.sl (.int .i64)), (.sl (.int .i64))]
noncomputable abbrev ladinglaw11_only.qs : List Ty := [.bool]
noncomputable def ladinglaw11_only.con [Fuel] : Con := ⟨15, [.c (.v (.d (.sl (.int .i64)))), .c (.v (.d (.sl (.int .i64))))], [], [], ladinglaw11_only.ps, .one (.v (.d .bool)), [], ladinglaw11_only.qs, fun x => ladinglaw11_only x.1 x.2⟩
noncomputable def ladinglaw11_only.env [Fuel] : Env := ⟨Try.prog, [], [ladingref11_Has.con], [(17, 0)], [], [], [], [], [], []⟩
noncomputable def ladinglaw11_only.an : An := .seq .no (.seq (.seq .no (.one (.loop ⟨[(5, .c (.v (.d (.int .i64))))], [], [(.int .i64)]⟩ [0, 1] [] (.seq (.seq .no (.cond .no .no)) (.seq (.one (.seq .no (.cond (.seq .no .no) .no))) .no))))) (.seq .no .no))
set_option maxRecDepth 100000 in
theorem ladinglaw11_only.run [Fuel] (x : Tup ladinglaw11_only.con.ps) : fnT ladinglaw11_only.env Try.f15 ladinglaw11_only.an ladinglaw11_only.con.ain ladinglaw11_only.con.kin ladinglaw11_only.con.hin ladinglaw11_only.con.ps ladinglaw11_only.con.out ladinglaw11_only.con.hout ladinglaw11_only.con.qs x = ladinglaw11_only.con.fn x := by kernel_rfl
theorem ladinglaw11_only.ok [Fuel] : ConOK Try.prog ladinglaw11_only.con := con_ok (E := ladinglaw11_only.env) (an := ladinglaw11_only.an) mixed Try.func15 (by kernel_rfl) (cons_cons ladingref11_Has.ok (cons_nil)) ladinglaw11_only.run
noncomputable abbrev ladinglaw11_KeysHolds.ps : List Ty := [(.sl GFactT), (.sl (.int .i64)), (.sl (.sl (.int .i64))), .str, (.int .u8), (.sl (.int .i64))]
noncomputable abbrev ladinglaw11_KeysHolds.qs : List Ty := [.bool]
noncomputable def ladinglaw11_KeysHolds.con [Fuel] : Con := ⟨3, [.c (.v (.d (.sl GFactT))), .c (.v (.d (.sl (.int .i64)))), .c (.v (.d (.sl (.sl (.int .i64))))), .c (.v (.d .str)), .c (.v (.d (.int .u8))), .c (.v (.d (.sl (.int .i64))))], [], [], ladinglaw11_KeysHolds.ps, .one (.v (.d .bool)), [], ladinglaw11_KeysHolds.qs, fun x => ladinglaw11_KeysHolds x.1 x.2.1 x.2.2.1 x.2.2.2.1 x.2.2.2.2.1 x.2.2.2.2.2⟩
noncomputable def ladinglaw11_KeysHolds.env [Fuel] : Env := ⟨Try.prog, [(24, (.sl (.int .i64)))], [ladinglaw11_small.con, ladingref11_Few.con, keys_Admit.con, keys_Owner.con, keys_Delegates.con, ladingref11_Count.con, ladingref11_Name.con, ladinglaw11_only.con, ladingref11_Ints.con], [(28, 0), (35, 1), (47, 2), (68, 3), (77, 4), (86, 5), (96, 5), (113, 6), (144, 7), (153, 3), (167, 8)], [1000000], [], [], [], [], []⟩
noncomputable def ladinglaw11_KeysHolds.an : An := .seq .no (.seq .no (.seq (.join ⟨[(41, .c (.v (.d .bool)))], [], [.bool]⟩ [0, 1, 2, 3, 4, 5, 13] [] true .no (.cond (.seq .no .no) .no)) (.seq .no (.seq (.join ⟨[(57, .c (.v (.d .bool)))], [], [.bool]⟩ [0, 2, 3, 4, 5, 13, 14] [] true .no (.cond (.seq .no .no) .no)) (.seq .no (.seq .no (.seq .no (.seq (.join ⟨[(100, .c (.v (.d .bool)))], [], [.bool]⟩ [0, 2, 3, 5, 13, 14, 16, 17, 18] [] true .no (.cond (.seq .no .no) .no)) (.seq (.seq .no (.one (.loop ⟨[(23, .c (.v (.d (.int .i64))))], [], [(.int .i64)]⟩ [0, 2, 3, 5, 13, 14, 17, 18] [] (.seq (.seq .no (.cond .no .no)) (.seq (.one (.seq .no (.seq (.join ⟨[(125, .c (.v (.d .bool)))], [], [.bool]⟩ [0, 2, 3, 5, 13, 14, 17, 18, 23] [] true .no (.cond (.seq .no .no) .no)) (.seq .no (.join ⟨[(169, .c (.v (.d .bool)))], [], [.bool]⟩ [0, 2, 3, 5, 13, 14, 17, 18, 23] [] true .no (.cond (.seq .no .no) .no)))))) .no))))) (.seq .no .no))))))))))
set_option maxRecDepth 100000 in
theorem ladinglaw11_KeysHolds.run [Fuel] (x : Tup ladinglaw11_KeysHolds.con.ps) : fnT ladinglaw11_KeysHolds.env Try.f3 ladinglaw11_KeysHolds.an ladinglaw11_KeysHolds.con.ain ladinglaw11_KeysHolds.con.kin ladinglaw11_KeysHolds.con.hin ladinglaw11_KeysHolds.con.ps ladinglaw11_KeysHolds.con.out ladinglaw11_KeysHolds.con.hout ladinglaw11_KeysHolds.con.qs x = ladinglaw11_KeysHolds.con.fn x := by kernel_rfl
theorem ladinglaw11_KeysHolds.ok [Fuel] : ConOK Try.prog ladinglaw11_KeysHolds.con := con_ok (E := ladinglaw11_KeysHolds.env) (an := ladinglaw11_KeysHolds.an) mixed Try.func3 (by kernel_rfl) (cons_cons ladinglaw11_small.ok (cons_cons ladingref11_Few.ok (cons_cons keys_Admit.ok (cons_cons keys_Owner.ok (cons_cons keys_Delegates.ok (cons_cons ladingref11_Count.ok (cons_cons ladingref11_Name.ok (cons_cons ladinglaw11_only.ok (cons_cons ladingref11_Ints.ok (cons_nil)))))))))) ladinglaw11_KeysHolds.run
noncomputable abbrev slices_Equal_int_int.ps : List Ty := [(.sl (.int .i64)), (.sl (.int .i64))]
noncomputable abbrev slices_Equal_int_int.qs : List Ty := [.bool]
noncomputable def slices_Equal_int_int.con [Fuel] : Con := ⟨37, [.c (.v (.d (.sl (.int .i64)))), .c (.v (.d (.sl (.int .i64))))], [], [], slices_Equal_int_int.ps, .one (.v (.d .bool)), [], slices_Equal_int_int.qs, fun x => slices_Equal_int_int x.1 x.2⟩
noncomputable def slices_Equal_int_int.env [Fuel] : Env := ⟨Try.prog, [], [], [], [], [], [], [], [18, 19, 22, 23], []⟩
noncomputable def slices_Equal_int_int.an : An := .seq .no (.seq (.seq .no (.cond (.seq .no .no) .no)) (.seq (.seq .no (.one (.loop ⟨[(13, .c (.v (.d (.int .i64))))], [], [(.int .i64)]⟩ [0, 1, 12] [] (.seq .no (.seq (.cond .no .no) (.seq (.one (.seq .no (.seq .no (.cond (.seq .no .no) .no)))) .no)))))) (.seq .no .no)))
set_option maxRecDepth 100000 in
theorem slices_Equal_int_int.run [Fuel] (x : Tup slices_Equal_int_int.con.ps) : fnT slices_Equal_int_int.env Try.f37 slices_Equal_int_int.an slices_Equal_int_int.con.ain slices_Equal_int_int.con.kin slices_Equal_int_int.con.hin slices_Equal_int_int.con.ps slices_Equal_int_int.con.out slices_Equal_int_int.con.hout slices_Equal_int_int.con.qs x = slices_Equal_int_int.con.fn x := by kernel_rfl
theorem slices_Equal_int_int.ok [Fuel] : ConOK Try.prog slices_Equal_int_int.con := con_ok (E := slices_Equal_int_int.env) (an := slices_Equal_int_int.an) mixed Try.func37 (by kernel_rfl) (cons_nil) slices_Equal_int_int.run
noncomputable abbrev keys_Walk.ps : List Ty := [(.sl GFactT), .str, (.sl (.int .i64))]
noncomputable abbrev keys_Walk.qs : List Ty := [(.sl (.int .i64)), (.int .i64), (.int .i64)]
noncomputable def keys_Walk.con [Fuel] : Con := ⟨22, [.c (.v (.d (.sl GFactT))), .c (.v (.d .str)), .c (.v (.d (.sl (.int .i64))))], [], [], keys_Walk.ps, .tup [.v (.d (.sl (.int .i64))), .v (.d (.int .i64)), .v (.d (.int .i64))], [], keys_Walk.qs, fun x => keys_Walk x.1 x.2.1 x.2.2⟩
noncomputable def keys_Walk.env [Fuel] : Env := ⟨Try.prog, [], [keys_Chain.con, slices_Equal_int_int.con, slices_Clone_int_int.con], [(14, 0), (15, 1), (32, 2)], [], [], [], [], [], [31, 34]⟩
noncomputable def keys_Walk.an : An := .seq .no (.seq (.one (.seq .no (.cond (.seq .no .no) (.seq .no (.cond (.seq .no .no) .no))))) (.seq .no (.seq .no .no)))
set_option maxRecDepth 100000 in
theorem keys_Walk.run [Fuel] (x : Tup keys_Walk.con.ps) : fnT keys_Walk.env Try.f22 keys_Walk.an keys_Walk.con.ain keys_Walk.con.kin keys_Walk.con.hin keys_Walk.con.ps keys_Walk.con.out keys_Walk.con.hout keys_Walk.con.qs x = keys_Walk.con.fn x := by kernel_rfl
theorem keys_Walk.ok [Fuel] : ConOK Try.prog keys_Walk.con := con_ok (E := keys_Walk.env) (an := keys_Walk.an) mixed Try.func22 (by kernel_rfl) (cons_cons keys_Chain.ok (cons_cons slices_Equal_int_int.ok (cons_cons slices_Clone_int_int.ok (cons_nil)))) keys_Walk.run
noncomputable abbrev slices_Clone_int_int_v2.ps : List Ty := [(.sl (.int .i64))]
noncomputable abbrev slices_Clone_int_int_v2.qs : List Ty := [(.sl (.int .i64))]
noncomputable def slices_Clone_int_int_v2.con [Fuel] : Con := ⟨30, [.c (.v (.d (.sl (.int .i64))))], [], [], slices_Clone_int_int_v2.ps, .one (.v (.own 0)), [(0, .arr 3 (.int .i64))], slices_Clone_int_int_v2.qs, fun x => slices_Clone_int_int_v2 x⟩
noncomputable def slices_Clone_int_int_v2.env [Fuel] : Env := ⟨Try.prog, [(23, (.int .i64))], [], [], [], [], [], [], [], []⟩
noncomputable def slices_Clone_int_int_v2.an : An := .seq .no (.seq (.seq .no (.cond (.seq .no .no) .no)) (.seq .no .no))
set_option maxRecDepth 100000 in
theorem slices_Clone_int_int_v2.run [Fuel] (x : Tup slices_Clone_int_int_v2.con.ps) : fnT slices_Clone_int_int_v2.env Try.f30 slices_Clone_int_int_v2.an slices_Clone_int_int_v2.con.ain slices_Clone_int_int_v2.con.kin slices_Clone_int_int_v2.con.hin slices_Clone_int_int_v2.con.ps slices_Clone_int_int_v2.con.out slices_Clone_int_int_v2.con.hout slices_Clone_int_int_v2.con.qs x = slices_Clone_int_int_v2.con.fn x := by kernel_rfl
theorem slices_Clone_int_int_v2.ok [Fuel] : ConOK Try.prog slices_Clone_int_int_v2.con := con_ok (E := slices_Clone_int_int_v2.env) (an := slices_Clone_int_int_v2.an) mixed Try.func30 (by kernel_rfl) (cons_nil) slices_Clone_int_int_v2.run
noncomputable abbrev keys_Owner_v2.ps : List Ty := [(.sl GFactT), .str]
noncomputable abbrev keys_Owner_v2.qs : List Ty := [(.int .i64), .bool, (.sl (.int .i64))]
noncomputable def keys_Owner_v2.con [Fuel] : Con := ⟨11, [.c (.v (.d (.sl GFactT))), .c (.v (.d .str))], [], [], keys_Owner_v2.ps, .tup [.v (.own 0), .v (.d (.int .i64)), .v (.d .bool)], [(0, .arr 3 (.int .i64))], keys_Owner_v2.qs, fun x => keys_Owner_v2 x.1 x.2⟩
noncomputable def keys_Owner_v2.env [Fuel] : Env := ⟨Try.prog, [], [keys_last.con, slices_Clone_int_int_v2.con], [(10, 0), (18, 1)], [], [10], [], [], [15, 17, 21, 23], []⟩
noncomputable def keys_Owner_v2.an : An := .seq .no (.seq .no (.seq (.seq .no (.cond (.seq .no .no) .no)) (.seq .no .no)))
set_option maxRecDepth 100000 in
theorem keys_Owner_v2.run [Fuel] (x : Tup keys_Owner_v2.con.ps) : fnT keys_Owner_v2.env Try.f11 keys_Owner_v2.an keys_Owner_v2.con.ain keys_Owner_v2.con.kin keys_Owner_v2.con.hin keys_Owner_v2.con.ps keys_Owner_v2.con.out keys_Owner_v2.con.hout keys_Owner_v2.con.qs x = keys_Owner_v2.con.fn x := by kernel_rfl
theorem keys_Owner_v2.ok [Fuel] : ConOK Try.prog keys_Owner_v2.con := con_ok (E := keys_Owner_v2.env) (an := keys_Owner_v2.an) mixed Try.func11 (by kernel_rfl) (cons_cons keys_last.ok (cons_cons slices_Clone_int_int_v2.ok (cons_nil))) keys_Owner_v2.run
noncomputable abbrev keys_Walk_v2.ps : List Ty := [(.sl GFactT), .str, (.sl (.int .i64))]
noncomputable abbrev keys_Walk_v2.qs : List Ty := [(.int .i64), (.int .i64), (.sl (.int .i64))]
noncomputable def keys_Walk_v2.con [Fuel] : Con := ⟨22, [.c (.v (.d (.sl GFactT))), .c (.v (.d .str)), .c (.v (.d (.sl (.int .i64))))], [], [], keys_Walk_v2.ps, .tup [.v (.own 0), .v (.d (.int .i64)), .v (.d (.int .i64))], [(0, .arr 3 (.int .i64))], keys_Walk_v2.qs, fun x => keys_Walk_v2 x.1 x.2.1 x.2.2⟩
noncomputable def keys_Walk_v2.env [Fuel] : Env := ⟨Try.prog, [], [keys_Chain.con, slices_Equal_int_int.con, slices_Clone_int_int_v2.con], [(14, 0), (15, 1), (32, 2)], [], [], [], [], [], [31, 34]⟩
noncomputable def keys_Walk_v2.an : An := .seq .no (.seq (.one (.seq .no (.cond (.seq .no .no) (.seq .no (.cond (.seq .no .no) .no))))) (.seq .no (.seq .no .no)))
set_option maxRecDepth 100000 in
theorem keys_Walk_v2.run [Fuel] (x : Tup keys_Walk_v2.con.ps) : fnT keys_Walk_v2.env Try.f22 keys_Walk_v2.an keys_Walk_v2.con.ain keys_Walk_v2.con.kin keys_Walk_v2.con.hin keys_Walk_v2.con.ps keys_Walk_v2.con.out keys_Walk_v2.con.hout keys_Walk_v2.con.qs x = keys_Walk_v2.con.fn x := by kernel_rfl
theorem keys_Walk_v2.ok [Fuel] : ConOK Try.prog keys_Walk_v2.con := con_ok (E := keys_Walk_v2.env) (an := keys_Walk_v2.an) mixed Try.func22 (by kernel_rfl) (cons_cons keys_Chain.ok (cons_cons slices_Equal_int_int.ok (cons_cons slices_Clone_int_int_v2.ok (cons_nil)))) keys_Walk_v2.run
noncomputable abbrev ladinglaw11_KeysChain.ps : List Ty := [(.sl GFactT), .str, (.int .u8)]
noncomputable abbrev ladinglaw11_KeysChain.qs : List Ty := [.bool]
noncomputable def ladinglaw11_KeysChain.con [Fuel] : Con := ⟨7, [.c (.v (.d (.sl GFactT))), .c (.v (.d .str)), .c (.v (.d (.int .u8)))], [], [], ladinglaw11_KeysChain.ps, .one (.v (.d .bool)), [], ladinglaw11_KeysChain.qs, fun x => ladinglaw11_KeysChain x.1 x.2.1 x.2.2⟩
noncomputable def ladinglaw11_KeysChain.env [Fuel] : Env := ⟨Try.prog, [(22, GFactT), (23, (.int .i64))], [ladinglaw11_small.con, ladingref11_Few.con, keys_Chain.con, keys_Owner.con, keys_Walk.con, keys_Owner_v2.con, ladingref11_Ints.con, keys_Walk_v2.con], [(27, 0), (29, 1), (34, 2), (38, 3), (46, 4), (83, 5), (98, 6), (131, 6), (146, 7), (179, 7)], [14, 1000000], [], [], [78, 144], [172, 177], []⟩
noncomputable def ladinglaw11_KeysChain.an : An := .seq .no (.seq .no (.seq (.seq .no (.cond (.seq .no .no) .no)) (.seq .no (.seq .no (.seq .no (.seq .no (.join ⟨[(15, .c (.v (.own 500003)))], [(500003, .arr 49 GFactT)], [(.sl GFactT)]⟩ [0, 1, 2, 7, 8, 9, 10, 11, 12, 13, 14] [] false (.seq .no (.one (.loop ⟨[(15, .c (.v (.own 500005))), (16, .c (.v (.d (.int .i64))))], [(500005, .arr 49 GFactT)], [(.int .i64), (.sl GFactT)]⟩ [0, 1, 2, 7, 8, 9, 10, 11, 12, 13, 14] [] (.seq (.seq .no (.cond .no .no)) (.seq (.one (.seq (.join ⟨[(69, .c (.v (.d .bool)))], [], [.bool]⟩ [0, 1, 2, 7, 8, 9, 10, 11, 12, 13, 14, 15, 16] [500005] true .no (.cond (.seq .no .no) .no)) .no)) .no))))) (.seq .no (.seq (.join ⟨[(135, .c (.v (.d .bool)))], [], [.bool]⟩ [0, 1, 2, 7, 8, 11] [] true .no (.cond (.seq .no .no) .no)) (.seq .no (.seq (.join ⟨[(155, .c (.v (.d .bool)))], [], [.bool]⟩ [0, 1, 2, 7, 8, 22] [] true .no (.cond (.seq .no .no) .no)) (.seq .no (.seq .no (.seq .no .no))))))))))))))
set_option maxRecDepth 100000 in
theorem ladinglaw11_KeysChain.run [Fuel] (x : Tup ladinglaw11_KeysChain.con.ps) : fnT ladinglaw11_KeysChain.env Try.f7 ladinglaw11_KeysChain.an ladinglaw11_KeysChain.con.ain ladinglaw11_KeysChain.con.kin ladinglaw11_KeysChain.con.hin ladinglaw11_KeysChain.con.ps ladinglaw11_KeysChain.con.out ladinglaw11_KeysChain.con.hout ladinglaw11_KeysChain.con.qs x = ladinglaw11_KeysChain.con.fn x := by kernel_rfl
theorem ladinglaw11_KeysChain.ok [Fuel] : ConOK Try.prog ladinglaw11_KeysChain.con := con_ok (E := ladinglaw11_KeysChain.env) (an := ladinglaw11_KeysChain.an) mixed Try.func7 (by kernel_rfl) (cons_cons ladinglaw11_small.ok (cons_cons ladingref11_Few.ok (cons_cons keys_Chain.ok (cons_cons keys_Owner.ok (cons_cons keys_Walk.ok (cons_cons keys_Owner_v2.ok (cons_cons ladingref11_Ints.ok (cons_cons keys_Walk_v2.ok (cons_nil))))))))) ladinglaw11_KeysChain.run
noncomputable abbrev ladinglaw11_KeysMay.ps : List Ty := [(.sl GFactT), (.sl (.int .i64)), GFactT, (.sl (.int .i64)), (.sl (.int .i64))]
noncomputable abbrev ladinglaw11_KeysMay.qs : List Ty := [.bool]
noncomputable def ladinglaw11_KeysMay.con [Fuel] : Con := ⟨4, [.c (.v (.d (.sl GFactT))), .c (.v (.d (.sl (.int .i64)))), .c (.a GFactT), .c (.v (.d (.sl (.int .i64)))), .c (.v (.d (.sl (.int .i64))))], [], [], ladinglaw11_KeysMay.ps, .one (.v (.d .bool)), [], ladinglaw11_KeysMay.qs, fun x => ladinglaw11_KeysMay x.1 x.2.1 x.2.2.1 x.2.2.2.1 x.2.2.2.2⟩
noncomputable def ladinglaw11_KeysMay.env [Fuel] : Env := ⟨Try.prog, [(22, GFactT), (23, (.int .i64)), (24, (.sl (.int .i64)))], [ladinglaw11_small.con, ladingref11_Few.con, keys_May.con, ladingref11_Name.con, keys_Owner.con], [(21, 0), (30, 1), (42, 2), (51, 2), (75, 2), (79, 2), (108, 3), (109, 4)], [11, 1000000], [], [], [29, 67], [], [45, 71]⟩
noncomputable def ladinglaw11_KeysMay.an : An := .seq .no (.seq .no (.seq (.join ⟨[(36, .c (.v (.d .bool)))], [], [.bool]⟩ [0, 1, 3, 4, 7, 11] [7] true .no (.cond (.seq .no .no) .no)) (.seq .no (.seq .no (.seq .no (.join ⟨[(14, .c (.v (.own 500003)))], [(500003, .arr 3 (.int .i64))], [(.sl (.int .i64))]⟩ [0, 1, 3, 7, 11, 12, 13] [7] true (.seq .no (.one (.loop ⟨[(14, .c (.v (.own 500005))), (15, .c (.v (.d (.int .i64))))], [(500005, .arr 3 (.int .i64))], [(.int .i64), (.sl (.int .i64))]⟩ [0, 1, 3, 7, 11, 12, 13] [7] (.seq (.seq .no (.cond .no .no)) (.seq (.one .no) .no))))) (.seq .no (.seq .no (.seq (.join ⟨[(104, .c (.v (.d .bool)))], [], [.bool]⟩ [0, 7, 11, 12] [7] true .no (.cond (.seq .no .no) .no)) (.seq .no (.seq .no .no)))))))))))
set_option maxRecDepth 100000 in
theorem ladinglaw11_KeysMay.run [Fuel] (x : Tup ladinglaw11_KeysMay.con.ps) : fnT ladinglaw11_KeysMay.env Try.f4 ladinglaw11_KeysMay.an ladinglaw11_KeysMay.con.ain ladinglaw11_KeysMay.con.kin ladinglaw11_KeysMay.con.hin ladinglaw11_KeysMay.con.ps ladinglaw11_KeysMay.con.out ladinglaw11_KeysMay.con.hout ladinglaw11_KeysMay.con.qs x = ladinglaw11_KeysMay.con.fn x := by kernel_rfl
theorem ladinglaw11_KeysMay.ok [Fuel] : ConOK Try.prog ladinglaw11_KeysMay.con := con_ok (E := ladinglaw11_KeysMay.env) (an := ladinglaw11_KeysMay.an) mixed Try.func4 (by kernel_rfl) (cons_cons ladinglaw11_small.ok (cons_cons ladingref11_Few.ok (cons_cons keys_May.ok (cons_cons ladingref11_Name.ok (cons_cons keys_Owner.ok (cons_nil)))))) ladinglaw11_KeysMay.run
noncomputable abbrev keys_Delegates_v2.ps : List Ty := [(.sl GFactT), .str]
noncomputable abbrev keys_Delegates_v2.qs : List Ty := [(.int .i64), (.int .i64), (.sl (.int .i64))]
noncomputable def keys_Delegates_v2.con [Fuel] : Con := ⟨12, [.c (.v (.d (.sl GFactT))), .c (.v (.d .str))], [], [], keys_Delegates_v2.ps, .tup [.v (.own 0), .v (.d (.int .i64)), .v (.d (.int .i64))], [(0, .arr 3 (.int .i64))], keys_Delegates_v2.qs, fun x => keys_Delegates_v2 x.1 x.2⟩
noncomputable def keys_Delegates_v2.env [Fuel] : Env := ⟨Try.prog, [], [keys_last_v2.con, keys_last_v3.con, slices_Clone_int_int_v2.con], [(12, 0), (18, 1), (30, 2)], [], [12, 18], [], [], [], [29, 32, 34]⟩
noncomputable def keys_Delegates_v2.an : An := .seq .no (.seq .no (.seq .no (.seq (.seq .no (.cond (.seq .no .no) .no)) (.seq .no (.seq .no .no)))))
set_option maxRecDepth 100000 in
theorem keys_Delegates_v2.run [Fuel] (x : Tup keys_Delegates_v2.con.ps) : fnT keys_Delegates_v2.env Try.f12 keys_Delegates_v2.an keys_Delegates_v2.con.ain keys_Delegates_v2.con.kin keys_Delegates_v2.con.hin keys_Delegates_v2.con.ps keys_Delegates_v2.con.out keys_Delegates_v2.con.hout keys_Delegates_v2.con.qs x = keys_Delegates_v2.con.fn x := by kernel_rfl
theorem keys_Delegates_v2.ok [Fuel] : ConOK Try.prog keys_Delegates_v2.con := con_ok (E := keys_Delegates_v2.env) (an := keys_Delegates_v2.an) mixed Try.func12 (by kernel_rfl) (cons_cons keys_last_v2.ok (cons_cons keys_last_v3.ok (cons_cons slices_Clone_int_int_v2.ok (cons_nil)))) keys_Delegates_v2.run
noncomputable abbrev ladinglaw11_KeysDelegate.ps : List Ty := [(.sl GFactT), .str, (.int .u8), (.int .i64)]
noncomputable abbrev ladinglaw11_KeysDelegate.qs : List Ty := [.bool]
noncomputable def ladinglaw11_KeysDelegate.con [Fuel] : Con := ⟨5, [.c (.v (.d (.sl GFactT))), .c (.v (.d .str)), .c (.v (.d (.int .u8))), .c (.v (.d (.int .i64)))], [], [], ladinglaw11_KeysDelegate.ps, .one (.v (.d .bool)), [], ladinglaw11_KeysDelegate.qs, fun x => ladinglaw11_KeysDelegate x.1 x.2.1 x.2.2.1 x.2.2.2⟩
noncomputable def ladinglaw11_KeysDelegate.env [Fuel] : Env := ⟨Try.prog, [(22, GFactT), (23, (.int .i64))], [ladinglaw11_small.con, ladingref11_Few.con, ladinglaw11_release.con, keys_May.con, keys_Delegates_v2.con, keys_Owner_v2.con, ladingref11_Ints.con], [(28, 0), (30, 1), (59, 2), (61, 3), (71, 2), (76, 3), (98, 3), (107, 3), (116, 3), (138, 4), (145, 4), (152, 5), (160, 6), (191, 6), (196, 2), (198, 3)], [17, 1000000], [], [], [40, 49, 52, 56, 75, 79, 93, 106, 115, 125, 127, 133, 190], [], [45, 132]⟩
noncomputable def ladinglaw11_KeysDelegate.an : An := .seq .no (.seq .no (.seq (.seq .no (.cond (.seq .no .no) .no)) (.seq .no (.seq .no (.seq .no (.seq .no (.seq (.join ⟨[(78, .c (.v (.d .bool)))], [], [.bool]⟩ [1, 3, 9, 10, 11, 12, 13] [11, 53] true .no (.cond (.seq .no .no) .no)) (.seq .no (.join ⟨[], [], []⟩ [1, 3, 9, 10, 11, 12, 13] [11, 53] false (.seq .no (.one (.loop ⟨[(15, .c (.v (.d (.int .i64))))], [], [(.int .i64)]⟩ [1, 3, 9, 10, 11, 12, 13, 14] [11, 53] (.seq (.seq .no (.cond .no .no)) (.seq (.one (.seq .no (.join ⟨[(118, .c (.v (.d .bool)))], [], [.bool]⟩ [1, 3, 9, 10, 11, 12, 13, 14, 15] [11, 53] true .no (.cond (.seq .no .no) .no)))) .no))))) (.seq .no (.seq .no (.seq .no (.seq .no (.seq .no (.seq .no .no)))))))))))))))
set_option maxRecDepth 100000 in
theorem ladinglaw11_KeysDelegate.run [Fuel] (x : Tup ladinglaw11_KeysDelegate.con.ps) : fnT ladinglaw11_KeysDelegate.env Try.f5 ladinglaw11_KeysDelegate.an ladinglaw11_KeysDelegate.con.ain ladinglaw11_KeysDelegate.con.kin ladinglaw11_KeysDelegate.con.hin ladinglaw11_KeysDelegate.con.ps ladinglaw11_KeysDelegate.con.out ladinglaw11_KeysDelegate.con.hout ladinglaw11_KeysDelegate.con.qs x = ladinglaw11_KeysDelegate.con.fn x := by kernel_rfl
theorem ladinglaw11_KeysDelegate.ok [Fuel] : ConOK Try.prog ladinglaw11_KeysDelegate.con := con_ok (E := ladinglaw11_KeysDelegate.env) (an := ladinglaw11_KeysDelegate.an) mixed Try.func5 (by kernel_rfl) (cons_cons ladinglaw11_small.ok (cons_cons ladingref11_Few.ok (cons_cons ladinglaw11_release.ok (cons_cons keys_May.ok (cons_cons keys_Delegates_v2.ok (cons_cons keys_Owner_v2.ok (cons_cons ladingref11_Ints.ok (cons_nil)))))))) ladinglaw11_KeysDelegate.run
noncomputable abbrev ladingref11_Owner.ps : List Ty := [(.sl GFactT), .str]
noncomputable abbrev ladingref11_Owner.qs : List Ty := [(.sl (.int .i64)), (.int .i64), .bool]
noncomputable def ladingref11_Owner.con [Fuel] : Con := ⟨19, [.c (.v (.d (.sl GFactT))), .c (.v (.d .str))], [], [], ladingref11_Owner.ps, .tup [.v (.d (.sl (.int .i64))), .v (.d (.int .i64)), .v (.d .bool)], [], ladingref11_Owner.qs, fun x => ladingref11_Owner x.1 x.2⟩
noncomputable def ladingref11_Owner.env [Fuel] : Env := ⟨Try.prog, [(23, (.int .i64))], [], [], [7, 1000000], [], [], [], [44, 46, 50, 52], []⟩
noncomputable def ladingref11_Owner.an : An := .seq .no (.seq .no (.join ⟨[(7, .c (.v (.d (.int .i64))))], [], [(.int .i64)]⟩ [0] [] true (.seq .no (.one (.loop ⟨[(7, .c (.v (.d (.int .i64)))), (8, .c (.v (.d (.int .i64))))], [], [(.int .i64), (.int .i64)]⟩ [0, 1] [] (.seq (.seq .no (.cond .no .no)) (.seq (.one (.join ⟨[(37, .c (.v (.d .bool)))], [], [.bool]⟩ [0, 1, 7, 8] [] true .no (.cond .no .no))) .no))))) (.seq (.seq .no (.cond (.seq .no .no) .no)) (.seq .no .no))))
set_option maxRecDepth 100000 in
theorem ladingref11_Owner.run [Fuel] (x : Tup ladingref11_Owner.con.ps) : fnT ladingref11_Owner.env Try.f19 ladingref11_Owner.an ladingref11_Owner.con.ain ladingref11_Owner.con.kin ladingref11_Owner.con.hin ladingref11_Owner.con.ps ladingref11_Owner.con.out ladingref11_Owner.con.hout ladingref11_Owner.con.qs x = ladingref11_Owner.con.fn x := by kernel_rfl
theorem ladingref11_Owner.ok [Fuel] : ConOK Try.prog ladingref11_Owner.con := con_ok (E := ladingref11_Owner.env) (an := ladingref11_Owner.an) mixed Try.func19 (by kernel_rfl) (cons_nil) ladingref11_Owner.run
noncomputable abbrev ladingref11_Delegates.ps : List Ty := [(.sl GFactT), .str]
noncomputable abbrev ladingref11_Delegates.qs : List Ty := [(.sl (.int .i64)), (.int .i64), (.int .i64)]
noncomputable def ladingref11_Delegates.con [Fuel] : Con := ⟨20, [.c (.v (.d (.sl GFactT))), .c (.v (.d .str))], [], [], ladingref11_Delegates.ps, .tup [.v (.d (.sl (.int .i64))), .v (.d (.int .i64)), .v (.d (.int .i64))], [], ladingref11_Delegates.qs, fun x => ladingref11_Delegates x.1 x.2⟩
noncomputable def ladingref11_Delegates.env [Fuel] : Env := ⟨Try.prog, [(23, (.int .i64))], [], [], [7, 9, 1000000], [], [], [], [51, 53, 57, 59, 62, 64], []⟩
noncomputable def ladingref11_Delegates.an : An := .seq .no (.seq .no (.join ⟨[(7, .c (.v (.d (.int .i64))))], [], [(.int .i64)]⟩ [0] [] true (.seq .no (.one (.loop ⟨[(7, .c (.v (.d (.int .i64)))), (8, .c (.v (.d (.int .i64))))], [], [(.int .i64), (.int .i64)]⟩ [0, 1] [] (.seq (.seq .no (.cond .no .no)) (.seq (.one (.join ⟨[(7, .c (.v (.d (.int .i64))))], [], [(.int .i64)]⟩ [0, 1, 8] [] true (.join ⟨[(29, .c (.v (.d .bool)))], [], [.bool]⟩ [0, 1, 7, 8] [] true .no (.cond .no .no)) (.join ⟨[(44, .c (.v (.d .bool)))], [], [.bool]⟩ [0, 1, 7, 8] [] true .no (.cond .no .no)))) .no))))) (.seq (.seq .no (.cond (.seq .no .no) .no)) (.seq .no .no))))
set_option maxRecDepth 100000 in
theorem ladingref11_Delegates.run [Fuel] (x : Tup ladingref11_Delegates.con.ps) : fnT ladingref11_Delegates.env Try.f20 ladingref11_Delegates.an ladingref11_Delegates.con.ain ladingref11_Delegates.con.kin ladingref11_Delegates.con.hin ladingref11_Delegates.con.ps ladingref11_Delegates.con.out ladingref11_Delegates.con.hout ladingref11_Delegates.con.qs x = ladingref11_Delegates.con.fn x := by kernel_rfl
theorem ladingref11_Delegates.ok [Fuel] : ConOK Try.prog ladingref11_Delegates.con := con_ok (E := ladingref11_Delegates.env) (an := ladingref11_Delegates.an) mixed Try.func20 (by kernel_rfl) (cons_nil) ladingref11_Delegates.run
noncomputable abbrev ladingref11_right.ps : List Ty := [GFactT]
noncomputable abbrev ladingref11_right.qs : List Ty := [.bool]
noncomputable def ladingref11_right.con [Fuel] : Con := ⟨38, [.c (.a GFactT)], [], [], ladingref11_right.ps, .one (.v (.d .bool)), [], ladingref11_right.qs, fun x => ladingref11_right x⟩
noncomputable def ladingref11_right.env [Fuel] : Env := ⟨Try.prog, [], [], [], [6, 1000000], [], [], [], [14, 15, 21, 22, 33, 34, 38, 39], [12, 19, 30, 36]⟩
noncomputable def ladingref11_right.an : An := .seq .no (.join ⟨[], [], []⟩ [1] [1] false (.seq .no (.one (.loop ⟨[(3, .c (.v (.d (.int .i64))))], [], [(.int .i64)]⟩ [1] [1] (.seq (.seq .no (.cond .no .no)) (.seq (.one (.join ⟨[(42, .c (.v (.d .bool)))], [], [.bool]⟩ [1, 3] [1] true .no (.cond (.seq .no .no) .no))) .no))))) (.seq .no .no))
set_option maxRecDepth 100000 in
theorem ladingref11_right.run [Fuel] (x : Tup ladingref11_right.con.ps) : fnT ladingref11_right.env Try.f38 ladingref11_right.an ladingref11_right.con.ain ladingref11_right.con.kin ladingref11_right.con.hin ladingref11_right.con.ps ladingref11_right.con.out ladingref11_right.con.hout ladingref11_right.con.qs x = ladingref11_right.con.fn x := by kernel_rfl
theorem ladingref11_right.ok [Fuel] : ConOK Try.prog ladingref11_right.con := con_ok (E := ladingref11_right.env) (an := ladingref11_right.an) mixed Try.func38 (by kernel_rfl) (cons_nil) ladingref11_right.run
noncomputable abbrev ladingref11_May.ps : List Ty := [(.sl GFactT), (.sl (.int .i64)), GFactT, (.sl (.int .i64))]
noncomputable abbrev ladingref11_May.qs : List Ty := [(.int .i64)]
noncomputable def ladingref11_May.con [Fuel] : Con := ⟨26, [.c (.v (.d (.sl GFactT))), .c (.v (.d (.sl (.int .i64)))), .c (.a GFactT), .c (.v (.d (.sl (.int .i64))))], [], [], ladingref11_May.ps, .one (.v (.d (.int .i64))), [], ladingref11_May.qs, fun x => ladingref11_May x.1 x.2.1 x.2.2.1 x.2.2.2⟩
noncomputable def ladingref11_May.env [Fuel] : Env := ⟨Try.prog, [], [ladingref11_right.con, ladingref11_Count.con, ladingref11_Name.con, ladingref11_Owner.con, ladingref11_Delegates.con], [(38, 0), (51, 1), (56, 2), (57, 3), (76, 1), (82, 2), (83, 4), (103, 1)], [15, 1000000], [], [], [], [], []⟩
noncomputable def ladingref11_May.an : An := .seq .no (.seq (.join ⟨[(22, .c (.v (.d .bool)))], [], [.bool]⟩ [0, 1, 3, 6] [6] true .no (.cond (.seq .no .no) .no)) (.seq (.join ⟨[(40, .c (.v (.d .bool)))], [], [.bool]⟩ [0, 1, 3, 6] [6] true .no (.cond (.seq .no .no) .no)) (.seq (.join ⟨[(48, .c (.v (.d .bool)))], [], [.bool]⟩ [0, 1, 3, 6] [6] true .no (.cond (.seq (.seq .no (.cond (.seq .no .no) .no)) (.seq .no .no)) .no)) (.seq .no (.seq (.join ⟨[(67, .c (.v (.d .bool)))], [], [.bool]⟩ [0, 3, 6, 9, 10, 11] [6] true .no (.cond (.seq .no .no) .no)) (.join ⟨[(9, .c (.v (.d (.sl (.int .i64))))), (10, .c (.v (.d (.int .i64))))], [], [(.sl (.int .i64)), (.int .i64)]⟩ [0, 3, 6] [6] true (.seq .no (.cond (.seq .no .no) .no)) (.seq (.seq .no (.cond (.seq .no .no) .no)) (.seq .no (.seq (.join ⟨[(106, .c (.v (.d .bool)))], [], [.bool]⟩ [] [] true .no (.cond (.seq .no .no) .no)) (.seq .no .no))))))))))
set_option maxRecDepth 100000 in
theorem ladingref11_May.run [Fuel] (x : Tup ladingref11_May.con.ps) : fnT ladingref11_May.env Try.f26 ladingref11_May.an ladingref11_May.con.ain ladingref11_May.con.kin ladingref11_May.con.hin ladingref11_May.con.ps ladingref11_May.con.out ladingref11_May.con.hout ladingref11_May.con.qs x = ladingref11_May.con.fn x := by kernel_rfl
theorem ladingref11_May.ok [Fuel] : ConOK Try.prog ladingref11_May.con := con_ok (E := ladingref11_May.env) (an := ladingref11_May.an) mixed Try.func26 (by kernel_rfl) (cons_cons ladingref11_right.ok (cons_cons ladingref11_Count.ok (cons_cons ladingref11_Name.ok (cons_cons ladingref11_Owner.ok (cons_cons ladingref11_Delegates.ok (cons_nil)))))) ladingref11_May.run
noncomputable abbrev ladingref11_Admit.ps : List Ty := [(.sl GFactT), (.sl (.int .i64)), (.sl (.sl (.int .i64)))]
noncomputable abbrev ladingref11_Admit.qs : List Ty := [(.int .i64), (.int .i64)]
noncomputable def ladingref11_Admit.con [Fuel] : Con := ⟨21, [.c (.v (.d (.sl GFactT))), .c (.v (.d (.sl (.int .i64)))), .c (.v (.d (.sl (.sl (.int .i64)))))], [], [], ladingref11_Admit.ps, .tup [.v (.d (.int .i64)), .v (.d (.int .i64))], [], ladingref11_Admit.qs, fun x => ladingref11_Admit x.1 x.2.1 x.2.2⟩
noncomputable def ladingref11_Admit.env [Fuel] : Env := ⟨Try.prog, [], [ladingref11_May.con], [(34, 0)], [7], [], [], [], [27, 31, 32], []⟩
noncomputable def ladingref11_Admit.an : An := .seq .no (.seq (.seq .no (.one (.loop ⟨[(8, .c (.v (.d (.int .i64))))], [], [(.int .i64)]⟩ [0, 1, 2] [] (.seq (.seq .no (.cond .no .no)) (.seq (.one (.seq .no (.join ⟨[(9, .c (.v (.d (.sl (.int .i64)))))], [], [(.sl (.int .i64))]⟩ [0, 1, 2, 8] [] true (.seq .no (.cond .no .no)) (.seq .no (.seq .no (.cond (.seq .no .no) .no)))))) .no))))) (.seq .no .no))
set_option maxRecDepth 100000 in
theorem ladingref11_Admit.run [Fuel] (x : Tup ladingref11_Admit.con.ps) : fnT ladingref11_Admit.env Try.f21 ladingref11_Admit.an ladingref11_Admit.con.ain ladingref11_Admit.con.kin ladingref11_Admit.con.hin ladingref11_Admit.con.ps ladingref11_Admit.con.out ladingref11_Admit.con.hout ladingref11_Admit.con.qs x = ladingref11_Admit.con.fn x := by kernel_rfl
theorem ladingref11_Admit.ok [Fuel] : ConOK Try.prog ladingref11_Admit.con := con_ok (E := ladingref11_Admit.env) (an := ladingref11_Admit.an) mixed Try.func21 (by kernel_rfl) (cons_cons ladingref11_May.ok (cons_nil)) ladingref11_Admit.run
noncomputable abbrev ladingref11_Chain.ps : List Ty := [(.sl GFactT), .str]
noncomputable abbrev ladingref11_Chain.qs : List Ty := [(.sl (.int .i64))]
noncomputable def ladingref11_Chain.con [Fuel] : Con := ⟨25, [.c (.v (.d (.sl GFactT))), .c (.v (.d .str))], [], [], ladingref11_Chain.ps, .one (.v (.d (.sl (.int .i64)))), [], ladingref11_Chain.qs, fun x => ladingref11_Chain x.1 x.2⟩
noncomputable def ladingref11_Chain.env [Fuel] : Env := ⟨Try.prog, [(23, (.int .i64))], [], [], [1000000], [], [], [38], [], []⟩
noncomputable def ladingref11_Chain.an : An := .seq .no (.seq .no (.seq (.seq .no (.one (.loop ⟨[(5, .c (.v (.own 500002))), (6, .c (.v (.d (.int .i64))))], [(500002, .arr 3 (.int .i64))], [(.int .i64), (.sl (.int .i64))]⟩ [0, 1] [] (.seq (.seq .no (.cond .no .no)) (.seq (.one (.join ⟨[(35, .c (.v (.d .bool)))], [], [.bool]⟩ [0, 1, 5, 6] [500002] true .no (.cond .no .no))) .no))))) (.seq .no .no)))
set_option maxRecDepth 100000 in
theorem ladingref11_Chain.run [Fuel] (x : Tup ladingref11_Chain.con.ps) : fnT ladingref11_Chain.env Try.f25 ladingref11_Chain.an ladingref11_Chain.con.ain ladingref11_Chain.con.kin ladingref11_Chain.con.hin ladingref11_Chain.con.ps ladingref11_Chain.con.out ladingref11_Chain.con.hout ladingref11_Chain.con.qs x = ladingref11_Chain.con.fn x := by kernel_rfl
theorem ladingref11_Chain.ok [Fuel] : ConOK Try.prog ladingref11_Chain.con := con_ok (E := ladingref11_Chain.env) (an := ladingref11_Chain.an) mixed Try.func25 (by kernel_rfl) (cons_nil) ladingref11_Chain.run
noncomputable abbrev ladingref11_Walk.ps : List Ty := [(.sl GFactT), .str, (.sl (.int .i64))]
noncomputable abbrev ladingref11_Walk.qs : List Ty := [(.sl (.int .i64)), (.int .i64), (.int .i64)]
noncomputable def ladingref11_Walk.con [Fuel] : Con := ⟨23, [.c (.v (.d (.sl GFactT))), .c (.v (.d .str)), .c (.v (.d (.sl (.int .i64))))], [], [], ladingref11_Walk.ps, .tup [.v (.d (.sl (.int .i64))), .v (.d (.int .i64)), .v (.d (.int .i64))], [], ladingref11_Walk.qs, fun x => ladingref11_Walk x.1 x.2.1 x.2.2⟩
noncomputable def ladingref11_Walk.env [Fuel] : Env := ⟨Try.prog, [], [ladingref11_Chain.con, ladingref11_Ints.con, ladingref11_Owner.con], [(15, 0), (16, 1), (21, 2)], [], [], [], [], [], []⟩
noncomputable def ladingref11_Walk.an : An := .seq .no (.seq (.seq .no (.cond (.seq .no .no) .no)) (.seq .no (.seq (.seq .no (.cond (.seq .no .no) .no)) (.seq .no .no))))
set_option maxRecDepth 100000 in
theorem ladingref11_Walk.run [Fuel] (x : Tup ladingref11_Walk.con.ps) : fnT ladingref11_Walk.env Try.f23 ladingref11_Walk.an ladingref11_Walk.con.ain ladingref11_Walk.con.kin ladingref11_Walk.con.hin ladingref11_Walk.con.ps ladingref11_Walk.con.out ladingref11_Walk.con.hout ladingref11_Walk.con.qs x = ladingref11_Walk.con.fn x := by kernel_rfl
theorem ladingref11_Walk.ok [Fuel] : ConOK Try.prog ladingref11_Walk.con := con_ok (E := ladingref11_Walk.env) (an := ladingref11_Walk.an) mixed Try.func23 (by kernel_rfl) (cons_cons ladingref11_Chain.ok (cons_cons ladingref11_Ints.ok (cons_cons ladingref11_Owner.ok (cons_nil)))) ladingref11_Walk.run
noncomputable abbrev ladinglaw11_KeysTells.ps : List Ty := [(.sl GFactT), (.sl (.int .i64)), (.sl (.sl (.int .i64))), GFactT, (.sl (.int .i64)), .str, (.sl (.int .i64))]
noncomputable abbrev ladinglaw11_KeysTells.qs : List Ty := [.bool]
noncomputable def ladinglaw11_KeysTells.con [Fuel] : Con := ⟨6, [.c (.v (.d (.sl GFactT))), .c (.v (.d (.sl (.int .i64)))), .c (.v (.d (.sl (.sl (.int .i64))))), .c (.a GFactT), .c (.v (.d (.sl (.int .i64)))), .c (.v (.d .str)), .c (.v (.d (.sl (.int .i64))))], [], [], ladinglaw11_KeysTells.ps, .one (.v (.d .bool)), [], ladinglaw11_KeysTells.qs, fun x => ladinglaw11_KeysTells x.1 x.2.1 x.2.2.1 x.2.2.2.1 x.2.2.2.2.1 x.2.2.2.2.2.1 x.2.2.2.2.2.2⟩
noncomputable def ladinglaw11_KeysTells.env [Fuel] : Env := ⟨Try.prog, [(22, GFactT), (24, (.sl (.int .i64)))], [ladinglaw11_small.con, ladingref11_Few.con, keys_Owner.con, ladingref11_Owner.con, keys_Delegates.con, ladingref11_Delegates.con, ladingref11_Ints.con, keys_Admit.con, ladingref11_Admit.con, keys_Walk.con, ladingref11_Walk.con, keys_Chain.con, ladingref11_Chain.con, keys_May.con, ladingref11_May.con], [(42, 0), (53, 1), (64, 2), (71, 3), (78, 4), (85, 5), (91, 6), (106, 6), (123, 7), (130, 8), (137, 9), (145, 10), (151, 11), (157, 12), (158, 9), (173, 6), (190, 12), (191, 6), (200, 13), (205, 14), (211, 6)], [1000000], [], [], [], [], [198, 203]⟩
noncomputable def ladinglaw11_KeysTells.an : An := .seq .no (.seq .no (.seq (.join ⟨[(59, .c (.v (.d .bool)))], [], [.bool]⟩ [0, 1, 2, 4, 5, 6, 10, 15] [10] true .no (.cond (.seq .no .no) .no)) (.seq .no (.seq .no (.seq .no (.seq .no (.seq (.join ⟨[(118, .c (.v (.d .bool)))], [], [.bool]⟩ [0, 1, 2, 4, 5, 6, 10, 15, 19, 20, 21] [10] true .no (.cond (.seq .no .no) .no)) (.seq .no (.seq .no (.seq .no (.seq .no (.seq .no (.seq .no (.seq (.join ⟨[(193, .c (.v (.d .bool)))], [], [.bool]⟩ [0, 1, 4, 10, 15, 19, 20, 21, 39, 40, 41] [10] true .no (.cond (.seq .no .no) .no)) (.seq .no .no)))))))))))))))
set_option maxRecDepth 100000 in
theorem ladinglaw11_KeysTells.run [Fuel] (x : Tup ladinglaw11_KeysTells.con.ps) : fnT ladinglaw11_KeysTells.env Try.f6 ladinglaw11_KeysTells.an ladinglaw11_KeysTells.con.ain ladinglaw11_KeysTells.con.kin ladinglaw11_KeysTells.con.hin ladinglaw11_KeysTells.con.ps ladinglaw11_KeysTells.con.out ladinglaw11_KeysTells.con.hout ladinglaw11_KeysTells.con.qs x = ladinglaw11_KeysTells.con.fn x := by kernel_rfl
theorem ladinglaw11_KeysTells.ok [Fuel] : ConOK Try.prog ladinglaw11_KeysTells.con := con_ok (E := ladinglaw11_KeysTells.env) (an := ladinglaw11_KeysTells.an) mixed Try.func6 (by kernel_rfl) (cons_cons ladinglaw11_small.ok (cons_cons ladingref11_Few.ok (cons_cons keys_Owner.ok (cons_cons ladingref11_Owner.ok (cons_cons keys_Delegates.ok (cons_cons ladingref11_Delegates.ok (cons_cons ladingref11_Ints.ok (cons_cons keys_Admit.ok (cons_cons ladingref11_Admit.ok (cons_cons keys_Walk.ok (cons_cons ladingref11_Walk.ok (cons_cons keys_Chain.ok (cons_cons ladingref11_Chain.ok (cons_cons keys_May.ok (cons_cons ladingref11_May.ok (cons_nil)))))))))))))))) ladinglaw11_KeysTells.run
end Go.Proofs.Ytnbkjaoehkmcpaa
