/-
  The code is they.
-/
import Derived.Test.YtnkpnfmmlkjofaaOModel
import Derived.Test.YtnkpnfmmlkjofaaD12
import Derived.Test.YtnkpnfmmlkjofaaSh
namespace Go.Proofs.Ytnkpnfmmlkjofaa
open Go.Lad
set_option linter.unusedVariables false
theorem mixed : Try.prog.follows .mixedOrders = true := by kernel_rfl
noncomputable def GSealedT : Ty := (.pair (.int .i64) .str)
noncomputable def GSignedT : Ty := (.pair (.int .i64) (.pair .str (.int .i64)))
noncomputable abbrev seal_New.ps : List Ty := []
noncomputable abbrev seal_New.qs : List Ty := [(.sl GSealedT), (.sl (.pair GSealedT (.int .i64)))]
noncomputable def seal_New.con [Fuel] : Con := ⟨8, [], [], [], seal_New.ps, .one (.v (.loc 0 0)), [(0, .box 48 [.own 1, .mp 2]), (1, .arr 32 GSealedT), (2, .mapQ .i64 false (.int .i64))], seal_New.qs, fun x => seal_New⟩
noncomputable def seal_New.env [Fuel] : Env := ⟨Try.prog, [(46, (.int .i64))], [], [], [], [], [], [], [], []⟩
noncomputable def seal_New.an : An := .seq .no (.seq .no .no)
set_option maxRecDepth 100000 in
theorem seal_New.run [Fuel] (x : Tup seal_New.con.ps) : fnT seal_New.env Try.f8 seal_New.an seal_New.con.ain seal_New.con.kin seal_New.con.hin seal_New.con.ps seal_New.con.out seal_New.con.hout seal_New.con.qs x = seal_New.con.fn x := by kernel_rfl
theorem seal_New.ok [Fuel] : ConOK Try.prog seal_New.con := con_ok (E := seal_New.env) (an := seal_New.an) mixed Try.func8 (by kernel_rfl) (cons_nil) seal_New.run
noncomputable abbrev seal_key.ps : List Ty := [(.int .i64)]
noncomputable abbrev seal_key.qs : List Ty := [.bool]
noncomputable def seal_key.con [Fuel] : Con := ⟨21, [.c (.v (.d (.int .i64)))], [], [], seal_key.ps, .one (.v (.d .bool)), [], seal_key.qs, fun x => seal_key x⟩
noncomputable def seal_key.env [Fuel] : Env := ⟨Try.prog, [], [], [], [], [], [], [], [], []⟩
noncomputable def seal_key.an : An := .seq .no (.seq .no .no)
set_option maxRecDepth 100000 in
theorem seal_key.run [Fuel] (x : Tup seal_key.con.ps) : fnT seal_key.env Try.f21 seal_key.an seal_key.con.ain seal_key.con.kin seal_key.con.hin seal_key.con.ps seal_key.con.out seal_key.con.hout seal_key.con.qs x = seal_key.con.fn x := by kernel_rfl
theorem seal_key.ok [Fuel] : ConOK Try.prog seal_key.con := con_ok (E := seal_key.env) (an := seal_key.an) mixed Try.func21 (by kernel_rfl) (cons_nil) seal_key.run
noncomputable abbrev seal_Ring_Sign.ps : List Ty := [(.int .i64), .str, (.sl GSealedT), (.sl (.pair GSealedT (.int .i64)))]
noncomputable abbrev seal_Ring_Sign.qs : List Ty := [GSignedT, (.sl GSealedT), (.sl (.pair GSealedT (.int .i64)))]
noncomputable def seal_Ring_Sign.con [Fuel] : Con := ⟨10, [.c (.v (.loc 1000000 0)), .c (.v (.d (.int .i64))), .c (.v (.d .str))], [], [(1000000, .box 48 [.own 1000001, .mp 1000002]), (1000001, .arr 32 GSealedT), (1000002, .mapQ .i64 false (.int .i64))], seal_Ring_Sign.ps, .one (.a GSignedT), [(1000000, .box 48 [.own 0, .mp 1000002]), (0, .arr 32 GSealedT), (1000001, .gone), (1000002, .mapQ .i64 false (.int .i64))], seal_Ring_Sign.qs, fun x => seal_Ring_Sign x.1 x.2.1 x.2.2.1 x.2.2.2⟩
noncomputable def seal_Ring_Sign.env [Fuel] : Env := ⟨Try.prog, [(22, GSealedT)], [seal_key.con], [(11, 0)], [], [], [], [39], [], [21, 22, 37, 38, 46, 47]⟩
noncomputable def seal_Ring_Sign.an : An := .seq .no (.seq (.seq .no (.cond (.seq .no .no) .no)) (.seq .no (.seq .no (.seq (.seq .no (.cond (.seq .no (.seq .no .no)) .no)) (.seq .no .no)))))
set_option maxRecDepth 100000 in
theorem seal_Ring_Sign.run [Fuel] (x : Tup seal_Ring_Sign.con.ps) : fnT seal_Ring_Sign.env Try.f10 seal_Ring_Sign.an seal_Ring_Sign.con.ain seal_Ring_Sign.con.kin seal_Ring_Sign.con.hin seal_Ring_Sign.con.ps seal_Ring_Sign.con.out seal_Ring_Sign.con.hout seal_Ring_Sign.con.qs x = seal_Ring_Sign.con.fn x := by kernel_rfl
theorem seal_Ring_Sign.ok [Fuel] : ConOK Try.prog seal_Ring_Sign.con := con_ok (E := seal_Ring_Sign.env) (an := seal_Ring_Sign.an) mixed Try.func10 (by kernel_rfl) (cons_cons seal_key.ok (cons_nil)) seal_Ring_Sign.run
noncomputable abbrev seal_Ring_Valid.ps : List Ty := [GSignedT, (.sl GSealedT), (.sl (.pair GSealedT (.int .i64)))]
noncomputable abbrev seal_Ring_Valid.qs : List Ty := [.bool]
noncomputable def seal_Ring_Valid.con [Fuel] : Con := ⟨11, [.c (.v (.loc 1000000 0)), .c (.a GSignedT)], [(1000000, .box 48 [.own 1000001, .mp 1000002]), (1000001, .arr 32 GSealedT), (1000002, .mapQ .i64 false (.int .i64))], [], seal_Ring_Valid.ps, .one (.v (.d .bool)), [], seal_Ring_Valid.qs, fun x => seal_Ring_Valid x.1 x.2.1 x.2.2⟩
noncomputable def seal_Ring_Valid.env [Fuel] : Env := ⟨Try.prog, [], [], [], [], [], [], [], [], [11, 13, 15]⟩
noncomputable def seal_Ring_Valid.an : An := .seq .no (.seq .no (.seq .no .no))
set_option maxRecDepth 100000 in
theorem seal_Ring_Valid.run [Fuel] (x : Tup seal_Ring_Valid.con.ps) : fnT seal_Ring_Valid.env Try.f11 seal_Ring_Valid.an seal_Ring_Valid.con.ain seal_Ring_Valid.con.kin seal_Ring_Valid.con.hin seal_Ring_Valid.con.ps seal_Ring_Valid.con.out seal_Ring_Valid.con.hout seal_Ring_Valid.con.qs x = seal_Ring_Valid.con.fn x := by kernel_rfl
theorem seal_Ring_Valid.ok [Fuel] : ConOK Try.prog seal_Ring_Valid.con := con_ok (E := seal_Ring_Valid.env) (an := seal_Ring_Valid.an) mixed Try.func11 (by kernel_rfl) (cons_nil) seal_Ring_Valid.run
noncomputable abbrev slices_Clone_api_Sealed_api_Sealed.ps : List Ty := [(.sl GSealedT)]
noncomputable abbrev slices_Clone_api_Sealed_api_Sealed.qs : List Ty := [(.sl GSealedT)]
noncomputable def slices_Clone_api_Sealed_api_Sealed.con [Fuel] : Con := ⟨22, [.c (.v (.d (.sl GSealedT)))], [], [], slices_Clone_api_Sealed_api_Sealed.ps, .one (.v (.own 0)), [(0, .arr 32 GSealedT)], slices_Clone_api_Sealed_api_Sealed.qs, fun x => slices_Clone_api_Sealed_api_Sealed x⟩
noncomputable def slices_Clone_api_Sealed_api_Sealed.env [Fuel] : Env := ⟨Try.prog, [(22, GSealedT)], [], [], [], [], [], [], [], []⟩
noncomputable def slices_Clone_api_Sealed_api_Sealed.an : An := .seq .no (.seq (.seq .no (.cond (.seq .no .no) .no)) (.seq .no .no))
set_option maxRecDepth 100000 in
theorem slices_Clone_api_Sealed_api_Sealed.run [Fuel] (x : Tup slices_Clone_api_Sealed_api_Sealed.con.ps) : fnT slices_Clone_api_Sealed_api_Sealed.env Try.f22 slices_Clone_api_Sealed_api_Sealed.an slices_Clone_api_Sealed_api_Sealed.con.ain slices_Clone_api_Sealed_api_Sealed.con.kin slices_Clone_api_Sealed_api_Sealed.con.hin slices_Clone_api_Sealed_api_Sealed.con.ps slices_Clone_api_Sealed_api_Sealed.con.out slices_Clone_api_Sealed_api_Sealed.con.hout slices_Clone_api_Sealed_api_Sealed.con.qs x = slices_Clone_api_Sealed_api_Sealed.con.fn x := by kernel_rfl
theorem slices_Clone_api_Sealed_api_Sealed.ok [Fuel] : ConOK Try.prog slices_Clone_api_Sealed_api_Sealed.con := con_ok (E := slices_Clone_api_Sealed_api_Sealed.env) (an := slices_Clone_api_Sealed_api_Sealed.an) mixed Try.func22 (by kernel_rfl) (cons_nil) slices_Clone_api_Sealed_api_Sealed.run
noncomputable abbrev seal_Ring_All.ps : List Ty := [(.sl GSealedT), (.sl (.pair GSealedT (.int .i64)))]
noncomputable abbrev seal_Ring_All.qs : List Ty := [(.sl GSealedT)]
noncomputable def seal_Ring_All.con [Fuel] : Con := ⟨13, [.c (.v (.loc 1000000 0))], [(1000000, .box 48 [.own 1000001, .mp 1000002]), (1000001, .arr 32 GSealedT), (1000002, .mapQ .i64 false (.int .i64))], [], seal_Ring_All.ps, .one (.v (.d (.sl GSealedT))), [], seal_Ring_All.qs, fun x => seal_Ring_All x.1 x.2⟩
noncomputable def seal_Ring_All.env [Fuel] : Env := ⟨Try.prog, [], [slices_Clone_api_Sealed_api_Sealed.con], [(7, 0)], [], [], [], [], [], []⟩
noncomputable def seal_Ring_All.an : An := .seq .no (.seq .no .no)
set_option maxRecDepth 100000 in
theorem seal_Ring_All.run [Fuel] (x : Tup seal_Ring_All.con.ps) : fnT seal_Ring_All.env Try.f13 seal_Ring_All.an seal_Ring_All.con.ain seal_Ring_All.con.kin seal_Ring_All.con.hin seal_Ring_All.con.ps seal_Ring_All.con.out seal_Ring_All.con.hout seal_Ring_All.con.qs x = seal_Ring_All.con.fn x := by kernel_rfl
theorem seal_Ring_All.ok [Fuel] : ConOK Try.prog seal_Ring_All.con := con_ok (E := seal_Ring_All.env) (an := seal_Ring_All.an) mixed Try.func13 (by kernel_rfl) (cons_cons slices_Clone_api_Sealed_api_Sealed.ok (cons_nil)) seal_Ring_All.run
noncomputable abbrev ladinglaw05_small.ps : List Ty := []
noncomputable abbrev ladinglaw05_small.qs : List Ty := [.bool]
noncomputable def ladinglaw05_small.con [Fuel] : Con := ⟨7, [], [], [], ladinglaw05_small.ps, .one (.v (.d .bool)), [], ladinglaw05_small.qs, fun x => ladinglaw05_small⟩
noncomputable def ladinglaw05_small.env [Fuel] : Env := ⟨Try.prog, [], [seal_New.con, seal_Ring_Sign.con, seal_Ring_Valid.con, seal_Ring_All.con], [(7, 0), (11, 1), (13, 1), (15, 1), (17, 1), (40, 2), (45, 2), (51, 2), (56, 3)], [9], [11, 13, 15, 17, 40, 45, 51, 56], [], [], [], []⟩
noncomputable def ladinglaw05_small.an : An := .seq .no (.seq .no (.seq (.seq .no (.cond (.seq .no .no) .no)) (.seq .no (.seq .no (.seq .no (.seq .no (.join ⟨[(6, .c (.v (.d .bool)))], [], [.bool]⟩ [1, 2] [2, 7, 17, 20007] true .no (.seq .no .no))))))))
set_option maxRecDepth 100000 in
theorem ladinglaw05_small.run [Fuel] (x : Tup ladinglaw05_small.con.ps) : fnT ladinglaw05_small.env Try.f7 ladinglaw05_small.an ladinglaw05_small.con.ain ladinglaw05_small.con.kin ladinglaw05_small.con.hin ladinglaw05_small.con.ps ladinglaw05_small.con.out ladinglaw05_small.con.hout ladinglaw05_small.con.qs x = ladinglaw05_small.con.fn x := by kernel_rfl
theorem ladinglaw05_small.ok [Fuel] : ConOK Try.prog ladinglaw05_small.con := con_ok (E := ladinglaw05_small.env) (an := ladinglaw05_small.an) mixed Try.func7 (by kernel_rfl) (cons_cons seal_New.ok (cons_cons seal_Ring_Sign.ok (cons_cons seal_Ring_Valid.ok (cons_cons seal_Ring_All.ok (cons_nil))))) ladinglaw05_small.run
noncomputable abbrev ladingref05_Few.ps : List Ty := [(.sl GSealedT), (.int .i64)]
noncomputable abbrev ladingref05_Few.qs : List Ty := [.bool]
noncomputable def ladingref05_Few.con [Fuel] : Con := ⟨9, [.c (.v (.d (.sl GSealedT))), .c (.v (.d (.int .i64)))], [], [], ladingref05_Few.ps, .one (.v (.d .bool)), [], ladingref05_Few.qs, fun x => ladingref05_Few x.1 x.2⟩
noncomputable def ladingref05_Few.env [Fuel] : Env := ⟨Try.prog, [], [], [], [1000000], [], [], [], [], []⟩
noncomputable def ladingref05_Few.an : An := .seq .no (.seq (.seq .no (.one (.loop ⟨[(5, .c (.v (.d (.int .i64))))], [], [(.int .i64)]⟩ [0, 1] [] (.seq (.join ⟨[(14, .c (.v (.d .bool)))], [], [.bool]⟩ [0, 1, 5] [] true .no (.cond .no .no)) (.seq (.one (.seq .no (.cond (.seq .no .no) .no))) .no))))) (.seq .no .no))
set_option maxRecDepth 100000 in
theorem ladingref05_Few.run [Fuel] (x : Tup ladingref05_Few.con.ps) : fnT ladingref05_Few.env Try.f9 ladingref05_Few.an ladingref05_Few.con.ain ladingref05_Few.con.kin ladingref05_Few.con.hin ladingref05_Few.con.ps ladingref05_Few.con.out ladingref05_Few.con.hout ladingref05_Few.con.qs x = ladingref05_Few.con.fn x := by kernel_rfl
theorem ladingref05_Few.ok [Fuel] : ConOK Try.prog ladingref05_Few.con := con_ok (E := ladingref05_Few.env) (an := ladingref05_Few.an) mixed Try.func9 (by kernel_rfl) (cons_nil) ladingref05_Few.run
noncomputable abbrev seal_Open.ps : List Ty := [(.sl GSealedT)]
noncomputable abbrev seal_Open.qs : List Ty := [(.int .i64), (.sl GSealedT), (.sl (.pair GSealedT (.int .i64)))]
noncomputable def seal_Open.con [Fuel] : Con := ⟨17, [.c (.v (.d (.sl GSealedT)))], [], [], seal_Open.ps, .tup [.v (.loc 0 0), .v (.d (.int .i64))], [(0, .box 48 [.own 1, .mp 2]), (1, .arr 32 GSealedT), (2, .mapQ .i64 false (.int .i64))], seal_Open.qs, fun x => seal_Open x⟩
noncomputable def seal_Open.env [Fuel] : Env := ⟨Try.prog, [], [seal_New.con, seal_key.con, seal_Ring_Sign.con], [(7, 0), (16, 1), (23, 2)], [9], [23], [], [], [], []⟩
noncomputable def seal_Open.an : An := .seq .no (.seq .no (.join ⟨[(4, .c (.v (.loc 500004 0)))], [(500004, .box 48 [.own 500005, .mp 500006]), (500005, .arr 32 GSealedT), (500006, .mapQ .i64 false (.int .i64))], [(.sl GSealedT), (.sl (.pair GSealedT (.int .i64)))]⟩ [0] [] false (.seq .no (.one (.loop ⟨[(4, .c (.v (.loc 500007 0))), (10, .c (.v (.d (.int .i64))))], [(500007, .box 48 [.own 500008, .mp 500009]), (500008, .arr 32 GSealedT), (500009, .mapQ .i64 false (.int .i64))], [(.int .i64), (.sl GSealedT), (.sl (.pair GSealedT (.int .i64)))]⟩ [0, 8, 9] [] (.seq .no (.seq (.cond .no .no) (.seq (.one (.seq .no (.seq (.seq .no (.cond (.seq .no .no) .no)) .no))) .no)))))) (.seq (.seq .no (.cond (.seq .no .no) .no)) (.seq .no .no))))
set_option maxRecDepth 100000 in
theorem seal_Open.run [Fuel] (x : Tup seal_Open.con.ps) : fnT seal_Open.env Try.f17 seal_Open.an seal_Open.con.ain seal_Open.con.kin seal_Open.con.hin seal_Open.con.ps seal_Open.con.out seal_Open.con.hout seal_Open.con.qs x = seal_Open.con.fn x := by kernel_rfl
theorem seal_Open.ok [Fuel] : ConOK Try.prog seal_Open.con := con_ok (E := seal_Open.env) (an := seal_Open.an) mixed Try.func17 (by kernel_rfl) (cons_cons seal_New.ok (cons_cons seal_key.ok (cons_cons seal_Ring_Sign.ok (cons_nil)))) seal_Open.run
noncomputable abbrev ladingref05_Same.ps : List Ty := [(.sl GSealedT), (.sl GSealedT)]
noncomputable abbrev ladingref05_Same.qs : List Ty := [.bool]
noncomputable def ladingref05_Same.con [Fuel] : Con := ⟨12, [.c (.v (.d (.sl GSealedT))), .c (.v (.d (.sl GSealedT)))], [], [], ladingref05_Same.ps, .one (.v (.d .bool)), [], ladingref05_Same.qs, fun x => ladingref05_Same x.1 x.2⟩
noncomputable def ladingref05_Same.env [Fuel] : Env := ⟨Try.prog, [], [], [], [], [], [], [], [19, 20, 23, 24], []⟩
noncomputable def ladingref05_Same.an : An := .seq .no (.seq (.seq .no (.cond (.seq .no .no) .no)) (.seq (.seq .no (.one (.loop ⟨[(5, .c (.v (.d (.int .i64))))], [], [(.int .i64)]⟩ [0, 1] [] (.seq (.seq .no (.cond .no .no)) (.seq (.one (.seq .no (.cond (.seq .no .no) .no))) .no))))) (.seq .no .no)))
set_option maxRecDepth 100000 in
theorem ladingref05_Same.run [Fuel] (x : Tup ladingref05_Same.con.ps) : fnT ladingref05_Same.env Try.f12 ladingref05_Same.an ladingref05_Same.con.ain ladingref05_Same.con.kin ladingref05_Same.con.hin ladingref05_Same.con.ps ladingref05_Same.con.out ladingref05_Same.con.hout ladingref05_Same.con.qs x = ladingref05_Same.con.fn x := by kernel_rfl
theorem ladingref05_Same.ok [Fuel] : ConOK Try.prog ladingref05_Same.con := con_ok (E := ladingref05_Same.env) (an := ladingref05_Same.an) mixed Try.func12 (by kernel_rfl) (cons_nil) ladingref05_Same.run
noncomputable abbrev seal_Open_v2.ps : List Ty := [(.sl GSealedT)]
noncomputable abbrev seal_Open_v2.qs : List Ty := [(.int .i64)]
noncomputable def seal_Open_v2.con [Fuel] : Con := ⟨17, [.c (.v (.d (.sl GSealedT)))], [], [], seal_Open_v2.ps, .tup [.v (.pn), .v (.d (.int .i64))], [], seal_Open_v2.qs, fun x => seal_Open_v2 x⟩
noncomputable def seal_Open_v2.env [Fuel] : Env := ⟨Try.prog, [], [seal_New.con, seal_key.con, seal_Ring_Sign.con], [(7, 0), (16, 1), (23, 2)], [9], [23], [], [], [], []⟩
noncomputable def seal_Open_v2.an : An := .seq .no (.seq .no (.join ⟨[(4, .c (.v (.loc 500004 0)))], [(500004, .box 48 [.own 500005, .mp 500006]), (500005, .arr 32 GSealedT), (500006, .mapQ .i64 false (.int .i64))], [(.sl GSealedT), (.sl (.pair GSealedT (.int .i64)))]⟩ [0] [] false (.seq .no (.one (.loop ⟨[(4, .c (.v (.loc 500007 0))), (10, .c (.v (.d (.int .i64))))], [(500007, .box 48 [.own 500008, .mp 500009]), (500008, .arr 32 GSealedT), (500009, .mapQ .i64 false (.int .i64))], [(.int .i64), (.sl GSealedT), (.sl (.pair GSealedT (.int .i64)))]⟩ [0, 8, 9] [] (.seq .no (.seq (.cond .no .no) (.seq (.one (.seq .no (.seq (.seq .no (.cond (.seq .no .no) .no)) .no))) .no)))))) (.seq (.seq .no (.cond (.seq .no .no) .no)) (.seq .no .no))))
set_option maxRecDepth 100000 in
theorem seal_Open_v2.run [Fuel] (x : Tup seal_Open_v2.con.ps) : fnT seal_Open_v2.env Try.f17 seal_Open_v2.an seal_Open_v2.con.ain seal_Open_v2.con.kin seal_Open_v2.con.hin seal_Open_v2.con.ps seal_Open_v2.con.out seal_Open_v2.con.hout seal_Open_v2.con.qs x = seal_Open_v2.con.fn x := by kernel_rfl
theorem seal_Open_v2.ok [Fuel] : ConOK Try.prog seal_Open_v2.con := con_ok (E := seal_Open_v2.env) (an := seal_Open_v2.an) mixed Try.func17 (by kernel_rfl) (cons_cons seal_New.ok (cons_cons seal_key.ok (cons_cons seal_Ring_Sign.ok (cons_nil)))) seal_Open_v2.run
noncomputable def maps_Clone.con [Fuel] : Con := cloneCon 24 .i64 false (.int .i64)
theorem maps_Clone.ok [Fuel] : ConOK Try.prog maps_Clone.con := clone_con (by kernel_rfl) Go.Proofs.Try.maps_Clone_24
noncomputable abbrev seal_Ring_Copy.ps : List Ty := [(.sl GSealedT), (.sl (.pair GSealedT (.int .i64)))]
noncomputable abbrev seal_Ring_Copy.qs : List Ty := [(.sl GSealedT), (.sl (.pair GSealedT (.int .i64)))]
noncomputable def seal_Ring_Copy.con [Fuel] : Con := ⟨20, [.c (.v (.loc 1000000 0))], [(1000000, .box 48 [.own 1000001, .mp 1000002]), (1000001, .arr 32 GSealedT), (1000002, .mapQ .i64 false (.int .i64))], [], seal_Ring_Copy.ps, .one (.v (.loc 0 0)), [(0, .box 48 [.own 1, .mp 2]), (1, .arr 32 GSealedT), (2, .mapQ .i64 false (.int .i64))], seal_Ring_Copy.qs, fun x => seal_Ring_Copy x.1 x.2⟩
noncomputable def seal_Ring_Copy.env [Fuel] : Env := ⟨Try.prog, [], [slices_Clone_api_Sealed_api_Sealed.con, maps_Clone.con], [(7, 0), (12, 1)], [], [12], [], [], [], [6, 11]⟩
noncomputable def seal_Ring_Copy.an : An := .seq .no (.seq .no .no)
set_option maxRecDepth 100000 in
theorem seal_Ring_Copy.run [Fuel] (x : Tup seal_Ring_Copy.con.ps) : fnT seal_Ring_Copy.env Try.f20 seal_Ring_Copy.an seal_Ring_Copy.con.ain seal_Ring_Copy.con.kin seal_Ring_Copy.con.hin seal_Ring_Copy.con.ps seal_Ring_Copy.con.out seal_Ring_Copy.con.hout seal_Ring_Copy.con.qs x = seal_Ring_Copy.con.fn x := by kernel_rfl
theorem seal_Ring_Copy.ok [Fuel] : ConOK Try.prog seal_Ring_Copy.con := con_ok (E := seal_Ring_Copy.env) (an := seal_Ring_Copy.an) mixed Try.func20 (by kernel_rfl) (cons_cons slices_Clone_api_Sealed_api_Sealed.ok (cons_cons maps_Clone.ok (cons_nil))) seal_Ring_Copy.run
noncomputable abbrev ladinglaw05_SealOpens.ps : List Ty := [(.sl GSealedT), GSealedT]
noncomputable abbrev ladinglaw05_SealOpens.qs : List Ty := [.bool]
noncomputable def ladinglaw05_SealOpens.con [Fuel] : Con := ⟨6, [.c (.v (.d (.sl GSealedT))), .c (.a GSealedT)], [], [], ladinglaw05_SealOpens.ps, .one (.v (.d .bool)), [], ladinglaw05_SealOpens.qs, fun x => ladinglaw05_SealOpens x.1 x.2⟩
noncomputable def ladinglaw05_SealOpens.env [Fuel] : Env := ⟨Try.prog, [(22, GSealedT), (29, GSignedT)], [ladinglaw05_small.con, seal_New.con, ladingref05_Few.con, seal_Ring_Sign.con, seal_Ring_All.con, seal_Open.con, ladingref05_Same.con, seal_Ring_Valid.con, seal_Open_v2.con, seal_Ring_Copy.con], [(21, 0), (22, 1), (24, 2), (58, 3), (78, 4), (81, 5), (91, 4), (93, 6), (106, 7), (123, 8), (136, 8), (154, 9), (158, 4), (165, 3), (167, 4), (169, 4), (175, 4), (177, 6), (184, 3), (188, 4), (190, 6)], [12, 23, 28, 1000000], [58, 78, 91, 106, 154, 158, 165, 167, 169, 175, 184, 188], [], [75, 121, 134], [50, 52, 55, 57, 117, 119, 120, 131, 132], []⟩
noncomputable def ladinglaw05_SealOpens.an : An := .seq .no (.seq .no (.seq .no (.seq (.join ⟨[(35, .c (.v (.d .bool)))], [], [.bool]⟩ [0, 3, 5, 6] [3, 22, 10022, 20022] true .no (.cond (.seq .no .no) .no)) (.seq .no (.join ⟨[(6, .c (.v (.loc 500013 0))), (7, .c (.v (.own 500014)))], [(500013, .box 48 [.own 500015, .mp 500016]), (500014, .arr 24 GSignedT), (500015, .arr 32 GSealedT), (500016, .mapQ .i64 false (.int .i64))], [(.sl GSignedT), (.sl GSealedT), (.sl (.pair GSealedT (.int .i64)))]⟩ [3, 5] [3] true (.seq .no (.one (.loop ⟨[(6, .c (.v (.loc 500025 0))), (7, .c (.v (.own 500026))), (8, .c (.v (.d (.int .i64))))], [(500025, .box 48 [.own 500027, .mp 500028]), (500026, .arr 24 GSignedT), (500027, .arr 32 GSealedT), (500028, .mapQ .i64 false (.int .i64))], [(.int .i64), (.sl GSignedT), (.sl GSealedT), (.sl (.pair GSealedT (.int .i64)))]⟩ [0, 3, 5] [3] (.seq (.seq .no (.cond .no .no)) (.seq (.one (.seq .no (.join ⟨[(72, .c (.v (.d .bool)))], [], [.bool]⟩ [0, 3, 5, 6, 7, 8, 9] [3, 9, 58, 500025, 500026, 500028] true .no (.cond .no .no)))) .no))))) (.seq .no (.seq .no (.seq (.seq .no (.cond (.seq .no .no) .no)) (.seq (.seq .no (.cond (.seq .no .no) .no)) (.join ⟨[], [], []⟩ [3, 5, 6, 10] [3, 500013, 500015, 500016] false (.seq .no (.one (.loop ⟨[(13, .c (.v (.d (.int .i64))))], [], [(.int .i64)]⟩ [3, 5, 6, 7, 10, 11] [3, 81, 10081, 20081, 500013, 500014, 500015, 500016] (.seq (.seq .no (.cond .no .no)) (.seq (.one (.seq .no (.cond (.seq .no .no) .no))) .no))))) (.join ⟨[], [], []⟩ [3, 5, 6, 10] [3, 500013, 500015, 500016] false (.seq .no (.cond (.seq .no (.seq .no (.join ⟨[(152, .c (.v (.d .bool)))], [], [.bool]⟩ [3, 5, 6, 10] [3, 500013, 500015, 500016] true .no (.cond (.seq .no .no) .no)))) .no)) (.seq .no (.seq (.seq .no (.cond (.seq .no .no) .no)) (.seq .no (.seq .no (.seq .no (.seq (.join ⟨[(179, .c (.v (.d .bool)))], [], [.bool]⟩ [3, 5, 6, 18, 20] [3, 154, 165, 10154, 20154, 500013, 500016] true .no (.cond (.seq .no .no) .no)) (.seq .no (.seq .no .no)))))))))))))))))))
set_option maxRecDepth 100000 in
theorem ladinglaw05_SealOpens.run [Fuel] (x : Tup ladinglaw05_SealOpens.con.ps) : fnT ladinglaw05_SealOpens.env Try.f6 ladinglaw05_SealOpens.an ladinglaw05_SealOpens.con.ain ladinglaw05_SealOpens.con.kin ladinglaw05_SealOpens.con.hin ladinglaw05_SealOpens.con.ps ladinglaw05_SealOpens.con.out ladinglaw05_SealOpens.con.hout ladinglaw05_SealOpens.con.qs x = ladinglaw05_SealOpens.con.fn x := by kernel_rfl
theorem ladinglaw05_SealOpens.ok [Fuel] : ConOK Try.prog ladinglaw05_SealOpens.con := con_ok (E := ladinglaw05_SealOpens.env) (an := ladinglaw05_SealOpens.an) mixed Try.func6 (by kernel_rfl) (cons_cons ladinglaw05_small.ok (cons_cons seal_New.ok (cons_cons ladingref05_Few.ok (cons_cons seal_Ring_Sign.ok (cons_cons seal_Ring_All.ok (cons_cons seal_Open.ok (cons_cons ladingref05_Same.ok (cons_cons seal_Ring_Valid.ok (cons_cons seal_Open_v2.ok (cons_cons seal_Ring_Copy.ok (cons_nil))))))))))) ladinglaw05_SealOpens.run
end Go.Proofs.Ytnkpnfmmlkjofaa
