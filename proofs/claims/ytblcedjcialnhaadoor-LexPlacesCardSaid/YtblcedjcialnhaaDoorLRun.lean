/-
  The code is they.
-/
import Derived.Test.YtblcedjcialnhaaDoorLModel
import Derived.Test.YtblcedjcialnhaaDoorD12
import Derived.Test.YtblcedjcialnhaaDoorSh
namespace Go.Proofs.YtblcedjcialnhaaDoor
open Go.Lad
set_option linter.unusedVariables false
theorem mixed : Tryd.prog.follows .mixedOrders = true := by kernel_rfl
noncomputable def GTokenT : Ty := (.pair (.int .i64) (.pair .str (.pair (.int .i64) (.int .i64))))
noncomputable abbrev lex_blank.ps : List Ty := [(.int .u8)]
noncomputable abbrev lex_blank.qs : List Ty := [.bool]
noncomputable def lex_blank.con [Fuel] : Con := ⟨23, [.c (.v (.d (.int .u8)))], [], [], lex_blank.ps, .one (.v (.d .bool)), [], lex_blank.qs, fun x => lex_blank x⟩
noncomputable def lex_blank.env [Fuel] : Env := ⟨Tryd.prog, [], [], [], [], [], [], [], [], []⟩
noncomputable def lex_blank.an : An := .seq .no (.seq .no .no)
set_option maxRecDepth 100000 in
theorem lex_blank.run [Fuel] (x : Tup lex_blank.con.ps) : fnT lex_blank.env Tryd.f23 lex_blank.an lex_blank.con.ain lex_blank.con.kin lex_blank.con.hin lex_blank.con.ps lex_blank.con.out lex_blank.con.hout lex_blank.con.qs x = lex_blank.con.fn x := by kernel_rfl
theorem lex_blank.ok [Fuel] : ConOK Tryd.prog lex_blank.con := con_ok (E := lex_blank.env) (an := lex_blank.an) mixed Tryd.func23 (by kernel_rfl) (cons_nil) lex_blank.run
noncomputable abbrev lex_span.ps : List Ty := [.str]
noncomputable abbrev lex_span.qs : List Ty := [(.int .i64)]
noncomputable def lex_span.con [Fuel] : Con := ⟨22, [.c (.v (.d .str)), .c (.v (.fn 23 []))], [], [], lex_span.ps, .one (.v (.d (.int .i64))), [], lex_span.qs, fun x => lex_span x⟩
noncomputable def lex_span.env [Fuel] : Env := ⟨Tryd.prog, [], [lex_blank.con], [(15, 0)], [1000000], [], [], [], [], []⟩
noncomputable def lex_span.an : An := .seq .no (.seq .no (.seq (.one (.loop ⟨[(5, .c (.v (.d (.int .i64))))], [], [(.int .i64)]⟩ [0, 1] [] (.seq (.join ⟨[(16, .c (.v (.d .bool)))], [], [.bool]⟩ [0, 1, 5] [] true .no (.cond .no .no)) (.one .no)))) (.seq .no .no)))
set_option maxRecDepth 100000 in
theorem lex_span.run [Fuel] (x : Tup lex_span.con.ps) : fnT lex_span.env Tryd.f22 lex_span.an lex_span.con.ain lex_span.con.kin lex_span.con.hin lex_span.con.ps lex_span.con.out lex_span.con.hout lex_span.con.qs x = lex_span.con.fn x := by kernel_rfl
theorem lex_span.ok [Fuel] : ConOK Tryd.prog lex_span.con := con_ok (E := lex_span.env) (an := lex_span.an) mixed Tryd.func22 (by kernel_rfl) (cons_cons lex_blank.ok (cons_nil)) lex_span.run
noncomputable abbrev lex_letter.ps : List Ty := [(.int .u8)]
noncomputable abbrev lex_letter.qs : List Ty := [.bool]
noncomputable def lex_letter.con [Fuel] : Con := ⟨28, [.c (.v (.d (.int .u8)))], [], [], lex_letter.ps, .one (.v (.d .bool)), [], lex_letter.qs, fun x => lex_letter x⟩
noncomputable def lex_letter.env [Fuel] : Env := ⟨Tryd.prog, [], [], [], [], [], [], [], [], []⟩
noncomputable def lex_letter.an : An := .seq .no (.seq .no .no)
set_option maxRecDepth 100000 in
theorem lex_letter.run [Fuel] (x : Tup lex_letter.con.ps) : fnT lex_letter.env Tryd.f28 lex_letter.an lex_letter.con.ain lex_letter.con.kin lex_letter.con.hin lex_letter.con.ps lex_letter.con.out lex_letter.con.hout lex_letter.con.qs x = lex_letter.con.fn x := by kernel_rfl
theorem lex_letter.ok [Fuel] : ConOK Tryd.prog lex_letter.con := con_ok (E := lex_letter.env) (an := lex_letter.an) mixed Tryd.func28 (by kernel_rfl) (cons_nil) lex_letter.run
noncomputable abbrev lex_digit.ps : List Ty := [(.int .u8)]
noncomputable abbrev lex_digit.qs : List Ty := [.bool]
noncomputable def lex_digit.con [Fuel] : Con := ⟨26, [.c (.v (.d (.int .u8)))], [], [], lex_digit.ps, .one (.v (.d .bool)), [], lex_digit.qs, fun x => lex_digit x⟩
noncomputable def lex_digit.env [Fuel] : Env := ⟨Tryd.prog, [], [], [], [], [], [], [], [], []⟩
noncomputable def lex_digit.an : An := .seq .no (.seq .no .no)
set_option maxRecDepth 100000 in
theorem lex_digit.run [Fuel] (x : Tup lex_digit.con.ps) : fnT lex_digit.env Tryd.f26 lex_digit.an lex_digit.con.ain lex_digit.con.kin lex_digit.con.hin lex_digit.con.ps lex_digit.con.out lex_digit.con.hout lex_digit.con.qs x = lex_digit.con.fn x := by kernel_rfl
theorem lex_digit.ok [Fuel] : ConOK Tryd.prog lex_digit.con := con_ok (E := lex_digit.env) (an := lex_digit.an) mixed Tryd.func26 (by kernel_rfl) (cons_nil) lex_digit.run
noncomputable abbrev lex_next_1.ps : List Ty := [(.int .u8)]
noncomputable abbrev lex_next_1.qs : List Ty := [.bool]
noncomputable def lex_next_1.con [Fuel] : Con := ⟨32, [.c (.v (.d (.int .u8)))], [], [], lex_next_1.ps, .one (.v (.d .bool)), [], lex_next_1.qs, fun x => lex_next_1 x⟩
noncomputable def lex_next_1.env [Fuel] : Env := ⟨Tryd.prog, [], [lex_letter.con, lex_digit.con], [(4, 0), (7, 1)], [], [], [], [], [], []⟩
noncomputable def lex_next_1.an : An := .seq .no (.seq .no .no)
set_option maxRecDepth 100000 in
theorem lex_next_1.run [Fuel] (x : Tup lex_next_1.con.ps) : fnT lex_next_1.env Tryd.f32 lex_next_1.an lex_next_1.con.ain lex_next_1.con.kin lex_next_1.con.hin lex_next_1.con.ps lex_next_1.con.out lex_next_1.con.hout lex_next_1.con.qs x = lex_next_1.con.fn x := by kernel_rfl
theorem lex_next_1.ok [Fuel] : ConOK Tryd.prog lex_next_1.con := con_ok (E := lex_next_1.env) (an := lex_next_1.an) mixed Tryd.func32 (by kernel_rfl) (cons_cons lex_letter.ok (cons_cons lex_digit.ok (cons_nil))) lex_next_1.run
noncomputable abbrev lex_span_v2.ps : List Ty := [.str]
noncomputable abbrev lex_span_v2.qs : List Ty := [(.int .i64)]
noncomputable def lex_span_v2.con [Fuel] : Con := ⟨22, [.c (.v (.d .str)), .c (.v (.fn 32 []))], [], [], lex_span_v2.ps, .one (.v (.d (.int .i64))), [], lex_span_v2.qs, fun x => lex_span_v2 x⟩
noncomputable def lex_span_v2.env [Fuel] : Env := ⟨Tryd.prog, [], [lex_next_1.con], [(15, 0)], [1000000], [], [], [], [], []⟩
noncomputable def lex_span_v2.an : An := .seq .no (.seq .no (.seq (.one (.loop ⟨[(5, .c (.v (.d (.int .i64))))], [], [(.int .i64)]⟩ [0, 1] [] (.seq (.join ⟨[(16, .c (.v (.d .bool)))], [], [.bool]⟩ [0, 1, 5] [] true .no (.cond .no .no)) (.one .no)))) (.seq .no .no)))
set_option maxRecDepth 100000 in
theorem lex_span_v2.run [Fuel] (x : Tup lex_span_v2.con.ps) : fnT lex_span_v2.env Tryd.f22 lex_span_v2.an lex_span_v2.con.ain lex_span_v2.con.kin lex_span_v2.con.hin lex_span_v2.con.ps lex_span_v2.con.out lex_span_v2.con.hout lex_span_v2.con.qs x = lex_span_v2.con.fn x := by kernel_rfl
theorem lex_span_v2.ok [Fuel] : ConOK Tryd.prog lex_span_v2.con := con_ok (E := lex_span_v2.env) (an := lex_span_v2.an) mixed Tryd.func22 (by kernel_rfl) (cons_cons lex_next_1.ok (cons_nil)) lex_span_v2.run
noncomputable abbrev lex_Word_1.ps : List Ty := [(.int .u8)]
noncomputable abbrev lex_Word_1.qs : List Ty := [.bool]
noncomputable def lex_Word_1.con [Fuel] : Con := ⟨29, [.c (.v (.d (.int .u8)))], [], [], lex_Word_1.ps, .one (.v (.d .bool)), [], lex_Word_1.qs, fun x => lex_Word_1 x⟩
noncomputable def lex_Word_1.env [Fuel] : Env := ⟨Tryd.prog, [], [lex_letter.con, lex_digit.con], [(4, 0), (7, 1)], [], [], [], [], [], []⟩
noncomputable def lex_Word_1.an : An := .seq .no (.seq .no .no)
set_option maxRecDepth 100000 in
theorem lex_Word_1.run [Fuel] (x : Tup lex_Word_1.con.ps) : fnT lex_Word_1.env Tryd.f29 lex_Word_1.an lex_Word_1.con.ain lex_Word_1.con.kin lex_Word_1.con.hin lex_Word_1.con.ps lex_Word_1.con.out lex_Word_1.con.hout lex_Word_1.con.qs x = lex_Word_1.con.fn x := by kernel_rfl
theorem lex_Word_1.ok [Fuel] : ConOK Tryd.prog lex_Word_1.con := con_ok (E := lex_Word_1.env) (an := lex_Word_1.an) mixed Tryd.func29 (by kernel_rfl) (cons_cons lex_letter.ok (cons_cons lex_digit.ok (cons_nil))) lex_Word_1.run
noncomputable abbrev lex_span_v3.ps : List Ty := [.str]
noncomputable abbrev lex_span_v3.qs : List Ty := [(.int .i64)]
noncomputable def lex_span_v3.con [Fuel] : Con := ⟨22, [.c (.v (.d .str)), .c (.v (.fn 29 []))], [], [], lex_span_v3.ps, .one (.v (.d (.int .i64))), [], lex_span_v3.qs, fun x => lex_span_v3 x⟩
noncomputable def lex_span_v3.env [Fuel] : Env := ⟨Tryd.prog, [], [lex_Word_1.con], [(15, 0)], [1000000], [], [], [], [], []⟩
noncomputable def lex_span_v3.an : An := .seq .no (.seq .no (.seq (.one (.loop ⟨[(5, .c (.v (.d (.int .i64))))], [], [(.int .i64)]⟩ [0, 1] [] (.seq (.join ⟨[(16, .c (.v (.d .bool)))], [], [.bool]⟩ [0, 1, 5] [] true .no (.cond .no .no)) (.one .no)))) (.seq .no .no)))
set_option maxRecDepth 100000 in
theorem lex_span_v3.run [Fuel] (x : Tup lex_span_v3.con.ps) : fnT lex_span_v3.env Tryd.f22 lex_span_v3.an lex_span_v3.con.ain lex_span_v3.con.kin lex_span_v3.con.hin lex_span_v3.con.ps lex_span_v3.con.out lex_span_v3.con.hout lex_span_v3.con.qs x = lex_span_v3.con.fn x := by kernel_rfl
theorem lex_span_v3.ok [Fuel] : ConOK Tryd.prog lex_span_v3.con := con_ok (E := lex_span_v3.env) (an := lex_span_v3.an) mixed Tryd.func22 (by kernel_rfl) (cons_cons lex_Word_1.ok (cons_nil)) lex_span_v3.run
noncomputable abbrev lex_Word.ps : List Ty := [.str]
noncomputable abbrev lex_Word.qs : List Ty := [.bool]
noncomputable def lex_Word.con [Fuel] : Con := ⟨16, [.c (.v (.d .str))], [], [], lex_Word.ps, .one (.v (.d .bool)), [], lex_Word.qs, fun x => lex_Word x⟩
noncomputable def lex_Word.env [Fuel] : Env := ⟨Tryd.prog, [], [lex_letter.con, lex_span_v3.con], [(8, 0), (17, 1)], [1000000], [], [], [], [], []⟩
noncomputable def lex_Word.an : An := .seq .no (.seq (.join ⟨[(15, .c (.v (.d .bool)))], [], [.bool]⟩ [0] [] true .no (.cond (.seq .no .no) .no)) (.seq .no .no))
set_option maxRecDepth 100000 in
theorem lex_Word.run [Fuel] (x : Tup lex_Word.con.ps) : fnT lex_Word.env Tryd.f16 lex_Word.an lex_Word.con.ain lex_Word.con.kin lex_Word.con.hin lex_Word.con.ps lex_Word.con.out lex_Word.con.hout lex_Word.con.qs x = lex_Word.con.fn x := by kernel_rfl
theorem lex_Word.ok [Fuel] : ConOK Tryd.prog lex_Word.con := con_ok (E := lex_Word.env) (an := lex_Word.an) mixed Tryd.func16 (by kernel_rfl) (cons_cons lex_letter.ok (cons_cons lex_span_v3.ok (cons_nil))) lex_Word.run
noncomputable abbrev lex_span_v4.ps : List Ty := [.str]
noncomputable abbrev lex_span_v4.qs : List Ty := [(.int .i64)]
noncomputable def lex_span_v4.con [Fuel] : Con := ⟨22, [.c (.v (.d .str)), .c (.v (.fn 26 []))], [], [], lex_span_v4.ps, .one (.v (.d (.int .i64))), [], lex_span_v4.qs, fun x => lex_span_v4 x⟩
noncomputable def lex_span_v4.env [Fuel] : Env := ⟨Tryd.prog, [], [lex_digit.con], [(15, 0)], [1000000], [], [], [], [], []⟩
noncomputable def lex_span_v4.an : An := .seq .no (.seq .no (.seq (.one (.loop ⟨[(5, .c (.v (.d (.int .i64))))], [], [(.int .i64)]⟩ [0, 1] [] (.seq (.join ⟨[(16, .c (.v (.d .bool)))], [], [.bool]⟩ [0, 1, 5] [] true .no (.cond .no .no)) (.one .no)))) (.seq .no .no)))
set_option maxRecDepth 100000 in
theorem lex_span_v4.run [Fuel] (x : Tup lex_span_v4.con.ps) : fnT lex_span_v4.env Tryd.f22 lex_span_v4.an lex_span_v4.con.ain lex_span_v4.con.kin lex_span_v4.con.hin lex_span_v4.con.ps lex_span_v4.con.out lex_span_v4.con.hout lex_span_v4.con.qs x = lex_span_v4.con.fn x := by kernel_rfl
theorem lex_span_v4.ok [Fuel] : ConOK Tryd.prog lex_span_v4.con := con_ok (E := lex_span_v4.env) (an := lex_span_v4.an) mixed Tryd.func22 (by kernel_rfl) (cons_cons lex_digit.ok (cons_nil)) lex_span_v4.run
noncomputable abbrev lex_Number.ps : List Ty := [.str]
noncomputable abbrev lex_Number.qs : List Ty := [(.int .i64), .bool]
noncomputable def lex_Number.con [Fuel] : Con := ⟨13, [.c (.v (.d .str))], [], [], lex_Number.ps, .tup [.v (.d (.int .i64)), .v (.d .bool)], [], lex_Number.qs, fun x => lex_Number x⟩
noncomputable def lex_Number.env [Fuel] : Env := ⟨Tryd.prog, [], [lex_span_v4.con], [(10, 0)], [9, 1000000], [], [], [], [], []⟩
noncomputable def lex_Number.an : An := .seq .no (.seq (.join ⟨[(28, .c (.v (.d .bool)))], [], [.bool]⟩ [0] [] true .no (.cond (.seq .no .no) .no)) (.seq .no (.join ⟨[(4, .c (.v (.d (.int .i64))))], [], [(.int .i64)]⟩ [] [] true (.seq .no (.one (.loop ⟨[(4, .c (.v (.d (.int .i64)))), (31, .c (.v (.d (.int .i64))))], [], [(.int .i64), (.int .i64)]⟩ [0, 30] [] (.seq .no (.seq (.cond .no .no) (.seq (.one (.seq .no .no)) .no)))))) (.seq (.seq .no (.cond (.seq .no .no) .no)) (.seq .no .no)))))
set_option maxRecDepth 100000 in
theorem lex_Number.run [Fuel] (x : Tup lex_Number.con.ps) : fnT lex_Number.env Tryd.f13 lex_Number.an lex_Number.con.ain lex_Number.con.kin lex_Number.con.hin lex_Number.con.ps lex_Number.con.out lex_Number.con.hout lex_Number.con.qs x = lex_Number.con.fn x := by kernel_rfl
theorem lex_Number.ok [Fuel] : ConOK Tryd.prog lex_Number.con := con_ok (E := lex_Number.env) (an := lex_Number.an) mixed Tryd.func13 (by kernel_rfl) (cons_cons lex_span_v4.ok (cons_nil)) lex_Number.run
noncomputable abbrev internal_stringslite_HasPrefix.ps : List Ty := [.str, .str]
noncomputable abbrev internal_stringslite_HasPrefix.qs : List Ty := [.bool]
noncomputable def internal_stringslite_HasPrefix.con [Fuel] : Con := ⟨38, [.c (.v (.d .str)), .c (.v (.d .str))], [], [], internal_stringslite_HasPrefix.ps, .one (.v (.d .bool)), [], internal_stringslite_HasPrefix.qs, fun x => internal_stringslite_HasPrefix x.1 x.2⟩
noncomputable def internal_stringslite_HasPrefix.env [Fuel] : Env := ⟨Tryd.prog, [], [], [], [], [], [], [], [], []⟩
noncomputable def internal_stringslite_HasPrefix.an : An := .seq .no (.seq .no .no)
set_option maxRecDepth 100000 in
theorem internal_stringslite_HasPrefix.run [Fuel] (x : Tup internal_stringslite_HasPrefix.con.ps) : fnT internal_stringslite_HasPrefix.env Tryd.f38 internal_stringslite_HasPrefix.an internal_stringslite_HasPrefix.con.ain internal_stringslite_HasPrefix.con.kin internal_stringslite_HasPrefix.con.hin internal_stringslite_HasPrefix.con.ps internal_stringslite_HasPrefix.con.out internal_stringslite_HasPrefix.con.hout internal_stringslite_HasPrefix.con.qs x = internal_stringslite_HasPrefix.con.fn x := by kernel_rfl
theorem internal_stringslite_HasPrefix.ok [Fuel] : ConOK Tryd.prog internal_stringslite_HasPrefix.con := con_ok (E := internal_stringslite_HasPrefix.env) (an := internal_stringslite_HasPrefix.an) mixed Tryd.func38 (by kernel_rfl) (cons_nil) internal_stringslite_HasPrefix.run
noncomputable abbrev strings_HasPrefix.ps : List Ty := [.str, .str]
noncomputable abbrev strings_HasPrefix.qs : List Ty := [.bool]
noncomputable def strings_HasPrefix.con [Fuel] : Con := ⟨33, [.c (.v (.d .str)), .c (.v (.d .str))], [], [], strings_HasPrefix.ps, .one (.v (.d .bool)), [], strings_HasPrefix.qs, fun x => strings_HasPrefix x.1 x.2⟩
noncomputable def strings_HasPrefix.env [Fuel] : Env := ⟨Tryd.prog, [], [internal_stringslite_HasPrefix.con], [(7, 0)], [], [], [], [], [], []⟩
noncomputable def strings_HasPrefix.an : An := .seq .no (.seq .no .no)
set_option maxRecDepth 100000 in
theorem strings_HasPrefix.run [Fuel] (x : Tup strings_HasPrefix.con.ps) : fnT strings_HasPrefix.env Tryd.f33 strings_HasPrefix.an strings_HasPrefix.con.ain strings_HasPrefix.con.kin strings_HasPrefix.con.hin strings_HasPrefix.con.ps strings_HasPrefix.con.out strings_HasPrefix.con.hout strings_HasPrefix.con.qs x = strings_HasPrefix.con.fn x := by kernel_rfl
theorem strings_HasPrefix.ok [Fuel] : ConOK Tryd.prog strings_HasPrefix.con := con_ok (E := strings_HasPrefix.env) (an := strings_HasPrefix.an) mixed Tryd.func33 (by kernel_rfl) (cons_cons internal_stringslite_HasPrefix.ok (cons_nil)) strings_HasPrefix.run
noncomputable abbrev lex_next.ps : List Ty := [.str]
noncomputable abbrev lex_next.qs : List Ty := [GTokenT, (.int .i64)]
noncomputable def lex_next.con [Fuel] : Con := ⟨24, [.c (.v (.d .str))], [], [], lex_next.ps, .tup [.a GTokenT, .v (.d (.int .i64))], [], lex_next.qs, fun x => lex_next x⟩
noncomputable def lex_next.env [Fuel] : Env := ⟨Tryd.prog, [], [lex_letter.con, lex_span_v2.con, lex_Word.con, lex_digit.con, lex_span_v4.con, lex_Number.con, strings_HasPrefix.con], [(13, 0), (16, 1), (19, 2), (27, 3), (30, 4), (34, 5), (49, 6)], [], [], [], [], [], []⟩
noncomputable def lex_next.an : An := .seq .no (.seq (.one (.seq .no (.cond (.seq .no (.seq (.seq .no (.cond (.seq .no .no) .no)) (.seq .no .no))) (.seq .no (.cond (.seq .no (.seq .no (.seq (.seq .no (.cond (.seq .no .no) .no)) (.seq .no .no)))) .no))))) (.seq (.seq .no (.one (.loop ⟨[(44, .c (.v (.d (.int .i64))))], [], [(.int .i64)]⟩ [0, 2, 43] [2] (.seq .no (.seq (.cond .no .no) (.seq (.one (.seq .no (.seq .no (.cond (.seq .no .no) .no)))) .no)))))) (.seq .no .no)))
set_option maxRecDepth 100000 in
theorem lex_next.run [Fuel] (x : Tup lex_next.con.ps) : fnT lex_next.env Tryd.f24 lex_next.an lex_next.con.ain lex_next.con.kin lex_next.con.hin lex_next.con.ps lex_next.con.out lex_next.con.hout lex_next.con.qs x = lex_next.con.fn x := by kernel_rfl
theorem lex_next.ok [Fuel] : ConOK Tryd.prog lex_next.con := con_ok (E := lex_next.env) (an := lex_next.an) mixed Tryd.func24 (by kernel_rfl) (cons_cons lex_letter.ok (cons_cons lex_span_v2.ok (cons_cons lex_Word.ok (cons_cons lex_digit.ok (cons_cons lex_span_v4.ok (cons_cons lex_Number.ok (cons_cons strings_HasPrefix.ok (cons_nil)))))))) lex_next.run
noncomputable abbrev lex_Lex.ps : List Ty := [.str]
noncomputable abbrev lex_Lex.qs : List Ty := [(.sl GTokenT), (.int .i64), (.int .i64)]
noncomputable def lex_Lex.con [Fuel] : Con := ⟨11, [.c (.v (.d .str))], [], [], lex_Lex.ps, .tup [.v (.d (.sl GTokenT)), .v (.d (.int .i64)), .v (.d (.int .i64))], [], lex_Lex.qs, fun x => lex_Lex x⟩
noncomputable def lex_Lex.env [Fuel] : Env := ⟨Tryd.prog, [(22, GTokenT)], [lex_span.con, lex_next.con], [(16, 0), (31, 1)], [], [], [], [25, 42], [], []⟩
noncomputable def lex_Lex.an : An := .seq .no (.seq (.seq .no (.cond (.seq .no .no) .no)) (.seq .no (.seq .no (.one (.loop ⟨[(5, .c (.v (.own 500002))), (6, .c (.v (.d (.int .i64))))], [(500002, .arr 25 GTokenT)], [(.int .i64), (.sl GTokenT)]⟩ [0] [] (.one (.seq .no (.seq (.seq .no (.cond (.seq .no .no) .no)) (.seq .no (.seq (.seq .no (.cond (.seq .no .no) .no)) (.seq .no (.seq .no .no))))))))))))
set_option maxRecDepth 100000 in
theorem lex_Lex.run [Fuel] (x : Tup lex_Lex.con.ps) : fnT lex_Lex.env Tryd.f11 lex_Lex.an lex_Lex.con.ain lex_Lex.con.kin lex_Lex.con.hin lex_Lex.con.ps lex_Lex.con.out lex_Lex.con.hout lex_Lex.con.qs x = lex_Lex.con.fn x := by kernel_rfl
theorem lex_Lex.ok [Fuel] : ConOK Tryd.prog lex_Lex.con := con_ok (E := lex_Lex.env) (an := lex_Lex.an) mixed Tryd.func11 (by kernel_rfl) (cons_cons lex_span.ok (cons_cons lex_next.ok (cons_nil))) lex_Lex.run
noncomputable abbrev ladingref14_Same.ps : List Ty := [(.sl GTokenT), (.sl GTokenT)]
noncomputable abbrev ladingref14_Same.qs : List Ty := [.bool]
noncomputable def ladingref14_Same.con [Fuel] : Con := ⟨15, [.c (.v (.d (.sl GTokenT))), .c (.v (.d (.sl GTokenT)))], [], [], ladingref14_Same.ps, .one (.v (.d .bool)), [], ladingref14_Same.qs, fun x => ladingref14_Same x.1 x.2⟩
noncomputable def ladingref14_Same.env [Fuel] : Env := ⟨Tryd.prog, [], [], [], [], [], [], [], [19, 20, 23, 24], []⟩
noncomputable def ladingref14_Same.an : An := .seq .no (.seq (.seq .no (.cond (.seq .no .no) .no)) (.seq (.seq .no (.one (.loop ⟨[(5, .c (.v (.d (.int .i64))))], [], [(.int .i64)]⟩ [0, 1] [] (.seq (.seq .no (.cond .no .no)) (.seq (.one (.seq .no (.cond (.seq .no .no) .no))) .no))))) (.seq .no .no)))
set_option maxRecDepth 100000 in
theorem ladingref14_Same.run [Fuel] (x : Tup ladingref14_Same.con.ps) : fnT ladingref14_Same.env Tryd.f15 ladingref14_Same.an ladingref14_Same.con.ain ladingref14_Same.con.kin ladingref14_Same.con.hin ladingref14_Same.con.ps ladingref14_Same.con.out ladingref14_Same.con.hout ladingref14_Same.con.qs x = ladingref14_Same.con.fn x := by kernel_rfl
theorem ladingref14_Same.ok [Fuel] : ConOK Tryd.prog ladingref14_Same.con := con_ok (E := ladingref14_Same.env) (an := ladingref14_Same.an) mixed Tryd.func15 (by kernel_rfl) (cons_nil) ladingref14_Same.run
noncomputable def strings_Join.con [Fuel] : Con := joinCon 31
theorem strings_Join.ok [Fuel] : ConOK Tryd.prog strings_Join.con := join_con (by kernel_rfl) Go.Proofs.Tryd.strings_Join_none Go.Proofs.Tryd.strings_Join
noncomputable abbrev lex_Text.ps : List Ty := [(.sl GTokenT)]
noncomputable abbrev lex_Text.qs : List Ty := [.str]
noncomputable def lex_Text.con [Fuel] : Con := ⟨18, [.c (.v (.d (.sl GTokenT)))], [], [], lex_Text.ps, .one (.v (.d .str)), [], lex_Text.qs, fun x => lex_Text x⟩
noncomputable def lex_Text.env [Fuel] : Env := ⟨Tryd.prog, [(42, .str)], [strings_Join.con], [(22, 0)], [8], [], [], [18], [], []⟩
noncomputable def lex_Text.an : An := .seq .no (.seq .no (.join ⟨[(3, .c (.v (.own 500003)))], [(500003, .arr 9 .str)], [(.sl .str)]⟩ [] [] true (.seq .no (.one (.loop ⟨[(3, .c (.v (.own 500005))), (8, .c (.v (.d (.int .i64))))], [(500005, .arr 9 .str)], [(.int .i64), (.sl .str)]⟩ [6, 7] [] (.seq .no (.seq (.cond .no .no) (.seq (.one (.seq .no (.seq .no (.cond .no .no)))) .no)))))) (.seq .no .no)))
set_option maxRecDepth 100000 in
theorem lex_Text.run [Fuel] (x : Tup lex_Text.con.ps) : fnT lex_Text.env Tryd.f18 lex_Text.an lex_Text.con.ain lex_Text.con.kin lex_Text.con.hin lex_Text.con.ps lex_Text.con.out lex_Text.con.hout lex_Text.con.qs x = lex_Text.con.fn x := by kernel_rfl
theorem lex_Text.ok [Fuel] : ConOK Tryd.prog lex_Text.con := con_ok (E := lex_Text.env) (an := lex_Text.an) mixed Tryd.func18 (by kernel_rfl) (cons_cons strings_Join.ok (cons_nil)) lex_Text.run
noncomputable abbrev ladinglaw14_small.ps : List Ty := []
noncomputable abbrev ladinglaw14_small.qs : List Ty := [.bool]
noncomputable def ladinglaw14_small.con [Fuel] : Con := ⟨9, [], [], [], ladinglaw14_small.ps, .one (.v (.d .bool)), [], ladinglaw14_small.qs, fun x => ladinglaw14_small⟩
noncomputable def ladinglaw14_small.env [Fuel] : Env := ⟨Tryd.prog, [(22, GTokenT)], [lex_Lex.con, lex_Number.con, ladingref14_Same.con, lex_Text.con, lex_Word.con], [(20, 0), (25, 0), (30, 0), (35, 0), (46, 1), (50, 1), (55, 2), (83, 3), (87, 4), (90, 4)], [9], [], [], [44], [], []⟩
noncomputable def ladinglaw14_small.an : An := .seq .no (.seq .no (.seq .no (.seq .no (.seq .no (.seq .no (.seq .no (.seq .no (.join ⟨[(18, .c (.v (.d .bool)))], [], [.bool]⟩ [10, 14, 15, 17] [] true .no (.seq .no .no)))))))))
set_option maxRecDepth 100000 in
theorem ladinglaw14_small.run [Fuel] (x : Tup ladinglaw14_small.con.ps) : fnT ladinglaw14_small.env Tryd.f9 ladinglaw14_small.an ladinglaw14_small.con.ain ladinglaw14_small.con.kin ladinglaw14_small.con.hin ladinglaw14_small.con.ps ladinglaw14_small.con.out ladinglaw14_small.con.hout ladinglaw14_small.con.qs x = ladinglaw14_small.con.fn x := by kernel_rfl
theorem ladinglaw14_small.ok [Fuel] : ConOK Tryd.prog ladinglaw14_small.con := con_ok (E := ladinglaw14_small.env) (an := ladinglaw14_small.an) mixed Tryd.func9 (by kernel_rfl) (cons_cons lex_Lex.ok (cons_cons lex_Number.ok (cons_cons ladingref14_Same.ok (cons_cons lex_Text.ok (cons_cons lex_Word.ok (cons_nil)))))) ladinglaw14_small.run
noncomputable abbrev ladinglaw14_cut.ps : List Ty := [.str]
noncomputable abbrev ladinglaw14_cut.qs : List Ty := [.str]
noncomputable def ladinglaw14_cut.con [Fuel] : Con := ⟨10, [.c (.v (.d .str))], [], [], ladinglaw14_cut.ps, .one (.v (.d .str)), [], ladinglaw14_cut.qs, fun x => ladinglaw14_cut x⟩
noncomputable def ladinglaw14_cut.env [Fuel] : Env := ⟨Tryd.prog, [], [], [], [], [], [], [], [], []⟩
noncomputable def ladinglaw14_cut.an : An := .seq .no (.seq .no .no)
set_option maxRecDepth 100000 in
theorem ladinglaw14_cut.run [Fuel] (x : Tup ladinglaw14_cut.con.ps) : fnT ladinglaw14_cut.env Tryd.f10 ladinglaw14_cut.an ladinglaw14_cut.con.ain ladinglaw14_cut.con.kin ladinglaw14_cut.con.hin ladinglaw14_cut.con.ps ladinglaw14_cut.con.out ladinglaw14_cut.con.hout ladinglaw14_cut.con.qs x = ladinglaw14_cut.con.fn x := by kernel_rfl
theorem ladinglaw14_cut.ok [Fuel] : ConOK Tryd.prog ladinglaw14_cut.con := con_ok (E := ladinglaw14_cut.env) (an := ladinglaw14_cut.an) mixed Tryd.func10 (by kernel_rfl) (cons_nil) ladinglaw14_cut.run
noncomputable abbrev ladingref14_Blank.ps : List Ty := [(.int .u8)]
noncomputable abbrev ladingref14_Blank.qs : List Ty := [.bool]
noncomputable def ladingref14_Blank.con [Fuel] : Con := ⟨21, [.c (.v (.d (.int .u8)))], [], [], ladingref14_Blank.ps, .one (.v (.d .bool)), [], ladingref14_Blank.qs, fun x => ladingref14_Blank x⟩
noncomputable def ladingref14_Blank.env [Fuel] : Env := ⟨Tryd.prog, [], [], [], [], [], [], [], [], []⟩
noncomputable def ladingref14_Blank.an : An := .seq .no (.seq .no .no)
set_option maxRecDepth 100000 in
theorem ladingref14_Blank.run [Fuel] (x : Tup ladingref14_Blank.con.ps) : fnT ladingref14_Blank.env Tryd.f21 ladingref14_Blank.an ladingref14_Blank.con.ain ladingref14_Blank.con.kin ladingref14_Blank.con.hin ladingref14_Blank.con.ps ladingref14_Blank.con.out ladingref14_Blank.con.hout ladingref14_Blank.con.qs x = ladingref14_Blank.con.fn x := by kernel_rfl
theorem ladingref14_Blank.ok [Fuel] : ConOK Tryd.prog ladingref14_Blank.con := con_ok (E := ladingref14_Blank.env) (an := ladingref14_Blank.an) mixed Tryd.func21 (by kernel_rfl) (cons_nil) ladingref14_Blank.run
noncomputable abbrev ladingref14_letter.ps : List Ty := [(.int .u8)]
noncomputable abbrev ladingref14_letter.qs : List Ty := [.bool]
noncomputable def ladingref14_letter.con [Fuel] : Con := ⟨30, [.c (.v (.d (.int .u8)))], [], [], ladingref14_letter.ps, .one (.v (.d .bool)), [], ladingref14_letter.qs, fun x => ladingref14_letter x⟩
noncomputable def ladingref14_letter.env [Fuel] : Env := ⟨Tryd.prog, [], [], [], [], [], [], [], [], []⟩
noncomputable def ladingref14_letter.an : An := .seq .no (.seq .no .no)
set_option maxRecDepth 100000 in
theorem ladingref14_letter.run [Fuel] (x : Tup ladingref14_letter.con.ps) : fnT ladingref14_letter.env Tryd.f30 ladingref14_letter.an ladingref14_letter.con.ain ladingref14_letter.con.kin ladingref14_letter.con.hin ladingref14_letter.con.ps ladingref14_letter.con.out ladingref14_letter.con.hout ladingref14_letter.con.qs x = ladingref14_letter.con.fn x := by kernel_rfl
theorem ladingref14_letter.ok [Fuel] : ConOK Tryd.prog ladingref14_letter.con := con_ok (E := ladingref14_letter.env) (an := ladingref14_letter.an) mixed Tryd.func30 (by kernel_rfl) (cons_nil) ladingref14_letter.run
noncomputable abbrev ladingref14_digit.ps : List Ty := [(.int .u8)]
noncomputable abbrev ladingref14_digit.qs : List Ty := [.bool]
noncomputable def ladingref14_digit.con [Fuel] : Con := ⟨27, [.c (.v (.d (.int .u8)))], [], [], ladingref14_digit.ps, .one (.v (.d .bool)), [], ladingref14_digit.qs, fun x => ladingref14_digit x⟩
noncomputable def ladingref14_digit.env [Fuel] : Env := ⟨Tryd.prog, [], [], [], [], [], [], [], [], []⟩
noncomputable def ladingref14_digit.an : An := .seq .no (.seq .no .no)
set_option maxRecDepth 100000 in
theorem ladingref14_digit.run [Fuel] (x : Tup ladingref14_digit.con.ps) : fnT ladingref14_digit.env Tryd.f27 ladingref14_digit.an ladingref14_digit.con.ain ladingref14_digit.con.kin ladingref14_digit.con.hin ladingref14_digit.con.ps ladingref14_digit.con.out ladingref14_digit.con.hout ladingref14_digit.con.qs x = ladingref14_digit.con.fn x := by kernel_rfl
theorem ladingref14_digit.ok [Fuel] : ConOK Tryd.prog ladingref14_digit.con := con_ok (E := ladingref14_digit.env) (an := ladingref14_digit.an) mixed Tryd.func27 (by kernel_rfl) (cons_nil) ladingref14_digit.run
noncomputable abbrev ladingref14_Number.ps : List Ty := [.str]
noncomputable abbrev ladingref14_Number.qs : List Ty := [(.int .i64), .bool]
noncomputable def ladingref14_Number.con [Fuel] : Con := ⟨14, [.c (.v (.d .str))], [], [], ladingref14_Number.ps, .tup [.v (.d (.int .i64)), .v (.d .bool)], [], ladingref14_Number.qs, fun x => ladingref14_Number x⟩
noncomputable def ladingref14_Number.env [Fuel] : Env := ⟨Tryd.prog, [], [ladingref14_digit.con], [(15, 0)], [8, 1000000], [], [], [], [], []⟩
noncomputable def ladingref14_Number.an : An := .seq .no (.seq .no (.join ⟨[(4, .c (.v (.d (.int .i64))))], [], [(.int .i64)]⟩ [0] [] false (.seq .no (.one (.loop ⟨[(4, .c (.v (.d (.int .i64)))), (5, .c (.v (.d (.int .i64))))], [], [(.int .i64), (.int .i64)]⟩ [0] [] (.seq (.seq .no (.cond .no .no)) (.seq (.one (.seq (.join ⟨[(20, .c (.v (.d .bool)))], [], [.bool]⟩ [0, 4, 5] [] true .no (.cond (.seq .no .no) .no)) .no)) .no))))) (.seq (.join ⟨[(45, .c (.v (.d .bool)))], [], [.bool]⟩ [4] [] true .no (.cond (.seq .no .no) .no)) (.seq .no .no))))
set_option maxRecDepth 100000 in
theorem ladingref14_Number.run [Fuel] (x : Tup ladingref14_Number.con.ps) : fnT ladingref14_Number.env Tryd.f14 ladingref14_Number.an ladingref14_Number.con.ain ladingref14_Number.con.kin ladingref14_Number.con.hin ladingref14_Number.con.ps ladingref14_Number.con.out ladingref14_Number.con.hout ladingref14_Number.con.qs x = ladingref14_Number.con.fn x := by kernel_rfl
theorem ladingref14_Number.ok [Fuel] : ConOK Tryd.prog ladingref14_Number.con := con_ok (E := ladingref14_Number.env) (an := ladingref14_Number.an) mixed Tryd.func14 (by kernel_rfl) (cons_cons ladingref14_digit.ok (cons_nil)) ladingref14_Number.run
noncomputable abbrev ladingref14_sign.ps : List Ty := [.str, (.int .i64)]
noncomputable abbrev ladingref14_sign.qs : List Ty := [(.int .i64)]
noncomputable def ladingref14_sign.con [Fuel] : Con := ⟨34, [.c (.v (.d .str)), .c (.v (.d (.int .i64)))], [], [], ladingref14_sign.ps, .one (.v (.d (.int .i64))), [], ladingref14_sign.qs, fun x => ladingref14_sign x.1 x.2⟩
noncomputable def ladingref14_sign.env [Fuel] : Env := ⟨Tryd.prog, [], [], [], [1000000], [], [], [], [], []⟩
noncomputable def ladingref14_sign.an : An := .seq .no (.seq (.join ⟨[(24, .c (.v (.d .bool)))], [], [.bool]⟩ [0, 1] [] true .no (.cond (.seq .no .no) .no)) (.seq .no (.seq (.seq .no (.one (.loop ⟨[(6, .c (.v (.d (.int .i64))))], [], [(.int .i64)]⟩ [0, 1, 5] [] (.seq (.seq .no (.cond .no .no)) (.seq (.one (.seq .no (.cond (.seq .no .no) .no))) .no))))) (.seq .no .no))))
set_option maxRecDepth 100000 in
theorem ladingref14_sign.run [Fuel] (x : Tup ladingref14_sign.con.ps) : fnT ladingref14_sign.env Tryd.f34 ladingref14_sign.an ladingref14_sign.con.ain ladingref14_sign.con.kin ladingref14_sign.con.hin ladingref14_sign.con.ps ladingref14_sign.con.out ladingref14_sign.con.hout ladingref14_sign.con.qs x = ladingref14_sign.con.fn x := by kernel_rfl
theorem ladingref14_sign.ok [Fuel] : ConOK Tryd.prog ladingref14_sign.con := con_ok (E := ladingref14_sign.env) (an := ladingref14_sign.an) mixed Tryd.func34 (by kernel_rfl) (cons_nil) ladingref14_sign.run
noncomputable abbrev ladingref14_token.ps : List Ty := [.str, (.int .i64)]
noncomputable abbrev ladingref14_token.qs : List Ty := [GTokenT, (.int .i64)]
noncomputable def ladingref14_token.con [Fuel] : Con := ⟨25, [.c (.v (.d .str)), .c (.v (.d (.int .i64)))], [], [], ladingref14_token.ps, .tup [.a GTokenT, .v (.d (.int .i64))], [], ladingref14_token.qs, fun x => ladingref14_token x.1 x.2⟩
noncomputable def ladingref14_token.env [Fuel] : Env := ⟨Tryd.prog, [], [ladingref14_letter.con, ladingref14_digit.con, ladingref14_Number.con, ladingref14_sign.con], [(15, 0), (24, 0), (29, 1), (48, 1), (57, 1), (66, 2), (81, 3)], [5, 8, 11, 15, 1000000], [], [], [], [], []⟩
noncomputable def ladingref14_token.an : An := .seq .no (.seq .no (.join ⟨[(6, .c (.v (.d (.int .i64))))], [], [(.int .i64)]⟩ [0, 1, 4] [4] false (.seq .no (.cond (.join ⟨[(6, .c (.v (.d (.int .i64))))], [], [(.int .i64)]⟩ [0, 1, 4] [4] true (.one (.loop ⟨[(6, .c (.v (.d (.int .i64))))], [], [(.int .i64)]⟩ [0, 1, 4] [4] (.seq (.join ⟨[(31, .c (.v (.d .bool)))], [], [.bool]⟩ [0, 1, 4, 6] [4] true .no (.cond .no .no)) (.one .no)))) (.seq (.seq .no (.cond (.seq .no .no) .no)) (.seq .no .no))) .no)) (.join ⟨[], [], []⟩ [0, 1, 4] [4] false (.seq .no (.cond (.join ⟨[(6, .c (.v (.d (.int .i64))))], [], [(.int .i64)]⟩ [0, 1, 4] [4] true (.one (.loop ⟨[(6, .c (.v (.d (.int .i64))))], [], [(.int .i64)]⟩ [0, 1, 4] [4] (.seq (.join ⟨[(58, .c (.v (.d .bool)))], [], [.bool]⟩ [0, 1, 4, 6] [4] true .no (.cond .no .no)) (.one .no)))) (.seq .no (.seq (.seq .no (.cond (.seq .no .no) .no)) (.seq .no .no)))) .no)) (.seq .no (.seq (.seq .no (.cond (.seq .no .no) .no)) (.seq .no .no))))))
set_option maxRecDepth 100000 in
theorem ladingref14_token.run [Fuel] (x : Tup ladingref14_token.con.ps) : fnT ladingref14_token.env Tryd.f25 ladingref14_token.an ladingref14_token.con.ain ladingref14_token.con.kin ladingref14_token.con.hin ladingref14_token.con.ps ladingref14_token.con.out ladingref14_token.con.hout ladingref14_token.con.qs x = ladingref14_token.con.fn x := by kernel_rfl
theorem ladingref14_token.ok [Fuel] : ConOK Tryd.prog ladingref14_token.con := con_ok (E := ladingref14_token.env) (an := ladingref14_token.an) mixed Tryd.func25 (by kernel_rfl) (cons_cons ladingref14_letter.ok (cons_cons ladingref14_digit.ok (cons_cons ladingref14_Number.ok (cons_cons ladingref14_sign.ok (cons_nil))))) ladingref14_token.run
noncomputable abbrev ladingref14_Lex.ps : List Ty := [.str]
noncomputable abbrev ladingref14_Lex.qs : List Ty := [(.sl GTokenT), (.int .i64), (.int .i64)]
noncomputable def ladingref14_Lex.con [Fuel] : Con := ⟨12, [.c (.v (.d .str))], [], [], ladingref14_Lex.ps, .tup [.v (.d (.sl GTokenT)), .v (.d (.int .i64)), .v (.d (.int .i64))], [], ladingref14_Lex.qs, fun x => ladingref14_Lex x⟩
noncomputable def ladingref14_Lex.env [Fuel] : Env := ⟨Tryd.prog, [(22, GTokenT)], [ladingref14_Blank.con, ladingref14_token.con], [(19, 0), (25, 1)], [], [], [], [34, 45], [], []⟩
noncomputable def ladingref14_Lex.an : An := .seq .no (.seq (.seq .no (.cond (.seq .no .no) .no)) (.seq .no (.seq .no (.seq (.one (.loop ⟨[(5, .c (.v (.own 500002))), (6, .c (.v (.d (.int .i64))))], [(500002, .arr 25 GTokenT)], [(.int .i64), (.sl GTokenT)]⟩ [0] [] (.seq (.seq .no (.cond .no .no)) (.one (.seq (.seq .no (.cond (.seq .no .no) .no)) (.seq .no (.seq (.seq .no (.cond (.seq .no .no) .no)) (.seq .no .no)))))))) (.seq .no .no)))))
set_option maxRecDepth 100000 in
theorem ladingref14_Lex.run [Fuel] (x : Tup ladingref14_Lex.con.ps) : fnT ladingref14_Lex.env Tryd.f12 ladingref14_Lex.an ladingref14_Lex.con.ain ladingref14_Lex.con.kin ladingref14_Lex.con.hin ladingref14_Lex.con.ps ladingref14_Lex.con.out ladingref14_Lex.con.hout ladingref14_Lex.con.qs x = ladingref14_Lex.con.fn x := by kernel_rfl
theorem ladingref14_Lex.ok [Fuel] : ConOK Tryd.prog ladingref14_Lex.con := con_ok (E := ladingref14_Lex.env) (an := ladingref14_Lex.an) mixed Tryd.func12 (by kernel_rfl) (cons_cons ladingref14_Blank.ok (cons_cons ladingref14_token.ok (cons_nil))) ladingref14_Lex.run
noncomputable abbrev ladingref14_Word.ps : List Ty := [.str]
noncomputable abbrev ladingref14_Word.qs : List Ty := [.bool]
noncomputable def ladingref14_Word.con [Fuel] : Con := ⟨17, [.c (.v (.d .str))], [], [], ladingref14_Word.ps, .one (.v (.d .bool)), [], ladingref14_Word.qs, fun x => ladingref14_Word x⟩
noncomputable def ladingref14_Word.env [Fuel] : Env := ⟨Tryd.prog, [], [ladingref14_letter.con, ladingref14_digit.con], [(15, 0), (27, 0), (33, 1)], [1000000], [], [], [], [], []⟩
noncomputable def ladingref14_Word.an : An := .seq .no (.seq (.join ⟨[(17, .c (.v (.d .bool)))], [], [.bool]⟩ [0] [] true .no (.cond (.seq .no .no) .no)) (.seq (.seq .no (.one (.loop ⟨[(3, .c (.v (.d (.int .i64))))], [], [(.int .i64)]⟩ [0] [] (.seq (.seq .no (.cond .no .no)) (.seq (.one (.join ⟨[(35, .c (.v (.d .bool)))], [], [.bool]⟩ [0, 3] [] true .no (.cond (.seq .no .no) .no))) .no))))) (.seq .no .no)))
set_option maxRecDepth 100000 in
theorem ladingref14_Word.run [Fuel] (x : Tup ladingref14_Word.con.ps) : fnT ladingref14_Word.env Tryd.f17 ladingref14_Word.an ladingref14_Word.con.ain ladingref14_Word.con.kin ladingref14_Word.con.hin ladingref14_Word.con.ps ladingref14_Word.con.out ladingref14_Word.con.hout ladingref14_Word.con.qs x = ladingref14_Word.con.fn x := by kernel_rfl
theorem ladingref14_Word.ok [Fuel] : ConOK Tryd.prog ladingref14_Word.con := con_ok (E := ladingref14_Word.env) (an := ladingref14_Word.an) mixed Tryd.func17 (by kernel_rfl) (cons_cons ladingref14_letter.ok (cons_cons ladingref14_digit.ok (cons_nil))) ladingref14_Word.run
noncomputable abbrev ladingref14_Text.ps : List Ty := [(.sl GTokenT)]
noncomputable abbrev ladingref14_Text.qs : List Ty := [.str]
noncomputable def ladingref14_Text.con [Fuel] : Con := ⟨19, [.c (.v (.d (.sl GTokenT)))], [], [], ladingref14_Text.ps, .one (.v (.d .str)), [], ladingref14_Text.qs, fun x => ladingref14_Text x⟩
noncomputable def ladingref14_Text.env [Fuel] : Env := ⟨Tryd.prog, [], [], [], [], [], [], [], [], []⟩
noncomputable def ladingref14_Text.an : An := .seq .no (.seq .no (.seq .no (.seq (.seq .no (.one (.loop ⟨[(3, .c (.v (.d .str))), (4, .c (.v (.d .bool))), (5, .c (.v (.d (.int .i64))))], [], [.str, .bool, (.int .i64)]⟩ [0] [] (.seq (.seq .no (.cond .no .no)) (.seq (.one (.seq (.seq .no (.cond .no .no)) (.seq (.seq .no (.cond .no .no)) (.seq .no .no)))) .no))))) (.seq .no .no))))
set_option maxRecDepth 100000 in
theorem ladingref14_Text.run [Fuel] (x : Tup ladingref14_Text.con.ps) : fnT ladingref14_Text.env Tryd.f19 ladingref14_Text.an ladingref14_Text.con.ain ladingref14_Text.con.kin ladingref14_Text.con.hin ladingref14_Text.con.ps ladingref14_Text.con.out ladingref14_Text.con.hout ladingref14_Text.con.qs x = ladingref14_Text.con.fn x := by kernel_rfl
theorem ladingref14_Text.ok [Fuel] : ConOK Tryd.prog ladingref14_Text.con := con_ok (E := ladingref14_Text.env) (an := ladingref14_Text.an) mixed Tryd.func19 (by kernel_rfl) (cons_nil) ladingref14_Text.run
noncomputable abbrev ladinglaw14_LexTells.ps : List Ty := [.str, (.sl GTokenT)]
noncomputable abbrev ladinglaw14_LexTells.qs : List Ty := [.bool]
noncomputable def ladinglaw14_LexTells.con [Fuel] : Con := ⟨3, [.c (.v (.d .str)), .c (.v (.d (.sl GTokenT)))], [], [], ladinglaw14_LexTells.ps, .one (.v (.d .bool)), [], ladinglaw14_LexTells.qs, fun x => ladinglaw14_LexTells x.1 x.2⟩
noncomputable def ladinglaw14_LexTells.env [Fuel] : Env := ⟨Tryd.prog, [], [ladinglaw14_small.con, ladinglaw14_cut.con, lex_Lex.con, ladingref14_Lex.con, lex_Number.con, ladingref14_Number.con, ladingref14_Same.con, lex_Word.con, ladingref14_Word.con, lex_Text.con, ladingref14_Text.con], [(18, 0), (38, 1), (41, 2), (47, 3), (53, 4), (58, 5), (65, 6), (89, 7), (91, 8), (96, 9), (98, 10)], [9], [], [], [], [], []⟩
noncomputable def ladinglaw14_LexTells.an : An := .seq .no (.seq .no (.seq (.seq .no (.cond (.seq .no .no) .no)) (.join ⟨[], [], []⟩ [0, 1, 5] [] false (.seq .no (.one (.loop ⟨[(6, .c (.v (.d (.int .i64))))], [], [(.int .i64)]⟩ [0, 1, 5] [] (.seq (.seq .no (.cond .no .no)) (.seq (.one (.seq .no (.cond (.seq .no .no) .no))) .no))))) (.seq .no (.seq .no (.seq .no (.seq .no (.seq .no (.seq .no .no)))))))))
set_option maxRecDepth 100000 in
theorem ladinglaw14_LexTells.run [Fuel] (x : Tup ladinglaw14_LexTells.con.ps) : fnT ladinglaw14_LexTells.env Tryd.f3 ladinglaw14_LexTells.an ladinglaw14_LexTells.con.ain ladinglaw14_LexTells.con.kin ladinglaw14_LexTells.con.hin ladinglaw14_LexTells.con.ps ladinglaw14_LexTells.con.out ladinglaw14_LexTells.con.hout ladinglaw14_LexTells.con.qs x = ladinglaw14_LexTells.con.fn x := by kernel_rfl
theorem ladinglaw14_LexTells.ok [Fuel] : ConOK Tryd.prog ladinglaw14_LexTells.con := con_ok (E := ladinglaw14_LexTells.env) (an := ladinglaw14_LexTells.an) mixed Tryd.func3 (by kernel_rfl) (cons_cons ladinglaw14_small.ok (cons_cons ladinglaw14_cut.ok (cons_cons lex_Lex.ok (cons_cons ladingref14_Lex.ok (cons_cons lex_Number.ok (cons_cons ladingref14_Number.ok (cons_cons ladingref14_Same.ok (cons_cons lex_Word.ok (cons_cons ladingref14_Word.ok (cons_cons lex_Text.ok (cons_cons ladingref14_Text.ok (cons_nil)))))))))))) ladinglaw14_LexTells.run
noncomputable abbrev ladingref14_Like.ps : List Ty := [(.sl GTokenT), (.sl GTokenT)]
noncomputable abbrev ladingref14_Like.qs : List Ty := [.bool]
noncomputable def ladingref14_Like.con [Fuel] : Con := ⟨20, [.c (.v (.d (.sl GTokenT))), .c (.v (.d (.sl GTokenT)))], [], [], ladingref14_Like.ps, .one (.v (.d .bool)), [], ladingref14_Like.qs, fun x => ladingref14_Like x.1 x.2⟩
noncomputable def ladingref14_Like.env [Fuel] : Env := ⟨Tryd.prog, [], [], [], [1000000], [], [], [], [19, 21, 24, 26, 31, 33, 36, 38, 44, 46, 49, 51], []⟩
noncomputable def ladingref14_Like.an : An := .seq .no (.seq (.seq .no (.cond (.seq .no .no) .no)) (.seq (.seq .no (.one (.loop ⟨[(5, .c (.v (.d (.int .i64))))], [], [(.int .i64)]⟩ [0, 1] [] (.seq (.seq .no (.cond .no .no)) (.seq (.one (.join ⟨[(53, .c (.v (.d .bool)))], [], [.bool]⟩ [0, 1, 5] [] true .no (.cond (.seq .no .no) .no))) .no))))) (.seq .no .no)))
set_option maxRecDepth 100000 in
theorem ladingref14_Like.run [Fuel] (x : Tup ladingref14_Like.con.ps) : fnT ladingref14_Like.env Tryd.f20 ladingref14_Like.an ladingref14_Like.con.ain ladingref14_Like.con.kin ladingref14_Like.con.hin ladingref14_Like.con.ps ladingref14_Like.con.out ladingref14_Like.con.hout ladingref14_Like.con.qs x = ladingref14_Like.con.fn x := by kernel_rfl
theorem ladingref14_Like.ok [Fuel] : ConOK Tryd.prog ladingref14_Like.con := con_ok (E := ladingref14_Like.env) (an := ladingref14_Like.an) mixed Tryd.func20 (by kernel_rfl) (cons_nil) ladingref14_Like.run
noncomputable abbrev ladinglaw14_LexBack.ps : List Ty := [.str]
noncomputable abbrev ladinglaw14_LexBack.qs : List Ty := [.bool]
noncomputable def ladinglaw14_LexBack.con [Fuel] : Con := ⟨4, [.c (.v (.d .str))], [], [], ladinglaw14_LexBack.ps, .one (.v (.d .bool)), [], ladinglaw14_LexBack.qs, fun x => ladinglaw14_LexBack x⟩
noncomputable def ladinglaw14_LexBack.env [Fuel] : Env := ⟨Tryd.prog, [], [ladinglaw14_small.con, ladinglaw14_cut.con, lex_Lex.con, lex_Text.con, ladingref14_Like.con], [(11, 0), (14, 1), (15, 2), (28, 3), (31, 2), (43, 4), (47, 3)], [], [], [], [], [], []⟩
noncomputable def ladinglaw14_LexBack.an : An := .seq .no (.seq .no (.seq .no (.seq (.seq .no (.cond (.seq .no .no) .no)) (.seq .no (.seq .no (.seq .no .no))))))
set_option maxRecDepth 100000 in
theorem ladinglaw14_LexBack.run [Fuel] (x : Tup ladinglaw14_LexBack.con.ps) : fnT ladinglaw14_LexBack.env Tryd.f4 ladinglaw14_LexBack.an ladinglaw14_LexBack.con.ain ladinglaw14_LexBack.con.kin ladinglaw14_LexBack.con.hin ladinglaw14_LexBack.con.ps ladinglaw14_LexBack.con.out ladinglaw14_LexBack.con.hout ladinglaw14_LexBack.con.qs x = ladinglaw14_LexBack.con.fn x := by kernel_rfl
theorem ladinglaw14_LexBack.ok [Fuel] : ConOK Tryd.prog ladinglaw14_LexBack.con := con_ok (E := ladinglaw14_LexBack.env) (an := ladinglaw14_LexBack.an) mixed Tryd.func4 (by kernel_rfl) (cons_cons ladinglaw14_small.ok (cons_cons ladinglaw14_cut.ok (cons_cons lex_Lex.ok (cons_cons lex_Text.ok (cons_cons ladingref14_Like.ok (cons_nil)))))) ladinglaw14_LexBack.run
noncomputable abbrev ladinglaw14_LexPlaces.ps : List Ty := [.str]
noncomputable abbrev ladinglaw14_LexPlaces.qs : List Ty := [.bool]
noncomputable def ladinglaw14_LexPlaces.con [Fuel] : Con := ⟨5, [.c (.v (.d .str))], [], [], ladinglaw14_LexPlaces.ps, .one (.v (.d .bool)), [], ladinglaw14_LexPlaces.qs, fun x => ladinglaw14_LexPlaces x⟩
noncomputable def ladinglaw14_LexPlaces.env [Fuel] : Env := ⟨Tryd.prog, [], [ladinglaw14_small.con, ladinglaw14_cut.con, lex_Lex.con, ladingref14_Blank.con], [(12, 0), (14, 1), (17, 2), (114, 3)], [21, 1000000], [], [], [], [98, 100], [93, 95, 97, 102]⟩
noncomputable def ladinglaw14_LexPlaces.an : An := .seq .no (.seq .no (.seq .no (.seq .no (.seq (.seq .no (.cond (.seq .no .no) .no)) (.seq .no (.join ⟨[(8, .c (.v (.d (.int .i64))))], [], [(.int .i64)]⟩ [3, 4, 5, 6] [] false (.seq .no (.one (.loop ⟨[(8, .c (.v (.d (.int .i64)))), (9, .c (.v (.d (.int .i64))))], [], [(.int .i64), (.int .i64)]⟩ [3, 4, 5, 6] [] (.seq (.seq .no (.cond .no .no)) (.seq (.one (.seq .no (.seq (.join ⟨[(90, .c (.v (.d .bool)))], [], [.bool]⟩ [3, 4, 5, 6, 8, 9, 10] [10] true .no (.cond (.seq .no .no) .no)) (.seq (.seq .no (.cond (.seq .no .no) .no)) (.seq (.seq .no (.one (.loop ⟨[(11, .c (.v (.d (.int .i64))))], [], [(.int .i64)]⟩ [3, 4, 5, 6, 9, 10] [10] (.seq (.seq .no (.cond .no .no)) (.seq (.one (.seq .no (.cond (.seq .no .no) .no))) .no))))) .no))))) .no))))) (.seq .no .no)))))))
set_option maxRecDepth 100000 in
theorem ladinglaw14_LexPlaces.run [Fuel] (x : Tup ladinglaw14_LexPlaces.con.ps) : fnT ladinglaw14_LexPlaces.env Tryd.f5 ladinglaw14_LexPlaces.an ladinglaw14_LexPlaces.con.ain ladinglaw14_LexPlaces.con.kin ladinglaw14_LexPlaces.con.hin ladinglaw14_LexPlaces.con.ps ladinglaw14_LexPlaces.con.out ladinglaw14_LexPlaces.con.hout ladinglaw14_LexPlaces.con.qs x = ladinglaw14_LexPlaces.con.fn x := by kernel_rfl
theorem ladinglaw14_LexPlaces.ok [Fuel] : ConOK Tryd.prog ladinglaw14_LexPlaces.con := con_ok (E := ladinglaw14_LexPlaces.env) (an := ladinglaw14_LexPlaces.an) mixed Tryd.func5 (by kernel_rfl) (cons_cons ladinglaw14_small.ok (cons_cons ladinglaw14_cut.ok (cons_cons lex_Lex.ok (cons_cons ladingref14_Blank.ok (cons_nil))))) ladinglaw14_LexPlaces.run
noncomputable abbrev ladinglaw14_LexJoins.ps : List Ty := [.str, .str, (.int .u8)]
noncomputable abbrev ladinglaw14_LexJoins.qs : List Ty := [.bool]
noncomputable def ladinglaw14_LexJoins.con [Fuel] : Con := ⟨6, [.c (.v (.d .str)), .c (.v (.d .str)), .c (.v (.d (.int .u8)))], [], [], ladinglaw14_LexJoins.ps, .one (.v (.d .bool)), [], ladinglaw14_LexJoins.qs, fun x => ladinglaw14_LexJoins x.1 x.2.1 x.2.2⟩
noncomputable def ladinglaw14_LexJoins.env [Fuel] : Env := ⟨Tryd.prog, [], [ladinglaw14_small.con, ladinglaw14_cut.con, lex_Lex.con], [(23, 0), (25, 1), (27, 1), (37, 2), (43, 2), (53, 2)], [23, 1000000], [], [], [], [148, 149], [150]⟩
noncomputable def ladinglaw14_LexJoins.an : An := .seq .no (.seq .no (.seq .no (.seq .no (.seq .no (.seq .no (.seq .no (.seq .no (.seq .no (.seq (.seq .no (.cond (.seq .no .no) .no)) (.seq (.seq .no (.cond (.seq .no .no) .no)) (.seq (.join ⟨[(114, .c (.v (.d .bool)))], [], [.bool]⟩ [7, 8, 12, 15, 18] [] true .no (.cond (.seq .no .no) .no)) (.seq (.seq .no (.one (.loop ⟨[(21, .c (.v (.d (.int .i64))))], [], [(.int .i64)]⟩ [7, 8, 12, 15, 18] [] (.seq (.seq .no (.cond .no .no)) (.seq (.one (.seq .no (.join ⟨[(22, .c (.v (.loc 500001 0)))], [(500001, .box 25 [.d (.int .i64), .d .str, .d (.int .i64), .d (.int .i64)])], [(.int .i64), .str, (.int .i64), (.int .i64)]⟩ [7, 8, 12, 15, 18, 21] [] true (.seq .no (.cond .no (.seq .no .no))) (.seq .no (.cond (.seq .no .no) .no))))) .no))))) (.seq .no .no)))))))))))))
set_option maxRecDepth 100000 in
theorem ladinglaw14_LexJoins.run [Fuel] (x : Tup ladinglaw14_LexJoins.con.ps) : fnT ladinglaw14_LexJoins.env Tryd.f6 ladinglaw14_LexJoins.an ladinglaw14_LexJoins.con.ain ladinglaw14_LexJoins.con.kin ladinglaw14_LexJoins.con.hin ladinglaw14_LexJoins.con.ps ladinglaw14_LexJoins.con.out ladinglaw14_LexJoins.con.hout ladinglaw14_LexJoins.con.qs x = ladinglaw14_LexJoins.con.fn x := by kernel_rfl
theorem ladinglaw14_LexJoins.ok [Fuel] : ConOK Tryd.prog ladinglaw14_LexJoins.con := con_ok (E := ladinglaw14_LexJoins.env) (an := ladinglaw14_LexJoins.an) mixed Tryd.func6 (by kernel_rfl) (cons_cons ladinglaw14_small.ok (cons_cons ladinglaw14_cut.ok (cons_cons lex_Lex.ok (cons_nil)))) ladinglaw14_LexJoins.run
noncomputable abbrev ladinglaw14_LexErrors.ps : List Ty := [.str]
noncomputable abbrev ladinglaw14_LexErrors.qs : List Ty := [.bool]
noncomputable def ladinglaw14_LexErrors.con [Fuel] : Con := ⟨7, [.c (.v (.d .str))], [], [], ladinglaw14_LexErrors.ps, .one (.v (.d .bool)), [], ladinglaw14_LexErrors.qs, fun x => ladinglaw14_LexErrors x⟩
noncomputable def ladinglaw14_LexErrors.env [Fuel] : Env := ⟨Tryd.prog, [], [ladinglaw14_small.con, ladinglaw14_cut.con, lex_Lex.con], [(21, 0), (23, 1), (26, 2), (44, 2), (56, 2), (105, 2), (113, 2)], [7, 1000000], [], [], [], [], []⟩
noncomputable def ladinglaw14_LexErrors.an : An := .seq .no (.seq .no (.seq .no (.seq .no (.seq .no (.join ⟨[(8, .c (.v (.d .str)))], [], [.str]⟩ [3, 4, 5, 6, 7] [] true (.one (.loop ⟨[(8, .c (.v (.d .str)))], [], [.str]⟩ [3, 4, 5, 6, 7] [] (.seq (.seq .no (.cond .no .no)) (.one .no)))) (.seq .no (.seq .no (.seq (.join ⟨[(77, .c (.v (.d .bool)))], [], [.bool]⟩ [3, 4, 6, 7] [] true .no (.cond (.seq .no .no) .no)) (.seq (.seq .no (.cond (.seq .no .no) .no)) (.seq (.join ⟨[(100, .c (.v (.d .bool)))], [], [.bool]⟩ [3, 4, 6, 7] [] true .no (.cond (.seq .no .no) .no)) (.seq .no (.seq .no (.seq .no .no)))))))))))))
set_option maxRecDepth 100000 in
theorem ladinglaw14_LexErrors.run [Fuel] (x : Tup ladinglaw14_LexErrors.con.ps) : fnT ladinglaw14_LexErrors.env Tryd.f7 ladinglaw14_LexErrors.an ladinglaw14_LexErrors.con.ain ladinglaw14_LexErrors.con.kin ladinglaw14_LexErrors.con.hin ladinglaw14_LexErrors.con.ps ladinglaw14_LexErrors.con.out ladinglaw14_LexErrors.con.hout ladinglaw14_LexErrors.con.qs x = ladinglaw14_LexErrors.con.fn x := by kernel_rfl
theorem ladinglaw14_LexErrors.ok [Fuel] : ConOK Tryd.prog ladinglaw14_LexErrors.con := con_ok (E := ladinglaw14_LexErrors.env) (an := ladinglaw14_LexErrors.an) mixed Tryd.func7 (by kernel_rfl) (cons_cons ladinglaw14_small.ok (cons_cons ladinglaw14_cut.ok (cons_cons lex_Lex.ok (cons_nil)))) ladinglaw14_LexErrors.run
noncomputable abbrev ladinglaw14_LexWords.ps : List Ty := [.str]
noncomputable abbrev ladinglaw14_LexWords.qs : List Ty := [.bool]
noncomputable def ladinglaw14_LexWords.con [Fuel] : Con := ⟨8, [.c (.v (.d .str))], [], [], ladinglaw14_LexWords.ps, .one (.v (.d .bool)), [], ladinglaw14_LexWords.qs, fun x => ladinglaw14_LexWords x⟩
noncomputable def ladinglaw14_LexWords.env [Fuel] : Env := ⟨Tryd.prog, [], [ladinglaw14_small.con, ladinglaw14_cut.con, lex_Lex.con, lex_Number.con, lex_Word.con], [(12, 0), (14, 1), (17, 2), (23, 3), (27, 4)], [1000000], [], [], [], [], []⟩
noncomputable def ladinglaw14_LexWords.an : An := .seq .no (.seq .no (.seq .no (.seq .no (.seq .no (.seq .no (.seq (.join ⟨[(34, .c (.v (.d .bool)))], [], [.bool]⟩ [3, 4, 5, 8, 9, 10] [] true .no (.cond (.seq .no .no) .no)) (.seq .no (.seq (.join ⟨[(75, .c (.v (.d .bool)))], [], [.bool]⟩ [3, 4, 5, 8, 9, 10] [] true .no (.cond (.seq .no .no) .no)) (.seq .no .no)))))))))
set_option maxRecDepth 100000 in
theorem ladinglaw14_LexWords.run [Fuel] (x : Tup ladinglaw14_LexWords.con.ps) : fnT ladinglaw14_LexWords.env Tryd.f8 ladinglaw14_LexWords.an ladinglaw14_LexWords.con.ain ladinglaw14_LexWords.con.kin ladinglaw14_LexWords.con.hin ladinglaw14_LexWords.con.ps ladinglaw14_LexWords.con.out ladinglaw14_LexWords.con.hout ladinglaw14_LexWords.con.qs x = ladinglaw14_LexWords.con.fn x := by kernel_rfl
theorem ladinglaw14_LexWords.ok [Fuel] : ConOK Tryd.prog ladinglaw14_LexWords.con := con_ok (E := ladinglaw14_LexWords.env) (an := ladinglaw14_LexWords.an) mixed Tryd.func8 (by kernel_rfl) (cons_cons ladinglaw14_small.ok (cons_cons ladinglaw14_cut.ok (cons_cons lex_Lex.ok (cons_cons lex_Number.ok (cons_cons lex_Word.ok (cons_nil)))))) ladinglaw14_LexWords.run
end Go.Proofs.YtblcedjcialnhaaDoor
