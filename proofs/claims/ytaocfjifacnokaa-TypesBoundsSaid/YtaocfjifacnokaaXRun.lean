import Derived.Test.YtaocfjifacnokaaXModel
import Derived.Test.YtaocfjifacnokaaD12
import Derived.Test.YtaocfjifacnokaaSh
import Derived.Test.YtaocfjifacnokaaIns3
import Derived.Test.YtaocfjifacnokaaIt
namespace Go.Proofs.Ytaocfjifacnokaa
open Go.Lad
set_option linter.unusedVariables false
set_option maxRecDepth 100000
theorem mixed:Try.prog.follows .mixedOrders = true:=by kernel_rfl
noncomputable abbrev iT:Ty := .int .i64
noncomputable abbrev liT:Ty := .sl iT
noncomputable abbrev lliT:Ty := .sl liT
noncomputable abbrev lbT:Ty := .sl .bool
noncomputable abbrev lsT:Ty := .sl .str
noncomputable abbrev aD (t:Ty):SSh := .c (.v (.d t))
noncomputable def GTypeT:Ty:=(.pair iT (.slu 0))
noncomputable def GFieldT:Ty:=(.pair .str GTypeT)
noncomputable def GExpT:Ty:=(.pair iT (.pair iT (.pair .str (.pair .str (.pair lsT (.slu 1))))))
noncomputable def GFuncT:Ty:=(.pair .str (.pair .bool (.pair (.slu 0) (.pair GTypeT (.pair iT GExpT)))))
noncomputable def GMigrationT:Ty:=(.pair (.slu 0) (.pair (.slu 1) (.slu 1)))
noncomputable def GModuleT:Ty:=(.pair .str (.pair lsT (.pair (.slu 0) (.pair (.slu 1) (.pair (.sl GFuncT) (.pair .bool GMigrationT))))))
noncomputable def GSigT:Ty:=(.pair .str (.pair (.sl GTypeT) (.pair GTypeT iT)))
noncomputable def GFaceT:Ty:=(.pair .str (.sl GSigT))
namespace ladinglaw16_rec
noncomputable def con [Fuel]:Con:=⟨24,[.c (.v (.d (.sl GFieldT)))],[],[],[(.sl GFieldT)],.one (.a GTypeT),[],[GTypeT],fun x=>ladinglaw16_rec x⟩
noncomputable def env [Fuel]:Env:=⟨Try.prog,[],[],[],[],[],[],[],[],[],[],[]⟩
noncomputable def an:An := .seq .no (.seq .no .no)
theorem run [Fuel]:RunIs env Try.f24 an con:=fun x=>by kernel_rfl
theorem ok [Fuel]:ConOK Try.prog con:=run_ok (E:=env) run mixed Try.func24 (by kernel_rfl) (cons_nil)
end ladinglaw16_rec
namespace lex_letter
noncomputable def con [Fuel]:Con:=⟨77,[.c (.v (.d (.int .u8)))],[],[],[(.int .u8)],.one (.v (.d .bool)),[],[.bool],fun x=>lex_letter x⟩
noncomputable def env [Fuel]:Env:=⟨Try.prog,[],[],[],[],[],[],[],[],[],[],[]⟩
noncomputable def an:An := .seq .no (.seq .no .no)
theorem run [Fuel]:RunIs env Try.f77 an con:=fun x=>by kernel_rfl
theorem ok [Fuel]:ConOK Try.prog con:=run_ok (E:=env) run mixed Try.func77 (by kernel_rfl) (cons_nil)
end lex_letter
namespace lex_digit
noncomputable def con [Fuel]:Con:=⟨80,[.c (.v (.d (.int .u8)))],[],[],[(.int .u8)],.one (.v (.d .bool)),[],[.bool],fun x=>lex_digit x⟩
noncomputable def env [Fuel]:Env:=⟨Try.prog,[],[],[],[],[],[],[],[],[],[],[]⟩
noncomputable def an:An := .seq .no (.seq .no .no)
theorem run [Fuel]:RunIs env Try.f80 an con:=fun x=>by kernel_rfl
theorem ok [Fuel]:ConOK Try.prog con:=run_ok (E:=env) run mixed Try.func80 (by kernel_rfl) (cons_nil)
end lex_digit
namespace lex_Word_1
noncomputable def con [Fuel]:Con:=⟨79,[.c (.v (.d (.int .u8)))],[],[],[(.int .u8)],.one (.v (.d .bool)),[],[.bool],fun x=>lex_Word_1 x⟩
noncomputable def env [Fuel]:Env:=⟨Try.prog,[],[lex_letter.con,lex_digit.con],[(4,0),(7,1)],[],[],[],[],[],[],[],[]⟩
noncomputable def an:An := .seq .no (.seq .no .no)
theorem run [Fuel]:RunIs env Try.f79 an con:=fun x=>by kernel_rfl
theorem ok [Fuel]:ConOK Try.prog con:=run_ok (E:=env) run mixed Try.func79 (by kernel_rfl) (cons_cons lex_letter.ok (cons_cons lex_digit.ok (cons_nil)))
end lex_Word_1
namespace lex_span
noncomputable def con [Fuel]:Con:=⟨78,[.c (.v (.d .str)),.c (.v (.fn 158 []))],[],[],[.str],.one (.v (.d iT)),[],[iT],fun x=>lex_span x⟩
noncomputable def env [Fuel]:Env:=⟨Try.prog,[],[lex_Word_1.con],[(15,0)],[1000000],[],[],[],[],[],[],[]⟩
noncomputable def an:An := .seq .no (.seq .no (.seq (.one (.loop ⟨[(5,(aD iT))],[],[iT]⟩ [0,1] [] (.seq (.join ⟨[(16,.c (.v (.d .bool)))],[],[.bool]⟩ [0,1,5] [] true .no (.cond .no .no)) (.one .no)))) (.seq .no .no)))
theorem run [Fuel]:RunIs env Try.f78 an con:=fun x=>by kernel_rfl
theorem ok [Fuel]:ConOK Try.prog con:=run_ok (E:=env) run mixed Try.func78 (by kernel_rfl) (cons_cons lex_Word_1.ok (cons_nil))
end lex_span
namespace lex_Word
noncomputable def con [Fuel]:Con:=⟨69,[.c (.v (.d .str))],[],[],[.str],.one (.v (.d .bool)),[],[.bool],fun x=>lex_Word x⟩
noncomputable def env [Fuel]:Env:=⟨Try.prog,[],[lex_letter.con,lex_span.con],[(8,0),(17,1)],[1000000],[],[],[],[],[],[],[]⟩
noncomputable def an:An := .seq .no (.seq (.join ⟨[(15,.c (.v (.d .bool)))],[],[.bool]⟩ [0] [] true .no (.cond (.seq .no .no) .no)) (.seq .no .no))
theorem run [Fuel]:RunIs env Try.f69 an con:=fun x=>by kernel_rfl
theorem ok [Fuel]:ConOK Try.prog con:=run_ok (E:=env) run mixed Try.func69 (by kernel_rfl) (cons_cons lex_letter.ok (cons_cons lex_span.ok (cons_nil)))
end lex_Word
noncomputable def strings_Contains.con [Fuel]:Con:=containsCon 70
theorem strings_Contains.ok [Fuel]:ConOK Try.prog strings_Contains.con:=contains_con (g:=0) (by kernel_rfl) rfl Go.Proofs.Try.strings_Contains
namespace syntax_Name
noncomputable def con [Fuel]:Con:=⟨51,[.c (.v (.d .str))],[],[],[.str],.one (.v (.d .bool)),[],[.bool],fun x=>syntax_Name x⟩
noncomputable def env [Fuel]:Env:=⟨Try.prog,[],[lex_Word.con,strings_Contains.con],[(4,0),(9,1)],[],[],[],[],[],[],[],[]⟩
noncomputable def an:An := .seq .no (.seq .no .no)
theorem run [Fuel]:RunIs env Try.f51 an con:=fun x=>by kernel_rfl
theorem ok [Fuel]:ConOK Try.prog con:=run_ok (E:=env) run mixed Try.func51 (by kernel_rfl) (cons_cons lex_Word.ok (cons_cons strings_Contains.ok (cons_nil)))
end syntax_Name
noncomputable abbrev syntax_rightType.ps:List Ty:=[iT,(.sl GFieldT),iT]
noncomputable abbrev syntax_rightType.qs:List Ty:=[.bool]
noncomputable def syntax_rightType.conG [Fuel] (Gr:Int → List GField → Int → Option Bool):Con:=⟨48,[.c (.g [.d iT,.d (.sl GFieldT)]),(aD iT)],[],[],syntax_rightType.ps,.one (.v (.d .bool)),[],syntax_rightType.qs,fun x=>Gr x.1 x.2.1 x.2.2⟩
namespace syntax_rightType
noncomputable def con [Fuel]:Con:=conG (rec Fuel.n)
noncomputable def env [Fuel] (Gr:Int → List GField → Int → Option Bool):Env:=⟨Try.prog,[],[syntax_Name.con,(syntax_rightType.conG Gr)],[(46,0),(69,1)],[1000000],[],[],[],[58,60],[45,53,55,66],[],[]⟩
noncomputable def an:An := .seq .no (.seq (.join ⟨[(35,.c (.v (.d .bool)))],[],[.bool]⟩ [1,2] [2] true .no (.cond (.seq .no .no) .no)) (.seq (.seq .no (.one (.loop ⟨[(39,(aD iT))],[],[iT]⟩ [1,2,37,38] [2] (.seq .no (.seq (.cond .no .no) (.seq (.one (.seq .no (.join ⟨[(71,.c (.v (.d .bool)))],[],[.bool]⟩ [1,2,37,38,39] [2] true .no (.cond (.seq .no .no) .no)))) .no)))))) (.seq .no .no)))
theorem run [Fuel] (Gr:Int → List GField → Int → Option Bool):RunIs (env Gr) Try.f48 an (conG (body Gr)):=fun x=>by kernel_rfl
theorem okB [Fuel] (Gr:Int → List GField → Int → Option Bool) (hG:ConOK Try.prog (conG Gr)):ConOK Try.prog (conG (body Gr)):=run_ok (E:=(env Gr)) (run Gr) mixed Try.func48 (by kernel_rfl) (cons_cons syntax_Name.ok (cons_cons hG (cons_nil)))
theorem okN [Fuel]:∀ n,ConOK Try.prog (conG (rec n))
 | 0=>⟨by kernel_rfl,fun x r h=>by have h2:(none:Option (Tup syntax_rightType.qs)) = some r:=h; cases h2⟩
 | n + 1=>okB (rec n) (okN n)
theorem ok [Fuel]:ConOK Try.prog con:=okN _
end syntax_rightType
namespace syntax_RightType
noncomputable def con [Fuel]:Con:=⟨31,[.c (.g [.d iT,.d (.sl GFieldT)])],[],[],[iT,(.sl GFieldT)],.one (.v (.d .bool)),[],[.bool],fun x=>syntax_RightType x.1 x.2⟩
noncomputable def env [Fuel]:Env:=⟨Try.prog,[],[syntax_rightType.con],[(4,0)],[],[],[],[],[],[],[],[]⟩
noncomputable def an:An := .seq .no (.seq .no .no)
theorem run [Fuel]:RunIs env Try.f31 an con:=fun x=>by kernel_rfl
theorem ok [Fuel]:ConOK Try.prog con:=run_ok (E:=env) run mixed Try.func31 (by kernel_rfl) (cons_cons syntax_rightType.ok (cons_nil))
end syntax_RightType
namespace types_Right
noncomputable def con [Fuel]:Con:=⟨14,[.c (.g [.d iT,.d (.sl GFieldT)])],[],[],[iT,(.sl GFieldT)],.one (.v (.d .bool)),[],[.bool],fun x=>types_Right x.1 x.2⟩
noncomputable def env [Fuel]:Env:=⟨Try.prog,[],[syntax_RightType.con],[(4,0)],[],[],[],[],[],[],[],[]⟩
noncomputable def an:An := .seq .no (.seq .no .no)
theorem run [Fuel]:RunIs env Try.f14 an con:=fun x=>by kernel_rfl
theorem ok [Fuel]:ConOK Try.prog con:=run_ok (E:=env) run mixed Try.func14 (by kernel_rfl) (cons_cons syntax_RightType.ok (cons_nil))
end types_Right
namespace slices_Backward_api_Field_api_Field
noncomputable def con [Fuel]:Con:=⟨66,[.c (.v (.d (.sl GFieldT)))],[],[],[(.sl GFieldT)],.one (.v (.fn 152 [0])),[(0,.box 22 [.d (.sl GFieldT)])],[(.sl GFieldT)],fun x=>slices_Backward_api_Field_api_Field x⟩
noncomputable def env [Fuel]:Env:=⟨Try.prog,[],[],[],[],[],[],[],[],[],[],[]⟩
noncomputable def an:An := .seq .no (.seq .no .no)
theorem run [Fuel]:RunIs env Try.f66 an con:=fun x=>by kernel_rfl
theorem ok [Fuel]:ConOK Try.prog con:=run_ok (E:=env) run mixed Try.func66 (by kernel_rfl) (cons_nil)
end slices_Backward_api_Field_api_Field
namespace types_lookup
noncomputable def con [Fuel]:Con:=⟨45,[.c (.v (.d (.sl GFieldT))),.c (.v (.d .str))],[],[],[(.sl GFieldT),.str],.tup [.a GTypeT,.v (.d .bool)],[],[GTypeT,.bool],fun x=>types_lookup x.1 x.2⟩
noncomputable def env [Fuel]:Env:=⟨Try.prog,[],[slices_Backward_api_Field_api_Field.con],[(9,0)],[],[],[],[],[],[],[itBack],[]⟩
noncomputable def an:An := .seq .no (.seq (.seq .no (.one (.range ⟨[],[],[]⟩ [3,4,5,9] [3,4,5,9] .no (.one (.seq .no (.cond (.seq .no .no) .no)))))) (.seq .no .no))
theorem run [Fuel]:RunIs env Try.f45 an con:=fun x=>by kernel_rfl
theorem ok [Fuel]:ConOK Try.prog con:=run_ok (E:=env) run mixed Try.func45 (by kernel_rfl) (cons_cons slices_Backward_api_Field_api_Field.ok (cons_nil)) (its_cons itBack_ok (its_nil))
end types_lookup
noncomputable abbrev types_upper.ps:List Ty:=[iT,(.sl GFieldT),iT,(.sl GFieldT)]
noncomputable abbrev types_upper.qs:List Ty:=[GTypeT,.bool]
noncomputable def types_upper.conG [Fuel] (Gr:Int → List GField → Int → List GField → Option (GType × Bool)):Con:=⟨28,[.c (.g [.d iT,.d (.sl GFieldT)]),.c (.g [.d iT,.d (.sl GFieldT)])],[],[],types_upper.ps,.tup [.a GTypeT,.v (.d .bool)],[],types_upper.qs,fun x=>Gr x.1 x.2.1 x.2.2.1 x.2.2.2⟩
namespace types_upper
noncomputable def con [Fuel]:Con:=conG (rec Fuel.n)
noncomputable def env [Fuel] (Gr:Int → List GField → Int → List GField → Option (GType × Bool)):Env:=⟨Try.prog,[(22,GFieldT)],[types_lookup.con,(types_upper.conG Gr)],[(34,0),(42,1)],[],[],[],[52],[],[],[],[]⟩
noncomputable def an:An := .seq .no (.seq (.seq .no (.cond (.seq .no .no) .no)) (.seq .no (.seq (.seq .no (.one (.loop ⟨[(6,.c (.v (.loc 500004 0))),(25,(aD iT))],[(500004,.box 24 [.d iT,.own 500005]),(500005,.arr 48 GFieldT)],[iT,iT,(.sl GFieldT)]⟩ [3,4,23,24] [3,4] (.seq .no (.seq (.cond .no .no) (.seq (.one (.seq .no (.seq .no (.seq .no (.cond (.seq .no (.seq .no (.cond .no .no))) .no))))) .no)))))) (.seq .no .no))))
theorem run [Fuel] (Gr:Int → List GField → Int → List GField → Option (GType × Bool)):RunIs (env Gr) Try.f28 an (conG (body Gr)):=fun x=>by kernel_rfl
theorem okB [Fuel] (Gr:Int → List GField → Int → List GField → Option (GType × Bool)) (hG:ConOK Try.prog (conG Gr)):ConOK Try.prog (conG (body Gr)):=run_ok (E:=(env Gr)) (run Gr) mixed Try.func28 (by kernel_rfl) (cons_cons types_lookup.ok (cons_cons hG (cons_nil)))
theorem okN [Fuel]:∀ n,ConOK Try.prog (conG (rec n))
 | 0=>⟨by kernel_rfl,fun x r h=>by have h2:(none:Option (Tup types_upper.qs)) = some r:=h; cases h2⟩
 | n + 1=>okB (rec n) (okN n)
theorem ok [Fuel]:ConOK Try.prog con:=okN _
end types_upper
namespace types_Join
noncomputable def con [Fuel]:Con:=⟨11,[.c (.g [.d iT,.d (.sl GFieldT)]),.c (.g [.d iT,.d (.sl GFieldT)])],[],[],[iT,(.sl GFieldT),iT,(.sl GFieldT)],.tup [.a GTypeT,.v (.d .bool)],[],[GTypeT,.bool],fun x=>types_Join x.1 x.2.1 x.2.2.1 x.2.2.2⟩
noncomputable def env [Fuel]:Env:=⟨Try.prog,[],[types_Right.con,types_upper.con],[(7,0),(11,0),(17,1)],[1000000],[],[],[],[],[],[],[]⟩
noncomputable def an:An := .seq .no (.seq (.join ⟨[(13,.c (.v (.d .bool)))],[],[.bool]⟩ [2,3,4] [2,3,4] true .no (.cond (.seq .no .no) .no)) (.seq .no .no))
theorem run [Fuel]:RunIs env Try.f11 an con:=fun x=>by kernel_rfl
theorem ok [Fuel]:ConOK Try.prog con:=run_ok (E:=env) run mixed Try.func11 (by kernel_rfl) (cons_cons types_Right.ok (cons_cons types_upper.ok (cons_nil)))
end types_Join
noncomputable abbrev types_fresh_v2.ps:List Ty:=[iT,(.sl GFieldT)]
noncomputable abbrev types_fresh_v2.qs:List Ty:=[GTypeT]
noncomputable def types_fresh_v2.conG [Fuel] (Gr:Int → List GField → Option GType):Con:=⟨39,[.c (.g [.d iT,.d (.sl GFieldT)])],[],[],types_fresh_v2.ps,.one (.a GTypeT),[],types_fresh_v2.qs,fun x=>Gr x.1 x.2⟩
namespace types_fresh_v2
noncomputable def con [Fuel]:Con:=conG (rec Fuel.n)
noncomputable def env [Fuel] (Gr:Int → List GField → Option GType):Env:=⟨Try.prog,[(22,GFieldT)],[(types_fresh_v2.conG Gr)],[(22,0)],[],[],[],[24],[],[17,19,21,19000048,21000048,27000024],[],[]⟩
noncomputable def an:An := .seq .no (.seq .no (.seq (.seq .no (.one (.loop ⟨[(3,.c (.v (.loc 500004 0))),(12,(aD iT))],[(500004,.box 24 [.d iT,.own 500005]),(500005,.arr 48 GFieldT)],[iT,iT,(.sl GFieldT)]⟩ [2,10,11] [2] (.seq .no (.seq (.cond .no .no) (.seq (.one (.seq .no .no)) .no)))))) (.seq .no .no)))
theorem run [Fuel] (Gr:Int → List GField → Option GType):RunIs (env Gr) Try.f39 an (conG (body Gr)):=fun x=>by kernel_rfl
theorem okB [Fuel] (Gr:Int → List GField → Option GType) (hG:ConOK Try.prog (conG Gr)):ConOK Try.prog (conG (body Gr)):=run_ok (E:=(env Gr)) (run Gr) mixed Try.func39 (by kernel_rfl) (cons_cons hG (cons_nil))
theorem okN [Fuel]:∀ n,ConOK Try.prog (conG (rec n))
 | 0=>⟨by kernel_rfl,fun x r h=>by have h2:(none:Option (Tup types_fresh_v2.qs)) = some r:=h; cases h2⟩
 | n + 1=>okB (rec n) (okN n)
theorem ok [Fuel]:ConOK Try.prog con:=okN _
end types_fresh_v2
namespace types_fresh
noncomputable def con [Fuel]:Con:=⟨39,[.c (.g [.d iT,.d (.sl GFieldT)])],[],[],[iT,(.sl GFieldT)],.one (.g [.d iT,.own 0]),[(0,.arr 48 GFieldT)],[iT,(.sl GFieldT)],fun x=>types_fresh x.1 x.2⟩
noncomputable def env [Fuel]:Env:=⟨Try.prog,[(22,GFieldT)],[types_fresh_v2.con],[(22,0)],[],[],[],[24],[],[17,19,21,19000048,21000048,27000024],[],[]⟩
noncomputable def an:An := .seq .no (.seq .no (.seq (.seq .no (.one (.loop ⟨[(3,.c (.v (.loc 500004 0))),(12,(aD iT))],[(500004,.box 24 [.d iT,.own 500005]),(500005,.arr 48 GFieldT)],[iT,iT,(.sl GFieldT)]⟩ [2,10,11] [2] (.seq .no (.seq (.cond .no .no) (.seq (.one (.seq .no .no)) .no)))))) (.seq .no .no)))
theorem run [Fuel]:RunIs env Try.f39 an con:=fun x=>by kernel_rfl
theorem ok [Fuel]:ConOK Try.prog con:=run_ok (E:=env) run mixed Try.func39 (by kernel_rfl) (cons_cons types_fresh_v2.ok (cons_nil))
end types_fresh
namespace types_lower_1
noncomputable def con [Fuel]:Con:=⟨43,[.c (.g [.d .str,.d iT,.d (.sl GFieldT)]),.c (.v (.d .str))],[],[],[.str,iT,(.sl GFieldT),.str],.one (.v (.d iT)),[],[iT],fun x=>types_lower_1 x.1 x.2.1 x.2.2.1 x.2.2.2⟩
noncomputable def env [Fuel]:Env:=⟨Try.prog,[],[],[],[],[],[],[],[],[],[],[]⟩
noncomputable def an:An := .seq .no (.seq (.one (.seq .no (.cond (.seq .no .no) (.seq .no (.cond (.seq .no .no) .no))))) (.seq .no .no))
theorem run [Fuel]:RunIs env Try.f43 an con:=fun x=>by kernel_rfl
theorem ok [Fuel]:ConOK Try.prog con:=run_ok (E:=env) run mixed Try.func43 (by kernel_rfl) (cons_nil)
end types_lower_1
namespace slices_BinarySearchFunc_api_Field_api_Field_string
noncomputable def con [Fuel]:Con:=⟨42,[.c (.v (.d (.sl GFieldT))),.c (.v (.d .str)),.c (.v (.fn 86 []))],[],[],[(.sl GFieldT),.str],.tup [.v (.d iT),.v (.d .bool)],[],[iT,.bool],fun x=>slices_BinarySearchFunc_api_Field_api_Field_string x.1 x.2⟩
noncomputable def env [Fuel]:Env:=⟨Try.prog,[],[types_lower_1.con],[(30,0),(46,0)],[8],[],[],[],[],[],[],[]⟩
noncomputable def an:An := .seq .no (.seq .no (.seq .no (.join ⟨[(9,(aD iT))],[],[iT]⟩ [0,1,2,8] [] true (.one (.loop ⟨[(9,(aD iT)),(10,(aD iT))],[],[iT,iT]⟩ [0,1,2,8] [] (.seq (.seq .no (.cond .no .no)) (.one (.seq .no (.seq .no (.cond .no .no))))))) (.seq .no .no))))
theorem run [Fuel]:RunIs env Try.f42 an con:=fun x=>by kernel_rfl
theorem ok [Fuel]:ConOK Try.prog con:=run_ok (E:=env) run mixed Try.func42 (by kernel_rfl) (cons_cons types_lower_1.ok (cons_nil))
end slices_BinarySearchFunc_api_Field_api_Field_string
noncomputable def slices_Insert_Field.con [Fuel]:Con:=insCon 44 48 GFieldT
theorem slices_Insert_Field.ok [Fuel]:ConOK Try.prog slices_Insert_Field.con:=ins_con (by kernel_rfl)
noncomputable abbrev types_lower.ps:List Ty:=[iT,(.sl GFieldT),iT,(.sl GFieldT)]
noncomputable abbrev types_lower.qs:List Ty:=[GTypeT,.bool]
noncomputable def types_lower.conG [Fuel] (Gr:Int → List GField → Int → List GField → Option (GType × Bool)):Con:=⟨27,[.c (.g [.d iT,.d (.sl GFieldT)]),.c (.g [.d iT,.d (.sl GFieldT)])],[],[],types_lower.ps,.tup [.a GTypeT,.v (.d .bool)],[],types_lower.qs,fun x=>Gr x.1 x.2.1 x.2.2.1 x.2.2.2⟩
namespace types_lower
noncomputable def con [Fuel]:Con:=conG (rec Fuel.n)
noncomputable def env [Fuel] (Gr:Int → List GField → Int → List GField → Option (GType × Bool)):Env:=⟨Try.prog,[(22,GFieldT)],[types_fresh.con,slices_BinarySearchFunc_api_Field_api_Field_string.con,types_fresh_v2.con,slices_Insert_Field.con,(types_lower.conG Gr)],[(20,0),(33,1),(45,2),(48,3),(59,4)],[],[48],[],[47],[],[39,42,44,52,58,12000024,42000048,44000048,50000024,58000048],[],[]⟩
noncomputable def an:An := .seq .no (.seq (.seq .no (.cond (.seq .no .no) .no)) (.seq .no (.seq (.seq .no (.one (.loop ⟨[(6,.c (.v (.loc 500001 0))),(24,(aD iT))],[(500001,.box 24 [.d iT,.own 500002]),(500002,.arr 48 GFieldT)],[iT,iT,(.sl GFieldT)]⟩ [4,22,23] [4] (.seq .no (.seq (.cond .no .no) (.seq (.one (.seq .no (.seq .no (.seq (.seq .no (.cond (.seq .no .no) .no)) (.seq .no (.seq (.seq .no (.cond (.seq .no .no) .no)) .no)))))) .no)))))) (.seq .no .no))))
theorem run [Fuel] (Gr:Int → List GField → Int → List GField → Option (GType × Bool)):RunIs (env Gr) Try.f27 an (conG (body Gr)):=fun x=>by kernel_rfl
theorem okB [Fuel] (Gr:Int → List GField → Int → List GField → Option (GType × Bool)) (hG:ConOK Try.prog (conG Gr)):ConOK Try.prog (conG (body Gr)):=run_ok (E:=(env Gr)) (run Gr) mixed Try.func27 (by kernel_rfl) (cons_cons types_fresh.ok (cons_cons slices_BinarySearchFunc_api_Field_api_Field_string.ok (cons_cons types_fresh_v2.ok (cons_cons slices_Insert_Field.ok (cons_cons hG (cons_nil))))))
theorem okN [Fuel]:∀ n,ConOK Try.prog (conG (rec n))
 | 0=>⟨by kernel_rfl,fun x r h=>by have h2:(none:Option (Tup types_lower.qs)) = some r:=h; cases h2⟩
 | n + 1=>okB (rec n) (okN n)
theorem ok [Fuel]:ConOK Try.prog con:=okN _
end types_lower
namespace types_Meet
noncomputable def con [Fuel]:Con:=⟨10,[.c (.g [.d iT,.d (.sl GFieldT)]),.c (.g [.d iT,.d (.sl GFieldT)])],[],[],[iT,(.sl GFieldT),iT,(.sl GFieldT)],.tup [.a GTypeT,.v (.d .bool)],[],[GTypeT,.bool],fun x=>types_Meet x.1 x.2.1 x.2.2.1 x.2.2.2⟩
noncomputable def env [Fuel]:Env:=⟨Try.prog,[],[types_Right.con,types_lower.con],[(9,0),(13,0),(20,1),(27,0)],[1000000],[],[],[],[],[],[],[]⟩
noncomputable def an:An := .seq .no (.seq (.join ⟨[(15,.c (.v (.d .bool)))],[],[.bool]⟩ [2,3,4] [2,3,4] true .no (.cond (.seq .no .no) .no)) (.seq .no (.seq (.join ⟨[(29,.c (.v (.d .bool)))],[],[.bool]⟩ [4,6] [4,6] true .no (.cond (.seq .no .no) .no)) (.seq .no .no))))
theorem run [Fuel]:RunIs env Try.f10 an con:=fun x=>by kernel_rfl
theorem ok [Fuel]:ConOK Try.prog con:=run_ok (E:=env) run mixed Try.func10 (by kernel_rfl) (cons_cons types_Right.ok (cons_cons types_lower.ok (cons_nil)))
end types_Meet
namespace ladinglaw16_num
noncomputable def con [Fuel]:Con:=⟨25,[(aD iT)],[],[],[iT],.one (.a GExpT),[],[GExpT],fun x=>ladinglaw16_num x⟩
noncomputable def env [Fuel]:Env:=⟨Try.prog,[],[],[],[],[],[],[],[],[],[],[]⟩
noncomputable def an:An := .seq .no (.seq .no .no)
theorem run [Fuel]:RunIs env Try.f25 an con:=fun x=>by kernel_rfl
theorem ok [Fuel]:ConOK Try.prog con:=run_ok (E:=env) run mixed Try.func25 (by kernel_rfl) (cons_nil)
end ladinglaw16_num
namespace types_TypeOf_1
noncomputable def con [Fuel]:Con:=⟨34,[.c (.g [.d .str,.d iT,.d (.sl GFieldT)])],[],[],[.str,iT,(.sl GFieldT)],.one (.v (.d .bool)),[],[.bool],fun x=>types_TypeOf_1 x.1 x.2.1 x.2.2⟩
noncomputable def env [Fuel]:Env:=⟨Try.prog,[],[types_Right.con],[(5,0)],[],[],[],[],[],[],[],[]⟩
noncomputable def an:An := .seq .no (.seq .no .no)
theorem run [Fuel]:RunIs env Try.f34 an con:=fun x=>by kernel_rfl
theorem ok [Fuel]:ConOK Try.prog con:=run_ok (E:=env) run mixed Try.func34 (by kernel_rfl) (cons_cons types_Right.ok (cons_nil))
end types_TypeOf_1
namespace slices_IndexFunc_api_Field_api_Field
noncomputable def con [Fuel]:Con:=⟨49,[.c (.v (.d (.sl GFieldT))),.c (.v (.fn 68 []))],[],[],[(.sl GFieldT)],.one (.v (.d iT)),[],[iT],fun x=>slices_IndexFunc_api_Field_api_Field x⟩
noncomputable def env [Fuel]:Env:=⟨Try.prog,[],[types_TypeOf_1.con],[(16,0)],[],[],[],[],[],[],[],[]⟩
noncomputable def an:An := .seq .no (.seq (.seq .no (.one (.loop ⟨[(8,(aD iT))],[],[iT]⟩ [0,1,7] [] (.seq .no (.seq (.cond .no .no) (.seq (.one (.seq .no (.seq .no (.cond (.seq .no .no) .no)))) .no)))))) (.seq .no .no))
theorem run [Fuel]:RunIs env Try.f49 an con:=fun x=>by kernel_rfl
theorem ok [Fuel]:ConOK Try.prog con:=run_ok (E:=env) run mixed Try.func49 (by kernel_rfl) (cons_cons types_TypeOf_1.ok (cons_nil))
end slices_IndexFunc_api_Field_api_Field
namespace slices_ContainsFunc_api_Field_api_Field
noncomputable def con [Fuel]:Con:=⟨33,[.c (.v (.d (.sl GFieldT))),.c (.v (.fn 68 []))],[],[],[(.sl GFieldT)],.one (.v (.d .bool)),[],[.bool],fun x=>slices_ContainsFunc_api_Field_api_Field x⟩
noncomputable def env [Fuel]:Env:=⟨Try.prog,[],[slices_IndexFunc_api_Field_api_Field.con],[(7,0)],[],[],[],[],[],[],[],[]⟩
noncomputable def an:An := .seq .no (.seq .no .no)
theorem run [Fuel]:RunIs env Try.f33 an con:=fun x=>by kernel_rfl
theorem ok [Fuel]:ConOK Try.prog con:=run_ok (E:=env) run mixed Try.func33 (by kernel_rfl) (cons_cons slices_IndexFunc_api_Field_api_Field.ok (cons_nil))
end slices_ContainsFunc_api_Field_api_Field
namespace syntax_clean
noncomputable def con [Fuel]:Con:=⟨67,[.c (.g [.d iT,.d iT,.d .str,.d .str,.d lsT,.d (.sl GExpT)])],[],[],[iT,iT,.str,.str,lsT,(.sl GExpT)],.tup [.a GExpT,.v (.d iT)],[],[GExpT,iT],fun x=>syntax_clean x.1 x.2.1 x.2.2.1 x.2.2.2.1 x.2.2.2.2.1 x.2.2.2.2.2⟩
noncomputable def env [Fuel]:Env:=⟨Try.prog,[],[],[],[1000000],[],[],[],[59],[56,58,63,65,3500002,5500004,58500001,63500001,65500001,67500004,68500004],[],[]⟩
noncomputable def an:An := .seq .no (.seq .no (.seq (.seq .no (.one (.join ⟨[(12,.c (.v (.d .bool)))],[],[.bool]⟩ [1,2,4,11] [1,2,4] true (.seq .no (.cond .no .no)) (.cond (.seq .no (.seq .no .no)) (.join ⟨[(19,.c (.v (.d .bool)))],[],[.bool]⟩ [1,2,4,11] [1,2,4] true (.seq .no (.cond .no .no)) (.cond (.seq .no (.seq .no .no)) (.join ⟨[(26,.c (.v (.d .bool)))],[],[.bool]⟩ [1,2,4,11] [1,2,4] true (.seq .no (.cond .no .no)) (.cond (.seq .no (.seq .no .no)) (.seq .no (.cond (.seq .no (.seq .no .no)) (.seq .no (.cond (.seq .no .no) (.seq .no (.cond (.seq .no (.seq .no .no)) (.seq .no (.cond (.seq .no .no) (.seq .no (.cond (.seq .no (.seq .no .no)) (.seq .no (.cond (.seq .no (.seq .no .no)) .no)))))))))))))))))))) (.seq .no .no)))
theorem run [Fuel]:RunIs env Try.f67 an con:=fun x=>by kernel_rfl
theorem ok [Fuel]:ConOK Try.prog con:=run_ok (E:=env) run mixed Try.func67 (by kernel_rfl) (cons_nil)
end syntax_clean
namespace syntax_leaf
noncomputable def con [Fuel]:Con:=⟨68,[.c (.g [.d iT,.d iT,.d .str,.d .str,.d lsT,.d (.sl GExpT)])],[],[],[iT,iT,.str,.str,lsT,(.sl GExpT)],.one (.v (.d .bool)),[],[.bool],fun x=>syntax_leaf x.1 x.2.1 x.2.2.1 x.2.2.2.1 x.2.2.2.2.1 x.2.2.2.2.2⟩
noncomputable def env [Fuel]:Env:=⟨Try.prog,[],[syntax_Name.con],[(55,0),(60,0),(68,0),(88,0)],[1000000],[],[],[],[],[],[],[]⟩
noncomputable def an:An := .seq .no (.seq (.seq .no (.one (.seq .no (.cond (.seq .no .no) (.seq .no (.cond (.seq .no .no) (.seq .no (.cond (.seq .no .no) (.join ⟨[(47,.c (.v (.d .bool)))],[],[.bool]⟩ [1,6] [1] true (.seq .no (.cond .no (.seq .no (.cond .no (.seq .no (.cond .no (.seq .no (.cond .no .no)))))))) (.cond (.seq .no .no) (.seq .no (.cond (.seq .no .no) (.seq .no (.cond (.seq (.seq .no (.one (.loop ⟨[(82,(aD iT))],[],[iT]⟩ [1,80,81] [1] (.seq .no (.seq (.cond .no .no) (.seq (.one (.seq .no (.join ⟨[(103,.c (.v (.d .bool)))],[],[.bool]⟩ [1,80,81,82] [1] true .no (.cond (.seq .no .no) .no)))) .no)))))) (.seq .no .no)) .no)))))))))))))) (.seq .no .no))
theorem run [Fuel]:RunIs env Try.f68 an con:=fun x=>by kernel_rfl
theorem ok [Fuel]:ConOK Try.prog con:=run_ok (E:=env) run mixed Try.func68 (by kernel_rfl) (cons_cons syntax_Name.ok (cons_nil))
end syntax_leaf
noncomputable abbrev syntax_rightExp.ps:List Ty:=[iT,iT,.str,.str,lsT,(.sl GExpT),iT]
noncomputable abbrev syntax_rightExp.qs:List Ty:=[.bool]
noncomputable def syntax_rightExp.conG [Fuel] (Gr:Int → Int → Bs → Bs → List Bs → List GExp → Int → Option Bool):Con:=⟨50,[.c (.g [.d iT,.d iT,.d .str,.d .str,.d lsT,.d (.sl GExpT)]),(aD iT)],[],[],syntax_rightExp.ps,.one (.v (.d .bool)),[],syntax_rightExp.qs,fun x=>Gr x.1 x.2.1 x.2.2.1 x.2.2.2.1 x.2.2.2.2.1 x.2.2.2.2.2.1 x.2.2.2.2.2.2⟩
namespace syntax_rightExp
noncomputable def con [Fuel]:Con:=conG (rec Fuel.n)
noncomputable def env [Fuel] (Gr:Int → Int → Bs → Bs → List Bs → List GExp → Int → Option Bool):Env:=⟨Try.prog,[],[syntax_clean.con,syntax_leaf.con,(syntax_rightExp.conG Gr)],[(23,0),(67,1),(80,2)],[1000000],[],[],[],[],[],[],[]⟩
noncomputable def an:An := .seq .no (.seq (.join ⟨[(20,.c (.v (.d .bool)))],[],[.bool]⟩ [1,2] [2] true .no (.cond (.seq .no .no) .no)) (.seq .no (.seq (.join ⟨[(69,.c (.v (.d .bool)))],[],[.bool]⟩ [1,2] [2] true .no (.cond (.seq .no .no) .no)) (.seq (.seq .no (.one (.loop ⟨[(73,(aD iT))],[],[iT]⟩ [1,71,72] [] (.seq .no (.seq (.cond .no .no) (.seq (.one (.seq .no (.seq .no (.cond (.seq .no .no) .no)))) .no)))))) (.seq .no .no)))))
theorem run [Fuel] (Gr:Int → Int → Bs → Bs → List Bs → List GExp → Int → Option Bool):RunIs (env Gr) Try.f50 an (conG (body Gr)):=fun x=>by kernel_rfl
theorem okB [Fuel] (Gr:Int → Int → Bs → Bs → List Bs → List GExp → Int → Option Bool) (hG:ConOK Try.prog (conG Gr)):ConOK Try.prog (conG (body Gr)):=run_ok (E:=(env Gr)) (run Gr) mixed Try.func50 (by kernel_rfl) (cons_cons syntax_clean.ok (cons_cons syntax_leaf.ok (cons_cons hG (cons_nil))))
theorem okN [Fuel]:∀ n,ConOK Try.prog (conG (rec n))
 | 0=>⟨by kernel_rfl,fun x r h=>by have h2:(none:Option (Tup syntax_rightExp.qs)) = some r:=h; cases h2⟩
 | n + 1=>okB (rec n) (okN n)
theorem ok [Fuel]:ConOK Try.prog con:=okN _
end syntax_rightExp
namespace syntax_RightExp
noncomputable def con [Fuel]:Con:=⟨35,[.c (.g [.d iT,.d iT,.d .str,.d .str,.d lsT,.d (.sl GExpT)])],[],[],[iT,iT,.str,.str,lsT,(.sl GExpT)],.one (.v (.d .bool)),[],[.bool],fun x=>syntax_RightExp x.1 x.2.1 x.2.2.1 x.2.2.2.1 x.2.2.2.2.1 x.2.2.2.2.2⟩
noncomputable def env [Fuel]:Env:=⟨Try.prog,[],[syntax_rightExp.con],[(4,0)],[],[],[],[],[],[],[],[]⟩
noncomputable def an:An := .seq .no (.seq .no .no)
theorem run [Fuel]:RunIs env Try.f35 an con:=fun x=>by kernel_rfl
theorem ok [Fuel]:ConOK Try.prog con:=run_ok (E:=env) run mixed Try.func35 (by kernel_rfl) (cons_cons syntax_rightExp.ok (cons_nil))
end syntax_RightExp
namespace syntax_rightFields
noncomputable def con [Fuel]:Con:=⟨52,[.c (.v (.d (.sl GFieldT))),(aD iT)],[],[],[(.sl GFieldT),iT],.one (.v (.d .bool)),[],[.bool],fun x=>syntax_rightFields x.1 x.2⟩
noncomputable def env [Fuel]:Env:=⟨Try.prog,[(92,.bool)],[syntax_Name.con,syntax_RightType.con],[(22,0),(28,1)],[1000000],[],[],[],[],[],[],[]⟩
noncomputable def an:An := .seq .no (.seq .no (.seq (.seq .no (.one (.loop ⟨[(5,.c (.v (.mp 500001))),(11,(aD iT))],[(500001,.mapS false .bool)],[iT,(.sl (.pair .str .bool))]⟩ [0,1,9,10] [] (.seq .no (.seq (.cond .no .no) (.seq (.one (.seq .no (.seq (.join ⟨[(30,.c (.v (.d .bool)))],[],[.bool]⟩ [0,1,5,7,9,10,11] [7,500001] true .no (.cond (.seq .no .no) .no)) .no))) .no)))))) (.seq .no .no)))
theorem run [Fuel]:RunIs env Try.f52 an con:=fun x=>by kernel_rfl
theorem ok [Fuel]:ConOK Try.prog con:=run_ok (E:=env) run mixed Try.func52 (by kernel_rfl) (cons_cons syntax_Name.ok (cons_cons syntax_RightType.ok (cons_nil)))
end syntax_rightFields
namespace syntax_rightExps
noncomputable def con [Fuel]:Con:=⟨53,[.c (.v (.d (.sl GExpT))),(aD iT)],[],[],[(.sl GExpT),iT],.one (.v (.d .bool)),[],[.bool],fun x=>syntax_rightExps x.1 x.2⟩
noncomputable def env [Fuel]:Env:=⟨Try.prog,[],[syntax_RightExp.con],[(14,0)],[],[],[],[],[],[],[],[]⟩
noncomputable def an:An := .seq .no (.seq (.seq .no (.one (.loop ⟨[(9,(aD iT))],[],[iT]⟩ [0,1,7,8] [] (.seq .no (.seq (.cond .no .no) (.seq (.one (.seq .no (.seq .no (.cond (.seq .no .no) .no)))) .no)))))) (.seq .no .no))
theorem run [Fuel]:RunIs env Try.f53 an con:=fun x=>by kernel_rfl
theorem ok [Fuel]:ConOK Try.prog con:=run_ok (E:=env) run mixed Try.func53 (by kernel_rfl) (cons_cons syntax_RightExp.ok (cons_nil))
end syntax_rightExps
namespace syntax_Right
noncomputable def con [Fuel]:Con:=⟨36,[.c (.g [.d .str,.d lsT,.d (.sl GFieldT),.d (.sl GExpT),.d (.sl GFuncT),.d .bool,.d (.sl GFieldT),.d (.sl GExpT),.d (.sl GExpT)])],[],[],[.str,lsT,(.sl GFieldT),(.sl GExpT),(.sl GFuncT),.bool,(.sl GFieldT),(.sl GExpT),(.sl GExpT)],.one (.v (.d .bool)),[],[.bool],fun x=>syntax_Right x.1 x.2.1 x.2.2.1 x.2.2.2.1 x.2.2.2.2.1 x.2.2.2.2.2.1 x.2.2.2.2.2.2.1 x.2.2.2.2.2.2.2.1 x.2.2.2.2.2.2.2.2⟩
noncomputable def env [Fuel]:Env:=⟨Try.prog,[(92,.bool)],[syntax_Name.con,syntax_rightFields.con,syntax_RightType.con,syntax_RightExp.con,syntax_rightExps.con],[(24,0),(45,0),(51,1),(57,2),(63,3),(78,0),(95,1),(104,4),(122,1),(128,4),(135,4)],[9,17,24,1000000],[],[],[],[110,113],[109,112],[],[]⟩
noncomputable def an:An := .seq .no (.seq .no (.join ⟨[],[],[]⟩ [1] [1] false (.seq .no (.one (.loop ⟨[(3,.c (.v (.mp 500002))),(15,(aD iT))],[(500002,.mapS false .bool)],[iT,(.sl (.pair .str .bool))]⟩ [1,13,14] [1] (.seq .no (.seq (.cond .no .no) (.seq (.one (.seq .no (.seq (.join ⟨[(26,.c (.v (.d .bool)))],[],[.bool]⟩ [1,3,5,13,14,15] [1,500002] true .no (.cond (.seq .no .no) .no)) .no))) .no)))))) (.seq .no (.join ⟨[],[],[]⟩ [1] [1] false (.seq .no (.one (.loop ⟨[(6,.c (.v (.mp 500004))),(34,(aD iT))],[(500004,.mapS false .bool)],[iT,(.sl (.pair .str .bool))]⟩ [1,32,33] [1] (.seq .no (.seq (.cond .no .no) (.seq (.one (.seq .no (.seq (.join ⟨[(71,.c (.v (.d .bool)))],[],[.bool]⟩ [1,6,8,32,33,34] [1,8,500004] true .no (.cond (.seq .no .no) .no)) .no))) .no)))))) (.seq (.join ⟨[(106,.c (.v (.d .bool)))],[],[.bool]⟩ [1] [1] true .no (.cond (.seq .no .no) .no)) (.seq .no (.join ⟨[(10,(aD iT))],[],[iT]⟩ [1,9] [1] false (.seq .no (.cond (.seq .no (.seq .no (.cond (.seq .no .no) .no))) .no)) (.seq .no .no))))))))
theorem run [Fuel]:RunIs env Try.f36 an con:=fun x=>by kernel_rfl
theorem ok [Fuel]:ConOK Try.prog con:=run_ok (E:=env) run mixed Try.func36 (by kernel_rfl) (cons_cons syntax_Name.ok (cons_cons syntax_rightFields.ok (cons_cons syntax_RightType.ok (cons_cons syntax_RightExp.ok (cons_cons syntax_rightExps.ok (cons_nil))))))
end syntax_Right
namespace types_newJudge_1
noncomputable def con [Fuel]:Con:=⟨55,[.c (.g [.d iT,.d (.sl GFieldT)])],[],[],[iT,(.sl GFieldT)],.one (.v (.d .bool)),[],[.bool],fun x=>types_newJudge_1 x.1 x.2⟩
noncomputable def env [Fuel]:Env:=⟨Try.prog,[],[types_Right.con],[(4,0)],[],[],[],[],[],[],[],[]⟩
noncomputable def an:An := .seq .no (.seq .no .no)
theorem run [Fuel]:RunIs env Try.f55 an con:=fun x=>by kernel_rfl
theorem ok [Fuel]:ConOK Try.prog con:=run_ok (E:=env) run mixed Try.func55 (by kernel_rfl) (cons_cons types_Right.ok (cons_nil))
end types_newJudge_1
namespace slices_IndexFunc_api_Type_api_Type
noncomputable def con [Fuel]:Con:=⟨71,[.c (.v (.d (.sl GTypeT))),.c (.v (.fn 110 []))],[],[],[(.sl GTypeT)],.one (.v (.d iT)),[],[iT],fun x=>slices_IndexFunc_api_Type_api_Type x⟩
noncomputable def env [Fuel]:Env:=⟨Try.prog,[],[types_newJudge_1.con],[(16,0)],[],[],[],[],[],[],[],[]⟩
noncomputable def an:An := .seq .no (.seq (.seq .no (.one (.loop ⟨[(8,(aD iT))],[],[iT]⟩ [0,1,7] [] (.seq .no (.seq (.cond .no .no) (.seq (.one (.seq .no (.seq .no (.cond (.seq .no .no) .no)))) .no)))))) (.seq .no .no))
theorem run [Fuel]:RunIs env Try.f71 an con:=fun x=>by kernel_rfl
theorem ok [Fuel]:ConOK Try.prog con:=run_ok (E:=env) run mixed Try.func71 (by kernel_rfl) (cons_cons types_newJudge_1.ok (cons_nil))
end slices_IndexFunc_api_Type_api_Type
namespace slices_ContainsFunc_api_Type_api_Type
noncomputable def con [Fuel]:Con:=⟨54,[.c (.v (.d (.sl GTypeT))),.c (.v (.fn 110 []))],[],[],[(.sl GTypeT)],.one (.v (.d .bool)),[],[.bool],fun x=>slices_ContainsFunc_api_Type_api_Type x⟩
noncomputable def env [Fuel]:Env:=⟨Try.prog,[],[slices_IndexFunc_api_Type_api_Type.con],[(7,0)],[],[],[],[],[],[],[],[]⟩
noncomputable def an:An := .seq .no (.seq .no .no)
theorem run [Fuel]:RunIs env Try.f54 an con:=fun x=>by kernel_rfl
theorem ok [Fuel]:ConOK Try.prog con:=run_ok (E:=env) run mixed Try.func54 (by kernel_rfl) (cons_cons slices_IndexFunc_api_Type_api_Type.ok (cons_nil))
end slices_ContainsFunc_api_Type_api_Type
namespace types_newJudge
noncomputable def con [Fuel]:Con:=⟨37,[.c (.g [.d .str,.d lsT,.d (.sl GFieldT),.d (.sl GExpT),.d (.sl GFuncT),.d .bool,.d (.sl GFieldT),.d (.sl GExpT),.d (.sl GExpT)]),.c (.v (.d (.sl GFaceT)))],[],[],[.str,lsT,(.sl GFieldT),(.sl GExpT),(.sl GFuncT),.bool,(.sl GFieldT),(.sl GExpT),(.sl GExpT),(.sl GFaceT)],.tup [.v (.loc 0 0),.v (.bc true)],[(0,.box 80 [.d .str,.d lsT,.d (.sl GFieldT),.d (.sl GExpT),.d (.sl GFuncT),.d .bool,.d (.sl GFieldT),.d (.sl GExpT),.d (.sl GExpT),.mp 1,.d iT]),(1,.mapS true GFaceT)],[.str,lsT,(.sl GFieldT),(.sl GExpT),(.sl GFuncT),.bool,(.sl GFieldT),(.sl GExpT),(.sl GExpT),iT,(.sl (.pair .str GFaceT))],fun x=>types_newJudge x.1 x.2.1 x.2.2.1 x.2.2.2.1 x.2.2.2.2.1 x.2.2.2.2.2.1 x.2.2.2.2.2.2.1 x.2.2.2.2.2.2.2.1 x.2.2.2.2.2.2.2.2.1 x.2.2.2.2.2.2.2.2.2⟩
noncomputable def env [Fuel]:Env:=⟨Try.prog,[(78,GFaceT)],[types_Right.con,slices_ContainsFunc_api_Type_api_Type.con],[(32,0),(37,1)],[11,1000000],[],[],[],[],[44,46,55,57,58,12000065,12500011,44000080,46500008],[],[]⟩
noncomputable def an:An := .seq .no (.seq .no (.seq (.seq .no (.one (.loop ⟨[(6,.c (.v (.loc 500001 0))),(19,(aD iT))],[(500001,.box 80 [.d .str,.d lsT,.d (.sl GFieldT),.d (.sl GExpT),.d (.sl GFuncT),.d .bool,.d (.sl GFieldT),.d (.sl GExpT),.d (.sl GExpT),.mp 500002,.d iT]),(500002,.mapS true GFaceT)],[iT,.str,lsT,(.sl GFieldT),(.sl GExpT),(.sl GFuncT),.bool,(.sl GFieldT),(.sl GExpT),(.sl GExpT),iT,(.sl (.pair .str GFaceT))]⟩ [17,18] [] (.seq .no (.seq (.cond .no .no) (.seq (.one (.seq .no (.join ⟨[],[],[]⟩ [6,8,17,18,19] [8,500001,500002] false (.seq .no (.one (.loop ⟨[(26,(aD iT))],[],[iT]⟩ [6,8,17,18,19,24,25] [8,500001,500002] (.seq .no (.seq (.cond .no .no) (.seq (.one (.seq .no (.join ⟨[(38,.c (.v (.d .bool)))],[],[.bool]⟩ [6,8,17,18,19,24,25,26] [8,500001,500002] true .no (.cond (.seq .no .no) .no)))) .no)))))) (.seq .no (.seq .no (.cond .no .no)))))) .no)))))) (.seq .no .no)))
theorem run [Fuel]:RunIs env Try.f37 an con:=fun x=>by kernel_rfl
theorem ok [Fuel]:ConOK Try.prog con:=run_ok (E:=env) run mixed Try.func37 (by kernel_rfl) (cons_cons types_Right.ok (cons_cons slices_ContainsFunc_api_Type_api_Type.ok (cons_nil)))
end types_newJudge
namespace slices_Clone_api_Field_api_Field
noncomputable def con [Fuel]:Con:=⟨56,[.c (.v (.d (.sl GFieldT)))],[],[],[(.sl GFieldT)],.one (.v (.own 0)),[(0,.arr 48 GFieldT)],[(.sl GFieldT)],fun x=>slices_Clone_api_Field_api_Field x⟩
noncomputable def env [Fuel]:Env:=⟨Try.prog,[(22,GFieldT)],[],[],[],[],[],[],[],[],[],[]⟩
noncomputable def an:An := .seq .no (.seq (.seq .no (.cond (.seq .no .no) .no)) (.seq .no .no))
theorem run [Fuel]:RunIs env Try.f56 an con:=fun x=>by kernel_rfl
theorem ok [Fuel]:ConOK Try.prog con:=run_ok (E:=env) run mixed Try.func56 (by kernel_rfl) (cons_nil)
end slices_Clone_api_Field_api_Field
noncomputable abbrev types_below.ps:List Ty:=[iT,(.sl GFieldT),iT,(.sl GFieldT)]
noncomputable abbrev types_below.qs:List Ty:=[.bool]
noncomputable def types_below.conG [Fuel] (Gr:Int → List GField → Int → List GField → Option Bool):Con:=⟨30,[.c (.g [.d iT,.d (.sl GFieldT)]),.c (.g [.d iT,.d (.sl GFieldT)])],[],[],types_below.ps,.one (.v (.d .bool)),[],types_below.qs,fun x=>Gr x.1 x.2.1 x.2.2.1 x.2.2.2⟩
namespace types_below_1
noncomputable def con [Fuel] (Gr:Int → List GField → Int → List GField → Option Bool):Con:=⟨47,[.c (.g [.d .str,.d iT,.d (.sl GFieldT)]),.c (.v (.loc 1000000 0))],[(1000000,.box 24 [.d iT,.d (.sl GFieldT)])],[],[.str,iT,(.sl GFieldT),iT,(.sl GFieldT)],.one (.v (.d .bool)),[],[.bool],fun x=>types_below_1 Gr x.1 x.2.1 x.2.2.1 x.2.2.2.1 x.2.2.2.2⟩
noncomputable def env [Fuel] (Gr:Int → List GField → Int → List GField → Option Bool):Env:=⟨Try.prog,[],[types_lookup.con,(types_below.conG Gr)],[(11,0),(20,1)],[],[],[],[],[],[],[],[]⟩
noncomputable def an:An := .seq .no (.seq .no (.seq .no .no))
theorem run [Fuel] (Gr:Int → List GField → Int → List GField → Option Bool):RunIs (env Gr) Try.f47 an (con Gr):=fun x=>by kernel_rfl
theorem ok [Fuel] (Gr:Int → List GField → Int → List GField → Option Bool) (hG:ConOK Try.prog (types_below.conG Gr)):ConOK Try.prog (con Gr):=run_ok (E:=(env Gr)) (run Gr) mixed Try.func47 (by kernel_rfl) (cons_cons types_lookup.ok (cons_cons hG (cons_nil)))
end types_below_1
namespace slices_IndexFunc_api_Field_api_Field_v2
noncomputable def con [Fuel] (Gr:Int → List GField → Int → List GField → Option Bool):Con:=⟨49,[.c (.v (.d (.sl GFieldT))),.c (.v (.fn 94 [1000000]))],[(1000000,.box 24 [.d iT,.d (.sl GFieldT)])],[],[(.sl GFieldT),iT,(.sl GFieldT)],.one (.v (.d iT)),[],[iT],fun x=>slices_IndexFunc_api_Field_api_Field_v2 Gr x.1 x.2.1 x.2.2⟩
noncomputable def env [Fuel] (Gr:Int → List GField → Int → List GField → Option Bool):Env:=⟨Try.prog,[],[(types_below_1.con Gr)],[(16,0)],[],[16],[],[],[],[],[],[]⟩
noncomputable def an:An := .seq .no (.seq (.seq .no (.one (.loop ⟨[(8,(aD iT))],[],[iT]⟩ [0,1,7] [1000000] (.seq .no (.seq (.cond .no .no) (.seq (.one (.seq .no (.seq .no (.cond (.seq .no .no) .no)))) .no)))))) (.seq .no .no))
theorem run [Fuel] (Gr:Int → List GField → Int → List GField → Option Bool):RunIs (env Gr) Try.f49 an (con Gr):=fun x=>by kernel_rfl
theorem ok [Fuel] (Gr:Int → List GField → Int → List GField → Option Bool) (hG:ConOK Try.prog (types_below.conG Gr)):ConOK Try.prog (con Gr):=run_ok (E:=(env Gr)) (run Gr) mixed Try.func49 (by kernel_rfl) (cons_cons (types_below_1.ok Gr hG) (cons_nil))
end slices_IndexFunc_api_Field_api_Field_v2
namespace slices_ContainsFunc_api_Field_api_Field_v2
noncomputable def con [Fuel] (Gr:Int → List GField → Int → List GField → Option Bool):Con:=⟨33,[.c (.v (.d (.sl GFieldT))),.c (.v (.fn 94 [1000000]))],[(1000000,.box 24 [.d iT,.d (.sl GFieldT)])],[],[(.sl GFieldT),iT,(.sl GFieldT)],.one (.v (.d .bool)),[],[.bool],fun x=>slices_ContainsFunc_api_Field_api_Field_v2 Gr x.1 x.2.1 x.2.2⟩
noncomputable def env [Fuel] (Gr:Int → List GField → Int → List GField → Option Bool):Env:=⟨Try.prog,[],[(slices_IndexFunc_api_Field_api_Field_v2.con Gr)],[(7,0)],[],[7],[],[],[],[],[],[]⟩
noncomputable def an:An := .seq .no (.seq .no .no)
theorem run [Fuel] (Gr:Int → List GField → Int → List GField → Option Bool):RunIs (env Gr) Try.f33 an (con Gr):=fun x=>by kernel_rfl
theorem ok [Fuel] (Gr:Int → List GField → Int → List GField → Option Bool) (hG:ConOK Try.prog (types_below.conG Gr)):ConOK Try.prog (con Gr):=run_ok (E:=(env Gr)) (run Gr) mixed Try.func33 (by kernel_rfl) (cons_cons (slices_IndexFunc_api_Field_api_Field_v2.ok Gr hG) (cons_nil))
end slices_ContainsFunc_api_Field_api_Field_v2
namespace types_below
noncomputable def con [Fuel]:Con:=conG (rec Fuel.n)
noncomputable def env [Fuel] (Gr:Int → List GField → Int → List GField → Option Bool):Env:=⟨Try.prog,[],[(slices_ContainsFunc_api_Field_api_Field_v2.con Gr)],[(14,0)],[],[14],[],[],[],[],[],[]⟩
noncomputable def an:An := .seq .no (.seq .no .no)
theorem run [Fuel] (Gr:Int → List GField → Int → List GField → Option Bool):RunIs (env Gr) Try.f30 an (conG (body Gr)):=fun x=>by kernel_rfl
theorem okB [Fuel] (Gr:Int → List GField → Int → List GField → Option Bool) (hG:ConOK Try.prog (conG Gr)):ConOK Try.prog (conG (body Gr)):=run_ok (E:=(env Gr)) (run Gr) mixed Try.func30 (by kernel_rfl) (cons_cons (slices_ContainsFunc_api_Field_api_Field_v2.ok Gr hG) (cons_nil))
theorem okN [Fuel]:∀ n,ConOK Try.prog (conG (rec n))
 | 0=>⟨by kernel_rfl,fun x r h=>by have h2:(none:Option (Tup types_below.qs)) = some r:=h; cases h2⟩
 | n + 1=>okB (rec n) (okN n)
theorem ok [Fuel]:ConOK Try.prog con:=okN _
end types_below
noncomputable abbrev types_judge_find.ps:List Ty:=[(.sl GFieldT),iT,iT,.str,.str,lsT,(.sl GExpT),.str,lsT,(.sl GFieldT),(.sl GExpT),(.sl GFuncT),.bool,(.sl GFieldT),(.sl GExpT),(.sl GExpT),iT,(.sl (.pair .str GFaceT))]
noncomputable abbrev types_judge_find.qs:List Ty:=[GTypeT,iT,.str,lsT,(.sl GFieldT),(.sl GExpT),(.sl GFuncT),.bool,(.sl GFieldT),(.sl GExpT),(.sl GExpT),iT,(.sl (.pair .str GFaceT))]
noncomputable def types_judge_find.conG [Fuel] (Gr:List GField → Int → Int → Bs → Bs → List Bs → List GExp → Bs → List Bs → List GField → List GExp → List GFunc → Bool → List GField → List GExp → List GExp → Int → (List (Bs × GFace)) → Option (GType × Int × Bs × (List Bs) × (List GField) × (List GExp) × (List GFunc) × Bool × (List GField) × (List GExp) × (List GExp) × Int × List (Bs × GFace))):Con:=⟨38,[.c (.v (.loc 1000000 0)),.c (.v (.d (.sl GFieldT))),.c (.g [.d iT,.d iT,.d .str,.d .str,.d lsT,.d (.sl GExpT)])],[],[(1000000,.box 80 [.d .str,.d lsT,.d (.sl GFieldT),.d (.sl GExpT),.d (.sl GFuncT),.d .bool,.d (.sl GFieldT),.d (.sl GExpT),.d (.sl GExpT),.mp 1000001,.d iT]),(1000001,.mapS true GFaceT)],types_judge_find.ps,.tup [.a GTypeT,.v (.d iT)],[(1000000,.box 80 [.d .str,.d lsT,.d (.sl GFieldT),.d (.sl GExpT),.d (.sl GFuncT),.d .bool,.d (.sl GFieldT),.d (.sl GExpT),.d (.sl GExpT),.mp 1000001,.d iT]),(1000001,.mapS true GFaceT)],types_judge_find.qs,fun x=>Gr x.1 x.2.1 x.2.2.1 x.2.2.2.1 x.2.2.2.2.1 x.2.2.2.2.2.1 x.2.2.2.2.2.2.1 x.2.2.2.2.2.2.2.1 x.2.2.2.2.2.2.2.2.1 x.2.2.2.2.2.2.2.2.2.1 x.2.2.2.2.2.2.2.2.2.2.1 x.2.2.2.2.2.2.2.2.2.2.2.1 x.2.2.2.2.2.2.2.2.2.2.2.2.1 x.2.2.2.2.2.2.2.2.2.2.2.2.2.1 x.2.2.2.2.2.2.2.2.2.2.2.2.2.2.1 x.2.2.2.2.2.2.2.2.2.2.2.2.2.2.2.1 x.2.2.2.2.2.2.2.2.2.2.2.2.2.2.2.2.1 x.2.2.2.2.2.2.2.2.2.2.2.2.2.2.2.2.2⟩
namespace types_judge_variable
noncomputable def con [Fuel] (Gr:List GField → Int → Int → Bs → Bs → List Bs → List GExp → Bs → List Bs → List GField → List GExp → List GFunc → Bool → List GField → List GExp → List GExp → Int → (List (Bs × GFace)) → Option (GType × Int × Bs × (List Bs) × (List GField) × (List GExp) × (List GFunc) × Bool × (List GField) × (List GExp) × (List GExp) × Int × List (Bs × GFace))):Con:=⟨57,[.c (.v (.loc 1000000 0)),.c (.v (.d (.sl GFieldT))),.c (.g [.d iT,.d iT,.d .str,.d .str,.d lsT,.d (.sl GExpT)])],[],[(1000000,.box 80 [.d .str,.d lsT,.d (.sl GFieldT),.d (.sl GExpT),.d (.sl GFuncT),.d .bool,.d (.sl GFieldT),.d (.sl GExpT),.d (.sl GExpT),.mp 1000001,.d iT]),(1000001,.mapS true GFaceT)],[(.sl GFieldT),iT,iT,.str,.str,lsT,(.sl GExpT),.str,lsT,(.sl GFieldT),(.sl GExpT),(.sl GFuncT),.bool,(.sl GFieldT),(.sl GExpT),(.sl GExpT),iT,(.sl (.pair .str GFaceT))],.tup [.a GTypeT,.v (.d iT)],[(1000000,.box 80 [.d .str,.d lsT,.d (.sl GFieldT),.d (.sl GExpT),.d (.sl GFuncT),.d .bool,.d (.sl GFieldT),.d (.sl GExpT),.d (.sl GExpT),.mp 1000001,.d iT]),(1000001,.mapS true GFaceT)],[GTypeT,iT,.str,lsT,(.sl GFieldT),(.sl GExpT),(.sl GFuncT),.bool,(.sl GFieldT),(.sl GExpT),(.sl GExpT),iT,(.sl (.pair .str GFaceT))],fun x=>types_judge_variable Gr x.1 x.2.1 x.2.2.1 x.2.2.2.1 x.2.2.2.2.1 x.2.2.2.2.2.1 x.2.2.2.2.2.2.1 x.2.2.2.2.2.2.2.1 x.2.2.2.2.2.2.2.2.1 x.2.2.2.2.2.2.2.2.2.1 x.2.2.2.2.2.2.2.2.2.2.1 x.2.2.2.2.2.2.2.2.2.2.2.1 x.2.2.2.2.2.2.2.2.2.2.2.2.1 x.2.2.2.2.2.2.2.2.2.2.2.2.2.1 x.2.2.2.2.2.2.2.2.2.2.2.2.2.2.1 x.2.2.2.2.2.2.2.2.2.2.2.2.2.2.2.1 x.2.2.2.2.2.2.2.2.2.2.2.2.2.2.2.2.1 x.2.2.2.2.2.2.2.2.2.2.2.2.2.2.2.2.2⟩
noncomputable def env [Fuel] (Gr:List GField → Int → Int → Bs → Bs → List Bs → List GExp → Bs → List Bs → List GField → List GExp → List GFunc → Bool → List GField → List GExp → List GExp → Int → (List (Bs × GFace)) → Option (GType × Int × Bs × (List Bs) × (List GField) × (List GExp) × (List GFunc) × Bool × (List GField) × (List GExp) × (List GExp) × Int × List (Bs × GFace))):Env:=⟨Try.prog,[],[types_lookup.con,(types_judge_find.conG Gr),types_below.con],[(20,0),(36,1),(47,2)],[],[36],[],[],[],[17,19,9000024,17000080,19000042],[],[]⟩
noncomputable def an:An := .seq .no (.seq .no (.seq (.seq .no (.cond (.seq .no .no) .no)) (.seq (.seq .no (.cond (.seq .no (.one (.seq .no (.cond (.seq .no .no) (.seq .no (.cond (.seq .no .no) .no)))))) .no)) (.seq .no .no))))
theorem run [Fuel] (Gr:List GField → Int → Int → Bs → Bs → List Bs → List GExp → Bs → List Bs → List GField → List GExp → List GFunc → Bool → List GField → List GExp → List GExp → Int → (List (Bs × GFace)) → Option (GType × Int × Bs × (List Bs) × (List GField) × (List GExp) × (List GFunc) × Bool × (List GField) × (List GExp) × (List GExp) × Int × List (Bs × GFace))):RunIs (env Gr) Try.f57 an (con Gr):=fun x=>by kernel_rfl
theorem ok [Fuel] (Gr:List GField → Int → Int → Bs → Bs → List Bs → List GExp → Bs → List Bs → List GField → List GExp → List GFunc → Bool → List GField → List GExp → List GExp → Int → (List (Bs × GFace)) → Option (GType × Int × Bs × (List Bs) × (List GField) × (List GExp) × (List GFunc) × Bool × (List GField) × (List GExp) × (List GExp) × Int × List (Bs × GFace))) (hG:ConOK Try.prog (types_judge_find.conG Gr)):ConOK Try.prog (con Gr):=run_ok (E:=(env Gr)) (run Gr) mixed Try.func57 (by kernel_rfl) (cons_cons types_lookup.ok (cons_cons hG (cons_cons types_below.ok (cons_nil))))
end types_judge_variable
namespace types_judge_callee_1
noncomputable def con [Fuel]:Con:=⟨83,[.c (.g [.d .str,.d .bool,.d (.sl GFieldT),.d iT,.d (.sl GFieldT),.d iT,.d iT,.d iT,.d .str,.d .str,.d lsT,.d (.sl GExpT)]),.c (.v (.loc 1000000 0))],[(1000000,.box 42 [.d iT,.d iT,.d .str,.d .str,.d lsT,.d (.sl GExpT)])],[],[.str,.bool,(.sl GFieldT),iT,(.sl GFieldT),iT,iT,iT,.str,.str,lsT,(.sl GExpT),iT,iT,.str,.str,lsT,(.sl GExpT)],.one (.v (.d .bool)),[],[.bool],fun x=>types_judge_callee_1 x.1 x.2.1 x.2.2.1 x.2.2.2.1 x.2.2.2.2.1 x.2.2.2.2.2.1 x.2.2.2.2.2.2.1 x.2.2.2.2.2.2.2.1 x.2.2.2.2.2.2.2.2.1 x.2.2.2.2.2.2.2.2.2.1 x.2.2.2.2.2.2.2.2.2.2.1 x.2.2.2.2.2.2.2.2.2.2.2.1 x.2.2.2.2.2.2.2.2.2.2.2.2.1 x.2.2.2.2.2.2.2.2.2.2.2.2.2.1 x.2.2.2.2.2.2.2.2.2.2.2.2.2.2.1 x.2.2.2.2.2.2.2.2.2.2.2.2.2.2.2.1 x.2.2.2.2.2.2.2.2.2.2.2.2.2.2.2.2.1 x.2.2.2.2.2.2.2.2.2.2.2.2.2.2.2.2.2⟩
noncomputable def env [Fuel]:Env:=⟨Try.prog,[],[],[],[],[],[],[],[],[],[],[]⟩
noncomputable def an:An := .seq .no (.seq .no .no)
theorem run [Fuel]:RunIs env Try.f83 an con:=fun x=>by kernel_rfl
theorem ok [Fuel]:ConOK Try.prog con:=run_ok (E:=env) run mixed Try.func83 (by kernel_rfl) (cons_nil)
end types_judge_callee_1
namespace slices_IndexFunc_api_Func_api_Func
noncomputable def con [Fuel]:Con:=⟨82,[.c (.v (.d (.sl GFuncT))),.c (.v (.fn 166 [1000000]))],[(1000000,.box 42 [.d iT,.d iT,.d .str,.d .str,.d lsT,.d (.sl GExpT)])],[],[(.sl GFuncT),iT,iT,.str,.str,lsT,(.sl GExpT)],.one (.v (.d iT)),[],[iT],fun x=>slices_IndexFunc_api_Func_api_Func x.1 x.2.1 x.2.2.1 x.2.2.2.1 x.2.2.2.2.1 x.2.2.2.2.2.1 x.2.2.2.2.2.2⟩
noncomputable def env [Fuel]:Env:=⟨Try.prog,[],[types_judge_callee_1.con],[(16,0)],[],[16],[],[],[],[],[],[]⟩
noncomputable def an:An := .seq .no (.seq (.seq .no (.one (.loop ⟨[(8,(aD iT))],[],[iT]⟩ [0,1,7] [1000000] (.seq .no (.seq (.cond .no .no) (.seq (.one (.seq .no (.seq .no (.cond (.seq .no .no) .no)))) .no)))))) (.seq .no .no))
theorem run [Fuel]:RunIs env Try.f82 an con:=fun x=>by kernel_rfl
theorem ok [Fuel]:ConOK Try.prog con:=run_ok (E:=env) run mixed Try.func82 (by kernel_rfl) (cons_cons types_judge_callee_1.ok (cons_nil))
end slices_IndexFunc_api_Func_api_Func
namespace types_judge_callee_2
noncomputable def con [Fuel]:Con:=⟨85,[.c (.g [.d .str,.d (.sl GTypeT),.d iT,.d (.sl GFieldT),.d iT]),.c (.v (.loc 1000000 0))],[(1000000,.box 42 [.d iT,.d iT,.d .str,.d .str,.d lsT,.d (.sl GExpT)])],[],[.str,(.sl GTypeT),iT,(.sl GFieldT),iT,iT,iT,.str,.str,lsT,(.sl GExpT)],.one (.v (.d .bool)),[],[.bool],fun x=>types_judge_callee_2 x.1 x.2.1 x.2.2.1 x.2.2.2.1 x.2.2.2.2.1 x.2.2.2.2.2.1 x.2.2.2.2.2.2.1 x.2.2.2.2.2.2.2.1 x.2.2.2.2.2.2.2.2.1 x.2.2.2.2.2.2.2.2.2.1 x.2.2.2.2.2.2.2.2.2.2⟩
noncomputable def env [Fuel]:Env:=⟨Try.prog,[],[],[],[],[],[],[],[],[],[],[]⟩
noncomputable def an:An := .seq .no (.seq .no .no)
theorem run [Fuel]:RunIs env Try.f85 an con:=fun x=>by kernel_rfl
theorem ok [Fuel]:ConOK Try.prog con:=run_ok (E:=env) run mixed Try.func85 (by kernel_rfl) (cons_nil)
end types_judge_callee_2
namespace slices_IndexFunc_api_Sig_api_Sig
noncomputable def con [Fuel]:Con:=⟨84,[.c (.v (.d (.sl GSigT))),.c (.v (.fn 170 [1000000]))],[(1000000,.box 42 [.d iT,.d iT,.d .str,.d .str,.d lsT,.d (.sl GExpT)])],[],[(.sl GSigT),iT,iT,.str,.str,lsT,(.sl GExpT)],.one (.v (.d iT)),[],[iT],fun x=>slices_IndexFunc_api_Sig_api_Sig x.1 x.2.1 x.2.2.1 x.2.2.2.1 x.2.2.2.2.1 x.2.2.2.2.2.1 x.2.2.2.2.2.2⟩
noncomputable def env [Fuel]:Env:=⟨Try.prog,[],[types_judge_callee_2.con],[(16,0)],[],[16],[],[],[],[],[],[]⟩
noncomputable def an:An := .seq .no (.seq (.seq .no (.one (.loop ⟨[(8,(aD iT))],[],[iT]⟩ [0,1,7] [1000000] (.seq .no (.seq (.cond .no .no) (.seq (.one (.seq .no (.seq .no (.cond (.seq .no .no) .no)))) .no)))))) (.seq .no .no))
theorem run [Fuel]:RunIs env Try.f84 an con:=fun x=>by kernel_rfl
theorem ok [Fuel]:ConOK Try.prog con:=run_ok (E:=env) run mixed Try.func84 (by kernel_rfl) (cons_cons types_judge_callee_2.ok (cons_nil))
end slices_IndexFunc_api_Sig_api_Sig
namespace slices_Index_string_string
noncomputable def con [Fuel]:Con:=⟨89,[(aD lsT),.c (.v (.d .str))],[],[],[lsT,.str],.one (.v (.d iT)),[],[iT],fun x=>slices_Index_string_string x.1 x.2⟩
noncomputable def env [Fuel]:Env:=⟨Try.prog,[],[],[],[],[],[],[],[],[],[],[]⟩
noncomputable def an:An := .seq .no (.seq (.seq .no (.one (.loop ⟨[(8,(aD iT))],[],[iT]⟩ [0,1,7] [] (.seq .no (.seq (.cond .no .no) (.seq (.one (.seq .no (.seq .no (.cond (.seq .no .no) .no)))) .no)))))) (.seq .no .no))
theorem run [Fuel]:RunIs env Try.f89 an con:=fun x=>by kernel_rfl
theorem ok [Fuel]:ConOK Try.prog con:=run_ok (E:=env) run mixed Try.func89 (by kernel_rfl) (cons_nil)
end slices_Index_string_string
namespace slices_Contains_string_string
noncomputable def con [Fuel]:Con:=⟨86,[(aD lsT),.c (.v (.d .str))],[],[],[lsT,.str],.one (.v (.d .bool)),[],[.bool],fun x=>slices_Contains_string_string x.1 x.2⟩
noncomputable def env [Fuel]:Env:=⟨Try.prog,[],[slices_Index_string_string.con],[(7,0)],[],[],[],[],[],[],[],[]⟩
noncomputable def an:An := .seq .no (.seq .no .no)
theorem run [Fuel]:RunIs env Try.f86 an con:=fun x=>by kernel_rfl
theorem ok [Fuel]:ConOK Try.prog con:=run_ok (E:=env) run mixed Try.func86 (by kernel_rfl) (cons_cons slices_Index_string_string.ok (cons_nil))
end slices_Contains_string_string
namespace types_judge_callee
noncomputable def con [Fuel]:Con:=⟨72,[.c (.v (.loc 1000000 0)),.c (.g [.d iT,.d iT,.d .str,.d .str,.d lsT,.d (.sl GExpT)])],[(1000000,.box 80 [.d .str,.d lsT,.d (.sl GFieldT),.d (.sl GExpT),.d (.sl GFuncT),.d .bool,.d (.sl GFieldT),.d (.sl GExpT),.d (.sl GExpT),.mp 1000001,.d iT]),(1000001,.mapS true GFaceT)],[],[iT,iT,.str,.str,lsT,(.sl GExpT),.str,lsT,(.sl GFieldT),(.sl GExpT),(.sl GFuncT),.bool,(.sl GFieldT),(.sl GExpT),(.sl GExpT),iT,(.sl (.pair .str GFaceT))],.tup [.a GSigT,.v (.d .bool)],[],[GSigT,.bool],fun x=>types_judge_callee x.1 x.2.1 x.2.2.1 x.2.2.2.1 x.2.2.2.2.1 x.2.2.2.2.2.1 x.2.2.2.2.2.2.1 x.2.2.2.2.2.2.2.1 x.2.2.2.2.2.2.2.2.1 x.2.2.2.2.2.2.2.2.2.1 x.2.2.2.2.2.2.2.2.2.2.1 x.2.2.2.2.2.2.2.2.2.2.2.1 x.2.2.2.2.2.2.2.2.2.2.2.2.1 x.2.2.2.2.2.2.2.2.2.2.2.2.2.1 x.2.2.2.2.2.2.2.2.2.2.2.2.2.2.1 x.2.2.2.2.2.2.2.2.2.2.2.2.2.2.2.1 x.2.2.2.2.2.2.2.2.2.2.2.2.2.2.2.2⟩
noncomputable def env [Fuel]:Env:=⟨Try.prog,[(27,GTypeT)],[slices_IndexFunc_api_Func_api_Func.con,slices_IndexFunc_api_Sig_api_Sig.con,slices_Contains_string_string.con],[(23,0),(69,1),(84,2)],[13,1000000],[23,69],[],[51],[],[60,62,81,83,12000065,60000080,62000042],[],[]⟩
noncomputable def an:An := .seq .no (.join ⟨[],[],[]⟩ [0,3,4] [3,4,1000000,1000001] false (.seq .no (.cond (.seq .no (.seq (.seq .no (.cond (.seq .no .no) .no)) (.seq .no (.seq .no (.seq (.seq .no (.one (.loop ⟨[(8,.c (.v (.loc 500009 0))),(43,(aD iT))],[(500009,.box 67 [.d .str,.own 500010,.d iT,.d (.sl GFieldT),.d iT]),(500010,.arr 24 GTypeT)],[iT,.str,iT,(.sl GFieldT),iT,(.sl GTypeT)]⟩ [4,41,42] [4] (.seq .no (.seq (.cond .no .no) (.seq (.one (.seq .no .no)) .no)))))) (.seq .no .no)))))) .no)) (.seq .no (.seq .no (.seq (.join ⟨[(86,.c (.v (.d .bool)))],[],[.bool]⟩ [4,11,13] [4,11] true .no (.cond (.seq .no .no) .no)) (.seq .no .no)))))
theorem run [Fuel]:RunIs env Try.f72 an con:=fun x=>by kernel_rfl
theorem ok [Fuel]:ConOK Try.prog con:=run_ok (E:=env) run mixed Try.func72 (by kernel_rfl) (cons_cons slices_IndexFunc_api_Func_api_Func.ok (cons_cons slices_IndexFunc_api_Sig_api_Sig.ok (cons_cons slices_Contains_string_string.ok (cons_nil))))
end types_judge_callee
namespace types_judge_list
noncomputable def con [Fuel] (Gr:List GField → Int → Int → Bs → Bs → List Bs → List GExp → Bs → List Bs → List GField → List GExp → List GFunc → Bool → List GField → List GExp → List GExp → Int → (List (Bs × GFace)) → Option (GType × Int × Bs × (List Bs) × (List GField) × (List GExp) × (List GFunc) × Bool × (List GField) × (List GExp) × (List GExp) × Int × List (Bs × GFace))):Con:=⟨59,[.c (.v (.loc 1000000 0)),.c (.v (.d (.sl GFieldT))),.c (.v (.d (.sl GExpT)))],[],[(1000000,.box 80 [.d .str,.d lsT,.d (.sl GFieldT),.d (.sl GExpT),.d (.sl GFuncT),.d .bool,.d (.sl GFieldT),.d (.sl GExpT),.d (.sl GExpT),.mp 1000001,.d iT]),(1000001,.mapS true GFaceT)],[(.sl GFieldT),(.sl GExpT),.str,lsT,(.sl GFieldT),(.sl GExpT),(.sl GFuncT),.bool,(.sl GFieldT),(.sl GExpT),(.sl GExpT),iT,(.sl (.pair .str GFaceT))],.tup [.v (.d (.sl GTypeT)),.v (.d iT)],[(1000000,.box 80 [.d .str,.d lsT,.d (.sl GFieldT),.d (.sl GExpT),.d (.sl GFuncT),.d .bool,.d (.sl GFieldT),.d (.sl GExpT),.d (.sl GExpT),.mp 1000001,.d iT]),(1000001,.mapS true GFaceT)],[(.sl GTypeT),iT,.str,lsT,(.sl GFieldT),(.sl GExpT),(.sl GFuncT),.bool,(.sl GFieldT),(.sl GExpT),(.sl GExpT),iT,(.sl (.pair .str GFaceT))],fun x=>types_judge_list Gr x.1 x.2.1 x.2.2.1 x.2.2.2.1 x.2.2.2.2.1 x.2.2.2.2.2.1 x.2.2.2.2.2.2.1 x.2.2.2.2.2.2.2.1 x.2.2.2.2.2.2.2.2.1 x.2.2.2.2.2.2.2.2.2.1 x.2.2.2.2.2.2.2.2.2.2.1 x.2.2.2.2.2.2.2.2.2.2.2.1 x.2.2.2.2.2.2.2.2.2.2.2.2⟩
noncomputable def env [Fuel] (Gr:List GField → Int → Int → Bs → Bs → List Bs → List GExp → Bs → List Bs → List GField → List GExp → List GFunc → Bool → List GField → List GExp → List GExp → Int → (List (Bs × GFace)) → Option (GType × Int × Bs × (List Bs) × (List GField) × (List GExp) × (List GFunc) × Bool × (List GField) × (List GExp) × (List GExp) × Int × List (Bs × GFace))):Env:=⟨Try.prog,[(27,GTypeT)],[(types_judge_find.conG Gr)],[(23,0)],[],[23],[],[31],[],[],[],[]⟩
noncomputable def an:An := .seq .no (.seq .no (.seq (.seq .no (.one (.loop ⟨[(0,.c (.v (.loc 1000000 0))),(8,.c (.v (.own 500002))),(15,(aD iT))],[(1000000,.box 80 [.d .str,.d lsT,.d (.sl GFieldT),.d (.sl GExpT),.d (.sl GFuncT),.d .bool,.d (.sl GFieldT),.d (.sl GExpT),.d (.sl GExpT),.mp 1000001,.d iT]),(500002,.arr 24 GTypeT),(1000001,.mapS true GFaceT)],[iT,.str,lsT,(.sl GFieldT),(.sl GExpT),(.sl GFuncT),.bool,(.sl GFieldT),(.sl GExpT),(.sl GExpT),iT,(.sl GTypeT),(.sl (.pair .str GFaceT))]⟩ [1,13,14] [] (.seq .no (.seq (.cond .no .no) (.seq (.one (.seq .no (.seq .no (.seq (.seq .no (.cond (.seq .no .no) .no)) .no)))) .no)))))) (.seq .no .no)))
theorem run [Fuel] (Gr:List GField → Int → Int → Bs → Bs → List Bs → List GExp → Bs → List Bs → List GField → List GExp → List GFunc → Bool → List GField → List GExp → List GExp → Int → (List (Bs × GFace)) → Option (GType × Int × Bs × (List Bs) × (List GField) × (List GExp) × (List GFunc) × Bool × (List GField) × (List GExp) × (List GExp) × Int × List (Bs × GFace))):RunIs (env Gr) Try.f59 an (con Gr):=fun x=>by kernel_rfl
theorem ok [Fuel] (Gr:List GField → Int → Int → Bs → Bs → List Bs → List GExp → Bs → List Bs → List GField → List GExp → List GFunc → Bool → List GField → List GExp → List GExp → Int → (List (Bs × GFace)) → Option (GType × Int × Bs × (List Bs) × (List GField) × (List GExp) × (List GFunc) × Bool × (List GField) × (List GExp) × (List GExp) × Int × List (Bs × GFace))) (hG:ConOK Try.prog (types_judge_find.conG Gr)):ConOK Try.prog (con Gr):=run_ok (E:=(env Gr)) (run Gr) mixed Try.func59 (by kernel_rfl) (cons_cons hG (cons_nil))
end types_judge_list
namespace types_judge_call
noncomputable def con [Fuel] (Gr:List GField → Int → Int → Bs → Bs → List Bs → List GExp → Bs → List Bs → List GField → List GExp → List GFunc → Bool → List GField → List GExp → List GExp → Int → (List (Bs × GFace)) → Option (GType × Int × Bs × (List Bs) × (List GField) × (List GExp) × (List GFunc) × Bool × (List GField) × (List GExp) × (List GExp) × Int × List (Bs × GFace))):Con:=⟨58,[.c (.v (.loc 1000000 0)),.c (.v (.d (.sl GFieldT))),.c (.g [.d iT,.d iT,.d .str,.d .str,.d lsT,.d (.sl GExpT)])],[],[(1000000,.box 80 [.d .str,.d lsT,.d (.sl GFieldT),.d (.sl GExpT),.d (.sl GFuncT),.d .bool,.d (.sl GFieldT),.d (.sl GExpT),.d (.sl GExpT),.mp 1000001,.d iT]),(1000001,.mapS true GFaceT)],[(.sl GFieldT),iT,iT,.str,.str,lsT,(.sl GExpT),.str,lsT,(.sl GFieldT),(.sl GExpT),(.sl GFuncT),.bool,(.sl GFieldT),(.sl GExpT),(.sl GExpT),iT,(.sl (.pair .str GFaceT))],.tup [.a GTypeT,.v (.d iT)],[(1000000,.box 80 [.d .str,.d lsT,.d (.sl GFieldT),.d (.sl GExpT),.d (.sl GFuncT),.d .bool,.d (.sl GFieldT),.d (.sl GExpT),.d (.sl GExpT),.mp 1000001,.d iT]),(1000001,.mapS true GFaceT)],[GTypeT,iT,.str,lsT,(.sl GFieldT),(.sl GExpT),(.sl GFuncT),.bool,(.sl GFieldT),(.sl GExpT),(.sl GExpT),iT,(.sl (.pair .str GFaceT))],fun x=>types_judge_call Gr x.1 x.2.1 x.2.2.1 x.2.2.2.1 x.2.2.2.2.1 x.2.2.2.2.2.1 x.2.2.2.2.2.2.1 x.2.2.2.2.2.2.2.1 x.2.2.2.2.2.2.2.2.1 x.2.2.2.2.2.2.2.2.2.1 x.2.2.2.2.2.2.2.2.2.2.1 x.2.2.2.2.2.2.2.2.2.2.2.1 x.2.2.2.2.2.2.2.2.2.2.2.2.1 x.2.2.2.2.2.2.2.2.2.2.2.2.2.1 x.2.2.2.2.2.2.2.2.2.2.2.2.2.2.1 x.2.2.2.2.2.2.2.2.2.2.2.2.2.2.2.1 x.2.2.2.2.2.2.2.2.2.2.2.2.2.2.2.2.1 x.2.2.2.2.2.2.2.2.2.2.2.2.2.2.2.2.2⟩
noncomputable def env [Fuel] (Gr:List GField → Int → Int → Bs → Bs → List Bs → List GExp → Bs → List Bs → List GField → List GExp → List GFunc → Bool → List GField → List GExp → List GExp → Int → (List (Bs × GFace)) → Option (GType × Int × Bs × (List Bs) × (List GField) × (List GExp) × (List GFunc) × Bool × (List GField) × (List GExp) × (List GExp) × Int × List (Bs × GFace))):Env:=⟨Try.prog,[],[types_judge_callee.con,(types_judge_list.con Gr),types_below.con],[(17,0),(36,1),(56,2)],[],[17,36],[],[],[54,55],[50,52,63,65,65000067,69000080],[],[]⟩
noncomputable def an:An := .seq .no (.seq .no (.seq (.seq .no (.cond (.seq .no .no) .no)) (.seq (.seq .no (.cond (.seq .no .no) .no)) (.seq .no (.seq (.seq .no (.cond (.seq .no .no) .no)) (.seq (.seq .no (.one (.loop ⟨[(45,(aD iT))],[],[iT]⟩ [0,6,8,43,44] [6,8,1000000,1000001] (.seq .no (.seq (.cond .no .no) (.seq (.one (.seq .no (.seq .no (.cond (.seq .no .no) .no)))) .no)))))) (.seq .no (.seq .no .no))))))))
theorem run [Fuel] (Gr:List GField → Int → Int → Bs → Bs → List Bs → List GExp → Bs → List Bs → List GField → List GExp → List GFunc → Bool → List GField → List GExp → List GExp → Int → (List (Bs × GFace)) → Option (GType × Int × Bs × (List Bs) × (List GField) × (List GExp) × (List GFunc) × Bool × (List GField) × (List GExp) × (List GExp) × Int × List (Bs × GFace))):RunIs (env Gr) Try.f58 an (con Gr):=fun x=>by kernel_rfl
theorem ok [Fuel] (Gr:List GField → Int → Int → Bs → Bs → List Bs → List GExp → Bs → List Bs → List GField → List GExp → List GFunc → Bool → List GField → List GExp → List GExp → Int → (List (Bs × GFace)) → Option (GType × Int × Bs × (List Bs) × (List GField) × (List GExp) × (List GFunc) × Bool × (List GField) × (List GExp) × (List GExp) × Int × List (Bs × GFace))) (hG:ConOK Try.prog (types_judge_find.conG Gr)):ConOK Try.prog (con Gr):=run_ok (E:=(env Gr)) (run Gr) mixed Try.func58 (by kernel_rfl) (cons_cons types_judge_callee.ok (cons_cons (types_judge_list.ok Gr hG) (cons_cons types_below.ok (cons_nil))))
end types_judge_call
namespace types_plain_1_1
noncomputable def con [Fuel]:Con:=⟨74,[.c (.g [.d iT,.d (.sl GFieldT)]),.c (.v (.loc 1000000 0))],[(1000000,.box 3 [.d iT])],[],[iT,(.sl GFieldT),iT],.one (.v (.d .bool)),[],[.bool],fun x=>types_plain_1_1 x.1 x.2.1 x.2.2⟩
noncomputable def env [Fuel]:Env:=⟨Try.prog,[],[],[],[],[],[],[],[],[],[],[]⟩
noncomputable def an:An := .seq .no (.seq .no .no)
theorem run [Fuel]:RunIs env Try.f74 an con:=fun x=>by kernel_rfl
theorem ok [Fuel]:ConOK Try.prog con:=run_ok (E:=env) run mixed Try.func74 (by kernel_rfl) (cons_nil)
end types_plain_1_1
namespace slices_IndexFunc_api_Type_api_Type_v2
noncomputable def con [Fuel]:Con:=⟨71,[.c (.v (.d (.sl GTypeT))),.c (.v (.fn 148 [1000000]))],[(1000000,.box 3 [.d iT])],[],[(.sl GTypeT),iT],.one (.v (.d iT)),[],[iT],fun x=>slices_IndexFunc_api_Type_api_Type_v2 x.1 x.2⟩
noncomputable def env [Fuel]:Env:=⟨Try.prog,[],[types_plain_1_1.con],[(16,0)],[],[16],[],[],[],[],[],[]⟩
noncomputable def an:An := .seq .no (.seq (.seq .no (.one (.loop ⟨[(8,(aD iT))],[],[iT]⟩ [0,1,7] [1000000] (.seq .no (.seq (.cond .no .no) (.seq (.one (.seq .no (.seq .no (.cond (.seq .no .no) .no)))) .no)))))) (.seq .no .no))
theorem run [Fuel]:RunIs env Try.f71 an con:=fun x=>by kernel_rfl
theorem ok [Fuel]:ConOK Try.prog con:=run_ok (E:=env) run mixed Try.func71 (by kernel_rfl) (cons_cons types_plain_1_1.ok (cons_nil))
end slices_IndexFunc_api_Type_api_Type_v2
namespace slices_ContainsFunc_api_Type_api_Type_v2
noncomputable def con [Fuel]:Con:=⟨54,[.c (.v (.d (.sl GTypeT))),.c (.v (.fn 148 [1000000]))],[(1000000,.box 3 [.d iT])],[],[(.sl GTypeT),iT],.one (.v (.d .bool)),[],[.bool],fun x=>slices_ContainsFunc_api_Type_api_Type_v2 x.1 x.2⟩
noncomputable def env [Fuel]:Env:=⟨Try.prog,[],[slices_IndexFunc_api_Type_api_Type_v2.con],[(7,0)],[],[7],[],[],[],[],[],[]⟩
noncomputable def an:An := .seq .no (.seq .no .no)
theorem run [Fuel]:RunIs env Try.f54 an con:=fun x=>by kernel_rfl
theorem ok [Fuel]:ConOK Try.prog con:=run_ok (E:=env) run mixed Try.func54 (by kernel_rfl) (cons_cons slices_IndexFunc_api_Type_api_Type_v2.ok (cons_nil))
end slices_ContainsFunc_api_Type_api_Type_v2
namespace types_plain_1
noncomputable def con [Fuel]:Con:=⟨73,[(aD iT),.c (.v (.loc 1000000 0))],[(1000000,.box 27 [.d (.sl GTypeT)])],[],[iT,(.sl GTypeT)],.one (.v (.d .bool)),[],[.bool],fun x=>types_plain_1 x.1 x.2⟩
noncomputable def env [Fuel]:Env:=⟨Try.prog,[],[slices_ContainsFunc_api_Type_api_Type_v2.con],[(6,0)],[],[6],[],[],[],[],[],[]⟩
noncomputable def an:An := .seq .no (.seq .no .no)
theorem run [Fuel]:RunIs env Try.f73 an con:=fun x=>by kernel_rfl
theorem ok [Fuel]:ConOK Try.prog con:=run_ok (E:=env) run mixed Try.func73 (by kernel_rfl) (cons_cons slices_ContainsFunc_api_Type_api_Type_v2.ok (cons_nil))
end types_plain_1
namespace types_plain
noncomputable def con [Fuel]:Con:=⟨60,[.c (.g [.d iT,.d iT,.d .str,.d .str,.d lsT,.d (.sl GExpT)]),.c (.v (.d (.sl GTypeT)))],[],[],[iT,iT,.str,.str,lsT,(.sl GExpT),(.sl GTypeT)],.tup [.a GTypeT,.v (.d iT)],[],[GTypeT,iT],fun x=>types_plain x.1 x.2.1 x.2.2.1 x.2.2.2.1 x.2.2.2.2.1 x.2.2.2.2.2.1 x.2.2.2.2.2.2⟩
noncomputable def env [Fuel]:Env:=⟨Try.prog,[(22,GFieldT)],[types_plain_1.con,types_upper.con,types_lookup.con],[(21,0),(28,0),(33,0),(36,0),(44,0),(55,1),(98,2)],[31,1000000],[21,28,33,36,44],[],[85],[50,51,53,54,81,82,93,95],[49,52,77,79,83,92,97,4000027,8000024,79000042,88000024,97000042],[],[]⟩
noncomputable def an:An := .seq .no (.seq .no (.seq .no (.join ⟨[(7,.c (.v (.loc 500006 0))),(8,.c (.v (.d .bool)))],[(500006,.box 24 [.d iT,.d (.sl GFieldT)])],[.bool,iT,(.sl GFieldT)]⟩ [4] [4] true (.seq .no (.one (.join ⟨[(15,.c (.v (.d .bool)))],[],[.bool]⟩ [2,3,4,6,7,8,14] [2,3,4,7] true (.seq .no (.cond .no (.seq .no (.cond .no (.seq .no (.cond .no .no)))))) (.cond .no (.seq .no (.cond .no (.seq .no (.cond .no (.seq .no (.cond .no (.join ⟨[(39,.c (.v (.d .bool)))],[],[.bool]⟩ [2,3,4,6,7,8,14] [2,3,4,7] true (.seq .no (.cond .no (.seq .no (.cond .no .no)))) (.cond .no (.seq .no (.cond (.seq .no .no) (.seq .no (.cond (.seq .no (.seq .no (.one (.loop ⟨[(7,.c (.v (.loc 500010 0))),(71,(aD iT))],[(500010,.box 24 [.d iT,.own 500011]),(500011,.arr 48 GFieldT)],[iT,iT,(.sl GFieldT)]⟩ [2,4,8,69,70] [2,4] (.seq .no (.seq (.cond .no .no) (.seq (.one (.seq .no .no)) .no))))))) (.seq .no (.cond .no .no)))))))))))))))))) (.seq (.seq .no (.cond (.seq .no .no) .no)) (.seq .no .no)))))
theorem run [Fuel]:RunIs env Try.f60 an con:=fun x=>by kernel_rfl
theorem ok [Fuel]:ConOK Try.prog con:=run_ok (E:=env) run mixed Try.func60 (by kernel_rfl) (cons_cons types_plain_1.ok (cons_cons types_upper.ok (cons_cons types_lookup.ok (cons_nil))))
end types_plain
namespace types_judge_find
noncomputable def con [Fuel]:Con:=conG (rec Fuel.n)
noncomputable def env [Fuel] (Gr:List GField → Int → Int → Bs → Bs → List Bs → List GExp → Bs → List Bs → List GField → List GExp → List GFunc → Bool → List GField → List GExp → List GExp → Int → (List (Bs × GFace)) → Option (GType × Int × Bs × (List Bs) × (List GField) × (List GExp) × (List GFunc) × Bool × (List GField) × (List GExp) × (List GExp) × Int × List (Bs × GFace))):Env:=⟨Try.prog,[(22,GFieldT)],[types_lookup.con,(types_judge_find.conG Gr),slices_Clone_api_Field_api_Field.con,(types_judge_variable.con Gr),(types_judge_call.con Gr),(types_judge_list.con Gr),types_plain.con],[(22,0),(37,1),(46,2),(57,1),(66,3),(74,4),(82,5),(103,6)],[22,1000000],[37,57,66,74,82],[],[51,52],[55,56],[48,49,54,95,97,7000024,7500006,11500010,48000042,54000042,97000042,101000080],[],[]⟩
noncomputable def an:An := .seq .no (.seq (.seq .no (.one (.seq .no (.cond (.seq (.seq .no (.seq .no (.cond (.seq .no .no) .no))) (.seq .no .no)) (.seq .no (.cond (.seq .no (.seq (.seq .no (.cond (.seq .no .no) .no)) (.seq .no .no))) (.join ⟨[(60,.c (.v (.d .bool)))],[],[.bool]⟩ [0,1,5,6,15] [5,6,1000000,1000001] true (.seq .no (.cond .no .no)) (.cond (.seq .no .no) (.seq .no (.cond (.seq .no .no) .no)))))))))) (.seq .no (.seq (.seq .no (.cond (.seq .no .no) .no)) (.join ⟨[],[(1000000,.box 80 [.d .str,.d lsT,.d (.sl GFieldT),.d (.sl GExpT),.d (.sl GFuncT),.d .bool,.d (.sl GFieldT),.d (.sl GExpT),.d (.sl GExpT),.mp 1000001,.d iT]),(1000001,.mapS true GFaceT)],[.str,lsT,(.sl GFieldT),(.sl GExpT),(.sl GFuncT),.bool,(.sl GFieldT),(.sl GExpT),(.sl GExpT),iT,(.sl (.pair .str GFaceT))]⟩ [5,6,12] [5,6] true (.seq .no (.cond .no .no)) (.seq .no .no)))))
theorem run [Fuel] (Gr:List GField → Int → Int → Bs → Bs → List Bs → List GExp → Bs → List Bs → List GField → List GExp → List GFunc → Bool → List GField → List GExp → List GExp → Int → (List (Bs × GFace)) → Option (GType × Int × Bs × (List Bs) × (List GField) × (List GExp) × (List GFunc) × Bool × (List GField) × (List GExp) × (List GExp) × Int × List (Bs × GFace))):RunIs (env Gr) Try.f38 an (conG (body Gr)):=fun x=>by kernel_rfl
theorem okB [Fuel] (Gr:List GField → Int → Int → Bs → Bs → List Bs → List GExp → Bs → List Bs → List GField → List GExp → List GFunc → Bool → List GField → List GExp → List GExp → Int → (List (Bs × GFace)) → Option (GType × Int × Bs × (List Bs) × (List GField) × (List GExp) × (List GFunc) × Bool × (List GField) × (List GExp) × (List GExp) × Int × List (Bs × GFace))) (hG:ConOK Try.prog (conG Gr)):ConOK Try.prog (conG (body Gr)):=run_ok (E:=(env Gr)) (run Gr) mixed Try.func38 (by kernel_rfl) (cons_cons types_lookup.ok (cons_cons hG (cons_cons slices_Clone_api_Field_api_Field.ok (cons_cons (types_judge_variable.ok Gr hG) (cons_cons (types_judge_call.ok Gr hG) (cons_cons (types_judge_list.ok Gr hG) (cons_cons types_plain.ok (cons_nil))))))))
theorem okN [Fuel]:∀ n,ConOK Try.prog (conG (rec n))
 | 0=>⟨by kernel_rfl,fun x r h=>by have h2:(none:Option (Tup types_judge_find.qs)) = some r:=h; cases h2⟩
 | n + 1=>okB (rec n) (okN n)
theorem ok [Fuel]:ConOK Try.prog con:=okN _
end types_judge_find
namespace types_newJudge_v2
noncomputable def con [Fuel]:Con:=⟨37,[.c (.g [.d .str,.d lsT,.d (.sl GFieldT),.d (.sl GExpT),.d (.sl GFuncT),.d .bool,.d (.sl GFieldT),.d (.sl GExpT),.d (.sl GExpT)]),.c (.v (.d (.sl GFaceT)))],[],[],[.str,lsT,(.sl GFieldT),(.sl GExpT),(.sl GFuncT),.bool,(.sl GFieldT),(.sl GExpT),(.sl GExpT),(.sl GFaceT)],.tup [.v (.pn),.v (.bc false)],[],[],fun x=>types_newJudge_v2 x.1 x.2.1 x.2.2.1 x.2.2.2.1 x.2.2.2.2.1 x.2.2.2.2.2.1 x.2.2.2.2.2.2.1 x.2.2.2.2.2.2.2.1 x.2.2.2.2.2.2.2.2.1 x.2.2.2.2.2.2.2.2.2⟩
noncomputable def env [Fuel]:Env:=⟨Try.prog,[(78,GFaceT)],[types_Right.con,slices_ContainsFunc_api_Type_api_Type.con],[(32,0),(37,1)],[11,1000000],[],[],[],[],[44,46,55,57,58,12000065,12500011,44000080,46500008],[],[]⟩
noncomputable def an:An := .seq .no (.seq .no (.seq (.seq .no (.one (.loop ⟨[(6,.c (.v (.loc 500001 0))),(19,(aD iT))],[(500001,.box 80 [.d .str,.d lsT,.d (.sl GFieldT),.d (.sl GExpT),.d (.sl GFuncT),.d .bool,.d (.sl GFieldT),.d (.sl GExpT),.d (.sl GExpT),.mp 500002,.d iT]),(500002,.mapS true GFaceT)],[iT,.str,lsT,(.sl GFieldT),(.sl GExpT),(.sl GFuncT),.bool,(.sl GFieldT),(.sl GExpT),(.sl GExpT),iT,(.sl (.pair .str GFaceT))]⟩ [17,18] [] (.seq .no (.seq (.cond .no .no) (.seq (.one (.seq .no (.join ⟨[],[],[]⟩ [6,8,17,18,19] [8,500001,500002] false (.seq .no (.one (.loop ⟨[(26,(aD iT))],[],[iT]⟩ [6,8,17,18,19,24,25] [8,500001,500002] (.seq .no (.seq (.cond .no .no) (.seq (.one (.seq .no (.join ⟨[(38,.c (.v (.d .bool)))],[],[.bool]⟩ [6,8,17,18,19,24,25,26] [8,500001,500002] true .no (.cond (.seq .no .no) .no)))) .no)))))) (.seq .no (.seq .no (.cond .no .no)))))) .no)))))) (.seq .no .no)))
theorem run [Fuel]:RunIs env Try.f37 an con:=fun x=>by kernel_rfl
theorem ok [Fuel]:ConOK Try.prog con:=run_ok (E:=env) run mixed Try.func37 (by kernel_rfl) (cons_cons types_Right.ok (cons_cons slices_ContainsFunc_api_Type_api_Type.ok (cons_nil)))
end types_newJudge_v2
namespace types_TypeOf
noncomputable def con [Fuel]:Con:=⟨19,[.c (.a GModuleT),.c (.v (.d (.sl GFaceT))),.c (.v (.d (.sl GFieldT))),.c (.g [.d iT,.d iT,.d .str,.d .str,.d lsT,.d (.sl GExpT)])],[],[],[GModuleT,(.sl GFaceT),(.sl GFieldT),iT,iT,.str,.str,lsT,(.sl GExpT)],.tup [.a GTypeT,.v (.d iT),.v (.d iT)],[],[GTypeT,iT,iT],fun x=>types_TypeOf x.1 x.2.1 x.2.2.1 x.2.2.2.1 x.2.2.2.2.1 x.2.2.2.2.2.1 x.2.2.2.2.2.2.1 x.2.2.2.2.2.2.2.1 x.2.2.2.2.2.2.2.2⟩
noncomputable def env [Fuel]:Env:=⟨Try.prog,[],[slices_ContainsFunc_api_Field_api_Field.con,syntax_RightExp.con,syntax_Right.con,types_newJudge.con,types_judge_find.con,types_fresh_v2.con,types_newJudge_v2.con],[(17,0),(21,1),(26,2),(33,3),(43,4),(51,5),(1000033,6)],[1000000],[43],[],[],[],[50,55,9000024,9500008,15500014,55000080],[],[]⟩
noncomputable def an:An := .seq .no (.seq .no (.seq (.join ⟨[(28,.c (.v (.d .bool)))],[],[.bool]⟩ [1,2,4,7,8] [4,7,8] true .no (.cond (.seq .no .no) .no)) (.seq .no (.seq (.seq .no (.cond (.seq .no .no) .no)) (.seq .no (.seq (.seq .no (.cond (.seq .no .no) .no)) (.seq .no .no)))))))
theorem run [Fuel]:RunIs env Try.f19 an con:=fun x=>by kernel_rfl
theorem ok [Fuel]:ConOK Try.prog con:=run_ok (E:=env) run mixed Try.func19 (by kernel_rfl) (cons_cons slices_ContainsFunc_api_Field_api_Field.ok (cons_cons syntax_RightExp.ok (cons_cons syntax_Right.ok (cons_cons types_newJudge.ok (cons_cons types_judge_find.ok (cons_cons types_fresh_v2.ok (cons_cons types_newJudge_v2.ok (cons_nil))))))))
end types_TypeOf
noncomputable abbrev types_judge_find_v2.ps:List Ty:=[(.sl GFieldT),iT,iT,.str,.str,lsT,(.sl GExpT),.str,.bool,iT]
noncomputable abbrev types_judge_find_v2.qs:List Ty:=[GTypeT,iT,.str,.bool,iT]
noncomputable def types_judge_find_v2.conG [Fuel] (Gr:List GField → Int → Int → Bs → Bs → List Bs → List GExp → Bs → Bool → Int → Option (GType × Int × Bs × Bool × Int)):Con:=⟨38,[.c (.v (.loc 1000000 0)),.c (.v (.d (.sl GFieldT))),.c (.g [.d iT,.d iT,.d .str,.d .str,.d lsT,.d (.sl GExpT)])],[],[(1000000,.box 80 [.d .str,.nil,.nil,.nil,.nil,.d .bool,.nil,.nil,.nil,.mn,.d iT])],types_judge_find_v2.ps,.tup [.a GTypeT,.v (.d iT)],[(1000000,.box 80 [.d .str,.nil,.nil,.nil,.nil,.d .bool,.nil,.nil,.nil,.mn,.d iT])],types_judge_find_v2.qs,fun x=>Gr x.1 x.2.1 x.2.2.1 x.2.2.2.1 x.2.2.2.2.1 x.2.2.2.2.2.1 x.2.2.2.2.2.2.1 x.2.2.2.2.2.2.2.1 x.2.2.2.2.2.2.2.2.1 x.2.2.2.2.2.2.2.2.2⟩
namespace types_judge_variable_v2
noncomputable def con [Fuel] (Gr:List GField → Int → Int → Bs → Bs → List Bs → List GExp → Bs → Bool → Int → Option (GType × Int × Bs × Bool × Int)):Con:=⟨57,[.c (.v (.loc 1000000 0)),.c (.v (.d (.sl GFieldT))),.c (.g [.d iT,.d iT,.d .str,.d .str,.d lsT,.d (.sl GExpT)])],[],[(1000000,.box 80 [.d .str,.nil,.nil,.nil,.nil,.d .bool,.nil,.nil,.nil,.mn,.d iT])],[(.sl GFieldT),iT,iT,.str,.str,lsT,(.sl GExpT),.str,.bool,iT],.tup [.a GTypeT,.v (.d iT)],[(1000000,.box 80 [.d .str,.nil,.nil,.nil,.nil,.d .bool,.nil,.nil,.nil,.mn,.d iT])],[GTypeT,iT,.str,.bool,iT],fun x=>types_judge_variable_v2 Gr x.1 x.2.1 x.2.2.1 x.2.2.2.1 x.2.2.2.2.1 x.2.2.2.2.2.1 x.2.2.2.2.2.2.1 x.2.2.2.2.2.2.2.1 x.2.2.2.2.2.2.2.2.1 x.2.2.2.2.2.2.2.2.2⟩
noncomputable def env [Fuel] (Gr:List GField → Int → Int → Bs → Bs → List Bs → List GExp → Bs → Bool → Int → Option (GType × Int × Bs × Bool × Int)):Env:=⟨Try.prog,[],[types_lookup.con,(types_judge_find_v2.conG Gr),types_below.con],[(20,0),(36,1),(47,2)],[],[36],[],[],[],[17,19,9000024,17000080,19000042],[],[]⟩
noncomputable def an:An := .seq .no (.seq .no (.seq (.seq .no (.cond (.seq .no .no) .no)) (.seq (.seq .no (.cond (.seq .no (.one (.seq .no (.cond (.seq .no .no) (.seq .no (.cond (.seq .no .no) .no)))))) .no)) (.seq .no .no))))
theorem run [Fuel] (Gr:List GField → Int → Int → Bs → Bs → List Bs → List GExp → Bs → Bool → Int → Option (GType × Int × Bs × Bool × Int)):RunIs (env Gr) Try.f57 an (con Gr):=fun x=>by kernel_rfl
theorem ok [Fuel] (Gr:List GField → Int → Int → Bs → Bs → List Bs → List GExp → Bs → Bool → Int → Option (GType × Int × Bs × Bool × Int)) (hG:ConOK Try.prog (types_judge_find_v2.conG Gr)):ConOK Try.prog (con Gr):=run_ok (E:=(env Gr)) (run Gr) mixed Try.func57 (by kernel_rfl) (cons_cons types_lookup.ok (cons_cons hG (cons_cons types_below.ok (cons_nil))))
end types_judge_variable_v2
namespace types_judge_callee_v2
noncomputable def con [Fuel]:Con:=⟨72,[.c (.v (.loc 1000000 0)),.c (.g [.d iT,.d iT,.d .str,.d .str,.d lsT,.d (.sl GExpT)])],[(1000000,.box 80 [.d .str,.nil,.nil,.nil,.nil,.d .bool,.nil,.nil,.nil,.mn,.d iT])],[],[iT,iT,.str,.str,lsT,(.sl GExpT),.str,.bool,iT],.tup [.a GSigT,.v (.d .bool)],[],[GSigT,.bool],fun x=>types_judge_callee_v2 x.1 x.2.1 x.2.2.1 x.2.2.2.1 x.2.2.2.2.1 x.2.2.2.2.2.1 x.2.2.2.2.2.2.1 x.2.2.2.2.2.2.2.1 x.2.2.2.2.2.2.2.2⟩
noncomputable def env [Fuel]:Env:=⟨Try.prog,[(78,GFaceT)],[slices_IndexFunc_api_Func_api_Func.con,slices_IndexFunc_api_Sig_api_Sig.con,slices_Contains_string_string.con],[(23,0),(69,1),(84,2)],[13,1000000],[23,69],[],[51],[],[60,62,81,83,12000065,60000080,62000042],[],[]⟩
noncomputable def an:An := .seq .no (.join ⟨[],[],[]⟩ [0,3,4] [3,4,1000000] false (.seq .no (.cond (.seq .no (.seq (.seq .no (.cond (.seq .no .no) .no)) (.seq .no (.seq .no (.seq (.seq .no (.one .no)) (.seq .no .no)))))) .no)) (.seq .no (.seq .no (.seq (.join ⟨[(86,.c (.v (.d .bool)))],[],[.bool]⟩ [4,11,13] [4,11] true .no (.cond (.seq .no .no) .no)) (.seq .no .no)))))
theorem run [Fuel]:RunIs env Try.f72 an con:=fun x=>by kernel_rfl
theorem ok [Fuel]:ConOK Try.prog con:=run_ok (E:=env) run mixed Try.func72 (by kernel_rfl) (cons_cons slices_IndexFunc_api_Func_api_Func.ok (cons_cons slices_IndexFunc_api_Sig_api_Sig.ok (cons_cons slices_Contains_string_string.ok (cons_nil))))
end types_judge_callee_v2
namespace types_judge_list_v2
noncomputable def con [Fuel] (Gr:List GField → Int → Int → Bs → Bs → List Bs → List GExp → Bs → Bool → Int → Option (GType × Int × Bs × Bool × Int)):Con:=⟨59,[.c (.v (.loc 1000000 0)),.c (.v (.d (.sl GFieldT))),.c (.v (.d (.sl GExpT)))],[],[(1000000,.box 80 [.d .str,.nil,.nil,.nil,.nil,.d .bool,.nil,.nil,.nil,.mn,.d iT])],[(.sl GFieldT),(.sl GExpT),.str,.bool,iT],.tup [.v (.d (.sl GTypeT)),.v (.d iT)],[(1000000,.box 80 [.d .str,.nil,.nil,.nil,.nil,.d .bool,.nil,.nil,.nil,.mn,.d iT])],[(.sl GTypeT),iT,.str,.bool,iT],fun x=>types_judge_list_v2 Gr x.1 x.2.1 x.2.2.1 x.2.2.2.1 x.2.2.2.2⟩
noncomputable def env [Fuel] (Gr:List GField → Int → Int → Bs → Bs → List Bs → List GExp → Bs → Bool → Int → Option (GType × Int × Bs × Bool × Int)):Env:=⟨Try.prog,[(27,GTypeT)],[(types_judge_find_v2.conG Gr)],[(23,0)],[],[23],[],[31],[],[],[],[]⟩
noncomputable def an:An := .seq .no (.seq .no (.seq (.seq .no (.one (.loop ⟨[(0,.c (.v (.loc 1000000 0))),(8,.c (.v (.own 500002))),(15,(aD iT))],[(1000000,.box 80 [.d .str,.nil,.nil,.nil,.nil,.d .bool,.nil,.nil,.nil,.mn,.d iT]),(500002,.arr 24 GTypeT)],[iT,.str,.bool,iT,(.sl GTypeT)]⟩ [1,13,14] [] (.seq .no (.seq (.cond .no .no) (.seq (.one (.seq .no (.seq .no (.seq (.seq .no (.cond (.seq .no .no) .no)) .no)))) .no)))))) (.seq .no .no)))
theorem run [Fuel] (Gr:List GField → Int → Int → Bs → Bs → List Bs → List GExp → Bs → Bool → Int → Option (GType × Int × Bs × Bool × Int)):RunIs (env Gr) Try.f59 an (con Gr):=fun x=>by kernel_rfl
theorem ok [Fuel] (Gr:List GField → Int → Int → Bs → Bs → List Bs → List GExp → Bs → Bool → Int → Option (GType × Int × Bs × Bool × Int)) (hG:ConOK Try.prog (types_judge_find_v2.conG Gr)):ConOK Try.prog (con Gr):=run_ok (E:=(env Gr)) (run Gr) mixed Try.func59 (by kernel_rfl) (cons_cons hG (cons_nil))
end types_judge_list_v2
namespace types_judge_call_v2
noncomputable def con [Fuel] (Gr:List GField → Int → Int → Bs → Bs → List Bs → List GExp → Bs → Bool → Int → Option (GType × Int × Bs × Bool × Int)):Con:=⟨58,[.c (.v (.loc 1000000 0)),.c (.v (.d (.sl GFieldT))),.c (.g [.d iT,.d iT,.d .str,.d .str,.d lsT,.d (.sl GExpT)])],[],[(1000000,.box 80 [.d .str,.nil,.nil,.nil,.nil,.d .bool,.nil,.nil,.nil,.mn,.d iT])],[(.sl GFieldT),iT,iT,.str,.str,lsT,(.sl GExpT),.str,.bool,iT],.tup [.a GTypeT,.v (.d iT)],[(1000000,.box 80 [.d .str,.nil,.nil,.nil,.nil,.d .bool,.nil,.nil,.nil,.mn,.d iT])],[GTypeT,iT,.str,.bool,iT],fun x=>types_judge_call_v2 Gr x.1 x.2.1 x.2.2.1 x.2.2.2.1 x.2.2.2.2.1 x.2.2.2.2.2.1 x.2.2.2.2.2.2.1 x.2.2.2.2.2.2.2.1 x.2.2.2.2.2.2.2.2.1 x.2.2.2.2.2.2.2.2.2⟩
noncomputable def env [Fuel] (Gr:List GField → Int → Int → Bs → Bs → List Bs → List GExp → Bs → Bool → Int → Option (GType × Int × Bs × Bool × Int)):Env:=⟨Try.prog,[],[types_judge_callee_v2.con,(types_judge_list_v2.con Gr),types_below.con],[(17,0),(36,1),(56,2)],[],[17,36],[],[],[54,55],[50,52,63,65,65000067,69000080],[],[]⟩
noncomputable def an:An := .seq .no (.seq .no (.seq (.seq .no (.cond (.seq .no .no) .no)) (.seq (.seq .no (.cond (.seq .no .no) .no)) (.seq .no (.seq (.seq .no (.cond (.seq .no .no) .no)) (.seq (.seq .no (.one (.loop ⟨[(45,(aD iT))],[],[iT]⟩ [0,6,8,43,44] [6,8,1000000] (.seq .no (.seq (.cond .no .no) (.seq (.one (.seq .no (.seq .no (.cond (.seq .no .no) .no)))) .no)))))) (.seq .no (.seq .no .no))))))))
theorem run [Fuel] (Gr:List GField → Int → Int → Bs → Bs → List Bs → List GExp → Bs → Bool → Int → Option (GType × Int × Bs × Bool × Int)):RunIs (env Gr) Try.f58 an (con Gr):=fun x=>by kernel_rfl
theorem ok [Fuel] (Gr:List GField → Int → Int → Bs → Bs → List Bs → List GExp → Bs → Bool → Int → Option (GType × Int × Bs × Bool × Int)) (hG:ConOK Try.prog (types_judge_find_v2.conG Gr)):ConOK Try.prog (con Gr):=run_ok (E:=(env Gr)) (run Gr) mixed Try.func58 (by kernel_rfl) (cons_cons types_judge_callee_v2.ok (cons_cons (types_judge_list_v2.ok Gr hG) (cons_cons types_below.ok (cons_nil))))
end types_judge_call_v2
namespace types_judge_find_v2
noncomputable def con [Fuel]:Con:=conG (rec Fuel.n)
noncomputable def env [Fuel] (Gr:List GField → Int → Int → Bs → Bs → List Bs → List GExp → Bs → Bool → Int → Option (GType × Int × Bs × Bool × Int)):Env:=⟨Try.prog,[(22,GFieldT)],[types_lookup.con,(types_judge_find_v2.conG Gr),slices_Clone_api_Field_api_Field.con,(types_judge_variable_v2.con Gr),(types_judge_call_v2.con Gr),(types_judge_list_v2.con Gr),types_plain.con],[(22,0),(37,1),(46,2),(57,1),(66,3),(74,4),(82,5),(103,6)],[22,1000000],[37,57,66,74,82],[],[51,52],[55,56],[48,49,54,95,97,7000024,7500006,11500010,48000042,54000042,97000042,101000080],[],[]⟩
noncomputable def an:An := .seq .no (.seq (.seq .no (.one (.seq .no (.cond (.seq (.seq .no (.seq .no (.cond (.seq .no .no) .no))) (.seq .no .no)) (.seq .no (.cond (.seq .no (.seq (.seq .no (.cond (.seq .no .no) .no)) (.seq .no .no))) (.join ⟨[(60,.c (.v (.d .bool)))],[],[.bool]⟩ [0,1,5,6,15] [5,6,1000000] true (.seq .no (.cond .no .no)) (.cond (.seq .no .no) (.seq .no (.cond (.seq .no .no) .no)))))))))) (.seq .no (.seq (.seq .no (.cond (.seq .no .no) .no)) (.join ⟨[],[(1000000,.box 80 [.d .str,.nil,.nil,.nil,.nil,.d .bool,.nil,.nil,.nil,.mn,.d iT])],[.str,.bool,iT]⟩ [5,6,12] [5,6] true (.seq .no (.cond .no .no)) (.seq .no .no)))))
theorem run [Fuel] (Gr:List GField → Int → Int → Bs → Bs → List Bs → List GExp → Bs → Bool → Int → Option (GType × Int × Bs × Bool × Int)):RunIs (env Gr) Try.f38 an (conG (body Gr)):=fun x=>by kernel_rfl
theorem okB [Fuel] (Gr:List GField → Int → Int → Bs → Bs → List Bs → List GExp → Bs → Bool → Int → Option (GType × Int × Bs × Bool × Int)) (hG:ConOK Try.prog (conG Gr)):ConOK Try.prog (conG (body Gr)):=run_ok (E:=(env Gr)) (run Gr) mixed Try.func38 (by kernel_rfl) (cons_cons types_lookup.ok (cons_cons hG (cons_cons slices_Clone_api_Field_api_Field.ok (cons_cons (types_judge_variable_v2.ok Gr hG) (cons_cons (types_judge_call_v2.ok Gr hG) (cons_cons (types_judge_list_v2.ok Gr hG) (cons_cons types_plain.ok (cons_nil))))))))
theorem okN [Fuel]:∀ n,ConOK Try.prog (conG (rec n))
 | 0=>⟨by kernel_rfl,fun x r h=>by have h2:(none:Option (Tup types_judge_find_v2.qs)) = some r:=h; cases h2⟩
 | n + 1=>okB (rec n) (okN n)
theorem ok [Fuel]:ConOK Try.prog con:=okN _
end types_judge_find_v2
namespace types_pure
noncomputable def con [Fuel]:Con:=⟨61,[.c (.v (.d .str)),.c (.v (.d (.sl GFieldT))),.c (.g [.d iT,.d iT,.d .str,.d .str,.d lsT,.d (.sl GExpT)]),.c (.g [.d iT,.d (.sl GFieldT)])],[],[],[.str,(.sl GFieldT),iT,iT,.str,.str,lsT,(.sl GExpT),iT,(.sl GFieldT)],.one (.v (.d iT)),[],[iT],fun x=>types_pure x.1 x.2.1 x.2.2.1 x.2.2.2.1 x.2.2.2.2.1 x.2.2.2.2.2.1 x.2.2.2.2.2.2.1 x.2.2.2.2.2.2.2.1 x.2.2.2.2.2.2.2.2.1 x.2.2.2.2.2.2.2.2.2⟩
noncomputable def env [Fuel]:Env:=⟨Try.prog,[],[types_judge_find_v2.con,types_below.con],[(20,0),(36,1)],[],[20],[],[],[],[],[],[]⟩
noncomputable def an:An := .seq .no (.seq .no (.seq .no (.seq (.one (.seq .no (.cond (.seq .no .no) (.seq .no (.cond (.seq .no .no) (.seq .no (.cond (.seq .no .no) .no))))))) (.seq .no .no))))
theorem run [Fuel]:RunIs env Try.f61 an con:=fun x=>by kernel_rfl
theorem ok [Fuel]:ConOK Try.prog con:=run_ok (E:=env) run mixed Try.func61 (by kernel_rfl) (cons_cons types_judge_find_v2.ok (cons_cons types_below.ok (cons_nil)))
end types_pure
namespace types_moves
noncomputable def con [Fuel]:Con:=⟨40,[.c (.g [.d .str,.d lsT,.d (.sl GFieldT),.d (.sl GExpT),.d (.sl GFuncT),.d .bool,.d (.sl GFieldT),.d (.sl GExpT),.d (.sl GExpT)])],[],[],[.str,lsT,(.sl GFieldT),(.sl GExpT),(.sl GFuncT),.bool,(.sl GFieldT),(.sl GExpT),(.sl GExpT)],.tup [.v (.d .str),.v (.d iT)],[],[.str,iT],fun x=>types_moves x.1 x.2.1 x.2.2.1 x.2.2.2.1 x.2.2.2.2.1 x.2.2.2.2.2.1 x.2.2.2.2.2.2.1 x.2.2.2.2.2.2.2.1 x.2.2.2.2.2.2.2.2⟩
noncomputable def env [Fuel]:Env:=⟨Try.prog,[],[types_pure.con],[(30,0),(61,0),(89,0)],[8,17],[],[],[],[26,27,57,58,85,86],[22,24,29,49,52,55,60,78,80,83,88],[],[]⟩
noncomputable def an:An := .seq .no (.join ⟨[],[],[]⟩ [1] [1] false (.seq .no (.one (.loop ⟨[(16,(aD iT))],[],[iT]⟩ [1,14,15] [1] (.seq .no (.seq (.cond .no .no) (.seq (.one (.seq .no (.seq .no (.seq .no (.cond (.seq .no .no) .no))))) .no)))))) (.seq (.seq .no (.cond (.seq .no .no) .no)) (.join ⟨[],[],[]⟩ [1] [1] false (.seq .no (.one (.loop ⟨[(43,(aD iT))],[],[iT]⟩ [1,41,42] [1] (.seq .no (.seq (.cond .no .no) (.seq (.one (.seq .no (.seq .no (.seq .no (.cond (.seq .no .no) .no))))) .no)))))) (.seq (.seq .no (.one (.loop ⟨[(72,(aD iT))],[],[iT]⟩ [1,70,71] [1] (.seq .no (.seq (.cond .no .no) (.seq (.one (.seq .no (.seq .no (.seq .no (.cond (.seq .no .no) .no))))) .no)))))) (.seq .no .no)))))
theorem run [Fuel]:RunIs env Try.f40 an con:=fun x=>by kernel_rfl
theorem ok [Fuel]:ConOK Try.prog con:=run_ok (E:=env) run mixed Try.func40 (by kernel_rfl) (cons_cons types_pure.ok (cons_nil))
end types_moves
namespace types_Check
noncomputable def con [Fuel]:Con:=⟨21,[.c (.a GModuleT),.c (.v (.d (.sl GFaceT)))],[],[],[GModuleT,(.sl GFaceT)],.tup [.v (.d .str),.v (.d iT)],[],[.str,iT],fun x=>types_Check x.1 x.2⟩
noncomputable def env [Fuel]:Env:=⟨Try.prog,[],[types_newJudge.con,syntax_Right.con,types_moves.con,types_judge_find.con,types_below.con,types_newJudge_v2.con],[(21,0),(28,1),(59,2),(82,3),(95,4),(1000021,5)],[11,1000000],[82],[],[],[],[103,105],[],[]⟩
noncomputable def an:An := .seq .no (.seq .no (.seq (.seq .no (.cond (.seq .no .no) .no)) (.join ⟨[],[],[]⟩ [2,6] [2,21,10021] false (.seq .no (.one (.loop ⟨[(34,(aD iT))],[],[iT]⟩ [2,6,32,33] [2,21,10021] (.seq .no (.seq (.cond .no .no) (.seq (.one (.seq .no (.seq .no (.join ⟨[(54,.c (.v (.d .bool)))],[],[.bool]⟩ [2,6,9,32,33,34] [2,21,10021] true .no (.cond (.seq .no .no) .no))))) .no)))))) (.seq (.seq .no (.seq .no (.cond (.seq .no .no) .no))) (.seq (.seq .no (.one (.loop ⟨[(6,.c (.v (.loc 500001 0))),(69,(aD iT))],[(500001,.box 80 [.d .str,.d lsT,.d (.sl GFieldT),.d (.sl GExpT),.d (.sl GFuncT),.d .bool,.d (.sl GFieldT),.d (.sl GExpT),.d (.sl GExpT),.mp 500002,.d iT]),(500002,.mapS true GFaceT)],[iT,.str,lsT,(.sl GFieldT),(.sl GExpT),(.sl GFuncT),.bool,(.sl GFieldT),(.sl GExpT),(.sl GExpT),iT,(.sl (.pair .str GFaceT))]⟩ [67,68] [] (.seq .no (.seq (.cond .no .no) (.seq (.one (.seq .no (.seq .no (.seq .no (.one (.seq .no (.cond (.seq .no .no) (.seq .no (.cond (.seq .no .no) (.seq .no (.cond (.seq .no .no) .no))))))))))) .no)))))) (.seq .no .no))))))
theorem run [Fuel]:RunIs env Try.f21 an con:=fun x=>by kernel_rfl
theorem ok [Fuel]:ConOK Try.prog con:=run_ok (E:=env) run mixed Try.func21 (by kernel_rfl) (cons_cons types_newJudge.ok (cons_cons syntax_Right.ok (cons_cons types_moves.ok (cons_cons types_judge_find.ok (cons_cons types_below.ok (cons_cons types_newJudge_v2.ok (cons_nil)))))))
end types_Check
namespace types_Sub
noncomputable def con [Fuel]:Con:=⟨13,[.c (.g [.d iT,.d (.sl GFieldT)]),.c (.g [.d iT,.d (.sl GFieldT)])],[],[],[iT,(.sl GFieldT),iT,(.sl GFieldT)],.one (.v (.d .bool)),[],[.bool],fun x=>types_Sub x.1 x.2.1 x.2.2.1 x.2.2.2⟩
noncomputable def env [Fuel]:Env:=⟨Try.prog,[],[types_Right.con,types_below.con],[(6,0),(9,0),(14,1)],[],[],[],[],[],[],[],[]⟩
noncomputable def an:An := .seq .no (.seq .no .no)
theorem run [Fuel]:RunIs env Try.f13 an con:=fun x=>by kernel_rfl
theorem ok [Fuel]:ConOK Try.prog con:=run_ok (E:=env) run mixed Try.func13 (by kernel_rfl) (cons_cons types_Right.ok (cons_cons types_below.ok (cons_nil)))
end types_Sub
noncomputable abbrev ladingref15_SameType.ps:List Ty:=[iT,(.sl GFieldT),iT,(.sl GFieldT)]
noncomputable abbrev ladingref15_SameType.qs:List Ty:=[.bool]
noncomputable def ladingref15_SameType.conG [Fuel] (Gr:Int → List GField → Int → List GField → Option Bool):Con:=⟨29,[.c (.g [.d iT,.d (.sl GFieldT)]),.c (.g [.d iT,.d (.sl GFieldT)])],[],[],ladingref15_SameType.ps,.one (.v (.d .bool)),[],ladingref15_SameType.qs,fun x=>Gr x.1 x.2.1 x.2.2.1 x.2.2.2⟩
namespace ladingref15_SameFields
noncomputable def con [Fuel] (Gr:Int → List GField → Int → List GField → Option Bool):Con:=⟨46,[.c (.v (.d (.sl GFieldT))),.c (.v (.d (.sl GFieldT)))],[],[],[(.sl GFieldT),(.sl GFieldT)],.one (.v (.d .bool)),[],[.bool],fun x=>ladingref15_SameFields Gr x.1 x.2⟩
noncomputable def env [Fuel] (Gr:Int → List GField → Int → List GField → Option Bool):Env:=⟨Try.prog,[],[(ladingref15_SameType.conG Gr)],[(39,0)],[1000000],[],[],[],[19,21,24,26,31,33,36,38],[],[],[]⟩
noncomputable def an:An := .seq .no (.seq (.seq .no (.cond (.seq .no .no) .no)) (.seq (.seq .no (.one (.loop ⟨[(5,(aD iT))],[],[iT]⟩ [0,1] [] (.seq (.seq .no (.cond .no .no)) (.seq (.one (.join ⟨[(41,.c (.v (.d .bool)))],[],[.bool]⟩ [0,1,5] [] true .no (.cond (.seq .no .no) .no))) .no))))) (.seq .no .no)))
theorem run [Fuel] (Gr:Int → List GField → Int → List GField → Option Bool):RunIs (env Gr) Try.f46 an (con Gr):=fun x=>by kernel_rfl
theorem ok [Fuel] (Gr:Int → List GField → Int → List GField → Option Bool) (hG:ConOK Try.prog (ladingref15_SameType.conG Gr)):ConOK Try.prog (con Gr):=run_ok (E:=(env Gr)) (run Gr) mixed Try.func46 (by kernel_rfl) (cons_cons hG (cons_nil))
end ladingref15_SameFields
namespace ladingref15_SameType
noncomputable def con [Fuel]:Con:=conG (rec Fuel.n)
noncomputable def env [Fuel] (Gr:Int → List GField → Int → List GField → Option Bool):Env:=⟨Try.prog,[],[(ladingref15_SameFields.con Gr)],[(15,0)],[],[],[],[],[],[],[],[]⟩
noncomputable def an:An := .seq .no (.seq .no .no)
theorem run [Fuel] (Gr:Int → List GField → Int → List GField → Option Bool):RunIs (env Gr) Try.f29 an (conG (body Gr)):=fun x=>by kernel_rfl
theorem okB [Fuel] (Gr:Int → List GField → Int → List GField → Option Bool) (hG:ConOK Try.prog (conG Gr)):ConOK Try.prog (conG (body Gr)):=run_ok (E:=(env Gr)) (run Gr) mixed Try.func29 (by kernel_rfl) (cons_cons (ladingref15_SameFields.ok Gr hG) (cons_nil))
theorem okN [Fuel]:∀ n,ConOK Try.prog (conG (rec n))
 | 0=>⟨by kernel_rfl,fun x r h=>by have h2:(none:Option (Tup ladingref15_SameType.qs)) = some r:=h; cases h2⟩
 | n + 1=>okB (rec n) (okN n)
theorem ok [Fuel]:ConOK Try.prog con:=okN _
end ladingref15_SameType
namespace ladinglaw16_same
noncomputable def con [Fuel]:Con:=⟨12,[.c (.g [.d iT,.d (.sl GFieldT)]),.c (.g [.d iT,.d (.sl GFieldT)])],[],[],[iT,(.sl GFieldT),iT,(.sl GFieldT)],.one (.v (.d .bool)),[],[.bool],fun x=>ladinglaw16_same x.1 x.2.1 x.2.2.1 x.2.2.2⟩
noncomputable def env [Fuel]:Env:=⟨Try.prog,[],[ladingref15_SameType.con],[(7,0)],[],[],[],[],[],[],[],[]⟩
noncomputable def an:An := .seq .no (.seq .no .no)
theorem run [Fuel]:RunIs env Try.f12 an con:=fun x=>by kernel_rfl
theorem ok [Fuel]:ConOK Try.prog con:=run_ok (E:=env) run mixed Try.func12 (by kernel_rfl) (cons_cons ladingref15_SameType.ok (cons_nil))
end ladinglaw16_same
namespace ladinglaw16_small
noncomputable def con [Fuel]:Con:=⟨8,[],[],[],[],.one (.v (.d .bool)),[],[.bool],fun x=>ladinglaw16_small⟩
noncomputable def env [Fuel]:Env:=⟨Try.prog,[(22,GFieldT),(33,.str),(34,GExpT),(35,GFuncT)],[ladinglaw16_rec.con,types_Join.con,types_Meet.con,ladinglaw16_num.con,types_TypeOf.con,types_Check.con,types_Sub.con,ladinglaw16_same.con],[(30,0),(34,0),(35,1),(41,0),(45,0),(46,2),(50,3),(51,3),(55,3),(68,4),(72,3),(80,5),(86,0),(89,0),(90,6),(94,0),(98,0),(99,6),(109,0),(110,7),(120,0),(121,7)],[],[],[],[29,33,40,44,49,52,54,56,62,66,73,76,85,88,93,97,108,119],[],[27,28,31,32,39,42,83,84,87,92,95,96,106,107,117,118,3500002,4000048,5000048,6000048,7000024,9000024,9500008],[],[]⟩
noncomputable def an:An := .seq .no (.seq .no (.seq .no (.seq .no (.seq .no (.seq .no (.seq .no (.seq .no (.seq .no (.seq .no (.seq .no (.seq .no (.seq .no (.seq .no .no)))))))))))))
theorem run [Fuel]:RunIs env Try.f8 an con:=fun x=>by kernel_rfl
theorem ok [Fuel]:ConOK Try.prog con:=run_ok (E:=env) run mixed Try.func8 (by kernel_rfl) (cons_cons ladinglaw16_rec.ok (cons_cons types_Join.ok (cons_cons types_Meet.ok (cons_cons ladinglaw16_num.ok (cons_cons types_TypeOf.ok (cons_cons types_Check.ok (cons_cons types_Sub.ok (cons_cons ladinglaw16_same.ok (cons_nil)))))))))
end ladinglaw16_small
noncomputable abbrev ladinglaw16_nodes.ps:List Ty:=[iT,(.sl GFieldT),iT,iT]
noncomputable abbrev ladinglaw16_nodes.qs:List Ty:=[iT]
noncomputable def ladinglaw16_nodes.conG [Fuel] (Gr:Int → List GField → Int → Int → Option Int):Con:=⟨26,[.c (.g [.d iT,.d (.sl GFieldT)]),(aD iT),(aD iT)],[],[],ladinglaw16_nodes.ps,.one (.v (.d iT)),[],ladinglaw16_nodes.qs,fun x=>Gr x.1 x.2.1 x.2.2.1 x.2.2.2⟩
namespace ladinglaw16_nodes
noncomputable def con [Fuel]:Con:=conG (rec Fuel.n)
noncomputable def env [Fuel] (Gr:Int → List GField → Int → Int → Option Int):Env:=⟨Try.prog,[],[(ladinglaw16_nodes.conG Gr)],[(53,0)],[1000000],[],[],[],[],[],[],[]⟩
noncomputable def an:An := .seq .no (.seq .no (.seq (.join ⟨[(16,.c (.v (.d .bool)))],[],[.bool]⟩ [1,2,3,7] [3] true .no (.cond (.seq .no .no) .no)) (.seq (.seq .no (.one (.loop ⟨[(7,(aD iT)),(8,(aD iT))],[],[iT,iT]⟩ [1,2,3] [3] (.seq (.join ⟨[(28,.c (.v (.d .bool)))],[],[.bool]⟩ [1,2,3,7,8] [3] true .no (.cond .no .no)) (.seq (.one (.seq (.seq .no (.cond (.seq .no .no) .no)) .no)) .no))))) (.seq .no .no))))
theorem run [Fuel] (Gr:Int → List GField → Int → Int → Option Int):RunIs (env Gr) Try.f26 an (conG (body Gr)):=fun x=>by kernel_rfl
theorem okB [Fuel] (Gr:Int → List GField → Int → Int → Option Int) (hG:ConOK Try.prog (conG Gr)):ConOK Try.prog (conG (body Gr)):=run_ok (E:=(env Gr)) (run Gr) mixed Try.func26 (by kernel_rfl) (cons_cons hG (cons_nil))
theorem okN [Fuel]:∀ n,ConOK Try.prog (conG (rec n))
 | 0=>⟨by kernel_rfl,fun x r h=>by have h2:(none:Option (Tup ladinglaw16_nodes.qs)) = some r:=h; cases h2⟩
 | n + 1=>okB (rec n) (okN n)
theorem ok [Fuel]:ConOK Try.prog con:=okN _
end ladinglaw16_nodes
namespace ladinglaw16_light
noncomputable def con [Fuel]:Con:=⟨9,[.c (.v (.d (.sl GTypeT)))],[],[],[(.sl GTypeT)],.one (.v (.d .bool)),[],[.bool],fun x=>ladinglaw16_light x⟩
noncomputable def env [Fuel]:Env:=⟨Try.prog,[],[ladinglaw16_nodes.con],[(14,0)],[],[],[],[],[],[],[],[]⟩
noncomputable def an:An := .seq .no (.seq (.seq .no (.one (.loop ⟨[(3,(aD iT))],[],[iT]⟩ [0] [] (.seq (.seq .no (.cond .no .no)) (.seq (.one (.seq .no (.cond (.seq .no .no) .no))) .no))))) (.seq .no .no))
theorem run [Fuel]:RunIs env Try.f9 an con:=fun x=>by kernel_rfl
theorem ok [Fuel]:ConOK Try.prog con:=run_ok (E:=env) run mixed Try.func9 (by kernel_rfl) (cons_cons ladinglaw16_nodes.ok (cons_nil))
end ladinglaw16_light
namespace ladinglaw16_TypesBounds
noncomputable def con [Fuel]:Con:=⟨3,[.c (.a GTypeT),.c (.a GTypeT),.c (.a GTypeT)],[],[],[GTypeT,GTypeT,GTypeT],.one (.v (.d .bool)),[],[.bool],fun x=>ladinglaw16_TypesBounds x.1 x.2.1 x.2.2⟩
noncomputable def env [Fuel]:Env:=⟨Try.prog,[(27,GTypeT)],[ladinglaw16_small.con,ladinglaw16_light.con,types_Meet.con,types_Join.con,ladinglaw16_same.con,types_Sub.con,types_Right.con],[(18,0),(23,1),(29,2),(35,3),(41,2),(47,3),(61,4),(69,5),(73,5),(83,5),(87,5),(97,4),(103,5),(107,5),(111,5),(115,5),(145,6),(148,6),(138,5),(126,5)],[11,12,1000000],[],[],[22],[],[],[],[]⟩
noncomputable def an:An := .seq .no (.seq .no (.seq (.seq .no (.cond (.seq .no .no) .no)) (.seq .no (.seq .no (.seq .no (.seq .no (.seq (.join ⟨[(100,.c (.v (.d .bool)))],[],[.bool]⟩ [3,4,5,7,8,9,10,11] [3,4,5,8,10] true .no (.cond (.seq .no .no) .no)) (.join ⟨[(16,.c (.v (.d .bool)))],[],[.bool]⟩ [3,4,5,7,8,9,10,11] [3,4,5,8,10] true .no (.join ⟨[(17,.c (.v (.d .bool)))],[],[.bool]⟩ [3,4,5,7,8,9,10,11,16] [3,4,5,8,10] true .no (.seq .no .no))))))))))
theorem run [Fuel]:RunIs env Try.f3 an con:=fun x=>by kernel_rfl
theorem ok [Fuel]:ConOK Try.prog con:=run_ok (E:=env) run mixed Try.func3 (by kernel_rfl) (cons_cons ladinglaw16_small.ok (cons_cons ladinglaw16_light.ok (cons_cons types_Meet.ok (cons_cons types_Join.ok (cons_cons ladinglaw16_same.ok (cons_cons types_Sub.ok (cons_cons types_Right.ok (cons_nil))))))))
end ladinglaw16_TypesBounds
end Go.Proofs.Ytaocfjifacnokaa
