import Derived.Test.YtcmibmohdnbhgaaGreatDoorWModel
import Derived.Test.YtcmibmohdnbhgaaGreatDoorD12
import Derived.Test.YtcmibmohdnbhgaaGreatDoorLB
namespace Go.Proofs.YtcmibmohdnbhgaaGreatDoor
open Go.Lad
set_option linter.unusedVariables false
set_option maxRecDepth 100000
theorem mixed:Tryz.prog.follows .mixedOrders = true:=by kernel_rfl
noncomputable abbrev iT:Ty := .int .i64
noncomputable abbrev liT:Ty := .sl iT
noncomputable abbrev lliT:Ty := .sl liT
noncomputable abbrev lbT:Ty := .sl .bool
noncomputable abbrev lsT:Ty := .sl .str
noncomputable abbrev aD (t:Ty):SSh := .c (.v (.d t))
noncomputable def GLicT:Ty:=(.pair iT (.pair .str (.slu 2)))
noncomputable def GMutexT:Ty:=(.pair (.int .i32) (.int .u32))
noncomputable def GParserT:Ty:=(.pair lsT iT)
namespace strings_NewReplacer
noncomputable def con [Fuel]:Con:=⟨34,[(aD lsT)],[],[],[lsT],.one (.v (.loc 0 0)),[(0,.box 93 [.d (.int .u32),.d (.int .i32),.d (.int .u32),.dead,.own 1]),(1,.arr 9 .str)],[(.int .u32),(.int .i32),(.int .u32),lsT],fun x=>strings_NewReplacer x⟩
noncomputable def env [Fuel]:Env:=⟨Tryz.prog,[(27,.str)],[],[],[],[],[],[],[],[],[],[]⟩
noncomputable def an:An := .seq .no (.seq (.seq .no (.cond .no .no)) (.seq .no .no))
theorem run [Fuel]:RunIs env Tryz.f34 an con:=fun x=>by kernel_rfl
theorem ok [Fuel]:ConOK Tryz.prog con:=run_ok (E:=env) run mixed Tryz.func34 (by kernel_rfl) (cons_nil)
end strings_NewReplacer
noncomputable def strings_Replacer_Replace.con [Fuel]:Con:=replCon 35 93
theorem strings_Replacer_Replace.ok [Fuel]:ConOK Tryz.prog strings_Replacer_Replace.con:=repl_con
noncomputable def strings_Split.con [Fuel]:Con:=splitCon 33
theorem strings_Split.ok [Fuel]:ConOK Tryz.prog strings_Split.con:=split_conx
namespace licence_tokens_skip
noncomputable def con [Fuel]:Con:=⟨93,[.c (.v (.loc 1000000 0)),.c (.v (.d .str))],[],[(1000000,.box 59 [.d lsT])],[.str,lsT],.one (.v (.d .bool)),[(1000000,.box 59 [.d lsT])],[.bool,lsT],fun x=>licence_tokens_skip x.1 x.2⟩
noncomputable def env [Fuel]:Env:=⟨Tryz.prog,[],[],[],[1000000],[],[],[],[],[],[],[]⟩
noncomputable def an:An := .seq .no (.seq (.join ⟨[(20,.c (.v (.d .bool)))],[],[.bool]⟩ [0] [1000000] true .no (.cond (.seq .no (.seq .no .no)) .no)) (.seq .no .no))
theorem run [Fuel]:RunIs env Tryz.f93 an con:=fun x=>by kernel_rfl
theorem ok [Fuel]:ConOK Tryz.prog con:=run_ok (E:=env) run mixed Tryz.func93 (by kernel_rfl) (cons_nil)
end licence_tokens_skip
noncomputable def strings_Trim.con [Fuel]:Con:=trimCon 72
theorem strings_Trim.ok [Fuel]:ConOK Tryz.prog strings_Trim.con:=trim_con
noncomputable def strings_ContainsFunc.con [Fuel]:Con:=contFCon 73 74
theorem strings_ContainsFunc.ok [Fuel]:ConOK Tryz.prog strings_ContainsFunc.con:=contF_con
namespace licence_named
noncomputable def con [Fuel]:Con:=⟨49,[.c (.v (.d .str))],[],[],[.str],.one (.v (.d .bool)),[],[.bool],fun x=>licence_named x⟩
noncomputable def env [Fuel]:Env:=⟨Tryz.prog,[],[strings_Trim.con,strings_ContainsFunc.con],[(29,0),(33,1)],[1000000],[],[],[],[],[],[],[]⟩
noncomputable def an:An := .seq .no (.seq (.join ⟨[(27,.c (.v (.d .bool)))],[],[.bool]⟩ [0] [] true .no (.cond (.seq .no .no) .no)) (.seq .no .no))
theorem run [Fuel]:RunIs env Tryz.f49 an con:=fun x=>by kernel_rfl
theorem ok [Fuel]:ConOK Tryz.prog con:=run_ok (E:=env) run mixed Tryz.func49 (by kernel_rfl) (cons_cons strings_Trim.ok (cons_cons strings_ContainsFunc.ok (cons_nil)))
end licence_named
namespace licence_tokens_word
noncomputable def con [Fuel]:Con:=⟨137,[.c (.v (.loc 1000000 0))],[],[(1000000,.box 59 [.d lsT])],[lsT],.tup [.v (.d .str),.v (.d .bool)],[(1000000,.box 59 [.d lsT])],[.str,.bool,lsT],fun x=>licence_tokens_word x⟩
noncomputable def env [Fuel]:Env:=⟨Tryz.prog,[],[licence_named.con],[(18,0)],[1000000],[],[],[],[],[],[],[]⟩
noncomputable def an:An := .seq .no (.seq (.join ⟨[(20,.c (.v (.d .bool)))],[],[.bool]⟩ [0] [1000000] true .no (.cond (.seq .no .no) .no)) (.seq .no (.seq .no (.seq .no .no))))
theorem run [Fuel]:RunIs env Tryz.f137 an con:=fun x=>by kernel_rfl
theorem ok [Fuel]:ConOK Tryz.prog con:=run_ok (E:=env) run mixed Tryz.func137 (by kernel_rfl) (cons_cons licence_named.ok (cons_nil))
end licence_tokens_word
noncomputable abbrev licence_parser_alternatives.ps:List Ty:=[lsT]
noncomputable abbrev licence_parser_alternatives.qs:List Ty:=[GLicT,.bool,lsT]
noncomputable def licence_parser_alternatives.conG [Fuel] (Gr:List Bs → Option (GLic × Bool × List Bs)):Con:=⟨36,[.c (.v (.loc 1000000 0))],[],[(1000000,.box 59 [.d lsT])],licence_parser_alternatives.ps,.tup [.a GLicT,.v (.d .bool)],[(1000000,.box 59 [.d lsT])],licence_parser_alternatives.qs,fun x=>Gr x⟩
namespace licence_parser_part
noncomputable def con [Fuel] (Gr:List Bs → Option (GLic × Bool × List Bs)):Con:=⟨94,[.c (.v (.loc 1000000 0))],[],[(1000000,.box 59 [.d lsT])],[lsT],.tup [.a GLicT,.v (.d .bool)],[(1000000,.box 59 [.d lsT])],[GLicT,.bool,lsT],fun x=>licence_parser_part Gr x⟩
noncomputable def env [Fuel] (Gr:List Bs → Option (GLic × Bool × List Bs)):Env:=⟨Tryz.prog,[],[licence_tokens_skip.con,(licence_parser_alternatives.conG Gr),licence_tokens_word.con],[(11,0),(14,1),(23,0),(29,2)],[],[11,14,23,29,6000023],[],[],[],[17,3500002,5500004],[],[]⟩
noncomputable def an:An := .seq .no (.seq (.seq .no (.cond (.seq .no (.seq .no .no)) .no)) (.seq .no (.seq .no .no)))
theorem run [Fuel] (Gr:List Bs → Option (GLic × Bool × List Bs)):RunIs (env Gr) Tryz.f94 an (con Gr):=fun x=>by kernel_rfl
theorem ok [Fuel] (Gr:List Bs → Option (GLic × Bool × List Bs)) (hG:ConOK Tryz.prog (licence_parser_alternatives.conG Gr)):ConOK Tryz.prog (con Gr):=run_ok (E:=(env Gr)) (run Gr) mixed Tryz.func94 (by kernel_rfl) (cons_cons licence_tokens_skip.ok (cons_cons hG (cons_cons licence_tokens_word.ok (cons_nil))))
end licence_parser_part
namespace licence_parser_several_v2
noncomputable def con [Fuel] (Gr:List Bs → Option (GLic × Bool × List Bs)):Con:=⟨59,[.c (.v (.loc 1000000 0)),(aD iT),.c (.v (.d .str)),.c (.v (.fn 189 [1000000]))],[],[(1000000,.box 59 [.d lsT])],[iT,.str,lsT],.tup [.a GLicT,.v (.d .bool)],[(1000000,.box 59 [.d lsT])],[GLicT,.bool,lsT],fun x=>licence_parser_several_v2 Gr x.1 x.2.1 x.2.2⟩
noncomputable def env [Fuel] (Gr:List Bs → Option (GLic × Bool × List Bs)):Env:=⟨Tryz.prog,[(22,GLicT)],[licence_tokens_skip.con,(licence_parser_part.con Gr)],[(22,0),(26,1)],[11,1000000],[22,26],[],[32],[],[],[],[]⟩
noncomputable def an:An := .seq .no (.seq .no (.join ⟨[(10,.c (.v (.loc 500006 0)))],[(500006,.box 24 [.d iT,.d .str,.own 500007]),(1000000,.box 59 [.d lsT]),(500007,.arr 24 GLicT)],[iT,.str,lsT,(.sl GLicT)]⟩ [8] [8] false (.seq .no (.one (.loop ⟨[(0,.c (.v (.loc 1000000 0))),(3,.c (.v (.fn 189 [1000000]))),(10,.c (.v (.loc 500011 0))),(11,.c (.v (.d .bool)))],[(1000000,.box 59 [.d lsT]),(500011,.box 24 [.d iT,.d .str,.own 500012]),(500012,.arr 24 GLicT)],[.bool,lsT,iT,.str,(.sl GLicT)]⟩ [1,2,8] [8] (.seq (.join ⟨[(0,.c (.v (.loc 1000000 0))),(3,.c (.v (.fn 189 [1000000]))),(23,.c (.v (.d .bool)))],[(1000000,.box 59 [.d lsT])],[.bool,lsT]⟩ [1,2,8,10] [8,500011,500012] true .no (.cond .no .no)) (.seq (.one (.seq .no (.one (.seq .no (.cond (.seq .no .no) (.seq .no (.cond .no .no))))))) .no))))) (.seq (.seq .no (.cond (.seq .no .no) .no)) (.seq .no .no))))
theorem run [Fuel] (Gr:List Bs → Option (GLic × Bool × List Bs)):RunIs (env Gr) Tryz.f59 an (con Gr):=fun x=>by kernel_rfl
theorem ok [Fuel] (Gr:List Bs → Option (GLic × Bool × List Bs)) (hG:ConOK Tryz.prog (licence_parser_alternatives.conG Gr)):ConOK Tryz.prog (con Gr):=run_ok (E:=(env Gr)) (run Gr) mixed Tryz.func59 (by kernel_rfl) (cons_cons licence_tokens_skip.ok (cons_cons (licence_parser_part.ok Gr hG) (cons_nil)))
end licence_parser_several_v2
namespace licence_parser_sequence
noncomputable def con [Fuel] (Gr:List Bs → Option (GLic × Bool × List Bs)):Con:=⟨60,[.c (.v (.loc 1000000 0))],[],[(1000000,.box 59 [.d lsT])],[lsT],.tup [.a GLicT,.v (.d .bool)],[(1000000,.box 59 [.d lsT])],[GLicT,.bool,lsT],fun x=>licence_parser_sequence Gr x⟩
noncomputable def env [Fuel] (Gr:List Bs → Option (GLic × Bool × List Bs)):Env:=⟨Tryz.prog,[],[(licence_parser_several_v2.con Gr)],[(7,0)],[],[7],[],[],[],[],[],[]⟩
noncomputable def an:An := .seq .no (.seq .no .no)
theorem run [Fuel] (Gr:List Bs → Option (GLic × Bool × List Bs)):RunIs (env Gr) Tryz.f60 an (con Gr):=fun x=>by kernel_rfl
theorem ok [Fuel] (Gr:List Bs → Option (GLic × Bool × List Bs)) (hG:ConOK Tryz.prog (licence_parser_alternatives.conG Gr)):ConOK Tryz.prog (con Gr):=run_ok (E:=(env Gr)) (run Gr) mixed Tryz.func60 (by kernel_rfl) (cons_cons (licence_parser_several_v2.ok Gr hG) (cons_nil))
end licence_parser_sequence
namespace licence_parser_several
noncomputable def con [Fuel] (Gr:List Bs → Option (GLic × Bool × List Bs)):Con:=⟨59,[.c (.v (.loc 1000000 0)),(aD iT),.c (.v (.d .str)),.c (.v (.fn 121 [1000000]))],[],[(1000000,.box 59 [.d lsT])],[iT,.str,lsT],.tup [.a GLicT,.v (.d .bool)],[(1000000,.box 59 [.d lsT])],[GLicT,.bool,lsT],fun x=>licence_parser_several Gr x.1 x.2.1 x.2.2⟩
noncomputable def env [Fuel] (Gr:List Bs → Option (GLic × Bool × List Bs)):Env:=⟨Tryz.prog,[(22,GLicT)],[licence_tokens_skip.con,(licence_parser_sequence.con Gr)],[(22,0),(26,1)],[11,1000000],[22,26],[],[32],[],[],[],[]⟩
noncomputable def an:An := .seq .no (.seq .no (.join ⟨[(10,.c (.v (.loc 500006 0)))],[(500006,.box 24 [.d iT,.d .str,.own 500007]),(1000000,.box 59 [.d lsT]),(500007,.arr 24 GLicT)],[iT,.str,lsT,(.sl GLicT)]⟩ [8] [8] false (.seq .no (.one (.loop ⟨[(0,.c (.v (.loc 1000000 0))),(3,.c (.v (.fn 121 [1000000]))),(10,.c (.v (.loc 500011 0))),(11,.c (.v (.d .bool)))],[(1000000,.box 59 [.d lsT]),(500011,.box 24 [.d iT,.d .str,.own 500012]),(500012,.arr 24 GLicT)],[.bool,lsT,iT,.str,(.sl GLicT)]⟩ [1,2,8] [8] (.seq (.join ⟨[(0,.c (.v (.loc 1000000 0))),(3,.c (.v (.fn 121 [1000000]))),(23,.c (.v (.d .bool)))],[(1000000,.box 59 [.d lsT])],[.bool,lsT]⟩ [1,2,8,10] [8,500011,500012] true .no (.cond .no .no)) (.seq (.one (.seq .no (.one (.seq .no (.cond (.seq .no .no) (.seq .no (.cond .no .no))))))) .no))))) (.seq (.seq .no (.cond (.seq .no .no) .no)) (.seq .no .no))))
theorem run [Fuel] (Gr:List Bs → Option (GLic × Bool × List Bs)):RunIs (env Gr) Tryz.f59 an (con Gr):=fun x=>by kernel_rfl
theorem ok [Fuel] (Gr:List Bs → Option (GLic × Bool × List Bs)) (hG:ConOK Tryz.prog (licence_parser_alternatives.conG Gr)):ConOK Tryz.prog (con Gr):=run_ok (E:=(env Gr)) (run Gr) mixed Tryz.func59 (by kernel_rfl) (cons_cons licence_tokens_skip.ok (cons_cons (licence_parser_sequence.ok Gr hG) (cons_nil)))
end licence_parser_several
namespace licence_parser_alternatives
noncomputable def con [Fuel]:Con:=conG (rec Fuel.n)
noncomputable def env [Fuel] (Gr:List Bs → Option (GLic × Bool × List Bs)):Env:=⟨Tryz.prog,[],[(licence_parser_several.con Gr)],[(7,0)],[],[7],[],[],[],[],[],[]⟩
noncomputable def an:An := .seq .no (.seq .no .no)
theorem run [Fuel] (Gr:List Bs → Option (GLic × Bool × List Bs)):RunIs (env Gr) Tryz.f36 an (conG (body Gr)):=fun x=>by kernel_rfl
theorem okB [Fuel] (Gr:List Bs → Option (GLic × Bool × List Bs)) (hG:ConOK Tryz.prog (conG Gr)):ConOK Tryz.prog (conG (body Gr)):=run_ok (E:=(env Gr)) (run Gr) mixed Tryz.func36 (by kernel_rfl) (cons_cons (licence_parser_several.ok Gr hG) (cons_nil))
theorem okN [Fuel]:∀ n,ConOK Tryz.prog (conG (rec n))
 | 0=>⟨by kernel_rfl,fun x r h=>by have h2:(none:Option (Tup licence_parser_alternatives.qs)) = some r:=h; cases h2⟩
 | n + 1=>okB (rec n) (okN n)
theorem ok [Fuel]:ConOK Tryz.prog con:=okN _
end licence_parser_alternatives
noncomputable abbrev licence_size.ps:List Ty:=[iT,.str,(.sl GLicT),iT]
noncomputable abbrev licence_size.qs:List Ty:=[iT]
noncomputable def licence_size.conG [Fuel] (Gr:Int → Bs → List GLic → Int → Option Int):Con:=⟨30,[.c (.g [.d iT,.d .str,.d (.sl GLicT)]),(aD iT)],[],[],licence_size.ps,.one (.v (.d iT)),[],licence_size.qs,fun x=>Gr x.1 x.2.1 x.2.2.1 x.2.2.2⟩
namespace licence_size
noncomputable def con [Fuel]:Con:=conG (rec Fuel.n)
noncomputable def env [Fuel] (Gr:Int → Bs → List GLic → Int → Option Int):Env:=⟨Tryz.prog,[],[licence_named.con,(licence_size.conG Gr)],[(13,0),(60,1)],[1000000],[],[],[],[],[],[],[]⟩
noncomputable def an:An := .seq .no (.seq (.seq .no (.cond (.seq (.join ⟨[(20,.c (.v (.d .bool)))],[],[.bool]⟩ [] [] true .no (.cond (.seq .no .no) .no)) (.seq .no .no)) .no)) (.seq (.join ⟨[(43,.c (.v (.d .bool)))],[],[.bool]⟩ [1,2] [2] true .no (.cond (.seq .no .no) .no)) (.seq .no (.seq (.seq .no (.one (.loop ⟨[(5,(aD iT)),(47,(aD iT))],[],[iT,iT]⟩ [1,2,45,46] [2] (.seq .no (.seq (.cond .no .no) (.seq (.one (.seq .no (.seq (.seq .no (.cond (.seq .no .no) .no)) (.seq .no (.seq .no (.cond (.seq .no .no) .no)))))) .no)))))) (.seq .no .no)))))
theorem run [Fuel] (Gr:Int → Bs → List GLic → Int → Option Int):RunIs (env Gr) Tryz.f30 an (conG (body Gr)):=fun x=>by kernel_rfl
theorem okB [Fuel] (Gr:Int → Bs → List GLic → Int → Option Int) (hG:ConOK Tryz.prog (conG Gr)):ConOK Tryz.prog (conG (body Gr)):=run_ok (E:=(env Gr)) (run Gr) mixed Tryz.func30 (by kernel_rfl) (cons_cons licence_named.ok (cons_cons hG (cons_nil)))
theorem okN [Fuel]:∀ n,ConOK Tryz.prog (conG (rec n))
 | 0=>⟨by kernel_rfl,fun x r h=>by have h2:(none:Option (Tup licence_size.qs)) = some r:=h; cases h2⟩
 | n + 1=>okB (rec n) (okN n)
theorem ok [Fuel]:ConOK Tryz.prog con:=okN _
end licence_size
namespace licence_Right
noncomputable def con [Fuel]:Con:=⟨9,[.c (.g [.d iT,.d .str,.d (.sl GLicT)])],[],[],[iT,.str,(.sl GLicT)],.one (.v (.d .bool)),[],[.bool],fun x=>licence_Right x.1 x.2.1 x.2.2⟩
noncomputable def env [Fuel]:Env:=⟨Tryz.prog,[],[licence_size.con],[(4,0)],[],[],[],[],[],[],[],[]⟩
noncomputable def an:An := .seq .no (.seq .no .no)
theorem run [Fuel]:RunIs env Tryz.f9 an con:=fun x=>by kernel_rfl
theorem ok [Fuel]:ConOK Tryz.prog con:=run_ok (E:=env) run mixed Tryz.func9 (by kernel_rfl) (cons_cons licence_size.ok (cons_nil))
end licence_Right
namespace licence_Parse
noncomputable def con [Fuel]:Con:=⟨15,[.c (.v (.d .str))],[],[],[.str],.tup [.a GLicT,.v (.d iT)],[],[GLicT,iT],fun x=>licence_Parse x⟩
noncomputable def env [Fuel]:Env:=⟨Tryz.prog,[(27,.str)],[strings_NewReplacer.con,strings_Replacer_Replace.con,strings_Split.con,licence_parser_alternatives.con,licence_Right.con],[(15,0),(17,1),(18,2),(35,3),(49,4)],[10,1000000],[17,35],[35],[14,28],[],[],[],[]⟩
noncomputable def an:An := .seq .no (.seq (.seq .no (.cond (.seq .no .no) .no)) (.seq .no (.join ⟨[(4,.c (.v (.own 500003)))],[(500003,.arr 9 .str)],[lsT]⟩ [2] [2] true (.seq .no (.one (.loop ⟨[(4,.c (.v (.own 500005))),(20,(aD iT))],[(500005,.arr 9 .str)],[iT,lsT]⟩ [2,18,19] [2] (.seq .no (.seq (.cond .no .no) (.seq (.one (.seq .no (.seq .no (.cond .no .no)))) .no)))))) (.seq .no (.seq .no (.seq (.join ⟨[(46,.c (.v (.d .bool)))],[],[.bool]⟩ [2,8] [2,8] true .no (.cond (.seq .no .no) .no)) (.seq (.seq .no (.cond (.seq .no .no) .no)) (.seq .no .no))))))))
theorem run [Fuel]:RunIs env Tryz.f15 an con:=fun x=>by kernel_rfl
theorem ok [Fuel]:ConOK Tryz.prog con:=run_ok (E:=env) run mixed Tryz.func15 (by kernel_rfl) (cons_cons strings_NewReplacer.ok (cons_cons strings_Replacer_Replace.ok (cons_cons strings_Split.ok (cons_cons licence_parser_alternatives.ok (cons_cons licence_Right.ok (cons_nil))))))
end licence_Parse
noncomputable def strings_Join.con [Fuel]:Con:=joinCon 64
theorem strings_Join.ok [Fuel]:ConOK Tryz.prog strings_Join.con:=join_conx
noncomputable abbrev licence_write.ps:List Ty:=[iT,.str,(.sl GLicT)]
noncomputable abbrev licence_write.qs:List Ty:=[.str]
noncomputable def licence_write.conG [Fuel] (Gr:Int → Bs → List GLic → Option Bs):Con:=⟨40,[.c (.g [.d iT,.d .str,.d (.sl GLicT)])],[],[],licence_write.ps,.one (.v (.d .str)),[],licence_write.qs,fun x=>Gr x.1 x.2.1 x.2.2⟩
namespace licence_write
noncomputable def con [Fuel]:Con:=conG (rec Fuel.n)
noncomputable def env [Fuel] (Gr:Int → Bs → List GLic → Option Bs):Env:=⟨Tryz.prog,[(27,.str)],[(licence_write.conG Gr),strings_Join.con],[(20,0),(36,1),(38,1)],[12],[],[],[29],[],[],[],[]⟩
noncomputable def an:An := .seq .no (.seq (.seq .no (.cond (.seq .no .no) .no)) (.seq .no (.join ⟨[(3,.c (.v (.own 500003)))],[(500003,.arr 9 .str)],[lsT]⟩ [1] [1] true (.seq .no (.one (.loop ⟨[(3,.c (.v (.own 500005))),(15,(aD iT))],[(500005,.arr 9 .str)],[iT,lsT]⟩ [1,13,14] [1] (.seq .no (.seq (.cond .no .no) (.seq (.one (.seq .no (.seq .no (.seq (.seq .no (.cond .no .no)) .no)))) .no)))))) (.seq (.seq .no (.cond (.seq .no .no) .no)) (.seq .no .no)))))
theorem run [Fuel] (Gr:Int → Bs → List GLic → Option Bs):RunIs (env Gr) Tryz.f40 an (conG (body Gr)):=fun x=>by kernel_rfl
theorem okB [Fuel] (Gr:Int → Bs → List GLic → Option Bs) (hG:ConOK Tryz.prog (conG Gr)):ConOK Tryz.prog (conG (body Gr)):=run_ok (E:=(env Gr)) (run Gr) mixed Tryz.func40 (by kernel_rfl) (cons_cons hG (cons_cons strings_Join.ok (cons_nil)))
theorem okN [Fuel]:∀ n,ConOK Tryz.prog (conG (rec n))
 | 0=>⟨by kernel_rfl,fun x r h=>by have h2:(none:Option (Tup licence_write.qs)) = some r:=h; cases h2⟩
 | n + 1=>okB (rec n) (okN n)
theorem ok [Fuel]:ConOK Tryz.prog con:=okN _
end licence_write
namespace licence_Print
noncomputable def con [Fuel]:Con:=⟨17,[.c (.g [.d iT,.d .str,.d (.sl GLicT)])],[],[],[iT,.str,(.sl GLicT)],.tup [.v (.d .str),.v (.d iT)],[],[.str,iT],fun x=>licence_Print x.1 x.2.1 x.2.2⟩
noncomputable def env [Fuel]:Env:=⟨Tryz.prog,[],[licence_Right.con,licence_write.con],[(5,0),(8,1)],[],[],[],[],[],[],[],[]⟩
noncomputable def an:An := .seq .no (.seq (.seq .no (.cond (.seq .no .no) .no)) (.seq .no .no))
theorem run [Fuel]:RunIs env Tryz.f17 an con:=fun x=>by kernel_rfl
theorem ok [Fuel]:ConOK Tryz.prog con:=run_ok (E:=env) run mixed Tryz.func17 (by kernel_rfl) (cons_cons licence_Right.ok (cons_cons licence_write.ok (cons_nil)))
end licence_Print
namespace slices_Grow_string_string
noncomputable def con [Fuel]:Con:=⟨76,[.c (.v (.nil)),(aD iT)],[],[],[iT],.one (.v (.own 0)),[(0,.arr 9 .str)],[lsT],fun x=>slices_Grow_string_string x⟩
noncomputable def env [Fuel]:Env:=⟨Tryz.prog,[(27,.str)],[],[],[],[],[],[25],[],[],[],[]⟩
noncomputable def an:An := .seq .no (.seq (.seq .no (.cond .no .no)) (.seq (.seq .no (.seq .no (.cond .no .no))) (.seq .no .no)))
theorem run [Fuel]:RunIs env Tryz.f76 an con:=fun x=>by kernel_rfl
theorem ok [Fuel]:ConOK Tryz.prog con:=run_ok (E:=env) run mixed Tryz.func76 (by kernel_rfl) (cons_nil)
end slices_Grow_string_string
namespace slices_Concat_string_string
noncomputable def con [Fuel]:Con:=⟨50,[.c (.v (.d (.sl lsT)))],[],[],[(.sl lsT)],.one (.v (.own 0)),[(0,.arr 9 .str)],[lsT],fun x=>slices_Concat_string_string x⟩
noncomputable def env [Fuel]:Env:=⟨Tryz.prog,[],[slices_Grow_string_string.con],[(24,0)],[9],[],[],[],[],[],[],[]⟩
noncomputable def an:An := .seq .no (.seq .no (.join ⟨[(3,(aD iT))],[],[iT]⟩ [0] [] true (.seq .no (.one (.loop ⟨[(3,(aD iT)),(11,(aD iT))],[],[iT,iT]⟩ [0,9,10] [] (.seq .no (.seq (.cond .no .no) (.seq (.one (.seq .no (.seq .no (.seq .no (.cond .no .no))))) .no)))))) (.seq .no (.seq (.seq .no (.one (.loop ⟨[(6,.c (.v (.own 500001))),(27,(aD iT))],[(500001,.arr 9 .str)],[iT,lsT]⟩ [25,26] [] (.seq .no (.seq (.cond .no .no) (.seq (.one (.seq .no .no)) .no)))))) (.seq .no .no)))))
theorem run [Fuel]:RunIs env Tryz.f50 an con:=fun x=>by kernel_rfl
theorem ok [Fuel]:ConOK Tryz.prog con:=run_ok (E:=env) run mixed Tryz.func50 (by kernel_rfl) (cons_cons slices_Grow_string_string.ok (cons_nil))
end slices_Concat_string_string
noncomputable def slices_Sort_string.con [Fuel]:Con:=sortSCon 46 9
theorem slices_Sort_string.ok [Fuel]:ConOK Tryz.prog slices_Sort_string.con:=sortS_conx
noncomputable def slices_Compact_string.con [Fuel]:Con:=compSCon 47 9
theorem slices_Compact_string.ok [Fuel]:ConOK Tryz.prog slices_Compact_string.con:=compS_conx
namespace cmp_isNaN_int
noncomputable def con [Fuel]:Con:=⟨122,[(aD iT)],[],[],[iT],.one (.v (.d .bool)),[],[.bool],fun x=>cmp_isNaN_int x⟩
noncomputable def env [Fuel]:Env:=⟨Tryz.prog,[],[],[],[],[],[],[],[],[],[],[]⟩
noncomputable def an:An := .seq .no (.seq .no .no)
theorem run [Fuel]:RunIs env Tryz.f122 an con:=fun x=>by kernel_rfl
theorem ok [Fuel]:ConOK Tryz.prog con:=run_ok (E:=env) run mixed Tryz.func122 (by kernel_rfl) (cons_nil)
end cmp_isNaN_int
namespace cmp_Compare_int
noncomputable def con [Fuel]:Con:=⟨80,[(aD iT),(aD iT)],[],[],[iT,iT],.one (.v (.d iT)),[],[iT],fun x=>cmp_Compare_int x.1 x.2⟩
noncomputable def env [Fuel]:Env:=⟨Tryz.prog,[],[cmp_isNaN_int.con],[(8,0),(10,0)],[],[],[],[],[],[],[],[]⟩
noncomputable def an:An := .seq .no (.seq .no (.seq .no (.seq (.seq .no (.cond (.seq (.seq .no (.cond (.seq .no .no) .no)) (.seq .no .no)) .no)) (.seq (.seq .no (.cond (.seq .no .no) .no)) (.seq (.seq .no (.cond (.seq .no .no) .no)) (.seq (.seq .no (.cond (.seq .no .no) .no)) (.seq .no .no)))))))
theorem run [Fuel]:RunIs env Tryz.f80 an con:=fun x=>by kernel_rfl
theorem ok [Fuel]:ConOK Tryz.prog con:=run_ok (E:=env) run mixed Tryz.func80 (by kernel_rfl) (cons_cons cmp_isNaN_int.ok (cons_nil))
end cmp_Compare_int
namespace cmp_isNaN_string
noncomputable def con [Fuel]:Con:=⟨145,[.c (.v (.d .str))],[],[],[.str],.one (.v (.d .bool)),[],[.bool],fun x=>cmp_isNaN_string x⟩
noncomputable def env [Fuel]:Env:=⟨Tryz.prog,[],[],[],[],[],[],[],[],[],[],[]⟩
noncomputable def an:An := .seq .no (.seq .no .no)
theorem run [Fuel]:RunIs env Tryz.f145 an con:=fun x=>by kernel_rfl
theorem ok [Fuel]:ConOK Tryz.prog con:=run_ok (E:=env) run mixed Tryz.func145 (by kernel_rfl) (cons_nil)
end cmp_isNaN_string
namespace cmp_Compare_string
noncomputable def con [Fuel]:Con:=⟨123,[.c (.v (.d .str)),.c (.v (.d .str))],[],[],[.str,.str],.one (.v (.d iT)),[],[iT],fun x=>cmp_Compare_string x.1 x.2⟩
noncomputable def env [Fuel]:Env:=⟨Tryz.prog,[],[cmp_isNaN_string.con],[(8,0),(10,0)],[],[],[],[],[],[],[],[]⟩
noncomputable def an:An := .seq .no (.seq .no (.seq .no (.seq (.seq .no (.cond (.seq (.seq .no (.cond (.seq .no .no) .no)) (.seq .no .no)) .no)) (.seq (.seq .no (.cond (.seq .no .no) .no)) (.seq (.seq .no (.cond (.seq .no .no) .no)) (.seq (.seq .no (.cond (.seq .no .no) .no)) (.seq .no .no)))))))
theorem run [Fuel]:RunIs env Tryz.f123 an con:=fun x=>by kernel_rfl
theorem ok [Fuel]:ConOK Tryz.prog con:=run_ok (E:=env) run mixed Tryz.func123 (by kernel_rfl) (cons_cons cmp_isNaN_string.ok (cons_nil))
end cmp_Compare_string
namespace slices_Compare_string_string
noncomputable def con [Fuel]:Con:=⟨81,[(aD lsT),(aD lsT)],[],[],[lsT,lsT],.one (.v (.d iT)),[],[iT],fun x=>slices_Compare_string_string x.1 x.2⟩
noncomputable def env [Fuel]:Env:=⟨Tryz.prog,[],[cmp_Compare_string.con],[(26,0)],[11],[],[],[],[],[],[],[]⟩
noncomputable def an:An := .seq .no (.join ⟨[],[],[]⟩ [0,1] [] false (.seq .no (.one (.loop ⟨[(11,(aD iT))],[],[iT]⟩ [0,1,9,10] [] (.seq .no (.seq (.cond .no .no) (.seq (.one (.seq .no (.seq (.seq .no (.cond (.seq .no .no) .no)) (.seq .no (.seq .no (.seq .no (.cond (.seq .no .no) .no))))))) .no)))))) (.seq (.seq .no (.cond (.seq .no .no) .no)) (.seq .no .no)))
theorem run [Fuel]:RunIs env Tryz.f81 an con:=fun x=>by kernel_rfl
theorem ok [Fuel]:ConOK Tryz.prog con:=run_ok (E:=env) run mixed Tryz.func81 (by kernel_rfl) (cons_cons cmp_Compare_string.ok (cons_nil))
end slices_Compare_string_string
namespace cmp_Or_int
noncomputable def con [Fuel]:Con:=⟨79,[(aD liT)],[],[],[liT],.one (.v (.d iT)),[],[iT],fun x=>cmp_Or_int x⟩
noncomputable def env [Fuel]:Env:=⟨Tryz.prog,[],[],[],[],[],[],[],[],[],[],[]⟩
noncomputable def an:An := .seq .no (.seq .no (.seq (.seq .no (.one (.loop ⟨[(8,(aD iT))],[],[iT]⟩ [3,6,7] [] (.seq .no (.seq (.cond .no .no) (.seq (.one (.seq .no (.seq .no (.cond (.seq .no .no) .no)))) .no)))))) (.seq .no .no)))
theorem run [Fuel]:RunIs env Tryz.f79 an con:=fun x=>by kernel_rfl
theorem ok [Fuel]:ConOK Tryz.prog con:=run_ok (E:=env) run mixed Tryz.func79 (by kernel_rfl) (cons_nil)
end cmp_Or_int
namespace licence_least_1
noncomputable def con [Fuel]:Con:=⟨78,[(aD lsT),(aD lsT)],[],[],[lsT,lsT],.one (.v (.d iT)),[],[iT],fun x=>licence_least_1 x.1 x.2⟩
noncomputable def env [Fuel]:Env:=⟨Tryz.prog,[(151,iT)],[cmp_Compare_int.con,slices_Compare_string_string.con,cmp_Or_int.con],[(9,0),(12,1),(14,2)],[],[],[],[13],[],[],[],[]⟩
noncomputable def an:An := .seq .no (.seq .no .no)
theorem run [Fuel]:RunIs env Tryz.f78 an con:=fun x=>by kernel_rfl
theorem ok [Fuel]:ConOK Tryz.prog con:=run_ok (E:=env) run mixed Tryz.func78 (by kernel_rfl) (cons_cons cmp_Compare_int.ok (cons_cons slices_Compare_string_string.ok (cons_cons cmp_Or_int.ok (cons_nil))))
end licence_least_1
noncomputable def slices_SortFunc.con [Fuel]:Con:=sortFCon 77 78 27 licence_least_1
theorem slices_SortFunc.ok [Fuel]:ConOK Tryz.prog slices_SortFunc.con:=sortF_con
namespace slices_Index_string_string
noncomputable def con [Fuel]:Con:=⟨85,[(aD lsT),.c (.v (.d .str))],[],[],[lsT,.str],.one (.v (.d iT)),[],[iT],fun x=>slices_Index_string_string x.1 x.2⟩
noncomputable def env [Fuel]:Env:=⟨Tryz.prog,[],[],[],[],[],[],[],[],[],[],[]⟩
noncomputable def an:An := .seq .no (.seq (.seq .no (.one (.loop ⟨[(8,(aD iT))],[],[iT]⟩ [0,1,7] [] (.seq .no (.seq (.cond .no .no) (.seq (.one (.seq .no (.seq .no (.cond (.seq .no .no) .no)))) .no)))))) (.seq .no .no))
theorem run [Fuel]:RunIs env Tryz.f85 an con:=fun x=>by kernel_rfl
theorem ok [Fuel]:ConOK Tryz.prog con:=run_ok (E:=env) run mixed Tryz.func85 (by kernel_rfl) (cons_nil)
end slices_Index_string_string
namespace slices_Contains_string_string
noncomputable def con [Fuel]:Con:=⟨53,[(aD lsT),.c (.v (.d .str))],[],[],[lsT,.str],.one (.v (.d .bool)),[],[.bool],fun x=>slices_Contains_string_string x.1 x.2⟩
noncomputable def env [Fuel]:Env:=⟨Tryz.prog,[],[slices_Index_string_string.con],[(7,0)],[],[],[],[],[],[],[],[]⟩
noncomputable def an:An := .seq .no (.seq .no .no)
theorem run [Fuel]:RunIs env Tryz.f53 an con:=fun x=>by kernel_rfl
theorem ok [Fuel]:ConOK Tryz.prog con:=run_ok (E:=env) run mixed Tryz.func53 (by kernel_rfl) (cons_cons slices_Index_string_string.ok (cons_nil))
end slices_Contains_string_string
namespace licence_inside_1
noncomputable def con [Fuel]:Con:=⟨126,[.c (.v (.d .str)),.c (.v (.loc 1000000 0))],[(1000000,.box 27 [.d lsT])],[],[.str,lsT],.one (.v (.d .bool)),[],[.bool],fun x=>licence_inside_1 x.1 x.2⟩
noncomputable def env [Fuel]:Env:=⟨Tryz.prog,[],[slices_Contains_string_string.con],[(6,0)],[],[],[],[],[],[],[],[]⟩
noncomputable def an:An := .seq .no (.seq .no .no)
theorem run [Fuel]:RunIs env Tryz.f126 an con:=fun x=>by kernel_rfl
theorem ok [Fuel]:ConOK Tryz.prog con:=run_ok (E:=env) run mixed Tryz.func126 (by kernel_rfl) (cons_cons slices_Contains_string_string.ok (cons_nil))
end licence_inside_1
namespace slices_IndexFunc_string_string_v2
noncomputable def con [Fuel]:Con:=⟨161,[(aD lsT),.c (.v (.fn 252 [1000000]))],[(1000000,.box 27 [.d lsT])],[],[lsT,lsT],.one (.v (.d iT)),[],[iT],fun x=>slices_IndexFunc_string_string_v2 x.1 x.2⟩
noncomputable def env [Fuel]:Env:=⟨Tryz.prog,[],[licence_inside_1.con],[(16,0)],[],[16],[],[],[],[],[],[]⟩
noncomputable def an:An := .seq .no (.seq (.seq .no (.one (.loop ⟨[(8,(aD iT))],[],[iT]⟩ [0,1,7] [1000000] (.seq .no (.seq (.cond .no .no) (.seq (.one (.seq .no (.seq .no (.cond (.seq .no .no) .no)))) .no)))))) (.seq .no .no))
theorem run [Fuel]:RunIs env Tryz.f161 an con:=fun x=>by kernel_rfl
theorem ok [Fuel]:ConOK Tryz.prog con:=run_ok (E:=env) run mixed Tryz.func161 (by kernel_rfl) (cons_cons licence_inside_1.ok (cons_nil))
end slices_IndexFunc_string_string_v2
namespace slices_ContainsFunc_string_string_v2
noncomputable def con [Fuel]:Con:=⟨125,[(aD lsT),.c (.v (.fn 252 [1000000]))],[(1000000,.box 27 [.d lsT])],[],[lsT,lsT],.one (.v (.d .bool)),[],[.bool],fun x=>slices_ContainsFunc_string_string_v2 x.1 x.2⟩
noncomputable def env [Fuel]:Env:=⟨Tryz.prog,[],[slices_IndexFunc_string_string_v2.con],[(7,0)],[],[7],[],[],[],[],[],[]⟩
noncomputable def an:An := .seq .no (.seq .no .no)
theorem run [Fuel]:RunIs env Tryz.f125 an con:=fun x=>by kernel_rfl
theorem ok [Fuel]:ConOK Tryz.prog con:=run_ok (E:=env) run mixed Tryz.func125 (by kernel_rfl) (cons_cons slices_IndexFunc_string_string_v2.ok (cons_nil))
end slices_ContainsFunc_string_string_v2
namespace licence_inside
noncomputable def con [Fuel]:Con:=⟨84,[(aD lsT),(aD lsT)],[],[],[lsT,lsT],.one (.v (.d .bool)),[],[.bool],fun x=>licence_inside x.1 x.2⟩
noncomputable def env [Fuel]:Env:=⟨Tryz.prog,[],[slices_ContainsFunc_string_string_v2.con],[(7,0)],[],[7],[],[],[],[],[],[]⟩
noncomputable def an:An := .seq .no (.seq .no .no)
theorem run [Fuel]:RunIs env Tryz.f84 an con:=fun x=>by kernel_rfl
theorem ok [Fuel]:ConOK Tryz.prog con:=run_ok (E:=env) run mixed Tryz.func84 (by kernel_rfl) (cons_cons slices_ContainsFunc_string_string_v2.ok (cons_nil))
end licence_inside
namespace licence_least_2
noncomputable def con [Fuel]:Con:=⟨83,[(aD lsT),.c (.v (.loc 1000000 0))],[(1000000,.box 27 [.d lsT])],[],[lsT,lsT],.one (.v (.d .bool)),[],[.bool],fun x=>licence_least_2 x.1 x.2⟩
noncomputable def env [Fuel]:Env:=⟨Tryz.prog,[],[licence_inside.con],[(6,0)],[],[],[],[],[],[],[],[]⟩
noncomputable def an:An := .seq .no (.seq .no .no)
theorem run [Fuel]:RunIs env Tryz.f83 an con:=fun x=>by kernel_rfl
theorem ok [Fuel]:ConOK Tryz.prog con:=run_ok (E:=env) run mixed Tryz.func83 (by kernel_rfl) (cons_cons licence_inside.ok (cons_nil))
end licence_least_2
namespace slices_IndexFunc_string_string_v3
noncomputable def con [Fuel]:Con:=⟨124,[.c (.v (.own 1000000)),.c (.v (.fn 166 [1000001]))],[(1000000,.arr 27 lsT),(1000001,.box 27 [.d lsT])],[],[(.sl lsT),lsT],.one (.v (.d iT)),[],[iT],fun x=>slices_IndexFunc_string_string_v3 x.1 x.2⟩
noncomputable def env [Fuel]:Env:=⟨Tryz.prog,[],[licence_least_2.con],[(16,0)],[],[16],[],[],[],[],[],[]⟩
noncomputable def an:An := .seq .no (.seq (.seq .no (.one (.loop ⟨[(8,(aD iT))],[],[iT]⟩ [0,1,7] [1000000,1000001] (.seq .no (.seq (.cond .no .no) (.seq (.one (.seq .no (.seq .no (.cond (.seq .no .no) .no)))) .no)))))) (.seq .no .no))
theorem run [Fuel]:RunIs env Tryz.f124 an con:=fun x=>by kernel_rfl
theorem ok [Fuel]:ConOK Tryz.prog con:=run_ok (E:=env) run mixed Tryz.func124 (by kernel_rfl) (cons_cons licence_least_2.ok (cons_nil))
end slices_IndexFunc_string_string_v3
namespace slices_ContainsFunc_string_string_v3
noncomputable def con [Fuel]:Con:=⟨82,[.c (.v (.own 1000000)),.c (.v (.fn 166 [1000001]))],[(1000000,.arr 27 lsT),(1000001,.box 27 [.d lsT])],[],[(.sl lsT),lsT],.one (.v (.d .bool)),[],[.bool],fun x=>slices_ContainsFunc_string_string_v3 x.1 x.2⟩
noncomputable def env [Fuel]:Env:=⟨Tryz.prog,[],[slices_IndexFunc_string_string_v3.con],[(7,0)],[],[7],[],[],[],[],[],[]⟩
noncomputable def an:An := .seq .no (.seq .no .no)
theorem run [Fuel]:RunIs env Tryz.f82 an con:=fun x=>by kernel_rfl
theorem ok [Fuel]:ConOK Tryz.prog con:=run_ok (E:=env) run mixed Tryz.func82 (by kernel_rfl) (cons_cons slices_IndexFunc_string_string_v3.ok (cons_nil))
end slices_ContainsFunc_string_string_v3
namespace licence_least
noncomputable def con [Fuel]:Con:=⟨51,[.c (.v (.own 1000000))],[],[(1000000,.arr 27 lsT)],[(.sl lsT)],.one (.v (.d (.sl lsT))),[(1000000,.arr 27 lsT)],[(.sl lsT),(.sl lsT)],fun x=>licence_least x⟩
noncomputable def env [Fuel]:Env:=⟨Tryz.prog,[(31,lsT)],[slices_SortFunc.con,slices_ContainsFunc_string_string_v3.con],[(7,0),(16,1)],[],[7,16],[],[20],[],[],[],[]⟩
noncomputable def an:An := .seq .no (.seq .no (.seq .no (.seq (.seq .no (.one (.loop ⟨[(3,.c (.v (.own 500002))),(10,(aD iT))],[(500002,.arr 27 lsT)],[iT,(.sl lsT)]⟩ [8,9] [1000000] (.seq .no (.seq (.cond .no .no) (.seq (.one (.seq .no (.seq .no (.cond .no .no)))) .no)))))) (.seq .no .no))))
theorem run [Fuel]:RunIs env Tryz.f51 an con:=fun x=>by kernel_rfl
theorem ok [Fuel]:ConOK Tryz.prog con:=run_ok (E:=env) run mixed Tryz.func51 (by kernel_rfl) (cons_cons slices_SortFunc.ok (cons_cons slices_ContainsFunc_string_string_v3.ok (cons_nil)))
end licence_least
noncomputable abbrev licence_sets.ps:List Ty:=[iT,.str,(.sl GLicT)]
noncomputable abbrev licence_sets.qs:List Ty:=[(.sl lsT)]
noncomputable def licence_sets.conG [Fuel] (Gr:Int → Bs → List GLic → Option (List (List Bs))):Con:=⟨31,[.c (.g [.d iT,.d .str,.d (.sl GLicT)])],[],[],licence_sets.ps,.one (.v (.d (.sl lsT))),[],licence_sets.qs,fun x=>Gr x.1 x.2.1 x.2.2⟩
namespace licence_sets
noncomputable def con [Fuel]:Con:=conG (rec Fuel.n)
noncomputable def env [Fuel] (Gr:Int → Bs → List GLic → Option (List (List Bs))):Env:=⟨Tryz.prog,[(27,.str),(31,lsT)],[(licence_sets.conG Gr),slices_Concat_string_string.con,slices_Sort_string.con,slices_Compact_string.con,licence_least.con],[(32,0),(54,1),(56,2),(59,3),(67,4)],[6,26],[56,59,67],[60],[18,19,53],[],[],[],[]⟩
noncomputable def an:An := .seq .no (.seq (.seq .no (.cond (.seq .no .no) .no)) (.seq .no (.join ⟨[(3,.c (.v (.own 500001)))],[(500001,.arr 27 lsT)],[(.sl lsT)]⟩ [1] [1] true (.seq .no (.cond .no .no)) (.join ⟨[(3,.c (.v (.own 500008)))],[(500008,.arr 27 lsT)],[(.sl lsT)]⟩ [] [] true (.seq .no (.one (.loop ⟨[(3,.c (.v (.own 500009))),(27,(aD iT))],[(500009,.arr 27 lsT)],[iT,(.sl lsT)]⟩ [1,25,26] [1] (.seq .no (.seq (.cond .no .no) (.seq (.one (.seq .no (.seq .no (.seq (.seq .no (.cond (.seq .no .no) .no)) (.seq .no (.seq (.seq .no (.one (.loop ⟨[(7,.c (.v (.own 500013))),(41,(aD iT))],[(500013,.arr 27 lsT)],[iT,(.sl lsT)]⟩ [1,6,25,26,27,39,40] [1,500009] (.seq .no (.seq (.cond .no .no) (.seq (.one (.seq .no (.seq .no (.one (.loop ⟨[(7,.c (.v (.own 500014))),(47,(aD iT))],[(500014,.arr 27 lsT)],[iT,(.sl lsT)]⟩ [1,6,9,25,26,27,39,40,41,45,46] [1,500009] (.seq .no (.seq (.cond .no .no) (.seq (.one (.seq .no (.seq .no (.seq .no .no)))) .no)))))))) .no)))))) .no)))))) .no)))))) (.seq .no .no)))))
theorem run [Fuel] (Gr:Int → Bs → List GLic → Option (List (List Bs))):RunIs (env Gr) Tryz.f31 an (conG (body Gr)):=fun x=>by kernel_rfl
theorem okB [Fuel] (Gr:Int → Bs → List GLic → Option (List (List Bs))) (hG:ConOK Tryz.prog (conG Gr)):ConOK Tryz.prog (conG (body Gr)):=run_ok (E:=(env Gr)) (run Gr) mixed Tryz.func31 (by kernel_rfl) (cons_cons hG (cons_cons slices_Concat_string_string.ok (cons_cons slices_Sort_string.ok (cons_cons slices_Compact_string.ok (cons_cons licence_least.ok (cons_nil))))))
theorem okN [Fuel]:∀ n,ConOK Tryz.prog (conG (rec n))
 | 0=>⟨by kernel_rfl,fun x r h=>by have h2:(none:Option (Tup licence_sets.qs)) = some r:=h; cases h2⟩
 | n + 1=>okB (rec n) (okN n)
theorem ok [Fuel]:ConOK Tryz.prog con:=okN _
end licence_sets
namespace licence_Normal
noncomputable def con [Fuel]:Con:=⟨11,[.c (.g [.d iT,.d .str,.d (.sl GLicT)])],[],[],[iT,.str,(.sl GLicT)],.tup [.v (.d (.sl lsT)),.v (.d iT)],[],[(.sl lsT),iT],fun x=>licence_Normal x.1 x.2.1 x.2.2⟩
noncomputable def env [Fuel]:Env:=⟨Tryz.prog,[],[licence_Right.con,licence_sets.con],[(5,0),(8,1)],[],[],[],[],[],[],[],[]⟩
noncomputable def an:An := .seq .no (.seq (.seq .no (.cond (.seq .no .no) .no)) (.seq .no .no))
theorem run [Fuel]:RunIs env Tryz.f11 an con:=fun x=>by kernel_rfl
theorem ok [Fuel]:ConOK Tryz.prog con:=run_ok (E:=env) run mixed Tryz.func11 (by kernel_rfl) (cons_cons licence_Right.ok (cons_cons licence_sets.ok (cons_nil)))
end licence_Normal
noncomputable abbrev licence_holds.ps:List Ty:=[iT,.str,(.sl GLicT),lsT]
noncomputable abbrev licence_holds.qs:List Ty:=[.bool]
noncomputable def licence_holds.conG [Fuel] (Gr:Int → Bs → List GLic → List Bs → Option Bool):Con:=⟨32,[.c (.g [.d iT,.d .str,.d (.sl GLicT)]),(aD lsT)],[],[],licence_holds.ps,.one (.v (.d .bool)),[],licence_holds.qs,fun x=>Gr x.1 x.2.1 x.2.2.1 x.2.2.2⟩
namespace licence_holds_1
noncomputable def con [Fuel] (Gr:Int → Bs → List GLic → List Bs → Option Bool):Con:=⟨52,[.c (.g [.d iT,.d .str,.d (.sl GLicT)]),.c (.v (.loc 1000000 0))],[(1000000,.box 27 [.d lsT])],[],[iT,.str,(.sl GLicT),lsT],.one (.v (.d .bool)),[],[.bool],fun x=>licence_holds_1 Gr x.1 x.2.1 x.2.2.1 x.2.2.2⟩
noncomputable def env [Fuel] (Gr:Int → Bs → List GLic → List Bs → Option Bool):Env:=⟨Tryz.prog,[],[(licence_holds.conG Gr)],[(6,0)],[],[],[],[],[],[],[],[]⟩
noncomputable def an:An := .seq .no (.seq .no .no)
theorem run [Fuel] (Gr:Int → Bs → List GLic → List Bs → Option Bool):RunIs (env Gr) Tryz.f52 an (con Gr):=fun x=>by kernel_rfl
theorem ok [Fuel] (Gr:Int → Bs → List GLic → List Bs → Option Bool) (hG:ConOK Tryz.prog (licence_holds.conG Gr)):ConOK Tryz.prog (con Gr):=run_ok (E:=(env Gr)) (run Gr) mixed Tryz.func52 (by kernel_rfl) (cons_cons hG (cons_nil))
end licence_holds_1
namespace slices_IndexFunc_api_Lic_api_Lic
noncomputable def con [Fuel] (Gr:Int → Bs → List GLic → List Bs → Option Bool):Con:=⟨86,[.c (.v (.d (.sl GLicT))),.c (.v (.fn 104 [1000000]))],[(1000000,.box 27 [.d lsT])],[],[(.sl GLicT),lsT],.one (.v (.d iT)),[],[iT],fun x=>slices_IndexFunc_api_Lic_api_Lic Gr x.1 x.2⟩
noncomputable def env [Fuel] (Gr:Int → Bs → List GLic → List Bs → Option Bool):Env:=⟨Tryz.prog,[],[(licence_holds_1.con Gr)],[(16,0)],[],[16],[],[],[],[],[],[]⟩
noncomputable def an:An := .seq .no (.seq (.seq .no (.one (.loop ⟨[(8,(aD iT))],[],[iT]⟩ [0,1,7] [1000000] (.seq .no (.seq (.cond .no .no) (.seq (.one (.seq .no (.seq .no (.cond (.seq .no .no) .no)))) .no)))))) (.seq .no .no))
theorem run [Fuel] (Gr:Int → Bs → List GLic → List Bs → Option Bool):RunIs (env Gr) Tryz.f86 an (con Gr):=fun x=>by kernel_rfl
theorem ok [Fuel] (Gr:Int → Bs → List GLic → List Bs → Option Bool) (hG:ConOK Tryz.prog (licence_holds.conG Gr)):ConOK Tryz.prog (con Gr):=run_ok (E:=(env Gr)) (run Gr) mixed Tryz.func86 (by kernel_rfl) (cons_cons (licence_holds_1.ok Gr hG) (cons_nil))
end slices_IndexFunc_api_Lic_api_Lic
namespace slices_ContainsFunc_api_Lic_api_Lic
noncomputable def con [Fuel] (Gr:Int → Bs → List GLic → List Bs → Option Bool):Con:=⟨54,[.c (.v (.d (.sl GLicT))),.c (.v (.fn 104 [1000000]))],[(1000000,.box 27 [.d lsT])],[],[(.sl GLicT),lsT],.one (.v (.d .bool)),[],[.bool],fun x=>slices_ContainsFunc_api_Lic_api_Lic Gr x.1 x.2⟩
noncomputable def env [Fuel] (Gr:Int → Bs → List GLic → List Bs → Option Bool):Env:=⟨Tryz.prog,[],[(slices_IndexFunc_api_Lic_api_Lic.con Gr)],[(7,0)],[],[7],[],[],[],[],[],[]⟩
noncomputable def an:An := .seq .no (.seq .no .no)
theorem run [Fuel] (Gr:Int → Bs → List GLic → List Bs → Option Bool):RunIs (env Gr) Tryz.f54 an (con Gr):=fun x=>by kernel_rfl
theorem ok [Fuel] (Gr:Int → Bs → List GLic → List Bs → Option Bool) (hG:ConOK Tryz.prog (licence_holds.conG Gr)):ConOK Tryz.prog (con Gr):=run_ok (E:=(env Gr)) (run Gr) mixed Tryz.func54 (by kernel_rfl) (cons_cons (slices_IndexFunc_api_Lic_api_Lic.ok Gr hG) (cons_nil))
end slices_ContainsFunc_api_Lic_api_Lic
namespace licence_holds_2
noncomputable def con [Fuel] (Gr:Int → Bs → List GLic → List Bs → Option Bool):Con:=⟨55,[.c (.g [.d iT,.d .str,.d (.sl GLicT)]),.c (.v (.loc 1000000 0))],[(1000000,.box 26 [.fn 104 [1000001]]),(1000001,.box 27 [.d lsT])],[],[iT,.str,(.sl GLicT),lsT],.one (.v (.d .bool)),[],[.bool],fun x=>licence_holds_2 Gr x.1 x.2.1 x.2.2.1 x.2.2.2⟩
noncomputable def env [Fuel] (Gr:Int → Bs → List GLic → List Bs → Option Bool):Env:=⟨Tryz.prog,[],[(licence_holds_1.con Gr)],[(6,0)],[],[6],[],[],[],[],[],[]⟩
noncomputable def an:An := .seq .no (.seq .no .no)
theorem run [Fuel] (Gr:Int → Bs → List GLic → List Bs → Option Bool):RunIs (env Gr) Tryz.f55 an (con Gr):=fun x=>by kernel_rfl
theorem ok [Fuel] (Gr:Int → Bs → List GLic → List Bs → Option Bool) (hG:ConOK Tryz.prog (licence_holds.conG Gr)):ConOK Tryz.prog (con Gr):=run_ok (E:=(env Gr)) (run Gr) mixed Tryz.func55 (by kernel_rfl) (cons_cons (licence_holds_1.ok Gr hG) (cons_nil))
end licence_holds_2
namespace slices_IndexFunc_api_Lic_api_Lic_v2
noncomputable def con [Fuel] (Gr:Int → Bs → List GLic → List Bs → Option Bool):Con:=⟨86,[.c (.v (.d (.sl GLicT))),.c (.v (.fn 110 [1000000]))],[(1000000,.box 26 [.fn 104 [1000001]]),(1000001,.box 27 [.d lsT])],[],[(.sl GLicT),lsT],.one (.v (.d iT)),[],[iT],fun x=>slices_IndexFunc_api_Lic_api_Lic_v2 Gr x.1 x.2⟩
noncomputable def env [Fuel] (Gr:Int → Bs → List GLic → List Bs → Option Bool):Env:=⟨Tryz.prog,[],[(licence_holds_2.con Gr)],[(16,0)],[],[16],[],[],[],[],[],[]⟩
noncomputable def an:An := .seq .no (.seq (.seq .no (.one (.loop ⟨[(8,(aD iT))],[],[iT]⟩ [0,1,7] [1000000,1000001] (.seq .no (.seq (.cond .no .no) (.seq (.one (.seq .no (.seq .no (.cond (.seq .no .no) .no)))) .no)))))) (.seq .no .no))
theorem run [Fuel] (Gr:Int → Bs → List GLic → List Bs → Option Bool):RunIs (env Gr) Tryz.f86 an (con Gr):=fun x=>by kernel_rfl
theorem ok [Fuel] (Gr:Int → Bs → List GLic → List Bs → Option Bool) (hG:ConOK Tryz.prog (licence_holds.conG Gr)):ConOK Tryz.prog (con Gr):=run_ok (E:=(env Gr)) (run Gr) mixed Tryz.func86 (by kernel_rfl) (cons_cons (licence_holds_2.ok Gr hG) (cons_nil))
end slices_IndexFunc_api_Lic_api_Lic_v2
namespace slices_ContainsFunc_api_Lic_api_Lic_v2
noncomputable def con [Fuel] (Gr:Int → Bs → List GLic → List Bs → Option Bool):Con:=⟨54,[.c (.v (.d (.sl GLicT))),.c (.v (.fn 110 [1000000]))],[(1000000,.box 26 [.fn 104 [1000001]]),(1000001,.box 27 [.d lsT])],[],[(.sl GLicT),lsT],.one (.v (.d .bool)),[],[.bool],fun x=>slices_ContainsFunc_api_Lic_api_Lic_v2 Gr x.1 x.2⟩
noncomputable def env [Fuel] (Gr:Int → Bs → List GLic → List Bs → Option Bool):Env:=⟨Tryz.prog,[],[(slices_IndexFunc_api_Lic_api_Lic_v2.con Gr)],[(7,0)],[],[7],[],[],[],[],[],[]⟩
noncomputable def an:An := .seq .no (.seq .no .no)
theorem run [Fuel] (Gr:Int → Bs → List GLic → List Bs → Option Bool):RunIs (env Gr) Tryz.f54 an (con Gr):=fun x=>by kernel_rfl
theorem ok [Fuel] (Gr:Int → Bs → List GLic → List Bs → Option Bool) (hG:ConOK Tryz.prog (licence_holds.conG Gr)):ConOK Tryz.prog (con Gr):=run_ok (E:=(env Gr)) (run Gr) mixed Tryz.func54 (by kernel_rfl) (cons_cons (slices_IndexFunc_api_Lic_api_Lic_v2.ok Gr hG) (cons_nil))
end slices_ContainsFunc_api_Lic_api_Lic_v2
namespace licence_holds
noncomputable def con [Fuel]:Con:=conG (rec Fuel.n)
noncomputable def env [Fuel] (Gr:Int → Bs → List GLic → List Bs → Option Bool):Env:=⟨Tryz.prog,[],[slices_Contains_string_string.con,(slices_ContainsFunc_api_Lic_api_Lic.con Gr),(slices_ContainsFunc_api_Lic_api_Lic_v2.con Gr)],[(14,0),(20,1),(24,2)],[],[20,24],[],[],[],[],[],[]⟩
noncomputable def an:An := .seq .no (.seq .no (.seq (.seq .no (.one (.seq .no (.cond (.seq .no .no) (.seq .no (.cond (.seq .no .no) .no)))))) (.seq .no .no)))
theorem run [Fuel] (Gr:Int → Bs → List GLic → List Bs → Option Bool):RunIs (env Gr) Tryz.f32 an (conG (body Gr)):=fun x=>by kernel_rfl
theorem okB [Fuel] (Gr:Int → Bs → List GLic → List Bs → Option Bool) (hG:ConOK Tryz.prog (conG Gr)):ConOK Tryz.prog (conG (body Gr)):=run_ok (E:=(env Gr)) (run Gr) mixed Tryz.func32 (by kernel_rfl) (cons_cons slices_Contains_string_string.ok (cons_cons (slices_ContainsFunc_api_Lic_api_Lic.ok Gr hG) (cons_cons (slices_ContainsFunc_api_Lic_api_Lic_v2.ok Gr hG) (cons_nil))))
theorem okN [Fuel]:∀ n,ConOK Tryz.prog (conG (rec n))
 | 0=>⟨by kernel_rfl,fun x r h=>by have h2:(none:Option (Tup licence_holds.qs)) = some r:=h; cases h2⟩
 | n + 1=>okB (rec n) (okN n)
theorem ok [Fuel]:ConOK Tryz.prog con:=okN _
end licence_holds
namespace licence_Implies
noncomputable def con [Fuel]:Con:=⟨10,[.c (.g [.d iT,.d .str,.d (.sl GLicT)]),.c (.g [.d iT,.d .str,.d (.sl GLicT)])],[],[],[iT,.str,(.sl GLicT),iT,.str,(.sl GLicT)],.tup [.v (.d .bool),.v (.d lsT),.v (.d iT)],[],[.bool,lsT,iT],fun x=>licence_Implies x.1 x.2.1 x.2.2.1 x.2.2.2.1 x.2.2.2.2.1 x.2.2.2.2.2⟩
noncomputable def env [Fuel]:Env:=⟨Tryz.prog,[],[licence_Right.con,licence_sets.con,licence_holds.con],[(10,0),(14,0),(18,1),(26,2)],[1000000],[],[],[],[],[],[],[]⟩
noncomputable def an:An := .seq .no (.seq (.join ⟨[(16,.c (.v (.d .bool)))],[],[.bool]⟩ [2,3] [2,3] true .no (.cond (.seq .no .no) .no)) (.seq (.seq .no (.one (.loop ⟨[(20,(aD iT))],[],[iT]⟩ [3,18,19] [3] (.seq .no (.seq (.cond .no .no) (.seq (.one (.seq .no (.seq .no (.cond (.seq .no .no) .no)))) .no)))))) (.seq .no .no)))
theorem run [Fuel]:RunIs env Tryz.f10 an con:=fun x=>by kernel_rfl
theorem ok [Fuel]:ConOK Tryz.prog con:=run_ok (E:=env) run mixed Tryz.func10 (by kernel_rfl) (cons_cons licence_Right.ok (cons_cons licence_sets.ok (cons_cons licence_holds.ok (cons_nil))))
end licence_Implies
namespace ladingref13_SameNames
noncomputable def con [Fuel]:Con:=⟨24,[(aD lsT),(aD lsT)],[],[],[lsT,lsT],.one (.v (.d .bool)),[],[.bool],fun x=>ladingref13_SameNames x.1 x.2⟩
noncomputable def env [Fuel]:Env:=⟨Tryz.prog,[],[],[],[],[],[],[],[19,20,23,24],[],[],[]⟩
noncomputable def an:An := .seq .no (.seq (.seq .no (.cond (.seq .no .no) .no)) (.seq (.seq .no (.one (.loop ⟨[(5,(aD iT))],[],[iT]⟩ [0,1] [] (.seq (.seq .no (.cond .no .no)) (.seq (.one (.seq .no (.cond (.seq .no .no) .no))) .no))))) (.seq .no .no)))
theorem run [Fuel]:RunIs env Tryz.f24 an con:=fun x=>by kernel_rfl
theorem ok [Fuel]:ConOK Tryz.prog con:=run_ok (E:=env) run mixed Tryz.func24 (by kernel_rfl) (cons_nil)
end ladingref13_SameNames
namespace ladingref13_SameSets
noncomputable def con [Fuel]:Con:=⟨12,[.c (.v (.d (.sl lsT))),.c (.v (.d (.sl lsT)))],[],[],[(.sl lsT),(.sl lsT)],.one (.v (.d .bool)),[],[.bool],fun x=>ladingref13_SameSets x.1 x.2⟩
noncomputable def env [Fuel]:Env:=⟨Tryz.prog,[],[ladingref13_SameNames.con],[(25,0)],[],[],[],[],[19,20,23,24],[],[],[]⟩
noncomputable def an:An := .seq .no (.seq (.seq .no (.cond (.seq .no .no) .no)) (.seq (.seq .no (.one (.loop ⟨[(5,(aD iT))],[],[iT]⟩ [0,1] [] (.seq (.seq .no (.cond .no .no)) (.seq (.one (.seq .no (.cond (.seq .no .no) .no))) .no))))) (.seq .no .no)))
theorem run [Fuel]:RunIs env Tryz.f12 an con:=fun x=>by kernel_rfl
theorem ok [Fuel]:ConOK Tryz.prog con:=run_ok (E:=env) run mixed Tryz.func12 (by kernel_rfl) (cons_cons ladingref13_SameNames.ok (cons_nil))
end ladingref13_SameSets
namespace licence_Permits
noncomputable def con [Fuel]:Con:=⟨13,[.c (.g [.d iT,.d .str,.d (.sl GLicT)]),(aD lsT)],[],[],[iT,.str,(.sl GLicT),lsT],.one (.v (.d .bool)),[],[.bool],fun x=>licence_Permits x.1 x.2.1 x.2.2.1 x.2.2.2⟩
noncomputable def env [Fuel]:Env:=⟨Tryz.prog,[],[licence_Right.con,licence_holds.con],[(6,0),(10,1)],[],[],[],[],[],[],[],[]⟩
noncomputable def an:An := .seq .no (.seq .no .no)
theorem run [Fuel]:RunIs env Tryz.f13 an con:=fun x=>by kernel_rfl
theorem ok [Fuel]:ConOK Tryz.prog con:=run_ok (E:=env) run mixed Tryz.func13 (by kernel_rfl) (cons_cons licence_Right.ok (cons_cons licence_holds.ok (cons_nil)))
end licence_Permits
namespace licence_Right_v2
noncomputable def con [Fuel]:Con:=⟨9,[.c (.a GLicT)],[],[],[GLicT],.one (.v (.d .bool)),[],[.bool],fun x=>licence_Right_v2 x⟩
noncomputable def env [Fuel]:Env:=⟨Tryz.prog,[],[licence_size.con],[(4,0)],[],[],[],[],[],[],[],[]⟩
noncomputable def an:An := .seq .no (.seq .no .no)
theorem run [Fuel]:RunIs env Tryz.f9 an con:=fun x=>by kernel_rfl
theorem ok [Fuel]:ConOK Tryz.prog con:=run_ok (E:=env) run mixed Tryz.func9 (by kernel_rfl) (cons_cons licence_size.ok (cons_nil))
end licence_Right_v2
namespace ladinglaw13_small
noncomputable def con [Fuel]:Con:=⟨7,[],[],[],[],.one (.v (.d .bool)),[],[.bool],fun x=>ladinglaw13_small⟩
noncomputable def env [Fuel]:Env:=⟨Tryz.prog,[(27,.str),(31,lsT)],[licence_Parse.con,licence_Print.con,licence_Normal.con,licence_Implies.con,ladingref13_SameSets.con,ladingref13_SameNames.con,licence_Permits.con,licence_Right_v2.con],[(19,0),(24,1),(29,2),(33,0),(37,0),(43,3),(50,3),(73,4),(94,5),(99,6),(103,7)],[9],[],[],[70,71,72,93,98],[],[],[],[]⟩
noncomputable def an:An := .seq .no (.seq .no (.seq .no (.seq .no (.seq .no (.seq .no (.seq .no (.seq .no (.join ⟨[(17,.c (.v (.d .bool)))],[],[.bool]⟩ [9,11,13,14,15,16] [9] true .no (.seq .no .no)))))))))
theorem run [Fuel]:RunIs env Tryz.f7 an con:=fun x=>by kernel_rfl
theorem ok [Fuel]:ConOK Tryz.prog con:=run_ok (E:=env) run mixed Tryz.func7 (by kernel_rfl) (cons_cons licence_Parse.ok (cons_cons licence_Print.ok (cons_cons licence_Normal.ok (cons_cons licence_Implies.ok (cons_cons ladingref13_SameSets.ok (cons_cons ladingref13_SameNames.ok (cons_cons licence_Permits.ok (cons_cons licence_Right_v2.ok (cons_nil)))))))))
end ladinglaw13_small
noncomputable abbrev ladinglaw13_nodes.ps:List Ty:=[iT,.str,(.sl GLicT),iT,iT]
noncomputable abbrev ladinglaw13_nodes.qs:List Ty:=[iT]
noncomputable def ladinglaw13_nodes.conG [Fuel] (Gr:Int → Bs → List GLic → Int → Int → Option Int):Con:=⟨29,[.c (.g [.d iT,.d .str,.d (.sl GLicT)]),(aD iT),(aD iT)],[],[],ladinglaw13_nodes.ps,.one (.v (.d iT)),[],ladinglaw13_nodes.qs,fun x=>Gr x.1 x.2.1 x.2.2.1 x.2.2.2.1 x.2.2.2.2⟩
namespace ladinglaw13_nodes
noncomputable def con [Fuel]:Con:=conG (rec Fuel.n)
noncomputable def env [Fuel] (Gr:Int → Bs → List GLic → Int → Int → Option Int):Env:=⟨Tryz.prog,[],[(ladinglaw13_nodes.conG Gr)],[(42,0)],[1000000],[],[],[],[],[],[],[]⟩
noncomputable def an:An := .seq .no (.seq .no (.seq (.join ⟨[(16,.c (.v (.d .bool)))],[],[.bool]⟩ [1,2,3,7] [3] true .no (.cond (.seq .no .no) .no)) (.seq (.seq .no (.one (.loop ⟨[(7,(aD iT)),(8,(aD iT))],[],[iT,iT]⟩ [1,2,3] [3] (.seq (.join ⟨[(28,.c (.v (.d .bool)))],[],[.bool]⟩ [1,2,3,7,8] [3] true .no (.cond .no .no)) (.seq (.one .no) .no))))) (.seq .no .no))))
theorem run [Fuel] (Gr:Int → Bs → List GLic → Int → Int → Option Int):RunIs (env Gr) Tryz.f29 an (conG (body Gr)):=fun x=>by kernel_rfl
theorem okB [Fuel] (Gr:Int → Bs → List GLic → Int → Int → Option Int) (hG:ConOK Tryz.prog (conG Gr)):ConOK Tryz.prog (conG (body Gr)):=run_ok (E:=(env Gr)) (run Gr) mixed Tryz.func29 (by kernel_rfl) (cons_cons hG (cons_nil))
theorem okN [Fuel]:∀ n,ConOK Tryz.prog (conG (rec n))
 | 0=>⟨by kernel_rfl,fun x r h=>by have h2:(none:Option (Tup ladinglaw13_nodes.qs)) = some r:=h; cases h2⟩
 | n + 1=>okB (rec n) (okN n)
theorem ok [Fuel]:ConOK Tryz.prog con:=okN _
end ladinglaw13_nodes
namespace ladinglaw13_light
noncomputable def con [Fuel]:Con:=⟨8,[.c (.g [.d iT,.d .str,.d (.sl GLicT)])],[],[],[iT,.str,(.sl GLicT)],.one (.v (.d .bool)),[],[.bool],fun x=>ladinglaw13_light x.1 x.2.1 x.2.2⟩
noncomputable def env [Fuel]:Env:=⟨Tryz.prog,[],[ladinglaw13_nodes.con],[(4,0)],[],[],[],[],[],[],[],[]⟩
noncomputable def an:An := .seq .no (.seq .no .no)
theorem run [Fuel]:RunIs env Tryz.f8 an con:=fun x=>by kernel_rfl
theorem ok [Fuel]:ConOK Tryz.prog con:=run_ok (E:=env) run mixed Tryz.func8 (by kernel_rfl) (cons_cons ladinglaw13_nodes.ok (cons_nil))
end ladinglaw13_light
namespace ladinglaw13_short
noncomputable def con [Fuel]:Con:=⟨14,[(aD lsT)],[],[],[lsT],.one (.v (.d .bool)),[],[.bool],fun x=>ladinglaw13_short x⟩
noncomputable def env [Fuel]:Env:=⟨Tryz.prog,[],[],[],[1000000],[],[],[],[],[],[],[]⟩
noncomputable def an:An := .seq .no (.seq (.seq .no (.one (.loop ⟨[(3,(aD iT))],[],[iT]⟩ [0] [] (.seq (.join ⟨[(11,.c (.v (.d .bool)))],[],[.bool]⟩ [0,3] [] true .no (.cond .no .no)) (.seq (.one (.seq .no (.cond (.seq .no .no) .no))) .no))))) (.seq .no .no))
theorem run [Fuel]:RunIs env Tryz.f14 an con:=fun x=>by kernel_rfl
theorem ok [Fuel]:ConOK Tryz.prog con:=run_ok (E:=env) run mixed Tryz.func14 (by kernel_rfl) (cons_nil)
end ladinglaw13_short
namespace ladingref13_tokens
noncomputable def con [Fuel]:Con:=⟨37,[.c (.v (.d .str))],[],[],[.str],.one (.v (.own 0)),[(0,.arr 9 .str)],[lsT],fun x=>ladingref13_tokens x⟩
noncomputable def env [Fuel]:Env:=⟨Tryz.prog,[(27,.str)],[],[],[1000000],[],[],[43,59],[],[],[],[]⟩
noncomputable def an:An := .seq .no (.seq .no (.seq .no (.seq (.one (.loop ⟨[(3,.c (.v (.own 500002))),(4,(aD iT))],[(500002,.arr 9 .str)],[iT,lsT]⟩ [0] [] (.seq (.seq .no (.cond .no .no)) (.one (.seq .no (.one (.seq .no (.cond .no (.join ⟨[(50,.c (.v (.d .bool)))],[],[.bool]⟩ [0,3,4] [500002] true (.seq .no (.cond .no .no)) (.cond (.seq .no .no) (.seq .no (.seq (.one (.loop ⟨[(5,(aD iT))],[],[iT]⟩ [0,3,4] [500002] (.seq (.join ⟨[(35,.c (.v (.d .bool)))],[],[.bool]⟩ [0,3,4,5] [500002] true .no (.cond .no .no)) (.one .no)))) (.seq .no .no))))))))))))) (.seq .no .no))))
theorem run [Fuel]:RunIs env Tryz.f37 an con:=fun x=>by kernel_rfl
theorem ok [Fuel]:ConOK Tryz.prog con:=run_ok (E:=env) run mixed Tryz.func37 (by kernel_rfl) (cons_nil)
end ladingref13_tokens
namespace ladingref13_parser_next
noncomputable def con [Fuel]:Con:=⟨62,[.c (.v (.loc 1000000 0)),.c (.v (.d .str))],[],[(1000000,.box 65 [.own 1000001,.d iT]),(1000001,.arr 9 .str)],[.str,iT,lsT],.one (.v (.d .bool)),[(1000000,.box 65 [.own 1000001,.d iT]),(1000001,.arr 9 .str)],[.bool,iT,lsT],fun x=>ladingref13_parser_next x.1 x.2.1 x.2.2⟩
noncomputable def env [Fuel]:Env:=⟨Tryz.prog,[],[],[],[1000000],[],[],[],[],[8,12,13,19,23],[],[]⟩
noncomputable def an:An := .seq .no (.seq (.join ⟨[(28,.c (.v (.d .bool)))],[],[.bool]⟩ [0] [1000000,1000001] true .no (.cond (.seq .no (.seq .no .no)) .no)) (.seq .no .no))
theorem run [Fuel]:RunIs env Tryz.f62 an con:=fun x=>by kernel_rfl
theorem ok [Fuel]:ConOK Tryz.prog con:=run_ok (E:=env) run mixed Tryz.func62 (by kernel_rfl) (cons_nil)
end ladingref13_parser_next
namespace ladingref13_name
noncomputable def con [Fuel]:Con:=⟨65,[.c (.v (.d .str))],[],[],[.str],.one (.v (.d .bool)),[],[.bool],fun x=>ladingref13_name x⟩
noncomputable def env [Fuel]:Env:=⟨Tryz.prog,[],[],[],[8,9,1000000],[],[],[],[],[],[],[]⟩
noncomputable def an:An := .seq .no (.seq (.join ⟨[(22,.c (.v (.d .bool)))],[],[.bool]⟩ [0] [] true .no (.cond (.seq .no .no) .no)) (.seq (.seq .no (.one (.loop ⟨[(3,(aD iT))],[],[iT]⟩ [0] [] (.seq (.seq .no (.cond .no .no)) (.seq (.one (.seq .no (.join ⟨[(5,.c (.v (.d .bool)))],[],[.bool]⟩ [0,3,4] [] true .no (.join ⟨[(6,.c (.v (.d .bool)))],[],[.bool]⟩ [0,3,5] [] true .no (.join ⟨[(61,.c (.v (.d .bool)))],[],[.bool]⟩ [0,3] [] true .no (.cond (.seq .no .no) .no)))))) .no))))) (.seq .no .no)))
theorem run [Fuel]:RunIs env Tryz.f65 an con:=fun x=>by kernel_rfl
theorem ok [Fuel]:ConOK Tryz.prog con:=run_ok (E:=env) run mixed Tryz.func65 (by kernel_rfl) (cons_nil)
end ladingref13_name
noncomputable abbrev ladingref13_parser_alternatives.ps:List Ty:=[iT,lsT]
noncomputable abbrev ladingref13_parser_alternatives.qs:List Ty:=[GLicT,.bool,iT,lsT]
noncomputable def ladingref13_parser_alternatives.conG [Fuel] (Gr:Int → List Bs → Option (GLic × Bool × Int × List Bs)):Con:=⟨38,[.c (.v (.loc 1000000 0))],[],[(1000000,.box 65 [.own 1000001,.d iT]),(1000001,.arr 9 .str)],ladingref13_parser_alternatives.ps,.tup [.a GLicT,.v (.d .bool)],[(1000000,.box 65 [.own 1000001,.d iT]),(1000001,.arr 9 .str)],ladingref13_parser_alternatives.qs,fun x=>Gr x.1 x.2⟩
namespace ladingref13_parser_part
noncomputable def con [Fuel] (Gr:Int → List Bs → Option (GLic × Bool × Int × List Bs)):Con:=⟨95,[.c (.v (.loc 1000000 0))],[],[(1000000,.box 65 [.own 1000001,.d iT]),(1000001,.arr 9 .str)],[iT,lsT],.tup [.a GLicT,.v (.d .bool)],[(1000000,.box 65 [.own 1000001,.d iT]),(1000001,.arr 9 .str)],[GLicT,.bool,iT,lsT],fun x=>ladingref13_parser_part Gr x.1 x.2⟩
noncomputable def env [Fuel] (Gr:Int → List Bs → Option (GLic × Bool × Int × List Bs)):Env:=⟨Tryz.prog,[],[ladingref13_parser_next.con,(ladingref13_parser_alternatives.conG Gr),ladingref13_name.con],[(7,0),(10,1),(16,0),(41,2)],[1000000],[7,10,16],[],[],[],[23,27,28,34,38,53,57,3000024,53000065,57000065],[],[]⟩
noncomputable def an:An := .seq .no (.seq (.seq .no (.cond (.seq .no (.seq .no (.seq .no .no))) .no)) (.seq (.join ⟨[(42,.c (.v (.d .bool)))],[],[.bool]⟩ [0,2] [2,1000000,1000001] true .no (.cond (.seq .no (.seq .no .no)) .no)) (.seq .no .no)))
theorem run [Fuel] (Gr:Int → List Bs → Option (GLic × Bool × Int × List Bs)):RunIs (env Gr) Tryz.f95 an (con Gr):=fun x=>by kernel_rfl
theorem ok [Fuel] (Gr:Int → List Bs → Option (GLic × Bool × Int × List Bs)) (hG:ConOK Tryz.prog (ladingref13_parser_alternatives.conG Gr)):ConOK Tryz.prog (con Gr):=run_ok (E:=(env Gr)) (run Gr) mixed Tryz.func95 (by kernel_rfl) (cons_cons ladingref13_parser_next.ok (cons_cons hG (cons_cons ladingref13_name.ok (cons_nil))))
end ladingref13_parser_part
namespace ladingref13_joined
noncomputable def con [Fuel]:Con:=⟨63,[(aD iT),.c (.v (.d (.sl GLicT)))],[],[],[iT,(.sl GLicT)],.one (.a GLicT),[],[GLicT],fun x=>ladingref13_joined x.1 x.2⟩
noncomputable def env [Fuel]:Env:=⟨Tryz.prog,[(22,GLicT)],[],[],[],[],[],[43],[32,34,41,42],[29,38],[],[]⟩
noncomputable def an:An := .seq .no (.seq (.seq .no (.cond (.seq .no .no) .no)) (.seq .no (.seq (.seq .no (.one (.loop ⟨[(5,.c (.v (.loc 500004 0))),(6,(aD iT))],[(500004,.box 24 [.d iT,.d .str,.own 500005]),(500005,.arr 24 GLicT)],[iT,iT,.str,(.sl GLicT)]⟩ [0,1,4] [4] (.seq (.seq .no (.cond .no .no)) (.seq (.one (.seq .no (.cond .no .no))) .no))))) (.seq .no .no))))
theorem run [Fuel]:RunIs env Tryz.f63 an con:=fun x=>by kernel_rfl
theorem ok [Fuel]:ConOK Tryz.prog con:=run_ok (E:=env) run mixed Tryz.func63 (by kernel_rfl) (cons_nil)
end ladingref13_joined
namespace ladingref13_parser_sequence
noncomputable def con [Fuel] (Gr:Int → List Bs → Option (GLic × Bool × Int × List Bs)):Con:=⟨61,[.c (.v (.loc 1000000 0))],[],[(1000000,.box 65 [.own 1000001,.d iT]),(1000001,.arr 9 .str)],[iT,lsT],.tup [.a GLicT,.v (.d .bool)],[(1000000,.box 65 [.own 1000001,.d iT]),(1000001,.arr 9 .str)],[GLicT,.bool,iT,lsT],fun x=>ladingref13_parser_sequence Gr x.1 x.2⟩
noncomputable def env [Fuel] (Gr:Int → List Bs → Option (GLic × Bool × Int × List Bs)):Env:=⟨Tryz.prog,[(22,GLicT)],[(ladingref13_parser_part.con Gr),ladingref13_parser_next.con,ladingref13_joined.con],[(11,0),(22,1),(24,2)],[9],[11,22],[24],[19],[],[],[],[]⟩
noncomputable def an:An := .seq .no (.seq .no (.seq .no (.join ⟨[(4,.c (.v (.own 500003)))],[(500003,.arr 24 GLicT),(1000000,.box 65 [.own 1000001,.d iT]),(1000001,.arr 9 .str)],[(.sl GLicT),iT,lsT]⟩ [2] [2] false (.one (.loop ⟨[(0,.c (.v (.loc 1000000 0))),(4,.c (.v (.own 500005))),(5,.c (.v (.d .bool)))],[(1000000,.box 65 [.own 1000001,.d iT]),(500005,.arr 24 GLicT),(1000001,.arr 9 .str)],[.bool,iT,(.sl GLicT),lsT]⟩ [2] [2] (.seq (.seq .no (.cond .no .no)) (.one (.seq .no (.seq (.seq .no (.cond (.seq .no .no) .no)) (.seq .no .no))))))) (.seq .no .no))))
theorem run [Fuel] (Gr:Int → List Bs → Option (GLic × Bool × Int × List Bs)):RunIs (env Gr) Tryz.f61 an (con Gr):=fun x=>by kernel_rfl
theorem ok [Fuel] (Gr:Int → List Bs → Option (GLic × Bool × Int × List Bs)) (hG:ConOK Tryz.prog (ladingref13_parser_alternatives.conG Gr)):ConOK Tryz.prog (con Gr):=run_ok (E:=(env Gr)) (run Gr) mixed Tryz.func61 (by kernel_rfl) (cons_cons (ladingref13_parser_part.ok Gr hG) (cons_cons ladingref13_parser_next.ok (cons_cons ladingref13_joined.ok (cons_nil))))
end ladingref13_parser_sequence
namespace ladingref13_parser_alternatives
noncomputable def con [Fuel]:Con:=conG (rec Fuel.n)
noncomputable def env [Fuel] (Gr:Int → List Bs → Option (GLic × Bool × Int × List Bs)):Env:=⟨Tryz.prog,[(22,GLicT)],[(ladingref13_parser_sequence.con Gr),ladingref13_parser_next.con,ladingref13_joined.con],[(11,0),(22,1),(24,2)],[9],[11,22],[24],[19],[],[],[],[]⟩
noncomputable def an:An := .seq .no (.seq .no (.seq .no (.join ⟨[(4,.c (.v (.own 500003)))],[(500003,.arr 24 GLicT),(1000000,.box 65 [.own 1000001,.d iT]),(1000001,.arr 9 .str)],[(.sl GLicT),iT,lsT]⟩ [2] [2] false (.one (.loop ⟨[(0,.c (.v (.loc 1000000 0))),(4,.c (.v (.own 500005))),(5,.c (.v (.d .bool)))],[(1000000,.box 65 [.own 1000001,.d iT]),(500005,.arr 24 GLicT),(1000001,.arr 9 .str)],[.bool,iT,(.sl GLicT),lsT]⟩ [2] [2] (.seq (.seq .no (.cond .no .no)) (.one (.seq .no (.seq (.seq .no (.cond (.seq .no .no) .no)) (.seq .no .no))))))) (.seq .no .no))))
theorem run [Fuel] (Gr:Int → List Bs → Option (GLic × Bool × Int × List Bs)):RunIs (env Gr) Tryz.f38 an (conG (body Gr)):=fun x=>by kernel_rfl
theorem okB [Fuel] (Gr:Int → List Bs → Option (GLic × Bool × Int × List Bs)) (hG:ConOK Tryz.prog (conG Gr)):ConOK Tryz.prog (conG (body Gr)):=run_ok (E:=(env Gr)) (run Gr) mixed Tryz.func38 (by kernel_rfl) (cons_cons (ladingref13_parser_sequence.ok Gr hG) (cons_cons ladingref13_parser_next.ok (cons_cons ladingref13_joined.ok (cons_nil))))
theorem okN [Fuel]:∀ n,ConOK Tryz.prog (conG (rec n))
 | 0=>⟨by kernel_rfl,fun x r h=>by have h2:(none:Option (Tup ladingref13_parser_alternatives.qs)) = some r:=h; cases h2⟩
 | n + 1=>okB (rec n) (okN n)
theorem ok [Fuel]:ConOK Tryz.prog con:=okN _
end ladingref13_parser_alternatives
noncomputable abbrev ladingref13_leaves.ps:List Ty:=[iT,.str,(.sl GLicT)]
noncomputable abbrev ladingref13_leaves.qs:List Ty:=[iT]
noncomputable def ladingref13_leaves.conG [Fuel] (Gr:Int → Bs → List GLic → Option Int):Con:=⟨39,[.c (.g [.d iT,.d .str,.d (.sl GLicT)])],[],[],ladingref13_leaves.ps,.one (.v (.d iT)),[],ladingref13_leaves.qs,fun x=>Gr x.1 x.2.1 x.2.2⟩
namespace ladingref13_leaves
noncomputable def con [Fuel]:Con:=conG (rec Fuel.n)
noncomputable def env [Fuel] (Gr:Int → Bs → List GLic → Option Int):Env:=⟨Tryz.prog,[],[(ladingref13_leaves.conG Gr)],[(25,0)],[1000000],[],[],[],[],[],[],[]⟩
noncomputable def an:An := .seq .no (.seq (.seq .no (.cond (.seq .no .no) .no)) (.seq .no (.seq (.seq .no (.one (.loop ⟨[(3,(aD iT)),(4,(aD iT))],[],[iT,iT]⟩ [1] [1] (.seq (.join ⟨[(16,.c (.v (.d .bool)))],[],[.bool]⟩ [1,3,4] [1] true .no (.cond .no .no)) (.seq (.one .no) .no))))) (.seq .no .no))))
theorem run [Fuel] (Gr:Int → Bs → List GLic → Option Int):RunIs (env Gr) Tryz.f39 an (conG (body Gr)):=fun x=>by kernel_rfl
theorem okB [Fuel] (Gr:Int → Bs → List GLic → Option Int) (hG:ConOK Tryz.prog (conG Gr)):ConOK Tryz.prog (conG (body Gr)):=run_ok (E:=(env Gr)) (run Gr) mixed Tryz.func39 (by kernel_rfl) (cons_cons hG (cons_nil))
theorem okN [Fuel]:∀ n,ConOK Tryz.prog (conG (rec n))
 | 0=>⟨by kernel_rfl,fun x r h=>by have h2:(none:Option (Tup ladingref13_leaves.qs)) = some r:=h; cases h2⟩
 | n + 1=>okB (rec n) (okN n)
theorem ok [Fuel]:ConOK Tryz.prog con:=okN _
end ladingref13_leaves
namespace ladingref13_Parse
noncomputable def con [Fuel]:Con:=⟨16,[.c (.v (.d .str))],[],[],[.str],.tup [.a GLicT,.v (.d iT)],[],[GLicT,iT],fun x=>ladingref13_Parse x⟩
noncomputable def env [Fuel]:Env:=⟨Tryz.prog,[],[ladingref13_tokens.con,ladingref13_parser_alternatives.con,ladingref13_leaves.con],[(12,0),(17,1),(36,2)],[1000000],[17],[],[],[],[26,30,31],[],[]⟩
noncomputable def an:An := .seq .no (.seq (.seq .no (.cond (.seq .no .no) .no)) (.seq .no (.seq .no (.seq (.join ⟨[(33,.c (.v (.d .bool)))],[],[.bool]⟩ [2,5] [2,5] true .no (.cond (.seq .no .no) .no)) (.seq (.seq .no (.cond (.seq .no .no) .no)) (.seq .no .no))))))
theorem run [Fuel]:RunIs env Tryz.f16 an con:=fun x=>by kernel_rfl
theorem ok [Fuel]:ConOK Tryz.prog con:=run_ok (E:=env) run mixed Tryz.func16 (by kernel_rfl) (cons_cons ladingref13_tokens.ok (cons_cons ladingref13_parser_alternatives.ok (cons_cons ladingref13_leaves.ok (cons_nil))))
end ladingref13_Parse
noncomputable abbrev ladingref13_form.ps:List Ty:=[iT,.str,(.sl GLicT),iT]
noncomputable abbrev ladingref13_form.qs:List Ty:=[.bool]
noncomputable def ladingref13_form.conG [Fuel] (Gr:Int → Bs → List GLic → Int → Option Bool):Con:=⟨42,[.c (.g [.d iT,.d .str,.d (.sl GLicT)]),(aD iT)],[],[],ladingref13_form.ps,.one (.v (.d .bool)),[],ladingref13_form.qs,fun x=>Gr x.1 x.2.1 x.2.2.1 x.2.2.2⟩
namespace ladingref13_form
noncomputable def con [Fuel]:Con:=conG (rec Fuel.n)
noncomputable def env [Fuel] (Gr:Int → Bs → List GLic → Int → Option Bool):Env:=⟨Tryz.prog,[],[ladingref13_name.con,(ladingref13_form.conG Gr)],[(12,0),(62,1)],[1000000],[],[],[],[66,68],[64,70],[],[]⟩
noncomputable def an:An := .seq .no (.seq (.seq .no (.cond (.seq .no .no) .no)) (.seq (.join ⟨[(47,.c (.v (.d .bool)))],[],[.bool]⟩ [1,2] [2] true .no (.cond (.seq .no .no) .no)) (.seq (.seq .no (.one (.loop ⟨[(5,(aD iT))],[],[iT]⟩ [1,2] [2] (.seq (.seq .no (.cond .no .no)) (.seq (.one (.seq .no (.join ⟨[(75,.c (.v (.d .bool)))],[],[.bool]⟩ [1,2,5] [2] true .no (.cond (.seq .no .no) .no)))) .no))))) (.seq .no .no))))
theorem run [Fuel] (Gr:Int → Bs → List GLic → Int → Option Bool):RunIs (env Gr) Tryz.f42 an (conG (body Gr)):=fun x=>by kernel_rfl
theorem okB [Fuel] (Gr:Int → Bs → List GLic → Int → Option Bool) (hG:ConOK Tryz.prog (conG Gr)):ConOK Tryz.prog (conG (body Gr)):=run_ok (E:=(env Gr)) (run Gr) mixed Tryz.func42 (by kernel_rfl) (cons_cons ladingref13_name.ok (cons_cons hG (cons_nil)))
theorem okN [Fuel]:∀ n,ConOK Tryz.prog (conG (rec n))
 | 0=>⟨by kernel_rfl,fun x r h=>by have h2:(none:Option (Tup ladingref13_form.qs)) = some r:=h; cases h2⟩
 | n + 1=>okB (rec n) (okN n)
theorem ok [Fuel]:ConOK Tryz.prog con:=okN _
end ladingref13_form
namespace ladingref13_Right
noncomputable def con [Fuel]:Con:=⟨20,[.c (.g [.d iT,.d .str,.d (.sl GLicT)])],[],[],[iT,.str,(.sl GLicT)],.one (.v (.d .bool)),[],[.bool],fun x=>ladingref13_Right x.1 x.2.1 x.2.2⟩
noncomputable def env [Fuel]:Env:=⟨Tryz.prog,[],[ladingref13_form.con,ladingref13_leaves.con],[(5,0),(9,1)],[],[],[],[],[],[],[],[]⟩
noncomputable def an:An := .seq .no (.seq .no (.seq .no .no))
theorem run [Fuel]:RunIs env Tryz.f20 an con:=fun x=>by kernel_rfl
theorem ok [Fuel]:ConOK Tryz.prog con:=run_ok (E:=env) run mixed Tryz.func20 (by kernel_rfl) (cons_cons ladingref13_form.ok (cons_cons ladingref13_leaves.ok (cons_nil)))
end ladingref13_Right
noncomputable abbrev ladingref13_text.ps:List Ty:=[iT,.str,(.sl GLicT)]
noncomputable abbrev ladingref13_text.qs:List Ty:=[.str]
noncomputable def ladingref13_text.conG [Fuel] (Gr:Int → Bs → List GLic → Option Bs):Con:=⟨41,[.c (.g [.d iT,.d .str,.d (.sl GLicT)])],[],[],ladingref13_text.ps,.one (.v (.d .str)),[],ladingref13_text.qs,fun x=>Gr x.1 x.2.1 x.2.2⟩
namespace ladingref13_text
noncomputable def con [Fuel]:Con:=conG (rec Fuel.n)
noncomputable def env [Fuel] (Gr:Int → Bs → List GLic → Option Bs):Env:=⟨Tryz.prog,[],[(ladingref13_text.conG Gr)],[(23,0)],[10,12,1000000],[],[],[],[],[],[],[]⟩
noncomputable def an:An := .seq .no (.seq (.seq .no (.cond (.seq .no .no) .no)) (.seq .no (.seq (.seq .no (.one (.loop ⟨[(3,.c (.v (.d .str))),(4,(aD iT))],[],[.str,iT]⟩ [1] [1] (.seq (.seq .no (.cond .no .no)) (.seq (.one (.seq .no (.join ⟨[(5,.c (.v (.d .str)))],[],[.str]⟩ [1,3,4] [1] true (.join ⟨[(35,.c (.v (.d .bool)))],[],[.bool]⟩ [1,3,4,5] [1] true .no (.cond .no .no)) (.join ⟨[(3,.c (.v (.d .str)))],[],[.str]⟩ [1,4,5] [1] true (.join ⟨[(45,.c (.v (.d .bool)))],[],[.bool]⟩ [1,3,4,5] [1] true .no (.cond .no .no)) (.seq (.join ⟨[(54,.c (.v (.d .bool)))],[],[.bool]⟩ [1,3,4,5] [1] true .no (.cond .no .no)) .no))))) .no))))) (.seq .no .no))))
theorem run [Fuel] (Gr:Int → Bs → List GLic → Option Bs):RunIs (env Gr) Tryz.f41 an (conG (body Gr)):=fun x=>by kernel_rfl
theorem okB [Fuel] (Gr:Int → Bs → List GLic → Option Bs) (hG:ConOK Tryz.prog (conG Gr)):ConOK Tryz.prog (conG (body Gr)):=run_ok (E:=(env Gr)) (run Gr) mixed Tryz.func41 (by kernel_rfl) (cons_cons hG (cons_nil))
theorem okN [Fuel]:∀ n,ConOK Tryz.prog (conG (rec n))
 | 0=>⟨by kernel_rfl,fun x r h=>by have h2:(none:Option (Tup ladingref13_text.qs)) = some r:=h; cases h2⟩
 | n + 1=>okB (rec n) (okN n)
theorem ok [Fuel]:ConOK Tryz.prog con:=okN _
end ladingref13_text
namespace ladingref13_Print
noncomputable def con [Fuel]:Con:=⟨18,[.c (.g [.d iT,.d .str,.d (.sl GLicT)])],[],[],[iT,.str,(.sl GLicT)],.tup [.v (.d .str),.v (.d iT)],[],[.str,iT],fun x=>ladingref13_Print x.1 x.2.1 x.2.2⟩
noncomputable def env [Fuel]:Env:=⟨Tryz.prog,[],[ladingref13_Right.con,ladingref13_text.con],[(5,0),(8,1)],[],[],[],[],[],[],[],[]⟩
noncomputable def an:An := .seq .no (.seq (.seq .no (.cond (.seq .no .no) .no)) (.seq .no .no))
theorem run [Fuel]:RunIs env Tryz.f18 an con:=fun x=>by kernel_rfl
theorem ok [Fuel]:ConOK Tryz.prog con:=run_ok (E:=env) run mixed Tryz.func18 (by kernel_rfl) (cons_cons ladingref13_Right.ok (cons_cons ladingref13_text.ok (cons_nil)))
end ladingref13_Print
noncomputable abbrev ladingref13_Same.ps:List Ty:=[iT,.str,(.sl GLicT),iT,.str,(.sl GLicT)]
noncomputable abbrev ladingref13_Same.qs:List Ty:=[.bool]
noncomputable def ladingref13_Same.conG [Fuel] (Gr:Int → Bs → List GLic → Int → Bs → List GLic → Option Bool):Con:=⟨19,[.c (.g [.d iT,.d .str,.d (.sl GLicT)]),.c (.g [.d iT,.d .str,.d (.sl GLicT)])],[],[],ladingref13_Same.ps,.one (.v (.d .bool)),[],ladingref13_Same.qs,fun x=>Gr x.1 x.2.1 x.2.2.1 x.2.2.2.1 x.2.2.2.2.1 x.2.2.2.2.2⟩
namespace ladingref13_Same
noncomputable def con [Fuel]:Con:=conG (rec Fuel.n)
noncomputable def env [Fuel] (Gr:Int → Bs → List GLic → Int → Bs → List GLic → Option Bool):Env:=⟨Tryz.prog,[],[(ladingref13_Same.conG Gr)],[(45,0)],[1000000],[],[],[],[38,39,43,44],[36,41],[],[]⟩
noncomputable def an:An := .seq .no (.seq (.join ⟨[(27,.c (.v (.d .bool)))],[],[.bool]⟩ [2,3] [2,3] true .no (.cond (.seq .no .no) .no)) (.seq (.seq .no (.one (.loop ⟨[(5,(aD iT))],[],[iT]⟩ [2,3] [2,3] (.seq (.seq .no (.cond .no .no)) (.seq (.one (.seq .no (.seq .no (.cond (.seq .no .no) .no)))) .no))))) (.seq .no .no)))
theorem run [Fuel] (Gr:Int → Bs → List GLic → Int → Bs → List GLic → Option Bool):RunIs (env Gr) Tryz.f19 an (conG (body Gr)):=fun x=>by kernel_rfl
theorem okB [Fuel] (Gr:Int → Bs → List GLic → Int → Bs → List GLic → Option Bool) (hG:ConOK Tryz.prog (conG Gr)):ConOK Tryz.prog (conG (body Gr)):=run_ok (E:=(env Gr)) (run Gr) mixed Tryz.func19 (by kernel_rfl) (cons_cons hG (cons_nil))
theorem okN [Fuel]:∀ n,ConOK Tryz.prog (conG (rec n))
 | 0=>⟨by kernel_rfl,fun x r h=>by have h2:(none:Option (Tup ladingref13_Same.qs)) = some r:=h; cases h2⟩
 | n + 1=>okB (rec n) (okN n)
theorem ok [Fuel]:ConOK Tryz.prog con:=okN _
end ladingref13_Same
namespace ladingref13_has
noncomputable def con [Fuel]:Con:=⟨66,[(aD lsT),.c (.v (.d .str))],[],[],[lsT,.str],.one (.v (.d .bool)),[],[.bool],fun x=>ladingref13_has x.1 x.2⟩
noncomputable def env [Fuel]:Env:=⟨Tryz.prog,[],[],[],[],[],[],[],[],[],[],[]⟩
noncomputable def an:An := .seq .no (.seq (.seq .no (.one (.loop ⟨[(5,(aD iT))],[],[iT]⟩ [0,1] [] (.seq (.seq .no (.cond .no .no)) (.seq (.one (.seq .no (.cond (.seq .no .no) .no))) .no))))) (.seq .no .no))
theorem run [Fuel]:RunIs env Tryz.f66 an con:=fun x=>by kernel_rfl
theorem ok [Fuel]:ConOK Tryz.prog con:=run_ok (E:=env) run mixed Tryz.func66 (by kernel_rfl) (cons_nil)
end ladingref13_has
noncomputable abbrev ladingref13_permits.ps:List Ty:=[iT,.str,(.sl GLicT),lsT]
noncomputable abbrev ladingref13_permits.qs:List Ty:=[.bool]
noncomputable def ladingref13_permits.conG [Fuel] (Gr:Int → Bs → List GLic → List Bs → Option Bool):Con:=⟨43,[.c (.g [.d iT,.d .str,.d (.sl GLicT)]),(aD lsT)],[],[],ladingref13_permits.ps,.one (.v (.d .bool)),[],ladingref13_permits.qs,fun x=>Gr x.1 x.2.1 x.2.2.1 x.2.2.2⟩
namespace ladingref13_permits
noncomputable def con [Fuel]:Con:=conG (rec Fuel.n)
noncomputable def env [Fuel] (Gr:Int → Bs → List GLic → List Bs → Option Bool):Env:=⟨Tryz.prog,[],[ladingref13_has.con,(ladingref13_permits.conG Gr)],[(13,0),(27,1)],[],[],[],[],[],[],[],[]⟩
noncomputable def an:An := .seq .no (.seq (.seq .no (.cond (.seq .no .no) .no)) (.seq (.seq .no (.one (.loop ⟨[(5,(aD iT))],[],[iT]⟩ [1,2] [2] (.seq (.seq .no (.cond .no .no)) (.seq (.one (.seq .no (.seq .no (.cond (.seq .no .no) .no)))) .no))))) (.seq .no .no)))
theorem run [Fuel] (Gr:Int → Bs → List GLic → List Bs → Option Bool):RunIs (env Gr) Tryz.f43 an (conG (body Gr)):=fun x=>by kernel_rfl
theorem okB [Fuel] (Gr:Int → Bs → List GLic → List Bs → Option Bool) (hG:ConOK Tryz.prog (conG Gr)):ConOK Tryz.prog (conG (body Gr)):=run_ok (E:=(env Gr)) (run Gr) mixed Tryz.func43 (by kernel_rfl) (cons_cons ladingref13_has.ok (cons_cons hG (cons_nil)))
theorem okN [Fuel]:∀ n,ConOK Tryz.prog (conG (rec n))
 | 0=>⟨by kernel_rfl,fun x r h=>by have h2:(none:Option (Tup ladingref13_permits.qs)) = some r:=h; cases h2⟩
 | n + 1=>okB (rec n) (okN n)
theorem ok [Fuel]:ConOK Tryz.prog con:=okN _
end ladingref13_permits
namespace ladingref13_Permits
noncomputable def con [Fuel]:Con:=⟨21,[.c (.g [.d iT,.d .str,.d (.sl GLicT)]),(aD lsT)],[],[],[iT,.str,(.sl GLicT),lsT],.one (.v (.d .bool)),[],[.bool],fun x=>ladingref13_Permits x.1 x.2.1 x.2.2.1 x.2.2.2⟩
noncomputable def env [Fuel]:Env:=⟨Tryz.prog,[],[ladingref13_Right.con,ladingref13_permits.con],[(7,0),(12,1)],[],[],[],[],[],[],[],[]⟩
noncomputable def an:An := .seq .no (.seq .no (.seq .no .no))
theorem run [Fuel]:RunIs env Tryz.f21 an con:=fun x=>by kernel_rfl
theorem ok [Fuel]:ConOK Tryz.prog con:=run_ok (E:=env) run mixed Tryz.func21 (by kernel_rfl) (cons_cons ladingref13_Right.ok (cons_cons ladingref13_permits.ok (cons_nil)))
end ladingref13_Permits
namespace ladingref13_within
noncomputable def con [Fuel]:Con:=⟨99,[(aD lsT),(aD lsT)],[],[],[lsT,lsT],.one (.v (.d .bool)),[],[.bool],fun x=>ladingref13_within x.1 x.2⟩
noncomputable def env [Fuel]:Env:=⟨Tryz.prog,[],[ladingref13_has.con],[(17,0)],[],[],[],[],[],[],[],[]⟩
noncomputable def an:An := .seq .no (.seq (.seq .no (.one (.loop ⟨[(5,(aD iT))],[],[iT]⟩ [0,1] [] (.seq (.seq .no (.cond .no .no)) (.seq (.one (.seq .no (.cond (.seq .no .no) .no))) .no))))) (.seq .no .no))
theorem run [Fuel]:RunIs env Tryz.f99 an con:=fun x=>by kernel_rfl
theorem ok [Fuel]:ConOK Tryz.prog con:=run_ok (E:=env) run mixed Tryz.func99 (by kernel_rfl) (cons_cons ladingref13_has.ok (cons_nil))
end ladingref13_within
namespace ladingref13_before
noncomputable def con [Fuel]:Con:=⟨100,[(aD lsT),(aD lsT)],[],[],[lsT,lsT],.one (.v (.d .bool)),[],[.bool],fun x=>ladingref13_before x.1 x.2⟩
noncomputable def env [Fuel]:Env:=⟨Tryz.prog,[],[],[],[],[],[],[],[24,25,28,29,33,34,37,38],[],[],[]⟩
noncomputable def an:An := .seq .no (.seq (.seq .no (.cond (.seq .no .no) .no)) (.seq (.seq .no (.one (.loop ⟨[(5,(aD iT))],[],[iT]⟩ [0,1] [] (.seq (.seq .no (.cond .no .no)) (.seq (.one (.seq .no (.cond (.seq .no .no) .no))) .no))))) (.seq .no .no)))
theorem run [Fuel]:RunIs env Tryz.f100 an con:=fun x=>by kernel_rfl
theorem ok [Fuel]:ConOK Tryz.prog con:=run_ok (E:=env) run mixed Tryz.func100 (by kernel_rfl) (cons_nil)
end ladingref13_before
namespace ladingref13_add
noncomputable def con [Fuel]:Con:=⟨67,[.c (.v (.d (.sl lsT))),(aD lsT)],[],[],[(.sl lsT),lsT],.one (.v (.d (.sl lsT))),[],[(.sl lsT)],fun x=>ladingref13_add x.1 x.2⟩
noncomputable def env [Fuel]:Env:=⟨Tryz.prog,[(31,lsT)],[ladingref13_within.con,ladingref13_before.con],[(19,0),(26,0),(35,1)],[13,1000000],[],[],[39,46,52],[],[],[],[]⟩
noncomputable def an:An := .seq .no (.seq .no (.seq .no (.join ⟨[(5,.c (.v (.own 500003))),(6,.c (.v (.d .bool)))],[(500003,.arr 27 lsT)],[.bool,(.sl lsT)]⟩ [1] [] false (.seq .no (.one (.loop ⟨[(5,.c (.v (.own 500005))),(6,.c (.v (.d .bool))),(7,(aD iT))],[(500005,.arr 27 lsT)],[.bool,iT,(.sl lsT)]⟩ [0,1] [] (.seq (.seq .no (.cond .no .no)) (.seq (.one (.seq (.seq .no (.cond (.seq .no .no) .no)) (.seq (.seq .no (.cond .no .no)) (.seq (.join ⟨[(36,.c (.v (.d .bool)))],[],[.bool]⟩ [0,1,5,6,7] [500005] true .no (.cond (.seq .no .no) .no)) .no)))) .no))))) (.seq (.seq .no (.cond .no .no)) (.seq .no .no)))))
theorem run [Fuel]:RunIs env Tryz.f67 an con:=fun x=>by kernel_rfl
theorem ok [Fuel]:ConOK Tryz.prog con:=run_ok (E:=env) run mixed Tryz.func67 (by kernel_rfl) (cons_cons ladingref13_within.ok (cons_cons ladingref13_before.ok (cons_nil)))
end ladingref13_add
namespace ladingref13_put
noncomputable def con [Fuel]:Con:=⟨71,[(aD lsT),.c (.v (.d .str))],[],[],[lsT,.str],.one (.v (.d lsT)),[],[lsT],fun x=>ladingref13_put x.1 x.2⟩
noncomputable def env [Fuel]:Env:=⟨Tryz.prog,[(27,.str)],[],[],[6,1000000],[],[],[24,30],[],[],[],[]⟩
noncomputable def an:An := .seq .no (.seq .no (.seq .no (.join ⟨[(5,.c (.v (.own 500003))),(6,(aD iT))],[(500003,.arr 9 .str)],[iT,lsT]⟩ [0,1] [] true (.one (.loop ⟨[(5,.c (.v (.own 500005))),(6,(aD iT))],[(500005,.arr 9 .str)],[iT,lsT]⟩ [0,1] [] (.seq (.join ⟨[(18,.c (.v (.d .bool)))],[],[.bool]⟩ [0,1,5,6] [500005] true .no (.cond .no .no)) (.one (.seq .no .no))))) (.seq .no (.seq (.join ⟨[(43,.c (.v (.d .bool)))],[],[.bool]⟩ [0,5,6] [31] true .no (.cond .no .no)) (.seq .no .no))))))
theorem run [Fuel]:RunIs env Tryz.f71 an con:=fun x=>by kernel_rfl
theorem ok [Fuel]:ConOK Tryz.prog con:=run_ok (E:=env) run mixed Tryz.func71 (by kernel_rfl) (cons_nil)
end ladingref13_put
namespace ladingref13_union
noncomputable def con [Fuel]:Con:=⟨68,[(aD lsT),(aD lsT)],[],[],[lsT,lsT],.one (.v (.d lsT)),[],[lsT],fun x=>ladingref13_union x.1 x.2⟩
noncomputable def env [Fuel]:Env:=⟨Tryz.prog,[(27,.str)],[ladingref13_put.con],[(21,0)],[],[],[],[],[],[],[],[]⟩
noncomputable def an:An := .seq .no (.seq .no (.seq (.seq .no (.one (.loop ⟨[(5,(aD lsT)),(6,(aD iT))],[],[lsT,iT]⟩ [1] [] (.seq (.seq .no (.cond .no .no)) (.seq (.one .no) .no))))) (.seq .no .no)))
theorem run [Fuel]:RunIs env Tryz.f68 an con:=fun x=>by kernel_rfl
theorem ok [Fuel]:ConOK Tryz.prog con:=run_ok (E:=env) run mixed Tryz.func68 (by kernel_rfl) (cons_cons ladingref13_put.ok (cons_nil))
end ladingref13_union
noncomputable abbrev ladingref13_normal.ps:List Ty:=[iT,.str,(.sl GLicT)]
noncomputable abbrev ladingref13_normal.qs:List Ty:=[(.sl lsT)]
noncomputable def ladingref13_normal.conG [Fuel] (Gr:Int → Bs → List GLic → Option (List (List Bs))):Con:=⟨44,[.c (.g [.d iT,.d .str,.d (.sl GLicT)])],[],[],ladingref13_normal.ps,.one (.v (.d (.sl lsT))),[],ladingref13_normal.qs,fun x=>Gr x.1 x.2.1 x.2.2⟩
namespace ladingref13_normal
noncomputable def con [Fuel]:Con:=conG (rec Fuel.n)
noncomputable def env [Fuel] (Gr:Int → Bs → List GLic → Option (List (List Bs))):Env:=⟨Tryz.prog,[(27,.str),(31,lsT)],[(ladingref13_normal.conG Gr),ladingref13_add.con,ladingref13_union.con],[(29,0),(48,1),(70,2),(71,1)],[13,1000000],[],[],[15,16],[64,65,68,69],[],[],[]⟩
noncomputable def an:An := .seq .no (.seq (.seq .no (.cond (.seq .no .no) .no)) (.seq .no (.seq (.seq .no (.one (.loop ⟨[(3,.c (.v (.d (.sl lsT)))),(4,(aD iT))],[],[(.sl lsT),iT]⟩ [1] [1] (.seq (.seq .no (.cond .no .no)) (.seq (.one (.seq .no (.join ⟨[(3,.c (.v (.d (.sl lsT))))],[],[(.sl lsT)]⟩ [1,4,5] [1] false (.join ⟨[(36,.c (.v (.d .bool)))],[],[.bool]⟩ [1,3,4,5] [1] true .no (.cond (.seq (.seq .no (.one (.loop ⟨[(3,.c (.v (.d (.sl lsT)))),(6,(aD iT))],[],[(.sl lsT),iT]⟩ [1,4,5] [1] (.seq (.seq .no (.cond .no .no)) (.seq (.one .no) .no))))) .no) .no)) (.seq .no (.seq (.seq .no (.one (.loop ⟨[(7,.c (.v (.d (.sl lsT)))),(8,(aD iT))],[],[(.sl lsT),iT]⟩ [1,3,4,5] [1] (.seq (.seq .no (.cond .no .no)) (.seq (.one (.seq .no (.one (.loop ⟨[(7,.c (.v (.d (.sl lsT)))),(9,(aD iT))],[],[(.sl lsT),iT]⟩ [1,3,4,5,8] [1] (.seq (.seq .no (.cond .no .no)) (.seq (.one .no) .no)))))) .no))))) .no))))) .no))))) (.seq .no .no))))
theorem run [Fuel] (Gr:Int → Bs → List GLic → Option (List (List Bs))):RunIs (env Gr) Tryz.f44 an (conG (body Gr)):=fun x=>by kernel_rfl
theorem okB [Fuel] (Gr:Int → Bs → List GLic → Option (List (List Bs))) (hG:ConOK Tryz.prog (conG Gr)):ConOK Tryz.prog (conG (body Gr)):=run_ok (E:=(env Gr)) (run Gr) mixed Tryz.func44 (by kernel_rfl) (cons_cons hG (cons_cons ladingref13_add.ok (cons_cons ladingref13_union.ok (cons_nil))))
theorem okN [Fuel]:∀ n,ConOK Tryz.prog (conG (rec n))
 | 0=>⟨by kernel_rfl,fun x r h=>by have h2:(none:Option (Tup ladingref13_normal.qs)) = some r:=h; cases h2⟩
 | n + 1=>okB (rec n) (okN n)
theorem ok [Fuel]:ConOK Tryz.prog con:=okN _
end ladingref13_normal
namespace ladingref13_Normal
noncomputable def con [Fuel]:Con:=⟨22,[.c (.g [.d iT,.d .str,.d (.sl GLicT)])],[],[],[iT,.str,(.sl GLicT)],.tup [.v (.d (.sl lsT)),.v (.d iT)],[],[(.sl lsT),iT],fun x=>ladingref13_Normal x.1 x.2.1 x.2.2⟩
noncomputable def env [Fuel]:Env:=⟨Tryz.prog,[],[ladingref13_Right.con,ladingref13_normal.con],[(5,0),(8,1)],[],[],[],[],[],[],[],[]⟩
noncomputable def an:An := .seq .no (.seq (.seq .no (.cond (.seq .no .no) .no)) (.seq .no .no))
theorem run [Fuel]:RunIs env Tryz.f22 an con:=fun x=>by kernel_rfl
theorem ok [Fuel]:ConOK Tryz.prog con:=run_ok (E:=env) run mixed Tryz.func22 (by kernel_rfl) (cons_cons ladingref13_Right.ok (cons_cons ladingref13_normal.ok (cons_nil)))
end ladingref13_Normal
namespace ladingref13_Implies
noncomputable def con [Fuel]:Con:=⟨23,[.c (.g [.d iT,.d .str,.d (.sl GLicT)]),.c (.g [.d iT,.d .str,.d (.sl GLicT)])],[],[],[iT,.str,(.sl GLicT),iT,.str,(.sl GLicT)],.tup [.v (.d .bool),.v (.d lsT),.v (.d iT)],[],[.bool,lsT,iT],fun x=>ladingref13_Implies x.1 x.2.1 x.2.2.1 x.2.2.2.1 x.2.2.2.2.1 x.2.2.2.2.2⟩
noncomputable def env [Fuel]:Env:=⟨Tryz.prog,[],[ladingref13_Right.con,ladingref13_normal.con,ladingref13_permits.con],[(11,0),(15,0),(19,1),(31,2)],[1000000],[],[],[],[29,30,36,37],[26],[],[]⟩
noncomputable def an:An := .seq .no (.seq (.join ⟨[(17,.c (.v (.d .bool)))],[],[.bool]⟩ [2,3] [2,3] true .no (.cond (.seq .no .no) .no)) (.seq .no (.seq (.seq .no (.one (.loop ⟨[(8,(aD iT))],[],[iT]⟩ [3,7] [3] (.seq (.seq .no (.cond .no .no)) (.seq (.one (.seq .no (.seq .no (.cond (.seq .no .no) .no)))) .no))))) (.seq .no .no))))
theorem run [Fuel]:RunIs env Tryz.f23 an con:=fun x=>by kernel_rfl
theorem ok [Fuel]:ConOK Tryz.prog con:=run_ok (E:=env) run mixed Tryz.func23 (by kernel_rfl) (cons_cons ladingref13_Right.ok (cons_cons ladingref13_normal.ok (cons_cons ladingref13_permits.ok (cons_nil))))
end ladingref13_Implies
noncomputable abbrev licence_Names_1_v2.ps:List Ty:=[iT,.str,(.sl GLicT),lsT]
noncomputable abbrev licence_Names_1_v2.qs:List Ty:=[lsT]
noncomputable def licence_Names_1_v2.conG [Fuel] (Gr:Int → Bs → List GLic → List Bs → Option (List Bs)):Con:=⟨45,[.c (.g [.d iT,.d .str,.d (.sl GLicT)]),.c (.v (.loc 1000000 0)),.c (.v (.loc 1000002 0))],[],[(1000000,.box 27 [.own 1000001]),(1000002,.box 69 [.fn 90 [1000000,1000002]]),(1000001,.arr 9 .str)],licence_Names_1_v2.ps,.tup [],[(1000000,.box 27 [.own 0]),(1000002,.box 69 [.fn 90 [1000000,1000002]]),(0,.arr 9 .str),(1000001,.gone)],licence_Names_1_v2.qs,fun x=>Gr x.1 x.2.1 x.2.2.1 x.2.2.2⟩
namespace licence_Names_1_v2
noncomputable def con [Fuel]:Con:=conG (rec Fuel.n)
noncomputable def env [Fuel] (Gr:Int → Bs → List GLic → List Bs → Option (List Bs)):Env:=⟨Tryz.prog,[(27,.str)],[(licence_Names_1_v2.conG Gr)],[(23,0)],[3],[23],[],[12],[],[],[],[]⟩
noncomputable def an:An := .seq .no (.join ⟨[(2,.c (.v (.loc 1000002 0)))],[(1000002,.box 69 [.fn 90 [1000000,1000002]]),(1000000,.box 27 [.own 500001]),(500001,.arr 9 .str)],[lsT]⟩ [3] [3] true (.seq .no (.cond .no .no)) (.seq .no (.one (.loop ⟨[(2,.c (.v (.loc 1000002 0))),(17,(aD iT))],[(1000002,.box 69 [.fn 90 [1000000,1000002]]),(1000000,.box 27 [.own 500002]),(500002,.arr 9 .str)],[iT,lsT]⟩ [15,16] [] (.seq .no (.seq (.cond .no .no) (.seq (.one (.seq .no .no)) .no)))))))
theorem run [Fuel] (Gr:Int → Bs → List GLic → List Bs → Option (List Bs)):RunIs (env Gr) Tryz.f45 an (conG (body Gr)):=fun x=>by kernel_rfl
theorem okB [Fuel] (Gr:Int → Bs → List GLic → List Bs → Option (List Bs)) (hG:ConOK Tryz.prog (conG Gr)):ConOK Tryz.prog (conG (body Gr)):=run_ok (E:=(env Gr)) (run Gr) mixed Tryz.func45 (by kernel_rfl) (cons_cons hG (cons_nil))
theorem okN [Fuel]:∀ n,ConOK Tryz.prog (conG (rec n))
 | 0=>⟨by kernel_rfl,fun x r h=>by have h2:(none:Option (Tup licence_Names_1_v2.qs)) = some r:=h; cases h2⟩
 | n + 1=>okB (rec n) (okN n)
theorem ok [Fuel]:ConOK Tryz.prog con:=okN _
end licence_Names_1_v2
namespace licence_Names_1
noncomputable def con [Fuel]:Con:=⟨45,[.c (.g [.d iT,.d .str,.d (.sl GLicT)]),.c (.v (.loc 1000000 0)),.c (.v (.loc 1000001 0))],[],[(1000000,.box 27 [.nil]),(1000001,.box 69 [.fn 90 [1000000,1000001]])],[iT,.str,(.sl GLicT)],.tup [],[(1000000,.box 27 [.own 0]),(1000001,.box 69 [.fn 90 [1000000,1000001]]),(0,.arr 9 .str)],[lsT],fun x=>licence_Names_1 x.1 x.2.1 x.2.2⟩
noncomputable def env [Fuel]:Env:=⟨Tryz.prog,[(27,.str)],[licence_Names_1_v2.con],[(23,0)],[3],[23],[],[12],[],[],[],[]⟩
noncomputable def an:An := .seq .no (.join ⟨[(2,.c (.v (.loc 1000001 0)))],[(1000001,.box 69 [.fn 90 [1000000,1000001]]),(1000000,.box 27 [.own 500001]),(500001,.arr 9 .str)],[lsT]⟩ [3] [3] true (.seq .no (.cond .no .no)) (.seq .no (.one (.loop ⟨[(2,.c (.v (.loc 1000001 0))),(17,(aD iT))],[(1000001,.box 69 [.fn 90 [1000000,1000001]]),(1000000,.box 27 [.own 500002]),(500002,.arr 9 .str)],[iT,lsT]⟩ [15,16] [] (.seq .no (.seq (.cond .no .no) (.seq (.one (.seq .no .no)) .no)))))))
theorem run [Fuel]:RunIs env Tryz.f45 an con:=fun x=>by kernel_rfl
theorem ok [Fuel]:ConOK Tryz.prog con:=run_ok (E:=env) run mixed Tryz.func45 (by kernel_rfl) (cons_cons licence_Names_1_v2.ok (cons_nil))
end licence_Names_1
namespace licence_Names
noncomputable def con [Fuel]:Con:=⟨25,[.c (.g [.d iT,.d .str,.d (.sl GLicT)])],[],[],[iT,.str,(.sl GLicT)],.one (.v (.d lsT)),[],[lsT],fun x=>licence_Names x.1 x.2.1 x.2.2⟩
noncomputable def env [Fuel]:Env:=⟨Tryz.prog,[],[licence_Right.con,licence_Names_1.con,slices_Sort_string.con,slices_Compact_string.con],[(6,0),(11,1),(13,2),(15,3)],[],[11,13,15],[],[],[],[],[],[]⟩
noncomputable def an:An := .seq .no (.seq (.seq .no (.cond (.seq .no .no) .no)) (.seq .no (.seq .no (.seq .no (.seq .no (.seq .no (.seq .no .no)))))))
theorem run [Fuel]:RunIs env Tryz.f25 an con:=fun x=>by kernel_rfl
theorem ok [Fuel]:ConOK Tryz.prog con:=run_ok (E:=env) run mixed Tryz.func25 (by kernel_rfl) (cons_cons licence_Right.ok (cons_cons licence_Names_1.ok (cons_cons slices_Sort_string.ok (cons_cons slices_Compact_string.ok (cons_nil)))))
end licence_Names
noncomputable abbrev ladingref13_names.ps:List Ty:=[iT,.str,(.sl GLicT)]
noncomputable abbrev ladingref13_names.qs:List Ty:=[lsT]
noncomputable def ladingref13_names.conG [Fuel] (Gr:Int → Bs → List GLic → Option (List Bs)):Con:=⟨48,[.c (.g [.d iT,.d .str,.d (.sl GLicT)])],[],[],ladingref13_names.ps,.one (.v (.d lsT)),[],ladingref13_names.qs,fun x=>Gr x.1 x.2.1 x.2.2⟩
namespace ladingref13_names
noncomputable def con [Fuel]:Con:=conG (rec Fuel.n)
noncomputable def env [Fuel] (Gr:Int → Bs → List GLic → Option (List Bs)):Env:=⟨Tryz.prog,[(27,.str)],[(ladingref13_names.conG Gr),ladingref13_put.con],[(25,0),(37,1)],[],[],[],[12],[],[],[],[]⟩
noncomputable def an:An := .seq .no (.seq (.seq .no (.cond (.seq .no .no) .no)) (.seq .no (.seq (.seq .no (.one (.loop ⟨[(3,(aD lsT)),(4,(aD iT))],[],[lsT,iT]⟩ [1] [1] (.seq (.seq .no (.cond .no .no)) (.seq (.one (.seq .no (.seq .no (.one (.loop ⟨[(3,(aD lsT)),(6,(aD iT))],[],[lsT,iT]⟩ [1,4,5] [1] (.seq (.seq .no (.cond .no .no)) (.seq (.one .no) .no))))))) .no))))) (.seq .no .no))))
theorem run [Fuel] (Gr:Int → Bs → List GLic → Option (List Bs)):RunIs (env Gr) Tryz.f48 an (conG (body Gr)):=fun x=>by kernel_rfl
theorem okB [Fuel] (Gr:Int → Bs → List GLic → Option (List Bs)) (hG:ConOK Tryz.prog (conG Gr)):ConOK Tryz.prog (conG (body Gr)):=run_ok (E:=(env Gr)) (run Gr) mixed Tryz.func48 (by kernel_rfl) (cons_cons hG (cons_cons ladingref13_put.ok (cons_nil)))
theorem okN [Fuel]:∀ n,ConOK Tryz.prog (conG (rec n))
 | 0=>⟨by kernel_rfl,fun x r h=>by have h2:(none:Option (Tup ladingref13_names.qs)) = some r:=h; cases h2⟩
 | n + 1=>okB (rec n) (okN n)
theorem ok [Fuel]:ConOK Tryz.prog con:=okN _
end ladingref13_names
namespace ladingref13_Names
noncomputable def con [Fuel]:Con:=⟨26,[.c (.g [.d iT,.d .str,.d (.sl GLicT)])],[],[],[iT,.str,(.sl GLicT)],.one (.v (.d lsT)),[],[lsT],fun x=>ladingref13_Names x.1 x.2.1 x.2.2⟩
noncomputable def env [Fuel]:Env:=⟨Tryz.prog,[],[ladingref13_Right.con,ladingref13_names.con],[(4,0),(7,1)],[],[],[],[],[],[],[],[]⟩
noncomputable def an:An := .seq .no (.seq (.seq .no (.cond (.seq .no .no) .no)) (.seq .no .no))
theorem run [Fuel]:RunIs env Tryz.f26 an con:=fun x=>by kernel_rfl
theorem ok [Fuel]:ConOK Tryz.prog con:=run_ok (E:=env) run mixed Tryz.func26 (by kernel_rfl) (cons_cons ladingref13_Right.ok (cons_cons ladingref13_names.ok (cons_nil)))
end ladingref13_Names
namespace ladinglaw13_LicenceTells
noncomputable def con [Fuel]:Con:=⟨4,[.c (.a GLicT),.c (.a GLicT),.c (.v (.d .str)),(aD lsT)],[],[],[GLicT,GLicT,.str,lsT],.one (.v (.d .bool)),[],[.bool],fun x=>ladinglaw13_LicenceTells x.1 x.2.1 x.2.2.1 x.2.2.2⟩
noncomputable def env [Fuel]:Env:=⟨Tryz.prog,[],[ladinglaw13_small.con,ladinglaw13_light.con,ladinglaw13_short.con,licence_Parse.con,ladingref13_Parse.con,licence_Print.con,ladingref13_Print.con,ladingref13_Same.con,licence_Right.con,ladingref13_Right.con,licence_Permits.con,ladingref13_Permits.con,licence_Normal.con,ladingref13_Normal.con,licence_Implies.con,ladingref13_Implies.con,ladingref13_SameSets.con,ladingref13_SameNames.con,licence_Names.con,ladingref13_Names.con],[(28,0),(30,1),(34,1),(44,2),(50,3),(55,4),(60,5),(65,6),(74,7),(89,8),(91,9),(97,10),(100,11),(105,12),(110,13),(116,14),(123,15),(136,16),(151,17),(155,18),(157,19),(158,17)],[1000000],[],[],[],[],[72,73,88,90,95,98,154,156],[],[]⟩
noncomputable def an:An := .seq .no (.seq .no (.seq (.join ⟨[(46,.c (.v (.d .bool)))],[],[.bool]⟩ [2,3,4,5,9] [4,5] true .no (.cond (.seq .no .no) .no)) (.seq .no (.seq .no (.seq .no (.seq .no (.seq (.join ⟨[(102,.c (.v (.d .bool)))],[],[.bool]⟩ [4,5,9] [4,5] true .no (.cond (.seq .no .no) .no)) (.seq .no (.seq .no (.seq .no (.seq .no (.seq .no .no))))))))))))
theorem run [Fuel]:RunIs env Tryz.f4 an con:=fun x=>by kernel_rfl
theorem ok [Fuel]:ConOK Tryz.prog con:=run_ok (E:=env) run mixed Tryz.func4 (by kernel_rfl) (cons_cons ladinglaw13_small.ok (cons_cons ladinglaw13_light.ok (cons_cons ladinglaw13_short.ok (cons_cons licence_Parse.ok (cons_cons ladingref13_Parse.ok (cons_cons licence_Print.ok (cons_cons ladingref13_Print.ok (cons_cons ladingref13_Same.ok (cons_cons licence_Right.ok (cons_cons ladingref13_Right.ok (cons_cons licence_Permits.ok (cons_cons ladingref13_Permits.ok (cons_cons licence_Normal.ok (cons_cons ladingref13_Normal.ok (cons_cons licence_Implies.ok (cons_cons ladingref13_Implies.ok (cons_cons ladingref13_SameSets.ok (cons_cons ladingref13_SameNames.ok (cons_cons licence_Names.ok (cons_cons ladingref13_Names.ok (cons_nil)))))))))))))))))))))
end ladinglaw13_LicenceTells
namespace ladingref13_Same_v2
noncomputable def con [Fuel]:Con:=⟨19,[.c (.g [.d iT,.d .str,.d (.sl GLicT)]),.c (.a GLicT)],[],[],[iT,.str,(.sl GLicT),GLicT],.one (.v (.d .bool)),[],[.bool],fun x=>ladingref13_Same_v2 x.1 x.2.1 x.2.2.1 x.2.2.2⟩
noncomputable def env [Fuel]:Env:=⟨Tryz.prog,[],[ladingref13_Same.con],[(45,0)],[1000000],[],[],[],[38,39,43,44],[36,41],[],[]⟩
noncomputable def an:An := .seq .no (.seq (.join ⟨[(27,.c (.v (.d .bool)))],[],[.bool]⟩ [2,3] [2,3] true .no (.cond (.seq .no .no) .no)) (.seq (.seq .no (.one (.loop ⟨[(5,(aD iT))],[],[iT]⟩ [2,3] [2,3] (.seq (.seq .no (.cond .no .no)) (.seq (.one (.seq .no (.seq .no (.cond (.seq .no .no) .no)))) .no))))) (.seq .no .no)))
theorem run [Fuel]:RunIs env Tryz.f19 an con:=fun x=>by kernel_rfl
theorem ok [Fuel]:ConOK Tryz.prog con:=run_ok (E:=env) run mixed Tryz.func19 (by kernel_rfl) (cons_cons ladingref13_Same.ok (cons_nil))
end ladingref13_Same_v2
namespace ladinglaw13_LicenceBack
noncomputable def con [Fuel]:Con:=⟨5,[.c (.a GLicT),.c (.v (.d .str))],[],[],[GLicT,.str],.one (.v (.d .bool)),[],[.bool],fun x=>ladinglaw13_LicenceBack x.1 x.2⟩
noncomputable def env [Fuel]:Env:=⟨Tryz.prog,[],[ladinglaw13_small.con,ladinglaw13_light.con,licence_Print.con,licence_Right.con,licence_Parse.con,ladingref13_Same.con,ladingref13_Same_v2.con,licence_Names.con],[(16,0),(18,1),(28,2),(34,3),(52,4),(60,5),(65,4),(82,6),(86,2),(91,4),(97,3),(110,5),(114,7)],[11,1000000],[],[],[],[],[],[],[]⟩
noncomputable def an:An := .seq .no (.seq .no (.seq (.join ⟨[(24,.c (.v (.d .bool)))],[],[.bool]⟩ [1,2,5] [2] true .no (.cond (.seq .no .no) .no)) (.seq .no (.seq (.join ⟨[(47,.c (.v (.d .bool)))],[],[.bool]⟩ [1,2,5,6,7] [2] true .no (.cond (.seq .no .no) .no)) (.join ⟨[],[],[]⟩ [1,5] [] false (.seq .no (.cond (.seq .no (.join ⟨[(62,.c (.v (.d .bool)))],[],[.bool]⟩ [1,5] [] true .no (.cond (.seq .no .no) .no))) .no)) (.seq .no (.seq (.seq .no (.cond (.seq .no .no) .no)) (.seq .no (.seq .no (.seq .no .no))))))))))
theorem run [Fuel]:RunIs env Tryz.f5 an con:=fun x=>by kernel_rfl
theorem ok [Fuel]:ConOK Tryz.prog con:=run_ok (E:=env) run mixed Tryz.func5 (by kernel_rfl) (cons_cons ladinglaw13_small.ok (cons_cons ladinglaw13_light.ok (cons_cons licence_Print.ok (cons_cons licence_Right.ok (cons_cons licence_Parse.ok (cons_cons ladingref13_Same.ok (cons_cons ladingref13_Same_v2.ok (cons_cons licence_Names.ok (cons_nil)))))))))
end ladinglaw13_LicenceBack
namespace ladinglaw13_holds
noncomputable def con [Fuel]:Con:=⟨27,[(aD lsT),(aD lsT)],[],[],[lsT,lsT],.one (.v (.d .bool)),[],[.bool],fun x=>ladinglaw13_holds x.1 x.2⟩
noncomputable def env [Fuel]:Env:=⟨Tryz.prog,[],[],[],[9],[],[],[],[24,25,28,29],[],[],[]⟩
noncomputable def an:An := .seq .no (.seq (.seq .no (.one (.loop ⟨[(5,(aD iT))],[],[iT]⟩ [0,1] [] (.seq (.seq .no (.cond .no .no)) (.seq (.one (.seq .no (.join ⟨[(6,.c (.v (.d .bool)))],[],[.bool]⟩ [0,1,5] [] true (.seq .no (.one (.loop ⟨[(6,.c (.v (.d .bool))),(7,(aD iT))],[],[.bool,iT]⟩ [0,1,5] [] (.seq (.seq .no (.cond .no .no)) (.seq (.one .no) .no))))) (.seq .no (.cond (.seq .no .no) .no))))) .no))))) (.seq .no .no))
theorem run [Fuel]:RunIs env Tryz.f27 an con:=fun x=>by kernel_rfl
theorem ok [Fuel]:ConOK Tryz.prog con:=run_ok (E:=env) run mixed Tryz.func27 (by kernel_rfl) (cons_nil)
end ladinglaw13_holds
namespace ladinglaw13_picked
noncomputable def con [Fuel]:Con:=⟨28,[(aD lsT),(aD iT)],[],[],[lsT,iT],.one (.v (.d lsT)),[],[lsT],fun x=>ladinglaw13_picked x.1 x.2⟩
noncomputable def env [Fuel]:Env:=⟨Tryz.prog,[(27,.str)],[],[],[],[],[],[24],[],[],[],[]⟩
noncomputable def an:An := .seq .no (.seq .no (.seq (.seq .no (.one (.loop ⟨[(5,.c (.v (.own 500002))),(6,(aD iT))],[(500002,.arr 9 .str)],[iT,lsT]⟩ [0,1] [] (.seq (.seq .no (.cond .no .no)) (.seq (.one (.seq .no (.cond .no .no))) .no))))) (.seq .no .no)))
theorem run [Fuel]:RunIs env Tryz.f28 an con:=fun x=>by kernel_rfl
theorem ok [Fuel]:ConOK Tryz.prog con:=run_ok (E:=env) run mixed Tryz.func28 (by kernel_rfl) (cons_nil)
end ladinglaw13_picked
namespace ladinglaw13_LicenceNormal
noncomputable def con [Fuel]:Con:=⟨6,[.c (.a GLicT),(aD lsT)],[],[],[GLicT,lsT],.one (.v (.d .bool)),[],[.bool],fun x=>ladinglaw13_LicenceNormal x.1 x.2⟩
noncomputable def env [Fuel]:Env:=⟨Tryz.prog,[(27,.str)],[ladinglaw13_small.con,ladinglaw13_light.con,licence_Right.con,ladinglaw13_short.con,licence_Names.con,licence_Normal.con,ladinglaw13_holds.con,ladinglaw13_picked.con,licence_Permits.con],[(16,0),(18,1),(22,2),(27,3),(32,4),(35,5),(73,6),(80,6),(92,7),(106,6),(110,8),(123,8)],[18,20,29,1000000],[],[],[],[67,68,71,72],[117],[],[]⟩
noncomputable def an:An := .seq .no (.seq .no (.seq (.join ⟨[(29,.c (.v (.d .bool)))],[],[.bool]⟩ [1,2,5] [2] true .no (.cond (.seq .no .no) .no)) (.seq .no (.seq .no (.seq (.seq .no (.cond (.seq .no .no) .no)) (.seq (.join ⟨[(48,.c (.v (.d .bool)))],[],[.bool]⟩ [1,2,5,6,7] [2] true .no (.cond (.seq .no .no) .no)) (.join ⟨[],[],[]⟩ [1,2,5,6,7] [2] false (.seq .no (.one (.loop ⟨[(9,(aD iT))],[],[iT]⟩ [1,2,5,6,7] [2] (.seq (.seq .no (.cond .no .no)) (.seq (.one (.join ⟨[],[],[]⟩ [1,2,5,6,7,9] [2] false (.seq .no (.one (.loop ⟨[(10,(aD iT))],[],[iT]⟩ [1,2,5,6,7,9] [2] (.seq (.seq .no (.cond .no .no)) (.seq (.one (.join ⟨[(74,.c (.v (.d .bool)))],[],[.bool]⟩ [1,2,5,6,7,9,10] [2] true .no (.cond (.seq .no .no) .no))) .no))))) (.seq .no (.cond (.seq .no .no) .no)))) .no))))) (.seq (.seq .no (.one (.loop ⟨[(11,(aD iT))],[],[iT]⟩ [1,2,5,6,7] [2] (.seq (.seq .no (.cond .no .no)) (.seq (.one (.seq .no (.seq .no (.join ⟨[(13,.c (.v (.d .bool)))],[],[.bool]⟩ [1,2,5,6,7,11,12] [2] true (.seq .no (.one (.loop ⟨[(13,.c (.v (.d .bool))),(14,(aD iT))],[],[.bool,iT]⟩ [1,2,5,6,7,11,12] [2] (.seq (.seq .no (.cond .no .no)) (.seq (.one .no) .no))))) (.seq .no (.join ⟨[(126,.c (.v (.d .bool)))],[],[.bool]⟩ [1,2,5,6,7,11] [2] true .no (.cond (.seq .no .no) .no))))))) .no))))) (.seq .no .no)))))))))
theorem run [Fuel]:RunIs env Tryz.f6 an con:=fun x=>by kernel_rfl
theorem ok [Fuel]:ConOK Tryz.prog con:=run_ok (E:=env) run mixed Tryz.func6 (by kernel_rfl) (cons_cons ladinglaw13_small.ok (cons_cons ladinglaw13_light.ok (cons_cons licence_Right.ok (cons_cons ladinglaw13_short.ok (cons_cons licence_Names.ok (cons_cons licence_Normal.ok (cons_cons ladinglaw13_holds.ok (cons_cons ladinglaw13_picked.ok (cons_cons licence_Permits.ok (cons_nil))))))))))
end ladinglaw13_LicenceNormal
namespace ladinglaw13_LicenceImplies
noncomputable def con [Fuel]:Con:=⟨3,[.c (.a GLicT),.c (.a GLicT),.c (.a GLicT)],[],[],[GLicT,GLicT,GLicT],.one (.v (.d .bool)),[],[.bool],fun x=>ladinglaw13_LicenceImplies x.1 x.2.1 x.2.2⟩
noncomputable def env [Fuel]:Env:=⟨Tryz.prog,[(27,.str)],[ladinglaw13_small.con,ladinglaw13_light.con,licence_Right.con,licence_Implies.con,licence_Normal.con,ladingref13_SameSets.con,licence_Permits.con],[(28,0),(30,1),(34,1),(39,1),(44,2),(49,2),(54,2),(61,3),(68,3),(75,3),(82,3),(89,3),(95,4),(100,4),(142,5),(169,6),(174,6),(179,6)],[20,1000000],[],[],[],[162,167],[158],[],[]⟩
noncomputable def an:An := .seq .no (.seq .no (.seq (.join ⟨[(56,.c (.v (.d .bool)))],[],[.bool]⟩ [3,4,5,7] [3,4,5] true .no (.cond (.seq .no .no) .no)) (.seq .no (.seq .no (.seq .no (.seq .no (.seq .no (.seq .no (.seq .no (.seq (.join ⟨[(144,.c (.v (.d .bool)))],[],[.bool]⟩ [3,4,7,11,12] [3,4] true .no (.cond (.seq .no .no) .no)) (.seq (.seq .no (.cond (.seq .no .no) .no)) (.join ⟨[],[],[]⟩ [3,4,7,12] [3,4] false (.seq .no (.one (.loop ⟨[(27,(aD iT))],[],[iT]⟩ [3,4,7,12] [3,4] (.seq (.seq .no (.cond .no .no)) (.seq (.one (.seq .no (.cond (.seq .no .no) .no))) .no))))) (.seq .no .no)))))))))))))
theorem run [Fuel]:RunIs env Tryz.f3 an con:=fun x=>by kernel_rfl
theorem ok [Fuel]:ConOK Tryz.prog con:=run_ok (E:=env) run mixed Tryz.func3 (by kernel_rfl) (cons_cons ladinglaw13_small.ok (cons_cons ladinglaw13_light.ok (cons_cons licence_Right.ok (cons_cons licence_Implies.ok (cons_cons licence_Normal.ok (cons_cons ladingref13_SameSets.ok (cons_cons licence_Permits.ok (cons_nil))))))))
end ladinglaw13_LicenceImplies
end Go.Proofs.YtcmibmohdnbhgaaGreatDoor
