import Derived.Test.YtaocfjifacnokaaGreatTModel
import Derived.Test.YtaocfjifacnokaaGreatD12
import Derived.Test.YtaocfjifacnokaaGreatSh
import Derived.Test.YtaocfjifacnokaaGreatIns3
import Derived.Test.YtaocfjifacnokaaGreatIt
namespace Go.Proofs.YtaocfjifacnokaaGreat
open Go.Lad
set_option linter.unusedVariables false
set_option maxRecDepth 100000
theorem mixed:Tryz.prog.follows .mixedOrders = true:=by kernel_rfl
noncomputable abbrev iT:Ty := .int .i64
noncomputable abbrev liT:Ty := .sl iT
noncomputable abbrev M7:Ty := .sl liT
noncomputable abbrev lbT:Ty := .sl .bool
noncomputable abbrev lsT:Ty := .sl .str
noncomputable abbrev aD (t:Ty):SSh := .c (.v (.d t))
noncomputable def ck:Ty:=(.pair iT (.slu 0))
noncomputable def eG:Ty:=(.pair .str ck)
noncomputable def nU:Ty:=(.pair iT (.pair iT (.pair .str (.pair .str (.pair lsT (.slu 1))))))
noncomputable def nO:Ty:=(.pair .str (.pair .bool (.pair (.slu 0) (.pair ck (.pair iT nU)))))
noncomputable def BA:Ty:=(.pair (.slu 0) (.pair (.slu 1) (.slu 1)))
noncomputable def iJ:Ty:=(.pair .str (.pair lsT (.pair (.slu 0) (.pair (.slu 1) (.pair (.sl nO) (.pair .bool BA))))))
noncomputable def rz:Ty:=(.pair .str (.pair (.sl ck) (.pair ck iT)))
noncomputable def dP:Ty:=(.pair .str (.sl rz))
noncomputable def yd:Ty:=(.pair iJ (.sl dP))
noncomputable abbrev lF:Ty := .sl eG
noncomputable abbrev lE:Ty := .sl nU
noncomputable abbrev lU:Ty := .sl nO
noncomputable abbrev lA:Ty := .sl dP
noncomputable abbrev lY:Ty := .sl ck
noncomputable section
variable [Fuel]
namespace dm
def con:Con:=⟨25,[.c (.v (.d lF))],[],[],[lF],.one (.a ck),[],[ck],fun x=>dm x⟩
def env:Env:=⟨Tryz.prog,[],[],[],[],[],[],[],[],[],[],[]⟩
def an:An := .seq .no (.seq .no .no)
theorem run:bC env Tryz.f25 an con:=fun x=>by kernel_rfl
theorem ok:ay Tryz.prog con:=aG (E:=env) run mixed Tryz.func25 (by kernel_rfl) (ak)
end dm
namespace fp
def con:Con:=⟨110,[.c (.v (.d (.int .u8)))],[],[],[(.int .u8)],.one (.v (.d .bool)),[],[.bool],fun x=>fp x⟩
def env:Env:=⟨Tryz.prog,[],[],[],[],[],[],[],[],[],[],[]⟩
def an:An := .seq .no (.seq .no .no)
theorem run:bC env Tryz.f110 an con:=fun x=>by kernel_rfl
theorem ok:ay Tryz.prog con:=aG (E:=env) run mixed Tryz.func110 (by kernel_rfl) (ak)
end fp
namespace ig
def con:Con:=⟨113,[.c (.v (.d (.int .u8)))],[],[],[(.int .u8)],.one (.v (.d .bool)),[],[.bool],fun x=>ig x⟩
def env:Env:=⟨Tryz.prog,[],[],[],[],[],[],[],[],[],[],[]⟩
def an:An := .seq .no (.seq .no .no)
theorem run:bC env Tryz.f113 an con:=fun x=>by kernel_rfl
theorem ok:ay Tryz.prog con:=aG (E:=env) run mixed Tryz.func113 (by kernel_rfl) (ak)
end ig
namespace gE
def con:Con:=⟨112,[.c (.v (.d (.int .u8)))],[],[],[(.int .u8)],.one (.v (.d .bool)),[],[.bool],fun x=>gE x⟩
def env:Env:=⟨Tryz.prog,[],[fp.con,ig.con],[(4,0),(7,1)],[],[],[],[],[],[],[],[]⟩
def an:An := .seq .no (.seq .no .no)
theorem run:bC env Tryz.f112 an con:=fun x=>by kernel_rfl
theorem ok:ay Tryz.prog con:=aG (E:=env) run mixed Tryz.func112 (by kernel_rfl) (cons_cons fp.ok (cons_cons ig.ok (ak)))
end gE
namespace dZ
def con:Con:=⟨111,[.c (.v (.d .str)),.c (.v (.fn 224 []))],[],[],[.str],.one (.v (.d iT)),[],[iT],fun x=>dZ x⟩
def env:Env:=⟨Tryz.prog,[],[gE.con],[(15,0)],[1000000],[],[],[],[],[],[],[]⟩
def an:An := .seq .no (.seq .no (.seq (.one (.loop ⟨[(5,(aD iT))],[],[iT]⟩ [0,1] [] (.seq (.join ⟨[(16,.c (.v (.d .bool)))],[],[.bool]⟩ [0,1,5] [] true .no (.cond .no .no)) (.one .no)))) (.seq .no .no)))
theorem run:bC env Tryz.f111 an con:=fun x=>by kernel_rfl
theorem ok:ay Tryz.prog con:=aG (E:=env) run mixed Tryz.func111 (by kernel_rfl) (cons_cons gE.ok (ak))
end dZ
namespace eT
def con:Con:=⟨95,[.c (.v (.d .str))],[],[],[.str],.one (.v (.d .bool)),[],[.bool],fun x=>eT x⟩
def env:Env:=⟨Tryz.prog,[],[fp.con,dZ.con],[(8,0),(17,1)],[1000000],[],[],[],[],[],[],[]⟩
def an:An := .seq .no (.seq (.join ⟨[(15,.c (.v (.d .bool)))],[],[.bool]⟩ [0] [] true .no (.cond (.seq .no .no) .no)) (.seq .no .no))
theorem run:bC env Tryz.f95 an con:=fun x=>by kernel_rfl
theorem ok:ay Tryz.prog con:=aG (E:=env) run mixed Tryz.func95 (by kernel_rfl) (cons_cons fp.ok (cons_cons dZ.ok (ak)))
end eT
def strings_Contains.con:Con:=sU 96
omit [Fuel] in
theorem strings_Contains.ok:ay Tryz.prog strings_Contains.con:=yY (g:=0) (by kernel_rfl) rfl Go.Proofs.Tryz.strings_Contains
namespace cZ
def con:Con:=⟨67,[.c (.v (.d .str))],[],[],[.str],.one (.v (.d .bool)),[],[.bool],fun x=>cZ x⟩
def env:Env:=⟨Tryz.prog,[],[eT.con,strings_Contains.con],[(4,0),(9,1)],[],[],[],[],[],[],[],[]⟩
def an:An := .seq .no (.seq .no .no)
theorem run:bC env Tryz.f67 an con:=fun x=>by kernel_rfl
theorem ok:ay Tryz.prog con:=aG (E:=env) run mixed Tryz.func67 (by kernel_rfl) (cons_cons eT.ok (cons_cons strings_Contains.ok (ak)))
end cZ
abbrev aT.ps:List Ty:=[iT,lF,iT]
abbrev aT.qs:List Ty:=[.bool]
def aT.cr (Gr:Gr4):Con:=⟨59,[.c (.g [.d iT,.d lF]),(aD iT)],[],[],aT.ps,.one (.v (.d .bool)),[],aT.qs,fun x=>Gr x.1 x.2.1 x.2.2⟩
namespace aT
def con:Con:=cr (rec Fuel.n)
def env (Gr:Gr4):Env:=⟨Tryz.prog,[],[cZ.con,(aT.cr Gr)],[(46,0),(69,1)],[1000000],[],[],[],[58,60],[45,53,55,66],[],[]⟩
def an:An := .seq .no (.seq (.join ⟨[(35,.c (.v (.d .bool)))],[],[.bool]⟩ [1,2] [2] true .no (.cond (.seq .no .no) .no)) (.seq (.seq .no (.one (.loop ⟨[(39,(aD iT))],[],[iT]⟩ [1,2,37,38] [2] (.seq .no (.seq (.cond .no .no) (.seq (.one (.seq .no (.join ⟨[(71,.c (.v (.d .bool)))],[],[.bool]⟩ [1,2,37,38,39] [2] true .no (.cond (.seq .no .no) .no)))) .no)))))) (.seq .no .no)))
theorem run (Gr:Gr4):bC (env Gr) Tryz.f59 an (cr (body Gr)):=fun x=>by kernel_rfl
theorem okB (Gr:Gr4) (hG:ay Tryz.prog (cr Gr)):ay Tryz.prog (cr (body Gr)):=aG (E:=(env Gr)) (run Gr) mixed Tryz.func59 (by kernel_rfl) (cons_cons cZ.ok (cons_cons hG (ak)))
theorem okN:∀ n,ay Tryz.prog (cr (rec n))
 | 0=>⟨by kernel_rfl,fun x r h=>by have h2:(none:Option (Tup aT.qs)) = some r:=h; cases h2⟩
 | n + 1=>okB (rec n) (okN n)
theorem ok:ay Tryz.prog con:=okN _
end aT
namespace cL
def con:Con:=⟨33,[.c (.g [.d iT,.d lF])],[],[],[iT,lF],.one (.v (.d .bool)),[],[.bool],fun x=>cL x.1 x.2⟩
def env:Env:=⟨Tryz.prog,[],[aT.con],[(4,0)],[],[],[],[],[],[],[],[]⟩
def an:An := .seq .no (.seq .no .no)
theorem run:bC env Tryz.f33 an con:=fun x=>by kernel_rfl
theorem ok:ay Tryz.prog con:=aG (E:=env) run mixed Tryz.func33 (by kernel_rfl) (cons_cons aT.ok (ak))
end cL
namespace bI
def con:Con:=⟨14,[.c (.g [.d iT,.d lF])],[],[],[iT,lF],.one (.v (.d .bool)),[],[.bool],fun x=>bI x.1 x.2⟩
def env:Env:=⟨Tryz.prog,[],[cL.con],[(4,0)],[],[],[],[],[],[],[],[]⟩
def an:An := .seq .no (.seq .no .no)
theorem run:bC env Tryz.f14 an con:=fun x=>by kernel_rfl
theorem ok:ay Tryz.prog con:=aG (E:=env) run mixed Tryz.func14 (by kernel_rfl) (cons_cons cL.ok (ak))
end bI
namespace cT
def con:Con:=⟨90,[.c (.v (.d lF))],[],[],[lF],.one (.v (.fn 218 [0])),[(0,.box 22 [.d lF])],[lF],fun x=>cT x⟩
def env:Env:=⟨Tryz.prog,[],[],[],[],[],[],[],[],[],[],[]⟩
def an:An := .seq .no (.seq .no .no)
theorem run:bC env Tryz.f90 an con:=fun x=>by kernel_rfl
theorem ok:ay Tryz.prog con:=aG (E:=env) run mixed Tryz.func90 (by kernel_rfl) (ak)
end cT
namespace bR
def con:Con:=⟨57,[.c (.v (.d lF)),.c (.v (.d .str))],[],[],[lF,.str],.tup [.a ck,.v (.d .bool)],[],[ck,.bool],fun x=>bR x.1 x.2⟩
def env:Env:=⟨Tryz.prog,[],[cT.con],[(9,0)],[],[],[],[],[],[],[wy],[]⟩
def an:An := .seq .no (.seq (.seq .no (.one (.range ⟨[],[],[]⟩ [3,4,5,9] [3,4,5,9] .no (.one (.seq .no (.cond (.seq .no .no) .no)))))) (.seq .no .no))
theorem run:bC env Tryz.f57 an con:=fun x=>by kernel_rfl
theorem ok:ay Tryz.prog con:=aG (E:=env) run mixed Tryz.func57 (by kernel_rfl) (cons_cons cT.ok (ak)) (Ij FI (JZ))
end bR
abbrev cF.ps:List Ty:=[iT,lF,iT,lF]
abbrev cF.qs:List Ty:=[ck,.bool]
def cF.cr (Gr:Gr2):Con:=⟨31,[.c (.g [.d iT,.d lF]),.c (.g [.d iT,.d lF])],[],[],cF.ps,.tup [.a ck,.v (.d .bool)],[],cF.qs,fun x=>Gr x.1 x.2.1 x.2.2.1 x.2.2.2⟩
namespace cF
def con:Con:=cr (rec Fuel.n)
def env (Gr:Gr2):Env:=⟨Tryz.prog,[(22,eG)],[bR.con,(cF.cr Gr)],[(34,0),(42,1)],[],[],[],[52],[],[],[],[]⟩
def an:An := .seq .no (.seq (.seq .no (.cond (.seq .no .no) .no)) (.seq .no (.seq (.seq .no (.one (.loop ⟨[(6,.c (.v (.loc 500004 0))),(25,(aD iT))],[(500004,.box 24 [.d iT,.own 500005]),(500005,.arr 53 eG)],[iT,iT,lF]⟩ [3,4,23,24] [3,4] (.seq .no (.seq (.cond .no .no) (.seq (.one (.seq .no (.seq .no (.seq .no (.cond (.seq .no (.seq .no (.cond .no .no))) .no))))) .no)))))) (.seq .no .no))))
theorem run (Gr:Gr2):bC (env Gr) Tryz.f31 an (cr (body Gr)):=fun x=>by kernel_rfl
theorem okB (Gr:Gr2) (hG:ay Tryz.prog (cr Gr)):ay Tryz.prog (cr (body Gr)):=aG (E:=(env Gr)) (run Gr) mixed Tryz.func31 (by kernel_rfl) (cons_cons bR.ok (cons_cons hG (ak)))
theorem okN:∀ n,ay Tryz.prog (cr (rec n))
 | 0=>⟨by kernel_rfl,fun x r h=>by have h2:(none:Option (Tup cF.qs)) = some r:=h; cases h2⟩
 | n + 1=>okB (rec n) (okN n)
theorem ok:ay Tryz.prog con:=okN _
end cF
namespace eU
def con:Con:=⟨12,[.c (.g [.d iT,.d lF]),.c (.g [.d iT,.d lF])],[],[],[iT,lF,iT,lF],.tup [.a ck,.v (.d .bool)],[],[ck,.bool],fun x=>eU x.1 x.2.1 x.2.2.1 x.2.2.2⟩
def env:Env:=⟨Tryz.prog,[],[bI.con,cF.con],[(7,0),(11,0),(17,1)],[1000000],[],[],[],[],[],[],[]⟩
def an:An := .seq .no (.seq (.join ⟨[(13,.c (.v (.d .bool)))],[],[.bool]⟩ [2,3,4] [2,3,4] true .no (.cond (.seq .no .no) .no)) (.seq .no .no))
theorem run:bC env Tryz.f12 an con:=fun x=>by kernel_rfl
theorem ok:ay Tryz.prog con:=aG (E:=env) run mixed Tryz.func12 (by kernel_rfl) (cons_cons bI.ok (cons_cons cF.ok (ak)))
end eU
abbrev aX.ps:List Ty:=[iT,lF]
abbrev aX.qs:List Ty:=[ck]
def aX.cr (Gr:Int → List b9 → Option aK):Con:=⟨46,[.c (.g [.d iT,.d lF])],[],[],aX.ps,.one (.a ck),[],aX.qs,fun x=>Gr x.1 x.2⟩
namespace aX
def con:Con:=cr (rec Fuel.n)
def env (Gr:Int → List b9 → Option aK):Env:=⟨Tryz.prog,[(22,eG)],[(aX.cr Gr)],[(22,0)],[],[],[],[24],[],[17,19,21,19000053,21000053,27000024],[],[]⟩
def an:An := .seq .no (.seq .no (.seq (.seq .no (.one (.loop ⟨[(3,.c (.v (.loc 500004 0))),(12,(aD iT))],[(500004,.box 24 [.d iT,.own 500005]),(500005,.arr 53 eG)],[iT,iT,lF]⟩ [2,10,11] [2] (.seq .no (.seq (.cond .no .no) (.seq (.one (.seq .no .no)) .no)))))) (.seq .no .no)))
theorem run (Gr:Int → List b9 → Option aK):bC (env Gr) Tryz.f46 an (cr (body Gr)):=fun x=>by kernel_rfl
theorem okB (Gr:Int → List b9 → Option aK) (hG:ay Tryz.prog (cr Gr)):ay Tryz.prog (cr (body Gr)):=aG (E:=(env Gr)) (run Gr) mixed Tryz.func46 (by kernel_rfl) (cons_cons hG (ak))
theorem okN:∀ n,ay Tryz.prog (cr (rec n))
 | 0=>⟨by kernel_rfl,fun x r h=>by have h2:(none:Option (Tup aX.qs)) = some r:=h; cases h2⟩
 | n + 1=>okB (rec n) (okN n)
theorem ok:ay Tryz.prog con:=okN _
end aX
namespace eQ
def con:Con:=⟨46,[.c (.g [.d iT,.d lF])],[],[],[iT,lF],.one (.g [.d iT,.own 0]),[(0,.arr 53 eG)],[iT,lF],fun x=>eQ x.1 x.2⟩
def env:Env:=⟨Tryz.prog,[(22,eG)],[aX.con],[(22,0)],[],[],[],[24],[],[17,19,21,19000053,21000053,27000024],[],[]⟩
def an:An := .seq .no (.seq .no (.seq (.seq .no (.one (.loop ⟨[(3,.c (.v (.loc 500004 0))),(12,(aD iT))],[(500004,.box 24 [.d iT,.own 500005]),(500005,.arr 53 eG)],[iT,iT,lF]⟩ [2,10,11] [2] (.seq .no (.seq (.cond .no .no) (.seq (.one (.seq .no .no)) .no)))))) (.seq .no .no)))
theorem run:bC env Tryz.f46 an con:=fun x=>by kernel_rfl
theorem ok:ay Tryz.prog con:=aG (E:=env) run mixed Tryz.func46 (by kernel_rfl) (cons_cons aX.ok (ak))
end eQ
namespace fD
def con:Con:=⟨55,[.c (.g [.d .str,.d iT,.d lF]),.c (.v (.d .str))],[],[],[.str,iT,lF,.str],.one (.v (.d iT)),[],[iT],fun x=>fD x.1 x.2.1 x.2.2.1 x.2.2.2⟩
def env:Env:=⟨Tryz.prog,[],[],[],[],[],[],[],[],[],[],[]⟩
def an:An := .seq .no (.seq (.one (.seq .no (.cond (.seq .no .no) (.seq .no (.cond (.seq .no .no) .no))))) (.seq .no .no))
theorem run:bC env Tryz.f55 an con:=fun x=>by kernel_rfl
theorem ok:ay Tryz.prog con:=aG (E:=env) run mixed Tryz.func55 (by kernel_rfl) (ak)
end fD
namespace aq
def con:Con:=⟨54,[.c (.v (.d lF)),.c (.v (.d .str)),.c (.v (.fn 110 []))],[],[],[lF,.str],.tup [.v (.d iT),.v (.d .bool)],[],[iT,.bool],fun x=>aq x.1 x.2⟩
def env:Env:=⟨Tryz.prog,[],[fD.con],[(30,0),(46,0)],[8],[],[],[],[],[],[],[]⟩
def an:An := .seq .no (.seq .no (.seq .no (.join ⟨[(9,(aD iT))],[],[iT]⟩ [0,1,2,8] [] true (.one (.loop ⟨[(9,(aD iT)),(10,(aD iT))],[],[iT,iT]⟩ [0,1,2,8] [] (.seq (.seq .no (.cond .no .no)) (.one (.seq .no (.seq .no (.cond .no .no))))))) (.seq .no .no))))
theorem run:bC env Tryz.f54 an con:=fun x=>by kernel_rfl
theorem ok:ay Tryz.prog con:=aG (E:=env) run mixed Tryz.func54 (by kernel_rfl) (cons_cons fD.ok (ak))
end aq
def eD.con:Con:=yZ 56 53 eG
omit [Fuel] in
theorem eD.ok:ay Tryz.prog eD.con:=JY (by kernel_rfl)
abbrev ct.ps:List Ty:=[iT,lF,iT,lF]
abbrev ct.qs:List Ty:=[ck,.bool]
def ct.cr (Gr:Gr2):Con:=⟨29,[.c (.g [.d iT,.d lF]),.c (.g [.d iT,.d lF])],[],[],ct.ps,.tup [.a ck,.v (.d .bool)],[],ct.qs,fun x=>Gr x.1 x.2.1 x.2.2.1 x.2.2.2⟩
namespace ct
def con:Con:=cr (rec Fuel.n)
def env (Gr:Gr2):Env:=⟨Tryz.prog,[(22,eG)],[eQ.con,aq.con,aX.con,eD.con,(ct.cr Gr)],[(20,0),(33,1),(45,2),(48,3),(59,4)],[],[48],[],[47],[],[39,42,44,52,58,12000024,42000053,44000053,50000024,58000053],[],[]⟩
def an:An := .seq .no (.seq (.seq .no (.cond (.seq .no .no) .no)) (.seq .no (.seq (.seq .no (.one (.loop ⟨[(6,.c (.v (.loc 500001 0))),(24,(aD iT))],[(500001,.box 24 [.d iT,.own 500002]),(500002,.arr 53 eG)],[iT,iT,lF]⟩ [4,22,23] [4] (.seq .no (.seq (.cond .no .no) (.seq (.one (.seq .no (.seq .no (.seq (.seq .no (.cond (.seq .no .no) .no)) (.seq .no (.seq (.seq .no (.cond (.seq .no .no) .no)) .no)))))) .no)))))) (.seq .no .no))))
theorem run (Gr:Gr2):bC (env Gr) Tryz.f29 an (cr (body Gr)):=fun x=>by kernel_rfl
theorem okB (Gr:Gr2) (hG:ay Tryz.prog (cr Gr)):ay Tryz.prog (cr (body Gr)):=aG (E:=(env Gr)) (run Gr) mixed Tryz.func29 (by kernel_rfl) (cons_cons eQ.ok (cons_cons aq.ok (cons_cons aX.ok (cons_cons eD.ok (cons_cons hG (ak))))))
theorem okN:∀ n,ay Tryz.prog (cr (rec n))
 | 0=>⟨by kernel_rfl,fun x r h=>by have h2:(none:Option (Tup ct.qs)) = some r:=h; cases h2⟩
 | n + 1=>okB (rec n) (okN n)
theorem ok:ay Tryz.prog con:=okN _
end ct
namespace eb
def con:Con:=⟨10,[.c (.g [.d iT,.d lF]),.c (.g [.d iT,.d lF])],[],[],[iT,lF,iT,lF],.tup [.a ck,.v (.d .bool)],[],[ck,.bool],fun x=>eb x.1 x.2.1 x.2.2.1 x.2.2.2⟩
def env:Env:=⟨Tryz.prog,[],[bI.con,ct.con],[(9,0),(13,0),(20,1),(27,0)],[1000000],[],[],[],[],[],[],[]⟩
def an:An := .seq .no (.seq (.join ⟨[(15,.c (.v (.d .bool)))],[],[.bool]⟩ [2,3,4] [2,3,4] true .no (.cond (.seq .no .no) .no)) (.seq .no (.seq (.join ⟨[(29,.c (.v (.d .bool)))],[],[.bool]⟩ [4,6] [4,6] true .no (.cond (.seq .no .no) .no)) (.seq .no .no))))
theorem run:bC env Tryz.f10 an con:=fun x=>by kernel_rfl
theorem ok:ay Tryz.prog con:=aG (E:=env) run mixed Tryz.func10 (by kernel_rfl) (cons_cons bI.ok (cons_cons ct.ok (ak)))
end eb
namespace eJ
def con:Con:=⟨26,[(aD iT)],[],[],[iT],.one (.a nU),[],[nU],fun x=>eJ x⟩
def env:Env:=⟨Tryz.prog,[],[],[],[],[],[],[],[],[],[],[]⟩
def an:An := .seq .no (.seq .no .no)
theorem run:bC env Tryz.f26 an con:=fun x=>by kernel_rfl
theorem ok:ay Tryz.prog con:=aG (E:=env) run mixed Tryz.func26 (by kernel_rfl) (ak)
end eJ
namespace gg
def con:Con:=⟨41,[.c (.g [.d .str,.d iT,.d lF])],[],[],[.str,iT,lF],.one (.v (.d .bool)),[],[.bool],fun x=>gg x.1 x.2.1 x.2.2⟩
def env:Env:=⟨Tryz.prog,[],[bI.con],[(5,0)],[],[],[],[],[],[],[],[]⟩
def an:An := .seq .no (.seq .no .no)
theorem run:bC env Tryz.f41 an con:=fun x=>by kernel_rfl
theorem ok:ay Tryz.prog con:=aG (E:=env) run mixed Tryz.func41 (by kernel_rfl) (cons_cons bI.ok (ak))
end gg
namespace bu
def con:Con:=⟨65,[.c (.v (.d lF)),.c (.v (.fn 82 []))],[],[],[lF],.one (.v (.d iT)),[],[iT],fun x=>bu x⟩
def env:Env:=⟨Tryz.prog,[],[gg.con],[(16,0)],[],[],[],[],[],[],[],[]⟩
def an:An := .seq .no (.seq (.seq .no (.one (.loop ⟨[(8,(aD iT))],[],[iT]⟩ [0,1,7] [] (.seq .no (.seq (.cond .no .no) (.seq (.one (.seq .no (.seq .no (.cond (.seq .no .no) .no)))) .no)))))) (.seq .no .no))
theorem run:bC env Tryz.f65 an con:=fun x=>by kernel_rfl
theorem ok:ay Tryz.prog con:=aG (E:=env) run mixed Tryz.func65 (by kernel_rfl) (cons_cons gg.ok (ak))
end bu
namespace aO
def con:Con:=⟨40,[.c (.v (.d lF)),.c (.v (.fn 82 []))],[],[],[lF],.one (.v (.d .bool)),[],[.bool],fun x=>aO x⟩
def env:Env:=⟨Tryz.prog,[],[bu.con],[(7,0)],[],[],[],[],[],[],[],[]⟩
def an:An := .seq .no (.seq .no .no)
theorem run:bC env Tryz.f40 an con:=fun x=>by kernel_rfl
theorem ok:ay Tryz.prog con:=aG (E:=env) run mixed Tryz.func40 (by kernel_rfl) (cons_cons bu.ok (ak))
end aO
namespace cM
def con:Con:=⟨93,[.c (.g [.d iT,.d iT,.d .str,.d .str,.d lsT,.d lE])],[],[],[iT,iT,.str,.str,lsT,lE],.tup [.a nU,.v (.d iT)],[],[nU,iT],fun x=>cM x.1 x.2.1 x.2.2.1 x.2.2.2.1 x.2.2.2.2.1 x.2.2.2.2.2⟩
def env:Env:=⟨Tryz.prog,[],[],[],[1000000],[],[],[],[59],[56,58,63,65,3500002,5500004,58500001,63500001,65500001,67500004,68500004],[],[]⟩
def an:An := .seq .no (.seq .no (.seq (.seq .no (.one (.join ⟨[(12,.c (.v (.d .bool)))],[],[.bool]⟩ [1,2,4,11] [1,2,4] true (.seq .no (.cond .no .no)) (.cond (.seq .no (.seq .no .no)) (.join ⟨[(19,.c (.v (.d .bool)))],[],[.bool]⟩ [1,2,4,11] [1,2,4] true (.seq .no (.cond .no .no)) (.cond (.seq .no (.seq .no .no)) (.join ⟨[(26,.c (.v (.d .bool)))],[],[.bool]⟩ [1,2,4,11] [1,2,4] true (.seq .no (.cond .no .no)) (.cond (.seq .no (.seq .no .no)) (.seq .no (.cond (.seq .no (.seq .no .no)) (.seq .no (.cond (.seq .no .no) (.seq .no (.cond (.seq .no (.seq .no .no)) (.seq .no (.cond (.seq .no .no) (.seq .no (.cond (.seq .no (.seq .no .no)) (.seq .no (.cond (.seq .no (.seq .no .no)) .no)))))))))))))))))))) (.seq .no .no)))
theorem run:bC env Tryz.f93 an con:=fun x=>by kernel_rfl
theorem ok:ay Tryz.prog con:=aG (E:=env) run mixed Tryz.func93 (by kernel_rfl) (ak)
end cM
namespace cA
def con:Con:=⟨94,[.c (.g [.d iT,.d iT,.d .str,.d .str,.d lsT,.d lE])],[],[],[iT,iT,.str,.str,lsT,lE],.one (.v (.d .bool)),[],[.bool],fun x=>cA x.1 x.2.1 x.2.2.1 x.2.2.2.1 x.2.2.2.2.1 x.2.2.2.2.2⟩
def env:Env:=⟨Tryz.prog,[],[cZ.con],[(55,0),(60,0),(68,0),(88,0)],[1000000],[],[],[],[],[],[],[]⟩
def an:An := .seq .no (.seq (.seq .no (.one (.seq .no (.cond (.seq .no .no) (.seq .no (.cond (.seq .no .no) (.seq .no (.cond (.seq .no .no) (.join ⟨[(47,.c (.v (.d .bool)))],[],[.bool]⟩ [1,6] [1] true (.seq .no (.cond .no (.seq .no (.cond .no (.seq .no (.cond .no (.seq .no (.cond .no .no)))))))) (.cond (.seq .no .no) (.seq .no (.cond (.seq .no .no) (.seq .no (.cond (.seq (.seq .no (.one (.loop ⟨[(82,(aD iT))],[],[iT]⟩ [1,80,81] [1] (.seq .no (.seq (.cond .no .no) (.seq (.one (.seq .no (.join ⟨[(103,.c (.v (.d .bool)))],[],[.bool]⟩ [1,80,81,82] [1] true .no (.cond (.seq .no .no) .no)))) .no)))))) (.seq .no .no)) .no)))))))))))))) (.seq .no .no))
theorem run:bC env Tryz.f94 an con:=fun x=>by kernel_rfl
theorem ok:ay Tryz.prog con:=aG (E:=env) run mixed Tryz.func94 (by kernel_rfl) (cons_cons cZ.ok (ak))
end cA
abbrev av.ps:List Ty:=[iT,iT,.str,.str,lsT,lE,iT]
abbrev av.qs:List Ty:=[.bool]
def av.cr (Gr:Gr3):Con:=⟨66,[.c (.g [.d iT,.d iT,.d .str,.d .str,.d lsT,.d lE]),(aD iT)],[],[],av.ps,.one (.v (.d .bool)),[],av.qs,fun x=>Gr x.1 x.2.1 x.2.2.1 x.2.2.2.1 x.2.2.2.2.1 x.2.2.2.2.2.1 x.2.2.2.2.2.2⟩
namespace av
def con:Con:=cr (rec Fuel.n)
def env (Gr:Gr3):Env:=⟨Tryz.prog,[],[cM.con,cA.con,(av.cr Gr)],[(23,0),(67,1),(80,2)],[1000000],[],[],[],[],[],[],[]⟩
def an:An := .seq .no (.seq (.join ⟨[(20,.c (.v (.d .bool)))],[],[.bool]⟩ [1,2] [2] true .no (.cond (.seq .no .no) .no)) (.seq .no (.seq (.join ⟨[(69,.c (.v (.d .bool)))],[],[.bool]⟩ [1,2] [2] true .no (.cond (.seq .no .no) .no)) (.seq (.seq .no (.one (.loop ⟨[(73,(aD iT))],[],[iT]⟩ [1,71,72] [] (.seq .no (.seq (.cond .no .no) (.seq (.one (.seq .no (.seq .no (.cond (.seq .no .no) .no)))) .no)))))) (.seq .no .no)))))
theorem run (Gr:Gr3):bC (env Gr) Tryz.f66 an (cr (body Gr)):=fun x=>by kernel_rfl
theorem okB (Gr:Gr3) (hG:ay Tryz.prog (cr Gr)):ay Tryz.prog (cr (body Gr)):=aG (E:=(env Gr)) (run Gr) mixed Tryz.func66 (by kernel_rfl) (cons_cons cM.ok (cons_cons cA.ok (cons_cons hG (ak))))
theorem okN:∀ n,ay Tryz.prog (cr (rec n))
 | 0=>⟨by kernel_rfl,fun x r h=>by have h2:(none:Option (Tup av.qs)) = some r:=h; cases h2⟩
 | n + 1=>okB (rec n) (okN n)
theorem ok:ay Tryz.prog con:=okN _
end av
namespace cn
def con:Con:=⟨42,[.c (.g [.d iT,.d iT,.d .str,.d .str,.d lsT,.d lE])],[],[],[iT,iT,.str,.str,lsT,lE],.one (.v (.d .bool)),[],[.bool],fun x=>cn x.1 x.2.1 x.2.2.1 x.2.2.2.1 x.2.2.2.2.1 x.2.2.2.2.2⟩
def env:Env:=⟨Tryz.prog,[],[av.con],[(4,0)],[],[],[],[],[],[],[],[]⟩
def an:An := .seq .no (.seq .no .no)
theorem run:bC env Tryz.f42 an con:=fun x=>by kernel_rfl
theorem ok:ay Tryz.prog con:=aG (E:=env) run mixed Tryz.func42 (by kernel_rfl) (cons_cons av.ok (ak))
end cn
namespace bA
def con:Con:=⟨68,[.c (.v (.d lF)),(aD iT)],[],[],[lF,iT],.one (.v (.d .bool)),[],[.bool],fun x=>bA x.1 x.2⟩
def env:Env:=⟨Tryz.prog,[(95,.bool)],[cZ.con,cL.con],[(22,0),(28,1)],[1000000],[],[],[],[],[],[],[]⟩
def an:An := .seq .no (.seq .no (.seq (.seq .no (.one (.loop ⟨[(5,.c (.v (.mp 500001))),(11,(aD iT))],[(500001,.fi false .bool)],[iT,(.sl (.pair .str .bool))]⟩ [0,1,9,10] [] (.seq .no (.seq (.cond .no .no) (.seq (.one (.seq .no (.seq (.join ⟨[(30,.c (.v (.d .bool)))],[],[.bool]⟩ [0,1,5,7,9,10,11] [7,500001] true .no (.cond (.seq .no .no) .no)) .no))) .no)))))) (.seq .no .no)))
theorem run:bC env Tryz.f68 an con:=fun x=>by kernel_rfl
theorem ok:ay Tryz.prog con:=aG (E:=env) run mixed Tryz.func68 (by kernel_rfl) (cons_cons cZ.ok (cons_cons cL.ok (ak)))
end bA
namespace cC
def con:Con:=⟨69,[.c (.v (.d lE)),(aD iT)],[],[],[lE,iT],.one (.v (.d .bool)),[],[.bool],fun x=>cC x.1 x.2⟩
def env:Env:=⟨Tryz.prog,[],[cn.con],[(14,0)],[],[],[],[],[],[],[],[]⟩
def an:An := .seq .no (.seq (.seq .no (.one (.loop ⟨[(9,(aD iT))],[],[iT]⟩ [0,1,7,8] [] (.seq .no (.seq (.cond .no .no) (.seq (.one (.seq .no (.seq .no (.cond (.seq .no .no) .no)))) .no)))))) (.seq .no .no))
theorem run:bC env Tryz.f69 an con:=fun x=>by kernel_rfl
theorem ok:ay Tryz.prog con:=aG (E:=env) run mixed Tryz.func69 (by kernel_rfl) (cons_cons cn.ok (ak))
end cC
namespace au
def con:Con:=⟨43,[.c (.g [.d .str,.d lsT,.d lF,.d lE,.d lU,.d .bool,.d lF,.d lE,.d lE])],[],[],[.str,lsT,lF,lE,lU,.bool,lF,lE,lE],.one (.v (.d .bool)),[],[.bool],fun x=>au x.1 x.2.1 x.2.2.1 x.2.2.2.1 x.2.2.2.2.1 x.2.2.2.2.2.1 x.2.2.2.2.2.2.1 x.2.2.2.2.2.2.2.1 x.2.2.2.2.2.2.2.2⟩
def env:Env:=⟨Tryz.prog,[(95,.bool)],[cZ.con,bA.con,cL.con,cn.con,cC.con],[(24,0),(45,0),(51,1),(57,2),(63,3),(78,0),(95,1),(104,4),(122,1),(128,4),(135,4)],[9,17,24,1000000],[],[],[],[110,113],[109,112],[],[]⟩
def an:An := .seq .no (.seq .no (.join ⟨[],[],[]⟩ [1] [1] false (.seq .no (.one (.loop ⟨[(3,.c (.v (.mp 500002))),(15,(aD iT))],[(500002,.fi false .bool)],[iT,(.sl (.pair .str .bool))]⟩ [1,13,14] [1] (.seq .no (.seq (.cond .no .no) (.seq (.one (.seq .no (.seq (.join ⟨[(26,.c (.v (.d .bool)))],[],[.bool]⟩ [1,3,5,13,14,15] [1,500002] true .no (.cond (.seq .no .no) .no)) .no))) .no)))))) (.seq .no (.join ⟨[],[],[]⟩ [1] [1] false (.seq .no (.one (.loop ⟨[(6,.c (.v (.mp 500004))),(34,(aD iT))],[(500004,.fi false .bool)],[iT,(.sl (.pair .str .bool))]⟩ [1,32,33] [1] (.seq .no (.seq (.cond .no .no) (.seq (.one (.seq .no (.seq (.join ⟨[(71,.c (.v (.d .bool)))],[],[.bool]⟩ [1,6,8,32,33,34] [1,8,500004] true .no (.cond (.seq .no .no) .no)) .no))) .no)))))) (.seq (.join ⟨[(106,.c (.v (.d .bool)))],[],[.bool]⟩ [1] [1] true .no (.cond (.seq .no .no) .no)) (.seq .no (.join ⟨[(10,(aD iT))],[],[iT]⟩ [1,9] [1] false (.seq .no (.cond (.seq .no (.seq .no (.cond (.seq .no .no) .no))) .no)) (.seq .no .no))))))))
theorem run:bC env Tryz.f43 an con:=fun x=>by kernel_rfl
theorem ok:ay Tryz.prog con:=aG (E:=env) run mixed Tryz.func43 (by kernel_rfl) (cons_cons cZ.ok (cons_cons bA.ok (cons_cons cL.ok (cons_cons cn.ok (cons_cons cC.ok (ak))))))
end au
namespace fq
def con:Con:=⟨71,[.c (.g [.d iT,.d lF])],[],[],[iT,lF],.one (.v (.d .bool)),[],[.bool],fun x=>fq x.1 x.2⟩
def env:Env:=⟨Tryz.prog,[],[bI.con],[(4,0)],[],[],[],[],[],[],[],[]⟩
def an:An := .seq .no (.seq .no .no)
theorem run:bC env Tryz.f71 an con:=fun x=>by kernel_rfl
theorem ok:ay Tryz.prog con:=aG (E:=env) run mixed Tryz.func71 (by kernel_rfl) (cons_cons bI.ok (ak))
end fq
namespace bF
def con:Con:=⟨97,[.c (.v (.d lY)),.c (.v (.fn 142 []))],[],[],[lY],.one (.v (.d iT)),[],[iT],fun x=>bF x⟩
def env:Env:=⟨Tryz.prog,[],[fq.con],[(16,0)],[],[],[],[],[],[],[],[]⟩
def an:An := .seq .no (.seq (.seq .no (.one (.loop ⟨[(8,(aD iT))],[],[iT]⟩ [0,1,7] [] (.seq .no (.seq (.cond .no .no) (.seq (.one (.seq .no (.seq .no (.cond (.seq .no .no) .no)))) .no)))))) (.seq .no .no))
theorem run:bC env Tryz.f97 an con:=fun x=>by kernel_rfl
theorem ok:ay Tryz.prog con:=aG (E:=env) run mixed Tryz.func97 (by kernel_rfl) (cons_cons fq.ok (ak))
end bF
namespace bh
def con:Con:=⟨70,[.c (.v (.d lY)),.c (.v (.fn 142 []))],[],[],[lY],.one (.v (.d .bool)),[],[.bool],fun x=>bh x⟩
def env:Env:=⟨Tryz.prog,[],[bF.con],[(7,0)],[],[],[],[],[],[],[],[]⟩
def an:An := .seq .no (.seq .no .no)
theorem run:bC env Tryz.f70 an con:=fun x=>by kernel_rfl
theorem ok:ay Tryz.prog con:=aG (E:=env) run mixed Tryz.func70 (by kernel_rfl) (cons_cons bF.ok (ak))
end bh
namespace bj
def con:Con:=⟨44,[.c (.g [.d .str,.d lsT,.d lF,.d lE,.d lU,.d .bool,.d lF,.d lE,.d lE]),.c (.v (.d lA))],[],[],[.str,lsT,lF,lE,lU,.bool,lF,lE,lE,lA],.tup [.v (.loc 0 0),.v (.bc true)],[(0,.box 76 [.d .str,.d lsT,.d lF,.d lE,.d lU,.d .bool,.d lF,.d lE,.d lE,.mp 1,.d iT]),(1,.fi true dP)],[.str,lsT,lF,lE,lU,.bool,lF,lE,lE,iT,(.sl (.pair .str dP))],fun x=>bj x.1 x.2.1 x.2.2.1 x.2.2.2.1 x.2.2.2.2.1 x.2.2.2.2.2.1 x.2.2.2.2.2.2.1 x.2.2.2.2.2.2.2.1 x.2.2.2.2.2.2.2.2.1 x.2.2.2.2.2.2.2.2.2⟩
def env:Env:=⟨Tryz.prog,[(74,dP)],[bI.con,bh.con],[(32,0),(37,1)],[11,1000000],[],[],[],[],[44,46,55,57,58,12000061,12500011,44000076,46500008],[],[]⟩
def an:An := .seq .no (.seq .no (.seq (.seq .no (.one (.loop ⟨[(6,.c (.v (.loc 500001 0))),(19,(aD iT))],[(500001,.box 76 [.d .str,.d lsT,.d lF,.d lE,.d lU,.d .bool,.d lF,.d lE,.d lE,.mp 500002,.d iT]),(500002,.fi true dP)],[iT,.str,lsT,lF,lE,lU,.bool,lF,lE,lE,iT,(.sl (.pair .str dP))]⟩ [17,18] [] (.seq .no (.seq (.cond .no .no) (.seq (.one (.seq .no (.join ⟨[],[],[]⟩ [6,8,17,18,19] [8,500001,500002] false (.seq .no (.one (.loop ⟨[(26,(aD iT))],[],[iT]⟩ [6,8,17,18,19,24,25] [8,500001,500002] (.seq .no (.seq (.cond .no .no) (.seq (.one (.seq .no (.join ⟨[(38,.c (.v (.d .bool)))],[],[.bool]⟩ [6,8,17,18,19,24,25,26] [8,500001,500002] true .no (.cond (.seq .no .no) .no)))) .no)))))) (.seq .no (.seq .no (.cond .no .no)))))) .no)))))) (.seq .no .no)))
theorem run:bC env Tryz.f44 an con:=fun x=>by kernel_rfl
theorem ok:ay Tryz.prog con:=aG (E:=env) run mixed Tryz.func44 (by kernel_rfl) (cons_cons bI.ok (cons_cons bh.ok (ak)))
end bj
namespace bK
def con:Con:=⟨72,[.c (.v (.d lF))],[],[],[lF],.one (.v (.own 0)),[(0,.arr 53 eG)],[lF],fun x=>bK x⟩
def env:Env:=⟨Tryz.prog,[(22,eG)],[],[],[],[],[],[],[],[],[],[]⟩
def an:An := .seq .no (.seq (.seq .no (.cond (.seq .no .no) .no)) (.seq .no .no))
theorem run:bC env Tryz.f72 an con:=fun x=>by kernel_rfl
theorem ok:ay Tryz.prog con:=aG (E:=env) run mixed Tryz.func72 (by kernel_rfl) (ak)
end bK
abbrev bf.ps:List Ty:=[iT,lF,iT,lF]
abbrev bf.qs:List Ty:=[.bool]
def bf.cr (Gr:Gr1):Con:=⟨37,[.c (.g [.d iT,.d lF]),.c (.g [.d iT,.d lF])],[],[],bf.ps,.one (.v (.d .bool)),[],bf.qs,fun x=>Gr x.1 x.2.1 x.2.2.1 x.2.2.2⟩
namespace gF
def con (Gr:Gr1):Con:=⟨63,[.c (.g [.d .str,.d iT,.d lF]),.c (.v (.loc 1000000 0))],[(1000000,.box 24 [.d iT,.d lF])],[],[.str,iT,lF,iT,lF],.one (.v (.d .bool)),[],[.bool],fun x=>gF Gr x.1 x.2.1 x.2.2.1 x.2.2.2.1 x.2.2.2.2⟩
def env (Gr:Gr1):Env:=⟨Tryz.prog,[],[bR.con,(bf.cr Gr)],[(11,0),(20,1)],[],[],[],[],[],[],[],[]⟩
def an:An := .seq .no (.seq .no (.seq .no .no))
theorem run (Gr:Gr1):bC (env Gr) Tryz.f63 an (con Gr):=fun x=>by kernel_rfl
theorem ok (Gr:Gr1) (hG:ay Tryz.prog (bf.cr Gr)):ay Tryz.prog (con Gr):=aG (E:=(env Gr)) (run Gr) mixed Tryz.func63 (by kernel_rfl) (cons_cons bR.ok (cons_cons hG (ak)))
end gF
namespace aP
def con (Gr:Gr1):Con:=⟨65,[.c (.v (.d lF)),.c (.v (.fn 126 [1000000]))],[(1000000,.box 24 [.d iT,.d lF])],[],[lF,iT,lF],.one (.v (.d iT)),[],[iT],fun x=>aP Gr x.1 x.2.1 x.2.2⟩
def env (Gr:Gr1):Env:=⟨Tryz.prog,[],[(gF.con Gr)],[(16,0)],[],[16],[],[],[],[],[],[]⟩
def an:An := .seq .no (.seq (.seq .no (.one (.loop ⟨[(8,(aD iT))],[],[iT]⟩ [0,1,7] [1000000] (.seq .no (.seq (.cond .no .no) (.seq (.one (.seq .no (.seq .no (.cond (.seq .no .no) .no)))) .no)))))) (.seq .no .no))
theorem run (Gr:Gr1):bC (env Gr) Tryz.f65 an (con Gr):=fun x=>by kernel_rfl
theorem ok (Gr:Gr1) (hG:ay Tryz.prog (bf.cr Gr)):ay Tryz.prog (con Gr):=aG (E:=(env Gr)) (run Gr) mixed Tryz.func65 (by kernel_rfl) (cons_cons (gF.ok Gr hG) (ak))
end aP
namespace cd
def con (Gr:Gr1):Con:=⟨40,[.c (.v (.d lF)),.c (.v (.fn 126 [1000000]))],[(1000000,.box 24 [.d iT,.d lF])],[],[lF,iT,lF],.one (.v (.d .bool)),[],[.bool],fun x=>cd Gr x.1 x.2.1 x.2.2⟩
def env (Gr:Gr1):Env:=⟨Tryz.prog,[],[(aP.con Gr)],[(7,0)],[],[7],[],[],[],[],[],[]⟩
def an:An := .seq .no (.seq .no .no)
theorem run (Gr:Gr1):bC (env Gr) Tryz.f40 an (con Gr):=fun x=>by kernel_rfl
theorem ok (Gr:Gr1) (hG:ay Tryz.prog (bf.cr Gr)):ay Tryz.prog (con Gr):=aG (E:=(env Gr)) (run Gr) mixed Tryz.func40 (by kernel_rfl) (cons_cons (aP.ok Gr hG) (ak))
end cd
namespace bf
def con:Con:=cr (rec Fuel.n)
def env (Gr:Gr1):Env:=⟨Tryz.prog,[],[(cd.con Gr)],[(14,0)],[],[14],[],[],[],[],[],[]⟩
def an:An := .seq .no (.seq .no .no)
theorem run (Gr:Gr1):bC (env Gr) Tryz.f37 an (cr (body Gr)):=fun x=>by kernel_rfl
theorem okB (Gr:Gr1) (hG:ay Tryz.prog (cr Gr)):ay Tryz.prog (cr (body Gr)):=aG (E:=(env Gr)) (run Gr) mixed Tryz.func37 (by kernel_rfl) (cons_cons (cd.ok Gr hG) (ak))
theorem okN:∀ n,ay Tryz.prog (cr (rec n))
 | 0=>⟨by kernel_rfl,fun x r h=>by have h2:(none:Option (Tup bf.qs)) = some r:=h; cases h2⟩
 | n + 1=>okB (rec n) (okN n)
theorem ok:ay Tryz.prog con:=okN _
end bf
abbrev aw.ps:List Ty:=[lF,iT,iT,.str,.str,lsT,lE,.str,lsT,lF,lE,lU,.bool,lF,lE,lE,iT,(.sl (.pair .str dP))]
abbrev aw.qs:List Ty:=[ck,iT,.str,lsT,lF,lE,lU,.bool,lF,lE,lE,iT,(.sl (.pair .str dP))]
def aw.cr (Gr:Gr5):Con:=⟨45,[.c (.v (.loc 1000000 0)),.c (.v (.d lF)),.c (.g [.d iT,.d iT,.d .str,.d .str,.d lsT,.d lE])],[],[(1000000,.box 76 [.d .str,.d lsT,.d lF,.d lE,.d lU,.d .bool,.d lF,.d lE,.d lE,.mp 1000001,.d iT]),(1000001,.fi true dP)],aw.ps,.tup [.a ck,.v (.d iT)],[(1000000,.box 76 [.d .str,.d lsT,.d lF,.d lE,.d lU,.d .bool,.d lF,.d lE,.d lE,.mp 1000001,.d iT]),(1000001,.fi true dP)],aw.qs,fun x=>Gr x.1 x.2.1 x.2.2.1 x.2.2.2.1 x.2.2.2.2.1 x.2.2.2.2.2.1 x.2.2.2.2.2.2.1 x.2.2.2.2.2.2.2.1 x.2.2.2.2.2.2.2.2.1 x.2.2.2.2.2.2.2.2.2.1 x.2.2.2.2.2.2.2.2.2.2.1 x.2.2.2.2.2.2.2.2.2.2.2.1 x.2.2.2.2.2.2.2.2.2.2.2.2.1 x.2.2.2.2.2.2.2.2.2.2.2.2.2.1 x.2.2.2.2.2.2.2.2.2.2.2.2.2.2.1 x.2.2.2.2.2.2.2.2.2.2.2.2.2.2.2.1 x.2.2.2.2.2.2.2.2.2.2.2.2.2.2.2.2.1 x.2.2.2.2.2.2.2.2.2.2.2.2.2.2.2.2.2⟩
namespace ec
def con (Gr:Gr5):Con:=⟨73,[.c (.v (.loc 1000000 0)),.c (.v (.d lF)),.c (.g [.d iT,.d iT,.d .str,.d .str,.d lsT,.d lE])],[],[(1000000,.box 76 [.d .str,.d lsT,.d lF,.d lE,.d lU,.d .bool,.d lF,.d lE,.d lE,.mp 1000001,.d iT]),(1000001,.fi true dP)],[lF,iT,iT,.str,.str,lsT,lE,.str,lsT,lF,lE,lU,.bool,lF,lE,lE,iT,(.sl (.pair .str dP))],.tup [.a ck,.v (.d iT)],[(1000000,.box 76 [.d .str,.d lsT,.d lF,.d lE,.d lU,.d .bool,.d lF,.d lE,.d lE,.mp 1000001,.d iT]),(1000001,.fi true dP)],[ck,iT,.str,lsT,lF,lE,lU,.bool,lF,lE,lE,iT,(.sl (.pair .str dP))],fun x=>ec Gr x.1 x.2.1 x.2.2.1 x.2.2.2.1 x.2.2.2.2.1 x.2.2.2.2.2.1 x.2.2.2.2.2.2.1 x.2.2.2.2.2.2.2.1 x.2.2.2.2.2.2.2.2.1 x.2.2.2.2.2.2.2.2.2.1 x.2.2.2.2.2.2.2.2.2.2.1 x.2.2.2.2.2.2.2.2.2.2.2.1 x.2.2.2.2.2.2.2.2.2.2.2.2.1 x.2.2.2.2.2.2.2.2.2.2.2.2.2.1 x.2.2.2.2.2.2.2.2.2.2.2.2.2.2.1 x.2.2.2.2.2.2.2.2.2.2.2.2.2.2.2.1 x.2.2.2.2.2.2.2.2.2.2.2.2.2.2.2.2.1 x.2.2.2.2.2.2.2.2.2.2.2.2.2.2.2.2.2⟩
def env (Gr:Gr5):Env:=⟨Tryz.prog,[],[bR.con,(aw.cr Gr),bf.con],[(20,0),(36,1),(47,2)],[],[36],[],[],[],[17,19,9000024,17000076,19000034],[],[]⟩
def an:An := .seq .no (.seq .no (.seq (.seq .no (.cond (.seq .no .no) .no)) (.seq (.seq .no (.cond (.seq .no (.one (.seq .no (.cond (.seq .no .no) (.seq .no (.cond (.seq .no .no) .no)))))) .no)) (.seq .no .no))))
theorem run (Gr:Gr5):bC (env Gr) Tryz.f73 an (con Gr):=fun x=>by kernel_rfl
theorem ok (Gr:Gr5) (hG:ay Tryz.prog (aw.cr Gr)):ay Tryz.prog (con Gr):=aG (E:=(env Gr)) (run Gr) mixed Tryz.func73 (by kernel_rfl) (cons_cons bR.ok (cons_cons hG (cons_cons bf.ok (ak))))
end ec
namespace ed
def con:Con:=⟨116,[.c (.g [.d .str,.d .bool,.d lF,.d iT,.d lF,.d iT,.d iT,.d iT,.d .str,.d .str,.d lsT,.d lE]),.c (.v (.loc 1000000 0))],[(1000000,.box 34 [.d iT,.d iT,.d .str,.d .str,.d lsT,.d lE])],[],[.str,.bool,lF,iT,lF,iT,iT,iT,.str,.str,lsT,lE,iT,iT,.str,.str,lsT,lE],.one (.v (.d .bool)),[],[.bool],fun x=>ed x.1 x.2.1 x.2.2.1 x.2.2.2.1 x.2.2.2.2.1 x.2.2.2.2.2.1 x.2.2.2.2.2.2.1 x.2.2.2.2.2.2.2.1 x.2.2.2.2.2.2.2.2.1 x.2.2.2.2.2.2.2.2.2.1 x.2.2.2.2.2.2.2.2.2.2.1 x.2.2.2.2.2.2.2.2.2.2.2.1 x.2.2.2.2.2.2.2.2.2.2.2.2.1 x.2.2.2.2.2.2.2.2.2.2.2.2.2.1 x.2.2.2.2.2.2.2.2.2.2.2.2.2.2.1 x.2.2.2.2.2.2.2.2.2.2.2.2.2.2.2.1 x.2.2.2.2.2.2.2.2.2.2.2.2.2.2.2.2.1 x.2.2.2.2.2.2.2.2.2.2.2.2.2.2.2.2.2⟩
def env:Env:=⟨Tryz.prog,[],[],[],[],[],[],[],[],[],[],[]⟩
def an:An := .seq .no (.seq .no .no)
theorem run:bC env Tryz.f116 an con:=fun x=>by kernel_rfl
theorem ok:ay Tryz.prog con:=aG (E:=env) run mixed Tryz.func116 (by kernel_rfl) (ak)
end ed
namespace aH
def con:Con:=⟨115,[.c (.v (.d lU)),.c (.v (.fn 232 [1000000]))],[(1000000,.box 34 [.d iT,.d iT,.d .str,.d .str,.d lsT,.d lE])],[],[lU,iT,iT,.str,.str,lsT,lE],.one (.v (.d iT)),[],[iT],fun x=>aH x.1 x.2.1 x.2.2.1 x.2.2.2.1 x.2.2.2.2.1 x.2.2.2.2.2.1 x.2.2.2.2.2.2⟩
def env:Env:=⟨Tryz.prog,[],[ed.con],[(16,0)],[],[16],[],[],[],[],[],[]⟩
def an:An := .seq .no (.seq (.seq .no (.one (.loop ⟨[(8,(aD iT))],[],[iT]⟩ [0,1,7] [1000000] (.seq .no (.seq (.cond .no .no) (.seq (.one (.seq .no (.seq .no (.cond (.seq .no .no) .no)))) .no)))))) (.seq .no .no))
theorem run:bC env Tryz.f115 an con:=fun x=>by kernel_rfl
theorem ok:ay Tryz.prog con:=aG (E:=env) run mixed Tryz.func115 (by kernel_rfl) (cons_cons ed.ok (ak))
end aH
namespace ef
def con:Con:=⟨118,[.c (.g [.d .str,.d lY,.d iT,.d lF,.d iT]),.c (.v (.loc 1000000 0))],[(1000000,.box 34 [.d iT,.d iT,.d .str,.d .str,.d lsT,.d lE])],[],[.str,lY,iT,lF,iT,iT,iT,.str,.str,lsT,lE],.one (.v (.d .bool)),[],[.bool],fun x=>ef x.1 x.2.1 x.2.2.1 x.2.2.2.1 x.2.2.2.2.1 x.2.2.2.2.2.1 x.2.2.2.2.2.2.1 x.2.2.2.2.2.2.2.1 x.2.2.2.2.2.2.2.2.1 x.2.2.2.2.2.2.2.2.2.1 x.2.2.2.2.2.2.2.2.2.2⟩
def env:Env:=⟨Tryz.prog,[],[],[],[],[],[],[],[],[],[],[]⟩
def an:An := .seq .no (.seq .no .no)
theorem run:bC env Tryz.f118 an con:=fun x=>by kernel_rfl
theorem ok:ay Tryz.prog con:=aG (E:=env) run mixed Tryz.func118 (by kernel_rfl) (ak)
end ef
namespace aQ
def con:Con:=⟨117,[.c (.v (.d (.sl rz))),.c (.v (.fn 236 [1000000]))],[(1000000,.box 34 [.d iT,.d iT,.d .str,.d .str,.d lsT,.d lE])],[],[(.sl rz),iT,iT,.str,.str,lsT,lE],.one (.v (.d iT)),[],[iT],fun x=>aQ x.1 x.2.1 x.2.2.1 x.2.2.2.1 x.2.2.2.2.1 x.2.2.2.2.2.1 x.2.2.2.2.2.2⟩
def env:Env:=⟨Tryz.prog,[],[ef.con],[(16,0)],[],[16],[],[],[],[],[],[]⟩
def an:An := .seq .no (.seq (.seq .no (.one (.loop ⟨[(8,(aD iT))],[],[iT]⟩ [0,1,7] [1000000] (.seq .no (.seq (.cond .no .no) (.seq (.one (.seq .no (.seq .no (.cond (.seq .no .no) .no)))) .no)))))) (.seq .no .no))
theorem run:bC env Tryz.f117 an con:=fun x=>by kernel_rfl
theorem ok:ay Tryz.prog con:=aG (E:=env) run mixed Tryz.func117 (by kernel_rfl) (cons_cons ef.ok (ak))
end aQ
namespace cG
def con:Con:=⟨125,[(aD lsT),.c (.v (.d .str))],[],[],[lsT,.str],.one (.v (.d iT)),[],[iT],fun x=>cG x.1 x.2⟩
def env:Env:=⟨Tryz.prog,[],[],[],[],[],[],[],[],[],[],[]⟩
def an:An := .seq .no (.seq (.seq .no (.one (.loop ⟨[(8,(aD iT))],[],[iT]⟩ [0,1,7] [] (.seq .no (.seq (.cond .no .no) (.seq (.one (.seq .no (.seq .no (.cond (.seq .no .no) .no)))) .no)))))) (.seq .no .no))
theorem run:bC env Tryz.f125 an con:=fun x=>by kernel_rfl
theorem ok:ay Tryz.prog con:=aG (E:=env) run mixed Tryz.func125 (by kernel_rfl) (ak)
end cG
namespace bZ
def con:Con:=⟨119,[(aD lsT),.c (.v (.d .str))],[],[],[lsT,.str],.one (.v (.d .bool)),[],[.bool],fun x=>bZ x.1 x.2⟩
def env:Env:=⟨Tryz.prog,[],[cG.con],[(7,0)],[],[],[],[],[],[],[],[]⟩
def an:An := .seq .no (.seq .no .no)
theorem run:bC env Tryz.f119 an con:=fun x=>by kernel_rfl
theorem ok:ay Tryz.prog con:=aG (E:=env) run mixed Tryz.func119 (by kernel_rfl) (cons_cons cG.ok (ak))
end bZ
namespace cf
def con:Con:=⟨98,[.c (.v (.loc 1000000 0)),.c (.g [.d iT,.d iT,.d .str,.d .str,.d lsT,.d lE])],[(1000000,.box 76 [.d .str,.d lsT,.d lF,.d lE,.d lU,.d .bool,.d lF,.d lE,.d lE,.mp 1000001,.d iT]),(1000001,.fi true dP)],[],[iT,iT,.str,.str,lsT,lE,.str,lsT,lF,lE,lU,.bool,lF,lE,lE,iT,(.sl (.pair .str dP))],.tup [.a rz,.v (.d .bool)],[],[rz,.bool],fun x=>cf x.1 x.2.1 x.2.2.1 x.2.2.2.1 x.2.2.2.2.1 x.2.2.2.2.2.1 x.2.2.2.2.2.2.1 x.2.2.2.2.2.2.2.1 x.2.2.2.2.2.2.2.2.1 x.2.2.2.2.2.2.2.2.2.1 x.2.2.2.2.2.2.2.2.2.2.1 x.2.2.2.2.2.2.2.2.2.2.2.1 x.2.2.2.2.2.2.2.2.2.2.2.2.1 x.2.2.2.2.2.2.2.2.2.2.2.2.2.1 x.2.2.2.2.2.2.2.2.2.2.2.2.2.2.1 x.2.2.2.2.2.2.2.2.2.2.2.2.2.2.2.1 x.2.2.2.2.2.2.2.2.2.2.2.2.2.2.2.2⟩
def env:Env:=⟨Tryz.prog,[(37,ck)],[aH.con,aQ.con,bZ.con],[(23,0),(69,1),(84,2)],[13,1000000],[23,69],[],[51],[],[60,62,81,83,12000061,60000076,62000034],[],[]⟩
def an:An := .seq .no (.join ⟨[],[],[]⟩ [0,3,4] [3,4,1000000,1000001] false (.seq .no (.cond (.seq .no (.seq (.seq .no (.cond (.seq .no .no) .no)) (.seq .no (.seq .no (.seq (.seq .no (.one (.loop ⟨[(8,.c (.v (.loc 500009 0))),(43,(aD iT))],[(500009,.box 63 [.d .str,.own 500010,.d iT,.d lF,.d iT]),(500010,.arr 24 ck)],[iT,.str,iT,lF,iT,lY]⟩ [4,41,42] [4] (.seq .no (.seq (.cond .no .no) (.seq (.one (.seq .no .no)) .no)))))) (.seq .no .no)))))) .no)) (.seq .no (.seq .no (.seq (.join ⟨[(86,.c (.v (.d .bool)))],[],[.bool]⟩ [4,11,13] [4,11] true .no (.cond (.seq .no .no) .no)) (.seq .no .no)))))
theorem run:bC env Tryz.f98 an con:=fun x=>by kernel_rfl
theorem ok:ay Tryz.prog con:=aG (E:=env) run mixed Tryz.func98 (by kernel_rfl) (cons_cons aH.ok (cons_cons aQ.ok (cons_cons bZ.ok (ak))))
end cf
namespace db
def con (Gr:Gr5):Con:=⟨75,[.c (.v (.loc 1000000 0)),.c (.v (.d lF)),.c (.v (.d lE))],[],[(1000000,.box 76 [.d .str,.d lsT,.d lF,.d lE,.d lU,.d .bool,.d lF,.d lE,.d lE,.mp 1000001,.d iT]),(1000001,.fi true dP)],[lF,lE,.str,lsT,lF,lE,lU,.bool,lF,lE,lE,iT,(.sl (.pair .str dP))],.tup [.v (.d lY),.v (.d iT)],[(1000000,.box 76 [.d .str,.d lsT,.d lF,.d lE,.d lU,.d .bool,.d lF,.d lE,.d lE,.mp 1000001,.d iT]),(1000001,.fi true dP)],[lY,iT,.str,lsT,lF,lE,lU,.bool,lF,lE,lE,iT,(.sl (.pair .str dP))],fun x=>db Gr x.1 x.2.1 x.2.2.1 x.2.2.2.1 x.2.2.2.2.1 x.2.2.2.2.2.1 x.2.2.2.2.2.2.1 x.2.2.2.2.2.2.2.1 x.2.2.2.2.2.2.2.2.1 x.2.2.2.2.2.2.2.2.2.1 x.2.2.2.2.2.2.2.2.2.2.1 x.2.2.2.2.2.2.2.2.2.2.2.1 x.2.2.2.2.2.2.2.2.2.2.2.2⟩
def env (Gr:Gr5):Env:=⟨Tryz.prog,[(37,ck)],[(aw.cr Gr)],[(23,0)],[],[23],[],[31],[],[],[],[]⟩
def an:An := .seq .no (.seq .no (.seq (.seq .no (.one (.loop ⟨[(0,.c (.v (.loc 1000000 0))),(8,.c (.v (.own 500002))),(15,(aD iT))],[(1000000,.box 76 [.d .str,.d lsT,.d lF,.d lE,.d lU,.d .bool,.d lF,.d lE,.d lE,.mp 1000001,.d iT]),(500002,.arr 24 ck),(1000001,.fi true dP)],[iT,.str,lsT,lF,lE,lU,.bool,lF,lE,lE,iT,lY,(.sl (.pair .str dP))]⟩ [1,13,14] [] (.seq .no (.seq (.cond .no .no) (.seq (.one (.seq .no (.seq .no (.seq (.seq .no (.cond (.seq .no .no) .no)) .no)))) .no)))))) (.seq .no .no)))
theorem run (Gr:Gr5):bC (env Gr) Tryz.f75 an (con Gr):=fun x=>by kernel_rfl
theorem ok (Gr:Gr5) (hG:ay Tryz.prog (aw.cr Gr)):ay Tryz.prog (con Gr):=aG (E:=(env Gr)) (run Gr) mixed Tryz.func75 (by kernel_rfl) (cons_cons hG (ak))
end db
namespace dz
def con (Gr:Gr5):Con:=⟨74,[.c (.v (.loc 1000000 0)),.c (.v (.d lF)),.c (.g [.d iT,.d iT,.d .str,.d .str,.d lsT,.d lE])],[],[(1000000,.box 76 [.d .str,.d lsT,.d lF,.d lE,.d lU,.d .bool,.d lF,.d lE,.d lE,.mp 1000001,.d iT]),(1000001,.fi true dP)],[lF,iT,iT,.str,.str,lsT,lE,.str,lsT,lF,lE,lU,.bool,lF,lE,lE,iT,(.sl (.pair .str dP))],.tup [.a ck,.v (.d iT)],[(1000000,.box 76 [.d .str,.d lsT,.d lF,.d lE,.d lU,.d .bool,.d lF,.d lE,.d lE,.mp 1000001,.d iT]),(1000001,.fi true dP)],[ck,iT,.str,lsT,lF,lE,lU,.bool,lF,lE,lE,iT,(.sl (.pair .str dP))],fun x=>dz Gr x.1 x.2.1 x.2.2.1 x.2.2.2.1 x.2.2.2.2.1 x.2.2.2.2.2.1 x.2.2.2.2.2.2.1 x.2.2.2.2.2.2.2.1 x.2.2.2.2.2.2.2.2.1 x.2.2.2.2.2.2.2.2.2.1 x.2.2.2.2.2.2.2.2.2.2.1 x.2.2.2.2.2.2.2.2.2.2.2.1 x.2.2.2.2.2.2.2.2.2.2.2.2.1 x.2.2.2.2.2.2.2.2.2.2.2.2.2.1 x.2.2.2.2.2.2.2.2.2.2.2.2.2.2.1 x.2.2.2.2.2.2.2.2.2.2.2.2.2.2.2.1 x.2.2.2.2.2.2.2.2.2.2.2.2.2.2.2.2.1 x.2.2.2.2.2.2.2.2.2.2.2.2.2.2.2.2.2⟩
def env (Gr:Gr5):Env:=⟨Tryz.prog,[],[cf.con,(db.con Gr),bf.con],[(17,0),(36,1),(56,2)],[],[17,36],[],[],[54,55],[50,52,63,65,65000063,69000076],[],[]⟩
def an:An := .seq .no (.seq .no (.seq (.seq .no (.cond (.seq .no .no) .no)) (.seq (.seq .no (.cond (.seq .no .no) .no)) (.seq .no (.seq (.seq .no (.cond (.seq .no .no) .no)) (.seq (.seq .no (.one (.loop ⟨[(45,(aD iT))],[],[iT]⟩ [0,6,8,43,44] [6,8,1000000,1000001] (.seq .no (.seq (.cond .no .no) (.seq (.one (.seq .no (.seq .no (.cond (.seq .no .no) .no)))) .no)))))) (.seq .no (.seq .no .no))))))))
theorem run (Gr:Gr5):bC (env Gr) Tryz.f74 an (con Gr):=fun x=>by kernel_rfl
theorem ok (Gr:Gr5) (hG:ay Tryz.prog (aw.cr Gr)):ay Tryz.prog (con Gr):=aG (E:=(env Gr)) (run Gr) mixed Tryz.func74 (by kernel_rfl) (cons_cons cf.ok (cons_cons (db.ok Gr hG) (cons_cons bf.ok (ak))))
end dz
namespace fP
def con:Con:=⟨100,[.c (.g [.d iT,.d lF]),.c (.v (.loc 1000000 0))],[(1000000,.box 3 [.d iT])],[],[iT,lF,iT],.one (.v (.d .bool)),[],[.bool],fun x=>fP x.1 x.2.1 x.2.2⟩
def env:Env:=⟨Tryz.prog,[],[],[],[],[],[],[],[],[],[],[]⟩
def an:An := .seq .no (.seq .no .no)
theorem run:bC env Tryz.f100 an con:=fun x=>by kernel_rfl
theorem ok:ay Tryz.prog con:=aG (E:=env) run mixed Tryz.func100 (by kernel_rfl) (ak)
end fP
namespace bm
def con:Con:=⟨97,[.c (.v (.d lY)),.c (.v (.fn 200 [1000000]))],[(1000000,.box 3 [.d iT])],[],[lY,iT],.one (.v (.d iT)),[],[iT],fun x=>bm x.1 x.2⟩
def env:Env:=⟨Tryz.prog,[],[fP.con],[(16,0)],[],[16],[],[],[],[],[],[]⟩
def an:An := .seq .no (.seq (.seq .no (.one (.loop ⟨[(8,(aD iT))],[],[iT]⟩ [0,1,7] [1000000] (.seq .no (.seq (.cond .no .no) (.seq (.one (.seq .no (.seq .no (.cond (.seq .no .no) .no)))) .no)))))) (.seq .no .no))
theorem run:bC env Tryz.f97 an con:=fun x=>by kernel_rfl
theorem ok:ay Tryz.prog con:=aG (E:=env) run mixed Tryz.func97 (by kernel_rfl) (cons_cons fP.ok (ak))
end bm
namespace cv
def con:Con:=⟨70,[.c (.v (.d lY)),.c (.v (.fn 200 [1000000]))],[(1000000,.box 3 [.d iT])],[],[lY,iT],.one (.v (.d .bool)),[],[.bool],fun x=>cv x.1 x.2⟩
def env:Env:=⟨Tryz.prog,[],[bm.con],[(7,0)],[],[7],[],[],[],[],[],[]⟩
def an:An := .seq .no (.seq .no .no)
theorem run:bC env Tryz.f70 an con:=fun x=>by kernel_rfl
theorem ok:ay Tryz.prog con:=aG (E:=env) run mixed Tryz.func70 (by kernel_rfl) (cons_cons bm.ok (ak))
end cv
namespace eo
def con:Con:=⟨99,[(aD iT),.c (.v (.loc 1000000 0))],[(1000000,.box 37 [.d lY])],[],[iT,lY],.one (.v (.d .bool)),[],[.bool],fun x=>eo x.1 x.2⟩
def env:Env:=⟨Tryz.prog,[],[cv.con],[(6,0)],[],[6],[],[],[],[],[],[]⟩
def an:An := .seq .no (.seq .no .no)
theorem run:bC env Tryz.f99 an con:=fun x=>by kernel_rfl
theorem ok:ay Tryz.prog con:=aG (E:=env) run mixed Tryz.func99 (by kernel_rfl) (cons_cons cv.ok (ak))
end eo
namespace cU
def con:Con:=⟨76,[.c (.g [.d iT,.d iT,.d .str,.d .str,.d lsT,.d lE]),.c (.v (.d lY))],[],[],[iT,iT,.str,.str,lsT,lE,lY],.tup [.a ck,.v (.d iT)],[],[ck,iT],fun x=>cU x.1 x.2.1 x.2.2.1 x.2.2.2.1 x.2.2.2.2.1 x.2.2.2.2.2.1 x.2.2.2.2.2.2⟩
def env:Env:=⟨Tryz.prog,[(22,eG)],[eo.con,cF.con,bR.con],[(21,0),(28,0),(33,0),(36,0),(44,0),(55,1),(98,2)],[31,1000000],[21,28,33,36,44],[],[85],[50,51,53,54,81,82,93,95],[49,52,77,79,83,92,97,4000037,8000024,79000034,88000024,97000034],[],[]⟩
def an:An := .seq .no (.seq .no (.seq .no (.join ⟨[(7,.c (.v (.loc 500006 0))),(8,.c (.v (.d .bool)))],[(500006,.box 24 [.d iT,.d lF])],[.bool,iT,lF]⟩ [4] [4] true (.seq .no (.one (.join ⟨[(15,.c (.v (.d .bool)))],[],[.bool]⟩ [2,3,4,6,7,8,14] [2,3,4,7] true (.seq .no (.cond .no (.seq .no (.cond .no (.seq .no (.cond .no .no)))))) (.cond .no (.seq .no (.cond .no (.seq .no (.cond .no (.seq .no (.cond .no (.join ⟨[(39,.c (.v (.d .bool)))],[],[.bool]⟩ [2,3,4,6,7,8,14] [2,3,4,7] true (.seq .no (.cond .no (.seq .no (.cond .no .no)))) (.cond .no (.seq .no (.cond (.seq .no .no) (.seq .no (.cond (.seq .no (.seq .no (.one (.loop ⟨[(7,.c (.v (.loc 500010 0))),(71,(aD iT))],[(500010,.box 24 [.d iT,.own 500011]),(500011,.arr 53 eG)],[iT,iT,lF]⟩ [2,4,8,69,70] [2,4] (.seq .no (.seq (.cond .no .no) (.seq (.one (.seq .no .no)) .no))))))) (.seq .no (.cond .no .no)))))))))))))))))) (.seq (.seq .no (.cond (.seq .no .no) .no)) (.seq .no .no)))))
theorem run:bC env Tryz.f76 an con:=fun x=>by kernel_rfl
theorem ok:ay Tryz.prog con:=aG (E:=env) run mixed Tryz.func76 (by kernel_rfl) (cons_cons eo.ok (cons_cons cF.ok (cons_cons bR.ok (ak))))
end cU
namespace aw
def con:Con:=cr (rec Fuel.n)
def env (Gr:Gr5):Env:=⟨Tryz.prog,[(22,eG)],[bR.con,(aw.cr Gr),bK.con,(ec.con Gr),(dz.con Gr),(db.con Gr),cU.con],[(22,0),(37,1),(46,2),(57,1),(66,3),(74,4),(82,5),(103,6)],[22,1000000],[37,57,66,74,82],[],[51,52],[55,56],[48,49,54,95,97,7000024,7500006,11500010,48000034,54000034,97000034,101000076],[],[]⟩
def an:An := .seq .no (.seq (.seq .no (.one (.seq .no (.cond (.seq (.seq .no (.seq .no (.cond (.seq .no .no) .no))) (.seq .no .no)) (.seq .no (.cond (.seq .no (.seq (.seq .no (.cond (.seq .no .no) .no)) (.seq .no .no))) (.join ⟨[(60,.c (.v (.d .bool)))],[],[.bool]⟩ [0,1,5,6,15] [5,6,1000000,1000001] true (.seq .no (.cond .no .no)) (.cond (.seq .no .no) (.seq .no (.cond (.seq .no .no) .no)))))))))) (.seq .no (.seq (.seq .no (.cond (.seq .no .no) .no)) (.join ⟨[],[(1000000,.box 76 [.d .str,.d lsT,.d lF,.d lE,.d lU,.d .bool,.d lF,.d lE,.d lE,.mp 1000001,.d iT]),(1000001,.fi true dP)],[.str,lsT,lF,lE,lU,.bool,lF,lE,lE,iT,(.sl (.pair .str dP))]⟩ [5,6,12] [5,6] true (.seq .no (.cond .no .no)) (.seq .no .no)))))
theorem run (Gr:Gr5):bC (env Gr) Tryz.f45 an (cr (body Gr)):=fun x=>by kernel_rfl
theorem okB (Gr:Gr5) (hG:ay Tryz.prog (cr Gr)):ay Tryz.prog (cr (body Gr)):=aG (E:=(env Gr)) (run Gr) mixed Tryz.func45 (by kernel_rfl) (cons_cons bR.ok (cons_cons hG (cons_cons bK.ok (cons_cons (ec.ok Gr hG) (cons_cons (dz.ok Gr hG) (cons_cons (db.ok Gr hG) (cons_cons cU.ok (ak))))))))
theorem okN:∀ n,ay Tryz.prog (cr (rec n))
 | 0=>⟨by kernel_rfl,fun x r h=>by have h2:(none:Option (Tup aw.qs)) = some r:=h; cases h2⟩
 | n + 1=>okB (rec n) (okN n)
theorem ok:ay Tryz.prog con:=okN _
end aw
namespace aE
def con:Con:=⟨44,[.c (.g [.d .str,.d lsT,.d lF,.d lE,.d lU,.d .bool,.d lF,.d lE,.d lE]),.c (.v (.d lA))],[],[],[.str,lsT,lF,lE,lU,.bool,lF,lE,lE,lA],.tup [.v (.pn),.v (.bc false)],[],[],fun x=>aE x.1 x.2.1 x.2.2.1 x.2.2.2.1 x.2.2.2.2.1 x.2.2.2.2.2.1 x.2.2.2.2.2.2.1 x.2.2.2.2.2.2.2.1 x.2.2.2.2.2.2.2.2.1 x.2.2.2.2.2.2.2.2.2⟩
def env:Env:=⟨Tryz.prog,[(74,dP)],[bI.con,bh.con],[(32,0),(37,1)],[11,1000000],[],[],[],[],[44,46,55,57,58,12000061,12500011,44000076,46500008],[],[]⟩
def an:An := .seq .no (.seq .no (.seq (.seq .no (.one (.loop ⟨[(6,.c (.v (.loc 500001 0))),(19,(aD iT))],[(500001,.box 76 [.d .str,.d lsT,.d lF,.d lE,.d lU,.d .bool,.d lF,.d lE,.d lE,.mp 500002,.d iT]),(500002,.fi true dP)],[iT,.str,lsT,lF,lE,lU,.bool,lF,lE,lE,iT,(.sl (.pair .str dP))]⟩ [17,18] [] (.seq .no (.seq (.cond .no .no) (.seq (.one (.seq .no (.join ⟨[],[],[]⟩ [6,8,17,18,19] [8,500001,500002] false (.seq .no (.one (.loop ⟨[(26,(aD iT))],[],[iT]⟩ [6,8,17,18,19,24,25] [8,500001,500002] (.seq .no (.seq (.cond .no .no) (.seq (.one (.seq .no (.join ⟨[(38,.c (.v (.d .bool)))],[],[.bool]⟩ [6,8,17,18,19,24,25,26] [8,500001,500002] true .no (.cond (.seq .no .no) .no)))) .no)))))) (.seq .no (.seq .no (.cond .no .no)))))) .no)))))) (.seq .no .no)))
theorem run:bC env Tryz.f44 an con:=fun x=>by kernel_rfl
theorem ok:ay Tryz.prog con:=aG (E:=env) run mixed Tryz.func44 (by kernel_rfl) (cons_cons bI.ok (cons_cons bh.ok (ak)))
end aE
namespace gy
def con:Con:=⟨21,[.c (.a iJ),.c (.v (.d lA)),.c (.v (.d lF)),.c (.g [.d iT,.d iT,.d .str,.d .str,.d lsT,.d lE])],[],[],[iJ,lA,lF,iT,iT,.str,.str,lsT,lE],.tup [.a ck,.v (.d iT),.v (.d iT)],[],[ck,iT,iT],fun x=>gy x.1 x.2.1 x.2.2.1 x.2.2.2.1 x.2.2.2.2.1 x.2.2.2.2.2.1 x.2.2.2.2.2.2.1 x.2.2.2.2.2.2.2.1 x.2.2.2.2.2.2.2.2⟩
def env:Env:=⟨Tryz.prog,[],[aO.con,cn.con,au.con,bj.con,aw.con,aX.con,aE.con],[(17,0),(21,1),(26,2),(33,3),(43,4),(51,5),(1000033,6)],[1000000],[43],[],[],[],[50,55,9000024,9500008,15500014,55000076],[],[]⟩
def an:An := .seq .no (.seq .no (.seq (.join ⟨[(28,.c (.v (.d .bool)))],[],[.bool]⟩ [1,2,4,7,8] [4,7,8] true .no (.cond (.seq .no .no) .no)) (.seq .no (.seq (.seq .no (.cond (.seq .no .no) .no)) (.seq .no (.seq (.seq .no (.cond (.seq .no .no) .no)) (.seq .no .no)))))))
theorem run:bC env Tryz.f21 an con:=fun x=>by kernel_rfl
theorem ok:ay Tryz.prog con:=aG (E:=env) run mixed Tryz.func21 (by kernel_rfl) (cons_cons aO.ok (cons_cons cn.ok (cons_cons au.ok (cons_cons bj.ok (cons_cons aw.ok (cons_cons aX.ok (cons_cons aE.ok (ak))))))))
end gy
abbrev az.ps:List Ty:=[lF,iT,iT,.str,.str,lsT,lE,.str,.bool,iT]
abbrev az.qs:List Ty:=[ck,iT,.str,.bool,iT]
def az.cr (Gr:Gr6):Con:=⟨45,[.c (.v (.loc 1000000 0)),.c (.v (.d lF)),.c (.g [.d iT,.d iT,.d .str,.d .str,.d lsT,.d lE])],[],[(1000000,.box 76 [.d .str,.nil,.nil,.nil,.nil,.d .bool,.nil,.nil,.nil,.mn,.d iT])],az.ps,.tup [.a ck,.v (.d iT)],[(1000000,.box 76 [.d .str,.nil,.nil,.nil,.nil,.d .bool,.nil,.nil,.nil,.mn,.d iT])],az.qs,fun x=>Gr x.1 x.2.1 x.2.2.1 x.2.2.2.1 x.2.2.2.2.1 x.2.2.2.2.2.1 x.2.2.2.2.2.2.1 x.2.2.2.2.2.2.2.1 x.2.2.2.2.2.2.2.2.1 x.2.2.2.2.2.2.2.2.2⟩
namespace dJ
def con (Gr:Gr6):Con:=⟨73,[.c (.v (.loc 1000000 0)),.c (.v (.d lF)),.c (.g [.d iT,.d iT,.d .str,.d .str,.d lsT,.d lE])],[],[(1000000,.box 76 [.d .str,.nil,.nil,.nil,.nil,.d .bool,.nil,.nil,.nil,.mn,.d iT])],[lF,iT,iT,.str,.str,lsT,lE,.str,.bool,iT],.tup [.a ck,.v (.d iT)],[(1000000,.box 76 [.d .str,.nil,.nil,.nil,.nil,.d .bool,.nil,.nil,.nil,.mn,.d iT])],[ck,iT,.str,.bool,iT],fun x=>dJ Gr x.1 x.2.1 x.2.2.1 x.2.2.2.1 x.2.2.2.2.1 x.2.2.2.2.2.1 x.2.2.2.2.2.2.1 x.2.2.2.2.2.2.2.1 x.2.2.2.2.2.2.2.2.1 x.2.2.2.2.2.2.2.2.2⟩
def env (Gr:Gr6):Env:=⟨Tryz.prog,[],[bR.con,(az.cr Gr),bf.con],[(20,0),(36,1),(47,2)],[],[36],[],[],[],[17,19,9000024,17000076,19000034],[],[]⟩
def an:An := .seq .no (.seq .no (.seq (.seq .no (.cond (.seq .no .no) .no)) (.seq (.seq .no (.cond (.seq .no (.one (.seq .no (.cond (.seq .no .no) (.seq .no (.cond (.seq .no .no) .no)))))) .no)) (.seq .no .no))))
theorem run (Gr:Gr6):bC (env Gr) Tryz.f73 an (con Gr):=fun x=>by kernel_rfl
theorem ok (Gr:Gr6) (hG:ay Tryz.prog (az.cr Gr)):ay Tryz.prog (con Gr):=aG (E:=(env Gr)) (run Gr) mixed Tryz.func73 (by kernel_rfl) (cons_cons bR.ok (cons_cons hG (cons_cons bf.ok (ak))))
end dJ
namespace cw
def con:Con:=⟨98,[.c (.v (.loc 1000000 0)),.c (.g [.d iT,.d iT,.d .str,.d .str,.d lsT,.d lE])],[(1000000,.box 76 [.d .str,.nil,.nil,.nil,.nil,.d .bool,.nil,.nil,.nil,.mn,.d iT])],[],[iT,iT,.str,.str,lsT,lE,.str,.bool,iT],.tup [.a rz,.v (.d .bool)],[],[rz,.bool],fun x=>cw x.1 x.2.1 x.2.2.1 x.2.2.2.1 x.2.2.2.2.1 x.2.2.2.2.2.1 x.2.2.2.2.2.2.1 x.2.2.2.2.2.2.2.1 x.2.2.2.2.2.2.2.2⟩
def env:Env:=⟨Tryz.prog,[(74,dP)],[aH.con,aQ.con,bZ.con],[(23,0),(69,1),(84,2)],[13,1000000],[23,69],[],[51],[],[60,62,81,83,12000061,60000076,62000034],[],[]⟩
def an:An := .seq .no (.join ⟨[],[],[]⟩ [0,3,4] [3,4,1000000] false (.seq .no (.cond (.seq .no (.seq (.seq .no (.cond (.seq .no .no) .no)) (.seq .no (.seq .no (.seq (.seq .no (.one .no)) (.seq .no .no)))))) .no)) (.seq .no (.seq .no (.seq (.join ⟨[(86,.c (.v (.d .bool)))],[],[.bool]⟩ [4,11,13] [4,11] true .no (.cond (.seq .no .no) .no)) (.seq .no .no)))))
theorem run:bC env Tryz.f98 an con:=fun x=>by kernel_rfl
theorem ok:ay Tryz.prog con:=aG (E:=env) run mixed Tryz.func98 (by kernel_rfl) (cons_cons aH.ok (cons_cons aQ.ok (cons_cons bZ.ok (ak))))
end cw
namespace cE
def con (Gr:Gr6):Con:=⟨75,[.c (.v (.loc 1000000 0)),.c (.v (.d lF)),.c (.v (.d lE))],[],[(1000000,.box 76 [.d .str,.nil,.nil,.nil,.nil,.d .bool,.nil,.nil,.nil,.mn,.d iT])],[lF,lE,.str,.bool,iT],.tup [.v (.d lY),.v (.d iT)],[(1000000,.box 76 [.d .str,.nil,.nil,.nil,.nil,.d .bool,.nil,.nil,.nil,.mn,.d iT])],[lY,iT,.str,.bool,iT],fun x=>cE Gr x.1 x.2.1 x.2.2.1 x.2.2.2.1 x.2.2.2.2⟩
def env (Gr:Gr6):Env:=⟨Tryz.prog,[(37,ck)],[(az.cr Gr)],[(23,0)],[],[23],[],[31],[],[],[],[]⟩
def an:An := .seq .no (.seq .no (.seq (.seq .no (.one (.loop ⟨[(0,.c (.v (.loc 1000000 0))),(8,.c (.v (.own 500002))),(15,(aD iT))],[(1000000,.box 76 [.d .str,.nil,.nil,.nil,.nil,.d .bool,.nil,.nil,.nil,.mn,.d iT]),(500002,.arr 24 ck)],[iT,.str,.bool,iT,lY]⟩ [1,13,14] [] (.seq .no (.seq (.cond .no .no) (.seq (.one (.seq .no (.seq .no (.seq (.seq .no (.cond (.seq .no .no) .no)) .no)))) .no)))))) (.seq .no .no)))
theorem run (Gr:Gr6):bC (env Gr) Tryz.f75 an (con Gr):=fun x=>by kernel_rfl
theorem ok (Gr:Gr6) (hG:ay Tryz.prog (az.cr Gr)):ay Tryz.prog (con Gr):=aG (E:=(env Gr)) (run Gr) mixed Tryz.func75 (by kernel_rfl) (cons_cons hG (ak))
end cE
namespace dh
def con (Gr:Gr6):Con:=⟨74,[.c (.v (.loc 1000000 0)),.c (.v (.d lF)),.c (.g [.d iT,.d iT,.d .str,.d .str,.d lsT,.d lE])],[],[(1000000,.box 76 [.d .str,.nil,.nil,.nil,.nil,.d .bool,.nil,.nil,.nil,.mn,.d iT])],[lF,iT,iT,.str,.str,lsT,lE,.str,.bool,iT],.tup [.a ck,.v (.d iT)],[(1000000,.box 76 [.d .str,.nil,.nil,.nil,.nil,.d .bool,.nil,.nil,.nil,.mn,.d iT])],[ck,iT,.str,.bool,iT],fun x=>dh Gr x.1 x.2.1 x.2.2.1 x.2.2.2.1 x.2.2.2.2.1 x.2.2.2.2.2.1 x.2.2.2.2.2.2.1 x.2.2.2.2.2.2.2.1 x.2.2.2.2.2.2.2.2.1 x.2.2.2.2.2.2.2.2.2⟩
def env (Gr:Gr6):Env:=⟨Tryz.prog,[],[cw.con,(cE.con Gr),bf.con],[(17,0),(36,1),(56,2)],[],[17,36],[],[],[54,55],[50,52,63,65,65000063,69000076],[],[]⟩
def an:An := .seq .no (.seq .no (.seq (.seq .no (.cond (.seq .no .no) .no)) (.seq (.seq .no (.cond (.seq .no .no) .no)) (.seq .no (.seq (.seq .no (.cond (.seq .no .no) .no)) (.seq (.seq .no (.one (.loop ⟨[(45,(aD iT))],[],[iT]⟩ [0,6,8,43,44] [6,8,1000000] (.seq .no (.seq (.cond .no .no) (.seq (.one (.seq .no (.seq .no (.cond (.seq .no .no) .no)))) .no)))))) (.seq .no (.seq .no .no))))))))
theorem run (Gr:Gr6):bC (env Gr) Tryz.f74 an (con Gr):=fun x=>by kernel_rfl
theorem ok (Gr:Gr6) (hG:ay Tryz.prog (az.cr Gr)):ay Tryz.prog (con Gr):=aG (E:=(env Gr)) (run Gr) mixed Tryz.func74 (by kernel_rfl) (cons_cons cw.ok (cons_cons (cE.ok Gr hG) (cons_cons bf.ok (ak))))
end dh
namespace az
def con:Con:=cr (rec Fuel.n)
def env (Gr:Gr6):Env:=⟨Tryz.prog,[(22,eG)],[bR.con,(az.cr Gr),bK.con,(dJ.con Gr),(dh.con Gr),(cE.con Gr),cU.con],[(22,0),(37,1),(46,2),(57,1),(66,3),(74,4),(82,5),(103,6)],[22,1000000],[37,57,66,74,82],[],[51,52],[55,56],[48,49,54,95,97,7000024,7500006,11500010,48000034,54000034,97000034,101000076],[],[]⟩
def an:An := .seq .no (.seq (.seq .no (.one (.seq .no (.cond (.seq (.seq .no (.seq .no (.cond (.seq .no .no) .no))) (.seq .no .no)) (.seq .no (.cond (.seq .no (.seq (.seq .no (.cond (.seq .no .no) .no)) (.seq .no .no))) (.join ⟨[(60,.c (.v (.d .bool)))],[],[.bool]⟩ [0,1,5,6,15] [5,6,1000000] true (.seq .no (.cond .no .no)) (.cond (.seq .no .no) (.seq .no (.cond (.seq .no .no) .no)))))))))) (.seq .no (.seq (.seq .no (.cond (.seq .no .no) .no)) (.join ⟨[],[(1000000,.box 76 [.d .str,.nil,.nil,.nil,.nil,.d .bool,.nil,.nil,.nil,.mn,.d iT])],[.str,.bool,iT]⟩ [5,6,12] [5,6] true (.seq .no (.cond .no .no)) (.seq .no .no)))))
theorem run (Gr:Gr6):bC (env Gr) Tryz.f45 an (cr (body Gr)):=fun x=>by kernel_rfl
theorem okB (Gr:Gr6) (hG:ay Tryz.prog (cr Gr)):ay Tryz.prog (cr (body Gr)):=aG (E:=(env Gr)) (run Gr) mixed Tryz.func45 (by kernel_rfl) (cons_cons bR.ok (cons_cons hG (cons_cons bK.ok (cons_cons (dJ.ok Gr hG) (cons_cons (dh.ok Gr hG) (cons_cons (cE.ok Gr hG) (cons_cons cU.ok (ak))))))))
theorem okN:∀ n,ay Tryz.prog (cr (rec n))
 | 0=>⟨by kernel_rfl,fun x r h=>by have h2:(none:Option (Tup az.qs)) = some r:=h; cases h2⟩
 | n + 1=>okB (rec n) (okN n)
theorem ok:ay Tryz.prog con:=okN _
end az
namespace gh
def con:Con:=⟨87,[.c (.v (.d .str)),.c (.v (.d lF)),.c (.g [.d iT,.d iT,.d .str,.d .str,.d lsT,.d lE]),.c (.g [.d iT,.d lF])],[],[],[.str,lF,iT,iT,.str,.str,lsT,lE,iT,lF],.one (.v (.d iT)),[],[iT],fun x=>gh x.1 x.2.1 x.2.2.1 x.2.2.2.1 x.2.2.2.2.1 x.2.2.2.2.2.1 x.2.2.2.2.2.2.1 x.2.2.2.2.2.2.2.1 x.2.2.2.2.2.2.2.2.1 x.2.2.2.2.2.2.2.2.2⟩
def env:Env:=⟨Tryz.prog,[],[az.con,bf.con],[(20,0),(36,1)],[],[20],[],[],[],[],[],[]⟩
def an:An := .seq .no (.seq .no (.seq .no (.seq (.one (.seq .no (.cond (.seq .no .no) (.seq .no (.cond (.seq .no .no) (.seq .no (.cond (.seq .no .no) .no))))))) (.seq .no .no))))
theorem run:bC env Tryz.f87 an con:=fun x=>by kernel_rfl
theorem ok:ay Tryz.prog con:=aG (E:=env) run mixed Tryz.func87 (by kernel_rfl) (cons_cons az.ok (cons_cons bf.ok (ak)))
end gh
namespace cB
def con:Con:=⟨51,[.c (.g [.d .str,.d lsT,.d lF,.d lE,.d lU,.d .bool,.d lF,.d lE,.d lE])],[],[],[.str,lsT,lF,lE,lU,.bool,lF,lE,lE],.tup [.v (.d .str),.v (.d iT)],[],[.str,iT],fun x=>cB x.1 x.2.1 x.2.2.1 x.2.2.2.1 x.2.2.2.2.1 x.2.2.2.2.2.1 x.2.2.2.2.2.2.1 x.2.2.2.2.2.2.2.1 x.2.2.2.2.2.2.2.2⟩
def env:Env:=⟨Tryz.prog,[],[gh.con],[(30,0),(61,0),(89,0)],[8,17],[],[],[],[26,27,57,58,85,86],[22,24,29,49,52,55,60,78,80,83,88],[],[]⟩
def an:An := .seq .no (.join ⟨[],[],[]⟩ [1] [1] false (.seq .no (.one (.loop ⟨[(16,(aD iT))],[],[iT]⟩ [1,14,15] [1] (.seq .no (.seq (.cond .no .no) (.seq (.one (.seq .no (.seq .no (.seq .no (.cond (.seq .no .no) .no))))) .no)))))) (.seq (.seq .no (.cond (.seq .no .no) .no)) (.join ⟨[],[],[]⟩ [1] [1] false (.seq .no (.one (.loop ⟨[(43,(aD iT))],[],[iT]⟩ [1,41,42] [1] (.seq .no (.seq (.cond .no .no) (.seq (.one (.seq .no (.seq .no (.seq .no (.cond (.seq .no .no) .no))))) .no)))))) (.seq (.seq .no (.one (.loop ⟨[(72,(aD iT))],[],[iT]⟩ [1,70,71] [1] (.seq .no (.seq (.cond .no .no) (.seq (.one (.seq .no (.seq .no (.seq .no (.cond (.seq .no .no) .no))))) .no)))))) (.seq .no .no)))))
theorem run:bC env Tryz.f51 an con:=fun x=>by kernel_rfl
theorem ok:ay Tryz.prog con:=aG (E:=env) run mixed Tryz.func51 (by kernel_rfl) (cons_cons gh.ok (ak))
end cB
namespace eF
def con:Con:=⟨23,[.c (.a iJ),.c (.v (.d lA))],[],[],[iJ,lA],.tup [.v (.d .str),.v (.d iT)],[],[.str,iT],fun x=>eF x.1 x.2⟩
def env:Env:=⟨Tryz.prog,[],[bj.con,au.con,cB.con,aw.con,bf.con,aE.con],[(21,0),(28,1),(59,2),(82,3),(95,4),(1000021,5)],[11,1000000],[82],[],[],[],[103,105],[],[]⟩
def an:An := .seq .no (.seq .no (.seq (.seq .no (.cond (.seq .no .no) .no)) (.join ⟨[],[],[]⟩ [2,6] [2,21,10021] false (.seq .no (.one (.loop ⟨[(34,(aD iT))],[],[iT]⟩ [2,6,32,33] [2,21,10021] (.seq .no (.seq (.cond .no .no) (.seq (.one (.seq .no (.seq .no (.join ⟨[(54,.c (.v (.d .bool)))],[],[.bool]⟩ [2,6,9,32,33,34] [2,21,10021] true .no (.cond (.seq .no .no) .no))))) .no)))))) (.seq (.seq .no (.seq .no (.cond (.seq .no .no) .no))) (.seq (.seq .no (.one (.loop ⟨[(6,.c (.v (.loc 500001 0))),(69,(aD iT))],[(500001,.box 76 [.d .str,.d lsT,.d lF,.d lE,.d lU,.d .bool,.d lF,.d lE,.d lE,.mp 500002,.d iT]),(500002,.fi true dP)],[iT,.str,lsT,lF,lE,lU,.bool,lF,lE,lE,iT,(.sl (.pair .str dP))]⟩ [67,68] [] (.seq .no (.seq (.cond .no .no) (.seq (.one (.seq .no (.seq .no (.seq .no (.one (.seq .no (.cond (.seq .no .no) (.seq .no (.cond (.seq .no .no) (.seq .no (.cond (.seq .no .no) .no))))))))))) .no)))))) (.seq .no .no))))))
theorem run:bC env Tryz.f23 an con:=fun x=>by kernel_rfl
theorem ok:ay Tryz.prog con:=aG (E:=env) run mixed Tryz.func23 (by kernel_rfl) (cons_cons bj.ok (cons_cons au.ok (cons_cons cB.ok (cons_cons aw.ok (cons_cons bf.ok (cons_cons aE.ok (ak)))))))
end eF
namespace gu
def con:Con:=⟨18,[.c (.g [.d iT,.d lF]),.c (.g [.d iT,.d lF])],[],[],[iT,lF,iT,lF],.one (.v (.d .bool)),[],[.bool],fun x=>gu x.1 x.2.1 x.2.2.1 x.2.2.2⟩
def env:Env:=⟨Tryz.prog,[],[bI.con,bf.con],[(6,0),(9,0),(14,1)],[],[],[],[],[],[],[],[]⟩
def an:An := .seq .no (.seq .no .no)
theorem run:bC env Tryz.f18 an con:=fun x=>by kernel_rfl
theorem ok:ay Tryz.prog con:=aG (E:=env) run mixed Tryz.func18 (by kernel_rfl) (cons_cons bI.ok (cons_cons bf.ok (ak)))
end gu
abbrev aY.ps:List Ty:=[iT,lF,iT,lF]
abbrev aY.qs:List Ty:=[.bool]
def aY.cr (Gr:Gr1):Con:=⟨39,[.c (.g [.d iT,.d lF]),.c (.g [.d iT,.d lF])],[],[],aY.ps,.one (.v (.d .bool)),[],aY.qs,fun x=>Gr x.1 x.2.1 x.2.2.1 x.2.2.2⟩
namespace cg
def con (Gr:Gr1):Con:=⟨64,[.c (.v (.d lF)),.c (.v (.d lF))],[],[],[lF,lF],.one (.v (.d .bool)),[],[.bool],fun x=>cg Gr x.1 x.2⟩
def env (Gr:Gr1):Env:=⟨Tryz.prog,[],[(aY.cr Gr)],[(39,0)],[1000000],[],[],[],[19,21,24,26,31,33,36,38],[],[],[]⟩
def an:An := .seq .no (.seq (.seq .no (.cond (.seq .no .no) .no)) (.seq (.seq .no (.one (.loop ⟨[(5,(aD iT))],[],[iT]⟩ [0,1] [] (.seq (.seq .no (.cond .no .no)) (.seq (.one (.join ⟨[(41,.c (.v (.d .bool)))],[],[.bool]⟩ [0,1,5] [] true .no (.cond (.seq .no .no) .no))) .no))))) (.seq .no .no)))
theorem run (Gr:Gr1):bC (env Gr) Tryz.f64 an (con Gr):=fun x=>by kernel_rfl
theorem ok (Gr:Gr1) (hG:ay Tryz.prog (aY.cr Gr)):ay Tryz.prog (con Gr):=aG (E:=(env Gr)) (run Gr) mixed Tryz.func64 (by kernel_rfl) (cons_cons hG (ak))
end cg
namespace aY
def con:Con:=cr (rec Fuel.n)
def env (Gr:Gr1):Env:=⟨Tryz.prog,[],[(cg.con Gr)],[(15,0)],[],[],[],[],[],[],[],[]⟩
def an:An := .seq .no (.seq .no .no)
theorem run (Gr:Gr1):bC (env Gr) Tryz.f39 an (cr (body Gr)):=fun x=>by kernel_rfl
theorem okB (Gr:Gr1) (hG:ay Tryz.prog (cr Gr)):ay Tryz.prog (cr (body Gr)):=aG (E:=(env Gr)) (run Gr) mixed Tryz.func39 (by kernel_rfl) (cons_cons (cg.ok Gr hG) (ak))
theorem okN:∀ n,ay Tryz.prog (cr (rec n))
 | 0=>⟨by kernel_rfl,fun x r h=>by have h2:(none:Option (Tup aY.qs)) = some r:=h; cases h2⟩
 | n + 1=>okB (rec n) (okN n)
theorem ok:ay Tryz.prog con:=okN _
end aY
namespace cX
def con:Con:=⟨20,[.c (.g [.d iT,.d lF]),.c (.g [.d iT,.d lF])],[],[],[iT,lF,iT,lF],.one (.v (.d .bool)),[],[.bool],fun x=>cX x.1 x.2.1 x.2.2.1 x.2.2.2⟩
def env:Env:=⟨Tryz.prog,[],[aY.con],[(7,0)],[],[],[],[],[],[],[],[]⟩
def an:An := .seq .no (.seq .no .no)
theorem run:bC env Tryz.f20 an con:=fun x=>by kernel_rfl
theorem ok:ay Tryz.prog con:=aG (E:=env) run mixed Tryz.func20 (by kernel_rfl) (cons_cons aY.ok (ak))
end cX
namespace eV
def con:Con:=⟨4,[],[],[],[],.one (.v (.d .bool)),[],[.bool],fun x=>eV⟩
def env:Env:=⟨Tryz.prog,[(22,eG),(25,.str),(26,nU),(27,nO)],[dm.con,eU.con,eb.con,eJ.con,gy.con,eF.con,gu.con,cX.con],[(30,0),(34,0),(35,1),(41,0),(45,0),(46,2),(50,3),(51,3),(55,3),(68,4),(72,3),(80,5),(86,0),(89,0),(90,6),(94,0),(98,0),(99,6),(109,0),(110,7),(120,0),(121,7)],[],[],[],[29,33,40,44,49,52,54,56,62,66,73,76,85,88,93,97,108,119],[],[27,28,31,32,39,42,83,84,87,92,95,96,106,107,117,118,3500002,4000053,5000053,6000053,7000024,9000024,9500008],[],[]⟩
def an:An := .seq .no (.seq .no (.seq .no (.seq .no (.seq .no (.seq .no (.seq .no (.seq .no (.seq .no (.seq .no (.seq .no (.seq .no (.seq .no (.seq .no .no)))))))))))))
theorem run:bC env Tryz.f4 an con:=fun x=>by kernel_rfl
theorem ok:ay Tryz.prog con:=aG (E:=env) run mixed Tryz.func4 (by kernel_rfl) (cons_cons dm.ok (cons_cons eU.ok (cons_cons eb.ok (cons_cons eJ.ok (cons_cons gy.ok (cons_cons eF.ok (cons_cons gu.ok (cons_cons cX.ok (ak)))))))))
end eV
abbrev aC.ps:List Ty:=[iT,lF,iT,iT]
abbrev aC.qs:List Ty:=[iT]
def aC.cr (Gr:Gr8):Con:=⟨27,[.c (.g [.d iT,.d lF]),(aD iT),(aD iT)],[],[],aC.ps,.one (.v (.d iT)),[],aC.qs,fun x=>Gr x.1 x.2.1 x.2.2.1 x.2.2.2⟩
namespace aC
def con:Con:=cr (rec Fuel.n)
def env (Gr:Gr8):Env:=⟨Tryz.prog,[],[(aC.cr Gr)],[(53,0)],[1000000],[],[],[],[],[],[],[]⟩
def an:An := .seq .no (.seq .no (.seq (.join ⟨[(16,.c (.v (.d .bool)))],[],[.bool]⟩ [1,2,3,7] [3] true .no (.cond (.seq .no .no) .no)) (.seq (.seq .no (.one (.loop ⟨[(7,(aD iT)),(8,(aD iT))],[],[iT,iT]⟩ [1,2,3] [3] (.seq (.join ⟨[(28,.c (.v (.d .bool)))],[],[.bool]⟩ [1,2,3,7,8] [3] true .no (.cond .no .no)) (.seq (.one (.seq (.seq .no (.cond (.seq .no .no) .no)) .no)) .no))))) (.seq .no .no))))
theorem run (Gr:Gr8):bC (env Gr) Tryz.f27 an (cr (body Gr)):=fun x=>by kernel_rfl
theorem okB (Gr:Gr8) (hG:ay Tryz.prog (cr Gr)):ay Tryz.prog (cr (body Gr)):=aG (E:=(env Gr)) (run Gr) mixed Tryz.func27 (by kernel_rfl) (cons_cons hG (ak))
theorem okN:∀ n,ay Tryz.prog (cr (rec n))
 | 0=>⟨by kernel_rfl,fun x r h=>by have h2:(none:Option (Tup aC.qs)) = some r:=h; cases h2⟩
 | n + 1=>okB (rec n) (okN n)
theorem ok:ay Tryz.prog con:=okN _
end aC
namespace bL
def con:Con:=⟨5,[.c (.v (.d lY))],[],[],[lY],.one (.v (.d .bool)),[],[.bool],fun x=>bL x⟩
def env:Env:=⟨Tryz.prog,[],[aC.con],[(14,0)],[],[],[],[],[],[],[],[]⟩
def an:An := .seq .no (.seq (.seq .no (.one (.loop ⟨[(3,(aD iT))],[],[iT]⟩ [0] [] (.seq (.seq .no (.cond .no .no)) (.seq (.one (.seq .no (.cond (.seq .no .no) .no))) .no))))) (.seq .no .no))
theorem run:bC env Tryz.f5 an con:=fun x=>by kernel_rfl
theorem ok:ay Tryz.prog con:=aG (E:=env) run mixed Tryz.func5 (by kernel_rfl) (cons_cons aC.ok (ak))
end bL
namespace bp
def con:Con:=⟨8,[.c (.v (.d lF))],[],[],[lF],.one (.v (.d .bool)),[],[.bool],fun x=>bp x⟩
def env:Env:=⟨Tryz.prog,[(37,ck)],[bL.con],[(28,0)],[1000000],[],[],[27],[],[],[],[]⟩
def an:An := .seq .no (.seq (.seq .no (.one (.loop ⟨[(3,(aD iT))],[],[iT]⟩ [0] [] (.seq (.join ⟨[(11,.c (.v (.d .bool)))],[],[.bool]⟩ [0,3] [] true .no (.cond .no .no)) (.seq (.one (.join ⟨[(30,.c (.v (.d .bool)))],[],[.bool]⟩ [0,3] [] true .no (.cond (.seq .no .no) .no))) .no))))) (.seq .no .no))
theorem run:bC env Tryz.f8 an con:=fun x=>by kernel_rfl
theorem ok:ay Tryz.prog con:=aG (E:=env) run mixed Tryz.func8 (by kernel_rfl) (cons_cons bL.ok (ak))
end bp
abbrev aM.ps:List Ty:=[iT,iT,.str,.str,lsT,lE,iT,iT]
abbrev aM.qs:List Ty:=[iT]
def aM.cr (Gr:Gr9):Con:=⟨28,[.c (.g [.d iT,.d iT,.d .str,.d .str,.d lsT,.d lE]),(aD iT),(aD iT)],[],[],aM.ps,.one (.v (.d iT)),[],aM.qs,fun x=>Gr x.1 x.2.1 x.2.2.1 x.2.2.2.1 x.2.2.2.2.1 x.2.2.2.2.2.1 x.2.2.2.2.2.2.1 x.2.2.2.2.2.2.2⟩
namespace aM
def con:Con:=cr (rec Fuel.n)
def env (Gr:Gr9):Env:=⟨Tryz.prog,[],[(aM.cr Gr)],[(54,0)],[1000000],[],[],[],[],[],[],[]⟩
def an:An := .seq .no (.seq .no (.seq (.join ⟨[(28,.c (.v (.d .bool)))],[],[.bool]⟩ [1,2,3,7] [3] true .no (.cond (.seq .no .no) .no)) (.seq (.seq .no (.one (.loop ⟨[(7,(aD iT)),(8,(aD iT))],[],[iT,iT]⟩ [1,2,3] [3] (.seq (.join ⟨[(40,.c (.v (.d .bool)))],[],[.bool]⟩ [1,2,3,7,8] [3] true .no (.cond .no .no)) (.seq (.one .no) .no))))) (.seq .no .no))))
theorem run (Gr:Gr9):bC (env Gr) Tryz.f28 an (cr (body Gr)):=fun x=>by kernel_rfl
theorem okB (Gr:Gr9) (hG:ay Tryz.prog (cr Gr)):ay Tryz.prog (cr (body Gr)):=aG (E:=(env Gr)) (run Gr) mixed Tryz.func28 (by kernel_rfl) (cons_cons hG (ak))
theorem okN:∀ n,ay Tryz.prog (cr (rec n))
 | 0=>⟨by kernel_rfl,fun x r h=>by have h2:(none:Option (Tup aM.qs)) = some r:=h; cases h2⟩
 | n + 1=>okB (rec n) (okN n)
theorem ok:ay Tryz.prog con:=okN _
end aM
namespace bU
def con:Con:=⟨9,[.c (.v (.d lE))],[],[],[lE],.one (.v (.d .bool)),[],[.bool],fun x=>bU x⟩
def env:Env:=⟨Tryz.prog,[],[aM.con],[(18,0)],[1000000],[],[],[],[],[],[],[]⟩
def an:An := .seq .no (.seq (.seq .no (.one (.loop ⟨[(3,(aD iT))],[],[iT]⟩ [0] [] (.seq (.join ⟨[(11,.c (.v (.d .bool)))],[],[.bool]⟩ [0,3] [] true .no (.cond .no .no)) (.seq (.one (.seq .no (.cond (.seq .no .no) .no))) .no))))) (.seq .no .no))
theorem run:bC env Tryz.f9 an con:=fun x=>by kernel_rfl
theorem ok:ay Tryz.prog con:=aG (E:=env) run mixed Tryz.func9 (by kernel_rfl) (cons_cons aM.ok (ak))
end bU
namespace bq
def con:Con:=⟨6,[.c (.g [.d .str,.d lsT,.d lF,.d lE,.d lU,.d .bool,.d lF,.d lE,.d lE])],[],[],[.str,lsT,lF,lE,lU,.bool,lF,lE,lE],.one (.v (.d .bool)),[],[.bool],fun x=>bq x.1 x.2.1 x.2.2.1 x.2.2.2.1 x.2.2.2.2.1 x.2.2.2.2.2.1 x.2.2.2.2.2.2.1 x.2.2.2.2.2.2.2.1 x.2.2.2.2.2.2.2.2⟩
def env:Env:=⟨Tryz.prog,[(26,nU),(37,ck)],[bp.con,bL.con,bU.con],[(23,0),(29,1),(36,2),(58,0),(63,2),(69,0),(75,2),(81,2)],[7,1000000],[],[],[28,35],[],[],[],[]⟩
def an:An := .seq .no (.join ⟨[],[],[]⟩ [1] [1] false (.seq .no (.one (.loop ⟨[(3,(aD iT))],[],[iT]⟩ [1] [1] (.seq (.join ⟨[(13,.c (.v (.d .bool)))],[],[.bool]⟩ [1,3] [1] true .no (.cond .no .no)) (.seq (.one (.seq .no (.join ⟨[(44,.c (.v (.d .bool)))],[],[.bool]⟩ [1,3] [1] true .no (.cond (.seq .no .no) .no)))) .no))))) (.seq .no .no))
theorem run:bC env Tryz.f6 an con:=fun x=>by kernel_rfl
theorem ok:ay Tryz.prog con:=aG (E:=env) run mixed Tryz.func6 (by kernel_rfl) (cons_cons bp.ok (cons_cons bL.ok (cons_cons bU.ok (ak))))
end bq
namespace aU
def con:Con:=⟨7,[.c (.v (.d lA))],[],[],[lA],.one (.v (.d .bool)),[],[.bool],fun x=>aU x⟩
def env:Env:=⟨Tryz.prog,[(37,ck)],[bL.con],[(45,0),(52,0)],[10,1000000],[],[],[51],[],[],[],[]⟩
def an:An := .seq .no (.seq (.seq .no (.one (.loop ⟨[(3,(aD iT))],[],[iT]⟩ [0] [] (.seq (.join ⟨[(13,.c (.v (.d .bool)))],[],[.bool]⟩ [0,3] [] true .no (.cond .no .no)) (.seq (.one (.join ⟨[],[],[]⟩ [0,3] [] false (.seq .no (.one (.loop ⟨[(4,(aD iT))],[],[iT]⟩ [0,3] [] (.seq (.join ⟨[(27,.c (.v (.d .bool)))],[],[.bool]⟩ [0,3,4] [] true .no (.cond .no .no)) (.seq (.one (.seq .no (.join ⟨[(54,.c (.v (.d .bool)))],[],[.bool]⟩ [0,3,4] [] true .no (.cond (.seq .no .no) .no)))) .no))))) (.seq .no (.cond (.seq .no .no) .no)))) .no))))) (.seq .no .no))
theorem run:bC env Tryz.f7 an con:=fun x=>by kernel_rfl
theorem ok:ay Tryz.prog con:=aG (E:=env) run mixed Tryz.func7 (by kernel_rfl) (cons_cons bL.ok (ak))
end aU
namespace cO
def con:Con:=⟨82,[(aD iT),(aD iT),(aD iT)],[],[],[iT,iT,iT],.one (.v (.d .bool)),[],[.bool],fun x=>cO x.1 x.2.1 x.2.2⟩
def env:Env:=⟨Tryz.prog,[],[],[],[],[],[],[],[],[],[],[]⟩
def an:An := .seq .no (.seq .no .no)
theorem run:bC env Tryz.f82 an con:=fun x=>by kernel_rfl
theorem ok:ay Tryz.prog con:=aG (E:=env) run mixed Tryz.func82 (by kernel_rfl) (ak)
end cO
namespace cx
def con:Con:=⟨92,[.c (.v (.d lF))],[],[],[lF],.one (.v (.d lsT)),[],[lsT],fun x=>cx x⟩
def env:Env:=⟨Tryz.prog,[(25,.str)],[],[],[],[],[],[17],[],[],[],[]⟩
def an:An := .seq .no (.seq .no (.seq (.seq .no (.one (.loop ⟨[(3,.c (.v (.own 500002))),(4,(aD iT))],[(500002,.arr 9 .str)],[iT,lsT]⟩ [0] [] (.seq (.seq .no (.cond .no .no)) (.seq (.one .no) .no))))) (.seq .no .no)))
theorem run:bC env Tryz.f92 an con:=fun x=>by kernel_rfl
theorem ok:ay Tryz.prog con:=aG (E:=env) run mixed Tryz.func92 (by kernel_rfl) (ak)
end cx
namespace eh
def con:Con:=⟨121,[.c (.v (.d (.int .u8)))],[],[],[(.int .u8)],.one (.v (.d .bool)),[],[.bool],fun x=>eh x⟩
def env:Env:=⟨Tryz.prog,[],[],[],[],[],[],[],[],[],[],[]⟩
def an:An := .seq .no (.seq .no .no)
theorem run:bC env Tryz.f121 an con:=fun x=>by kernel_rfl
theorem ok:ay Tryz.prog con:=aG (E:=env) run mixed Tryz.func121 (by kernel_rfl) (ak)
end eh
namespace eW
def con:Con:=⟨122,[.c (.v (.d (.int .u8)))],[],[],[(.int .u8)],.one (.v (.d .bool)),[],[.bool],fun x=>eW x⟩
def env:Env:=⟨Tryz.prog,[],[],[],[],[],[],[],[],[],[],[]⟩
def an:An := .seq .no (.seq .no .no)
theorem run:bC env Tryz.f122 an con:=fun x=>by kernel_rfl
theorem ok:ay Tryz.prog con:=aG (E:=env) run mixed Tryz.func122 (by kernel_rfl) (ak)
end eW
namespace bV
def con:Con:=⟨102,[.c (.v (.d .str))],[],[],[.str],.one (.v (.d .bool)),[],[.bool],fun x=>bV x⟩
def env:Env:=⟨Tryz.prog,[],[eh.con,eW.con],[(15,0),(27,0),(33,1)],[1000000],[],[],[],[],[],[],[]⟩
def an:An := .seq .no (.seq (.join ⟨[(17,.c (.v (.d .bool)))],[],[.bool]⟩ [0] [] true .no (.cond (.seq .no .no) .no)) (.seq (.seq .no (.one (.loop ⟨[(3,(aD iT))],[],[iT]⟩ [0] [] (.seq (.seq .no (.cond .no .no)) (.seq (.one (.join ⟨[(35,.c (.v (.d .bool)))],[],[.bool]⟩ [0,3] [] true .no (.cond (.seq .no .no) .no))) .no))))) (.seq .no .no)))
theorem run:bC env Tryz.f102 an con:=fun x=>by kernel_rfl
theorem ok:ay Tryz.prog con:=aG (E:=env) run mixed Tryz.func102 (by kernel_rfl) (cons_cons eh.ok (cons_cons eW.ok (ak)))
end bV
namespace ek
def con:Con:=⟨104,[],[],[],[],.one (.v (.d lsT)),[],[lsT],fun x=>ek⟩
def env:Env:=⟨Tryz.prog,[(25,.str)],[],[],[],[],[],[1],[],[],[],[]⟩
def an:An := .seq .no (.seq .no .no)
theorem run:bC env Tryz.f104 an con:=fun x=>by kernel_rfl
theorem ok:ay Tryz.prog con:=aG (E:=env) run mixed Tryz.func104 (by kernel_rfl) (ak)
end ek
namespace dd
def con:Con:=⟨103,[(aD lsT),.c (.v (.d .str))],[],[],[lsT,.str],.one (.v (.d iT)),[],[iT],fun x=>dd x.1 x.2⟩
def env:Env:=⟨Tryz.prog,[],[],[],[],[],[],[],[],[],[],[]⟩
def an:An := .seq .no (.seq (.seq .no (.one (.loop ⟨[(5,(aD iT))],[],[iT]⟩ [0,1] [] (.seq (.seq .no (.cond .no .no)) (.seq (.one (.seq .no (.cond (.seq .no .no) .no))) .no))))) (.seq .no .no))
theorem run:bC env Tryz.f103 an con:=fun x=>by kernel_rfl
theorem ok:ay Tryz.prog con:=aG (E:=env) run mixed Tryz.func103 (by kernel_rfl) (ak)
end dd
namespace cq
def con:Con:=⟨78,[.c (.v (.d .str))],[],[],[.str],.one (.v (.d .bool)),[],[.bool],fun x=>cq x⟩
def env:Env:=⟨Tryz.prog,[],[bV.con,ek.con,dd.con],[(4,0),(6,1),(8,2)],[],[],[],[],[],[],[],[]⟩
def an:An := .seq .no (.seq .no .no)
theorem run:bC env Tryz.f78 an con:=fun x=>by kernel_rfl
theorem ok:ay Tryz.prog con:=aG (E:=env) run mixed Tryz.func78 (by kernel_rfl) (cons_cons bV.ok (cons_cons ek.ok (cons_cons dd.ok (ak))))
end cq
namespace bo
def con:Con:=⟨91,[(aD lsT)],[],[],[lsT],.one (.v (.d .bool)),[],[.bool],fun x=>bo x⟩
def env:Env:=⟨Tryz.prog,[],[cq.con],[(14,0)],[1000000],[],[],[],[12,13,23,24,27,28],[],[],[]⟩
def an:An := .seq .no (.seq (.seq .no (.one (.loop ⟨[(3,(aD iT))],[],[iT]⟩ [0] [] (.seq (.seq .no (.cond .no .no)) (.seq (.one (.join ⟨[(31,.c (.v (.d .bool)))],[],[.bool]⟩ [0,3] [] true .no (.cond (.seq .no .no) .no))) .no))))) (.seq .no .no))
theorem run:bC env Tryz.f91 an con:=fun x=>by kernel_rfl
theorem ok:ay Tryz.prog con:=aG (E:=env) run mixed Tryz.func91 (by kernel_rfl) (cons_cons cq.ok (ak))
end bo
abbrev aS.ps:List Ty:=[iT,lF,iT]
abbrev aS.qs:List Ty:=[.bool]
def aS.cr (Gr:Gr4):Con:=⟨60,[.c (.g [.d iT,.d lF]),(aD iT)],[],[],aS.ps,.one (.v (.d .bool)),[],aS.qs,fun x=>Gr x.1 x.2.1 x.2.2⟩
namespace aS
def con:Con:=cr (rec Fuel.n)
def env (Gr:Gr4):Env:=⟨Tryz.prog,[],[cO.con,cx.con,bo.con,(aS.cr Gr)],[(11,0),(34,1),(35,2),(53,3)],[1000000],[],[],[],[],[],[],[]⟩
def an:An := .seq .no (.seq (.join ⟨[(37,.c (.v (.d .bool)))],[],[.bool]⟩ [1,2] [2] true .no (.cond (.seq .no .no) .no)) (.seq (.seq .no (.one (.loop ⟨[(5,(aD iT))],[],[iT]⟩ [1,2] [2] (.seq (.seq .no (.cond .no .no)) (.seq (.one (.seq .no (.cond (.seq .no .no) .no))) .no))))) (.seq .no .no)))
theorem run (Gr:Gr4):bC (env Gr) Tryz.f60 an (cr (body Gr)):=fun x=>by kernel_rfl
theorem okB (Gr:Gr4) (hG:ay Tryz.prog (cr Gr)):ay Tryz.prog (cr (body Gr)):=aG (E:=(env Gr)) (run Gr) mixed Tryz.func60 (by kernel_rfl) (cons_cons cO.ok (cons_cons cx.ok (cons_cons bo.ok (cons_cons hG (ak)))))
theorem okN:∀ n,ay Tryz.prog (cr (rec n))
 | 0=>⟨by kernel_rfl,fun x r h=>by have h2:(none:Option (Tup aS.qs)) = some r:=h; cases h2⟩
 | n + 1=>okB (rec n) (okN n)
theorem ok:ay Tryz.prog con:=okN _
end aS
namespace cI
def con:Con:=⟨34,[.c (.g [.d iT,.d lF])],[],[],[iT,lF],.one (.v (.d .bool)),[],[.bool],fun x=>cI x.1 x.2⟩
def env:Env:=⟨Tryz.prog,[],[aS.con],[(4,0)],[],[],[],[],[],[],[],[]⟩
def an:An := .seq .no (.seq .no .no)
theorem run:bC env Tryz.f34 an con:=fun x=>by kernel_rfl
theorem ok:ay Tryz.prog con:=aG (E:=env) run mixed Tryz.func34 (by kernel_rfl) (cons_cons aS.ok (ak))
end cI
namespace aN
def con:Con:=⟨15,[.c (.g [.d iT,.d lF])],[],[],[iT,lF],.one (.v (.d .bool)),[],[.bool],fun x=>aN x.1 x.2⟩
def env:Env:=⟨Tryz.prog,[],[cI.con],[(4,0)],[],[],[],[],[],[],[],[]⟩
def an:An := .seq .no (.seq .no .no)
theorem run:bC env Tryz.f15 an con:=fun x=>by kernel_rfl
theorem ok:ay Tryz.prog con:=aG (E:=env) run mixed Tryz.func15 (by kernel_rfl) (cons_cons cI.ok (ak))
end aN
abbrev aA.ps:List Ty:=[iT,lF,iT,lF]
abbrev aA.qs:List Ty:=[ck,.bool]
def aA.cr (Gr:Gr2):Con:=⟨30,[.c (.g [.d iT,.d lF]),.c (.g [.d iT,.d lF])],[],[],aA.ps,.tup [.a ck,.v (.d .bool)],[],aA.qs,fun x=>Gr x.1 x.2.1 x.2.2.1 x.2.2.2⟩
namespace aA
def con:Con:=cr (rec Fuel.n)
def env (Gr:Gr2):Env:=⟨Tryz.prog,[(22,eG)],[(aA.cr Gr)],[(45,0)],[1000000],[],[],[61,103,136],[36,38,42,44,56,58,72,78,84,86,90,92,101,102,112,118,120,124,126,134,135],[34,40,52,54,59,71,77,82,88,97,99,111,116,122,130,132,10500009,34500002,40500003],[],[]⟩
def an:An := .seq .no (.seq (.seq .no (.cond (.seq .no .no) .no)) (.seq .no (.seq .no (.seq .no (.seq (.one (.loop ⟨[(6,.c (.v (.loc 500004 0))),(7,(aD iT)),(8,(aD iT))],[(500004,.box 24 [.d iT,.own 500005]),(500005,.arr 53 eG)],[iT,iT,iT,lF]⟩ [2,3,4] [2,3,4] (.seq (.join ⟨[(31,.c (.v (.d .bool)))],[],[.bool]⟩ [2,3,4,6,7,8] [2,3,4,500004,500005] true .no (.cond .no .no)) (.one (.one (.join ⟨[(68,.c (.v (.d .bool)))],[],[.bool]⟩ [2,3,4,6,7,8] [2,3,4,500004,500005] true .no (.cond (.seq .no .no) (.join ⟨[(108,.c (.v (.d .bool)))],[],[.bool]⟩ [2,3,4,6,7,8] [2,3,4,500004,500005] true .no (.cond (.seq .no .no) (.seq .no (.seq (.seq .no (.cond (.seq .no .no) .no)) (.seq .no (.seq .no .no))))))))))))) (.seq .no .no))))))
theorem run (Gr:Gr2):bC (env Gr) Tryz.f30 an (cr (body Gr)):=fun x=>by kernel_rfl
theorem okB (Gr:Gr2) (hG:ay Tryz.prog (cr Gr)):ay Tryz.prog (cr (body Gr)):=aG (E:=(env Gr)) (run Gr) mixed Tryz.func30 (by kernel_rfl) (cons_cons hG (ak))
theorem okN:∀ n,ay Tryz.prog (cr (rec n))
 | 0=>⟨by kernel_rfl,fun x r h=>by have h2:(none:Option (Tup aA.qs)) = some r:=h; cases h2⟩
 | n + 1=>okB (rec n) (okN n)
theorem ok:ay Tryz.prog con:=okN _
end aA
namespace dj
def con:Con:=⟨11,[.c (.g [.d iT,.d lF]),.c (.g [.d iT,.d lF])],[],[],[iT,lF,iT,lF],.tup [.a ck,.v (.d .bool)],[],[ck,.bool],fun x=>dj x.1 x.2.1 x.2.2.1 x.2.2.2⟩
def env:Env:=⟨Tryz.prog,[],[aN.con,aA.con],[(9,0),(13,0),(20,1),(27,0)],[1000000],[],[],[],[],[],[],[]⟩
def an:An := .seq .no (.seq (.join ⟨[(15,.c (.v (.d .bool)))],[],[.bool]⟩ [2,3,4] [2,3,4] true .no (.cond (.seq .no .no) .no)) (.seq .no (.seq (.join ⟨[(29,.c (.v (.d .bool)))],[],[.bool]⟩ [4,6] [4,6] true .no (.cond (.seq .no .no) .no)) (.seq .no .no))))
theorem run:bC env Tryz.f11 an con:=fun x=>by kernel_rfl
theorem ok:ay Tryz.prog con:=aG (E:=env) run mixed Tryz.func11 (by kernel_rfl) (cons_cons aN.ok (cons_cons aA.ok (ak)))
end dj
namespace bD
def con:Con:=⟨58,[.c (.v (.d lF)),.c (.v (.d .str))],[],[],[lF,.str],.tup [.a ck,.v (.d .bool)],[],[ck,.bool],fun x=>bD x.1 x.2⟩
def env:Env:=⟨Tryz.prog,[],[],[],[],[],[],[],[],[],[],[]⟩
def an:An := .seq .no (.seq (.seq .no (.one (.loop ⟨[(6,(aD iT))],[],[iT]⟩ [0,1,4] [4] (.seq (.seq .no (.cond .no .no)) (.seq (.one (.seq .no (.cond (.seq .no .no) .no))) .no))))) (.seq .no .no))
theorem run:bC env Tryz.f58 an con:=fun x=>by kernel_rfl
theorem ok:ay Tryz.prog con:=aG (E:=env) run mixed Tryz.func58 (by kernel_rfl) (ak)
end bD
abbrev aZ.ps:List Ty:=[iT,lF,iT,lF]
abbrev aZ.qs:List Ty:=[ck,.bool]
def aZ.cr (Gr:Gr2):Con:=⟨32,[.c (.g [.d iT,.d lF]),.c (.g [.d iT,.d lF])],[],[],aZ.ps,.tup [.a ck,.v (.d .bool)],[],aZ.qs,fun x=>Gr x.1 x.2.1 x.2.2.1 x.2.2.2⟩
namespace aZ
def con:Con:=cr (rec Fuel.n)
def env (Gr:Gr2):Env:=⟨Tryz.prog,[(22,eG)],[bD.con,(aZ.cr Gr)],[(37,0),(50,1)],[],[],[],[64],[34,36,46,48,59,61],[30,32,44,49,55,57,62,9500008,11500010,30500003,32500002,44500002],[],[]⟩
def an:An := .seq .no (.seq (.seq .no (.cond (.seq .no .no) .no)) (.seq .no (.seq (.seq .no (.one (.loop ⟨[(6,.c (.v (.loc 500004 0))),(7,(aD iT))],[(500004,.box 24 [.d iT,.own 500005]),(500005,.arr 53 eG)],[iT,iT,lF]⟩ [2,3,4] [2,3,4] (.seq (.seq .no (.cond .no .no)) (.seq (.one (.seq .no (.seq (.seq .no (.cond .no .no)) (.seq .no (.seq .no (.cond .no .no)))))) .no))))) (.seq .no .no))))
theorem run (Gr:Gr2):bC (env Gr) Tryz.f32 an (cr (body Gr)):=fun x=>by kernel_rfl
theorem okB (Gr:Gr2) (hG:ay Tryz.prog (cr Gr)):ay Tryz.prog (cr (body Gr)):=aG (E:=(env Gr)) (run Gr) mixed Tryz.func32 (by kernel_rfl) (cons_cons bD.ok (cons_cons hG (ak)))
theorem okN:∀ n,ay Tryz.prog (cr (rec n))
 | 0=>⟨by kernel_rfl,fun x r h=>by have h2:(none:Option (Tup aZ.qs)) = some r:=h; cases h2⟩
 | n + 1=>okB (rec n) (okN n)
theorem ok:ay Tryz.prog con:=okN _
end aZ
namespace dK
def con:Con:=⟨13,[.c (.g [.d iT,.d lF]),.c (.g [.d iT,.d lF])],[],[],[iT,lF,iT,lF],.tup [.a ck,.v (.d .bool)],[],[ck,.bool],fun x=>dK x.1 x.2.1 x.2.2.1 x.2.2.2⟩
def env:Env:=⟨Tryz.prog,[],[aN.con,aZ.con],[(9,0),(13,0),(20,1)],[1000000],[],[],[],[],[],[],[]⟩
def an:An := .seq .no (.seq (.join ⟨[(15,.c (.v (.d .bool)))],[],[.bool]⟩ [2,3,4] [2,3,4] true .no (.cond (.seq .no .no) .no)) (.seq .no (.seq .no .no)))
theorem run:bC env Tryz.f13 an con:=fun x=>by kernel_rfl
theorem ok:ay Tryz.prog con:=aG (E:=env) run mixed Tryz.func13 (by kernel_rfl) (cons_cons aN.ok (cons_cons aZ.ok (ak)))
end dK
abbrev bS.ps:List Ty:=[iT,lF,iT,lF]
abbrev bS.qs:List Ty:=[.bool]
def bS.cr (Gr:Gr1):Con:=⟨35,[.c (.g [.d iT,.d lF]),.c (.g [.d iT,.d lF])],[],[],bS.ps,.one (.v (.d .bool)),[],bS.qs,fun x=>Gr x.1 x.2.1 x.2.2.1 x.2.2.2⟩
namespace ft
def con (Gr:Gr1):Con:=⟨62,[.c (.g [.d .str,.d iT,.d lF]),.c (.g [.d .str,.d iT,.d lF])],[],[],[.str,iT,lF,.str,iT,lF],.one (.v (.d .bool)),[],[.bool],fun x=>ft Gr x.1 x.2.1 x.2.2.1 x.2.2.2.1 x.2.2.2.2.1 x.2.2.2.2.2⟩
def env (Gr:Gr1):Env:=⟨Tryz.prog,[],[(bS.cr Gr)],[(15,0)],[],[],[],[],[],[],[],[]⟩
def an:An := .seq .no (.seq .no .no)
theorem run (Gr:Gr1):bC (env Gr) Tryz.f62 an (con Gr):=fun x=>by kernel_rfl
theorem ok (Gr:Gr1) (hG:ay Tryz.prog (bS.cr Gr)):ay Tryz.prog (con Gr):=aG (E:=(env Gr)) (run Gr) mixed Tryz.func62 (by kernel_rfl) (cons_cons hG (ak))
end ft
namespace ar
def con (Gr:Gr1):Con:=⟨61,[.c (.v (.d lF)),.c (.v (.d lF)),.c (.v (.fn 124 []))],[],[],[lF,lF],.one (.v (.d .bool)),[],[.bool],fun x=>ar Gr x.1 x.2⟩
def env (Gr:Gr1):Env:=⟨Tryz.prog,[],[(ft.con Gr)],[(29,0)],[],[],[],[],[],[],[],[]⟩
def an:An := .seq .no (.seq (.seq .no (.cond (.seq .no .no) .no)) (.seq (.seq .no (.one (.loop ⟨[(17,(aD iT))],[],[iT]⟩ [1,2,15,16] [] (.seq .no (.seq (.cond .no .no) (.seq (.one (.seq .no (.seq .no (.seq .no (.cond (.seq .no .no) .no))))) .no)))))) (.seq .no .no)))
theorem run (Gr:Gr1):bC (env Gr) Tryz.f61 an (con Gr):=fun x=>by kernel_rfl
theorem ok (Gr:Gr1) (hG:ay Tryz.prog (bS.cr Gr)):ay Tryz.prog (con Gr):=aG (E:=(env Gr)) (run Gr) mixed Tryz.func61 (by kernel_rfl) (cons_cons (ft.ok Gr hG) (ak))
end ar
namespace bS
def con:Con:=cr (rec Fuel.n)
def env (Gr:Gr1):Env:=⟨Tryz.prog,[],[(ar.con Gr)],[(15,0)],[],[],[],[],[],[],[],[]⟩
def an:An := .seq .no (.seq .no .no)
theorem run (Gr:Gr1):bC (env Gr) Tryz.f35 an (cr (body Gr)):=fun x=>by kernel_rfl
theorem okB (Gr:Gr1) (hG:ay Tryz.prog (cr Gr)):ay Tryz.prog (cr (body Gr)):=aG (E:=(env Gr)) (run Gr) mixed Tryz.func35 (by kernel_rfl) (cons_cons (ar.ok Gr hG) (ak))
theorem okN:∀ n,ay Tryz.prog (cr (rec n))
 | 0=>⟨by kernel_rfl,fun x r h=>by have h2:(none:Option (Tup bS.qs)) = some r:=h; cases h2⟩
 | n + 1=>okB (rec n) (okN n)
theorem ok:ay Tryz.prog con:=okN _
end bS
namespace iG
def con:Con:=⟨16,[.c (.g [.d iT,.d lF]),.c (.g [.d iT,.d lF])],[],[],[iT,lF,iT,lF],.one (.v (.d .bool)),[],[.bool],fun x=>iG x.1 x.2.1 x.2.2.1 x.2.2.2⟩
def env:Env:=⟨Tryz.prog,[],[bI.con,bS.con],[(6,0),(9,0),(14,1)],[],[],[],[],[],[],[],[]⟩
def an:An := .seq .no (.seq .no .no)
theorem run:bC env Tryz.f16 an con:=fun x=>by kernel_rfl
theorem ok:ay Tryz.prog con:=aG (E:=env) run mixed Tryz.func16 (by kernel_rfl) (cons_cons bI.ok (cons_cons bS.ok (ak)))
end iG
abbrev aV.ps:List Ty:=[iT,lF,iT,lF]
abbrev aV.qs:List Ty:=[.bool]
def aV.cr (Gr:Gr1):Con:=⟨36,[.c (.g [.d iT,.d lF]),.c (.g [.d iT,.d lF])],[],[],aV.ps,.one (.v (.d .bool)),[],aV.qs,fun x=>Gr x.1 x.2.1 x.2.2.1 x.2.2.2⟩
namespace aV
def con:Con:=cr (rec Fuel.n)
def env (Gr:Gr1):Env:=⟨Tryz.prog,[],[(aV.cr Gr)],[(40,0)],[1000000],[],[],[],[31,33,37,39,44,46,50,52],[29,35,42,48],[],[]⟩
def an:An := .seq .no (.seq (.join ⟨[(20,.c (.v (.d .bool)))],[],[.bool]⟩ [2,3] [2,3] true .no (.cond (.seq .no .no) .no)) (.seq (.seq .no (.one (.loop ⟨[(5,(aD iT))],[],[iT]⟩ [2,3] [2,3] (.seq (.seq .no (.cond .no .no)) (.seq (.one (.seq .no (.join ⟨[(57,.c (.v (.d .bool)))],[],[.bool]⟩ [2,3,5] [2,3] true .no (.cond (.seq .no .no) .no)))) .no))))) (.seq .no .no)))
theorem run (Gr:Gr1):bC (env Gr) Tryz.f36 an (cr (body Gr)):=fun x=>by kernel_rfl
theorem okB (Gr:Gr1) (hG:ay Tryz.prog (cr Gr)):ay Tryz.prog (cr (body Gr)):=aG (E:=(env Gr)) (run Gr) mixed Tryz.func36 (by kernel_rfl) (cons_cons hG (ak))
theorem okN:∀ n,ay Tryz.prog (cr (rec n))
 | 0=>⟨by kernel_rfl,fun x r h=>by have h2:(none:Option (Tup aV.qs)) = some r:=h; cases h2⟩
 | n + 1=>okB (rec n) (okN n)
theorem ok:ay Tryz.prog con:=okN _
end aV
namespace eR
def con:Con:=⟨17,[.c (.g [.d iT,.d lF]),.c (.g [.d iT,.d lF])],[],[],[iT,lF,iT,lF],.one (.v (.d .bool)),[],[.bool],fun x=>eR x.1 x.2.1 x.2.2.1 x.2.2.2⟩
def env:Env:=⟨Tryz.prog,[],[aN.con,aV.con],[(6,0),(9,0),(14,1)],[],[],[],[],[],[],[],[]⟩
def an:An := .seq .no (.seq .no .no)
theorem run:bC env Tryz.f17 an con:=fun x=>by kernel_rfl
theorem ok:ay Tryz.prog con:=aG (E:=env) run mixed Tryz.func17 (by kernel_rfl) (cons_cons aN.ok (cons_cons aV.ok (ak)))
end eR
abbrev aF.ps:List Ty:=[iT,lF,iT,lF]
abbrev aF.qs:List Ty:=[.bool]
def aF.cr (Gr:Gr1):Con:=⟨38,[.c (.g [.d iT,.d lF]),.c (.g [.d iT,.d lF])],[],[],aF.ps,.one (.v (.d .bool)),[],aF.qs,fun x=>Gr x.1 x.2.1 x.2.2.1 x.2.2.2⟩
namespace aF
def con:Con:=cr (rec Fuel.n)
def env (Gr:Gr1):Env:=⟨Tryz.prog,[],[bD.con,(aF.cr Gr)],[(30,0),(42,1)],[],[],[],[],[27,29,39,41],[23,25,35,37,7500006,23500002,25500003],[],[]⟩
def an:An := .seq .no (.seq (.seq .no (.cond (.seq .no .no) .no)) (.seq (.seq .no (.one (.loop ⟨[(5,(aD iT))],[],[iT]⟩ [2,3] [2,3] (.seq (.seq .no (.cond .no .no)) (.seq (.one (.seq .no (.seq (.seq .no (.cond (.seq .no .no) .no)) (.seq .no (.seq .no (.cond (.seq .no .no) .no)))))) .no))))) (.seq .no .no)))
theorem run (Gr:Gr1):bC (env Gr) Tryz.f38 an (cr (body Gr)):=fun x=>by kernel_rfl
theorem okB (Gr:Gr1) (hG:ay Tryz.prog (cr Gr)):ay Tryz.prog (cr (body Gr)):=aG (E:=(env Gr)) (run Gr) mixed Tryz.func38 (by kernel_rfl) (cons_cons bD.ok (cons_cons hG (ak)))
theorem okN:∀ n,ay Tryz.prog (cr (rec n))
 | 0=>⟨by kernel_rfl,fun x r h=>by have h2:(none:Option (Tup aF.qs)) = some r:=h; cases h2⟩
 | n + 1=>okB (rec n) (okN n)
theorem ok:ay Tryz.prog con:=okN _
end aF
namespace fg
def con:Con:=⟨19,[.c (.g [.d iT,.d lF]),.c (.g [.d iT,.d lF])],[],[],[iT,lF,iT,lF],.one (.v (.d .bool)),[],[.bool],fun x=>fg x.1 x.2.1 x.2.2.1 x.2.2.2⟩
def env:Env:=⟨Tryz.prog,[],[aN.con,aF.con],[(6,0),(9,0),(14,1)],[],[],[],[],[],[],[],[]⟩
def an:An := .seq .no (.seq .no .no)
theorem run:bC env Tryz.f19 an con:=fun x=>by kernel_rfl
theorem ok:ay Tryz.prog con:=aG (E:=env) run mixed Tryz.func19 (by kernel_rfl) (cons_cons aN.ok (cons_cons aF.ok (ak)))
end fg
namespace dA
def con:Con:=⟨21,[.c (.g [.d .str,.d lsT,.d lF,.d lE,.d lU,.d .bool,.d lF,.d lE,.d lE]),.c (.v (.d lA)),.c (.v (.d lF)),.c (.g [.d iT,.d iT,.d .str,.d .str,.d lsT,.d lE])],[],[],[.str,lsT,lF,lE,lU,.bool,lF,lE,lE,lA,lF,iT,iT,.str,.str,lsT,lE],.tup [.a ck,.v (.d iT),.v (.d iT)],[],[ck,iT,iT],fun x=>dA x.1 x.2.1 x.2.2.1 x.2.2.2.1 x.2.2.2.2.1 x.2.2.2.2.2.1 x.2.2.2.2.2.2.1 x.2.2.2.2.2.2.2.1 x.2.2.2.2.2.2.2.2.1 x.2.2.2.2.2.2.2.2.2.1 x.2.2.2.2.2.2.2.2.2.2.1 x.2.2.2.2.2.2.2.2.2.2.2.1 x.2.2.2.2.2.2.2.2.2.2.2.2.1 x.2.2.2.2.2.2.2.2.2.2.2.2.2.1 x.2.2.2.2.2.2.2.2.2.2.2.2.2.2.1 x.2.2.2.2.2.2.2.2.2.2.2.2.2.2.2.1 x.2.2.2.2.2.2.2.2.2.2.2.2.2.2.2.2⟩
def env:Env:=⟨Tryz.prog,[],[aO.con,cn.con,au.con,bj.con,aw.con,aX.con,aE.con],[(17,0),(21,1),(26,2),(33,3),(43,4),(51,5),(1000033,6)],[1000000],[43],[],[],[],[50,55,9000024,9500008,15500014,55000076],[],[]⟩
def an:An := .seq .no (.seq .no (.seq (.join ⟨[(28,.c (.v (.d .bool)))],[],[.bool]⟩ [1,2,4,7,8] [4,7,8] true .no (.cond (.seq .no .no) .no)) (.seq .no (.seq (.seq .no (.cond (.seq .no .no) .no)) (.seq .no (.seq (.seq .no (.cond (.seq .no .no) .no)) (.seq .no .no)))))))
theorem run:bC env Tryz.f21 an con:=fun x=>by kernel_rfl
theorem ok:ay Tryz.prog con:=aG (E:=env) run mixed Tryz.func21 (by kernel_rfl) (cons_cons aO.ok (cons_cons cn.ok (cons_cons au.ok (cons_cons bj.ok (cons_cons aw.ok (cons_cons aX.ok (cons_cons aE.ok (ak))))))))
end dA
namespace cJ
def con:Con:=⟨120,[.c (.g [.d iT,.d iT,.d .str,.d .str,.d lsT,.d lE]),.c (.v (.d .bool)),.c (.v (.d .bool)),.c (.v (.d .bool)),.c (.v (.d .bool))],[],[],[iT,iT,.str,.str,lsT,lE,.bool,.bool,.bool,.bool],.one (.v (.d .bool)),[],[.bool],fun x=>cJ x.1 x.2.1 x.2.2.1 x.2.2.2.1 x.2.2.2.2.1 x.2.2.2.2.2.1 x.2.2.2.2.2.2.1 x.2.2.2.2.2.2.2.1 x.2.2.2.2.2.2.2.2.1 x.2.2.2.2.2.2.2.2.2⟩
def env:Env:=⟨Tryz.prog,[],[],[],[],[],[],[],[],[],[],[]⟩
def an:An := .seq .no (.seq .no .no)
theorem run:bC env Tryz.f120 an con:=fun x=>by kernel_rfl
theorem ok:ay Tryz.prog con:=aG (E:=env) run mixed Tryz.func120 (by kernel_rfl) (ak)
end cJ
namespace bJ
def con:Con:=⟨101,[.c (.g [.d iT,.d iT,.d .str,.d .str,.d lsT,.d lE])],[],[],[iT,iT,.str,.str,lsT,lE],.one (.v (.d .bool)),[],[.bool],fun x=>bJ x.1 x.2.1 x.2.2.1 x.2.2.2.1 x.2.2.2.2.1 x.2.2.2.2.2⟩
def env:Env:=⟨Tryz.prog,[],[cJ.con,cO.con,cq.con,bo.con],[(12,0),(20,1),(25,0),(33,1),(39,0),(47,2),(53,0),(61,2),(66,0),(74,2),(79,0),(87,0),(95,0),(110,3),(115,0),(123,2),(132,2),(138,0),(172,0)],[1000000],[],[],[],[],[],[],[]⟩
def an:An := .seq .no (.seq .no (.seq (.seq .no (.one (.seq .no (.cond (.seq .no .no) (.seq .no (.cond (.seq .no .no) (.join ⟨[(35,.c (.v (.d .bool)))],[],[.bool]⟩ [1,3,8] [1] true (.seq .no (.cond .no .no)) (.cond (.seq .no .no) (.join ⟨[(49,.c (.v (.d .bool)))],[],[.bool]⟩ [1,3,8] [1] true (.seq .no (.cond .no .no)) (.cond (.seq .no .no) (.seq .no (.cond (.seq .no .no) (.seq .no (.cond (.seq .no .no) (.seq .no (.cond (.seq .no .no) (.seq .no (.cond (.seq .no .no) (.seq .no (.cond (.seq .no .no) (.seq .no (.cond (.seq .no .no) (.join ⟨[(163,.c (.v (.d .bool)))],[],[.bool]⟩ [1,3] [1] true (.seq .no (.cond .no (.seq .no (.cond .no (.seq .no (.cond .no (.seq .no (.cond .no (.seq .no (.cond .no (.seq .no (.cond .no .no)))))))))))) (.cond (.seq .no .no) .no)))))))))))))))))))))))) (.seq .no .no)))
theorem run:bC env Tryz.f101 an con:=fun x=>by kernel_rfl
theorem ok:ay Tryz.prog con:=aG (E:=env) run mixed Tryz.func101 (by kernel_rfl) (cons_cons cJ.ok (cons_cons cO.ok (cons_cons cq.ok (cons_cons bo.ok (ak)))))
end bJ
abbrev ba.ps:List Ty:=[iT,iT,.str,.str,lsT,lE,iT]
abbrev ba.qs:List Ty:=[.bool]
def ba.cr (Gr:Gr3):Con:=⟨77,[.c (.g [.d iT,.d iT,.d .str,.d .str,.d lsT,.d lE]),(aD iT)],[],[],ba.ps,.one (.v (.d .bool)),[],ba.qs,fun x=>Gr x.1 x.2.1 x.2.2.1 x.2.2.2.1 x.2.2.2.2.1 x.2.2.2.2.2.1 x.2.2.2.2.2.2⟩
namespace ba
def con:Con:=cr (rec Fuel.n)
def env (Gr:Gr3):Env:=⟨Tryz.prog,[],[bJ.con,(ba.cr Gr)],[(10,0),(27,1)],[1000000],[],[],[],[],[],[],[]⟩
def an:An := .seq .no (.seq (.join ⟨[(12,.c (.v (.d .bool)))],[],[.bool]⟩ [1,2] [2] true .no (.cond (.seq .no .no) .no)) (.seq (.seq .no (.one (.loop ⟨[(5,(aD iT))],[],[iT]⟩ [1,2] [2] (.seq (.seq .no (.cond .no .no)) (.seq (.one (.seq .no (.cond (.seq .no .no) .no))) .no))))) (.seq .no .no)))
theorem run (Gr:Gr3):bC (env Gr) Tryz.f77 an (cr (body Gr)):=fun x=>by kernel_rfl
theorem okB (Gr:Gr3) (hG:ay Tryz.prog (cr Gr)):ay Tryz.prog (cr (body Gr)):=aG (E:=(env Gr)) (run Gr) mixed Tryz.func77 (by kernel_rfl) (cons_cons bJ.ok (cons_cons hG (ak)))
theorem okN:∀ n,ay Tryz.prog (cr (rec n))
 | 0=>⟨by kernel_rfl,fun x r h=>by have h2:(none:Option (Tup ba.qs)) = some r:=h; cases h2⟩
 | n + 1=>okB (rec n) (okN n)
theorem ok:ay Tryz.prog con:=okN _
end ba
namespace cu
def con:Con:=⟨47,[.c (.g [.d iT,.d iT,.d .str,.d .str,.d lsT,.d lE])],[],[],[iT,iT,.str,.str,lsT,lE],.one (.v (.d .bool)),[],[.bool],fun x=>cu x.1 x.2.1 x.2.2.1 x.2.2.2.1 x.2.2.2.2.1 x.2.2.2.2.2⟩
def env:Env:=⟨Tryz.prog,[],[ba.con],[(4,0)],[],[],[],[],[],[],[],[]⟩
def an:An := .seq .no (.seq .no .no)
theorem run:bC env Tryz.f47 an con:=fun x=>by kernel_rfl
theorem ok:ay Tryz.prog con:=aG (E:=env) run mixed Tryz.func47 (by kernel_rfl) (cons_cons ba.ok (ak))
end cu
namespace bW
def con:Con:=⟨79,[(aD lsT)],[],[],[lsT],.one (.v (.d .bool)),[],[.bool],fun x=>bW x⟩
def env:Env:=⟨Tryz.prog,[],[cq.con,dd.con],[(14,0),(24,1)],[1000000],[],[],[],[12,13,19,22,23],[],[],[]⟩
def an:An := .seq .no (.seq (.seq .no (.one (.loop ⟨[(3,(aD iT))],[],[iT]⟩ [0] [] (.seq (.seq .no (.cond .no .no)) (.seq (.one (.join ⟨[(26,.c (.v (.d .bool)))],[],[.bool]⟩ [0,3] [] true .no (.cond (.seq .no .no) .no))) .no))))) (.seq .no .no))
theorem run:bC env Tryz.f79 an con:=fun x=>by kernel_rfl
theorem ok:ay Tryz.prog con:=aG (E:=env) run mixed Tryz.func79 (by kernel_rfl) (cons_cons cq.ok (cons_cons dd.ok (ak)))
end bW
namespace bB
def con:Con:=⟨80,[.c (.v (.d lF)),(aD iT)],[],[],[lF,iT],.one (.v (.d .bool)),[],[.bool],fun x=>bB x.1 x.2⟩
def env:Env:=⟨Tryz.prog,[],[cI.con,cx.con,bW.con],[(17,0),(25,1),(26,2)],[6],[],[],[],[],[],[],[]⟩
def an:An := .seq .no (.join ⟨[],[],[]⟩ [0,1] [] false (.seq .no (.one (.loop ⟨[(5,(aD iT))],[],[iT]⟩ [0,1] [] (.seq (.seq .no (.cond .no .no)) (.seq (.one (.seq .no (.cond (.seq .no .no) .no))) .no))))) (.seq .no .no))
theorem run:bC env Tryz.f80 an con:=fun x=>by kernel_rfl
theorem ok:ay Tryz.prog con:=aG (E:=env) run mixed Tryz.func80 (by kernel_rfl) (cons_cons cI.ok (cons_cons cx.ok (cons_cons bW.ok (ak))))
end bB
namespace du
def con:Con:=⟨81,[.c (.v (.d lE))],[],[],[lE],.one (.v (.d .bool)),[],[.bool],fun x=>du x⟩
def env:Env:=⟨Tryz.prog,[],[cu.con],[(14,0)],[],[],[],[],[],[],[],[]⟩
def an:An := .seq .no (.seq (.seq .no (.one (.loop ⟨[(3,(aD iT))],[],[iT]⟩ [0] [] (.seq (.seq .no (.cond .no .no)) (.seq (.one (.seq .no (.cond (.seq .no .no) .no))) .no))))) (.seq .no .no))
theorem run:bC env Tryz.f81 an con:=fun x=>by kernel_rfl
theorem ok:ay Tryz.prog con:=aG (E:=env) run mixed Tryz.func81 (by kernel_rfl) (cons_cons cu.ok (ak))
end du
namespace bz
def con:Con:=⟨48,[.c (.g [.d .str,.d lsT,.d lF,.d lE,.d lU,.d .bool,.d lF,.d lE,.d lE])],[],[],[.str,lsT,lF,lE,lU,.bool,lF,lE,lE],.one (.v (.d .bool)),[],[.bool],fun x=>bz x.1 x.2.1 x.2.2.1 x.2.2.2.1 x.2.2.2.2.1 x.2.2.2.2.2.1 x.2.2.2.2.2.2.1 x.2.2.2.2.2.2.2.1 x.2.2.2.2.2.2.2.2⟩
def env:Env:=⟨Tryz.prog,[(25,.str)],[cq.con,bW.con,bB.con,du.con,cI.con,cO.con,cu.con],[(8,0),(19,1),(25,2),(40,3),(68,2),(73,4),(79,5),(85,6),(89,1),(112,2),(138,3),(144,3)],[11,1000000],[],[],[64],[],[],[],[]⟩
def an:An := .seq .no (.seq (.join ⟨[(48,.c (.v (.d .bool)))],[],[.bool]⟩ [1] [1] true .no (.cond (.seq .no .no) .no)) (.seq .no (.join ⟨[(3,.c (.v (.own 500003)))],[(500003,.arr 9 .str)],[lsT]⟩ [1] [1] false (.seq .no (.one (.loop ⟨[(3,.c (.v (.own 500005))),(4,(aD iT))],[(500005,.arr 9 .str)],[iT,lsT]⟩ [1] [1] (.seq (.seq .no (.cond .no .no)) (.seq (.one (.seq .no (.seq .no (.join ⟨[(87,.c (.v (.d .bool)))],[],[.bool]⟩ [1,3,4] [1,65] true .no (.cond (.seq .no .no) .no))))) .no))))) (.seq (.seq .no (.cond (.seq .no .no) .no)) (.seq (.seq .no (.cond (.seq .no .no) .no)) (.seq .no .no))))))
theorem run:bC env Tryz.f48 an con:=fun x=>by kernel_rfl
theorem ok:ay Tryz.prog con:=aG (E:=env) run mixed Tryz.func48 (by kernel_rfl) (cons_cons cq.ok (cons_cons bW.ok (cons_cons bB.ok (cons_cons du.ok (cons_cons cI.ok (cons_cons cO.ok (cons_cons cu.ok (ak))))))))
end bz
namespace aI
def con:Con:=⟨49,[.c (.v (.d lA))],[],[],[lA],.one (.v (.d .bool)),[],[.bool],fun x=>aI x⟩
def env:Env:=⟨Tryz.prog,[],[aN.con],[(43,0),(47,0)],[13],[],[],[],[],[],[],[]⟩
def an:An := .seq .no (.seq (.seq .no (.one (.loop ⟨[(3,(aD iT))],[],[iT]⟩ [0] [] (.seq (.seq .no (.cond .no .no)) (.seq (.one (.seq .no (.one (.loop ⟨[(4,(aD iT))],[],[iT]⟩ [0,3] [] (.seq (.seq .no (.cond .no .no)) (.seq (.one (.seq .no (.join ⟨[],[],[]⟩ [0,3,4,5] [5] false (.seq .no (.one (.loop ⟨[(6,(aD iT))],[],[iT]⟩ [0,3,4,5] [5] (.seq (.seq .no (.cond .no .no)) (.seq (.one (.seq .no (.cond (.seq .no .no) .no))) .no))))) (.seq .no (.cond (.seq .no .no) .no))))) .no)))))) .no))))) (.seq .no .no))
theorem run:bC env Tryz.f49 an con:=fun x=>by kernel_rfl
theorem ok:ay Tryz.prog con:=aG (E:=env) run mixed Tryz.func49 (by kernel_rfl) (cons_cons aN.ok (ak))
end aI
abbrev ai.ps:List Ty:=[.str,lsT,lF,lE,lU,.bool,lF,lE,lE,lA,lF,iT,iT,.str,.str,lsT,lE]
abbrev ai.qs:List Ty:=[ck,iT,iT]
def ai.cr (Gr:Gr7):Con:=⟨50,[.c (.g [.d .str,.d lsT,.d lF,.d lE,.d lU,.d .bool,.d lF,.d lE,.d lE,.d lA]),.c (.v (.d lF)),.c (.g [.d iT,.d iT,.d .str,.d .str,.d lsT,.d lE])],[],[],ai.ps,.tup [.a ck,.v (.d iT),.v (.d iT)],[],ai.qs,fun x=>Gr x.1 x.2.1 x.2.2.1 x.2.2.2.1 x.2.2.2.2.1 x.2.2.2.2.2.1 x.2.2.2.2.2.2.1 x.2.2.2.2.2.2.2.1 x.2.2.2.2.2.2.2.2.1 x.2.2.2.2.2.2.2.2.2.1 x.2.2.2.2.2.2.2.2.2.2.1 x.2.2.2.2.2.2.2.2.2.2.2.1 x.2.2.2.2.2.2.2.2.2.2.2.2.1 x.2.2.2.2.2.2.2.2.2.2.2.2.2.1 x.2.2.2.2.2.2.2.2.2.2.2.2.2.2.1 x.2.2.2.2.2.2.2.2.2.2.2.2.2.2.2.1 x.2.2.2.2.2.2.2.2.2.2.2.2.2.2.2.2⟩
namespace dn
def con (Gr:Gr7):Con:=⟨83,[.c (.g [.d .str,.d lsT,.d lF,.d lE,.d lU,.d .bool,.d lF,.d lE,.d lE,.d lA]),.c (.v (.d lF)),.c (.g [.d iT,.d iT,.d .str,.d .str,.d lsT,.d lE])],[],[],[.str,lsT,lF,lE,lU,.bool,lF,lE,lE,lA,lF,iT,iT,.str,.str,lsT,lE],.tup [.a ck,.v (.d iT),.v (.d iT)],[],[ck,iT,iT],fun x=>dn Gr x.1 x.2.1 x.2.2.1 x.2.2.2.1 x.2.2.2.2.1 x.2.2.2.2.2.1 x.2.2.2.2.2.2.1 x.2.2.2.2.2.2.2.1 x.2.2.2.2.2.2.2.2.1 x.2.2.2.2.2.2.2.2.2.1 x.2.2.2.2.2.2.2.2.2.2.1 x.2.2.2.2.2.2.2.2.2.2.2.1 x.2.2.2.2.2.2.2.2.2.2.2.2.1 x.2.2.2.2.2.2.2.2.2.2.2.2.2.1 x.2.2.2.2.2.2.2.2.2.2.2.2.2.2.1 x.2.2.2.2.2.2.2.2.2.2.2.2.2.2.2.1 x.2.2.2.2.2.2.2.2.2.2.2.2.2.2.2.2⟩
def env (Gr:Gr7):Env:=⟨Tryz.prog,[],[bD.con,(ai.cr Gr),aF.con],[(20,0),(37,1),(47,2)],[],[],[],[],[35,36],[31,34,4000078,12000024,34000034],[],[]⟩
def an:An := .seq .no (.seq .no (.seq (.seq .no (.cond (.seq .no .no) .no)) (.seq (.seq .no (.cond (.seq .no .no) .no)) (.seq .no (.seq (.seq .no (.cond (.seq .no .no) .no)) (.seq (.seq .no (.cond (.seq .no .no) .no)) (.seq .no .no)))))))
theorem run (Gr:Gr7):bC (env Gr) Tryz.f83 an (con Gr):=fun x=>by kernel_rfl
theorem ok (Gr:Gr7) (hG:ay Tryz.prog (ai.cr Gr)):ay Tryz.prog (con Gr):=aG (E:=(env Gr)) (run Gr) mixed Tryz.func83 (by kernel_rfl) (cons_cons bD.ok (cons_cons hG (cons_cons aF.ok (ak))))
end dn
namespace de
def con:Con:=⟨52,[.c (.v (.d lA)),.c (.v (.d .str))],[],[],[lA,.str],.tup [.a dP,.v (.d .bool)],[],[dP,.bool],fun x=>de x.1 x.2⟩
def env:Env:=⟨Tryz.prog,[],[],[],[],[],[],[],[],[],[],[]⟩
def an:An := .seq .no (.seq (.seq .no (.one (.loop ⟨[(6,(aD iT))],[],[iT]⟩ [0,1,4] [4] (.seq (.seq .no (.cond .no .no)) (.seq (.one (.seq .no (.cond (.seq .no .no) .no))) .no))))) (.seq .no .no))
theorem run:bC env Tryz.f52 an con:=fun x=>by kernel_rfl
theorem ok:ay Tryz.prog con:=aG (E:=env) run mixed Tryz.func52 (by kernel_rfl) (ak)
end de
namespace ah
def con:Con:=⟨105,[.c (.g [.d .str,.d lsT,.d lF,.d lE,.d lU,.d .bool,.d lF,.d lE,.d lE,.d lA]),.c (.g [.d iT,.d iT,.d .str,.d .str,.d lsT,.d lE])],[],[],[.str,lsT,lF,lE,lU,.bool,lF,lE,lE,lA,iT,iT,.str,.str,lsT,lE],.tup [.a rz,.v (.d .bool)],[],[rz,.bool],fun x=>ah x.1 x.2.1 x.2.2.1 x.2.2.2.1 x.2.2.2.2.1 x.2.2.2.2.2.1 x.2.2.2.2.2.2.1 x.2.2.2.2.2.2.2.1 x.2.2.2.2.2.2.2.2.1 x.2.2.2.2.2.2.2.2.2.1 x.2.2.2.2.2.2.2.2.2.2.1 x.2.2.2.2.2.2.2.2.2.2.2.1 x.2.2.2.2.2.2.2.2.2.2.2.2.1 x.2.2.2.2.2.2.2.2.2.2.2.2.2.1 x.2.2.2.2.2.2.2.2.2.2.2.2.2.2.1 x.2.2.2.2.2.2.2.2.2.2.2.2.2.2.2⟩
def env:Env:=⟨Tryz.prog,[(37,ck)],[de.con],[(89,0)],[14,19,1000000],[],[],[59],[56,58,78,79,109,111],[52,54,76,81,107,113,54000057,62000063],[],[]⟩
def an:An := .seq .no (.join ⟨[],[],[]⟩ [2,3,4] [2,3,4] false (.seq .no (.cond (.seq (.seq .no (.one (.loop ⟨[(6,(aD iT))],[],[iT]⟩ [2,3,4] [2,3,4] (.seq (.seq .no (.cond .no .no)) (.seq (.one (.seq .no (.seq .no (.cond (.seq .no (.seq (.seq .no (.one (.loop ⟨[(8,.c (.v (.loc 500009 0))),(9,(aD iT))],[(500009,.box 63 [.d .str,.own 500010,.d iT,.d lF,.d iT]),(500010,.arr 24 ck)],[iT,.str,iT,lF,iT,lY]⟩ [4,7] [4,7] (.seq (.seq .no (.cond .no .no)) (.seq (.one .no) .no))))) (.seq .no .no))) .no)))) .no))))) (.seq .no .no)) .no)) (.seq .no (.join ⟨[(10,.c (.v (.d .bool)))],[],[.bool]⟩ [2,3,4] [2,3,4] true (.seq .no (.one (.loop ⟨[(10,.c (.v (.d .bool))),(11,(aD iT))],[],[.bool,iT]⟩ [2,3,4] [2,3,4] (.seq (.seq .no (.cond .no .no)) (.seq (.one .no) .no))))) (.seq .no (.seq (.join ⟨[(97,.c (.v (.d .bool)))],[],[.bool]⟩ [3,4,12] [3,4,12] true .no (.cond (.seq .no .no) .no)) (.seq (.seq .no (.one (.loop ⟨[(14,(aD iT))],[],[iT]⟩ [3,4,12] [3,4,12] (.seq (.seq .no (.cond .no .no)) (.seq (.one (.seq .no (.cond (.seq .no .no) .no))) .no))))) (.seq .no .no)))))))
theorem run:bC env Tryz.f105 an con:=fun x=>by kernel_rfl
theorem ok:ay Tryz.prog con:=aG (E:=env) run mixed Tryz.func105 (by kernel_rfl) (cons_cons de.ok (ak))
end ah
namespace bM
def con (Gr:Gr7):Con:=⟨85,[.c (.g [.d .str,.d lsT,.d lF,.d lE,.d lU,.d .bool,.d lF,.d lE,.d lE,.d lA]),.c (.v (.d lF)),.c (.v (.d lE))],[],[],[.str,lsT,lF,lE,lU,.bool,lF,lE,lE,lA,lF,lE],.tup [.v (.d lY),.v (.d iT),.v (.d iT)],[],[lY,iT,iT],fun x=>bM Gr x.1 x.2.1 x.2.2.1 x.2.2.2.1 x.2.2.2.2.1 x.2.2.2.2.2.1 x.2.2.2.2.2.2.1 x.2.2.2.2.2.2.2.1 x.2.2.2.2.2.2.2.2.1 x.2.2.2.2.2.2.2.2.2.1 x.2.2.2.2.2.2.2.2.2.2.1 x.2.2.2.2.2.2.2.2.2.2.2⟩
def env (Gr:Gr7):Env:=⟨Tryz.prog,[(37,ck)],[(ai.cr Gr)],[(28,0)],[],[],[],[37],[26,27],[22,4000078,13000024],[],[]⟩
def an:An := .seq .no (.seq .no (.seq .no (.seq (.seq .no (.one (.loop ⟨[(9,.c (.v (.own 500002))),(10,(aD iT)),(11,(aD iT))],[(500002,.arr 24 ck)],[iT,iT,lY]⟩ [1,2,3] [3] (.seq (.seq .no (.cond .no .no)) (.seq (.one (.seq .no (.seq (.seq .no (.cond (.seq .no .no) .no)) (.seq .no .no)))) .no))))) (.seq .no .no))))
theorem run (Gr:Gr7):bC (env Gr) Tryz.f85 an (con Gr):=fun x=>by kernel_rfl
theorem ok (Gr:Gr7) (hG:ay Tryz.prog (ai.cr Gr)):ay Tryz.prog (con Gr):=aG (E:=(env Gr)) (run Gr) mixed Tryz.func85 (by kernel_rfl) (cons_cons hG (ak))
end bM
namespace cH
def con (Gr:Gr7):Con:=⟨84,[.c (.g [.d .str,.d lsT,.d lF,.d lE,.d lU,.d .bool,.d lF,.d lE,.d lE,.d lA]),.c (.v (.d lF)),.c (.g [.d iT,.d iT,.d .str,.d .str,.d lsT,.d lE])],[],[],[.str,lsT,lF,lE,lU,.bool,lF,lE,lE,lA,lF,iT,iT,.str,.str,lsT,lE],.tup [.a ck,.v (.d iT),.v (.d iT)],[],[ck,iT,iT],fun x=>cH Gr x.1 x.2.1 x.2.2.1 x.2.2.2.1 x.2.2.2.2.1 x.2.2.2.2.2.1 x.2.2.2.2.2.2.1 x.2.2.2.2.2.2.2.1 x.2.2.2.2.2.2.2.2.1 x.2.2.2.2.2.2.2.2.2.1 x.2.2.2.2.2.2.2.2.2.2.1 x.2.2.2.2.2.2.2.2.2.2.2.1 x.2.2.2.2.2.2.2.2.2.2.2.2.1 x.2.2.2.2.2.2.2.2.2.2.2.2.2.1 x.2.2.2.2.2.2.2.2.2.2.2.2.2.2.1 x.2.2.2.2.2.2.2.2.2.2.2.2.2.2.2.1 x.2.2.2.2.2.2.2.2.2.2.2.2.2.2.2.2⟩
def env (Gr:Gr7):Env:=⟨Tryz.prog,[],[ah.con,(bM.con Gr),aF.con],[(18,0),(37,1),(60,2)],[],[],[],[],[53,54,58,59],[56,64,67,7000024,64000063,67000063],[],[]⟩
def an:An := .seq .no (.seq .no (.seq (.seq .no (.cond (.seq .no .no) .no)) (.seq (.seq .no (.cond (.seq .no .no) .no)) (.seq .no (.seq (.seq .no (.cond (.seq .no .no) .no)) (.seq (.seq .no (.one (.loop ⟨[(14,(aD iT))],[],[iT]⟩ [6,9,11,12] [6,9] (.seq (.seq .no (.cond .no .no)) (.seq (.one (.seq .no (.cond (.seq .no .no) .no))) .no))))) (.seq .no .no)))))))
theorem run (Gr:Gr7):bC (env Gr) Tryz.f84 an (con Gr):=fun x=>by kernel_rfl
theorem ok (Gr:Gr7) (hG:ay Tryz.prog (ai.cr Gr)):ay Tryz.prog (con Gr):=aG (E:=(env Gr)) (run Gr) mixed Tryz.func84 (by kernel_rfl) (cons_cons ah.ok (cons_cons (bM.ok Gr hG) (cons_cons aF.ok (ak))))
end cH
namespace cQ
def con:Con:=⟨107,[.c (.v (.d lY)),(aD iT)],[],[],[lY,iT],.one (.v (.d .bool)),[],[.bool],fun x=>cQ x.1 x.2⟩
def env:Env:=⟨Tryz.prog,[],[],[],[],[],[],[],[],[],[],[]⟩
def an:An := .seq .no (.seq (.seq .no (.one (.loop ⟨[(5,(aD iT))],[],[iT]⟩ [0,1] [] (.seq (.seq .no (.cond .no .no)) (.seq (.one (.seq .no (.cond (.seq .no .no) .no))) .no))))) (.seq .no .no))
theorem run:bC env Tryz.f107 an con:=fun x=>by kernel_rfl
theorem ok:ay Tryz.prog con:=aG (E:=env) run mixed Tryz.func107 (by kernel_rfl) (ak)
end cQ
namespace dD
def con:Con:=⟨106,[(aD iT),.c (.v (.d .bool))],[],[],[iT,.bool],.tup [.a ck,.v (.d iT)],[],[ck,iT],fun x=>dD x.1 x.2⟩
def env:Env:=⟨Tryz.prog,[],[],[],[],[],[],[],[],[],[],[]⟩
def an:An := .seq .no (.seq (.seq .no (.cond (.seq .no .no) .no)) (.seq .no .no))
theorem run:bC env Tryz.f106 an con:=fun x=>by kernel_rfl
theorem ok:ay Tryz.prog con:=aG (E:=env) run mixed Tryz.func106 (by kernel_rfl) (ak)
end dD
namespace bP
def con:Con:=⟨86,[.c (.g [.d iT,.d iT,.d .str,.d .str,.d lsT,.d lE]),.c (.v (.d lY))],[],[],[iT,iT,.str,.str,lsT,lE,lY],.tup [.a ck,.v (.d iT)],[],[ck,iT],fun x=>bP x.1 x.2.1 x.2.2.1 x.2.2.2.1 x.2.2.2.2.1 x.2.2.2.2.2.1 x.2.2.2.2.2.2⟩
def env:Env:=⟨Tryz.prog,[(22,eG)],[cQ.con,dD.con,aZ.con,bD.con],[(32,0),(33,1),(42,0),(43,1),(52,0),(57,1),(55,0),(68,0),(69,1),(83,2),(131,3)],[1000000],[],[],[118],[78,79,81,82,111,112,115,116,126,128],[107,109,130,19000024,109000034,121000024,130000034],[],[]⟩
def an:An := .seq .no (.seq (.seq .no (.one (.seq .no (.cond (.seq .no .no) (.join ⟨[(25,.c (.v (.d .bool)))],[],[.bool]⟩ [1,2,4,21] [2,4] true (.seq .no (.cond .no (.seq .no (.cond .no (.seq .no (.cond .no .no)))))) (.cond (.seq .no (.seq .no .no)) (.seq .no (.cond (.seq .no (.seq .no .no)) (.seq .no (.cond (.seq .no (.seq .no .no)) (.join ⟨[(62,.c (.v (.d .bool)))],[],[.bool]⟩ [1,2,4,21] [2,4] true (.seq .no (.cond .no (.seq .no (.cond .no .no)))) (.cond (.seq .no (.seq .no .no)) (.seq .no (.cond (.seq .no (.seq (.join ⟨[(94,.c (.v (.d .bool)))],[],[.bool]⟩ [4,14] [4,14] true .no (.cond (.seq .no .no) .no)) (.seq .no .no))) (.seq .no (.cond (.seq .no (.seq (.seq .no (.one (.loop ⟨[(16,.c (.v (.loc 500004 0))),(17,(aD iT))],[(500004,.box 24 [.d iT,.own 500005]),(500005,.arr 53 eG)],[iT,iT,lF]⟩ [1,2,4] [2,4] (.seq (.seq .no (.cond .no .no)) (.seq (.one .no) .no))))) (.seq .no .no))) (.seq .no (.cond (.seq .no (.seq (.seq .no (.cond (.seq .no .no) .no)) (.seq .no .no))) .no)))))))))))))))))) (.seq .no .no))
theorem run:bC env Tryz.f86 an con:=fun x=>by kernel_rfl
theorem ok:ay Tryz.prog con:=aG (E:=env) run mixed Tryz.func86 (by kernel_rfl) (cons_cons cQ.ok (cons_cons dD.ok (cons_cons aZ.ok (cons_cons bD.ok (ak)))))
end bP
namespace ai
def con:Con:=cr (rec Fuel.n)
def env (Gr:Gr7):Env:=⟨Tryz.prog,[(22,eG)],[bD.con,(ai.cr Gr),(dn.con Gr),(cH.con Gr),(bM.con Gr),bP.con],[(36,0),(52,1),(75,1),(91,2),(104,3),(116,4),(127,5)],[1000000],[],[],[69,70],[50,51,73,74],[46,49,61,66,67,72,4000078,12000024,12500011,15000024,15500014,49000034,66000034,72000034],[],[]⟩
def an:An := .seq .no (.seq (.seq .no (.one (.seq .no (.cond (.seq .no (.seq (.seq .no (.cond (.seq .no .no) .no)) (.seq .no .no))) (.seq .no (.cond (.seq .no (.seq (.seq .no (.cond (.seq .no .no) .no)) (.seq .no (.seq .no .no)))) (.join ⟨[(84,.c (.v (.d .bool)))],[],[.bool]⟩ [1,3,5,6,29] [3,5,6] true (.seq .no (.cond .no .no)) (.cond (.seq .no (.seq .no .no)) (.seq .no (.cond (.seq .no (.seq .no .no)) .no)))))))))) (.seq .no (.seq (.seq .no (.cond (.seq .no .no) .no)) (.seq .no (.seq (.seq .no (.cond .no .no)) (.seq .no .no))))))
theorem run (Gr:Gr7):bC (env Gr) Tryz.f50 an (cr (body Gr)):=fun x=>by kernel_rfl
theorem okB (Gr:Gr7) (hG:ay Tryz.prog (cr Gr)):ay Tryz.prog (cr (body Gr)):=aG (E:=(env Gr)) (run Gr) mixed Tryz.func50 (by kernel_rfl) (cons_cons bD.ok (cons_cons hG (cons_cons (dn.ok Gr hG) (cons_cons (cH.ok Gr hG) (cons_cons (bM.ok Gr hG) (cons_cons bP.ok (ak)))))))
theorem okN:∀ n,ay Tryz.prog (cr (rec n))
 | 0=>⟨by kernel_rfl,fun x r h=>by have h2:(none:Option (Tup ai.qs)) = some r:=h; cases h2⟩
 | n + 1=>okB (rec n) (okN n)
theorem ok:ay Tryz.prog con:=okN _
end ai
namespace cj
def con:Con:=⟨22,[.c (.g [.d .str,.d lsT,.d lF,.d lE,.d lU,.d .bool,.d lF,.d lE,.d lE]),.c (.v (.d lA)),.c (.v (.d lF)),.c (.g [.d iT,.d iT,.d .str,.d .str,.d lsT,.d lE])],[],[],[.str,lsT,lF,lE,lU,.bool,lF,lE,lE,lA,lF,iT,iT,.str,.str,lsT,lE],.tup [.a ck,.v (.d iT),.v (.d iT)],[],[ck,iT,iT],fun x=>cj x.1 x.2.1 x.2.2.1 x.2.2.2.1 x.2.2.2.2.1 x.2.2.2.2.2.1 x.2.2.2.2.2.2.1 x.2.2.2.2.2.2.2.1 x.2.2.2.2.2.2.2.2.1 x.2.2.2.2.2.2.2.2.2.1 x.2.2.2.2.2.2.2.2.2.2.1 x.2.2.2.2.2.2.2.2.2.2.2.1 x.2.2.2.2.2.2.2.2.2.2.2.2.1 x.2.2.2.2.2.2.2.2.2.2.2.2.2.1 x.2.2.2.2.2.2.2.2.2.2.2.2.2.2.1 x.2.2.2.2.2.2.2.2.2.2.2.2.2.2.2.1 x.2.2.2.2.2.2.2.2.2.2.2.2.2.2.2.2⟩
def env:Env:=⟨Tryz.prog,[],[aN.con,cu.con,bz.con,aI.con,ai.con],[(29,0),(33,1),(35,2),(44,3),(55,4)],[6,1000000],[],[],[],[],[],[],[]⟩
def an:An := .seq .no (.join ⟨[],[],[]⟩ [1,2,4,7,8] [4,7,8] false (.seq .no (.one (.loop ⟨[(11,(aD iT))],[],[iT]⟩ [1,2,4,7,8] [4,7,8] (.seq (.seq .no (.cond .no .no)) (.seq (.one (.seq .no (.cond (.seq .no .no) .no))) .no))))) (.seq .no (.seq .no (.seq (.join ⟨[(46,.c (.v (.d .bool)))],[],[.bool]⟩ [1,2,4,7,8] [4,7,8] true .no (.cond (.seq .no .no) .no)) (.seq .no (.seq .no (.seq (.seq .no (.cond (.seq .no .no) .no)) (.seq .no .no))))))))
theorem run:bC env Tryz.f22 an con:=fun x=>by kernel_rfl
theorem ok:ay Tryz.prog con:=aG (E:=env) run mixed Tryz.func22 (by kernel_rfl) (cons_cons aN.ok (cons_cons cu.ok (cons_cons bz.ok (cons_cons aI.ok (cons_cons ai.ok (ak))))))
end cj
namespace b8
def con:Con:=⟨23,[.c (.g [.d .str,.d lsT,.d lF,.d lE,.d lU,.d .bool,.d lF,.d lE,.d lE]),.c (.v (.d lA))],[],[],[.str,lsT,lF,lE,lU,.bool,lF,lE,lE,lA],.tup [.v (.d .str),.v (.d iT)],[],[.str,iT],fun x=>b8 x.1 x.2.1 x.2.2.1 x.2.2.2.1 x.2.2.2.2.1 x.2.2.2.2.2.1 x.2.2.2.2.2.2.1 x.2.2.2.2.2.2.2.1 x.2.2.2.2.2.2.2.2.1 x.2.2.2.2.2.2.2.2.2⟩
def env:Env:=⟨Tryz.prog,[],[bj.con,au.con,cB.con,aw.con,bf.con,aE.con],[(21,0),(28,1),(59,2),(82,3),(95,4),(1000021,5)],[11,1000000],[82],[],[],[],[103,105],[],[]⟩
def an:An := .seq .no (.seq .no (.seq (.seq .no (.cond (.seq .no .no) .no)) (.join ⟨[],[],[]⟩ [2,6] [2,21,10021] false (.seq .no (.one (.loop ⟨[(34,(aD iT))],[],[iT]⟩ [2,6,32,33] [2,21,10021] (.seq .no (.seq (.cond .no .no) (.seq (.one (.seq .no (.seq .no (.join ⟨[(54,.c (.v (.d .bool)))],[],[.bool]⟩ [2,6,9,32,33,34] [2,21,10021] true .no (.cond (.seq .no .no) .no))))) .no)))))) (.seq (.seq .no (.seq .no (.cond (.seq .no .no) .no))) (.seq (.seq .no (.one (.loop ⟨[(6,.c (.v (.loc 500001 0))),(69,(aD iT))],[(500001,.box 76 [.d .str,.d lsT,.d lF,.d lE,.d lU,.d .bool,.d lF,.d lE,.d lE,.mp 500002,.d iT]),(500002,.fi true dP)],[iT,.str,lsT,lF,lE,lU,.bool,lF,lE,lE,iT,(.sl (.pair .str dP))]⟩ [67,68] [] (.seq .no (.seq (.cond .no .no) (.seq (.one (.seq .no (.seq .no (.seq .no (.one (.seq .no (.cond (.seq .no .no) (.seq .no (.cond (.seq .no .no) (.seq .no (.cond (.seq .no .no) .no))))))))))) .no)))))) (.seq .no .no))))))
theorem run:bC env Tryz.f23 an con:=fun x=>by kernel_rfl
theorem ok:ay Tryz.prog con:=aG (E:=env) run mixed Tryz.func23 (by kernel_rfl) (cons_cons bj.ok (cons_cons au.ok (cons_cons cB.ok (cons_cons aw.ok (cons_cons bf.ok (cons_cons aE.ok (ak)))))))
end b8
namespace bY
def con:Con:=⟨53,[.c (.a yd),.c (.v (.d lF)),.c (.g [.d iT,.d iT,.d .str,.d .str,.d lsT,.d lE]),.c (.g [.d iT,.d lF]),(aD iT),.c (.v (.d .bool))],[],[],[yd,lF,iT,iT,.str,.str,lsT,lE,iT,lF,iT,.bool],.one (.v (.d iT)),[],[iT],fun x=>bY x.1 x.2.1 x.2.2.1 x.2.2.2.1 x.2.2.2.2.1 x.2.2.2.2.2.1 x.2.2.2.2.2.2.1 x.2.2.2.2.2.2.2.1 x.2.2.2.2.2.2.2.2.1 x.2.2.2.2.2.2.2.2.2.1 x.2.2.2.2.2.2.2.2.2.2.1 x.2.2.2.2.2.2.2.2.2.2.2⟩
def env:Env:=⟨Tryz.prog,[],[ai.con,aF.con],[(21,0),(39,1)],[1000000],[],[],[],[],[],[],[]⟩
def an:An := .seq .no (.seq .no (.seq (.seq .no (.cond (.seq .no .no) .no)) (.seq .no (.seq (.join ⟨[(36,.c (.v (.d .bool)))],[],[.bool]⟩ [9,13,16] [9,13] true .no (.cond (.seq .no .no) .no)) (.seq (.seq .no (.cond (.seq .no .no) .no)) (.seq (.seq .no (.cond (.seq .no .no) .no)) (.seq .no .no)))))))
theorem run:bC env Tryz.f53 an con:=fun x=>by kernel_rfl
theorem ok:ay Tryz.prog con:=aG (E:=env) run mixed Tryz.func53 (by kernel_rfl) (cons_cons ai.ok (cons_cons aF.ok (ak)))
end bY
namespace cy
def con:Con:=⟨53,[.c (.g [.d .str,.d lsT,.d lF,.d lE,.d lU,.d .bool,.d lF,.d lE,.d lE,.d lA]),.c (.v (.d lF)),.c (.g [.d iT,.d iT,.d .str,.d .str,.d lsT,.d lE]),.c (.g [.d iT,.d lF]),(aD iT),.c (.v (.d .bool))],[],[],[.str,lsT,lF,lE,lU,.bool,lF,lE,lE,lA,lF,iT,iT,.str,.str,lsT,lE,iT,lF,iT,.bool],.one (.v (.d iT)),[],[iT],fun x=>cy x.1 x.2.1 x.2.2.1 x.2.2.2.1 x.2.2.2.2.1 x.2.2.2.2.2.1 x.2.2.2.2.2.2.1 x.2.2.2.2.2.2.2.1 x.2.2.2.2.2.2.2.2.1 x.2.2.2.2.2.2.2.2.2.1 x.2.2.2.2.2.2.2.2.2.2.1 x.2.2.2.2.2.2.2.2.2.2.2.1 x.2.2.2.2.2.2.2.2.2.2.2.2.1 x.2.2.2.2.2.2.2.2.2.2.2.2.2.1 x.2.2.2.2.2.2.2.2.2.2.2.2.2.2.1 x.2.2.2.2.2.2.2.2.2.2.2.2.2.2.2.1 x.2.2.2.2.2.2.2.2.2.2.2.2.2.2.2.2.1 x.2.2.2.2.2.2.2.2.2.2.2.2.2.2.2.2.2.1 x.2.2.2.2.2.2.2.2.2.2.2.2.2.2.2.2.2.2.1 x.2.2.2.2.2.2.2.2.2.2.2.2.2.2.2.2.2.2.2.1 x.2.2.2.2.2.2.2.2.2.2.2.2.2.2.2.2.2.2.2.2⟩
def env:Env:=⟨Tryz.prog,[],[ai.con,aF.con],[(21,0),(39,1)],[1000000],[],[],[],[],[],[],[]⟩
def an:An := .seq .no (.seq .no (.seq (.seq .no (.cond (.seq .no .no) .no)) (.seq .no (.seq (.join ⟨[(36,.c (.v (.d .bool)))],[],[.bool]⟩ [9,13,16] [9,13] true .no (.cond (.seq .no .no) .no)) (.seq (.seq .no (.cond (.seq .no .no) .no)) (.seq (.seq .no (.cond (.seq .no .no) .no)) (.seq .no .no)))))))
theorem run:bC env Tryz.f53 an con:=fun x=>by kernel_rfl
theorem ok:ay Tryz.prog con:=aG (E:=env) run mixed Tryz.func53 (by kernel_rfl) (cons_cons ai.ok (cons_cons aF.ok (ak)))
end cy
namespace aj
def con:Con:=⟨24,[.c (.g [.d .str,.d lsT,.d lF,.d lE,.d lU,.d .bool,.d lF,.d lE,.d lE]),.c (.v (.d lA))],[],[],[.str,lsT,lF,lE,lU,.bool,lF,lE,lE,lA],.tup [.v (.d .str),.v (.d iT)],[],[.str,iT],fun x=>aj x.1 x.2.1 x.2.2.1 x.2.2.2.1 x.2.2.2.2.1 x.2.2.2.2.2.1 x.2.2.2.2.2.2.1 x.2.2.2.2.2.2.2.1 x.2.2.2.2.2.2.2.2.1 x.2.2.2.2.2.2.2.2.2⟩
def env:Env:=⟨Tryz.prog,[],[bz.con,aI.con,de.con,bY.con,cy.con],[(22,0),(27,1),(44,2),(87,3),(122,3),(156,3),(191,4)],[10,17,24,30,1000000],[],[],[],[53,54,79,80,84,86,114,115,119,121,147,148,153,155],[51,56,75,77,82,106,109,112,117,140,142,145,151],[],[]⟩
def an:An := .seq .no (.seq .no (.seq (.join ⟨[(29,.c (.v (.d .bool)))],[],[.bool]⟩ [1,2] [2] true .no (.cond (.seq .no .no) .no)) (.join ⟨[],[],[]⟩ [1,2] [2] false (.seq .no (.one (.loop ⟨[(7,(aD iT))],[],[iT]⟩ [1,2] [2] (.seq (.seq .no (.cond .no .no)) (.seq (.one (.seq .no (.join ⟨[(58,.c (.v (.d .bool)))],[],[.bool]⟩ [1,2,7] [2] true .no (.cond (.seq .no .no) .no)))) .no))))) (.seq .no (.join ⟨[],[],[]⟩ [1,2,10] [2,10] false (.seq .no (.one (.loop ⟨[(11,(aD iT))],[],[iT]⟩ [1,2,10] [2,10] (.seq (.seq .no (.cond .no .no)) (.seq (.one (.seq .no (.seq .no (.cond (.seq .no .no) .no)))) .no))))) (.join ⟨[],[],[]⟩ [1,2] [2] false (.seq .no (.cond (.join ⟨[],[],[]⟩ [1,2,10] [2,10] false (.seq .no (.one (.loop ⟨[(13,(aD iT))],[],[iT]⟩ [1,2,10] [2,10] (.seq (.seq .no (.cond .no .no)) (.seq (.one (.seq .no (.seq .no (.cond (.seq .no .no) .no)))) .no))))) (.seq .no (.one (.loop ⟨[(15,(aD iT))],[],[iT]⟩ [1,2,10] [2,10] (.seq (.seq .no (.cond .no .no)) (.seq (.one (.seq .no (.seq .no (.cond (.seq .no .no) .no)))) .no)))))) .no)) (.seq .no (.seq (.seq .no (.one (.loop ⟨[(18,(aD iT))],[],[iT]⟩ [2,17] [2,17] (.seq (.seq .no (.cond .no .no)) (.seq (.one (.seq .no (.seq .no (.seq .no (.cond (.seq .no .no) .no))))) .no))))) (.seq .no .no)))))))))
theorem run:bC env Tryz.f24 an con:=fun x=>by kernel_rfl
theorem ok:ay Tryz.prog con:=aG (E:=env) run mixed Tryz.func24 (by kernel_rfl) (cons_cons bz.ok (cons_cons aI.ok (cons_cons de.ok (cons_cons bY.ok (cons_cons cy.ok (ak))))))
end aj
namespace cz
def con:Con:=⟨3,[.c (.a ck),.c (.a ck),.c (.a iJ),.c (.v (.d lA)),.c (.v (.d lF)),.c (.a nU)],[],[],[ck,ck,iJ,lA,lF,nU],.one (.v (.d .bool)),[],[.bool],fun x=>cz x.1 x.2.1 x.2.2.1 x.2.2.2.1 x.2.2.2.2.1 x.2.2.2.2.2⟩
def env:Env:=⟨Tryz.prog,[(26,nU),(37,ck)],[eV.con,bL.con,bq.con,aU.con,bp.con,bU.con,eb.con,dj.con,eU.con,dK.con,bI.con,aN.con,iG.con,eR.con,gu.con,fg.con,cX.con,dA.con,cj.con,b8.con,aj.con],[(32,0),(36,1),(40,2),(45,3),(50,4),(56,5),(63,6),(69,7),(75,8),(81,9),(85,10),(87,11),(92,12),(95,13),(101,14),(104,15),(120,16),(126,16),(134,17),(143,18),(150,19),(156,20),(173,16)],[1000000],[],[],[35,55],[],[84,86,90,91,93,94,99,100,102,103,118,119,124,125],[],[]⟩
def an:An := .seq .no (.seq .no (.seq (.join ⟨[(58,.c (.v (.d .bool)))],[],[.bool]⟩ [3,4,6,7,8,11,13] [6,7,8,11] true .no (.cond (.seq .no .no) .no)) (.seq .no (.seq .no (.seq .no (.seq .no (.seq (.join ⟨[(128,.c (.v (.d .bool)))],[],[.bool]⟩ [3,4,8,11,13] [8,11] true .no (.cond (.seq .no .no) .no)) (.seq .no (.seq .no (.seq .no (.seq .no (.seq .no .no))))))))))))
theorem run:bC env Tryz.f3 an con:=fun x=>by kernel_rfl
theorem ok:ay Tryz.prog con:=aG (E:=env) run mixed Tryz.func3 (by kernel_rfl) (cons_cons eV.ok (cons_cons bL.ok (cons_cons bq.ok (cons_cons aU.ok (cons_cons bp.ok (cons_cons bU.ok (cons_cons eb.ok (cons_cons dj.ok (cons_cons eU.ok (cons_cons dK.ok (cons_cons bI.ok (cons_cons aN.ok (cons_cons iG.ok (cons_cons eR.ok (cons_cons gu.ok (cons_cons fg.ok (cons_cons cX.ok (cons_cons dA.ok (cons_cons cj.ok (cons_cons b8.ok (cons_cons aj.ok (ak))))))))))))))))))))))
end cz
end
end Go.Proofs.YtaocfjifacnokaaGreat
