import Derived.Test.YtkpefpjpadahiaaGreatDoorAModel
import Derived.Test.YtkpefpjpadahiaaGreatDoorD12
import Derived.Test.YtkpefpjpadahiaaGreatDoorLB
namespace Go.Proofs.YtkpefpjpadahiaaGreatDoor
open Go.Lad
set_option linter.unusedVariables false
set_option linter.unusedSectionVars false
set_option maxRecDepth 100000
theorem mixed:Tryz.prog.follows .mixedOrders=true:=by kernel_rfl
noncomputable abbrev iT:Ty := .int .i64
noncomputable abbrev liT:Ty := .sl iT
noncomputable abbrev P9:Ty := .sl liT
noncomputable abbrev lbT:Ty := .sl .bool
noncomputable abbrev lsT:Ty := .sl .str
noncomputable abbrev aD (t:Ty):SSh := .c (.v (.d t))
noncomputable def cU:Ty:=(.pair iT (.pair iT iT))
noncomputable def bH:Ty:=(.pair cU cU)
noncomputable def ie:Ty:=(.pair .str lsT)
noncomputable def jh:Ty:=(.pair .str (.pair (.sl bH) (.pair iT ie)))
noncomputable def iP:Ty:=(.pair .str (.pair cU (.pair .str (.pair (.sl jh) (.pair (.sl ie) (.pair lsT .str))))))
noncomputable def gj:Ty:=(.pair iT (.pair iT (.pair .str (.pair .str (.pair lsT (.slu 1))))))
noncomputable def wW:Ty:=(.pair iT (.pair .str (.pair (.sl bH) (.pair .str gj))))
noncomputable def cO:Ty:=(.pair iT (.pair .str (.pair cU (.pair iP (.pair wW (.pair liT (.pair iT cU)))))))
noncomputable def aM:Ty:=(.pair iT (.pair .str iT))
noncomputable def jY:Ty:=(.pair liT iT)
noncomputable def aw:Ty:=(.pair iT .str)
noncomputable def bu:Ty:=(.pair iT (.pair iT aw))
noncomputable def PC:Ty:=(.pair (.int .i32) (.int .u32))
noncomputable def iX:Ty:=(.pair iT (.pair .str (.slu 2)))
noncomputable def qX:Ty:=(.pair .str (.pair iT iT))
noncomputable def Pu:Ty:=(.pair .str .bool)
noncomputable def iy:Ty:=(.pair aM iT)
noncomputable section
abbrev aS:SSh := .c (.v (.d .str))
abbrev aB:SSh := .c (.v (.d .bool))
abbrev aL:SSh := .c (.v (.d lsT))
abbrev oB:RSh := .one (.v (.d .bool))
abbrev oS:RSh := .one (.v (.d .str))
abbrev oI:RSh := .one (.v (.d iT))
abbrev nO:An := .no
def sQ:List An->An
 | []=>.no
 | [a]=>a
 | a::r=>.seq a (sQ r)
noncomputable abbrev pP:Program:=Tryz.prog
variable [Fuel]
namespace kT
def con:Con:=⟨7,[],[],[],[],.one (.v (.loc 0 0)),[(0,.box 99 [.own 1,.mp 2]),(1,.arr 141 aw),(2,.fb .i64 false iT)],[(.sl aw),(.sl (.pair aw iT))],fun x=>kT⟩
def env:Env:=⟨pP,[(96,iT)],[],[],[],[],[],[],[],[],[],[]⟩
def an:An:=sQ [nO,nO,nO]
theorem run:aK env Tryz.f7 an con:=fun x=>by kernel_rfl
theorem ok:au pP con:=ax (E:=env) run mixed Tryz.func7 (by kernel_rfl) (ai)
end kT
namespace jq
def con:Con:=⟨9,[.c (.v (.loc 1000000 0)),(aD iT)],[(1000000,.box 99 [.own 1000001,.mp 1000002]),(1000001,.arr 141 aw),(1000002,.fb .i64 false iT)],[],[iT,(.sl aw),(.sl (.pair aw iT))],.one (.v (.loc 0 0)),[(0,.box 106 [.loc 1000000 0,.d iT,.own 1,.own 2,.mp 3,.mp 4,.d iT,.d iT]),(1,.arr 57 aM),(2,.arr 77 bu),(3,.fO .i64 false .str),(4,.fa false iT)],[iT,iT,iT,(.sl aM),(.sl bu),(.sl aw),(.sl (.pair .str iT))],fun x=>jq x.1 x.2.1 x.2.2⟩
def env:Env:=⟨pP,[(100,iT),(103,.str)],[],[],[1000000],[],[],[],[],[],[],[]⟩
def an:An:=sQ [nO,.join ⟨[(14,aB)],[],[.bool]⟩ [0,1] [1000000,1000001,1000002] true nO (.cond (.seq nO nO) nO),nO,nO]
theorem run:aK env Tryz.f9 an con:=fun x=>by kernel_rfl
theorem ok:au pP con:=ax (E:=env) run mixed Tryz.func9 (by kernel_rfl) (ai)
end jq
namespace eO
def con:Con:=⟨24,[aS,(aD iT)],[],[],[.str,iT],.one (.a cO),[],[cO],fun x=>eO x.1 x.2⟩
def env:Env:=⟨pP,[(36,iT)],[],[],[],[],[],[7],[],[],[],[]⟩
def an:An:=sQ [nO,nO,nO]
theorem run:aK env Tryz.f24 an con:=fun x=>by kernel_rfl
theorem ok:au pP con:=ax (E:=env) run mixed Tryz.func24 (by kernel_rfl) (ai)
end eO
def strings_Split.con:Con:=wF 82
theorem strings_Split.ok:au pP strings_Split.con:=DY
namespace bj
def con:Con:=⟨33,[aS],[],[],[.str],oB,[],[.bool],fun x=>bj x⟩
def env:Env:=⟨pP,[],[strings_Split.con],[(11,0)],[1000000],[],[],[],[],[],[],[]⟩
def an:An:=sQ [nO,.seq nO (.cond (.seq nO nO) nO),.seq nO (.one (.loop ⟨[(13,(aD iT))],[],[iT]⟩ [11,12] [] (sQ [nO,.cond nO nO,.one (sQ [nO,.join ⟨[(33,aB)],[],[.bool]⟩ [4,11,12,13] [] true nO (.cond (.seq nO nO) nO),nO,.one (.loop ⟨[(37,(aD iT))],[],[iT]⟩ [11,12,13,35,36] [] (sQ [nO,.cond nO nO,.one (.seq nO (.join ⟨[(54,aB)],[],[.bool]⟩ [11,12,13,35,36,37] [] true nO (.cond (.seq nO nO) nO))),nO]))]),nO]))),nO,nO]
theorem run:aK env Tryz.f33 an con:=fun x=>by kernel_rfl
theorem ok:au pP con:=ax (E:=env) run mixed Tryz.func33 (by kernel_rfl) (cons_cons strings_Split.ok (ai))
end bj
namespace cA
def con:Con:=⟨34,[.c (.a cU)],[],[],[cU],oB,[],[.bool],fun x=>cA x⟩
def env:Env:=⟨pP,[],[],[],[],[],[],[],[],[],[],[]⟩
def an:An:=sQ [nO,nO,nO]
theorem run:aK env Tryz.f34 an con:=fun x=>by kernel_rfl
theorem ok:au pP con:=ax (E:=env) run mixed Tryz.func34 (by kernel_rfl) (ai)
end cA
namespace eL
def con:Con:=⟨74,[(aD lsT)],[],[],[lsT],oB,[],[.bool],fun x=>eL x⟩
def env:Env:=⟨pP,[],[bj.con],[(13,0)],[1000000],[],[],[],[],[],[],[]⟩
def an:An:=sQ [nO,.seq nO (.one (.loop ⟨[(7,(aD iT))],[],[iT]⟩ [0,5,6] [] (sQ [nO,.cond nO nO,.one (.seq nO (.join ⟨[(27,aB)],[],[.bool]⟩ [0,5,6,7] [] true nO (.cond (.seq nO nO) nO))),nO]))),nO,nO]
theorem run:aK env Tryz.f74 an con:=fun x=>by kernel_rfl
theorem ok:au pP con:=ax (E:=env) run mixed Tryz.func74 (by kernel_rfl) (cons_cons bj.ok (ai))
end eL
namespace aZ
def con:Con:=⟨116,[(aD lsT),aS],[],[],[lsT,.str],oI,[],[iT],fun x=>aZ x.1 x.2⟩
def env:Env:=⟨pP,[],[],[],[],[],[],[],[],[],[],[]⟩
def an:An:=sQ [nO,.seq nO (.one (.loop ⟨[(8,(aD iT))],[],[iT]⟩ [0,1,7] [] (sQ [nO,.cond nO nO,.one (sQ [nO,nO,.cond (.seq nO nO) nO]),nO]))),nO,nO]
theorem run:aK env Tryz.f116 an con:=fun x=>by kernel_rfl
theorem ok:au pP con:=ax (E:=env) run mixed Tryz.func116 (by kernel_rfl) (ai)
end aZ
namespace bT
def con:Con:=⟨77,[(aD lsT),aS],[],[],[lsT,.str],oB,[],[.bool],fun x=>bT x.1 x.2⟩
def env:Env:=⟨pP,[],[aZ.con],[(7,0)],[],[],[],[],[],[],[],[]⟩
def an:An:=sQ [nO,nO,nO]
theorem run:aK env Tryz.f77 an con:=fun x=>by kernel_rfl
theorem ok:au pP con:=ax (E:=env) run mixed Tryz.func77 (by kernel_rfl) (cons_cons aZ.ok (ai))
end bT
namespace iI
def con:Con:=⟨76,[aS,.c (.v (.loc 1000000 0))],[(1000000,.box 27 [.own 1000001]),(1000001,.arr 9 .str)],[],[.str,lsT],oB,[],[.bool],fun x=>iI x.1 x.2⟩
def env:Env:=⟨pP,[],[bT.con],[(6,0)],[],[],[],[],[],[],[],[]⟩
def an:An:=sQ [nO,nO,nO]
theorem run:aK env Tryz.f76 an con:=fun x=>by kernel_rfl
theorem ok:au pP con:=ax (E:=env) run mixed Tryz.func76 (by kernel_rfl) (cons_cons bT.ok (ai))
end iI
namespace bC
def con:Con:=⟨115,[(aD lsT),.c (.v (.fn 152 [1000000]))],[(1000000,.box 27 [.own 1000001]),(1000001,.arr 9 .str)],[],[lsT,lsT],oI,[],[iT],fun x=>bC x.1 x.2⟩
def env:Env:=⟨pP,[],[iI.con],[(16,0)],[],[16],[],[],[],[],[],[]⟩
def an:An:=sQ [nO,.seq nO (.one (.loop ⟨[(8,(aD iT))],[],[iT]⟩ [0,1,7] [1000000,1000001] (sQ [nO,.cond nO nO,.one (sQ [nO,nO,.cond (.seq nO nO) nO]),nO]))),nO,nO]
theorem run:aK env Tryz.f115 an con:=fun x=>by kernel_rfl
theorem ok:au pP con:=ax (E:=env) run mixed Tryz.func115 (by kernel_rfl) (cons_cons iI.ok (ai))
end bC
namespace cF
def con:Con:=⟨75,[(aD lsT),.c (.v (.fn 152 [1000000]))],[(1000000,.box 27 [.own 1000001]),(1000001,.arr 9 .str)],[],[lsT,lsT],oB,[],[.bool],fun x=>cF x.1 x.2⟩
def env:Env:=⟨pP,[],[bC.con],[(7,0)],[],[7],[],[],[],[],[],[]⟩
def an:An:=sQ [nO,nO,nO]
theorem run:aK env Tryz.f75 an con:=fun x=>by kernel_rfl
theorem ok:au pP con:=ax (E:=env) run mixed Tryz.func75 (by kernel_rfl) (cons_cons bC.ok (ai))
end cF
namespace cm
def con:Con:=⟨157,[aD (.sl bH)],[],[],[(.sl bH)],.one (.v (.own 0)),[(0,.arr 161 bH)],[(.sl bH)],fun x=>cm x⟩
def env:Env:=⟨pP,[(30,bH)],[],[],[],[],[],[],[],[],[],[]⟩
def an:An:=sQ [nO,.seq nO (.cond (.seq nO nO) nO),nO,nO]
theorem run:aK env Tryz.f157 an con:=fun x=>by kernel_rfl
theorem ok:au pP con:=ax (E:=env) run mixed Tryz.func157 (by kernel_rfl) (ai)
end cm
namespace cmp_isNaN_int
def con:Con:=⟨203,[(aD iT)],[],[],[iT],oB,[],[.bool],fun x=>cmp_isNaN_int x⟩
def env:Env:=⟨pP,[],[],[],[],[],[],[],[],[],[],[]⟩
def an:An:=sQ [nO,nO,nO]
theorem run:aK env Tryz.f203 an con:=fun x=>by kernel_rfl
theorem ok:au pP con:=ax (E:=env) run mixed Tryz.func203 (by kernel_rfl) (ai)
end cmp_isNaN_int
namespace cmp_Compare_int
def con:Con:=⟨177,[(aD iT),(aD iT)],[],[],[iT,iT],oI,[],[iT],fun x=>cmp_Compare_int x.1 x.2⟩
def env:Env:=⟨pP,[],[cmp_isNaN_int.con],[(8,0),(10,0)],[],[],[],[],[],[],[],[]⟩
def an:An:=sQ [nO,nO,nO,.seq nO (.cond (sQ [.seq nO (.cond (.seq nO nO) nO),nO,nO]) nO),.seq nO (.cond (.seq nO nO) nO),.seq nO (.cond (.seq nO nO) nO),.seq nO (.cond (.seq nO nO) nO),nO,nO]
theorem run:aK env Tryz.f177 an con:=fun x=>by kernel_rfl
theorem ok:au pP con:=ax (E:=env) run mixed Tryz.func177 (by kernel_rfl) (cons_cons cmp_isNaN_int.ok (ai))
end cmp_Compare_int
namespace gr
def con:Con:=⟨176,[(aD liT)],[],[],[liT],oI,[],[iT],fun x=>gr x⟩
def env:Env:=⟨pP,[],[],[],[],[],[],[],[],[],[],[]⟩
def an:An:=sQ [nO,nO,.seq nO (.one (.loop ⟨[(8,(aD iT))],[],[iT]⟩ [3,6,7] [] (sQ [nO,.cond nO nO,.one (sQ [nO,nO,.cond (.seq nO nO) nO]),nO]))),nO,nO]
theorem run:aK env Tryz.f176 an con:=fun x=>by kernel_rfl
theorem ok:au pP con:=ax (E:=env) run mixed Tryz.func176 (by kernel_rfl) (ai)
end gr
namespace cw
def con:Con:=⟨144,[.c (.a cU),.c (.a cU)],[],[],[cU,cU],oI,[],[iT],fun x=>cw x.1 x.2⟩
def env:Env:=⟨pP,[(36,iT)],[cmp_Compare_int.con,gr.con],[(9,0),(14,0),(19,0),(21,1)],[],[],[],[20],[],[6,8,11,13,16,18],[],[]⟩
def an:An:=sQ [nO,nO,nO]
theorem run:aK env Tryz.f144 an con:=fun x=>by kernel_rfl
theorem ok:au pP con:=ax (E:=env) run mixed Tryz.func144 (by kernel_rfl) (cons_cons cmp_Compare_int.ok (cons_cons gr.ok (ai)))
end cw
namespace fg
def con:Con:=⟨158,[.c (.a bH)],[],[],[bH],oB,[],[.bool],fun x=>fg x⟩
def env:Env:=⟨pP,[],[cw.con],[(7,0)],[],[],[],[],[],[],[],[]⟩
def an:An:=sQ [nO,nO,nO]
theorem run:aK env Tryz.f158 an con:=fun x=>by kernel_rfl
theorem ok:au pP con:=ax (E:=env) run mixed Tryz.func158 (by kernel_rfl) (cons_cons cw.ok (ai))
end fg
namespace aV
def con:Con:=⟨143,[.c (.v (.own 1000000)),.c (.v (.fn 316 []))],[(1000000,.arr 161 bH)],[],[(.sl bH)],oI,[],[iT],fun x=>aV x⟩
def env:Env:=⟨pP,[],[fg.con],[(16,0)],[],[],[],[],[],[],[],[]⟩
def an:An:=sQ [nO,.seq nO (.one (.loop ⟨[(8,(aD iT))],[],[iT]⟩ [0,1,7] [1000000] (sQ [nO,.cond nO nO,.one (sQ [nO,nO,.cond (.seq nO nO) nO]),nO]))),nO,nO]
theorem run:aK env Tryz.f143 an con:=fun x=>by kernel_rfl
theorem ok:au pP con:=ax (E:=env) run mixed Tryz.func143 (by kernel_rfl) (cons_cons fg.ok (ai))
end aV
namespace aT
def con:Con:=⟨156,[.c (.v (.own 1000000)),.c (.v (.fn 316 []))],[],[(1000000,.arr 161 bH)],[(.sl bH)],.one (.v (.own 0)),[(0,.arr 161 bH),(1000000,.gone)],[(.sl bH)],fun x=>aT x⟩
def env:Env:=⟨pP,[],[aV.con,fg.con],[(10,0),(28,1)],[],[10],[],[41],[],[],[],[]⟩
def an:An:=sQ [nO,nO,.seq nO (.cond (.seq nO nO) nO),.seq nO (.one (.loop ⟨[(0,.c (.v (.own 1000000))),(5,(aD iT)),(6,(aD iT))],[(1000000,.arr 161 bH)],[iT,iT,(.sl bH)]⟩ [1] [] (sQ [.seq nO (.cond nO nO),.one (sQ [nO,nO,.cond (.seq nO nO) nO]),nO]))),nO,nO,nO]
theorem run:aK env Tryz.f156 an con:=fun x=>by kernel_rfl
theorem ok:au pP con:=ax (E:=env) run mixed Tryz.func156 (by kernel_rfl) (cons_cons aV.ok (cons_cons fg.ok (ai)))
end aT
def bits_Len.con:Con:=wH 179
theorem bits_Len.ok:au pP bits_Len.con:=Cn
namespace gS
def con:Con:=⟨160,[.c (.a bH),.c (.a bH)],[],[],[bH,bH],oI,[],[iT],fun x=>gS x.1 x.2⟩
def env:Env:=⟨pP,[],[cw.con],[(9,0)],[],[],[],[],[],[],[],[]⟩
def an:An:=sQ [nO,nO,nO]
theorem run:aK env Tryz.f160 an con:=fun x=>by kernel_rfl
theorem ok:au pP con:=ax (E:=env) run mixed Tryz.func160 (by kernel_rfl) (cons_cons cw.ok (ai))
end gS
namespace ay
def con:Con:=⟨230,[.c (.v (.own 1000000)),(aD iT),(aD iT),.c (.v (.fn 320 []))],[],[(1000000,.arr 161 bH)],[iT,iT,(.sl bH)],.tup [],[(1000000,.arr 161 bH)],[(.sl bH)],fun x=>ay x.1 x.2.1 x.2.2⟩
def env:Env:=⟨pP,[],[gS.con],[(32,0)],[1000000],[],[],[],[],[],[],[]⟩
def an:An := .seq nO (.one (.loop ⟨[(0,.c (.v (.own 1000000))),(8,(aD iT))],[(1000000,.arr 161 bH)],[iT,(.sl bH)]⟩ [1,2,3] [] (sQ [.seq nO (.cond nO nO),.one (.seq nO (.one (.loop ⟨[(0,.c (.v (.own 1000000))),(9,(aD iT))],[(1000000,.arr 161 bH)],[iT,(.sl bH)]⟩ [1,2,3,8] [] (sQ [.join ⟨[(34,aB)],[],[.bool]⟩ [0,1,2,3,8,9] [1000000] true nO (.cond nO nO),.one nO,nO])))),nO])))
theorem run:aK env Tryz.f230 an con:=fun x=>by kernel_rfl
theorem ok:au pP con:=ax (E:=env) run mixed Tryz.func230 (by kernel_rfl) (cons_cons gS.ok (ai))
end ay
namespace bw
def con:Con:=⟨190,[.c (.v (.own 1000000)),(aD iT),(aD iT),(aD iT),.c (.v (.fn 320 []))],[],[(1000000,.arr 161 bH)],[iT,iT,iT,(.sl bH)],.tup [],[(1000000,.arr 161 bH)],[(.sl bH)],fun x=>bw x.1 x.2.1 x.2.2.1 x.2.2.2⟩
def env:Env:=⟨pP,[],[ay.con],[(30,0)],[],[30],[],[],[],[],[],[]⟩
def an:An:=sQ [nO,nO,.one (.loop ⟨[(1,(aD iT)),(2,(aD iT)),(3,(aD iT)),(10,aB),(11,aB)],[],[iT,iT,iT,.bool,.bool]⟩ [0,4] [1000000] (.one (sQ [nO,.seq nO (.cond (.seq nO nO) nO),.seq nO (.cond (.seq nO nO) nO),.seq nO (.cond (.seq nO nO) nO),nO,.seq nO (.cond (sQ [nO,nO,nO]) nO),.seq nO (.cond (.seq nO (.cond nO nO)) nO),.seq nO (.cond (sQ [nO,nO,nO]) nO),nO,nO,nO,nO,nO,.cond (sQ [nO,nO,nO]) (sQ [nO,nO,nO])])))]
theorem run:aK env Tryz.f190 an con:=fun x=>by kernel_rfl
theorem ok:au pP con:=ax (E:=env) run mixed Tryz.func190 (by kernel_rfl) (cons_cons ay.ok (ai))
end bw
namespace bU
def con:Con:=⟨159,[.c (.v (.own 1000000)),.c (.v (.fn 320 []))],[],[(1000000,.arr 161 bH)],[(.sl bH)],.tup [],[(1000000,.arr 161 bH)],[(.sl bH)],fun x=>bU x⟩
def env:Env:=⟨pP,[],[bits_Len.con,bw.con],[(11,0),(13,1)],[],[13],[],[],[],[],[],[]⟩
def an:An := .seq nO nO
theorem run:aK env Tryz.f159 an con:=fun x=>by kernel_rfl
theorem ok:au pP con:=ax (E:=env) run mixed Tryz.func159 (by kernel_rfl) (cons_cons bits_Len.ok (cons_cons bw.ok (ai)))
end bU
namespace dT
def con:Con:=⟨123,[aD (.sl bH)],[],[],[(.sl bH)],.one (.v (.d (.sl bH))),[],[(.sl bH)],fun x=>dT x⟩
def env:Env:=⟨pP,[(30,bH)],[cm.con,aT.con,bU.con,cw.con],[(9,0),(10,1),(12,2),(32,3),(42,3)],[1000000],[10,12],[],[52],[],[26,41],[],[]⟩
def an:An:=sQ [nO,nO,nO,nO,.seq nO (.one (.loop ⟨[(4,.c (.v (.own 499002))),(15,(aD iT))],[(499002,.arr 161 bH)],[iT,(.sl bH)]⟩ [13,14] [10] (sQ [nO,.cond nO nO,.one (sQ [nO,.seq nO (.join ⟨[(34,aB)],[],[.bool]⟩ [4,6,7,13,14,15] [6,10,499002] true nO (.cond (.seq (.seq nO (.cond nO nO)) nO) nO)),nO]),nO]))),nO,nO]
theorem run:aK env Tryz.f123 an con:=fun x=>by kernel_rfl
theorem ok:au pP con:=ax (E:=env) run mixed Tryz.func123 (by kernel_rfl) (cons_cons cm.ok (cons_cons aT.ok (cons_cons bU.ok (cons_cons cw.ok (ai)))))
end dT
namespace aH
def con:Con:=⟨86,[aD (.sl bH),aD (.sl bH)],[],[],[(.sl bH),(.sl bH)],oB,[],[.bool],fun x=>aH x.1 x.2⟩
def env:Env:=⟨pP,[],[],[],[],[],[],[],[18,19,22,23],[],[],[]⟩
def an:An:=sQ [nO,.seq nO (.cond (.seq nO nO) nO),.seq nO (.one (.loop ⟨[(13,(aD iT))],[],[iT]⟩ [0,1,12] [] (sQ [nO,.cond nO nO,.one (sQ [nO,nO,.cond (.seq nO nO) nO]),nO]))),nO,nO]
theorem run:aK env Tryz.f86 an con:=fun x=>by kernel_rfl
theorem ok:au pP con:=ax (E:=env) run mixed Tryz.func86 (by kernel_rfl) (ai)
end aH
namespace dd
def con:Con:=⟨83,[aD (.sl bH)],[],[],[(.sl bH)],oB,[],[.bool],fun x=>dd x⟩
def env:Env:=⟨pP,[],[cA.con,dT.con,aH.con],[(13,0),(18,0),(27,1),(29,2)],[7,1000000],[],[],[],[],[],[],[]⟩
def an:An := .seq nO (.join ⟨[],[],[]⟩ [0] [] false (.seq nO (.one (.loop ⟨[(7,(aD iT))],[],[iT]⟩ [0,5,6] [] (sQ [nO,.cond nO nO,.one (.seq nO (.join ⟨[(20,aB)],[],[.bool]⟩ [0,5,6,7] [] true nO (.cond (.seq nO nO) nO))),nO])))) (.seq nO nO))
theorem run:aK env Tryz.f83 an con:=fun x=>by kernel_rfl
theorem ok:au pP con:=ax (E:=env) run mixed Tryz.func83 (by kernel_rfl) (cons_cons cA.ok (cons_cons dT.ok (cons_cons aH.ok (ai))))
end dd
namespace dH
def con:Con:=⟨80,[.c (.a jh),(aD lsT)],[],[],[jh,lsT],oB,[],[.bool],fun x=>dH x.1 x.2⟩
def env:Env:=⟨pP,[],[bj.con,dd.con,bT.con,eL.con],[(8,0),(12,1),(28,2),(33,3)],[1000000],[],[],[],[],[],[],[]⟩
def an:An:=sQ [nO,.one (.join ⟨[(5,aB)],[],[.bool]⟩ [1,2] [2] true (.seq nO (.cond nO (.seq nO (.cond nO (.seq nO (.cond nO nO)))))) (.cond (.seq nO nO) (.join ⟨[(20,aB)],[],[.bool]⟩ [2] [2] true nO (.cond (.seq nO nO) nO)))),nO,nO]
theorem run:aK env Tryz.f80 an con:=fun x=>by kernel_rfl
theorem ok:au pP con:=ax (E:=env) run mixed Tryz.func80 (by kernel_rfl) (cons_cons bj.ok (cons_cons dd.ok (cons_cons bT.ok (cons_cons eL.ok (ai)))))
end dH
namespace iJ
def con:Con:=⟨79,[.c (.a jh),.c (.v (.loc 1000000 0))],[(1000000,.box 27 [.own 1000001]),(1000001,.arr 9 .str)],[],[jh,lsT],oB,[],[.bool],fun x=>iJ x.1 x.2⟩
def env:Env:=⟨pP,[],[dH.con],[(6,0)],[],[],[],[],[],[],[],[]⟩
def an:An:=sQ [nO,nO,nO]
theorem run:aK env Tryz.f79 an con:=fun x=>by kernel_rfl
theorem ok:au pP con:=ax (E:=env) run mixed Tryz.func79 (by kernel_rfl) (cons_cons dH.ok (ai))
end iJ
namespace ba
def con:Con:=⟨117,[aD (.sl jh),.c (.v (.fn 158 [1000000]))],[(1000000,.box 27 [.own 1000001]),(1000001,.arr 9 .str)],[],[(.sl jh),lsT],oI,[],[iT],fun x=>ba x.1 x.2⟩
def env:Env:=⟨pP,[],[iJ.con],[(16,0)],[],[16],[],[],[],[],[],[]⟩
def an:An:=sQ [nO,.seq nO (.one (.loop ⟨[(8,(aD iT))],[],[iT]⟩ [0,1,7] [1000000,1000001] (sQ [nO,.cond nO nO,.one (sQ [nO,nO,.cond (.seq nO nO) nO]),nO]))),nO,nO]
theorem run:aK env Tryz.f117 an con:=fun x=>by kernel_rfl
theorem ok:au pP con:=ax (E:=env) run mixed Tryz.func117 (by kernel_rfl) (cons_cons iJ.ok (ai))
end ba
namespace cg
def con:Con:=⟨78,[aD (.sl jh),.c (.v (.fn 158 [1000000]))],[(1000000,.box 27 [.own 1000001]),(1000001,.arr 9 .str)],[],[(.sl jh),lsT],oB,[],[.bool],fun x=>cg x.1 x.2⟩
def env:Env:=⟨pP,[],[ba.con],[(7,0)],[],[7],[],[],[],[],[],[]⟩
def an:An:=sQ [nO,nO,nO]
theorem run:aK env Tryz.f78 an con:=fun x=>by kernel_rfl
theorem ok:au pP con:=ax (E:=env) run mixed Tryz.func78 (by kernel_rfl) (cons_cons ba.ok (ai))
end cg
namespace eC
def con:Con:=⟨118,[(aD lsT)],[],[],[lsT],.one (.v (.loc 0 0)),[(0,.box 249 [.d (.int .u32),.d (.int .i32),.d (.int .u32),.ni,.own 1]),(1,.arr 9 .str)],[(.int .u32),(.int .i32),(.int .u32),lsT],fun x=>eC x⟩
def env:Env:=⟨pP,[(27,.str)],[],[],[],[],[],[],[],[],[],[]⟩
def an:An:=sQ [nO,.seq nO (.cond nO nO),nO,nO]
theorem run:aK env Tryz.f118 an con:=fun x=>by kernel_rfl
theorem ok:au pP con:=ax (E:=env) run mixed Tryz.func118 (by kernel_rfl) (ai)
end eC
def cX.con:Con:=EV 119 249
theorem cX.ok:au pP cX.con:=J9
namespace bm
def con:Con:=⟨183,[.c (.v (.loc 1000000 0)),aS],[],[(1000000,.box 205 [.d lsT])],[.str,lsT],oB,[(1000000,.box 205 [.d lsT])],[.bool,lsT],fun x=>bm x.1 x.2⟩
def env:Env:=⟨pP,[],[],[],[1000000],[],[],[],[],[],[],[]⟩
def an:An:=sQ [nO,.join ⟨[(20,aB)],[],[.bool]⟩ [0] [1000000] true nO (.cond (sQ [nO,nO,nO]) nO),nO,nO]
theorem run:aK env Tryz.f183 an con:=fun x=>by kernel_rfl
theorem ok:au pP con:=ax (E:=env) run mixed Tryz.func183 (by kernel_rfl) (ai)
end bm
def gA.con:Con:=EU 222
theorem gA.ok:au pP gA.con:=Ka
def eP.con:Con:=BE 223 224
theorem eP.ok:au pP eP.con:=G9
namespace dX
def con:Con:=⟨185,[aS],[],[],[.str],oB,[],[.bool],fun x=>dX x⟩
def env:Env:=⟨pP,[],[gA.con,eP.con],[(29,0),(33,1)],[1000000],[],[],[],[],[],[],[]⟩
def an:An:=sQ [nO,.join ⟨[(27,aB)],[],[.bool]⟩ [0] [] true nO (.cond (.seq nO nO) nO),nO,nO]
theorem run:aK env Tryz.f185 an con:=fun x=>by kernel_rfl
theorem ok:au pP con:=ax (E:=env) run mixed Tryz.func185 (by kernel_rfl) (cons_cons gA.ok (cons_cons eP.ok (ai)))
end dX
namespace dh
def con:Con:=⟨221,[.c (.v (.loc 1000000 0))],[],[(1000000,.box 205 [.d lsT])],[lsT],.tup [.v (.d .str),.v (.d .bool)],[(1000000,.box 205 [.d lsT])],[.str,.bool,lsT],fun x=>dh x⟩
def env:Env:=⟨pP,[],[dX.con],[(18,0)],[1000000],[],[],[],[],[],[],[]⟩
def an:An:=sQ [nO,.join ⟨[(20,aB)],[],[.bool]⟩ [0] [1000000] true nO (.cond (.seq nO nO) nO),nO,nO,nO,nO]
theorem run:aK env Tryz.f221 an con:=fun x=>by kernel_rfl
theorem ok:au pP con:=ax (E:=env) run mixed Tryz.func221 (by kernel_rfl) (cons_cons dX.ok (ai))
end dh
abbrev aj.ps:List Ty:=[lsT]
abbrev aj.qs:List Ty:=[iX,.bool,lsT]
def aj.gu (Gr:List Bs->Option (dM×Bool×List Bs)):Con:=⟨120,[.c (.v (.loc 1000000 0))],[],[(1000000,.box 205 [.d lsT])],aj.ps,.tup [.a iX,.v (.d .bool)],[(1000000,.box 205 [.d lsT])],aj.qs,fun x=>Gr x⟩
namespace dU
def con (Gr:List Bs->Option (dM×Bool×List Bs)):Con:=⟨184,[.c (.v (.loc 1000000 0))],[],[(1000000,.box 205 [.d lsT])],[lsT],.tup [.a iX,.v (.d .bool)],[(1000000,.box 205 [.d lsT])],[iX,.bool,lsT],fun x=>dU Gr x⟩
def env (Gr:List Bs->Option (dM×Bool×List Bs)):Env:=⟨pP,[],[bm.con,(aj.gu Gr),dh.con],[(11,0),(14,1),(23,0),(29,2)],[],[11,14,23,29,6000023],[],[],[],[17,3500002,5500004],[],[]⟩
def an:An:=sQ [nO,.seq nO (.cond (sQ [nO,nO,nO]) nO),nO,nO,nO]
theorem run (Gr:List Bs->Option (dM×Bool×List Bs)):aK (env Gr) Tryz.f184 an (con Gr):=fun x=>by kernel_rfl
theorem ok (Gr:List Bs->Option (dM×Bool×List Bs)) (hG:au pP (aj.gu Gr)):au pP (con Gr):=ax (E:=(env Gr)) (run Gr) mixed Tryz.func184 (by kernel_rfl) (cons_cons bm.ok (cons_cons hG (cons_cons dh.ok (ai))))
end dU
namespace aW
def con (Gr:List Bs->Option (dM×Bool×List Bs)):Con:=⟨150,[.c (.v (.loc 1000000 0)),(aD iT),aS,.c (.v (.fn 369 [1000000]))],[],[(1000000,.box 205 [.d lsT])],[iT,.str,lsT],.tup [.a iX,.v (.d .bool)],[(1000000,.box 205 [.d lsT])],[iX,.bool,lsT],fun x=>aW Gr x.1 x.2.1 x.2.2⟩
def env (Gr:List Bs->Option (dM×Bool×List Bs)):Env:=⟨pP,[(150,iX)],[bm.con,(dU.con Gr)],[(22,0),(26,1)],[11,1000000],[22,26],[],[32],[],[],[],[]⟩
def an:An:=sQ [nO,nO,.join ⟨[(8,.c (.v (.loc 8 0))),(10,.c (.v (.loc 499006 0)))],[(8,.box 152 [.d iT,.d .str,.nil]),(499006,.box 152 [.d iT,.d .str,.own 499007]),(1000000,.box 205 [.d lsT]),(499007,.arr 152 iX)],[iT,.str,iT,.str,lsT,(.sl iX)]⟩ [] [] false (.seq nO (.one (.loop ⟨[(0,.c (.v (.loc 1000000 0))),(3,.c (.v (.fn 369 [1000000]))),(10,.c (.v (.loc 499011 0))),(11,aB)],[(1000000,.box 205 [.d lsT]),(499011,.box 152 [.d iT,.d .str,.own 499012]),(499012,.arr 152 iX)],[.bool,lsT,iT,.str,(.sl iX)]⟩ [1,2,8] [8] (sQ [.join ⟨[(0,.c (.v (.loc 1000000 0))),(3,.c (.v (.fn 369 [1000000]))),(23,aB)],[(1000000,.box 205 [.d lsT])],[.bool,lsT]⟩ [1,2,8,10] [8,499011,499012] true nO (.cond nO nO),.one (.seq nO (.one (.seq nO (.cond (.seq nO nO) (.seq nO (.cond nO nO)))))),nO])))) (sQ [.seq nO (.cond (.seq nO nO) nO),nO,nO])]
theorem run (Gr:List Bs->Option (dM×Bool×List Bs)):aK (env Gr) Tryz.f150 an (con Gr):=fun x=>by kernel_rfl
theorem ok (Gr:List Bs->Option (dM×Bool×List Bs)) (hG:au pP (aj.gu Gr)):au pP (con Gr):=ax (E:=(env Gr)) (run Gr) mixed Tryz.func150 (by kernel_rfl) (cons_cons bm.ok (cons_cons (dU.ok Gr hG) (ai)))
end aW
namespace cC
def con (Gr:List Bs->Option (dM×Bool×List Bs)):Con:=⟨151,[.c (.v (.loc 1000000 0))],[],[(1000000,.box 205 [.d lsT])],[lsT],.tup [.a iX,.v (.d .bool)],[(1000000,.box 205 [.d lsT])],[iX,.bool,lsT],fun x=>cC Gr x⟩
def env (Gr:List Bs->Option (dM×Bool×List Bs)):Env:=⟨pP,[],[(aW.con Gr)],[(7,0)],[],[7],[],[],[],[],[],[]⟩
def an:An:=sQ [nO,nO,nO]
theorem run (Gr:List Bs->Option (dM×Bool×List Bs)):aK (env Gr) Tryz.f151 an (con Gr):=fun x=>by kernel_rfl
theorem ok (Gr:List Bs->Option (dM×Bool×List Bs)) (hG:au pP (aj.gu Gr)):au pP (con Gr):=ax (E:=(env Gr)) (run Gr) mixed Tryz.func151 (by kernel_rfl) (cons_cons (aW.ok Gr hG) (ai))
end cC
namespace bQ
def con (Gr:List Bs->Option (dM×Bool×List Bs)):Con:=⟨150,[.c (.v (.loc 1000000 0)),(aD iT),aS,.c (.v (.fn 303 [1000000]))],[],[(1000000,.box 205 [.d lsT])],[iT,.str,lsT],.tup [.a iX,.v (.d .bool)],[(1000000,.box 205 [.d lsT])],[iX,.bool,lsT],fun x=>bQ Gr x.1 x.2.1 x.2.2⟩
def env (Gr:List Bs->Option (dM×Bool×List Bs)):Env:=⟨pP,[(150,iX)],[bm.con,(cC.con Gr)],[(22,0),(26,1)],[11,1000000],[22,26],[],[32],[],[],[],[]⟩
def an:An:=sQ [nO,nO,.join ⟨[(8,.c (.v (.loc 8 0))),(10,.c (.v (.loc 499006 0)))],[(8,.box 152 [.d iT,.d .str,.nil]),(499006,.box 152 [.d iT,.d .str,.own 499007]),(1000000,.box 205 [.d lsT]),(499007,.arr 152 iX)],[iT,.str,iT,.str,lsT,(.sl iX)]⟩ [] [] false (.seq nO (.one (.loop ⟨[(0,.c (.v (.loc 1000000 0))),(3,.c (.v (.fn 303 [1000000]))),(10,.c (.v (.loc 499011 0))),(11,aB)],[(1000000,.box 205 [.d lsT]),(499011,.box 152 [.d iT,.d .str,.own 499012]),(499012,.arr 152 iX)],[.bool,lsT,iT,.str,(.sl iX)]⟩ [1,2,8] [8] (sQ [.join ⟨[(0,.c (.v (.loc 1000000 0))),(3,.c (.v (.fn 303 [1000000]))),(23,aB)],[(1000000,.box 205 [.d lsT])],[.bool,lsT]⟩ [1,2,8,10] [8,499011,499012] true nO (.cond nO nO),.one (.seq nO (.one (.seq nO (.cond (.seq nO nO) (.seq nO (.cond nO nO)))))),nO])))) (sQ [.seq nO (.cond (.seq nO nO) nO),nO,nO])]
theorem run (Gr:List Bs->Option (dM×Bool×List Bs)):aK (env Gr) Tryz.f150 an (con Gr):=fun x=>by kernel_rfl
theorem ok (Gr:List Bs->Option (dM×Bool×List Bs)) (hG:au pP (aj.gu Gr)):au pP (con Gr):=ax (E:=(env Gr)) (run Gr) mixed Tryz.func150 (by kernel_rfl) (cons_cons bm.ok (cons_cons (cC.ok Gr hG) (ai)))
end bQ
namespace aj
def con:Con:=gu (rec Fuel.n)
def env (Gr:List Bs->Option (dM×Bool×List Bs)):Env:=⟨pP,[],[(bQ.con Gr)],[(7,0)],[],[7],[],[],[],[],[],[]⟩
def an:An:=sQ [nO,nO,nO]
theorem run (Gr:List Bs->Option (dM×Bool×List Bs)):aK (env Gr) Tryz.f120 an (gu (body Gr)):=fun x=>by kernel_rfl
theorem okB (Gr:List Bs->Option (dM×Bool×List Bs)) (hG:au pP (gu Gr)):au pP (gu (body Gr)):=ax (E:=(env Gr)) (run Gr) mixed Tryz.func120 (by kernel_rfl) (cons_cons (bQ.ok Gr hG) (ai))
theorem okN:∀ n,au pP (gu (rec n))
 | 0=>⟨by kernel_rfl,fun x r h=>by have h2:(none:Option (Tup aj.qs))=some r:=h; cases h2⟩
 | n+1=>okB (rec n) (okN n)
theorem ok:au pP con:=okN _
end aj
abbrev bn.ps:List Ty:=[iT,.str,(.sl iX),iT]
abbrev bn.qs:List Ty:=[iT]
def bn.gu (Gr:Int->Bs->List dM->Int->Option Int):Con:=⟨152,[.c (.g [.d iT,.d .str,.d (.sl iX)]),(aD iT)],[],[],bn.ps,oI,[],bn.qs,fun x=>Gr x.1 x.2.1 x.2.2.1 x.2.2.2⟩
namespace bn
def con:Con:=gu (rec Fuel.n)
def env (Gr:Int->Bs->List dM->Int->Option Int):Env:=⟨pP,[],[dX.con,(bn.gu Gr)],[(13,0),(60,1)],[1000000],[],[],[],[],[],[],[]⟩
def an:An:=sQ [nO,.seq nO (.cond (sQ [.join ⟨[(20,aB)],[],[.bool]⟩ [] [] true nO (.cond (.seq nO nO) nO),nO,nO]) nO),.join ⟨[(43,aB)],[],[.bool]⟩ [1,2] [2] true nO (.cond (.seq nO nO) nO),nO,.seq nO (.one (.loop ⟨[(5,(aD iT)),(47,(aD iT))],[],[iT,iT]⟩ [1,2,45,46] [2] (sQ [nO,.cond nO nO,.one (sQ [nO,.seq nO (.cond (.seq nO nO) nO),nO,nO,.cond (.seq nO nO) nO]),nO]))),nO,nO]
theorem run (Gr:Int->Bs->List dM->Int->Option Int):aK (env Gr) Tryz.f152 an (gu (body Gr)):=fun x=>by kernel_rfl
theorem okB (Gr:Int->Bs->List dM->Int->Option Int) (hG:au pP (gu Gr)):au pP (gu (body Gr)):=ax (E:=(env Gr)) (run Gr) mixed Tryz.func152 (by kernel_rfl) (cons_cons dX.ok (cons_cons hG (ai)))
theorem okN:∀ n,au pP (gu (rec n))
 | 0=>⟨by kernel_rfl,fun x r h=>by have h2:(none:Option (Tup bn.qs))=some r:=h; cases h2⟩
 | n+1=>okB (rec n) (okN n)
theorem ok:au pP con:=okN _
end bn
namespace gE
def con:Con:=⟨121,[.c (.g [.d iT,.d .str,.d (.sl iX)])],[],[],[iT,.str,(.sl iX)],oB,[],[.bool],fun x=>gE x.1 x.2.1 x.2.2⟩
def env:Env:=⟨pP,[],[bn.con],[(4,0)],[],[],[],[],[],[],[],[]⟩
def an:An:=sQ [nO,nO,nO]
theorem run:aK env Tryz.f121 an con:=fun x=>by kernel_rfl
theorem ok:au pP con:=ax (E:=env) run mixed Tryz.func121 (by kernel_rfl) (cons_cons bn.ok (ai))
end gE
namespace cB
def con:Con:=⟨81,[aS],[],[],[.str],.tup [.a iX,.v (.d iT)],[],[iX,iT],fun x=>cB x⟩
def env:Env:=⟨pP,[(27,.str)],[eC.con,cX.con,strings_Split.con,aj.con,gE.con],[(15,0),(17,1),(18,2),(35,3),(49,4)],[10,1000000],[17,35],[35],[14,28],[],[],[],[]⟩
def an:An:=sQ [nO,.seq nO (.cond (.seq nO nO) nO),nO,.join ⟨[(4,.c (.v (.own 499003)))],[(499003,.arr 9 .str)],[lsT]⟩ [2] [2] true (.seq nO (.one (.loop ⟨[(4,.c (.v (.own 499005))),(20,(aD iT))],[(499005,.arr 9 .str)],[iT,lsT]⟩ [2,18,19] [2] (sQ [nO,.cond nO nO,.one (sQ [nO,nO,.cond nO nO]),nO])))) (sQ [nO,nO,.join ⟨[(46,aB)],[],[.bool]⟩ [2,8] [2,8] true nO (.cond (.seq nO nO) nO),.seq nO (.cond (.seq nO nO) nO),nO,nO])]
theorem run:aK env Tryz.f81 an con:=fun x=>by kernel_rfl
theorem ok:au pP con:=ax (E:=env) run mixed Tryz.func81 (by kernel_rfl) (cons_cons eC.ok (cons_cons cX.ok (cons_cons strings_Split.ok (cons_cons aj.ok (cons_cons gE.ok (ai))))))
end cB
namespace bM
def con:Con:=⟨32,[.c (.a iP)],[],[],[iP],oB,[],[.bool],fun x=>bM x⟩
def env:Env:=⟨pP,[(27,.str)],[bj.con,cA.con,eL.con,cF.con,cg.con,cB.con],[(25,0),(30,1),(41,2),(53,2),(65,2),(71,3),(77,4),(81,5)],[7,15,1000000],[71,77],[],[20],[],[],[],[]⟩
def an:An:=sQ [nO,nO,.join ⟨[(3,.c (.v (.loc 499006 0)))],[(499006,.box 27 [.own 499007]),(499007,.arr 9 .str)],[lsT]⟩ [1] [1] true (.seq nO (.one (.loop ⟨[(3,.c (.v (.loc 499011 0))),(13,(aD iT))],[(499011,.box 27 [.own 499012]),(499012,.arr 9 .str)],[iT,lsT]⟩ [1,11,12] [1] (sQ [nO,.cond nO nO,.one (.seq nO nO),nO])))) (.seq (.join ⟨[(55,aB)],[],[.bool]⟩ [1,3] [1,499006,499007] true nO (.cond (.seq nO nO) nO)) (.join ⟨[],[],[]⟩ [1,3] [1,499006,499007] false (.seq nO (.one (.loop ⟨[(59,(aD iT))],[],[iT]⟩ [1,3,57,58] [1,499006,499007] (sQ [nO,.cond nO nO,.one (.seq nO (.join ⟨[(72,aB)],[],[.bool]⟩ [1,3,57,58,59] [1,499006,499007] true nO (.cond (.seq nO nO) nO))),nO])))) (sQ [.seq nO (.cond (.seq nO nO) nO),nO,nO,nO])))]
theorem run:aK env Tryz.f32 an con:=fun x=>by kernel_rfl
theorem ok:au pP con:=ax (E:=env) run mixed Tryz.func32 (by kernel_rfl) (cons_cons bj.ok (cons_cons cA.ok (cons_cons eL.ok (cons_cons cF.ok (cons_cons cg.ok (cons_cons cB.ok (ai)))))))
end bM
namespace gT
def con:Con:=⟨161,[aD (.int .u8)],[],[],[(.int .u8)],oB,[],[.bool],fun x=>gT x⟩
def env:Env:=⟨pP,[],[],[],[],[],[],[],[],[],[],[]⟩
def an:An:=sQ [nO,nO,nO]
theorem run:aK env Tryz.f161 an con:=fun x=>by kernel_rfl
theorem ok:au pP con:=ax (E:=env) run mixed Tryz.func161 (by kernel_rfl) (ai)
end gT
namespace kA
def con:Con:=⟨164,[aD (.int .u8)],[],[],[(.int .u8)],oB,[],[.bool],fun x=>kA x⟩
def env:Env:=⟨pP,[],[],[],[],[],[],[],[],[],[],[]⟩
def an:An:=sQ [nO,nO,nO]
theorem run:aK env Tryz.f164 an con:=fun x=>by kernel_rfl
theorem ok:au pP con:=ax (E:=env) run mixed Tryz.func164 (by kernel_rfl) (ai)
end kA
namespace jM
def con:Con:=⟨163,[aD (.int .u8)],[],[],[(.int .u8)],oB,[],[.bool],fun x=>jM x⟩
def env:Env:=⟨pP,[],[gT.con,kA.con],[(4,0),(7,1)],[],[],[],[],[],[],[],[]⟩
def an:An:=sQ [nO,nO,nO]
theorem run:aK env Tryz.f163 an con:=fun x=>by kernel_rfl
theorem ok:au pP con:=ax (E:=env) run mixed Tryz.func163 (by kernel_rfl) (cons_cons gT.ok (cons_cons kA.ok (ai)))
end jM
namespace gg
def con:Con:=⟨162,[aS,.c (.v (.fn 326 []))],[],[],[.str],oI,[],[iT],fun x=>gg x⟩
def env:Env:=⟨pP,[],[jM.con],[(15,0)],[1000000],[],[],[],[],[],[],[]⟩
def an:An:=sQ [nO,nO,.one (.loop ⟨[(5,(aD iT))],[],[iT]⟩ [0,1] [] (.seq (.join ⟨[(16,aB)],[],[.bool]⟩ [0,1,5] [] true nO (.cond nO nO)) (.one nO))),nO,nO]
theorem run:aK env Tryz.f162 an con:=fun x=>by kernel_rfl
theorem ok:au pP con:=ax (E:=env) run mixed Tryz.func162 (by kernel_rfl) (cons_cons jM.ok (ai))
end gg
namespace iq
def con:Con:=⟨124,[aS],[],[],[.str],oB,[],[.bool],fun x=>iq x⟩
def env:Env:=⟨pP,[],[gT.con,gg.con],[(8,0),(17,1)],[1000000],[],[],[],[],[],[],[]⟩
def an:An:=sQ [nO,.join ⟨[(15,aB)],[],[.bool]⟩ [0] [] true nO (.cond (.seq nO nO) nO),nO,nO]
theorem run:aK env Tryz.f124 an con:=fun x=>by kernel_rfl
theorem ok:au pP con:=ax (E:=env) run mixed Tryz.func124 (by kernel_rfl) (cons_cons gT.ok (cons_cons gg.ok (ai)))
end iq
def strings_Contains.con:Con:=pB 125
theorem strings_Contains.ok:au pP strings_Contains.con:=xq
namespace dI
def con:Con:=⟨84,[aS],[],[],[.str],oB,[],[.bool],fun x=>dI x⟩
def env:Env:=⟨pP,[],[iq.con,strings_Contains.con],[(4,0),(9,1)],[],[],[],[],[],[],[],[]⟩
def an:An:=sQ [nO,nO,nO]
theorem run:aK env Tryz.f84 an con:=fun x=>by kernel_rfl
theorem ok:au pP con:=ax (E:=env) run mixed Tryz.func84 (by kernel_rfl) (cons_cons iq.ok (cons_cons strings_Contains.ok (ai)))
end dI
namespace dJ
def con:Con:=⟨165,[.c (.g [.d iT,.d iT,.d .str,.d .str,.d lsT,.d (.sl gj)])],[],[],[iT,iT,.str,.str,lsT,(.sl gj)],.tup [.a gj,.v (.d iT)],[],[gj,iT],fun x=>dJ x.1 x.2.1 x.2.2.1 x.2.2.2.1 x.2.2.2.2.1 x.2.2.2.2.2⟩
def env:Env:=⟨pP,[],[],[],[1000000],[],[],[],[59],[56,58,63,65,3500002,5500004,58500001,63500001,65500001,67500004,68500004],[],[]⟩
def an:An:=sQ [nO,nO,.seq nO (.one (.join ⟨[(12,aB)],[],[.bool]⟩ [1,2,4,11] [1,2,4] true (.seq nO (.cond nO nO)) (.cond (sQ [nO,nO,nO]) (.join ⟨[(19,aB)],[],[.bool]⟩ [1,2,4,11] [1,2,4] true (.seq nO (.cond nO nO)) (.cond (sQ [nO,nO,nO]) (.join ⟨[(26,aB)],[],[.bool]⟩ [1,2,4,11] [1,2,4] true (.seq nO (.cond nO nO)) (.cond (sQ [nO,nO,nO]) (.seq nO (.cond (sQ [nO,nO,nO]) (.seq nO (.cond (.seq nO nO) (.seq nO (.cond (sQ [nO,nO,nO]) (.seq nO (.cond (.seq nO nO) (.seq nO (.cond (sQ [nO,nO,nO]) (.seq nO (.cond (sQ [nO,nO,nO]) nO))))))))))))))))))),nO,nO]
theorem run:aK env Tryz.f165 an con:=fun x=>by kernel_rfl
theorem ok:au pP con:=ax (E:=env) run mixed Tryz.func165 (by kernel_rfl) (ai)
end dJ
namespace dK
def con:Con:=⟨166,[.c (.g [.d iT,.d iT,.d .str,.d .str,.d lsT,.d (.sl gj)])],[],[],[iT,iT,.str,.str,lsT,(.sl gj)],oB,[],[.bool],fun x=>dK x.1 x.2.1 x.2.2.1 x.2.2.2.1 x.2.2.2.2.1 x.2.2.2.2.2⟩
def env:Env:=⟨pP,[],[dI.con],[(55,0),(60,0),(68,0),(88,0)],[1000000],[],[],[],[],[],[],[]⟩
def an:An:=sQ [nO,.seq nO (.one (.seq nO (.cond (.seq nO nO) (.seq nO (.cond (.seq nO nO) (.seq nO (.cond (.seq nO nO) (.join ⟨[(47,aB)],[],[.bool]⟩ [1,6] [1] true (.seq nO (.cond nO (.seq nO (.cond nO (.seq nO (.cond nO (.seq nO (.cond nO nO)))))))) (.cond (.seq nO nO) (.seq nO (.cond (.seq nO nO) (.seq nO (.cond (sQ [.seq nO (.one (.loop ⟨[(82,(aD iT))],[],[iT]⟩ [1,80,81] [1] (sQ [nO,.cond nO nO,.one (.seq nO (.join ⟨[(103,aB)],[],[.bool]⟩ [1,80,81,82] [1] true nO (.cond (.seq nO nO) nO))),nO]))),nO,nO]) nO))))))))))))),nO,nO]
theorem run:aK env Tryz.f166 an con:=fun x=>by kernel_rfl
theorem ok:au pP con:=ax (E:=env) run mixed Tryz.func166 (by kernel_rfl) (cons_cons dI.ok (ai))
end dK
abbrev aU.ps:List Ty:=[iT,iT,.str,.str,lsT,(.sl gj),iT]
abbrev aU.qs:List Ty:=[.bool]
def aU.gu (Gr:Int->Int->Bs->Bs->List Bs->List fq->Int->Option Bool):Con:=⟨126,[.c (.g [.d iT,.d iT,.d .str,.d .str,.d lsT,.d (.sl gj)]),(aD iT)],[],[],aU.ps,oB,[],aU.qs,fun x=>Gr x.1 x.2.1 x.2.2.1 x.2.2.2.1 x.2.2.2.2.1 x.2.2.2.2.2.1 x.2.2.2.2.2.2⟩
namespace aU
def con:Con:=gu (rec Fuel.n)
def env (Gr:Int->Int->Bs->Bs->List Bs->List fq->Int->Option Bool):Env:=⟨pP,[],[dJ.con,dK.con,(aU.gu Gr)],[(23,0),(67,1),(80,2)],[1000000],[],[],[],[],[],[],[]⟩
def an:An:=sQ [nO,.join ⟨[(20,aB)],[],[.bool]⟩ [1,2] [2] true nO (.cond (.seq nO nO) nO),nO,.join ⟨[(69,aB)],[],[.bool]⟩ [1,2] [2] true nO (.cond (.seq nO nO) nO),.seq nO (.one (.loop ⟨[(73,(aD iT))],[],[iT]⟩ [1,71,72] [] (sQ [nO,.cond nO nO,.one (sQ [nO,nO,.cond (.seq nO nO) nO]),nO]))),nO,nO]
theorem run (Gr:Int->Int->Bs->Bs->List Bs->List fq->Int->Option Bool):aK (env Gr) Tryz.f126 an (gu (body Gr)):=fun x=>by kernel_rfl
theorem okB (Gr:Int->Int->Bs->Bs->List Bs->List fq->Int->Option Bool) (hG:au pP (gu Gr)):au pP (gu (body Gr)):=ax (E:=(env Gr)) (run Gr) mixed Tryz.func126 (by kernel_rfl) (cons_cons dJ.ok (cons_cons dK.ok (cons_cons hG (ai))))
theorem okN:∀ n,au pP (gu (rec n))
 | 0=>⟨by kernel_rfl,fun x r h=>by have h2:(none:Option (Tup aU.qs))=some r:=h; cases h2⟩
 | n+1=>okB (rec n) (okN n)
theorem ok:au pP con:=okN _
end aU
namespace dc
def con:Con:=⟨85,[.c (.g [.d iT,.d iT,.d .str,.d .str,.d lsT,.d (.sl gj)])],[],[],[iT,iT,.str,.str,lsT,(.sl gj)],oB,[],[.bool],fun x=>dc x.1 x.2.1 x.2.2.1 x.2.2.2.1 x.2.2.2.2.1 x.2.2.2.2.2⟩
def env:Env:=⟨pP,[],[aU.con],[(4,0)],[],[],[],[],[],[],[],[]⟩
def an:An:=sQ [nO,nO,nO]
theorem run:aK env Tryz.f85 an con:=fun x=>by kernel_rfl
theorem ok:au pP con:=ax (E:=env) run mixed Tryz.func85 (by kernel_rfl) (cons_cons aU.ok (ai))
end dc
namespace iV
def con:Con:=⟨35,[.c (.a wW)],[],[],[wW],oB,[],[.bool],fun x=>iV x⟩
def env:Env:=⟨pP,[],[bj.con,dd.con,dI.con,dc.con],[(14,0),(19,1),(24,2),(29,3)],[],[],[],[],[],[],[],[]⟩
def an:An:=sQ [nO,nO,nO]
theorem run:aK env Tryz.f35 an con:=fun x=>by kernel_rfl
theorem ok:au pP con:=ax (E:=env) run mixed Tryz.func35 (by kernel_rfl) (cons_cons bj.ok (cons_cons dd.ok (cons_cons dI.ok (cons_cons dc.ok (ai)))))
end iV
namespace eZ
def con:Con:=⟨36,[.c (.a cO)],[],[],[cO],oB,[],[.bool],fun x=>eZ x⟩
def env:Env:=⟨pP,[],[],[],[7,1000000],[],[],[],[],[],[],[]⟩
def an:An := .seq nO (.join ⟨[],[],[]⟩ [1] [1] false (.seq nO (.one (.loop ⟨[(8,(aD iT))],[],[iT]⟩ [1,6,7] [1] (sQ [nO,.cond nO nO,.one (.seq nO (.join ⟨[(32,aB)],[],[.bool]⟩ [1,6,7,8] [1] true nO (.cond (.seq nO nO) nO))),nO])))) (.seq nO nO))
theorem run:aK env Tryz.f36 an con:=fun x=>by kernel_rfl
theorem ok:au pP con:=ax (E:=env) run mixed Tryz.func36 (by kernel_rfl) (ai)
end eZ
namespace aP
def con:Con:=⟨127,[(aD lsT),(aD lsT)],[],[],[lsT,lsT],oB,[],[.bool],fun x=>aP x.1 x.2⟩
def env:Env:=⟨pP,[],[],[],[],[],[],[],[18,19,22,23],[],[],[]⟩
def an:An:=sQ [nO,.seq nO (.cond (.seq nO nO) nO),.seq nO (.one (.loop ⟨[(13,(aD iT))],[],[iT]⟩ [0,1,12] [] (sQ [nO,.cond nO nO,.one (sQ [nO,nO,.cond (.seq nO nO) nO]),nO]))),nO,nO]
theorem run:aK env Tryz.f127 an con:=fun x=>by kernel_rfl
theorem ok:au pP con:=ax (E:=env) run mixed Tryz.func127 (by kernel_rfl) (ai)
end aP
abbrev bY.ps:List Ty:=[iT,iT,.str,.str,lsT,(.sl gj),iT,iT,.str,.str,lsT,(.sl gj)]
abbrev bY.qs:List Ty:=[.bool]
def bY.gu (Gr:Int->Int->Bs->Bs->List Bs->List fq->Int->Int->Bs->Bs->List Bs->List fq->Option Bool):Con:=⟨87,[.c (.g [.d iT,.d iT,.d .str,.d .str,.d lsT,.d (.sl gj)]),.c (.g [.d iT,.d iT,.d .str,.d .str,.d lsT,.d (.sl gj)])],[],[],bY.ps,oB,[],bY.qs,fun x=>Gr x.1 x.2.1 x.2.2.1 x.2.2.2.1 x.2.2.2.2.1 x.2.2.2.2.2.1 x.2.2.2.2.2.2.1 x.2.2.2.2.2.2.2.1 x.2.2.2.2.2.2.2.2.1 x.2.2.2.2.2.2.2.2.2.1 x.2.2.2.2.2.2.2.2.2.2.1 x.2.2.2.2.2.2.2.2.2.2.2⟩
namespace aR
def con (Gr:Int->Int->Bs->Bs->List Bs->List fq->Int->Int->Bs->Bs->List Bs->List fq->Option Bool):Con:=⟨128,[aD (.sl gj),aD (.sl gj),.c (.v (.fn 174 []))],[],[],[(.sl gj),(.sl gj)],oB,[],[.bool],fun x=>aR Gr x.1 x.2⟩
def env (Gr:Int->Int->Bs->Bs->List Bs->List fq->Int->Int->Bs->Bs->List Bs->List fq->Option Bool):Env:=⟨pP,[],[(bY.gu Gr)],[(29,0)],[],[],[],[],[],[],[],[]⟩
def an:An:=sQ [nO,.seq nO (.cond (.seq nO nO) nO),.seq nO (.one (.loop ⟨[(17,(aD iT))],[],[iT]⟩ [1,2,15,16] [] (sQ [nO,.cond nO nO,.one (sQ [nO,nO,nO,.cond (.seq nO nO) nO]),nO]))),nO,nO]
theorem run (Gr:Int->Int->Bs->Bs->List Bs->List fq->Int->Int->Bs->Bs->List Bs->List fq->Option Bool):aK (env Gr) Tryz.f128 an (con Gr):=fun x=>by kernel_rfl
theorem ok (Gr:Int->Int->Bs->Bs->List Bs->List fq->Int->Int->Bs->Bs->List Bs->List fq->Option Bool) (hG:au pP (bY.gu Gr)):au pP (con Gr):=ax (E:=(env Gr)) (run Gr) mixed Tryz.func128 (by kernel_rfl) (cons_cons hG (ai))
end aR
namespace bY
def con:Con:=gu (rec Fuel.n)
def env (Gr:Int->Int->Bs->Bs->List Bs->List fq->Int->Int->Bs->Bs->List Bs->List fq->Option Bool):Env:=⟨pP,[],[aP.con,(aR.con Gr)],[(36,0),(43,1)],[],[],[],[],[],[],[],[]⟩
def an:An:=sQ [nO,nO,nO]
theorem run (Gr:Int->Int->Bs->Bs->List Bs->List fq->Int->Int->Bs->Bs->List Bs->List fq->Option Bool):aK (env Gr) Tryz.f87 an (gu (body Gr)):=fun x=>by kernel_rfl
theorem okB (Gr:Int->Int->Bs->Bs->List Bs->List fq->Int->Int->Bs->Bs->List Bs->List fq->Option Bool) (hG:au pP (gu Gr)):au pP (gu (body Gr)):=ax (E:=(env Gr)) (run Gr) mixed Tryz.func87 (by kernel_rfl) (cons_cons aP.ok (cons_cons (aR.ok Gr hG) (ai)))
theorem okN:∀ n,au pP (gu (rec n))
 | 0=>⟨by kernel_rfl,fun x r h=>by have h2:(none:Option (Tup bY.qs))=some r:=h; cases h2⟩
 | n+1=>okB (rec n) (okN n)
theorem ok:au pP con:=okN _
end bY
namespace ey
def con:Con:=⟨130,[.c (.a jh),.c (.a jh)],[],[],[jh,jh],oB,[],[.bool],fun x=>ey x.1 x.2⟩
def env:Env:=⟨pP,[],[aH.con,aP.con],[(29,0),(36,1)],[],[],[],[],[],[],[],[]⟩
def an:An:=sQ [nO,nO,nO]
theorem run:aK env Tryz.f130 an con:=fun x=>by kernel_rfl
theorem ok:au pP con:=ax (E:=env) run mixed Tryz.func130 (by kernel_rfl) (cons_cons aH.ok (cons_cons aP.ok (ai)))
end ey
namespace aI
def con:Con:=⟨129,[aD (.sl jh),aD (.sl jh),.c (.v (.fn 260 []))],[],[],[(.sl jh),(.sl jh)],oB,[],[.bool],fun x=>aI x.1 x.2⟩
def env:Env:=⟨pP,[],[ey.con],[(29,0)],[],[],[],[],[],[],[],[]⟩
def an:An:=sQ [nO,.seq nO (.cond (.seq nO nO) nO),.seq nO (.one (.loop ⟨[(17,(aD iT))],[],[iT]⟩ [1,2,15,16] [] (sQ [nO,.cond nO nO,.one (sQ [nO,nO,nO,.cond (.seq nO nO) nO]),nO]))),nO,nO]
theorem run:aK env Tryz.f129 an con:=fun x=>by kernel_rfl
theorem ok:au pP con:=ax (E:=env) run mixed Tryz.func129 (by kernel_rfl) (cons_cons ey.ok (ai))
end aI
namespace eA
def con:Con:=⟨132,[.c (.a ie),.c (.a ie)],[],[],[ie,ie],oB,[],[.bool],fun x=>eA x.1 x.2⟩
def env:Env:=⟨pP,[],[aP.con],[(15,0)],[],[],[],[],[],[],[],[]⟩
def an:An:=sQ [nO,nO,nO]
theorem run:aK env Tryz.f132 an con:=fun x=>by kernel_rfl
theorem ok:au pP con:=ax (E:=env) run mixed Tryz.func132 (by kernel_rfl) (cons_cons aP.ok (ai))
end eA
namespace az
def con:Con:=⟨131,[aD (.sl ie),aD (.sl ie),.c (.v (.fn 264 []))],[],[],[(.sl ie),(.sl ie)],oB,[],[.bool],fun x=>az x.1 x.2⟩
def env:Env:=⟨pP,[],[eA.con],[(29,0)],[],[],[],[],[],[],[],[]⟩
def an:An:=sQ [nO,.seq nO (.cond (.seq nO nO) nO),.seq nO (.one (.loop ⟨[(17,(aD iT))],[],[iT]⟩ [1,2,15,16] [] (sQ [nO,.cond nO nO,.one (sQ [nO,nO,nO,.cond (.seq nO nO) nO]),nO]))),nO,nO]
theorem run:aK env Tryz.f131 an con:=fun x=>by kernel_rfl
theorem ok:au pP con:=ax (E:=env) run mixed Tryz.func131 (by kernel_rfl) (cons_cons eA.ok (ai))
end az
namespace fA
def con:Con:=⟨88,[.c (.a iP),.c (.a iP)],[],[],[iP,iP],oB,[],[.bool],fun x=>fA x.1 x.2⟩
def env:Env:=⟨pP,[],[aI.con,az.con,aP.con],[(11,0),(16,1),(47,2)],[],[],[],[],[],[],[],[]⟩
def an:An:=sQ [nO,nO,nO,nO,nO]
theorem run:aK env Tryz.f88 an con:=fun x=>by kernel_rfl
theorem ok:au pP con:=ax (E:=env) run mixed Tryz.func88 (by kernel_rfl) (cons_cons aI.ok (cons_cons az.ok (cons_cons aP.ok (ai))))
end fA
namespace dk
def con:Con:=⟨89,[(aD liT),(aD liT)],[],[],[liT,liT],oB,[],[.bool],fun x=>dk x.1 x.2⟩
def env:Env:=⟨pP,[],[],[],[],[],[],[],[18,19,22,23],[],[],[]⟩
def an:An:=sQ [nO,.seq nO (.cond (.seq nO nO) nO),.seq nO (.one (.loop ⟨[(13,(aD iT))],[],[iT]⟩ [0,1,12] [] (sQ [nO,.cond nO nO,.one (sQ [nO,nO,.cond (.seq nO nO) nO]),nO]))),nO,nO]
theorem run:aK env Tryz.f89 an con:=fun x=>by kernel_rfl
theorem ok:au pP con:=ax (E:=env) run mixed Tryz.func89 (by kernel_rfl) (ai)
end dk
namespace iK
def con:Con:=⟨37,[.c (.a cO),.c (.a cO)],[],[],[cO,cO],oB,[],[.bool],fun x=>iK x.1 x.2⟩
def env:Env:=⟨pP,[],[aH.con,bY.con,fA.con,dk.con],[(29,0),(43,1),(51,2),(79,3)],[3],[],[],[],[],[9,11,6000035,7000035,9000038,11000038],[],[]⟩
def an:An:=sQ [nO,nO,.join ⟨[(7,aB)],[],[.bool]⟩ [2,3] [2,3] true nO (.seq nO nO)]
theorem run:aK env Tryz.f37 an con:=fun x=>by kernel_rfl
theorem ok:au pP con:=ax (E:=env) run mixed Tryz.func37 (by kernel_rfl) (cons_cons aH.ok (cons_cons bY.ok (cons_cons fA.ok (cons_cons dk.ok (ai)))))
end iK
namespace bV
def con:Con:=⟨6,[.c (.a cO)],[],[],[cO],oB,[],[.bool],fun x=>bV x⟩
def env:Env:=⟨pP,[],[bM.con,bj.con,cA.con,iV.con,eZ.con,iK.con],[(29,0),(44,1),(49,2),(60,3),(82,1),(86,4),(123,1),(128,2),(144,5)],[3,23,1000000],[],[],[],[],[35,37,67,69,71,73,111,113,115,35500001,37500001,39500003,40500003,67500001,69500001,71500001,73500001,75500003,76500003,77500003,78500003,111500001,113500001,115500001,117500003,118500003,119500003],[],[]⟩
def an:An:=sQ [nO,nO,.join ⟨[(4,aB)],[],[.bool]⟩ [1,3] [1,3] true nO (.join ⟨[(3,.c (.v (.loc 499001 0))),(4,aB)],[(499001,.box 38 [.d iT,.d .str,.d iT,.d iT,.d iT,.d .str,.d iT,.d iT,.d iT,.d .str,.d (.sl jh),.d (.sl ie),.d lsT,.d .str,.d iT,.d .str,.d (.sl bH),.d .str,.d iT,.d iT,.d .str,.d .str,.d lsT,.d (.sl gj),.d liT,.d iT,.d iT,.d iT,.d iT])],[.bool,iT,.str,iT,iT,iT,.str,iT,iT,iT,.str,(.sl jh),(.sl ie),lsT,.str,iT,.str,(.sl bH),.str,iT,iT,.str,.str,lsT,(.sl gj),liT,iT,iT,iT,iT]⟩ [1] [1] false (.seq nO (.one (.seq nO (.cond (.seq nO nO) (.join ⟨[(31,aB)],[],[.bool]⟩ [1,3,4,19] [1,3] true (.seq nO (.cond nO nO)) (.cond (.seq nO nO) (.seq nO (.cond (.seq nO nO) (.join ⟨[(62,aB)],[],[.bool]⟩ [1,3,4,19] [1,3] true (.seq nO (.cond nO (.seq nO (.cond nO nO)))) (.cond (.seq nO nO) (.seq nO (.cond (.seq nO nO) (.seq nO nO))))))))))))) (.seq nO nO))]
theorem run:aK env Tryz.f6 an con:=fun x=>by kernel_rfl
theorem ok:au pP con:=ax (E:=env) run mixed Tryz.func6 (by kernel_rfl) (cons_cons bM.ok (cons_cons bj.ok (cons_cons cA.ok (cons_cons iV.ok (cons_cons eZ.ok (cons_cons iK.ok (ai)))))))
end bV
def strconv_Itoa.con:Con:=EX 90
theorem strconv_Itoa.ok:au pP strconv_Itoa.con:=JX
namespace fG
def con:Con:=⟨46,[.c (.a cU)],[],[],[cU],oS,[],[.str],fun x=>fG x⟩
def env:Env:=⟨pP,[],[cA.con,strconv_Itoa.con],[(4,0),(8,1),(12,1),(17,1)],[],[],[],[],[],[7,11,16],[],[]⟩
def an:An:=sQ [nO,.seq nO (.cond (.seq nO nO) nO),nO,nO]
theorem run:aK env Tryz.f46 an con:=fun x=>by kernel_rfl
theorem ok:au pP con:=ax (E:=env) run mixed Tryz.func46 (by kernel_rfl) (cons_cons cA.ok (cons_cons strconv_Itoa.ok (ai)))
end fG
namespace gh
def con:Con:=⟨13,[.c (.a cO)],[],[],[cO],oS,[],[.str],fun x=>gh x⟩
def env:Env:=⟨pP,[],[bV.con,fG.con],[(4,0),(18,1),(29,1),(45,1)],[1000000],[],[],[],[],[12,17,24,28,40,44],[],[]⟩
def an:An:=sQ [nO,.seq nO (.cond (.seq nO nO) nO),.seq nO (.one (.seq nO (.cond (.seq nO nO) (.join ⟨[(20,aB)],[],[.bool]⟩ [1,7] [1] true (.seq nO (.cond nO nO)) (.cond (.seq nO nO) (.seq nO (.cond (.seq nO nO) (.seq nO (.cond (.seq nO nO) nO))))))))),nO,nO]
theorem run:aK env Tryz.f13 an con:=fun x=>by kernel_rfl
theorem ok:au pP con:=ax (E:=env) run mixed Tryz.func13 (by kernel_rfl) (cons_cons bV.ok (cons_cons fG.ok (ai)))
end gh
namespace cK
def con:Con:=⟨38,[aS],[],[],[.str],oS,[],[.str],fun x=>cK x⟩
def env:Env:=⟨pP,[],[strconv_Itoa.con],[(5,0)],[],[],[],[],[],[],[],[]⟩
def an:An:=sQ [nO,nO,nO]
theorem run:aK env Tryz.f38 an con:=fun x=>by kernel_rfl
theorem ok:au pP con:=ax (E:=env) run mixed Tryz.func38 (by kernel_rfl) (cons_cons strconv_Itoa.ok (ai))
end cK
namespace jr
def con:Con:=⟨91,[(aD iT)],[],[],[iT],oS,[],[.str],fun x=>jr x⟩
def env:Env:=⟨pP,[],[strconv_Itoa.con],[(4,0)],[],[],[],[],[],[],[],[]⟩
def an:An:=sQ [nO,nO,nO]
theorem run:aK env Tryz.f91 an con:=fun x=>by kernel_rfl
theorem ok:au pP con:=ax (E:=env) run mixed Tryz.func91 (by kernel_rfl) (cons_cons strconv_Itoa.ok (ai))
end jr
namespace dm
def con:Con:=⟨39,[(aD iT)],[],[],[iT],oS,[],[.str],fun x=>dm x⟩
def env:Env:=⟨pP,[],[jr.con],[(6,0)],[],[],[],[],[],[],[],[]⟩
def an:An:=sQ [nO,.seq nO (.cond (.seq nO nO) nO),nO,nO]
theorem run:aK env Tryz.f39 an con:=fun x=>by kernel_rfl
theorem ok:au pP con:=ax (E:=env) run mixed Tryz.func39 (by kernel_rfl) (cons_cons jr.ok (ai))
end dm
namespace ed
def con:Con:=⟨41,[.c (.a cU)],[],[],[cU],oS,[],[.str],fun x=>ed x⟩
def env:Env:=⟨pP,[],[dm.con],[(5,0),(8,0),(12,0)],[],[],[],[],[],[4,7,11],[],[]⟩
def an:An:=sQ [nO,nO,nO]
theorem run:aK env Tryz.f41 an con:=fun x=>by kernel_rfl
theorem ok:au pP con:=ax (E:=env) run mixed Tryz.func41 (by kernel_rfl) (cons_cons dm.ok (ai))
end ed
def ep.con:Con:=MY 134 167
theorem ep.ok:au pP ep.con:=G3
namespace bo
def con:Con:=⟨92,[.c (.v (.loc 1000000 0)),aS],[],[(1000000,.box 167 [.ps 1000000,.nil])],[.str],.tup [.v (.d iT),.v (.ni)],[(1000000,.box 167 [.ps 1000000,.own 0]),(0,.arr 5 (.int .u8))],[iT,(.sl (.int .u8))],fun x=>bo x⟩
def env:Env:=⟨pP,[],[ep.con],[(7,0)],[],[7],[],[],[],[],[],[]⟩
def an:An:=sQ [nO,nO,nO,nO,nO]
theorem run:aK env Tryz.f92 an con:=fun x=>by kernel_rfl
theorem ok:au pP con:=ax (E:=env) run mixed Tryz.func92 (by kernel_rfl) (cons_cons ep.ok (ai))
end bo
namespace eQ
def con:Con:=⟨43,[aD (.sl bH)],[],[],[(.sl bH)],oS,[],[.str],fun x=>eQ x⟩
def env:Env:=⟨pP,[],[dm.con,ed.con],[(8,0),(18,1),(21,1)],[],[],[],[],[],[17,20],[],[]⟩
def an:An:=sQ [nO,nO,.seq nO (.one (.loop ⟨[(3,aS),(11,(aD iT))],[],[.str,iT]⟩ [9,10] [] (sQ [nO,.cond nO nO,.one (.seq nO nO),nO]))),nO,nO]
theorem run:aK env Tryz.f43 an con:=fun x=>by kernel_rfl
theorem ok:au pP con:=ax (E:=env) run mixed Tryz.func43 (by kernel_rfl) (cons_cons dm.ok (cons_cons ed.ok (ai)))
end eQ
def dE.con:Con:=Lx 134 167 5
theorem dE.ok:au pP dE.con:=J1
namespace aQ
def con:Con:=⟨92,[.c (.v (.loc 1000000 0)),aS],[],[(1000000,.box 167 [.ps 1000000,.own 1000001]),(1000001,.arr 5 (.int .u8))],[.str,(.sl (.int .u8))],.tup [.v (.d iT),.v (.ni)],[(1000000,.box 167 [.ps 1000000,.own 0]),(0,.arr 5 (.int .u8)),(1000001,.gone)],[iT,(.sl (.int .u8))],fun x=>aQ x.1 x.2⟩
def env:Env:=⟨pP,[],[dE.con],[(7,0)],[],[7],[],[],[],[],[],[]⟩
def an:An:=sQ [nO,nO,nO,nO,nO]
theorem run:aK env Tryz.f92 an con:=fun x=>by kernel_rfl
theorem ok:au pP con:=ax (E:=env) run mixed Tryz.func92 (by kernel_rfl) (cons_cons dE.ok (ai))
end aQ
def bR.con:Con:=Ly 94 167 5
theorem bR.ok:au pP bR.con:=J2
namespace cL
def con:Con:=⟨135,[(aD lsT),.c (.v (.fn 76 []))],[],[],[lsT],oS,[],[.str],fun x=>cL x⟩
def env:Env:=⟨pP,[],[strconv_Itoa.con,bo.con,cK.con,aQ.con,bR.con],[(10,0),(12,1),(21,2),(22,3),(24,4)],[8],[12,22,24],[],[],[],[],[],[]⟩
def an:An:=sQ [nO,nO,nO,.join ⟨[(5,.c (.v (.loc 499003 0)))],[(499003,.box 167 [.ps 499003,.own 499004]),(499004,.arr 5 (.int .u8))],[(.sl (.int .u8))]⟩ [] [] true (.seq nO (.one (.loop ⟨[(5,.c (.v (.loc 499005 0))),(15,(aD iT))],[(499005,.box 167 [.ps 499005,.own 499006]),(499006,.arr 5 (.int .u8))],[iT,(.sl (.int .u8))]⟩ [1,13,14] [] (sQ [nO,.cond nO nO,.one (.seq nO nO),nO])))) (.seq nO nO)]
theorem run:aK env Tryz.f135 an con:=fun x=>by kernel_rfl
theorem ok:au pP con:=ax (E:=env) run mixed Tryz.func135 (by kernel_rfl) (cons_cons strconv_Itoa.ok (cons_cons bo.ok (cons_cons cK.ok (cons_cons aQ.ok (cons_cons bR.ok (ai))))))
end cL
namespace iw
def con:Con:=⟨93,[(aD lsT)],[],[],[lsT],oS,[],[.str],fun x=>iw x⟩
def env:Env:=⟨pP,[],[cL.con],[(4,0)],[],[],[],[],[],[],[],[]⟩
def an:An:=sQ [nO,nO,nO]
theorem run:aK env Tryz.f93 an con:=fun x=>by kernel_rfl
theorem ok:au pP con:=ax (E:=env) run mixed Tryz.func93 (by kernel_rfl) (cons_cons cL.ok (ai))
end iw
namespace bI
def con:Con:=⟨40,[.c (.a iP)],[],[],[iP],oS,[],[.str],fun x=>bI x⟩
def env:Env:=⟨pP,[],[cK.con,ed.con,dm.con,bo.con,eQ.con,iw.con,aQ.con,bR.con],[(10,0),(13,1),(17,0),(22,2),(24,3),(34,0),(37,2),(41,0),(45,4),(49,5),(51,6),(56,2),(57,6),(67,0),(70,5),(72,6),(76,5),(79,0),(81,6),(82,7)],[8,14],[24,51,57,72,81,82,3000024,3000081,7000051,9000072],[],[],[21],[9,12,16,20,33,36,40,44,48,66,69,75,78,9500001,12500001,16500001,20500001,33500005,36500005,40500005,44500005,48500005,66500007,69500007,75500001,78500001],[],[]⟩
def an:An:=sQ [nO,nO,nO,.join ⟨[(3,.c (.v (.loc 499003 0)))],[(499003,.box 167 [.ps 499003,.own 499004]),(499004,.arr 5 (.int .u8))],[(.sl (.int .u8))]⟩ [1] [1] true (.seq nO (.one (.loop ⟨[(3,.c (.v (.loc 499005 0))),(28,(aD iT))],[(499005,.box 167 [.ps 499005,.own 499006]),(499006,.arr 5 (.int .u8))],[iT,(.sl (.int .u8))]⟩ [1,26,27] [1] (sQ [nO,.cond nO nO,.one (.seq nO nO),nO])))) (.seq nO (.join ⟨[(3,.c (.v (.loc 499009 0)))],[(499009,.box 167 [.ps 499009,.own 499010]),(499010,.arr 5 (.int .u8))],[(.sl (.int .u8))]⟩ [1] [1] true (.seq nO (.one (.loop ⟨[(3,.c (.v (.loc 499011 0))),(61,(aD iT))],[(499011,.box 167 [.ps 499011,.own 499012]),(499012,.arr 5 (.int .u8))],[iT,(.sl (.int .u8))]⟩ [1,59,60] [1] (sQ [nO,.cond nO nO,.one (.seq nO nO),nO])))) (sQ [nO,nO,nO])))]
theorem run:aK env Tryz.f40 an con:=fun x=>by kernel_rfl
theorem ok:au pP con:=ax (E:=env) run mixed Tryz.func40 (by kernel_rfl) (cons_cons cK.ok (cons_cons ed.ok (cons_cons dm.ok (cons_cons bo.ok (cons_cons eQ.ok (cons_cons iw.ok (cons_cons aQ.ok (cons_cons bR.ok (ai)))))))))
end bI
namespace gH
def con:Con:=⟨169,[],[],[],[],.one (.v (.d (.sl qX))),[],[(.sl qX)],fun x=>gH⟩
def env:Env:=⟨pP,[(266,qX)],[],[],[],[],[],[8],[],[],[],[]⟩
def an:An:=sQ [nO,nO,nO]
theorem run:aK env Tryz.f169 an con:=fun x=>by kernel_rfl
theorem ok:au pP con:=ax (E:=env) run mixed Tryz.func169 (by kernel_rfl) (ai)
end gH
namespace cY
def con:Con:=⟨136,[.c (.g [.d iT,.d iT,.d .str,.d .str,.d lsT,.d (.sl gj)])],[],[],[iT,iT,.str,.str,lsT,(.sl gj)],.tup [.v (.d iT),.v (.d .str)],[],[iT,.str],fun x=>cY x.1 x.2.1 x.2.2.1 x.2.2.2.1 x.2.2.2.2.1 x.2.2.2.2.2⟩
def env:Env:=⟨pP,[],[gH.con],[(6,0)],[7,1000000],[],[],[],[],[18,20],[],[]⟩
def an:An := .seq nO (.join ⟨[],[],[]⟩ [1] [1] false (.seq nO (.one (.loop ⟨[(8,(aD iT))],[],[iT]⟩ [1,6,7] [1] (sQ [nO,.cond nO nO,.one (sQ [nO,nO,.cond (.seq nO nO) nO]),nO])))) (sQ [.seq nO (.one (.join ⟨[(24,aB)],[],[.bool]⟩ [23] [] true (.seq nO (.cond nO (.seq nO (.cond nO nO)))) (.cond (.seq nO nO) (.seq nO (.cond (.seq nO nO) (.seq nO (.cond (.seq nO nO) nO))))))),nO,nO]))
theorem run:aK env Tryz.f136 an con:=fun x=>by kernel_rfl
theorem ok:au pP con:=ax (E:=env) run mixed Tryz.func136 (by kernel_rfl) (cons_cons gH.ok (ai))
end cY
def cx.con:Con:=EZ 134 175 5
theorem cx.ok:au pP cx.con:=G4
namespace dB
def con:Con:=⟨170,[.c (.v (.loc 1000000 0)),aD (.int .u8)],[],[(1000000,.box 175 [.ps 1000000,.own 1000001,.d .bool]),(1000001,.arr 5 (.int .u8))],[(.int .u8),.bool,(.sl (.int .u8))],.one (.v (.ni)),[(1000000,.box 175 [.ps 1000000,.own 0,.d .bool]),(0,.arr 5 (.int .u8)),(1000001,.gone)],[.bool,(.sl (.int .u8))],fun x=>dB x.1 x.2.1 x.2.2⟩
def env:Env:=⟨pP,[(156,(.int .u8))],[cx.con],[(6,0)],[],[6],[],[13],[],[],[],[]⟩
def an:An:=sQ [nO,nO,nO,nO,nO]
theorem run:aK env Tryz.f170 an con:=fun x=>by kernel_rfl
theorem ok:au pP con:=ax (E:=env) run mixed Tryz.func170 (by kernel_rfl) (cons_cons cx.ok (ai))
end dB
namespace cP
def con:Con:=⟨92,[.c (.v (.loc 1000000 0)),aS],[],[(1000000,.box 175 [.ps 1000000,.own 1000001,.d .bool]),(1000001,.arr 5 (.int .u8))],[.str,.bool,(.sl (.int .u8))],.tup [.v (.d iT),.v (.ni)],[(1000000,.box 175 [.ps 1000000,.own 0,.d .bool]),(0,.arr 5 (.int .u8)),(1000001,.gone)],[iT,.bool,(.sl (.int .u8))],fun x=>cP x.1 x.2.1 x.2.2⟩
def env:Env:=⟨pP,[],[cx.con],[(7,0)],[],[7],[],[],[],[],[],[]⟩
def an:An:=sQ [nO,nO,nO,nO,nO]
theorem run:aK env Tryz.f92 an con:=fun x=>by kernel_rfl
theorem ok:au pP con:=ax (E:=env) run mixed Tryz.func92 (by kernel_rfl) (cons_cons cx.ok (ai))
end cP
namespace av
def con:Con:=⟨137,[.c (.v (.loc 1000000 0)),(aD lsT)],[],[(1000000,.box 175 [.ps 1000000,.own 1000001,.d .bool]),(1000001,.arr 5 (.int .u8))],[lsT,.bool,(.sl (.int .u8))],.tup [],[(1000000,.box 175 [.ps 1000000,.own 0,.d .bool]),(0,.arr 5 (.int .u8)),(1000001,.gone)],[.bool,(.sl (.int .u8))],fun x=>av x.1 x.2.1 x.2.2⟩
def env:Env:=⟨pP,[],[dB.con,cP.con],[(19,0),(24,1)],[5],[19,24],[],[],[],[],[],[]⟩
def an:An := .seq nO (.one (.loop ⟨[(0,.c (.v (.loc 1000000 0))),(8,(aD iT))],[(1000000,.box 175 [.ps 1000000,.own 499003,.d .bool]),(499003,.arr 5 (.int .u8))],[iT,.bool,(.sl (.int .u8))]⟩ [6,7] [] (sQ [nO,.cond nO nO,.one (.seq nO (.join ⟨[(0,.c (.v (.loc 1000000 0)))],[(1000000,.box 175 [.ps 1000000,.own 499004,.d .bool]),(499004,.arr 5 (.int .u8))],[.bool,(.sl (.int .u8))]⟩ [5,6,7,8] [] true (.seq nO (.cond nO nO)) (.seq nO nO))),nO])))
theorem run:aK env Tryz.f137 an con:=fun x=>by kernel_rfl
theorem ok:au pP con:=ax (E:=env) run mixed Tryz.func137 (by kernel_rfl) (cons_cons dB.ok (cons_cons cP.ok (ai)))
end av
namespace internal_strconv_FormatBool
def con:Con:=⟨195,[aB],[],[],[.bool],oS,[],[.str],fun x=>internal_strconv_FormatBool x⟩
def env:Env:=⟨pP,[],[],[],[],[],[],[],[],[],[],[]⟩
def an:An:=sQ [nO,.seq nO (.cond (.seq nO nO) nO),nO,nO]
theorem run:aK env Tryz.f195 an con:=fun x=>by kernel_rfl
theorem ok:au pP con:=ax (E:=env) run mixed Tryz.func195 (by kernel_rfl) (ai)
end internal_strconv_FormatBool
namespace strconv_FormatBool
def con:Con:=⟨171,[aB],[],[],[.bool],oS,[],[.str],fun x=>strconv_FormatBool x⟩
def env:Env:=⟨pP,[],[internal_strconv_FormatBool.con],[(4,0)],[],[],[],[],[],[],[],[]⟩
def an:An:=sQ [nO,nO,nO]
theorem run:aK env Tryz.f171 an con:=fun x=>by kernel_rfl
theorem ok:au pP con:=ax (E:=env) run mixed Tryz.func171 (by kernel_rfl) (cons_cons internal_strconv_FormatBool.ok (ai))
end strconv_FormatBool
def strings_Fields.con:Con:=yl 196
theorem strings_Fields.ok:au pP strings_Fields.con:=DZ
namespace jN
def con:Con:=⟨197,[aS],[],[],[.str],oI,[],[iT],fun x=>jN x⟩
def env:Env:=⟨pP,[],[strings_Fields.con,aZ.con],[(4,0),(6,1)],[],[],[],[],[],[],[],[]⟩
def an:An:=sQ [nO,nO,.seq nO (.cond (.seq nO nO) nO),nO,nO]
theorem run:aK env Tryz.f197 an con:=fun x=>by kernel_rfl
theorem ok:au pP con:=ax (E:=env) run mixed Tryz.func197 (by kernel_rfl) (cons_cons strings_Fields.ok (cons_cons aZ.ok (ai)))
end jN
abbrev aX.ps:List Ty:=[iT,iT,.str,.str,lsT,(.sl gj),iT,.bool,(.sl (.int .u8))]
abbrev aX.qs:List Ty:=[.bool,(.sl (.int .u8))]
def aX.gu (Gr:Int->Int->Bs->Bs->List Bs->List fq->Int->Bool->List Int->Option (Bool×List Int)):Con:=⟨95,[.c (.v (.loc 1000000 0)),.c (.g [.d iT,.d iT,.d .str,.d .str,.d lsT,.d (.sl gj)]),(aD iT)],[],[(1000000,.box 175 [.ps 1000000,.own 1000001,.d .bool]),(1000001,.arr 5 (.int .u8))],aX.ps,.tup [],[(1000000,.box 175 [.ps 1000000,.own 0,.d .bool]),(0,.arr 5 (.int .u8)),(1000001,.gone)],aX.qs,fun x=>Gr x.1 x.2.1 x.2.2.1 x.2.2.2.1 x.2.2.2.2.1 x.2.2.2.2.2.1 x.2.2.2.2.2.2.1 x.2.2.2.2.2.2.2.1 x.2.2.2.2.2.2.2.2⟩
namespace bZ
def con (Gr:Int->Int->Bs->Bs->List Bs->List fq->Int->Bool->List Int->Option (Bool×List Int)):Con:=⟨198,[.c (.v (.loc 1000000 0)),aD (.sl gj)],[],[(1000000,.box 175 [.ps 1000000,.own 1000001,.d .bool]),(1000001,.arr 5 (.int .u8))],[(.sl gj),.bool,(.sl (.int .u8))],.tup [],[(1000000,.box 175 [.ps 1000000,.own 0,.d .bool]),(0,.arr 5 (.int .u8)),(1000001,.gone)],[.bool,(.sl (.int .u8))],fun x=>bZ Gr x.1 x.2.1 x.2.2⟩
def env (Gr:Int->Int->Bs->Bs->List Bs->List fq->Int->Bool->List Int->Option (Bool×List Int)):Env:=⟨pP,[(27,.str)],[av.con,(aX.gu Gr)],[(17,0),(20,1)],[5],[17,20],[],[16],[],[],[],[]⟩
def an:An := .seq nO (.one (.loop ⟨[(0,.c (.v (.loc 1000000 0))),(8,(aD iT))],[(1000000,.box 175 [.ps 1000000,.own 499003,.d .bool]),(499003,.arr 5 (.int .u8))],[iT,.bool,(.sl (.int .u8))]⟩ [6,7] [] (sQ [nO,.cond nO nO,.one (.seq nO (.join ⟨[(0,.c (.v (.loc 1000000 0)))],[(1000000,.box 175 [.ps 1000000,.own 499004,.d .bool]),(499004,.arr 5 (.int .u8))],[.bool,(.sl (.int .u8))]⟩ [5,6,7,8] [5] true (.seq nO (.cond nO nO)) nO)),nO])))
theorem run (Gr:Int->Int->Bs->Bs->List Bs->List fq->Int->Bool->List Int->Option (Bool×List Int)):aK (env Gr) Tryz.f198 an (con Gr):=fun x=>by kernel_rfl
theorem ok (Gr:Int->Int->Bs->Bs->List Bs->List fq->Int->Bool->List Int->Option (Bool×List Int)) (hG:au pP (aX.gu Gr)):au pP (con Gr):=ax (E:=(env Gr)) (run Gr) mixed Tryz.func198 (by kernel_rfl) (cons_cons av.ok (cons_cons hG (ai)))
end bZ
namespace al
def con (Gr:Int->Int->Bs->Bs->List Bs->List fq->Int->Bool->List Int->Option (Bool×List Int)):Con:=⟨172,[.c (.v (.loc 1000000 0)),.c (.g [.d iT,.d iT,.d .str,.d .str,.d lsT,.d (.sl gj)])],[],[(1000000,.box 175 [.ps 1000000,.own 1000001,.d .bool]),(1000001,.arr 5 (.int .u8))],[iT,iT,.str,.str,lsT,(.sl gj),.bool,(.sl (.int .u8))],.tup [],[(1000000,.box 175 [.ps 1000000,.own 0,.d .bool]),(0,.arr 5 (.int .u8)),(1000001,.gone)],[.bool,(.sl (.int .u8))],fun x=>al Gr x.1 x.2.1 x.2.2.1 x.2.2.2.1 x.2.2.2.2.1 x.2.2.2.2.2.1 x.2.2.2.2.2.2.1 x.2.2.2.2.2.2.2⟩
def env (Gr:Int->Int->Bs->Bs->List Bs->List fq->Int->Bool->List Int->Option (Bool×List Int)):Env:=⟨pP,[(27,.str)],[av.con,(aX.gu Gr),strings_Fields.con,jN.con,(bZ.con Gr)],[(13,0),(26,0),(30,0),(37,1),(41,0),(49,0),(53,2),(60,3),(67,0),(73,0),(76,0),(80,4),(83,0)],[8,11,12,14,22],[13,26,30,37,41,49,67,73,76,80,83],[],[12,25,29,40,48,66,72,75,82],[],[62],[],[]⟩
def an:An := .seq nO (.join ⟨[(0,.c (.v (.loc 1000000 0)))],[(1000000,.box 175 [.ps 1000000,.own 1000001,.d .bool]),(1000001,.arr 5 (.int .u8))],[.bool,(.sl (.int .u8))]⟩ [3] [3] false (.seq nO (.cond (.seq nO (.join ⟨[(0,.c (.v (.loc 1000000 0)))],[(1000000,.box 175 [.ps 1000000,.own 499008,.d .bool]),(499008,.arr 5 (.int .u8))],[.bool,(.sl (.int .u8))]⟩ [] [] true (.seq nO (.one (.loop ⟨[(0,.c (.v (.loc 1000000 0))),(17,(aD iT))],[(1000000,.box 175 [.ps 1000000,.own 499009,.d .bool]),(499009,.arr 5 (.int .u8))],[iT,.bool,(.sl (.int .u8))]⟩ [3,15,16] [3] (sQ [nO,.cond nO nO,.one (.seq nO (.join ⟨[(0,.c (.v (.loc 1000000 0)))],[(1000000,.box 175 [.ps 1000000,.own 499010,.d .bool]),(499010,.arr 5 (.int .u8))],[.bool,(.sl (.int .u8))]⟩ [3,4,5,15,16,17] [3] true (.seq nO (.cond nO nO)) (.seq nO nO))),nO])))) (.seq nO nO))) nO)) (.join ⟨[(0,.c (.v (.loc 1000000 0)))],[(1000000,.box 175 [.ps 1000000,.own 499011,.d .bool]),(499011,.arr 5 (.int .u8))],[.bool,(.sl (.int .u8))]⟩ [3] [3] true (.seq nO (.cond nO nO)) (.join ⟨[(0,.c (.v (.loc 1000000 0)))],[(1000000,.box 175 [.ps 1000000,.own 499013,.d .bool]),(499013,.arr 5 (.int .u8))],[.bool,(.sl (.int .u8))]⟩ [3] [3] true (.seq nO (.cond (.seq nO (.one (.loop ⟨[(0,.c (.v (.loc 1000000 0))),(55,(aD iT))],[(1000000,.box 175 [.ps 1000000,.own 499014,.d .bool]),(499014,.arr 5 (.int .u8))],[iT,.bool,(.sl (.int .u8))]⟩ [3,53,54] [3] (sQ [nO,.cond nO nO,.one (sQ [nO,nO,.cond nO nO]),nO])))) nO)) (sQ [nO,nO,nO]))))
theorem run (Gr:Int->Int->Bs->Bs->List Bs->List fq->Int->Bool->List Int->Option (Bool×List Int)):aK (env Gr) Tryz.f172 an (con Gr):=fun x=>by kernel_rfl
theorem ok (Gr:Int->Int->Bs->Bs->List Bs->List fq->Int->Bool->List Int->Option (Bool×List Int)) (hG:au pP (aX.gu Gr)):au pP (con Gr):=ax (E:=(env Gr)) (run Gr) mixed Tryz.func172 (by kernel_rfl) (cons_cons av.ok (cons_cons hG (cons_cons strings_Fields.ok (cons_cons jN.ok (cons_cons (bZ.ok Gr hG) (ai))))))
end al
namespace bA
def con (Gr:Int->Int->Bs->Bs->List Bs->List fq->Int->Bool->List Int->Option (Bool×List Int)):Con:=⟨138,[.c (.v (.loc 1000000 0)),.c (.g [.d iT,.d iT,.d .str,.d .str,.d lsT,.d (.sl gj)]),(aD iT),aS],[],[(1000000,.box 175 [.ps 1000000,.own 1000001,.d .bool]),(1000001,.arr 5 (.int .u8))],[iT,iT,.str,.str,lsT,(.sl gj),iT,.str,.bool,(.sl (.int .u8))],.tup [],[(1000000,.box 175 [.ps 1000000,.own 0,.d .bool]),(0,.arr 5 (.int .u8)),(1000001,.gone)],[.bool,(.sl (.int .u8))],fun x=>bA Gr x.1 x.2.1 x.2.2.1 x.2.2.2.1 x.2.2.2.2.1 x.2.2.2.2.2.1 x.2.2.2.2.2.2.1 x.2.2.2.2.2.2.2.1 x.2.2.2.2.2.2.2.2.1 x.2.2.2.2.2.2.2.2.2⟩
def env (Gr:Int->Int->Bs->Bs->List Bs->List fq->Int->Bool->List Int->Option (Bool×List Int)):Env:=⟨pP,[(27,.str)],[(aX.gu Gr),av.con,strconv_Itoa.con,strconv_FormatBool.con,(al.con Gr)],[(24,0),(28,1),(36,0),(47,2),(49,1),(56,3),(58,1),(65,1),(72,1),(79,1),(85,0),(90,1),(96,0),(104,0),(109,1),(116,1),(122,0),(125,1),(131,0),(144,1),(151,0),(41,4)],[5],[24,28,36,41,49,58,65,72,79,85,90,96,104,109,116,122,125,131,144,151],[],[27,48,57,64,71,78,89,108,115,124,134,143],[],[],[],[]⟩
def an:An:=sQ [nO,.seq nO (.cond (.seq nO (.join ⟨[(8,(aD iT))],[],[iT]⟩ [0,2,3,5] [5,1000000,1000001] true (.seq nO (.cond nO nO)) (sQ [nO,nO,nO,nO]))) nO),nO,.one (.seq nO (.cond nO (.seq nO (.cond nO (.seq nO (.cond nO (.seq nO (.cond nO (.seq nO (.cond (.seq nO nO) (.seq nO (.cond (.seq nO nO) (.seq nO (.cond (.seq nO nO) (.seq nO (.cond (sQ [nO,nO,nO,nO]) (.seq nO (.cond (.seq nO (.one (.loop ⟨[(0,.c (.v (.loc 1000000 0))),(136,(aD iT))],[(1000000,.box 175 [.ps 1000000,.own 499002,.d .bool]),(499002,.arr 5 (.int .u8))],[iT,.bool,(.sl (.int .u8))]⟩ [5,134,135] [5] (sQ [nO,.cond nO nO,.one (sQ [nO,nO,nO]),nO])))) nO))))))))))))))))))]
theorem run (Gr:Int->Int->Bs->Bs->List Bs->List fq->Int->Bool->List Int->Option (Bool×List Int)):aK (env Gr) Tryz.f138 an (con Gr):=fun x=>by kernel_rfl
theorem ok (Gr:Int->Int->Bs->Bs->List Bs->List fq->Int->Bool->List Int->Option (Bool×List Int)) (hG:au pP (aX.gu Gr)):au pP (con Gr):=ax (E:=(env Gr)) (run Gr) mixed Tryz.func138 (by kernel_rfl) (cons_cons hG (cons_cons av.ok (cons_cons strconv_Itoa.ok (cons_cons strconv_FormatBool.ok (cons_cons (al.ok Gr hG) (ai))))))
end bA
namespace aX
def con:Con:=gu (rec Fuel.n)
def env (Gr:Int->Int->Bs->Bs->List Bs->List fq->Int->Bool->List Int->Option (Bool×List Int)):Env:=⟨pP,[(27,.str)],[cY.con,av.con,(bA.con Gr)],[(10,0),(18,1),(23,2),(26,1),(31,2)],[],[18,23,26,31],[],[17,25],[],[],[],[]⟩
def an:An:=sQ [nO,nO,.seq nO (.cond (sQ [nO,nO,nO,nO]) nO),nO]
theorem run (Gr:Int->Int->Bs->Bs->List Bs->List fq->Int->Bool->List Int->Option (Bool×List Int)):aK (env Gr) Tryz.f95 an (gu (body Gr)):=fun x=>by kernel_rfl
theorem okB (Gr:Int->Int->Bs->Bs->List Bs->List fq->Int->Bool->List Int->Option (Bool×List Int)) (hG:au pP (gu Gr)):au pP (gu (body Gr)):=ax (E:=(env Gr)) (run Gr) mixed Tryz.func95 (by kernel_rfl) (cons_cons cY.ok (cons_cons av.ok (cons_cons (bA.ok Gr hG) (ai))))
theorem okN:∀ n,au pP (gu (rec n))
 | 0=>⟨by kernel_rfl,fun x r h=>by have h2:(none:Option (Tup aX.qs))=some r:=h; cases h2⟩
 | n+1=>okB (rec n) (okN n)
theorem ok:au pP con:=okN _
end aX
namespace fL
def con:Con:=⟨139,[.c (.v (.loc 1000000 0))],[(1000000,.box 175 [.ps 1000000,.own 1000001,.d .bool]),(1000001,.arr 5 (.int .u8))],[],[.bool,(.sl (.int .u8))],oI,[],[iT],fun x=>fL x.1 x.2⟩
def env:Env:=⟨pP,[],[],[],[],[],[],[],[],[],[],[]⟩
def an:An:=sQ [nO,nO,nO]
theorem run:aK env Tryz.f139 an con:=fun x=>by kernel_rfl
theorem ok:au pP con:=ax (E:=env) run mixed Tryz.func139 (by kernel_rfl) (ai)
end fL
def dC.con:Con:=E0 94 175 5
theorem dC.ok:au pP dC.con:=G5
namespace ft
def con:Con:=⟨96,[.c (.v (.loc 1000000 0))],[],[(1000000,.box 175 [.ps 1000000,.own 1000001,.d .bool]),(1000001,.arr 5 (.int .u8))],[.bool,(.sl (.int .u8))],.tup [.v (.d .str),.v (.d iT)],[(1000000,.gone),(1000001,.gone)],[.str,iT],fun x=>ft x.1 x.2⟩
def env:Env:=⟨pP,[],[fL.con,dC.con],[(7,0),(12,1)],[],[7,12],[],[],[],[],[],[]⟩
def an:An:=sQ [nO,.seq nO (.cond (.seq nO nO) nO),nO,nO]
theorem run:aK env Tryz.f96 an con:=fun x=>by kernel_rfl
theorem ok:au pP con:=ax (E:=env) run mixed Tryz.func96 (by kernel_rfl) (cons_cons fL.ok (cons_cons dC.ok (ai)))
end ft
namespace dV
def con:Con:=⟨42,[.c (.g [.d iT,.d iT,.d .str,.d .str,.d lsT,.d (.sl gj)])],[],[],[iT,iT,.str,.str,lsT,(.sl gj)],.tup [.v (.d .str),.v (.d iT)],[],[.str,iT],fun x=>dV x.1 x.2.1 x.2.2.1 x.2.2.2.1 x.2.2.2.2.1 x.2.2.2.2.2⟩
def env:Env:=⟨pP,[],[dc.con,aX.con,ft.con],[(6,0),(9,1),(10,2)],[4],[9,10],[],[],[],[],[],[]⟩
def an:An:=sQ [nO,.seq nO (.cond (.seq nO nO) nO),.join ⟨[(4,.c (.v (.loc 499001 0)))],[(499001,.box 175 [.ps 499001,.own 499002,.d .bool]),(499002,.arr 5 (.int .u8))],[.bool,(.sl (.int .u8))]⟩ [1] [1] true nO (sQ [nO,nO,nO])]
theorem run:aK env Tryz.f42 an con:=fun x=>by kernel_rfl
theorem ok:au pP con:=ax (E:=env) run mixed Tryz.func42 (by kernel_rfl) (cons_cons dc.ok (cons_cons aX.ok (cons_cons ft.ok (ai))))
end dV
namespace dz
def con:Con:=⟨97,[(aD liT),.c (.v (.fn 182 []))],[],[],[liT],oS,[],[.str],fun x=>dz x⟩
def env:Env:=⟨pP,[],[strconv_Itoa.con,bo.con,jr.con,aQ.con,bR.con],[(10,0),(12,1),(21,2),(22,3),(24,4)],[8],[12,22,24],[],[],[],[],[],[]⟩
def an:An:=sQ [nO,nO,nO,.join ⟨[(5,.c (.v (.loc 499003 0)))],[(499003,.box 167 [.ps 499003,.own 499004]),(499004,.arr 5 (.int .u8))],[(.sl (.int .u8))]⟩ [] [] true (.seq nO (.one (.loop ⟨[(5,.c (.v (.loc 499005 0))),(15,(aD iT))],[(499005,.box 167 [.ps 499005,.own 499006]),(499006,.arr 5 (.int .u8))],[iT,(.sl (.int .u8))]⟩ [1,13,14] [] (sQ [nO,.cond nO nO,.one (.seq nO nO),nO])))) (.seq nO nO)]
theorem run:aK env Tryz.f97 an con:=fun x=>by kernel_rfl
theorem ok:au pP con:=ax (E:=env) run mixed Tryz.func97 (by kernel_rfl) (cons_cons strconv_Itoa.ok (cons_cons bo.ok (cons_cons jr.ok (cons_cons aQ.ok (cons_cons bR.ok (ai))))))
end dz
namespace kB
def con:Con:=⟨44,[(aD liT)],[],[],[liT],oS,[],[.str],fun x=>kB x⟩
def env:Env:=⟨pP,[],[dz.con],[(4,0)],[],[],[],[],[],[],[],[]⟩
def an:An:=sQ [nO,nO,nO]
theorem run:aK env Tryz.f44 an con:=fun x=>by kernel_rfl
theorem ok:au pP con:=ax (E:=env) run mixed Tryz.func44 (by kernel_rfl) (cons_cons dz.ok (ai))
end kB
namespace dj
def con:Con:=⟨10,[.c (.a cO)],[],[],[cO],.tup [.v (.d .str),.v (.d iT)],[],[.str,iT],fun x=>dj x⟩
def env:Env:=⟨pP,[],[bV.con,gh.con,cK.con,dm.con,bI.con,ed.con,dV.con,eQ.con,kB.con],[(8,0),(11,1),(12,2),(15,3),(19,3),(45,4),(53,2),(56,5),(64,2),(67,5),(71,3),(80,6),(89,3),(93,2),(98,7),(103,2),(106,2),(26,2),(29,8),(33,3),(37,3)],[18,1000000],[],[],[],[],[10,14,18,25,28,32,36,52,55,63,66,70,88,92,97,102],[],[]⟩
def an:An:=sQ [nO,.seq nO (.cond (.seq nO nO) nO),nO,.join ⟨[(4,aS)],[],[.str]⟩ [] [] false (.seq nO (.one (.seq nO (.cond nO (.join ⟨[(47,aB)],[],[.bool]⟩ [1,4,22] [1] true (.seq nO (.cond nO nO)) (.cond nO (.seq nO (.cond nO (.seq nO (.cond (sQ [nO,.seq nO (.cond (.seq nO nO) nO),nO]) nO)))))))))) (sQ [.seq nO (.cond (.seq nO nO) nO),nO,nO])]
theorem run:aK env Tryz.f10 an con:=fun x=>by kernel_rfl
theorem ok:au pP con:=ax (E:=env) run mixed Tryz.func10 (by kernel_rfl) (cons_cons bV.ok (cons_cons gh.ok (cons_cons cK.ok (cons_cons dm.ok (cons_cons bI.ok (cons_cons ed.ok (cons_cons dV.ok (cons_cons eQ.ok (cons_cons kB.ok (ai))))))))))
end dj
namespace iL
def con:Con:=⟨108,[(aD iT)],[],[],[iT],.tup [.a cU,.v (.d .bool)],[],[cU,.bool],fun x=>iL x⟩
def env:Env:=⟨pP,[],[],[],[],[],[],[],[],[],[],[]⟩
def an:An:=sQ [nO,.seq nO (.one (.seq nO (.cond (.seq nO nO) (.seq nO (.cond (.seq nO nO) (.seq nO (.cond (.seq nO nO) (.seq nO (.cond (.seq nO nO) (.seq nO (.cond (.seq nO nO) nO))))))))))),nO,nO]
theorem run:aK env Tryz.f108 an con:=fun x=>by kernel_rfl
theorem ok:au pP con:=ax (E:=env) run mixed Tryz.func108 (by kernel_rfl) (ai)
end iL
namespace jy
def con:Con:=⟨98,[aS],[],[],[.str],.one (.v (.loc 0 0)),[(0,.box 227 [.d .str,.d .bool])],[.str,.bool],fun x=>jy x⟩
def env:Env:=⟨pP,[],[],[],[],[],[],[],[],[],[],[]⟩
def an:An:=sQ [nO,nO,nO]
theorem run:aK env Tryz.f98 an con:=fun x=>by kernel_rfl
theorem ok:au pP con:=ax (E:=env) run mixed Tryz.func98 (by kernel_rfl) (ai)
end jy
def strings_IndexByte.con:Con:=rV 173
theorem strings_IndexByte.ok:au pP strings_IndexByte.con:=xp
namespace du
def con:Con:=⟨141,[.c (.v (.loc 1000000 0))],[],[(1000000,.box 227 [.d .str,.d .bool])],[.str,.bool],.tup [],[(1000000,.box 227 [.d .str,.d .bool])],[.str,.bool],fun x=>du x.1 x.2⟩
def env:Env:=⟨pP,[],[],[],[],[],[],[],[],[],[],[]⟩
def an:An:=nO
theorem run:aK env Tryz.f141 an con:=fun x=>by kernel_rfl
theorem ok:au pP con:=ax (E:=env) run mixed Tryz.func141 (by kernel_rfl) (ai)
end du
def strconv_Atoi.con:Con:=EY 174
theorem strconv_Atoi.ok:au pP strconv_Atoi.con:=JY
namespace ca
def con:Con:=⟨140,[.c (.v (.loc 1000000 0)),aD (.int .u8),(aD iT)],[],[(1000000,.box 227 [.d .str,.d .bool])],[(.int .u8),iT,.str,.bool],oI,[(1000000,.box 227 [.d .str,.d .bool])],[iT,.str,.bool],fun x=>ca x.1 x.2.1 x.2.2.1 x.2.2.2⟩
def env:Env:=⟨pP,[],[strings_IndexByte.con,du.con,strconv_Atoi.con,strconv_Itoa.con],[(24,0),(28,1),(33,2),(40,3),(52,1)],[1000000],[28,52],[],[],[19,21,43],[14,18],[],[]⟩
def an:An:=sQ [nO,nO,nO,.seq nO (.cond (sQ [nO,nO,nO]) nO),nO,.join ⟨[(50,aB)],[],[.bool]⟩ [0,8,9] [1000000] true nO (.cond (sQ [nO,nO,nO]) nO),nO,nO,nO]
theorem run:aK env Tryz.f140 an con:=fun x=>by kernel_rfl
theorem ok:au pP con:=ax (E:=env) run mixed Tryz.func140 (by kernel_rfl) (cons_cons strings_IndexByte.ok (cons_cons du.ok (cons_cons strconv_Atoi.ok (cons_cons strconv_Itoa.ok (ai)))))
end ca
namespace cQ
def con:Con:=⟨250,[aS,aS],[],[],[.str,.str],oB,[],[.bool],fun x=>cQ x.1 x.2⟩
def env:Env:=⟨pP,[],[],[],[],[],[],[],[],[],[],[]⟩
def an:An:=sQ [nO,nO,nO]
theorem run:aK env Tryz.f250 an con:=fun x=>by kernel_rfl
theorem ok:au pP con:=ax (E:=env) run mixed Tryz.func250 (by kernel_rfl) (ai)
end cQ
namespace cR
def con:Con:=⟨202,[aS,aS],[],[],[.str,.str],.tup [.v (.d .str),.v (.d .bool)],[],[.str,.bool],fun x=>cR x.1 x.2⟩
def env:Env:=⟨pP,[],[cQ.con],[(8,0)],[],[],[],[],[],[],[],[]⟩
def an:An:=sQ [nO,.seq nO (.cond (.seq nO nO) nO),nO,nO]
theorem run:aK env Tryz.f202 an con:=fun x=>by kernel_rfl
theorem ok:au pP con:=ax (E:=env) run mixed Tryz.func202 (by kernel_rfl) (cons_cons cQ.ok (ai))
end cR
namespace strings_CutPrefix
def con:Con:=⟨175,[aS,aS],[],[],[.str,.str],.tup [.v (.d .str),.v (.d .bool)],[],[.str,.bool],fun x=>strings_CutPrefix x.1 x.2⟩
def env:Env:=⟨pP,[],[cR.con],[(8,0)],[],[],[],[],[],[],[],[]⟩
def an:An:=sQ [nO,nO,nO]
theorem run:aK env Tryz.f175 an con:=fun x=>by kernel_rfl
theorem ok:au pP con:=ax (E:=env) run mixed Tryz.func175 (by kernel_rfl) (cons_cons cR.ok (ai))
end strings_CutPrefix
namespace eJ
def con:Con:=⟨142,[.c (.v (.loc 1000000 0)),aS],[],[(1000000,.box 227 [.d .str,.d .bool])],[.str,.str,.bool],.tup [],[(1000000,.box 227 [.d .str,.d .bool])],[.str,.bool],fun x=>eJ x.1 x.2.1 x.2.2⟩
def env:Env:=⟨pP,[],[strings_CutPrefix.con,du.con],[(12,0),(22,1)],[],[22],[],[],[],[],[],[]⟩
def an:An:=sQ [nO,nO,nO,.cond nO nO]
theorem run:aK env Tryz.f142 an con:=fun x=>by kernel_rfl
theorem ok:au pP con:=ax (E:=env) run mixed Tryz.func142 (by kernel_rfl) (cons_cons strings_CutPrefix.ok (cons_cons du.ok (ai)))
end eJ
namespace db
def con:Con:=⟨99,[.c (.v (.loc 1000000 0))],[],[(1000000,.box 227 [.d .str,.d .bool])],[.str,.bool],oS,[(1000000,.box 227 [.d .str,.d .bool])],[.str,.str,.bool],fun x=>db x.1 x.2⟩
def env:Env:=⟨pP,[],[ca.con,du.con,eJ.con],[(6,0),(15,1),(32,2)],[],[6,15,32],[],[],[],[],[],[]⟩
def an:An:=sQ [nO,nO,.seq nO (.cond (sQ [nO,nO,nO]) nO),nO,nO,sQ [nO,nO,.cond (.seq nO nO) nO],nO,nO]
theorem run:aK env Tryz.f99 an con:=fun x=>by kernel_rfl
theorem ok:au pP con:=ax (E:=env) run mixed Tryz.func99 (by kernel_rfl) (cons_cons ca.ok (cons_cons du.ok (cons_cons eJ.ok (ai))))
end db
namespace er
def con:Con:=⟨45,[aS],[],[],[.str],.tup [.v (.d .str),.v (.d .bool)],[],[.str,.bool],fun x=>er x⟩
def env:Env:=⟨pP,[],[jy.con,db.con,cK.con],[(7,0),(9,1),(14,2),(19,2),(22,2)],[],[9],[],[],[13,15,20,21],[],[],[]⟩
def an:An:=sQ [nO,nO,nO,.seq nO (.cond (.seq nO nO) nO),nO,nO]
theorem run:aK env Tryz.f45 an con:=fun x=>by kernel_rfl
theorem ok:au pP con:=ax (E:=env) run mixed Tryz.func45 (by kernel_rfl) (cons_cons jy.ok (cons_cons db.ok (cons_cons cK.ok (ai))))
end er
namespace cq
def con:Con:=⟨65,[.c (.a bu)],[],[],[bu],oB,[],[.bool],fun x=>cq x⟩
def env:Env:=⟨pP,[],[iL.con,er.con],[(8,0),(51,1)],[1000000],[],[],[],[],[],[],[]⟩
def an:An:=sQ [nO,nO,.join ⟨[(44,aB)],[],[.bool]⟩ [1,4] [1] true nO (.cond (.seq nO nO) nO),.seq nO (.cond nO nO),nO,nO]
theorem run:aK env Tryz.f65 an con:=fun x=>by kernel_rfl
theorem ok:au pP con:=ax (E:=env) run mixed Tryz.func65 (by kernel_rfl) (cons_cons iL.ok (cons_cons er.ok (ai)))
end cq
namespace eG
def con:Con:=⟨26,[.c (.a bu)],[],[],[bu],oS,[],[.str],fun x=>eG x⟩
def env:Env:=⟨pP,[],[cq.con,dm.con,cK.con],[(4,0),(8,1),(11,1),(15,1),(19,2)],[],[],[],[],[],[7,10,14,18],[],[]⟩
def an:An:=sQ [nO,.seq nO (.cond (.seq nO nO) nO),nO,nO]
theorem run:aK env Tryz.f26 an con:=fun x=>by kernel_rfl
theorem ok:au pP con:=ax (E:=env) run mixed Tryz.func26 (by kernel_rfl) (cons_cons cq.ok (cons_cons dm.ok (cons_cons cK.ok (ai))))
end eG
namespace lP
def con:Con:=⟨72,[(aD iT)],[],[],[iT],oB,[],[.bool],fun x=>lP x⟩
def env:Env:=⟨pP,[],[],[],[],[],[],[],[],[],[],[]⟩
def an:An:=sQ [nO,nO,nO]
theorem run:aK env Tryz.f72 an con:=fun x=>by kernel_rfl
theorem ok:au pP con:=ax (E:=env) run mixed Tryz.func72 (by kernel_rfl) (ai)
end lP
namespace di
def con:Con:=⟨28,[.c (.v (.loc 1000000 0)),(aD iT),aS],[],[(1000000,.box 99 [.own 1000001,.mp 1000002]),(1000001,.arr 141 aw),(1000002,.fb .i64 false iT)],[iT,.str,(.sl aw),(.sl (.pair aw iT))],.one (.a aM),[(1000000,.box 99 [.own 0,.mp 1000002]),(0,.arr 141 aw),(1000001,.gone),(1000002,.fb .i64 false iT)],[aM,(.sl aw),(.sl (.pair aw iT))],fun x=>di x.1 x.2.1 x.2.2.1 x.2.2.2⟩
def env:Env:=⟨pP,[(97,aw)],[lP.con],[(11,0)],[],[],[],[39],[],[21,22,37,38,46,47,8000141,43000099],[],[]⟩
def an:An:=sQ [nO,.seq nO (.cond (.seq nO nO) nO),nO,nO,.seq nO (.cond (sQ [nO,nO,nO]) nO),nO,nO]
theorem run:aK env Tryz.f28 an con:=fun x=>by kernel_rfl
theorem ok:au pP con:=ax (E:=env) run mixed Tryz.func28 (by kernel_rfl) (cons_cons lP.ok (ai))
end di
namespace cD
def con:Con:=⟨21,[.c (.v (.loc 1000000 0)),(aD iT),(aD iT),.c (.a cO)],[],[(1000000,.box 99 [.own 1000001,.mp 1000002]),(1000001,.arr 141 aw),(1000002,.fb .i64 false iT)],[iT,iT,cO,(.sl aw),(.sl (.pair aw iT))],.one (.a aM),[(1000000,.box 99 [.own 0,.mp 1000002]),(0,.arr 141 aw),(1000001,.gone),(1000002,.fb .i64 false iT)],[aM,(.sl aw),(.sl (.pair aw iT))],fun x=>cD x.1 x.2.1 x.2.2.1 x.2.2.2.1 x.2.2.2.2⟩
def env:Env:=⟨pP,[],[dj.con,eG.con,di.con],[(13,0),(21,1),(22,2)],[],[22],[],[],[],[],[],[]⟩
def an:An:=sQ [nO,nO,nO,nO]
theorem run:aK env Tryz.f21 an con:=fun x=>by kernel_rfl
theorem ok:au pP con:=ax (E:=env) run mixed Tryz.func21 (by kernel_rfl) (cons_cons dj.ok (cons_cons eG.ok (cons_cons di.ok (ai))))
end cD
namespace dF
def con:Con:=⟨113,[.c (.v (.loc 1000000 0))],[],[(1000000,.box 227 [.d .str,.d .bool])],[.str,.bool],oI,[(1000000,.box 227 [.d .str,.d .bool])],[iT,.str,.bool],fun x=>dF x.1 x.2⟩
def env:Env:=⟨pP,[],[ca.con],[(4,0)],[],[4],[],[],[],[],[],[]⟩
def an:An:=sQ [nO,nO,nO]
theorem run:aK env Tryz.f113 an con:=fun x=>by kernel_rfl
theorem ok:au pP con:=ax (E:=env) run mixed Tryz.func113 (by kernel_rfl) (cons_cons ca.ok (ai))
end dF
namespace gI
def con:Con:=⟨114,[.c (.v (.loc 1000000 0))],[(1000000,.box 227 [.d .str,.d .bool])],[],[.str,.bool],oB,[],[.bool],fun x=>gI x.1 x.2⟩
def env:Env:=⟨pP,[],[],[],[],[],[],[],[],[],[],[]⟩
def an:An:=sQ [nO,nO,nO]
theorem run:aK env Tryz.f114 an con:=fun x=>by kernel_rfl
theorem ok:au pP con:=ax (E:=env) run mixed Tryz.func114 (by kernel_rfl) (ai)
end gI
namespace dQ
def con:Con:=⟨73,[aS],[],[],[.str],.tup [.a bu,.v (.d iT)],[],[bu,iT],fun x=>dQ x⟩
def env:Env:=⟨pP,[],[jy.con,dF.con,db.con,gI.con,cq.con],[(7,0),(9,1),(11,1),(13,1),(15,2),(18,3),(22,4)],[1000000],[9,11,13,15,18],[],[],[],[],[],[]⟩
def an:An:=sQ [nO,nO,nO,.join ⟨[(24,aB)],[],[.bool]⟩ [2,5] [2,5] true nO (.cond (.seq nO nO) nO),nO,nO]
theorem run:aK env Tryz.f73 an con:=fun x=>by kernel_rfl
theorem ok:au pP con:=ax (E:=env) run mixed Tryz.func73 (by kernel_rfl) (cons_cons jy.ok (cons_cons dF.ok (cons_cons db.ok (cons_cons gI.ok (cons_cons cq.ok (ai))))))
end dQ
namespace eR
def con:Con:=⟨56,[aS],[],[],[.str],.tup [.a bu,.v (.d .bool)],[],[bu,.bool],fun x=>eR x⟩
def env:Env:=⟨pP,[],[dQ.con],[(8,0)],[],[],[],[],[],[11,16,20,25,3500002,5500004,16500004,20500004,25500004],[],[]⟩
def an:An:=sQ [nO,nO,nO,nO]
theorem run:aK env Tryz.f56 an con:=fun x=>by kernel_rfl
theorem ok:au pP con:=ax (E:=env) run mixed Tryz.func56 (by kernel_rfl) (cons_cons dQ.ok (ai))
end eR
namespace bK
def con:Con:=⟨57,[.c (.v (.loc 1000000 0)),.c (.a aM)],[(1000000,.box 99 [.own 1000001,.mp 1000002]),(1000001,.arr 141 aw),(1000002,.fb .i64 false iT)],[],[aM,(.sl aw),(.sl (.pair aw iT))],oB,[],[.bool],fun x=>bK x.1 x.2.1 x.2.2⟩
def env:Env:=⟨pP,[],[],[],[],[],[],[],[],[11,13,15],[],[]⟩
def an:An:=sQ [nO,nO,nO,nO]
theorem run:aK env Tryz.f57 an con:=fun x=>by kernel_rfl
theorem ok:au pP con:=ax (E:=env) run mixed Tryz.func57 (by kernel_rfl) (ai)
end bK
namespace fX
def con:Con:=⟨104,[.c (.a bu),.c (.a bu)],[],[],[bu,bu],oB,[],[.bool],fun x=>fX x.1 x.2⟩
def env:Env:=⟨pP,[],[er.con],[(10,0)],[],[],[],[],[],[],[],[]⟩
def an:An:=sQ [nO,nO,nO,nO]
theorem run:aK env Tryz.f104 an con:=fun x=>by kernel_rfl
theorem ok:au pP con:=ax (E:=env) run mixed Tryz.func104 (by kernel_rfl) (cons_cons er.ok (ai))
end fX
namespace bp
def con:Con:=⟨60,[.c (.a bu),.c (.a bu)],[],[],[bu,bu],oB,[],[.bool],fun x=>bp x.1 x.2⟩
def env:Env:=⟨pP,[],[cq.con,fX.con],[(6,0),(10,0),(24,1),(36,1)],[1000000],[],[],[],[],[],[],[]⟩
def an:An:=sQ [nO,.join ⟨[(12,aB)],[],[.bool]⟩ [2,3] [2,3] true nO (.cond (.seq nO nO) nO),.one (.join ⟨[(13,aB)],[],[.bool]⟩ [2,3] [2,3] true nO (.cond (.seq nO nO) (.join ⟨[(25,aB)],[],[.bool]⟩ [2,3] [2,3] true nO (.cond (.seq nO nO) (.seq nO (.cond (.seq nO nO) (.seq nO (.cond (sQ [.seq nO (.cond (.seq nO nO) nO),nO,nO]) (.seq nO (.cond (.seq nO nO) nO)))))))))),nO,nO]
theorem run:aK env Tryz.f60 an con:=fun x=>by kernel_rfl
theorem ok:au pP con:=ax (E:=env) run mixed Tryz.func60 (by kernel_rfl) (cons_cons cq.ok (cons_cons fX.ok (ai)))
end bp
namespace fu
def con:Con:=⟨59,[.c (.a bu),.c (.v (.loc 1000000 0))],[(1000000,.box 77 [.d iT,.d iT,.d iT,.d .str])],[],[bu,iT,iT,iT,.str],oB,[],[.bool],fun x=>fu x.1 x.2.1 x.2.2.1 x.2.2.2.1 x.2.2.2.2⟩
def env:Env:=⟨pP,[],[bp.con],[(6,0)],[],[],[],[],[],[],[],[]⟩
def an:An:=sQ [nO,nO,nO]
theorem run:aK env Tryz.f59 an con:=fun x=>by kernel_rfl
theorem ok:au pP con:=ax (E:=env) run mixed Tryz.func59 (by kernel_rfl) (cons_cons bp.ok (ai))
end fu
namespace aC
def con:Con:=⟨103,[aD (.sl bu),.c (.v (.fn 118 [1000000]))],[(1000000,.box 77 [.d iT,.d iT,.d iT,.d .str])],[],[(.sl bu),iT,iT,iT,.str],oI,[],[iT],fun x=>aC x.1 x.2.1 x.2.2.1 x.2.2.2.1 x.2.2.2.2⟩
def env:Env:=⟨pP,[],[fu.con],[(16,0)],[],[16],[],[],[],[],[],[]⟩
def an:An:=sQ [nO,.seq nO (.one (.loop ⟨[(8,(aD iT))],[],[iT]⟩ [0,1,7] [1000000] (sQ [nO,.cond nO nO,.one (sQ [nO,nO,.cond (.seq nO nO) nO]),nO]))),nO,nO]
theorem run:aK env Tryz.f103 an con:=fun x=>by kernel_rfl
theorem ok:au pP con:=ax (E:=env) run mixed Tryz.func103 (by kernel_rfl) (cons_cons fu.ok (ai))
end aC
namespace aO
def con:Con:=⟨58,[aD (.sl bu),.c (.v (.fn 118 [1000000]))],[(1000000,.box 77 [.d iT,.d iT,.d iT,.d .str])],[],[(.sl bu),iT,iT,iT,.str],oB,[],[.bool],fun x=>aO x.1 x.2.1 x.2.2.1 x.2.2.2.1 x.2.2.2.2⟩
def env:Env:=⟨pP,[],[aC.con],[(7,0)],[],[7],[],[],[],[],[],[]⟩
def an:An:=sQ [nO,nO,nO]
theorem run:aK env Tryz.f58 an con:=fun x=>by kernel_rfl
theorem ok:au pP con:=ax (E:=env) run mixed Tryz.func58 (by kernel_rfl) (cons_cons aC.ok (ai))
end aO
namespace bb
def con:Con:=⟨105,[aD (.sl aM),.c (.a aM)],[],[],[(.sl aM),aM],oI,[],[iT],fun x=>bb x.1 x.2⟩
def env:Env:=⟨pP,[],[],[],[],[],[],[],[14,15],[11],[],[]⟩
def an:An:=sQ [nO,.seq nO (.one (.loop ⟨[(8,(aD iT))],[],[iT]⟩ [0,3,7] [3] (sQ [nO,.cond nO nO,.one (sQ [nO,nO,.cond (.seq nO nO) nO]),nO]))),nO,nO]
theorem run:aK env Tryz.f105 an con:=fun x=>by kernel_rfl
theorem ok:au pP con:=ax (E:=env) run mixed Tryz.func105 (by kernel_rfl) (ai)
end bb
namespace bq
def con:Con:=⟨61,[aD (.sl aM),.c (.a aM)],[],[],[(.sl aM),aM],oB,[],[.bool],fun x=>bq x.1 x.2⟩
def env:Env:=⟨pP,[],[bb.con],[(7,0)],[],[],[],[],[],[],[],[]⟩
def an:An:=sQ [nO,nO,nO]
theorem run:aK env Tryz.f61 an con:=fun x=>by kernel_rfl
theorem ok:au pP con:=ax (E:=env) run mixed Tryz.func61 (by kernel_rfl) (cons_cons bb.ok (ai))
end bq
namespace br
def con:Con:=⟨20,[.c (.v (.loc 1000000 0)),.c (.a aM)],[],[(1000000,.box 106 [.loc 1000001 0,.d iT,.own 1000004,.own 1000005,.mp 1000006,.mp 1000007,.d iT,.d iT]),(1000001,.box 99 [.own 1000002,.mp 1000003]),(1000002,.arr 141 aw),(1000003,.fb .i64 false iT),(1000004,.arr 57 aM),(1000005,.arr 77 bu),(1000006,.fO .i64 false .str),(1000007,.fa false iT)],[aM,iT,iT,iT,(.sl aw),(.sl (.pair aw iT)),(.sl aM),(.sl bu),(.sl aw),(.sl (.pair .str iT))],oI,[(1000000,.box 106 [.loc 1000001 0,.d iT,.own 0,.own 1,.mp 1000006,.mp 1000007,.d iT,.d iT]),(1000001,.box 99 [.own 1000002,.mp 1000003]),(0,.arr 57 aM),(1,.arr 77 bu),(1000002,.arr 141 aw),(1000003,.fb .i64 false iT),(1000004,.gone),(1000005,.gone),(1000006,.fO .i64 false .str),(1000007,.fa false iT)],[iT,iT,iT,iT,(.sl aM),(.sl bu),(.sl aw),(.sl (.pair aw iT)),(.sl aw),(.sl (.pair .str iT))],fun x=>br x.1 x.2.1 x.2.2.1 x.2.2.2.1 x.2.2.2.2.1 x.2.2.2.2.2.1 x.2.2.2.2.2.2.1 x.2.2.2.2.2.2.2.1 x.2.2.2.2.2.2.2.2.1 x.2.2.2.2.2.2.2.2.2⟩
def env:Env:=⟨pP,[(80,aM),(104,bu)],[eR.con,bK.con,aO.con,bq.con],[(10,0),(19,1),(38,2),(45,3)],[],[19,38,1000019],[],[53,60],[],[17,18,23,27,43,44,51,52,58,59,73,75,77,83,85,89,91,94,99,103,108,110,4000057,6000077,64000106,66000106,108000077,110000077,113000106,115000106],[],[]⟩
def an:An:=sQ [nO,nO,.one (.seq nO (.cond (.seq nO nO) (.seq nO (.cond (.seq nO nO) (.seq nO (.cond (.seq nO nO) (.seq nO (.cond (.seq nO nO) (.seq nO (.cond (.seq nO nO) nO)))))))))),nO,.seq nO (.one (.seq nO (.cond nO (.seq nO (.cond nO (.seq nO (.cond (.seq nO (.cond nO nO)) nO))))))),nO,nO]
theorem run:aK env Tryz.f20 an con:=fun x=>by kernel_rfl
theorem ok:au pP con:=ax (E:=env) run mixed Tryz.func20 (by kernel_rfl) (cons_cons eR.ok (cons_cons bK.ok (cons_cons aO.ok (cons_cons bq.ok (ai)))))
end br
namespace ix
def con:Con:=⟨62,[.c (.v (.loc 1000000 0))],[(1000000,.box 106 [.loc 1000001 0,.d iT,.own 1000004,.own 1000005,.mp 1000006,.mp 1000007,.d iT,.d iT]),(1000001,.box 99 [.own 1000002,.mp 1000003]),(1000002,.arr 141 aw),(1000003,.fb .i64 false iT),(1000004,.arr 57 aM),(1000005,.arr 77 bu),(1000006,.fO .i64 false .str),(1000007,.fa false iT)],[],[iT,iT,iT,(.sl aw),(.sl (.pair aw iT)),(.sl aM),(.sl bu),(.sl aw),(.sl (.pair .str iT))],oI,[],[iT],fun x=>ix x.1 x.2.1 x.2.2.1 x.2.2.2.1 x.2.2.2.2.1 x.2.2.2.2.2.1 x.2.2.2.2.2.2.1 x.2.2.2.2.2.2.2.1 x.2.2.2.2.2.2.2.2⟩
def env:Env:=⟨pP,[],[],[],[],[],[],[],[],[],[],[]⟩
def an:An:=sQ [nO,nO,nO]
theorem run:aK env Tryz.f62 an con:=fun x=>by kernel_rfl
theorem ok:au pP con:=ax (E:=env) run mixed Tryz.func62 (by kernel_rfl) (ai)
end ix
namespace cT
def con:Con:=⟨106,[aD (.sl aM)],[],[],[(.sl aM)],.one (.v (.own 0)),[(0,.arr 57 aM)],[(.sl aM)],fun x=>cT x⟩
def env:Env:=⟨pP,[(80,aM)],[],[],[],[],[],[],[],[],[],[]⟩
def an:An:=sQ [nO,.seq nO (.cond (.seq nO nO) nO),nO,nO]
theorem run:aK env Tryz.f106 an con:=fun x=>by kernel_rfl
theorem ok:au pP con:=ax (E:=env) run mixed Tryz.func106 (by kernel_rfl) (ai)
end cT
namespace fV
def con:Con:=⟨63,[.c (.v (.loc 1000000 0))],[(1000000,.box 106 [.loc 1000001 0,.d iT,.own 1000004,.own 1000005,.mp 1000006,.mp 1000007,.d iT,.d iT]),(1000001,.box 99 [.own 1000002,.mp 1000003]),(1000002,.arr 141 aw),(1000003,.fb .i64 false iT),(1000004,.arr 57 aM),(1000005,.arr 77 bu),(1000006,.fO .i64 false .str),(1000007,.fa false iT)],[],[iT,iT,iT,(.sl aw),(.sl (.pair aw iT)),(.sl aM),(.sl bu),(.sl aw),(.sl (.pair .str iT))],.one (.v (.d (.sl aM))),[],[(.sl aM)],fun x=>fV x.1 x.2.1 x.2.2.1 x.2.2.2.1 x.2.2.2.2.1 x.2.2.2.2.2.1 x.2.2.2.2.2.2.1 x.2.2.2.2.2.2.2.1 x.2.2.2.2.2.2.2.2⟩
def env:Env:=⟨pP,[],[cT.con],[(7,0)],[],[],[],[],[],[],[],[]⟩
def an:An:=sQ [nO,nO,nO]
theorem run:aK env Tryz.f63 an con:=fun x=>by kernel_rfl
theorem ok:au pP con:=ax (E:=env) run mixed Tryz.func63 (by kernel_rfl) (cons_cons cT.ok (ai))
end fV
namespace gp
def con:Con:=⟨107,[.c (.a bu),.c (.v (.loc 1000000 0))],[(1000000,.box 77 [.d iT,.d iT,.d iT,.d .str])],[],[bu,iT,iT,iT,.str],oB,[],[.bool],fun x=>gp x.1 x.2.1 x.2.2.1 x.2.2.2.1 x.2.2.2.2⟩
def env:Env:=⟨pP,[],[bp.con],[(6,0)],[],[],[],[],[],[],[],[]⟩
def an:An:=sQ [nO,nO,nO]
theorem run:aK env Tryz.f107 an con:=fun x=>by kernel_rfl
theorem ok:au pP con:=ax (E:=env) run mixed Tryz.func107 (by kernel_rfl) (cons_cons bp.ok (ai))
end gp
namespace bE
def con:Con:=⟨103,[aD (.sl bu),.c (.v (.fn 214 [1000000]))],[(1000000,.box 77 [.d iT,.d iT,.d iT,.d .str])],[],[(.sl bu),iT,iT,iT,.str],oI,[],[iT],fun x=>bE x.1 x.2.1 x.2.2.1 x.2.2.2.1 x.2.2.2.2⟩
def env:Env:=⟨pP,[],[gp.con],[(16,0)],[],[16],[],[],[],[],[],[]⟩
def an:An:=sQ [nO,.seq nO (.one (.loop ⟨[(8,(aD iT))],[],[iT]⟩ [0,1,7] [1000000] (sQ [nO,.cond nO nO,.one (sQ [nO,nO,.cond (.seq nO nO) nO]),nO]))),nO,nO]
theorem run:aK env Tryz.f103 an con:=fun x=>by kernel_rfl
theorem ok:au pP con:=ax (E:=env) run mixed Tryz.func103 (by kernel_rfl) (cons_cons gp.ok (ai))
end bE
namespace hY
def con:Con:=⟨64,[.c (.v (.loc 1000000 0)),.c (.a aM)],[(1000000,.box 106 [.loc 1000001 0,.d iT,.own 1000004,.own 1000005,.mp 1000006,.mp 1000007,.d iT,.d iT]),(1000001,.box 99 [.own 1000002,.mp 1000003]),(1000002,.arr 141 aw),(1000003,.fb .i64 false iT),(1000004,.arr 57 aM),(1000005,.arr 77 bu),(1000006,.fO .i64 false .str),(1000007,.fa false iT)],[],[aM,iT,iT,iT,(.sl aw),(.sl (.pair aw iT)),(.sl aM),(.sl bu),(.sl aw),(.sl (.pair .str iT))],.tup [.a aM,.v (.d .bool)],[],[aM,.bool],fun x=>hY x.1 x.2.1 x.2.2.1 x.2.2.2.1 x.2.2.2.2.1 x.2.2.2.2.2.1 x.2.2.2.2.2.2.1 x.2.2.2.2.2.2.2.1 x.2.2.2.2.2.2.2.2.1 x.2.2.2.2.2.2.2.2.2⟩
def env:Env:=⟨pP,[],[dQ.con,bE.con],[(12,0),(23,1)],[],[23],[],[],[],[],[],[]⟩
def an:An:=sQ [nO,nO,.seq nO (.cond (.seq nO nO) nO),nO,.seq nO (.cond (.seq nO nO) nO),nO,nO]
theorem run:aK env Tryz.f64 an con:=fun x=>by kernel_rfl
theorem ok:au pP con:=ax (E:=env) run mixed Tryz.func64 (by kernel_rfl) (cons_cons dQ.ok (cons_cons bE.ok (ai)))
end hY
namespace eD
def con:Con:=⟨25,[.c (.v (.loc 1000000 0)),.c (.v (.loc 1000008 0))],[],[(1000000,.box 106 [.loc 1000001 0,.d iT,.own 1000004,.own 1000005,.mp 1000006,.mp 1000007,.d iT,.d iT]),(1000001,.box 99 [.own 1000002,.mp 1000003]),(1000008,.box 106 [.loc 1000001 0,.d iT,.own 1000009,.own 1000010,.mp 1000011,.mp 1000012,.d iT,.d iT]),(1000002,.arr 141 aw),(1000003,.fb .i64 false iT),(1000004,.arr 57 aM),(1000005,.arr 77 bu),(1000006,.fO .i64 false .str),(1000007,.fa false iT),(1000009,.arr 57 aM),(1000010,.arr 77 bu),(1000011,.fO .i64 false .str),(1000012,.fa false iT)],[iT,iT,iT,iT,iT,iT,(.sl aw),(.sl (.pair aw iT)),(.sl aM),(.sl bu),(.sl aw),(.sl (.pair .str iT)),(.sl aM),(.sl bu),(.sl aw),(.sl (.pair .str iT))],.tup [.a aM,.a aM,.v (.d .bool)],[(1000000,.box 106 [.loc 1000001 0,.d iT,.own 0,.own 1,.mp 1000006,.mp 1000007,.d iT,.d iT]),(1000001,.box 99 [.own 1000002,.mp 1000003]),(1000008,.box 106 [.loc 1000001 0,.d iT,.own 2,.own 3,.mp 1000011,.mp 1000012,.d iT,.d iT]),(0,.arr 57 aM),(1,.arr 77 bu),(2,.arr 57 aM),(3,.arr 77 bu),(1000002,.arr 141 aw),(1000003,.fb .i64 false iT),(1000004,.gone),(1000005,.gone),(1000006,.fO .i64 false .str),(1000007,.fa false iT),(1000009,.gone),(1000010,.gone),(1000011,.fO .i64 false .str),(1000012,.fa false iT)],[aM,aM,.bool,iT,iT,iT,iT,iT,iT,(.sl aM),(.sl bu),(.sl aM),(.sl bu),(.sl aw),(.sl (.pair aw iT)),(.sl aw),(.sl (.pair .str iT)),(.sl aw),(.sl (.pair .str iT))],fun x=>eD x.1 x.2.1 x.2.2.1 x.2.2.2.1 x.2.2.2.2.1 x.2.2.2.2.2.1 x.2.2.2.2.2.2.1 x.2.2.2.2.2.2.2.1 x.2.2.2.2.2.2.2.2.1 x.2.2.2.2.2.2.2.2.2.1 x.2.2.2.2.2.2.2.2.2.2.1 x.2.2.2.2.2.2.2.2.2.2.2.1 x.2.2.2.2.2.2.2.2.2.2.2.2.1 x.2.2.2.2.2.2.2.2.2.2.2.2.2.1 x.2.2.2.2.2.2.2.2.2.2.2.2.2.2.1 x.2.2.2.2.2.2.2.2.2.2.2.2.2.2.2⟩
def env:Env:=⟨pP,[],[ix.con,fV.con,hY.con,br.con],[(25,0),(27,0),(33,1),(35,1),(45,2),(60,3),(70,3)],[11,16],[25,27,33,35,45,60,70],[],[],[],[49,50,5500004,6500005,11500010,12500011],[],[]⟩
def an:An:=sQ [nO,.seq nO (.cond (.seq nO nO) nO),nO,.join ⟨[(4,.c (.v (.loc 4 0))),(5,.c (.v (.loc 5 0)))],[(4,.box 57 [.d iT,.d .str,.d iT]),(5,.box 57 [.d iT,.d .str,.d iT])],[iT,.str,iT,iT,.str,iT]⟩ [0,1,7,8] [1000000,1000001,1000002,1000003,1000004,1000005,1000006,1000007,1000008,1000009,1000010,1000011,1000012] false (.seq nO (.one (.loop ⟨[(38,(aD iT))],[],[iT]⟩ [0,1,4,5,7,8,36,37] [4,5,1000000,1000001,1000002,1000003,1000004,1000005,1000006,1000007,1000008,1000009,1000010,1000011,1000012] (sQ [nO,.cond nO nO,.one (sQ [nO,nO,nO,.cond (.seq nO nO) nO]),nO])))) (.join ⟨[(1,.c (.v (.loc 1000008 0)))],[(1000008,.box 106 [.loc 1000001 0,.d iT,.own 1000009,.own 1000010,.mp 1000011,.mp 1000012,.d iT,.d iT]),(1000000,.box 106 [.loc 1000001 0,.d iT,.own 499005,.own 499006,.mp 1000006,.mp 1000007,.d iT,.d iT]),(1000001,.box 99 [.own 1000002,.mp 1000003]),(1000009,.arr 57 aM),(1000010,.arr 77 bu),(1000011,.fO .i64 false .str),(1000012,.fa false iT),(499005,.arr 57 aM),(499006,.arr 77 bu),(1000006,.fO .i64 false .str),(1000007,.fa false iT),(1000002,.arr 141 aw),(1000003,.fb .i64 false iT)],[iT,iT,iT,iT,iT,iT,(.sl aM),(.sl bu),(.sl aw),(.sl (.pair .str iT)),(.sl aM),(.sl bu),(.sl aw),(.sl (.pair .str iT)),(.sl aw),(.sl (.pair aw iT))]⟩ [4,5,7] [4,5] true (.seq nO (.one (.loop ⟨[(0,.c (.v (.loc 1000000 0))),(1,.c (.v (.loc 1000008 0))),(54,(aD iT))],[(1000000,.box 106 [.loc 1000001 0,.d iT,.own 499009,.own 499010,.mp 1000006,.mp 1000007,.d iT,.d iT]),(1000008,.box 106 [.loc 1000001 0,.d iT,.own 1000009,.own 1000010,.mp 1000011,.mp 1000012,.d iT,.d iT]),(1000001,.box 99 [.own 1000002,.mp 1000003]),(499009,.arr 57 aM),(499010,.arr 77 bu),(1000006,.fO .i64 false .str),(1000007,.fa false iT),(1000009,.arr 57 aM),(1000010,.arr 77 bu),(1000011,.fO .i64 false .str),(1000012,.fa false iT),(1000002,.arr 141 aw),(1000003,.fb .i64 false iT)],[iT,iT,iT,iT,iT,iT,iT,(.sl aM),(.sl bu),(.sl aw),(.sl (.pair .str iT)),(.sl aM),(.sl bu),(.sl aw),(.sl (.pair .str iT)),(.sl aw),(.sl (.pair aw iT))]⟩ [4,5,7,52,53] [4,5] (sQ [nO,.cond nO nO,.one (.seq nO nO),nO])))) (sQ [.seq nO (.one (.loop ⟨[(1,.c (.v (.loc 1000008 0))),(64,(aD iT))],[(1000008,.box 106 [.loc 1000001 0,.d iT,.own 499017,.own 499018,.mp 1000011,.mp 1000012,.d iT,.d iT]),(1000000,.box 106 [.loc 1000001 0,.d iT,.own 499019,.own 499020,.mp 1000006,.mp 1000007,.d iT,.d iT]),(1000001,.box 99 [.own 1000002,.mp 1000003]),(499017,.arr 57 aM),(499018,.arr 77 bu),(1000011,.fO .i64 false .str),(1000012,.fa false iT),(499019,.arr 57 aM),(499020,.arr 77 bu),(1000006,.fO .i64 false .str),(1000007,.fa false iT),(1000002,.arr 141 aw),(1000003,.fb .i64 false iT)],[iT,iT,iT,iT,iT,iT,iT,(.sl aM),(.sl bu),(.sl aw),(.sl (.pair .str iT)),(.sl aM),(.sl bu),(.sl aw),(.sl (.pair .str iT)),(.sl aw),(.sl (.pair aw iT))]⟩ [4,5,62,63] [4,5] (sQ [nO,.cond nO nO,.one (.seq nO nO),nO]))),nO,nO]))]
theorem run:aK env Tryz.f25 an con:=fun x=>by kernel_rfl
theorem ok:au pP con:=ax (E:=env) run mixed Tryz.func25 (by kernel_rfl) (cons_cons ix.ok (cons_cons fV.ok (cons_cons hY.ok (cons_cons br.ok (ai)))))
end eD
namespace eK
def con:Con:=⟨66,[aD (.sl jY)],[],[],[(.sl jY)],oB,[],[.bool],fun x=>eK x⟩
def env:Env:=⟨pP,[(191,.bool)],[],[],[1000000],[],[],[],[],[],[],[]⟩
def an:An:=sQ [nO,nO,.seq nO (.one (.loop ⟨[(3,.c (.v (.mp 499001))),(11,(aD iT))],[(499001,.fO .i64 false .bool)],[iT,(.sl (.pair iT .bool))]⟩ [0,9,10] [] (sQ [nO,.cond nO nO,.one (sQ [nO,.join ⟨[(37,aB)],[],[.bool]⟩ [0,3,5,9,10,11] [5,499001] true nO (.cond (.seq nO nO) nO),nO,.one (.loop ⟨[(3,.c (.v (.mp 499002))),(41,(aD iT))],[(499002,.fO .i64 false .bool)],[iT,(.sl (.pair iT .bool))]⟩ [0,5,9,10,11,39,40] [5] (sQ [nO,.cond nO nO,.one (sQ [nO,.join ⟨[(70,aB)],[],[.bool]⟩ [0,3,5,7,9,10,11,39,40,41] [5,499002] true nO (.cond (.seq nO nO) nO),nO]),nO]))]),nO]))),nO,nO]
theorem run:aK env Tryz.f66 an con:=fun x=>by kernel_rfl
theorem ok:au pP con:=ax (E:=env) run mixed Tryz.func66 (by kernel_rfl) (ai)
end eK
namespace fY
def con:Con:=⟨67,[.c (.v (.loc 1000000 0)),aD (.sl aM),aS],[(1000000,.box 99 [.own 1000001,.mp 1000002]),(1000001,.arr 141 aw),(1000002,.fb .i64 false iT)],[],[(.sl aM),.str,(.sl aw),(.sl (.pair aw iT))],.one (.v (.own 0)),[(0,.arr 193 iy)],[(.sl iy)],fun x=>fY x.1 x.2.1 x.2.2.1 x.2.2.2⟩
def env:Env:=⟨pP,[(134,iy)],[bK.con,dQ.con],[(23,0),(29,1)],[1000000],[23],[],[50],[],[],[],[]⟩
def an:An:=sQ [nO,nO,.seq nO (.one (.loop ⟨[(7,.c (.v (.own 499002))),(14,(aD iT))],[(499002,.arr 193 iy)],[iT,(.sl iy)]⟩ [0,2,12,13] [1000000,1000001,1000002] (sQ [nO,.cond nO nO,.one (sQ [nO,.seq nO (.cond nO nO),nO,.join ⟨[(44,aB)],[],[.bool]⟩ [0,2,7,9,10,12,13,14] [9,10,499002,1000000,1000001,1000002] true nO (.cond nO nO)]),nO]))),nO,nO]
theorem run:aK env Tryz.f67 an con:=fun x=>by kernel_rfl
theorem ok:au pP con:=ax (E:=env) run mixed Tryz.func67 (by kernel_rfl) (cons_cons bK.ok (cons_cons dQ.ok (ai)))
end fY
namespace cmp_Less_int
def con:Con:=⟨210,[(aD iT),(aD iT)],[],[],[iT,iT],oB,[],[.bool],fun x=>cmp_Less_int x.1 x.2⟩
def env:Env:=⟨pP,[],[cmp_isNaN_int.con],[(6,0),(9,0)],[],[],[],[],[],[],[],[]⟩
def an:An:=sQ [nO,nO,nO]
theorem run:aK env Tryz.f210 an con:=fun x=>by kernel_rfl
theorem ok:au pP con:=ax (E:=env) run mixed Tryz.func210 (by kernel_rfl) (cons_cons cmp_isNaN_int.ok (ai))
end cmp_Less_int
namespace bg
def con:Con:=⟨204,[.c (.v (.own 1000000)),(aD iT),(aD iT)],[],[(1000000,.arr 3 iT)],[iT,iT,liT],.tup [],[(1000000,.arr 3 iT)],[liT],fun x=>bg x.1 x.2.1 x.2.2⟩
def env:Env:=⟨pP,[],[cmp_Less_int.con],[(29,0)],[1000000],[],[],[],[],[],[],[]⟩
def an:An := .seq nO (.one (.loop ⟨[(0,.c (.v (.own 1000000))),(6,(aD iT))],[(1000000,.arr 3 iT)],[iT,liT]⟩ [1,2] [] (sQ [.seq nO (.cond nO nO),.one (.seq nO (.one (.loop ⟨[(0,.c (.v (.own 1000000))),(7,(aD iT))],[(1000000,.arr 3 iT)],[iT,liT]⟩ [1,2,6] [] (sQ [.join ⟨[(30,aB)],[],[.bool]⟩ [0,1,2,6,7] [1000000] true nO (.cond nO nO),.one nO,nO])))),nO])))
theorem run:aK env Tryz.f204 an con:=fun x=>by kernel_rfl
theorem ok:au pP con:=ax (E:=env) run mixed Tryz.func204 (by kernel_rfl) (cons_cons cmp_Less_int.ok (ai))
end bg
namespace de
def con:Con:=⟨178,[.c (.v (.own 1000000)),(aD iT),(aD iT),(aD iT)],[],[(1000000,.arr 3 iT)],[iT,iT,iT,liT],.tup [],[(1000000,.arr 3 iT)],[liT],fun x=>de x.1 x.2.1 x.2.2.1 x.2.2.2⟩
def env:Env:=⟨pP,[],[bg.con],[(27,0)],[],[27],[],[],[],[],[],[]⟩
def an:An:=sQ [nO,nO,.one (.loop ⟨[(1,(aD iT)),(2,(aD iT)),(3,(aD iT)),(8,aB),(9,aB)],[],[iT,iT,iT,.bool,.bool]⟩ [0] [1000000] (.one (sQ [nO,.seq nO (.cond (.seq nO nO) nO),.seq nO (.cond (.seq nO nO) nO),.seq nO (.cond (.seq nO nO) nO),nO,.seq nO (.cond (sQ [nO,nO,nO]) nO),.seq nO (.cond (.seq nO (.cond nO nO)) nO),.seq nO (.cond (sQ [nO,nO,nO]) nO),nO,nO,nO,nO,nO,.cond (sQ [nO,nO,nO]) (sQ [nO,nO,nO])])))]
theorem run:aK env Tryz.f178 an con:=fun x=>by kernel_rfl
theorem ok:au pP con:=ax (E:=env) run mixed Tryz.func178 (by kernel_rfl) (cons_cons bg.ok (ai))
end de
namespace fM
def con:Con:=⟨145,[.c (.v (.own 1000000))],[],[(1000000,.arr 3 iT)],[liT],.tup [],[(1000000,.arr 3 iT)],[liT],fun x=>fM x⟩
def env:Env:=⟨pP,[],[bits_Len.con,de.con],[(9,0),(10,1)],[],[10],[],[],[],[],[],[]⟩
def an:An := .seq nO nO
theorem run:aK env Tryz.f145 an con:=fun x=>by kernel_rfl
theorem ok:au pP con:=ax (E:=env) run mixed Tryz.func145 (by kernel_rfl) (cons_cons bits_Len.ok (cons_cons de.ok (ai)))
end fM
def slices_Compact_int.con:Con:=rT 146 3
theorem slices_Compact_int.ok:au pP slices_Compact_int.con:=GZ
namespace jz
def con:Con:=⟨109,[.c (.v (.own 1000000))],[],[(1000000,.arr 3 iT)],[liT],.one (.v (.own 0)),[(0,.arr 3 iT),(1000000,.gone)],[liT],fun x=>jz x⟩
def env:Env:=⟨pP,[],[fM.con,slices_Compact_int.con],[(4,0),(6,1)],[],[4,6],[],[],[],[],[],[]⟩
def an:An:=sQ [nO,nO,nO,nO]
theorem run:aK env Tryz.f109 an con:=fun x=>by kernel_rfl
theorem ok:au pP con:=ax (E:=env) run mixed Tryz.func109 (by kernel_rfl) (cons_cons fM.ok (cons_cons slices_Compact_int.ok (ai)))
end jz
namespace fH
def con:Con:=⟨68,[aD (.sl iy)],[],[],[(.sl iy)],.one (.v (.own 0)),[(0,.arr 3 iT)],[liT],fun x=>fH x⟩
def env:Env:=⟨pP,[(36,iT)],[jz.con],[(19,0)],[7],[19],[],[15],[],[],[],[]⟩
def an:An:=sQ [nO,nO,.join ⟨[(3,.c (.v (.own 499003)))],[(499003,.arr 3 iT)],[liT]⟩ [] [] true (.seq nO (.one (.loop ⟨[(3,.c (.v (.own 499005))),(8,(aD iT))],[(499005,.arr 3 iT)],[iT,liT]⟩ [6,7] [] (sQ [nO,.cond nO nO,.one (.seq nO nO),nO])))) (.seq nO nO)]
theorem run:aK env Tryz.f68 an con:=fun x=>by kernel_rfl
theorem ok:au pP con:=ax (E:=env) run mixed Tryz.func68 (by kernel_rfl) (cons_cons jz.ok (ai))
end fH
namespace gJ
def con:Con:=⟨112,[.c (.a iy),.c (.v (.loc 1000000 0)),.c (.v (.loc 1000001 0))],[(1000000,.box 3 [.d iT]),(1000001,.box 3 [.d iT])],[],[iy,iT,iT],oB,[],[.bool],fun x=>gJ x.1 x.2.1 x.2.2⟩
def env:Env:=⟨pP,[],[],[],[],[],[],[],[],[],[],[]⟩
def an:An:=sQ [nO,nO,nO]
theorem run:aK env Tryz.f112 an con:=fun x=>by kernel_rfl
theorem ok:au pP con:=ax (E:=env) run mixed Tryz.func112 (by kernel_rfl) (ai)
end gJ
namespace bz
def con:Con:=⟨147,[aD (.sl iy),.c (.v (.fn 224 [1000000,1000001]))],[(1000000,.box 3 [.d iT]),(1000001,.box 3 [.d iT])],[],[(.sl iy),iT,iT],oI,[],[iT],fun x=>bz x.1 x.2.1 x.2.2⟩
def env:Env:=⟨pP,[],[gJ.con],[(16,0)],[],[16],[],[],[],[],[],[]⟩
def an:An:=sQ [nO,.seq nO (.one (.loop ⟨[(8,(aD iT))],[],[iT]⟩ [0,1,7] [1000000,1000001] (sQ [nO,.cond nO nO,.one (sQ [nO,nO,.cond (.seq nO nO) nO]),nO]))),nO,nO]
theorem run:aK env Tryz.f147 an con:=fun x=>by kernel_rfl
theorem ok:au pP con:=ax (E:=env) run mixed Tryz.func147 (by kernel_rfl) (cons_cons gJ.ok (ai))
end bz
namespace cd
def con:Con:=⟨111,[aD (.sl iy),.c (.v (.fn 224 [1000000,1000001]))],[(1000000,.box 3 [.d iT]),(1000001,.box 3 [.d iT])],[],[(.sl iy),iT,iT],oB,[],[.bool],fun x=>cd x.1 x.2.1 x.2.2⟩
def env:Env:=⟨pP,[],[bz.con],[(7,0)],[],[7],[],[],[],[],[],[]⟩
def an:An:=sQ [nO,nO,nO]
theorem run:aK env Tryz.f111 an con:=fun x=>by kernel_rfl
theorem ok:au pP con:=ax (E:=env) run mixed Tryz.func111 (by kernel_rfl) (cons_cons bz.ok (ai))
end cd
namespace gi
def con:Con:=⟨71,[aD (.sl iy),.c (.a jY),(aD iT)],[],[],[(.sl iy),jY,iT],.one (.v (.own 0)),[(0,.arr 3 iT)],[liT],fun x=>gi x.1 x.2.1 x.2.2⟩
def env:Env:=⟨pP,[(36,iT)],[cd.con],[(19,0)],[],[19],[],[22],[],[],[],[]⟩
def an:An:=sQ [nO,nO,.seq nO (.one (.loop ⟨[(7,.c (.v (.own 499002))),(13,(aD iT))],[(499002,.arr 3 iT)],[iT,liT]⟩ [0,5,11,12] [5] (sQ [nO,.cond nO nO,.one (sQ [nO,nO,.cond nO nO]),nO]))),nO,nO]
theorem run:aK env Tryz.f71 an con:=fun x=>by kernel_rfl
theorem ok:au pP con:=ax (E:=env) run mixed Tryz.func71 (by kernel_rfl) (cons_cons cd.ok (ai))
end gi
namespace ic
def con:Con:=⟨70,[.c (.a jY),.c (.v (.loc 1000000 0)),.c (.v (.loc 1000002 0))],[(1000000,.box 134 [.own 1000001]),(1000001,.arr 193 iy),(1000002,.box 3 [.d iT])],[],[jY,(.sl iy),iT],oB,[],[.bool],fun x=>ic x.1 x.2.1 x.2.2⟩
def env:Env:=⟨pP,[],[gi.con],[(8,0)],[],[],[],[],[],[5,6,7,9,11],[],[]⟩
def an:An:=sQ [nO,nO,nO]
theorem run:aK env Tryz.f70 an con:=fun x=>by kernel_rfl
theorem ok:au pP con:=ax (E:=env) run mixed Tryz.func70 (by kernel_rfl) (cons_cons gi.ok (ai))
end ic
namespace bN
def con:Con:=⟨110,[aD (.sl jY),.c (.v (.fn 140 [1000000,1000002]))],[(1000000,.box 134 [.own 1000001]),(1000001,.arr 193 iy),(1000002,.box 3 [.d iT])],[],[(.sl jY),(.sl iy),iT],oI,[],[iT],fun x=>bN x.1 x.2.1 x.2.2⟩
def env:Env:=⟨pP,[],[ic.con],[(16,0)],[],[16],[],[],[],[],[],[]⟩
def an:An:=sQ [nO,.seq nO (.one (.loop ⟨[(8,(aD iT))],[],[iT]⟩ [0,1,7] [1000000,1000001,1000002] (sQ [nO,.cond nO nO,.one (sQ [nO,nO,.cond (.seq nO nO) nO]),nO]))),nO,nO]
theorem run:aK env Tryz.f110 an con:=fun x=>by kernel_rfl
theorem ok:au pP con:=ax (E:=env) run mixed Tryz.func110 (by kernel_rfl) (cons_cons ic.ok (ai))
end bN
namespace cy
def con:Con:=⟨69,[aD (.sl jY),.c (.v (.fn 140 [1000000,1000002]))],[(1000000,.box 134 [.own 1000001]),(1000001,.arr 193 iy),(1000002,.box 3 [.d iT])],[],[(.sl jY),(.sl iy),iT],oB,[],[.bool],fun x=>cy x.1 x.2.1 x.2.2⟩
def env:Env:=⟨pP,[],[bN.con],[(7,0)],[],[7],[],[],[],[],[],[]⟩
def an:An:=sQ [nO,nO,nO]
theorem run:aK env Tryz.f69 an con:=fun x=>by kernel_rfl
theorem ok:au pP con:=ax (E:=env) run mixed Tryz.func69 (by kernel_rfl) (cons_cons bN.ok (ai))
end cy
namespace fI
def con:Con:=⟨27,[.c (.v (.loc 1000000 0)),aD (.sl aM),aD (.sl jY),aS],[(1000000,.box 99 [.own 1000001,.mp 1000002]),(1000001,.arr 141 aw),(1000002,.fb .i64 false iT)],[],[(.sl aM),(.sl jY),.str,(.sl aw),(.sl (.pair aw iT))],.tup [.v (.d iT),.v (.d iT)],[],[iT,iT],fun x=>fI x.1 x.2.1 x.2.2.1 x.2.2.2.1 x.2.2.2.2⟩
def env:Env:=⟨pP,[(36,iT)],[eK.con,fY.con,fH.con,cy.con],[(15,0),(20,1),(22,2),(30,3)],[11],[20,30],[],[34],[],[],[],[]⟩
def an:An:=sQ [nO,.seq nO (.cond (.seq nO nO) nO),nO,nO,.join ⟨[(11,.c (.v (.own 499003)))],[(499003,.arr 3 iT)],[liT]⟩ [] [] true (.seq nO (.one (.loop ⟨[(11,.c (.v (.own 499005))),(24,(aD iT))],[(499005,.arr 3 iT)],[iT,liT]⟩ [2,10,22,23] [10,20,22] (sQ [nO,.cond nO nO,.one (sQ [nO,nO,.cond nO nO]),nO])))) (sQ [.seq nO (.one (.seq nO (.cond (.seq nO nO) (.seq nO (.cond (.seq nO nO) nO))))),nO,nO])]
theorem run:aK env Tryz.f27 an con:=fun x=>by kernel_rfl
theorem ok:au pP con:=ax (E:=env) run mixed Tryz.func27 (by kernel_rfl) (cons_cons eK.ok (cons_cons fY.ok (cons_cons fH.ok (cons_cons cy.ok (ai)))))
end fI
namespace fh
def con:Con:=⟨29,[.c (.v (.loc 1000000 0)),.c (.a aM),.c (.a aM)],[(1000000,.box 99 [.own 1000001,.mp 1000002]),(1000001,.arr 141 aw),(1000002,.fb .i64 false iT)],[],[aM,aM,(.sl aw),(.sl (.pair aw iT))],oI,[],[iT],fun x=>fh x.1 x.2.1 x.2.2.1 x.2.2.2⟩
def env:Env:=⟨pP,[],[bK.con,dQ.con,bp.con],[(17,0),(22,0),(34,1),(40,1),(53,2)],[1000000],[17,22],[],[],[],[],[],[]⟩
def an:An:=sQ [nO,.one (.seq nO (.cond (.seq nO nO) (.join ⟨[(14,aB)],[],[.bool]⟩ [4,5] [4,5] true nO (.cond (.seq nO nO) (.seq nO (.cond (.seq nO nO) nO)))))),nO,nO,.one (.join ⟨[(43,aB)],[],[.bool]⟩ [7,9] [7,9] true nO (.cond (.seq nO nO) (.seq nO (.cond (.seq nO nO) nO)))),nO,nO]
theorem run:aK env Tryz.f29 an con:=fun x=>by kernel_rfl
theorem ok:au pP con:=ax (E:=env) run mixed Tryz.func29 (by kernel_rfl) (cons_cons bK.ok (cons_cons dQ.ok (cons_cons bp.ok (ai))))
end fh
namespace fj
def con:Con:=⟨30,[.c (.v (.loc 1000000 0)),(aD iT)],[(1000000,.box 106 [.loc 1000001 0,.d iT,.own 1000004,.own 1000005,.mp 1000006,.mp 1000007,.d iT,.d iT]),(1000001,.box 99 [.own 1000002,.mp 1000003]),(1000002,.arr 141 aw),(1000003,.fb .i64 false iT),(1000004,.arr 57 aM),(1000005,.arr 77 bu),(1000006,.fO .i64 false .str),(1000007,.fa false iT)],[],[iT,iT,iT,iT,(.sl aw),(.sl (.pair aw iT)),(.sl aM),(.sl bu),(.sl aw),(.sl (.pair .str iT))],oB,[],[.bool],fun x=>fj x.1 x.2.1 x.2.2.1 x.2.2.2.1 x.2.2.2.2.1 x.2.2.2.2.2.1 x.2.2.2.2.2.2.1 x.2.2.2.2.2.2.2.1 x.2.2.2.2.2.2.2.2.1 x.2.2.2.2.2.2.2.2.2⟩
def env:Env:=⟨pP,[],[],[],[],[],[],[],[],[],[],[]⟩
def an:An:=sQ [nO,.seq nO (.cond (.seq nO nO) nO),.seq nO (.one (.loop ⟨[(17,(aD iT))],[],[iT]⟩ [0,16] [1000000,1000001,1000002,1000003,1000004,1000005,1000006,1000007] (sQ [nO,.cond nO nO,.one (sQ [nO,nO,nO,.cond (.seq nO nO) nO]),nO]))),nO,nO]
theorem run:aK env Tryz.f30 an con:=fun x=>by kernel_rfl
theorem ok:au pP con:=ax (E:=env) run mixed Tryz.func30 (by kernel_rfl) (ai)
end fj
namespace eS
def con:Con:=⟨4,[],[],[],[],oB,[],[.bool],fun x=>eS⟩
def env:Env:=⟨pP,[(36,iT),(80,aM),(83,jY)],[kT.con,jq.con,eO.con,cD.con,br.con,eD.con,eG.con,di.con,fI.con,fh.con,fj.con],[(12,0),(16,1),(18,1),(27,2),(28,3),(29,4),(32,2),(33,3),(34,4),(38,5),(43,6),(48,7),(51,7),(56,8),(72,9),(85,10),(89,10)],[],[16,18,28,29,33,34,38,48,51,56,72,85,89],[],[52,53,55],[],[],[],[]⟩
def an:An:=sQ [nO,nO,.seq nO (.cond (.seq nO nO) nO),nO,nO,.seq nO (.cond (.seq nO nO) nO),nO,nO,nO,nO,nO,nO,nO]
theorem run:aK env Tryz.f4 an con:=fun x=>by kernel_rfl
theorem ok:au pP con:=ax (E:=env) run mixed Tryz.func4 (by kernel_rfl) (cons_cons kT.ok (cons_cons jq.ok (cons_cons eO.ok (cons_cons cD.ok (cons_cons br.ok (cons_cons eD.ok (cons_cons eG.ok (cons_cons di.ok (cons_cons fI.ok (cons_cons fh.ok (cons_cons fj.ok (ai))))))))))))
end eS
abbrev aF.ps:List Ty:=[iT,iT,.str,.str,lsT,(.sl gj),iT,iT]
abbrev aF.qs:List Ty:=[iT]
def aF.gu (Gr:Int->Int->Bs->Bs->List Bs->List fq->Int->Int->Option Int):Con:=⟨31,[.c (.g [.d iT,.d iT,.d .str,.d .str,.d lsT,.d (.sl gj)]),(aD iT),(aD iT)],[],[],aF.ps,oI,[],aF.qs,fun x=>Gr x.1 x.2.1 x.2.2.1 x.2.2.2.1 x.2.2.2.2.1 x.2.2.2.2.2.1 x.2.2.2.2.2.2.1 x.2.2.2.2.2.2.2⟩
namespace aF
def con:Con:=gu (rec Fuel.n)
def env (Gr:Int->Int->Bs->Bs->List Bs->List fq->Int->Int->Option Int):Env:=⟨pP,[],[(aF.gu Gr)],[(54,0)],[1000000],[],[],[],[],[],[],[]⟩
def an:An:=sQ [nO,nO,.join ⟨[(28,aB)],[],[.bool]⟩ [1,2,3,7] [3] true nO (.cond (.seq nO nO) nO),.seq nO (.one (.loop ⟨[(7,(aD iT)),(8,(aD iT))],[],[iT,iT]⟩ [1,2,3] [3] (sQ [.join ⟨[(40,aB)],[],[.bool]⟩ [1,2,3,7,8] [3] true nO (.cond nO nO),.one nO,nO]))),nO,nO]
theorem run (Gr:Int->Int->Bs->Bs->List Bs->List fq->Int->Int->Option Int):aK (env Gr) Tryz.f31 an (gu (body Gr)):=fun x=>by kernel_rfl
theorem okB (Gr:Int->Int->Bs->Bs->List Bs->List fq->Int->Int->Option Int) (hG:au pP (gu Gr)):au pP (gu (body Gr)):=ax (E:=(env Gr)) (run Gr) mixed Tryz.func31 (by kernel_rfl) (cons_cons hG (ai))
theorem okN:∀ n,au pP (gu (rec n))
 | 0=>⟨by kernel_rfl,fun x r h=>by have h2:(none:Option (Tup aF.qs))=some r:=h; cases h2⟩
 | n+1=>okB (rec n) (okN n)
theorem ok:au pP con:=okN _
end aF
namespace ao
def con:Con:=⟨5,[aD (.sl cO),(aD iT)],[],[],[(.sl cO),iT],oB,[],[.bool],fun x=>ao x.1 x.2⟩
def env:Env:=⟨pP,[],[aF.con],[(149,0)],[11,16,1000000],[],[],[],[],[],[],[]⟩
def an:An:=sQ [nO,.seq nO (.one (.loop ⟨[(5,(aD iT))],[],[iT]⟩ [0,1] [] (sQ [.join ⟨[(18,aB)],[],[.bool]⟩ [0,1,5] [] true nO (.cond nO nO),.one (sQ [nO,nO,.join ⟨[],[],[]⟩ [0,1,5,6,7] [6,7] false (.seq nO (.one (.loop ⟨[(8,(aD iT))],[],[iT]⟩ [0,1,5,6,7] [6,7] (sQ [.join ⟨[(35,aB)],[],[.bool]⟩ [0,1,5,6,7,8] [6,7] true nO (.cond nO nO),.one (.join ⟨[(65,aB)],[],[.bool]⟩ [0,1,5,6,7,8] [6,7] true nO (.cond (.seq nO nO) nO)),nO])))) (.join ⟨[],[],[]⟩ [0,1,5,6,7] [6,7] false (.seq nO (.one (.loop ⟨[(9,(aD iT))],[],[iT]⟩ [0,1,5,6,7] [6,7] (sQ [.join ⟨[(74,aB)],[],[.bool]⟩ [0,1,5,6,7,9] [6,7] true nO (.cond nO nO),.one (.seq nO (.cond (.seq nO nO) nO)),nO])))) (.join ⟨[(151,aB)],[],[.bool]⟩ [0,1,5] [] true nO (.cond (.seq nO nO) nO)))]),nO]))),nO,nO]
theorem run:aK env Tryz.f5 an con:=fun x=>by kernel_rfl
theorem ok:au pP con:=ax (E:=env) run mixed Tryz.func5 (by kernel_rfl) (cons_cons aF.ok (ai))
end ao
namespace lQ
def con:Con:=⟨8,[.c (.v (.loc 1000000 0)),(aD iT)],[(1000000,.box 99 [.own 1000001,.mp 1000002]),(1000001,.arr 141 aw),(1000002,.fb .i64 false iT)],[],[iT,(.sl aw),(.sl (.pair aw iT))],.tup [.v (.loc 0 0),.v (.d iT)],[(0,.box 102 [.loc 1000000 0,.d iT,.own 1,.mp 2,.d .bool,.d iT,.d iT]),(1,.arr 9 .str),(2,.fa false iT)],[iT,iT,.bool,iT,iT,lsT,(.sl (.pair .str iT))],fun x=>lQ x.1 x.2.1 x.2.2⟩
def env:Env:=⟨pP,[(100,iT)],[],[],[1000000],[],[],[],[],[],[],[]⟩
def an:An:=sQ [nO,.join ⟨[(11,aB)],[],[.bool]⟩ [0,1] [1000000,1000001,1000002] true nO (.cond (.seq nO nO) nO),nO,nO]
theorem run:aK env Tryz.f8 an con:=fun x=>by kernel_rfl
theorem ok:au pP con:=ax (E:=env) run mixed Tryz.func8 (by kernel_rfl) (ai)
end lQ
namespace fC
def con:Con:=⟨11,[.c (.v (.loc 1000000 0)),aS],[],[(1000000,.box 102 [.loc 1000001 0,.d iT,.own 1000004,.mp 1000005,.d .bool,.d iT,.d iT]),(1000001,.box 99 [.own 1000002,.mp 1000003]),(1000002,.arr 141 aw),(1000003,.fb .i64 false iT),(1000004,.arr 9 .str),(1000005,.fa false iT)],[.str,iT,.bool,iT,iT,(.sl aw),(.sl (.pair aw iT)),lsT,(.sl (.pair .str iT))],.tup [.v (.d iT),.v (.d iT)],[(1000000,.box 102 [.loc 1000001 0,.d iT,.own 0,.mp 1000005,.d .bool,.d iT,.d iT]),(1000001,.box 99 [.own 1000002,.mp 1000003]),(0,.arr 9 .str),(1000002,.arr 141 aw),(1000003,.fb .i64 false iT),(1000004,.gone),(1000005,.fa false iT)],[iT,iT,iT,.bool,iT,iT,lsT,(.sl aw),(.sl (.pair aw iT)),(.sl (.pair .str iT))],fun x=>fC x.1 x.2.1 x.2.2.1 x.2.2.2.1 x.2.2.2.2.1 x.2.2.2.2.2.1 x.2.2.2.2.2.2.1 x.2.2.2.2.2.2.2.1 x.2.2.2.2.2.2.2.2⟩
def env:Env:=⟨pP,[(27,.str)],[er.con],[(13,0)],[],[],[],[58],[],[],[],[]⟩
def an:An:=sQ [nO,nO,.one (.seq nO (.cond (.seq nO nO) (.seq nO (.cond (.seq nO nO) (.seq nO (.cond (.seq nO nO) nO)))))),nO,sQ [nO,nO,.cond nO nO],nO,nO,nO]
theorem run:aK env Tryz.f11 an con:=fun x=>by kernel_rfl
theorem ok:au pP con:=ax (E:=env) run mixed Tryz.func11 (by kernel_rfl) (cons_cons er.ok (ai))
end fC
namespace jA
def con:Con:=⟨12,[.c (.v (.loc 1000000 0))],[(1000000,.box 102 [.loc 1000001 0,.d iT,.own 1000004,.mp 1000005,.d .bool,.d iT,.d iT]),(1000001,.box 99 [.own 1000002,.mp 1000003]),(1000002,.arr 141 aw),(1000003,.fb .i64 false iT),(1000004,.arr 9 .str),(1000005,.fa false iT)],[],[iT,.bool,iT,iT,(.sl aw),(.sl (.pair aw iT)),lsT,(.sl (.pair .str iT))],oI,[],[iT],fun x=>jA x.1 x.2.1 x.2.2.1 x.2.2.2.1 x.2.2.2.2.1 x.2.2.2.2.2.1 x.2.2.2.2.2.2.1 x.2.2.2.2.2.2.2⟩
def env:Env:=⟨pP,[],[],[],[],[],[],[],[],[],[],[]⟩
def an:An:=sQ [nO,nO,nO]
theorem run:aK env Tryz.f12 an con:=fun x=>by kernel_rfl
theorem ok:au pP con:=ax (E:=env) run mixed Tryz.func12 (by kernel_rfl) (ai)
end jA
namespace gU
def con:Con:=⟨47,[.c (.v (.loc 1000000 0)),.c (.a bu)],[],[(1000000,.box 102 [.loc 1000001 0,.d iT,.own 1000004,.mp 1000005,.d .bool,.d iT,.d iT]),(1000001,.box 99 [.own 1000002,.mp 1000003]),(1000002,.arr 141 aw),(1000003,.fb .i64 false iT),(1000004,.arr 9 .str),(1000005,.fa false iT)],[bu,iT,.bool,iT,iT,(.sl aw),(.sl (.pair aw iT)),lsT,(.sl (.pair .str iT))],.tup [.a aM,.v (.d iT)],[(1000000,.box 102 [.loc 1000001 0,.d iT,.own 1000004,.mp 1000005,.d .bool,.d iT,.d iT]),(1000001,.box 99 [.own 0,.mp 1000003]),(0,.arr 141 aw),(1000002,.gone),(1000003,.fb .i64 false iT),(1000004,.arr 9 .str),(1000005,.fa false iT)],[aM,iT,iT,.bool,iT,iT,(.sl aw),(.sl (.pair aw iT)),lsT,(.sl (.pair .str iT))],fun x=>gU x.1 x.2.1 x.2.2.1 x.2.2.2.1 x.2.2.2.2.1 x.2.2.2.2.2.1 x.2.2.2.2.2.2.1 x.2.2.2.2.2.2.2.1 x.2.2.2.2.2.2.2.2⟩
def env:Env:=⟨pP,[],[eG.con,di.con],[(15,0),(16,1)],[],[16,5000016],[],[],[],[9,13,14,4000077,4500003,5000057,9000102,13000102],[],[]⟩
def an:An:=sQ [nO,nO,nO]
theorem run:aK env Tryz.f47 an con:=fun x=>by kernel_rfl
theorem ok:au pP con:=ax (E:=env) run mixed Tryz.func47 (by kernel_rfl) (cons_cons eG.ok (cons_cons di.ok (ai)))
end gU
namespace cj
def con:Con:=⟨14,[.c (.v (.loc 1000000 0)),aS,(aD iT)],[],[(1000000,.box 102 [.loc 1000001 0,.d iT,.own 1000004,.mp 1000005,.d .bool,.d iT,.d iT]),(1000001,.box 99 [.own 1000002,.mp 1000003]),(1000002,.arr 141 aw),(1000003,.fb .i64 false iT),(1000004,.arr 9 .str),(1000005,.fa false iT)],[.str,iT,iT,.bool,iT,iT,(.sl aw),(.sl (.pair aw iT)),lsT,(.sl (.pair .str iT))],.tup [.a aM,.v (.d iT)],[(1000000,.box 102 [.loc 1000001 0,.d iT,.own 1000004,.mp 1000005,.d .bool,.d iT,.d iT]),(1000001,.box 99 [.own 0,.mp 1000003]),(0,.arr 141 aw),(1000002,.gone),(1000003,.fb .i64 false iT),(1000004,.arr 9 .str),(1000005,.fa false iT)],[aM,iT,iT,.bool,iT,iT,(.sl aw),(.sl (.pair aw iT)),lsT,(.sl (.pair .str iT))],fun x=>cj x.1 x.2.1 x.2.2.1 x.2.2.2.1 x.2.2.2.2.1 x.2.2.2.2.2.1 x.2.2.2.2.2.2.1 x.2.2.2.2.2.2.2.1 x.2.2.2.2.2.2.2.2.1 x.2.2.2.2.2.2.2.2.2⟩
def env:Env:=⟨pP,[],[gU.con],[(47,0)],[1000000],[47],[],[],[],[],[],[]⟩
def an:An:=sQ [nO,.join ⟨[(25,aB)],[],[.bool]⟩ [0,1,2,6] [6,1000000,1000001,1000002,1000003,1000004,1000005] true nO (.cond (.seq nO nO) nO),.seq nO (.join ⟨[(41,aB)],[],[.bool]⟩ [0,1,2,6] [6,1000000,1000001,1000002,1000003,1000004,1000005] true nO (.cond (.seq nO nO) nO)),nO,nO]
theorem run:aK env Tryz.f14 an con:=fun x=>by kernel_rfl
theorem ok:au pP con:=ax (E:=env) run mixed Tryz.func14 (by kernel_rfl) (cons_cons gU.ok (ai))
end cj
namespace gV
def con:Con:=⟨49,[.c (.a cO),.c (.v (.loc 1000000 0)),.c (.v (.loc 1000001 0))],[(1000000,.box 9 [.d .str]),(1000001,.box 24 [.d iT,.d iT,.d iT])],[],[cO,.str,iT,iT,iT],oB,[],[.bool],fun x=>gV x.1 x.2.1 x.2.2.1 x.2.2.2.1 x.2.2.2.2⟩
def env:Env:=⟨pP,[],[],[],[],[],[],[],[],[],[],[]⟩
def an:An:=sQ [nO,nO,nO]
theorem run:aK env Tryz.f49 an con:=fun x=>by kernel_rfl
theorem ok:au pP con:=ax (E:=env) run mixed Tryz.func49 (by kernel_rfl) (ai)
end gV
namespace bf
def con:Con:=⟨48,[aD (.sl cO),.c (.v (.fn 98 [1000000,1000001]))],[(1000000,.box 9 [.d .str]),(1000001,.box 24 [.d iT,.d iT,.d iT])],[],[(.sl cO),.str,iT,iT,iT],oI,[],[iT],fun x=>bf x.1 x.2.1 x.2.2.1 x.2.2.2.1 x.2.2.2.2⟩
def env:Env:=⟨pP,[],[gV.con],[(16,0)],[],[16],[],[],[],[],[],[]⟩
def an:An:=sQ [nO,.seq nO (.one (.loop ⟨[(8,(aD iT))],[],[iT]⟩ [0,1,7] [1000000,1000001] (sQ [nO,.cond nO nO,.one (sQ [nO,nO,.cond (.seq nO nO) nO]),nO]))),nO,nO]
theorem run:aK env Tryz.f48 an con:=fun x=>by kernel_rfl
theorem ok:au pP con:=ax (E:=env) run mixed Tryz.func48 (by kernel_rfl) (cons_cons gV.ok (ai))
end bf
namespace gB
def con:Con:=⟨15,[aD (.sl cO),aS,.c (.a cU)],[],[],[(.sl cO),.str,cU],.tup [.a iP,.v (.d iT),.v (.d .bool)],[],[iP,iT,.bool],fun x=>gB x.1 x.2.1 x.2.2⟩
def env:Env:=⟨pP,[],[bf.con],[(12,0)],[],[12],[],[],[],[],[],[]⟩
def an:An:=sQ [nO,nO,.seq nO (.cond (.seq nO nO) nO),nO,nO]
theorem run:aK env Tryz.f15 an con:=fun x=>by kernel_rfl
theorem ok:au pP con:=ax (E:=env) run mixed Tryz.func15 (by kernel_rfl) (cons_cons bf.ok (ai))
end gB
namespace fe
def con:Con:=⟨50,[aD (.sl cO),(aD iT),(aD iT),aS,.c (.a cU)],[],[],[(.sl cO),iT,iT,.str,cU],.tup [.a cO,.v (.d .bool)],[],[cO,.bool],fun x=>fe x.1 x.2.1 x.2.2.1 x.2.2.2.1 x.2.2.2.2⟩
def env:Env:=⟨pP,[],[],[],[1000000],[],[],[],[],[],[],[]⟩
def an:An:=sQ [nO,.seq nO (.one (.loop ⟨[(12,(aD iT))],[],[iT]⟩ [0,1,2,3,9,10] [9,10] (sQ [.seq nO (.cond nO nO),.one (.seq nO (.join ⟨[(46,aB)],[],[.bool]⟩ [0,1,2,3,9,10,12,13] [9,10,13] true nO (.cond (.seq nO nO) nO))),nO]))),nO,nO]
theorem run:aK env Tryz.f50 an con:=fun x=>by kernel_rfl
theorem ok:au pP con:=ax (E:=env) run mixed Tryz.func50 (by kernel_rfl) (ai)
end fe
namespace jO
def con:Con:=⟨16,[aD (.sl cO),aS,.c (.a cU)],[],[],[(.sl cO),.str,cU],oB,[],[.bool],fun x=>jO x.1 x.2.1 x.2.2⟩
def env:Env:=⟨pP,[],[fe.con],[(13,0)],[],[],[],[],[],[],[],[]⟩
def an:An:=sQ [nO,nO,nO,nO]
theorem run:aK env Tryz.f16 an con:=fun x=>by kernel_rfl
theorem ok:au pP con:=ax (E:=env) run mixed Tryz.func16 (by kernel_rfl) (cons_cons fe.ok (ai))
end jO
namespace lr
def con:Con:=⟨102,[.c (.a bH),.c (.a cU)],[],[],[bH,cU],oB,[],[.bool],fun x=>lr x.1 x.2⟩
def env:Env:=⟨pP,[],[cw.con],[(8,0),(14,0)],[],[],[],[],[],[],[],[]⟩
def an:An:=sQ [nO,nO,nO]
theorem run:aK env Tryz.f102 an con:=fun x=>by kernel_rfl
theorem ok:au pP con:=ax (E:=env) run mixed Tryz.func102 (by kernel_rfl) (cons_cons cw.ok (ai))
end lr
namespace jB
def con:Con:=⟨101,[.c (.a bH),.c (.v (.loc 1000000 0))],[(1000000,.box 24 [.d iT,.d iT,.d iT])],[],[bH,iT,iT,iT],oB,[],[.bool],fun x=>jB x.1 x.2.1 x.2.2.1 x.2.2.2⟩
def env:Env:=⟨pP,[],[lr.con],[(6,0)],[],[],[],[],[],[],[],[]⟩
def an:An:=sQ [nO,nO,nO]
theorem run:aK env Tryz.f101 an con:=fun x=>by kernel_rfl
theorem ok:au pP con:=ax (E:=env) run mixed Tryz.func101 (by kernel_rfl) (cons_cons lr.ok (ai))
end jB
namespace bF
def con:Con:=⟨143,[aD (.sl bH),.c (.v (.fn 202 [1000000]))],[(1000000,.box 24 [.d iT,.d iT,.d iT])],[],[(.sl bH),iT,iT,iT],oI,[],[iT],fun x=>bF x.1 x.2.1 x.2.2.1 x.2.2.2⟩
def env:Env:=⟨pP,[],[jB.con],[(16,0)],[],[16],[],[],[],[],[],[]⟩
def an:An:=sQ [nO,.seq nO (.one (.loop ⟨[(8,(aD iT))],[],[iT]⟩ [0,1,7] [1000000] (sQ [nO,.cond nO nO,.one (sQ [nO,nO,.cond (.seq nO nO) nO]),nO]))),nO,nO]
theorem run:aK env Tryz.f143 an con:=fun x=>by kernel_rfl
theorem ok:au pP con:=ax (E:=env) run mixed Tryz.func143 (by kernel_rfl) (cons_cons jB.ok (ai))
end bF
namespace cz
def con:Con:=⟨100,[aD (.sl bH),.c (.v (.fn 202 [1000000]))],[(1000000,.box 24 [.d iT,.d iT,.d iT])],[],[(.sl bH),iT,iT,iT],oB,[],[.bool],fun x=>cz x.1 x.2.1 x.2.2.1 x.2.2.2⟩
def env:Env:=⟨pP,[],[bF.con],[(7,0)],[],[7],[],[],[],[],[],[]⟩
def an:An:=sQ [nO,nO,nO]
theorem run:aK env Tryz.f100 an con:=fun x=>by kernel_rfl
theorem ok:au pP con:=ax (E:=env) run mixed Tryz.func100 (by kernel_rfl) (cons_cons bF.ok (ai))
end cz
namespace kC
def con:Con:=⟨51,[aD (.sl bH),.c (.a cU)],[],[],[(.sl bH),cU],oB,[],[.bool],fun x=>kC x.1 x.2⟩
def env:Env:=⟨pP,[],[cz.con],[(7,0)],[],[7],[],[],[],[],[],[]⟩
def an:An:=sQ [nO,nO,nO]
theorem run:aK env Tryz.f51 an con:=fun x=>by kernel_rfl
theorem ok:au pP con:=ax (E:=env) run mixed Tryz.func51 (by kernel_rfl) (cons_cons cz.ok (ai))
end kC
namespace dL
def con:Con:=⟨17,[aD (.sl cO),aS,.c (.a cU)],[],[],[(.sl cO),.str,cU],.one (.v (.d liT)),[],[liT],fun x=>dL x.1 x.2.1 x.2.2⟩
def env:Env:=⟨pP,[(36,iT)],[kC.con],[(32,0)],[1000000],[],[],[36],[],[],[],[]⟩
def an:An:=sQ [nO,nO,.seq nO (.one (.loop ⟨[(7,.c (.v (.own 499002))),(12,(aD iT))],[(499002,.arr 3 iT)],[iT,liT]⟩ [1,5,10,11] [5] (sQ [nO,.cond nO nO,.one (.seq nO (.join ⟨[(33,aB)],[],[.bool]⟩ [1,5,7,8,10,11,12] [5,499002] true nO (.cond nO nO))),nO]))),nO,nO]
theorem run:aK env Tryz.f17 an con:=fun x=>by kernel_rfl
theorem ok:au pP con:=ax (E:=env) run mixed Tryz.func17 (by kernel_rfl) (cons_cons kC.ok (ai))
end dL
namespace je
def con:Con:=⟨18,[aD (.sl cO),aS,.c (.a cU)],[],[],[(.sl cO),.str,cU],.tup [.v (.d iT),.v (.d .bool)],[],[iT,.bool],fun x=>je x.1 x.2.1 x.2.2⟩
def env:Env:=⟨pP,[],[fe.con],[(14,0)],[],[],[],[],[],[],[],[]⟩
def an:An:=sQ [nO,nO,nO,nO]
theorem run:aK env Tryz.f18 an con:=fun x=>by kernel_rfl
theorem ok:au pP con:=ax (E:=env) run mixed Tryz.func18 (by kernel_rfl) (cons_cons fe.ok (ai))
end je
namespace lu
def con:Con:=⟨54,[.c (.a cO),aS],[],[],[cO,.str],oB,[],[.bool],fun x=>lu x.1 x.2⟩
def env:Env:=⟨pP,[],[],[],[],[],[],[],[],[],[],[]⟩
def an:An:=sQ [nO,nO,nO]
theorem run:aK env Tryz.f54 an con:=fun x=>by kernel_rfl
theorem ok:au pP con:=ax (E:=env) run mixed Tryz.func54 (by kernel_rfl) (ai)
end lu
namespace jf
def con:Con:=⟨53,[.c (.a cO),.c (.v (.loc 1000000 0))],[(1000000,.box 9 [.d .str])],[],[cO,.str],oB,[],[.bool],fun x=>jf x.1 x.2⟩
def env:Env:=⟨pP,[],[lu.con],[(6,0)],[],[],[],[],[],[],[],[]⟩
def an:An:=sQ [nO,nO,nO]
theorem run:aK env Tryz.f53 an con:=fun x=>by kernel_rfl
theorem ok:au pP con:=ax (E:=env) run mixed Tryz.func53 (by kernel_rfl) (cons_cons lu.ok (ai))
end jf
namespace iM
def con:Con:=⟨52,[aD (.sl cO),.c (.v (.fn 106 [1000000]))],[(1000000,.box 9 [.d .str])],[],[(.sl cO),.str],oI,[],[iT],fun x=>iM x.1 x.2⟩
def env:Env:=⟨pP,[],[jf.con],[(18,0)],[],[18],[],[],[],[],[],[]⟩
def an:An:=sQ [nO,.seq nO (.one (.loop ⟨[(5,(aD iT))],[],[iT]⟩ [0,1] [1000000] (sQ [.seq nO (.cond nO nO),.one (.seq nO (.cond (.seq nO nO) nO)),nO]))),nO,nO]
theorem run:aK env Tryz.f52 an con:=fun x=>by kernel_rfl
theorem ok:au pP con:=ax (E:=env) run mixed Tryz.func52 (by kernel_rfl) (cons_cons jf.ok (ai))
end iM
namespace fD
def con:Con:=⟨55,[(aD liT)],[],[],[liT],.one (.v (.d liT)),[],[liT],fun x=>fD x⟩
def env:Env:=⟨pP,[(36,iT)],[],[],[],[],[],[],[],[],[],[]⟩
def an:An:=sQ [nO,.seq nO (.cond (.seq nO nO) nO),nO,nO]
theorem run:aK env Tryz.f55 an con:=fun x=>by kernel_rfl
theorem ok:au pP con:=ax (E:=env) run mixed Tryz.func55 (by kernel_rfl) (ai)
end fD
namespace jP
def con:Con:=⟨19,[aD (.sl cO),aS],[],[],[(.sl cO),.str],.tup [.v (.d liT),.v (.d iT),.v (.d .bool)],[],[liT,iT,.bool],fun x=>jP x.1 x.2⟩
def env:Env:=⟨pP,[],[iM.con,fD.con],[(10,0),(18,1)],[],[10],[],[],[15,17,21,23],[],[],[]⟩
def an:An:=sQ [nO,nO,.seq nO (.cond (.seq nO nO) nO),nO,nO]
theorem run:aK env Tryz.f19 an con:=fun x=>by kernel_rfl
theorem ok:au pP con:=ax (E:=env) run mixed Tryz.func19 (by kernel_rfl) (cons_cons iM.ok (cons_cons fD.ok (ai)))
end jP
namespace ef
def con:Con:=⟨22,[.c (.a cO)],[],[],[cO],oI,[],[iT],fun x=>ef x⟩
def env:Env:=⟨pP,[],[dj.con],[(7,0)],[],[],[],[],[],[],[],[]⟩
def an:An:=sQ [nO,nO,.seq nO (.cond (.seq nO nO) nO),nO,nO]
theorem run:aK env Tryz.f22 an con:=fun x=>by kernel_rfl
theorem ok:au pP con:=ax (E:=env) run mixed Tryz.func22 (by kernel_rfl) (cons_cons dj.ok (ai))
end ef
namespace eh
def con:Con:=⟨23,[.c (.a cO)],[],[],[cO],oI,[],[iT],fun x=>eh x⟩
def env:Env:=⟨pP,[],[dj.con],[(7,0)],[],[],[],[],[],[],[],[]⟩
def an:An:=sQ [nO,nO,.seq nO (.cond (.seq nO nO) nO),nO,nO]
theorem run:aK env Tryz.f23 an con:=fun x=>by kernel_rfl
theorem ok:au pP con:=ax (E:=env) run mixed Tryz.func23 (by kernel_rfl) (cons_cons dj.ok (ai))
end eh
namespace ak
def con:Con:=⟨3,[aD (.sl cO),.c (.a cO),(aD iT)],[],[],[(.sl cO),cO,iT],oB,[],[.bool],fun x=>ak x.1 x.2.1 x.2.2⟩
def env:Env:=⟨pP,[(22,cO)],[eS.con,ao.con,bV.con,kT.con,lQ.con,jq.con,dj.con,fC.con,jA.con,gh.con,cj.con,gB.con,jO.con,dL.con,je.con,jP.con,br.con,cD.con,ef.con,eh.con],[(32,0),(34,1),(39,1),(44,2),(52,3),(57,4),(61,5),(83,6),(90,7),(99,8),(119,9),(121,9),(127,9),(129,10),(171,11),(183,12),(192,13),(201,14),(159,15),(208,16),(219,17),(220,16),(222,18),(235,17),(236,16),(238,19)],[19,28,39,54,1000000],[57,61,90,99,129,208,219,220,235,236,6000208,6000219,6000220,6000235,6000236,20000208,20000219,20000220],[],[38,96],[117,118],[120,207,218,221,234,237,5500004,19500018],[],[]⟩
def an:An:=sQ [nO,nO,.join ⟨[(50,aB)],[],[.bool]⟩ [0,2,4,7] [4] true nO (.cond (.seq nO nO) nO),nO,.seq nO (.cond (.seq nO nO) nO),nO,nO,.join ⟨[(71,aB)],[],[.bool]⟩ [0,2,4,7,8,9,11] [4,52,57,61,10052,10057,10061,20052,20057,20061,30061,40061] true nO (.cond (.seq nO nO) nO),nO,.join ⟨[(8,.c (.v (.loc 499036 0))),(9,.c (.v (.loc 499037 0))),(11,.c (.v (.loc 499038 0))),(12,aD (.sl cO))],[(499036,.box 99 [.own 499039,.mp 499040]),(499037,.box 102 [.loc 499036 0,.d iT,.own 499041,.mp 499042,.d .bool,.d iT,.d iT]),(499038,.box 106 [.loc 499036 0,.d iT,.own 499043,.own 499044,.mp 499045,.mp 499046,.d iT,.d iT]),(499039,.arr 141 aw),(499040,.fb .i64 false iT),(499041,.arr 9 .str),(499042,.fa false iT),(499043,.arr 57 aM),(499044,.arr 77 bu),(499045,.fO .i64 false .str),(499046,.fa false iT)],[(.sl cO),iT,.bool,iT,iT,iT,iT,iT,(.sl aw),(.sl (.pair aw iT)),lsT,(.sl (.pair .str iT)),(.sl aM),(.sl bu),(.sl aw),(.sl (.pair .str iT))]⟩ [2,4,7] [4] true (.seq nO (.one (.loop ⟨[(8,.c (.v (.loc 499070 0))),(9,.c (.v (.loc 499071 0))),(11,.c (.v (.loc 499072 0))),(12,.c (.v (.own 499073))),(13,(aD iT))],[(499070,.box 99 [.own 499074,.mp 499075]),(499071,.box 102 [.loc 499070 0,.d iT,.own 499076,.mp 499077,.d .bool,.d iT,.d iT]),(499072,.box 106 [.loc 499070 0,.d iT,.own 499078,.own 499079,.mp 499080,.mp 499081,.d iT,.d iT]),(499073,.arr 38 cO),(499074,.arr 141 aw),(499075,.fb .i64 false iT),(499076,.arr 9 .str),(499077,.fa false iT),(499078,.arr 57 aM),(499079,.arr 77 bu),(499080,.fO .i64 false .str),(499081,.fa false iT)],[iT,iT,.bool,iT,iT,iT,iT,iT,(.sl cO),(.sl aw),(.sl (.pair aw iT)),lsT,(.sl (.pair .str iT)),(.sl aM),(.sl bu),(.sl aw),(.sl (.pair .str iT))]⟩ [0,2,4,7] [4] (sQ [.seq nO (.cond nO nO),.one (sQ [nO,nO,.cond (.seq nO nO) nO]),nO])))) (sQ [.seq nO (.cond (.seq nO nO) nO),.seq nO (.cond (.seq nO nO) nO),nO,.join ⟨[(16,aB)],[],[.bool]⟩ [2,4,7,8,9,11,12] [4,499036,499037,499038,499039,499040,499041,499042,499043,499044,499045,499046] true (.seq nO (.one (.loop ⟨[(16,aB),(17,(aD iT))],[],[.bool,iT]⟩ [2,4,7,8,9,11,12] [4,499036,499037,499038,499039,499040,499041,499042,499043,499044,499045,499046] (sQ [.seq nO (.cond nO nO),.one nO,nO])))) (sQ [nO,.seq nO (.cond (.seq nO nO) nO),.seq nO (.cond (.seq nO nO) nO),nO,nO,nO,.join ⟨[(21,aS),(22,.c (.v (.loc 499082 0)))],[(499082,.box 24 [.d iT,.d iT,.d iT])],[.str,iT,iT,iT]⟩ [2,4,7,8,11,18,20] [4,18,129,499036,499038,499040,499043,499044,499045,499046] true (.seq nO (.cond (.seq nO nO) nO)) (.seq nO (.join ⟨[(23,aB)],[],[.bool]⟩ [2,4,7,8,11,18] [4,18,129,499036,499038,499040,499043,499044,499045,499046] true (.seq nO (.one (.seq nO (.cond (.seq nO nO) (.join ⟨[(177,aB)],[],[.bool]⟩ [2,4,7,8,11,18,20,21,22,155] [4,18,129,499036,499038,499040,499043,499044,499045,499046,499082] true (.seq nO (.cond nO nO)) (.cond nO (.seq nO (.cond nO (.seq nO (.cond (.seq nO nO) (.seq nO nO))))))))))) (sQ [.join ⟨[(8,.c (.v (.loc 499083 0))),(11,.c (.v (.loc 499084 0))),(225,aB)],[(499083,.box 99 [.own 499085,.mp 499086]),(499084,.box 106 [.loc 499083 0,.d iT,.own 499087,.own 499088,.mp 499089,.mp 499090,.d iT,.d iT]),(499085,.arr 141 aw),(499086,.fb .i64 false iT),(499087,.arr 57 aM),(499088,.arr 77 bu),(499089,.fO .i64 false .str),(499090,.fa false iT)],[.bool,iT,iT,iT,(.sl aw),(.sl (.pair aw iT)),(.sl aM),(.sl bu),(.sl aw),(.sl (.pair .str iT))]⟩ [2,4,7,23] [4] true nO (.cond (.seq nO nO) nO),nO,nO])))])])]
theorem run:aK env Tryz.f3 an con:=fun x=>by kernel_rfl
theorem ok:au pP con:=ax (E:=env) run mixed Tryz.func3 (by kernel_rfl) (cons_cons eS.ok (cons_cons ao.ok (cons_cons bV.ok (cons_cons kT.ok (cons_cons lQ.ok (cons_cons jq.ok (cons_cons dj.ok (cons_cons fC.ok (cons_cons jA.ok (cons_cons gh.ok (cons_cons cj.ok (cons_cons gB.ok (cons_cons jO.ok (cons_cons dL.ok (cons_cons je.ok (cons_cons jP.ok (cons_cons br.ok (cons_cons cD.ok (cons_cons ef.ok (cons_cons eh.ok (ai)))))))))))))))))))))
end ak
end
end Go.Proofs.YtkpefpjpadahiaaGreatDoor
