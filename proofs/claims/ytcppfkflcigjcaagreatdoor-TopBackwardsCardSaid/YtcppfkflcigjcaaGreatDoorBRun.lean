import Derived.Test.YtcppfkflcigjcaaGreatDoorBModel
import Derived.Test.YtcppfkflcigjcaaGreatDoorFJ
import Derived.Test.YtcppfkflcigjcaaGreatDoorLB
import Derived.Test.YtcppfkflcigjcaaGreatDoorLs
namespace Go.Proofs.YtcppfkflcigjcaaGreatDoor
open Go.Lad
set_option linter.unusedVariables false
set_option linter.unusedSectionVars false
set_option maxRecDepth 100000
noncomputable section
noncomputable abbrev pP:Program:=Tryz.prog
theorem mixed:pP.follows .mixedOrders=true:=by kernel_rfl
abbrev iT:Ty := .int .i64
abbrev liT:Ty := .sl iT
abbrev kA:Ty := .sl liT
abbrev lbT:Ty := .sl .bool
abbrev lsT:Ty := .sl .str
abbrev aD (t:Ty):SSh := .c (.v (.d t))
def vM:Ty:=(.pair iT (.slu 0))
def bJ:Ty:=(.pair .str vM)
def dP:Ty:=(.pair .str (.pair liT (.pair vM vM)))
def jC:Ty:=(.pair (.sl dP) (.pair (.sl dP) liT))
def lA:Ty:=(.pair liT iT)
def eD:Ty:=(.pair iT (.pair iT iT))
def bX:Ty:=(.pair eD eD)
def gR:Ty:=(.pair .str lsT)
def cX:Ty:=(.pair .str (.pair (.sl bX) (.pair iT gR)))
def oP:Ty:=(.pair .str (.pair eD (.pair .str (.pair (.sl cX) (.pair (.sl gR) (.pair lsT .str))))))
def iG:Ty:=(.pair iT (.pair iT (.pair .str (.pair .str (.pair lsT (.slu 1))))))
def Ml:Ty:=(.pair iT (.pair .str (.pair (.sl bX) (.pair .str iG))))
def bm:Ty:=(.pair iT (.pair .str (.pair eD (.pair oP (.pair Ml (.pair liT (.pair iT eD)))))))
def pI:Ty:=(.pair (.sl cX) (.pair .str (.pair iT (.pair lsT .bool))))
def e6:Ty:=(.pair .str (.pair eD lsT))
def nB:Ty:=(.pair pI (.pair iT (.sl e6)))
def Ri:Ty:=(.pair (.int .i32) (.int .u32))
def jo:Ty:=(.pair iT (.pair .str (.slu 2)))
def aH:Ty:=(.pair .str (.pair eD .str))
def ao:Ty:=(.pair liT eD)
def dm:Ty:=(.pair iT (.pair .str (.pair iT iT)))
def Q6:Ty:=(.pair (.sl dm) iT)
def Ef:Ty:=(.pair (.slu 0) (.pair (.slu 1) (.slu 1)))
def tG:Ty:=(.pair .str (.pair .bool (.pair (.slu 0) (.pair vM (.pair iT iG)))))
def yZ:Ty:=(.pair .str (.pair lsT (.pair (.slu 0) (.pair (.slu 1) (.pair (.sl tG) (.pair .bool Ef))))))
def y6:Ty:=(.pair .str (.pair (.sl vM) (.pair vM iT)))
def Mm:Ty:=(.pair .str (.sl y6))
def vN:Ty:=(.pair liT (.pair kA (.sl lbT)))
def lP:Ty:=(.pair iT (.pair iT (.pair lsT (.slu 3))))
def y7:Ty:=(.pair .str .bool)
abbrev aB:SSh := .c (.v (.d .bool))
abbrev aS:SSh := .c (.v (.d .str))
abbrev aI:SSh:=aD iT
abbrev aJ:SSh:=aD liT
abbrev sO (o:Nat):SSh := .c (.v (.own o))
abbrev sL (o i:Nat):SSh := .c (.v (.loc o i))
abbrev sF (f:Nat) (l:List Nat):SSh := .c (.v (.fn f l))
abbrev sA (t:Ty):SSh := .c (.a t)
def dSh:Ty->SSh
 | .pair a b=>.c (.a (.pair a b))
 | t=>.c (.v (.d t))
def dRe:Ty->CSh
 | .pair a b=>.a (.pair a b)
 | t=>.v (.d t)
def dS (l:List (Nat×Ty)):Shp:=⟨l.map fun x=>(x.1,dSh x.2),[],l.map (·.2)⟩
noncomputable def cA (n:Nat) (ps:List Ty) (q:Ty) (f:Tup ps->Option (Tup [q])):Con:=⟨n,ps.map dSh,[],[],ps,.one (dRe q),[],[q],f⟩
noncomputable def cT (n:Nat) (ps qs:List Ty) (f:Tup ps->Option (Tup qs)):Con:=⟨n,ps.map dSh,[],[],ps,.tup (qs.map dRe),[],qs,f⟩
inductive J where
 | j (i:Nat) (σ:Shp) (kt kh:List Nat) (p:Bool)
 | l (i:Nat) (σ:Shp) (kt kh:List Nat)
abbrev jd (i:Nat) (l:List (Nat×Ty)) (kt kh:List Nat):J := .j i (dS l) kt kh true
abbrev ld (i:Nat) (l:List (Nat×Ty)) (kt kh:List Nat):J := .l i (dS l) kt kh
def mA:Code->Nat->List J->An×Nat×List J
 | .seq a b,n,l=>match (match l with | .j i σ kt kh p::r=>cond (Nat.beq i n) (An.join σ kt kh p,r) (An.seq,l) | _=>(An.seq,l)) with
  | (c,l)=>match mA a (n+1) l with
   | (x,m,l)=>match mA b m l with
    | (y,m,l)=>(c x y,m,l)
 | .cond _ a b,n,l=>match mA a n l with
  | (x,m,l)=>match mA b m l with
   | (y,m,l)=>(.cond x y,m,l)
 | .block _ a,n,l=>match mA a n l with
  | (x,s)=>(.one x,s)
 | .scope a,n,l=>match mA a n l with
  | (x,s)=>(.one x,s)
 | .loop a,n,l=>match l with
  | .l i σ kt kh::r=>cond (Nat.beq i n) (match mA a (n+1) r with | (x,s)=>(.loop σ kt kh x,s)) (match mA a (n+1) l with | (x,s)=>(.no,s))
  | l=>match mA a (n+1) l with | (x,s)=>(.no,s)
 | .rangeFunc _ _ a b,n,l=>match l with
  | .l i σ kt kh::r=>match mA a (n+1) r with
   | (x,m,l)=>match mA b m l with
    | (y,m,l)=>(.range σ kt kh x y,m,l)
  | l=>(.no,n,l)
 | _,n,l=>(.no,n,l)
def mB (f:Func) (l:List J):An:=match f.body with
 | some c=>(mA c 0 l).1
 | none=>.no
variable [Fuel]
abbrev Kn:Type:={ c:Con // de pP c }
theorem Q7:∀ (l:List Kn),∀ k∈l.map (·.1),de pP k
 | [],_,h=>nomatch h
 | x::r,k,h=>by
  rcases List.mem_cons.mp h with rfl | h
  ·exact x.2
  ·exact Q7 r k h
noncomputable abbrev mE (H:List (Nat×Ty)) (l:List Kn) (sel:List (Nat×Nat)) (js hs fz zs ns bs:List Nat) (its:List Iter):Env:=⟨pP,H,l.map (·.1),sel,js,hs,fz,zs,ns,bs,its,[]⟩
noncomputable def mK (c:Con) (l:List Kn) (sel:List (Nat×Nat)) {f:Func} (hf:pP.funcs[c.f]?=some f) (a:List J) (js:List Nat:=[]) (H:List (Nat×Ty):=[]) (hs fz zs ns bs:List Nat:=[]) (its:List Iter:=[])
  (hr:OZ (mE H l sel js hs fz zs ns bs its) f (mB f a) c:=by intro x; kernel_rfl) (hk:uB (mE H l sel js hs fz zs ns bs its) c f (mB f a)=true:=by kernel_rfl) (hIt:∀ it∈its,qS pP it:=by exact Hh):Kn :=
 ⟨c,Qc (E:=mE H l sel js hs fz zs ns bs its) hr mixed hf hk (Q7 l) hIt⟩
def fi.k:Kn:=mK (cA 8 [.str,iT,(.sl cX)] bm (u3 fi)) [] [] Tryz.func8 []
def hU.k:Kn:=mK (cA 9 [.str,iT,iT] (.sl cX) (u3 hU)) [] [] Tryz.func9 [] (H:=[(38,cX),(43,bX)]) (zs:=[13,15])
noncomputable def strings_Split.k:Kn:=⟨yC 196,FP⟩
def dv.k:Kn:=mK (cA 124 [.str] .bool dv) [strings_Split.k] [(11,0)] Tryz.func124 [ld 6 [(13,iT)] [11,12] [],jd 12 [(33,.bool)] [4,11,12,13] [],ld 15 [(37,iT)] [11,12,13,35,36] [],jd 20 [(54,.bool)] [11,12,13,35,36,37] []] (js:=[1000000])
def e7.k:Kn:=mK (cA 67 [eD] .bool e7) [] [] Tryz.func67 []
def eT.k:Kn:=mK ⟨65,[aD (.sl bX)],[],[],[(.sl bX)],.one (.v (.own 0)),[(0,.arr 80 bX)],[(.sl bX)],eT⟩ [] [] Tryz.func65 [] (H:=[(43,bX)])
def cmp_isNaN_int.k:Kn:=mK (cA 195 [iT] .bool cmp_isNaN_int) [] [] Tryz.func195 []
def cmp_Compare_int.k:Kn:=mK (cA 122 [iT,iT] iT (u2 cmp_Compare_int)) [cmp_isNaN_int.k] [(8,0),(10,0)] Tryz.func122 []
def kT.k:Kn:=mK (cA 58 [liT] iT kT) [] [] Tryz.func58 [ld 4 [(8,iT)] [3,6,7] []]
def dZ.k:Kn:=mK (cA 60 [eD,eD] iT (u2 dZ)) [cmp_Compare_int.k,kT.k] [(9,0),(14,0),(19,0),(21,1)] Tryz.func60 [] (H:=[(23,iT)]) (zs:=[20]) (bs:=[6,8,11,13,16,18])
def jM.k:Kn:=mK (cA 242 [bX] .bool jM) [dZ.k] [(7,0)] Tryz.func242 []
def cr.k:Kn:=mK ⟨206,[sO 1000000,sF 484 []],[(1000000,.arr 80 bX)],[],[(.sl bX)],.one (.v (.d iT)),[],[iT],cr⟩ [jM.k] [(16,0)] Tryz.func206 [ld 3 [(8,iT)] [0,1,7] [1000000]]
def cd.k:Kn:=mK ⟨241,[sO 1000000,sF 484 []],[],[(1000000,.arr 80 bX)],[(.sl bX)],.one (.v (.own 0)),[(0,.arr 80 bX),(1000000,.gone)],[(.sl bX)],cd⟩ [cr.k,jM.k] [(10,0),(28,1)] Tryz.func241 [.l 7 ⟨[(0,sO 1000000),(5,aI),(6,aI)],[(1000000,.arr 80 bX)],[iT,iT,(.sl bX)]⟩ [1] []] (hs:=[10]) (zs:=[41])
noncomputable def bits_Len.k:Kn:=⟨yG 97,D9⟩
def bz.k:Kn:=mK ⟨323,[sO 1000000,aI,aI,sF 488 []],[(1000000,.arr 80 bX)],[],[iT,iT,(.sl bX)],.tup [],[],[],(u3 bz)⟩ [] [] Tryz.func323 [ld 1 [(8,iT)] [0,1,2,3] [1000000],ld 6 [(9,iT)] [0,1,2,3,8] [1000000]]
def cY.k:Kn:=mK ⟨280,[sO 1000000,aI,aI,aI,sF 488 []],[(1000000,.arr 80 bX)],[],[iT,iT,iT,(.sl bX)],.tup [],[],[],(u4 cY)⟩ [bz.k] [(30,0)] Tryz.func280 [ld 2 [(1,iT),(2,iT),(3,iT),(10,.bool),(11,.bool)] [0,4] [1000000]] (hs:=[30])
def eo.k:Kn:=mK ⟨243,[sO 1000000,sF 488 []],[(1000000,.arr 80 bX)],[],[(.sl bX)],.tup [],[],[],eo⟩ [bits_Len.k,cY.k] [(11,0),(13,1)] Tryz.func243 [] (hs:=[13])
def iY.k:Kn:=mK (cA 198 [(.sl bX)] (.sl bX) iY) [eT.k,cd.k,eo.k,dZ.k] [(9,0),(10,1),(12,2),(32,3),(42,3)] Tryz.func198 [.l 6 ⟨[(4,sO 499002),(15,aI)],[(499002,.arr 80 bX)],[iT,(.sl bX)]⟩ [13,14] [10],jd 13 [(34,.bool)] [4,6,7,13,14,15] [6,10,499002]] (js:=[1000000]) (H:=[(43,bX)]) (hs:=[10,12]) (zs:=[52]) (bs:=[26,41])
def bn.k:Kn:=mK (cA 197 [(.sl bX),(.sl bX)] .bool (u2 bn)) [] [] Tryz.func197 [ld 6 [(13,iT)] [0,1,12] []] (ns:=[18,19,22,23])
def il.k:Kn:=mK (cA 125 [(.sl bX)] .bool il) [e7.k,iY.k,bn.k] [(13,0),(18,0),(27,1),(29,2)] Tryz.func125 [.j 1 (dS []) [0] [] false,ld 3 [(7,iT)] [0,5,6] [],jd 8 [(20,.bool)] [0,5,6,7] []] (js:=[7,1000000])
def bA.k:Kn:=mK (cA 164 [lsT,.str] iT (u2 bA)) [] [] Tryz.func164 [ld 3 [(8,iT)] [0,1,7] []]
def aZ.k:Kn:=mK (cA 102 [lsT,.str] .bool (u2 aZ)) [bA.k] [(7,0)] Tryz.func102 []
def iQ.k:Kn:=mK (cA 126 [lsT] .bool iQ) [dv.k] [(13,0)] Tryz.func126 [ld 3 [(7,iT)] [0,5,6] [],jd 8 [(27,.bool)] [0,5,6,7] []] (js:=[1000000])
def eG.k:Kn:=mK (cA 69 [cX,lsT] .bool (u2 eG)) [dv.k,il.k,aZ.k,iQ.k] [(8,0),(12,1),(28,2),(33,3)] Tryz.func69 [jd 2 [(5,.bool)] [1,2] [2],jd 7 [(20,.bool)] [2] [2]] (js:=[1000000])
def lN.k:Kn:=mK (cA 128 [cX] .bool lN) [eG.k] [(4,0)] Tryz.func128 []
def cy.k:Kn:=mK ⟨199,[aD (.sl cX),sF 256 []],[],[],[(.sl cX)],.one (.v (.d iT)),[],[iT],cy⟩ [lN.k] [(16,0)] Tryz.func199 [ld 3 [(8,iT)] [0,1,7] []]
def dG.k:Kn:=mK ⟨127,[aD (.sl cX),sF 256 []],[],[],[(.sl cX)],.one (.v (.d .bool)),[],[.bool],dG⟩ [cy.k] [(7,0)] Tryz.func127 []
def nH.k:Kn:=mK (cA 70 [pI] .bool nH) [dG.k] [(6,0)] Tryz.func70 []
def c9.k:Kn:=mK ⟨163,[(aD lsT),sF 400 [1000000]],[(1000000,.box 40 [.own 1000001]),(1000001,.arr 9 .str)],[],[lsT,lsT],.one (.v (.d iT)),[],[iT],(u2 c9)⟩ [] [] Tryz.func163 [ld 3 [(8,iT)] [0,1,7] [1000000,1000001]]
def eH.k:Kn:=mK ⟨100,[(aD lsT),sF 400 [1000000]],[(1000000,.box 40 [.own 1000001]),(1000001,.arr 9 .str)],[],[lsT,lsT],.one (.v (.d .bool)),[],[.bool],(u2 eH)⟩ [c9.k] [(7,0)] Tryz.func100 [] (hs:=[7])
def mw.k:Kn:=mK ⟨201,[sA cX,sL 1000000 0],[(1000000,.box 40 [.own 1000001]),(1000001,.arr 9 .str)],[],[cX,lsT],.one (.v (.d .bool)),[],[.bool],(u2 mw)⟩ [eG.k] [(6,0)] Tryz.func201 []
def cf.k:Kn:=mK ⟨199,[aD (.sl cX),sF 402 [1000000]],[(1000000,.box 40 [.own 1000001]),(1000001,.arr 9 .str)],[],[(.sl cX),lsT],.one (.v (.d iT)),[],[iT],(u2 cf)⟩ [mw.k] [(16,0)] Tryz.func199 [ld 3 [(8,iT)] [0,1,7] [1000000,1000001]] (hs:=[16])
def di.k:Kn:=mK ⟨127,[aD (.sl cX),sF 402 [1000000]],[(1000000,.box 40 [.own 1000001]),(1000001,.arr 9 .str)],[],[(.sl cX),lsT],.one (.v (.d .bool)),[],[.bool],(u2 di)⟩ [cf.k] [(7,0)] Tryz.func127 [] (hs:=[7])
def jy.k:Kn:=mK ⟨210,[(aD lsT)],[],[],[lsT],.one (.v (.loc 0 0)),[(0,.box 381 [.d (.int .u32),.d (.int .i32),.d (.int .u32),.ni,.own 1]),(1,.arr 9 .str)],[(.int .u32),(.int .i32),(.int .u32),lsT],jy⟩ [] [] Tryz.func210 [] (H:=[(40,.str)])
noncomputable def jt.k:Kn:=⟨GV 211 381,Md⟩
def cV.k:Kn:=mK ⟨308,[sL 1000000 0,aS],[],[(1000000,.box 313 [.d lsT])],[.str,lsT],.one (.v (.d .bool)),[(1000000,.box 313 [.d lsT])],[.bool,lsT],(u2 cV)⟩ [] [] Tryz.func308 [jd 2 [(20,.bool)] [0] [1000000]] (js:=[1000000])
noncomputable def qV.k:Kn:=⟨GS 357,Me⟩
noncomputable def kU.k:Kn:=⟨DF 358 359,IV⟩
def im.k:Kn:=mK (cA 310 [.str] .bool im) [qV.k,kU.k] [(29,0),(33,1)] Tryz.func310 [jd 2 [(27,.bool)] [0] []] (js:=[1000000])
def gm.k:Kn:=mK ⟨356,[sL 1000000 0],[],[(1000000,.box 313 [.d lsT])],[lsT],.tup [.v (.d .str),.v (.d .bool)],[(1000000,.box 313 [.d lsT])],[.str,.bool,lsT],gm⟩ [im.k] [(18,0)] Tryz.func356 [jd 2 [(20,.bool)] [0] [1000000]] (js:=[1000000])
abbrev ak.ps:List Ty:=[lsT]
abbrev ak.qs:List Ty:=[jo,.bool,lsT]
noncomputable def ak.gN (Gr:List Bs->Option (tF×Bool×List Bs)):Con:=⟨212,[sL 1000000 0],[],[(1000000,.box 313 [.d lsT])],ak.ps,.tup [.a jo,.v (.d .bool)],[(1000000,.box 313 [.d lsT])],ak.qs,Gr⟩
def jz.k (Gr:List Bs->Option (tF×Bool×List Bs)) (hG:de pP (ak.gN Gr)):Kn:=mK ⟨309,[sL 1000000 0],[],[(1000000,.box 313 [.d lsT])],[lsT],.tup [.a jo,.v (.d .bool)],[(1000000,.box 313 [.d lsT])],[jo,.bool,lsT],(jz Gr)⟩ [cV.k,⟨_,hG⟩,gm.k] [(11,0),(14,1),(23,0),(29,2)] Tryz.func309 [] (hs:=[11,14,23,29,6000023]) (bs:=[17,3500002,5500004])
def bY.k (Gr:List Bs->Option (tF×Bool×List Bs)) (hG:de pP (ak.gN Gr)):Kn:=mK ⟨262,[sL 1000000 0,aI,aS,sF 619 [1000000]],[],[(1000000,.box 313 [.d lsT])],[iT,.str,lsT],.tup [.a jo,.v (.d .bool)],[(1000000,.box 313 [.d lsT])],[jo,.bool,lsT],(u3 (bY Gr))⟩ [cV.k,jz.k Gr hG] [(22,0),(26,1)] Tryz.func262 [.j 2 ⟨[(8,sL 8 0),(10,sL 499006 0)],[(8,.box 223 [.d iT,.d .str,.nil]),(499006,.box 223 [.d iT,.d .str,.own 499007]),(1000000,.box 313 [.d lsT]),(499007,.arr 223 jo)],[iT,.str,iT,.str,lsT,(.sl jo)]⟩ [] [] false,.l 4 ⟨[(0,sL 1000000 0),(3,sF 619 [1000000]),(10,sL 499011 0),(11,aB)],[(1000000,.box 313 [.d lsT]),(499011,.box 223 [.d iT,.d .str,.own 499012]),(499012,.arr 223 jo)],[.bool,lsT,iT,.str,(.sl jo)]⟩ [1,2,8] [8],.j 6 ⟨[(0,sL 1000000 0),(3,sF 619 [1000000]),(23,aB)],[(1000000,.box 313 [.d lsT])],[.bool,lsT]⟩ [1,2,8,10] [8,499011,499012] true] (js:=[11,1000000]) (H:=[(221,jo)]) (hs:=[22,26]) (zs:=[32])
def gP.k (Gr:List Bs->Option (tF×Bool×List Bs)) (hG:de pP (ak.gN Gr)):Kn:=mK ⟨263,[sL 1000000 0],[],[(1000000,.box 313 [.d lsT])],[lsT],.tup [.a jo,.v (.d .bool)],[(1000000,.box 313 [.d lsT])],[jo,.bool,lsT],(gP Gr)⟩ [bY.k Gr hG] [(7,0)] Tryz.func263 [] (hs:=[7])
def cF.k (Gr:List Bs->Option (tF×Bool×List Bs)) (hG:de pP (ak.gN Gr)):Kn:=mK ⟨262,[sL 1000000 0,aI,aS,sF 527 [1000000]],[],[(1000000,.box 313 [.d lsT])],[iT,.str,lsT],.tup [.a jo,.v (.d .bool)],[(1000000,.box 313 [.d lsT])],[jo,.bool,lsT],(u3 (cF Gr))⟩ [cV.k,gP.k Gr hG] [(22,0),(26,1)] Tryz.func262 [.j 2 ⟨[(8,sL 8 0),(10,sL 499006 0)],[(8,.box 223 [.d iT,.d .str,.nil]),(499006,.box 223 [.d iT,.d .str,.own 499007]),(1000000,.box 313 [.d lsT]),(499007,.arr 223 jo)],[iT,.str,iT,.str,lsT,(.sl jo)]⟩ [] [] false,.l 4 ⟨[(0,sL 1000000 0),(3,sF 527 [1000000]),(10,sL 499011 0),(11,aB)],[(1000000,.box 313 [.d lsT]),(499011,.box 223 [.d iT,.d .str,.own 499012]),(499012,.arr 223 jo)],[.bool,lsT,iT,.str,(.sl jo)]⟩ [1,2,8] [8],.j 6 ⟨[(0,sL 1000000 0),(3,sF 527 [1000000]),(23,aB)],[(1000000,.box 313 [.d lsT])],[.bool,lsT]⟩ [1,2,8,10] [8,499011,499012] true] (js:=[11,1000000]) (H:=[(221,jo)]) (hs:=[22,26]) (zs:=[32])
theorem ak.okB (Gr:List Bs->Option (tF×Bool×List Bs)) (hG:de pP (ak.gN Gr)):de pP (ak.gN (ak.body Gr)):=(mK (ak.gN (ak.body Gr)) [cF.k Gr hG] [(7,0)] Tryz.func212 [] (hs:=[7])).2
theorem ak.okN:∀ n,de pP (ak.gN (ak.rec n))
 | 0=>⟨by kernel_rfl,fun x r h=>by have h2:(none:Option (Tup ak.qs))=some r:=h; cases h2⟩
 | n+1=>ak.okB _ (ak.okN n)
noncomputable def ak.k:Kn:=⟨ak.gN (ak.rec Fuel.n),ak.okN _⟩
abbrev a6.ps:List Ty:=[iT,.str,(.sl jo),iT]
abbrev a6.qs:List Ty:=[iT]
noncomputable def a6.gN (Gr:Int->Bs->List tF->Int->Option Int):Con:=⟨264,[.c (.g [.d iT,.d .str,.d (.sl jo)]),aI],[],[],a6.ps,.one (.v (.d iT)),[],a6.qs,(u4 Gr)⟩
theorem a6.okB (Gr:Int->Bs->List tF->Int->Option Int) (hG:de pP (a6.gN Gr)):de pP (a6.gN (a6.body Gr)):=(mK (a6.gN (a6.body Gr)) [im.k,⟨_,hG⟩] [(13,0),(60,1)] Tryz.func264 [jd 4 [(20,.bool)] [] [],jd 8 [(43,.bool)] [1,2] [2],ld 13 [(5,iT),(47,iT)] [1,2,45,46] [2]] (js:=[1000000])).2
theorem a6.okN:∀ n,de pP (a6.gN (a6.rec n))
 | 0=>⟨by kernel_rfl,fun x r h=>by have h2:(none:Option (Tup a6.qs))=some r:=h; cases h2⟩
 | n+1=>a6.okB _ (a6.okN n)
noncomputable def a6.k:Kn:=⟨a6.gN (a6.rec Fuel.n),a6.okN _⟩
def kE.k:Kn:=mK ⟨213,[.c (.g [.d iT,.d .str,.d (.sl jo)])],[],[],[iT,.str,(.sl jo)],.one (.v (.d .bool)),[],[.bool],(u3 kE)⟩ [a6.k] [(4,0)] Tryz.func213 []
def e8.k:Kn:=mK (cT 140 [.str] [jo,iT] e8) [jy.k,jt.k,strings_Split.k,ak.k,kE.k] [(15,0),(17,1),(18,2),(35,3),(49,4)] Tryz.func140 [.j 5 ⟨[(4,sO 499003)],[(499003,.arr 9 .str)],[lsT]⟩ [2] [2] true,.l 7 ⟨[(4,sO 499005),(20,aI)],[(499005,.arr 9 .str)],[iT,lsT]⟩ [2,18,19] [2],jd 16 [(46,.bool)] [2,8] [2,8]] (js:=[10,1000000]) (H:=[(40,.str)]) (hs:=[17,35]) (fz:=[35]) (zs:=[14,28])
def dW.k:Kn:=mK (cA 129 [oP] .bool dW) [dv.k,e7.k,iQ.k,eH.k,di.k,e8.k] [(25,0),(30,1),(41,2),(53,2),(65,2),(71,3),(77,4),(81,5)] Tryz.func129 [.j 2 ⟨[(3,sL 499006 0)],[(499006,.box 40 [.own 499007]),(499007,.arr 9 .str)],[lsT]⟩ [1] [1] true,.l 4 ⟨[(3,sL 499011 0),(13,aI)],[(499011,.box 40 [.own 499012]),(499012,.arr 9 .str)],[iT,lsT]⟩ [1,11,12] [1],jd 10 [(55,.bool)] [1,3] [1,499006,499007],.j 12 (dS []) [1,3] [1,499006,499007] false,ld 14 [(59,iT)] [1,3,57,58] [1,499006,499007],jd 19 [(72,.bool)] [1,3,57,58,59] [1,499006,499007]] (js:=[7,15,1000000]) (H:=[(40,.str)]) (hs:=[71,77]) (zs:=[20])
def bV.k:Kn:=mK (cA 246 [lsT,lsT] .bool (u2 bV)) [] [] Tryz.func246 [ld 6 [(13,iT)] [0,1,12] []] (ns:=[18,19,22,23])
abbrev aW.ps:List Ty:=[iT,iT,.str,.str,lsT,(.sl iG),iT,iT,.str,.str,lsT,(.sl iG)]
abbrev aW.qs:List Ty:=[.bool]
noncomputable def aW.gN (Gr:Int->Int->Bs->Bs->List Bs->List BQ->Int->Int->Bs->Bs->List Bs->List BQ->Option Bool):Con:=⟨203,[.c (.g [.d iT,.d iT,.d .str,.d .str,.d lsT,.d (.sl iG)]),.c (.g [.d iT,.d iT,.d .str,.d .str,.d lsT,.d (.sl iG)])],[],[],aW.ps,.one (.v (.d .bool)),[],aW.qs,(fun x=>Gr x.1 x.2.1 x.2.2.1 x.2.2.2.1 x.2.2.2.2.1 x.2.2.2.2.2.1 x.2.2.2.2.2.2.1 x.2.2.2.2.2.2.2.1 x.2.2.2.2.2.2.2.2.1 x.2.2.2.2.2.2.2.2.2.1 x.2.2.2.2.2.2.2.2.2.2.1 x.2.2.2.2.2.2.2.2.2.2.2)⟩
def bp.k (Gr:Int->Int->Bs->Bs->List Bs->List BQ->Int->Int->Bs->Bs->List Bs->List BQ->Option Bool) (hG:de pP (aW.gN Gr)):Kn:=mK ⟨247,[aD (.sl iG),aD (.sl iG),sF 406 []],[],[],[(.sl iG),(.sl iG)],.one (.v (.d .bool)),[],[.bool],(u2 (bp Gr))⟩ [⟨_,hG⟩] [(29,0)] Tryz.func247 [ld 6 [(17,iT)] [1,2,15,16] []]
theorem aW.okB (Gr:Int->Int->Bs->Bs->List Bs->List BQ->Int->Int->Bs->Bs->List Bs->List BQ->Option Bool) (hG:de pP (aW.gN Gr)):de pP (aW.gN (aW.body Gr)):=(mK (aW.gN (aW.body Gr)) [bV.k,bp.k Gr hG] [(36,0),(43,1)] Tryz.func203 []).2
theorem aW.okN:∀ n,de pP (aW.gN (aW.rec n))
 | 0=>⟨by kernel_rfl,fun x r h=>by have h2:(none:Option (Tup aW.qs))=some r:=h; cases h2⟩
 | n+1=>aW.okB _ (aW.okN n)
noncomputable def aW.k:Kn:=⟨aW.gN (aW.rec Fuel.n),aW.okN _⟩
def ko.k:Kn:=mK (cA 249 [cX,cX] .bool (u2 ko)) [bn.k,bV.k] [(29,0),(36,1)] Tryz.func249 []
def a7.k:Kn:=mK ⟨248,[aD (.sl cX),aD (.sl cX),sF 498 []],[],[],[(.sl cX),(.sl cX)],.one (.v (.d .bool)),[],[.bool],(u2 a7)⟩ [ko.k] [(29,0)] Tryz.func248 [ld 6 [(17,iT)] [1,2,15,16] []]
def aL.k:Kn:=mK ⟨250,[aD (.sl gR),aD (.sl gR),sF 502 []],[],[],[(.sl gR),(.sl gR)],.one (.v (.d .bool)),[],[.bool],(u2 aL)⟩ [] [] Tryz.func250 [ld 6 [(17,iT)] [1,2,15,16] []]
def lg.k:Kn:=mK (cA 204 [oP,oP] .bool (u2 lg)) [a7.k,aL.k,bV.k] [(11,0),(16,1),(47,2)] Tryz.func204 []
def fS.k:Kn:=mK (cA 205 [liT,liT] .bool (u2 fS)) [] [] Tryz.func205 [ld 6 [(13,iT)] [0,1,12] []] (ns:=[18,19,22,23])
def oN.k:Kn:=mK (cA 132 [bm,bm] .bool (u2 oN)) [bn.k,aW.k,lg.k,fS.k] [(29,0),(43,1),(51,2),(79,3)] Tryz.func132 [jd 2 [(7,.bool)] [2,3] [2,3]] (js:=[3]) (bs:=[9,11,6000048,7000048,9000050,11000050])
def gU.k:Kn:=mK (cA 73 [bm] .bool gU) [dW.k,dv.k,e7.k,oN.k] [(29,0),(44,1),(49,2),(82,1),(123,1),(128,2),(144,3)] Tryz.func73 [jd 2 [(4,.bool)] [1,3] [1,3],.j 3 ⟨[(3,sL 499001 0),(4,aB)],[(499001,.box 50 [.d iT,.d .str,.d iT,.d iT,.d iT,.d .str,.d iT,.d iT,.d iT,.d .str,.d (.sl cX),.d (.sl gR),.d lsT,.d .str,.d iT,.d .str,.d (.sl bX),.d .str,.d iT,.d iT,.d .str,.d .str,.d lsT,.d (.sl iG),.d liT,.d iT,.d iT,.d iT,.d iT])],[.bool,iT,.str,iT,iT,iT,.str,iT,iT,iT,.str,(.sl cX),(.sl gR),lsT,.str,iT,.str,(.sl bX),.str,iT,iT,.str,.str,lsT,(.sl iG),liT,iT,iT,iT,iT]⟩ [1] [1] false,jd 7 [(31,.bool)] [1,3,4,19] [1,3],jd 12 [(62,.bool)] [1,3,4,19] [1,3]] (js:=[3,23,1000000]) (bs:=[35,37,67,69,71,73,111,113,115,35500001,37500001,39500003,40500003,67500001,69500001,71500001,73500001,75500003,76500003,77500003,78500003,111500001,113500001,115500001,117500003,118500003,119500003])
def oF.k:Kn:=mK (cA 72 [bm] .bool oF) [gU.k] [(4,0)] Tryz.func72 []
def cz.k:Kn:=mK ⟨74,[aD (.sl bm),sF 144 []],[],[],[(.sl bm)],.one (.v (.d iT)),[],[iT],cz⟩ [oF.k] [(16,0)] Tryz.func74 [ld 3 [(8,iT)] [0,1,7] []]
def dH.k:Kn:=mK ⟨71,[aD (.sl bm),sF 144 []],[],[],[(.sl bm)],.one (.v (.d .bool)),[],[.bool],dH⟩ [cz.k] [(7,0)] Tryz.func71 []
def ju.k:Kn:=mK (cA 28 [(.sl bm),pI] .bool (u2 ju)) [nH.k,dH.k] [(6,0),(9,1)] Tryz.func28 []
def da.k:Kn:=mK (cA 119 [(.sl aH),aH] iT (u2 da)) [] [] Tryz.func119 [ld 3 [(8,iT)] [0,3,7] [3]] (ns:=[14,15]) (bs:=[11])
def bN.k:Kn:=mK (cA 55 [(.sl aH),aH] .bool (u2 bN)) [da.k] [(7,0)] Tryz.func55 []
def cmp_isNaN_string.k:Kn:=mK (cA 121 [.str] .bool cmp_isNaN_string) [] [] Tryz.func121 []
def kr.k:Kn:=mK (cA 59 [.str,.str] iT (u2 kr)) [cmp_isNaN_string.k] [(8,0),(10,0)] Tryz.func59 []
def oG.k:Kn:=mK (cA 57 [aH,aH] iT (u2 oG)) [kr.k,dZ.k,kT.k] [(9,0),(14,1),(16,2)] Tryz.func57 [] (H:=[(23,iT)]) (zs:=[15]) (bs:=[6,8,11,13])
def aV.k:Kn:=mK ⟨187,[sO 1000000,aI,aI,sF 114 []],[],[(1000000,.arr 98 aH)],[iT,iT,(.sl aH)],.tup [],[(1000000,.arr 98 aH)],[(.sl aH)],(u3 aV)⟩ [oG.k] [(32,0)] Tryz.func187 [.l 1 ⟨[(0,sO 1000000),(8,aI)],[(1000000,.arr 98 aH)],[iT,(.sl aH)]⟩ [1,2,3] [],.l 6 ⟨[(0,sO 1000000),(9,aI)],[(1000000,.arr 98 aH)],[iT,(.sl aH)]⟩ [1,2,3,8] [],jd 8 [(34,.bool)] [0,1,2,3,8,9] [1000000]] (js:=[1000000])
def db.k:Kn:=mK ⟨120,[sO 1000000,aI,aI,aI,sF 114 []],[],[(1000000,.arr 98 aH)],[iT,iT,iT,(.sl aH)],.tup [],[(1000000,.arr 98 aH)],[(.sl aH)],(u4 db)⟩ [aV.k] [(30,0)] Tryz.func120 [ld 2 [(1,iT),(2,iT),(3,iT),(10,.bool),(11,.bool)] [0,4] [1000000]] (hs:=[30])
def cG.k:Kn:=mK ⟨56,[sO 1000000,sF 114 []],[],[(1000000,.arr 98 aH)],[(.sl aH)],.tup [],[(1000000,.arr 98 aH)],[(.sl aH)],cG⟩ [bits_Len.k,db.k] [(11,0),(13,1)] Tryz.func56 [] (hs:=[13])
def bj.k:Kn:=mK ⟨187,[sO 1000000,aI,aI,sF 122 []],[(1000000,.arr 98 aH)],[],[iT,iT,(.sl aH)],.tup [],[],[],(u3 bj)⟩ [] [] Tryz.func187 [ld 1 [(8,iT)] [0,1,2,3] [1000000],ld 6 [(9,iT)] [0,1,2,3,8] [1000000]]
def cH.k:Kn:=mK ⟨120,[sO 1000000,aI,aI,aI,sF 122 []],[(1000000,.arr 98 aH)],[],[iT,iT,iT,(.sl aH)],.tup [],[],[],(u4 cH)⟩ [bj.k] [(30,0)] Tryz.func120 [ld 2 [(1,iT),(2,iT),(3,iT),(10,.bool),(11,.bool)] [0,4] [1000000]] (hs:=[30])
def ct.k:Kn:=mK ⟨56,[sO 1000000,sF 122 []],[(1000000,.arr 98 aH)],[],[(.sl aH)],.tup [],[],[],ct⟩ [bits_Len.k,cH.k] [(11,0),(13,1)] Tryz.func56 [] (hs:=[13])
def jv.k:Kn:=mK ⟨22,[aD (.sl bm),sA pI],[],[],[(.sl bm),pI],.one (.v (.own 0)),[(0,.arr 98 aH)],[(.sl aH)],(u2 jv)⟩ [ju.k,bN.k,cG.k,ct.k] [(15,0),(35,1),(55,1),(64,2),(66,3)] Tryz.func22 [.j 5 ⟨[(5,sO 499008),(6,sO 499009)],[(499008,.arr 98 aH),(499009,.arr 98 aH)],[(.sl aH),(.sl aH)]⟩ [] [] true,.l 7 ⟨[(5,sO 499014),(6,sO 499015),(19,aI)],[(499014,.arr 98 aH),(499015,.arr 98 aH)],[iT,(.sl aH),(.sl aH)]⟩ [17,18] [],.l 19 ⟨[(6,sO 499016),(44,aI)],[(499016,.arr 98 aH)],[iT,(.sl aH)]⟩ [5,9,17,18,19,42,43] [9,39]] (js:=[19]) (H:=[(83,aH)]) (hs:=[64,66]) (zs:=[38,59])
def my.k:Kn:=mK ⟨75,[sA bm,sL 1000000 0,sL 1000001 0],[(1000000,.box 9 [.d .str]),(1000001,.box 37 [.d iT,.d iT,.d iT])],[],[bm,.str,iT,iT,iT],.one (.v (.d .bool)),[],[.bool],(u5 my)⟩ [] [] Tryz.func75 []
def cg.k:Kn:=mK ⟨74,[aD (.sl bm),sF 150 [1000000,1000001]],[(1000000,.box 9 [.d .str]),(1000001,.box 37 [.d iT,.d iT,.d iT])],[],[(.sl bm),.str,iT,iT,iT],.one (.v (.d iT)),[],[iT],(u5 cg)⟩ [my.k] [(16,0)] Tryz.func74 [ld 3 [(8,iT)] [0,1,7] [1000000,1000001]] (hs:=[16])
def iZ.k:Kn:=mK (cT 29 [(.sl bm),.str,eD] [oP,iT,.bool] (u3 iZ)) [cg.k] [(12,0)] Tryz.func29 [] (hs:=[12])
def dy.k:Kn:=mK (cA 114 [liT,iT] iT (u2 dy)) [] [] Tryz.func114 [ld 3 [(8,iT)] [0,1,7] []]
def b7.k:Kn:=mK (cA 51 [liT,iT] .bool (u2 b7)) [dy.k] [(7,0)] Tryz.func51 []
def bS.k:Kn:=mK ⟨30,[sL 1000000 0,sA eD,aJ],[],[(1000000,.box 96 [.d (.sl bm),.own 1000001,.mp 1000002,.own 1000003]),(1000001,.arr 98 aH),(1000002,.fM .i64 false iT),(1000003,.arr 114 ao)],[eD,liT,(.sl bm),(.sl aH),(.sl (.pair (.pair .str (.pair iT (.pair iT (.pair iT .str)))) iT)),(.sl ao)],.tup [],[(1000000,.box 96 [.d (.sl bm),.own 1000001,.mp 1000002,.own 0]),(0,.arr 114 ao),(1000001,.arr 98 aH),(1000002,.fM .i64 false iT),(1000003,.gone)],[(.sl bm),(.sl ao),(.sl aH),(.sl (.pair (.pair .str (.pair iT (.pair iT (.pair iT .str)))) iT))],(u6 bS)⟩ [b7.k] [(18,0),(24,0)] Tryz.func30 [.j 2 (dS [(6,liT)]) [0,4] [4,1000000,1000001,1000002,1000003] false,.l 4 ⟨[(6,sO 499004),(11,aI)],[(499004,.arr 3 iT)],[iT,liT]⟩ [0,4,9,10] [4,1000000,1000001,1000002,1000003],jd 11 [(26,.bool)] [0,4,6,8,9,10,11] [4,499004,1000000,1000001,1000002,1000003]] (js:=[9,1000000]) (H:=[(23,iT),(63,ao)]) (zs:=[29,40]) (bs:=[36,38,5000103,44000096])
def qW.k:Kn:=mK (cA 135 [bX,eD] .bool (u2 qW)) [dZ.k] [(8,0),(14,0)] Tryz.func135 []
def nI.k:Kn:=mK ⟨134,[sA bX,sL 1000000 0],[(1000000,.box 37 [.d iT,.d iT,.d iT])],[],[bX,iT,iT,iT],.one (.v (.d .bool)),[],[.bool],(u4 nI)⟩ [qW.k] [(6,0)] Tryz.func134 []
def bW.k:Kn:=mK ⟨206,[aD (.sl bX),sF 268 [1000000]],[(1000000,.box 37 [.d iT,.d iT,.d iT])],[],[(.sl bX),iT,iT,iT],.one (.v (.d iT)),[],[iT],(u4 bW)⟩ [nI.k] [(16,0)] Tryz.func206 [ld 3 [(8,iT)] [0,1,7] [1000000]] (hs:=[16])
def dp.k:Kn:=mK ⟨133,[aD (.sl bX),sF 268 [1000000]],[(1000000,.box 37 [.d iT,.d iT,.d iT])],[],[(.sl bX),iT,iT,iT],.one (.v (.d .bool)),[],[.bool],(u4 dp)⟩ [bW.k] [(7,0)] Tryz.func133 [] (hs:=[7])
def lY.k:Kn:=mK (cA 77 [(.sl bX),eD] .bool (u2 lY)) [dp.k] [(7,0)] Tryz.func77 [] (hs:=[7])
def kL.k:Kn:=mK ⟨76,[sA eD,sL 1000000 0],[(1000000,.box 82 [.d .str,.d (.sl bX),.d iT,.d .str,.d lsT])],[],[eD,.str,(.sl bX),iT,.str,lsT],.one (.v (.d .bool)),[],[.bool],(u6 kL)⟩ [lY.k] [(7,0)] Tryz.func76 []
def dX.k:Kn:=mK ⟨79,[sL 1000000 0,aS,sF 152 [1000004]],[(1000000,.box 96 [.d (.sl bm),.own 1000001,.mp 1000002,.own 1000003]),(1000001,.arr 98 aH),(1000002,.fM .i64 false iT),(1000003,.arr 114 ao),(1000004,.box 82 [.d .str,.d (.sl bX),.d iT,.d .str,.d lsT])],[],[.str,(.sl bm),(.sl aH),(.sl (.pair (.pair .str (.pair iT (.pair iT (.pair iT .str)))) iT)),(.sl ao),.str,(.sl bX),iT,.str,lsT],.one (.v (.d liT)),[],[liT],(u10 dX)⟩ [kL.k] [(33,0)] Tryz.func79 [.l 4 ⟨[(7,sO 499002),(15,aI)],[(499002,.arr 3 iT)],[iT,liT]⟩ [1,2,13,14] [1000001,1000004],jd 9 [(34,.bool)] [1,2,7,8,13,14,15] [499002,1000001,1000004]] (js:=[1000000]) (H:=[(23,iT)]) (hs:=[33]) (zs:=[38])
def gp.k:Kn:=mK ⟨136,[.c (.v (.nil)),aI],[],[],[iT],.one (.v (.own 0)),[(0,.arr 3 iT)],[liT],gp⟩ [] [] Tryz.func136 [] (H:=[(23,iT)]) (zs:=[25])
def cP.k:Kn:=mK (cA 78 [kA] liT cP) [gp.k] [(24,0)] Tryz.func78 [jd 2 [(3,iT)] [0] [],ld 4 [(3,iT),(11,iT)] [0,9,10] [],.l 14 ⟨[(6,sO 499001),(27,aI)],[(499001,.arr 3 iT)],[iT,liT]⟩ [25,26] []] (js:=[9])
def bT.k:Kn:=mK ⟨63,[aJ],[],[],[liT],.one (.v (.own 0)),[(0,.arr 3 iT)],[liT],bT⟩ [] [] Tryz.func63 [] (H:=[(23,iT)])
def jN.k:Kn:=mK ⟨80,[sL 1000000 0,sA aH],[(1000000,.box 96 [.d (.sl bm),.own 1000001,.mp 1000002,.own 1000003]),(1000001,.arr 98 aH),(1000002,.fM .i64 false iT),(1000003,.arr 114 ao)],[],[aH,(.sl bm),(.sl aH),(.sl (.pair (.pair .str (.pair iT (.pair iT (.pair iT .str)))) iT)),(.sl ao)],.one (.v (.d iT)),[],[iT],(u5 jN)⟩ [] [] Tryz.func80 [] (bs:=[8,9])
def dz.k:Kn:=mK ⟨79,[sL 1000000 0,aS,sF 162 [1000004]],[(1000000,.box 96 [.d (.sl bm),.own 1000001,.mp 1000002,.own 1000003]),(1000001,.arr 98 aH),(1000002,.fM .i64 false iT),(1000003,.arr 114 ao),(1000004,.box 159 [.fn 152 [1000005]]),(1000005,.box 82 [.d .str,.d (.sl bX),.d iT,.d .str,.d lsT])],[],[.str,(.sl bm),(.sl aH),(.sl (.pair (.pair .str (.pair iT (.pair iT (.pair iT .str)))) iT)),(.sl ao),.str,(.sl bX),iT,.str,lsT],.one (.v (.d liT)),[],[liT],(u10 dz)⟩ [] [] Tryz.func79 [.l 4 ⟨[(7,sO 499002),(15,aI)],[(499002,.arr 3 iT)],[iT,liT]⟩ [1,2,13,14] [1000001,1000004,1000005],jd 9 [(34,.bool)] [1,2,7,8,13,14,15] [499002,1000001,1000004,1000005]] (js:=[1000000]) (H:=[(23,iT)]) (zs:=[38])
def eb.k:Kn:=mK ⟨31,[sL 1000000 0,sA cX,sA eD,aJ],[],[(1000000,.box 96 [.d (.sl bm),.own 1000001,.mp 1000002,.own 1000003]),(1000001,.arr 98 aH),(1000002,.fM .i64 false iT),(1000003,.arr 114 ao)],[cX,eD,liT,(.sl bm),(.sl aH),(.sl (.pair (.pair .str (.pair iT (.pair iT (.pair iT .str)))) iT)),(.sl ao)],.tup [],[(1000000,.box 96 [.d (.sl bm),.own 1000001,.mp 1000002,.own 0]),(0,.arr 114 ao),(1000001,.arr 98 aH),(1000002,.fM .i64 false iT),(1000003,.gone)],[(.sl bm),(.sl ao),(.sl aH),(.sl (.pair (.pair .str (.pair iT (.pair iT (.pair iT .str)))) iT))],(u7 eb)⟩ [dX.k,cP.k,bS.k,bT.k,jN.k,dz.k] [(27,0),(29,1),(30,2),(41,3),(47,4),(50,2),(58,5),(67,3),(72,2),(80,0),(89,3),(94,2)] Tryz.func31 [.l 6 ⟨[(0,sL 1000000 0),(34,aI)],[(1000000,.box 96 [.d (.sl bm),.own 1000001,.mp 1000002,.own 499001]),(1000001,.arr 98 aH),(1000002,.fM .i64 false iT),(499001,.arr 114 ao)],[iT,(.sl bm),(.sl aH),(.sl (.pair (.pair .str (.pair iT (.pair iT (.pair iT .str)))) iT)),(.sl ao)]⟩ [3,5,6,32,33] [5,6],.l 13 ⟨[(0,sL 1000000 0),(60,aI)],[(1000000,.box 96 [.d (.sl bm),.own 1000001,.mp 1000002,.own 499003]),(1000001,.arr 98 aH),(1000002,.fM .i64 false iT),(499003,.arr 114 ao)],[iT,(.sl bm),(.sl aH),(.sl (.pair (.pair .str (.pair iT (.pair iT (.pair iT .str)))) iT)),(.sl ao)]⟩ [3,6,58,59] [6],.l 20 ⟨[(0,sL 1000000 0),(82,aI)],[(1000000,.box 96 [.d (.sl bm),.own 1000001,.mp 1000002,.own 499005]),(1000001,.arr 98 aH),(1000002,.fM .i64 false iT),(499005,.arr 114 ao)],[iT,(.sl bm),(.sl aH),(.sl (.pair (.pair .str (.pair iT (.pair iT (.pair iT .str)))) iT)),(.sl ao)]⟩ [3,6,80,81] [6]] (H:=[(23,iT),(66,liT)]) (hs:=[27,30,47,50,58,72,80,94,1000027,1000047,7000030,7000050,8000030,8000050,8000072,8000094,10000030]) (zs:=[28,48,49,70,71,92,93]) (bs:=[21,25,26,39,44,65,87,7500006,9500008,25500005,44500005])
def mz.k:Kn:=mK ⟨137,[sA e6,sL 1000000 0],[(1000000,.box 42 [.d .str,.d iT,.d iT,.d iT,.d .str,.d (.sl cX),.d (.sl gR),.d lsT,.d .str])],[],[e6,.str,iT,iT,iT,.str,(.sl cX),(.sl gR),lsT,.str],.one (.v (.d .bool)),[],[.bool],(u10 mz)⟩ [] [] Tryz.func137 []
def cB.k:Kn:=mK ⟨165,[aD (.sl e6),sF 274 [1000000]],[(1000000,.box 42 [.d .str,.d iT,.d iT,.d iT,.d .str,.d (.sl cX),.d (.sl gR),.d lsT,.d .str])],[],[(.sl e6),.str,iT,iT,iT,.str,(.sl cX),(.sl gR),lsT,.str],.one (.v (.d iT)),[],[iT],(u10 cB)⟩ [mz.k] [(16,0)] Tryz.func165 [ld 3 [(8,iT)] [0,1,7] [1000000]] (hs:=[16])
def dI.k:Kn:=mK ⟨103,[aD (.sl e6),sF 274 [1000000]],[(1000000,.box 42 [.d .str,.d iT,.d iT,.d iT,.d .str,.d (.sl cX),.d (.sl gR),.d lsT,.d .str])],[],[(.sl e6),.str,iT,iT,iT,.str,(.sl cX),(.sl gR),lsT,.str],.one (.v (.d .bool)),[],[.bool],(u10 dI)⟩ [cB.k] [(7,0)] Tryz.func103 [] (hs:=[7])
def lZ.k:Kn:=mK (cT 207 [(.sl bm),iT,iT,.str,eD] [bm,.bool] (u5 lZ)) [] [] Tryz.func207 [ld 3 [(12,iT)] [0,1,2,3,9,10] [9,10],jd 8 [(46,.bool)] [0,1,2,3,9,10,12,13] [9,10,13]] (js:=[1000000])
def pB.k:Kn:=mK (cA 138 [(.sl bm),.str,eD] .bool (u3 pB)) [lZ.k] [(13,0)] Tryz.func138 []
def sJ.k:Kn:=mK (cA 283 [(.int .u8)] .bool sJ) [] [] Tryz.func283 []
def nY.k:Kn:=mK ⟨227,[aS,sF 566 []],[],[],[.str],.one (.v (.d iT)),[],[iT],nY⟩ [sJ.k] [(15,0)] Tryz.func227 [ld 3 [(5,iT)] [0,1] [],jd 5 [(16,.bool)] [0,1,5] []] (js:=[1000000])
def gV.k:Kn:=mK (cA 226 [(.int .u8)] .bool gV) [] [] Tryz.func226 []
def iR.k:Kn:=mK (cA 229 [(.int .u8)] .bool iR) [] [] Tryz.func229 []
def qX.k:Kn:=mK (cA 331 [(.int .u8)] .bool qX) [gV.k,iR.k] [(4,0),(7,1)] Tryz.func331 []
def jU.k:Kn:=mK ⟨227,[aS,sF 662 []],[],[],[.str],.one (.v (.d iT)),[],[iT],jU⟩ [qX.k] [(15,0)] Tryz.func227 [ld 3 [(5,iT)] [0,1] [],jd 5 [(16,.bool)] [0,1,5] []] (js:=[1000000])
def nv.k:Kn:=mK (cA 228 [(.int .u8)] .bool nv) [gV.k,iR.k] [(4,0),(7,1)] Tryz.func228 []
def eY.k:Kn:=mK ⟨227,[aS,sF 456 []],[],[],[.str],.one (.v (.d iT)),[],[iT],eY⟩ [nv.k] [(15,0)] Tryz.func227 [ld 3 [(5,iT)] [0,1] [],jd 5 [(16,.bool)] [0,1,5] []] (js:=[1000000])
def ja.k:Kn:=mK (cA 171 [.str] .bool ja) [gV.k,eY.k] [(8,0),(17,1)] Tryz.func171 [jd 2 [(15,.bool)] [0] []] (js:=[1000000])
def jV.k:Kn:=mK ⟨227,[aS,sF 458 []],[],[],[.str],.one (.v (.d iT)),[],[iT],jV⟩ [iR.k] [(15,0)] Tryz.func227 [ld 3 [(5,iT)] [0,1] [],jd 5 [(16,.bool)] [0,1,5] []] (js:=[1000000])
def cC.k:Kn:=mK (cA 377 [.str,.str] .bool (u2 cC)) [] [] Tryz.func377 []
def strings_HasPrefix.k:Kn:=mK (cA 333 [.str,.str] .bool (u2 strings_HasPrefix)) [cC.k] [(7,0)] Tryz.func333 []
def qe.k:Kn:=mK (cT 284 [.str] [dm,iT] qe) [gV.k,jU.k,ja.k,iR.k,jV.k,strings_HasPrefix.k] [(13,0),(16,1),(19,2),(27,3),(30,4),(49,5)] Tryz.func284 [ld 17 [(44,iT)] [0,2,43] [2]]
def sK.k:Kn:=mK ⟨252,[aS],[],[],[.str],.tup [.v (.own 0),.v (.d iT),.v (.d iT)],[(0,.arr 400 dm)],[iT,iT,(.sl dm)],sK⟩ [nY.k,qe.k] [(16,0),(31,1)] Tryz.func252 [.l 6 ⟨[(5,sO 499002),(6,aI)],[(499002,.arr 400 dm)],[iT,(.sl dm)]⟩ [0] []] (H:=[(352,dm)]) (zs:=[25,42])
def dC.k:Kn:=mK ⟨300,[sL 1000000 0],[(1000000,.box 357 [.own 1000001,.d iT]),(1000001,.arr 400 dm)],[],[iT,(.sl dm)],.one (.a dm),[],[dm],(u2 dC)⟩ [] [] Tryz.func300 [] (bs:=[6,10,3000400,6000357,10000357])
def fj.k:Kn:=mK ⟨288,[sL 1000000 0,aS],[(1000000,.box 357 [.own 1000001,.d iT]),(1000001,.arr 400 dm)],[],[.str,iT,(.sl dm)],.one (.v (.d .bool)),[],[.bool],(u3 fj)⟩ [dC.k] [(6,0),(11,0)] Tryz.func288 [] (hs:=[6,11])
def gQ.k:Kn:=mK ⟨296,[sL 1000000 0,aS],[],[(1000000,.box 357 [.own 1000001,.d iT]),(1000001,.arr 400 dm)],[.str,iT,(.sl dm)],.one (.v (.d .bool)),[(1000000,.box 357 [.own 1000001,.d iT]),(1000001,.arr 400 dm)],[.bool,iT,(.sl dm)],(u3 gQ)⟩ [fj.k] [(7,0)] Tryz.func296 [] (hs:=[7])
def eN.k:Kn:=mK ⟨299,[sL 1000000 0,aB,aI],[(1000000,.box 357 [.own 1000001,.d iT]),(1000001,.arr 400 dm)],[],[.bool,iT,iT,(.sl dm)],.tup [],[],[],(u4 eN)⟩ [] [] Tryz.func299 []
def iD.k:Kn:=mK ⟨286,[sL 1000000 0,aS],[],[(1000000,.box 357 [.own 1000001,.d iT]),(1000001,.arr 400 dm)],[.str,iT,(.sl dm)],.tup [],[(1000000,.box 357 [.own 1000001,.d iT]),(1000001,.arr 400 dm)],[iT,(.sl dm)],(u3 iD)⟩ [gQ.k,eN.k] [(7,0),(8,1)] Tryz.func286 [] (hs:=[7,8])
noncomputable def strings_Contains.k:Kn:=⟨rZ 172,zq⟩
def dA.k:Kn:=mK (cA 110 [.str] .bool dA) [ja.k,strings_Contains.k] [(4,0),(9,1)] Tryz.func110 []
def jb.k:Kn:=mK ⟨334,[sL 1000000 0],[(1000000,.box 357 [.own 1000001,.d iT]),(1000001,.arr 400 dm)],[],[iT,(.sl dm)],.one (.v (.d .bool)),[],[.bool],(u2 jb)⟩ [dC.k,dA.k] [(4,0),(9,0),(11,1)] Tryz.func334 [] (hs:=[4,9])
def ku.k:Kn:=mK ⟨287,[sL 1000000 0],[],[(1000000,.box 357 [.own 1000001,.d iT]),(1000001,.arr 400 dm)],[iT,(.sl dm)],.one (.v (.d .str)),[(1000000,.box 357 [.own 1000001,.d iT]),(1000001,.arr 400 dm)],[.str,iT,(.sl dm)],(u2 ku)⟩ [jb.k,eN.k] [(5,0),(6,1)] Tryz.func287 [] (hs:=[5,6]) (bs:=[17,21])
def bb.k:Kn:=mK ⟨255,[sL 1000000 0],[],[(1000000,.box 357 [.own 1000001,.d iT]),(1000001,.arr 400 dm)],[iT,(.sl dm)],.one (.a yZ),[(1000000,.box 357 [.own 1000001,.d iT]),(1000001,.arr 400 dm)],[yZ,iT,(.sl dm)],(u2 bb)⟩ [iD.k,ku.k,fj.k,gQ.k,dC.k,eN.k] [(9,0),(11,1),(14,0),(19,2),(43,2),(83,2),(86,2),(102,3),(127,4),(130,5)] Tryz.func255 [jd 6 [] [0,2,3,5,6] [2,3,16,17,1000000,1000001],ld 7 [] [0,2,3,4,5,6] [2,3,15,16,17,1000000,1000001],jd 13 [] [0,2,3,6] [2,3,17,1000000,1000001],ld 14 [] [0,2,3,5,6] [2,3,16,17,1000000,1000001],jd 23 [] [0,2,3] [2,3,1000000,1000001],ld 24 [] [0,2,3,6] [2,3,17,1000000,1000001],jd 26 [(87,.bool)] [0,2,3,6] [2,3,17,1000000,1000001]] (js:=[11,19,22,1000000]) (H:=[(406,.bool)]) (hs:=[9,11,14,19,43,83,86,102,127,130]) (zs:=[37,72,79,98])
def kV.k:Kn:=mK ⟨254,[sL 1000002 0,sL 1000003 0],[],[(1000000,.box 357 [.own 1000001,.d iT]),(1000002,.box 355 [.loc 1000000 0]),(1000003,.box 298 [.d .str,.nil,.nil,.nil,.nil,.d .bool,.nil,.nil,.nil]),(1000001,.arr 400 dm)],[iT,.str,.bool,(.sl dm)],.tup [],[(1000000,.box 357 [.own 1000001,.d iT]),(1000002,.box 355 [.loc 1000000 0]),(1000003,.box 298 [.d .str,.d lsT,.d (.sl bJ),.d (.sl iG),.d (.sl tG),.d .bool,.d (.sl bJ),.d (.sl iG),.d (.sl iG)]),(1000001,.arr 400 dm)],[iT,.str,lsT,(.sl bJ),(.sl iG),(.sl tG),.bool,(.sl bJ),(.sl iG),(.sl iG),(.sl dm)],(u4 kV)⟩ [bb.k] [(3,0)] Tryz.func254 [] (hs:=[3])
noncomputable def mC.k:Kn:=⟨yW 253 254 1000002 1000003 kV.k.1,OC (by decide) rfl rfl rfl kV.k.2⟩
def oH.k:Kn:=mK (cT 208 [.str] [yZ,iT,iT] oH) [sK.k,mC.k] [(14,0),(29,1)] Tryz.func208 [] (hs:=[29])
abbrev ar.ps:List Ty:=[iT,(.sl bJ),iT]
abbrev ar.qs:List Ty:=[.bool]
noncomputable def ar.gN (Gr:Int->List iM->Int->Option Bool):Con:=⟨231,[.c (.g [.d iT,.d (.sl bJ)]),aI],[],[],ar.ps,.one (.v (.d .bool)),[],ar.qs,(u3 Gr)⟩
theorem ar.okB (Gr:Int->List iM->Int->Option Bool) (hG:de pP (ar.gN Gr)):de pP (ar.gN (ar.body Gr)):=(mK (ar.gN (ar.body Gr)) [dA.k,⟨_,hG⟩] [(46,0),(69,1)] Tryz.func231 [jd 2 [(35,.bool)] [1,2] [2],ld 6 [(39,iT)] [1,2,37,38] [2],jd 11 [(71,.bool)] [1,2,37,38,39] [2]] (js:=[1000000]) (ns:=[58,60]) (bs:=[45,53,55,66])).2
theorem ar.okN:∀ n,de pP (ar.gN (ar.rec n))
 | 0=>⟨by kernel_rfl,fun x r h=>by have h2:(none:Option (Tup ar.qs))=some r:=h; cases h2⟩
 | n+1=>ar.okB _ (ar.okN n)
noncomputable def ar.k:Kn:=⟨ar.gN (ar.rec Fuel.n),ar.okN _⟩
def fk.k:Kn:=mK ⟨174,[.c (.g [.d iT,.d (.sl bJ)])],[],[],[iT,(.sl bJ)],.one (.v (.d .bool)),[],[.bool],(u2 fk)⟩ [ar.k] [(4,0)] Tryz.func174 []
def dD.k:Kn:=mK (cA 301 [(.sl bJ),iT] .bool (u2 dD)) [dA.k,fk.k] [(22,0),(28,1)] Tryz.func301 [.l 4 ⟨[(5,.c (.v (.mp 499001))),(11,aI)],[(499001,.iJ false .bool)],[iT,(.sl y7)]⟩ [0,1,9,10] [],jd 10 [(30,.bool)] [0,1,5,7,9,10,11] [7,499001]] (js:=[1000000]) (H:=[(406,.bool)])
def fT.k:Kn:=mK (cA 302 [(.sl iG),iT] .bool (u2 fT)) [] [] Tryz.func302 [ld 3 [(9,iT)] [0,1,7,8] []]
def cM.k:Kn:=mK ⟨256,[.c (.g [.d .str,.d lsT,.d (.sl bJ),.d (.sl iG),.d (.sl tG),.d .bool,.d (.sl bJ),.d (.sl iG),.d (.sl iG)])],[],[],[.str,lsT,(.sl bJ),(.sl iG),(.sl tG),.bool,(.sl bJ),(.sl iG),(.sl iG)],.one (.v (.d .bool)),[],[.bool],(u9 cM)⟩ [dA.k,dD.k,fk.k,fT.k] [(24,0),(45,0),(51,1),(57,2),(78,0),(95,1),(104,3),(122,1),(128,3),(135,3)] Tryz.func256 [.j 2 (dS []) [1] [1] false,.l 4 ⟨[(3,.c (.v (.mp 499002))),(15,aI)],[(499002,.iJ false .bool)],[iT,(.sl y7)]⟩ [1,13,14] [1],jd 10 [(26,.bool)] [1,3,5,13,14,15] [1,499002],.j 13 (dS []) [1] [1] false,.l 15 ⟨[(6,.c (.v (.mp 499004))),(34,aI)],[(499004,.iJ false .bool)],[iT,(.sl y7)]⟩ [1,32,33] [1],jd 21 [(71,.bool)] [1,6,8,32,33,34] [1,8,499004],jd 24 [(106,.bool)] [1] [1],.j 27 (dS [(10,iT)]) [1,9] [1] false] (js:=[9,17,24,1000000]) (H:=[(406,.bool)]) (ns:=[110,113]) (bs:=[109,112])
def bH.k:Kn:=mK ⟨342,[aD (.sl y6),aI,aI,sF 518 []],[],[],[(.sl y6),iT,iT],.tup [],[],[],(u3 bH)⟩ [] [] Tryz.func342 [ld 1 [(8,iT)] [0,1,2,3] [],ld 6 [(9,iT)] [0,1,2,3,8] []] (ns:=[25,26,30,31])
def dn.k:Kn:=mK ⟨304,[aD (.sl y6),aI,aI,aI,sF 518 []],[],[],[(.sl y6),iT,iT,iT],.tup [],[],[],(u4 dn)⟩ [bH.k] [(30,0)] Tryz.func304 [ld 2 [(1,iT),(2,iT),(3,iT),(10,.bool),(11,.bool)] [0,4] []]
def eW.k:Kn:=mK ⟨258,[aD (.sl y6),sF 518 []],[],[],[(.sl y6)],.tup [],[],[],eW⟩ [bits_Len.k,dn.k] [(11,0),(13,1)] Tryz.func258 []
def pC.k:Kn:=mK ⟨209,[.c (.g [.d .str,.d lsT,.d (.sl bJ),.d (.sl iG),.d (.sl tG),.d .bool,.d (.sl bJ),.d (.sl iG),.d (.sl iG)])],[],[],[.str,lsT,(.sl bJ),(.sl iG),(.sl tG),.bool,(.sl bJ),(.sl iG),(.sl iG)],.one (.a Mm),[],[Mm],(u9 pC)⟩ [cM.k,eW.k] [(10,0),(59,1)] Tryz.func209 [jd 5 [] [2,3] [2,3],ld 7 [(19,iT)] [2,3,17,18] [2,3]] (js:=[16]) (zs:=[46,53]) (bs:=[27,29])
def lh.k:Kn:=mK (cA 139 [.str] iT lh) [oH.k,pC.k] [(11,0),(18,1)] Tryz.func139 [ld 8 [(6,iT),(21,iT)] [19,20] []]
def nJ.k:Kn:=mK ⟨214,[.c (.g [.d iT,.d .str,.d (.sl jo)]),(aD lsT)],[],[],[iT,.str,(.sl jo),lsT],.one (.v (.d .bool)),[],[.bool],(u4 nJ)⟩ [aZ.k] [(14,0)] Tryz.func214 []
def lO.k:Kn:=mK ⟨141,[.c (.g [.d iT,.d .str,.d (.sl jo)]),(aD lsT)],[],[],[iT,.str,(.sl jo),lsT],.one (.v (.d .bool)),[],[.bool],(u4 lO)⟩ [kE.k,nJ.k] [(6,0),(10,1)] Tryz.func141 []
def cN.k:Kn:=mK (cA 82 [(.sl bm),pI,nB,oP] liT (u4 cN)) [dI.k,pB.k,aZ.k,lh.k,e8.k,lO.k] [(16,0),(25,1),(39,2),(47,3),(58,4),(67,5)] Tryz.func82 [.j 3 ⟨[(9,sO 499001)],[(499001,.arr 3 iT)],[liT]⟩ [0,5,7] [5,7] true,jd 4 [(26,.bool)] [0,5,7,9] [5,7],.j 5 ⟨[(9,sO 499002)],[(499002,.arr 3 iT)],[liT]⟩ [0,5,7] [5,7] true,jd 6 [(41,.bool)] [0,5,7,9] [5,7,499001],.j 7 ⟨[(9,sO 499003)],[(499003,.arr 3 iT)],[liT]⟩ [0,5,7] [5,7] true,.j 9 ⟨[(9,sO 499004)],[(499004,.arr 3 iT)],[liT]⟩ [0,5,7] [5,7] true,jd 11 [(69,.bool)] [0,5,7,9] [5,7,499003]] (js:=[5,7,9,12,1000000]) (H:=[(23,iT)]) (hs:=[16]) (zs:=[28,43,53,71,86]) (bs:=[46,49])
def eI.k:Kn:=mK ⟨143,[aD (.sl bm)],[],[],[(.sl bm)],.one (.v (.fn 430 [0])),[(0,.box 53 [.d (.sl bm)])],[(.sl bm)],eI⟩ [] [] Tryz.func143 []
def ep.k:Kn:=mK ⟨83,[sL 1000000 0,aI,sA aH,aI],[(1000000,.box 96 [.d (.sl bm),.own 1000001,.mp 1000002,.own 1000003]),(1000001,.arr 98 aH),(1000002,.fM .i64 false iT),(1000003,.arr 114 ao)],[],[iT,aH,iT,(.sl bm),(.sl aH),(.sl (.pair (.pair .str (.pair iT (.pair iT (.pair iT .str)))) iT)),(.sl ao)],.one (.v (.d iT)),[],[iT],(u7 ep)⟩ [eI.k] [(18,0)] Tryz.func83 [.l 5 ⟨[],[],[]⟩ [3,6,8,18] [6,8,18],jd 7 [(37,.bool)] [8,9] [8]] (js:=[1000000]) (bs:=[44,46,48,9000003,44000096,46000098,48000098]) (its:=[yY]) (hIt:=Mi I4 Hh)
def bR.k:Kn:=mK ⟨32,[sL 1000000 0,sA aH,sA pI,sA nB],[],[(1000000,.box 96 [.d (.sl bm),.own 1000001,.mp 1000002,.own 1000003]),(1000001,.arr 98 aH),(1000002,.fM .i64 false iT),(1000003,.arr 114 ao)],[aH,pI,nB,(.sl bm),(.sl aH),(.sl (.pair (.pair .str (.pair iT (.pair iT (.pair iT .str)))) iT)),(.sl ao)],.tup [],[(1000000,.box 96 [.d (.sl bm),.own 1000001,.mp 1000002,.own 0]),(0,.arr 114 ao),(1000001,.arr 98 aH),(1000002,.fM .i64 false iT),(1000003,.gone)],[(.sl bm),(.sl ao),(.sl aH),(.sl (.pair (.pair .str (.pair iT (.pair iT (.pair iT .str)))) iT))],(u7 bR)⟩ [iZ.k,jN.k,cN.k,ep.k,bS.k,eb.k] [(31,0),(37,1),(45,2),(57,3),(62,4),(124,5)] Tryz.func32 [.j 3 ⟨[(4,sL 499006 0)],[(499006,.box 93 [.loc 1000000 0]),(1000000,.box 96 [.d (.sl bm),.own 1000001,.mp 1000002,.own 499007]),(1000001,.arr 98 aH),(1000002,.fM .i64 false iT),(499007,.arr 114 ao)],[(.sl bm),(.sl aH),(.sl (.pair (.pair .str (.pair iT (.pair iT (.pair iT .str)))) iT)),(.sl ao)]⟩ [5,8,9,11] [5,8] true,.l 5 ⟨[(4,sL 499011 0),(47,aI)],[(499011,.box 93 [.loc 1000000 0]),(1000000,.box 96 [.d (.sl bm),.own 1000001,.mp 1000002,.own 499012]),(1000001,.arr 98 aH),(1000002,.fM .i64 false iT),(499012,.arr 114 ao)],[iT,(.sl bm),(.sl aH),(.sl (.pair (.pair .str (.pair iT (.pair iT (.pair iT .str)))) iT)),(.sl ao)]⟩ [5,8,9,11,45,46] [5,8],jd 11 [] [4,8,9,11,14] [5,8,499006,499007,1000000,1000001,1000002],ld 13 [(68,iT)] [4,8,9,11,14,66,67] [5,8,499006,499007,1000000,1000001,1000002],ld 19 [(75,iT)] [4,8,9,11,14,16,66,67,68,73,74] [5,8,16,499006,499007,1000000,1000001,1000002],.l 25 ⟨[(4,sL 499013 0),(14,sF 168 [499013,499014]),(99,aI)],[(499013,.box 93 [.loc 1000000 0]),(499014,.box 98 [.d .str,.d iT,.d iT,.d iT,.d .str]),(1000000,.box 96 [.d (.sl bm),.own 1000001,.mp 1000002,.own 499015]),(1000001,.arr 98 aH),(1000002,.fM .i64 false iT),(499015,.arr 114 ao)],[iT,.str,iT,iT,iT,.str,(.sl bm),(.sl aH),(.sl (.pair (.pair .str (.pair iT (.pair iT (.pair iT .str)))) iT)),(.sl ao)]⟩ [9,11,97,98] []] (js:=[8,18]) (H:=[(23,iT)]) (hs:=[37,57,62,124,1000057,7000062]) (fz:=[124]) (zs:=[61,92,116]) (ns:=[46]) (bs:=[23,26,28,30,38,41,42,43,44,51,53,55,79,86,5000093,6500005,9000042,26000096,28000098,30000098])
def a8.k:Kn:=mK (cT 12 [(.sl bm),pI,nB] [(.sl ao),iT] (u3 a8)) [ju.k,jv.k,iZ.k,bS.k,eb.k,bR.k] [(26,0),(31,1),(108,2),(122,3),(136,4),(154,5)] Tryz.func12 [.j 8 ⟨[(8,sL 499004 0)],[(499004,.box 96 [.d (.sl bm),.own 499005,.mp 499006,.nil]),(499005,.arr 98 aH),(499006,.fM .i64 false iT)],[(.sl bm),(.sl aH),(.sl (.pair (.pair .str (.pair iT (.pair iT (.pair iT .str)))) iT))]⟩ [0,4,5] [4,5] true,.l 10 ⟨[(8,sL 499007 0),(44,sO 499008),(46,aI)],[(499007,.box 96 [.d (.sl bm),.own 499008,.mp 499009,.nil]),(499008,.arr 98 aH),(499009,.fM .i64 false iT)],[iT,(.sl bm),(.sl aH),(.sl (.pair (.pair .str (.pair iT (.pair iT (.pair iT .str)))) iT))]⟩ [0,4,5,45] [4,5],.j 15 ⟨[(8,sL 499036 0)],[(499036,.box 96 [.d (.sl bm),.own 499037,.mp 499038,.own 499039]),(499037,.arr 98 aH),(499038,.fM .i64 false iT),(499039,.arr 114 ao)],[(.sl bm),(.sl aH),(.sl (.pair (.pair .str (.pair iT (.pair iT (.pair iT .str)))) iT)),(.sl ao)]⟩ [4,5] [4,5] true,.l 17 ⟨[(8,sL 499058 0),(62,sO 499059),(64,aI)],[(499058,.box 96 [.d (.sl bm),.own 499059,.mp 499060,.own 499061]),(499059,.arr 98 aH),(499060,.fM .i64 false iT),(499061,.arr 114 ao)],[iT,(.sl bm),(.sl aH),(.sl (.pair (.pair .str (.pair iT (.pair iT (.pair iT .str)))) iT)),(.sl ao)]⟩ [0,4,5,63] [4,5],.l 23 ⟨[(8,sL 499062 0),(13,aI),(62,sO 499063)],[(499062,.box 96 [.d (.sl bm),.own 499063,.mp 499064,.own 499065]),(499063,.arr 98 aH),(499064,.fM .i64 false iT),(499065,.arr 114 ao)],[iT,(.sl bm),(.sl aH),(.sl (.pair (.pair .str (.pair iT (.pair iT (.pair iT .str)))) iT)),(.sl ao)]⟩ [0,4,5,11,12,63,64] [4,5,12],jd 25 [(82,.bool)] [0,4,5,8,11,12,13,62,63,64] [4,5,12,499062,499063,499064,499065],jd 28 [(101,.bool)] [0,4,5,8,11,12,13,14,62,63,64] [4,5,12,14,499062,499063,499064,499065],.j 30 ⟨[(8,sL 499070 0)],[(499070,.box 96 [.d (.sl bm),.own 499071,.mp 499072,.own 499073]),(499071,.arr 98 aH),(499072,.fM .i64 false iT),(499073,.arr 114 ao)],[(.sl bm),(.sl aH),(.sl (.pair (.pair .str (.pair iT (.pair iT (.pair iT .str)))) iT)),(.sl ao)]⟩ [4,5] [4,5] true,.l 32 ⟨[(8,sL 499074 0),(127,aI)],[(499074,.box 96 [.d (.sl bm),.own 499075,.mp 499076,.own 499077]),(499075,.arr 98 aH),(499076,.fM .i64 false iT),(499077,.arr 114 ao)],[iT,(.sl bm),(.sl aH),(.sl (.pair (.pair .str (.pair iT (.pair iT (.pair iT .str)))) iT)),(.sl ao)]⟩ [4,5,125,126] [4,5],.j 37 ⟨[(8,sL 499082 0)],[(499082,.box 96 [.d (.sl bm),.own 499083,.mp 499084,.own 499085]),(499083,.arr 98 aH),(499084,.fM .i64 false iT),(499085,.arr 114 ao)],[(.sl bm),(.sl aH),(.sl (.pair (.pair .str (.pair iT (.pair iT (.pair iT .str)))) iT)),(.sl ao)]⟩ [] [] true,.l 39 ⟨[(8,sL 499086 0),(141,sO 499087),(143,aI)],[(499086,.box 96 [.d (.sl bm),.own 499087,.mp 499088,.own 499089]),(499087,.arr 98 aH),(499088,.fM .i64 false iT),(499089,.arr 114 ao)],[iT,(.sl bm),(.sl aH),(.sl (.pair (.pair .str (.pair iT (.pair iT (.pair iT .str)))) iT)),(.sl ao)]⟩ [4,5,142] [4,5],jd 45 [] [8] [499082,499083,499084,499085],ld 47 [(161,iT)] [8,159,160] [499082,499083,499084,499085]] (js:=[11,22,27,33,39,1000000]) (H:=[(23,iT),(94,iT)]) (hs:=[122,136,154]) (zs:=[121]) (bs:=[54,55])
def e9.k:Kn:=mK (cA 22 [(.sl bm),pI] (.sl aH) (u2 e9)) [ju.k,bN.k,cG.k,ct.k] [(15,0),(35,1),(55,1),(64,2),(66,3)] Tryz.func22 [.j 5 ⟨[(5,sO 499008),(6,sO 499009)],[(499008,.arr 98 aH),(499009,.arr 98 aH)],[(.sl aH),(.sl aH)]⟩ [] [] true,.l 7 ⟨[(5,sO 499014),(6,sO 499015),(19,aI)],[(499014,.arr 98 aH),(499015,.arr 98 aH)],[iT,(.sl aH),(.sl aH)]⟩ [17,18] [],.l 19 ⟨[(6,sO 499016),(44,aI)],[(499016,.arr 98 aH)],[iT,(.sl aH)]⟩ [5,9,17,18,19,42,43] [9,39]] (js:=[19]) (H:=[(83,aH)]) (hs:=[64,66]) (zs:=[38,59])
def cQ.k:Kn:=mK (cA 24 [(.sl aH),nB] liT (u2 cQ)) [] [] Tryz.func24 [.j 2 ⟨[(5,.c (.v (.mp 499002)))],[(499002,.fM .i64 false iT)],[(.sl (.pair (.pair .str (.pair iT (.pair iT (.pair iT .str)))) iT))]⟩ [0,3] [3] true,.l 4 ⟨[(5,.c (.v (.mp 499003))),(21,aI)],[(499003,.fM .i64 false iT)],[iT,(.sl (.pair (.pair .str (.pair iT (.pair iT (.pair iT .str)))) iT))]⟩ [0,3,19,20] [3],.j 10 ⟨[(8,sO 499010)],[(499010,.arr 3 iT)],[liT]⟩ [0] [] true,.l 12 ⟨[(8,sO 499014),(34,aI)],[(499014,.arr 3 iT)],[iT,liT]⟩ [0,5,32,33] [499002],.j 17 ⟨[(8,sO 499015)],[(499015,.arr 3 iT)],[liT]⟩ [0,5,10,32,33,34] [10,499002] true,.l 21 ⟨[(8,sO 499016),(56,aI)],[(499016,.arr 3 iT)],[iT,liT]⟩ [0,5,10,32,33,34,54,55] [10,499002],jd 27 [(73,.bool)] [0,5,8,10,15,32,33,34,54,55,56] [10,499002,499016],.l 30 ⟨[(8,sO 499017),(82,aI)],[(499017,.arr 3 iT)],[iT,liT]⟩ [81] []] (js:=[7,14,22,1000000]) (H:=[(23,iT),(94,iT)]) (zs:=[51,76,89])
def lj.k:Kn:=mK ⟨89,[aI,sL 1000000 0],[(1000000,.box 3 [.d iT])],[],[iT,iT],.one (.v (.d .bool)),[],[.bool],(u2 lj)⟩ [] [] Tryz.func89 []
def eK.k:Kn:=mK ⟨109,[aJ,sF 178 [1000000]],[(1000000,.box 3 [.d iT])],[],[liT,iT],.one (.v (.d iT)),[],[iT],(u2 eK)⟩ [lj.k] [(16,0)] Tryz.func109 [ld 3 [(8,iT)] [0,1,7] [1000000]] (hs:=[16])
def fU.k:Kn:=mK ⟨48,[aJ,sF 178 [1000000]],[(1000000,.box 3 [.d iT])],[],[liT,iT],.one (.v (.d .bool)),[],[.bool],(u2 fU)⟩ [eK.k] [(7,0)] Tryz.func48 [] (hs:=[7])
def mD.k:Kn:=mK ⟨88,[sA ao,sL 1000000 0],[(1000000,.box 3 [.d iT])],[],[ao,iT],.one (.v (.d .bool)),[],[.bool],(u2 mD)⟩ [fU.k] [(7,0)] Tryz.func88 [] (hs:=[7])
def b8.k:Kn:=mK ⟨146,[aD (.sl ao),sF 176 [1000000]],[(1000000,.box 3 [.d iT])],[],[(.sl ao),iT],.one (.v (.d iT)),[],[iT],(u2 b8)⟩ [mD.k] [(16,0)] Tryz.func146 [ld 3 [(8,iT)] [0,1,7] [1000000]] (hs:=[16])
def dd.k:Kn:=mK ⟨87,[aD (.sl ao),sF 176 [1000000]],[(1000000,.box 3 [.d iT])],[],[(.sl ao),iT],.one (.v (.d .bool)),[],[.bool],(u2 dd)⟩ [b8.k] [(7,0)] Tryz.func87 [] (hs:=[7])
def eU.k:Kn:=mK (cA 34 [(.sl ao),iT] .bool (u2 eU)) [dd.k] [(18,0)] Tryz.func34 [jd 2 [(15,.bool)] [0,3] [3]] (js:=[1000000]) (hs:=[18])
def mF.k:Kn:=mK ⟨123,[aI,sL 1000000 0],[(1000000,.box 3 [.d iT])],[],[iT,iT],.one (.v (.d .bool)),[],[.bool],(u2 mF)⟩ [] [] Tryz.func123 []
def dJ.k:Kn:=mK ⟨109,[aJ,sF 246 [1000000]],[(1000000,.box 3 [.d iT])],[],[liT,iT],.one (.v (.d iT)),[],[iT],(u2 dJ)⟩ [mF.k] [(16,0)] Tryz.func109 [ld 3 [(8,iT)] [0,1,7] [1000000]] (hs:=[16])
def fm.k:Kn:=mK ⟨48,[aJ,sF 246 [1000000]],[(1000000,.box 3 [.d iT])],[],[liT,iT],.one (.v (.d .bool)),[],[.bool],(u2 fm)⟩ [dJ.k] [(7,0)] Tryz.func48 [] (hs:=[7])
def jc.k:Kn:=mK (cA 62 [(.sl ao),iT,liT] .bool (u3 jc)) [eU.k,fm.k] [(9,0),(18,1)] Tryz.func62 [jd 2 [(15,.bool)] [2,4] [4]] (js:=[1000000]) (hs:=[18])
def nK.k:Kn:=mK ⟨90,[aI,sL 1000000 0],[(1000000,.box 3 [.d iT])],[],[iT,iT],.one (.v (.d .bool)),[],[.bool],(u2 nK)⟩ [] [] Tryz.func90 []
def dK.k:Kn:=mK ⟨109,[aJ,sF 180 [1000000]],[(1000000,.box 3 [.d iT])],[],[liT,iT],.one (.v (.d iT)),[],[iT],(u2 dK)⟩ [nK.k] [(16,0)] Tryz.func109 [ld 3 [(8,iT)] [0,1,7] [1000000]] (hs:=[16])
def b9.k:Kn:=mK ⟨48,[aJ,sF 180 [1000000]],[(1000000,.box 3 [.d iT])],[],[liT,iT],.one (.v (.d .bool)),[],[.bool],(u2 b9)⟩ [dK.k] [(7,0)] Tryz.func48 [] (hs:=[7])
def aY.k:Kn:=mK ⟨91,[aD (.sl ao)],[],[],[(.sl ao)],.one (.v (.own 0)),[(0,.arr 114 ao)],[(.sl ao)],aY⟩ [] [] Tryz.func91 [] (H:=[(63,ao)])
def bo.k:Kn:=mK ⟨78,[(aD kA)],[],[],[kA],.one (.v (.own 0)),[(0,.arr 3 iT)],[liT],bo⟩ [gp.k] [(24,0)] Tryz.func78 [jd 2 [(3,iT)] [0] [],ld 4 [(3,iT),(11,iT)] [0,9,10] [],.l 14 ⟨[(6,sO 499001),(27,aI)],[(499001,.arr 3 iT)],[iT,liT]⟩ [25,26] []] (js:=[9])
def jw.k:Kn:=mK (cA 168 [iT] .bool jw) [] [] Tryz.func168 []
def dE.k:Kn:=mK ⟨170,[sL 1000000 0,aJ],[],[(1000000,.box 320 [.own 1000001,.mp 1000002]),(1000001,.arr 23 liT),(1000002,.gI .i64 3 iT)],[liT,kA,(.map .i64 iT)],.tup [],[(1000000,.box 320 [.own 0,.mp 1000002]),(0,.arr 23 liT),(1000001,.gone),(1000002,.gI .i64 3 iT)],[kA,(.map .i64 iT)],(u3 dE)⟩ [jw.k,b7.k] [(14,0),(18,1)] Tryz.func170 [.l 3 ⟨[(0,sL 1000000 0),(4,sO 499002),(9,aI)],[(1000000,.box 320 [.own 1000001,.mp 1000002]),(499002,.arr 3 iT),(1000001,.arr 23 liT),(1000002,.gI .i64 3 iT)],[iT,liT,kA,(.map .i64 iT)]⟩ [7,8] [],jd 8 [(20,.bool)] [0,4,6,7,8,9] [499002,1000000,1000001,1000002]] (js:=[1000000]) (H:=[(23,iT),(66,liT)]) (fz:=[50]) (zs:=[23,35,41]) (bs:=[28,33,39,40])
def iq.k:Kn:=mK ⟨147,[aD (.sl ao)],[],[],[(.sl ao)],.one (.v (.loc 0 0)),[(0,.box 320 [.own 1,.mp 2]),(1,.arr 23 liT),(2,.gI .i64 3 iT)],[kA,(.map .i64 iT)],iq⟩ [dE.k] [(18,0)] Tryz.func147 [.l 4 ⟨[(3,sL 499006 0),(11,aI)],[(499006,.box 320 [.own 499007,.mp 499008]),(499007,.arr 23 liT),(499008,.gI .i64 3 iT)],[iT,kA,(.map .i64 iT)]⟩ [9,10] []] (H:=[(318,iT)]) (hs:=[18]) (zs:=[6])
def gq.k:Kn:=mK (cA 217 [iT] .bool gq) [jw.k] [(4,0)] Tryz.func217 []
def dL.k:Kn:=mK ⟨109,[aJ,sF 434 []],[],[],[liT],.one (.v (.d iT)),[],[iT],dL⟩ [gq.k] [(16,0)] Tryz.func109 [ld 3 [(8,iT)] [0,1,7] []]
def eA.k:Kn:=mK ⟨216,[sO 1000000,sF 434 []],[],[(1000000,.arr 3 iT)],[liT],.one (.v (.own 0)),[(0,.arr 3 iT),(1000000,.gone)],[liT],eA⟩ [dL.k,gq.k] [(10,0),(28,1)] Tryz.func216 [.l 7 ⟨[(0,sO 1000000),(5,aI),(6,aI)],[(1000000,.arr 3 iT)],[iT,iT,liT]⟩ [1] []] (zs:=[41])
def l4.k:Kn:=mK ⟨218,[.c (.v (.vp 1000000)),aJ],[(1000000,.arr 322 .bool)],[],[liT,lbT],.tup [.v (.d iT),.v (.d .bool)],[],[iT,.bool],(u2 l4)⟩ [] [] Tryz.func218 [ld 4 [(6,iT),(11,iT)] [0,9,10] [1000000]]
def bM.k:Kn:=mK ⟨148,[.c (.v (.ip (.pair kA (.map .i64 iT)))),aJ],[],[],[(.pair kA (.map .i64 iT)),liT],.tup [.v (.vp 0),.v (.d .bool)],[(0,.arr 322 .bool)],[.bool,lbT],(u2 bM)⟩ [bT.k,eA.k,l4.k] [(16,0),(17,1),(105,2)] Tryz.func148 [.j 3 ⟨[(7,sO 499002)],[(499002,.arr 3 iT)],[liT]⟩ [0,6] [14] false,.l 5 ⟨[(7,sO 499003),(23,aI)],[(499003,.arr 3 iT)],[iT,liT]⟩ [0,6,22] [14],.l 15 ⟨[(6,.c (.v (.vp 499006))),(7,sO 499007)],[(499006,.arr 322 .bool),(499007,.arr 3 iT)],[lbT,liT]⟩ [0] [],.l 27 ⟨[(7,sO 499008),(92,aI)],[(499008,.arr 3 iT)],[iT,liT]⟩ [0,6,90,91] [499006],jd 34 [(112,.bool)] [0,6,7,12,13,90,91,92] [499006,499008]] (js:=[11,1000000]) (H:=[(23,iT),(322,.bool)]) (hs:=[17,105]) (zs:=[14,55,65,117])
theorem AS (c:Bool×List Bool) (hl:c.2.length=4001):∀ (m k:Nat) (out:List Int),k+m=4001->out.length<=k->iterM (fun x=>bC.b1 c x.1 x.2) (m+1) ((k:Int),out)=some (true,out++yK (k:Int) (c.2.drop k))
 | 0,k,out,hk,ho=>by
  have hk:k=4001:=by omega
  subst hk;have h1:ltZ ((4001:Nat):Int) 4001=false:=by rw[bw]; exact decide_eq_false (by omega)
  have hb:bC.b1 c ((4001:Nat):Int) out=some (.inr (true,out)):=by
   unfold bC.b1;rw[h1]; rfl
  show (match bC.b1 c ((4001:Nat):Int) out with | some (.inl y)=>iterM (fun (x:Int×List Int)=>bC.b1 c x.1 x.2) 0 y | some (.inr b)=>some b | none=>none)=_;rw[hb,List.drop_eq_nil_of_le (by omega)];show some (true,out)=some (true,out++[]);rw[List.append_nil]
 | m+1,k,out,hk,ho=>by
  have hlt:k<c.2.length:=by omega
  have h1:ltZ (k:Int) 4001=true:=by rw[bw]; exact decide_eq_true (by omega)
  have h2:fL 0 (k:Int) 4001=some ():=by
   unfold fL;rw[gC,gC,bw,decide_eq_true (by omega),decide_eq_true (by omega),decide_eq_true (by omega)]; rfl
  have h3:idx c.2 (0+(k:Int) * 1)=some c.2[k]:=by rw[show (0+(k:Int) * 1)=(k:Int) by omega]; exact dV hlt
  have h4:z64 ((k:Int)+1)=some (((k+1:Nat):Int)):=(BR (by omega) (by omega)).trans (by congr 1);have h5:z64 ((k:Int)-2000)=some ((k:Int)-2000):=BR (by omega) (by omega);have h6:app? out [(k:Int)-2000]=some (out++[(k:Int)-2000]):=Pv (by simp; omega);have hd:c.2.drop k=c.2[k]::c.2.drop (k+1):=List.drop_eq_getElem_cons hlt;have hb:bC.b1 c (k:Int) out=some (.inl (((k+1:Nat):Int),cond c.2[k] (out++[(k:Int)-2000]) out)):=by
   unfold bC.b1;rw[h1,cond_true,h2,Option.bind_some,h3,Option.bind_some,Option.bind_some];cases c.2[k] with
   | true=>rw[cond_true,h5,Option.bind_some,h6,Option.bind_some,h4]; rfl
   | false=>rw[cond_false,h4]; rfl
  rw[iterM];dsimp only;rw[hb];show iterM (fun (x:Int×List Int)=>bC.b1 c x.1 x.2) (m+1) (((k+1:Nat):Int),cond c.2[k] (out++[(k:Int)-2000]) out)=_;rw[AS c hl m (k+1) _ (by omega) (by cases c.2[k] <;> simp <;> omega),hd];have e:((k+1:Nat):Int)=(k:Int)+1:=by omega
  rw[e];show some (true,cond c.2[k] (out++[(k:Int)-2000]) out++yK ((k:Int)+1) (c.2.drop (k+1)))=some (true,out++cond c.2[k] (((k:Int)-2000)::yK ((k:Int)+1) (c.2.drop (k+1))) (yK ((k:Int)+1) (c.2.drop (k+1))));cases c.2[k] with
  | true=>rw[cond_true,cond_true,List.append_assoc]; rfl
  | false=>rfl
theorem I5 {l:List wO} {s:List Int} {r:Bool×List Int} (h:Aw l s=some r):bC l s=some r:=by
 unfold Aw at h;unfold bC;cases h1:iq l with
 | none=>rw[h1] at h; cases h
 | some l3 =>
  rw[h1,Option.bind_some] at h;rw[Option.bind_some];cases h2:bM l3 s with
  | none=>rw[h2] at h; cases h
  | some c =>
   rw[h2,Option.bind_some] at h;rw[Option.bind_some];obtain⟨b,v⟩:=c;cases b with
   | false=>exact h
   | true =>
    dsimp only at h;rw[cond_true] at h;obtain⟨hc,h⟩:=aq h;rw[Bool.and_eq_true,eE,decide_eq_true_eq,jR,decide_eq_true_eq] at hc;show aw (fun (x:Int×List Int)=>bC.b1 (true,v) x.1 x.2) (0,[])=some r;unfold aw;refine rL hc.2 ?_;have:=AS (true,v) hc.1 4001 0 [] rfl (Nat.le_refl _);rw[List.nil_append,List.drop_zero] at this;exact this.trans h
def bC.k0:Kn:=mK ⟨92,[aD (.sl ao),aJ],[],[],[(.sl ao),liT],.tup [.v (.own 0),.v (.d .bool)],[(0,.arr 3 iT)],[.bool,liT],(u2 bC)⟩ [iq.k,bM.k] [(13,0),(15,1)] Tryz.func92 [.l 8 ⟨[(8,sO 499002),(21,aI)],[(499002,.arr 3 iT)],[iT,liT]⟩ [20] [15]] (H:=[(23,iT)]) (hs:=[15]) (zs:=[31])
noncomputable def bC.k:Kn:=⟨{ bC.k0.1 with fn:=u2 Aw },de.Rt bC.k0.2 fun x r h=>I5 (l:=x.1) (s:=x.2) (r:=r) h⟩
def cmp_Less_int.k:Kn:=mK (cA 149 [iT,iT] .bool (u2 cmp_Less_int)) [cmp_isNaN_int.k] [(6,0),(9,0)] Tryz.func149 []
def jO.k:Kn:=mK (cA 150 [iT] .bool jO) [] [] Tryz.func150 []
def aP.k:Kn:=mK (cT 94 [liT,iT] [iT,.bool] (u2 aP)) [cmp_Less_int.k,jO.k] [(27,0),(47,1),(50,1)] Tryz.func94 [jd 3 [(7,iT)] [0,1,6] [],ld 4 [(7,iT),(8,iT)] [0,1,6] []] (js:=[8])
def gW.k:Kn:=mK (cA 93 [liT,iT] iT (u2 gW)) [aP.k] [(18,0),(26,0)] Tryz.func93 [ld 3 [(11,iT)] [0,1,10] [],jd 10 [(34,.bool)] [0,1,5,10,11] []] (js:=[1000000])
def cZ.k:Kn:=mK (cT 35 [(.sl ao),iT,liT] [lbT,kA,iT] (u3 cZ)) [eU.k,b9.k,aY.k,bo.k,bC.k,gW.k,aP.k] [(22,0),(27,1),(30,2),(36,3),(37,4),(77,5),(99,6)] Tryz.func35 [jd 2 [(28,.bool)] [0,2,4] [4],.l 7 ⟨[(9,sO 499024),(10,sO 499025),(11,sO 499026)],[(499024,.arr 114 ao),(499025,.arr 23 liT),(499026,.arr 3 iT)],[(.sl ao),kA,liT]⟩ [2,4] [4],.j 9 ⟨[(9,sO 499032),(10,sO 499033),(11,sO 499034)],[(499032,.arr 114 ao),(499033,.arr 23 liT),(499034,.arr 3 iT)],[(.sl ao),kA,liT]⟩ [2,4,12] [4,37] false,.j 15 ⟨[(14,sO 499037)],[(499037,.arr 3 iT)],[liT]⟩ [2,4,9,10,11] [4,499024,499025,499026] true,.l 17 ⟨[(14,sO 499039),(47,aI)],[(499039,.arr 3 iT)],[iT,liT]⟩ [2,4,9,10,11,45,46] [4,499024,499025,499026],.l 34 ⟨[(18,sO 499040),(90,aI)],[(499040,.arr 4 .bool)],[iT,lbT]⟩ [12,89] [37]] (js:=[16,20,1000000]) (H:=[(23,iT),(63,ao),(66,liT),(85,.bool)]) (hs:=[27,36]) (fz:=[59]) (zs:=[54,64,74,85])
def cJ.k:Kn:=mK ⟨35,[aD (.sl ao),aI,sO 1000000],[(1000000,.arr 3 iT)],[],[(.sl ao),iT,liT],.tup [.v (.own 0),.v (.d kA),.v (.d iT)],[(0,.arr 4 .bool)],[kA,iT,lbT],(u3 cJ)⟩ [eU.k,b9.k,aY.k,bo.k,bC.k,gW.k,aP.k] [(22,0),(27,1),(30,2),(36,3),(37,4),(77,5),(99,6)] Tryz.func35 [jd 2 [(28,.bool)] [0,2,4] [4,1000000],.l 7 ⟨[(9,sO 499024),(10,sO 499025),(11,sO 499026)],[(499024,.arr 114 ao),(499025,.arr 23 liT),(499026,.arr 3 iT)],[(.sl ao),kA,liT]⟩ [2,4] [4,1000000],.j 9 ⟨[(9,sO 499032),(10,sO 499033),(11,sO 499034)],[(499032,.arr 114 ao),(499033,.arr 23 liT),(499034,.arr 3 iT)],[(.sl ao),kA,liT]⟩ [2,4,12] [4,37,1000000] false,.j 15 ⟨[(14,sO 499037)],[(499037,.arr 3 iT)],[liT]⟩ [2,4,9,10,11] [4,499024,499025,499026,1000000] true,.l 17 ⟨[(14,sO 499039),(47,aI)],[(499039,.arr 3 iT)],[iT,liT]⟩ [2,4,9,10,11,45,46] [4,499024,499025,499026,1000000],.l 34 ⟨[(18,sO 499040),(90,aI)],[(499040,.arr 4 .bool)],[iT,lbT]⟩ [12,89] [37]] (js:=[16,20,1000000]) (H:=[(23,iT),(63,ao),(66,liT),(85,.bool)]) (hs:=[27,36]) (fz:=[59]) (zs:=[54,64,74,85])
def jW.k:Kn:=mK (cT 23 [(.sl ao),iT,liT] [lbT,lbT,(.sl kA),iT] (u3 jW)) [jc.k,cZ.k,bT.k,cJ.k] [(25,0),(30,1),(46,2),(54,3),(89,3)] Tryz.func23 [.j 11 ⟨[(13,sO 499009),(14,sO 499010),(15,sO 499011)],[(499009,.arr 3 iT),(499010,.arr 4 .bool),(499011,.arr 66 kA)],[liT,lbT,(.sl kA)]⟩ [0,1] [] false,.l 13 ⟨[(13,sO 499017),(14,sO 499018),(15,sO 499019),(41,aI)],[(499017,.arr 3 iT),(499018,.arr 4 .bool),(499019,.arr 66 kA)],[iT,liT,lbT,(.sl kA)]⟩ [0,1,39,40] []] (js:=[21]) (H:=[(23,iT),(59,kA),(85,.bool)]) (hs:=[54,89]) (zs:=[48,65,68,75,78,82])
def fp.k:Kn:=mK ⟨64,[aD (.sl cX)],[],[],[(.sl cX)],.one (.v (.own 0)),[(0,.arr 82 cX)],[(.sl cX)],fp⟩ [] [] Tryz.func64 [] (H:=[(38,cX)])
def er.k:Kn:=mK (cA 65 [(.sl bX)] (.sl bX) er) [] [] Tryz.func65 [] (H:=[(43,bX)])
def gg.k:Kn:=mK (cA 66 [lsT] lsT gg) [] [] Tryz.func66 [] (H:=[(40,.str)])
def fD.k:Kn:=mK ⟨66,[(aD lsT)],[],[],[lsT],.one (.v (.own 0)),[(0,.arr 9 .str)],[lsT],fD⟩ [] [] Tryz.func66 [] (H:=[(40,.str)])
def jX.k:Kn:=mK (cA 25 [pI] pI jX) [fp.k,er.k,gg.k,fD.k] [(7,0),(25,1),(30,2),(38,3)] Tryz.func25 [.j 2 ⟨[(1,sL 499003 0)],[(499003,.box 55 [.own 499004,.d .str,.d iT,.d lsT,.d .bool]),(499004,.arr 82 cX)],[.str,iT,lsT,.bool,(.sl cX)]⟩ [2] [2] true,.l 4 ⟨[(1,sL 499005 0),(12,aI)],[(499005,.box 55 [.own 499006,.d .str,.d iT,.d lsT,.d .bool]),(499006,.arr 82 cX)],[iT,.str,iT,lsT,.bool,(.sl cX)]⟩ [2,11] [2]] (js:=[8])
def gX.k:Kn:=mK (cA 26 [(.sl aH),lbT] (.sl e6) (u2 gX)) [] [] Tryz.func26 [.l 5 ⟨[(5,sO 499007),(21,aI)],[(499007,.arr 118 e6)],[iT,(.sl e6)]⟩ [0,1,6,19,20] [],jd 11 [(35,.bool)] [0,1,5,6,8,19,20,21] [8,499007],.l 15 ⟨[(9,sL 499011 0),(45,aI)],[(499011,.box 118 [.d .str,.d iT,.d iT,.d iT,.own 499012]),(499012,.arr 9 .str)],[iT,.str,iT,iT,iT,lsT]⟩ [0,1,5,6,8,19,20,21,43,44] [8,499007],jd 20 [(65,.bool)] [0,1,5,6,8,9,11,19,20,21,43,44,45] [8,11,499007,499011,499012]] (js:=[1000000]) (H:=[(40,.str),(56,e6)]) (fz:=[76]) (zs:=[70])
def jP.k:Kn:=mK (cT 10 [(.sl bm),pI,nB] [nB,(.sl kA),iT] (u3 jP)) [a8.k,e9.k,cQ.k,jW.k,jX.k,gX.k] [(19,0),(35,1),(42,2),(43,3),(53,4),(58,5)] Tryz.func10 [jd 2 [(10,iT)] [0,4,5,6,9] [4,5,6],jd 3 [(28,.bool)] [0,4,5,6,9,10] [4,5,6]] (js:=[4,1000000])
def je.k:Kn:=mK (cA 68 [lsT,iT] .bool (u2 je)) [dv.k] [(15,0)] Tryz.func68 [ld 3 [(9,iT)] [0,1,7,8] [],jd 8 [(29,.bool)] [0,1,7,8,9] []] (js:=[1000000])
def fA.k:Kn:=mK (cA 27 [nB] .bool fA) [e7.k,je.k,eG.k] [(22,0),(27,1),(40,2),(46,1)] Tryz.func27 [.j 2 ⟨[(3,sO 499003)],[(499003,.arr 9 .str)],[lsT]⟩ [1] [1] false,.l 4 ⟨[(3,sO 499005),(11,aI)],[(499005,.arr 9 .str)],[iT,lsT]⟩ [1,9,10] [1],jd 10 [(29,.bool)] [1,3,9,10,11] [1,19],.j 12 (dS []) [1,3] [1,499003] false,ld 14 [(35,iT)] [1,3,33,34] [1,499003]] (js:=[9,15,1000000]) (H:=[(40,.str)]) (zs:=[18])
def mG.k:Kn:=mK (cT 11 [(.sl bm),nB] [nB,(.sl kA),iT] (u2 mG)) [fA.k,jP.k] [(9,0),(23,1)] Tryz.func11 []
noncomputable def slices_Delete_int.k:Kn:=⟨BO 95 3,NO (by kernel_rfl) Go.Proofs.Tryz.slices_Delete_int⟩
def mH.k:Kn:=mK ⟨36,[aJ,aI],[],[],[liT,iT],.one (.v (.own 0)),[(0,.arr 3 iT)],[liT],(u2 mH)⟩ [bT.k,slices_Delete_int.k] [(6,0),(10,1)] Tryz.func36 [] (hs:=[10])
def gh.k:Kn:=mK (cA 37 [(.sl ao),liT] (.sl ao) (u2 gh)) [] [] Tryz.func37 [.l 4 ⟨[(5,sO 499002),(10,aI)],[(499002,.arr 114 ao)],[iT,(.sl ao)]⟩ [0,8,9] []] (H:=[(63,ao)]) (zs:=[19])
def cW.k:Kn:=mK ⟨35,[aD (.sl ao),aI,aJ],[],[],[(.sl ao),iT,liT],.tup [.v (.own 0),.v (.d kA),.v (.d iT)],[(0,.arr 4 .bool)],[kA,iT,lbT],(u3 cW)⟩ [eU.k,b9.k,aY.k,bo.k,bC.k,gW.k,aP.k] [(22,0),(27,1),(30,2),(36,3),(37,4),(77,5),(99,6)] Tryz.func35 [jd 2 [(28,.bool)] [0,2,4] [4],.l 7 ⟨[(9,sO 499024),(10,sO 499025),(11,sO 499026)],[(499024,.arr 114 ao),(499025,.arr 23 liT),(499026,.arr 3 iT)],[(.sl ao),kA,liT]⟩ [2,4] [4],.j 9 ⟨[(9,sO 499032),(10,sO 499033),(11,sO 499034)],[(499032,.arr 114 ao),(499033,.arr 23 liT),(499034,.arr 3 iT)],[(.sl ao),kA,liT]⟩ [2,4,12] [4,37] false,.j 15 ⟨[(14,sO 499037)],[(499037,.arr 3 iT)],[liT]⟩ [2,4,9,10,11] [4,499024,499025,499026] true,.l 17 ⟨[(14,sO 499039),(47,aI)],[(499039,.arr 3 iT)],[iT,liT]⟩ [2,4,9,10,11,45,46] [4,499024,499025,499026],.l 34 ⟨[(18,sO 499040),(90,aI)],[(499040,.arr 4 .bool)],[iT,lbT]⟩ [12,89] [37]] (js:=[16,20,1000000]) (H:=[(23,iT),(63,ao),(66,liT),(85,.bool)]) (hs:=[27,36]) (fz:=[59]) (zs:=[54,64,74,85])
def kM.k:Kn:=mK (cA 36 [liT,iT] liT (u2 kM)) [bT.k,slices_Delete_int.k] [(6,0),(10,1)] Tryz.func36 [] (hs:=[10])
def l6.k:Kn:=mK ⟨38,[aD (.sl ao),aI,.c (.g [.d liT,.nil,.nil])],[],[],[(.sl ao),iT,liT],.tup [.a vN,.v (.d iT)],[],[vN,iT],(u3 l6)⟩ [gh.k,cW.k,kM.k,cZ.k] [(19,0),(21,1),(42,2),(43,0),(45,3)] Tryz.func38 [.l 8 ⟨[(5,sL 499004 0),(34,aI)],[(499004,.box 69 [.d liT,.d kA,.own 499005]),(499005,.arr 85 lbT)],[iT,liT,kA,(.sl lbT)]⟩ [0,1,6,33] [6]] (H:=[(67,lbT)]) (zs:=[56])
def gx.k:Kn:=mK (cT 13 [(.sl ao),iT] [vN,iT] (u2 gx)) [eU.k,cZ.k,mH.k,gh.k,l6.k] [(18,0),(24,1),(58,2),(62,3),(64,1),(80,4)] Tryz.func13 [.j 12 ⟨[(9,sL 499006 0)],[(499006,.box 69 [.own 499007,.nil,.nil]),(499007,.arr 3 iT)],[liT]⟩ [0,1,4] [4] true,.l 14 ⟨[(9,sL 499011 0),(38,aI)],[(499011,.box 69 [.own 499012,.nil,.nil]),(499012,.arr 3 iT)],[iT,liT]⟩ [0,1,4,37] [4],.j 19 ⟨[(4,sL 4 0),(9,sL 499017 0)],[(4,.box 69 [.nil,.nil,.nil]),(499017,.box 69 [.d liT,.nil,.nil])],[liT]⟩ [0,1] [] false,.l 21 ⟨[(9,sL 499021 0),(11,aI)],[(499021,.box 69 [.d liT,.nil,.nil])],[iT,liT]⟩ [0,1,4] [4]] (js:=[15,25]) (H:=[(23,iT)]) (fz:=[62]) (zs:=[44])
def br.k:Kn:=mK ⟨151,[sO 1000000,aI,aI],[],[(1000000,.arr 3 iT)],[iT,iT,liT],.tup [],[(1000000,.arr 3 iT)],[liT],(u3 br)⟩ [cmp_Less_int.k] [(29,0)] Tryz.func151 [.l 1 ⟨[(0,sO 1000000),(6,aI)],[(1000000,.arr 3 iT)],[iT,liT]⟩ [1,2] [],.l 6 ⟨[(0,sO 1000000),(7,aI)],[(1000000,.arr 3 iT)],[iT,liT]⟩ [1,2,6] [],jd 8 [(30,.bool)] [0,1,2,6,7] [1000000]] (js:=[1000000])
def eC.k:Kn:=mK ⟨96,[sO 1000000,aI,aI,aI],[],[(1000000,.arr 3 iT)],[iT,iT,iT,liT],.tup [],[(1000000,.arr 3 iT)],[liT],(u4 eC)⟩ [br.k] [(27,0)] Tryz.func96 [ld 2 [(1,iT),(2,iT),(3,iT),(8,.bool),(9,.bool)] [0] [1000000]] (hs:=[27])
def jA.k:Kn:=mK ⟨39,[sO 1000000],[],[(1000000,.arr 3 iT)],[liT],.tup [],[(1000000,.arr 3 iT)],[liT],jA⟩ [bits_Len.k,eC.k] [(9,0),(10,1)] Tryz.func39 [] (hs:=[10])
noncomputable def slices_Compact_int.k:Kn:=⟨uD 40 3,IL⟩
def gF.k:Kn:=mK (cA 14 [(.sl ao),liT] liT (u2 gF)) [jA.k,slices_Compact_int.k] [(42,0),(44,1)] Tryz.func14 [.j 2 ⟨[(5,sO 499003)],[(499003,.arr 3 iT)],[liT]⟩ [] [] true,.l 4 ⟨[(5,sO 499005),(10,aI)],[(499005,.arr 3 iT)],[iT,liT]⟩ [0,8,9] [],jd 9 [(30,.bool)] [0,5,7,8,9,10] [499005]] (js:=[8,1000000]) (H:=[(23,iT)]) (hs:=[42,44]) (zs:=[38])
def fG.k:Kn:=mK (cA 41 [lsT,lsT] .bool (u2 fG)) [] [] Tryz.func41 [ld 6 [(5,iT)] [0,1] []] (ns:=[19,20,23,24])
def dT.k:Kn:=mK (cA 15 [(.sl e6),(.sl e6)] .bool (u2 dT)) [fG.k] [(52,0)] Tryz.func15 [ld 6 [(5,iT)] [0,1] [],jd 10 [(54,.bool)] [0,1,5] []] (js:=[1000000]) (ns:=[19,21,24,26,31,33,36,38,44,46,49,51])
def pD.k:Kn:=mK ⟨269,[sA e6,sL 1000000 0],[(1000000,.box 9 [.d .str])],[],[e6,.str],.one (.v (.d .bool)),[],[.bool],(u2 pD)⟩ [] [] Tryz.func269 []
def cj.k:Kn:=mK ⟨165,[aD (.sl e6),sF 538 [1000000]],[(1000000,.box 9 [.d .str])],[],[(.sl e6),.str],.one (.v (.d iT)),[],[iT],(u2 cj)⟩ [pD.k] [(16,0)] Tryz.func165 [ld 3 [(8,iT)] [0,1,7] [1000000]] (hs:=[16])
def sM.k:Kn:=mK (cT 224 [(.sl e6),.str] [e6,.bool] (u2 sM)) [cj.k] [(9,0)] Tryz.func224 [] (hs:=[9])
def cI.k:Kn:=mK ⟨163,[(aD lsT),sF 450 [1000000]],[(1000000,.box 118 [.d .str,.d iT,.d iT,.d iT,.d lsT])],[],[lsT,.str,iT,iT,iT,lsT],.one (.v (.d iT)),[],[iT],(u6 cI)⟩ [] [] Tryz.func163 [ld 3 [(8,iT)] [0,1,7] [1000000]]
def dY.k:Kn:=mK ⟨100,[(aD lsT),sF 450 [1000000]],[(1000000,.box 118 [.d .str,.d iT,.d iT,.d iT,.d lsT])],[],[lsT,.str,iT,iT,iT,lsT],.one (.v (.d .bool)),[],[.bool],(u6 dY)⟩ [cI.k] [(7,0)] Tryz.func100 [] (hs:=[7])
def sa.k:Kn:=mK (cA 162 [cX,(.sl e6)] .bool (u2 sa)) [sM.k,lY.k,dY.k] [(13,0),(25,1),(38,2)] Tryz.func162 [] (hs:=[38])
def nL.k:Kn:=mK ⟨161,[sA cX,sL 1000000 0,sL 1000001 0],[(1000000,.box 40 [.d lsT]),(1000001,.box 56 [.d (.sl e6)])],[],[cX,lsT,(.sl e6)],.one (.v (.d .bool)),[],[.bool],(u3 nL)⟩ [sa.k,aZ.k] [(17,0),(12,1)] Tryz.func161 []
def ck.k:Kn:=mK ⟨199,[aD (.sl cX),sF 322 [1000000,1000001]],[(1000000,.box 40 [.d lsT]),(1000001,.box 56 [.d (.sl e6)])],[],[(.sl cX),lsT,(.sl e6)],.one (.v (.d iT)),[],[iT],(u3 ck)⟩ [nL.k] [(16,0)] Tryz.func199 [ld 3 [(8,iT)] [0,1,7] [1000000,1000001]] (hs:=[16])
def dj.k:Kn:=mK ⟨127,[aD (.sl cX),sF 322 [1000000,1000001]],[(1000000,.box 40 [.d lsT]),(1000001,.box 56 [.d (.sl e6)])],[],[(.sl cX),lsT,(.sl e6)],.one (.v (.d .bool)),[],[.bool],(u3 dj)⟩ [ck.k] [(7,0)] Tryz.func127 [] (hs:=[7])
def nZ.k:Kn:=mK (cA 98 [(.sl cX),lsT,(.sl e6)] .bool (u3 nZ)) [dj.k] [(9,0)] Tryz.func98 [] (hs:=[9])
def iE.k:Kn:=mK (cA 99 [lsT] .bool iE) [] [] Tryz.func99 [ld 3 [(3,iT)] [0] []] (ns:=[13,14,17,18])
def fF.k:Kn:=mK (cA 42 [(.sl bm),pI,nB,(.sl e6)] .bool (u4 fF)) [ju.k,nZ.k,iZ.k,iE.k,cN.k] [(21,0),(27,1),(47,2),(56,3),(64,4),(74,1),(101,3)] Tryz.func42 [jd 2 [(29,.bool)] [0,3,5,6] [5,6],.j 5 ⟨[(9,sO 499003)],[(499003,.arr 9 .str)],[lsT]⟩ [] [] false,.l 7 ⟨[(9,sO 499005),(32,aI)],[(499005,.arr 9 .str)],[iT,lsT]⟩ [0,3,5,6,30,31] [5,6],jd 15 [(76,.bool)] [0,3,5,6,9,11,12,30,31,32] [5,6,11,12,40],ld 18 [(80,iT)] [0,3,5,6,9,11,12,30,31,32,78,79] [5,6,11,12,40]] (js:=[19,1000000]) (H:=[(40,.str)]) (zs:=[39])
def oI.k:Kn:=mK ⟨104,[sA e6,sL 1000000 0],[(1000000,.box 98 [.d .str,.d iT,.d iT,.d iT,.d .str])],[],[e6,.str,iT,iT,iT,.str],.one (.v (.d .bool)),[],[.bool],(u6 oI)⟩ [aZ.k] [(17,0)] Tryz.func104 []
def cm.k:Kn:=mK ⟨165,[aD (.sl e6),sF 208 [1000000]],[(1000000,.box 98 [.d .str,.d iT,.d iT,.d iT,.d .str])],[],[(.sl e6),.str,iT,iT,iT,.str],.one (.v (.d iT)),[],[iT],(u6 cm)⟩ [oI.k] [(16,0)] Tryz.func165 [ld 3 [(8,iT)] [0,1,7] [1000000]] (hs:=[16])
def dk.k:Kn:=mK ⟨103,[aD (.sl e6),sF 208 [1000000]],[(1000000,.box 98 [.d .str,.d iT,.d iT,.d iT,.d .str])],[],[(.sl e6),.str,iT,iT,iT,.str],.one (.v (.d .bool)),[],[.bool],(u6 dk)⟩ [cm.k] [(7,0)] Tryz.func103 [] (hs:=[7])
def nw.k:Kn:=mK (cA 43 [(.sl aH),(.sl e6)] lbT (u2 nw)) [dk.k] [(17,0)] Tryz.func43 [.l 4 ⟨[(5,sO 499002),(10,aI)],[(499002,.arr 4 .bool)],[iT,lbT]⟩ [1,8,9] []] (H:=[(85,.bool)]) (hs:=[17]) (zs:=[18])
def lp.k:Kn:=mK ⟨167,[aI,sL 1000000 0,sL 1000001 0],[(1000000,.box 3 [.d iT]),(1000001,.box 85 [.d lbT])],[],[iT,iT,lbT],.one (.v (.d .bool)),[],[.bool],(u3 lp)⟩ [] [] Tryz.func167 []
def dM.k:Kn:=mK ⟨109,[aJ,sF 334 [1000000,1000001]],[(1000000,.box 3 [.d iT]),(1000001,.box 85 [.d lbT])],[],[liT,iT,lbT],.one (.v (.d iT)),[],[iT],(u3 dM)⟩ [lp.k] [(16,0)] Tryz.func109 [ld 3 [(8,iT)] [0,1,7] [1000000,1000001]] (hs:=[16])
def fq.k:Kn:=mK ⟨48,[aJ,sF 334 [1000000,1000001]],[(1000000,.box 3 [.d iT]),(1000001,.box 85 [.d lbT])],[],[liT,iT,lbT],.one (.v (.d .bool)),[],[.bool],(u3 fq)⟩ [dM.k] [(7,0)] Tryz.func48 [] (hs:=[7])
def mI.k:Kn:=mK ⟨166,[sA ao,sL 1000000 0,sL 1000001 0],[(1000000,.box 3 [.d iT]),(1000001,.box 85 [.d lbT])],[],[ao,iT,lbT],.one (.v (.d .bool)),[],[.bool],(u3 mI)⟩ [fq.k] [(8,0)] Tryz.func166 [] (hs:=[8])
def bQ.k:Kn:=mK ⟨146,[aD (.sl ao),sF 332 [1000000,1000001]],[(1000000,.box 3 [.d iT]),(1000001,.box 85 [.d lbT])],[],[(.sl ao),iT,lbT],.one (.v (.d iT)),[],[iT],(u3 bQ)⟩ [mI.k] [(16,0)] Tryz.func146 [ld 3 [(8,iT)] [0,1,7] [1000000,1000001]] (hs:=[16])
def cO.k:Kn:=mK ⟨87,[aD (.sl ao),sF 332 [1000000,1000001]],[(1000000,.box 3 [.d iT]),(1000001,.box 85 [.d lbT])],[],[(.sl ao),iT,lbT],.one (.v (.d .bool)),[],[.bool],(u3 cO)⟩ [bQ.k] [(7,0)] Tryz.func87 [] (hs:=[7])
def oJ.k:Kn:=mK (cA 105 [(.sl ao),lbT] .bool (u2 oJ)) [cO.k] [(11,0)] Tryz.func105 [] (hs:=[11])
def jh.k:Kn:=mK (cA 106 [lbT,iT] .bool (u2 jh)) [] [] Tryz.func106 [jd 2 [(5,.bool)] [0,1] [],jd 4 [(19,.bool)] [0,1] []] (js:=[1000000])
def dN.k:Kn:=mK ⟨91,[sO 1000000],[(1000000,.arr 114 ao)],[],[(.sl ao)],.one (.v (.own 0)),[(0,.arr 114 ao)],[(.sl ao)],dN⟩ [] [] Tryz.func91 [] (H:=[(63,ao)]) (zs:=[4])
def dO.k:Kn:=mK ⟨109,[aJ,sF 336 []],[],[],[liT],.one (.v (.d iT)),[],[iT],dO⟩ [jw.k] [(16,0)] Tryz.func109 [ld 3 [(8,iT)] [0,1,7] []]
def ft.k:Kn:=mK ⟨48,[aJ,sF 336 []],[],[],[liT],.one (.v (.d .bool)),[],[.bool],ft⟩ [dO.k] [(7,0)] Tryz.func48 []
def eO.k:Kn:=mK ⟨169,[.c (.v (.ip (.pair kA (.map .i64 iT)))),aJ],[],[],[(.pair kA (.map .i64 iT)),liT],.one (.v (.d .bool)),[],[.bool],(u2 eO)⟩ [jw.k,bM.k] [(17,0),(27,1)] Tryz.func169 [.j 2 ⟨[(5,sO 499003)],[(499003,.arr 3 iT)],[liT]⟩ [0] [] true,.l 4 ⟨[(5,sO 499005),(12,aI)],[(499005,.arr 3 iT)],[iT,liT]⟩ [0,10,11] []] (js:=[8]) (H:=[(23,iT)]) (hs:=[27]) (zs:=[21])
def jj.k:Kn:=mK (cA 107 [(.sl ao),kA] iT (u2 jj)) [ft.k,iq.k,eO.k,dE.k] [(21,0),(24,1),(33,2),(37,3)] Tryz.func107 [jd 5 [(22,.bool)] [0,1] [],.l 10 ⟨[(5,sL 499001 0),(27,aI)],[(499001,.box 320 [.own 499002,.mp 499003]),(499002,.arr 23 liT),(499003,.gI .i64 3 iT)],[iT,kA,(.map .i64 iT)]⟩ [25,26] []] (js:=[1000000]) (hs:=[33,37])
def gG.k:Kn:=mK (cA 44 [(.sl ao),iT,liT,lbT,lbT,(.sl kA)] iT (u6 gG)) [jc.k,oJ.k,aY.k,jh.k,dN.k,jj.k] [(20,0),(29,1),(47,2),(61,3),(89,4),(97,5)] Tryz.func44 [jd 5 [(45,.bool)] [0,2,3,4,5] [],.l 10 ⟨[(13,sO 499001),(50,aI)],[(499001,.arr 114 ao)],[iT,(.sl ao)]⟩ [3,4,5,48,49] [],jd 16 [(76,.bool)] [3,4,5,13,14,15,48,49,50] [499001]] (js:=[1000000]) (H:=[(23,iT),(63,ao)]) (hs:=[89,1000089]) (zs:=[78,86,91,102,104]) (ns:=[57,58,66,67,71,72,73,95,96]) (bs:=[90])
def jx.k:Kn:=mK (cA 16 [(.sl bm),nB,nB,(.sl kA)] iT (u4 jx)) [fA.k,a8.k,fF.k,e9.k,nw.k,cQ.k,gG.k] [(18,0),(36,1),(48,2),(53,3),(57,4),(60,5),(100,6)] Tryz.func16 [jd 2 [(26,.bool)] [0,3,5,6] [5,6],.j 16 ⟨[(14,sO 499003)],[(499003,.arr 4 .bool)],[lbT]⟩ [3,9,11,12,13] [] true,.l 18 ⟨[(14,sO 499005),(63,aI)],[(499005,.arr 4 .bool)],[iT,lbT]⟩ [3,9,11,12,13,61,62] []] (js:=[18,1000000]) (H:=[(85,.bool)]) (zs:=[90])
def eZ.k:Kn:=mK ⟨4,[],[],[],[],.one (.v (.d .bool)),[],[.bool],(fun x=>eZ)⟩ [fi.k,hU.k,jP.k,mG.k,a8.k,gx.k,gF.k,dT.k,jx.k] [(19,0),(20,0),(21,1),(22,0),(24,1),(31,2),(45,3),(53,2),(61,4),(66,5),(72,6),(102,7),(110,8)] Tryz.func4 [jd 10 [(18,.bool)] [3,4,6,17] [3]] (js:=[11]) (H:=[(40,.str),(53,bm)]) (fz:=[45]) (zs:=[23,25,40])
abbrev au.ps:List Ty:=[iT,(.sl bJ),iT,iT]
abbrev au.qs:List Ty:=[iT]
noncomputable def au.gN (Gr:Int->List iM->Int->Int->Option Int):Con:=⟨108,[.c (.g [.d iT,.d (.sl bJ)]),aI,aI],[],[],au.ps,.one (.v (.d iT)),[],au.qs,(u4 Gr)⟩
theorem au.okB (Gr:Int->List iM->Int->Int->Option Int) (hG:de pP (au.gN Gr)):de pP (au.gN (au.body Gr)):=(mK (au.gN (au.body Gr)) [⟨_,hG⟩] [(37,0)] Tryz.func108 [ld 7 [(7,iT),(8,iT)] [1,2,3] [3],jd 9 [(22,.bool)] [1,2,3,7,8] [3]] (js:=[1000000])).2
theorem au.okN:∀ n,de pP (au.gN (au.rec n))
 | 0=>⟨by kernel_rfl,fun x r h=>by have h2:(none:Option (Tup au.qs))=some r:=h; cases h2⟩
 | n+1=>au.okB _ (au.okN n)
noncomputable def au.k:Kn:=⟨au.gN (au.rec Fuel.n),au.okN _⟩
def fC.k:Kn:=mK ⟨45,[.c (.g [.d iT,.d (.sl bJ)])],[],[],[iT,(.sl bJ)],.one (.v (.d .bool)),[],[.bool],(u2 fC)⟩ [au.k] [(4,0)] Tryz.func45 []
def bE.k:Kn:=mK (cA 17 [(.sl dP)] .bool bE) [fC.k] [(36,0),(45,0)] Tryz.func17 [ld 3 [(3,iT)] [0] [],jd 5 [(11,.bool)] [0,3] [],jd 7 [(47,.bool)] [0,3] []] (js:=[1000000])
def iS.k:Kn:=mK (cA 5 [jC] .bool iS) [bE.k] [(5,0),(9,0)] Tryz.func5 []
def cw.k:Kn:=mK (cA 6 [(.sl lA)] .bool cw) [] [] Tryz.func6 [ld 3 [(3,iT)] [0] [],jd 5 [(11,.bool)] [0,3] []] (js:=[1000000])
def mJ.k:Kn:=mK ⟨47,[.c (.g [.d .str,.d liT,.d iT,.d (.sl bJ),.d iT,.d (.sl bJ)]),.c (.g [.d .str,.d liT,.d iT,.d (.sl bJ),.d iT,.d (.sl bJ)])],[],[],[.str,liT,iT,(.sl bJ),iT,(.sl bJ),.str,liT,iT,(.sl bJ),iT,(.sl bJ)],.one (.v (.d .bool)),[],[.bool],(fun x=>mJ x.1 x.2.1 x.2.2.1 x.2.2.2.1 x.2.2.2.2.1 x.2.2.2.2.2.1 x.2.2.2.2.2.2.1 x.2.2.2.2.2.2.2.1 x.2.2.2.2.2.2.2.2.1 x.2.2.2.2.2.2.2.2.2.1 x.2.2.2.2.2.2.2.2.2.2.1 x.2.2.2.2.2.2.2.2.2.2.2)⟩ [] [] Tryz.func47 []
def al.k:Kn:=mK ⟨46,[aD (.sl dP),aD (.sl dP),sF 94 []],[],[],[(.sl dP),(.sl dP)],.one (.v (.d .bool)),[],[.bool],(u2 al)⟩ [mJ.k] [(29,0)] Tryz.func46 [ld 6 [(17,iT)] [1,2,15,16] []]
def mL.k:Kn:=mK ⟨49,[aI,sL 1000000 0],[(1000000,.box 25 [.d (.sl dP),.d (.sl dP),.d liT])],[],[iT,(.sl dP),(.sl dP),liT],.one (.v (.d .bool)),[],[.bool],(u4 mL)⟩ [] [] Tryz.func49 []
def ca.k:Kn:=mK ⟨109,[aJ,sF 98 [1000000]],[(1000000,.box 25 [.d (.sl dP),.d (.sl dP),.d liT])],[],[liT,(.sl dP),(.sl dP),liT],.one (.v (.d iT)),[],[iT],(u4 ca)⟩ [mL.k] [(16,0)] Tryz.func109 [ld 3 [(8,iT)] [0,1,7] [1000000]] (hs:=[16])
def dc.k:Kn:=mK ⟨48,[aJ,sF 98 [1000000]],[(1000000,.box 25 [.d (.sl dP),.d (.sl dP),.d liT])],[],[liT,(.sl dP),(.sl dP),liT],.one (.v (.d .bool)),[],[.bool],(u4 dc)⟩ [ca.k] [(7,0)] Tryz.func48 [] (hs:=[7])
def lK.k:Kn:=mK ⟨112,[.c (.g [.d .str,.d liT,.d iT,.d (.sl bJ),.d iT,.d (.sl bJ)]),sL 1000000 0],[(1000000,.box 127 [.d .str,.d liT,.d iT,.d (.sl bJ),.d iT,.d (.sl bJ)])],[],[.str,liT,iT,(.sl bJ),iT,(.sl bJ),.str,liT,iT,(.sl bJ),iT,(.sl bJ)],.one (.v (.d .bool)),[],[.bool],(fun x=>lK x.1 x.2.1 x.2.2.1 x.2.2.2.1 x.2.2.2.2.1 x.2.2.2.2.2.1 x.2.2.2.2.2.2.1 x.2.2.2.2.2.2.2.1 x.2.2.2.2.2.2.2.2.1 x.2.2.2.2.2.2.2.2.2.1 x.2.2.2.2.2.2.2.2.2.2.1 x.2.2.2.2.2.2.2.2.2.2.2)⟩ [] [] Tryz.func112 []
def aU.k:Kn:=mK ⟨173,[aD (.sl dP),sF 224 [1000000]],[(1000000,.box 127 [.d .str,.d liT,.d iT,.d (.sl bJ),.d iT,.d (.sl bJ)])],[],[(.sl dP),.str,liT,iT,(.sl bJ),iT,(.sl bJ)],.one (.v (.d iT)),[],[iT],(u7 aU)⟩ [lK.k] [(16,0)] Tryz.func173 [ld 3 [(8,iT)] [0,1,7] [1000000]] (hs:=[16])
def bL.k:Kn:=mK ⟨111,[aD (.sl dP),sF 224 [1000000]],[(1000000,.box 127 [.d .str,.d liT,.d iT,.d (.sl bJ),.d iT,.d (.sl bJ)])],[],[(.sl dP),.str,liT,iT,(.sl bJ),iT,(.sl bJ)],.one (.v (.d .bool)),[],[.bool],(u7 bL)⟩ [aU.k] [(7,0)] Tryz.func111 [] (hs:=[7])
def gL.k:Kn:=mK ⟨113,[.c (.g [.d iT,.d (.sl bJ)])],[],[],[iT,(.sl bJ)],.one (.v (.d .bool)),[],[.bool],(u2 gL)⟩ [fk.k] [(4,0)] Tryz.func113 []
def cK.k:Kn:=mK (cA 50 [(.sl dP)] .bool cK) [dA.k,bL.k,gL.k] [(16,0),(23,1),(28,2),(34,2)] Tryz.func50 [ld 3 [(9,iT)] [0,7,8] [],jd 9 [(36,.bool)] [0,4,7,8,9] [4],ld 12 [(40,iT)] [0,4,7,8,9,38,39] [4],jd 17 [(66,.bool)] [0,4,7,8,9,38,39,40] [4]] (js:=[1000000]) (hs:=[23])
def kW.k:Kn:=mK (cA 18 [jC] .bool kW) [al.k,dc.k,cK.k] [(9,0),(13,1),(28,2),(33,2)] Tryz.func18 [] (hs:=[13])
def bg.k:Kn:=mK (cA 19 [jC,(.sl lA)] .bool (u2 bg)) [] [] Tryz.func19 [.l 4 ⟨[(5,.c (.v (.mp 499001))),(13,aI)],[(499001,.kx .i64 false .bool)],[iT,(.sl (.pair iT .bool))]⟩ [2,11,12] [2],jd 10 [(30,.bool)] [2,5,7,11,12,13] [2,7,499001],.l 13 ⟨[(5,.c (.v (.mp 499002))),(34,aI)],[(499002,.kx .i64 false .bool)],[iT,(.sl (.pair iT .bool))]⟩ [2,7,11,12,13,32,33] [2,7],jd 19 [(66,.bool)] [2,5,7,9,11,12,13,32,33,34] [2,7,499002]] (js:=[1000000]) (H:=[(133,.bool)])
abbrev bh.ps:List Ty:=[iT,(.sl bJ)]
abbrev bh.qs:List Ty:=[lP]
noncomputable def bh.gN (Gr:Int->List iM->Option ed):Con:=⟨117,[.c (.g [.d iT,.d (.sl bJ)])],[],[],bh.ps,.one (.a lP),[],bh.qs,(u2 Gr)⟩
theorem bh.okB (Gr:Int->List iM->Option ed) (hG:de pP (bh.gN Gr)):de pP (bh.gN (bh.body Gr)):=(mK (bh.gN (bh.body Gr)) [gL.k,⟨_,hG⟩] [(7,0),(30,1)] Tryz.func117 [.l 7 ⟨[(3,sL 499005 0),(16,aI)],[(499005,.box 201 [.d iT,.d iT,.own 499006,.own 499007]),(499006,.arr 9 .str),(499007,.arr 201 lP)],[iT,iT,iT,lsT,(.sl lP)]⟩ [2,14,15] [2]] (H:=[(40,.str),(199,lP)]) (zs:=[24,31]) (bs:=[21,23,27,29,23000257,29000257,34000201,35000201])).2
theorem bh.okN:∀ n,de pP (bh.gN (bh.rec n))
 | 0=>⟨by kernel_rfl,fun x r h=>by have h2:(none:Option (Tup bh.qs))=some r:=h; cases h2⟩
 | n+1=>bh.okB _ (bh.okN n)
noncomputable def bh.k:Kn:=⟨bh.gN (bh.rec Fuel.n),bh.okN _⟩
noncomputable def strconv_Itoa.k:Kn:=⟨GX 235,LX⟩
def mM.k:Kn:=mK (cA 182 [iT] .str mM) [strconv_Itoa.k] [(4,0)] Tryz.func182 []
def mN.k:Kn:=mK (cA 181 [iT] .str mN) [mM.k] [(6,0)] Tryz.func181 []
noncomputable def iN.k:Kn:=⟨Pb 236 272,IQ⟩
def eV.k:Kn:=mK ⟨183,[sL 1000000 0,aS],[],[(1000000,.box 272 [.ps 1000000,.nil])],[.str],.tup [.v (.d iT),.v (.ni)],[(1000000,.box 272 [.ps 1000000,.own 0]),(0,.arr 5 (.int .u8))],[iT,(.sl (.int .u8))],eV⟩ [iN.k] [(7,0)] Tryz.func183 [] (hs:=[7])
def ny.k:Kn:=mK (cA 184 [.str] .str ny) [strconv_Itoa.k] [(5,0)] Tryz.func184 []
noncomputable def gY.k:Kn:=⟨NR 236 272 5,L5⟩
def ef.k:Kn:=mK ⟨183,[sL 1000000 0,aS],[],[(1000000,.box 272 [.ps 1000000,.own 1000001]),(1000001,.arr 5 (.int .u8))],[.str,(.sl (.int .u8))],.tup [.v (.d iT),.v (.ni)],[(1000000,.box 272 [.ps 1000000,.own 0]),(0,.arr 5 (.int .u8)),(1000001,.gone)],[iT,(.sl (.int .u8))],(u2 ef)⟩ [gY.k] [(7,0)] Tryz.func183 [] (hs:=[7])
noncomputable def ij.k:Kn:=⟨NS 185 272 5,L6⟩
abbrev aO.ps:List Ty:=[iT,(.sl bJ),iT,iT,lsT,(.sl lP)]
abbrev aO.qs:List Ty:=[.str]
noncomputable def aO.gN (Gr:Int->List iM->Int->Int->List Bs->List ed->Option Bs):Con:=⟨116,[.c (.g [.d iT,.d (.sl bJ)]),.c (.g [.d iT,.d iT,.d lsT,.d (.sl lP)])],[],[],aO.ps,.one (.v (.d .str)),[],aO.qs,(u6 Gr)⟩
theorem aO.okB (Gr:Int->List iM->Int->Int->List Bs->List ed->Option Bs) (hG:de pP (aO.gN Gr)):de pP (aO.gN (aO.body Gr)):=(mK (aO.gN (aO.body Gr)) [mN.k,mM.k,eV.k,bA.k,ny.k,⟨_,hG⟩,ef.k,ij.k] [(12,0),(19,1),(27,0),(30,2),(42,3),(45,4),(53,5),(54,4),(56,6),(58,7)] Tryz.func116 [.j 10 ⟨[(6,sL 499003 0)],[(499003,.box 272 [.ps 499003,.own 499004]),(499004,.arr 5 (.int .u8))],[(.sl (.int .u8))]⟩ [] [] true,.l 12 ⟨[(6,sL 499005 0),(34,aI)],[(499005,.box 272 [.ps 499005,.own 499006]),(499006,.arr 5 (.int .u8))],[iT,(.sl (.int .u8))]⟩ [3,32,33] [3]] (js:=[14]) (hs:=[30,56,58,5000056,10000056]) (ns:=[51,52]) (bs:=[44,47,49,44500008,47500008,49500003])).2
theorem aO.okN:∀ n,de pP (aO.gN (aO.rec n))
 | 0=>⟨by kernel_rfl,fun x r h=>by have h2:(none:Option (Tup aO.qs))=some r:=h; cases h2⟩
 | n+1=>aO.okB _ (aO.okN n)
noncomputable def aO.k:Kn:=⟨aO.gN (aO.rec Fuel.n),aO.okN _⟩
def oO.k:Kn:=mK ⟨175,[aS],[],[],[.str],.one (.v (.loc 0 0)),[(0,.box 337 [.d .str,.d .bool])],[.str,.bool],oO⟩ [] [] Tryz.func175 []
noncomputable def strings_IndexByte.k:Kn:=⟨uF 271,zp⟩
def fu.k:Kn:=mK ⟨272,[sL 1000000 0],[],[(1000000,.box 337 [.d .str,.d .bool])],[.str,.bool],.tup [],[(1000000,.box 337 [.d .str,.d .bool])],[.str,.bool],(u2 fu)⟩ [] [] Tryz.func272 []
noncomputable def strconv_Atoi.k:Kn:=⟨GY 273,L0⟩
def bK.k:Kn:=mK ⟨232,[sL 1000000 0,aD (.int .u8),aI],[],[(1000000,.box 337 [.d .str,.d .bool])],[(.int .u8),iT,.str,.bool],.one (.v (.d iT)),[(1000000,.box 337 [.d .str,.d .bool])],[iT,.str,.bool],(u4 bK)⟩ [strings_IndexByte.k,fu.k,strconv_Atoi.k,strconv_Itoa.k] [(24,0),(28,1),(33,2),(40,3),(52,1)] Tryz.func232 [jd 9 [(50,.bool)] [0,8,9] [1000000]] (js:=[1000000]) (hs:=[28,52]) (ns:=[19,21,43]) (bs:=[14,18])
def fK.k:Kn:=mK ⟨176,[sL 1000000 0],[],[(1000000,.box 337 [.d .str,.d .bool])],[.str,.bool],.one (.v (.d iT)),[(1000000,.box 337 [.d .str,.d .bool])],[iT,.str,.bool],(u2 fK)⟩ [bK.k] [(4,0)] Tryz.func176 [] (hs:=[4])
def eL.k:Kn:=mK ⟨233,[sL 1000000 0],[(1000000,.box 337 [.d .str,.d .bool])],[],[.str,.bool],.one (.v (.d iT)),[],[iT],(u2 eL)⟩ [] [] Tryz.func233 []
def dw.k:Kn:=mK ⟨179,[sL 1000000 0],[(1000000,.box 337 [.d .str,.d .bool])],[],[.str,.bool],.one (.v (.d .bool)),[],[.bool],(u2 dw)⟩ [] [] Tryz.func179 []
def fX.k:Kn:=mK ⟨177,[sL 1000000 0],[(1000000,.box 337 [.d .str,.d .bool])],[],[.str,.bool],.one (.v (.d .bool)),[],[.bool],(u2 fX)⟩ [eL.k,dw.k] [(4,0),(8,1)] Tryz.func177 [] (hs:=[4,8])
def iU.k:Kn:=mK ⟨178,[sL 1000000 0],[],[(1000000,.box 337 [.d .str,.d .bool])],[.str,.bool],.one (.v (.d iT)),[(1000000,.box 337 [.d .str,.d .bool])],[iT,.str,.bool],(u2 iU)⟩ [bK.k] [(4,0)] Tryz.func178 [] (hs:=[4])
def eh.k:Kn:=mK (cT 368 [.str,.str] [.str,.bool] (u2 eh)) [cC.k] [(8,0)] Tryz.func368 []
def strings_CutPrefix.k:Kn:=mK (cT 318 [.str,.str] [.str,.bool] (u2 strings_CutPrefix)) [eh.k] [(8,0)] Tryz.func318 []
def gi.k:Kn:=mK ⟨274,[sL 1000000 0,aS],[],[(1000000,.box 337 [.d .str,.d .bool])],[.str,.str,.bool],.tup [],[(1000000,.box 337 [.d .str,.d .bool])],[.str,.bool],(u3 gi)⟩ [strings_CutPrefix.k,fu.k] [(12,0),(22,1)] Tryz.func274 [] (hs:=[22])
def eM.k:Kn:=mK ⟨234,[sL 1000000 0],[],[(1000000,.box 337 [.d .str,.d .bool])],[.str,.bool],.one (.v (.d .str)),[(1000000,.box 337 [.d .str,.d .bool])],[.str,.str,.bool],(u2 eM)⟩ [bK.k,fu.k,gi.k] [(6,0),(15,1),(32,2)] Tryz.func234 [] (hs:=[6,15,32])
def df.k:Kn:=mK ⟨180,[sL 1000000 0],[],[(1000000,.box 337 [.d .str,.d .bool])],[.str,.bool],.tup [.v (.mp 0),.v (.d .bool)],[(1000000,.box 337 [.d .str,.d .bool]),(0,.iJ false .str)],[.bool,.str,.bool,(.sl (.pair .str .str))],(u2 df)⟩ [eL.k,eM.k,fX.k,dw.k] [(10,0),(13,1),(15,1),(17,2),(34,3)] Tryz.func180 [.j 2 ⟨[(0,sL 1000000 0),(4,.c (.v (.mp 499002)))],[(1000000,.box 337 [.d .str,.d .bool]),(499002,.iJ false .str)],[.str,.bool,(.sl (.pair .str .str))]⟩ [] [] false,.l 3 ⟨[(0,sL 1000000 0),(4,.c (.v (.mp 499003))),(5,aS)],[(1000000,.box 337 [.d .str,.d .bool]),(499003,.iJ false .str)],[.str,.str,.bool,(.sl (.pair .str .str))]⟩ [] [],jd 9 [(27,.bool)] [0,4,6,7] [499003,1000000]] (js:=[8,1000000]) (H:=[(264,.str)]) (hs:=[10,13,15,17,34])
def eu.k:Kn:=mK ⟨180,[sL 1000000 0],[],[(1000000,.box 337 [.d .str,.d .bool])],[.str,.bool],.tup [.v (.mn),.v (.bc false)],[(1000000,.box 337 [.d .str,.d .bool])],[.str,.bool],(u2 eu)⟩ [eL.k,eM.k,fX.k,dw.k] [(10,0),(13,1),(15,1),(17,2),(34,3)] Tryz.func180 [.j 2 ⟨[(0,sL 1000000 0),(4,.c (.v (.mp 499002)))],[(1000000,.box 337 [.d .str,.d .bool]),(499002,.iJ false .str)],[.str,.bool,(.sl (.pair .str .str))]⟩ [] [] false,.l 3 ⟨[(0,sL 1000000 0),(4,.c (.v (.mp 499003))),(5,aS)],[(1000000,.box 337 [.d .str,.d .bool]),(499003,.iJ false .str)],[.str,.str,.bool,(.sl (.pair .str .str))]⟩ [] [],jd 9 [(27,.bool)] [0,4,6,7] [499003,1000000]] (js:=[8,1000000]) (H:=[(264,.str)]) (hs:=[10,13,15,17,34])
abbrev aC.ps:List Ty:=[iT,(.sl bJ),.str]
abbrev aC.qs:List Ty:=[lP,.bool]
noncomputable def aC.gN (Gr:Int->List iM->Bs->Option (ed×Bool)):Con:=⟨115,[.c (.g [.d iT,.d (.sl bJ)]),aS],[],[],aC.ps,.tup [.a lP,.v (.d .bool)],[],aC.qs,(u3 Gr)⟩
theorem aC.okB (Gr:Int->List iM->Bs->Option (ed×Bool)) (hG:de pP (aC.gN Gr)):de pP (aC.gN (aC.body Gr)):=(mK (aC.gN (aC.body Gr)) [oO.k,fK.k,fX.k,iU.k,dw.k,df.k,⟨_,hG⟩,eu.k] [(18,0),(23,1),(25,2),(40,3),(43,1),(47,4),(60,5),(84,6),(1000060,7)] Tryz.func115 [jd 4 [(31,.bool)] [2,4,6,7] [2,4,7,18],.j 8 ⟨[(6,sL 499001 0),(7,sL 499002 0)],[(499001,.box 337 [.d .str,.d .bool]),(499002,.box 201 [.d iT,.d iT,.nil,.nil])],[.str,.bool,iT,iT]⟩ [2,4] [2,4] true,.l 17 ⟨[(7,sL 499007 0),(69,aI)],[(499007,.box 201 [.d iT,.d iT,.own 499008,.own 499009]),(499008,.arr 9 .str),(499009,.arr 201 lP)],[iT,iT,iT,lsT,(.sl lP)]⟩ [4,9,67,68] [4,60],jd 25 [(92,.bool)] [4,7,9,12,15,67,68,69] [4,12,15,60,499007,499008,499009]] (js:=[9,1000000]) (H:=[(40,.str),(199,lP)]) (hs:=[23,25,40,43,47,60,1000047]) (zs:=[98,103]) (bs:=[20,45,50,54,95,97,101,102,5000201,5500004,8000201,16500015,20000125,50000125,54999002,97000257,106000201,106999007,107000201,107999007])).2
theorem aC.okN:∀ n,de pP (aC.gN (aC.rec n))
 | 0=>⟨by kernel_rfl,fun x r h=>by have h2:(none:Option (Tup aC.qs))=some r:=h; cases h2⟩
 | n+1=>aC.okB _ (aC.okN n)
noncomputable def aC.k:Kn:=⟨aC.gN (aC.rec Fuel.n),aC.okN _⟩
def gH.k:Kn:=mK ⟨52,[.c (.g [.d iT,.d (.sl bJ)]),.c (.g [.d iT,.d (.sl bJ)])],[],[],[iT,(.sl bJ),iT,(.sl bJ)],.one (.v (.d .bool)),[],[.bool],(u4 gH)⟩ [gL.k,bh.k,aO.k,aC.k] [(8,0),(12,0),(19,1),(20,2),(21,3)] Tryz.func52 [jd 2 [(14,.bool)] [2,3] [2,3]] (js:=[1000000]) (bs:=[16,17,18,3000125,4000125,6000201])
def cD.k:Kn:=mK ⟨20,[sA jC],[],[],[jC],.one (.v (.vp 0)),[(0,.arr 138 .bool)],[lbT],cD⟩ [b7.k,gH.k] [(52,0),(59,1)] Tryz.func20 [.l 5 ⟨[(3,.c (.v (.vp 499001))),(21,aI)],[(499001,.arr 138 .bool)],[iT,lbT]⟩ [4,20] [4],.l 11 ⟨[(3,.c (.v (.vp 499002))),(27,aI)],[(499002,.arr 138 .bool)],[iT,lbT]⟩ [4,5,20,21,25,26] [4],.l 17 ⟨[(3,.c (.v (.vp 499003))),(33,aI)],[(499003,.arr 138 .bool)],[iT,lbT]⟩ [4,5,7,8,20,21,25,26,27,32] [4,8],.l 23 ⟨[(3,.c (.v (.vp 499004))),(39,aI)],[(499004,.arr 138 .bool)],[iT,lbT]⟩ [4,5,7,8,9,20,21,25,26,27,32,33,37,38] [4,8]] (H:=[(138,.bool)]) (zs:=[14]) (bs:=[50,56,58])
def mO.k:Kn:=mK (cA 186 [lbT,iT] .bool (u2 mO)) [] [] Tryz.func186 []
def jk.k:Kn:=mK (cA 118 [lbT,iT] iT (u2 jk)) [mO.k] [(7,0)] Tryz.func118 []
def az.k:Kn:=mK ⟨53,[.c (.v (.vp 1000000)),sA jC,(aD lbT)],[(1000000,.arr 138 .bool)],[],[jC,lbT,lbT],.tup [.v (.d iT),.v (.d iT),.v (.d .bool)],[],[iT,iT,.bool],(u3 az)⟩ [jk.k] [(30,0),(46,0),(102,0)] Tryz.func53 [.j 2 ⟨[(9,.c (.v (.vp 499002)))],[(499002,.arr 135 .bool)],[lbT]⟩ [0,2,4] [4,1000000] true,.l 4 ⟨[(9,.c (.v (.vp 499003))),(22,aI)],[(499003,.arr 135 .bool)],[iT,lbT]⟩ [0,2,4,20,21] [4,1000000],ld 11 [(37,iT)] [0,2,4,9,35,36] [4,499002,1000000],jd 18 [(15,.bool)] [0,2,4,9,12,14,35,36,37] [4,499002,1000000],ld 20 [(15,.bool),(53,iT)] [0,2,4,9,12,14,35,36,37,52] [4,499002,1000000],ld 26 [(91,iT)] [0,2,4,9,12,14,15,35,36,37,89,90] [4,499002,1000000],jd 31 [(108,.bool)] [0,2,4,9,12,14,15,17,35,36,37,89,90,91] [4,499002,1000000]] (js:=[7,17,1000000]) (H:=[(135,.bool)]) (zs:=[9])
def l7.k:Kn:=mK (cT 54 [liT,iT] [iT,.bool] (u2 l7)) [] [] Tryz.func54 []
def bB.k:Kn:=mK ⟨21,[.c (.v (.vp 1000000)),sA jC,aD (.sl lA),aI,aJ],[(1000000,.arr 138 .bool)],[],[jC,(.sl lA),iT,liT,lbT],.tup [.v (.d liT),.v (.d iT)],[],[liT,iT],(u5 bB)⟩ [az.k,l7.k] [(35,0),(79,1),(97,0)] Tryz.func21 [.l 9 ⟨[(12,sO 499007),(16,sO 499008),(42,aI)],[(499007,.arr 4 .bool),(499008,.arr 3 iT)],[iT,lbT,liT]⟩ [0,3,4,6,40,41] [6,1000000],jd 15 [(19,iT)] [0,3,4,6,12,16,18,40,41,42] [6,18,499007,499008,1000000],.j 20 ⟨[(12,sO 499010)],[(499010,.arr 4 .bool)],[lbT]⟩ [0,3,4,6,16,19,40,41,42] [6,499008,1000000] false,.l 22 ⟨[(12,sO 499011),(68,aI)],[(499011,.arr 4 .bool)],[iT,lbT]⟩ [0,3,4,6,16,19,40,41,42,66,67] [6,499008,1000000],jd 29 [(87,.bool)] [0,3,4,6,12,16,19,21,40,41,42,66,67,68] [6,499008,499011,1000000]] (js:=[12,22,1000000]) (H:=[(23,iT),(85,.bool)]) (hs:=[35,97]) (zs:=[105])
def mP.k:Kn:=mK (cT 7 [jC,(.sl lA),iT,liT] [liT,iT] (u4 mP)) [kW.k,bg.k,cD.k,bB.k] [(11,0),(20,1),(24,2),(29,3)] Tryz.func7 [jd 2 [(22,.bool)] [1,2,3,4] [4]] (js:=[1000000]) (hs:=[29,1000029]) (bs:=[23,25])
def aQ.k:Kn:=mK ⟨21,[.c (.v (.vp 1000000)),sA jC,aD (.sl lA),aI,aJ],[(1000000,.arr 138 .bool)],[],[jC,(.sl lA),iT,liT,lbT],.tup [.v (.own 0),.v (.d iT)],[(0,.arr 3 iT)],[iT,liT],(u5 aQ)⟩ [az.k,l7.k] [(35,0),(79,1),(97,0)] Tryz.func21 [.l 9 ⟨[(12,sO 499007),(16,sO 499008),(42,aI)],[(499007,.arr 4 .bool),(499008,.arr 3 iT)],[iT,lbT,liT]⟩ [0,3,4,6,40,41] [6,1000000],jd 15 [(19,iT)] [0,3,4,6,12,16,18,40,41,42] [6,18,499007,499008,1000000],.j 20 ⟨[(12,sO 499010)],[(499010,.arr 4 .bool)],[lbT]⟩ [0,3,4,6,16,19,40,41,42] [6,499008,1000000] false,.l 22 ⟨[(12,sO 499011),(68,aI)],[(499011,.arr 4 .bool)],[iT,lbT]⟩ [0,3,4,6,16,19,40,41,42,66,67] [6,499008,1000000],jd 29 [(87,.bool)] [0,3,4,6,12,16,19,21,40,41,42,66,67,68] [6,499008,499011,1000000]] (js:=[12,22,1000000]) (H:=[(23,iT),(85,.bool)]) (hs:=[35,97]) (zs:=[105])
def jl.k:Kn:=mK ⟨7,[sA jC,aD (.sl lA),aI,aJ],[],[],[jC,(.sl lA),iT,liT],.tup [.v (.own 0),.v (.d iT)],[(0,.arr 3 iT)],[iT,liT],(u4 jl)⟩ [kW.k,bg.k,cD.k,aQ.k] [(11,0),(20,1),(24,2),(29,3)] Tryz.func7 [jd 2 [(22,.bool)] [1,2,3,4] [4]] (js:=[1000000]) (hs:=[29,1000029]) (bs:=[23,25])
def aK.k:Kn:=mK (cA 3 [jC,(.sl lA),iT] .bool (u3 aK)) [eZ.k,iS.k,cw.k,mP.k,jl.k] [(15,0),(17,1),(21,2),(56,3),(83,4)] Tryz.func3 [jd 3 [(23,.bool)] [1,2,3,7] [3],.j 7 ⟨[(8,aI),(9,sO 499003)],[(499003,.arr 31 lA)],[iT,(.sl lA)]⟩ [1,2,3,7] [3] true,.l 9 ⟨[(8,aI),(9,sO 499005),(10,aI)],[(499005,.arr 31 lA)],[iT,iT,(.sl lA)]⟩ [1,2,3,7] [3],jd 16 [(71,.bool)] [2,3,7,9,11,12] [3,499003]] (js:=[11,1000000]) (H:=[(26,lA)]) (zs:=[50])
end
end Go.Proofs.YtcppfkflcigjcaaGreatDoor
