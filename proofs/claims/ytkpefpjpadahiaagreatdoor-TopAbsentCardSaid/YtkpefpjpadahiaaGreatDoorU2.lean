import Derived.Test.YtkpefpjpadahiaaGreatDoorAb19
import Derived.KernelRfl
namespace Go.Lad
set_option linter.unusedVariables false
inductive iu where
 | mk (name:List UInt8) (kind:Int) (fields:List iu)
inductive ck where
 | mk (op n:Int) (s m:List UInt8) (names:List (List UInt8)) (args:List ck)
inductive aE where
 | mk (op:Int) (name:List UInt8) (args:List aE)
mutual
def iu.enc:iu->List PV
 | .mk n k fs=>[.str (mkS n),.int .i64 k,.sl (iu.pk fs)]
def iu.pk:List iu->List (List PV)
 | []=>[]
 | x::r=>x.enc::iu.pk r
end
mutual
def ck.enc:ck->List PV
 | .mk o n s m ns as=>[.int .i64 o,.int .i64 n,.str (mkS s),.str (mkS m),.sl (ns.map fun x=>[.str (mkS x)]),.sl (ck.pk as)]
def ck.pk:List ck->List (List PV)
 | []=>[]
 | x::r=>x.enc::ck.pk r
end
mutual
def aE.enc:aE->List PV
 | .mk o n as=>[.int .i64 o,.str (mkS n),.sl (aE.pk as)]
def aE.pk:List aE->List (List PV)
 | []=>[]
 | x::r=>x.enc::aE.pk r
end
theorem iu.lL:∀ l:List iu,iu.pk l=l.map iu.enc
 | []=>by rw[iu.pk]; rfl
 | x::r=>by rw[iu.pk,iu.lL r]; rfl
theorem ck.lL:∀ l:List ck,ck.pk l=l.map ck.enc
 | []=>by rw[ck.pk]; rfl
 | x::r=>by rw[ck.pk,ck.lL r]; rfl
theorem aE.lL:∀ l:List aE,aE.pk l=l.map aE.enc
 | []=>by rw[aE.pk]; rfl
 | x::r=>by rw[aE.pk,aE.lL r]; rfl
def UD:Nat->Type
 | 0=>iu
 | 1=>ck
 | 2=>aE
 | _=>Bool
def F7:(i:Nat)->UD i->List PV
 | 0,x=>iu.enc x
 | 1,x=>ck.enc x
 | 2,x=>aE.enc x
 | _+3,x=>[.bool x]
end Go.Lad
namespace Go.Lad
set_option linter.unusedVariables false
set_option linter.unusedSimpArgs false
open Go.RowKit
def Any:Type:=Value
noncomputable def Np:DecidableEq Any:=fun a b=>Classical.propDecidable (a=b)
inductive Ty where
 | any
 | int (k:IntKind)
 | bool
 | str
 | sl (e:Ty)
 | pair (a b:Ty)
 | map (k:IntKind) (e:Ty)
 | slu (i:Nat)
def Ty.den:Ty->Type
 | .any=>Any
 | .int _=>Int
 | .bool=>Bool
 | .str=>Bs
 | .sl e=>List e.den
 | .pair a b=>a.den×b.den
 | .map _ e=>List (Int×List e.den)
 | .slu i=>List (UD i)
def Ty.cells:Ty->Nat
 | .pair a b=>a.cells+b.cells
 | _=>1
def enc:(t:Ty)->t.den->List PV
 | .any,x=>[.oth x]
 | .int k,x=>[.int k x]
 | .bool,x=>[.bool x]
 | .str,x=>[.str (mkS x)]
 | .sl e,x=>[.sl (List.map (enc e) x)]
 | .pair a b,x=>enc a x.1++enc b x.2
 | .map k e,x=>[.mp k (List.map (fun q=>(q.1,List.map (enc e) q.2)) x)]
 | .slu i,x=>[.sl (List.map (F7 i) x)]
theorem kO:∀ (t:Ty) (x:t.den),(enc t x).length=t.cells
 | .any,_=>rfl
 | .int _,_=>rfl
 | .bool,_=>rfl
 | .str,_=>rfl
 | .sl _,_=>rfl
 | .map _ _,_=>rfl
 | .slu _,_=>rfl
 | .pair a b,x=>by unfold enc Ty.cells; rw[List.length_append,kO a,kO b]
def IntKind.same (a b:IntKind):Option (PLift (a=b)):=if h:a=b then some ⟨h⟩ else none
def Ty.same:(a b:Ty)->Option (PLift (a=b))
 | .int k,.int k'=>(IntKind.same k k').map fun h=>⟨by rw[h.down]⟩
 | .any,.any=>some ⟨rfl⟩
 | .bool,.bool=>some ⟨rfl⟩
 | .str,.str=>some ⟨rfl⟩
 | .sl a,.sl b=>(Ty.same a b).map fun h=>⟨by rw[h.down]⟩
 | .slu i,.slu j=>if h:i=j then some ⟨by rw[h]⟩ else none
 | .pair a b,.pair c d=>match Ty.same a c,Ty.same b d with
  | some h,some g=>some ⟨by rw[h.down,g.down]⟩
  | _,_=>none
 | .map k a,.map k' b=>match IntKind.same k k',Ty.same a b with
  | some h,some g=>some ⟨by rw[h.down,g.down]⟩
  | _,_=>none
 | _,_=>none
def lf {a b:Ty} (h:a=b) (x:a.den):b.den:=h ▸ x
def kP {α:Type} (a b:Ty) (x:a.den) (k:b.den->Option α):Option α :=
 match Ty.same a b with
 | some h=>k (lf h.down x)
 | none=>none
end Go.Lad
namespace Go.Lad
set_option linter.unusedVariables false
def iz:Nat->Ty
 | 0=>.pair .str (.pair (.int .i64) (.slu 0))
 | 1=>.pair (.int .i64) (.pair (.int .i64) (.pair .str (.pair .str (.pair (.sl .str) (.slu 1)))))
 | 2=>.pair (.int .i64) (.pair .str (.slu 2))
 | _=>.bool
def Uun:(i:Nat)->UD i->(iz i).den
 | 0,x=>match x with | iu.mk n k fs=>(n,k,fs)
 | 1,x=>match x with | ck.mk o n s m ns as=>(o,n,s,m,ns,as)
 | 2,x=>match x with | aE.mk o n as=>(o,n,as)
 | _+3,x=>x
def Umk:(i:Nat)->(iz i).den->UD i
 | 0,x=>iu.mk x.1 x.2.1 x.2.2
 | 1,x=>ck.mk x.1 x.2.1 x.2.2.1 x.2.2.2.1 x.2.2.2.2.1 x.2.2.2.2.2
 | 2,x=>aE.mk x.1 x.2.1 x.2.2
 | _+3,x=>x
theorem Il:∀ (i:Nat) (x:UD i),Umk i (Uun i x)=x
 | 0,x=>by cases x; rfl
 | 1,x=>by cases x; rfl
 | 2,x=>by cases x; rfl
 | _+3,x=>rfl
theorem Nq:∀ (i:Nat) (x:(iz i).den),Uun i (Umk i x)=x
 | 0,x=>rfl
 | 1,x=>rfl
 | 2,x=>rfl
 | _+3,x=>rfl
theorem KT:∀ (i:Nat) (x:UD i),enc (iz i) (Uun i x)=F7 i x
 | 0,x=>by
  cases x with | mk n k fs =>
  show [PV.str (mkS n)]++([.int .i64 k]++[.sl (List.map (F7 0) fs)])=iu.enc (.mk n k fs);rw[iu.enc,iu.lL]; rfl
 | 1,x=>by
  cases x with | mk o n s m ns as =>
  show [PV.int .i64 o]++([.int .i64 n]++([.str (mkS s)]++([.str (mkS m)]++([.sl (List.map (enc .str) ns)]++[.sl (List.map (F7 1) as)]))))=ck.enc (.mk o n s m ns as);rw[ck.enc,ck.lL]; rfl
 | 2,x=>by
  cases x with | mk o n as =>
  show [PV.int .i64 o]++([.str (mkS n)]++[.sl (List.map (F7 2) as)])=aE.enc (.mk o n as);rw[aE.enc,aE.lL]; rfl
 | _+3,x=>rfl
theorem pQ (i:Nat) (l:List (UD i)):enc (.sl (iz i)) (l.map (Uun i))=enc (.slu i) l:=by
 show [PV.sl (List.map (enc (iz i)) (l.map (Uun i)))]=[.sl (List.map (F7 i) l)];rw[List.map_map];congr 2;exact List.map_congr_left fun x _=>KT i x
theorem En (i:Nat) (l:List (iz i).den):enc (.slu i) (l.map (Umk i))=enc (.sl (iz i)) l:=by
 rw[← pQ,List.map_map];congr 1;exact (List.map_congr_left fun x _=>Nq i x).trans (List.map_id l)
def tK {α:Type}:(a b:Ty)->a.den->(b.den->Option α)->Option α
 | .sl e,.slu i,x,k=>kP (.sl e) (.sl (iz i)) x fun y=>k (List.map (Umk i) y)
 | .slu j,.sl e,x,k=>kP (.sl (iz j)) (.sl e) (List.map (Uun j) x) k
 | a,b,x,k=>kP a b x k
def Im {α:Type}:(t:Ty)->(t.den->Option α)->Option α
 | .sl e,k=>k ([]:List e.den)
 | .slu i,k=>k ([]:List (UD i))
 | _,_=>none
theorem sM {α:Type} {a b:Ty} {x:a.den} {k:b.den->Option α} {r:α} (h:kP a b x k=some r):∃ e:a=b,k (lf e x)=some r:=by
 unfold kP at h;split at h
 ·rename_i g _; exact⟨g.down,h⟩
 ·cases h
theorem lg {α:Type} {a b:Ty} {x:a.den} {k:b.den->Option α} {r:α} (h:tK a b x k=some r):∃ y:b.den,k y=some r/\enc b y=enc a x:=by
 unfold tK at h;split at h
 ·obtain⟨e,h⟩:=sM h;injection e with e
  subst e;exact⟨_,h,En _ _⟩
 ·obtain⟨e,h⟩:=sM h;injection e with e
  subst e;exact⟨_,h,pQ _ _⟩
 ·obtain⟨e,h⟩:=sM h;subst e;exact⟨_,h,rfl⟩
theorem sN {α:Type} {t:Ty} {k:t.den->Option α} {r:α} (h:Im t k=some r):∃ y:t.den,k y=some r/\enc t y=[.sl []]:=by
 unfold Im at h;split at h
 ·exact⟨_,h,rfl⟩
 ·exact⟨_,h,rfl⟩
 ·cases h
end Go.Lad
