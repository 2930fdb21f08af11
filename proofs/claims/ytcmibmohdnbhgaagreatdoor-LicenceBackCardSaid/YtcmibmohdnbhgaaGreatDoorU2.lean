import Derived.Test.YtcmibmohdnbhgaaGreatDoorAb19
import Derived.KernelRfl
namespace Go.Lad
set_option linter.unusedVariables false
inductive FieldT where
 | mk (name:List UInt8) (kind:Int) (fields:List FieldT)
inductive ExpT where
 | mk (op n:Int) (s m:List UInt8) (names:List (List UInt8)) (args:List ExpT)
inductive LicT where
 | mk (op:Int) (name:List UInt8) (args:List LicT)
mutual
def FieldT.enc:FieldT → List PV
 | .mk n k fs=>[.str (mkS n),.int .i64 k,.sl (FieldT.encs fs)]
def FieldT.encs:List FieldT → List (List PV)
 | []=>[]
 | x :: r=>x.enc :: FieldT.encs r
end
mutual
def ExpT.enc:ExpT → List PV
 | .mk o n s m ns as=>[.int .i64 o,.int .i64 n,.str (mkS s),.str (mkS m),.sl (ns.map fun x=>[.str (mkS x)]),.sl (ExpT.encs as)]
def ExpT.encs:List ExpT → List (List PV)
 | []=>[]
 | x :: r=>x.enc :: ExpT.encs r
end
mutual
def LicT.enc:LicT → List PV
 | .mk o n as=>[.int .i64 o,.str (mkS n),.sl (LicT.encs as)]
def LicT.encs:List LicT → List (List PV)
 | []=>[]
 | x :: r=>x.enc :: LicT.encs r
end
theorem FieldT.encs_map:∀ l:List FieldT,FieldT.encs l = l.map FieldT.enc
 | []=>by rw[FieldT.encs]; rfl
 | x :: r=>by rw[FieldT.encs,FieldT.encs_map r]; rfl
theorem ExpT.encs_map:∀ l:List ExpT,ExpT.encs l = l.map ExpT.enc
 | []=>by rw[ExpT.encs]; rfl
 | x :: r=>by rw[ExpT.encs,ExpT.encs_map r]; rfl
theorem LicT.encs_map:∀ l:List LicT,LicT.encs l = l.map LicT.enc
 | []=>by rw[LicT.encs]; rfl
 | x :: r=>by rw[LicT.encs,LicT.encs_map r]; rfl
def UD:Nat → Type
 | 0=>FieldT
 | 1=>ExpT
 | 2=>LicT
 | _=>Bool
def Uenc:(i:Nat) → UD i → List PV
 | 0,x=>FieldT.enc x
 | 1,x=>ExpT.enc x
 | 2,x=>LicT.enc x
 | _ + 3,x=>[.bool x]
end Go.Lad
namespace Go.Lad
set_option linter.unusedVariables false
set_option linter.unusedSimpArgs false
open Go.RowKit
def Any:Type:=Value
noncomputable def anyDec:DecidableEq Any:=fun a b=>Classical.propDecidable (a = b)
inductive Ty where
 | any
 | int (k:IntKind)
 | bool
 | str
 | sl (e:Ty)
 | pair (a b:Ty)
 | map (k:IntKind) (e:Ty)
 | slu (i:Nat)
def Ty.den:Ty → Type
 | .any=>Any
 | .int _=>Int
 | .bool=>Bool
 | .str=>Bs
 | .sl e=>List e.den
 | .pair a b=>a.den × b.den
 | .map _ e=>List (Int × List e.den)
 | .slu i=>List (UD i)
def Ty.cells:Ty → Nat
 | .pair a b=>a.cells + b.cells
 | _=>1
def enc:(t:Ty) → t.den → List PV
 | .any,x=>[.oth x]
 | .int k,x=>[.int k x]
 | .bool,x=>[.bool x]
 | .str,x=>[.str (mkS x)]
 | .sl e,x=>[.sl (List.map (enc e) x)]
 | .pair a b,x=>enc a x.1 ++ enc b x.2
 | .map k e,x=>[.mp k (List.map (fun q=>(q.1,List.map (enc e) q.2)) x)]
 | .slu i,x=>[.sl (List.map (Uenc i) x)]
theorem enc_len:∀ (t:Ty) (x:t.den),(enc t x).length = t.cells
 | .any,_=>rfl
 | .int _,_=>rfl
 | .bool,_=>rfl
 | .str,_=>rfl
 | .sl _,_=>rfl
 | .map _ _,_=>rfl
 | .slu _,_=>rfl
 | .pair a b,x=>by unfold enc Ty.cells; rw[List.length_append,enc_len a,enc_len b]
def IntKind.same (a b:IntKind):Option (PLift (a = b)):=if h:a = b then some ⟨h⟩ else none
def Ty.same:(a b:Ty) → Option (PLift (a = b))
 | .int k,.int k'=>(IntKind.same k k').map fun h=>⟨by rw[h.down]⟩
 | .any,.any=>some ⟨rfl⟩
 | .bool,.bool=>some ⟨rfl⟩
 | .str,.str=>some ⟨rfl⟩
 | .sl a,.sl b=>(Ty.same a b).map fun h=>⟨by rw[h.down]⟩
 | .slu i,.slu j=>if h:i = j then some ⟨by rw[h]⟩ else none
 | .pair a b,.pair c d=>match Ty.same a c,Ty.same b d with
  | some h,some g=>some ⟨by rw[h.down,g.down]⟩
  | _,_=>none
 | .map k a,.map k' b=>match IntKind.same k k',Ty.same a b with
  | some h,some g=>some ⟨by rw[h.down,g.down]⟩
  | _,_=>none
 | _,_=>none
def castTy {a b:Ty} (h:a = b) (x:a.den):b.den:=h ▸ x
def asTy {α:Type} (a b:Ty) (x:a.den) (k:b.den → Option α):Option α :=
 match Ty.same a b with
 | some h=>k (castTy h.down x)
 | none=>none
end Go.Lad
namespace Go.Lad
set_option linter.unusedVariables false
def Ubody:Nat → Ty
 | 0=>.pair .str (.pair (.int .i64) (.slu 0))
 | 1=>.pair (.int .i64) (.pair (.int .i64) (.pair .str (.pair .str (.pair (.sl .str) (.slu 1)))))
 | 2=>.pair (.int .i64) (.pair .str (.slu 2))
 | _=>.bool
def Uun:(i:Nat) → UD i → (Ubody i).den
 | 0,x=>match x with | FieldT.mk n k fs=>(n,k,fs)
 | 1,x=>match x with | ExpT.mk o n s m ns as=>(o,n,s,m,ns,as)
 | 2,x=>match x with | LicT.mk o n as=>(o,n,as)
 | _ + 3,x=>x
def Umk:(i:Nat) → (Ubody i).den → UD i
 | 0,x=>FieldT.mk x.1 x.2.1 x.2.2
 | 1,x=>ExpT.mk x.1 x.2.1 x.2.2.1 x.2.2.2.1 x.2.2.2.2.1 x.2.2.2.2.2
 | 2,x=>LicT.mk x.1 x.2.1 x.2.2
 | _ + 3,x=>x
theorem Umk_un:∀ (i:Nat) (x:UD i),Umk i (Uun i x) = x
 | 0,x=>by cases x; rfl
 | 1,x=>by cases x; rfl
 | 2,x=>by cases x; rfl
 | _ + 3,x=>rfl
theorem Uun_mk:∀ (i:Nat) (x:(Ubody i).den),Uun i (Umk i x) = x
 | 0,x=>rfl
 | 1,x=>rfl
 | 2,x=>rfl
 | _ + 3,x=>rfl
theorem Uenc_un:∀ (i:Nat) (x:UD i),enc (Ubody i) (Uun i x) = Uenc i x
 | 0,x=>by
  cases x with | mk n k fs =>
  show [PV.str (mkS n)] ++ ([.int .i64 k] ++ [.sl (List.map (Uenc 0) fs)]) = FieldT.enc (.mk n k fs)
  rw[FieldT.enc,FieldT.encs_map]; rfl
 | 1,x=>by
  cases x with | mk o n s m ns as =>
  show [PV.int .i64 o] ++ ([.int .i64 n] ++ ([.str (mkS s)] ++ ([.str (mkS m)] ++ ([.sl (List.map (enc .str) ns)] ++ [.sl (List.map (Uenc 1) as)])))) = ExpT.enc (.mk o n s m ns as)
  rw[ExpT.enc,ExpT.encs_map]; rfl
 | 2,x=>by
  cases x with | mk o n as =>
  show [PV.int .i64 o] ++ ([.str (mkS n)] ++ [.sl (List.map (Uenc 2) as)]) = LicT.enc (.mk o n as)
  rw[LicT.enc,LicT.encs_map]; rfl
 | _ + 3,x=>rfl
theorem enc_slu (i:Nat) (l:List (UD i)):enc (.sl (Ubody i)) (l.map (Uun i)) = enc (.slu i) l:=by
 show [PV.sl (List.map (enc (Ubody i)) (l.map (Uun i)))] = [.sl (List.map (Uenc i) l)]
 rw[List.map_map]
 congr 2
 exact List.map_congr_left fun x _=>Uenc_un i x
theorem enc_slm (i:Nat) (l:List (Ubody i).den):enc (.slu i) (l.map (Umk i)) = enc (.sl (Ubody i)) l:=by
 rw[← enc_slu,List.map_map]
 congr 1
 exact (List.map_congr_left fun x _=>Uun_mk i x).trans (List.map_id l)
def asTyU {α:Type}:(a b:Ty) → a.den → (b.den → Option α) → Option α
 | .sl e,.slu i,x,k=>asTy (.sl e) (.sl (Ubody i)) x fun y=>k (List.map (Umk i) y)
 | .slu j,.sl e,x,k=>asTy (.sl (Ubody j)) (.sl e) (List.map (Uun j) x) k
 | a,b,x,k=>asTy a b x k
def nilT {α:Type}:(t:Ty) → (t.den → Option α) → Option α
 | .sl e,k=>k ([]:List e.den)
 | .slu i,k=>k ([]:List (UD i))
 | _,_=>none
theorem asTy_cast {α:Type} {a b:Ty} {x:a.den} {k:b.den → Option α} {r:α} (h:asTy a b x k = some r):∃ e:a = b,k (castTy e x) = some r:=by
 unfold asTy at h
 split at h
 ·rename_i g _; exact⟨g.down,h⟩
 ·cases h
theorem asTyU_some {α:Type} {a b:Ty} {x:a.den} {k:b.den → Option α} {r:α} (h:asTyU a b x k = some r):∃ y:b.den,k y = some r ∧ enc b y = enc a x:=by
 unfold asTyU at h
 split at h
 ·obtain⟨e,h⟩:=asTy_cast h
  injection e with e
  subst e
  exact⟨_,h,enc_slm _ _⟩
 ·obtain⟨e,h⟩:=asTy_cast h
  injection e with e
  subst e
  exact⟨_,h,enc_slu _ _⟩
 ·obtain⟨e,h⟩:=asTy_cast h
  subst e
  exact⟨_,h,rfl⟩
theorem nilT_some {α:Type} {t:Ty} {k:t.den → Option α} {r:α} (h:nilT t k = some r):∃ y:t.den,k y = some r ∧ enc t y = [.sl []]:=by
 unfold nilT at h
 split at h
 ·exact⟨_,h,rfl⟩
 ·exact⟨_,h,rfl⟩
 ·cases h
end Go.Lad
