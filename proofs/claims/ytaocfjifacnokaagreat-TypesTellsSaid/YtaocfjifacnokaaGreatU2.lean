import Derived.Test.YtaocfjifacnokaaGreatAb19
import Derived.KernelRfl
namespace Go.Lad
set_option linter.unusedVariables false
inductive ab where
 | mk (name:List UInt8) (kind:Int) (fields:List ab)
inductive cN where
 | mk (op n:Int) (s m:List UInt8) (names:List (List UInt8)) (args:List cN)
inductive lS where
 | mk (op:Int) (name:List UInt8) (args:List lS)
mutual
def ab.enc:ab → List PV
 | .mk n k fs=>[.str (mkS n),.int .i64 k,.sl (ab.oB fs)]
def ab.oB:List ab → List (List PV)
 | []=>[]
 | x :: r=>x.enc :: ab.oB r
end
mutual
def cN.enc:cN → List PV
 | .mk o n s m ns as=>[.int .i64 o,.int .i64 n,.str (mkS s),.str (mkS m),.sl (ns.map fun x=>[.str (mkS x)]),.sl (cN.oB as)]
def cN.oB:List cN → List (List PV)
 | []=>[]
 | x :: r=>x.enc :: cN.oB r
end
mutual
def lS.enc:lS → List PV
 | .mk o n as=>[.int .i64 o,.str (mkS n),.sl (lS.oB as)]
def lS.oB:List lS → List (List PV)
 | []=>[]
 | x :: r=>x.enc :: lS.oB r
end
theorem ab.ky:∀ l:List ab,ab.oB l = l.map ab.enc
 | []=>by rw[ab.oB]; rfl
 | x :: r=>by rw[ab.oB,ab.ky r]; rfl
theorem cN.ky:∀ l:List cN,cN.oB l = l.map cN.enc
 | []=>by rw[cN.oB]; rfl
 | x :: r=>by rw[cN.oB,cN.ky r]; rfl
theorem lS.ky:∀ l:List lS,lS.oB l = l.map lS.enc
 | []=>by rw[lS.oB]; rfl
 | x :: r=>by rw[lS.oB,lS.ky r]; rfl
def UD:Nat → Type
 | 0=>ab
 | 1=>cN
 | 2=>lS
 | _=>Bool
def ER:(i:Nat) → UD i → List PV
 | 0,x=>ab.enc x
 | 1,x=>cN.enc x
 | 2,x=>lS.enc x
 | _ + 3,x=>[.bool x]
end Go.Lad
namespace Go.Lad
set_option linter.unusedVariables false
set_option linter.unusedSimpArgs false
open Go.RowKit
def Any:Type:=Value
noncomputable def Kv:DecidableEq Any:=fun a b=>Classical.propDecidable (a = b)
inductive Ty where
 | any
 | int (k:IntKind)
 | bool
 | str
 | sl (e:Ty)
 | pair (a b:Ty)
 | map (k:IntKind) (e:Ty)
 | slu (i:Nat)
def Ty.den:Ty → Type
 | .any=>Any
 | .int _=>Int
 | .bool=>Bool
 | .str=>Bs
 | .sl e=>List e.den
 | .pair a b=>a.den × b.den
 | .map _ e=>List (Int × List e.den)
 | .slu i=>List (UD i)
def Ty.cells:Ty → Nat
 | .pair a b=>a.cells + b.cells
 | _=>1
def enc:(t:Ty) → t.den → List PV
 | .any,x=>[.oth x]
 | .int k,x=>[.int k x]
 | .bool,x=>[.bool x]
 | .str,x=>[.str (mkS x)]
 | .sl e,x=>[.sl (List.map (enc e) x)]
 | .pair a b,x=>enc a x.1 ++ enc b x.2
 | .map k e,x=>[.mp k (List.map (fun q=>(q.1,List.map (enc e) q.2)) x)]
 | .slu i,x=>[.sl (List.map (ER i) x)]
theorem kk:∀ (t:Ty) (x:t.den),(enc t x).length = t.cells
 | .any,_=>rfl
 | .int _,_=>rfl
 | .bool,_=>rfl
 | .str,_=>rfl
 | .sl _,_=>rfl
 | .map _ _,_=>rfl
 | .slu _,_=>rfl
 | .pair a b,x=>by unfold enc Ty.cells; rw[List.length_append,kk a,kk b]
def IntKind.same (a b:IntKind):Option (PLift (a = b)):=if h:a = b then some ⟨h⟩ else none
def Ty.same:(a b:Ty) → Option (PLift (a = b))
 | .int k,.int k'=>(IntKind.same k k').map fun h=>⟨by rw[h.down]⟩
 | .any,.any=>some ⟨rfl⟩
 | .bool,.bool=>some ⟨rfl⟩
 | .str,.str=>some ⟨rfl⟩
 | .sl a,.sl b=>(Ty.same a b).map fun h=>⟨by rw[h.down]⟩
 | .slu i,.slu j=>if h:i = j then some ⟨by rw[h]⟩ else none
 | .pair a b,.pair c d=>match Ty.same a c,Ty.same b d with
  | some h,some g=>some ⟨by rw[h.down,g.down]⟩
  | _,_=>none
 | .map k a,.map k' b=>match IntKind.same k k',Ty.same a b with
  | some h,some g=>some ⟨by rw[h.down,g.down]⟩
  | _,_=>none
 | _,_=>none
def jT {a b:Ty} (h:a = b) (x:a.den):b.den:=h ▸ x
def jF {α:Type} (a b:Ty) (x:a.den) (k:b.den → Option α):Option α :=
 match Ty.same a b with
 | some h=>k (jT h.down x)
 | none=>none
end Go.Lad
namespace Go.Lad
set_option linter.unusedVariables false
def eH:Nat → Ty
 | 0=>.pair .str (.pair (.int .i64) (.slu 0))
 | 1=>.pair (.int .i64) (.pair (.int .i64) (.pair .str (.pair .str (.pair (.sl .str) (.slu 1)))))
 | 2=>.pair (.int .i64) (.pair .str (.slu 2))
 | _=>.bool
def Uun:(i:Nat) → UD i → (eH i).den
 | 0,x=>match x with | ab.mk n k fs=>(n,k,fs)
 | 1,x=>match x with | cN.mk o n s m ns as=>(o,n,s,m,ns,as)
 | 2,x=>match x with | lS.mk o n as=>(o,n,as)
 | _ + 3,x=>x
def Umk:(i:Nat) → (eH i).den → UD i
 | 0,x=>ab.mk x.1 x.2.1 x.2.2
 | 1,x=>cN.mk x.1 x.2.1 x.2.2.1 x.2.2.2.1 x.2.2.2.2.1 x.2.2.2.2.2
 | 2,x=>lS.mk x.1 x.2.1 x.2.2
 | _ + 3,x=>x
theorem GH:∀ (i:Nat) (x:UD i),Umk i (Uun i x) = x
 | 0,x=>by cases x; rfl
 | 1,x=>by cases x; rfl
 | 2,x=>by cases x; rfl
 | _ + 3,x=>rfl
theorem GI:∀ (i:Nat) (x:(eH i).den),Uun i (Umk i x) = x
 | 0,x=>rfl
 | 1,x=>rfl
 | 2,x=>rfl
 | _ + 3,x=>rfl
theorem IX:∀ (i:Nat) (x:UD i),enc (eH i) (Uun i x) = ER i x
 | 0,x=>by
  cases x with | mk n k fs =>
  show [PV.str (mkS n)] ++ ([.int .i64 k] ++ [.sl (List.map (ER 0) fs)]) = ab.enc (.mk n k fs)
  rw[ab.enc,ab.ky]; rfl
 | 1,x=>by
  cases x with | mk o n s m ns as =>
  show [PV.int .i64 o] ++ ([.int .i64 n] ++ ([.str (mkS s)] ++ ([.str (mkS m)] ++ ([.sl (List.map (enc .str) ns)] ++ [.sl (List.map (ER 1) as)])))) = cN.enc (.mk o n s m ns as)
  rw[cN.enc,cN.ky]; rfl
 | 2,x=>by
  cases x with | mk o n as =>
  show [PV.int .i64 o] ++ ([.str (mkS n)] ++ [.sl (List.map (ER 2) as)]) = lS.enc (.mk o n as)
  rw[lS.enc,lS.ky]; rfl
 | _ + 3,x=>rfl
theorem pf (i:Nat) (l:List (UD i)):enc (.sl (eH i)) (l.map (Uun i)) = enc (.slu i) l:=by
 show [PV.sl (List.map (enc (eH i)) (l.map (Uun i)))] = [.sl (List.map (ER i) l)]
 rw[List.map_map]
 congr 2
 exact List.map_congr_left fun x _=>IX i x
theorem Dr (i:Nat) (l:List (eH i).den):enc (.slu i) (l.map (Umk i)) = enc (.sl (eH i)) l:=by
 rw[← pf,List.map_map]
 congr 1
 exact (List.map_congr_left fun x _=>GI i x).trans (List.map_id l)
def sO {α:Type}:(a b:Ty) → a.den → (b.den → Option α) → Option α
 | .sl e,.slu i,x,k=>jF (.sl e) (.sl (eH i)) x fun y=>k (List.map (Umk i) y)
 | .slu j,.sl e,x,k=>jF (.sl (eH j)) (.sl e) (List.map (Uun j) x) k
 | a,b,x,k=>jF a b x k
def GJ {α:Type}:(t:Ty) → (t.den → Option α) → Option α
 | .sl e,k=>k ([]:List e.den)
 | .slu i,k=>k ([]:List (UD i))
 | _,_=>none
theorem rS {α:Type} {a b:Ty} {x:a.den} {k:b.den → Option α} {r:α} (h:jF a b x k = some r):∃ e:a = b,k (jT e x) = some r:=by
 unfold jF at h
 split at h
 ·rename_i g _; exact⟨g.down,h⟩
 ·cases h
theorem jU {α:Type} {a b:Ty} {x:a.den} {k:b.den → Option α} {r:α} (h:sO a b x k = some r):∃ y:b.den,k y = some r ∧ enc b y = enc a x:=by
 unfold sO at h
 split at h
 ·obtain⟨e,h⟩:=rS h
  injection e with e
  subst e
  exact⟨_,h,Dr _ _⟩
 ·obtain⟨e,h⟩:=rS h
  injection e with e
  subst e
  exact⟨_,h,pf _ _⟩
 ·obtain⟨e,h⟩:=rS h
  subst e
  exact⟨_,h,rfl⟩
theorem rT {α:Type} {t:Ty} {k:t.den → Option α} {r:α} (h:GJ t k = some r):∃ y:t.den,k y = some r ∧ enc t y = [.sl []]:=by
 unfold GJ at h
 split at h
 ·exact⟨_,h,rfl⟩
 ·exact⟨_,h,rfl⟩
 ·cases h
end Go.Lad
