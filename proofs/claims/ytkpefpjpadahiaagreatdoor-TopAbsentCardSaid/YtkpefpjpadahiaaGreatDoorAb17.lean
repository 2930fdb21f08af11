import Derived.Test.YtkpefpjpadahiaaGreatDoorAb16
namespace Go.Lad
set_option linter.unusedVariables false
set_option linter.unusedSimpArgs false
open Go.RowKit
theorem y9 {α β:Type} [DecidableEq α] [DecidableEq β] (f:α->β) (hf:∀ a b,f a=f b->a=b):∀ (l:List α) (x:α),pos (l.map f) (f x)=pos l x
 | [],_=>rfl
 | y::l,x=>by
  rw[List.map_cons];unfold pos;by_cases h:y=x
  ·subst h; simp
  ·have:¬ f y=f x:=fun e=>h (hf _ _ e);have ih:=y9 f hf l x;have h2:¬ x=y:=fun e=>h e.symm;have h3:¬ f x=f y:=fun e=>this e.symm;simp [h,this,h2,h3,ih]
def mH {κ κ' V:Type} (f:κ->κ') (e:V->List PV) (m:List (κ×V)):List (κ'×List PV):=m.map fun p=>(f p.1,e p.2)
theorem sL {κ κ' V:Type} [DecidableEq κ] [DecidableEq κ'] (f:κ->κ') (hf:∀ a b,f a=f b->a=b) (e:V->List PV) (m:List (κ×V)) (k:κ):cM (mH f e m) (f k)=(cM m k).map e:=by
 unfold cM mH;have h1:(m.map fun p=>(f p.1,e p.2)).map (·.1)=(m.map (·.1)).map f:=by simp [List.map_map,Function.comp_def]
 rw[h1,y9 f hf];cases pos (m.map (·.1)) k with
 | none=>rfl
 | some i =>
  simp only[Option.bind_some,List.getElem?_map];cases m[i]? <;> rfl
theorem vK {κ κ' V:Type} [DecidableEq κ] [DecidableEq κ'] (f:κ->κ') (hf:∀ a b,f a=f b->a=b) (e:V->List PV) (m:List (κ×V)) (k:κ) (v:V):gv (mH f e m) (f k) (e v)=mH f e (gv m k v):=by
 unfold gv mH;have h1:(m.map fun p=>(f p.1,e p.2)).map (·.1)=(m.map (·.1)).map f:=by simp [List.map_map,Function.comp_def]
 rw[h1,y9 f hf];cases pos (m.map (·.1)) k with
 | none=>simp
 | some i=>simp [List.map_set]
theorem nG {κ κ' V:Type} (f:κ->κ') (e:V->List PV) (m:List (κ×V)):(mH f e m).length=m.length:=by simp [mH]
theorem vL (a b:Bs) (h:mkS a=mkS b):a=b:=by rw[y5] at h; exact h
theorem OO {V:Type} (e:V->List PV) (m:List (Bs×V)) (k:Bs):cM (mH mkS e m) (mkS k)=(cM m k).map e:=sL mkS vL e m k
theorem PG {V:Type} (e:V->List PV) (m:List (Bs×V)) (k:Bs) (v:V):gv (mH mkS e m) (mkS k) (e v)=mH mkS e (gv m k v):=vK mkS vL e m k v
theorem OP {V:Type} (e:V->List PV) (m:List (Int×V)) (k:Int):cM (mH id e m) k=(cM m k).map e:=sL id (fun _ _ h=>h) e m k
theorem PH {V:Type} (e:V->List PV) (m:List (Int×V)) (k:Int) (v:V):gv (mH id e m) k (e v)=mH id e (gv m k v):=vK id (fun _ _ h=>h) e m k v
def mkQ (x:Int×Bs):Int×ByteArray:=(x.1,mkS x.2)
theorem Em (a b:Int×Bs) (h:mkQ a=mkQ b):a=b:=by
 obtain⟨a1,a2⟩:=a;obtain⟨b1,b2⟩:=b;injection h with h1 h2
 have h1:a1=b1:=h1;have h2:a2=b2:=vL _ _ h2;rw[h1,h2]
theorem OQ {V:Type} (e:V->List PV) (m:List ((Int×Bs)×V)) (k:Int×Bs):cM (mH mkQ e m) (mkQ k)=(cM m k).map e:=sL mkQ Em e m k
theorem PI {V:Type} (e:V->List PV) (m:List ((Int×Bs)×V)) (k:Int×Bs) (v:V):gv (mH mkQ e m) (mkQ k) (e v)=mH mkQ e (gv m k v):=vK mkQ Em e m k v
end Go.Lad
