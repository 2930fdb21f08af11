import Derived.Test.YtaocfjifacnokaaGreatAb16
namespace Go.Lad
set_option linter.unusedVariables false
set_option linter.unusedSimpArgs false
open Go.RowKit
theorem yF {α β:Type} [DecidableEq α] [DecidableEq β] (f:α → β) (hf:∀ a b,f a = f b → a = b):∀ (l:List α) (x:α),pos (l.map f) (f x) = pos l x
 | [],_=>rfl
 | y :: l,x=>by
  rw[List.map_cons]
  unfold pos
  by_cases h:y = x
  ·subst h; simp
  ·have:¬ f y = f x:=fun e=>h (hf _ _ e)
   have ih:=yF f hf l x
   have h2:¬ x = y:=fun e=>h e.symm
   have h3:¬ f x = f y:=fun e=>this e.symm
   simp [h,this,h2,h3,ih]
def lD {κ κ' V:Type} (f:κ → κ') (e:V → List PV) (m:List (κ × V)):List (κ' × List PV):=m.map fun p=>(f p.1,e p.2)
theorem rQ {κ κ' V:Type} [DecidableEq κ] [DecidableEq κ'] (f:κ → κ') (hf:∀ a b,f a = f b → a = b) (e:V → List PV) (m:List (κ × V)) (k:κ):cD (lD f e m) (f k) = (cD m k).map e:=by
 unfold cD lD
 have h1:(m.map fun p=>(f p.1,e p.2)).map (·.1) = (m.map (·.1)).map f:=by simp [List.map_map,Function.comp_def]
 rw[h1,yF f hf]
 cases pos (m.map (·.1)) k with
 | none=>rfl
 | some i =>
  simp only[Option.bind_some,List.getElem?_map]
  cases m[i]? <;> rfl
theorem uX {κ κ' V:Type} [DecidableEq κ] [DecidableEq κ'] (f:κ → κ') (hf:∀ a b,f a = f b → a = b) (e:V → List PV) (m:List (κ × V)) (k:κ) (v:V):fE (lD f e m) (f k) (e v) = lD f e (fE m k v):=by
 unfold fE lD
 have h1:(m.map fun p=>(f p.1,e p.2)).map (·.1) = (m.map (·.1)).map f:=by simp [List.map_map,Function.comp_def]
 rw[h1,yF f hf]
 cases pos (m.map (·.1)) k with
 | none=>simp
 | some i=>simp [List.map_set]
theorem mC {κ κ' V:Type} (f:κ → κ') (e:V → List PV) (m:List (κ × V)):(lD f e m).length = m.length:=by simp [lD]
theorem Ah (a b:Bs) (h:mkS a = mkS b):a = b:=by rw[yC] at h; exact h
theorem LZ {V:Type} (e:V → List PV) (m:List (Bs × V)) (k:Bs):cD (lD mkS e m) (mkS k) = (cD m k).map e:=rQ mkS Ah e m k
theorem MJ {V:Type} (e:V → List PV) (m:List (Bs × V)) (k:Bs) (v:V):fE (lD mkS e m) (mkS k) (e v) = lD mkS e (fE m k v):=uX mkS Ah e m k v
theorem L0 {V:Type} (e:V → List PV) (m:List (Int × V)) (k:Int):cD (lD id e m) k = (cD m k).map e:=rQ id (fun _ _ h=>h) e m k
theorem MK {V:Type} (e:V → List PV) (m:List (Int × V)) (k:Int) (v:V):fE (lD id e m) k (e v) = lD id e (fE m k v):=uX id (fun _ _ h=>h) e m k v
def mkQ (x:Int × Int):Int × Int:=x
theorem Dq (a b:Int × Int) (h:mkQ a = mkQ b):a = b:=h
theorem L1 {V:Type} (e:V → List PV) (m:List ((Int × Int) × V)) (k:Int × Int):cD (lD mkQ e m) (mkQ k) = (cD m k).map e:=rQ mkQ Dq e m k
theorem ML {V:Type} (e:V → List PV) (m:List ((Int × Int) × V)) (k:Int × Int) (v:V):fE (lD mkQ e m) (mkQ k) (e v) = lD mkQ e (fE m k v):=uX mkQ Dq e m k v
end Go.Lad
