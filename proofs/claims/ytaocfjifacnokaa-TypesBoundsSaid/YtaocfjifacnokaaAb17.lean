import Derived.Test.YtaocfjifacnokaaAb16
namespace Go.Lad
set_option linter.unusedVariables false
set_option linter.unusedSimpArgs false
open Go.RowKit
theorem pos_map {α β:Type} [DecidableEq α] [DecidableEq β] (f:α → β) (hf:∀ a b,f a = f b → a = b):∀ (l:List α) (x:α),pos (l.map f) (f x) = pos l x
 | [],_=>rfl
 | y :: l,x=>by
  rw[List.map_cons]
  unfold pos
  by_cases h:y = x
  ·subst h; simp
  ·have:¬ f y = f x:=fun e=>h (hf _ _ e)
   have ih:=pos_map f hf l x
   have h2:¬ x = y:=fun e=>h e.symm
   have h3:¬ f x = f y:=fun e=>this e.symm
   simp [h,this,h2,h3,ih]
def encM {κ κ' V:Type} (f:κ → κ') (e:V → List PV) (m:List (κ × V)):List (κ' × List PV):=m.map fun p=>(f p.1,e p.2)
theorem encM_look {κ κ' V:Type} [DecidableEq κ] [DecidableEq κ'] (f:κ → κ') (hf:∀ a b,f a = f b → a = b) (e:V → List PV) (m:List (κ × V)) (k:κ):lookM (encM f e m) (f k) = (lookM m k).map e:=by
 unfold lookM encM
 have h1:(m.map fun p=>(f p.1,e p.2)).map (·.1) = (m.map (·.1)).map f:=by simp [List.map_map,Function.comp_def]
 rw[h1,pos_map f hf]
 cases pos (m.map (·.1)) k with
 | none=>rfl
 | some i =>
  simp only[Option.bind_some,List.getElem?_map]
  cases m[i]? <;> rfl
theorem encM_put {κ κ' V:Type} [DecidableEq κ] [DecidableEq κ'] (f:κ → κ') (hf:∀ a b,f a = f b → a = b) (e:V → List PV) (m:List (κ × V)) (k:κ) (v:V):putM (encM f e m) (f k) (e v) = encM f e (putM m k v):=by
 unfold putM encM
 have h1:(m.map fun p=>(f p.1,e p.2)).map (·.1) = (m.map (·.1)).map f:=by simp [List.map_map,Function.comp_def]
 rw[h1,pos_map f hf]
 cases pos (m.map (·.1)) k with
 | none=>simp
 | some i=>simp [List.map_set]
theorem encM_len {κ κ' V:Type} (f:κ → κ') (e:V → List PV) (m:List (κ × V)):(encM f e m).length = m.length:=by simp [encM]
theorem mkS_inj' (a b:Bs) (h:mkS a = mkS b):a = b:=by rw[mkS_inj] at h; exact h
theorem lookS {V:Type} (e:V → List PV) (m:List (Bs × V)) (k:Bs):lookM (encM mkS e m) (mkS k) = (lookM m k).map e:=encM_look mkS mkS_inj' e m k
theorem putS {V:Type} (e:V → List PV) (m:List (Bs × V)) (k:Bs) (v:V):putM (encM mkS e m) (mkS k) (e v) = encM mkS e (putM m k v):=encM_put mkS mkS_inj' e m k v
theorem lookN {V:Type} (e:V → List PV) (m:List (Int × V)) (k:Int):lookM (encM id e m) k = (lookM m k).map e:=encM_look id (fun _ _ h=>h) e m k
theorem putN {V:Type} (e:V → List PV) (m:List (Int × V)) (k:Int) (v:V):putM (encM id e m) k (e v) = encM id e (putM m k v):=encM_put id (fun _ _ h=>h) e m k v
def mkQ (x:Int × Int):Int × Int:=x
theorem mkQ_inj (a b:Int × Int) (h:mkQ a = mkQ b):a = b:=h
theorem lookQ {V:Type} (e:V → List PV) (m:List ((Int × Int) × V)) (k:Int × Int):lookM (encM mkQ e m) (mkQ k) = (lookM m k).map e:=encM_look mkQ mkQ_inj e m k
theorem putQ {V:Type} (e:V → List PV) (m:List ((Int × Int) × V)) (k:Int × Int) (v:V):putM (encM mkQ e m) (mkQ k) (e v) = encM mkQ e (putM m k v):=encM_put mkQ mkQ_inj e m k v
end Go.Lad
