import Derived.Test.YtaocfjifacnokaaPA
set_option linter.unusedVariables false
set_option linter.unusedSimpArgs false
namespace Go.Proofs.Ytaocfjifacnokaa
open Go.Lad
theorem okL_len {d:Nat} {l:List FieldT} (h:okL d l):l.length ≤ 1000000:=by
 cases d with
 | zero=>have h:l = []:=h; subst h; simp
 | succ d=>exact h.1
theorem okL_mem {d n:Nat} {l:List FieldT} (h:okL d l) (hn:d < n + 1) {f:FieldT} (hf:f ∈ l):∃ e,e < n ∧ okL e f.fs:=by
 cases d with
 | zero=>have h:l = []:=h; subst h; cases hf
 | succ d=>exact⟨d,by omega,h.2 _ hf⟩
theorem take_succ {α:Type} {l:List α} {i:Nat} (h:i < l.length):l.take (i + 1) = l.take i ++ [l[i]]:=by
 rw[List.take_add_one,List.getElem?_eq_getElem h]; rfl
theorem un_app (a b:List FieldT):unL (a ++ b) = unL a ++ unL b:=List.map_append
theorem un_one (n:Bs) (k:Int) (l:List FieldT):unL [FieldT.mk n k l] = [(n,k,l)]:=rfl
theorem fmu (l:List FieldT):@List.map (Ubody 0).den FieldT (Umk 0) (unL l) = l:=mk_un l
theorem fmu2 (l:List FieldT):@List.map GField FieldT (Umk 0) (unL l) = l:=mk_un l
theorem fresh2_rec:∀ (d n:Nat) (k:Int) (l:List FieldT),okL d l → d < n → types_fresh_v2.rec n k (unL l) = some (k,l)
 | d,0,_,_,_,h=>absurd h (by omega)
 | d,n + 1,k,l,h,hn=>by
  show types_fresh_v2.body (types_fresh_v2.rec n) k (unL l) = _
  unfold types_fresh_v2.body
  have hl:=okL_len h
  have:=loopF_at (body:=fun x:Int × Int × List GField=>types_fresh_v2.b1 (types_fresh_v2.rec n) (unL l) x.1 x.2.1 x.2.2) (x:=(0,k,[])) (b:=(k,l)) (fun i=>((i:Int),k,unL (l.take i))) l.length rfl (fun i hi=>by
   unfold types_fresh_v2.b1
   simp only[fu1,fu2]
   rw[un_len,ltZ_eq,decide_eq_true (by omega),cond_true,idx_un hi,bind_in]
   obtain⟨e,he,hok⟩:=okL_mem h hn (List.getElem_mem hi)
   have hr:=fresh2_rec e n l[i].kd l[i].fs hok he
   simp only[hr,bind_in,fx1]
   rw[app_in (by rw[un_len,List.length_take]; simp; omega),bind_in,z64_succ (by omega),bind_in,take_succ hi,un_app,← FieldT.eta l[i],un_one]; rfl) (by
   unfold types_fresh_v2.b1
   simp only[ltZ_eq]
   rw[un_len,decide_eq_false (by omega),cond_false,List.take_length]
   simp only[fmu]) (by omega)
  exact this
theorem fresh_ok {d:Nat} (hd:d ≤ 1000000) (k:Int) (l:List FieldT) (h:okL d l):types_fresh_v2 k (unL l) = some (k,l):=fresh2_rec d _ k l h (fuel_big hd)
mutual
def upF:FieldT → List FieldT → List FieldT
 | .mk n k l,bl=>match lookF bl n with | some g=>if k = g.kd then [.mk n k (upL l g.fs)] else [] | none=>[]
def upL:List FieldT → List FieldT → List FieldT
 | [],_=>[]
 | f :: r,bl=>upF f bl ++ upL r bl
end
theorem upF_eq (f:FieldT) (bl:List FieldT):upF f bl = match lookF bl f.nm with | some g=>if f.kd = g.kd then [.mk f.nm f.kd (upL f.fs g.fs)] else [] | none=>[]:=by cases f; rw[upF]; rfl
theorem upL_app:∀ (a b bl:List FieldT),upL (a ++ b) bl = upL a bl ++ upL b bl
 | [],b,bl=>by rw[List.nil_append,upL]; rfl
 | f :: a,b,bl=>by rw[List.cons_append,upL,upL,upL_app a b bl,List.append_assoc]
theorem upF_len (f:FieldT) (bl:List FieldT):(upF f bl).length ≤ 1:=by
 rw[upF_eq]
 split
 ·split <;> simp
 ·simp
theorem upL_len:∀ (a bl:List FieldT),(upL a bl).length ≤ a.length
 | [],bl=>by rw[upL]; simp
 | f :: a,bl=>by
  rw[upL,List.length_append,List.length_cons]
  have:=upF_len f bl
  have:=upL_len a bl
  omega
def upR (k:Int) (al:List FieldT) (k':Int) (bl:List FieldT):GType × Bool:=if k = k' then ((k,upL al bl),true) else ((0,[]),false)
theorem upper_rec:∀ (d n:Nat) (k:Int) (al:List FieldT) (k':Int) (bl:List FieldT),okL d al → d < n → types_upper.rec n k (unL al) k' (unL bl) = some (upR k al k' bl)
 | d,0,_,_,_,_,_,h=>absurd h (by omega)
 | d,n + 1,k,al,k',bl,h,hn=>by
  show types_upper.body (types_upper.rec n) k (unL al) k' (unL bl) = _
  unfold types_upper.body upR
  rw[eqZ_eq]
  by_cases hk:k = k'
  rotate_left
  ·rw[decide_eq_false hk,if_neg hk]; rfl
  rw[decide_eq_true hk,if_pos hk,Bool.not_true,cond_false]
  have hl:=okL_len h
  exact loopF_at (body:=fun x:Int × Int × List GField=>types_upper.b1 (types_upper.rec n) (unL al) (unL bl) x.1 x.2.1 x.2.2) (x:=(0,k,[])) (b:=((k,upL al bl),true)) (fun i=>((i:Int),k,unL (upL (al.take i) bl))) al.length (by rw[List.take_zero,upL]; rfl) (fun i hi=>by
   unfold types_upper.b1
   simp only[fu1,fu2]
   rw[un_len,ltZ_eq,decide_eq_true (by omega),cond_true,idx_un hi,bind_in,lookup_ok,bind_in]
   obtain⟨e,he,hok⟩:=okL_mem h hn (List.getElem_mem hi)
   have hsm:(upL (al.take i) bl).length ≤ i:=Nat.le_trans (upL_len _ _) (by rw[List.length_take]; omega)
   have hup:upL [al[i]] bl = upF al[i] bl:=by rw[upL,upL,List.append_nil]
   rw[take_succ hi,upL_app,hup,upF_eq]
   unfold lookR
   cases hf:lookF bl al[i].nm with
   | none =>
    dsimp only
    rw[cond_false,z64_succ (by omega),bind_in,List.append_nil]
   | some g =>
    dsimp only
    have hr:=upper_rec e n al[i].kd al[i].fs g.kd g.fs hok he
    rw[cond_true]
    simp only[hr,bind_in]
    unfold upR
    by_cases hkd:al[i].kd = g.kd
    ·rw[if_pos hkd,if_pos hkd]
     dsimp only
     rw[cond_true]
     simp only[fx1]
     rw[app_in (by rw[un_len]; simp; omega),bind_in,z64_succ (by omega),bind_in,un_app,un_one]
    ·rw[if_neg hkd,if_neg hkd]
     dsimp only
     rw[cond_false,z64_succ (by omega),bind_in,List.append_nil]) (by
   unfold types_upper.b1
   simp only[ltZ_eq]
   rw[un_len,decide_eq_false (by omega),cond_false,List.take_length]
   simp only[fmu]) (by omega)
theorem upper_ok {d:Nat} (hd:d ≤ 1000000) (k:Int) (al:List FieldT) (k':Int) (bl:List FieldT) (h:okL d al):types_upper k (unL al) k' (unL bl) = some (upR k al k' bl):=upper_rec d _ k al k' bl h (fuel_big hd)
theorem upL_okL:∀ {d:Nat} (al bl:List FieldT),okL d al → okL d (upL al bl)
 | 0,al,bl,h=>by
  have h:al = []:=h
  subst h
  show upL [] bl = []
  rw[upL]
 | d + 1,al,bl,h=>by
  refine⟨Nat.le_trans (upL_len _ _) h.1,fun f hf=>?_⟩
  have h2:=h.2
  clear h
  induction al with
  | nil=>rw[upL] at hf; cases hf
  | cons a r ih =>
   rw[upL] at hf
   rcases List.mem_append.1 hf with hf | hf
   ·rw[upF_eq] at hf
    split at hf
    ·split at hf
     ·rw[List.mem_singleton] at hf
      subst hf
      exact upL_okL _ _ (h2 a List.mem_cons_self)
     ·cases hf
    ·cases hf
   ·exact ih hf fun f hf=>h2 f (List.mem_cons_of_mem _ hf)
end Go.Proofs.Ytaocfjifacnokaa
namespace Go.Proofs.Ytaocfjifacnokaa
open Go.Lad
def idxN {α:Type} (p:α → Bool):Nat → List α → Int
 | _,[]=>-1
 | k,x :: r=>if p x = true then (k:Int) else idxN p (k + 1) r
theorem idxN_scan {α:Type} (p:α → Bool):∀ (l:List α) (k:Nat),idxN p k l = (scan (fun k x=>if p x = true then some (k:Int) else none) k l).getD (-1)
 | [],_=>rfl
 | x :: r,k=>by
  unfold idxN scan
  by_cases h:p x = true
  ·rw[if_pos h,if_pos h]; rfl
  ·rw[if_neg h,if_neg h]; exact idxN_scan p r (k + 1)
theorem loop_idx {α:Type} {body:Int → Option (Int ⊕ Int)} (l:List α) (p:α → Bool)
  (h:∀ k (hk:k < l.length),body (k:Int) = some (if p l[k] = true then .inr (k:Int) else .inl ((k + 1:Nat):Int)))
  (hd:body (l.length:Int) = some (.inr (-1))) (hn:l.length < 1606938044258990275541962092341162602522202993782792835301376):loopF body 0 = some (idxN p 0 l):=by
 rw[idxN_scan]
 refine loop_scan l _ (-1) (fun k hk=>?_) hd hn
 rw[h k hk]
 by_cases h:p l[k] = true
 ·rw[if_pos h,if_pos h]
 ·rw[if_neg h,if_neg h]
theorem idxN_ge {α:Type} (p:α → Bool):∀ (l:List α) (k:Nat),idxN p k l = -1 ∨ (k:Int) ≤ idxN p k l
 | [],_=>.inl rfl
 | x :: r,k=>by
  unfold idxN
  by_cases h:p x = true
  ·rw[if_pos h]; exact .inr (Int.le_refl _)
  ·rw[if_neg h]
   rcases idxN_ge p r (k + 1) with h | h
   ·exact .inl h
   ·exact .inr (by omega)
theorem idxN_any {α:Type} (p:α → Bool):∀ (l:List α) (k:Nat),decide (0 ≤ idxN p k l) = l.any p
 | [],_=>rfl
 | x :: r,k=>by
  unfold idxN
  rw[List.any_cons]
  by_cases h:p x = true
  ·rw[if_pos h,h,Bool.true_or,decide_eq_true (by omega)]
  ·rw[if_neg h,Bool.not_eq_true] at *
   rw[h,Bool.false_or]; exact idxN_any p r (k + 1)
theorem idxN_find {α:Type} (p:α → Bool):∀ (l:List α) (k:Nat),l.find? p = if idxN p k l < 0 then none else l[(idxN p k l).toNat - k]?
 | [],_=>rfl
 | x :: r,k=>by
  unfold idxN
  rw[List.find?_cons]
  by_cases h:p x = true
  ·rw[if_pos h,h,if_neg (by omega)]
   simp
  ·rw[if_neg h]
   rw[Bool.not_eq_true] at h
   rw[h]
   dsimp only
   rw[idxN_find p r (k + 1)]
   rcases idxN_ge p r (k + 1) with h1 | h1
   ·rw[h1]; rfl
   ·rw[if_neg (by omega),if_neg (by omega)]
    have:(idxN p (k + 1) r).toNat - k = ((idxN p (k + 1) r).toNat - (k + 1)) + 1:=by omega
    rw[this,List.getElem?_cons_succ]
theorem idx_find {α:Type} {p:α → Bool} {l:List α} (h:¬ idxN p 0 l < 0):idx l (idxN p 0 l) = l.find? p:=by
 rw[idxN_find p l 0,if_neg h,Nat.sub_zero]
 unfold idx
 rw[if_pos (by omega)]
def allK (l:List GType) (k:Int):Bool:=l.all fun t=>decide (t.1 = k)
theorem kinds_ok (l:List GType) (k:Int) (hl:l.length ≤ 1000000):types_plain_1 k l = some (allK l k):=by
 unfold types_plain_1 slices_ContainsFunc_api_Type_api_Type_v2 slices_IndexFunc_api_Type_api_Type_v2
 rw[loop_idx l (fun t=>!decide (t.1 = k)) (fun i hi=>by
  unfold slices_IndexFunc_api_Type_api_Type_v2.b1 types_plain_1_1
  rw[ltZ_eq,decide_eq_true (by omega),cond_true,idx_nat hi,bind_in,bind_in,eqZ_eq,z64_succ (by omega)]
  cases (!decide (l[i].1 = k)) <;> rfl) (by
  unfold slices_IndexFunc_api_Type_api_Type_v2.b1
  rw[ltZ_eq,decide_eq_false (by omega),cond_false]) (by omega),bind_in,bind_in,leZ_eq,idxN_any]
 unfold allK
 congr 1
 induction l with
 | nil=>rfl
 | cons x r ih =>
  rw[List.any_cons,List.all_cons,Bool.not_or,ih (by simp at hl; omega),Bool.not_not]
def recF:List Bs → List GType → List FieldT
 | n :: ns,t :: l=>.mk n t.1 t.2 :: recF ns l
 | _,_=>[]
theorem recF_snoc:∀ (ns:List Bs) (l:List GType) (n:Bs) (t:GType),ns.length = l.length → recF (ns ++ [n]) (l ++ [t]) = recF ns l ++ [.mk n t.1 t.2]
 | [],[],n,t,_=>rfl
 | a :: ns,b :: l,n,t,h=>by
  show _ :: recF (ns ++ [n]) (l ++ [t]) = _ :: (recF ns l ++ _)
  rw[recF_snoc ns l n t (by simpa using h)]
 | [],_ :: _,_,_,h=>by simp at h
 | _ :: _,[],_,_,h=>by simp at h
theorem recF_len:∀ (ns:List Bs) (l:List GType),(recF ns l).length ≤ l.length
 | [],l=>by rw[recF] <;> simp
 | _ :: _,[]=>by rw[recF] <;> simp
 | n :: ns,t :: l=>by
  show (_ :: recF ns l).length ≤ _
  have:=recF_len ns l
  simp; omega
theorem recF_mem:∀ {ns:List Bs} {l:List GType} {f:FieldT},f ∈ recF ns l → ∃ t ∈ l,f.kd = t.1 ∧ f.fs = t.2
 | [],l,f,h=>by rw[recF] at h; cases h; simp
 | _ :: _,[],f,h=>by rw[recF] at h; cases h; simp
 | n :: ns,t :: l,f,h=>by
  rcases List.mem_cons.1 (show f ∈ FieldT.mk n t.1 t.2 :: recF ns l from h) with rfl | h
  ·exact⟨t,List.mem_cons_self,rfl,rfl⟩
  ·obtain⟨u,hu,h2⟩:=recF_mem h
   exact⟨u,List.mem_cons_of_mem _ hu,h2⟩
def gT (l:List GType) (i:Nat):GType:=l.getD i (0,[])
def plainB (o:Int) (s:Bs) (ns:List Bs) (l:List GType):Bool × GType :=
 if o = 3 ∨ o = 4 ∨ o = 5 ∨ o = 16 then (allK l 0,(0,[]))
 else if o = 1 then (true,(1,[]))
 else if o = 6 then (allK l 0,(1,[]))
 else if o = 7 then (allK l 0 || allK l 1,(1,[]))
 else if o = 8 ∨ o = 9 ∨ o = 10 then (allK l 1,(1,[]))
 else if o = 11 then ((upR (gT l 1).1 (gT l 1).2 (gT l 2).1 (gT l 2).2).2 && decide ((gT l 0).1 = 1),(upR (gT l 1).1 (gT l 1).2 (gT l 2).1 (gT l 2).2).1)
 else if o = 13 then (true,(2,recF ns l))
 else if o = 14 then ((lookR (gT l 0).2 s).2,(lookR (gT l 0).2 s).1)
 else (true,(0,[]))
def plainS (o:Int) (s:Bs) (ns:List Bs) (l:List GType):GType × Int:=if (plainB o s ns l).1 = true then ((plainB o s ns l).2,0) else ((0,[]),13)
theorem idx_g {l:List GType} {i:Nat} (h:i < l.length):idx l (i:Int) = some (gT l i):=by
 rw[idx_nat h]; unfold gT; rw[List.getD_eq_getElem?_getD,List.getElem?_eq_getElem h]; rfl
theorem rec_loop (ns:List Bs) (l:List GType) (hn:ns.length = l.length) (hl:l.length ≤ 1000000):loopF (fun x:Int × Int × List GField=>types_plain.b1 ns l x.1 x.2.1 x.2.2) (0,2,[]) = some (true,2,unL (recF ns l)):=by
 refine loopF_at (x:=(0,2,[])) (b:=(true,2,unL (recF ns l))) (fun i=>((i:Int),2,unL (recF (ns.take i) (l.take i)))) l.length (by rw[List.take_zero,List.take_zero,recF]; rfl; simp) (fun i hi=>?_) ?_ (by omega)
 ·have hi2:i < ns.length:=by omega
  unfold types_plain.b1
  simp only[fx1]
  rw[ltZ_eq,decide_eq_true (by omega),cond_true,idx_nat hi,bind_in,idx_nat hi2,bind_in]
  have hlen:(unL (recF (ns.take i) (l.take i))).length ≤ i:=by
   rw[un_len]
   exact Nat.le_trans (recF_len _ _) (by rw[List.length_take]; omega)
  rw[app_in (by simp; omega),bind_in,z64_succ (by omega),bind_in,take_succ hi,take_succ hi2,recF_snoc _ _ _ _ (by rw[List.length_take,List.length_take]; omega),un_app,un_one]
 ·unfold types_plain.b1
  simp only[ltZ_eq]
  rw[decide_eq_false (by omega),cond_false,List.take_length,← hn,List.take_length]
theorem plain_ok {d:Nat} (hd:d ≤ 1000000) (o n:Int) (s m:Bs) (ns:List Bs) (ag:List GExp) (l:List GType) (hl:l.length ≤ 1000000)
  (h3:o = 11 → l.length = 3) (h13:o = 13 → ns.length = l.length) (h14:o = 14 → 0 < l.length) (hok:∀ t ∈ l,okL d t.2):types_plain o n s m ns ag l = some (plainS o s ns l):=by
 have h1:((bif (eqZ o 3) then some (eqZ o 3) else (bif (eqZ o 4) then some (eqZ o 4) else (bif (eqZ o 5) then some (eqZ o 5) else some (eqZ o 16)))):Option Bool) = some (decide (o = 3 ∨ o = 4 ∨ o = 5 ∨ o = 16)):=by
  simp only[eqZ_eq]
  by_cases a:o = 3
  ·simp [a]
  by_cases b:o = 4
  ·simp [b]
  by_cases c:o = 5
  ·simp [c]
  simp [a,b,c]
 have h2:((bif (eqZ o 8) then some (eqZ o 8) else (bif (eqZ o 9) then some (eqZ o 9) else some (eqZ o 10))):Option Bool) = some (decide (o = 8 ∨ o = 9 ∨ o = 10)):=by
  simp only[eqZ_eq]
  by_cases a:o = 8
  ·simp [a]
  by_cases b:o = 9
  ·simp [b]
  simp [a,b]
 have fin:∀ (x:Bool) (t:GType),types_plain.j3 x t.1 (unL t.2) = some (if x = true then (t,0) else ((0,[]),13)):=fun x t=>by
  unfold types_plain.j3
  simp only[fmu,fmu2]
  cases x <;> rfl
 have key:((some (decide (o = 3 ∨ o = 4 ∨ o = 5 ∨ o = 16))).bind fun x=>types_plain.j2 o s ns l x) = some ((plainB o s ns l).1,(plainB o s ns l).2.1,unL (plainB o s ns l).2.2):=by
  rw[bind_in]
  unfold plainB
  by_cases c1:o = 3 ∨ o = 4 ∨ o = 5 ∨ o = 16
  ·rw[if_pos c1,decide_eq_true c1]
   unfold types_plain.j2
   rw[cond_true,kinds_ok l 0 hl]; rfl
  rw[if_neg c1,decide_eq_false c1]
  unfold types_plain.j2
  rw[cond_false,eqZ_eq]
  by_cases c2:o = 1
  ·rw[if_pos c2,decide_eq_true c2]; rfl
  rw[if_neg c2,decide_eq_false c2,cond_false,eqZ_eq]
  by_cases c3:o = 6
  ·rw[if_pos c3,decide_eq_true c3,cond_true,kinds_ok l 0 hl]; rfl
  rw[if_neg c3,decide_eq_false c3,cond_false,eqZ_eq]
  by_cases c4:o = 7
  ·rw[if_pos c4,decide_eq_true c4,cond_true,kinds_ok l 0 hl,kinds_ok l 1 hl,bind_in]
   cases allK l 0 <;> rfl
  rw[if_neg c4,decide_eq_false c4,cond_false,h2,bind_in]
  unfold types_plain.j1
  by_cases c5:o = 8 ∨ o = 9 ∨ o = 10
  ·rw[if_pos c5,decide_eq_true c5,cond_true,kinds_ok l 1 hl]; rfl
  rw[if_neg c5,decide_eq_false c5,cond_false,eqZ_eq]
  by_cases c6:o = 11
  ·have hl3:=h3 c6
   rw[if_pos c6,decide_eq_true c6,cond_true,show (1:Int) = ((1:Nat):Int) from rfl,show (2:Int) = ((2:Nat):Int) from rfl,show (0:Int) = ((0:Nat):Int) from rfl]
   rw[idx_g (show 1 < l.length by omega),bind_in,idx_g (show 2 < l.length by omega),bind_in]
   simp only[fu1,fu2]
   have hg:okL d (gT l 1).2:=by
    unfold gT
    rw[List.getD_eq_getElem?_getD,List.getElem?_eq_getElem (show 1 < l.length by omega)]
    exact hok _ (List.getElem_mem _)
   rw[upper_ok hd _ _ _ _ hg,bind_in]
   cases hu:(upR (gT l 1).1 (gT l 1).2 (gT l 2).1 (gT l 2).2).2 with
   | false=>rfl
   | true =>
    rw[cond_true,idx_g (show 0 < l.length by omega),bind_in,eqZ_eq]; rfl
  rw[if_neg c6,decide_eq_false c6,cond_false,eqZ_eq]
  by_cases c7:o = 13
  ·rw[if_pos c7,decide_eq_true c7,cond_true,rec_loop ns l (h13 c7) hl]
  rw[if_neg c7,decide_eq_false c7,cond_false,eqZ_eq]
  by_cases c8:o = 14
  ·rw[if_pos c8,decide_eq_true c8,cond_true,show (0:Int) = ((0:Nat):Int) from rfl,idx_g (h14 c8),bind_in]
   simp only[fu1,fu2]
   rw[lookup_ok]; rfl
  ·rw[if_neg c8,decide_eq_false c8]; rfl
 unfold types_plain
 rw[h1,key,bind_in]
 exact fin _ _
end Go.Proofs.Ytaocfjifacnokaa
namespace Go.Lad
def ExpT.op:ExpT → Int
 | .mk o _ _ _ _ _=>o
def ExpT.n:ExpT → Int
 | .mk _ n _ _ _ _=>n
def ExpT.s:ExpT → Bs
 | .mk _ _ s _ _ _=>s
def ExpT.m:ExpT → Bs
 | .mk _ _ _ m _ _=>m
def ExpT.names:ExpT → List Bs
 | .mk _ _ _ _ ns _=>ns
def ExpT.args:ExpT → List ExpT
 | .mk _ _ _ _ _ l=>l
end Go.Lad
namespace Go.Proofs.Ytaocfjifacnokaa
open Go.Lad
def unE (l:List ExpT):List GExp:=List.map (α:=ExpT) (β:=GExp) (Uun 1) l
def mkE (l:List GExp):List ExpT:=List.map (α:=GExp) (β:=ExpT) (Umk 1) l
theorem fe1 (l:List ExpT):@List.map (UD 1) GExp (Uun 1) l = unE l:=rfl
theorem fe2 (l:List ExpT):@List.map ExpT GExp (Uun 1) l = unE l:=rfl
theorem mk_unE:∀ (l:List ExpT),mkE (unE l) = l
 | []=>rfl
 | x :: r=>congr (congrArg List.cons (Umk_un 1 x)) (mk_unE r)
theorem fxe1 (l:List ExpT):@List.map (Ubody 1).den ExpT (Umk 1) (@List.map (UD 1) (Ubody 1).den (Uun 1) l) = l:=mk_unE l
theorem fme (l:List ExpT):@List.map (Ubody 1).den ExpT (Umk 1) (unE l) = l:=mk_unE l
theorem fme2 (l:List ExpT):@List.map GExp ExpT (Umk 1) (unE l) = l:=mk_unE l
def tupE (e:ExpT):GExp:=(e.op,e.n,e.s,e.m,e.names,e.args)
theorem Uun1 (e:ExpT):(Uun 1 e:GExp) = tupE e:=by cases e; rfl
theorem unE_len (l:List ExpT):(unE l).length = l.length:=List.length_map _
theorem idx_unE {l:List ExpT} {k:Nat} (h:k < l.length):idx (unE l) (k:Int) = some (tupE l[k]):=by
 rw[idx_nat (by rw[unE_len]; exact h)]
 exact congrArg some ((List.getElem_map (α:=ExpT) (β:=GExp) (Uun 1)).trans (Uun1 _))
def argE (l:List ExpT) (i:Nat):ExpT:=l.getD i (.mk 0 0 [] [] [] [])
theorem argE_get {l:List ExpT} {i:Nat} (h:i < l.length):argE l i = l[i]:=by unfold argE; rw[List.getD_eq_getElem?_getD,List.getElem?_eq_getElem h]; rfl
theorem idx_argE {l:List ExpT} {k:Nat} (h:k < l.length):idx (unE l) (k:Int) = some (tupE (argE l k)):=by rw[idx_unE h,argE_get h]
theorem idx_arg0 {l:List ExpT} (h:0 < l.length):idx (unE l) 0 = some (tupE (argE l 0)):=idx_argE (k:=0) h
theorem idx_arg1 {l:List ExpT} (h:1 < l.length):idx (unE l) 1 = some (tupE (argE l 1)):=idx_argE (k:=1) h
structure Cx where
 vars:List FieldT
 funcs:List GFunc
 uses:List Bs
 look:Bs → Option GFace
def calleeS (C:Cx) (s m:Bs):Option GSig :=
 if m = [] then (C.funcs.find? fun f=>decide (f.1 = s)).map fun f=>([],f.2.2.1.map (fun p=>(p.kd,p.fs)),f.2.2.2.1,f.2.2.2.2.1)
 else match C.look m with
  | some face=>match face.2.find? fun g=>decide (g.1 = s) with
   | some g=>if (C.uses.any fun u=>decide (m = u)) = true then some g else none
   | none=>none
  | none=>none
abbrev FR:Type:=GType × Int × Int
def listS (F:Int → ExpT → FR):Int → List ExpT → List GType × Int × Int
 | eff,[]=>([],0,eff)
 | eff,a :: r=>if (F eff a).2.1 = 0 then (if (listS F (F eff a).2.2 r).2.1 = 0 then ((F eff a).1 :: (listS F (F eff a).2.2 r).1,0,(listS F (F eff a).2.2 r).2.2) else ([],(listS F (F eff a).2.2 r).2.1,(listS F (F eff a).2.2 r).2.2)) else ([],(F eff a).2.1,(F eff a).2.2)
def subB (t u:GType):Bool:=decide (t.1 = u.1) && belL u.2 t.2
def varS (C:Cx) (F:Int → ExpT → FR) (eff:Int) (e:ExpT):FR :=
 if (lookR C.vars e.s).2 = true then
  (if e.op = 18 then
   (if (F eff (argE e.args 0)).2.1 = 0 then (if subB (F eff (argE e.args 0)).1 (lookR C.vars e.s).1 = true then ((lookR C.vars e.s).1,0,(F eff (argE e.args 0)).2.2) else ((0,[]),13,(F eff (argE e.args 0)).2.2))
    else ((0,[]),(F eff (argE e.args 0)).2.1,(F eff (argE e.args 0)).2.2))
   else ((lookR C.vars e.s).1,0,eff))
 else ((0,[]),12,eff)
def allB (l ps:List GType):Bool:=allI (fun k x=>subB x (gT ps k)) 0 l
def callS (C:Cx) (F:Int → ExpT → FR) (eff:Int) (e:ExpT):FR :=
 match calleeS C e.s e.m with
 | none=>((0,[]),12,eff)
 | some g=>if g.2.1.length = e.args.length then
   (if (listS F eff e.args).2.1 = 0 then (if allB (listS F eff e.args).1 g.2.1 = true then (g.2.2.1,0,orI .i64 (listS F eff e.args).2.2 g.2.2.2) else ((0,[]),13,(listS F eff e.args).2.2))
    else ((0,[]),(listS F eff e.args).2.1,(listS F eff e.args).2.2))
  else ((0,[]),13,eff)
def restS (F:Int → ExpT → FR) (eff:Int) (e:ExpT):FR :=
 if (listS F eff e.args).2.1 = 0 then ((plainS e.op e.s e.names (listS F eff e.args).1).1,(plainS e.op e.s e.names (listS F eff e.args).1).2,if e.op = 16 then orI .i64 (listS F eff e.args).2.2 e.n else (listS F eff e.args).2.2)
 else ((0,[]),(listS F eff e.args).2.1,(listS F eff e.args).2.2)
def letS (F:List FieldT → Int → ExpT → FR) (L:List FieldT) (eff:Int) (e:ExpT):FR :=
 if (F L eff (argE e.args 0)).2.1 = 0 then F (L ++ [.mk e.s (F L eff (argE e.args 0)).1.1 (F L eff (argE e.args 0)).1.2]) (F L eff (argE e.args 0)).2.2 (argE e.args 1)
 else ((0,[]),(F L eff (argE e.args 0)).2.1,(F L eff (argE e.args 0)).2.2)
def findS (C:Cx):Nat → List FieldT → Int → ExpT → FR
 | 0,_,eff,_=>((0,[]),0,eff)
 | d + 1,L,eff,e =>
  if e.op = 2 then (if (lookR L e.s).2 = true then ((lookR L e.s).1,0,eff) else ((0,[]),12,eff))
  else if e.op = 12 then letS (findS C d) L eff e
  else if e.op = 17 ∨ e.op = 18 then varS C (findS C d L) eff e
  else if e.op = 15 then callS C (findS C d L) eff e
  else restS (findS C d L) eff e
def okE:Nat → ExpT → Prop
 | 0,_=>False
 | d + 1,e=>e.args.length ≤ 1000 ∧ (e.op = 12 → e.args.length = 2) ∧ (e.op = 18 → 0 < e.args.length) ∧ (e.op = 11 → e.args.length = 3) ∧ (e.op = 14 → 0 < e.args.length) ∧ (e.op = 13 → e.names.length = e.args.length) ∧ ∀ a ∈ e.args,okE d a
structure OkC (C:Cx):Prop where
 vars:∀ f ∈ C.vars,okL 4 f.fs
 flen:C.funcs.length ≤ 1000
 funcs:∀ f ∈ C.funcs,f.2.2.1.length ≤ 1000 ∧ (∀ p ∈ f.2.2.1,okL 4 p.fs) ∧ okL 4 f.2.2.2.1.2
 ulen:C.uses.length ≤ 1000
 look:∀ m face,C.look m = some face → face.2.length ≤ 1000 ∧ ∀ g ∈ face.2,(∀ t ∈ g.2.1,okL 4 t.2) ∧ okL 4 g.2.2.1.2
theorem callee_okC {C:Cx} (h:OkC C) {s m:Bs} {g:GSig} (hg:calleeS C s m = some g):(∀ t ∈ g.2.1,okL 4 t.2) ∧ okL 4 g.2.2.1.2:=by
 unfold calleeS at hg
 split at hg
 ·rw[Option.map_eq_some_iff] at hg
  obtain⟨f,hf,rfl⟩:=hg
  obtain⟨_,h2,h3⟩:=h.funcs f (List.mem_of_find?_eq_some hf)
  refine⟨fun t ht=>?_,h3⟩
  obtain⟨p,hp,rfl⟩:=List.mem_map.1 ht
  exact h2 p hp
 ·split at hg
  ·rename_i face hl
   split at hg
   ·rename_i g' hf
    split at hg
    ·injection hg with hg
     subst hg
     exact (h.look _ _ hl).2 _ (List.mem_of_find?_eq_some hf)
    ·cases hg
   ·cases hg
  ·cases hg
theorem look_okL {d:Nat} {l:List FieldT} (h:∀ f ∈ l,okL d f.fs) (n:Bs):okL d (lookR l n).1.2:=by
 unfold lookR
 cases hf:lookF l n with
 | none=>exact okL_nil d
 | some f=>exact h f (look_mem hf).1
theorem listS_mem {F:Int → ExpT → FR} {P:GType → Prop}:∀ (l:List ExpT) (eff:Int),(∀ eff,∀ a ∈ l,P (F eff a).1) → ∀ t ∈ (listS F eff l).1,P t
 | [],eff,_,t,ht=>by cases ht
 | a :: r,eff,h,t,ht=>by
  unfold listS at ht
  split at ht
  ·split at ht
   ·rcases List.mem_cons.1 ht with rfl | ht
    ·exact h eff a List.mem_cons_self
    ·exact listS_mem r _ (fun eff a ha=>h eff a (List.mem_cons_of_mem _ ha)) t ht
   ·cases ht
  ·cases ht
theorem listS_len {F:Int → ExpT → FR}:∀ (l:List ExpT) (eff:Int),(listS F eff l).2.1 = 0 → (listS F eff l).1.length = l.length
 | [],eff,_=>rfl
 | a :: r,eff,h=>by
  unfold listS at h ⊢
  split
  ·rename_i h1
   rw[if_pos h1] at h
   split
   ·rename_i h2
    rw[List.length_cons,List.length_cons,listS_len r _ h2]
   ·rename_i h2
    rw[if_neg h2] at h
    exact absurd h h2
  ·rename_i h1
   rw[if_neg h1] at h
   exact absurd h h1
theorem plain_okL {q:Nat} {o:Int} {s:Bs} {ns:List Bs} {l:List GType} (hl:l.length ≤ 1000000) (h:∀ t ∈ l,okL q t.2):okL (q + 1) (plainS o s ns l).1.2:=by
 have hg:∀ i,okL q (gT l i).2:=fun i=>by
  unfold gT
  rw[List.getD_eq_getElem?_getD]
  cases hi:l[i]? with
  | none=>exact okL_nil q
  | some t=>exact h t (List.mem_of_getElem? hi)
 have key:okL (q + 1) (plainB o s ns l).2.2:=by
  unfold plainB
  split
  ·exact okL_nil _
  split
  ·exact okL_nil _
  split
  ·exact okL_nil _
  split
  ·exact okL_nil _
  split
  ·exact okL_nil _
  split
  ·show okL (q + 1) (upR _ _ _ _).1.2
   unfold upR
   split
   ·exact upL_okL _ _ (okL_succ (hg 1))
   ·exact okL_nil _
  split
  ·refine⟨Nat.le_trans (recF_len _ _) hl,fun f hf=>?_⟩
   obtain⟨t,ht,_,e⟩:=recF_mem hf
   rw[e]; exact h t ht
  split
  ·show okL (q + 1) (lookR _ _).1.2
   refine look_okL (fun f hf=>?_) _
   cases q with
   | zero =>
    have h0:(gT l 0).2 = []:=hg 0
    rw[h0] at hf; cases hf
   | succ q=>exact okL_succ (okL_succ ((hg 0).2 f hf))
  ·exact okL_nil _
 unfold plainS
 split
 ·exact key
 ·exact okL_nil _
theorem pow_pos2 (d:Nat):1 ≤ 2 ^ d:=Nat.one_le_two_pow
theorem find_okL {C:Cx} (hC:OkC C):∀ (d:Nat) (q:Nat) (L:List FieldT) (eff:Int) (e:ExpT),4 ≤ q → okE d e → (∀ f ∈ L,okL q f.fs) → okL (q + 2 ^ d) (findS C d L eff e).1.2
 | 0,_,_,_,_,_,h,_=>h.elim
 | d + 1,q,L,eff,e,hq,he,hL=>by
  have hp:2 ^ (d + 1) = 2 ^ d + 2 ^ d:=by rw[Nat.pow_succ]; omega
  have h1:=pow_pos2 d
  obtain⟨a0,a1,a2,a3,a4,a5,a6⟩:=he
  have hla:∀ eff,∀ a ∈ e.args,okL (q + 2 ^ d) (findS C d L eff a).1.2:=fun eff a ha=>find_okL hC d q L eff a hq (a6 a ha) hL
  unfold findS
  split
  ·split
   ·exact okL_le (by omega) (look_okL hL _)
   ·exact okL_nil _
  split
  ·rename_i h12
   have hl2:=a1 h12
   have e0:argE e.args 0 ∈ e.args:=by rw[argE_get (by omega)]; exact List.getElem_mem _
   have e1:argE e.args 1 ∈ e.args:=by rw[argE_get (by omega)]; exact List.getElem_mem _
   unfold letS
   split
   ·refine okL_le (show (q + 2 ^ d) + 2 ^ d ≤ _ by omega) (find_okL hC d (q + 2 ^ d) _ _ _ (by omega) (a6 _ e1) fun f hf=>?_)
    rcases List.mem_append.1 hf with hf | hf
    ·exact okL_le (by omega) (hL f hf)
    ·rw[List.mem_singleton] at hf
     subst hf
     exact hla eff _ e0
   ·exact okL_nil _
  split
  ·unfold varS
   split
   ·split
    ·split
     ·split
      ·exact okL_le (by omega) (look_okL hC.vars _)
      ·exact okL_nil _
     ·exact okL_nil _
    ·exact okL_le (by omega) (look_okL hC.vars _)
   ·exact okL_nil _
  split
  ·unfold callS
   split
   ·exact okL_nil _
   ·rename_i g hg
    split
    ·split
     ·split
      ·exact okL_le (by omega) (callee_okC hC hg).2
      ·exact okL_nil _
     ·exact okL_nil _
    ·exact okL_nil _
  ·unfold restS
   split
   ·rename_i h0
    refine okL_le (show q + 2 ^ d + 1 ≤ _ by omega) (plain_okL (by rw[listS_len _ _ h0]; omega) fun t ht=>listS_mem (P:=fun t=>okL (q + 2 ^ d) t.2) _ _ hla t ht)
   ·exact okL_nil _
theorem scan_allI {α β:Type} (t:Nat → α → Bool) (b:β):∀ (l:List α) (k:Nat),scan (fun k x=>if t k x = true then none else some b) k l = if allI t k l = true then none else some b
 | [],_=>rfl
 | x :: r,k=>by
  unfold scan allI
  cases t k x with
  | true=>simpa using scan_allI t b r (k + 1)
  | false=>simp
theorem clone_ok (L:List FieldT) (h:L.length ≤ 1000000):slices_Clone_api_Field_api_Field (unL L) = some (unL L):=by
 unfold slices_Clone_api_Field_api_Field
 refine bothN_same ?_ fun e=>by rw[e]
 rw[app_in (by rw[un_len]; simp; omega)]; rfl
theorem callee_idx (s1:List GFunc) (p2 p3:Int) (p4 p5:Bs) (p6:List Bs) (p7:List GExp) (h:s1.length ≤ 1000):slices_IndexFunc_api_Func_api_Func s1 p2 p3 p4 p5 p6 p7 = some (idxN (fun f=>decide (f.1 = p4)) 0 s1):=by
 unfold slices_IndexFunc_api_Func_api_Func
 refine loop_idx s1 _ (fun i hi=>?_) ?_ (by omega)
 ·unfold slices_IndexFunc_api_Func_api_Func.b1 types_judge_callee_1
  rw[ltZ_eq,decide_eq_true (by omega),cond_true,idx_nat hi,bind_in,bind_in,z64_succ (by omega)]
  cases decide (s1[i].1 = p4) <;> rfl
 ·unfold slices_IndexFunc_api_Func_api_Func.b1
  rw[ltZ_eq,decide_eq_false (by omega),cond_false]
theorem sig_idx (s1:List GSig) (p2 p3:Int) (p4 p5:Bs) (p6:List Bs) (p7:List GExp) (h:s1.length ≤ 1000):slices_IndexFunc_api_Sig_api_Sig s1 p2 p3 p4 p5 p6 p7 = some (idxN (fun f=>decide (f.1 = p4)) 0 s1):=by
 unfold slices_IndexFunc_api_Sig_api_Sig
 refine loop_idx s1 _ (fun i hi=>?_) ?_ (by omega)
 ·unfold slices_IndexFunc_api_Sig_api_Sig.b1 types_judge_callee_2
  rw[ltZ_eq,decide_eq_true (by omega),cond_true,idx_nat hi,bind_in,bind_in,z64_succ (by omega)]
  cases decide (s1[i].1 = p4) <;> rfl
 ·unfold slices_IndexFunc_api_Sig_api_Sig.b1
  rw[ltZ_eq,decide_eq_false (by omega),cond_false]
theorem contains_ok (l:List Bs) (s:Bs) (h:l.length ≤ 1000):slices_Contains_string_string l s = some (l.any fun u=>decide (s = u)):=by
 unfold slices_Contains_string_string slices_Index_string_string
 rw[loop_idx l (fun u=>decide (s = u)) (fun i hi=>by
  unfold slices_Index_string_string.b1
  rw[ltZ_eq,decide_eq_true (by omega),cond_true,idx_nat hi,bind_in,z64_succ (by omega)]
  cases decide (s = l[i]) <;> rfl) (by
  unfold slices_Index_string_string.b1
  rw[ltZ_eq,decide_eq_false (by omega),cond_false]) (by omega),bind_in,leZ_eq,idxN_any]
theorem lenU (l:List FieldT):(@List.map (UD 0) (Ubody 0).den (Uun 0) l).length = l.length:=List.length_map _
theorem idxU {l:List FieldT} {k:Nat} (h:k < l.length):@idx (Ubody 0).den (@List.map (UD 0) (Ubody 0).den (Uun 0) l) (k:Int) = @some (Ubody 0).den (l[k].nm,l[k].kd,l[k].fs):=idx_un h
def sigR (o:Option GSig):GSig × Bool:=match o with | some g=>(g,true) | none=>((([]:Bs),[],(0,[]),0),false)
theorem callee_ok {C:Cx} (hC:OkC C) (faces:List (Bs × GFace)) (hf:C.look = lookM faces) (e1 e2:Int) (e3 e4:Bs) (e5:List Bs) (e6:List GExp) (nm:Bs) (j10:List GExp) (j12:Bool) (j13:List GField) (j14 j15:List GExp) (j16:Int) :
  types_judge_callee e1 e2 e3 e4 e5 e6 nm C.uses (unL C.vars) j10 C.funcs j12 j13 j14 j15 j16 faces = some (sigR (calleeS C e3 e4)):=by
 unfold types_judge_callee calleeS
 by_cases hm:e4 = []
 ·rw[decide_eq_true hm,cond_true,if_pos hm,callee_idx _ _ _ _ _ _ _ hC.flen,bind_in,ltZ_eq]
  by_cases hi:idxN (fun f:GFunc=>decide (f.1 = e3)) 0 C.funcs < 0
  ·rw[decide_eq_true hi,cond_true,bind_in,idxN_find _ _ 0,if_pos hi]; rfl
  ·rw[decide_eq_false hi,cond_false,idx_find hi]
   cases hg:C.funcs.find? fun f:GFunc=>decide (f.1 = e3) with
   | none =>
    have:=idxN_find (fun f:GFunc=>decide (f.1 = e3)) C.funcs 0
    rw[hg,if_neg hi] at this
    have hge:=idxN_any (fun f:GFunc=>decide (f.1 = e3)) C.funcs 0
    rw[decide_eq_true (by omega)] at hge
    obtain⟨f,hf1,hf2⟩:=List.any_eq_true.1 hge.symm
    have:=List.find?_eq_none.1 hg f hf1
    exact absurd hf2 this
   | some f =>
    obtain⟨h1,_,_⟩:=hC.funcs f (List.mem_of_find?_eq_some hg)
    rw[bind_in]
    simp only[fu1,fu2]
    have hl:=loopF_at (body:=fun x:Int × Bs × Int × List GField × Int × List GType=>types_judge_callee.b1 f x.1 x.2.1 x.2.2.1 x.2.2.2.1 x.2.2.2.2.1 x.2.2.2.2.2) (x:=(0,([]:Bs),f.2.2.2.1.1,unL f.2.2.2.1.2,f.2.2.2.2.1,[])) (b := .inr ((([]:Bs),f.2.2.1.map (fun p=>(p.kd,p.fs)),f.2.2.2.1,f.2.2.2.2.1),true)) (fun i=>((i:Int),([]:Bs),f.2.2.2.1.1,unL f.2.2.2.1.2,f.2.2.2.2.1,(f.2.2.1.take i).map (fun p=>(p.kd,p.fs)))) f.2.2.1.length rfl (fun i hi=>by
     unfold types_judge_callee.b1
     simp only[fx1]
     rw[lenU,ltZ_eq,decide_eq_true (by omega),cond_true]
     refine (congrArg (fun o=>Option.bind o _) (idxU hi)).trans ?_
     show (app? ((f.2.2.1.take i).map (fun p=>(p.kd,p.fs))) [(f.2.2.1[i].kd,mkL (unL f.2.2.1[i].fs))]).bind _ = _
     rw[mk_un,app_in (by simp; omega),bind_in,z64_succ (by omega),bind_in,take_succ hi,List.map_append]; rfl) (by
     unfold types_judge_callee.b1
     rw[lenU,ltZ_eq,decide_eq_false (by omega),cond_false,List.take_length]
     simp only[fmu,fmu2]) (by omega)
    rw[hl]; rfl
 ·rw[decide_eq_false hm,cond_false,if_neg hm,bind_in,hf]
  dsimp only
  unfold types_judge_callee.j2 types_judge_callee.j1
  cases hl:lookM faces e4 with
  | none=>rw[Option.getD_none,sig_idx _ _ _ _ _ _ _ (by simp),bind_in]; rfl
  | some face =>
   obtain⟨h1,_⟩:=hC.look e4 face (by rw[hf]; exact hl)
   rw[Option.getD_some,sig_idx _ _ _ _ _ _ _ h1,bind_in,Option.isSome_some,Bool.not_true,cond_false,ltZ_eq]
   by_cases hi:idxN (fun f:GSig=>decide (f.1 = e3)) 0 face.2 < 0
   ·rw[decide_eq_true hi,cond_true,bind_in,cond_true]
    dsimp only
    rw[idxN_find _ _ 0,if_pos hi]; rfl
   ·rw[decide_eq_false hi,cond_false,contains_ok _ _ hC.ulen,bind_in,bind_in]
    dsimp only
    have hfd:=idx_find hi
    cases hg:face.2.find? fun f:GSig=>decide (f.1 = e3) with
    | none =>
     have hge:=idxN_any (fun f:GSig=>decide (f.1 = e3)) face.2 0
     rw[decide_eq_true (by omega)] at hge
     obtain⟨f,hf1,hf2⟩:=List.any_eq_true.1 hge.symm
     have:=List.find?_eq_none.1 hg f hf1
     exact absurd hf2 this
    | some g =>
     rw[hg] at hfd
     dsimp only
     cases hu:(C.uses.any fun u=>decide (e4 = u)) with
     | false=>rfl
     | true =>
      rw[Bool.not_true,cond_false,hfd,bind_in]
      simp only[fx1]
      rfl
theorem callee2_ok (e1 e2:Int) (e3 e4:Bs) (e5:List Bs) (e6:List GExp) (nm:Bs) (j8:Bool) (j9:Int):types_judge_callee_v2 e1 e2 e3 e4 e5 e6 nm j8 j9 = some (sigR (calleeS ⟨[],[],[],fun _=>none⟩ e3 e4)):=by
 unfold types_judge_callee_v2 calleeS
 by_cases hm:e4 = []
 ·rw[decide_eq_true hm,cond_true,if_pos hm,callee_idx _ _ _ _ _ _ _ (by simp),bind_in]; rfl
 ·rw[decide_eq_false hm,cond_false,if_neg hm,bind_in]
  dsimp only
  unfold types_judge_callee_v2.j2 types_judge_callee_v2.j1
  rw[Option.getD_none,sig_idx _ _ _ _ _ _ _ (by simp),bind_in]; rfl
theorem two_ops (o:Int):((bif (eqZ o 17) then some (eqZ o 17) else some (eqZ o 18)):Option Bool) = some (decide (o = 17 ∨ o = 18)):=by
 simp only[eqZ_eq]
 by_cases a:o = 17
 ·simp [a]
 ·simp [a]
abbrev tup (nm:Bs) (us:List Bs) (vs:List GField) (ini:List GExp) (fu:List GFunc) (mv:Bool) (old:List GField) (fw:List GExp) (bk:List GExp) (fa:List (Bs × GFace)) (e:Int):=(nm,us,vs,ini,fu,mv,old,fw,bk,e,fa)
theorem list_ok (Gr:List GField → Int → Int → Bs → Bs → List Bs → List GExp → Bs → List Bs → List GField → List GExp → List GFunc → Bool → List GField → List GExp → List GExp → Int → List (Bs × GFace) → Option (GType × Int × Bs × List Bs × List GField × List GExp × List GFunc × Bool × List GField × List GExp × List GExp × Int × List (Bs × GFace))) (F:Int → ExpT → FR) (LG:List GField) (nm:Bs) (us:List Bs) (vs:List GField) (ini:List GExp) (fu:List GFunc) (mv:Bool) (old:List GField) (fw:List GExp) (bk:List GExp) (fa:List (Bs × GFace)) (l:List ExpT) (hl:l.length ≤ 1000)
  (h:∀ eff,∀ a ∈ l,Gr LG a.op a.n a.s a.m a.names (unE a.args) nm us vs ini fu mv old fw bk eff fa = some ((F eff a).1,(F eff a).2.1,tup nm us vs ini fu mv old fw bk fa (F eff a).2.2)) (eff:Int) :
  types_judge_list Gr LG (unE l) nm us vs ini fu mv old fw bk eff fa = some ((listS F eff l).1,(listS F eff l).2.1,tup nm us vs ini fu mv old fw bk fa (listS F eff l).2.2):=by
 unfold types_judge_list
 have hr:=loop_run (body:=fun x=>types_judge_list.b1 Gr LG (unE l) x.1 x.2.1 x.2.2.1 x.2.2.2.1 x.2.2.2.2.1 x.2.2.2.2.2.1 x.2.2.2.2.2.2.1 x.2.2.2.2.2.2.2.1 x.2.2.2.2.2.2.2.2.1 x.2.2.2.2.2.2.2.2.2.1 x.2.2.2.2.2.2.2.2.2.2.1 x.2.2.2.2.2.2.2.2.2.2.2.1 x.2.2.2.2.2.2.2.2.2.2.2.2) (mk:=fun k (s:Int × List GType)=>((k:Int),nm,us,vs,ini,fu,mv,old,fw,bk,s.1,s.2,fa)) l
  (fun k s a=>if (F s.1 a).2.1 = 0 then .inl ((F s.1 a).2.2,s.2 ++ [(F s.1 a).1]) else .inr ([],(F s.1 a).2.1,tup nm us vs ini fu mv old fw bk fa (F s.1 a).2.2)) (fun s=>(s.2,0,tup nm us vs ini fu mv old fw bk fa s.1)) (fun k s=>s.2.length = k)
  (fun k hk s s' hs he=>by
   split at he
   ·injection he with he
    subst he
    simp [hs]
   ·cases he)
  (fun k hk s hs=>by
   unfold types_judge_list.b1
   simp only[fe1,fe2]
   rw[unE_len,ltZ_eq,decide_eq_true (by omega),cond_true,idx_unE hk,bind_in]
   have hh:=h s.1 l[k] (List.getElem_mem hk)
   unfold tupE
   simp only[hh,bind_in,fx1]
   rw[eqZ_eq]
   by_cases h0:(F s.1 l[k]).2.1 = 0
   ·rw[decide_eq_true h0,if_pos h0,Bool.not_true,cond_false,app_in (by rw[hs]; simp; omega),bind_in,z64_succ (by omega)]; rfl
   ·rw[decide_eq_false h0,if_neg h0,Bool.not_false,cond_true])
  (fun s hs=>by
   unfold types_judge_list.b1
   rw[unE_len,ltZ_eq,decide_eq_false (by omega),cond_false]) (by omega) (s0:=(eff,[])) rfl
 refine hr.trans ?_
 have key:∀ (r:List ExpT) (k:Nat) (eff:Int) (out:List GType),runI (fun k s a=>if (F s.1 a).2.1 = 0 then .inl ((F s.1 a).2.2,s.2 ++ [(F s.1 a).1]) else .inr (([]:List GType),(F s.1 a).2.1,tup nm us vs ini fu mv old fw bk fa (F s.1 a).2.2)) (fun (s:Int × List GType)=>(s.2,0,tup nm us vs ini fu mv old fw bk fa s.1)) k (eff,out) r =
   if (listS F eff r).2.1 = 0 then (out ++ (listS F eff r).1,0,tup nm us vs ini fu mv old fw bk fa (listS F eff r).2.2) else ([],(listS F eff r).2.1,tup nm us vs ini fu mv old fw bk fa (listS F eff r).2.2):=by
  intro r
  induction r with
  | nil=>intro k eff out; unfold runI listS; rw[if_pos rfl,List.append_nil]
  | cons a r ih =>
   intro k eff out
   unfold runI listS
   dsimp only
   by_cases h0:(F eff a).2.1 = 0
   ·rw[if_pos h0,if_pos h0]
    dsimp only
    rw[ih]
    by_cases h1:(listS F (F eff a).2.2 r).2.1 = 0
    ·rw[if_pos h1,if_pos h1,if_pos rfl,List.append_assoc]; rfl
    ·rw[if_neg h1,if_neg h1,if_neg h1]
   ·rw[if_neg h0,if_neg h0,if_neg h0]
 rw[key l 0 eff []]
 by_cases h0:(listS F eff l).2.1 = 0
 ·rw[if_pos h0,List.nil_append,h0]
 ·rw[if_neg h0]
  have:∀ (r:List ExpT) (eff:Int),(listS F eff r).2.1 ≠ 0 → (listS F eff r).1 = []:=by
   intro r
   cases r with
   | nil=>intro eff h; exact absurd rfl h
   | cons a r =>
    intro eff h
    unfold listS at h ⊢
    split
    ·rename_i h1
     rw[if_pos h1] at h
     split
     ·rename_i h2
      rw[if_pos h2] at h
      exact absurd rfl h
     ·rfl
    ·rfl
  rw[this l eff h0]
theorem find_rec {C:Cx} (hC:OkC C) (nm:Bs) (ini:List GExp) (mv:Bool) (old:List GField) (fw bk:List GExp) (fa:List (Bs × GFace)) (hfa:C.look = lookM fa):∀ (d n:Nat) (q:Nat) (L:List FieldT) (eff:Int) (e:ExpT),d ≤ 12 → d < n → 4 ≤ q → q + 2 ^ d ≤ 100000 → okE d e → (∀ f ∈ L,okL q f.fs) → L.length + d ≤ 1000000 →
  types_judge_find.rec n (unL L) e.op e.n e.s e.m e.names (unE e.args) nm C.uses (unL C.vars) ini C.funcs mv old fw bk eff fa = some ((findS C d L eff e).1,(findS C d L eff e).2.1,tup nm C.uses (unL C.vars) ini C.funcs mv old fw bk fa (findS C d L eff e).2.2)
 | 0,_,_,_,_,_,_,_,_,_,h,_,_=>h.elim
 | d + 1,0,_,_,_,_,_,h,_,_,_,_,_=>absurd h (by omega)
 | d + 1,n + 1,q,L,eff,e,hd,hn,hq,hq2,he,hL,hlen=>by
  have he0:=he
  obtain⟨a0,a1,a2,a3,a4,a5,a6⟩:=he
  have h1:=pow_pos2 d
  have hp:2 ^ (d + 1) = 2 ^ d + 2 ^ d:=by rw[Nat.pow_succ]; omega
  rw[hp] at hq2
  have ih:∀ eff,∀ a ∈ e.args,types_judge_find.rec n (unL L) a.op a.n a.s a.m a.names (unE a.args) nm C.uses (unL C.vars) ini C.funcs mv old fw bk eff fa = some ((findS C d L eff a).1,(findS C d L eff a).2.1,tup nm C.uses (unL C.vars) ini C.funcs mv old fw bk fa (findS C d L eff a).2.2):=fun eff a ha =>
   find_rec hC nm ini mv old fw bk fa hfa d n q L eff a (by omega) (by omega) hq (by omega) (a6 a ha) hL (by omega)
  have hla:∀ eff,∀ a ∈ e.args,okL (q + 2 ^ d) (findS C d L eff a).1.2:=fun eff a ha=>find_okL hC d q L eff a hq (a6 a ha) hL
  have hlist:=fun eff=>list_ok (types_judge_find.rec n) (findS C d L) (unL L) nm C.uses (unL C.vars) ini C.funcs mv old fw bk fa e.args a0 ih eff
  have hmem:∀ i,i < e.args.length → argE e.args i ∈ e.args:=fun i hi=>by rw[argE_get hi]; exact List.getElem_mem _
  show types_judge_find.body (types_judge_find.rec n) (unL L) e.op e.n e.s e.m e.names (unE e.args) nm C.uses (unL C.vars) ini C.funcs mv old fw bk eff fa = _
  unfold types_judge_find.body findS
  rw[eqZ_eq,eqZ_eq,two_ops,bind_in]
  by_cases c1:e.op = 2
  ·rw[decide_eq_true c1,cond_true,if_pos c1,lookup_ok,bind_in]
   simp only[fx1]
   cases (lookR L e.s).2 <;> rfl
  rw[decide_eq_false c1,cond_false,if_neg c1]
  by_cases c2:e.op = 12
  ·have hl2:=a1 c2
   rw[decide_eq_true c2,cond_true,if_pos c2]
   unfold letS
   rw[idx_arg0 (show 0 < e.args.length by omega),bind_in]
   have i0:=ih eff _ (hmem 0 (by omega))
   unfold tupE
   simp only[fe1,fe2,fx1]
   simp only[i0,bind_in]
   rw[eqZ_eq]
   by_cases h0:(findS C d L eff (argE e.args 0)).2.1 = 0
   rotate_left
   ·rw[decide_eq_false (by simpa using h0),Bool.not_false,cond_true,if_neg h0]
   ·rw[decide_eq_true (by simpa using h0),Bool.not_true,cond_false,if_pos h0,clone_ok L (by omega),bind_in,app_in (by rw[un_len]; simp; omega),bind_in,idx_arg1 (show 1 < e.args.length by omega),bind_in]
    have i1:=find_rec hC nm ini mv old fw bk fa hfa d n (q + 2 ^ d) (L ++ [.mk e.s (findS C d L eff (argE e.args 0)).1.1 (findS C d L eff (argE e.args 0)).1.2]) (findS C d L eff (argE e.args 0)).2.2 (argE e.args 1) (by omega) (by omega) (by omega) (by omega) (a6 _ (hmem 1 (by omega))) (fun f hf=>by
     rcases List.mem_append.1 hf with hf | hf
     ·exact okL_le (by omega) (hL f hf)
     ·rw[List.mem_singleton] at hf
      subst hf
      exact hla eff _ (hmem 0 (by omega))) (by rw[List.length_append]; simp; omega)
    rw[un_app,un_one] at i1
    simp only[tupE,i1,bind_in]
  rw[decide_eq_false c2,cond_false,if_neg c2]
  by_cases c3:e.op = 17 ∨ e.op = 18
  ·rw[decide_eq_true c3,if_pos c3]
   unfold types_judge_find.j2 types_judge_variable varS
   rw[cond_true,lookup_ok,bind_in]
   simp only[fe1,fe2,fx1,fu1,fu2]
   cases hv:(lookR C.vars e.s).2 with
   | false=>rfl
   | true =>
    rw[Bool.not_true,cond_false,if_pos rfl,eqZ_eq]
    by_cases c4:e.op = 18
    rotate_left
    ·rw[decide_eq_false c4,cond_false,if_neg c4,bind_in]
    ·have hl1:=a2 c4
     rw[decide_eq_true c4,cond_true,if_pos c4,idx_arg0 hl1,bind_in]
     have i0:=ih eff _ (hmem 0 hl1)
     unfold tupE
     simp only[i0,bind_in]
     rw[eqZ_eq]
     by_cases h0:(findS C d L eff (argE e.args 0)).2.1 = 0
     rotate_left
     ·rw[decide_eq_false (by simpa using h0),Bool.not_false,cond_true,if_neg h0]; rfl
     ·rw[decide_eq_true (by simpa using h0),Bool.not_true,cond_false,if_pos h0,below_ok (d:=4) (by omega) _ _ _ _ (look_okL hC.vars _),bind_in]
      unfold subB
      cases (decide ((findS C d L eff (argE e.args 0)).1.1 = (lookR C.vars e.s).1.1) && belL (lookR C.vars e.s).1.2 (findS C d L eff (argE e.args 0)).1.2) <;> rfl
  rw[decide_eq_false c3,if_neg c3]
  unfold types_judge_find.j2
  rw[cond_false,eqZ_eq]
  by_cases c5:e.op = 15
  ·rw[decide_eq_true c5,cond_true,if_pos c5]
   unfold types_judge_call callS
   rw[callee_ok hC fa hfa,bind_in]
   simp only[fx1]
   cases hg:calleeS C e.s e.m with
   | none=>rfl
   | some g =>
    have hgk:=callee_okC hC hg
    unfold sigR
    dsimp only
    rw[Bool.not_true,cond_false,eqZ_eq,unE_len]
    by_cases h3:g.2.1.length = e.args.length
    rotate_left
    ·rw[decide_eq_false (by omega),Bool.not_false,cond_true,if_neg h3]; rfl
    ·rw[decide_eq_true (by omega),Bool.not_true,cond_false,if_pos h3,hlist eff,bind_in]
     dsimp only
     rw[eqZ_eq]
     by_cases h0:(listS (findS C d L) eff e.args).2.1 = 0
     rotate_left
     ·rw[decide_eq_false h0,Bool.not_false,cond_true,if_neg h0]; rfl
     ·rw[decide_eq_true h0,Bool.not_true,cond_false,if_pos h0]
      have hll:=listS_len _ _ h0
      have hloop:=loop_scan (body:=fun x=>types_judge_call.b1 (g,true) ((listS (findS C d L) eff e.args).1,(listS (findS C d L) eff e.args).2.1,tup nm C.uses (unL C.vars) ini C.funcs mv old fw bk fa (listS (findS C d L) eff e.args).2.2) x) (listS (findS C d L) eff e.args).1
       (fun k x=>if subB x (gT g.2.1 k) = true then none else some (((0,[]):GType),(13:Int),tup nm C.uses (unL C.vars) ini C.funcs mv old fw bk fa (listS (findS C d L) eff e.args).2.2)) (g.2.2.1,0,tup nm C.uses (unL C.vars) ini C.funcs mv old fw bk fa (orI .i64 (listS (findS C d L) eff e.args).2.2 g.2.2.2)) (fun k hk=>by
        unfold types_judge_call.b1
        simp only[fu1,fu2]
        rw[ltZ_eq,decide_eq_true (by omega),cond_true,idx_nat hk,bind_in,idx_g (show k < g.2.1.length by omega),bind_in]
        have hgt:okL 4 (gT g.2.1 k).2:=by
         unfold gT
         rw[List.getD_eq_getElem?_getD,List.getElem?_eq_getElem (show k < g.2.1.length by omega)]
         exact hgk.1 _ (List.getElem_mem _)
        rw[below_ok (d:=4) (by omega) _ _ _ _ hgt,bind_in,z64_succ (by omega)]
        unfold subB
        by_cases hh:(decide ((listS (findS C d L) eff e.args).1[k].1 = (gT g.2.1 k).1) && belL (gT g.2.1 k).2 (listS (findS C d L) eff e.args).1[k].2) = true
        ·rw[if_pos hh,hh]; rfl
        ·rw[if_neg hh]
         rw[Bool.not_eq_true] at hh
         rw[hh]; rfl) (by
        unfold types_judge_call.b1
        simp only[fx1]
        rw[ltZ_eq,decide_eq_false (by omega),cond_false]) (by omega)
      rw[hloop,bind_in,scan_allI]
      unfold allB
      cases (allI (fun k x=>subB x (gT g.2.1 k)) 0 (listS (findS C d L) eff e.args).1) <;> rfl
  ·rw[decide_eq_false c5,cond_false,if_neg c5,hlist eff,bind_in]
   dsimp only
   unfold restS
   rw[eqZ_eq,eqZ_eq]
   by_cases h0:(listS (findS C d L) eff e.args).2.1 = 0
   rotate_left
   ·rw[decide_eq_false h0,Bool.not_false,cond_true,if_neg h0]
   ·rw[decide_eq_true h0,Bool.not_true,cond_false,if_pos h0]
    have hll:=listS_len _ _ h0
    have hp:=plain_ok (d:=q + 2 ^ d) (by omega) e.op e.n e.s e.m e.names (unE e.args) (listS (findS C d L) eff e.args).1 (by omega) (fun h=>by rw[hll]; exact a3 h) (fun h=>by rw[hll]; exact a5 h) (fun h=>by rw[hll]; exact a4 h) (fun t ht=>listS_mem (P:=fun t=>okL (q + 2 ^ d) t.2) _ _ hla t ht)
    unfold types_judge_find.j1
    simp only[hp,fx1]
    by_cases c6:e.op = 16
    ·rw[decide_eq_true c6,if_pos c6]; rfl
    ·rw[decide_eq_false c6,if_neg c6]; rfl
abbrev tup_v2 (nm:Bs) (mv:Bool) (e:Int):=(nm,mv,e)
theorem list_v2_ok (Gr:List GField → Int → Int → Bs → Bs → List Bs → List GExp → Bs → Bool → Int → Option (GType × Int × Bs × Bool × Int)) (F:Int → ExpT → FR) (LG:List GField) (nm:Bs) (mv:Bool) (l:List ExpT) (hl:l.length ≤ 1000)
  (h:∀ eff,∀ a ∈ l,Gr LG a.op a.n a.s a.m a.names (unE a.args) nm mv eff = some ((F eff a).1,(F eff a).2.1,tup_v2 nm mv (F eff a).2.2)) (eff:Int) :
  types_judge_list_v2 Gr LG (unE l) nm mv eff = some ((listS F eff l).1,(listS F eff l).2.1,tup_v2 nm mv (listS F eff l).2.2):=by
 unfold types_judge_list_v2
 have hr:=loop_run (body:=fun x=>types_judge_list_v2.b1 Gr LG (unE l) x.1 x.2.1 x.2.2.1 x.2.2.2.1 x.2.2.2.2) (mk:=fun k (s:Int × List GType)=>((k:Int),nm,mv,s.1,s.2)) l
  (fun k s a=>if (F s.1 a).2.1 = 0 then .inl ((F s.1 a).2.2,s.2 ++ [(F s.1 a).1]) else .inr ([],(F s.1 a).2.1,tup_v2 nm mv (F s.1 a).2.2)) (fun s=>(s.2,0,tup_v2 nm mv s.1)) (fun k s=>s.2.length = k)
  (fun k hk s s' hs he=>by
   split at he
   ·injection he with he
    subst he
    simp [hs]
   ·cases he)
  (fun k hk s hs=>by
   unfold types_judge_list_v2.b1
   simp only[fe1,fe2]
   rw[unE_len,ltZ_eq,decide_eq_true (by omega),cond_true,idx_unE hk,bind_in]
   have hh:=h s.1 l[k] (List.getElem_mem hk)
   unfold tupE
   simp only[hh,bind_in,fx1]
   rw[eqZ_eq]
   by_cases h0:(F s.1 l[k]).2.1 = 0
   ·rw[decide_eq_true h0,if_pos h0,Bool.not_true,cond_false,app_in (by rw[hs]; simp; omega),bind_in,z64_succ (by omega)]; rfl
   ·rw[decide_eq_false h0,if_neg h0,Bool.not_false,cond_true])
  (fun s hs=>by
   unfold types_judge_list_v2.b1
   rw[unE_len,ltZ_eq,decide_eq_false (by omega),cond_false]) (by omega) (s0:=(eff,[])) rfl
 refine hr.trans ?_
 have key:∀ (r:List ExpT) (k:Nat) (eff:Int) (out:List GType),runI (fun k s a=>if (F s.1 a).2.1 = 0 then .inl ((F s.1 a).2.2,s.2 ++ [(F s.1 a).1]) else .inr (([]:List GType),(F s.1 a).2.1,tup_v2 nm mv (F s.1 a).2.2)) (fun (s:Int × List GType)=>(s.2,0,tup_v2 nm mv s.1)) k (eff,out) r =
   if (listS F eff r).2.1 = 0 then (out ++ (listS F eff r).1,0,tup_v2 nm mv (listS F eff r).2.2) else ([],(listS F eff r).2.1,tup_v2 nm mv (listS F eff r).2.2):=by
  intro r
  induction r with
  | nil=>intro k eff out; unfold runI listS; rw[if_pos rfl,List.append_nil]
  | cons a r ih =>
   intro k eff out
   unfold runI listS
   dsimp only
   by_cases h0:(F eff a).2.1 = 0
   ·rw[if_pos h0,if_pos h0]
    dsimp only
    rw[ih]
    by_cases h1:(listS F (F eff a).2.2 r).2.1 = 0
    ·rw[if_pos h1,if_pos h1,if_pos rfl,List.append_assoc]; rfl
    ·rw[if_neg h1,if_neg h1,if_neg h1]
   ·rw[if_neg h0,if_neg h0,if_neg h0]
 rw[key l 0 eff []]
 by_cases h0:(listS F eff l).2.1 = 0
 ·rw[if_pos h0,List.nil_append,h0]
 ·rw[if_neg h0]
  have:∀ (r:List ExpT) (eff:Int),(listS F eff r).2.1 ≠ 0 → (listS F eff r).1 = []:=by
   intro r
   cases r with
   | nil=>intro eff h; exact absurd rfl h
   | cons a r =>
    intro eff h
    unfold listS at h ⊢
    split
    ·rename_i h1
     rw[if_pos h1] at h
     split
     ·rename_i h2
      rw[if_pos h2] at h
      exact absurd rfl h
     ·rfl
    ·rfl
  rw[this l eff h0]
theorem find_v2_rec {C:Cx} (hC:OkC C) (hcx:C = ⟨[],[],[],fun _=>none⟩) (nm:Bs) (mv:Bool):∀ (d n:Nat) (q:Nat) (L:List FieldT) (eff:Int) (e:ExpT),d ≤ 12 → d < n → 4 ≤ q → q + 2 ^ d ≤ 100000 → okE d e → (∀ f ∈ L,okL q f.fs) → L.length + d ≤ 1000000 →
  types_judge_find_v2.rec n (unL L) e.op e.n e.s e.m e.names (unE e.args) nm mv eff = some ((findS C d L eff e).1,(findS C d L eff e).2.1,tup_v2 nm mv (findS C d L eff e).2.2)
 | 0,_,_,_,_,_,_,_,_,_,h,_,_=>h.elim
 | d + 1,0,_,_,_,_,_,h,_,_,_,_,_=>absurd h (by omega)
 | d + 1,n + 1,q,L,eff,e,hd,hn,hq,hq2,he,hL,hlen=>by
  have he0:=he
  obtain⟨a0,a1,a2,a3,a4,a5,a6⟩:=he
  have h1:=pow_pos2 d
  have hp:2 ^ (d + 1) = 2 ^ d + 2 ^ d:=by rw[Nat.pow_succ]; omega
  rw[hp] at hq2
  have ih:∀ eff,∀ a ∈ e.args,types_judge_find_v2.rec n (unL L) a.op a.n a.s a.m a.names (unE a.args) nm mv eff = some ((findS C d L eff a).1,(findS C d L eff a).2.1,tup_v2 nm mv (findS C d L eff a).2.2):=fun eff a ha =>
   find_v2_rec hC hcx nm mv d n q L eff a (by omega) (by omega) hq (by omega) (a6 a ha) hL (by omega)
  have hla:∀ eff,∀ a ∈ e.args,okL (q + 2 ^ d) (findS C d L eff a).1.2:=fun eff a ha=>find_okL hC d q L eff a hq (a6 a ha) hL
  have hlist:=fun eff=>list_v2_ok (types_judge_find_v2.rec n) (findS C d L) (unL L) nm mv e.args a0 ih eff
  have hmem:∀ i,i < e.args.length → argE e.args i ∈ e.args:=fun i hi=>by rw[argE_get hi]; exact List.getElem_mem _
  show types_judge_find_v2.body (types_judge_find_v2.rec n) (unL L) e.op e.n e.s e.m e.names (unE e.args) nm mv eff = _
  unfold types_judge_find_v2.body findS
  rw[eqZ_eq,eqZ_eq,two_ops,bind_in]
  by_cases c1:e.op = 2
  ·rw[decide_eq_true c1,cond_true,if_pos c1,lookup_ok,bind_in]
   simp only[fx1]
   cases (lookR L e.s).2 <;> rfl
  rw[decide_eq_false c1,cond_false,if_neg c1]
  by_cases c2:e.op = 12
  ·have hl2:=a1 c2
   rw[decide_eq_true c2,cond_true,if_pos c2]
   unfold letS
   rw[idx_arg0 (show 0 < e.args.length by omega),bind_in]
   have i0:=ih eff _ (hmem 0 (by omega))
   unfold tupE
   simp only[fe1,fe2,fx1]
   simp only[i0,bind_in]
   rw[eqZ_eq]
   by_cases h0:(findS C d L eff (argE e.args 0)).2.1 = 0
   rotate_left
   ·rw[decide_eq_false (by simpa using h0),Bool.not_false,cond_true,if_neg h0]
   ·rw[decide_eq_true (by simpa using h0),Bool.not_true,cond_false,if_pos h0,clone_ok L (by omega),bind_in,app_in (by rw[un_len]; simp; omega),bind_in,idx_arg1 (show 1 < e.args.length by omega),bind_in]
    have i1:=find_v2_rec hC hcx nm mv d n (q + 2 ^ d) (L ++ [.mk e.s (findS C d L eff (argE e.args 0)).1.1 (findS C d L eff (argE e.args 0)).1.2]) (findS C d L eff (argE e.args 0)).2.2 (argE e.args 1) (by omega) (by omega) (by omega) (by omega) (a6 _ (hmem 1 (by omega))) (fun f hf=>by
     rcases List.mem_append.1 hf with hf | hf
     ·exact okL_le (by omega) (hL f hf)
     ·rw[List.mem_singleton] at hf
      subst hf
      exact hla eff _ (hmem 0 (by omega))) (by rw[List.length_append]; simp; omega)
    rw[un_app,un_one] at i1
    simp only[tupE,i1,bind_in]
  rw[decide_eq_false c2,cond_false,if_neg c2]
  by_cases c3:e.op = 17 ∨ e.op = 18
  ·rw[decide_eq_true c3,if_pos c3]
   unfold types_judge_find_v2.j2 types_judge_variable_v2 varS
   rw[cond_true,show types_lookup [] e.s = some (lookR C.vars e.s) by rw[hcx]; exact lookup_ok [] e.s,bind_in]
   simp only[fe1,fe2,fx1,fu1,fu2]
   cases hv:(lookR C.vars e.s).2 with
   | false=>rfl
   | true =>
    rw[Bool.not_true,cond_false,if_pos rfl,eqZ_eq]
    by_cases c4:e.op = 18
    rotate_left
    ·rw[decide_eq_false c4,cond_false,if_neg c4,bind_in]
    ·have hl1:=a2 c4
     rw[decide_eq_true c4,cond_true,if_pos c4,idx_arg0 hl1,bind_in]
     have i0:=ih eff _ (hmem 0 hl1)
     unfold tupE
     simp only[i0,bind_in]
     rw[eqZ_eq]
     by_cases h0:(findS C d L eff (argE e.args 0)).2.1 = 0
     rotate_left
     ·rw[decide_eq_false (by simpa using h0),Bool.not_false,cond_true,if_neg h0]; rfl
     ·rw[decide_eq_true (by simpa using h0),Bool.not_true,cond_false,if_pos h0,below_ok (d:=4) (by omega) _ _ _ _ (look_okL hC.vars _),bind_in]
      unfold subB
      cases (decide ((findS C d L eff (argE e.args 0)).1.1 = (lookR C.vars e.s).1.1) && belL (lookR C.vars e.s).1.2 (findS C d L eff (argE e.args 0)).1.2) <;> rfl
  rw[decide_eq_false c3,if_neg c3]
  unfold types_judge_find_v2.j2
  rw[cond_false,eqZ_eq]
  by_cases c5:e.op = 15
  ·rw[decide_eq_true c5,cond_true,if_pos c5]
   unfold types_judge_call_v2 callS
   rw[show types_judge_callee_v2 e.op e.n e.s e.m e.names (unE e.args) nm mv eff = some (sigR (calleeS C e.s e.m)) by rw[hcx]; exact callee2_ok _ _ _ _ _ _ _ _ _,bind_in]
   simp only[fx1]
   cases hg:calleeS C e.s e.m with
   | none=>rfl
   | some g =>
    have hgk:=callee_okC hC hg
    unfold sigR
    dsimp only
    rw[Bool.not_true,cond_false,eqZ_eq,unE_len]
    by_cases h3:g.2.1.length = e.args.length
    rotate_left
    ·rw[decide_eq_false (by omega),Bool.not_false,cond_true,if_neg h3]; rfl
    ·rw[decide_eq_true (by omega),Bool.not_true,cond_false,if_pos h3,hlist eff,bind_in]
     dsimp only
     rw[eqZ_eq]
     by_cases h0:(listS (findS C d L) eff e.args).2.1 = 0
     rotate_left
     ·rw[decide_eq_false h0,Bool.not_false,cond_true,if_neg h0]; rfl
     ·rw[decide_eq_true h0,Bool.not_true,cond_false,if_pos h0]
      have hll:=listS_len _ _ h0
      have hloop:=loop_scan (body:=fun x=>types_judge_call_v2.b1 (g,true) ((listS (findS C d L) eff e.args).1,(listS (findS C d L) eff e.args).2.1,tup_v2 nm mv (listS (findS C d L) eff e.args).2.2) x) (listS (findS C d L) eff e.args).1
       (fun k x=>if subB x (gT g.2.1 k) = true then none else some (((0,[]):GType),(13:Int),tup_v2 nm mv (listS (findS C d L) eff e.args).2.2)) (g.2.2.1,0,tup_v2 nm mv (orI .i64 (listS (findS C d L) eff e.args).2.2 g.2.2.2)) (fun k hk=>by
        unfold types_judge_call_v2.b1
        simp only[fu1,fu2]
        rw[ltZ_eq,decide_eq_true (by omega),cond_true,idx_nat hk,bind_in,idx_g (show k < g.2.1.length by omega),bind_in]
        have hgt:okL 4 (gT g.2.1 k).2:=by
         unfold gT
         rw[List.getD_eq_getElem?_getD,List.getElem?_eq_getElem (show k < g.2.1.length by omega)]
         exact hgk.1 _ (List.getElem_mem _)
        rw[below_ok (d:=4) (by omega) _ _ _ _ hgt,bind_in,z64_succ (by omega)]
        unfold subB
        by_cases hh:(decide ((listS (findS C d L) eff e.args).1[k].1 = (gT g.2.1 k).1) && belL (gT g.2.1 k).2 (listS (findS C d L) eff e.args).1[k].2) = true
        ·rw[if_pos hh,hh]; rfl
        ·rw[if_neg hh]
         rw[Bool.not_eq_true] at hh
         rw[hh]; rfl) (by
        unfold types_judge_call_v2.b1
        simp only[fx1]
        rw[ltZ_eq,decide_eq_false (by omega),cond_false]) (by omega)
      rw[hloop,bind_in,scan_allI]
      unfold allB
      cases (allI (fun k x=>subB x (gT g.2.1 k)) 0 (listS (findS C d L) eff e.args).1) <;> rfl
  ·rw[decide_eq_false c5,cond_false,if_neg c5,hlist eff,bind_in]
   dsimp only
   unfold restS
   rw[eqZ_eq,eqZ_eq]
   by_cases h0:(listS (findS C d L) eff e.args).2.1 = 0
   rotate_left
   ·rw[decide_eq_false h0,Bool.not_false,cond_true,if_neg h0]
   ·rw[decide_eq_true h0,Bool.not_true,cond_false,if_pos h0]
    have hll:=listS_len _ _ h0
    have hp:=plain_ok (d:=q + 2 ^ d) (by omega) e.op e.n e.s e.m e.names (unE e.args) (listS (findS C d L) eff e.args).1 (by omega) (fun h=>by rw[hll]; exact a3 h) (fun h=>by rw[hll]; exact a5 h) (fun h=>by rw[hll]; exact a4 h) (fun t ht=>listS_mem (P:=fun t=>okL (q + 2 ^ d) t.2) _ _ hla t ht)
    unfold types_judge_find_v2.j1
    simp only[hp,fx1]
    by_cases c6:e.op = 16
    ·rw[decide_eq_true c6,if_pos c6]; rfl
    ·rw[decide_eq_false c6,if_neg c6]; rfl
end Go.Proofs.Ytaocfjifacnokaa
