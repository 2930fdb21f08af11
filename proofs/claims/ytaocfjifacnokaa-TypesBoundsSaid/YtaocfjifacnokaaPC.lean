import Derived.Test.YtaocfjifacnokaaPA
set_option linter.unusedVariables false
set_option linter.unusedSimpArgs false
namespace Go.Proofs.Ytaocfjifacnokaa
open Go.Lad
theorem okL_len {d:Nat} {l:List FieldT} (h:okL d l):l.length ≤ 1000000:=by
 cases d with
 | zero=>have h:l = []:=h; subst h; simp
 | succ d=>exact h.1
theorem okL_mem {d n:Nat} {l:List FieldT} (h:okL d l) (hn:d < n + 1) {f:FieldT} (hf:f ∈ l):∃ e,e < n ∧ okL e f.fs:=by
 cases d with
 | zero=>have h:l = []:=h; subst h; cases hf
 | succ d=>exact⟨d,by omega,h.2 _ hf⟩
theorem take_succ {α:Type} {l:List α} {i:Nat} (h:i < l.length):l.take (i + 1) = l.take i ++ [l[i]]:=by
 rw[List.take_add_one,List.getElem?_eq_getElem h]; rfl
theorem un_app (a b:List FieldT):unL (a ++ b) = unL a ++ unL b:=List.map_append
theorem un_one (n:Bs) (k:Int) (l:List FieldT):unL [FieldT.mk n k l] = [(n,k,l)]:=rfl
theorem fmu (l:List FieldT):@List.map (Ubody 0).den FieldT (Umk 0) (unL l) = l:=mk_un l
theorem fmu2 (l:List FieldT):@List.map GField FieldT (Umk 0) (unL l) = l:=mk_un l
theorem fresh2_rec:∀ (d n:Nat) (k:Int) (l:List FieldT),okL d l → d < n → types_fresh_v2.rec n k (unL l) = some (k,l)
 | d,0,_,_,_,h=>absurd h (by omega)
 | d,n + 1,k,l,h,hn=>by
  show types_fresh_v2.body (types_fresh_v2.rec n) k (unL l) = _
  unfold types_fresh_v2.body
  have hl:=okL_len h
  have:=loopF_at (body:=fun x:Int × Int × List GField=>types_fresh_v2.b1 (types_fresh_v2.rec n) (unL l) x.1 x.2.1 x.2.2) (x:=(0,k,[])) (b:=(k,l)) (fun i=>((i:Int),k,unL (l.take i))) l.length rfl (fun i hi=>by
   unfold types_fresh_v2.b1
   simp only[fu1,fu2]
   rw[un_len,ltZ_eq,decide_eq_true (by omega),cond_true,idx_un hi,bind_in]
   obtain⟨e,he,hok⟩:=okL_mem h hn (List.getElem_mem hi)
   have hr:=fresh2_rec e n l[i].kd l[i].fs hok he
   simp only[hr,bind_in,fx1]
   rw[app_in (by rw[un_len,List.length_take]; simp; omega),bind_in,z64_succ (by omega),bind_in,take_succ hi,un_app,← FieldT.eta l[i],un_one]; rfl) (by
   unfold types_fresh_v2.b1
   simp only[ltZ_eq]
   rw[un_len,decide_eq_false (by omega),cond_false,List.take_length]
   simp only[fmu]) (by omega)
  exact this
theorem fresh_ok {d:Nat} (hd:d ≤ 1000000) (k:Int) (l:List FieldT) (h:okL d l):types_fresh_v2 k (unL l) = some (k,l):=fresh2_rec d _ k l h (fuel_big hd)
theorem freshO_ok {d:Nat} (hd:d ≤ 1000000) (k:Int) (l:List FieldT) (h:okL d l):types_fresh k (unL l) = some (k,unL l):=by
 unfold types_fresh
 have hl:=okL_len h
 exact loopF_at (body:=fun x:Int × Int × List GField=>types_fresh.b1 (unL l) x.1 x.2.1 x.2.2) (x:=(0,k,[])) (b:=(k,unL l)) (fun i=>((i:Int),k,unL (l.take i))) l.length rfl (fun i hi=>by
  unfold types_fresh.b1
  simp only[fu1,fu2]
  rw[un_len,ltZ_eq,decide_eq_true (by omega),cond_true,idx_un hi,bind_in]
  obtain⟨e,he,hok⟩:=okL_mem h (Nat.lt_succ_self d) (List.getElem_mem hi)
  have hr:=fresh_ok (d:=e) (by omega) l[i].kd l[i].fs hok
  simp only[hr,bind_in,fx1]
  rw[app_in (by rw[un_len,List.length_take]; simp; omega),bind_in,z64_succ (by omega),bind_in,take_succ hi,un_app,← FieldT.eta l[i],un_one]; rfl) (by
  unfold types_fresh.b1
  simp only[ltZ_eq]
  rw[un_len,decide_eq_false (by omega),cond_false,List.take_length]) (by omega)
mutual
def upF:FieldT → List FieldT → List FieldT
 | .mk n k l,bl=>match lookF bl n with | some g=>if k = g.kd then [.mk n k (upL l g.fs)] else [] | none=>[]
def upL:List FieldT → List FieldT → List FieldT
 | [],_=>[]
 | f :: r,bl=>upF f bl ++ upL r bl
end
theorem upF_eq (f:FieldT) (bl:List FieldT):upF f bl = match lookF bl f.nm with | some g=>if f.kd = g.kd then [.mk f.nm f.kd (upL f.fs g.fs)] else [] | none=>[]:=by cases f; rw[upF]; rfl
theorem upL_app:∀ (a b bl:List FieldT),upL (a ++ b) bl = upL a bl ++ upL b bl
 | [],b,bl=>by rw[List.nil_append,upL]; rfl
 | f :: a,b,bl=>by rw[List.cons_append,upL,upL,upL_app a b bl,List.append_assoc]
theorem upF_len (f:FieldT) (bl:List FieldT):(upF f bl).length ≤ 1:=by
 rw[upF_eq]
 split
 ·split <;> simp
 ·simp
theorem upL_len:∀ (a bl:List FieldT),(upL a bl).length ≤ a.length
 | [],bl=>by rw[upL]; simp
 | f :: a,bl=>by
  rw[upL,List.length_append,List.length_cons]
  have:=upF_len f bl
  have:=upL_len a bl
  omega
def upR (k:Int) (al:List FieldT) (k':Int) (bl:List FieldT):GType × Bool:=if k = k' then ((k,upL al bl),true) else ((0,[]),false)
theorem upper_rec:∀ (d n:Nat) (k:Int) (al:List FieldT) (k':Int) (bl:List FieldT),okL d al → d < n → types_upper.rec n k (unL al) k' (unL bl) = some (upR k al k' bl)
 | d,0,_,_,_,_,_,h=>absurd h (by omega)
 | d,n + 1,k,al,k',bl,h,hn=>by
  show types_upper.body (types_upper.rec n) k (unL al) k' (unL bl) = _
  unfold types_upper.body upR
  rw[eqZ_eq]
  by_cases hk:k = k'
  rotate_left
  ·rw[decide_eq_false hk,if_neg hk]; rfl
  rw[decide_eq_true hk,if_pos hk,Bool.not_true,cond_false]
  have hl:=okL_len h
  exact loopF_at (body:=fun x:Int × Int × List GField=>types_upper.b1 (types_upper.rec n) (unL al) (unL bl) x.1 x.2.1 x.2.2) (x:=(0,k,[])) (b:=((k,upL al bl),true)) (fun i=>((i:Int),k,unL (upL (al.take i) bl))) al.length (by rw[List.take_zero,upL]; rfl) (fun i hi=>by
   unfold types_upper.b1
   simp only[fu1,fu2]
   rw[un_len,ltZ_eq,decide_eq_true (by omega),cond_true,idx_un hi,bind_in,lookup_ok,bind_in]
   obtain⟨e,he,hok⟩:=okL_mem h hn (List.getElem_mem hi)
   have hsm:(upL (al.take i) bl).length ≤ i:=Nat.le_trans (upL_len _ _) (by rw[List.length_take]; omega)
   have hup:upL [al[i]] bl = upF al[i] bl:=by rw[upL,upL,List.append_nil]
   rw[take_succ hi,upL_app,hup,upF_eq]
   unfold lookR
   cases hf:lookF bl al[i].nm with
   | none =>
    dsimp only
    rw[cond_false,z64_succ (by omega),bind_in,List.append_nil]
   | some g =>
    dsimp only
    have hr:=upper_rec e n al[i].kd al[i].fs g.kd g.fs hok he
    rw[cond_true]
    simp only[hr,bind_in]
    unfold upR
    by_cases hkd:al[i].kd = g.kd
    ·rw[if_pos hkd,if_pos hkd]
     dsimp only
     rw[cond_true]
     simp only[fx1]
     rw[app_in (by rw[un_len]; simp; omega),bind_in,z64_succ (by omega),bind_in,un_app,un_one]
    ·rw[if_neg hkd,if_neg hkd]
     dsimp only
     rw[cond_false,z64_succ (by omega),bind_in,List.append_nil]) (by
   unfold types_upper.b1
   simp only[ltZ_eq]
   rw[un_len,decide_eq_false (by omega),cond_false,List.take_length]
   simp only[fmu]) (by omega)
theorem upper_ok {d:Nat} (hd:d ≤ 1000000) (k:Int) (al:List FieldT) (k':Int) (bl:List FieldT) (h:okL d al):types_upper k (unL al) k' (unL bl) = some (upR k al k' bl):=upper_rec d _ k al k' bl h (fuel_big hd)
end Go.Proofs.Ytaocfjifacnokaa
namespace Go.Proofs.Ytaocfjifacnokaa
open Go.Lad
end Go.Proofs.Ytaocfjifacnokaa
namespace Go.Proofs.Ytaocfjifacnokaa
open Go.Lad
def posB:List FieldT → Bs → Nat
 | [],_=>0
 | f :: r,s=>if Op.bytesLess f.nm s = true then posB r s + 1 else 0
theorem posB_cons (f:FieldT) (r:List FieldT) (s:Bs):posB (f :: r) s = if Op.bytesLess f.nm s = true then posB r s + 1 else 0:=by rw[posB]
theorem bn (c:List FieldT):belL [] c = true:=by rw[belL]
theorem posB_le:∀ (l:List FieldT) (s:Bs),posB l s ≤ l.length
 | [],_=>Nat.le_refl _
 | f :: r,s=>by
  unfold posB
  have:=posB_le r s
  split <;> simp <;> omega
theorem posB_lt:∀ (l:List FieldT) (s:Bs) (k:Nat) (hk:k < l.length),k < posB l s → Op.bytesLess l[k].nm s = true
 | [],_,k,hk,_=>absurd hk (by simp)
 | f :: r,s,k,hk,h=>by
  unfold posB at h
  split at h
  ·rename_i hf
   cases k with
   | zero=>exact hf
   | succ k=>exact posB_lt r s k (by simpa using hk) (by omega)
  ·omega
theorem posB_not:∀ (l:List FieldT) (s:Bs) (h:posB l s < l.length),Op.bytesLess l[posB l s].nm s = false
 | [],_,h=>absurd h (by simp)
 | f :: r,s,h=>by
  by_cases hf:Op.bytesLess f.nm s = true
  ·have e:posB (f :: r) s = posB r s + 1:=by rw[posB_cons,if_pos hf]
   have h':posB r s < r.length:=by rw[e] at h; simpa using h
   have:=posB_not r s h'
   simp only[e,List.getElem_cons_succ]
   exact this
  ·have e:posB (f :: r) s = 0:=by rw[posB_cons,if_neg hf]
   simp only[e,List.getElem_cons_zero]
   rwa [Bool.not_eq_true] at hf
theorem posB_of {l:List FieldT} {s:Bs} (hs:srt l) {m:Nat} (hm:m ≤ l.length) (h1:∀ k (hk:k < l.length),k < m → Op.bytesLess l[k].nm s = true) (h2:∀ k (hk:k < l.length),m ≤ k → Op.bytesLess l[k].nm s = false):m = posB l s:=by
 have hp:=posB_le l s
 rcases Nat.lt_trichotomy m (posB l s) with h | h | h
 ·have a:=posB_lt l s m (by omega) h
  rw[h2 m (by omega) (Nat.le_refl _)] at a
  cases a
 ·exact h
 ·have a:=posB_not l s (by omega)
  rw[h1 _ (by omega) h] at a
  cases a
def SA:Nat → List FieldT → Prop
 | 0,l=>l = []
 | d + 1,l=>srt l ∧ ∀ f ∈ l,SA d f.fs
theorem SA_right:∀ {d:Nat} {k:Int} {l:List FieldT},rightS d k l = true → SA d l
 | 0,_,_,h=>by cases h
 | d + 1,k,l,h=>⟨right_srt h,fun f hf=>SA_right (right_mem h hf)⟩
theorem SA_refl:∀ {d:Nat} {l:List FieldT},SA d l → belL l l = true
 | 0,l,h=>by
  have h:l = []:=h
  subst h
  rw[belL]
 | d + 1,l,h=>belL_iff.2 fun f hf=>⟨f,look_self h.1 hf,rfl,SA_refl (h.2 f hf)⟩
theorem srt_iff {l:List FieldT}:srt l ↔ l.Pairwise (fun f g=>Op.bytesLess f.nm g.nm = true):=by
 rw[List.pairwise_iff_getElem]
 exact⟨fun h i j hi hj hij=>h i j hij hj,fun h i j hij hj=>h i j (by omega) hj hij⟩
theorem belL_mem {l c:List FieldT}:belL l c = true ↔ ∀ f ∈ l,belF f c = true:=by rw[belL_all,List.all_eq_true]
theorem belF_iff {f:FieldT} {c:List FieldT}:belF f c = true ↔ ∃ g,lookF c f.nm = some g ∧ g.kd = f.kd ∧ belL f.fs g.fs = true:=by
 rw[belF_eq]
 cases lookF c f.nm with
 | none=>simp
 | some g=>simp
def insP (l:List FieldT) (f:FieldT):List FieldT:=l.take (posB l f.nm) ++ [f] ++ l.drop (posB l f.nm)
def lowStep (F:List FieldT → List FieldT → Option (List FieldT)) (out:List FieldT) (f:FieldT):Option (List FieldT) :=
 match out[posB out f.nm]? with
 | some x=>if x.nm = f.nm then (if x.kd = f.kd then (F x.fs f.fs).map fun t=>out.set (posB out f.nm) (.mk x.nm x.kd t) else none) else some (insP out f)
 | none=>some (insP out f)
def lowFold (F:List FieldT → List FieldT → Option (List FieldT)):List FieldT → List FieldT → Option (List FieldT)
 | out,[]=>some out
 | out,f :: r=>(lowStep F out f).bind fun o=>lowFold F o r
def lowD:Nat → List FieldT → List FieldT → Option (List FieldT)
 | 0,a,_=>some a
 | d + 1,a,b=>lowFold (lowD d) a b
def LowP (d:Nat) (a b:List FieldT) (B:List FieldT → Prop):Option (List FieldT) → Prop
 | some t=>SA d t ∧ t.length ≤ a.length + b.length ∧ ∀ c,belL t c = true ↔ (belL a c = true ∧ B c)
 | none=>∀ c,¬ (belL a c = true ∧ B c)
theorem mem_insP {l:List FieldT} {f x:FieldT}:x ∈ insP l f ↔ x = f ∨ x ∈ l:=by
 unfold insP
 rw[List.mem_append,List.mem_append,List.mem_singleton]
 have:x ∈ l ↔ x ∈ l.take (posB l f.nm) ∨ x ∈ l.drop (posB l f.nm):=by rw[← List.mem_append,List.take_append_drop]
 rw[this]
 constructor
 ·rintro ((h | h) | h)
  ·exact .inr (.inl h)
  ·exact .inl h
  ·exact .inr (.inr h)
 ·rintro (h | h | h)
  ·exact .inl (.inr h)
  ·exact .inl (.inl h)
  ·exact .inr h
theorem insP_srt {l:List FieldT} {f:FieldT} (hs:srt l) (h:∀ hp:posB l f.nm < l.length,l[posB l f.nm].nm ≠ f.nm):srt (insP l f):=by
 have hs':=srt_iff.1 hs
 rw[srt_iff]
 unfold insP
 have hlt:∀ x ∈ l.take (posB l f.nm),Op.bytesLess x.nm f.nm = true:=fun x hx=>by
  rw[List.mem_take_iff_getElem] at hx
  obtain⟨i,hi,rfl⟩:=hx
  exact posB_lt l f.nm i (by omega) (by omega)
 have hgt:∀ x ∈ l.drop (posB l f.nm),Op.bytesLess f.nm x.nm = true:=fun x hx=>by
  by_cases hp:posB l f.nm < l.length
  ·have h0:Op.bytesLess f.nm l[posB l f.nm].nm = true:=by
    rcases bl_tri (h hp) with h1 | h1
    ·rw[posB_not l f.nm hp] at h1; cases h1
    ·exact h1
   rw[List.drop_eq_getElem_cons hp] at hx
   rcases List.mem_cons.1 hx with rfl | hx
   ·exact h0
   ·obtain⟨j,hj,rfl⟩:=List.mem_iff_getElem.1 hx
    rw[List.getElem_drop]
    rw[List.length_drop] at hj
    exact bl_trans h0 (hs (posB l f.nm) (posB l f.nm + 1 + j) (by omega) (by omega))
  ·rw[List.drop_of_length_le (by omega)] at hx
   cases hx
 rw[List.append_assoc,List.pairwise_append]
 refine⟨hs'.sublist (List.take_sublist _ _),?_,fun a ha b hb=>?_⟩
 ·rw[List.singleton_append,List.pairwise_cons]
  exact⟨fun x hx=>hgt x hx,hs'.sublist (List.drop_sublist _ _)⟩
 ·rcases List.mem_append.1 hb with hb | hb
  ·rw[List.mem_singleton] at hb
   subst hb; exact hlt a ha
  ·exact bl_trans (hlt a ha) (hgt b hb)
theorem insP_len (l:List FieldT) (f:FieldT):(insP l f).length = l.length + 1:=by
 have:=posB_le l f.nm
 unfold insP
 rw[List.length_append,List.length_append,List.length_take,List.length_drop]
 simp; omega
theorem low_ins {d:Nat} {out:List FieldT} {f:FieldT} (ho:SA (d + 1) out) (hf:SA d f.fs) (h:∀ hp:posB out f.nm < out.length,out[posB out f.nm].nm ≠ f.nm):SA (d + 1) (insP out f) ∧ (insP out f).length ≤ out.length + 1 ∧ ∀ c,belL (insP out f) c = true ↔ (belL out c = true ∧ belF f c = true):=by
 refine⟨⟨insP_srt ho.1 h,fun x hx=>?_⟩,Nat.le_of_eq (insP_len out f),fun c=>?_⟩
 ·rcases mem_insP.1 hx with rfl | hx
  ·exact hf
  ·exact ho.2 x hx
 ·rw[belL_mem,belL_mem]
  exact⟨fun hh=>⟨fun x hx=>hh x (mem_insP.2 (.inr hx)),hh f (mem_insP.2 (.inl rfl))⟩,fun hh x hx=>(mem_insP.1 hx).elim (fun e=>by rw[e]; exact hh.2) (hh.1 x)⟩
theorem low_step {d:Nat} {F:List FieldT → List FieldT → Option (List FieldT)} (hF:∀ a b,SA d a → SA d b → LowP d a b (fun c=>belL b c = true) (F a b)) {out:List FieldT} {f:FieldT} (ho:SA (d + 1) out) (hf:SA d f.fs) :
  LowP (d + 1) out [f] (fun c=>belF f c = true) (lowStep F out f):=by
 unfold lowStep
 by_cases hp:posB out f.nm < out.length
 rotate_left
 ·rw[List.getElem?_eq_none (by omega)]
  exact low_ins ho hf fun h=>absurd h hp
 rw[List.getElem?_eq_getElem hp]
 dsimp only
 by_cases hn:out[posB out f.nm].nm = f.nm
 rotate_left
 ·rw[if_neg hn]
  exact low_ins ho hf fun _=>hn
 rw[if_pos hn]
 have hx:=List.getElem_mem hp
 by_cases hk:out[posB out f.nm].kd = f.kd
 rotate_left
 ·rw[if_neg hk]
  intro c ⟨h1,h2⟩
  obtain⟨g,g1,g2,_⟩:=belF_iff.1 (belL_mem.1 h1 _ hx)
  obtain⟨g',g1',g2',_⟩:=belF_iff.1 h2
  rw[hn,g1'] at g1
  cases g1
  exact hk (g2.symm.trans g2')
 rw[if_pos hk]
 have:=hF out[posB out f.nm].fs f.fs (ho.2 _ hx) hf
 cases ht:F out[posB out f.nm].fs f.fs with
 | none =>
  rw[ht] at this
  intro c ⟨h1,h2⟩
  obtain⟨g,g1,g2,g3⟩:=belF_iff.1 (belL_mem.1 h1 _ hx)
  obtain⟨g',g1',g2',g3'⟩:=belF_iff.1 h2
  rw[hn,g1'] at g1
  cases g1
  exact this _ ⟨g3,g3'⟩
 | some t =>
  rw[ht] at this
  obtain⟨t1,t2,t3⟩:=this
  show SA (d + 1) (out.set (posB out f.nm) _) ∧ _
  have hy:∀ c,belF (.mk out[posB out f.nm].nm out[posB out f.nm].kd t) c = true ↔ (belF out[posB out f.nm] c = true ∧ belF f c = true):=fun c=>by
   rw[belF_iff,belF_iff,belF_iff]
   constructor
   ·rintro⟨g,g1,g2,g3⟩
    obtain⟨q1,q2⟩:=(t3 g.fs).1 g3
    exact⟨⟨g,g1,g2,q1⟩,g,by rw[← hn]; exact g1,by rw[← hk]; exact g2,q2⟩
   ·rintro⟨⟨g,g1,g2,g3⟩,g',g1',g2',g3'⟩
    rw[hn,g1'] at g1
    cases g1
    exact⟨_,by show lookF c out[posB out f.nm].nm = _; rw[hn]; exact g1',g2,(t3 _).2 ⟨g3,g3'⟩⟩
  refine⟨⟨?_,fun x hx'=>?_⟩,by rw[List.length_set]; simp,fun c=>?_⟩
  ·intro i j hij hj
   have key:∀ i (hi:i < (out.set (posB out f.nm) (.mk out[posB out f.nm].nm out[posB out f.nm].kd t)).length),((out.set (posB out f.nm) (.mk out[posB out f.nm].nm out[posB out f.nm].kd t))[i]).nm = (out[i]'(by rw[List.length_set] at hi; exact hi)).nm:=fun i hi=>by
    rw[List.getElem_set]
    split
    ·rename_i e
     subst e; rfl
    ·rfl
   rw[key,key]
   rw[List.length_set] at hj
   exact ho.1 i j hij hj
  ·rcases List.mem_or_eq_of_mem_set hx' with h | rfl
   ·exact ho.2 x h
   ·exact t1
  ·have hsp:out = out.take (posB out f.nm) ++ out[posB out f.nm] :: out.drop (posB out f.nm + 1):=by rw[← List.drop_eq_getElem_cons hp,List.take_append_drop]
   have e1:out.set (posB out f.nm) (.mk out[posB out f.nm].nm out[posB out f.nm].kd t) = out.take (posB out f.nm) ++ FieldT.mk out[posB out f.nm].nm out[posB out f.nm].kd t :: out.drop (posB out f.nm + 1):=List.set_eq_take_append_cons_drop.trans (if_pos hp)
   have e2:belL out c = true ↔ (∀ x ∈ out.take (posB out f.nm),belF x c = true) ∧ belF out[posB out f.nm] c = true ∧ ∀ x ∈ out.drop (posB out f.nm + 1),belF x c = true:=by
    rw[belL_mem]
    conv=>lhs; rw[hsp]
    simp only[List.mem_append,List.mem_cons,or_imp,forall_and,forall_eq]
   show belL (out.set (posB out f.nm) (.mk out[posB out f.nm].nm out[posB out f.nm].kd t)) c = true ↔ (belL out c = true ∧ belF f c = true)
   rw[e1,belL_mem,e2]
   simp only[List.mem_append,List.mem_cons,or_imp,forall_and,forall_eq,hy]
   constructor
   ·rintro⟨q1,⟨q2,q3⟩,q4⟩
    exact⟨⟨q1,q2,q4⟩,q3⟩
   ·rintro⟨⟨q1,q2,q4⟩,q3⟩
    exact⟨q1,⟨q2,q3⟩,q4⟩
theorem low_fold {d:Nat} {F:List FieldT → List FieldT → Option (List FieldT)} (hF:∀ a b,SA d a → SA d b → LowP d a b (fun c=>belL b c = true) (F a b)):∀ (b out:List FieldT),SA (d + 1) out → (∀ f ∈ b,SA d f.fs) → LowP (d + 1) out b (fun c=>belL b c = true) (lowFold F out b)
 | [],out,ho,_=>⟨ho,Nat.le_refl _,fun c=>⟨fun h=>⟨h,bn c⟩,fun h=>h.1⟩⟩
 | f :: r,out,ho,hb=>by
  unfold lowFold
  have h1:=low_step hF ho (hb f List.mem_cons_self)
  have e:∀ c,belL (f :: r) c = true ↔ (belF f c = true ∧ belL r c = true):=fun c=>by rw[belL,Bool.and_eq_true]
  cases hs:lowStep F out f with
  | none =>
   rw[hs] at h1
   intro c ⟨q1,q2⟩
   exact h1 c ⟨q1,((e c).1 q2).1⟩
  | some o =>
   rw[hs] at h1
   obtain⟨o1,o2,o3⟩:=h1
   have h2:=low_fold hF r o o1 fun f hf=>hb f (List.mem_cons_of_mem _ hf)
   rw[Option.bind_some]
   cases hl:lowFold F o r with
   | none =>
    rw[hl] at h2
    intro c ⟨q1,q2⟩
    obtain⟨q3,q4⟩:=(e c).1 q2
    exact h2 c ⟨(o3 c).2 ⟨q1,q3⟩,q4⟩
   | some t =>
    rw[hl] at h2
    obtain⟨t1,t2,t3⟩:=h2
    have o2:o.length ≤ out.length + 1:=o2
    refine⟨t1,by rw[List.length_cons]; omega,fun c=>?_⟩
    show belL t c = true ↔ (belL out c = true ∧ belL (f :: r) c = true)
    rw[t3,o3,e,and_assoc]
theorem low_ok:∀ (d:Nat) (a b:List FieldT),SA d a → SA d b → LowP d a b (fun c=>belL b c = true) (lowD d a b)
 | 0,a,b,ha,hb=>by
  have hb:b = []:=hb
  subst hb
  exact⟨ha,Nat.le_refl _,fun c=>⟨fun h=>⟨h,bn c⟩,fun h=>h.1⟩⟩
 | d + 1,a,b,ha,hb=>low_fold (low_ok d) b a ha hb.2
end Go.Proofs.Ytaocfjifacnokaa
namespace Go.Proofs.Ytaocfjifacnokaa
open Go.Lad
theorem loopF_less {α β:Type} {body:α → Option (α ⊕ β)} (I:α → Prop) (m:α → Nat) {Q:β → Prop} {x:α} (h0:I x) (h:∀ x,I x → (∃ y,body x = some (.inl y) ∧ I y ∧ m y < m x) ∨ ∃ b,body x = some (.inr b) ∧ Q b)
  (hn:m x < 1606938044258990275541962092341162602522202993782792835301375):∃ b,loopF body x = some b ∧ Q b:=by
 refine loopF_inv (fun k y=>I y ∧ m y + k ≤ m x) (m x + 1) ⟨h0,Nat.le_refl _⟩ (fun k hk y hy=>?_) (fun y hy=>absurd hy.2 (by omega)) (by omega)
 rcases h y hy.1 with⟨z,hz,hi,hl⟩ | h
 ·exact .inl ⟨z,hz,hi,by omega⟩
 ·exact .inr h
theorem half_eq {a:Nat} (h:a ≤ 4000000):shrZ .u64 (IntKind.u64.wrap (a:Int)) 1 = some ((a / 2:Nat):Int):=by
 have h1:IntKind.u64.wrap (a:Int) = (a:Int):=by
  unfold IntKind.wrap
  have h1:(a:Int) % 18446744073709551616 = (a:Int):=Int.emod_eq_of_lt (by omega) (by omega)
  simp [IntKind.bits,IntKind.signed,h1]
 have e2:shrI .u64 (a:Int) 1 = ((a / 2:Nat):Int):=by
  unfold shrI
  rw[show min ((1:Int).toNat) (IntKind.u64.bits) = 1 from rfl]
  rw[Int.fdiv_eq_ediv_of_nonneg _ (by omega)]
  simp
 rw[h1]
 have hd:a / 2 ≤ a:=Nat.div_le_self _ _
 generalize a / 2 = y at *
 unfold shrZ
 rw[e2,leZ_eq,decide_eq_true (by omega),Bool.true_and]
 have:inZ .u64 (y:Int) = true:=by
  unfold inZ
  rw[leZ_eq,leZ_eq,Bool.and_eq_true,decide_eq_true_eq,decide_eq_true_eq]
  exact⟨by show (0:Int) ≤ _; omega,by show _ ≤ (18446744073709551615:Int); omega⟩
 rw[this]; rfl
theorem wrap8 {a:Nat} (h:a ≤ 4000000):IntKind.i64.wrap (a:Int) = (a:Int):=by
 unfold IntKind.wrap
 have h1:(a:Int) % 18446744073709551616 = (a:Int):=Int.emod_eq_of_lt (by omega) (by omega)
 have h2:¬ ((9223372036854775808:Int) ≤ (a:Int)):=by omega
 simp [IntKind.bits,IntKind.signed,h1,h2]
theorem cmp_ok (x1:Bs) (x2:Int) (x3:List GField) (s:Bs):types_lower_1 x1 x2 x3 s = some (if Op.bytesLess x1 s = true then -1 else if x1 = s then 0 else 1):=by
 unfold types_lower_1
 cases Op.bytesLess x1 s with
 | true=>rfl
 | false =>
  by_cases h:x1 = s
  ·rw[decide_eq_true h,if_neg (by simp),if_pos h]; rfl
  ·rw[decide_eq_false h,if_neg (by simp),if_neg h]; rfl
theorem z64_nn {a b:Nat} (h:a + b ≤ 4000000):z64 ((a:Int) + (b:Int)) = some ((a + b:Nat):Int):=by
 have:=z64_i (n:=(a:Int) + (b:Int)) (by omega)
 rw[this]; congr 1
def hitB (l:List FieldT) (s:Bs):Bool:=match l[posB l s]? with | some x=>decide (x.nm = s) | none=>false
theorem bs_ok {l:List FieldT} {s:Bs} (hl:l.length ≤ 2000000) (hs:srt l):slices_BinarySearchFunc_api_Field_api_Field_string (unL l) s = some ((posB l s:Int),hitB l s):=by
 unfold slices_BinarySearchFunc_api_Field_api_Field_string
 obtain⟨b,h1,m,rfl,hm,h2,h3⟩:=loopF_less (body:=fun x=>slices_BinarySearchFunc_api_Field_api_Field_string.b1 (unL l) s x.1 x.2) (x:=(0,((unL l).length:Int)))
  (fun y=>∃ i j:Nat,y = ((i:Int),(j:Int)) ∧ i ≤ j ∧ j ≤ l.length ∧ (∀ k (hk:k < l.length),k < i → Op.bytesLess l[k].nm s = true) ∧ ∀ k (hk:k < l.length),j ≤ k → Op.bytesLess l[k].nm s = false)
  (fun y=>(y.2 - y.1).toNat)
  (Q:=fun b=>∃ m:Nat,b = (m:Int) ∧ m ≤ l.length ∧ (∀ k (hk:k < l.length),k < m → Op.bytesLess l[k].nm s = true) ∧ ∀ k (hk:k < l.length),m ≤ k → Op.bytesLess l[k].nm s = false)
  ⟨0,l.length,by rw[un_len]; rfl,by omega,by omega,fun k _ h=>by omega,fun k hk h=>by omega⟩
  (fun y hy=>by
   obtain⟨i,j,rfl,hij,hj,h1,h2⟩:=hy
   unfold slices_BinarySearchFunc_api_Field_api_Field_string.b1
   by_cases hlt:i < j
   ·have hh:(i + j) / 2 < l.length:=by omega
    rw[ltZ_eq,decide_eq_true (by omega),cond_true,z64_nn (by omega),bind_in,half_eq (by omega),bind_in,wrap8 (by omega),idx_un hh,bind_in,cmp_ok,bind_in]
    by_cases hc:Op.bytesLess l[(i + j) / 2].nm s = true
    ·rw[if_pos hc,show ltZ (-1) 0 = true from rfl,cond_true,z64_succ (by omega),bind_in]
     refine .inl ⟨_,rfl,⟨(i + j) / 2 + 1,j,rfl,by omega,hj,fun k hk hlt=>?_,h2⟩,by simp only; omega⟩
     rcases Nat.lt_or_ge k ((i + j) / 2) with h | h
     ·exact bl_trans (hs k ((i + j) / 2) h hh) hc
     ·have:k = (i + j) / 2:=by omega
      subst this; exact hc
    ·have hlz:ltZ (if Op.bytesLess l[(i + j) / 2].nm s = true then -1 else if l[(i + j) / 2].nm = s then 0 else 1) 0 = false:=by
      rw[if_neg hc]
      split <;> rfl
     rw[hlz,cond_false]
     refine .inl ⟨_,rfl,⟨i,(i + j) / 2,rfl,by omega,by omega,h1,fun k hk hle=>?_⟩,by simp only; omega⟩
     rcases Nat.lt_or_ge ((i + j) / 2) k with h | h
     ·rw[Bool.eq_false_iff]
      intro h3
      exact hc (bl_trans (hs ((i + j) / 2) k h hk) h3)
     ·have:k = (i + j) / 2:=by omega
      subst this
      rwa [Bool.not_eq_true] at hc
   ·have:i = j:=by omega
    subst this
    exact .inr ⟨(i:Int),by rw[ltZ_eq,decide_eq_false (by omega),cond_false],i,rfl,hj,h1,h2⟩)
  (by simp only; rw[un_len]; omega)
 rw[h1,bind_in]
 have hp:=posB_of hs hm h2 h3
 subst hp
 unfold slices_BinarySearchFunc_api_Field_api_Field_string.j1 hitB
 rw[un_len,ltZ_eq]
 by_cases hml:posB l s < l.length
 ·rw[decide_eq_true (by omega),cond_true,idx_un hml,bind_in,cmp_ok,bind_in,if_neg (by rw[posB_not l s hml]; simp),List.getElem?_eq_getElem hml]
  dsimp only
  by_cases he:l[posB l s].nm = s
  ·rw[if_pos he,decide_eq_true he]; rfl
  ·rw[if_neg he,decide_eq_false he]; rfl
 ·rw[decide_eq_false (by omega),cond_false,List.getElem?_eq_none (by omega)]
def lowR (d:Nat) (k:Int) (a:List FieldT) (k':Int) (b:List FieldT):GType × Bool:=if k = k' then (match lowD d a b with | some t=>((k,t),true) | none=>((0,[]),false)) else ((0,[]),false)
theorem lowFold_app (F:List FieldT → List FieldT → Option (List FieldT)):∀ (b c out:List FieldT),lowFold F out (b ++ c) = (lowFold F out b).bind fun o=>lowFold F o c
 | [],c,out=>rfl
 | f :: r,c,out=>by
  rw[List.cons_append,lowFold,lowFold]
  cases lowStep F out f with
  | none=>rfl
  | some o=>exact lowFold_app F r c o
theorem un_set (l:List FieldT) (i:Nat) (f:FieldT):(unL l).set i (f.nm,f.kd,f.fs) = unL (l.set i f):=by
 have h:((f.nm,f.kd,f.fs):GField) = Uun 0 f:=(Uun0 f).symm
 rw[h]
 exact (List.map_set (α:=FieldT) (β:=GField) (f:=Uun 0)).symm
theorem un_takeL (l:List FieldT) (i:Nat):(unL l).take i = unL (l.take i):=(List.map_take (α:=FieldT) (β:=GField) (f:=Uun 0)).symm
theorem un_dropL (l:List FieldT) (i:Nat):(unL l).drop i = unL (l.drop i):=(List.map_drop (α:=FieldT) (β:=GField) (f:=Uun 0)).symm
theorem un_oneF (f:FieldT):([(f.nm,f.kd,f.fs)]:List GField) = unL [f]:=by cases f; rfl
theorem ins_un (out:List FieldT) (f:FieldT) (hl:out.length ≤ 900000000):insF (α:=GField) (posB out f.nm:Int) [(f.nm,f.kd,f.fs)] (unL out) = some (unL (insP out f)):=by
 have hp:=posB_le out f.nm
 unfold insF
 rw[un_len,leZ_eq,leZ_eq,bleN,bleN,decide_eq_true (by omega),decide_eq_true (by omega),decide_eq_true (by simp),decide_eq_true (by simp; omega)]
 show some _ = _
 rw[Int.toNat_natCast,un_takeL,un_dropL,un_oneF,← un_app,← un_app]; rfl
theorem low_rec:∀ (d n:Nat) (k:Int) (a:List FieldT) (k':Int) (b:List FieldT),SA d a → SA d b → okL d a → okL d b → d ≤ 1000000 → d < n → types_lower.rec n k (unL a) k' (unL b) = some (lowR d k a k' b)
 | d,0,_,_,_,_,_,_,_,_,_,h=>absurd h (by omega)
 | 0,n + 1,k,a,k',b,ha,hb,_,_,_,_=>by
  have ha:a = []:=ha
  have hb:b = []:=hb
  subst ha hb
  show types_lower.body (types_lower.rec n) k (unL []) k' (unL []) = _
  unfold types_lower.body lowR
  rw[eqZ_eq]
  by_cases hk:k = k'
  ·rw[decide_eq_true hk,if_pos hk,Bool.not_true,cond_false,freshO_ok (d:=0) (by omega) _ _ rfl,bind_in]
   refine loopF_at (fun _=>((0:Int),k,unL [])) 0 rfl (fun k hk=>absurd hk (by omega)) ?_ (by omega)
   rfl
  ·rw[decide_eq_false hk,if_neg hk]; rfl
 | d + 1,n + 1,k,a,k',b,ha,hb,oa,ob,hd,hn=>by
  show types_lower.body (types_lower.rec n) k (unL a) k' (unL b) = _
  unfold types_lower.body lowR
  rw[eqZ_eq]
  by_cases hk:k = k'
  rotate_left
  ·rw[decide_eq_false hk,if_neg hk]; rfl
  rw[decide_eq_true hk,if_pos hk,Bool.not_true,cond_false,freshO_ok hd _ _ oa,bind_in]
  have hla:=okL_len oa
  have hlb:=okL_len ob
  obtain⟨r,hr,hq⟩:=loopF_inv (body:=fun x:Int × Int × List GField=>types_lower.b1 (types_lower.rec n) (unL b) x.1 x.2.1 x.2.2)
   (fun i x=>∃ out,x = ((i:Int),k,unL out) ∧ lowFold (lowD d) a (b.take i) = some out ∧ SA (d + 1) out ∧ out.length ≤ a.length + i ∧ ∀ x ∈ out,x ∈ a ∨ ∃ j,∃ hj:j < b.length,j < i ∧ x.nm = b[j].nm)
   (Q:=fun r=>r = (match lowFold (lowD d) a b with | some t=>((k,t),true) | none=>((0,[]),false))) b.length (x:=(0,k,unL a)) ⟨a,rfl,rfl,ha,by omega,fun x hx=>.inl hx⟩ (fun i hi x hx=>by
    obtain⟨out,rfl,h1,h2,h3,h4⟩:=hx
    have hbi:=List.getElem_mem hi
    have hsp:lowFold (lowD d) a b = (lowStep (lowD d) out b[i]).bind fun o=>lowFold (lowD d) o (b.drop (i + 1)):=by
     conv=>lhs; rw[← List.take_append_drop i b,lowFold_app,h1]
     rw[Option.bind_some,List.drop_eq_getElem_cons hi,lowFold]
    have htk:lowFold (lowD d) a (b.take (i + 1)) = lowStep (lowD d) out b[i]:=by
     rw[take_succ hi,lowFold_app,h1,Option.bind_some]
     show (lowStep (lowD d) out b[i]).bind some = _
     cases lowStep (lowD d) out b[i] <;> rfl
    have hst:=low_step (low_ok d) h2 (hb.2 _ hbi)
    unfold types_lower.b1
    simp only[fu1,fu2,fx1,fx3]
    rw[un_len,ltZ_eq,decide_eq_true (by omega),cond_true,idx_un hi,bind_in]
    dsimp only
    rw[bs_ok (by omega) h2.1,bind_in]
    by_cases hp:posB out b[i].nm < out.length ∧ ∃ hp:posB out b[i].nm < out.length,out[posB out b[i].nm].nm = b[i].nm
    ·obtain⟨_,hp,hnm⟩:=hp
     have hhit:hitB out b[i].nm = true:=by unfold hitB; rw[List.getElem?_eq_getElem hp]; exact decide_eq_true hnm
     have hmem:=List.getElem_mem hp
     have hia:out[posB out b[i].nm] ∈ a:=by
      rcases h4 _ hmem with h | ⟨j,hj,hji,e⟩
      ·exact h
      ·have:=srt_inj hb.1 hj hi (e.symm.trans hnm)
       omega
     have hih:=low_rec d n out[posB out b[i].nm].kd out[posB out b[i].nm].fs b[i].kd b[i].fs (ha.2 _ hia) (hb.2 _ hbi) (oa.2 _ hia) (ob.2 _ hbi) (by omega) (by omega)
     rw[hhit,Bool.not_true,cond_false,idx_un hp,bind_in,bind_in]
     dsimp only
     rw[hih,bind_in]
     have hls:lowStep (lowD d) out b[i] = if out[posB out b[i].nm].kd = b[i].kd then (lowD d out[posB out b[i].nm].fs b[i].fs).map fun t=>out.set (posB out b[i].nm) (.mk out[posB out b[i].nm].nm out[posB out b[i].nm].kd t) else none:=by
      unfold lowStep
      rw[List.getElem?_eq_getElem hp]
      dsimp only
      rw[if_pos hnm]
     have hbad:lowStep (lowD d) out b[i] = none → (lowR d out[posB out b[i].nm].kd out[posB out b[i].nm].fs b[i].kd b[i].fs).2 = false → (∃ y,(some (.inr ((0,[]),false)):Option ((Int × Int × List GField) ⊕ (GType × Bool))) = some (.inl y) ∧ ∃ out,y = (((i + 1:Nat):Int),k,unL out) ∧ lowFold (lowD d) a (b.take (i + 1)) = some out ∧ SA (d + 1) out ∧ out.length ≤ a.length + (i + 1) ∧ ∀ x ∈ out,x ∈ a ∨ ∃ j,∃ hj:j < b.length,j < i + 1 ∧ x.nm = b[j].nm) ∨ ∃ r,(some (.inr ((0,[]),false)):Option ((Int × Int × List GField) ⊕ (GType × Bool))) = some (.inr r) ∧ r = (match lowFold (lowD d) a b with | some t=>((k,t),true) | none=>((0,[]),false)):=fun e1 _=>.inr ⟨_,rfl,by rw[hsp,e1]; rfl⟩
     unfold lowR at hbad ⊢
     by_cases hkk:out[posB out b[i].nm].kd = b[i].kd
     rotate_left
     ·rw[if_neg hkk] at hls hbad ⊢
      exact hbad hls rfl
     rw[if_pos hkk] at hls hbad ⊢
     cases ht:lowD d out[posB out b[i].nm].fs b[i].fs with
     | none =>
      rw[ht] at hls hbad
      exact hbad hls rfl
     | some t =>
      rw[ht] at hls
      dsimp only
      rw[Bool.not_true,cond_false,z64_succ (by omega)]
      simp only[bind_in]
      have hls:lowStep (lowD d) out b[i] = some (out.set (posB out b[i].nm) (.mk out[posB out b[i].nm].nm out[posB out b[i].nm].kd t)):=hls
      rw[hls] at hst htk
      refine .inl ⟨_,rfl,_,?_,htk,hst.1,by rw[List.length_set]; omega,fun x hx=>?_⟩
      ·rw[Int.toNat_natCast,← un_set]; rfl
      ·rcases List.mem_or_eq_of_mem_set hx with h | rfl
       ·exact (h4 x h).imp id fun⟨j,hj,hji,e⟩=>⟨j,hj,by omega,e⟩
       ·exact .inr ⟨i,hi,by omega,hnm⟩
    ·have hhit:hitB out b[i].nm = false:=by
      unfold hitB
      by_cases h:posB out b[i].nm < out.length
      ·rw[List.getElem?_eq_getElem h]
       exact decide_eq_false fun e=>hp ⟨h,h,e⟩
      ·rw[List.getElem?_eq_none (by omega)]
     have hls:lowStep (lowD d) out b[i] = some (insP out b[i]):=by
      unfold lowStep
      by_cases h:posB out b[i].nm < out.length
      ·rw[List.getElem?_eq_getElem h]
       dsimp only
       rw[if_neg fun e=>hp ⟨h,h,e⟩]
      ·rw[List.getElem?_eq_none (by omega)]
     rw[hls] at hst htk
     rw[hhit,Bool.not_false,cond_true,fresh_ok (d:=d) (by omega) _ _ (ob.2 _ hbi),bind_in]
     unfold slices_Insert_Field
     dsimp only
     rw[ins_un out b[i] (by omega),bind_in,z64_succ (by omega),bind_in]
     refine .inl ⟨_,rfl,_,rfl,htk,hst.1,by rw[insP_len]; omega,fun x hx=>?_⟩
     rcases mem_insP.1 hx with rfl | h
     ·exact .inr ⟨i,hi,by omega,rfl⟩
     ·exact (h4 x h).imp id fun⟨j,hj,hji,e⟩=>⟨j,hj,by omega,e⟩) (fun x hx=>by
    obtain⟨out,rfl,h1,h2,h3,h4⟩:=hx
    rw[List.take_length] at h1
    unfold types_lower.b1
    simp only[fmu,fmu2]
    rw[un_len,ltZ_eq,decide_eq_false (by omega),cond_false]
    exact⟨_,rfl,by rw[h1]⟩) (by omega)
  show loopF (fun x:Int × Int × List GField=>types_lower.b1 (types_lower.rec n) (unL b) x.1 x.2.1 x.2.2) (0,k,unL a) = _
  rw[hr,hq]; rfl
theorem lower_ok {d:Nat} (hd:d ≤ 1000000) (k:Int) (a:List FieldT) (k':Int) (b:List FieldT) (ha:SA d a) (hb:SA d b) (oa:okL d a) (ob:okL d b):types_lower k (unL a) k' (unL b) = some (lowR d k a k' b):=low_rec d _ k a k' b ha hb oa ob hd (fuel_big hd)
noncomputable def meetS (k:Int) (a:List FieldT) (k':Int) (b:List FieldT):GType × Bool :=
 if (rightS 4 k a && rightS 4 k' b) = true then (if (lowR 4 k a k' b).2 = true ∧ rightS 4 (lowR 4 k a k' b).1.1 (lowR 4 k a k' b).1.2 = true then ((lowR 4 k a k' b).1,true) else ((0,[]),false)) else ((0,[]),false)
noncomputable def joinS (k:Int) (a:List FieldT) (k':Int) (b:List FieldT):GType × Bool :=
 if (rightS 4 k a && rightS 4 k' b) = true then upR k a k' b else ((0,[]),false)
theorem meet_ok (k:Int) (a:List FieldT) (k':Int) (b:List FieldT):types_Meet k (unL a) k' (unL b) = some (meetS k a k' b):=by
 unfold types_Meet types_Meet.j2 types_Meet.j1 meetS
 simp only[fu1,fu2,fx1,fx3]
 rw[right_ok,right_ok,bind_in]
 cases ha:rightS 4 k a with
 | false=>rfl
 | true =>
 cases hb:rightS 4 k' b with
 | false=>rfl
 | true =>
 simp only[bind_in,Bool.not_true,cond_false,Bool.and_self,if_true]
 rw[lower_ok (d:=4) (by omega) _ _ _ _ (SA_right ha) (SA_right hb) (right_okL ha) (right_okL hb),bind_in,right_ok]
 simp only[bind_in]
 cases (lowR 4 k a k' b).2 with
 | false=>rfl
 | true =>
  cases rightS 4 (lowR 4 k a k' b).1.1 (lowR 4 k a k' b).1.2 <;> rfl
theorem join_ok (k:Int) (a:List FieldT) (k':Int) (b:List FieldT):types_Join k (unL a) k' (unL b) = some (joinS k a k' b):=by
 unfold types_Join types_Join.j1 joinS
 simp only[fu1,fu2,fx1,fx3]
 rw[right_ok,right_ok,bind_in]
 cases ha:rightS 4 k a with
 | false=>rfl
 | true =>
 cases hb:rightS 4 k' b with
 | false=>rfl
 | true =>
 simp only[bind_in,Bool.not_true,cond_false,Bool.and_self,if_true]
 rw[upper_ok (d:=4) (by omega) _ _ _ _ (right_okL ha),bind_in]
end Go.Proofs.Ytaocfjifacnokaa
namespace Go.Proofs.Ytaocfjifacnokaa
open Go.Lad
theorem right_name {d:Nat} {k:Int} {l:List FieldT} (h:rightS (d + 1) k l = true) {f:FieldT} (hf:f ∈ l):nameB f.nm = true:=by
 obtain⟨i,hi,rfl⟩:=List.mem_iff_getElem.1 hf
 exact ((right_iff.1 h).2 i hi).1
theorem right_up:∀ {d:Nat} {k:Int} {t c:List FieldT},SA d t → belL t c = true → rightS d k c = true → rightS d k t = true
 | 0,_,_,_,_,_,h=>by cases h
 | d + 1,k,t,c,hs,hb,h=>by
  obtain⟨⟨h1,h2,h3,h4⟩,h5⟩:=right_iff.1 h
  have hb:=belL_iff.1 hb
  refine right_iff.2 ⟨⟨h1,h2,?_,?_⟩,fun i hi=>?_⟩
  ·have hnd:(t.map FieldT.nm).Nodup:=by
    rw[List.nodup_iff_pairwise_ne,List.pairwise_map]
    refine (srt_iff.1 hs.1).imp fun {x y} hxy e=>?_
    rw[e,bl_irrefl] at hxy
    cases hxy
   have hsub:∀ n ∈ t.map FieldT.nm,n ∈ c.map FieldT.nm:=fun n hn=>by
    obtain⟨f,hf,rfl⟩:=List.mem_map.1 hn
    obtain⟨g,g1,_,_⟩:=hb f hf
    obtain⟨hm,e⟩:=look_mem g1
    exact List.mem_map.2 ⟨g,hm,e⟩
   have:=nodup_le hnd hsub
   rw[List.length_map,List.length_map] at this
   omega
  ·rcases h4 with h4 | h4
   ·exact .inl h4
   ·subst h4
    refine .inr ?_
    cases t with
    | nil=>rfl
    | cons f r =>
     obtain⟨g,g1,_,_⟩:=hb f List.mem_cons_self
     cases g1
  ·have hmem:=List.getElem_mem hi
   obtain⟨g,g1,g2,g3⟩:=hb _ hmem
   obtain⟨hm,e⟩:=look_mem g1
   refine⟨by rw[← e]; exact right_name h hm,?_,?_⟩
   ·by_cases h0:i = 0
    ·exact .inl h0
    ·exact .inr (up_iff.2 (hs.1 (i - 1) i (by omega) hi))
   ·rw[← g2]
    exact right_up (hs.2 _ hmem) g3 (right_mem h hm)
theorem up_mem {b:List FieldT} {x:FieldT}:∀ {a:List FieldT},x ∈ upL a b → ∃ f ∈ a,∃ g,lookF b f.nm = some g ∧ f.kd = g.kd ∧ x = .mk f.nm f.kd (upL f.fs g.fs):=by
 intro a
 induction a with
 | nil=>intro h; rw[upL] at h; cases h
 | cons f r ih =>
  intro h
  rw[upL] at h
  rcases List.mem_append.1 h with h | h
  ·rw[upF_eq] at h
   split at h
   ·rename_i g hg
    split at h
    ·rename_i hk
     exact⟨f,List.mem_cons_self,g,hg,hk,List.mem_singleton.1 h⟩
    ·cases h
   ·cases h
  ·obtain⟨f',hf,hh⟩:=ih h
   exact⟨f',List.mem_cons_of_mem _ hf,hh⟩
theorem up_in {b:List FieldT} {f g:FieldT} (hg:lookF b f.nm = some g) (hk:f.kd = g.kd):∀ {a:List FieldT},f ∈ a → FieldT.mk f.nm f.kd (upL f.fs g.fs) ∈ upL a b:=by
 intro a
 induction a with
 | nil=>intro h; cases h
 | cons h r ih =>
  intro hf
  rw[upL]
  rcases List.mem_cons.1 hf with rfl | hf
  ·refine List.mem_append_left _ ?_
   rw[upF_eq,hg]
   dsimp only
   rw[if_pos hk]
   exact List.mem_singleton.2 rfl
  ·exact List.mem_append_right _ (ih hf)
theorem up_pw {b:List FieldT}:∀ {a:List FieldT},a.Pairwise (fun f g=>Op.bytesLess f.nm g.nm = true) → (upL a b).Pairwise (fun f g=>Op.bytesLess f.nm g.nm = true):=by
 intro a
 induction a with
 | nil=>intro _; rw[upL]; exact List.Pairwise.nil
 | cons f r ih =>
  intro h
  rw[List.pairwise_cons] at h
  rw[upL,List.pairwise_append]
  refine⟨?_,ih h.2,fun x hx y hy=>?_⟩
  ·rw[upF_eq]
   split
   ·split
    ·exact List.pairwise_singleton _ _
    ·exact List.Pairwise.nil
   ·exact List.Pairwise.nil
  ·obtain⟨f',hf',g,_,_,rfl⟩:=up_mem hy
   have hx':x.nm = f.nm:=by
    rw[upF_eq] at hx
    split at hx
    ·split at hx
     ·rw[List.mem_singleton] at hx
      subst hx; rfl
     ·cases hx
    ·cases hx
   rw[hx']
   exact h.1 f' hf'
theorem SA_up:∀ {d:Nat} {a:List FieldT} (b:List FieldT),SA d a → SA d (upL a b)
 | 0,a,b,h=>by
  have h:a = []:=h
  subst h
  rw[upL]; rfl
 | d + 1,a,b,h=>⟨srt_iff.2 (up_pw (srt_iff.1 h.1)),fun x hx=>by
  obtain⟨f,hf,g,_,_,rfl⟩:=up_mem hx
  exact SA_up g.fs (h.2 f hf)⟩
theorem up_l:∀ {d:Nat} {a:List FieldT} (b:List FieldT),SA d a → belL (upL a b) a = true
 | 0,a,b,h=>by
  have h:a = []:=h
  subst h
  rw[upL]; exact bn _
 | d + 1,a,b,h=>belL_iff.2 fun x hx=>by
  obtain⟨f,hf,g,_,_,rfl⟩:=up_mem hx
  exact⟨f,look_self h.1 hf,rfl,up_l g.fs (h.2 f hf)⟩
theorem up_r:∀ {d:Nat} {a:List FieldT} (b:List FieldT),SA d a → belL (upL a b) b = true
 | 0,a,b,h=>by
  have h:a = []:=h
  subst h
  rw[upL]; exact bn _
 | d + 1,a,b,h=>belL_iff.2 fun x hx=>by
  obtain⟨f,hf,g,hg,hk,rfl⟩:=up_mem hx
  exact⟨g,hg,hk.symm,up_r g.fs (h.2 f hf)⟩
theorem up_least:∀ {d:Nat} {a b c:List FieldT},SA d a → belL c a = true → belL c b = true → belL c (upL a b) = true
 | 0,a,b,c,h,h1,_=>by
  have h:a = []:=h
  subst h
  refine belL_iff.2 fun f hf=>?_
  obtain⟨g,g1,_⟩:=belL_iff.1 h1 f hf
  cases g1
 | d + 1,a,b,c,h,h1,h2=>belL_iff.2 fun f hf=>by
  obtain⟨p,p1,p2,p3⟩:=belL_iff.1 h1 f hf
  obtain⟨q,q1,q2,q3⟩:=belL_iff.1 h2 f hf
  obtain⟨hm,e⟩:=look_mem p1
  have hin:=up_in (b:=b) (f:=p) (g:=q) (by rw[e]; exact q1) (p2.trans q2.symm) hm
  have hl:=look_self (SA_up (d:=d + 1) b h).1 hin
  refine⟨FieldT.mk p.nm p.kd (upL p.fs q.fs),by rw[← e]; exact hl,p2,up_least (h.2 p hm) p3 q3⟩
noncomputable def subS (k:Int) (a:List FieldT) (k':Int) (b:List FieldT):Bool:=rightS 4 k a && (rightS 4 k' b && (decide (k = k') && belL b a))
theorem subS_iff {k k':Int} {a b:List FieldT}:subS k a k' b = true ↔ rightS 4 k a = true ∧ rightS 4 k' b = true ∧ k = k' ∧ belL b a = true:=by
 unfold subS
 simp only[Bool.and_eq_true,decide_eq_true_eq]
theorem subS_ok (k:Int) (a:List FieldT) (k':Int) (b:List FieldT):types_Sub k (unL a) k' (unL b) = some (subS k a k' b):=sub_ok k a k' b
structure MeetP (ka:Int) (la:List FieldT) (kb:Int) (lb:List FieldT) (m:GType × Bool):Prop where
 good:m.2 = true → subS m.1.1 m.1.2 ka la = true ∧ subS m.1.1 m.1.2 kb lb = true ∧ ∀ kc lc,subS kc lc ka la = true → subS kc lc kb lb = true → subS kc lc m.1.1 m.1.2 = true
 bad:m.2 = false → m.1 = (0,[]) ∧ ∀ kc lc,subS kc lc ka la = true → subS kc lc kb lb = true → False
theorem meet_spec {ka kb:Int} {la lb:List FieldT} (ra:rightS 4 ka la = true) (rb:rightS 4 kb lb = true):MeetP ka la kb lb (meetS ka la kb lb):=by
 unfold meetS
 rw[ra,rb,Bool.and_self,if_pos rfl]
 unfold lowR
 by_cases hk:ka = kb
 rotate_left
 ·simp only[if_neg hk]
  rw[if_neg (by simp)]
  refine⟨(fun h=>by cases h),fun _=>⟨rfl,fun kc lc h1 h2=>hk ?_⟩⟩
  exact (subS_iff.1 h1).2.2.1.symm.trans (subS_iff.1 h2).2.2.1
 subst hk
 simp only[if_true]
 have hl:=low_ok 4 la lb (SA_right ra) (SA_right rb)
 cases ht:lowD 4 la lb with
 | none =>
  rw[ht] at hl
  rw[if_neg (by simp)]
  exact⟨(fun h=>by cases h),fun _=>⟨rfl,fun kc lc h1 h2=>hl lc ⟨(subS_iff.1 h1).2.2.2,(subS_iff.1 h2).2.2.2⟩⟩⟩
 | some t =>
  rw[ht] at hl
  obtain⟨t1,_,t3⟩:=hl
  dsimp only
  have hlow:=(t3 t).1 (SA_refl t1)
  by_cases hr:rightS 4 ka t = true
  ·rw[if_pos ⟨rfl,hr⟩]
   refine⟨fun _=>⟨subS_iff.2 ⟨hr,ra,rfl,hlow.1⟩,subS_iff.2 ⟨hr,rb,rfl,hlow.2⟩,fun kc lc h1 h2=>?_⟩,(fun h=>by cases h)⟩
   rw[subS_iff] at h1 h2
   exact subS_iff.2 ⟨h1.1,hr,h1.2.2.1,(t3 lc).2 ⟨h1.2.2.2,h2.2.2.2⟩⟩
  ·rw[if_neg fun h=>hr h.2]
   refine⟨(fun h=>by cases h),fun _=>⟨rfl,fun kc lc h1 h2=>hr ?_⟩⟩
   rw[subS_iff] at h1 h2
   have:=right_up t1 ((t3 lc).2 ⟨h1.2.2.2,h2.2.2.2⟩) h1.1
   rw[h1.2.2.1] at this
   exact this
theorem sub_anti {k k':Int} {a b:List FieldT} (h1:subS k a k' b = true) (h2:subS k' b k a = true):((k,a):GType) = (k',b):=by
 rw[subS_iff] at h1 h2
 rw[h1.2.2.1,bel_anti h1.1 h1.2.1 h1.2.2.2 h2.2.2.2]
theorem meet_comm {ka kb:Int} {la lb:List FieldT} (ra:rightS 4 ka la = true) (rb:rightS 4 kb lb = true):meetS kb lb ka la = meetS ka la kb lb:=by
 have p:=meet_spec ra rb
 have q:=meet_spec rb ra
 generalize meetS ka la kb lb = m at *
 generalize meetS kb lb ka la = n at *
 obtain⟨⟨k1,l1⟩,b1⟩:=m
 obtain⟨⟨k2,l2⟩,b2⟩:=n
 cases b1 with
 | true =>
  obtain⟨g1,g2,g3⟩:=p.good rfl
  cases b2 with
  | false=>exact ((q.bad rfl).2 _ _ g2 g1).elim
  | true =>
   obtain⟨f1,f2,f3⟩:=q.good rfl
   rw[sub_anti (g3 _ _ f2 f1) (f3 _ _ g2 g1)]
 | false =>
  cases b2 with
  | true =>
   obtain⟨f1,f2,f3⟩:=q.good rfl
   exact ((p.bad rfl).2 _ _ f2 f1).elim
  | false =>
   have e1:=(p.bad rfl).1
   have e2:=(q.bad rfl).1
   rw[show ((k2,l2):GType) = (0,[]) from e2,show ((k1,l1):GType) = (0,[]) from e1]
structure JoinP (ka:Int) (la:List FieldT) (kb:Int) (lb:List FieldT) (j:GType × Bool):Prop where
 iff:j.2 = decide (ka = kb)
 good:j.2 = true → subS ka la j.1.1 j.1.2 = true ∧ subS kb lb j.1.1 j.1.2 = true ∧ ∀ kc lc,subS ka la kc lc = true → subS kb lb kc lc = true → subS j.1.1 j.1.2 kc lc = true
 bad:j.2 = false → j.1 = (0,[])
theorem join_spec {ka kb:Int} {la lb:List FieldT} (ra:rightS 4 ka la = true) (rb:rightS 4 kb lb = true):JoinP ka la kb lb (joinS ka la kb lb):=by
 unfold joinS upR
 rw[ra,rb,Bool.and_self,if_pos rfl]
 by_cases hk:ka = kb
 rotate_left
 ·rw[if_neg hk]
  exact⟨(decide_eq_false hk).symm,(fun h=>by cases h),fun _=>rfl⟩
 subst hk
 rw[if_pos rfl]
 have hu:=SA_up lb (SA_right ra)
 have hr:=right_up hu (up_l lb (SA_right ra)) ra
 refine⟨(decide_eq_true rfl).symm,fun _=>⟨subS_iff.2 ⟨ra,hr,rfl,up_l lb (SA_right ra)⟩,subS_iff.2 ⟨rb,hr,rfl,up_r lb (SA_right ra)⟩,fun kc lc h1 h2=>?_⟩,(fun h=>by cases h)⟩
 rw[subS_iff] at h1 h2
 exact subS_iff.2 ⟨hr,h1.2.1,h1.2.2.1,up_least (SA_right ra) h1.2.2.2 h2.2.2.2⟩
theorem join_comm {ka kb:Int} {la lb:List FieldT} (ra:rightS 4 ka la = true) (rb:rightS 4 kb lb = true):joinS kb lb ka la = joinS ka la kb lb:=by
 have p:=join_spec ra rb
 have q:=join_spec rb ra
 generalize joinS ka la kb lb = m at *
 generalize joinS kb lb ka la = n at *
 obtain⟨⟨k1,l1⟩,b1⟩:=m
 obtain⟨⟨k2,l2⟩,b2⟩:=n
 have e:b2 = b1:=by
  have h1:b1 = decide (ka = kb):=p.iff
  have h2:b2 = decide (kb = ka):=q.iff
  rw[h1,h2]
  by_cases hk:ka = kb
  ·rw[decide_eq_true hk,decide_eq_true hk.symm]
  ·rw[decide_eq_false hk,decide_eq_false fun e=>hk e.symm]
 subst e
 cases b2 with
 | true =>
  obtain⟨g1,g2,g3⟩:=p.good rfl
  obtain⟨f1,f2,f3⟩:=q.good rfl
  rw[sub_anti (f3 _ _ g2 g1) (g3 _ _ f2 f1)]
 | false =>
  have e1:=p.bad rfl
  have e2:=q.bad rfl
  rw[show ((k2,l2):GType) = (0,[]) from e2,show ((k1,l1):GType) = (0,[]) from e1]
theorem bounds_true (a b c:GType):ladinglaw16_TypesBounds a b c = some true:=by
 obtain⟨ka,la⟩:=a
 obtain⟨kb,lb⟩:=b
 obtain⟨kc,lc⟩:=c
 unfold ladinglaw16_TypesBounds ladinglaw16_TypesBounds.j3 ladinglaw16_TypesBounds.j2 ladinglaw16_TypesBounds.j1
 simp only[fx1,fx3,fu1,fu2]
 rw[small_ok,bind_in]
 obtain⟨bb,hb⟩:=light_ok [(ka,la),(kb,lb),(kc,lc)] (by simp)
 rw[hb,bind_in]
 cases bb with
 | false=>rfl
 | true =>
 rw[Bool.not_true,cond_false]
 simp only[meet_ok,join_ok,subS_ok,right_ok,bind_in]
 by_cases hab:rightS 4 ka la = true ∧ rightS 4 kb lb = true
 ·obtain⟨ra,rb⟩:=hab
  rw[meet_comm ra rb,join_comm ra rb]
  have p:=meet_spec ra rb
  have q:=join_spec ra rb
  generalize meetS ka la kb lb = m at *
  generalize joinS ka la kb lb = j at *
  obtain⟨⟨k1,l1⟩,b1⟩:=m
  obtain⟨⟨k2,l2⟩,b2⟩:=j
  have hok:∀ (k:Int) (l:List FieldT) (k':Int) (l':List FieldT),subS k l k' l' = true → okL 4 l:=fun k l k' l' h=>right_okL (subS_iff.1 h).1
  have hok2:∀ (k:Int) (l:List FieldT) (k':Int) (l':List FieldT),subS k l k' l' = true → okL 4 l':=fun k l k' l' h=>right_okL (subS_iff.1 h).2.1
  have hz:∀ x:Int,eqZ x x = true:=fun x=>by rw[eqZ_eq]; exact decide_eq_true rfl
  have o1:okL 4 l1:=by
   cases b1 with
   | true=>exact hok _ _ _ _ (p.good rfl).1
   | false =>
    have e:((k1,l1):GType) = (0,[]):=(p.bad rfl).1
    cases e; exact okL_nil _
  have o2:okL 4 l2:=by
   cases b2 with
   | true=>exact hok2 _ _ _ _ (q.good rfl).1
   | false =>
    have e:((k2,l2):GType) = (0,[]):=q.bad rfl
    cases e; exact okL_nil _
  have s1:ladinglaw16_same k1 (unL l1) k1 (unL l1) = some true:=by rw[same15_ok (d:=4) (by omega) _ _ _ _ o1,decide_eq_true rfl,eqL_refl]; rfl
  have s2:ladinglaw16_same k2 (unL l2) k2 (unL l2) = some true:=by rw[same15_ok (d:=4) (by omega) _ _ _ _ o2,decide_eq_true rfl,eqL_refl]; rfl
  have hiff:b2 = eqZ ka kb:=by rw[eqZ_eq]; exact q.iff
  simp only[s1,s2,bind_in,ra,rb,← hiff]
  have hlow:subS kc lc ka la = true → subS kc lc kb lb = true → b1 = true ∧ subS kc lc k1 l1 = true:=fun h1 h2=>by
   cases b1 with
   | true=>exact⟨rfl,(p.good rfl).2.2 _ _ h1 h2⟩
   | false=>exact ((p.bad rfl).2 _ _ h1 h2).elim
  have hup:subS ka la kc lc = true → subS kb lb kc lc = true → b2 = true ∧ subS k2 l2 kc lc = true:=fun h1 h2=>by
   have hk:ka = kb:=(subS_iff.1 h1).2.2.1.trans (subS_iff.1 h2).2.2.1.symm
   have hb2:b2 = true:=by
    have:b2 = decide (ka = kb):=q.iff
    rw[this]; exact decide_eq_true hk
   exact⟨hb2,(q.good hb2).2.2 _ _ h1 h2⟩
  have hg1:b1 = true → subS k1 l1 ka la = true ∧ subS k1 l1 kb lb = true:=fun h=>⟨(p.good h).1,(p.good h).2.1⟩
  have hg2:b2 = true → subS ka la k2 l2 = true ∧ subS kb lb k2 l2 = true:=fun h=>⟨(q.good h).1,(q.good h).2.1⟩
  clear hiff p q s1 s2 o1 o2 hok hok2 hz
  generalize subS kc lc ka la = x1 at *
  generalize subS kc lc kb lb = x2 at *
  generalize subS kc lc k1 l1 = x3 at *
  generalize subS ka la kc lc = x4 at *
  generalize subS kb lb kc lc = x5 at *
  generalize subS k2 l2 kc lc = x6 at *
  generalize subS k1 l1 ka la = x7 at *
  generalize subS k1 l1 kb lb = x8 at *
  generalize subS ka la k2 l2 = x9 at *
  generalize subS kb lb k2 l2 = x10 at *
  clear hb
  revert hlow hup hg1 hg2
  cases b1 <;> cases b2 <;> cases x1 <;> cases x2 <;> cases x4 <;> cases x5 <;> simp <;> (intros; simp_all)
 ·have h1:∀ k l k' l',(rightS 4 ka la && rightS 4 kb lb) = true → (rightS 4 k l && rightS 4 k' l') = true:=fun _ _ _ _ h=>absurd (by simpa using h) hab
  have hn:(rightS 4 ka la && rightS 4 kb lb) = false:=by
   rw[Bool.eq_false_iff]
   intro h
   exact hab (by simpa using h)
  have hn2:(rightS 4 kb lb && rightS 4 ka la) = false:=by rw[Bool.and_comm]; exact hn
  have m1:meetS ka la kb lb = ((0,[]),false):=by unfold meetS; rw[hn]; rfl
  have m2:meetS kb lb ka la = ((0,[]),false):=by unfold meetS; rw[hn2]; rfl
  have j1:joinS ka la kb lb = ((0,[]),false):=by unfold joinS; rw[hn]; rfl
  have j2:joinS kb lb ka la = ((0,[]),false):=by unfold joinS; rw[hn2]; rfl
  rw[m1,m2,j1,j2]
  have s0:ladinglaw16_same 0 (unL []) 0 (unL []) = some true:=by rw[same15_ok (d:=0) (by omega) _ _ _ _ rfl,decide_eq_true rfl,eqL_refl]; rfl
  dsimp only
  simp only[s0,bind_in]
  have hlow:¬ (subS kc lc ka la = true ∧ subS kc lc kb lb = true):=fun h=>hab ⟨(subS_iff.1 h.1).2.1,(subS_iff.1 h.2).2.1⟩
  have hup:¬ (subS ka la kc lc = true ∧ subS kb lb kc lc = true):=fun h=>hab ⟨(subS_iff.1 h.1).1,(subS_iff.1 h.2).1⟩
  clear s0 m1 m2 j1 j2 hb h1 hn2 hn
  generalize subS kc lc ka la = x1 at *
  generalize subS kc lc kb lb = x2 at *
  generalize subS ka la kc lc = x4 at *
  generalize subS kb lb kc lc = x5 at *
  generalize rightS 4 ka la = y1 at *
  generalize rightS 4 kb lb = y2 at *
  revert hlow hup hab
  cases x1 <;> cases x2 <;> cases x4 <;> cases x5 <;> cases y1 <;> cases y2 <;> simp
end Go.Proofs.Ytaocfjifacnokaa
