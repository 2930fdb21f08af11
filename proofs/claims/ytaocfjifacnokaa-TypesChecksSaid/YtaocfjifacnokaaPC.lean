import Derived.Test.YtaocfjifacnokaaPB
set_option linter.unusedVariables false
set_option linter.unusedSimpArgs false
namespace Go.Proofs.Ytaocfjifacnokaa
open Go.Lad
def Tot {α:Type} (x:Option α):Prop := ∃ b,x = some b
theorem tot_some {α:Type} (a:α):Tot (some a):=⟨a,rfl⟩
theorem tot_cond {α:Type} {b:Bool} {x y:Option α} (hx:Tot x) (hy:Tot y):Tot (bif b then x else y):=by cases b <;> assumption
theorem tot_bind {α β:Type} {x:Option α} {f:α → Option β} (hx:Tot x) (hf:∀ a,Tot (f a)):Tot (x.bind f):=by
 obtain⟨a,rfl⟩:=hx
 exact hf a
theorem name_tot (s:Bs):Tot (syntax_Name s):=⟨_,name_ok s⟩
theorem leaf_tot (o n:Int) (s m:Bs) (ns:List Bs) (ag:List GExp) (h:ns.length ≤ 1000):Tot (syntax_leaf o n s m ns ag):=by
 have hbl:Tot (loopF (fun x=>syntax_leaf.b1 ns x) 0):=by
  obtain⟨b,hb,_⟩:=loopF_inv (body:=fun x=>syntax_leaf.b1 ns x) (fun i x=>x = (i:Int)) (Q:=fun _=>True) ns.length (x:=0) rfl (fun i hi x hx=>by
   subst hx
   unfold syntax_leaf.b1 syntax_leaf.j1
   rw[ltZ_eq,decide_eq_true (by omega),cond_true,idx_nat hi,bind_in,name_ok,bind_in]
   have hin:Tot (bif (!nameB ns[i]) then some true else (bif (ltZ 0 (i:Int)) then ((z64 ((i:Int) - 1)).bind fun v14=>(idx ns v14).bind fun v15=>some (Op.bytesLess ns[i] v15 || decide (ns[i] = v15))) else some false)):=by
    refine tot_cond (tot_some _) ?_
    by_cases h0:0 < i
    ·rw[z64_pred h0 (by omega),bind_in,idx_nat (show i - 1 < ns.length by omega)]
     exact tot_cond (tot_some _) (tot_some _)
    ·have:i = 0:=by omega
     subst this
     exact⟨_,rfl⟩
   obtain⟨v,hv⟩:=hin
   rw[hv,bind_in]
   cases v with
   | true=>exact .inr ⟨_,rfl,trivial⟩
   | false=>rw[cond_false,z64_succ (by omega),bind_in]; exact .inl ⟨_,rfl,rfl⟩) (fun x hx=>by
   subst hx
   unfold syntax_leaf.b1
   rw[ltZ_eq,decide_eq_false (by omega),cond_false]
   exact⟨_,rfl,trivial⟩) (by omega)
  exact⟨b,hb⟩
 unfold syntax_leaf syntax_leaf.j2
 repeat' first
  | exact tot_some _
  | exact name_tot _
  | exact hbl
  | refine tot_cond ?_ ?_
  | refine tot_bind ?_ fun _=>?_
theorem clean_ok (o n:Int) (s m:Bs) (ns:List Bs) (ag:List GExp):∃ c,syntax_clean o n s m ns ag = some c ∧ (o = 12 → c.2 = 2) ∧ (o = 18 → c.2 = 1) ∧ (o = 11 → c.2 = 3) ∧ (o = 14 → c.2 = 1) ∧ (o = 13 → c.2 = (ns.length:Int)):=by
 unfold syntax_clean syntax_clean.j3 syntax_clean.j2 syntax_clean.j1
 simp only[eqZ_eq]
 by_cases h0:o = 0
 ·subst h0; exact⟨_,rfl,fun h=>absurd h (by decide),fun h=>absurd h (by decide),fun h=>absurd h (by decide),fun h=>absurd h (by decide),fun h=>absurd h (by decide)⟩
 by_cases h1:o = 1
 ·subst h1; exact⟨_,rfl,fun h=>absurd h (by decide),fun h=>absurd h (by decide),fun h=>absurd h (by decide),fun h=>absurd h (by decide),fun h=>absurd h (by decide)⟩
 by_cases h2:o = 2
 ·subst h2; exact⟨_,rfl,fun h=>absurd h (by decide),fun h=>absurd h (by decide),fun h=>absurd h (by decide),fun h=>absurd h (by decide),fun h=>absurd h (by decide)⟩
 by_cases h3:o = 17
 ·subst h3; exact⟨_,rfl,fun h=>absurd h (by decide),fun h=>absurd h (by decide),fun h=>absurd h (by decide),fun h=>absurd h (by decide),fun h=>absurd h (by decide)⟩
 by_cases h4:o = 18
 ·subst h4; exact⟨_,rfl,fun h=>absurd h (by decide),fun _=>rfl,fun h=>absurd h (by decide),fun h=>absurd h (by decide),fun h=>absurd h (by decide)⟩
 by_cases h5:o = 14
 ·subst h5; exact⟨_,rfl,fun h=>absurd h (by decide),fun h=>absurd h (by decide),fun h=>absurd h (by decide),fun _=>rfl,fun h=>absurd h (by decide)⟩
 by_cases h6:o = 16
 ·subst h6; exact⟨_,rfl,fun h=>absurd h (by decide),fun h=>absurd h (by decide),fun h=>absurd h (by decide),fun h=>absurd h (by decide),fun h=>absurd h (by decide)⟩
 by_cases h7:o = 10
 ·subst h7; exact⟨_,rfl,fun h=>absurd h (by decide),fun h=>absurd h (by decide),fun h=>absurd h (by decide),fun h=>absurd h (by decide),fun h=>absurd h (by decide)⟩
 by_cases h8:o = 12
 ·subst h8; exact⟨_,rfl,fun _=>rfl,fun h=>absurd h (by decide),fun h=>absurd h (by decide),fun h=>absurd h (by decide),fun h=>absurd h (by decide)⟩
 by_cases h9:o = 11
 ·subst h9; exact⟨_,rfl,fun h=>absurd h (by decide),fun h=>absurd h (by decide),fun _=>rfl,fun h=>absurd h (by decide),fun h=>absurd h (by decide)⟩
 by_cases h10:o = 13
 ·subst h10; exact⟨_,rfl,fun h=>absurd h (by decide),fun h=>absurd h (by decide),fun h=>absurd h (by decide),fun h=>absurd h (by decide),fun _=>rfl⟩
 rw[decide_eq_false h0,decide_eq_false h1,decide_eq_false h2,decide_eq_false h3,decide_eq_false h4,decide_eq_false h5,decide_eq_false h6,decide_eq_false h7,decide_eq_false h8,decide_eq_false h9,decide_eq_false h10]
 simp only[cond_false,bind_in]
 cases decide (o = 15) <;> exact⟨_,rfl,fun h=>absurd h h8,fun h=>absurd h h4,fun h=>absurd h h9,fun h=>absurd h h5,fun h=>absurd h h10⟩
def shE:Nat → ExpT → Prop
 | 0,_=>False
 | d + 1,e=>e.names.length ≤ 12 ∧ e.args.length ≤ 1000 ∧ ∀ a ∈ e.args,shE d a
theorem rexp_rec:∀ (d n q:Nat) (e:ExpT),d ≤ 12 → d < n → shE q e → ∃ b,syntax_rightExp.rec n e.op e.n e.s e.m e.names (unE e.args) (d:Int) = some b ∧ (b = true → okE d e)
 | d,0,_,_,_,h,_=>absurd h (by omega)
 | d,n + 1,0,_,_,_,h=>h.elim
 | 0,n + 1,q + 1,e,_,_,_=>⟨false,rfl,fun h=>by cases h⟩
 | d + 1,n + 1,q + 1,e,hd,hn,hs=>by
  obtain⟨s1,s2,s3⟩:=hs
  show ∃ b,syntax_rightExp.body (syntax_rightExp.rec n) e.op e.n e.s e.m e.names (unE e.args) ((d + 1:Nat):Int) = some b ∧ _
  unfold syntax_rightExp.body syntax_rightExp.j2 syntax_rightExp.j1
  rw[eqZ_eq,decide_eq_false (show ¬ (((d + 1:Nat):Int) = 0) by omega),cond_false]
  cases ltZ e.op 0 with
  | true=>exact⟨false,rfl,fun h=>by cases h⟩
  | false =>
  cases leZ 19 e.op with
  | true=>exact⟨false,rfl,fun h=>by cases h⟩
  | false =>
  rw[cond_false,bind_in,cond_false]
  obtain⟨c,hc,f12,f18,f11,f14,f13⟩:=clean_ok e.op e.n e.s e.m e.names (unE e.args)
  obtain⟨lb,hlb⟩:=leaf_tot e.op e.n e.s e.m e.names (unE e.args) (by omega)
  rw[hc,bind_in,hlb,unE_len]
  have chk:∃ v,(bif (leZ 0 c.2) then (bif (!eqZ c.2 (e.args.length:Int)) then some true else (bif (!eqZ c.1.2.1 e.n) then some true else (bif (!decide (c.1.2.2.1 = e.s)) then some true else (bif (!decide (c.1.2.2.2.1 = e.m)) then some true else (bif (!eqZ (c.1.2.2.2.2.1.length:Int) (e.names.length:Int)) then some true else ((some lb).bind fun l10=>some (!l10))))))) else
    (bif (!eqZ c.1.2.1 e.n) then some true else (bif (!decide (c.1.2.2.1 = e.s)) then some true else (bif (!decide (c.1.2.2.2.1 = e.m)) then some true else (bif (!eqZ (c.1.2.2.2.2.1.length:Int) (e.names.length:Int)) then some true else ((some lb).bind fun l11=>some (!l11))))))) = some v ∧ (v = false → 0 ≤ c.2 → c.2 = (e.args.length:Int)):=by
   rw[leZ_eq]
   by_cases h0:0 ≤ c.2
   ·rw[decide_eq_true h0,cond_true,eqZ_eq]
    by_cases h1:c.2 = (e.args.length:Int)
    ·rw[decide_eq_true h1]
     obtain⟨v,hv⟩:Tot (bif (!true) then some true else (bif (!eqZ c.1.2.1 e.n) then some true else (bif (!decide (c.1.2.2.1 = e.s)) then some true else (bif (!decide (c.1.2.2.2.1 = e.m)) then some true else (bif (!eqZ (c.1.2.2.2.2.1.length:Int) (e.names.length:Int)) then some true else ((some lb).bind fun l10=>some (!l10))))))):=by
      repeat' first
       | exact tot_some _
       | refine tot_cond ?_ ?_
       | refine tot_bind ?_ fun _=>?_
     exact⟨v,hv,fun _ _=>h1⟩
    ·rw[decide_eq_false h1]
     exact⟨true,rfl,fun h=>by cases h⟩
   ·rw[decide_eq_false h0,cond_false]
    obtain⟨v,hv⟩:Tot (bif (!eqZ c.1.2.1 e.n) then some true else (bif (!decide (c.1.2.2.1 = e.s)) then some true else (bif (!decide (c.1.2.2.2.1 = e.m)) then some true else (bif (!eqZ (c.1.2.2.2.2.1.length:Int) (e.names.length:Int)) then some true else ((some lb).bind fun l11=>some (!l11)))))):=by
     repeat' first
      | exact tot_some _
      | refine tot_cond ?_ ?_
      | refine tot_bind ?_ fun _=>?_
    exact⟨v,hv,fun _ h=>absurd h h0⟩
  obtain⟨v,hv,hv2⟩:=chk
  rw[hv,bind_in]
  cases v with
  | true=>exact⟨false,rfl,fun h=>by cases h⟩
  | false =>
  rw[cond_false]
  have hcl:=hv2 rfl
  obtain⟨b,hb,hb2⟩:=loopF_inv (body:=fun x=>syntax_rightExp.b1 (syntax_rightExp.rec n) (unE e.args) ((d + 1:Nat):Int) x) (fun i x=>x = (i:Int) ∧ ∀ j (hj:j < e.args.length),j < i → okE d e.args[j]) (Q:=fun b=>b = true → ∀ a ∈ e.args,okE d a) e.args.length (x:=0) ⟨rfl,fun j hj h=>absurd h (by omega)⟩ (fun i hi x hx=>by
   obtain⟨rfl,hP⟩:=hx
   unfold syntax_rightExp.b1
   simp only[fe1,fe2]
   rw[unE_len,ltZ_eq,decide_eq_true (by omega),cond_true,idx_unE hi,bind_in,z64_i (by omega),bind_in]
   obtain⟨b,hb,hb2⟩:=rexp_rec d n q e.args[i] (by omega) (by omega) (s3 _ (List.getElem_mem hi))
   unfold tupE
   have e1:((d + 1:Nat):Int) - 1 = (d:Int):=by omega
   simp only[e1,hb,bind_in]
   cases b with
   | false=>exact .inr ⟨false,rfl,fun h=>by cases h⟩
   | true =>
    rw[Bool.not_true,cond_false,z64_succ (by omega),bind_in]
    refine .inl ⟨_,rfl,rfl,fun j hj h=>?_⟩
    by_cases hji:j = i
    ·subst hji; exact hb2 rfl
    ·exact hP j hj (by omega)) (fun x hx=>by
   obtain⟨rfl,hP⟩:=hx
   unfold syntax_rightExp.b1
   rw[unE_len,ltZ_eq,decide_eq_false (by omega),cond_false]
   refine⟨true,rfl,fun _ a ha=>?_⟩
   obtain⟨j,hj,rfl⟩:=List.mem_iff_getElem.1 ha
   exact hP j hj hj) (by omega)
  refine⟨b,hb,fun h=>⟨s2,fun h'=>?_,fun h'=>?_,fun h'=>?_,fun h'=>?_,fun h'=>?_,hb2 h⟩⟩
  ·have:=hcl (by rw[f12 h']; omega); rw[f12 h'] at this; omega
  ·have:=hcl (by rw[f18 h']; omega); rw[f18 h'] at this; omega
  ·have:=hcl (by rw[f11 h']; omega); rw[f11 h'] at this; omega
  ·have:=hcl (by rw[f14 h']; omega); rw[f14 h'] at this; omega
  ·have:=hcl (by rw[f13 h']; omega); rw[f13 h'] at this; omega
noncomputable def rexpB (e:ExpT):Bool:=(syntax_RightExp e.op e.n e.s e.m e.names (unE e.args)).getD false
theorem rexp_ok {q:Nat} {e:ExpT} (h:shE q e):syntax_RightExp e.op e.n e.s e.m e.names (unE e.args) = some (rexpB e) ∧ (rexpB e = true → okE 12 e):=by
 obtain⟨b,hb,hb2⟩:=rexp_rec 12 bigFuel.n q e (by omega) (fuel_big (by omega)) h
 have:syntax_RightExp e.op e.n e.s e.m e.names (unE e.args) = some b:=by
  unfold syntax_RightExp syntax_rightExp
  rw[show (12:Int) = ((12:Nat):Int) from rfl,hb]; rfl
 unfold rexpB
 rw[this]
 exact⟨rfl,hb2⟩
theorem rfields_ok (l:List FieldT) (most:Int) (hl:l.length ≤ 1000):∃ b,syntax_rightFields (unL l) most = some b ∧ (b = true → (∀ f ∈ l,nameB f.nm = true ∧ rightS 4 f.kd f.fs = true) ∧ (l.length:Int) ≤ most):=by
 unfold syntax_rightFields
 exact loopF_inv (body:=fun x:Int × List (Bs × Bool)=>syntax_rightFields.b1 (unL l) most x.1 x.2) (fun i x=>∃ kn,x = ((i:Int),kn) ∧ ∀ j (hj:j < l.length),j < i → nameB l[j].nm = true ∧ rightS 4 l[j].kd l[j].fs = true) (Q:=fun b=>b = true → (∀ f ∈ l,nameB f.nm = true ∧ rightS 4 f.kd f.fs = true) ∧ (l.length:Int) ≤ most) l.length (x:=(0,[])) ⟨[],rfl,fun j hj h=>absurd h (by omega)⟩ (fun i hi x hx=>by
  obtain⟨kn,rfl,hP⟩:=hx
  unfold syntax_rightFields.b1 syntax_rightFields.j1
  simp only[fu1,fu2]
  have hr:syntax_RightType l[i].kd (unL l[i].fs) = some (rightS 4 l[i].kd l[i].fs):=by
   have:=right_ok l[i].kd l[i].fs
   unfold types_Right at this
   cases hx:syntax_RightType l[i].kd (unL l[i].fs) with
   | none=>rw[hx] at this; cases this
   | some b=>rw[hx] at this; exact this
  rw[un_len,ltZ_eq,decide_eq_true (by omega),cond_true,idx_un hi,bind_in,name_ok,hr,z64_succ (by omega)]
  simp only[bind_in]
  cases ((lookM kn l[i].nm).getD false) with
  | true=>exact .inr ⟨false,rfl,fun h=>by cases h⟩
  | false =>
  cases hnm:nameB l[i].nm with
  | false=>exact .inr ⟨false,rfl,fun h=>by cases h⟩
  | true =>
  cases hrt:rightS 4 l[i].kd l[i].fs with
  | false=>exact .inr ⟨false,rfl,fun h=>by cases h⟩
  | true =>
   refine .inl ⟨_,rfl,_,rfl,fun j hj h=>?_⟩
   by_cases hji:j = i
   ·subst hji; exact⟨hnm,hrt⟩
   ·exact hP j hj (by omega)) (fun x hx=>by
  obtain⟨kn,rfl,hP⟩:=hx
  unfold syntax_rightFields.b1
  rw[un_len,ltZ_eq,decide_eq_false (by omega),cond_false]
  refine⟨_,rfl,fun h=>⟨fun f hf=>?_,by rw[leZ_eq,decide_eq_true_eq] at h; exact h⟩⟩
  obtain⟨j,hj,rfl⟩:=List.mem_iff_getElem.1 hf
  exact hP j hj hj) (by omega)
theorem rexps_ok (l:List ExpT) (n:Int) (hl:l.length ≤ 1000) (hs:∀ e ∈ l,∃ q,shE q e):∃ b,syntax_rightExps (unE l) n = some b ∧ (b = true → (∀ e ∈ l,rexpB e = true) ∧ (l.length:Int) = n):=by
 unfold syntax_rightExps
 exact loopF_inv (body:=fun x=>syntax_rightExps.b1 (unE l) n x) (fun i x=>x = (i:Int) ∧ ∀ j (hj:j < l.length),j < i → rexpB l[j] = true) (Q:=fun b=>b = true → (∀ e ∈ l,rexpB e = true) ∧ (l.length:Int) = n) l.length (x:=0) ⟨rfl,fun j hj h=>absurd h (by omega)⟩ (fun i hi x hx=>by
  obtain⟨rfl,hP⟩:=hx
  unfold syntax_rightExps.b1
  simp only[fe1,fe2]
  obtain⟨q,hq⟩:=hs _ (List.getElem_mem hi)
  have hr:=(rexp_ok hq).1
  rw[unE_len,ltZ_eq,decide_eq_true (by omega),cond_true,idx_unE hi,bind_in,z64_succ (by omega)]
  unfold tupE
  simp only[hr,bind_in]
  cases hb:rexpB l[i] with
  | false=>exact .inr ⟨false,rfl,fun h=>by cases h⟩
  | true =>
   refine .inl ⟨_,rfl,rfl,fun j hj h=>?_⟩
   by_cases hji:j = i
   ·subst hji; exact hb
   ·exact hP j hj (by omega)) (fun x hx=>by
  obtain⟨rfl,hP⟩:=hx
  unfold syntax_rightExps.b1
  rw[unE_len,ltZ_eq,decide_eq_false (by omega),cond_false]
  refine⟨_,rfl,fun h=>⟨fun f hf=>?_,by rw[eqZ_eq,decide_eq_true_eq] at h; exact h⟩⟩
  obtain⟨j,hj,rfl⟩:=List.mem_iff_getElem.1 hf
  exact hP j hj hj) (by omega)
def bodyE (f:GFunc):ExpT := .mk f.2.2.2.2.2.1 f.2.2.2.2.2.2.1 f.2.2.2.2.2.2.2.1 f.2.2.2.2.2.2.2.2.1 f.2.2.2.2.2.2.2.2.2.1 f.2.2.2.2.2.2.2.2.2.2
structure ShM (m:GModule):Prop where
 uses:m.2.1.length ≤ 8
 vars:m.2.2.1.length ≤ 8
 init:m.2.2.2.1.length ≤ 8 ∧ ∀ e ∈ m.2.2.2.1,shE 16 e
 funcs:m.2.2.2.2.1.length ≤ 6 ∧ ∀ f ∈ m.2.2.2.2.1,f.2.2.1.length ≤ 8 ∧ shE 16 (bodyE f)
 old:m.2.2.2.2.2.2.1.length ≤ 8
 fwd:m.2.2.2.2.2.2.2.1.length ≤ 8 ∧ ∀ e ∈ m.2.2.2.2.2.2.2.1,shE 16 e
 back:m.2.2.2.2.2.2.2.2.length ≤ 8 ∧ ∀ e ∈ m.2.2.2.2.2.2.2.2,shE 16 e
structure OkM (m:GModule):Prop where
 name:nameB m.1 = true
 unames:∀ s ∈ m.2.1,nameB s = true
 vars:∀ f ∈ m.2.2.1,nameB f.nm = true ∧ rightS 4 f.kd f.fs = true
 init:(∀ e ∈ m.2.2.2.1,rexpB e = true) ∧ m.2.2.2.1.length = m.2.2.1.length
 funcs:∀ f ∈ m.2.2.2.2.1,nameB f.1 = true ∧ (∀ p ∈ f.2.2.1,nameB p.nm = true ∧ rightS 4 p.kd p.fs = true) ∧ rightS 4 f.2.2.2.1.1 f.2.2.2.1.2 = true ∧ rexpB (bodyE f) = true
 old:∀ f ∈ m.2.2.2.2.2.2.1,nameB f.nm = true ∧ rightS 4 f.kd f.fs = true
 fwd:(∀ e ∈ m.2.2.2.2.2.2.2.1,rexpB e = true) ∧ (m.2.2.2.2.2.1 = true → m.2.2.2.2.2.2.2.1.length = m.2.2.1.length)
 back:(∀ e ∈ m.2.2.2.2.2.2.2.2,rexpB e = true) ∧ m.2.2.2.2.2.2.2.2.length = m.2.2.2.2.2.2.1.length
noncomputable abbrev RightM (m:GModule):Option Bool:=syntax_Right m.1 m.2.1 (unL m.2.2.1) (unE m.2.2.2.1) m.2.2.2.2.1 m.2.2.2.2.2.1 (unL m.2.2.2.2.2.2.1) (unE m.2.2.2.2.2.2.2.1) (unE m.2.2.2.2.2.2.2.2)
theorem right3_ok (old:List FieldT) (fw bk:List ExpT) (vs:Int) (h1:old.length ≤ 8) (h2:fw.length ≤ 8 ∧ ∀ e ∈ fw,shE 16 e) (h3:bk.length ≤ 8 ∧ ∀ e ∈ bk,shE 16 e) :
  ∃ b,syntax_Right.j3 (unL old) (unE fw) (unE bk) vs = some b ∧ (b = true → (∀ f ∈ old,nameB f.nm = true ∧ rightS 4 f.kd f.fs = true) ∧ ((∀ e ∈ fw,rexpB e = true) ∧ (fw.length:Int) = vs) ∧ (∀ e ∈ bk,rexpB e = true) ∧ bk.length = old.length):=by
 unfold syntax_Right.j3
 obtain⟨b1,e1,f1⟩:=rfields_ok old 8 (by omega)
 obtain⟨b2,e2,f2⟩:=rexps_ok fw vs (by omega) fun e he=>⟨16,h2.2 e he⟩
 obtain⟨b3,e3,f3⟩:=rexps_ok bk (old.length:Int) (by omega) fun e he=>⟨16,h3.2 e he⟩
 rw[e1,bind_in,e2,un_len,e3]
 simp only[bind_in]
 cases b1 with
 | false=>exact⟨false,rfl,fun h=>by cases h⟩
 | true =>
 cases b2 with
 | false=>exact⟨false,rfl,fun h=>by cases h⟩
 | true =>
 cases b3 with
 | false=>exact⟨false,rfl,fun h=>by cases h⟩
 | true=>exact⟨true,rfl,fun _=>⟨(f1 rfl).1,f2 rfl,(f3 rfl).1,by have:=(f3 rfl).2; omega⟩⟩
theorem rightM_ok (m:GModule) (hs:ShM m):∃ b,RightM m = some b ∧ (b = true → OkM m):=by
 obtain⟨nm,us,vs,ini,fu,mv,old,fw,bk⟩:=m
 have hsu:us.length ≤ 8:=hs.uses
 have hsv:vs.length ≤ 8:=hs.vars
 have hsi:=hs.init
 have hsf:=hs.funcs
 have hso:old.length ≤ 8:=hs.old
 have hsw:=hs.fwd
 have hsb:=hs.back
 dsimp only at hsi hsf hsw hsb
 show ∃ b,syntax_Right nm us (unL vs) (unE ini) fu mv (unL old) (unE fw) (unE bk) = some b ∧ _
 unfold syntax_Right
 obtain⟨r1,h1,q1⟩:=loopF_inv (body:=fun x:Int × List (Bs × Bool)=>syntax_Right.b1 us x.1 x.2) (fun i x=>∃ kn,x = ((i:Int),kn) ∧ ∀ j (hj:j < us.length),j < i → nameB us[j] = true) (Q:=fun r=>r = .inr false ∨ r = .inl () ∧ ∀ s ∈ us,nameB s = true) us.length (x:=(0,[])) ⟨[],rfl,fun j hj h=>absurd h (by omega)⟩ (fun i hi x hx=>by
  obtain⟨kn,rfl,hP⟩:=hx
  unfold syntax_Right.b1 syntax_Right.j1
  rw[ltZ_eq,decide_eq_true (by omega),cond_true,idx_nat hi,bind_in,name_ok,z64_succ (by omega)]
  simp only[bind_in]
  cases ((lookM kn us[i]).getD false) with
  | true=>exact .inr ⟨_,rfl,.inl rfl⟩
  | false =>
  cases hnm:nameB us[i] with
  | false=>exact .inr ⟨_,rfl,.inl rfl⟩
  | true =>
   refine .inl ⟨_,rfl,_,rfl,fun j hj h=>?_⟩
   by_cases hji:j = i
   ·subst hji; exact hnm
   ·exact hP j hj (by omega)) (fun x hx=>by
  obtain⟨kn,rfl,hP⟩:=hx
  unfold syntax_Right.b1
  rw[ltZ_eq,decide_eq_false (by omega),cond_false]
  refine⟨_,rfl,.inr ⟨rfl,fun s hs=>?_⟩⟩
  obtain⟨j,hj,rfl⟩:=List.mem_iff_getElem.1 hs
  exact hP j hj hj) (by omega)
 rw[h1,bind_in]
 rcases q1 with rfl | ⟨rfl,hun⟩
 ·exact⟨false,rfl,fun h=>by cases h⟩
 dsimp only
 unfold syntax_Right.j6
 obtain⟨r2,h2,q2⟩:=loopF_inv (body:=fun x:Int × List (Bs × Bool)=>syntax_Right.b2 fu x.1 x.2) (fun i x=>∃ kn,x = ((i:Int),kn) ∧ ∀ j (hj:j < fu.length),j < i → nameB fu[j].1 = true ∧ (∀ p ∈ fu[j].2.2.1,nameB p.nm = true ∧ rightS 4 p.kd p.fs = true) ∧ rightS 4 fu[j].2.2.2.1.1 fu[j].2.2.2.1.2 = true ∧ rexpB (bodyE fu[j]) = true)
  (Q:=fun r=>r = .inr false ∨ r = .inl () ∧ ∀ f ∈ fu,nameB f.1 = true ∧ (∀ p ∈ f.2.2.1,nameB p.nm = true ∧ rightS 4 p.kd p.fs = true) ∧ rightS 4 f.2.2.2.1.1 f.2.2.2.1.2 = true ∧ rexpB (bodyE f) = true) fu.length (x:=(0,[])) ⟨[],rfl,fun j hj h=>absurd h (by omega)⟩ (fun i hi x hx=>by
  obtain⟨kn,rfl,hP⟩:=hx
  unfold syntax_Right.b2 syntax_Right.j2
  simp only[fu1,fu2,fe1,fe2]
  obtain⟨hf1,hf2⟩:=hsf.2 _ (List.getElem_mem hi)
  obtain⟨b1,e1,g1⟩:=rfields_ok fu[i].2.2.1 6 (by omega)
  have hr:syntax_RightType fu[i].2.2.2.1.1 (unL fu[i].2.2.2.1.2) = some (rightS 4 fu[i].2.2.2.1.1 fu[i].2.2.2.1.2):=by
   have:=right_ok fu[i].2.2.2.1.1 fu[i].2.2.2.1.2
   unfold types_Right at this
   cases hx:syntax_RightType fu[i].2.2.2.1.1 (unL fu[i].2.2.2.1.2) with
   | none=>rw[hx] at this; cases this
   | some b=>rw[hx] at this; exact this
  have he:syntax_RightExp fu[i].2.2.2.2.2.1 fu[i].2.2.2.2.2.2.1 fu[i].2.2.2.2.2.2.2.1 fu[i].2.2.2.2.2.2.2.2.1 fu[i].2.2.2.2.2.2.2.2.2.1 (unE fu[i].2.2.2.2.2.2.2.2.2.2) = some (rexpB (bodyE fu[i])):=(rexp_ok hf2).1
  rw[ltZ_eq,decide_eq_true (by omega),cond_true,idx_nat hi,bind_in,name_ok,z64_succ (by omega),e1,hr,he]
  simp only[bind_in]
  cases ((lookM kn fu[i].1).getD false) with
  | true=>exact .inr ⟨_,rfl,.inl rfl⟩
  | false =>
  cases hnm:nameB fu[i].1 with
  | false=>exact .inr ⟨_,rfl,.inl rfl⟩
  | true =>
  cases b1 with
  | false=>exact .inr ⟨_,rfl,.inl rfl⟩
  | true =>
  cases hrt:rightS 4 fu[i].2.2.2.1.1 fu[i].2.2.2.1.2 with
  | false=>exact .inr ⟨_,rfl,.inl rfl⟩
  | true =>
  cases hre:rexpB (bodyE fu[i]) with
  | false=>exact .inr ⟨_,rfl,.inl rfl⟩
  | true =>
  cases (!eqZ (anI .i64 fu[i].2.2.2.2.1 15) 0) with
  | true=>exact .inr ⟨_,rfl,.inl rfl⟩
  | false =>
   refine .inl ⟨_,rfl,_,rfl,fun j hj h=>?_⟩
   by_cases hji:j = i
   ·subst hji; exact⟨hnm,(g1 rfl).1,hrt,hre⟩
   ·exact hP j hj (by omega)) (fun x hx=>by
  obtain⟨kn,rfl,hP⟩:=hx
  unfold syntax_Right.b2
  rw[ltZ_eq,decide_eq_false (by omega),cond_false]
  refine⟨_,rfl,.inr ⟨rfl,fun s hs=>?_⟩⟩
  obtain⟨j,hj,rfl⟩:=List.mem_iff_getElem.1 hs
  exact hP j hj hj) (by omega)
 rw[h2,bind_in]
 rcases q2 with rfl | ⟨rfl,hfn⟩
 ·exact⟨false,rfl,fun h=>by cases h⟩
 dsimp only
 unfold syntax_Right.j5
 obtain⟨b1,e1,g1⟩:=rfields_ok vs 8 (by omega)
 obtain⟨b2,e2,g2⟩:=rexps_ok ini (vs.length:Int) (by omega) fun e he=>⟨16,hsi.2 e he⟩
 rw[name_ok,e1,un_len,e2]
 simp only[bind_in]
 cases hnm:nameB nm with
 | false=>exact⟨false,rfl,fun h=>by cases h⟩
 | true =>
 cases ltZ 12 (us.length:Int) with
 | true=>exact⟨false,rfl,fun h=>by cases h⟩
 | false =>
 cases ltZ 30 (fu.length:Int) with
 | true=>exact⟨false,rfl,fun h=>by cases h⟩
 | false =>
 cases b1 with
 | false=>exact⟨false,rfl,fun h=>by cases h⟩
 | true =>
 cases b2 with
 | false=>exact⟨false,rfl,fun h=>by cases h⟩
 | true =>
 simp only[Bool.not_true,cond_false,bind_in]
 unfold syntax_Right.j4
 rw[un_len,un_len,cond_false]
 have fin:∀ vl:Int,(mv = true → vl = (vs.length:Int)) → ∃ b,syntax_Right.j3 (unL old) (unE fw) (unE bk) vl = some b ∧ (b = true → OkM (nm,us,vs,ini,fu,mv,old,fw,bk)):=fun vl hvl=>by
  obtain⟨b,hb,hb2⟩:=right3_ok old fw bk vl hso hsw hsb
  refine⟨b,hb,fun h=>?_⟩
  obtain⟨k1,k2,k3⟩:=hb2 h
  exact⟨hnm,hun,(g1 rfl).1,⟨(g2 rfl).1,by have:=(g2 rfl).2; show ini.length = vs.length; omega⟩,hfn,k1,⟨k2.1,fun h=>by have h1:=k2.2; have h2:=hvl h; show fw.length = vs.length; omega⟩,k3⟩
 cases mv with
 | true =>
  rw[Bool.not_true,cond_false,bind_in]
  exact fin _ fun _=>rfl
 | false =>
  rw[Bool.not_false,cond_true]
  cases ltZ 0 (old.length:Int) with
  | true=>exact⟨false,rfl,fun h=>by cases h⟩
  | false =>
   rw[cond_false,bind_in]
   exact fin _ fun h=>by cases h
end Go.Proofs.Ytaocfjifacnokaa
namespace Go.Proofs.Ytaocfjifacnokaa
open Go.Lad
theorem size_rec:∀ (lv n:Nat) (e:ExpT) (most lev:Int),lev ≤ lv → -9 ≤ lev → lv ≤ 100 → lv < n → 0 ≤ most → most ≤ 1000 → ∃ r,ladinglaw16_size.rec n e.op e.n e.s e.m e.names (unE e.args) most lev = some r ∧ 1 ≤ r ∧ r ≤ most + 1 ∧ (r ≤ most → shE lv e)
 | lv,0,_,_,_,_,_,_,h,_,_=>absurd h (by omega)
 | lv,n + 1,e,most,lev,h1,h2,h3,h4,h5,h6=>by
  show ∃ r,ladinglaw16_size.body (ladinglaw16_size.rec n) e.op e.n e.s e.m e.names (unE e.args) most lev = some r ∧ _
  unfold ladinglaw16_size.body ladinglaw16_size.j2
  simp only[ltZ_eq,bif_dec]
  have hbad:∃ r,((some true).bind fun x=>bif x then ((z64 (most + 1)).bind fun v10=>some v10) else loopF (fun x=>ladinglaw16_size.b1 (ladinglaw16_size.rec n) (unE e.args) most lev x.1 x.2) (1,0)) = some r ∧ 1 ≤ r ∧ r ≤ most + 1 ∧ (r ≤ most → shE lv e):=by
   rw[bind_in,cond_true,z64_i (by omega),bind_in]
   exact⟨_,rfl,by omega,by omega,fun h=>by omega⟩
  by_cases hl:lev < 1
  ·rw[if_pos hl]; exact hbad
  rw[if_neg hl]
  by_cases h12:(12:Int) < (e.names.length:Int)
  ·rw[if_pos h12]; exact hbad
  rw[if_neg h12]
  by_cases h60:(60:Int) < (e.s.length:Int)
  ·rw[if_pos h60]; exact hbad
  rw[if_neg h60]
  by_cases h61:(60:Int) < (e.m.length:Int)
  ·rw[decide_eq_true h61]; exact hbad
  rw[decide_eq_false h61,bind_in,cond_false]
  obtain⟨lv',rfl⟩:∃ k,lv = k + 1:=⟨lv - 1,by omega⟩
  obtain⟨r,hr,hq1,hq2,hq3⟩:=loopF_inv (body:=fun x=>ladinglaw16_size.b1 (ladinglaw16_size.rec n) (unE e.args) most lev x.1 x.2)
   (fun i x=>∃ nn:Int,x = (nn,(i:Int)) ∧ 1 + (i:Int) ≤ nn ∧ nn ≤ most + 1 ∧ i ≤ e.args.length ∧ (nn ≤ most → ∀ j (hj:j < e.args.length),j < i → shE lv' e.args[j])) (Q:=fun r=>1 ≤ r ∧ r ≤ most + 1 ∧ (r ≤ most → e.args.length ≤ 1000 ∧ ∀ a ∈ e.args,shE lv' a)) (most.toNat + 1) (x:=(1,0)) ⟨1,rfl,by omega,by omega,by omega,fun _ j hj h=>absurd h (by omega)⟩ (fun i hi x hx=>by
   obtain⟨nn,rfl,g1,g2,g3,g4⟩:=hx
   unfold ladinglaw16_size.b1 ladinglaw16_size.j1
   simp only[fe1,fe2]
   rw[unE_len]
   simp only[ltZ_eq,leZ_eq]
   by_cases hil:i < e.args.length
   rotate_left
   ·rw[decide_eq_false (by omega),cond_false,bind_in,cond_false]
    have:i = e.args.length:=by omega
    refine .inr ⟨_,rfl,by omega,by omega,fun h=>⟨by omega,fun a ha=>?_⟩⟩
    obtain⟨j,hj,rfl⟩:=List.mem_iff_getElem.1 ha
    exact g4 h j hj (by omega)
   rw[decide_eq_true (show (i:Int) < (e.args.length:Int) by omega),cond_true,bind_in,idx_unE hil]
   by_cases hm:nn ≤ most
   rotate_left
   ·rw[decide_eq_false hm,cond_false]
    exact .inr ⟨_,rfl,by omega,by omega,fun h=>absurd h hm⟩
   rw[decide_eq_true hm,cond_true,bind_in,z64_i (by omega),bind_in,z64_i (by omega),bind_in]
   obtain⟨r,hr,r1,r2,r3⟩:=size_rec lv' n e.args[i] (most - nn) (lev - 1) (by omega) (by omega) (by omega) (by omega) (by omega) (by omega)
   unfold tupE
   simp only[hr,bind_in]
   rw[z64_i (by omega),bind_in,z64_succ (by omega),bind_in]
   refine .inl ⟨_,rfl,nn + r,rfl,by omega,by omega,by omega,fun h j hj hji=>?_⟩
   by_cases hje:j = i
   ·subst hje; exact r3 (by omega)
   ·exact g4 (by omega) j hj (by omega)) (fun x hx=>by
   obtain⟨nn,rfl,g1,g2,g3,g4⟩:=hx
   omega) (by omega)
  refine⟨r,hr,hq1,hq2,fun h=>?_⟩
  obtain⟨k1,k2⟩:=hq3 h
  exact⟨by omega,k1,k2⟩
theorem size_ok (e:ExpT):∃ r,ladinglaw16_size e.op e.n e.s e.m e.names (unE e.args) 60 16 = some r ∧ (r ≤ 60 → shE 16 e):=by
 obtain⟨r,h1,_,_,h4⟩:=size_rec 16 bigFuel.n e 60 16 (by omega) (by omega) (by omega) (fuel_big (by omega)) (by omega) (by omega)
 exact⟨r,h1,h4⟩
theorem exps_ok (l:List ExpT):∃ b,ladinglaw16_exps (unE l) = some b ∧ (b = true → l.length ≤ 8 ∧ ∀ e ∈ l,shE 16 e):=by
 unfold ladinglaw16_exps
 exact loopF_inv (body:=fun x=>ladinglaw16_exps.b1 (unE l) x) (fun i x=>x = (i:Int) ∧ i ≤ l.length ∧ ∀ j (hj:j < l.length),j < i → shE 16 l[j]) (Q:=fun b=>b = true → l.length ≤ 8 ∧ ∀ e ∈ l,shE 16 e) 9 (x:=0) ⟨rfl,by omega,fun j hj h=>absurd h (by omega)⟩ (fun i hi x hx=>by
  obtain⟨rfl,hil,hP⟩:=hx
  unfold ladinglaw16_exps.b1 ladinglaw16_exps.j1
  simp only[fe1,fe2,ltZ_eq]
  rw[unE_len]
  by_cases hl:i < l.length
  rotate_left
  ·rw[decide_eq_false (by omega),cond_false,bind_in,cond_false]
   refine .inr ⟨_,rfl,fun h=>?_⟩
   rw[leZ_eq,decide_eq_true_eq] at h
   refine⟨by omega,fun a ha=>?_⟩
   obtain⟨j,hj,rfl⟩:=List.mem_iff_getElem.1 ha
   exact hP j hj (by omega)
  rw[decide_eq_true (show (i:Int) < (l.length:Int) by omega),cond_true,decide_eq_true (show (i:Int) < 9 by omega),bind_in,cond_true,idx_unE hl,bind_in]
  obtain⟨r,hr,hr2⟩:=size_ok l[i]
  unfold tupE
  simp only[hr,bind_in]
  by_cases h60:(60:Int) < r
  ·rw[decide_eq_true h60]; exact .inr ⟨_,rfl,fun h=>by cases h⟩
  ·rw[decide_eq_false h60,cond_false,z64_succ (by omega),bind_in]
   refine .inl ⟨_,rfl,rfl,by omega,fun j hj hji=>?_⟩
   by_cases hje:j = i
   ·subst hje; exact hr2 (by omega)
   ·exact hP j hj (by omega)) (fun x hx=>by
  obtain⟨rfl,hil,hP⟩:=hx
  unfold ladinglaw16_exps.b1 ladinglaw16_exps.j1
  simp only[ltZ_eq]
  rw[unE_len,leZ_eq,decide_eq_false (show ¬ (((9:Nat):Int) < 9) by omega)]
  refine⟨false,?_,fun h=>by cases h⟩
  rw[decide_eq_false (show ¬ ((l.length:Int) ≤ 8) by omega)]
  cases decide (((9:Nat):Int) < (l.length:Int)) <;> rfl) (by omega)
theorem fields_ok (l:List FieldT):∃ b,ladinglaw16_fields (unL l) = some b ∧ (b = true → l.length ≤ 8):=by
 unfold ladinglaw16_fields
 exact loopF_inv (body:=fun x=>ladinglaw16_fields.b1 (unL l) x) (fun i x=>x = (i:Int) ∧ i ≤ l.length) (Q:=fun b=>b = true → l.length ≤ 8) 9 (x:=0) ⟨rfl,by omega⟩ (fun i hi x hx=>by
  obtain⟨rfl,hil⟩:=hx
  unfold ladinglaw16_fields.b1 ladinglaw16_fields.j2 ladinglaw16_fields.j1
  simp only[fx1,ltZ_eq]
  rw[un_len]
  by_cases hl:i < l.length
  rotate_left
  ·rw[decide_eq_false (by omega),cond_false,bind_in,cond_false]
   refine .inr ⟨_,rfl,fun h=>?_⟩
   rw[leZ_eq,decide_eq_true_eq] at h
   omega
  rw[decide_eq_true (show (i:Int) < (l.length:Int) by omega),cond_true,decide_eq_true (show (i:Int) < 9 by omega),bind_in,cond_true,idx_un hl,bind_in,bind_in]
  obtain⟨b,hb⟩:=light_ok [(l[i].kd,l[i].fs)] (by simp)
  rw[hb]
  simp only[bind_in]
  by_cases h60:(60:Int) < (l[i].nm.length:Int)
  ·rw[decide_eq_true h60]; exact .inr ⟨_,rfl,fun h=>by cases h⟩
  ·rw[decide_eq_false h60,cond_false,bind_in]
   cases b with
   | false=>exact .inr ⟨_,rfl,fun h=>by cases h⟩
   | true =>
    rw[Bool.not_true,cond_false,z64_succ (by omega),bind_in]
    exact .inl ⟨_,rfl,rfl,by omega⟩) (fun x hx=>by
  obtain⟨rfl,hil⟩:=hx
  unfold ladinglaw16_fields.b1 ladinglaw16_fields.j2
  simp only[ltZ_eq]
  rw[un_len,leZ_eq,decide_eq_false (show ¬ (((9:Nat):Int) < 9) by omega)]
  refine⟨false,?_,fun h=>by cases h⟩
  rw[decide_eq_false (show ¬ ((l.length:Int) ≤ 8) by omega)]
  cases decide (((9:Nat):Int) < (l.length:Int)) <;> rfl) (by omega)
noncomputable abbrev ModB (m:GModule):Option Bool:=ladinglaw16_module m.1 m.2.1 (unL m.2.2.1) (unE m.2.2.2.1) m.2.2.2.2.1 m.2.2.2.2.2.1 (unL m.2.2.2.2.2.2.1) (unE m.2.2.2.2.2.2.2.1) (unE m.2.2.2.2.2.2.2.2)
theorem one_exp (f:GFunc):([(f.2.2.2.2.2.1,f.2.2.2.2.2.2.1,f.2.2.2.2.2.2.2.1,f.2.2.2.2.2.2.2.2.1,f.2.2.2.2.2.2.2.2.2.1,f.2.2.2.2.2.2.2.2.2.2)]:List GExp) = unE [bodyE f]:=rfl
theorem module_ok (m:GModule):∃ b,ModB m = some b ∧ (b = true → ShM m):=by
 obtain⟨nm,us,vs,ini,fu,mv,old,fw,bk⟩:=m
 show ∃ b,ladinglaw16_module nm us (unL vs) (unE ini) fu mv (unL old) (unE fw) (unE bk) = some b ∧ _
 unfold ladinglaw16_module
 obtain⟨r1,h1,q1⟩:=loopF_inv (body:=fun x=>ladinglaw16_module.b1 fu x) (fun i x=>x = (i:Int) ∧ i ≤ fu.length ∧ ∀ j (hj:j < fu.length),j < i → fu[j].2.2.1.length ≤ 8 ∧ shE 16 (bodyE fu[j])) (Q:=fun r=>r = .inr false ∨ r = .inl () ∧ (fu.length ≤ 6 → ∀ f ∈ fu,f.2.2.1.length ≤ 8 ∧ shE 16 (bodyE f))) 7 (x:=0) ⟨rfl,by omega,fun j hj h=>absurd h (by omega)⟩ (fun i hi x hx=>by
  obtain⟨rfl,hil,hP⟩:=hx
  unfold ladinglaw16_module.b1 ladinglaw16_module.j2 ladinglaw16_module.j1
  simp only[fu1,fu2,fx1,fxe1,ltZ_eq]
  by_cases hl:i < fu.length
  rotate_left
  ·rw[decide_eq_false (by omega),cond_false,bind_in,cond_false]
   refine .inr ⟨_,rfl,.inr ⟨rfl,fun _ a ha=>?_⟩⟩
   obtain⟨j,hj,rfl⟩:=List.mem_iff_getElem.1 ha
   exact hP j hj (by omega)
  rw[decide_eq_true (show (i:Int) < (fu.length:Int) by omega),cond_true,decide_eq_true (show (i:Int) < 7 by omega),bind_in,cond_true,idx_nat hl,bind_in]
  obtain⟨b1,e1,g1⟩:=fields_ok fu[i].2.2.1
  obtain⟨b2,e2⟩:=light_ok [(fu[i].2.2.2.1.1,fu[i].2.2.2.1.2)] (by simp)
  obtain⟨b3,e3,g3⟩:=exps_ok [bodyE fu[i]]
  rw[e1,bind_in,e2,bind_in,one_exp,e3,bind_in]
  cases b1 with
  | false=>exact .inr ⟨_,rfl,.inl rfl⟩
  | true =>
  cases b2 with
  | false=>exact .inr ⟨_,rfl,.inl rfl⟩
  | true =>
  cases b3 with
  | false=>exact .inr ⟨_,rfl,.inl rfl⟩
  | true =>
  simp only[Bool.not_true,cond_false,bind_in]
  by_cases h60:(60:Int) < (fu[i].1.length:Int)
  ·rw[decide_eq_true h60]; exact .inr ⟨_,rfl,.inl rfl⟩
  ·rw[decide_eq_false h60,cond_false,z64_succ (by omega),bind_in]
   refine .inl ⟨_,rfl,rfl,by omega,fun j hj hji=>?_⟩
   by_cases hje:j = i
   ·subst hje; exact⟨g1 rfl,(g3 rfl).2 _ List.mem_cons_self⟩
   ·exact hP j hj (by omega)) (fun x hx=>by
  obtain⟨rfl,hil,hP⟩:=hx
  unfold ladinglaw16_module.b1 ladinglaw16_module.j2
  simp only[ltZ_eq]
  rw[decide_eq_false (show ¬ (((7:Nat):Int) < 7) by omega)]
  refine⟨.inl (),?_,.inr ⟨rfl,fun h=>by omega⟩⟩
  cases decide (((7:Nat):Int) < (fu.length:Int)) <;> rfl) (by omega)
 rw[h1,bind_in]
 rcases q1 with rfl | ⟨rfl,hf⟩
 ·exact⟨false,rfl,fun h=>by cases h⟩
 dsimp only
 unfold ladinglaw16_module.j3
 obtain⟨b1,e1,g1⟩:=fields_ok vs
 obtain⟨b2,e2,g2⟩:=exps_ok ini
 obtain⟨b3,e3,g3⟩:=fields_ok old
 obtain⟨b4,e4,g4⟩:=exps_ok fw
 obtain⟨b5,e5,g5⟩:=exps_ok bk
 rw[e1,e2,e3,e4,e5]
 simp only[bind_in,leZ_eq]
 by_cases c1:(fu.length:Int) ≤ 6
 rotate_left
 ·rw[decide_eq_false c1]; exact⟨false,rfl,fun h=>by cases h⟩
 rw[decide_eq_true c1,cond_true]
 by_cases c2:(us.length:Int) ≤ 8
 rotate_left
 ·rw[decide_eq_false c2]; exact⟨false,rfl,fun h=>by cases h⟩
 rw[decide_eq_true c2,cond_true]
 cases b1 with
 | false=>exact⟨false,rfl,fun h=>by cases h⟩
 | true =>
 cases b2 with
 | false=>exact⟨false,rfl,fun h=>by cases h⟩
 | true =>
 cases b3 with
 | false=>exact⟨false,rfl,fun h=>by cases h⟩
 | true =>
 cases b4 with
 | false=>exact⟨false,rfl,fun h=>by cases h⟩
 | true =>
 cases b5 with
 | false=>exact⟨false,rfl,fun h=>by cases h⟩
 | true =>
 exact⟨_,rfl,fun _=>⟨by show us.length ≤ 8; omega,g1 rfl,g2 rfl,⟨by show fu.length ≤ 6; omega,hf (by omega)⟩,g3 rfl,g4 rfl,g5 rfl⟩⟩
def ShF (l:List GFace):Prop:=l.length ≤ 4 ∧ ∀ f ∈ l,f.2.length ≤ 6 ∧ ∀ s ∈ f.2,s.2.1.length ≤ 8
theorem seen_ok (l:List GFace):∃ b,ladinglaw16_seen l = some b ∧ (b = true → ShF l):=by
 unfold ladinglaw16_seen
 exact loopF_inv (body:=fun x=>ladinglaw16_seen.b2 l x) (fun i x=>x = (i:Int) ∧ i ≤ l.length ∧ ∀ j (hj:j < l.length),j < i → l[j].2.length ≤ 6 ∧ ∀ s ∈ l[j].2,s.2.1.length ≤ 8) (Q:=fun b=>b = true → ShF l) 5 (x:=0) ⟨rfl,by omega,fun j hj h=>absurd h (by omega)⟩ (fun i hi x hx=>by
  obtain⟨rfl,hil,hP⟩:=hx
  unfold ladinglaw16_seen.b2 ladinglaw16_seen.j4 ladinglaw16_seen.j3
  simp only[ltZ_eq]
  by_cases hl:i < l.length
  rotate_left
  ·rw[decide_eq_false (by omega),cond_false,bind_in,cond_false]
   refine .inr ⟨_,rfl,fun h=>?_⟩
   rw[leZ_eq,decide_eq_true_eq] at h
   refine⟨by omega,fun a ha=>?_⟩
   obtain⟨j,hj,rfl⟩:=List.mem_iff_getElem.1 ha
   exact hP j hj (by omega)
  rw[decide_eq_true (show (i:Int) < (l.length:Int) by omega),cond_true,decide_eq_true (show (i:Int) < 5 by omega),bind_in,cond_true]
  obtain⟨r,hr,hq⟩:=loopF_inv (body:=fun x=>ladinglaw16_seen.b1 l (i:Int) x) (fun k x=>x = (k:Int) ∧ k ≤ l[i].2.length ∧ ∀ j (hj:j < l[i].2.length),j < k → l[i].2[j].2.1.length ≤ 8) (Q:=fun r=>r = .inr (.inr false) ∨ r = .inl () ∧ (l[i].2.length ≤ 6 → ∀ s ∈ l[i].2,s.2.1.length ≤ 8)) 7 (x:=0) ⟨rfl,by omega,fun j hj h=>absurd h (by omega)⟩ (fun k hk x hx=>by
   obtain⟨rfl,hkl,hR⟩:=hx
   unfold ladinglaw16_seen.b1 ladinglaw16_seen.j2 ladinglaw16_seen.j1
   simp only[fx1,ltZ_eq]
   rw[idx_nat hl,bind_in,bind_in]
   by_cases hkk:k < l[i].2.length
   rotate_left
   ·rw[decide_eq_false (by omega),cond_false,bind_in,cond_false]
    refine .inr ⟨_,rfl,.inr ⟨rfl,fun _ a ha=>?_⟩⟩
    obtain⟨j,hj,rfl⟩:=List.mem_iff_getElem.1 ha
    exact hR j hj (by omega)
   rw[decide_eq_true (show (k:Int) < (l[i].2.length:Int) by omega),cond_true,decide_eq_true (show (k:Int) < 7 by omega),bind_in,cond_true,idx_nat hkk,bind_in]
   by_cases h8:(8:Int) < (l[i].2[k].2.1.length:Int)
   ·rw[decide_eq_true h8]; exact .inr ⟨_,rfl,.inl rfl⟩
   rw[decide_eq_false h8,cond_false]
   obtain⟨b1,e1⟩:=light_ok l[i].2[k].2.1 (by omega)
   obtain⟨b2,e2⟩:=light_ok [(l[i].2[k].2.2.1.1,l[i].2[k].2.2.1.2)] (by simp)
   rw[e1,bind_in,e2,bind_in]
   cases b1 with
   | false=>exact .inr ⟨_,rfl,.inl rfl⟩
   | true =>
   cases b2 with
   | false=>exact .inr ⟨_,rfl,.inl rfl⟩
   | true =>
    simp only[Bool.not_true,cond_false,bind_in]
    rw[z64_succ (by omega),bind_in]
    refine .inl ⟨_,rfl,rfl,by omega,fun j hj hjk=>?_⟩
    by_cases hje:j = k
    ·subst hje; omega
    ·exact hR j hj (by omega)) (fun x hx=>by
   obtain⟨rfl,hkl,hR⟩:=hx
   unfold ladinglaw16_seen.b1 ladinglaw16_seen.j2
   simp only[ltZ_eq]
   rw[idx_nat hl,bind_in,decide_eq_false (show ¬ (((7:Nat):Int) < 7) by omega)]
   refine⟨.inl (),?_,.inr ⟨rfl,fun h=>by omega⟩⟩
   cases decide (((7:Nat):Int) < (l[i].2.length:Int)) <;> rfl) (by omega)
  rw[hr,bind_in]
  rcases hq with rfl | ⟨rfl,hq⟩
  ·exact .inr ⟨_,rfl,fun h=>by cases h⟩
  dsimp only
  rw[idx_nat hl,bind_in]
  by_cases h6:(6:Int) < (l[i].2.length:Int)
  ·rw[decide_eq_true h6]; exact .inr ⟨_,rfl,fun h=>by cases h⟩
  ·rw[decide_eq_false h6,cond_false,z64_succ (by omega),bind_in]
   refine .inl ⟨_,rfl,rfl,by omega,fun j hj hji=>?_⟩
   by_cases hje:j = i
   ·subst hje; exact⟨by omega,hq (by omega)⟩
   ·exact hP j hj (by omega)) (fun x hx=>by
  obtain⟨rfl,hil,hP⟩:=hx
  unfold ladinglaw16_seen.b2 ladinglaw16_seen.j4
  simp only[ltZ_eq]
  rw[leZ_eq,decide_eq_false (show ¬ (((5:Nat):Int) < 5) by omega)]
  refine⟨false,?_,fun h=>by cases h⟩
  rw[decide_eq_false (show ¬ ((l.length:Int) ≤ 4) by omega)]
  cases decide (((5:Nat):Int) < (l.length:Int)) <;> rfl) (by omega)
end Go.Proofs.Ytaocfjifacnokaa
namespace Go.Proofs.Ytaocfjifacnokaa
open Go.Lad
def goL {α β:Type} (f:Nat → α → Option (Option β)) (e:Option β):Nat → List α → Option β
 | _,[]=>e
 | k,x :: r=>match f k x with
  | none=>none
  | some none=>goL f e (k + 1) r
  | some (some b)=>some b
theorem loop_go {α τ β:Type} {body:τ → Option (τ ⊕ β)} (S:Nat → τ) (l:List α) (f:Nat → α → Option (Option β)) (e:Option β)
  (h:∀ k (hk:k < l.length),body (S k) = match f k l[k] with | none=>none | some none=>some (.inl (S (k + 1))) | some (some b)=>some (.inr b))
  (hd:body (S l.length) = e.map .inr) (hn:l.length < 1606938044258990275541962092341162602522202993782792835301376):loopF body (S 0) = goL f e 0 l:=by
 have:∀ (r:List α) (k n:Nat),r = l.drop k → k ≤ l.length → r.length < n → iterM body n (S k) = goL f e k r:=by
  intro r
  induction r with
  | nil =>
   intro k n hr hk hn
   have:k = l.length:=by
    have:=congrArg List.length hr
    simp at this; omega
   subst this
   obtain⟨m,rfl⟩:∃ m,n = m + 1:=⟨n - 1,by simp at hn; omega⟩
   unfold iterM goL
   rw[hd]
   cases e <;> rfl
  | cons x r ih =>
   intro k n hr hk hn
   have hkl:k < l.length:=by
    have:=congrArg List.length hr
    simp at this; omega
   have hx:l[k] = x ∧ r = l.drop (k + 1):=by
    rw[List.drop_eq_getElem_cons hkl] at hr
    injection hr with h1 h2
    exact⟨h1.symm,h2⟩
   obtain⟨m,rfl⟩:∃ m,n = m + 1:=⟨n - 1,by simp at hn; omega⟩
   have hb:=h k hkl
   rw[hx.1] at hb
   unfold iterM goL
   rw[hb]
   cases hf:f k x with
   | none=>rfl
   | some o =>
    cases o with
    | none=>exact ih (k + 1) m hx.2 hkl (by simp at hn; omega)
    | some b=>rfl
 exact this l 0 bigFuel.n rfl (Nat.zero_le _) (by show l.length < 1606938044258990275541962092341162602522202993782792835301376; exact hn)
theorem goL_req {α β:Type} (t:α → Bool) (e:Option β):∀ (l:List α) (k:Nat),goL (fun _ x=>if t x = true then some none else none) e k l = if l.all t = true then e else none
 | [],_=>rfl
 | x :: r,k=>by
  unfold goL
  rw[List.all_cons]
  cases t x with
  | true=>simpa using goL_req t e r (k + 1)
  | false=>rfl
theorem goL_bad {α β:Type} (t:α → Bool) (e:Option β) (b:β):∀ (l:List α) (k:Nat),goL (fun _ x=>if t x = true then some none else some (some b)) e k l = if l.all t = true then e else some b
 | [],_=>rfl
 | x :: r,k=>by
  unfold goL
  rw[List.all_cons]
  cases t x with
  | true=>simpa using goL_bad t e b r (k + 1)
  | false=>rfl
noncomputable def sigB (s:GSig):Bool:=rightS 4 s.2.2.1.1 s.2.2.1.2 && s.2.1.all fun t=>rightS 4 t.1 t.2
noncomputable def faceB (f:GFace):Bool:=f.2.all sigB
noncomputable def facesB (l:List GFace):Bool:=l.all faceB
def addF (p:List (Bs × GFace)) (f:GFace):List (Bs × GFace):=if (lookM p f.1).isSome = true then p else putM p f.1 f
def facesM (l:List GFace):List (Bs × GFace):=l.foldl addF []
theorem rights_ok (l:List GType) (hl:l.length ≤ 1000):slices_ContainsFunc_api_Type_api_Type l = some (!l.all fun t=>rightS 4 t.1 t.2):=by
 unfold slices_ContainsFunc_api_Type_api_Type slices_IndexFunc_api_Type_api_Type
 rw[loop_idx l (fun t=>!rightS 4 t.1 t.2) (fun i hi=>by
  unfold slices_IndexFunc_api_Type_api_Type.b1 types_newJudge_1
  simp only[fu1,fu2]
  rw[ltZ_eq,decide_eq_true (by omega),cond_true,idx_nat hi,bind_in,right_ok,bind_in,bind_in,z64_succ (by omega)]
  cases (!rightS 4 l[i].1 l[i].2) <;> rfl) (by
  unfold slices_IndexFunc_api_Type_api_Type.b1
  rw[ltZ_eq,decide_eq_false (by omega),cond_false]) (by omega),bind_in,leZ_eq,idxN_any]
 congr 1
 clear hl
 induction l with
 | nil=>rfl
 | cons x r ih=>rw[List.any_cons,List.all_cons,Bool.not_and,ih]
theorem locals_ok (l:List FieldT) (hl:l.length ≤ 1000):slices_ContainsFunc_api_Field_api_Field (unL l) = some (!l.all fun f=>rightS 4 f.kd f.fs):=by
 unfold slices_ContainsFunc_api_Field_api_Field slices_IndexFunc_api_Field_api_Field
 rw[loop_idx l (fun f=>!rightS 4 f.kd f.fs) (fun i hi=>by
  unfold slices_IndexFunc_api_Field_api_Field.b1 types_TypeOf_1
  simp only[fu1,fu2]
  rw[un_len,ltZ_eq,decide_eq_true (by omega),cond_true,idx_un hi,bind_in,right_ok,bind_in,bind_in,z64_succ (by omega)]
  cases (!rightS 4 l[i].kd l[i].fs) <;> rfl) (by
  unfold slices_IndexFunc_api_Field_api_Field.b1
  rw[un_len,ltZ_eq,decide_eq_false (by omega),cond_false]) (by omega),bind_in,leZ_eq,idxN_any]
 congr 1
 clear hl
 induction l with
 | nil=>rfl
 | cons x r ih=>rw[List.any_cons,List.all_cons,Bool.not_and,ih]
theorem add_end (p:List (Bs × GFace)) (f:GFace):addF p f = if (lookM p f.1).isSome = true then p else putM p f.1 f:=rfl
theorem faces_step (l:List GFace) {i:Nat} (hi:i < l.length):facesM (l.take (i + 1)) = addF (facesM (l.take i)) l[i]:=by
 unfold facesM
 rw[take_succ hi,List.foldl_append]; rfl
theorem judge_ok (nm:Bs) (us:List Bs) (vs:List GField) (ini:List GExp) (fu:List GFunc) (mv:Bool) (old:List GField) (fw bk:List GExp) (l:List GFace) (hs:ShF l) :
  types_newJudge nm us vs ini fu mv old fw bk l = if facesB l = true then some (nm,us,vs,ini,fu,mv,old,fw,bk,0,facesM l) else none:=by
 obtain⟨hl,hs⟩:=hs
 unfold types_newJudge
 refine (loop_go (body:=fun x:Int × Bs × List Bs × List GField × List GExp × List GFunc × Bool × List GField × List GExp × List GExp × Int × List (Bs × GFace)=>types_newJudge.b2 l x.1 x.2.1 x.2.2.1 x.2.2.2.1 x.2.2.2.2.1 x.2.2.2.2.2.1 x.2.2.2.2.2.2.1 x.2.2.2.2.2.2.2.1 x.2.2.2.2.2.2.2.2.1 x.2.2.2.2.2.2.2.2.2.1 x.2.2.2.2.2.2.2.2.2.2.1 x.2.2.2.2.2.2.2.2.2.2.2)
  (fun i=>((i:Int),nm,us,vs,ini,fu,mv,old,fw,bk,0,facesM (l.take i))) l (fun _ x=>if faceB x = true then some none else none) (some (nm,us,vs,ini,fu,mv,old,fw,bk,0,facesM l)) (fun i hi=>?_) ?_ (by omega)).trans (goL_req _ _ _ _)
 ·obtain⟨hs1,hs2⟩:=hs _ (List.getElem_mem hi)
  have hin:loopF (fun x=>types_newJudge.b1 l[i] x) 0 = if faceB l[i] = true then some (.inl ()) else none:=by
   refine (loop_go (body:=fun x=>types_newJudge.b1 l[i] x) (fun k=>(k:Int)) l[i].2 (fun _ x=>if sigB x = true then some none else none) (some (.inl ())) (fun k hk=>?_) ?_ (by omega)).trans (goL_req _ _ _ _)
   ·unfold types_newJudge.b1 types_newJudge.j1
    simp only[fu1,fu2]
    rw[ltZ_eq,decide_eq_true (by omega),cond_true,idx_nat hk,bind_in,right_ok,bind_in,rights_ok _ (by have:=hs2 _ (List.getElem_mem hk); omega),z64_succ (by omega)]
    simp only[bind_in]
    unfold sigB
    cases rightS 4 l[i].2[k].2.2.1.1 l[i].2[k].2.2.1.2 with
    | false=>rfl
    | true=>cases (l[i].2[k].2.1.all fun t=>rightS 4 t.1 t.2) <;> rfl
   ·unfold types_newJudge.b1
    rw[ltZ_eq,decide_eq_false (by omega),cond_false]; rfl
  unfold types_newJudge.b2
  rw[ltZ_eq,decide_eq_true (by omega),cond_true,idx_nat hi,bind_in,hin]
  cases hb:faceB l[i] with
  | false=>rfl
  | true =>
   rw[if_pos rfl,if_pos rfl,bind_in]
   dsimp only
   unfold types_newJudge.j2
   rw[z64_succ (by omega),faces_step l hi,add_end]
   simp only[bind_in]
   cases hlk:(lookM (facesM (l.take i)) l[i].1).isSome <;> rfl
 ·unfold types_newJudge.b2
  rw[ltZ_eq,decide_eq_false (by omega),cond_false,List.take_length]; rfl
theorem judge2_ok (nm:Bs) (us:List Bs) (vs:List GField) (ini:List GExp) (fu:List GFunc) (mv:Bool) (old:List GField) (fw bk:List GExp) (l:List GFace) (hs:ShF l) :
  types_newJudge_v2 nm us vs ini fu mv old fw bk l = if facesB l = true then none else some ():=by
 obtain⟨hl,hs⟩:=hs
 unfold types_newJudge_v2
 refine (loop_go (body:=fun x:Int × Bs × List Bs × List GField × List GExp × List GFunc × Bool × List GField × List GExp × List GExp × Int × List (Bs × GFace)=>types_newJudge_v2.b2 l x.1 x.2.1 x.2.2.1 x.2.2.2.1 x.2.2.2.2.1 x.2.2.2.2.2.1 x.2.2.2.2.2.2.1 x.2.2.2.2.2.2.2.1 x.2.2.2.2.2.2.2.2.1 x.2.2.2.2.2.2.2.2.2.1 x.2.2.2.2.2.2.2.2.2.2.1 x.2.2.2.2.2.2.2.2.2.2.2)
  (fun i=>((i:Int),nm,us,vs,ini,fu,mv,old,fw,bk,0,facesM (l.take i))) l (fun _ x=>if faceB x = true then some none else some (some ())) none (fun i hi=>?_) ?_ (by omega)).trans (goL_bad _ _ _ _ _)
 ·obtain⟨hs1,hs2⟩:=hs _ (List.getElem_mem hi)
  have hin:loopF (fun x=>types_newJudge_v2.b1 l[i] x) 0 = if faceB l[i] = true then some (.inl ()) else some (.inr (.inr ())):=by
   refine (loop_go (body:=fun x=>types_newJudge_v2.b1 l[i] x) (fun k=>(k:Int)) l[i].2 (fun _ x=>if sigB x = true then some none else some (some (.inr (.inr ())))) (some (.inl ())) (fun k hk=>?_) ?_ (by omega)).trans (goL_bad _ _ _ _ _)
   ·unfold types_newJudge_v2.b1 types_newJudge_v2.j1
    simp only[fu1,fu2]
    rw[ltZ_eq,decide_eq_true (by omega),cond_true,idx_nat hk,bind_in,right_ok,bind_in,rights_ok _ (by have:=hs2 _ (List.getElem_mem hk); omega),z64_succ (by omega)]
    simp only[bind_in]
    unfold sigB
    cases rightS 4 l[i].2[k].2.2.1.1 l[i].2[k].2.2.1.2 with
    | false=>rfl
    | true=>cases (l[i].2[k].2.1.all fun t=>rightS 4 t.1 t.2) <;> rfl
   ·unfold types_newJudge_v2.b1
    rw[ltZ_eq,decide_eq_false (by omega),cond_false]; rfl
  unfold types_newJudge_v2.b2
  rw[ltZ_eq,decide_eq_true (by omega),cond_true,idx_nat hi,bind_in,hin]
  cases hb:faceB l[i] with
  | false=>rfl
  | true =>
   rw[if_pos rfl,if_pos rfl,bind_in]
   dsimp only
   unfold types_newJudge_v2.j2
   rw[z64_succ (by omega),faces_step l hi,add_end]
   simp only[bind_in]
   cases hlk:(lookM (facesM (l.take i)) l[i].1).isSome <;> rfl
 ·unfold types_newJudge_v2.b2
  rw[ltZ_eq,decide_eq_false (by omega),cond_false]
theorem look_val {α β:Type} [DecidableEq α] {m:List (α × β)} {x:α} {y:β} (h:lookM m x = some y):∃ p ∈ m,p.2 = y:=by
 unfold lookM at h
 rw[Option.bind_eq_some_iff] at h
 obtain⟨i,_,h⟩:=h
 rw[Option.map_eq_some_iff] at h
 obtain⟨p,hp,rfl⟩:=h
 exact⟨p,List.mem_of_getElem? hp,rfl⟩
theorem put_mem {α β:Type} [DecidableEq α] {m:List (α × β)} {x:α} {y:β} {p:α × β} (h:p ∈ putM m x y):p ∈ m ∨ p = (x,y):=by
 unfold putM at h
 split at h
 ·rcases List.mem_or_eq_of_mem_set h with h | h
  ·exact .inl h
  ·exact .inr h
 ·rcases List.mem_append.1 h with h | h
  ·exact .inl h
  ·exact .inr (List.mem_singleton.1 h)
theorem facesM_mem (l:List GFace):∀ p ∈ facesM l,p.2 ∈ l:=by
 have:∀ (r:List GFace) (m:List (Bs × GFace)),(∀ p ∈ m,p.2 ∈ l) → (∀ f ∈ r,f ∈ l) → ∀ p ∈ r.foldl addF m,p.2 ∈ l:=by
  intro r
  induction r with
  | nil=>intro m hm _ p hp; exact hm p hp
  | cons f r ih =>
   intro m hm hr p hp
   refine ih (addF m f) (fun q hq=>?_) (fun f hf=>hr f (List.mem_cons_of_mem _ hf)) p hp
   unfold addF at hq
   split at hq
   ·exact hm q hq
   ·rcases put_mem hq with hq | rfl
    ·exact hm q hq
    ·exact hr f List.mem_cons_self
 exact this l [] (fun p hp=>by cases hp) fun f hf=>hf
def cxM (m:GModule) (faces:List GFace):Cx:=⟨m.2.2.1,m.2.2.2.2.1,m.2.1,lookM (facesM faces)⟩
theorem sig_okL {s:GSig} (h:sigB s = true):(∀ t ∈ s.2.1,okL 4 t.2) ∧ okL 4 s.2.2.1.2:=by
 unfold sigB at h
 rw[Bool.and_eq_true,List.all_eq_true] at h
 exact⟨fun t ht=>right_okL (h.2 t ht),right_okL h.1⟩
theorem okC_of {m:GModule} {faces:List GFace} (hm:ShM m) (hf:ShF faces) (ho:OkM m) (hb:facesB faces = true):OkC (cxM m faces) where
 vars:=fun f hf=>right_okL (ho.vars f hf).2
 flen:=Nat.le_trans hm.funcs.1 (by omega)
 funcs:=fun f hf=>⟨Nat.le_trans (hm.funcs.2 f hf).1 (by omega),fun p hp=>right_okL ((ho.funcs f hf).2.1 p hp).2,right_okL (ho.funcs f hf).2.2.1⟩
 ulen:=Nat.le_trans hm.uses (by omega)
 look:=fun x face h=>by
  obtain⟨p,hp,e⟩:=look_val h
  have hmem:face ∈ faces:=by rw[← e]; exact facesM_mem faces p hp
  refine⟨Nat.le_trans (hf.2 face hmem).1 (by omega),fun g hg=>sig_okL ?_⟩
  unfold facesB at hb
  rw[List.all_eq_true] at hb
  have:=hb face hmem
  unfold faceB at this
  rw[List.all_eq_true] at this
  exact this g hg
noncomputable def localsB (L:List FieldT):Bool:=L.all fun f=>rightS 4 f.kd f.fs
noncomputable def rightB (m:GModule):Bool:=(RightM m).getD false
theorem rightB_ok {m:GModule} (hm:ShM m):RightM m = some (rightB m) ∧ (rightB m = true → OkM m):=by
 obtain⟨b,hb,hb2⟩:=rightM_ok m hm
 unfold rightB
 rw[hb]
 exact⟨rfl,hb2⟩
noncomputable def argB (m:GModule) (faces:List GFace) (L:List FieldT) (e:ExpT):Bool:=localsB L && (rexpB e && (rightB m && facesB faces))
noncomputable def typeOfS (m:GModule) (faces:List GFace) (L:List FieldT) (e:ExpT):GType × Int × Int :=
 if argB m faces L e = true then (if (findS (cxM m faces) 12 L 0 e).2.1 = 0 then ((findS (cxM m faces) 12 L 0 e).1,(findS (cxM m faces) 12 L 0 e).2.2,0) else ((0,[]),0,(findS (cxM m faces) 12 L 0 e).2.1))
 else ((0,[]),0,1)
noncomputable abbrev TypeOfM (m:GModule) (faces:List GFace) (L:List FieldT) (e:ExpT):Option (GType × Int × Int) :=
 types_TypeOf_v2 m.1 m.2.1 (unL m.2.2.1) (unE m.2.2.2.1) m.2.2.2.2.1 m.2.2.2.2.2.1 (unL m.2.2.2.2.2.2.1) (unE m.2.2.2.2.2.2.2.1) (unE m.2.2.2.2.2.2.2.2) faces (unL L) e.op e.n e.s e.m e.names (unE e.args)
theorem locals_okL {L:List FieldT} (h:localsB L = true):∀ f ∈ L,okL 4 f.fs:=fun f hf=>by
 unfold localsB at h
 rw[List.all_eq_true] at h
 exact right_okL (h f hf)
theorem find_ok {m:GModule} {faces:List GFace} {L:List FieldT} {e:ExpT} (hm:ShM m) (hf:ShF faces) (hL:L.length ≤ 1000) (hr:rightB m = true) (hb:facesB faces = true) (hl:localsB L = true) (he:okE 12 e) (nm:Bs) (ini:List GExp) (mv:Bool) (old:List GField) (fw bk:List GExp) :
  types_judge_find (unL L) e.op e.n e.s e.m e.names (unE e.args) nm m.2.1 (unL m.2.2.1) ini m.2.2.2.2.1 mv old fw bk 0 (facesM faces) =
   some ((findS (cxM m faces) 12 L 0 e).1,(findS (cxM m faces) 12 L 0 e).2.1,nm,m.2.1,unL m.2.2.1,ini,m.2.2.2.2.1,mv,old,fw,bk,(findS (cxM m faces) 12 L 0 e).2.2,facesM faces) :=
 find_rec (okC_of hm hf ((rightB_ok hm).2 hr) hb) nm ini mv old fw bk (facesM faces) rfl 12 bigFuel.n 4 L 0 e (by omega) (fuel_big (by omega)) (by omega) (by omega) he (locals_okL hl) (by omega)
theorem find_type {C:Cx} (hC:OkC C) {L:List FieldT} {e:ExpT} (hl:localsB L = true) (he:okE 12 e):okL 4100 (findS C 12 L 0 e).1.2:=okL_le (by omega) (find_okL hC 12 4 L 0 e (by omega) he (locals_okL hl))
theorem typeOf_ok {m:GModule} {faces:List GFace} {L:List FieldT} {e:ExpT} (hm:ShM m) (hf:ShF faces) (hL:L.length ≤ 1000) (he:shE 16 e):TypeOfM m faces L e = some (typeOfS m faces L e):=by
 show types_TypeOf_v2 m.1 m.2.1 (unL m.2.2.1) (unE m.2.2.2.1) m.2.2.2.2.1 m.2.2.2.2.2.1 (unL m.2.2.2.2.2.2.1) (unE m.2.2.2.2.2.2.2.1) (unE m.2.2.2.2.2.2.2.2) faces (unL L) e.op e.n e.s e.m e.names (unE e.args) = _
 unfold types_TypeOf_v2 typeOfS argB
 have h1:slices_ContainsFunc_api_Field_api_Field (unL L) = some (!localsB L):=locals_ok L hL
 have h2:=(rexp_ok he).1
 have h3:syntax_Right m.1 m.2.1 (unL m.2.2.1) (unE m.2.2.2.1) m.2.2.2.2.1 m.2.2.2.2.2.1 (unL m.2.2.2.2.2.2.1) (unE m.2.2.2.2.2.2.2.1) (unE m.2.2.2.2.2.2.2.2) = some (rightB m):=(rightB_ok hm).1
 rw[h1,bind_in,h2,h3]
 simp only[bind_in]
 cases hl:localsB L with
 | false=>rfl
 | true =>
 cases hre:rexpB e with
 | false=>rfl
 | true =>
 cases hrm:rightB m with
 | false=>rfl
 | true =>
 unfold types_TypeOf_v2.j1
 simp only[Bool.not_true,cond_false,bind_in,Bool.true_and]
 rw[judge_ok _ _ _ _ _ _ _ _ _ _ hf,judge2_ok _ _ _ _ _ _ _ _ _ _ hf]
 cases hfb:facesB faces with
 | false=>rfl
 | true =>
 rw[if_pos rfl,if_pos rfl,if_pos rfl,bind_in]
 have hfi:=find_ok hm hf hL hrm hfb hl ((rexp_ok he).2 hre) m.1 (unE m.2.2.2.1) m.2.2.2.2.2.1 (unL m.2.2.2.2.2.2.1) (unE m.2.2.2.2.2.2.2.1) (unE m.2.2.2.2.2.2.2.2)
 dsimp only
 rw[hfi,bind_in]
 dsimp only
 rw[eqZ_eq]
 by_cases h0:(findS (cxM m faces) 12 L 0 e).2.1 = 0
 ·rw[decide_eq_true h0,if_pos h0,Bool.not_true,cond_false]
  simp only[fu1,fu2,fx1]
  rw[fresh_ok (d:=4100) (by omega) _ _ (find_type (okC_of hm hf ((rightB_ok hm).2 hrm) hfb) hl ((rexp_ok he).2 hre)),bind_in]; rfl
 ·rw[decide_eq_false h0,if_neg h0]; rfl
theorem look_take {l:List FieldT} {k:Nat} (hk:k < l.length) (n:Bs):lookF (l.take (k + 1)) n = if l[k].nm = n then some l[k] else lookF (l.take k) n:=by
 rw[take_succ hk]
 unfold lookF
 rw[lastOf_snoc]
 by_cases h:l[k].nm = n <;> simp [h]
def belR (al:List FieldT) (f:FieldT):Bool:=match lookF al f.nm with | some g=>decide (g.kd = f.kd) && belL f.fs g.fs | none=>false
theorem lbelow_rec:∀ (d n q:Nat) (k:Int) (al:List FieldT) (k':Int) (bl:List FieldT),okL d bl → okL q al → d < n → ladinglaw16_below.rec n k (unL al) k' (unL bl) = some (decide (k = k') && belL bl al)
 | d,0,_,_,_,_,_,_,_,h=>absurd h (by omega)
 | d,n + 1,q,k,al,k',bl,hb,ha,hn=>by
  show ladinglaw16_below.body (ladinglaw16_below.rec n) k (unL al) k' (unL bl) = _
  unfold ladinglaw16_below.body
  rw[eqZ_eq]
  by_cases hk:k = k'
  rotate_left
  ·rw[decide_eq_false hk]; rfl
  rw[decide_eq_true hk,Bool.not_true,cond_false,Bool.true_and]
  have hlb:=okL_len hb
  have hla:=okL_len ha
  rw[loop_all bl (fun _ f=>belF f al) (fun i hi=>?_) ?_ (by omega),allI_all,belL_all]
  ·unfold ladinglaw16_below.b2
   rw[un_len,ltZ_eq,decide_eq_false (by omega),cond_false]
  ·obtain⟨e,he,hok⟩:=okL_mem hb hn (List.getElem_mem hi)
   have hin:loopF (fun x=>ladinglaw16_below.b1 (ladinglaw16_below.rec n) (unL al) (unL bl) (i:Int) x.1 x.2) (false,0) = some (belR al bl[i]):=by
    refine loopF_at (x:=(false,0)) (b:=belR al bl[i]) (fun j=>(belR (al.take j) bl[i],(j:Int))) al.length (by rw[List.take_zero]; rfl) (fun j hj=>?_) ?_ (by omega)
    ·unfold ladinglaw16_below.b1
     simp only[fu1,fu2]
     rw[un_len,ltZ_eq,decide_eq_true (by omega),cond_true,idx_un hj,bind_in,idx_un hi,bind_in,z64_succ (by omega)]
     unfold belR
     rw[look_take hj]
     by_cases hnm:al[j].nm = bl[i].nm
     ·have hoka:∃ q',okL q' al[j].fs:=by
       cases q with
       | zero=>have h0:al = []:=ha; subst h0; simp at hj
       | succ q=>exact⟨q,ha.2 _ (List.getElem_mem hj)⟩
      obtain⟨q',hq'⟩:=hoka
      have hr:=lbelow_rec e n q' al[j].kd al[j].fs bl[i].kd bl[i].fs hok hq' he
      rw[decide_eq_true hnm,cond_true,if_pos hnm]
      simp only[hr,bind_in]
     ·rw[decide_eq_false hnm,cond_false,if_neg hnm,bind_in]
    ·unfold ladinglaw16_below.b1
     simp only[ltZ_eq]
     rw[un_len,decide_eq_false (by omega),cond_false,List.take_length]
   unfold ladinglaw16_below.b2 ladinglaw16_below.j1
   rw[un_len,ltZ_eq,decide_eq_true (by omega),cond_true,hin,bind_in,z64_succ (by omega),belF_eq]
   show _ = some (if belR al bl[i] = true then _ else _)
   cases belR al bl[i] <;> rfl
theorem lbelow_ok {d q:Nat} (hd:d ≤ 1000000) (k:Int) (al:List FieldT) (k':Int) (bl:List FieldT) (hb:okL d bl) (ha:okL q al):ladinglaw16_below k (unL al) k' (unL bl) = some (decide (k = k') && belL bl al):=lbelow_rec d _ q k al k' bl hb ha (fuel_big hd)
end Go.Proofs.Ytaocfjifacnokaa
namespace Go.Proofs.Ytaocfjifacnokaa
open Go.Lad
def cx0:Cx:=⟨[],[],[],fun _=>none⟩
theorem okC0:OkC cx0 where
 vars:=fun f hf=>by cases hf
 flen:=by simp [cx0]
 funcs:=fun f hf=>by cases hf
 ulen:=by simp [cx0]
 look:=fun x face h=>by cases h
def pureS (L:List FieldT) (e:ExpT) (w:GType):Int :=
 if (findS cx0 12 L 0 e).2.1 = 0 then (if (findS cx0 12 L 0 e).2.2 = 0 then (if subB (findS cx0 12 L 0 e).1 w = true then 0 else 13) else 14) else (findS cx0 12 L 0 e).2.1
theorem pure_ok (nm:Bs) {L:List FieldT} {e:ExpT} {k:Int} {l:List FieldT} (hL:L.length ≤ 1000) (hl:localsB L = true) (he:okE 12 e) (hw:okL 4 l):types_pure nm (unL L) e.op e.n e.s e.m e.names (unE e.args) k (unL l) = some (pureS L e (k,l)):=by
 unfold types_pure pureS types_judge_find_v2
 rw[find_v2_rec okC0 rfl nm false 12 bigFuel.n 4 L 0 e (by omega) (fuel_big (by omega)) (by omega) (by omega) he (locals_okL hl) (by omega),bind_in]
 dsimp only
 rw[eqZ_eq,eqZ_eq]
 by_cases h0:(findS cx0 12 L 0 e).2.1 = 0
 rotate_left
 ·rw[decide_eq_false h0,if_neg h0]; rfl
 rw[decide_eq_true h0,if_pos h0,Bool.not_true,cond_false]
 by_cases h1:(findS cx0 12 L 0 e).2.2 = 0
 rotate_left
 ·rw[decide_eq_false h1,if_neg h1]; rfl
 rw[decide_eq_true h1,if_pos h1,Bool.not_true,cond_false]
 simp only[fu1,fu2]
 rw[below_ok (d:=4) (by omega) _ _ _ _ hw,bind_in]
 unfold subB
 cases (decide ((findS cx0 12 L 0 e).1.1 = k) && belL l (findS cx0 12 L 0 e).1.2) <;> rfl
theorem scan_map {α β γ:Type} (g:Nat → α → Option β) (h:β → γ):∀ (l:List α) (k:Nat),scan (fun k x=>(g k x).map h) k l = (scan g k l).map h
 | [],_=>rfl
 | x :: r,k=>by
  unfold scan
  cases g k x with
  | some b=>rfl
  | none=>exact scan_map g h r (k + 1)
def badG (vs:List FieldT) (es:List ExpT) (L:List FieldT) (k:Nat) (f:FieldT):Option (Bs × Int):=if pureS L (argE es k) (f.kd,f.fs) = 0 then none else some (f.nm,pureS L (argE es k) (f.kd,f.fs))
def badS (vs:List FieldT) (es:List ExpT) (L:List FieldT):Option (Bs × Int):=scan (badG vs es L) 0 vs
def movesS (m:GModule):Bs × Int :=
 match badS m.2.2.1 m.2.2.2.1 [] with
 | some b=>b
 | none=>if m.2.2.2.2.2.1 = true then (match badS m.2.2.1 m.2.2.2.2.2.2.2.1 m.2.2.2.2.2.2.1 with
   | some b=>b
   | none=>(badS m.2.2.2.2.2.2.1 m.2.2.2.2.2.2.2.2 m.2.2.1).getD ([],0))
  else ([],0)
theorem moves_loop {β:Type} {body:Int → Option (Int ⊕ β)} (nm:Bs) (vs:List FieldT) (es:List ExpT) (L:List FieldT) (inj:Bs × Int → β) (e:β) (hv:vs.length ≤ 1000) (hes:es.length = vs.length) (hL:L.length ≤ 1000) (hl:localsB L = true) (he:∀ a ∈ es,okE 12 a) (hw:∀ f ∈ vs,okL 4 f.fs)
  (h:∀ i (hi:i < vs.length) (hi2:i < es.length),body (i:Int) = (types_pure nm (unL L) es[i].op es[i].n es[i].s es[i].m es[i].names (unE es[i].args) vs[i].kd (unL vs[i].fs)).bind fun p=>bif (!eqZ p 0) then some (.inr (inj (vs[i].nm,p))) else ((z64 ((i:Int) + 1)).bind fun v=>some (.inl v)))
  (hd:body (vs.length:Int) = some (.inr e)):loopF body 0 = some (((badS vs es L).map inj).getD e):=by
 unfold badS
 rw[← scan_map]
 refine loop_scan vs _ e (fun i hi=>?_) hd (by omega)
 rw[h i hi (by omega),pure_ok nm hL hl (he _ (List.getElem_mem _)) (hw _ (List.getElem_mem hi)),bind_in,z64_succ (by omega),eqZ_eq]
 unfold badG
 rw[argE_get (show i < es.length by omega)]
 by_cases h0:pureS L es[i] (vs[i].kd,vs[i].fs) = 0
 ·rw[decide_eq_true h0,if_pos h0]; rfl
 ·rw[decide_eq_false h0,if_neg h0]; rfl
theorem fields_locals {l:List FieldT} (h:∀ f ∈ l,nameB f.nm = true ∧ rightS 4 f.kd f.fs = true):localsB l = true:=by
 unfold localsB
 rw[List.all_eq_true]
 exact fun f hf=>(h f hf).2
theorem moves_ok {m:GModule} (hm:ShM m) (ho:OkM m):types_moves m.1 m.2.1 (unL m.2.2.1) (unE m.2.2.2.1) m.2.2.2.2.1 m.2.2.2.2.2.1 (unL m.2.2.2.2.2.2.1) (unE m.2.2.2.2.2.2.2.1) (unE m.2.2.2.2.2.2.2.2) = some (movesS m):=by
 have hv:=hm.vars
 have hol:=hm.old
 have okE_of:∀ {e:ExpT},shE 16 e → rexpB e = true → okE 12 e:=fun h1 h2=>(rexp_ok h1).2 h2
 have e1:∀ a ∈ m.2.2.2.1,okE 12 a:=fun a ha=>okE_of (hm.init.2 a ha) (ho.init.1 a ha)
 have e2:∀ a ∈ m.2.2.2.2.2.2.2.1,okE 12 a:=fun a ha=>okE_of (hm.fwd.2 a ha) (ho.fwd.1 a ha)
 have e3:∀ a ∈ m.2.2.2.2.2.2.2.2,okE 12 a:=fun a ha=>okE_of (hm.back.2 a ha) (ho.back.1 a ha)
 have w1:∀ f ∈ m.2.2.1,okL 4 f.fs:=fun f hf=>right_okL (ho.vars f hf).2
 have w2:∀ f ∈ m.2.2.2.2.2.2.1,okL 4 f.fs:=fun f hf=>right_okL (ho.old f hf).2
 unfold types_moves movesS
 have l1:=moves_loop (body:=fun x=>types_moves.b1 m.1 (unL m.2.2.1) (unE m.2.2.2.1) x) m.1 m.2.2.1 m.2.2.2.1 [] Sum.inr (Sum.inl ()) (by omega) ho.init.2 (by simp) rfl e1 w1 (fun i hi hi2=>by
  unfold types_moves.b1
  simp only[fu1,fu2,fe1,fe2]
  rw[un_len,ltZ_eq,decide_eq_true (by omega),cond_true,idx_un hi,bind_in,idx_unE hi2,bind_in]; rfl) (by
  unfold types_moves.b1
  rw[un_len,ltZ_eq,decide_eq_false (by omega),cond_false])
 rw[l1,bind_in]
 cases badS m.2.2.1 m.2.2.2.1 [] with
 | some b=>rfl
 | none =>
 dsimp only[Option.map_none,Option.getD_none]
 unfold types_moves.j2
 cases hmv:m.2.2.2.2.2.1 with
 | false=>rfl
 | true =>
 rw[Bool.not_true,cond_false,if_pos rfl]
 have l2:=moves_loop (body:=fun x=>types_moves.b2 m.1 (unL m.2.2.1) (unL m.2.2.2.2.2.2.1) (unE m.2.2.2.2.2.2.2.1) x) m.1 m.2.2.1 m.2.2.2.2.2.2.2.1 m.2.2.2.2.2.2.1 Sum.inr (Sum.inl ()) (by omega) (ho.fwd.2 hmv) (by omega) (fields_locals ho.old) e2 w1 (fun i hi hi2=>by
  unfold types_moves.b2
  simp only[fu1,fu2,fe1,fe2]
  rw[un_len,ltZ_eq,decide_eq_true (by omega),cond_true,idx_un hi,bind_in,idx_unE hi2,bind_in]; rfl) (by
  unfold types_moves.b2
  rw[un_len,ltZ_eq,decide_eq_false (by omega),cond_false])
 rw[l2,bind_in]
 cases badS m.2.2.1 m.2.2.2.2.2.2.2.1 m.2.2.2.2.2.2.1 with
 | some b=>rfl
 | none =>
 dsimp only[Option.map_none,Option.getD_none]
 unfold types_moves.j1
 have l3:=moves_loop (body:=fun x=>types_moves.b3 m.1 (unL m.2.2.1) (unL m.2.2.2.2.2.2.1) (unE m.2.2.2.2.2.2.2.2) x) m.1 m.2.2.2.2.2.2.1 m.2.2.2.2.2.2.2.2 m.2.2.1 id ([],0) (by omega) ho.back.2 (by omega) (fields_locals ho.vars) e3 w2 (fun i hi hi2=>by
  unfold types_moves.b3
  simp only[fu1,fu2,fe1,fe2]
  rw[un_len,ltZ_eq,decide_eq_true (by omega),cond_true,idx_un hi,bind_in,idx_unE hi2,bind_in]; rfl) (by
  unfold types_moves.b3
  rw[un_len,ltZ_eq,decide_eq_false (by omega),cond_false])
 rw[l3]
 cases badS m.2.2.2.2.2.2.1 m.2.2.2.2.2.2.2.2 m.2.2.1 <;> rfl
def usesG (m:GModule) (faces:List GFace) (_:Nat) (u:Bs):Option Bs:=if (!(lookM (facesM faces) u).isSome || decide (u = m.1)) = true then some u else none
noncomputable def funcG (C:Cx) (_:Nat) (f:GFunc):Option (Bs × Int) :=
 if (findS C 12 f.2.2.1 0 (bodyE f)).2.1 = 0 then
  (if subB (findS C 12 f.2.2.1 0 (bodyE f)).1 f.2.2.2.1 = true then (if anI .i64 (findS C 12 f.2.2.1 0 (bodyE f)).2.2 f.2.2.2.2.1 = 0 then none else some (f.1,14)) else some (f.1,13))
 else some (f.1,(findS C 12 f.2.2.1 0 (bodyE f)).2.1)
noncomputable def checkS (m:GModule) (faces:List GFace):Bs × Int :=
 if facesB faces = true then
  (if rightB m = true then
   (match scan (usesG m faces) 0 m.2.1 with
    | some u=>(u,12)
    | none=>if (movesS m).2 = 0 then (scan (funcG (cxM m faces)) 0 m.2.2.2.2.1).getD ([],0) else movesS m)
   else ([],1))
 else ([],1)
theorem runI_scan2 {α σ β:Type} (f:Nat → σ → α → σ ⊕ β) (g:Nat → α → Option β) (e:β) (h:∀ k s x,match g k x with | some b=>f k s x = .inr b | none=>∃ s',f k s x = .inl s'):∀ (l:List α) (k:Nat) (s:σ),runI f (fun _=>e) k s l = (scan g k l).getD e
 | [],_,_=>rfl
 | x :: r,k,s=>by
  unfold runI scan
  have:=h k s x
  cases hg:g k x with
  | some b=>rw[hg] at this; rw[this]; rfl
  | none =>
   rw[hg] at this
   obtain⟨s',hs'⟩:=this
   rw[hs']
   exact runI_scan2 f g e h r (k + 1) s'
noncomputable abbrev CheckM (m:GModule) (faces:List GFace):Option (Bs × Int) :=
 types_Check_v2 m.1 m.2.1 (unL m.2.2.1) (unE m.2.2.2.1) m.2.2.2.2.1 m.2.2.2.2.2.1 (unL m.2.2.2.2.2.2.1) (unE m.2.2.2.2.2.2.2.1) (unE m.2.2.2.2.2.2.2.2) faces
theorem check_ok {m:GModule} {faces:List GFace} (hm:ShM m) (hf:ShF faces):CheckM m faces = some (checkS m faces):=by
 show types_Check_v2 m.1 m.2.1 (unL m.2.2.1) (unE m.2.2.2.1) m.2.2.2.2.1 m.2.2.2.2.2.1 (unL m.2.2.2.2.2.2.1) (unE m.2.2.2.2.2.2.2.1) (unE m.2.2.2.2.2.2.2.2) faces = _
 unfold types_Check_v2 checkS
 rw[judge_ok _ _ _ _ _ _ _ _ _ _ hf,judge2_ok _ _ _ _ _ _ _ _ _ _ hf]
 cases hfb:facesB faces with
 | false=>rfl
 | true =>
 have h3:syntax_Right m.1 m.2.1 (unL m.2.2.1) (unE m.2.2.2.1) m.2.2.2.2.1 m.2.2.2.2.2.1 (unL m.2.2.2.2.2.2.1) (unE m.2.2.2.2.2.2.2.1) (unE m.2.2.2.2.2.2.2.2) = some (rightB m):=(rightB_ok hm).1
 rw[if_pos rfl,if_pos rfl,if_pos rfl,bind_in,h3,bind_in]
 cases hrm:rightB m with
 | false=>rfl
 | true =>
 have ho:=(rightB_ok hm).2 hrm
 rw[Bool.not_true,cond_false,if_pos rfl]
 have hul:=hm.uses
 have hul2:=hm.funcs.1
 have l1:=loop_scan (body:=fun x=>types_Check_v2.b1 m.1 m.2.1 (m.1,m.2.1,unL m.2.2.1,unE m.2.2.2.1,m.2.2.2.2.1,m.2.2.2.2.2.1,unL m.2.2.2.2.2.2.1,unE m.2.2.2.2.2.2.2.1,unE m.2.2.2.2.2.2.2.2,0,facesM faces) x) m.2.1 (fun k u=>(usesG m faces k u).map fun u=>Sum.inr (u,(12:Int))) (Sum.inl ()) (fun i hi=>by
  unfold types_Check_v2.b1 types_Check_v2.j1 usesG
  rw[ltZ_eq,decide_eq_true (by omega),cond_true,idx_nat hi,bind_in,z64_succ (by omega)]
  dsimp only
  cases (lookM (facesM faces) m.2.1[i]).isSome with
  | false=>rfl
  | true=>by_cases h:m.2.1[i] = m.1 <;> simp [h]) (by
  unfold types_Check_v2.b1
  rw[ltZ_eq,decide_eq_false (by omega),cond_false]) (by omega)
 rw[l1,bind_in,scan_map]
 cases hsu:scan (usesG m faces) 0 m.2.1 with
 | some u=>rfl
 | none =>
 dsimp only[Option.map_none,Option.getD_none]
 unfold types_Check_v2.j2
 rw[moves_ok hm ho,bind_in,eqZ_eq]
 by_cases h0:(movesS m).2 = 0
 rotate_left
 ·rw[decide_eq_false h0,if_neg h0]; rfl
 rw[decide_eq_true h0,if_pos h0,Bool.not_true,cond_false]
 dsimp only
 have l2:=loop_run (body:=fun x:Int × Bs × List Bs × List GField × List GExp × List GFunc × Bool × List GField × List GExp × List GExp × Int × List (Bs × GFace)=>types_Check_v2.b2 m.2.2.2.2.1 x.1 x.2.1 x.2.2.1 x.2.2.2.1 x.2.2.2.2.1 x.2.2.2.2.2.1 x.2.2.2.2.2.2.1 x.2.2.2.2.2.2.2.1 x.2.2.2.2.2.2.2.2.1 x.2.2.2.2.2.2.2.2.2.1 x.2.2.2.2.2.2.2.2.2.2.1 x.2.2.2.2.2.2.2.2.2.2.2)
  (mk:=fun k (s:Int)=>((k:Int),m.1,m.2.1,unL m.2.2.1,unE m.2.2.2.1,m.2.2.2.2.1,m.2.2.2.2.2.1,unL m.2.2.2.2.2.2.1,unE m.2.2.2.2.2.2.2.1,unE m.2.2.2.2.2.2.2.2,s,facesM faces)) m.2.2.2.2.1
  (fun k s f=>match funcG (cxM m faces) k f with | some b=>.inr b | none=>.inl (findS (cxM m faces) 12 f.2.2.1 0 (bodyE f)).2.2) (fun _=>(([]:Bs),(0:Int))) (fun _ _=>True) (fun _ _ _ _ _ _=>trivial)
  (fun k hk s _=>by
   obtain⟨hf1,hf2⟩:=hm.funcs.2 _ (List.getElem_mem hk)
   obtain⟨_,g2,g3,g4⟩:=ho.funcs _ (List.getElem_mem hk)
   have hfi:=find_ok (L:=m.2.2.2.2.1[k].2.2.1) (e:=bodyE m.2.2.2.2.1[k]) hm hf (by omega) hrm hfb (fields_locals g2) ((rexp_ok hf2).2 g4) m.1 (unE m.2.2.2.1) m.2.2.2.2.2.1 (unL m.2.2.2.2.2.2.1) (unE m.2.2.2.2.2.2.2.1) (unE m.2.2.2.2.2.2.2.2)
   have hfi:types_judge_find (unL m.2.2.2.2.1[k].2.2.1) m.2.2.2.2.1[k].2.2.2.2.2.1 m.2.2.2.2.1[k].2.2.2.2.2.2.1 m.2.2.2.2.1[k].2.2.2.2.2.2.2.1 m.2.2.2.2.1[k].2.2.2.2.2.2.2.2.1 m.2.2.2.2.1[k].2.2.2.2.2.2.2.2.2.1 (unE m.2.2.2.2.1[k].2.2.2.2.2.2.2.2.2.2) m.1 m.2.1 (unL m.2.2.1) (unE m.2.2.2.1) m.2.2.2.2.1 m.2.2.2.2.2.1 (unL m.2.2.2.2.2.2.1) (unE m.2.2.2.2.2.2.2.1) (unE m.2.2.2.2.2.2.2.2) 0 (facesM faces) = _:=hfi
   unfold types_Check_v2.b2 funcG
   simp only[fu1,fu2,fe1,fe2]
   rw[ltZ_eq,decide_eq_true (by omega),cond_true,idx_nat hk,bind_in,hfi,bind_in]
   dsimp only
   rw[eqZ_eq,eqZ_eq]
   by_cases c0:(findS (cxM m faces) 12 m.2.2.2.2.1[k].2.2.1 0 (bodyE m.2.2.2.2.1[k])).2.1 = 0
   rotate_left
   ·rw[decide_eq_false c0,if_neg c0]; rfl
   rw[decide_eq_true c0,if_pos c0,Bool.not_true,cond_false,below_ok (d:=4) (by omega) _ _ _ _ (right_okL g3),bind_in,z64_succ (by omega)]
   unfold subB
   by_cases c1:(decide ((findS (cxM m faces) 12 m.2.2.2.2.1[k].2.2.1 0 (bodyE m.2.2.2.2.1[k])).1.1 = m.2.2.2.2.1[k].2.2.2.1.1) && belL m.2.2.2.2.1[k].2.2.2.1.2 (findS (cxM m faces) 12 m.2.2.2.2.1[k].2.2.1 0 (bodyE m.2.2.2.2.1[k])).1.2) = true
   rotate_left
   ·rw[if_neg c1]
    rw[Bool.not_eq_true] at c1
    rw[c1]; rfl
   rw[if_pos c1,c1,Bool.not_true,cond_false]
   by_cases c2:anI .i64 (findS (cxM m faces) 12 m.2.2.2.2.1[k].2.2.1 0 (bodyE m.2.2.2.2.1[k])).2.2 m.2.2.2.2.1[k].2.2.2.2.1 = 0
   ·rw[if_pos c2,decide_eq_true c2]; rfl
   ·rw[if_neg c2,decide_eq_false c2]; rfl)
  (fun s _=>by
   unfold types_Check_v2.b2
   rw[ltZ_eq,decide_eq_false (by omega),cond_false]) (by omega) (s0:=0) trivial
 refine Eq.trans (congrArg (fun x=>orT x _) (l2.trans (congrArg some (runI_scan2 _ (funcG (cxM m faces)) ([],0) (fun k s f=>?_) _ _ _)))) rfl
 cases hg:funcG (cxM m faces) k f with
 | some b=>rfl
 | none=>exact⟨_,rfl⟩
end Go.Proofs.Ytaocfjifacnokaa
namespace Go.Proofs.Ytaocfjifacnokaa
open Go.Lad
theorem name_ne {s:Bs} (h:nameB s = true):s ≠ []:=by
 rintro rfl
 have:syntax_Name [] = some false:=by
  unfold syntax_Name lex_Word lex_Word.j1
  rfl
 unfold nameB at h
 rw[this] at h
 cases h
theorem bad_some {vs:List FieldT} {es:List ExpT} {L:List FieldT} {b:Bs × Int} (h:badS vs es L = some b):(∃ f ∈ vs,b.1 = f.nm) ∧ b.2 ≠ 0:=by
 obtain⟨i,hi,h1,_⟩:=scan_some.1 h
 unfold badG at h1
 split at h1
 ·cases h1
 ·rename_i h2
  injection h1 with h1
  subst h1
  exact⟨⟨_,List.getElem_mem hi,rfl⟩,h2⟩
theorem bad_none {vs:List FieldT} {es:List ExpT} {L:List FieldT} (h:badS vs es L = none) (i:Nat) (hi:i < vs.length):pureS L (argE es i) (vs[i].kd,vs[i].fs) = 0:=by
 have:=scan_none.1 h i hi
 unfold badG at this
 rw[Nat.zero_add] at this
 split at this
 ·assumption
 ·cases this
theorem moves_bad {m:GModule} (ho:OkM m) (h:(movesS m).2 ≠ 0):(movesS m).1 ≠ []:=by
 unfold movesS at h ⊢
 cases h1:badS m.2.2.1 m.2.2.2.1 [] with
 | some b =>
  dsimp only
  obtain⟨⟨f,hf,e⟩,_⟩:=bad_some h1
  rw[e]; exact name_ne (ho.vars f hf).1
 | none =>
 rw[h1] at h
 dsimp only at h ⊢
 cases hmv:m.2.2.2.2.2.1 with
 | false=>rw[hmv,if_neg (by simp)] at h; exact absurd rfl h
 | true =>
 rw[hmv,if_pos rfl] at h
 rw[if_pos rfl]
 cases h2:badS m.2.2.1 m.2.2.2.2.2.2.2.1 m.2.2.2.2.2.2.1 with
 | some b =>
  dsimp only
  obtain⟨⟨f,hf,e⟩,_⟩:=bad_some h2
  rw[e]; exact name_ne (ho.vars f hf).1
 | none =>
 rw[h2] at h
 dsimp only at h ⊢
 cases h3:badS m.2.2.2.2.2.2.1 m.2.2.2.2.2.2.2.2 m.2.2.1 with
 | some b =>
  obtain⟨⟨f,hf,e⟩,_⟩:=bad_some h3
  rw[Option.getD_some,e]; exact name_ne (ho.old f hf).1
 | none=>rw[h3] at h; exact absurd rfl h
structure MovesP (m:GModule):Prop where
 init:∀ i (hi:i < m.2.2.1.length),pureS [] (argE m.2.2.2.1 i) (m.2.2.1[i].kd,m.2.2.1[i].fs) = 0
 fwd:m.2.2.2.2.2.1 = true → ∀ i (hi:i < m.2.2.1.length),pureS m.2.2.2.2.2.2.1 (argE m.2.2.2.2.2.2.2.1 i) (m.2.2.1[i].kd,m.2.2.1[i].fs) = 0
 back:m.2.2.2.2.2.1 = true → ∀ i (hi:i < m.2.2.2.2.2.2.1.length),pureS m.2.2.1 (argE m.2.2.2.2.2.2.2.2 i) (m.2.2.2.2.2.2.1[i].kd,m.2.2.2.2.2.2.1[i].fs) = 0
theorem moves_good {m:GModule} (h:(movesS m).2 = 0):MovesP m:=by
 unfold movesS at h
 cases h1:badS m.2.2.1 m.2.2.2.1 [] with
 | some b=>rw[h1] at h; exact absurd h (bad_some h1).2
 | none =>
 rw[h1] at h
 dsimp only at h
 cases hmv:m.2.2.2.2.2.1 with
 | false=>exact⟨bad_none h1,fun h=>(by rw[hmv] at h; cases h),fun h=>(by rw[hmv] at h; cases h)⟩
 | true =>
 rw[hmv,if_pos rfl] at h
 cases h2:badS m.2.2.1 m.2.2.2.2.2.2.2.1 m.2.2.2.2.2.2.1 with
 | some b=>rw[h2] at h; exact absurd h (bad_some h2).2
 | none =>
 rw[h2] at h
 dsimp only at h
 cases h3:badS m.2.2.2.2.2.2.1 m.2.2.2.2.2.2.2.2 m.2.2.1 with
 | some b=>rw[h3] at h; exact absurd h (bad_some h3).2
 | none=>exact⟨bad_none h1,fun _=>bad_none h2,fun _=>bad_none h3⟩
theorem funcG_bad {C:Cx} {k:Nat} {f:GFunc} {b:Bs × Int} (h:funcG C k f = some b):b.1 = f.1 ∧ b.2 ≠ 0:=by
 unfold funcG at h
 split at h
 ·split at h
  ·split at h
   ·cases h
   ·injection h with h; subst h; exact⟨rfl,by simp⟩
  ·injection h with h; subst h; exact⟨rfl,by simp⟩
 ·rename_i h0
  injection h with h; subst h; exact⟨rfl,h0⟩
theorem funcG_none {C:Cx} {k:Nat} {f:GFunc} (h:funcG C k f = none):(findS C 12 f.2.2.1 0 (bodyE f)).2.1 = 0 ∧ subB (findS C 12 f.2.2.1 0 (bodyE f)).1 f.2.2.2.1 = true ∧ anI .i64 (findS C 12 f.2.2.1 0 (bodyE f)).2.2 f.2.2.2.2.1 = 0:=by
 unfold funcG at h
 split at h
 ·rename_i h0
  split at h
  ·rename_i h1
   split at h
   ·rename_i h2
    exact⟨h0,h1,h2⟩
   ·cases h
  ·cases h
 ·cases h
theorem check_bad {m:GModule} {faces:List GFace} (hm:ShM m) (h:(checkS m faces).2 ≠ 0):(checkS m faces).1 ≠ [] ∨ (checkS m faces).2 = 1:=by
 unfold checkS at h ⊢
 cases hfb:facesB faces with
 | false=>exact .inr rfl
 | true =>
 rw[hfb,if_pos rfl] at h
 rw[if_pos rfl]
 cases hrm:rightB m with
 | false=>exact .inr rfl
 | true =>
 rw[hrm,if_pos rfl] at h
 rw[if_pos rfl]
 have ho:=(rightB_ok hm).2 hrm
 cases hsu:scan (usesG m faces) 0 m.2.1 with
 | some u =>
  dsimp only
  obtain⟨i,hi,h1,_⟩:=scan_some.1 hsu
  unfold usesG at h1
  split at h1
  ·injection h1 with h1
   subst h1
   exact .inl (name_ne (ho.unames _ (List.getElem_mem hi)))
  ·cases h1
 | none =>
 rw[hsu] at h
 dsimp only at h ⊢
 by_cases h0:(movesS m).2 = 0
 rotate_left
 ·rw[if_neg h0]; exact .inl (moves_bad ho h0)
 rw[if_pos h0] at h ⊢
 cases hs:scan (funcG (cxM m faces)) 0 m.2.2.2.2.1 with
 | none=>rw[hs] at h; exact absurd rfl h
 | some b =>
  obtain⟨i,hi,h1,_⟩:=scan_some.1 hs
  rw[Option.getD_some,(funcG_bad h1).1]
  exact .inl (name_ne (ho.funcs _ (List.getElem_mem hi)).1)
structure CheckP (m:GModule) (faces:List GFace):Prop where
 facesOk:facesB faces = true
 right:rightB m = true
 uses:∀ u ∈ m.2.1,(lookM (facesM faces) u).isSome = true ∧ u ≠ m.1
 moves:MovesP m
 funcs:∀ f ∈ m.2.2.2.2.1,(findS (cxM m faces) 12 f.2.2.1 0 (bodyE f)).2.1 = 0 ∧ subB (findS (cxM m faces) 12 f.2.2.1 0 (bodyE f)).1 f.2.2.2.1 = true ∧ anI .i64 (findS (cxM m faces) 12 f.2.2.1 0 (bodyE f)).2.2 f.2.2.2.2.1 = 0
theorem check_good {m:GModule} {faces:List GFace} (h:(checkS m faces).2 = 0):(checkS m faces).1 = [] ∧ CheckP m faces:=by
 unfold checkS at h ⊢
 cases hfb:facesB faces with
 | false=>rw[hfb] at h; exact absurd h (by simp)
 | true =>
 rw[hfb,if_pos rfl] at h
 rw[if_pos rfl]
 cases hrm:rightB m with
 | false=>rw[hrm] at h; exact absurd h (by simp)
 | true =>
 rw[hrm,if_pos rfl] at h
 rw[if_pos rfl]
 cases hsu:scan (usesG m faces) 0 m.2.1 with
 | some u=>rw[hsu] at h; exact absurd h (by simp)
 | none =>
 rw[hsu] at h
 dsimp only at h ⊢
 by_cases h0:(movesS m).2 = 0
 rotate_left
 ·rw[if_neg h0] at h; exact absurd h h0
 rw[if_pos h0] at h ⊢
 cases hs:scan (funcG (cxM m faces)) 0 m.2.2.2.2.1 with
 | some b =>
  rw[hs] at h
  obtain⟨i,hi,h1,_⟩:=scan_some.1 hs
  exact absurd h (funcG_bad h1).2
 | none =>
  refine⟨rfl,hfb,hrm,fun u hu=>?_,moves_good h0,fun f hf=>?_⟩
  ·obtain⟨i,hi,rfl⟩:=List.mem_iff_getElem.1 hu
   have:=scan_none.1 hsu i hi
   unfold usesG at this
   split at this
   ·cases this
   ·rename_i hh
    rw[Bool.not_eq_true,Bool.or_eq_false_iff,Bool.not_eq_false',decide_eq_false_iff_not] at hh
    exact hh
  ·obtain⟨i,hi,rfl⟩:=List.mem_iff_getElem.1 hf
   exact funcG_none (scan_none.1 hs i hi)
def bareM (nm:Bs):GModule:=(nm,[],[],[],[],false,[],[],[])
theorem bare_sh (nm:Bs):ShM (bareM nm):=⟨by simp [bareM],by simp [bareM],⟨by simp [bareM],fun e he=>by cases he⟩,⟨by simp [bareM],fun e he=>by cases he⟩,by simp [bareM],⟨by simp [bareM],fun e he=>by cases he⟩,⟨by simp [bareM],fun e he=>by cases he⟩⟩
theorem no_faces:ShF []:=⟨by simp,fun f hf=>by cases hf⟩
theorem loop0 {τ β:Type} {body:τ → Option (τ ⊕ β)} {x:τ} {b:β} (h:body x = some (.inr b)):loopF body x = some b:=loopF_at (fun _=>x) 0 rfl (fun k hk=>absurd hk (by omega)) h (by omega)
theorem bare_right {nm:Bs} (h:nameB nm = true):rightB (bareM nm) = true:=by
 have hf:∀ n:Int,0 ≤ n → syntax_rightFields [] n = some true:=fun n hn=>by
  have h1:loopF (fun x:Int × List (Bs × Bool)=>syntax_rightFields.b1 [] n x.1 x.2) (0,[]) = some (leZ 0 n):=loop0 rfl
  unfold syntax_rightFields
  rw[h1,leZ_eq,decide_eq_true hn]
 have he:syntax_rightExps [] 0 = some true:=by
  have h1:loopF (fun x:Int=>syntax_rightExps.b1 [] 0 x) 0 = some true:=loop0 rfl
  unfold syntax_rightExps
  exact h1
 have h3:syntax_Right.j3 [] [] [] 0 = some true:=by
  unfold syntax_Right.j3
  rw[hf 8 (by omega),bind_in,cond_true,he,bind_in,cond_true]
  show (syntax_rightExps [] 0).bind _ = _
  rw[he]; rfl
 have h4:syntax_Right.j4 [] false [] [] [] false = some true:=h3
 have h5:syntax_Right.j5 nm [] [] [] [] false [] [] [] = some true:=by
  unfold syntax_Right.j5
  rw[name_ok,h,bind_in,hf 8 (by omega),Bool.not_true,cond_false,show ltZ 12 ((([]:List Bs).length:Nat):Int) = false from rfl,cond_false,show ltZ 30 ((([]:List GFunc).length:Nat):Int) = false from rfl,cond_false,bind_in,Bool.not_true,cond_false,show ((([]:List GField).length:Nat):Int) = 0 from rfl,he,bind_in,bind_in]
  exact h4
 have l1:loopF (fun x:Int × List (Bs × Bool)=>syntax_Right.b1 [] x.1 x.2) (0,([]:List (Bs × Bool))) = some (.inl ()):=loop0 rfl
 have l2:loopF (fun x:Int × List (Bs × Bool)=>syntax_Right.b2 [] x.1 x.2) (0,([]:List (Bs × Bool))) = some (.inl ()):=loop0 rfl
 have:RightM (bareM nm) = some true:=by
  show syntax_Right nm [] [] [] [] false [] [] [] = some true
  unfold syntax_Right
  rw[l1,bind_in]
  show syntax_Right.j6 nm [] [] [] [] false [] [] [] = some true
  unfold syntax_Right.j6
  rw[l2,bind_in]
  exact h5
 unfold rightB
 rw[this]; rfl
theorem cx_bare (nm:Bs):cxM (bareM nm) [] = cx0:=rfl
theorem typeOf_bare {nm:Bs} (h:nameB nm = true) {L:List FieldT} {e:ExpT} (hL:L.length ≤ 1000) (hs:shE 16 e) (hl:localsB L = true) (he:rexpB e = true) {w:GType} (hp:pureS L e w = 0) :
  ∃ t,types_TypeOf (nm,[],[],[],[],false,[],[],[]) [] (unL L) e.op e.n e.s e.m e.names (unE e.args) = some (t,0,0) ∧ subB t w = true ∧ okL 4100 t.2:=by
 have h1:types_TypeOf (nm,[],[],[],[],false,[],[],[]) [] (unL L) e.op e.n e.s e.m e.names (unE e.args) = TypeOfM (bareM nm) [] L e:=rfl
 rw[h1,typeOf_ok (bare_sh nm) no_faces hL hs]
 unfold typeOfS argB
 rw[hl,he,bare_right h,cx_bare]
 unfold pureS at hp
 by_cases h0:(findS cx0 12 L 0 e).2.1 = 0
 rotate_left
 ·rw[if_neg h0] at hp; exact absurd hp h0
 rw[if_pos h0] at hp
 by_cases h2:(findS cx0 12 L 0 e).2.2 = 0
 rotate_left
 ·rw[if_neg h2] at hp; exact absurd hp (by simp)
 rw[if_pos h2] at hp
 by_cases h3:subB (findS cx0 12 L 0 e).1 w = true
 rotate_left
 ·rw[if_neg h3] at hp; exact absurd hp (by simp)
 refine⟨(findS cx0 12 L 0 e).1,?_,h3,find_type okC0 hl ((rexp_ok hs).2 he)⟩
 rw[if_pos (by rfl),if_pos h0,h2]
theorem sub_below {t w:GType} {d q:Nat} (hd:d ≤ 1000000) (h:subB t w = true) (hw:okL d w.2) (ht:okL q t.2):ladinglaw16_below t.1 (unL t.2) w.1 (unL w.2) = some true:=by
 rw[lbelow_ok hd _ _ _ _ hw ht]
 exact congrArg some h
theorem checks_true (m:GModule) (faces:List GFace):ladinglaw16_TypesChecks m faces = some true:=by
 unfold ladinglaw16_TypesChecks
 simp only[fu1,fu2,fe1,fe2]
 obtain⟨b1,e1,g1⟩:=module_ok m
 obtain⟨b2,e2,g2⟩:=seen_ok faces
 have e1:ladinglaw16_module m.1 m.2.1 (unL m.2.2.1) (unE m.2.2.2.1) m.2.2.2.2.1 m.2.2.2.2.2.1 (unL m.2.2.2.2.2.2.1) (unE m.2.2.2.2.2.2.2.1) (unE m.2.2.2.2.2.2.2.2) = some b1:=e1
 rw[small_ok,bind_in,e1,bind_in,e2]
 simp only[bind_in]
 cases b1 with
 | false=>rfl
 | true =>
 cases b2 with
 | false=>rfl
 | true =>
 have hm:=g1 rfl
 have hf:=g2 rfl
 simp only[Bool.not_true,cond_false,bind_in]
 unfold ladinglaw16_TypesChecks.j12
 simp only[fu1,fu2,fe1,fe2,cond_false]
 have hc:types_Check_v2 m.1 m.2.1 (unL m.2.2.1) (unE m.2.2.2.1) m.2.2.2.2.1 m.2.2.2.2.2.1 (unL m.2.2.2.2.2.2.1) (unE m.2.2.2.2.2.2.2.1) (unE m.2.2.2.2.2.2.2.2) faces = some (checkS m faces):=check_ok hm hf
 rw[hc,bind_in,eqZ_eq]
 by_cases h0:(checkS m faces).2 = 0
 rotate_left
 ·rw[decide_eq_false h0,Bool.not_false,cond_true,cond_true]
  by_cases h1:(checkS m faces).1 = []
  ·rcases check_bad hm h0 with h | h
   ·exact absurd h1 h
   ·rw[decide_eq_true h1,h]; rfl
  ·rw[decide_eq_false h1]; rfl
 rw[decide_eq_true h0,Bool.not_true,cond_false]
 obtain⟨hs,cp⟩:=check_good h0
 have ho:=(rightB_ok hm).2 cp.right
 have hfl:=hm.funcs.1
 have hvl:=hm.vars
 have hol:=hm.old
 have l1:loopF (fun x=>ladinglaw16_TypesChecks.b1 m faces x) 0 = some (.inl ()):=loopF_at (fun i=>(i:Int)) m.2.2.2.2.1.length rfl (fun i hi=>by
  obtain⟨k1,k2⟩:=hm.funcs.2 _ (List.getElem_mem hi)
  obtain⟨_,q2,q3,q4⟩:=ho.funcs _ (List.getElem_mem hi)
  obtain⟨c1,c2,c3⟩:=cp.funcs _ (List.getElem_mem hi)
  have ht:types_TypeOf_v2 m.1 m.2.1 (unL m.2.2.1) (unE m.2.2.2.1) m.2.2.2.2.1 m.2.2.2.2.2.1 (unL m.2.2.2.2.2.2.1) (unE m.2.2.2.2.2.2.2.1) (unE m.2.2.2.2.2.2.2.2) faces (unL m.2.2.2.2.1[i].2.2.1) m.2.2.2.2.1[i].2.2.2.2.2.1 m.2.2.2.2.1[i].2.2.2.2.2.2.1 m.2.2.2.2.1[i].2.2.2.2.2.2.2.1 m.2.2.2.2.1[i].2.2.2.2.2.2.2.2.1 m.2.2.2.2.1[i].2.2.2.2.2.2.2.2.2.1 (unE m.2.2.2.2.1[i].2.2.2.2.2.2.2.2.2.2) = some (typeOfS m faces m.2.2.2.2.1[i].2.2.1 (bodyE m.2.2.2.2.1[i])):=typeOf_ok (e:=bodyE m.2.2.2.2.1[i]) hm hf (by omega) k2
  have hts:typeOfS m faces m.2.2.2.2.1[i].2.2.1 (bodyE m.2.2.2.2.1[i]) = ((findS (cxM m faces) 12 m.2.2.2.2.1[i].2.2.1 0 (bodyE m.2.2.2.2.1[i])).1,(findS (cxM m faces) 12 m.2.2.2.2.1[i].2.2.1 0 (bodyE m.2.2.2.2.1[i])).2.2,0):=by
   unfold typeOfS argB
   rw[fields_locals q2,q4,cp.right,cp.facesOk,if_pos (by rfl),if_pos c1]
  unfold ladinglaw16_TypesChecks.b1 ladinglaw16_TypesChecks.j1
  simp only[fu1,fu2,fe1,fe2]
  rw[ltZ_eq,decide_eq_true (by omega),cond_true,idx_nat hi,bind_in,ht,bind_in,hts]
  dsimp only
  rw[c3,sub_below (d:=4) (by omega) c2 (right_okL q3) (find_type (okC_of hm hf ho cp.facesOk) (fields_locals q2) ((rexp_ok k2).2 q4)),z64_succ (by omega)]; rfl) (by
  unfold ladinglaw16_TypesChecks.b1
  rw[ltZ_eq,decide_eq_false (by omega),cond_false]) (by omega)
 rw[l1,bind_in]
 dsimp only
 unfold ladinglaw16_TypesChecks.j11
 have hil:m.2.2.2.1.length = m.2.2.1.length:=ho.init.2
 have l2:loopF (fun x=>ladinglaw16_TypesChecks.b2 m x) 0 = some (.inl ()):=loopF_at (fun i=>(i:Int)) m.2.2.1.length rfl (fun i hi=>by
  have hi2:i < m.2.2.2.1.length:=by omega
  have hp:=cp.moves.init i hi
  rw[argE_get hi2] at hp
  obtain⟨t,ht,hs,hok⟩:=typeOf_bare ho.name (L:=[]) (by simp) (hm.init.2 _ (List.getElem_mem hi2)) rfl (ho.init.1 _ (List.getElem_mem hi2)) hp
  rw[un_nil] at ht
  unfold ladinglaw16_TypesChecks.b2 ladinglaw16_TypesChecks.j3 ladinglaw16_TypesChecks.j2
  simp only[fu1,fu2,fe1,fe2]
  rw[lenU]
  rw[show (@List.map (UD 1) (Ubody 1).den (Uun 1) m.2.2.2.1).length = m.2.2.2.1.length from List.length_map _]
  simp only[ltZ_eq]
  rw[decide_eq_true (show (i:Int) < (m.2.2.1.length:Int) by omega),cond_true,decide_eq_true (show (i:Int) < (m.2.2.2.1.length:Int) by omega),bind_in,cond_true]
  refine (congrArg (fun o=>Option.bind o _) (show @idx (Ubody 1).den (@List.map (UD 1) (Ubody 1).den (Uun 1) m.2.2.2.1) (i:Int) = @some (Ubody 1).den (tupE m.2.2.2.1[i]) from idx_unE hi2)).trans ?_
  show (types_TypeOf (m.1,[],[],[],[],false,[],[],[]) [] [] m.2.2.2.1[i].op m.2.2.2.1[i].n m.2.2.2.1[i].s m.2.2.2.1[i].m m.2.2.2.1[i].names (unE m.2.2.2.1[i].args)).bind _ = _
  rw[ht,bind_in]
  dsimp only
  rw[show eqZ 0 0 = true from rfl,Bool.not_true,cond_false,cond_false]
  refine (congrArg (fun o=>Option.bind (Option.bind o _) _) (idxU hi)).trans ?_
  show (Option.bind (Option.bind (ladinglaw16_below t.1 (unL t.2) m.2.2.1[i].kd (unL m.2.2.1[i].fs)) _) _) = _
  rw[sub_below (w:=(m.2.2.1[i].kd,m.2.2.1[i].fs)) (d:=4) (by omega) hs (right_okL (ho.vars _ (List.getElem_mem hi)).2) hok,z64_succ (by omega)]; rfl) (by
  unfold ladinglaw16_TypesChecks.b2
  rw[lenU,ltZ_eq,decide_eq_false (by omega),cond_false]; rfl) (by omega)
 rw[l2,bind_in]
 dsimp only
 unfold ladinglaw16_TypesChecks.j10
 have l3:loopF (fun x=>ladinglaw16_TypesChecks.b3 m x) 0 = some (.inl ()):=by
  cases hmv:m.2.2.2.2.2.1 with
  | false =>
   refine loop0 ?_
   unfold ladinglaw16_TypesChecks.b3
   rw[hmv]; rfl
  | true =>
   have hfl2:m.2.2.2.2.2.2.2.1.length = m.2.2.1.length:=ho.fwd.2 hmv
   refine loopF_at (fun i=>(i:Int)) m.2.2.1.length rfl (fun i hi=>?_) ?_ (by omega)
   ·have hi2:i < m.2.2.2.2.2.2.2.1.length:=by omega
    have hp:=cp.moves.fwd hmv i hi
    rw[argE_get hi2] at hp
    obtain⟨t,ht,hs,hok⟩:=typeOf_bare ho.name (L:=m.2.2.2.2.2.2.1) (by omega) (hm.fwd.2 _ (List.getElem_mem hi2)) (fields_locals ho.old) (ho.fwd.1 _ (List.getElem_mem hi2)) hp
    unfold ladinglaw16_TypesChecks.b3 ladinglaw16_TypesChecks.j5 ladinglaw16_TypesChecks.j4
    simp only[fu1,fu2,fe1,fe2]
    rw[lenU,hmv,cond_true]
    rw[show (@List.map (UD 1) (Ubody 1).den (Uun 1) m.2.2.2.2.2.2.2.1).length = m.2.2.2.2.2.2.2.1.length from List.length_map _]
    simp only[ltZ_eq]
    rw[decide_eq_true (show (i:Int) < (m.2.2.1.length:Int) by omega),cond_true,decide_eq_true (show (i:Int) < (m.2.2.2.2.2.2.2.1.length:Int) by omega),bind_in,cond_true]
    refine (congrArg (fun o=>Option.bind o _) (show @idx (Ubody 1).den (@List.map (UD 1) (Ubody 1).den (Uun 1) m.2.2.2.2.2.2.2.1) (i:Int) = @some (Ubody 1).den (tupE m.2.2.2.2.2.2.2.1[i]) from idx_unE hi2)).trans ?_
    show (types_TypeOf (m.1,[],[],[],[],false,[],[],[]) [] (unL m.2.2.2.2.2.2.1) m.2.2.2.2.2.2.2.1[i].op m.2.2.2.2.2.2.2.1[i].n m.2.2.2.2.2.2.2.1[i].s m.2.2.2.2.2.2.2.1[i].m m.2.2.2.2.2.2.2.1[i].names (unE m.2.2.2.2.2.2.2.1[i].args)).bind _ = _
    rw[ht,bind_in]
    dsimp only
    rw[show eqZ 0 0 = true from rfl,Bool.not_true,cond_false,cond_false]
    refine (congrArg (fun o=>Option.bind (Option.bind o _) _) (idxU hi)).trans ?_
    show (Option.bind (Option.bind (ladinglaw16_below t.1 (unL t.2) m.2.2.1[i].kd (unL m.2.2.1[i].fs)) _) _) = _
    rw[sub_below (w:=(m.2.2.1[i].kd,m.2.2.1[i].fs)) (d:=4) (by omega) hs (right_okL (ho.vars _ (List.getElem_mem hi)).2) hok,z64_succ (by omega)]; rfl
   ·unfold ladinglaw16_TypesChecks.b3
    rw[hmv,cond_true,lenU,ltZ_eq,decide_eq_false (by omega),cond_false]; rfl
 rw[l3,bind_in]
 dsimp only
 unfold ladinglaw16_TypesChecks.j9
 have l4:loopF (fun x=>ladinglaw16_TypesChecks.b4 m x) 0 = some (.inl ()):=by
  cases hmv:m.2.2.2.2.2.1 with
  | false =>
   refine loop0 ?_
   unfold ladinglaw16_TypesChecks.b4
   rw[hmv]; rfl
  | true =>
   have hbl:m.2.2.2.2.2.2.2.2.length = m.2.2.2.2.2.2.1.length:=ho.back.2
   refine loopF_at (fun i=>(i:Int)) m.2.2.2.2.2.2.1.length rfl (fun i hi=>?_) ?_ (by omega)
   ·have hi2:i < m.2.2.2.2.2.2.2.2.length:=by omega
    have hp:=cp.moves.back hmv i hi
    rw[argE_get hi2] at hp
    obtain⟨t,ht,hs,hok⟩:=typeOf_bare ho.name (L:=m.2.2.1) (by omega) (hm.back.2 _ (List.getElem_mem hi2)) (fields_locals ho.vars) (ho.back.1 _ (List.getElem_mem hi2)) hp
    unfold ladinglaw16_TypesChecks.b4 ladinglaw16_TypesChecks.j7 ladinglaw16_TypesChecks.j6
    simp only[fu1,fu2,fe1,fe2]
    rw[lenU,hmv,cond_true]
    rw[show (@List.map (UD 1) (Ubody 1).den (Uun 1) m.2.2.2.2.2.2.2.2).length = m.2.2.2.2.2.2.2.2.length from List.length_map _]
    simp only[ltZ_eq]
    rw[decide_eq_true (show (i:Int) < (m.2.2.2.2.2.2.1.length:Int) by omega),cond_true,decide_eq_true (show (i:Int) < (m.2.2.2.2.2.2.2.2.length:Int) by omega),bind_in,cond_true]
    refine (congrArg (fun o=>Option.bind o _) (show @idx (Ubody 1).den (@List.map (UD 1) (Ubody 1).den (Uun 1) m.2.2.2.2.2.2.2.2) (i:Int) = @some (Ubody 1).den (tupE m.2.2.2.2.2.2.2.2[i]) from idx_unE hi2)).trans ?_
    show (types_TypeOf (m.1,[],[],[],[],false,[],[],[]) [] (unL m.2.2.1) m.2.2.2.2.2.2.2.2[i].op m.2.2.2.2.2.2.2.2[i].n m.2.2.2.2.2.2.2.2[i].s m.2.2.2.2.2.2.2.2[i].m m.2.2.2.2.2.2.2.2[i].names (unE m.2.2.2.2.2.2.2.2[i].args)).bind _ = _
    rw[ht,bind_in]
    dsimp only
    rw[show eqZ 0 0 = true from rfl,Bool.not_true,cond_false,cond_false]
    refine (congrArg (fun o=>Option.bind (Option.bind o _) _) (idxU hi)).trans ?_
    show (Option.bind (Option.bind (ladinglaw16_below t.1 (unL t.2) m.2.2.2.2.2.2.1[i].kd (unL m.2.2.2.2.2.2.1[i].fs)) _) _) = _
    rw[sub_below (w:=(m.2.2.2.2.2.2.1[i].kd,m.2.2.2.2.2.2.1[i].fs)) (d:=4) (by omega) hs (right_okL (ho.old _ (List.getElem_mem hi)).2) hok,z64_succ (by omega)]; rfl
   ·unfold ladinglaw16_TypesChecks.b4
    rw[hmv,cond_true,lenU,ltZ_eq,decide_eq_false (by omega),cond_false]; rfl
 rw[l4,bind_in]
 dsimp only
 unfold ladinglaw16_TypesChecks.j8
 rw[cond_true,lenU,show (@List.map (UD 1) (Ubody 1).den (Uun 1) m.2.2.2.1).length = m.2.2.2.1.length from List.length_map _,eqZ_eq,decide_eq_true (show (m.2.2.2.1.length:Int) = (m.2.2.1.length:Int) by omega),cond_true,hs]; rfl
end Go.Proofs.Ytaocfjifacnokaa
