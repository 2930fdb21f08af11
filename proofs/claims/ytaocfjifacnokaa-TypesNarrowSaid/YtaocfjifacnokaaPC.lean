import Derived.Test.YtaocfjifacnokaaPB
set_option linter.unusedVariables false
set_option linter.unusedSimpArgs false
namespace Go.Proofs.Ytaocfjifacnokaa
open Go.Lad
def Tot {α:Type} (x:Option α):Prop := ∃ b,x = some b
theorem tot_some {α:Type} (a:α):Tot (some a):=⟨a,rfl⟩
theorem tot_cond {α:Type} {b:Bool} {x y:Option α} (hx:Tot x) (hy:Tot y):Tot (bif b then x else y):=by cases b <;> assumption
theorem tot_bind {α β:Type} {x:Option α} {f:α → Option β} (hx:Tot x) (hf:∀ a,Tot (f a)):Tot (x.bind f):=by
 obtain⟨a,rfl⟩:=hx
 exact hf a
theorem name_tot (s:Bs):Tot (syntax_Name s):=⟨_,name_ok s⟩
theorem leaf_tot (o n:Int) (s m:Bs) (ns:List Bs) (ag:List GExp) (h:ns.length ≤ 1000):Tot (syntax_leaf o n s m ns ag):=by
 have hbl:Tot (loopF (fun x=>syntax_leaf.b1 ns x) 0):=by
  obtain⟨b,hb,_⟩:=loopF_inv (body:=fun x=>syntax_leaf.b1 ns x) (fun i x=>x = (i:Int)) (Q:=fun _=>True) ns.length (x:=0) rfl (fun i hi x hx=>by
   subst hx
   unfold syntax_leaf.b1 syntax_leaf.j1
   rw[ltZ_eq,decide_eq_true (by omega),cond_true,idx_nat hi,bind_in,name_ok,bind_in]
   have hin:Tot (bif (!nameB ns[i]) then some true else (bif (ltZ 0 (i:Int)) then ((z64 ((i:Int) - 1)).bind fun v14=>(idx ns v14).bind fun v15=>some (Op.bytesLess ns[i] v15 || decide (ns[i] = v15))) else some false)):=by
    refine tot_cond (tot_some _) ?_
    by_cases h0:0 < i
    ·rw[z64_pred h0 (by omega),bind_in,idx_nat (show i - 1 < ns.length by omega)]
     exact tot_cond (tot_some _) (tot_some _)
    ·have:i = 0:=by omega
     subst this
     exact⟨_,rfl⟩
   obtain⟨v,hv⟩:=hin
   rw[hv,bind_in]
   cases v with
   | true=>exact .inr ⟨_,rfl,trivial⟩
   | false=>rw[cond_false,z64_succ (by omega),bind_in]; exact .inl ⟨_,rfl,rfl⟩) (fun x hx=>by
   subst hx
   unfold syntax_leaf.b1
   rw[ltZ_eq,decide_eq_false (by omega),cond_false]
   exact⟨_,rfl,trivial⟩) (by omega)
  exact⟨b,hb⟩
 unfold syntax_leaf syntax_leaf.j2
 repeat' first
  | exact tot_some _
  | exact name_tot _
  | exact hbl
  | refine tot_cond ?_ ?_
  | refine tot_bind ?_ fun _=>?_
theorem clean_ok (o n:Int) (s m:Bs) (ns:List Bs) (ag:List GExp):∃ c,syntax_clean o n s m ns ag = some c ∧ (o = 12 → c.2 = 2) ∧ (o = 18 → c.2 = 1) ∧ (o = 11 → c.2 = 3) ∧ (o = 14 → c.2 = 1) ∧ (o = 13 → c.2 = (ns.length:Int)):=by
 unfold syntax_clean syntax_clean.j3 syntax_clean.j2 syntax_clean.j1
 simp only[eqZ_eq]
 by_cases h0:o = 0
 ·subst h0; exact⟨_,rfl,fun h=>absurd h (by decide),fun h=>absurd h (by decide),fun h=>absurd h (by decide),fun h=>absurd h (by decide),fun h=>absurd h (by decide)⟩
 by_cases h1:o = 1
 ·subst h1; exact⟨_,rfl,fun h=>absurd h (by decide),fun h=>absurd h (by decide),fun h=>absurd h (by decide),fun h=>absurd h (by decide),fun h=>absurd h (by decide)⟩
 by_cases h2:o = 2
 ·subst h2; exact⟨_,rfl,fun h=>absurd h (by decide),fun h=>absurd h (by decide),fun h=>absurd h (by decide),fun h=>absurd h (by decide),fun h=>absurd h (by decide)⟩
 by_cases h3:o = 17
 ·subst h3; exact⟨_,rfl,fun h=>absurd h (by decide),fun h=>absurd h (by decide),fun h=>absurd h (by decide),fun h=>absurd h (by decide),fun h=>absurd h (by decide)⟩
 by_cases h4:o = 18
 ·subst h4; exact⟨_,rfl,fun h=>absurd h (by decide),fun _=>rfl,fun h=>absurd h (by decide),fun h=>absurd h (by decide),fun h=>absurd h (by decide)⟩
 by_cases h5:o = 14
 ·subst h5; exact⟨_,rfl,fun h=>absurd h (by decide),fun h=>absurd h (by decide),fun h=>absurd h (by decide),fun _=>rfl,fun h=>absurd h (by decide)⟩
 by_cases h6:o = 16
 ·subst h6; exact⟨_,rfl,fun h=>absurd h (by decide),fun h=>absurd h (by decide),fun h=>absurd h (by decide),fun h=>absurd h (by decide),fun h=>absurd h (by decide)⟩
 by_cases h7:o = 10
 ·subst h7; exact⟨_,rfl,fun h=>absurd h (by decide),fun h=>absurd h (by decide),fun h=>absurd h (by decide),fun h=>absurd h (by decide),fun h=>absurd h (by decide)⟩
 by_cases h8:o = 12
 ·subst h8; exact⟨_,rfl,fun _=>rfl,fun h=>absurd h (by decide),fun h=>absurd h (by decide),fun h=>absurd h (by decide),fun h=>absurd h (by decide)⟩
 by_cases h9:o = 11
 ·subst h9; exact⟨_,rfl,fun h=>absurd h (by decide),fun h=>absurd h (by decide),fun _=>rfl,fun h=>absurd h (by decide),fun h=>absurd h (by decide)⟩
 by_cases h10:o = 13
 ·subst h10; exact⟨_,rfl,fun h=>absurd h (by decide),fun h=>absurd h (by decide),fun h=>absurd h (by decide),fun h=>absurd h (by decide),fun _=>rfl⟩
 rw[decide_eq_false h0,decide_eq_false h1,decide_eq_false h2,decide_eq_false h3,decide_eq_false h4,decide_eq_false h5,decide_eq_false h6,decide_eq_false h7,decide_eq_false h8,decide_eq_false h9,decide_eq_false h10]
 simp only[cond_false,bind_in]
 cases decide (o = 15) <;> exact⟨_,rfl,fun h=>absurd h h8,fun h=>absurd h h4,fun h=>absurd h h9,fun h=>absurd h h5,fun h=>absurd h h10⟩
def shE:Nat → ExpT → Prop
 | 0,_=>False
 | d + 1,e=>e.names.length ≤ 12 ∧ e.args.length ≤ 1000 ∧ ∀ a ∈ e.args,shE d a
theorem rexp_rec:∀ (d n q:Nat) (e:ExpT),d ≤ 12 → d < n → shE q e → ∃ b,syntax_rightExp.rec n e.op e.n e.s e.m e.names (unE e.args) (d:Int) = some b ∧ (b = true → okE d e)
 | d,0,_,_,_,h,_=>absurd h (by omega)
 | d,n + 1,0,_,_,_,h=>h.elim
 | 0,n + 1,q + 1,e,_,_,_=>⟨false,rfl,fun h=>by cases h⟩
 | d + 1,n + 1,q + 1,e,hd,hn,hs=>by
  obtain⟨s1,s2,s3⟩:=hs
  show ∃ b,syntax_rightExp.body (syntax_rightExp.rec n) e.op e.n e.s e.m e.names (unE e.args) ((d + 1:Nat):Int) = some b ∧ _
  unfold syntax_rightExp.body syntax_rightExp.j2 syntax_rightExp.j1
  rw[eqZ_eq,decide_eq_false (show ¬ (((d + 1:Nat):Int) = 0) by omega),cond_false]
  cases ltZ e.op 0 with
  | true=>exact⟨false,rfl,fun h=>by cases h⟩
  | false =>
  cases leZ 19 e.op with
  | true=>exact⟨false,rfl,fun h=>by cases h⟩
  | false =>
  rw[cond_false,bind_in,cond_false]
  obtain⟨c,hc,f12,f18,f11,f14,f13⟩:=clean_ok e.op e.n e.s e.m e.names (unE e.args)
  obtain⟨lb,hlb⟩:=leaf_tot e.op e.n e.s e.m e.names (unE e.args) (by omega)
  rw[hc,bind_in,hlb,unE_len]
  have chk:∃ v,(bif (leZ 0 c.2) then (bif (!eqZ c.2 (e.args.length:Int)) then some true else (bif (!eqZ c.1.2.1 e.n) then some true else (bif (!decide (c.1.2.2.1 = e.s)) then some true else (bif (!decide (c.1.2.2.2.1 = e.m)) then some true else (bif (!eqZ (c.1.2.2.2.2.1.length:Int) (e.names.length:Int)) then some true else ((some lb).bind fun l10=>some (!l10))))))) else
    (bif (!eqZ c.1.2.1 e.n) then some true else (bif (!decide (c.1.2.2.1 = e.s)) then some true else (bif (!decide (c.1.2.2.2.1 = e.m)) then some true else (bif (!eqZ (c.1.2.2.2.2.1.length:Int) (e.names.length:Int)) then some true else ((some lb).bind fun l11=>some (!l11))))))) = some v ∧ (v = false → 0 ≤ c.2 → c.2 = (e.args.length:Int)):=by
   rw[leZ_eq]
   by_cases h0:0 ≤ c.2
   ·rw[decide_eq_true h0,cond_true,eqZ_eq]
    by_cases h1:c.2 = (e.args.length:Int)
    ·rw[decide_eq_true h1]
     obtain⟨v,hv⟩:Tot (bif (!true) then some true else (bif (!eqZ c.1.2.1 e.n) then some true else (bif (!decide (c.1.2.2.1 = e.s)) then some true else (bif (!decide (c.1.2.2.2.1 = e.m)) then some true else (bif (!eqZ (c.1.2.2.2.2.1.length:Int) (e.names.length:Int)) then some true else ((some lb).bind fun l10=>some (!l10))))))):=by
      repeat' first
       | exact tot_some _
       | refine tot_cond ?_ ?_
       | refine tot_bind ?_ fun _=>?_
     exact⟨v,hv,fun _ _=>h1⟩
    ·rw[decide_eq_false h1]
     exact⟨true,rfl,fun h=>by cases h⟩
   ·rw[decide_eq_false h0,cond_false]
    obtain⟨v,hv⟩:Tot (bif (!eqZ c.1.2.1 e.n) then some true else (bif (!decide (c.1.2.2.1 = e.s)) then some true else (bif (!decide (c.1.2.2.2.1 = e.m)) then some true else (bif (!eqZ (c.1.2.2.2.2.1.length:Int) (e.names.length:Int)) then some true else ((some lb).bind fun l11=>some (!l11)))))):=by
     repeat' first
      | exact tot_some _
      | refine tot_cond ?_ ?_
      | refine tot_bind ?_ fun _=>?_
    exact⟨v,hv,fun _ h=>absurd h h0⟩
  obtain⟨v,hv,hv2⟩:=chk
  rw[hv,bind_in]
  cases v with
  | true=>exact⟨false,rfl,fun h=>by cases h⟩
  | false =>
  rw[cond_false]
  have hcl:=hv2 rfl
  obtain⟨b,hb,hb2⟩:=loopF_inv (body:=fun x=>syntax_rightExp.b1 (syntax_rightExp.rec n) (unE e.args) ((d + 1:Nat):Int) x) (fun i x=>x = (i:Int) ∧ ∀ j (hj:j < e.args.length),j < i → okE d e.args[j]) (Q:=fun b=>b = true → ∀ a ∈ e.args,okE d a) e.args.length (x:=0) ⟨rfl,fun j hj h=>absurd h (by omega)⟩ (fun i hi x hx=>by
   obtain⟨rfl,hP⟩:=hx
   unfold syntax_rightExp.b1
   simp only[fe1,fe2]
   rw[unE_len,ltZ_eq,decide_eq_true (by omega),cond_true,idx_unE hi,bind_in,z64_i (by omega),bind_in]
   obtain⟨b,hb,hb2⟩:=rexp_rec d n q e.args[i] (by omega) (by omega) (s3 _ (List.getElem_mem hi))
   unfold tupE
   have e1:((d + 1:Nat):Int) - 1 = (d:Int):=by omega
   simp only[e1,hb,bind_in]
   cases b with
   | false=>exact .inr ⟨false,rfl,fun h=>by cases h⟩
   | true =>
    rw[Bool.not_true,cond_false,z64_succ (by omega),bind_in]
    refine .inl ⟨_,rfl,rfl,fun j hj h=>?_⟩
    by_cases hji:j = i
    ·subst hji; exact hb2 rfl
    ·exact hP j hj (by omega)) (fun x hx=>by
   obtain⟨rfl,hP⟩:=hx
   unfold syntax_rightExp.b1
   rw[unE_len,ltZ_eq,decide_eq_false (by omega),cond_false]
   refine⟨true,rfl,fun _ a ha=>?_⟩
   obtain⟨j,hj,rfl⟩:=List.mem_iff_getElem.1 ha
   exact hP j hj hj) (by omega)
  refine⟨b,hb,fun h=>⟨s2,fun h'=>?_,fun h'=>?_,fun h'=>?_,fun h'=>?_,fun h'=>?_,hb2 h⟩⟩
  ·have:=hcl (by rw[f12 h']; omega); rw[f12 h'] at this; omega
  ·have:=hcl (by rw[f18 h']; omega); rw[f18 h'] at this; omega
  ·have:=hcl (by rw[f11 h']; omega); rw[f11 h'] at this; omega
  ·have:=hcl (by rw[f14 h']; omega); rw[f14 h'] at this; omega
  ·have:=hcl (by rw[f13 h']; omega); rw[f13 h'] at this; omega
noncomputable def rexpB (e:ExpT):Bool:=(syntax_RightExp e.op e.n e.s e.m e.names (unE e.args)).getD false
theorem rexp_ok {q:Nat} {e:ExpT} (h:shE q e):syntax_RightExp e.op e.n e.s e.m e.names (unE e.args) = some (rexpB e) ∧ (rexpB e = true → okE 12 e):=by
 obtain⟨b,hb,hb2⟩:=rexp_rec 12 bigFuel.n q e (by omega) (fuel_big (by omega)) h
 have:syntax_RightExp e.op e.n e.s e.m e.names (unE e.args) = some b:=by
  unfold syntax_RightExp syntax_rightExp
  rw[show (12:Int) = ((12:Nat):Int) from rfl,hb]; rfl
 unfold rexpB
 rw[this]
 exact⟨rfl,hb2⟩
theorem rfields_ok (l:List FieldT) (most:Int) (hl:l.length ≤ 1000):∃ b,syntax_rightFields (unL l) most = some b ∧ (b = true → (∀ f ∈ l,nameB f.nm = true ∧ rightS 4 f.kd f.fs = true) ∧ (l.length:Int) ≤ most):=by
 unfold syntax_rightFields
 exact loopF_inv (body:=fun x:Int × List (Bs × Bool)=>syntax_rightFields.b1 (unL l) most x.1 x.2) (fun i x=>∃ kn,x = ((i:Int),kn) ∧ ∀ j (hj:j < l.length),j < i → nameB l[j].nm = true ∧ rightS 4 l[j].kd l[j].fs = true) (Q:=fun b=>b = true → (∀ f ∈ l,nameB f.nm = true ∧ rightS 4 f.kd f.fs = true) ∧ (l.length:Int) ≤ most) l.length (x:=(0,[])) ⟨[],rfl,fun j hj h=>absurd h (by omega)⟩ (fun i hi x hx=>by
  obtain⟨kn,rfl,hP⟩:=hx
  unfold syntax_rightFields.b1 syntax_rightFields.j1
  simp only[fu1,fu2]
  have hr:syntax_RightType l[i].kd (unL l[i].fs) = some (rightS 4 l[i].kd l[i].fs):=by
   have:=right_ok l[i].kd l[i].fs
   unfold types_Right at this
   cases hx:syntax_RightType l[i].kd (unL l[i].fs) with
   | none=>rw[hx] at this; cases this
   | some b=>rw[hx] at this; exact this
  rw[un_len,ltZ_eq,decide_eq_true (by omega),cond_true,idx_un hi,bind_in,name_ok,hr,z64_succ (by omega)]
  simp only[bind_in]
  cases ((lookM kn l[i].nm).getD false) with
  | true=>exact .inr ⟨false,rfl,fun h=>by cases h⟩
  | false =>
  cases hnm:nameB l[i].nm with
  | false=>exact .inr ⟨false,rfl,fun h=>by cases h⟩
  | true =>
  cases hrt:rightS 4 l[i].kd l[i].fs with
  | false=>exact .inr ⟨false,rfl,fun h=>by cases h⟩
  | true =>
   refine .inl ⟨_,rfl,_,rfl,fun j hj h=>?_⟩
   by_cases hji:j = i
   ·subst hji; exact⟨hnm,hrt⟩
   ·exact hP j hj (by omega)) (fun x hx=>by
  obtain⟨kn,rfl,hP⟩:=hx
  unfold syntax_rightFields.b1
  rw[un_len,ltZ_eq,decide_eq_false (by omega),cond_false]
  refine⟨_,rfl,fun h=>⟨fun f hf=>?_,by rw[leZ_eq,decide_eq_true_eq] at h; exact h⟩⟩
  obtain⟨j,hj,rfl⟩:=List.mem_iff_getElem.1 hf
  exact hP j hj hj) (by omega)
theorem rexps_ok (l:List ExpT) (n:Int) (hl:l.length ≤ 1000) (hs:∀ e ∈ l,∃ q,shE q e):∃ b,syntax_rightExps (unE l) n = some b ∧ (b = true → (∀ e ∈ l,rexpB e = true) ∧ (l.length:Int) = n):=by
 unfold syntax_rightExps
 exact loopF_inv (body:=fun x=>syntax_rightExps.b1 (unE l) n x) (fun i x=>x = (i:Int) ∧ ∀ j (hj:j < l.length),j < i → rexpB l[j] = true) (Q:=fun b=>b = true → (∀ e ∈ l,rexpB e = true) ∧ (l.length:Int) = n) l.length (x:=0) ⟨rfl,fun j hj h=>absurd h (by omega)⟩ (fun i hi x hx=>by
  obtain⟨rfl,hP⟩:=hx
  unfold syntax_rightExps.b1
  simp only[fe1,fe2]
  obtain⟨q,hq⟩:=hs _ (List.getElem_mem hi)
  have hr:=(rexp_ok hq).1
  rw[unE_len,ltZ_eq,decide_eq_true (by omega),cond_true,idx_unE hi,bind_in,z64_succ (by omega)]
  unfold tupE
  simp only[hr,bind_in]
  cases hb:rexpB l[i] with
  | false=>exact .inr ⟨false,rfl,fun h=>by cases h⟩
  | true =>
   refine .inl ⟨_,rfl,rfl,fun j hj h=>?_⟩
   by_cases hji:j = i
   ·subst hji; exact hb
   ·exact hP j hj (by omega)) (fun x hx=>by
  obtain⟨rfl,hP⟩:=hx
  unfold syntax_rightExps.b1
  rw[unE_len,ltZ_eq,decide_eq_false (by omega),cond_false]
  refine⟨_,rfl,fun h=>⟨fun f hf=>?_,by rw[eqZ_eq,decide_eq_true_eq] at h; exact h⟩⟩
  obtain⟨j,hj,rfl⟩:=List.mem_iff_getElem.1 hf
  exact hP j hj hj) (by omega)
def bodyE (f:GFunc):ExpT := .mk f.2.2.2.2.2.1 f.2.2.2.2.2.2.1 f.2.2.2.2.2.2.2.1 f.2.2.2.2.2.2.2.2.1 f.2.2.2.2.2.2.2.2.2.1 f.2.2.2.2.2.2.2.2.2.2
structure ShM (m:GModule):Prop where
 uses:m.2.1.length ≤ 8
 vars:m.2.2.1.length ≤ 8
 init:m.2.2.2.1.length ≤ 8 ∧ ∀ e ∈ m.2.2.2.1,shE 16 e
 funcs:m.2.2.2.2.1.length ≤ 6 ∧ ∀ f ∈ m.2.2.2.2.1,f.2.2.1.length ≤ 8 ∧ shE 16 (bodyE f)
 old:m.2.2.2.2.2.2.1.length ≤ 8
 fwd:m.2.2.2.2.2.2.2.1.length ≤ 8 ∧ ∀ e ∈ m.2.2.2.2.2.2.2.1,shE 16 e
 back:m.2.2.2.2.2.2.2.2.length ≤ 8 ∧ ∀ e ∈ m.2.2.2.2.2.2.2.2,shE 16 e
structure OkM (m:GModule):Prop where
 name:nameB m.1 = true
 unames:∀ s ∈ m.2.1,nameB s = true
 vars:∀ f ∈ m.2.2.1,nameB f.nm = true ∧ rightS 4 f.kd f.fs = true
 init:(∀ e ∈ m.2.2.2.1,rexpB e = true) ∧ m.2.2.2.1.length = m.2.2.1.length
 funcs:∀ f ∈ m.2.2.2.2.1,nameB f.1 = true ∧ (∀ p ∈ f.2.2.1,nameB p.nm = true ∧ rightS 4 p.kd p.fs = true) ∧ rightS 4 f.2.2.2.1.1 f.2.2.2.1.2 = true ∧ rexpB (bodyE f) = true
 old:∀ f ∈ m.2.2.2.2.2.2.1,nameB f.nm = true ∧ rightS 4 f.kd f.fs = true
 fwd:(∀ e ∈ m.2.2.2.2.2.2.2.1,rexpB e = true) ∧ (m.2.2.2.2.2.1 = true → m.2.2.2.2.2.2.2.1.length = m.2.2.1.length)
 back:(∀ e ∈ m.2.2.2.2.2.2.2.2,rexpB e = true) ∧ m.2.2.2.2.2.2.2.2.length = m.2.2.2.2.2.2.1.length
noncomputable abbrev RightM (m:GModule):Option Bool:=syntax_Right m.1 m.2.1 (unL m.2.2.1) (unE m.2.2.2.1) m.2.2.2.2.1 m.2.2.2.2.2.1 (unL m.2.2.2.2.2.2.1) (unE m.2.2.2.2.2.2.2.1) (unE m.2.2.2.2.2.2.2.2)
theorem right3_ok (old:List FieldT) (fw bk:List ExpT) (vs:Int) (h1:old.length ≤ 8) (h2:fw.length ≤ 8 ∧ ∀ e ∈ fw,shE 16 e) (h3:bk.length ≤ 8 ∧ ∀ e ∈ bk,shE 16 e) :
  ∃ b,syntax_Right.j3 (unL old) (unE fw) (unE bk) vs = some b ∧ (b = true → (∀ f ∈ old,nameB f.nm = true ∧ rightS 4 f.kd f.fs = true) ∧ ((∀ e ∈ fw,rexpB e = true) ∧ (fw.length:Int) = vs) ∧ (∀ e ∈ bk,rexpB e = true) ∧ bk.length = old.length):=by
 unfold syntax_Right.j3
 obtain⟨b1,e1,f1⟩:=rfields_ok old 8 (by omega)
 obtain⟨b2,e2,f2⟩:=rexps_ok fw vs (by omega) fun e he=>⟨16,h2.2 e he⟩
 obtain⟨b3,e3,f3⟩:=rexps_ok bk (old.length:Int) (by omega) fun e he=>⟨16,h3.2 e he⟩
 rw[e1,bind_in,e2,un_len,e3]
 simp only[bind_in]
 cases b1 with
 | false=>exact⟨false,rfl,fun h=>by cases h⟩
 | true =>
 cases b2 with
 | false=>exact⟨false,rfl,fun h=>by cases h⟩
 | true =>
 cases b3 with
 | false=>exact⟨false,rfl,fun h=>by cases h⟩
 | true=>exact⟨true,rfl,fun _=>⟨(f1 rfl).1,f2 rfl,(f3 rfl).1,by have:=(f3 rfl).2; omega⟩⟩
theorem rightM_ok (m:GModule) (hs:ShM m):∃ b,RightM m = some b ∧ (b = true → OkM m):=by
 obtain⟨nm,us,vs,ini,fu,mv,old,fw,bk⟩:=m
 have hsu:us.length ≤ 8:=hs.uses
 have hsv:vs.length ≤ 8:=hs.vars
 have hsi:=hs.init
 have hsf:=hs.funcs
 have hso:old.length ≤ 8:=hs.old
 have hsw:=hs.fwd
 have hsb:=hs.back
 dsimp only at hsi hsf hsw hsb
 show ∃ b,syntax_Right nm us (unL vs) (unE ini) fu mv (unL old) (unE fw) (unE bk) = some b ∧ _
 unfold syntax_Right
 obtain⟨r1,h1,q1⟩:=loopF_inv (body:=fun x:Int × List (Bs × Bool)=>syntax_Right.b1 us x.1 x.2) (fun i x=>∃ kn,x = ((i:Int),kn) ∧ ∀ j (hj:j < us.length),j < i → nameB us[j] = true) (Q:=fun r=>r = .inr false ∨ r = .inl () ∧ ∀ s ∈ us,nameB s = true) us.length (x:=(0,[])) ⟨[],rfl,fun j hj h=>absurd h (by omega)⟩ (fun i hi x hx=>by
  obtain⟨kn,rfl,hP⟩:=hx
  unfold syntax_Right.b1 syntax_Right.j1
  rw[ltZ_eq,decide_eq_true (by omega),cond_true,idx_nat hi,bind_in,name_ok,z64_succ (by omega)]
  simp only[bind_in]
  cases ((lookM kn us[i]).getD false) with
  | true=>exact .inr ⟨_,rfl,.inl rfl⟩
  | false =>
  cases hnm:nameB us[i] with
  | false=>exact .inr ⟨_,rfl,.inl rfl⟩
  | true =>
   refine .inl ⟨_,rfl,_,rfl,fun j hj h=>?_⟩
   by_cases hji:j = i
   ·subst hji; exact hnm
   ·exact hP j hj (by omega)) (fun x hx=>by
  obtain⟨kn,rfl,hP⟩:=hx
  unfold syntax_Right.b1
  rw[ltZ_eq,decide_eq_false (by omega),cond_false]
  refine⟨_,rfl,.inr ⟨rfl,fun s hs=>?_⟩⟩
  obtain⟨j,hj,rfl⟩:=List.mem_iff_getElem.1 hs
  exact hP j hj hj) (by omega)
 rw[h1,bind_in]
 rcases q1 with rfl | ⟨rfl,hun⟩
 ·exact⟨false,rfl,fun h=>by cases h⟩
 dsimp only
 unfold syntax_Right.j6
 obtain⟨r2,h2,q2⟩:=loopF_inv (body:=fun x:Int × List (Bs × Bool)=>syntax_Right.b2 fu x.1 x.2) (fun i x=>∃ kn,x = ((i:Int),kn) ∧ ∀ j (hj:j < fu.length),j < i → nameB fu[j].1 = true ∧ (∀ p ∈ fu[j].2.2.1,nameB p.nm = true ∧ rightS 4 p.kd p.fs = true) ∧ rightS 4 fu[j].2.2.2.1.1 fu[j].2.2.2.1.2 = true ∧ rexpB (bodyE fu[j]) = true)
  (Q:=fun r=>r = .inr false ∨ r = .inl () ∧ ∀ f ∈ fu,nameB f.1 = true ∧ (∀ p ∈ f.2.2.1,nameB p.nm = true ∧ rightS 4 p.kd p.fs = true) ∧ rightS 4 f.2.2.2.1.1 f.2.2.2.1.2 = true ∧ rexpB (bodyE f) = true) fu.length (x:=(0,[])) ⟨[],rfl,fun j hj h=>absurd h (by omega)⟩ (fun i hi x hx=>by
  obtain⟨kn,rfl,hP⟩:=hx
  unfold syntax_Right.b2 syntax_Right.j2
  simp only[fu1,fu2,fe1,fe2]
  obtain⟨hf1,hf2⟩:=hsf.2 _ (List.getElem_mem hi)
  obtain⟨b1,e1,g1⟩:=rfields_ok fu[i].2.2.1 6 (by omega)
  have hr:syntax_RightType fu[i].2.2.2.1.1 (unL fu[i].2.2.2.1.2) = some (rightS 4 fu[i].2.2.2.1.1 fu[i].2.2.2.1.2):=by
   have:=right_ok fu[i].2.2.2.1.1 fu[i].2.2.2.1.2
   unfold types_Right at this
   cases hx:syntax_RightType fu[i].2.2.2.1.1 (unL fu[i].2.2.2.1.2) with
   | none=>rw[hx] at this; cases this
   | some b=>rw[hx] at this; exact this
  have he:syntax_RightExp fu[i].2.2.2.2.2.1 fu[i].2.2.2.2.2.2.1 fu[i].2.2.2.2.2.2.2.1 fu[i].2.2.2.2.2.2.2.2.1 fu[i].2.2.2.2.2.2.2.2.2.1 (unE fu[i].2.2.2.2.2.2.2.2.2.2) = some (rexpB (bodyE fu[i])):=(rexp_ok hf2).1
  rw[ltZ_eq,decide_eq_true (by omega),cond_true,idx_nat hi,bind_in,name_ok,z64_succ (by omega),e1,hr,he]
  simp only[bind_in]
  cases ((lookM kn fu[i].1).getD false) with
  | true=>exact .inr ⟨_,rfl,.inl rfl⟩
  | false =>
  cases hnm:nameB fu[i].1 with
  | false=>exact .inr ⟨_,rfl,.inl rfl⟩
  | true =>
  cases b1 with
  | false=>exact .inr ⟨_,rfl,.inl rfl⟩
  | true =>
  cases hrt:rightS 4 fu[i].2.2.2.1.1 fu[i].2.2.2.1.2 with
  | false=>exact .inr ⟨_,rfl,.inl rfl⟩
  | true =>
  cases hre:rexpB (bodyE fu[i]) with
  | false=>exact .inr ⟨_,rfl,.inl rfl⟩
  | true =>
  cases (!eqZ (anI .i64 fu[i].2.2.2.2.1 15) 0) with
  | true=>exact .inr ⟨_,rfl,.inl rfl⟩
  | false =>
   refine .inl ⟨_,rfl,_,rfl,fun j hj h=>?_⟩
   by_cases hji:j = i
   ·subst hji; exact⟨hnm,(g1 rfl).1,hrt,hre⟩
   ·exact hP j hj (by omega)) (fun x hx=>by
  obtain⟨kn,rfl,hP⟩:=hx
  unfold syntax_Right.b2
  rw[ltZ_eq,decide_eq_false (by omega),cond_false]
  refine⟨_,rfl,.inr ⟨rfl,fun s hs=>?_⟩⟩
  obtain⟨j,hj,rfl⟩:=List.mem_iff_getElem.1 hs
  exact hP j hj hj) (by omega)
 rw[h2,bind_in]
 rcases q2 with rfl | ⟨rfl,hfn⟩
 ·exact⟨false,rfl,fun h=>by cases h⟩
 dsimp only
 unfold syntax_Right.j5
 obtain⟨b1,e1,g1⟩:=rfields_ok vs 8 (by omega)
 obtain⟨b2,e2,g2⟩:=rexps_ok ini (vs.length:Int) (by omega) fun e he=>⟨16,hsi.2 e he⟩
 rw[name_ok,e1,un_len,e2]
 simp only[bind_in]
 cases hnm:nameB nm with
 | false=>exact⟨false,rfl,fun h=>by cases h⟩
 | true =>
 cases ltZ 12 (us.length:Int) with
 | true=>exact⟨false,rfl,fun h=>by cases h⟩
 | false =>
 cases ltZ 30 (fu.length:Int) with
 | true=>exact⟨false,rfl,fun h=>by cases h⟩
 | false =>
 cases b1 with
 | false=>exact⟨false,rfl,fun h=>by cases h⟩
 | true =>
 cases b2 with
 | false=>exact⟨false,rfl,fun h=>by cases h⟩
 | true =>
 simp only[Bool.not_true,cond_false,bind_in]
 unfold syntax_Right.j4
 rw[un_len,un_len,cond_false]
 have fin:∀ vl:Int,(mv = true → vl = (vs.length:Int)) → ∃ b,syntax_Right.j3 (unL old) (unE fw) (unE bk) vl = some b ∧ (b = true → OkM (nm,us,vs,ini,fu,mv,old,fw,bk)):=fun vl hvl=>by
  obtain⟨b,hb,hb2⟩:=right3_ok old fw bk vl hso hsw hsb
  refine⟨b,hb,fun h=>?_⟩
  obtain⟨k1,k2,k3⟩:=hb2 h
  exact⟨hnm,hun,(g1 rfl).1,⟨(g2 rfl).1,by have:=(g2 rfl).2; show ini.length = vs.length; omega⟩,hfn,k1,⟨k2.1,fun h=>by have h1:=k2.2; have h2:=hvl h; show fw.length = vs.length; omega⟩,k3⟩
 cases mv with
 | true =>
  rw[Bool.not_true,cond_false,bind_in]
  exact fin _ fun _=>rfl
 | false =>
  rw[Bool.not_false,cond_true]
  cases ltZ 0 (old.length:Int) with
  | true=>exact⟨false,rfl,fun h=>by cases h⟩
  | false =>
   rw[cond_false,bind_in]
   exact fin _ fun h=>by cases h
end Go.Proofs.Ytaocfjifacnokaa
namespace Go.Proofs.Ytaocfjifacnokaa
open Go.Lad
theorem size_rec:∀ (lv n:Nat) (e:ExpT) (most lev:Int),lev ≤ lv → -9 ≤ lev → lv ≤ 100 → lv < n → 0 ≤ most → most ≤ 1000 → ∃ r,ladinglaw16_size.rec n e.op e.n e.s e.m e.names (unE e.args) most lev = some r ∧ 1 ≤ r ∧ r ≤ most + 1 ∧ (r ≤ most → shE lv e)
 | lv,0,_,_,_,_,_,_,h,_,_=>absurd h (by omega)
 | lv,n + 1,e,most,lev,h1,h2,h3,h4,h5,h6=>by
  show ∃ r,ladinglaw16_size.body (ladinglaw16_size.rec n) e.op e.n e.s e.m e.names (unE e.args) most lev = some r ∧ _
  unfold ladinglaw16_size.body ladinglaw16_size.j2
  simp only[ltZ_eq,bif_dec]
  have hbad:∃ r,((some true).bind fun x=>bif x then ((z64 (most + 1)).bind fun v10=>some v10) else loopF (fun x=>ladinglaw16_size.b1 (ladinglaw16_size.rec n) (unE e.args) most lev x.1 x.2) (1,0)) = some r ∧ 1 ≤ r ∧ r ≤ most + 1 ∧ (r ≤ most → shE lv e):=by
   rw[bind_in,cond_true,z64_i (by omega),bind_in]
   exact⟨_,rfl,by omega,by omega,fun h=>by omega⟩
  by_cases hl:lev < 1
  ·rw[if_pos hl]; exact hbad
  rw[if_neg hl]
  by_cases h12:(12:Int) < (e.names.length:Int)
  ·rw[if_pos h12]; exact hbad
  rw[if_neg h12]
  by_cases h60:(60:Int) < (e.s.length:Int)
  ·rw[if_pos h60]; exact hbad
  rw[if_neg h60]
  by_cases h61:(60:Int) < (e.m.length:Int)
  ·rw[decide_eq_true h61]; exact hbad
  rw[decide_eq_false h61,bind_in,cond_false]
  obtain⟨lv',rfl⟩:∃ k,lv = k + 1:=⟨lv - 1,by omega⟩
  obtain⟨r,hr,hq1,hq2,hq3⟩:=loopF_inv (body:=fun x=>ladinglaw16_size.b1 (ladinglaw16_size.rec n) (unE e.args) most lev x.1 x.2)
   (fun i x=>∃ nn:Int,x = (nn,(i:Int)) ∧ 1 + (i:Int) ≤ nn ∧ nn ≤ most + 1 ∧ i ≤ e.args.length ∧ (nn ≤ most → ∀ j (hj:j < e.args.length),j < i → shE lv' e.args[j])) (Q:=fun r=>1 ≤ r ∧ r ≤ most + 1 ∧ (r ≤ most → e.args.length ≤ 1000 ∧ ∀ a ∈ e.args,shE lv' a)) (most.toNat + 1) (x:=(1,0)) ⟨1,rfl,by omega,by omega,by omega,fun _ j hj h=>absurd h (by omega)⟩ (fun i hi x hx=>by
   obtain⟨nn,rfl,g1,g2,g3,g4⟩:=hx
   unfold ladinglaw16_size.b1 ladinglaw16_size.j1
   simp only[fe1,fe2]
   rw[unE_len]
   simp only[ltZ_eq,leZ_eq]
   by_cases hil:i < e.args.length
   rotate_left
   ·rw[decide_eq_false (by omega),cond_false,bind_in,cond_false]
    have:i = e.args.length:=by omega
    refine .inr ⟨_,rfl,by omega,by omega,fun h=>⟨by omega,fun a ha=>?_⟩⟩
    obtain⟨j,hj,rfl⟩:=List.mem_iff_getElem.1 ha
    exact g4 h j hj (by omega)
   rw[decide_eq_true (show (i:Int) < (e.args.length:Int) by omega),cond_true,bind_in,idx_unE hil]
   by_cases hm:nn ≤ most
   rotate_left
   ·rw[decide_eq_false hm,cond_false]
    exact .inr ⟨_,rfl,by omega,by omega,fun h=>absurd h hm⟩
   rw[decide_eq_true hm,cond_true,bind_in,z64_i (by omega),bind_in,z64_i (by omega),bind_in]
   obtain⟨r,hr,r1,r2,r3⟩:=size_rec lv' n e.args[i] (most - nn) (lev - 1) (by omega) (by omega) (by omega) (by omega) (by omega) (by omega)
   unfold tupE
   simp only[hr,bind_in]
   rw[z64_i (by omega),bind_in,z64_succ (by omega),bind_in]
   refine .inl ⟨_,rfl,nn + r,rfl,by omega,by omega,by omega,fun h j hj hji=>?_⟩
   by_cases hje:j = i
   ·subst hje; exact r3 (by omega)
   ·exact g4 (by omega) j hj (by omega)) (fun x hx=>by
   obtain⟨nn,rfl,g1,g2,g3,g4⟩:=hx
   omega) (by omega)
  refine⟨r,hr,hq1,hq2,fun h=>?_⟩
  obtain⟨k1,k2⟩:=hq3 h
  exact⟨by omega,k1,k2⟩
theorem size_ok (e:ExpT):∃ r,ladinglaw16_size e.op e.n e.s e.m e.names (unE e.args) 60 16 = some r ∧ (r ≤ 60 → shE 16 e):=by
 obtain⟨r,h1,_,_,h4⟩:=size_rec 16 bigFuel.n e 60 16 (by omega) (by omega) (by omega) (fuel_big (by omega)) (by omega) (by omega)
 exact⟨r,h1,h4⟩
theorem exps_ok (l:List ExpT):∃ b,ladinglaw16_exps (unE l) = some b ∧ (b = true → l.length ≤ 8 ∧ ∀ e ∈ l,shE 16 e):=by
 unfold ladinglaw16_exps
 exact loopF_inv (body:=fun x=>ladinglaw16_exps.b1 (unE l) x) (fun i x=>x = (i:Int) ∧ i ≤ l.length ∧ ∀ j (hj:j < l.length),j < i → shE 16 l[j]) (Q:=fun b=>b = true → l.length ≤ 8 ∧ ∀ e ∈ l,shE 16 e) 9 (x:=0) ⟨rfl,by omega,fun j hj h=>absurd h (by omega)⟩ (fun i hi x hx=>by
  obtain⟨rfl,hil,hP⟩:=hx
  unfold ladinglaw16_exps.b1 ladinglaw16_exps.j1
  simp only[fe1,fe2,ltZ_eq]
  rw[unE_len]
  by_cases hl:i < l.length
  rotate_left
  ·rw[decide_eq_false (by omega),cond_false,bind_in,cond_false]
   refine .inr ⟨_,rfl,fun h=>?_⟩
   rw[leZ_eq,decide_eq_true_eq] at h
   refine⟨by omega,fun a ha=>?_⟩
   obtain⟨j,hj,rfl⟩:=List.mem_iff_getElem.1 ha
   exact hP j hj (by omega)
  rw[decide_eq_true (show (i:Int) < (l.length:Int) by omega),cond_true,decide_eq_true (show (i:Int) < 9 by omega),bind_in,cond_true,idx_unE hl,bind_in]
  obtain⟨r,hr,hr2⟩:=size_ok l[i]
  unfold tupE
  simp only[hr,bind_in]
  by_cases h60:(60:Int) < r
  ·rw[decide_eq_true h60]; exact .inr ⟨_,rfl,fun h=>by cases h⟩
  ·rw[decide_eq_false h60,cond_false,z64_succ (by omega),bind_in]
   refine .inl ⟨_,rfl,rfl,by omega,fun j hj hji=>?_⟩
   by_cases hje:j = i
   ·subst hje; exact hr2 (by omega)
   ·exact hP j hj (by omega)) (fun x hx=>by
  obtain⟨rfl,hil,hP⟩:=hx
  unfold ladinglaw16_exps.b1 ladinglaw16_exps.j1
  simp only[ltZ_eq]
  rw[unE_len,leZ_eq,decide_eq_false (show ¬ (((9:Nat):Int) < 9) by omega)]
  refine⟨false,?_,fun h=>by cases h⟩
  rw[decide_eq_false (show ¬ ((l.length:Int) ≤ 8) by omega)]
  cases decide (((9:Nat):Int) < (l.length:Int)) <;> rfl) (by omega)
theorem fields_ok (l:List FieldT):∃ b,ladinglaw16_fields (unL l) = some b ∧ (b = true → l.length ≤ 8):=by
 unfold ladinglaw16_fields
 exact loopF_inv (body:=fun x=>ladinglaw16_fields.b1 (unL l) x) (fun i x=>x = (i:Int) ∧ i ≤ l.length) (Q:=fun b=>b = true → l.length ≤ 8) 9 (x:=0) ⟨rfl,by omega⟩ (fun i hi x hx=>by
  obtain⟨rfl,hil⟩:=hx
  unfold ladinglaw16_fields.b1 ladinglaw16_fields.j2 ladinglaw16_fields.j1
  simp only[fx1,ltZ_eq]
  rw[un_len]
  by_cases hl:i < l.length
  rotate_left
  ·rw[decide_eq_false (by omega),cond_false,bind_in,cond_false]
   refine .inr ⟨_,rfl,fun h=>?_⟩
   rw[leZ_eq,decide_eq_true_eq] at h
   omega
  rw[decide_eq_true (show (i:Int) < (l.length:Int) by omega),cond_true,decide_eq_true (show (i:Int) < 9 by omega),bind_in,cond_true,idx_un hl,bind_in,bind_in]
  obtain⟨b,hb⟩:=light_ok [(l[i].kd,l[i].fs)] (by simp)
  rw[hb]
  simp only[bind_in]
  by_cases h60:(60:Int) < (l[i].nm.length:Int)
  ·rw[decide_eq_true h60]; exact .inr ⟨_,rfl,fun h=>by cases h⟩
  ·rw[decide_eq_false h60,cond_false,bind_in]
   cases b with
   | false=>exact .inr ⟨_,rfl,fun h=>by cases h⟩
   | true =>
    rw[Bool.not_true,cond_false,z64_succ (by omega),bind_in]
    exact .inl ⟨_,rfl,rfl,by omega⟩) (fun x hx=>by
  obtain⟨rfl,hil⟩:=hx
  unfold ladinglaw16_fields.b1 ladinglaw16_fields.j2
  simp only[ltZ_eq]
  rw[un_len,leZ_eq,decide_eq_false (show ¬ (((9:Nat):Int) < 9) by omega)]
  refine⟨false,?_,fun h=>by cases h⟩
  rw[decide_eq_false (show ¬ ((l.length:Int) ≤ 8) by omega)]
  cases decide (((9:Nat):Int) < (l.length:Int)) <;> rfl) (by omega)
noncomputable abbrev ModB (m:GModule):Option Bool:=ladinglaw16_module m.1 m.2.1 (unL m.2.2.1) (unE m.2.2.2.1) m.2.2.2.2.1 m.2.2.2.2.2.1 (unL m.2.2.2.2.2.2.1) (unE m.2.2.2.2.2.2.2.1) (unE m.2.2.2.2.2.2.2.2)
theorem one_exp (f:GFunc):([(f.2.2.2.2.2.1,f.2.2.2.2.2.2.1,f.2.2.2.2.2.2.2.1,f.2.2.2.2.2.2.2.2.1,f.2.2.2.2.2.2.2.2.2.1,f.2.2.2.2.2.2.2.2.2.2)]:List GExp) = unE [bodyE f]:=rfl
theorem module_ok (m:GModule):∃ b,ModB m = some b ∧ (b = true → ShM m):=by
 obtain⟨nm,us,vs,ini,fu,mv,old,fw,bk⟩:=m
 show ∃ b,ladinglaw16_module nm us (unL vs) (unE ini) fu mv (unL old) (unE fw) (unE bk) = some b ∧ _
 unfold ladinglaw16_module
 obtain⟨r1,h1,q1⟩:=loopF_inv (body:=fun x=>ladinglaw16_module.b1 fu x) (fun i x=>x = (i:Int) ∧ i ≤ fu.length ∧ ∀ j (hj:j < fu.length),j < i → fu[j].2.2.1.length ≤ 8 ∧ shE 16 (bodyE fu[j])) (Q:=fun r=>r = .inr false ∨ r = .inl () ∧ (fu.length ≤ 6 → ∀ f ∈ fu,f.2.2.1.length ≤ 8 ∧ shE 16 (bodyE f))) 7 (x:=0) ⟨rfl,by omega,fun j hj h=>absurd h (by omega)⟩ (fun i hi x hx=>by
  obtain⟨rfl,hil,hP⟩:=hx
  unfold ladinglaw16_module.b1 ladinglaw16_module.j2 ladinglaw16_module.j1
  simp only[fu1,fu2,fx1,fxe1,ltZ_eq]
  by_cases hl:i < fu.length
  rotate_left
  ·rw[decide_eq_false (by omega),cond_false,bind_in,cond_false]
   refine .inr ⟨_,rfl,.inr ⟨rfl,fun _ a ha=>?_⟩⟩
   obtain⟨j,hj,rfl⟩:=List.mem_iff_getElem.1 ha
   exact hP j hj (by omega)
  rw[decide_eq_true (show (i:Int) < (fu.length:Int) by omega),cond_true,decide_eq_true (show (i:Int) < 7 by omega),bind_in,cond_true,idx_nat hl,bind_in]
  obtain⟨b1,e1,g1⟩:=fields_ok fu[i].2.2.1
  obtain⟨b2,e2⟩:=light_ok [(fu[i].2.2.2.1.1,fu[i].2.2.2.1.2)] (by simp)
  obtain⟨b3,e3,g3⟩:=exps_ok [bodyE fu[i]]
  rw[e1,bind_in,e2,bind_in,one_exp,e3,bind_in]
  cases b1 with
  | false=>exact .inr ⟨_,rfl,.inl rfl⟩
  | true =>
  cases b2 with
  | false=>exact .inr ⟨_,rfl,.inl rfl⟩
  | true =>
  cases b3 with
  | false=>exact .inr ⟨_,rfl,.inl rfl⟩
  | true =>
  simp only[Bool.not_true,cond_false,bind_in]
  by_cases h60:(60:Int) < (fu[i].1.length:Int)
  ·rw[decide_eq_true h60]; exact .inr ⟨_,rfl,.inl rfl⟩
  ·rw[decide_eq_false h60,cond_false,z64_succ (by omega),bind_in]
   refine .inl ⟨_,rfl,rfl,by omega,fun j hj hji=>?_⟩
   by_cases hje:j = i
   ·subst hje; exact⟨g1 rfl,(g3 rfl).2 _ List.mem_cons_self⟩
   ·exact hP j hj (by omega)) (fun x hx=>by
  obtain⟨rfl,hil,hP⟩:=hx
  unfold ladinglaw16_module.b1 ladinglaw16_module.j2
  simp only[ltZ_eq]
  rw[decide_eq_false (show ¬ (((7:Nat):Int) < 7) by omega)]
  refine⟨.inl (),?_,.inr ⟨rfl,fun h=>by omega⟩⟩
  cases decide (((7:Nat):Int) < (fu.length:Int)) <;> rfl) (by omega)
 rw[h1,bind_in]
 rcases q1 with rfl | ⟨rfl,hf⟩
 ·exact⟨false,rfl,fun h=>by cases h⟩
 dsimp only
 unfold ladinglaw16_module.j3
 obtain⟨b1,e1,g1⟩:=fields_ok vs
 obtain⟨b2,e2,g2⟩:=exps_ok ini
 obtain⟨b3,e3,g3⟩:=fields_ok old
 obtain⟨b4,e4,g4⟩:=exps_ok fw
 obtain⟨b5,e5,g5⟩:=exps_ok bk
 rw[e1,e2,e3,e4,e5]
 simp only[bind_in,leZ_eq]
 by_cases c1:(fu.length:Int) ≤ 6
 rotate_left
 ·rw[decide_eq_false c1]; exact⟨false,rfl,fun h=>by cases h⟩
 rw[decide_eq_true c1,cond_true]
 by_cases c2:(us.length:Int) ≤ 8
 rotate_left
 ·rw[decide_eq_false c2]; exact⟨false,rfl,fun h=>by cases h⟩
 rw[decide_eq_true c2,cond_true]
 cases b1 with
 | false=>exact⟨false,rfl,fun h=>by cases h⟩
 | true =>
 cases b2 with
 | false=>exact⟨false,rfl,fun h=>by cases h⟩
 | true =>
 cases b3 with
 | false=>exact⟨false,rfl,fun h=>by cases h⟩
 | true =>
 cases b4 with
 | false=>exact⟨false,rfl,fun h=>by cases h⟩
 | true =>
 cases b5 with
 | false=>exact⟨false,rfl,fun h=>by cases h⟩
 | true =>
 exact⟨_,rfl,fun _=>⟨by show us.length ≤ 8; omega,g1 rfl,g2 rfl,⟨by show fu.length ≤ 6; omega,hf (by omega)⟩,g3 rfl,g4 rfl,g5 rfl⟩⟩
def ShF (l:List GFace):Prop:=l.length ≤ 4 ∧ ∀ f ∈ l,f.2.length ≤ 6 ∧ ∀ s ∈ f.2,s.2.1.length ≤ 8
theorem seen_ok (l:List GFace):∃ b,ladinglaw16_seen l = some b ∧ (b = true → ShF l):=by
 unfold ladinglaw16_seen
 exact loopF_inv (body:=fun x=>ladinglaw16_seen.b2 l x) (fun i x=>x = (i:Int) ∧ i ≤ l.length ∧ ∀ j (hj:j < l.length),j < i → l[j].2.length ≤ 6 ∧ ∀ s ∈ l[j].2,s.2.1.length ≤ 8) (Q:=fun b=>b = true → ShF l) 5 (x:=0) ⟨rfl,by omega,fun j hj h=>absurd h (by omega)⟩ (fun i hi x hx=>by
  obtain⟨rfl,hil,hP⟩:=hx
  unfold ladinglaw16_seen.b2 ladinglaw16_seen.j4 ladinglaw16_seen.j3
  simp only[ltZ_eq]
  by_cases hl:i < l.length
  rotate_left
  ·rw[decide_eq_false (by omega),cond_false,bind_in,cond_false]
   refine .inr ⟨_,rfl,fun h=>?_⟩
   rw[leZ_eq,decide_eq_true_eq] at h
   refine⟨by omega,fun a ha=>?_⟩
   obtain⟨j,hj,rfl⟩:=List.mem_iff_getElem.1 ha
   exact hP j hj (by omega)
  rw[decide_eq_true (show (i:Int) < (l.length:Int) by omega),cond_true,decide_eq_true (show (i:Int) < 5 by omega),bind_in,cond_true]
  obtain⟨r,hr,hq⟩:=loopF_inv (body:=fun x=>ladinglaw16_seen.b1 l (i:Int) x) (fun k x=>x = (k:Int) ∧ k ≤ l[i].2.length ∧ ∀ j (hj:j < l[i].2.length),j < k → l[i].2[j].2.1.length ≤ 8) (Q:=fun r=>r = .inr (.inr false) ∨ r = .inl () ∧ (l[i].2.length ≤ 6 → ∀ s ∈ l[i].2,s.2.1.length ≤ 8)) 7 (x:=0) ⟨rfl,by omega,fun j hj h=>absurd h (by omega)⟩ (fun k hk x hx=>by
   obtain⟨rfl,hkl,hR⟩:=hx
   unfold ladinglaw16_seen.b1 ladinglaw16_seen.j2 ladinglaw16_seen.j1
   simp only[fx1,ltZ_eq]
   rw[idx_nat hl,bind_in,bind_in]
   by_cases hkk:k < l[i].2.length
   rotate_left
   ·rw[decide_eq_false (by omega),cond_false,bind_in,cond_false]
    refine .inr ⟨_,rfl,.inr ⟨rfl,fun _ a ha=>?_⟩⟩
    obtain⟨j,hj,rfl⟩:=List.mem_iff_getElem.1 ha
    exact hR j hj (by omega)
   rw[decide_eq_true (show (k:Int) < (l[i].2.length:Int) by omega),cond_true,decide_eq_true (show (k:Int) < 7 by omega),bind_in,cond_true,idx_nat hkk,bind_in]
   by_cases h8:(8:Int) < (l[i].2[k].2.1.length:Int)
   ·rw[decide_eq_true h8]; exact .inr ⟨_,rfl,.inl rfl⟩
   rw[decide_eq_false h8,cond_false]
   obtain⟨b1,e1⟩:=light_ok l[i].2[k].2.1 (by omega)
   obtain⟨b2,e2⟩:=light_ok [(l[i].2[k].2.2.1.1,l[i].2[k].2.2.1.2)] (by simp)
   rw[e1,bind_in,e2,bind_in]
   cases b1 with
   | false=>exact .inr ⟨_,rfl,.inl rfl⟩
   | true =>
   cases b2 with
   | false=>exact .inr ⟨_,rfl,.inl rfl⟩
   | true =>
    simp only[Bool.not_true,cond_false,bind_in]
    rw[z64_succ (by omega),bind_in]
    refine .inl ⟨_,rfl,rfl,by omega,fun j hj hjk=>?_⟩
    by_cases hje:j = k
    ·subst hje; omega
    ·exact hR j hj (by omega)) (fun x hx=>by
   obtain⟨rfl,hkl,hR⟩:=hx
   unfold ladinglaw16_seen.b1 ladinglaw16_seen.j2
   simp only[ltZ_eq]
   rw[idx_nat hl,bind_in,decide_eq_false (show ¬ (((7:Nat):Int) < 7) by omega)]
   refine⟨.inl (),?_,.inr ⟨rfl,fun h=>by omega⟩⟩
   cases decide (((7:Nat):Int) < (l[i].2.length:Int)) <;> rfl) (by omega)
  rw[hr,bind_in]
  rcases hq with rfl | ⟨rfl,hq⟩
  ·exact .inr ⟨_,rfl,fun h=>by cases h⟩
  dsimp only
  rw[idx_nat hl,bind_in]
  by_cases h6:(6:Int) < (l[i].2.length:Int)
  ·rw[decide_eq_true h6]; exact .inr ⟨_,rfl,fun h=>by cases h⟩
  ·rw[decide_eq_false h6,cond_false,z64_succ (by omega),bind_in]
   refine .inl ⟨_,rfl,rfl,by omega,fun j hj hji=>?_⟩
   by_cases hje:j = i
   ·subst hje; exact⟨by omega,hq (by omega)⟩
   ·exact hP j hj (by omega)) (fun x hx=>by
  obtain⟨rfl,hil,hP⟩:=hx
  unfold ladinglaw16_seen.b2 ladinglaw16_seen.j4
  simp only[ltZ_eq]
  rw[leZ_eq,decide_eq_false (show ¬ (((5:Nat):Int) < 5) by omega)]
  refine⟨false,?_,fun h=>by cases h⟩
  rw[decide_eq_false (show ¬ ((l.length:Int) ≤ 4) by omega)]
  cases decide (((5:Nat):Int) < (l.length:Int)) <;> rfl) (by omega)
end Go.Proofs.Ytaocfjifacnokaa
namespace Go.Proofs.Ytaocfjifacnokaa
open Go.Lad
def goL {α β:Type} (f:Nat → α → Option (Option β)) (e:Option β):Nat → List α → Option β
 | _,[]=>e
 | k,x :: r=>match f k x with
  | none=>none
  | some none=>goL f e (k + 1) r
  | some (some b)=>some b
theorem loop_go {α τ β:Type} {body:τ → Option (τ ⊕ β)} (S:Nat → τ) (l:List α) (f:Nat → α → Option (Option β)) (e:Option β)
  (h:∀ k (hk:k < l.length),body (S k) = match f k l[k] with | none=>none | some none=>some (.inl (S (k + 1))) | some (some b)=>some (.inr b))
  (hd:body (S l.length) = e.map .inr) (hn:l.length < 1606938044258990275541962092341162602522202993782792835301376):loopF body (S 0) = goL f e 0 l:=by
 have:∀ (r:List α) (k n:Nat),r = l.drop k → k ≤ l.length → r.length < n → iterM body n (S k) = goL f e k r:=by
  intro r
  induction r with
  | nil =>
   intro k n hr hk hn
   have:k = l.length:=by
    have:=congrArg List.length hr
    simp at this; omega
   subst this
   obtain⟨m,rfl⟩:∃ m,n = m + 1:=⟨n - 1,by simp at hn; omega⟩
   unfold iterM goL
   rw[hd]
   cases e <;> rfl
  | cons x r ih =>
   intro k n hr hk hn
   have hkl:k < l.length:=by
    have:=congrArg List.length hr
    simp at this; omega
   have hx:l[k] = x ∧ r = l.drop (k + 1):=by
    rw[List.drop_eq_getElem_cons hkl] at hr
    injection hr with h1 h2
    exact⟨h1.symm,h2⟩
   obtain⟨m,rfl⟩:∃ m,n = m + 1:=⟨n - 1,by simp at hn; omega⟩
   have hb:=h k hkl
   rw[hx.1] at hb
   unfold iterM goL
   rw[hb]
   cases hf:f k x with
   | none=>rfl
   | some o =>
    cases o with
    | none=>exact ih (k + 1) m hx.2 hkl (by simp at hn; omega)
    | some b=>rfl
 exact this l 0 bigFuel.n rfl (Nat.zero_le _) (by show l.length < 1606938044258990275541962092341162602522202993782792835301376; exact hn)
theorem goL_req {α β:Type} (t:α → Bool) (e:Option β):∀ (l:List α) (k:Nat),goL (fun _ x=>if t x = true then some none else none) e k l = if l.all t = true then e else none
 | [],_=>rfl
 | x :: r,k=>by
  unfold goL
  rw[List.all_cons]
  cases t x with
  | true=>simpa using goL_req t e r (k + 1)
  | false=>rfl
theorem goL_bad {α β:Type} (t:α → Bool) (e:Option β) (b:β):∀ (l:List α) (k:Nat),goL (fun _ x=>if t x = true then some none else some (some b)) e k l = if l.all t = true then e else some b
 | [],_=>rfl
 | x :: r,k=>by
  unfold goL
  rw[List.all_cons]
  cases t x with
  | true=>simpa using goL_bad t e b r (k + 1)
  | false=>rfl
noncomputable def sigB (s:GSig):Bool:=rightS 4 s.2.2.1.1 s.2.2.1.2 && s.2.1.all fun t=>rightS 4 t.1 t.2
noncomputable def faceB (f:GFace):Bool:=f.2.all sigB
noncomputable def facesB (l:List GFace):Bool:=l.all faceB
def addF (p:List (Bs × GFace)) (f:GFace):List (Bs × GFace):=if (lookM p f.1).isSome = true then p else putM p f.1 f
def facesM (l:List GFace):List (Bs × GFace):=l.foldl addF []
theorem rights_ok (l:List GType) (hl:l.length ≤ 1000):slices_ContainsFunc_api_Type_api_Type l = some (!l.all fun t=>rightS 4 t.1 t.2):=by
 unfold slices_ContainsFunc_api_Type_api_Type slices_IndexFunc_api_Type_api_Type
 rw[loop_idx l (fun t=>!rightS 4 t.1 t.2) (fun i hi=>by
  unfold slices_IndexFunc_api_Type_api_Type.b1 types_newJudge_1
  simp only[fu1,fu2]
  rw[ltZ_eq,decide_eq_true (by omega),cond_true,idx_nat hi,bind_in,right_ok,bind_in,bind_in,z64_succ (by omega)]
  cases (!rightS 4 l[i].1 l[i].2) <;> rfl) (by
  unfold slices_IndexFunc_api_Type_api_Type.b1
  rw[ltZ_eq,decide_eq_false (by omega),cond_false]) (by omega),bind_in,leZ_eq,idxN_any]
 congr 1
 clear hl
 induction l with
 | nil=>rfl
 | cons x r ih=>rw[List.any_cons,List.all_cons,Bool.not_and,ih]
theorem locals_ok (l:List FieldT) (hl:l.length ≤ 1000):slices_ContainsFunc_api_Field_api_Field (unL l) = some (!l.all fun f=>rightS 4 f.kd f.fs):=by
 unfold slices_ContainsFunc_api_Field_api_Field slices_IndexFunc_api_Field_api_Field
 rw[loop_idx l (fun f=>!rightS 4 f.kd f.fs) (fun i hi=>by
  unfold slices_IndexFunc_api_Field_api_Field.b1 types_TypeOf_1
  simp only[fu1,fu2]
  rw[un_len,ltZ_eq,decide_eq_true (by omega),cond_true,idx_un hi,bind_in,right_ok,bind_in,bind_in,z64_succ (by omega)]
  cases (!rightS 4 l[i].kd l[i].fs) <;> rfl) (by
  unfold slices_IndexFunc_api_Field_api_Field.b1
  rw[un_len,ltZ_eq,decide_eq_false (by omega),cond_false]) (by omega),bind_in,leZ_eq,idxN_any]
 congr 1
 clear hl
 induction l with
 | nil=>rfl
 | cons x r ih=>rw[List.any_cons,List.all_cons,Bool.not_and,ih]
theorem add_end (p:List (Bs × GFace)) (f:GFace):addF p f = if (lookM p f.1).isSome = true then p else putM p f.1 f:=rfl
theorem faces_step (l:List GFace) {i:Nat} (hi:i < l.length):facesM (l.take (i + 1)) = addF (facesM (l.take i)) l[i]:=by
 unfold facesM
 rw[take_succ hi,List.foldl_append]; rfl
theorem judge_ok (nm:Bs) (us:List Bs) (vs:List GField) (ini:List GExp) (fu:List GFunc) (mv:Bool) (old:List GField) (fw bk:List GExp) (l:List GFace) (hs:ShF l) :
  types_newJudge nm us vs ini fu mv old fw bk l = if facesB l = true then some (nm,us,vs,ini,fu,mv,old,fw,bk,0,facesM l) else none:=by
 obtain⟨hl,hs⟩:=hs
 unfold types_newJudge
 refine (loop_go (body:=fun x:Int × Bs × List Bs × List GField × List GExp × List GFunc × Bool × List GField × List GExp × List GExp × Int × List (Bs × GFace)=>types_newJudge.b2 l x.1 x.2.1 x.2.2.1 x.2.2.2.1 x.2.2.2.2.1 x.2.2.2.2.2.1 x.2.2.2.2.2.2.1 x.2.2.2.2.2.2.2.1 x.2.2.2.2.2.2.2.2.1 x.2.2.2.2.2.2.2.2.2.1 x.2.2.2.2.2.2.2.2.2.2.1 x.2.2.2.2.2.2.2.2.2.2.2)
  (fun i=>((i:Int),nm,us,vs,ini,fu,mv,old,fw,bk,0,facesM (l.take i))) l (fun _ x=>if faceB x = true then some none else none) (some (nm,us,vs,ini,fu,mv,old,fw,bk,0,facesM l)) (fun i hi=>?_) ?_ (by omega)).trans (goL_req _ _ _ _)
 ·obtain⟨hs1,hs2⟩:=hs _ (List.getElem_mem hi)
  have hin:loopF (fun x=>types_newJudge.b1 l[i] x) 0 = if faceB l[i] = true then some (.inl ()) else none:=by
   refine (loop_go (body:=fun x=>types_newJudge.b1 l[i] x) (fun k=>(k:Int)) l[i].2 (fun _ x=>if sigB x = true then some none else none) (some (.inl ())) (fun k hk=>?_) ?_ (by omega)).trans (goL_req _ _ _ _)
   ·unfold types_newJudge.b1 types_newJudge.j1
    simp only[fu1,fu2]
    rw[ltZ_eq,decide_eq_true (by omega),cond_true,idx_nat hk,bind_in,right_ok,bind_in,rights_ok _ (by have:=hs2 _ (List.getElem_mem hk); omega),z64_succ (by omega)]
    simp only[bind_in]
    unfold sigB
    cases rightS 4 l[i].2[k].2.2.1.1 l[i].2[k].2.2.1.2 with
    | false=>rfl
    | true=>cases (l[i].2[k].2.1.all fun t=>rightS 4 t.1 t.2) <;> rfl
   ·unfold types_newJudge.b1
    rw[ltZ_eq,decide_eq_false (by omega),cond_false]; rfl
  unfold types_newJudge.b2
  rw[ltZ_eq,decide_eq_true (by omega),cond_true,idx_nat hi,bind_in,hin]
  cases hb:faceB l[i] with
  | false=>rfl
  | true =>
   rw[if_pos rfl,if_pos rfl,bind_in]
   dsimp only
   unfold types_newJudge.j2
   rw[z64_succ (by omega),faces_step l hi,add_end]
   simp only[bind_in]
   cases hlk:(lookM (facesM (l.take i)) l[i].1).isSome <;> rfl
 ·unfold types_newJudge.b2
  rw[ltZ_eq,decide_eq_false (by omega),cond_false,List.take_length]; rfl
theorem judge2_ok (nm:Bs) (us:List Bs) (vs:List GField) (ini:List GExp) (fu:List GFunc) (mv:Bool) (old:List GField) (fw bk:List GExp) (l:List GFace) (hs:ShF l) :
  types_newJudge_v2 nm us vs ini fu mv old fw bk l = if facesB l = true then none else some ():=by
 obtain⟨hl,hs⟩:=hs
 unfold types_newJudge_v2
 refine (loop_go (body:=fun x:Int × Bs × List Bs × List GField × List GExp × List GFunc × Bool × List GField × List GExp × List GExp × Int × List (Bs × GFace)=>types_newJudge_v2.b2 l x.1 x.2.1 x.2.2.1 x.2.2.2.1 x.2.2.2.2.1 x.2.2.2.2.2.1 x.2.2.2.2.2.2.1 x.2.2.2.2.2.2.2.1 x.2.2.2.2.2.2.2.2.1 x.2.2.2.2.2.2.2.2.2.1 x.2.2.2.2.2.2.2.2.2.2.1 x.2.2.2.2.2.2.2.2.2.2.2)
  (fun i=>((i:Int),nm,us,vs,ini,fu,mv,old,fw,bk,0,facesM (l.take i))) l (fun _ x=>if faceB x = true then some none else some (some ())) none (fun i hi=>?_) ?_ (by omega)).trans (goL_bad _ _ _ _ _)
 ·obtain⟨hs1,hs2⟩:=hs _ (List.getElem_mem hi)
  have hin:loopF (fun x=>types_newJudge_v2.b1 l[i] x) 0 = if faceB l[i] = true then some (.inl ()) else some (.inr (.inr ())):=by
   refine (loop_go (body:=fun x=>types_newJudge_v2.b1 l[i] x) (fun k=>(k:Int)) l[i].2 (fun _ x=>if sigB x = true then some none else some (some (.inr (.inr ())))) (some (.inl ())) (fun k hk=>?_) ?_ (by omega)).trans (goL_bad _ _ _ _ _)
   ·unfold types_newJudge_v2.b1 types_newJudge_v2.j1
    simp only[fu1,fu2]
    rw[ltZ_eq,decide_eq_true (by omega),cond_true,idx_nat hk,bind_in,right_ok,bind_in,rights_ok _ (by have:=hs2 _ (List.getElem_mem hk); omega),z64_succ (by omega)]
    simp only[bind_in]
    unfold sigB
    cases rightS 4 l[i].2[k].2.2.1.1 l[i].2[k].2.2.1.2 with
    | false=>rfl
    | true=>cases (l[i].2[k].2.1.all fun t=>rightS 4 t.1 t.2) <;> rfl
   ·unfold types_newJudge_v2.b1
    rw[ltZ_eq,decide_eq_false (by omega),cond_false]; rfl
  unfold types_newJudge_v2.b2
  rw[ltZ_eq,decide_eq_true (by omega),cond_true,idx_nat hi,bind_in,hin]
  cases hb:faceB l[i] with
  | false=>rfl
  | true =>
   rw[if_pos rfl,if_pos rfl,bind_in]
   dsimp only
   unfold types_newJudge_v2.j2
   rw[z64_succ (by omega),faces_step l hi,add_end]
   simp only[bind_in]
   cases hlk:(lookM (facesM (l.take i)) l[i].1).isSome <;> rfl
 ·unfold types_newJudge_v2.b2
  rw[ltZ_eq,decide_eq_false (by omega),cond_false]
theorem look_val {α β:Type} [DecidableEq α] {m:List (α × β)} {x:α} {y:β} (h:lookM m x = some y):∃ p ∈ m,p.2 = y:=by
 unfold lookM at h
 rw[Option.bind_eq_some_iff] at h
 obtain⟨i,_,h⟩:=h
 rw[Option.map_eq_some_iff] at h
 obtain⟨p,hp,rfl⟩:=h
 exact⟨p,List.mem_of_getElem? hp,rfl⟩
theorem put_mem {α β:Type} [DecidableEq α] {m:List (α × β)} {x:α} {y:β} {p:α × β} (h:p ∈ putM m x y):p ∈ m ∨ p = (x,y):=by
 unfold putM at h
 split at h
 ·rcases List.mem_or_eq_of_mem_set h with h | h
  ·exact .inl h
  ·exact .inr h
 ·rcases List.mem_append.1 h with h | h
  ·exact .inl h
  ·exact .inr (List.mem_singleton.1 h)
theorem facesM_mem (l:List GFace):∀ p ∈ facesM l,p.2 ∈ l:=by
 have:∀ (r:List GFace) (m:List (Bs × GFace)),(∀ p ∈ m,p.2 ∈ l) → (∀ f ∈ r,f ∈ l) → ∀ p ∈ r.foldl addF m,p.2 ∈ l:=by
  intro r
  induction r with
  | nil=>intro m hm _ p hp; exact hm p hp
  | cons f r ih =>
   intro m hm hr p hp
   refine ih (addF m f) (fun q hq=>?_) (fun f hf=>hr f (List.mem_cons_of_mem _ hf)) p hp
   unfold addF at hq
   split at hq
   ·exact hm q hq
   ·rcases put_mem hq with hq | rfl
    ·exact hm q hq
    ·exact hr f List.mem_cons_self
 exact this l [] (fun p hp=>by cases hp) fun f hf=>hf
def cxM (m:GModule) (faces:List GFace):Cx:=⟨m.2.2.1,m.2.2.2.2.1,m.2.1,lookM (facesM faces)⟩
theorem sig_okL {s:GSig} (h:sigB s = true):(∀ t ∈ s.2.1,okL 4 t.2) ∧ okL 4 s.2.2.1.2:=by
 unfold sigB at h
 rw[Bool.and_eq_true,List.all_eq_true] at h
 exact⟨fun t ht=>right_okL (h.2 t ht),right_okL h.1⟩
theorem okC_of {m:GModule} {faces:List GFace} (hm:ShM m) (hf:ShF faces) (ho:OkM m) (hb:facesB faces = true):OkC (cxM m faces) where
 vars:=fun f hf=>right_okL (ho.vars f hf).2
 flen:=Nat.le_trans hm.funcs.1 (by omega)
 funcs:=fun f hf=>⟨Nat.le_trans (hm.funcs.2 f hf).1 (by omega),fun p hp=>right_okL ((ho.funcs f hf).2.1 p hp).2,right_okL (ho.funcs f hf).2.2.1⟩
 ulen:=Nat.le_trans hm.uses (by omega)
 look:=fun x face h=>by
  obtain⟨p,hp,e⟩:=look_val h
  have hmem:face ∈ faces:=by rw[← e]; exact facesM_mem faces p hp
  refine⟨Nat.le_trans (hf.2 face hmem).1 (by omega),fun g hg=>sig_okL ?_⟩
  unfold facesB at hb
  rw[List.all_eq_true] at hb
  have:=hb face hmem
  unfold faceB at this
  rw[List.all_eq_true] at this
  exact this g hg
noncomputable def localsB (L:List FieldT):Bool:=L.all fun f=>rightS 4 f.kd f.fs
noncomputable def rightB (m:GModule):Bool:=(RightM m).getD false
theorem rightB_ok {m:GModule} (hm:ShM m):RightM m = some (rightB m) ∧ (rightB m = true → OkM m):=by
 obtain⟨b,hb,hb2⟩:=rightM_ok m hm
 unfold rightB
 rw[hb]
 exact⟨rfl,hb2⟩
noncomputable def argB (m:GModule) (faces:List GFace) (L:List FieldT) (e:ExpT):Bool:=localsB L && (rexpB e && (rightB m && facesB faces))
noncomputable def typeOfS (m:GModule) (faces:List GFace) (L:List FieldT) (e:ExpT):GType × Int × Int :=
 if argB m faces L e = true then (if (findS (cxM m faces) 12 L 0 e).2.1 = 0 then ((findS (cxM m faces) 12 L 0 e).1,(findS (cxM m faces) 12 L 0 e).2.2,0) else ((0,[]),0,(findS (cxM m faces) 12 L 0 e).2.1))
 else ((0,[]),0,1)
noncomputable abbrev TypeOfM (m:GModule) (faces:List GFace) (L:List FieldT) (e:ExpT):Option (GType × Int × Int) :=
 types_TypeOf_v2 m.1 m.2.1 (unL m.2.2.1) (unE m.2.2.2.1) m.2.2.2.2.1 m.2.2.2.2.2.1 (unL m.2.2.2.2.2.2.1) (unE m.2.2.2.2.2.2.2.1) (unE m.2.2.2.2.2.2.2.2) faces (unL L) e.op e.n e.s e.m e.names (unE e.args)
theorem locals_okL {L:List FieldT} (h:localsB L = true):∀ f ∈ L,okL 4 f.fs:=fun f hf=>by
 unfold localsB at h
 rw[List.all_eq_true] at h
 exact right_okL (h f hf)
theorem find_ok {m:GModule} {faces:List GFace} {L:List FieldT} {e:ExpT} (hm:ShM m) (hf:ShF faces) (hL:L.length ≤ 1000) (hr:rightB m = true) (hb:facesB faces = true) (hl:localsB L = true) (he:okE 12 e) (nm:Bs) (ini:List GExp) (mv:Bool) (old:List GField) (fw bk:List GExp) :
  types_judge_find (unL L) e.op e.n e.s e.m e.names (unE e.args) nm m.2.1 (unL m.2.2.1) ini m.2.2.2.2.1 mv old fw bk 0 (facesM faces) =
   some ((findS (cxM m faces) 12 L 0 e).1,(findS (cxM m faces) 12 L 0 e).2.1,nm,m.2.1,unL m.2.2.1,ini,m.2.2.2.2.1,mv,old,fw,bk,(findS (cxM m faces) 12 L 0 e).2.2,facesM faces) :=
 find_rec (okC_of hm hf ((rightB_ok hm).2 hr) hb) nm ini mv old fw bk (facesM faces) rfl 12 bigFuel.n 4 L 0 e (by omega) (fuel_big (by omega)) (by omega) (by omega) he (locals_okL hl) (by omega)
theorem find_type {C:Cx} (hC:OkC C) {L:List FieldT} {e:ExpT} (hl:localsB L = true) (he:okE 12 e):okL 4100 (findS C 12 L 0 e).1.2:=okL_le (by omega) (find_okL hC 12 4 L 0 e (by omega) he (locals_okL hl))
theorem typeOf_ok {m:GModule} {faces:List GFace} {L:List FieldT} {e:ExpT} (hm:ShM m) (hf:ShF faces) (hL:L.length ≤ 1000) (he:shE 16 e):TypeOfM m faces L e = some (typeOfS m faces L e):=by
 show types_TypeOf_v2 m.1 m.2.1 (unL m.2.2.1) (unE m.2.2.2.1) m.2.2.2.2.1 m.2.2.2.2.2.1 (unL m.2.2.2.2.2.2.1) (unE m.2.2.2.2.2.2.2.1) (unE m.2.2.2.2.2.2.2.2) faces (unL L) e.op e.n e.s e.m e.names (unE e.args) = _
 unfold types_TypeOf_v2 typeOfS argB
 have h1:slices_ContainsFunc_api_Field_api_Field (unL L) = some (!localsB L):=locals_ok L hL
 have h2:=(rexp_ok he).1
 have h3:syntax_Right m.1 m.2.1 (unL m.2.2.1) (unE m.2.2.2.1) m.2.2.2.2.1 m.2.2.2.2.2.1 (unL m.2.2.2.2.2.2.1) (unE m.2.2.2.2.2.2.2.1) (unE m.2.2.2.2.2.2.2.2) = some (rightB m):=(rightB_ok hm).1
 rw[h1,bind_in,h2,h3]
 simp only[bind_in]
 cases hl:localsB L with
 | false=>rfl
 | true =>
 cases hre:rexpB e with
 | false=>rfl
 | true =>
 cases hrm:rightB m with
 | false=>rfl
 | true =>
 unfold types_TypeOf_v2.j1
 simp only[Bool.not_true,cond_false,bind_in,Bool.true_and]
 rw[judge_ok _ _ _ _ _ _ _ _ _ _ hf,judge2_ok _ _ _ _ _ _ _ _ _ _ hf]
 cases hfb:facesB faces with
 | false=>rfl
 | true =>
 rw[if_pos rfl,if_pos rfl,if_pos rfl,bind_in]
 have hfi:=find_ok hm hf hL hrm hfb hl ((rexp_ok he).2 hre) m.1 (unE m.2.2.2.1) m.2.2.2.2.2.1 (unL m.2.2.2.2.2.2.1) (unE m.2.2.2.2.2.2.2.1) (unE m.2.2.2.2.2.2.2.2)
 dsimp only
 rw[hfi,bind_in]
 dsimp only
 rw[eqZ_eq]
 by_cases h0:(findS (cxM m faces) 12 L 0 e).2.1 = 0
 ·rw[decide_eq_true h0,if_pos h0,Bool.not_true,cond_false]
  simp only[fu1,fu2,fx1]
  rw[fresh_ok (d:=4100) (by omega) _ _ (find_type (okC_of hm hf ((rightB_ok hm).2 hrm) hfb) hl ((rexp_ok he).2 hre)),bind_in]; rfl
 ·rw[decide_eq_false h0,if_neg h0]; rfl
theorem look_take {l:List FieldT} {k:Nat} (hk:k < l.length) (n:Bs):lookF (l.take (k + 1)) n = if l[k].nm = n then some l[k] else lookF (l.take k) n:=by
 rw[take_succ hk]
 unfold lookF
 rw[lastOf_snoc]
 by_cases h:l[k].nm = n <;> simp [h]
def belR (al:List FieldT) (f:FieldT):Bool:=match lookF al f.nm with | some g=>decide (g.kd = f.kd) && belL f.fs g.fs | none=>false
theorem lbelow_rec:∀ (d n q:Nat) (k:Int) (al:List FieldT) (k':Int) (bl:List FieldT),okL d bl → okL q al → d < n → ladinglaw16_below.rec n k (unL al) k' (unL bl) = some (decide (k = k') && belL bl al)
 | d,0,_,_,_,_,_,_,_,h=>absurd h (by omega)
 | d,n + 1,q,k,al,k',bl,hb,ha,hn=>by
  show ladinglaw16_below.body (ladinglaw16_below.rec n) k (unL al) k' (unL bl) = _
  unfold ladinglaw16_below.body
  rw[eqZ_eq]
  by_cases hk:k = k'
  rotate_left
  ·rw[decide_eq_false hk]; rfl
  rw[decide_eq_true hk,Bool.not_true,cond_false,Bool.true_and]
  have hlb:=okL_len hb
  have hla:=okL_len ha
  rw[loop_all bl (fun _ f=>belF f al) (fun i hi=>?_) ?_ (by omega),allI_all,belL_all]
  ·unfold ladinglaw16_below.b2
   rw[un_len,ltZ_eq,decide_eq_false (by omega),cond_false]
  ·obtain⟨e,he,hok⟩:=okL_mem hb hn (List.getElem_mem hi)
   have hin:loopF (fun x=>ladinglaw16_below.b1 (ladinglaw16_below.rec n) (unL al) (unL bl) (i:Int) x.1 x.2) (false,0) = some (belR al bl[i]):=by
    refine loopF_at (x:=(false,0)) (b:=belR al bl[i]) (fun j=>(belR (al.take j) bl[i],(j:Int))) al.length (by rw[List.take_zero]; rfl) (fun j hj=>?_) ?_ (by omega)
    ·unfold ladinglaw16_below.b1
     simp only[fu1,fu2]
     rw[un_len,ltZ_eq,decide_eq_true (by omega),cond_true,idx_un hj,bind_in,idx_un hi,bind_in,z64_succ (by omega)]
     unfold belR
     rw[look_take hj]
     by_cases hnm:al[j].nm = bl[i].nm
     ·have hoka:∃ q',okL q' al[j].fs:=by
       cases q with
       | zero=>have h0:al = []:=ha; subst h0; simp at hj
       | succ q=>exact⟨q,ha.2 _ (List.getElem_mem hj)⟩
      obtain⟨q',hq'⟩:=hoka
      have hr:=lbelow_rec e n q' al[j].kd al[j].fs bl[i].kd bl[i].fs hok hq' he
      rw[decide_eq_true hnm,cond_true,if_pos hnm]
      simp only[hr,bind_in]
     ·rw[decide_eq_false hnm,cond_false,if_neg hnm,bind_in]
    ·unfold ladinglaw16_below.b1
     simp only[ltZ_eq]
     rw[un_len,decide_eq_false (by omega),cond_false,List.take_length]
   unfold ladinglaw16_below.b2 ladinglaw16_below.j1
   rw[un_len,ltZ_eq,decide_eq_true (by omega),cond_true,hin,bind_in,z64_succ (by omega),belF_eq]
   show _ = some (if belR al bl[i] = true then _ else _)
   cases belR al bl[i] <;> rfl
theorem lbelow_ok {d q:Nat} (hd:d ≤ 1000000) (k:Int) (al:List FieldT) (k':Int) (bl:List FieldT) (hb:okL d bl) (ha:okL q al):ladinglaw16_below k (unL al) k' (unL bl) = some (decide (k = k') && belL bl al):=lbelow_rec d _ q k al k' bl hb ha (fuel_big hd)
end Go.Proofs.Ytaocfjifacnokaa
namespace Go.Proofs.Ytaocfjifacnokaa
open Go.Lad
def srtN (l:List Bs):Prop := ∀ i j (hi:i < j) (hj:j < l.length),Op.bytesLess (l[i]'(by omega)) l[j] = true
theorem srtN_of {l:List Bs} (h:∀ i (hj:i + 1 < l.length),Op.bytesLess (l[i]'(by omega)) l[i + 1] = true):srtN l:=by
 have key:∀ (m i:Nat) (hj:i + 1 + m < l.length),Op.bytesLess (l[i]'(by omega)) l[i + 1 + m] = true:=by
  intro m
  induction m with
  | zero=>intro i hj; exact h i hj
  | succ m ih=>intro i hj; exact bl_trans (ih i (by omega)) (h (i + 1 + m) hj)
 intro i j hi hj
 obtain⟨m,rfl⟩:∃ m,j = i + 1 + m:=⟨j - (i + 1),by omega⟩
 exact key m i hj
def leafP (o n:Int) (ns:List Bs):Prop:=(o = 13 → srtN ns) ∧ (o = 16 → n = 1 ∨ n = 2 ∨ n = 4 ∨ n = 8)
theorem names_ok (ns:List Bs) (h:ns.length ≤ 1000):∃ b,loopF (fun x=>syntax_leaf.b1 ns x) 0 = some b ∧ (b = true → srtN ns):=by
 refine loopF_inv (body:=fun x=>syntax_leaf.b1 ns x) (fun i x=>x = (i:Int) ∧ ∀ j (hj:j + 1 < ns.length),j + 1 < i → Op.bytesLess (ns[j]'(by omega)) ns[j + 1] = true) (Q:=fun b=>b = true → srtN ns) ns.length (x:=0) ⟨rfl,fun j hj h=>absurd h (by omega)⟩ (fun i hi x hx=>?_) (fun x hx=>?_) (by omega)
 ·obtain⟨rfl,hP⟩:=hx
  unfold syntax_leaf.b1 syntax_leaf.j1
  rw[ltZ_eq,decide_eq_true (by omega),cond_true,idx_nat hi,bind_in,name_ok,bind_in]
  cases nameB ns[i] with
  | false=>exact .inr ⟨false,rfl,fun h=>by cases h⟩
  | true =>
   rw[Bool.not_true,cond_false]
   by_cases h0:0 < i
   ·rw[ltZ_eq,decide_eq_true (by omega),cond_true,z64_pred h0 (by omega),bind_in,idx_nat (show i - 1 < ns.length by omega),bind_in,bind_in]
    by_cases hc:(Op.bytesLess ns[i] (ns[i - 1]'(by omega)) || decide (ns[i] = ns[i - 1]'(by omega))) = true
    ·rw[hc]; exact .inr ⟨false,rfl,fun h=>by cases h⟩
    ·rw[Bool.not_eq_true] at hc
     rw[hc,cond_false,z64_succ (by omega),bind_in]
     refine .inl ⟨_,rfl,rfl,fun j hj h=>?_⟩
     by_cases hji:j + 1 = i
     ·subst hji
      exact up_iff.1 (by unfold upN; rw[Bool.not_eq_true']; exact hc)
     ·exact hP j hj (by omega)
   ·have:i = 0:=by omega
    subst this
    refine .inl ⟨_,rfl,rfl,fun j hj h=>absurd h (by omega)⟩
 ·obtain⟨rfl,hP⟩:=hx
  unfold syntax_leaf.b1
  rw[ltZ_eq,decide_eq_false (by omega),cond_false]
  exact⟨_,rfl,fun _=>srtN_of fun i hj=>hP i hj hj⟩
theorem leaf_spec (o n:Int) (s m:Bs) (ns:List Bs) (ag:List GExp) (h:ns.length ≤ 1000) {b:Bool} (hb:syntax_leaf o n s m ns ag = some b):b = true → leafP o n ns:=by
 intro ht
 subst ht
 refine⟨fun h13=>?_,fun h16=>?_⟩
 ·subst h13
  obtain⟨b,h1,h2⟩:=names_ok ns h
  have:syntax_leaf 13 n s m ns ag = loopF (fun x=>syntax_leaf.b1 ns x) 0:=rfl
  rw[this,h1] at hb
  exact h2 (by simpa using hb)
 ·subst h16
  have:syntax_leaf 16 n s m ns ag = (bif (eqZ n 1) then some true else (bif (eqZ n 2) then some true else (bif (eqZ n 4) then some true else some (eqZ n 8)))):=rfl
  rw[this] at hb
  simp only[eqZ_eq,bif_dec] at hb
  split at hb
  ·exact .inl (by assumption)
  split at hb
  ·exact .inr (.inl (by assumption))
  split at hb
  ·exact .inr (.inr (.inl (by assumption)))
  ·simp at hb
   exact .inr (.inr (.inr hb))
def okN:Nat → ExpT → Prop
 | 0,_=>False
 | d + 1,e=>leafP e.op e.n e.names ∧ ∀ a ∈ e.args,okN d a
theorem rexpN_rec:∀ (d n q:Nat) (e:ExpT),d ≤ 12 → d < n → shE q e → syntax_rightExp.rec n e.op e.n e.s e.m e.names (unE e.args) (d:Int) = some true → okN d e
 | d,0,_,_,_,h,_,_=>absurd h (by omega)
 | d,n + 1,0,_,_,_,h,_=>h.elim
 | 0,n + 1,q + 1,e,_,_,_,h=>by
  have:syntax_rightExp.rec (n + 1) e.op e.n e.s e.m e.names (unE e.args) ((0:Nat):Int) = some false:=rfl
  rw[this] at h; cases h
 | d + 1,n + 1,q + 1,e,hd,hn,hs,h=>by
  obtain⟨s1,s2,s3⟩:=hs
  have h:syntax_rightExp.body (syntax_rightExp.rec n) e.op e.n e.s e.m e.names (unE e.args) ((d + 1:Nat):Int) = some true:=h
  unfold syntax_rightExp.body syntax_rightExp.j2 syntax_rightExp.j1 at h
  rw[eqZ_eq,decide_eq_false (show ¬ (((d + 1:Nat):Int) = 0) by omega),cond_false] at h
  cases c1:ltZ e.op 0 with
  | true=>rw[c1] at h; cases h
  | false =>
  rw[c1] at h
  cases c2:leZ 19 e.op with
  | true=>rw[c2] at h; cases h
  | false =>
  rw[c2,cond_false,bind_in,cond_false] at h
  obtain⟨c,hc,_⟩:=clean_ok e.op e.n e.s e.m e.names (unE e.args)
  obtain⟨lb,hlb⟩:=leaf_tot e.op e.n e.s e.m e.names (unE e.args) (by omega)
  rw[hc,bind_in,hlb] at h
  simp only[bind_in] at h
  have hif:∀ (v:Bool) (x:Option Bool),((some v).bind fun y=>bif y then some false else x) = some true → v = false ∧ x = some true:=by
   intro v x hx
   cases v with
   | true=>cases hx
   | false=>exact⟨rfl,hx⟩
  have chain:∀ (p1 p2 p3 p4:Bool),∃ v,(bif p1 then some true else (bif p2 then some true else (bif p3 then some true else (bif p4 then some true else some (!lb))))) = some v ∧ (v = false → lb = true):=by
   intro p1 p2 p3 p4
   cases p1 <;> cases p2 <;> cases p3 <;> cases p4 <;> cases lb <;> exact⟨_,rfl,fun h=>by first | rfl | cases h⟩
  have chk:∃ v,(bif (leZ 0 c.2) then (bif (!eqZ c.2 ((unE e.args).length:Int)) then some true else (bif (!eqZ c.1.2.1 e.n) then some true else (bif (!decide (c.1.2.2.1 = e.s)) then some true else (bif (!decide (c.1.2.2.2.1 = e.m)) then some true else (bif (!eqZ (c.1.2.2.2.2.1.length:Int) (e.names.length:Int)) then some true else some (!lb)))))) else
    (bif (!eqZ c.1.2.1 e.n) then some true else (bif (!decide (c.1.2.2.1 = e.s)) then some true else (bif (!decide (c.1.2.2.2.1 = e.m)) then some true else (bif (!eqZ (c.1.2.2.2.2.1.length:Int) (e.names.length:Int)) then some true else some (!lb)))))) = some v ∧ (v = false → lb = true):=by
   cases leZ 0 c.2 with
   | true =>
    cases !eqZ c.2 ((unE e.args).length:Int) with
    | true=>exact⟨true,rfl,fun h=>by cases h⟩
    | false=>exact chain _ _ _ _
   | false=>exact chain _ _ _ _
  obtain⟨v,hv,hv2⟩:=chk
  rw[hv] at h
  obtain⟨rfl,h⟩:=hif _ _ h
  refine⟨leaf_spec e.op e.n e.s e.m e.names (unE e.args) (by omega) hlb (hv2 rfl),?_⟩
  obtain⟨b,hb,hb2⟩:=loopF_inv (body:=fun x=>syntax_rightExp.b1 (syntax_rightExp.rec n) (unE e.args) ((d + 1:Nat):Int) x) (fun i x=>x = (i:Int) ∧ ∀ j (hj:j < e.args.length),j < i → okN d e.args[j]) (Q:=fun b=>b = true → ∀ a ∈ e.args,okN d a) e.args.length (x:=0) ⟨rfl,fun j hj h=>absurd h (by omega)⟩ (fun i hi x hx=>by
   obtain⟨rfl,hP⟩:=hx
   unfold syntax_rightExp.b1
   simp only[fe1,fe2]
   rw[unE_len,ltZ_eq,decide_eq_true (by omega),cond_true,idx_unE hi,bind_in,z64_i (by omega),bind_in]
   obtain⟨b,hb,_⟩:=rexp_rec d n q e.args[i] (by omega) (by omega) (s3 _ (List.getElem_mem hi))
   unfold tupE
   have e1:((d + 1:Nat):Int) - 1 = (d:Int):=by omega
   simp only[e1,hb,bind_in]
   cases b with
   | false=>exact .inr ⟨false,rfl,fun h=>by cases h⟩
   | true =>
    rw[Bool.not_true,cond_false,z64_succ (by omega),bind_in]
    refine .inl ⟨_,rfl,rfl,fun j hj h=>?_⟩
    by_cases hji:j = i
    ·subst hji; exact rexpN_rec d n q _ (by omega) (by omega) (s3 _ (List.getElem_mem hi)) hb
    ·exact hP j hj (by omega)) (fun x hx=>by
   obtain⟨rfl,hP⟩:=hx
   unfold syntax_rightExp.b1
   rw[unE_len,ltZ_eq,decide_eq_false (by omega),cond_false]
   refine⟨true,rfl,fun _ a ha=>?_⟩
   obtain⟨j,hj,rfl⟩:=List.mem_iff_getElem.1 ha
   exact hP j hj hj) (by omega)
  have h:loopF (fun x=>syntax_rightExp.b1 (syntax_rightExp.rec n) (unE e.args) ((d + 1:Nat):Int) x) 0 = some true:=h
  rw[hb] at h
  exact hb2 (by simpa using h)
theorem rexpN_ok {q:Nat} {e:ExpT} (h:shE q e) (hr:rexpB e = true):okN 12 e:=by
 obtain⟨b,hb,_⟩:=rexp_rec 12 bigFuel.n q e (by omega) (fuel_big (by omega)) h
 have h2:=(rexp_ok h).1
 unfold syntax_RightExp syntax_rightExp at h2
 rw[show (12:Int) = ((12:Nat):Int) from rfl,hb,hr] at h2
 have h3:b = true:=by simpa using h2
 subst h3
 exact rexpN_rec 12 bigFuel.n q e (by omega) (fuel_big (by omega)) h hb
end Go.Proofs.Ytaocfjifacnokaa
namespace Go.Proofs.Ytaocfjifacnokaa
open Go.Lad
theorem no12 (h:(12:Int) = 0):False:=by omega
theorem no13 (h:(13:Int) = 0):False:=by omega
theorem lastOf_no {α:Type} {p:α → Bool} {l:List α}:lastOf p l = none ↔ ∀ x ∈ l,p x = false:=by
 unfold lastOf
 simp
theorem subB_iff {t u:GType}:subB t u = true ↔ t.1 = u.1 ∧ belL u.2 t.2 = true:=by
 unfold subB
 rw[Bool.and_eq_true,decide_eq_true_eq]
theorem subB_trans {t u v:GType} (h1:subB t u = true) (h2:subB u v = true):subB t v = true:=by
 rw[subB_iff] at *
 exact⟨h1.1.trans h2.1,bel_trans v.2 h1.2 h2.2⟩
theorem bel_nil (l:List FieldT):belL [] l = true:=by rw[belL]
theorem sub_nil (k:Int) (l:List FieldT):subB (k,l) (k,[]) = true:=subB_iff.2 ⟨rfl,bel_nil l⟩
def LeT:List GType → List GType → Prop
 | [],[]=>True
 | t :: r,u :: s=>subB t u = true ∧ LeT r s
 | _,_=>False
def LeL:List FieldT → List FieldT → Prop
 | [],[]=>True
 | f :: r,g :: s=>f.nm = g.nm ∧ subB (f.kd,f.fs) (g.kd,g.fs) = true ∧ LeL r s
 | _,_=>False
theorem LeT_len:∀ {l m:List GType},LeT l m → l.length = m.length
 | [],[],_=>rfl
 | _ :: l,_ :: m,h=>congrArg (· + 1) (LeT_len h.2)
 | [],_ :: _,h=>h.elim
 | _ :: _,[],h=>h.elim
theorem LeT_g:∀ {l m:List GType},LeT l m → ∀ i,subB (gT l i) (gT m i) = true
 | [],[],_,i=>by unfold gT; simp; exact sub_nil 0 []
 | _ :: l,_ :: m,h,0=>h.1
 | _ :: l,_ :: m,h,i + 1=>LeT_g h.2 i
 | [],_ :: _,h,_=>h.elim
 | _ :: _,[],h,_=>h.elim
theorem LeT_K {k:Int}:∀ {l m:List GType},LeT l m → allK l k = allK m k
 | [],[],_=>rfl
 | t :: l,u :: m,h=>by
  have h1:=(subB_iff.1 h.1).1
  have h2:=LeT_K (k:=k) h.2
  unfold allK at *
  rw[List.all_cons,List.all_cons,h1,h2]
 | [],_ :: _,h=>h.elim
 | _ :: _,[],h=>h.elim
theorem LeL_app:∀ {l m r s:List FieldT},LeL l m → LeL r s → LeL (l ++ r) (m ++ s)
 | [],[],_,_,_,h=>h
 | _ :: l,_ :: m,_,_,h1,h=>⟨h1.1,h1.2.1,LeL_app h1.2.2 h⟩
 | [],_ :: _,_,_,h,_=>h.elim
 | _ :: _,[],_,_,h,_=>h.elim
theorem lastOf_cons {α:Type} (p:α → Bool) (x:α) (l:List α):lastOf p (x :: l) = match lastOf p l with | some y=>some y | none=>if p x = true then some x else none:=by
 unfold lastOf
 rw[List.reverse_cons,List.find?_append]
 cases l.reverse.find? p with
 | some y=>rfl
 | none =>
  rw[Option.none_or,List.find?_cons]
  cases p x <;> rfl
theorem LeL_look (n:Bs):∀ {l m:List FieldT},LeL l m → (lookF l n = none ∧ lookF m n = none) ∨ ∃ f g,lookF l n = some f ∧ lookF m n = some g ∧ subB (f.kd,f.fs) (g.kd,g.fs) = true
 | [],[],_=>.inl ⟨rfl,rfl⟩
 | f :: l,g :: m,h=>by
  unfold lookF
  rw[lastOf_cons,lastOf_cons]
  rcases LeL_look n h.2.2 with⟨h1,h2⟩ | ⟨f',g',h1,h2,h3⟩
  ·unfold lookF at h1 h2
   rw[h1,h2]
   dsimp only
   rw[h.1]
   by_cases hc:g.nm = n
   ·rw[decide_eq_true hc]
    exact .inr ⟨f,g,rfl,rfl,h.2.1⟩
   ·rw[decide_eq_false hc]
    exact .inl ⟨rfl,rfl⟩
  ·unfold lookF at h1 h2
   rw[h1,h2]
   exact .inr ⟨f',g',rfl,rfl,h3⟩
 | [],_ :: _,h=>h.elim
 | _ :: _,[],h=>h.elim
theorem LeL_R {l m:List FieldT} (h:LeL l m) (n:Bs):(lookR l n).2 = (lookR m n).2 ∧ subB (lookR l n).1 (lookR m n).1 = true:=by
 unfold lookR
 rcases LeL_look n h with⟨h1,h2⟩ | ⟨f,g,h1,h2,h3⟩
 ·rw[h1,h2]; exact⟨rfl,sub_nil 0 []⟩
 ·rw[h1,h2]; exact⟨rfl,h3⟩
theorem look_sub {a b:List FieldT} (h:belL b a = true) {n:Bs} (hn:(lookR b n).2 = true):(lookR a n).2 = true ∧ subB (lookR a n).1 (lookR b n).1 = true:=by
 unfold lookR at *
 cases hb:lookF b n with
 | none=>rw[hb] at hn; cases hn
 | some f =>
  obtain⟨hm,he⟩:=look_mem hb
  obtain⟨g,g1,g2,g3⟩:=belL_iff.1 h f hm
  rw[he] at g1
  rw[g1]
  exact⟨rfl,subB_iff.2 ⟨g2,g3⟩⟩
theorem upF_look (bl:List FieldT):∀ (al:List FieldT) (n:Bs) (f g:FieldT),lookF al n = some f → lookF bl n = some g → f.kd = g.kd → lookF (upL al bl) n = some (.mk n f.kd (upL f.fs g.fs))
 | [],n,f,g,h,_,_=>by cases h
 | a :: al,n,f,g,hf,hg,hk=>by
  rw[upL]
  unfold lookF at hf ⊢
  rw[lastOf_cons] at hf
  rw[lastOf_append']
  cases h:lastOf (fun f=>decide (f.nm = n)) al with
  | some y =>
   rw[h] at hf
   have hy:y = f:=by simpa using hf
   subst hy
   have:=upF_look bl al n y g h hg hk
   unfold lookF at this
   rw[this]
  | none =>
   rw[h] at hf
   dsimp only at hf
   by_cases hn:a.nm = n
   ·rw[decide_eq_true hn,if_pos rfl] at hf
    have ha:a = f:=by simpa using hf
    subst ha
    have hno:lastOf (fun f=>decide (f.nm = n)) (upL al bl) = none:=by
     rw[lastOf_no] at h ⊢
     intro x hx
     obtain⟨y,hy,e⟩:=upL_nm hx
     rw[e]; exact h y hy
    rw[hno]
    dsimp only
    rw[upF_eq,hn,hg]
    dsimp only
    rw[if_pos hk]
    show lastOf (fun f=>decide (f.nm = n)) [FieldT.mk n a.kd (upL a.fs g.fs)] = _
    rw[lastOf_cons]
    show (if decide (n = n) = true then _ else _) = _
    rw[decide_eq_true rfl]; rfl
   ·rw[decide_eq_false hn] at hf
    cases hf
where
 lastOf_append' {p:FieldT → Bool}:∀ {l m:List FieldT},lastOf p (l ++ m) = match lastOf p m with | some y=>some y | none=>lastOf p l:=by
  intro l m
  unfold lastOf
  rw[List.reverse_append,List.find?_append]
  cases m.reverse.find? p <;> rfl
 upL_nm {x:FieldT} {bl:List FieldT}:∀ {al:List FieldT},x ∈ upL al bl → ∃ y ∈ al,x.nm = y.nm:=by
  intro al
  induction al with
  | nil=>intro h; rw[upL] at h; cases h
  | cons a al ih =>
   intro h
   rw[upL] at h
   rcases List.mem_append.1 h with h | h
   ·rw[upF_eq] at h
    split at h
    ·split at h
     ·rw[List.mem_singleton] at h
      subst h
      exact⟨a,List.mem_cons_self,rfl⟩
     ·cases h
    ·cases h
   ·obtain⟨y,hy,e⟩:=ih h
    exact⟨y,List.mem_cons_of_mem _ hy,e⟩
theorem up_mono (a:List FieldT):∀ {b a' b':List FieldT},belL a a' = true → belL b b' = true → belL (upL a b) (upL a' b') = true:=by
 refine fl_ind (fun a=>∀ {b a' b':List FieldT},belL a a' = true → belL b b' = true → belL (upL a b) (upL a' b') = true) (fun {b a' b'} _ _=>by rw[upL]; exact bel_nil _) (fun n k l r ih1 ih2 {b a' b'} h1 h2=>?_) a
 rw[upL,belL_iff]
 intro x hx
 rcases List.mem_append.1 hx with hx | hx
 ·rw[upF_eq] at hx
  obtain⟨f',e1,e2,e3⟩:=belL_iff.1 h1 _ List.mem_cons_self
  split at hx
  ·rename_i g hg
   split at hx
   ·rename_i hk
    rw[List.mem_singleton] at hx
    obtain⟨hm,hn⟩:=look_mem hg
    obtain⟨g',g1,g2,g3⟩:=belL_iff.1 h2 g hm
    rw[hn] at g1
    refine⟨.mk (FieldT.mk n k l).nm f'.kd (upL f'.fs g'.fs),?_,?_,?_⟩
    ·rw[hx]; exact upF_look b' a' n f' g' e1 g1 (by rw[e2,g2,hk])
    ·rw[hx]; exact e2
    ·rw[hx]; exact ih1 e3 g3
   ·cases hx
  ·cases hx
 ·exact belL_iff.1 (ih2 (belL_iff.2 fun f hf=>belL_iff.1 h1 f (List.mem_cons_of_mem _ hf)) h2) x hx
theorem recF_get:∀ (ns:List Bs) (l:List GType) (h:ns.length = l.length) (i:Nat) (hi:i < ns.length),(recF ns l)[i]? = some (.mk ns[i] (l[i]'(by omega)).1 (l[i]'(by omega)).2)
 | [],_,_,i,hi=>absurd hi (by simp)
 | _ :: _,[],h,_,_=>by simp at h
 | n :: ns,t :: l,h,0,_=>rfl
 | n :: ns,t :: l,h,i + 1,hi=>by
  have:=recF_get ns l (by simpa using h) i (by simpa using hi)
  exact this
theorem recF_len2:∀ (ns:List Bs) (l:List GType) (h:ns.length = l.length),(recF ns l).length = ns.length
 | [],_,_=>by rw[recF]; rfl; simp
 | _ :: _,[],h=>by simp at h
 | n :: ns,t :: l,h=>congrArg (· + 1) (recF_len2 ns l (by simpa using h))
theorem recF_srt {ns:List Bs} {l:List GType} (h:ns.length = l.length) (hs:srtN ns):srt (recF ns l):=by
 intro i j hi hj
 have hl:=recF_len2 ns l h
 have e1:=recF_get ns l h i (by omega)
 have e2:=recF_get ns l h j (by omega)
 rw[List.getElem?_eq_getElem (by omega)] at e1 e2
 rw[Option.some.inj e1,Option.some.inj e2]
 exact hs i j hi (by omega)
theorem LeT_get:∀ {l m:List GType},LeT l m → ∀ i (h1:i < l.length) (h2:i < m.length),subB l[i] m[i] = true
 | _ :: l,_ :: m,h,0,_,_=>h.1
 | _ :: l,_ :: m,h,i + 1,h1,h2=>LeT_get h.2 i (by simpa using h1) (by simpa using h2)
 | [],[],_,_,h1,_=>absurd h1 (by simp)
 | [],_ :: _,h,_,_,_=>h.elim
 | _ :: _,[],h,_,_,_=>h.elim
theorem rec_mono {ns:List Bs} {l m:List GType} (h:LeT l m) (hn:ns.length = m.length) (hs:srtN ns):belL (recF ns m) (recF ns l) = true:=by
 have hl:=LeT_len h
 rw[belL_iff]
 intro f hf
 obtain⟨i,hi,rfl⟩:=List.mem_iff_getElem.1 hf
 have hi1:i < ns.length:=by rw[← recF_len2 ns m hn]; exact hi
 have hi2:i < (recF ns l).length:=by rw[recF_len2 ns l (by omega)]; exact hi1
 have e1:=recF_get ns m hn i hi1
 have e2:=recF_get ns l (by omega) i hi1
 rw[List.getElem?_eq_getElem hi] at e1
 rw[List.getElem?_eq_getElem hi2] at e2
 have hself:=look_self (recF_srt (l:=l) (by omega) hs) (List.getElem_mem hi2)
 rw[Option.some.inj e2] at hself
 rw[Option.some.inj e1]
 have hsub:=subB_iff.1 (LeT_get h i (by omega) (by omega))
 exact⟨_,hself,hsub.1,hsub.2⟩
theorem plain_mono {o:Int} {s:Bs} {ns:List Bs} {l m:List GType} (h:LeT l m) (hn:o = 13 → ns.length = m.length ∧ srtN ns) (h0:(plainS o s ns m).2 = 0):(plainS o s ns l).2 = 0 ∧ subB (plainS o s ns l).1 (plainS o s ns m).1 = true:=by
 unfold plainS at *
 have key:(plainB o s ns m).1 = true → (plainB o s ns l).1 = true ∧ subB (plainB o s ns l).2 (plainB o s ns m).2 = true:=by
  unfold plainB
  rw[LeT_K (k:=0) h,LeT_K (k:=1) h]
  split
  ·exact fun h=>⟨h,sub_nil _ _⟩
  split
  ·exact fun h=>⟨h,sub_nil _ _⟩
  split
  ·exact fun h=>⟨h,sub_nil _ _⟩
  split
  ·exact fun h=>⟨h,sub_nil _ _⟩
  split
  ·exact fun h=>⟨h,sub_nil _ _⟩
  split
  ·intro hm
   rw[Bool.and_eq_true,decide_eq_true_eq] at hm ⊢
   have g0:=subB_iff.1 (LeT_g h 0)
   have g1:=subB_iff.1 (LeT_g h 1)
   have g2:=subB_iff.1 (LeT_g h 2)
   obtain⟨m1,m2⟩:=hm
   unfold upR at m1 ⊢
   by_cases hk:(gT m 1).1 = (gT m 2).1
   ·have hk':(gT l 1).1 = (gT l 2).1:=by rw[g1.1,g2.1,hk]
    simp only[if_pos hk,if_pos hk']
    exact⟨⟨by first | trivial | rfl,by rw[g0.1]; exact m2⟩,subB_iff.2 ⟨g1.1,up_mono _ g1.2 g2.2⟩⟩
   ·rw[if_neg hk] at m1; cases m1
  split
  ·rename_i h13
   intro _
   obtain⟨n1,n2⟩:=hn h13
   exact⟨rfl,subB_iff.2 ⟨rfl,rec_mono h n1 n2⟩⟩
  split
  ·intro hm
   exact look_sub (subB_iff.1 (LeT_g h 0)).2 hm
  ·exact fun h=>⟨h,sub_nil _ _⟩
 by_cases hm:(plainB o s ns m).1 = true
 ·obtain⟨k1,k2⟩:=key hm
  simp only[if_pos hm,if_pos k1]
  exact⟨trivial,k2⟩
 ·rw[if_neg hm] at h0
  first | exact (no12 h0).elim | exact (no13 h0).elim
structure ReC (C:Cx):Prop where
 vars:∀ f ∈ C.vars,belL f.fs f.fs = true
 callee:∀ s m g,calleeS C s m = some g → belL g.2.2.1.2 g.2.2.1.2 = true
theorem list_mono {F F':Int → ExpT → FR}:∀ (l:List ExpT) (eff:Int),(∀ eff,∀ a ∈ l,(F eff a).2.1 = 0 → (F' eff a).2.1 = 0 ∧ subB (F' eff a).1 (F eff a).1 = true ∧ (F' eff a).2.2 = (F eff a).2.2) →
  (listS F eff l).2.1 = 0 → (listS F' eff l).2.1 = 0 ∧ LeT (listS F' eff l).1 (listS F eff l).1 ∧ (listS F' eff l).2.2 = (listS F eff l).2.2
 | [],eff,_,_=>⟨rfl,trivial,rfl⟩
 | a :: r,eff,h,h0=>by
  unfold listS at h0 ⊢
  by_cases h1:(F eff a).2.1 = 0
  ·rw[if_pos h1] at h0
   obtain⟨k1,k2,k3⟩:=h eff a List.mem_cons_self h1
   rw[if_pos h1,if_pos k1,k3]
   by_cases h2:(listS F (F eff a).2.2 r).2.1 = 0
   ·obtain⟨j1,j2,j3⟩:=list_mono r (F eff a).2.2 (fun eff b hb=>h eff b (List.mem_cons_of_mem _ hb)) h2
    rw[if_pos h2,if_pos j1]
    exact⟨rfl,⟨k2,j2⟩,j3⟩
   ·rw[if_neg h2] at h0
    exact absurd h0 h2
  ·rw[if_neg h1] at h0
   exact absurd h0 h1
theorem allB_mono {l m ps:List GType} (h:LeT l m) (ha:allB m ps = true):allB l ps = true:=by
 have hl:=LeT_len h
 unfold allB at *
 rw[allI_iff] at *
 intro i hi
 exact subB_trans (LeT_get h i hi (by omega)) (ha i (by omega))
theorem look_re {l:List FieldT} (h:∀ f ∈ l,belL f.fs f.fs = true) (n:Bs):subB (lookR l n).1 (lookR l n).1 = true:=by
 unfold lookR
 cases hl:lookF l n with
 | none=>exact sub_nil 0 []
 | some f=>exact subB_iff.2 ⟨rfl,h f (look_mem hl).1⟩
theorem find_mono {C:Cx} (hC:ReC C):∀ (d:Nat) (L L':List FieldT) (eff:Int) (e:ExpT),okE d e → okN d e → LeL L' L → (findS C d L eff e).2.1 = 0 →
  (findS C d L' eff e).2.1 = 0 ∧ subB (findS C d L' eff e).1 (findS C d L eff e).1 = true ∧ (findS C d L' eff e).2.2 = (findS C d L eff e).2.2
 | 0,_,_,_,_,h,_,_,_=>h.elim
 | d + 1,L,L',eff,e,he,hN,hL,h0=>by
  obtain⟨a0,a1,a2,a3,a4,a5,a6⟩:=he
  obtain⟨n1,n2⟩:=hN
  have ih:∀ eff,∀ a ∈ e.args,(findS C d L eff a).2.1 = 0 → (findS C d L' eff a).2.1 = 0 ∧ subB (findS C d L' eff a).1 (findS C d L eff a).1 = true ∧ (findS C d L' eff a).2.2 = (findS C d L eff a).2.2:=fun eff a ha h=>find_mono hC d L L' eff a (a6 a ha) (n2 a ha) hL h
  unfold findS at h0 ⊢
  by_cases o2:e.op = 2
  ·simp only[if_pos o2] at h0 ⊢
   obtain⟨r1,r2⟩:=LeL_R hL e.s
   rw[r1]
   by_cases hl:(lookR L e.s).2 = true
   ·simp only[if_pos hl]
    exact⟨trivial,r2,trivial⟩
   ·rw[if_neg hl] at h0
    first | exact (no12 h0).elim | exact (no13 h0).elim
  simp only[if_neg o2] at h0 ⊢
  by_cases o12:e.op = 12
  ·simp only[if_pos o12] at h0 ⊢
   have hl2:=a1 o12
   have e0:argE e.args 0 ∈ e.args:=by rw[argE_get (by omega)]; exact List.getElem_mem _
   have e1:argE e.args 1 ∈ e.args:=by rw[argE_get (by omega)]; exact List.getElem_mem _
   unfold letS at h0 ⊢
   by_cases hz:(findS C d L eff (argE e.args 0)).2.1 = 0
   ·obtain⟨k1,k2,k3⟩:=ih eff _ e0 hz
    rw[if_pos hz] at h0
    rw[if_pos hz,if_pos k1,k3]
    exact find_mono hC d _ _ _ _ (a6 _ e1) (n2 _ e1) (LeL_app hL ⟨rfl,k2,trivial⟩) h0
   ·rw[if_neg hz] at h0
    exact absurd h0 hz
  simp only[if_neg o12] at h0 ⊢
  by_cases o17:e.op = 17 ∨ e.op = 18
  ·simp only[if_pos o17] at h0 ⊢
   unfold varS at h0 ⊢
   have hv:=look_re hC.vars e.s
   by_cases hl:(lookR C.vars e.s).2 = true
   ·simp only[if_pos hl] at h0 ⊢
    by_cases o18:e.op = 18
    ·simp only[if_pos o18] at h0 ⊢
     have hl2:=a2 o18
     have e0:argE e.args 0 ∈ e.args:=by rw[argE_get (by omega)]; exact List.getElem_mem _
     by_cases hz:(findS C d L eff (argE e.args 0)).2.1 = 0
     ·obtain⟨k1,k2,k3⟩:=ih eff _ e0 hz
      rw[if_pos hz] at h0
      rw[if_pos hz,if_pos k1,k3]
      by_cases hs:subB (findS C d L eff (argE e.args 0)).1 (lookR C.vars e.s).1 = true
      ·rw[if_pos hs,if_pos (subB_trans k2 hs)]
       exact⟨rfl,hv,rfl⟩
      ·rw[if_neg hs] at h0
       first | exact (no12 h0).elim | exact (no13 h0).elim
     ·rw[if_neg hz] at h0
      exact absurd h0 hz
    ·simp only[if_neg o18]
     exact⟨trivial,hv,trivial⟩
   ·rw[if_neg hl] at h0
    first | exact (no12 h0).elim | exact (no13 h0).elim
  simp only[if_neg o17] at h0 ⊢
  by_cases o15:e.op = 15
  ·simp only[if_pos o15] at h0 ⊢
   unfold callS at h0 ⊢
   cases hg:calleeS C e.s e.m with
   | none=>rw[hg] at h0; first | exact (no12 h0).elim | exact (no13 h0).elim
   | some g =>
    rw[hg] at h0
    dsimp only at h0 ⊢
    by_cases hp:g.2.1.length = e.args.length
    ·rw[if_pos hp] at h0
     rw[if_pos hp,if_pos hp]
     by_cases hz:(listS (findS C d L) eff e.args).2.1 = 0
     ·obtain⟨k1,k2,k3⟩:=list_mono e.args eff ih hz
      rw[if_pos hz] at h0
      rw[if_pos hz,if_pos k1,k3]
      by_cases ha:allB (listS (findS C d L) eff e.args).1 g.2.1 = true
      ·rw[if_pos ha,if_pos (allB_mono k2 ha)]
       exact⟨rfl,subB_iff.2 ⟨rfl,hC.callee _ _ _ hg⟩,rfl⟩
      ·rw[if_neg ha] at h0
       first | exact (no12 h0).elim | exact (no13 h0).elim
     ·rw[if_neg hz] at h0
      exact absurd h0 hz
    ·rw[if_neg hp] at h0
     first | exact (no12 h0).elim | exact (no13 h0).elim
  simp only[if_neg o15] at h0 ⊢
  unfold restS at h0 ⊢
  by_cases hz:(listS (findS C d L) eff e.args).2.1 = 0
  ·obtain⟨k1,k2,k3⟩:=list_mono e.args eff ih hz
   rw[if_pos hz] at h0
   rw[if_pos hz,if_pos k1,k3]
   dsimp only at h0 ⊢
   obtain⟨p1,p2⟩:=plain_mono (o:=e.op) (s:=e.s) (ns:=e.names) k2 (fun h13=>⟨by rw[a5 h13,listS_len _ _ hz],n1.1 h13⟩) h0
   exact⟨p1,p2,rfl⟩
  ·rw[if_neg hz] at h0
   exact absurd h0 hz
theorem list_st {F:Int → ExpT → FR} {P:Int → Prop} (h0:P 0):∀ (l:List ExpT) (eff:Int),(∀ eff,∀ a ∈ l,P (F eff a).2.1) → P (listS F eff l).2.1
 | [],_,_=>h0
 | a :: r,eff,h=>by
  unfold listS
  split
  ·split
   ·exact h0
   ·exact list_st h0 r _ fun eff b hb=>h eff b (List.mem_cons_of_mem _ hb)
  ·exact h eff a List.mem_cons_self
theorem find_st {C:Cx}:∀ (d:Nat) (L:List FieldT) (eff:Int) (e:ExpT),(findS C d L eff e).2.1 = 0 ∨ (findS C d L eff e).2.1 = 12 ∨ (findS C d L eff e).2.1 = 13
 | 0,_,_,_=>.inl rfl
 | d + 1,L,eff,e=>by
  have ih:=find_st (C:=C) d
  unfold findS
  split
  ·split
   ·exact .inl rfl
   ·exact .inr (.inl rfl)
  split
  ·unfold letS
   split
   ·exact ih _ _ _
   ·exact ih _ _ _
  split
  ·unfold varS
   split
   ·split
    ·split
     ·split
      ·exact .inl rfl
      ·exact .inr (.inr rfl)
     ·exact ih _ _ _
    ·exact .inl rfl
   ·exact .inr (.inl rfl)
  split
  ·unfold callS
   split
   ·exact .inr (.inl rfl)
   ·split
    ·split
     ·split
      ·exact .inl rfl
      ·exact .inr (.inr rfl)
     ·exact list_st (P:=fun x=>x = 0 ∨ x = 12 ∨ x = 13) (.inl rfl) _ _ fun eff a _=>ih L eff a
    ·exact .inr (.inr rfl)
  ·unfold restS
   split
   ·unfold plainS
    split
    ·exact .inl rfl
    ·exact .inr (.inr rfl)
   ·exact list_st (P:=fun x=>x = 0 ∨ x = 12 ∨ x = 13) (.inl rfl) _ _ fun eff a _=>ih L eff a
theorem find_ne1 {C:Cx} (d:Nat) (L:List FieldT) (eff:Int) (e:ExpT):(findS C d L eff e).2.1 ≠ 1:=by
 rcases find_st (C:=C) d L eff e with h | h | h <;> rw[h] <;> decide
theorem reC_of {m:GModule} {faces:List GFace} (ho:OkM m) (hb:facesB faces = true):ReC (cxM m faces) where
 vars:=fun f hf=>bel_refl (ho.vars f hf).2
 callee:=fun s x g hg=>by
  unfold calleeS at hg
  split at hg
  ·rw[Option.map_eq_some_iff] at hg
   obtain⟨f,hf,rfl⟩:=hg
   exact bel_refl (ho.funcs f (List.mem_of_find?_eq_some hf)).2.2.1
  ·split at hg
   ·rename_i face hl
    split at hg
    ·rename_i g' hg'
     split at hg
     ·cases hg
      obtain⟨p,hp,e⟩:=look_val hl
      have hmem:face ∈ faces:=by rw[← e]; exact facesM_mem faces p hp
      unfold facesB at hb
      rw[List.all_eq_true] at hb
      have hfb:=hb face hmem
      unfold faceB at hfb
      rw[List.all_eq_true] at hfb
      have hsb:=hfb _ (List.mem_of_find?_eq_some hg')
      unfold sigB at hsb
      rw[Bool.and_eq_true] at hsb
      exact bel_refl hsb.1
     ·cases hg
    ·cases hg
   ·cases hg
theorem recF_nil (l:List GType):recF [] l = []:=by rw[recF]; simp
theorem narrow_true (m:GModule) (faces:List GFace) (wide:List GField) (nar:List GType) (x:GExp):ladinglaw16_TypesNarrow m faces wide nar x = some true:=by
 obtain⟨L,rfl⟩:∃ L,wide = unL L:=⟨mkL wide,(un_mk wide).symm⟩
 obtain⟨e,rfl⟩:∃ e,x = tupE e:=⟨.mk x.1 x.2.1 x.2.2.1 x.2.2.2.1 x.2.2.2.2.1 x.2.2.2.2.2,rfl⟩
 unfold ladinglaw16_TypesNarrow tupE
 simp only[fu1,fu2,fe1,fe2,fxe1,fme,fme2]
 obtain⟨b1,e1,g1⟩:=module_ok m
 obtain⟨b2,e2,g2⟩:=seen_ok faces
 obtain⟨b3,e3,g3⟩:=fields_ok L
 obtain⟨b5,e5,g5⟩:=exps_ok [e]
 have e1:ladinglaw16_module m.1 m.2.1 (unL m.2.2.1) (unE m.2.2.2.1) m.2.2.2.2.1 m.2.2.2.2.2.1 (unL m.2.2.2.2.2.2.1) (unE m.2.2.2.2.2.2.2.1) (unE m.2.2.2.2.2.2.2.2) = some b1:=e1
 have hone:unE [e] = ([(e.op,e.n,e.s,e.m,e.names,e.args)]:List GExp):=by cases e; rfl
 rw[hone] at e5
 rw[small_ok,bind_in,e1,bind_in,e2,e3,e5]
 simp only[bind_in]
 cases b1 with
 | false=>rfl
 | true =>
 cases b2 with
 | false=>rfl
 | true =>
 cases b3 with
 | false=>rfl
 | true =>
 have hm:=g1 rfl
 have hf:=g2 rfl
 have hL:=g3 rfl
 rw[un_len,eqZ_eq]
 by_cases hlen:(nar.length:Int) = (L.length:Int)
 rotate_left
 ·rw[decide_eq_false hlen]; rfl
 rw[decide_eq_true hlen]
 obtain⟨b4,e4⟩:=light_ok nar (by omega)
 rw[e4]
 simp only[bind_in]
 cases b4 with
 | false=>rfl
 | true =>
 cases b5 with
 | false=>rfl
 | true =>
 have he:=(g5 rfl).2 e (List.mem_singleton.2 rfl)
 simp only[Bool.not_true,cond_false,bind_in]
 unfold ladinglaw16_TypesNarrow.j2
 rw[cond_false]
 obtain⟨r,hr,hq⟩:=loopF_inv (body:=fun x:Int × List GField=>ladinglaw16_TypesNarrow.b1 (unL L) nar true x.1 x.2) (fun i x=>x = ((i:Int),unL (recF ((L.map FieldT.nm).take i) (nar.take i))) ∧ ∀ j (h1:j < L.length) (h2:j < nar.length),j < i → rightS 4 nar[j].1 nar[j].2 = true ∧ rightS 4 L[j].kd L[j].fs = true ∧ subB nar[j] (L[j].kd,L[j].fs) = true)
  (Q:=fun r=>r = .inr true ∨ (r = .inl (unL (recF (L.map FieldT.nm) nar)) ∧ ∀ j (h1:j < L.length) (h2:j < nar.length),rightS 4 nar[j].1 nar[j].2 = true ∧ rightS 4 L[j].kd L[j].fs = true ∧ subB nar[j] (L[j].kd,L[j].fs) = true)) L.length (x:=(0,[])) ⟨by rw[List.take_zero,List.take_zero,recF]; rfl; simp,fun j _ _ h=>absurd h (by omega)⟩ (fun i hi x hx=>by
   obtain⟨rfl,hP⟩:=hx
   have hi2:i < nar.length:=by omega
   have hi3:i < (L.map FieldT.nm).length:=by rw[List.length_map]; exact hi
   unfold ladinglaw16_TypesNarrow.b1
   simp only[fu1,fu2,fx1,fx3,idx_un hi,idx_nat hi2,bind_in,sub_ok]
   rw[un_len,ltZ_eq,decide_eq_true (by omega),cond_true]
   cases h1:rightS 4 nar[i].1 nar[i].2 with
   | false=>exact .inr ⟨_,rfl,.inl rfl⟩
   | true =>
   cases h2:rightS 4 L[i].kd L[i].fs with
   | false=>exact .inr ⟨_,rfl,.inl rfl⟩
   | true =>
   cases h3:(decide (nar[i].1 = L[i].kd) && belL L[i].fs nar[i].2) with
   | false=>exact .inr ⟨_,rfl,.inl rfl⟩
   | true =>
   simp only[Bool.true_and,Bool.not_true,cond_false]
   have hlenr:(unL (recF ((L.map FieldT.nm).take i) (nar.take i))).length ≤ i:=by
    rw[un_len]
    exact Nat.le_trans (recF_len _ _) (by rw[List.length_take]; omega)
   rw[app_in (by simp; omega),bind_in,z64_succ (by omega),bind_in]
   refine .inl ⟨_,rfl,?_,fun j j1 j2 h=>?_⟩
   ·rw[take_succ hi2,take_succ hi3,recF_snoc _ _ _ _ (by rw[List.length_take,List.length_take]; omega),un_app,un_one,List.getElem_map]
   ·by_cases hji:j = i
    ·subst hji; exact⟨h1,h2,h3⟩
    ·exact hP j j1 j2 (by omega)) (fun x hx=>by
   obtain⟨rfl,hP⟩:=hx
   unfold ladinglaw16_TypesNarrow.b1
   rw[un_len,ltZ_eq,decide_eq_false (by omega),cond_false]
   refine⟨_,rfl,.inr ⟨?_,fun j h1 h2=>hP j h1 h2 h1⟩⟩
   rw[List.take_of_length_le (by rw[List.length_map]; omega),List.take_of_length_le (by omega)]) (by omega)
 rw[hr,bind_in]
 rcases hq with rfl | ⟨rfl,hq⟩
 ·rfl
 dsimp only
 have hn:(L.map FieldT.nm).length = nar.length:=by rw[List.length_map]; omega
 have hle:∀ (L:List FieldT) (nar:List GType),L.length = nar.length → (∀ j (h1:j < L.length) (h2:j < nar.length),rightS 4 nar[j].1 nar[j].2 = true ∧ rightS 4 L[j].kd L[j].fs = true ∧ subB nar[j] (L[j].kd,L[j].fs) = true) → LeL (recF (L.map FieldT.nm) nar) L ∧ localsB (recF (L.map FieldT.nm) nar) = true ∧ localsB L = true:=by
  intro L
  induction L with
  | nil=>intro nar _ _; rw[List.map_nil,recF_nil]; exact⟨trivial,rfl,rfl⟩
  | cons f r ih =>
   intro nar hl h
   cases nar with
   | nil=>simp at hl
   | cons t s =>
    obtain⟨i1,i2,i3⟩:=ih s (by simpa using hl) fun j h1 h2=>h (j + 1) (by simp; omega) (by simp; omega)
    obtain⟨k1,k2,k3⟩:=h 0 (by simp) (by simp)
    refine⟨⟨rfl,k3,i1⟩,?_,?_⟩
    ·show (rightS 4 t.1 t.2 && localsB (recF (r.map FieldT.nm) s)) = true
     rw[i2,Bool.and_true]; exact k1
    ·show (rightS 4 f.kd f.fs && localsB r) = true
     rw[i3,Bool.and_true]; exact k2
 obtain⟨hl1,hl2,hl3⟩:=hle L nar (by omega) hq
 generalize hLn:recF (L.map FieldT.nm) nar = Ln at *
 have hLl:Ln.length ≤ 1000:=by rw[← hLn]; exact Nat.le_trans (recF_len _ _) (by omega)
 have ht1:types_TypeOf_v2 m.1 m.2.1 (unL m.2.2.1) (unE m.2.2.2.1) m.2.2.2.2.1 m.2.2.2.2.2.1 (unL m.2.2.2.2.2.2.1) (unE m.2.2.2.2.2.2.2.1) (unE m.2.2.2.2.2.2.2.2) faces (unL L) e.op e.n e.s e.m e.names (unE e.args) = some (typeOfS m faces L e):=typeOf_ok hm hf (by omega) he
 have ht2:types_TypeOf_v2 m.1 m.2.1 (unL m.2.2.1) (unE m.2.2.2.1) m.2.2.2.2.1 m.2.2.2.2.2.1 (unL m.2.2.2.2.2.2.1) (unE m.2.2.2.2.2.2.2.1) (unE m.2.2.2.2.2.2.2.2) faces (unL Ln) e.op e.n e.s e.m e.names (unE e.args) = some (typeOfS m faces Ln e):=typeOf_ok hm hf hLl he
 unfold ladinglaw16_TypesNarrow.j1
 simp only[fu1,fu2,fe1,fe2]
 rw[ht1,bind_in,ht2,bind_in]
 unfold typeOfS argB
 rw[hl2,hl3,Bool.true_and]
 by_cases ha:(rexpB e && (rightB m && facesB faces)) = true
 rotate_left
 ·simp only[if_neg ha]; rfl
 simp only[if_pos ha]
 rw[Bool.and_eq_true,Bool.and_eq_true] at ha
 have ho:=(rightB_ok hm).2 ha.2.1
 have hok:=(rexp_ok he).2 ha.1
 by_cases h0:(findS (cxM m faces) 12 L 0 e).2.1 = 0
 ·obtain⟨k1,k2,k3⟩:=find_mono (reC_of ho ha.2.2) 12 L Ln 0 e hok (rexpN_ok he ha.1) hl1 h0
  simp only[if_pos h0,if_pos k1]
  have hC:=okC_of hm hf ho ha.2.2
  rw[lbelow_ok (d:=4100) (q:=4100) (by omega) _ _ _ _ (find_type hC hl3 hok) (find_type hC hl2 hok),bind_in]
  have k2':(decide ((findS (cxM m faces) 12 Ln 0 e).1.1 = (findS (cxM m faces) 12 L 0 e).1.1) && belL (findS (cxM m faces) 12 L 0 e).1.2 (findS (cxM m faces) 12 Ln 0 e).1.2) = true:=k2
  rw[k2',k3]
  simp [eqZ_eq]
 ·simp only[if_neg h0]
  have n1:=find_ne1 (C:=cxM m faces) 12 L 0 e
  have h2:eqZ (findS (cxM m faces) 12 L 0 e).2.1 0 = false:=by rw[eqZ_eq]; exact decide_eq_false h0
  have h3:eqZ (findS (cxM m faces) 12 L 0 e).2.1 1 = false:=by rw[eqZ_eq]; exact decide_eq_false n1
  rw[h2,h3,Bool.not_false,cond_true,cond_true]
  by_cases h4:(findS (cxM m faces) 12 Ln 0 e).2.1 = 0
  ·simp only[if_pos h4]; rfl
  ·simp only[if_neg h4]
   have h5:eqZ (findS (cxM m faces) 12 Ln 0 e).2.1 1 = false:=by rw[eqZ_eq]; exact decide_eq_false (find_ne1 (C:=cxM m faces) 12 Ln 0 e)
   rw[h5]; rfl
end Go.Proofs.Ytaocfjifacnokaa
