import Derived.Test.YtaocfjifacnokaaPB
set_option linter.unusedVariables false
set_option linter.unusedSimpArgs false
namespace Go.Proofs.Ytaocfjifacnokaa
open Go.Lad
def Tot {α:Type} (x:Option α):Prop := ∃ b,x = some b
theorem tot_some {α:Type} (a:α):Tot (some a):=⟨a,rfl⟩
theorem tot_cond {α:Type} {b:Bool} {x y:Option α} (hx:Tot x) (hy:Tot y):Tot (bif b then x else y):=by cases b <;> assumption
theorem tot_bind {α β:Type} {x:Option α} {f:α → Option β} (hx:Tot x) (hf:∀ a,Tot (f a)):Tot (x.bind f):=by
 obtain⟨a,rfl⟩:=hx
 exact hf a
theorem name_tot (s:Bs):Tot (syntax_Name s):=⟨_,name_ok s⟩
theorem leaf_tot (o n:Int) (s m:Bs) (ns:List Bs) (ag:List GExp) (h:ns.length ≤ 1000):Tot (syntax_leaf o n s m ns ag):=by
 have hbl:Tot (loopF (fun x=>syntax_leaf.b1 ns x) 0):=by
  obtain⟨b,hb,_⟩:=loopF_inv (body:=fun x=>syntax_leaf.b1 ns x) (fun i x=>x = (i:Int)) (Q:=fun _=>True) ns.length (x:=0) rfl (fun i hi x hx=>by
   subst hx
   unfold syntax_leaf.b1 syntax_leaf.j1
   rw[ltZ_eq,decide_eq_true (by omega),cond_true,idx_nat hi,bind_in,name_ok,bind_in]
   have hin:Tot (bif (!nameB ns[i]) then some true else (bif (ltZ 0 (i:Int)) then ((z64 ((i:Int) - 1)).bind fun v14=>(idx ns v14).bind fun v15=>some (Op.bytesLess ns[i] v15 || decide (ns[i] = v15))) else some false)):=by
    refine tot_cond (tot_some _) ?_
    by_cases h0:0 < i
    ·rw[z64_pred h0 (by omega),bind_in,idx_nat (show i - 1 < ns.length by omega)]
     exact tot_cond (tot_some _) (tot_some _)
    ·have:i = 0:=by omega
     subst this
     exact⟨_,rfl⟩
   obtain⟨v,hv⟩:=hin
   rw[hv,bind_in]
   cases v with
   | true=>exact .inr ⟨_,rfl,trivial⟩
   | false=>rw[cond_false,z64_succ (by omega),bind_in]; exact .inl ⟨_,rfl,rfl⟩) (fun x hx=>by
   subst hx
   unfold syntax_leaf.b1
   rw[ltZ_eq,decide_eq_false (by omega),cond_false]
   exact⟨_,rfl,trivial⟩) (by omega)
  exact⟨b,hb⟩
 unfold syntax_leaf syntax_leaf.j2
 repeat' first
  | exact tot_some _
  | exact name_tot _
  | exact hbl
  | refine tot_cond ?_ ?_
  | refine tot_bind ?_ fun _=>?_
theorem clean_ok (o n:Int) (s m:Bs) (ns:List Bs) (ag:List GExp):∃ c,syntax_clean o n s m ns ag = some c ∧ (o = 12 → c.2 = 2) ∧ (o = 18 → c.2 = 1) ∧ (o = 11 → c.2 = 3) ∧ (o = 14 → c.2 = 1) ∧ (o = 13 → c.2 = (ns.length:Int)):=by
 unfold syntax_clean syntax_clean.j3 syntax_clean.j2 syntax_clean.j1
 simp only[eqZ_eq]
 by_cases h0:o = 0
 ·subst h0; exact⟨_,rfl,fun h=>absurd h (by decide),fun h=>absurd h (by decide),fun h=>absurd h (by decide),fun h=>absurd h (by decide),fun h=>absurd h (by decide)⟩
 by_cases h1:o = 1
 ·subst h1; exact⟨_,rfl,fun h=>absurd h (by decide),fun h=>absurd h (by decide),fun h=>absurd h (by decide),fun h=>absurd h (by decide),fun h=>absurd h (by decide)⟩
 by_cases h2:o = 2
 ·subst h2; exact⟨_,rfl,fun h=>absurd h (by decide),fun h=>absurd h (by decide),fun h=>absurd h (by decide),fun h=>absurd h (by decide),fun h=>absurd h (by decide)⟩
 by_cases h3:o = 17
 ·subst h3; exact⟨_,rfl,fun h=>absurd h (by decide),fun h=>absurd h (by decide),fun h=>absurd h (by decide),fun h=>absurd h (by decide),fun h=>absurd h (by decide)⟩
 by_cases h4:o = 18
 ·subst h4; exact⟨_,rfl,fun h=>absurd h (by decide),fun _=>rfl,fun h=>absurd h (by decide),fun h=>absurd h (by decide),fun h=>absurd h (by decide)⟩
 by_cases h5:o = 14
 ·subst h5; exact⟨_,rfl,fun h=>absurd h (by decide),fun h=>absurd h (by decide),fun h=>absurd h (by decide),fun _=>rfl,fun h=>absurd h (by decide)⟩
 by_cases h6:o = 16
 ·subst h6; exact⟨_,rfl,fun h=>absurd h (by decide),fun h=>absurd h (by decide),fun h=>absurd h (by decide),fun h=>absurd h (by decide),fun h=>absurd h (by decide)⟩
 by_cases h7:o = 10
 ·subst h7; exact⟨_,rfl,fun h=>absurd h (by decide),fun h=>absurd h (by decide),fun h=>absurd h (by decide),fun h=>absurd h (by decide),fun h=>absurd h (by decide)⟩
 by_cases h8:o = 12
 ·subst h8; exact⟨_,rfl,fun _=>rfl,fun h=>absurd h (by decide),fun h=>absurd h (by decide),fun h=>absurd h (by decide),fun h=>absurd h (by decide)⟩
 by_cases h9:o = 11
 ·subst h9; exact⟨_,rfl,fun h=>absurd h (by decide),fun h=>absurd h (by decide),fun _=>rfl,fun h=>absurd h (by decide),fun h=>absurd h (by decide)⟩
 by_cases h10:o = 13
 ·subst h10; exact⟨_,rfl,fun h=>absurd h (by decide),fun h=>absurd h (by decide),fun h=>absurd h (by decide),fun h=>absurd h (by decide),fun _=>rfl⟩
 rw[decide_eq_false h0,decide_eq_false h1,decide_eq_false h2,decide_eq_false h3,decide_eq_false h4,decide_eq_false h5,decide_eq_false h6,decide_eq_false h7,decide_eq_false h8,decide_eq_false h9,decide_eq_false h10]
 simp only[cond_false,bind_in]
 cases decide (o = 15) <;> exact⟨_,rfl,fun h=>absurd h h8,fun h=>absurd h h4,fun h=>absurd h h9,fun h=>absurd h h5,fun h=>absurd h h10⟩
def shE:Nat → ExpT → Prop
 | 0,_=>False
 | d + 1,e=>e.names.length ≤ 12 ∧ e.args.length ≤ 1000 ∧ ∀ a ∈ e.args,shE d a
theorem rexp_rec:∀ (d n q:Nat) (e:ExpT),d ≤ 12 → d < n → shE q e → ∃ b,syntax_rightExp.rec n e.op e.n e.s e.m e.names (unE e.args) (d:Int) = some b ∧ (b = true → okE d e)
 | d,0,_,_,_,h,_=>absurd h (by omega)
 | d,n + 1,0,_,_,_,h=>h.elim
 | 0,n + 1,q + 1,e,_,_,_=>⟨false,rfl,fun h=>by cases h⟩
 | d + 1,n + 1,q + 1,e,hd,hn,hs=>by
  obtain⟨s1,s2,s3⟩:=hs
  show ∃ b,syntax_rightExp.body (syntax_rightExp.rec n) e.op e.n e.s e.m e.names (unE e.args) ((d + 1:Nat):Int) = some b ∧ _
  unfold syntax_rightExp.body syntax_rightExp.j2 syntax_rightExp.j1
  rw[eqZ_eq,decide_eq_false (show ¬ (((d + 1:Nat):Int) = 0) by omega),cond_false]
  cases ltZ e.op 0 with
  | true=>exact⟨false,rfl,fun h=>by cases h⟩
  | false =>
  cases leZ 19 e.op with
  | true=>exact⟨false,rfl,fun h=>by cases h⟩
  | false =>
  rw[cond_false,bind_in,cond_false]
  obtain⟨c,hc,f12,f18,f11,f14,f13⟩:=clean_ok e.op e.n e.s e.m e.names (unE e.args)
  obtain⟨lb,hlb⟩:=leaf_tot e.op e.n e.s e.m e.names (unE e.args) (by omega)
  rw[hc,bind_in,hlb,unE_len]
  have chk:∃ v,(bif (leZ 0 c.2) then (bif (!eqZ c.2 (e.args.length:Int)) then some true else (bif (!eqZ c.1.2.1 e.n) then some true else (bif (!decide (c.1.2.2.1 = e.s)) then some true else (bif (!decide (c.1.2.2.2.1 = e.m)) then some true else (bif (!eqZ (c.1.2.2.2.2.1.length:Int) (e.names.length:Int)) then some true else ((some lb).bind fun l10=>some (!l10))))))) else
    (bif (!eqZ c.1.2.1 e.n) then some true else (bif (!decide (c.1.2.2.1 = e.s)) then some true else (bif (!decide (c.1.2.2.2.1 = e.m)) then some true else (bif (!eqZ (c.1.2.2.2.2.1.length:Int) (e.names.length:Int)) then some true else ((some lb).bind fun l11=>some (!l11))))))) = some v ∧ (v = false → 0 ≤ c.2 → c.2 = (e.args.length:Int)):=by
   rw[leZ_eq]
   by_cases h0:0 ≤ c.2
   ·rw[decide_eq_true h0,cond_true,eqZ_eq]
    by_cases h1:c.2 = (e.args.length:Int)
    ·rw[decide_eq_true h1]
     obtain⟨v,hv⟩:Tot (bif (!true) then some true else (bif (!eqZ c.1.2.1 e.n) then some true else (bif (!decide (c.1.2.2.1 = e.s)) then some true else (bif (!decide (c.1.2.2.2.1 = e.m)) then some true else (bif (!eqZ (c.1.2.2.2.2.1.length:Int) (e.names.length:Int)) then some true else ((some lb).bind fun l10=>some (!l10))))))):=by
      repeat' first
       | exact tot_some _
       | refine tot_cond ?_ ?_
       | refine tot_bind ?_ fun _=>?_
     exact⟨v,hv,fun _ _=>h1⟩
    ·rw[decide_eq_false h1]
     exact⟨true,rfl,fun h=>by cases h⟩
   ·rw[decide_eq_false h0,cond_false]
    obtain⟨v,hv⟩:Tot (bif (!eqZ c.1.2.1 e.n) then some true else (bif (!decide (c.1.2.2.1 = e.s)) then some true else (bif (!decide (c.1.2.2.2.1 = e.m)) then some true else (bif (!eqZ (c.1.2.2.2.2.1.length:Int) (e.names.length:Int)) then some true else ((some lb).bind fun l11=>some (!l11)))))):=by
     repeat' first
      | exact tot_some _
      | refine tot_cond ?_ ?_
      | refine tot_bind ?_ fun _=>?_
    exact⟨v,hv,fun _ h=>absurd h h0⟩
  obtain⟨v,hv,hv2⟩:=chk
  rw[hv,bind_in]
  cases v with
  | true=>exact⟨false,rfl,fun h=>by cases h⟩
  | false =>
  rw[cond_false]
  have hcl:=hv2 rfl
  obtain⟨b,hb,hb2⟩:=loopF_inv (body:=fun x=>syntax_rightExp.b1 (syntax_rightExp.rec n) (unE e.args) ((d + 1:Nat):Int) x) (fun i x=>x = (i:Int) ∧ ∀ j (hj:j < e.args.length),j < i → okE d e.args[j]) (Q:=fun b=>b = true → ∀ a ∈ e.args,okE d a) e.args.length (x:=0) ⟨rfl,fun j hj h=>absurd h (by omega)⟩ (fun i hi x hx=>by
   obtain⟨rfl,hP⟩:=hx
   unfold syntax_rightExp.b1
   simp only[fe1,fe2]
   rw[unE_len,ltZ_eq,decide_eq_true (by omega),cond_true,idx_unE hi,bind_in,z64_i (by omega),bind_in]
   obtain⟨b,hb,hb2⟩:=rexp_rec d n q e.args[i] (by omega) (by omega) (s3 _ (List.getElem_mem hi))
   unfold tupE
   have e1:((d + 1:Nat):Int) - 1 = (d:Int):=by omega
   simp only[e1,hb,bind_in]
   cases b with
   | false=>exact .inr ⟨false,rfl,fun h=>by cases h⟩
   | true =>
    rw[Bool.not_true,cond_false,z64_succ (by omega),bind_in]
    refine .inl ⟨_,rfl,rfl,fun j hj h=>?_⟩
    by_cases hji:j = i
    ·subst hji; exact hb2 rfl
    ·exact hP j hj (by omega)) (fun x hx=>by
   obtain⟨rfl,hP⟩:=hx
   unfold syntax_rightExp.b1
   rw[unE_len,ltZ_eq,decide_eq_false (by omega),cond_false]
   refine⟨true,rfl,fun _ a ha=>?_⟩
   obtain⟨j,hj,rfl⟩:=List.mem_iff_getElem.1 ha
   exact hP j hj hj) (by omega)
  refine⟨b,hb,fun h=>⟨s2,fun h'=>?_,fun h'=>?_,fun h'=>?_,fun h'=>?_,fun h'=>?_,hb2 h⟩⟩
  ·have:=hcl (by rw[f12 h']; omega); rw[f12 h'] at this; omega
  ·have:=hcl (by rw[f18 h']; omega); rw[f18 h'] at this; omega
  ·have:=hcl (by rw[f11 h']; omega); rw[f11 h'] at this; omega
  ·have:=hcl (by rw[f14 h']; omega); rw[f14 h'] at this; omega
  ·have:=hcl (by rw[f13 h']; omega); rw[f13 h'] at this; omega
noncomputable def rexpB (e:ExpT):Bool:=(syntax_RightExp e.op e.n e.s e.m e.names (unE e.args)).getD false
theorem rexp_ok {q:Nat} {e:ExpT} (h:shE q e):syntax_RightExp e.op e.n e.s e.m e.names (unE e.args) = some (rexpB e) ∧ (rexpB e = true → okE 12 e):=by
 obtain⟨b,hb,hb2⟩:=rexp_rec 12 bigFuel.n q e (by omega) (fuel_big (by omega)) h
 have:syntax_RightExp e.op e.n e.s e.m e.names (unE e.args) = some b:=by
  unfold syntax_RightExp syntax_rightExp
  rw[show (12:Int) = ((12:Nat):Int) from rfl,hb]; rfl
 unfold rexpB
 rw[this]
 exact⟨rfl,hb2⟩
theorem rfields_ok (l:List FieldT) (most:Int) (hl:l.length ≤ 1000):∃ b,syntax_rightFields (unL l) most = some b ∧ (b = true → (∀ f ∈ l,nameB f.nm = true ∧ rightS 4 f.kd f.fs = true) ∧ (l.length:Int) ≤ most):=by
 unfold syntax_rightFields
 exact loopF_inv (body:=fun x:Int × List (Bs × Bool)=>syntax_rightFields.b1 (unL l) most x.1 x.2) (fun i x=>∃ kn,x = ((i:Int),kn) ∧ ∀ j (hj:j < l.length),j < i → nameB l[j].nm = true ∧ rightS 4 l[j].kd l[j].fs = true) (Q:=fun b=>b = true → (∀ f ∈ l,nameB f.nm = true ∧ rightS 4 f.kd f.fs = true) ∧ (l.length:Int) ≤ most) l.length (x:=(0,[])) ⟨[],rfl,fun j hj h=>absurd h (by omega)⟩ (fun i hi x hx=>by
  obtain⟨kn,rfl,hP⟩:=hx
  unfold syntax_rightFields.b1 syntax_rightFields.j1
  simp only[fu1,fu2]
  have hr:syntax_RightType l[i].kd (unL l[i].fs) = some (rightS 4 l[i].kd l[i].fs):=by
   have:=right_ok l[i].kd l[i].fs
   unfold types_Right at this
   cases hx:syntax_RightType l[i].kd (unL l[i].fs) with
   | none=>rw[hx] at this; cases this
   | some b=>rw[hx] at this; exact this
  rw[un_len,ltZ_eq,decide_eq_true (by omega),cond_true,idx_un hi,bind_in,name_ok,hr,z64_succ (by omega)]
  simp only[bind_in]
  cases ((lookM kn l[i].nm).getD false) with
  | true=>exact .inr ⟨false,rfl,fun h=>by cases h⟩
  | false =>
  cases hnm:nameB l[i].nm with
  | false=>exact .inr ⟨false,rfl,fun h=>by cases h⟩
  | true =>
  cases hrt:rightS 4 l[i].kd l[i].fs with
  | false=>exact .inr ⟨false,rfl,fun h=>by cases h⟩
  | true =>
   refine .inl ⟨_,rfl,_,rfl,fun j hj h=>?_⟩
   by_cases hji:j = i
   ·subst hji; exact⟨hnm,hrt⟩
   ·exact hP j hj (by omega)) (fun x hx=>by
  obtain⟨kn,rfl,hP⟩:=hx
  unfold syntax_rightFields.b1
  rw[un_len,ltZ_eq,decide_eq_false (by omega),cond_false]
  refine⟨_,rfl,fun h=>⟨fun f hf=>?_,by rw[leZ_eq,decide_eq_true_eq] at h; exact h⟩⟩
  obtain⟨j,hj,rfl⟩:=List.mem_iff_getElem.1 hf
  exact hP j hj hj) (by omega)
theorem rexps_ok (l:List ExpT) (n:Int) (hl:l.length ≤ 1000) (hs:∀ e ∈ l,∃ q,shE q e):∃ b,syntax_rightExps (unE l) n = some b ∧ (b = true → (∀ e ∈ l,rexpB e = true) ∧ (l.length:Int) = n):=by
 unfold syntax_rightExps
 exact loopF_inv (body:=fun x=>syntax_rightExps.b1 (unE l) n x) (fun i x=>x = (i:Int) ∧ ∀ j (hj:j < l.length),j < i → rexpB l[j] = true) (Q:=fun b=>b = true → (∀ e ∈ l,rexpB e = true) ∧ (l.length:Int) = n) l.length (x:=0) ⟨rfl,fun j hj h=>absurd h (by omega)⟩ (fun i hi x hx=>by
  obtain⟨rfl,hP⟩:=hx
  unfold syntax_rightExps.b1
  simp only[fe1,fe2]
  obtain⟨q,hq⟩:=hs _ (List.getElem_mem hi)
  have hr:=(rexp_ok hq).1
  rw[unE_len,ltZ_eq,decide_eq_true (by omega),cond_true,idx_unE hi,bind_in,z64_succ (by omega)]
  unfold tupE
  simp only[hr,bind_in]
  cases hb:rexpB l[i] with
  | false=>exact .inr ⟨false,rfl,fun h=>by cases h⟩
  | true =>
   refine .inl ⟨_,rfl,rfl,fun j hj h=>?_⟩
   by_cases hji:j = i
   ·subst hji; exact hb
   ·exact hP j hj (by omega)) (fun x hx=>by
  obtain⟨rfl,hP⟩:=hx
  unfold syntax_rightExps.b1
  rw[unE_len,ltZ_eq,decide_eq_false (by omega),cond_false]
  refine⟨_,rfl,fun h=>⟨fun f hf=>?_,by rw[eqZ_eq,decide_eq_true_eq] at h; exact h⟩⟩
  obtain⟨j,hj,rfl⟩:=List.mem_iff_getElem.1 hf
  exact hP j hj hj) (by omega)
def bodyE (f:GFunc):ExpT := .mk f.2.2.2.2.2.1 f.2.2.2.2.2.2.1 f.2.2.2.2.2.2.2.1 f.2.2.2.2.2.2.2.2.1 f.2.2.2.2.2.2.2.2.2.1 f.2.2.2.2.2.2.2.2.2.2
structure ShM (m:GModule):Prop where
 uses:m.2.1.length ≤ 8
 vars:m.2.2.1.length ≤ 8
 init:m.2.2.2.1.length ≤ 8 ∧ ∀ e ∈ m.2.2.2.1,shE 16 e
 funcs:m.2.2.2.2.1.length ≤ 6 ∧ ∀ f ∈ m.2.2.2.2.1,f.2.2.1.length ≤ 8 ∧ shE 16 (bodyE f)
 old:m.2.2.2.2.2.2.1.length ≤ 8
 fwd:m.2.2.2.2.2.2.2.1.length ≤ 8 ∧ ∀ e ∈ m.2.2.2.2.2.2.2.1,shE 16 e
 back:m.2.2.2.2.2.2.2.2.length ≤ 8 ∧ ∀ e ∈ m.2.2.2.2.2.2.2.2,shE 16 e
structure OkM (m:GModule):Prop where
 name:nameB m.1 = true
 unames:∀ s ∈ m.2.1,nameB s = true
 vars:∀ f ∈ m.2.2.1,nameB f.nm = true ∧ rightS 4 f.kd f.fs = true
 init:(∀ e ∈ m.2.2.2.1,rexpB e = true) ∧ m.2.2.2.1.length = m.2.2.1.length
 funcs:∀ f ∈ m.2.2.2.2.1,nameB f.1 = true ∧ (∀ p ∈ f.2.2.1,nameB p.nm = true ∧ rightS 4 p.kd p.fs = true) ∧ rightS 4 f.2.2.2.1.1 f.2.2.2.1.2 = true ∧ rexpB (bodyE f) = true
 old:∀ f ∈ m.2.2.2.2.2.2.1,nameB f.nm = true ∧ rightS 4 f.kd f.fs = true
 fwd:(∀ e ∈ m.2.2.2.2.2.2.2.1,rexpB e = true) ∧ (m.2.2.2.2.2.1 = true → m.2.2.2.2.2.2.2.1.length = m.2.2.1.length)
 back:(∀ e ∈ m.2.2.2.2.2.2.2.2,rexpB e = true) ∧ m.2.2.2.2.2.2.2.2.length = m.2.2.2.2.2.2.1.length
noncomputable abbrev RightM (m:GModule):Option Bool:=syntax_Right m.1 m.2.1 (unL m.2.2.1) (unE m.2.2.2.1) m.2.2.2.2.1 m.2.2.2.2.2.1 (unL m.2.2.2.2.2.2.1) (unE m.2.2.2.2.2.2.2.1) (unE m.2.2.2.2.2.2.2.2)
theorem right3_ok (old:List FieldT) (fw bk:List ExpT) (vs:Int) (h1:old.length ≤ 8) (h2:fw.length ≤ 8 ∧ ∀ e ∈ fw,shE 16 e) (h3:bk.length ≤ 8 ∧ ∀ e ∈ bk,shE 16 e) :
  ∃ b,syntax_Right.j3 (unL old) (unE fw) (unE bk) vs = some b ∧ (b = true → (∀ f ∈ old,nameB f.nm = true ∧ rightS 4 f.kd f.fs = true) ∧ ((∀ e ∈ fw,rexpB e = true) ∧ (fw.length:Int) = vs) ∧ (∀ e ∈ bk,rexpB e = true) ∧ bk.length = old.length):=by
 unfold syntax_Right.j3
 obtain⟨b1,e1,f1⟩:=rfields_ok old 8 (by omega)
 obtain⟨b2,e2,f2⟩:=rexps_ok fw vs (by omega) fun e he=>⟨16,h2.2 e he⟩
 obtain⟨b3,e3,f3⟩:=rexps_ok bk (old.length:Int) (by omega) fun e he=>⟨16,h3.2 e he⟩
 rw[e1,bind_in,e2,un_len,e3]
 simp only[bind_in]
 cases b1 with
 | false=>exact⟨false,rfl,fun h=>by cases h⟩
 | true =>
 cases b2 with
 | false=>exact⟨false,rfl,fun h=>by cases h⟩
 | true =>
 cases b3 with
 | false=>exact⟨false,rfl,fun h=>by cases h⟩
 | true=>exact⟨true,rfl,fun _=>⟨(f1 rfl).1,f2 rfl,(f3 rfl).1,by have:=(f3 rfl).2; omega⟩⟩
theorem rightM_ok (m:GModule) (hs:ShM m):∃ b,RightM m = some b ∧ (b = true → OkM m):=by
 obtain⟨nm,us,vs,ini,fu,mv,old,fw,bk⟩:=m
 have hsu:us.length ≤ 8:=hs.uses
 have hsv:vs.length ≤ 8:=hs.vars
 have hsi:=hs.init
 have hsf:=hs.funcs
 have hso:old.length ≤ 8:=hs.old
 have hsw:=hs.fwd
 have hsb:=hs.back
 dsimp only at hsi hsf hsw hsb
 show ∃ b,syntax_Right nm us (unL vs) (unE ini) fu mv (unL old) (unE fw) (unE bk) = some b ∧ _
 unfold syntax_Right
 obtain⟨r1,h1,q1⟩:=loopF_inv (body:=fun x:Int × List (Bs × Bool)=>syntax_Right.b1 us x.1 x.2) (fun i x=>∃ kn,x = ((i:Int),kn) ∧ ∀ j (hj:j < us.length),j < i → nameB us[j] = true) (Q:=fun r=>r = .inr false ∨ r = .inl () ∧ ∀ s ∈ us,nameB s = true) us.length (x:=(0,[])) ⟨[],rfl,fun j hj h=>absurd h (by omega)⟩ (fun i hi x hx=>by
  obtain⟨kn,rfl,hP⟩:=hx
  unfold syntax_Right.b1 syntax_Right.j1
  rw[ltZ_eq,decide_eq_true (by omega),cond_true,idx_nat hi,bind_in,name_ok,z64_succ (by omega)]
  simp only[bind_in]
  cases ((lookM kn us[i]).getD false) with
  | true=>exact .inr ⟨_,rfl,.inl rfl⟩
  | false =>
  cases hnm:nameB us[i] with
  | false=>exact .inr ⟨_,rfl,.inl rfl⟩
  | true =>
   refine .inl ⟨_,rfl,_,rfl,fun j hj h=>?_⟩
   by_cases hji:j = i
   ·subst hji; exact hnm
   ·exact hP j hj (by omega)) (fun x hx=>by
  obtain⟨kn,rfl,hP⟩:=hx
  unfold syntax_Right.b1
  rw[ltZ_eq,decide_eq_false (by omega),cond_false]
  refine⟨_,rfl,.inr ⟨rfl,fun s hs=>?_⟩⟩
  obtain⟨j,hj,rfl⟩:=List.mem_iff_getElem.1 hs
  exact hP j hj hj) (by omega)
 rw[h1,bind_in]
 rcases q1 with rfl | ⟨rfl,hun⟩
 ·exact⟨false,rfl,fun h=>by cases h⟩
 dsimp only
 unfold syntax_Right.j6
 obtain⟨r2,h2,q2⟩:=loopF_inv (body:=fun x:Int × List (Bs × Bool)=>syntax_Right.b2 fu x.1 x.2) (fun i x=>∃ kn,x = ((i:Int),kn) ∧ ∀ j (hj:j < fu.length),j < i → nameB fu[j].1 = true ∧ (∀ p ∈ fu[j].2.2.1,nameB p.nm = true ∧ rightS 4 p.kd p.fs = true) ∧ rightS 4 fu[j].2.2.2.1.1 fu[j].2.2.2.1.2 = true ∧ rexpB (bodyE fu[j]) = true)
  (Q:=fun r=>r = .inr false ∨ r = .inl () ∧ ∀ f ∈ fu,nameB f.1 = true ∧ (∀ p ∈ f.2.2.1,nameB p.nm = true ∧ rightS 4 p.kd p.fs = true) ∧ rightS 4 f.2.2.2.1.1 f.2.2.2.1.2 = true ∧ rexpB (bodyE f) = true) fu.length (x:=(0,[])) ⟨[],rfl,fun j hj h=>absurd h (by omega)⟩ (fun i hi x hx=>by
  obtain⟨kn,rfl,hP⟩:=hx
  unfold syntax_Right.b2 syntax_Right.j2
  simp only[fu1,fu2,fe1,fe2]
  obtain⟨hf1,hf2⟩:=hsf.2 _ (List.getElem_mem hi)
  obtain⟨b1,e1,g1⟩:=rfields_ok fu[i].2.2.1 6 (by omega)
  have hr:syntax_RightType fu[i].2.2.2.1.1 (unL fu[i].2.2.2.1.2) = some (rightS 4 fu[i].2.2.2.1.1 fu[i].2.2.2.1.2):=by
   have:=right_ok fu[i].2.2.2.1.1 fu[i].2.2.2.1.2
   unfold types_Right at this
   cases hx:syntax_RightType fu[i].2.2.2.1.1 (unL fu[i].2.2.2.1.2) with
   | none=>rw[hx] at this; cases this
   | some b=>rw[hx] at this; exact this
  have he:syntax_RightExp fu[i].2.2.2.2.2.1 fu[i].2.2.2.2.2.2.1 fu[i].2.2.2.2.2.2.2.1 fu[i].2.2.2.2.2.2.2.2.1 fu[i].2.2.2.2.2.2.2.2.2.1 (unE fu[i].2.2.2.2.2.2.2.2.2.2) = some (rexpB (bodyE fu[i])):=(rexp_ok hf2).1
  rw[ltZ_eq,decide_eq_true (by omega),cond_true,idx_nat hi,bind_in,name_ok,z64_succ (by omega),e1,hr,he]
  simp only[bind_in]
  cases ((lookM kn fu[i].1).getD false) with
  | true=>exact .inr ⟨_,rfl,.inl rfl⟩
  | false =>
  cases hnm:nameB fu[i].1 with
  | false=>exact .inr ⟨_,rfl,.inl rfl⟩
  | true =>
  cases b1 with
  | false=>exact .inr ⟨_,rfl,.inl rfl⟩
  | true =>
  cases hrt:rightS 4 fu[i].2.2.2.1.1 fu[i].2.2.2.1.2 with
  | false=>exact .inr ⟨_,rfl,.inl rfl⟩
  | true =>
  cases hre:rexpB (bodyE fu[i]) with
  | false=>exact .inr ⟨_,rfl,.inl rfl⟩
  | true =>
  cases (!eqZ (anI .i64 fu[i].2.2.2.2.1 15) 0) with
  | true=>exact .inr ⟨_,rfl,.inl rfl⟩
  | false =>
   refine .inl ⟨_,rfl,_,rfl,fun j hj h=>?_⟩
   by_cases hji:j = i
   ·subst hji; exact⟨hnm,(g1 rfl).1,hrt,hre⟩
   ·exact hP j hj (by omega)) (fun x hx=>by
  obtain⟨kn,rfl,hP⟩:=hx
  unfold syntax_Right.b2
  rw[ltZ_eq,decide_eq_false (by omega),cond_false]
  refine⟨_,rfl,.inr ⟨rfl,fun s hs=>?_⟩⟩
  obtain⟨j,hj,rfl⟩:=List.mem_iff_getElem.1 hs
  exact hP j hj hj) (by omega)
 rw[h2,bind_in]
 rcases q2 with rfl | ⟨rfl,hfn⟩
 ·exact⟨false,rfl,fun h=>by cases h⟩
 dsimp only
 unfold syntax_Right.j5
 obtain⟨b1,e1,g1⟩:=rfields_ok vs 8 (by omega)
 obtain⟨b2,e2,g2⟩:=rexps_ok ini (vs.length:Int) (by omega) fun e he=>⟨16,hsi.2 e he⟩
 rw[name_ok,e1,un_len,e2]
 simp only[bind_in]
 cases hnm:nameB nm with
 | false=>exact⟨false,rfl,fun h=>by cases h⟩
 | true =>
 cases ltZ 12 (us.length:Int) with
 | true=>exact⟨false,rfl,fun h=>by cases h⟩
 | false =>
 cases ltZ 30 (fu.length:Int) with
 | true=>exact⟨false,rfl,fun h=>by cases h⟩
 | false =>
 cases b1 with
 | false=>exact⟨false,rfl,fun h=>by cases h⟩
 | true =>
 cases b2 with
 | false=>exact⟨false,rfl,fun h=>by cases h⟩
 | true =>
 simp only[Bool.not_true,cond_false,bind_in]
 unfold syntax_Right.j4
 rw[un_len,un_len,cond_false]
 have fin:∀ vl:Int,(mv = true → vl = (vs.length:Int)) → ∃ b,syntax_Right.j3 (unL old) (unE fw) (unE bk) vl = some b ∧ (b = true → OkM (nm,us,vs,ini,fu,mv,old,fw,bk)):=fun vl hvl=>by
  obtain⟨b,hb,hb2⟩:=right3_ok old fw bk vl hso hsw hsb
  refine⟨b,hb,fun h=>?_⟩
  obtain⟨k1,k2,k3⟩:=hb2 h
  exact⟨hnm,hun,(g1 rfl).1,⟨(g2 rfl).1,by have:=(g2 rfl).2; show ini.length = vs.length; omega⟩,hfn,k1,⟨k2.1,fun h=>by have h1:=k2.2; have h2:=hvl h; show fw.length = vs.length; omega⟩,k3⟩
 cases mv with
 | true =>
  rw[Bool.not_true,cond_false,bind_in]
  exact fin _ fun _=>rfl
 | false =>
  rw[Bool.not_false,cond_true]
  cases ltZ 0 (old.length:Int) with
  | true=>exact⟨false,rfl,fun h=>by cases h⟩
  | false =>
   rw[cond_false,bind_in]
   exact fin _ fun h=>by cases h
end Go.Proofs.Ytaocfjifacnokaa
namespace Go.Proofs.Ytaocfjifacnokaa
open Go.Lad
theorem size_rec:∀ (lv n:Nat) (e:ExpT) (most lev:Int),lev ≤ lv → -9 ≤ lev → lv ≤ 100 → lv < n → 0 ≤ most → most ≤ 1000 → ∃ r,ladinglaw16_size.rec n e.op e.n e.s e.m e.names (unE e.args) most lev = some r ∧ 1 ≤ r ∧ r ≤ most + 1 ∧ (r ≤ most → shE lv e)
 | lv,0,_,_,_,_,_,_,h,_,_=>absurd h (by omega)
 | lv,n + 1,e,most,lev,h1,h2,h3,h4,h5,h6=>by
  show ∃ r,ladinglaw16_size.body (ladinglaw16_size.rec n) e.op e.n e.s e.m e.names (unE e.args) most lev = some r ∧ _
  unfold ladinglaw16_size.body ladinglaw16_size.j2
  simp only[ltZ_eq,bif_dec]
  have hbad:∃ r,((some true).bind fun x=>bif x then ((z64 (most + 1)).bind fun v10=>some v10) else loopF (fun x=>ladinglaw16_size.b1 (ladinglaw16_size.rec n) (unE e.args) most lev x.1 x.2) (1,0)) = some r ∧ 1 ≤ r ∧ r ≤ most + 1 ∧ (r ≤ most → shE lv e):=by
   rw[bind_in,cond_true,z64_i (by omega),bind_in]
   exact⟨_,rfl,by omega,by omega,fun h=>by omega⟩
  by_cases hl:lev < 1
  ·rw[if_pos hl]; exact hbad
  rw[if_neg hl]
  by_cases h12:(12:Int) < (e.names.length:Int)
  ·rw[if_pos h12]; exact hbad
  rw[if_neg h12]
  by_cases h60:(60:Int) < (e.s.length:Int)
  ·rw[if_pos h60]; exact hbad
  rw[if_neg h60]
  by_cases h61:(60:Int) < (e.m.length:Int)
  ·rw[decide_eq_true h61]; exact hbad
  rw[decide_eq_false h61,bind_in,cond_false]
  obtain⟨lv',rfl⟩:∃ k,lv = k + 1:=⟨lv - 1,by omega⟩
  obtain⟨r,hr,hq1,hq2,hq3⟩:=loopF_inv (body:=fun x=>ladinglaw16_size.b1 (ladinglaw16_size.rec n) (unE e.args) most lev x.1 x.2)
   (fun i x=>∃ nn:Int,x = (nn,(i:Int)) ∧ 1 + (i:Int) ≤ nn ∧ nn ≤ most + 1 ∧ i ≤ e.args.length ∧ (nn ≤ most → ∀ j (hj:j < e.args.length),j < i → shE lv' e.args[j])) (Q:=fun r=>1 ≤ r ∧ r ≤ most + 1 ∧ (r ≤ most → e.args.length ≤ 1000 ∧ ∀ a ∈ e.args,shE lv' a)) (most.toNat + 1) (x:=(1,0)) ⟨1,rfl,by omega,by omega,by omega,fun _ j hj h=>absurd h (by omega)⟩ (fun i hi x hx=>by
   obtain⟨nn,rfl,g1,g2,g3,g4⟩:=hx
   unfold ladinglaw16_size.b1 ladinglaw16_size.j1
   simp only[fe1,fe2]
   rw[unE_len]
   simp only[ltZ_eq,leZ_eq]
   by_cases hil:i < e.args.length
   rotate_left
   ·rw[decide_eq_false (by omega),cond_false,bind_in,cond_false]
    have:i = e.args.length:=by omega
    refine .inr ⟨_,rfl,by omega,by omega,fun h=>⟨by omega,fun a ha=>?_⟩⟩
    obtain⟨j,hj,rfl⟩:=List.mem_iff_getElem.1 ha
    exact g4 h j hj (by omega)
   rw[decide_eq_true (show (i:Int) < (e.args.length:Int) by omega),cond_true,bind_in,idx_unE hil]
   by_cases hm:nn ≤ most
   rotate_left
   ·rw[decide_eq_false hm,cond_false]
    exact .inr ⟨_,rfl,by omega,by omega,fun h=>absurd h hm⟩
   rw[decide_eq_true hm,cond_true,bind_in,z64_i (by omega),bind_in,z64_i (by omega),bind_in]
   obtain⟨r,hr,r1,r2,r3⟩:=size_rec lv' n e.args[i] (most - nn) (lev - 1) (by omega) (by omega) (by omega) (by omega) (by omega) (by omega)
   unfold tupE
   simp only[hr,bind_in]
   rw[z64_i (by omega),bind_in,z64_succ (by omega),bind_in]
   refine .inl ⟨_,rfl,nn + r,rfl,by omega,by omega,by omega,fun h j hj hji=>?_⟩
   by_cases hje:j = i
   ·subst hje; exact r3 (by omega)
   ·exact g4 (by omega) j hj (by omega)) (fun x hx=>by
   obtain⟨nn,rfl,g1,g2,g3,g4⟩:=hx
   omega) (by omega)
  refine⟨r,hr,hq1,hq2,fun h=>?_⟩
  obtain⟨k1,k2⟩:=hq3 h
  exact⟨by omega,k1,k2⟩
theorem size_ok (e:ExpT):∃ r,ladinglaw16_size e.op e.n e.s e.m e.names (unE e.args) 60 16 = some r ∧ (r ≤ 60 → shE 16 e):=by
 obtain⟨r,h1,_,_,h4⟩:=size_rec 16 bigFuel.n e 60 16 (by omega) (by omega) (by omega) (fuel_big (by omega)) (by omega) (by omega)
 exact⟨r,h1,h4⟩
theorem exps_ok (l:List ExpT):∃ b,ladinglaw16_exps (unE l) = some b ∧ (b = true → l.length ≤ 8 ∧ ∀ e ∈ l,shE 16 e):=by
 unfold ladinglaw16_exps
 exact loopF_inv (body:=fun x=>ladinglaw16_exps.b1 (unE l) x) (fun i x=>x = (i:Int) ∧ i ≤ l.length ∧ ∀ j (hj:j < l.length),j < i → shE 16 l[j]) (Q:=fun b=>b = true → l.length ≤ 8 ∧ ∀ e ∈ l,shE 16 e) 9 (x:=0) ⟨rfl,by omega,fun j hj h=>absurd h (by omega)⟩ (fun i hi x hx=>by
  obtain⟨rfl,hil,hP⟩:=hx
  unfold ladinglaw16_exps.b1 ladinglaw16_exps.j1
  simp only[fe1,fe2,ltZ_eq]
  rw[unE_len]
  by_cases hl:i < l.length
  rotate_left
  ·rw[decide_eq_false (by omega),cond_false,bind_in,cond_false]
   refine .inr ⟨_,rfl,fun h=>?_⟩
   rw[leZ_eq,decide_eq_true_eq] at h
   refine⟨by omega,fun a ha=>?_⟩
   obtain⟨j,hj,rfl⟩:=List.mem_iff_getElem.1 ha
   exact hP j hj (by omega)
  rw[decide_eq_true (show (i:Int) < (l.length:Int) by omega),cond_true,decide_eq_true (show (i:Int) < 9 by omega),bind_in,cond_true,idx_unE hl,bind_in]
  obtain⟨r,hr,hr2⟩:=size_ok l[i]
  unfold tupE
  simp only[hr,bind_in]
  by_cases h60:(60:Int) < r
  ·rw[decide_eq_true h60]; exact .inr ⟨_,rfl,fun h=>by cases h⟩
  ·rw[decide_eq_false h60,cond_false,z64_succ (by omega),bind_in]
   refine .inl ⟨_,rfl,rfl,by omega,fun j hj hji=>?_⟩
   by_cases hje:j = i
   ·subst hje; exact hr2 (by omega)
   ·exact hP j hj (by omega)) (fun x hx=>by
  obtain⟨rfl,hil,hP⟩:=hx
  unfold ladinglaw16_exps.b1 ladinglaw16_exps.j1
  simp only[ltZ_eq]
  rw[unE_len,leZ_eq,decide_eq_false (show ¬ (((9:Nat):Int) < 9) by omega)]
  refine⟨false,?_,fun h=>by cases h⟩
  rw[decide_eq_false (show ¬ ((l.length:Int) ≤ 8) by omega)]
  cases decide (((9:Nat):Int) < (l.length:Int)) <;> rfl) (by omega)
theorem fields_ok (l:List FieldT):∃ b,ladinglaw16_fields (unL l) = some b ∧ (b = true → l.length ≤ 8):=by
 unfold ladinglaw16_fields
 exact loopF_inv (body:=fun x=>ladinglaw16_fields.b1 (unL l) x) (fun i x=>x = (i:Int) ∧ i ≤ l.length) (Q:=fun b=>b = true → l.length ≤ 8) 9 (x:=0) ⟨rfl,by omega⟩ (fun i hi x hx=>by
  obtain⟨rfl,hil⟩:=hx
  unfold ladinglaw16_fields.b1 ladinglaw16_fields.j2 ladinglaw16_fields.j1
  simp only[fx1,ltZ_eq]
  rw[un_len]
  by_cases hl:i < l.length
  rotate_left
  ·rw[decide_eq_false (by omega),cond_false,bind_in,cond_false]
   refine .inr ⟨_,rfl,fun h=>?_⟩
   rw[leZ_eq,decide_eq_true_eq] at h
   omega
  rw[decide_eq_true (show (i:Int) < (l.length:Int) by omega),cond_true,decide_eq_true (show (i:Int) < 9 by omega),bind_in,cond_true,idx_un hl,bind_in,bind_in]
  obtain⟨b,hb⟩:=light_ok [(l[i].kd,l[i].fs)] (by simp)
  rw[hb]
  simp only[bind_in]
  by_cases h60:(60:Int) < (l[i].nm.length:Int)
  ·rw[decide_eq_true h60]; exact .inr ⟨_,rfl,fun h=>by cases h⟩
  ·rw[decide_eq_false h60,cond_false,bind_in]
   cases b with
   | false=>exact .inr ⟨_,rfl,fun h=>by cases h⟩
   | true =>
    rw[Bool.not_true,cond_false,z64_succ (by omega),bind_in]
    exact .inl ⟨_,rfl,rfl,by omega⟩) (fun x hx=>by
  obtain⟨rfl,hil⟩:=hx
  unfold ladinglaw16_fields.b1 ladinglaw16_fields.j2
  simp only[ltZ_eq]
  rw[un_len,leZ_eq,decide_eq_false (show ¬ (((9:Nat):Int) < 9) by omega)]
  refine⟨false,?_,fun h=>by cases h⟩
  rw[decide_eq_false (show ¬ ((l.length:Int) ≤ 8) by omega)]
  cases decide (((9:Nat):Int) < (l.length:Int)) <;> rfl) (by omega)
noncomputable abbrev ModB (m:GModule):Option Bool:=ladinglaw16_module m.1 m.2.1 (unL m.2.2.1) (unE m.2.2.2.1) m.2.2.2.2.1 m.2.2.2.2.2.1 (unL m.2.2.2.2.2.2.1) (unE m.2.2.2.2.2.2.2.1) (unE m.2.2.2.2.2.2.2.2)
theorem one_exp (f:GFunc):([(f.2.2.2.2.2.1,f.2.2.2.2.2.2.1,f.2.2.2.2.2.2.2.1,f.2.2.2.2.2.2.2.2.1,f.2.2.2.2.2.2.2.2.2.1,f.2.2.2.2.2.2.2.2.2.2)]:List GExp) = unE [bodyE f]:=rfl
theorem module_ok (m:GModule):∃ b,ModB m = some b ∧ (b = true → ShM m):=by
 obtain⟨nm,us,vs,ini,fu,mv,old,fw,bk⟩:=m
 show ∃ b,ladinglaw16_module nm us (unL vs) (unE ini) fu mv (unL old) (unE fw) (unE bk) = some b ∧ _
 unfold ladinglaw16_module
 obtain⟨r1,h1,q1⟩:=loopF_inv (body:=fun x=>ladinglaw16_module.b1 fu x) (fun i x=>x = (i:Int) ∧ i ≤ fu.length ∧ ∀ j (hj:j < fu.length),j < i → fu[j].2.2.1.length ≤ 8 ∧ shE 16 (bodyE fu[j])) (Q:=fun r=>r = .inr false ∨ r = .inl () ∧ (fu.length ≤ 6 → ∀ f ∈ fu,f.2.2.1.length ≤ 8 ∧ shE 16 (bodyE f))) 7 (x:=0) ⟨rfl,by omega,fun j hj h=>absurd h (by omega)⟩ (fun i hi x hx=>by
  obtain⟨rfl,hil,hP⟩:=hx
  unfold ladinglaw16_module.b1 ladinglaw16_module.j2 ladinglaw16_module.j1
  simp only[fu1,fu2,fx1,fxe1,ltZ_eq]
  by_cases hl:i < fu.length
  rotate_left
  ·rw[decide_eq_false (by omega),cond_false,bind_in,cond_false]
   refine .inr ⟨_,rfl,.inr ⟨rfl,fun _ a ha=>?_⟩⟩
   obtain⟨j,hj,rfl⟩:=List.mem_iff_getElem.1 ha
   exact hP j hj (by omega)
  rw[decide_eq_true (show (i:Int) < (fu.length:Int) by omega),cond_true,decide_eq_true (show (i:Int) < 7 by omega),bind_in,cond_true,idx_nat hl,bind_in]
  obtain⟨b1,e1,g1⟩:=fields_ok fu[i].2.2.1
  obtain⟨b2,e2⟩:=light_ok [(fu[i].2.2.2.1.1,fu[i].2.2.2.1.2)] (by simp)
  obtain⟨b3,e3,g3⟩:=exps_ok [bodyE fu[i]]
  rw[e1,bind_in,e2,bind_in,one_exp,e3,bind_in]
  cases b1 with
  | false=>exact .inr ⟨_,rfl,.inl rfl⟩
  | true =>
  cases b2 with
  | false=>exact .inr ⟨_,rfl,.inl rfl⟩
  | true =>
  cases b3 with
  | false=>exact .inr ⟨_,rfl,.inl rfl⟩
  | true =>
  simp only[Bool.not_true,cond_false,bind_in]
  by_cases h60:(60:Int) < (fu[i].1.length:Int)
  ·rw[decide_eq_true h60]; exact .inr ⟨_,rfl,.inl rfl⟩
  ·rw[decide_eq_false h60,cond_false,z64_succ (by omega),bind_in]
   refine .inl ⟨_,rfl,rfl,by omega,fun j hj hji=>?_⟩
   by_cases hje:j = i
   ·subst hje; exact⟨g1 rfl,(g3 rfl).2 _ List.mem_cons_self⟩
   ·exact hP j hj (by omega)) (fun x hx=>by
  obtain⟨rfl,hil,hP⟩:=hx
  unfold ladinglaw16_module.b1 ladinglaw16_module.j2
  simp only[ltZ_eq]
  rw[decide_eq_false (show ¬ (((7:Nat):Int) < 7) by omega)]
  refine⟨.inl (),?_,.inr ⟨rfl,fun h=>by omega⟩⟩
  cases decide (((7:Nat):Int) < (fu.length:Int)) <;> rfl) (by omega)
 rw[h1,bind_in]
 rcases q1 with rfl | ⟨rfl,hf⟩
 ·exact⟨false,rfl,fun h=>by cases h⟩
 dsimp only
 unfold ladinglaw16_module.j3
 obtain⟨b1,e1,g1⟩:=fields_ok vs
 obtain⟨b2,e2,g2⟩:=exps_ok ini
 obtain⟨b3,e3,g3⟩:=fields_ok old
 obtain⟨b4,e4,g4⟩:=exps_ok fw
 obtain⟨b5,e5,g5⟩:=exps_ok bk
 rw[e1,e2,e3,e4,e5]
 simp only[bind_in,leZ_eq]
 by_cases c1:(fu.length:Int) ≤ 6
 rotate_left
 ·rw[decide_eq_false c1]; exact⟨false,rfl,fun h=>by cases h⟩
 rw[decide_eq_true c1,cond_true]
 by_cases c2:(us.length:Int) ≤ 8
 rotate_left
 ·rw[decide_eq_false c2]; exact⟨false,rfl,fun h=>by cases h⟩
 rw[decide_eq_true c2,cond_true]
 cases b1 with
 | false=>exact⟨false,rfl,fun h=>by cases h⟩
 | true =>
 cases b2 with
 | false=>exact⟨false,rfl,fun h=>by cases h⟩
 | true =>
 cases b3 with
 | false=>exact⟨false,rfl,fun h=>by cases h⟩
 | true =>
 cases b4 with
 | false=>exact⟨false,rfl,fun h=>by cases h⟩
 | true =>
 cases b5 with
 | false=>exact⟨false,rfl,fun h=>by cases h⟩
 | true =>
 exact⟨_,rfl,fun _=>⟨by show us.length ≤ 8; omega,g1 rfl,g2 rfl,⟨by show fu.length ≤ 6; omega,hf (by omega)⟩,g3 rfl,g4 rfl,g5 rfl⟩⟩
def ShF (l:List GFace):Prop:=l.length ≤ 4 ∧ ∀ f ∈ l,f.2.length ≤ 6 ∧ ∀ s ∈ f.2,s.2.1.length ≤ 8
theorem seen_ok (l:List GFace):∃ b,ladinglaw16_seen l = some b ∧ (b = true → ShF l):=by
 unfold ladinglaw16_seen
 exact loopF_inv (body:=fun x=>ladinglaw16_seen.b2 l x) (fun i x=>x = (i:Int) ∧ i ≤ l.length ∧ ∀ j (hj:j < l.length),j < i → l[j].2.length ≤ 6 ∧ ∀ s ∈ l[j].2,s.2.1.length ≤ 8) (Q:=fun b=>b = true → ShF l) 5 (x:=0) ⟨rfl,by omega,fun j hj h=>absurd h (by omega)⟩ (fun i hi x hx=>by
  obtain⟨rfl,hil,hP⟩:=hx
  unfold ladinglaw16_seen.b2 ladinglaw16_seen.j4 ladinglaw16_seen.j3
  simp only[ltZ_eq]
  by_cases hl:i < l.length
  rotate_left
  ·rw[decide_eq_false (by omega),cond_false,bind_in,cond_false]
   refine .inr ⟨_,rfl,fun h=>?_⟩
   rw[leZ_eq,decide_eq_true_eq] at h
   refine⟨by omega,fun a ha=>?_⟩
   obtain⟨j,hj,rfl⟩:=List.mem_iff_getElem.1 ha
   exact hP j hj (by omega)
  rw[decide_eq_true (show (i:Int) < (l.length:Int) by omega),cond_true,decide_eq_true (show (i:Int) < 5 by omega),bind_in,cond_true]
  obtain⟨r,hr,hq⟩:=loopF_inv (body:=fun x=>ladinglaw16_seen.b1 l (i:Int) x) (fun k x=>x = (k:Int) ∧ k ≤ l[i].2.length ∧ ∀ j (hj:j < l[i].2.length),j < k → l[i].2[j].2.1.length ≤ 8) (Q:=fun r=>r = .inr (.inr false) ∨ r = .inl () ∧ (l[i].2.length ≤ 6 → ∀ s ∈ l[i].2,s.2.1.length ≤ 8)) 7 (x:=0) ⟨rfl,by omega,fun j hj h=>absurd h (by omega)⟩ (fun k hk x hx=>by
   obtain⟨rfl,hkl,hR⟩:=hx
   unfold ladinglaw16_seen.b1 ladinglaw16_seen.j2 ladinglaw16_seen.j1
   simp only[fx1,ltZ_eq]
   rw[idx_nat hl,bind_in,bind_in]
   by_cases hkk:k < l[i].2.length
   rotate_left
   ·rw[decide_eq_false (by omega),cond_false,bind_in,cond_false]
    refine .inr ⟨_,rfl,.inr ⟨rfl,fun _ a ha=>?_⟩⟩
    obtain⟨j,hj,rfl⟩:=List.mem_iff_getElem.1 ha
    exact hR j hj (by omega)
   rw[decide_eq_true (show (k:Int) < (l[i].2.length:Int) by omega),cond_true,decide_eq_true (show (k:Int) < 7 by omega),bind_in,cond_true,idx_nat hkk,bind_in]
   by_cases h8:(8:Int) < (l[i].2[k].2.1.length:Int)
   ·rw[decide_eq_true h8]; exact .inr ⟨_,rfl,.inl rfl⟩
   rw[decide_eq_false h8,cond_false]
   obtain⟨b1,e1⟩:=light_ok l[i].2[k].2.1 (by omega)
   obtain⟨b2,e2⟩:=light_ok [(l[i].2[k].2.2.1.1,l[i].2[k].2.2.1.2)] (by simp)
   rw[e1,bind_in,e2,bind_in]
   cases b1 with
   | false=>exact .inr ⟨_,rfl,.inl rfl⟩
   | true =>
   cases b2 with
   | false=>exact .inr ⟨_,rfl,.inl rfl⟩
   | true =>
    simp only[Bool.not_true,cond_false,bind_in]
    rw[z64_succ (by omega),bind_in]
    refine .inl ⟨_,rfl,rfl,by omega,fun j hj hjk=>?_⟩
    by_cases hje:j = k
    ·subst hje; omega
    ·exact hR j hj (by omega)) (fun x hx=>by
   obtain⟨rfl,hkl,hR⟩:=hx
   unfold ladinglaw16_seen.b1 ladinglaw16_seen.j2
   simp only[ltZ_eq]
   rw[idx_nat hl,bind_in,decide_eq_false (show ¬ (((7:Nat):Int) < 7) by omega)]
   refine⟨.inl (),?_,.inr ⟨rfl,fun h=>by omega⟩⟩
   cases decide (((7:Nat):Int) < (l[i].2.length:Int)) <;> rfl) (by omega)
  rw[hr,bind_in]
  rcases hq with rfl | ⟨rfl,hq⟩
  ·exact .inr ⟨_,rfl,fun h=>by cases h⟩
  dsimp only
  rw[idx_nat hl,bind_in]
  by_cases h6:(6:Int) < (l[i].2.length:Int)
  ·rw[decide_eq_true h6]; exact .inr ⟨_,rfl,fun h=>by cases h⟩
  ·rw[decide_eq_false h6,cond_false,z64_succ (by omega),bind_in]
   refine .inl ⟨_,rfl,rfl,by omega,fun j hj hji=>?_⟩
   by_cases hje:j = i
   ·subst hje; exact⟨by omega,hq (by omega)⟩
   ·exact hP j hj (by omega)) (fun x hx=>by
  obtain⟨rfl,hil,hP⟩:=hx
  unfold ladinglaw16_seen.b2 ladinglaw16_seen.j4
  simp only[ltZ_eq]
  rw[leZ_eq,decide_eq_false (show ¬ (((5:Nat):Int) < 5) by omega)]
  refine⟨false,?_,fun h=>by cases h⟩
  rw[decide_eq_false (show ¬ ((l.length:Int) ≤ 4) by omega)]
  cases decide (((5:Nat):Int) < (l.length:Int)) <;> rfl) (by omega)
end Go.Proofs.Ytaocfjifacnokaa
namespace Go.Proofs.Ytaocfjifacnokaa
open Go.Lad
def goL {α β:Type} (f:Nat → α → Option (Option β)) (e:Option β):Nat → List α → Option β
 | _,[]=>e
 | k,x :: r=>match f k x with
  | none=>none
  | some none=>goL f e (k + 1) r
  | some (some b)=>some b
theorem loop_go {α τ β:Type} {body:τ → Option (τ ⊕ β)} (S:Nat → τ) (l:List α) (f:Nat → α → Option (Option β)) (e:Option β)
  (h:∀ k (hk:k < l.length),body (S k) = match f k l[k] with | none=>none | some none=>some (.inl (S (k + 1))) | some (some b)=>some (.inr b))
  (hd:body (S l.length) = e.map .inr) (hn:l.length < 1606938044258990275541962092341162602522202993782792835301376):loopF body (S 0) = goL f e 0 l:=by
 have:∀ (r:List α) (k n:Nat),r = l.drop k → k ≤ l.length → r.length < n → iterM body n (S k) = goL f e k r:=by
  intro r
  induction r with
  | nil =>
   intro k n hr hk hn
   have:k = l.length:=by
    have:=congrArg List.length hr
    simp at this; omega
   subst this
   obtain⟨m,rfl⟩:∃ m,n = m + 1:=⟨n - 1,by simp at hn; omega⟩
   unfold iterM goL
   rw[hd]
   cases e <;> rfl
  | cons x r ih =>
   intro k n hr hk hn
   have hkl:k < l.length:=by
    have:=congrArg List.length hr
    simp at this; omega
   have hx:l[k] = x ∧ r = l.drop (k + 1):=by
    rw[List.drop_eq_getElem_cons hkl] at hr
    injection hr with h1 h2
    exact⟨h1.symm,h2⟩
   obtain⟨m,rfl⟩:∃ m,n = m + 1:=⟨n - 1,by simp at hn; omega⟩
   have hb:=h k hkl
   rw[hx.1] at hb
   unfold iterM goL
   rw[hb]
   cases hf:f k x with
   | none=>rfl
   | some o =>
    cases o with
    | none=>exact ih (k + 1) m hx.2 hkl (by simp at hn; omega)
    | some b=>rfl
 exact this l 0 bigFuel.n rfl (Nat.zero_le _) (by show l.length < 1606938044258990275541962092341162602522202993782792835301376; exact hn)
theorem goL_req {α β:Type} (t:α → Bool) (e:Option β):∀ (l:List α) (k:Nat),goL (fun _ x=>if t x = true then some none else none) e k l = if l.all t = true then e else none
 | [],_=>rfl
 | x :: r,k=>by
  unfold goL
  rw[List.all_cons]
  cases t x with
  | true=>simpa using goL_req t e r (k + 1)
  | false=>rfl
theorem goL_bad {α β:Type} (t:α → Bool) (e:Option β) (b:β):∀ (l:List α) (k:Nat),goL (fun _ x=>if t x = true then some none else some (some b)) e k l = if l.all t = true then e else some b
 | [],_=>rfl
 | x :: r,k=>by
  unfold goL
  rw[List.all_cons]
  cases t x with
  | true=>simpa using goL_bad t e b r (k + 1)
  | false=>rfl
noncomputable def sigB (s:GSig):Bool:=rightS 4 s.2.2.1.1 s.2.2.1.2 && s.2.1.all fun t=>rightS 4 t.1 t.2
noncomputable def faceB (f:GFace):Bool:=f.2.all sigB
noncomputable def facesB (l:List GFace):Bool:=l.all faceB
def addF (p:List (Bs × GFace)) (f:GFace):List (Bs × GFace):=if (lookM p f.1).isSome = true then p else putM p f.1 f
def facesM (l:List GFace):List (Bs × GFace):=l.foldl addF []
theorem rights_ok (l:List GType) (hl:l.length ≤ 1000):slices_ContainsFunc_api_Type_api_Type l = some (!l.all fun t=>rightS 4 t.1 t.2):=by
 unfold slices_ContainsFunc_api_Type_api_Type slices_IndexFunc_api_Type_api_Type
 rw[loop_idx l (fun t=>!rightS 4 t.1 t.2) (fun i hi=>by
  unfold slices_IndexFunc_api_Type_api_Type.b1 types_newJudge_1
  simp only[fu1,fu2]
  rw[ltZ_eq,decide_eq_true (by omega),cond_true,idx_nat hi,bind_in,right_ok,bind_in,bind_in,z64_succ (by omega)]
  cases (!rightS 4 l[i].1 l[i].2) <;> rfl) (by
  unfold slices_IndexFunc_api_Type_api_Type.b1
  rw[ltZ_eq,decide_eq_false (by omega),cond_false]) (by omega),bind_in,leZ_eq,idxN_any]
 congr 1
 clear hl
 induction l with
 | nil=>rfl
 | cons x r ih=>rw[List.any_cons,List.all_cons,Bool.not_and,ih]
theorem locals_ok (l:List FieldT) (hl:l.length ≤ 1000):slices_ContainsFunc_api_Field_api_Field (unL l) = some (!l.all fun f=>rightS 4 f.kd f.fs):=by
 unfold slices_ContainsFunc_api_Field_api_Field slices_IndexFunc_api_Field_api_Field
 rw[loop_idx l (fun f=>!rightS 4 f.kd f.fs) (fun i hi=>by
  unfold slices_IndexFunc_api_Field_api_Field.b1 types_TypeOf_1
  simp only[fu1,fu2]
  rw[un_len,ltZ_eq,decide_eq_true (by omega),cond_true,idx_un hi,bind_in,right_ok,bind_in,bind_in,z64_succ (by omega)]
  cases (!rightS 4 l[i].kd l[i].fs) <;> rfl) (by
  unfold slices_IndexFunc_api_Field_api_Field.b1
  rw[un_len,ltZ_eq,decide_eq_false (by omega),cond_false]) (by omega),bind_in,leZ_eq,idxN_any]
 congr 1
 clear hl
 induction l with
 | nil=>rfl
 | cons x r ih=>rw[List.any_cons,List.all_cons,Bool.not_and,ih]
theorem add_end (p:List (Bs × GFace)) (f:GFace):addF p f = if (lookM p f.1).isSome = true then p else putM p f.1 f:=rfl
theorem faces_step (l:List GFace) {i:Nat} (hi:i < l.length):facesM (l.take (i + 1)) = addF (facesM (l.take i)) l[i]:=by
 unfold facesM
 rw[take_succ hi,List.foldl_append]; rfl
theorem judge_ok (nm:Bs) (us:List Bs) (vs:List GField) (ini:List GExp) (fu:List GFunc) (mv:Bool) (old:List GField) (fw bk:List GExp) (l:List GFace) (hs:ShF l) :
  types_newJudge nm us vs ini fu mv old fw bk l = if facesB l = true then some (nm,us,vs,ini,fu,mv,old,fw,bk,0,facesM l) else none:=by
 obtain⟨hl,hs⟩:=hs
 unfold types_newJudge
 refine (loop_go (body:=fun x:Int × Bs × List Bs × List GField × List GExp × List GFunc × Bool × List GField × List GExp × List GExp × Int × List (Bs × GFace)=>types_newJudge.b2 l x.1 x.2.1 x.2.2.1 x.2.2.2.1 x.2.2.2.2.1 x.2.2.2.2.2.1 x.2.2.2.2.2.2.1 x.2.2.2.2.2.2.2.1 x.2.2.2.2.2.2.2.2.1 x.2.2.2.2.2.2.2.2.2.1 x.2.2.2.2.2.2.2.2.2.2.1 x.2.2.2.2.2.2.2.2.2.2.2)
  (fun i=>((i:Int),nm,us,vs,ini,fu,mv,old,fw,bk,0,facesM (l.take i))) l (fun _ x=>if faceB x = true then some none else none) (some (nm,us,vs,ini,fu,mv,old,fw,bk,0,facesM l)) (fun i hi=>?_) ?_ (by omega)).trans (goL_req _ _ _ _)
 ·obtain⟨hs1,hs2⟩:=hs _ (List.getElem_mem hi)
  have hin:loopF (fun x=>types_newJudge.b1 l[i] x) 0 = if faceB l[i] = true then some (.inl ()) else none:=by
   refine (loop_go (body:=fun x=>types_newJudge.b1 l[i] x) (fun k=>(k:Int)) l[i].2 (fun _ x=>if sigB x = true then some none else none) (some (.inl ())) (fun k hk=>?_) ?_ (by omega)).trans (goL_req _ _ _ _)
   ·unfold types_newJudge.b1 types_newJudge.j1
    simp only[fu1,fu2]
    rw[ltZ_eq,decide_eq_true (by omega),cond_true,idx_nat hk,bind_in,right_ok,bind_in,rights_ok _ (by have:=hs2 _ (List.getElem_mem hk); omega),z64_succ (by omega)]
    simp only[bind_in]
    unfold sigB
    cases rightS 4 l[i].2[k].2.2.1.1 l[i].2[k].2.2.1.2 with
    | false=>rfl
    | true=>cases (l[i].2[k].2.1.all fun t=>rightS 4 t.1 t.2) <;> rfl
   ·unfold types_newJudge.b1
    rw[ltZ_eq,decide_eq_false (by omega),cond_false]; rfl
  unfold types_newJudge.b2
  rw[ltZ_eq,decide_eq_true (by omega),cond_true,idx_nat hi,bind_in,hin]
  cases hb:faceB l[i] with
  | false=>rfl
  | true =>
   rw[if_pos rfl,if_pos rfl,bind_in]
   dsimp only
   unfold types_newJudge.j2
   rw[z64_succ (by omega),faces_step l hi,add_end]
   simp only[bind_in]
   cases hlk:(lookM (facesM (l.take i)) l[i].1).isSome <;> rfl
 ·unfold types_newJudge.b2
  rw[ltZ_eq,decide_eq_false (by omega),cond_false,List.take_length]; rfl
theorem judge2_ok (nm:Bs) (us:List Bs) (vs:List GField) (ini:List GExp) (fu:List GFunc) (mv:Bool) (old:List GField) (fw bk:List GExp) (l:List GFace) (hs:ShF l) :
  types_newJudge_v2 nm us vs ini fu mv old fw bk l = if facesB l = true then none else some ():=by
 obtain⟨hl,hs⟩:=hs
 unfold types_newJudge_v2
 refine (loop_go (body:=fun x:Int × Bs × List Bs × List GField × List GExp × List GFunc × Bool × List GField × List GExp × List GExp × Int × List (Bs × GFace)=>types_newJudge_v2.b2 l x.1 x.2.1 x.2.2.1 x.2.2.2.1 x.2.2.2.2.1 x.2.2.2.2.2.1 x.2.2.2.2.2.2.1 x.2.2.2.2.2.2.2.1 x.2.2.2.2.2.2.2.2.1 x.2.2.2.2.2.2.2.2.2.1 x.2.2.2.2.2.2.2.2.2.2.1 x.2.2.2.2.2.2.2.2.2.2.2)
  (fun i=>((i:Int),nm,us,vs,ini,fu,mv,old,fw,bk,0,facesM (l.take i))) l (fun _ x=>if faceB x = true then some none else some (some ())) none (fun i hi=>?_) ?_ (by omega)).trans (goL_bad _ _ _ _ _)
 ·obtain⟨hs1,hs2⟩:=hs _ (List.getElem_mem hi)
  have hin:loopF (fun x=>types_newJudge_v2.b1 l[i] x) 0 = if faceB l[i] = true then some (.inl ()) else some (.inr (.inr ())):=by
   refine (loop_go (body:=fun x=>types_newJudge_v2.b1 l[i] x) (fun k=>(k:Int)) l[i].2 (fun _ x=>if sigB x = true then some none else some (some (.inr (.inr ())))) (some (.inl ())) (fun k hk=>?_) ?_ (by omega)).trans (goL_bad _ _ _ _ _)
   ·unfold types_newJudge_v2.b1 types_newJudge_v2.j1
    simp only[fu1,fu2]
    rw[ltZ_eq,decide_eq_true (by omega),cond_true,idx_nat hk,bind_in,right_ok,bind_in,rights_ok _ (by have:=hs2 _ (List.getElem_mem hk); omega),z64_succ (by omega)]
    simp only[bind_in]
    unfold sigB
    cases rightS 4 l[i].2[k].2.2.1.1 l[i].2[k].2.2.1.2 with
    | false=>rfl
    | true=>cases (l[i].2[k].2.1.all fun t=>rightS 4 t.1 t.2) <;> rfl
   ·unfold types_newJudge_v2.b1
    rw[ltZ_eq,decide_eq_false (by omega),cond_false]; rfl
  unfold types_newJudge_v2.b2
  rw[ltZ_eq,decide_eq_true (by omega),cond_true,idx_nat hi,bind_in,hin]
  cases hb:faceB l[i] with
  | false=>rfl
  | true =>
   rw[if_pos rfl,if_pos rfl,bind_in]
   dsimp only
   unfold types_newJudge_v2.j2
   rw[z64_succ (by omega),faces_step l hi,add_end]
   simp only[bind_in]
   cases hlk:(lookM (facesM (l.take i)) l[i].1).isSome <;> rfl
 ·unfold types_newJudge_v2.b2
  rw[ltZ_eq,decide_eq_false (by omega),cond_false]
theorem look_val {α β:Type} [DecidableEq α] {m:List (α × β)} {x:α} {y:β} (h:lookM m x = some y):∃ p ∈ m,p.2 = y:=by
 unfold lookM at h
 rw[Option.bind_eq_some_iff] at h
 obtain⟨i,_,h⟩:=h
 rw[Option.map_eq_some_iff] at h
 obtain⟨p,hp,rfl⟩:=h
 exact⟨p,List.mem_of_getElem? hp,rfl⟩
theorem put_mem {α β:Type} [DecidableEq α] {m:List (α × β)} {x:α} {y:β} {p:α × β} (h:p ∈ putM m x y):p ∈ m ∨ p = (x,y):=by
 unfold putM at h
 split at h
 ·rcases List.mem_or_eq_of_mem_set h with h | h
  ·exact .inl h
  ·exact .inr h
 ·rcases List.mem_append.1 h with h | h
  ·exact .inl h
  ·exact .inr (List.mem_singleton.1 h)
theorem facesM_mem (l:List GFace):∀ p ∈ facesM l,p.2 ∈ l:=by
 have:∀ (r:List GFace) (m:List (Bs × GFace)),(∀ p ∈ m,p.2 ∈ l) → (∀ f ∈ r,f ∈ l) → ∀ p ∈ r.foldl addF m,p.2 ∈ l:=by
  intro r
  induction r with
  | nil=>intro m hm _ p hp; exact hm p hp
  | cons f r ih =>
   intro m hm hr p hp
   refine ih (addF m f) (fun q hq=>?_) (fun f hf=>hr f (List.mem_cons_of_mem _ hf)) p hp
   unfold addF at hq
   split at hq
   ·exact hm q hq
   ·rcases put_mem hq with hq | rfl
    ·exact hm q hq
    ·exact hr f List.mem_cons_self
 exact this l [] (fun p hp=>by cases hp) fun f hf=>hf
def cxM (m:GModule) (faces:List GFace):Cx:=⟨m.2.2.1,m.2.2.2.2.1,m.2.1,lookM (facesM faces)⟩
theorem sig_okL {s:GSig} (h:sigB s = true):(∀ t ∈ s.2.1,okL 4 t.2) ∧ okL 4 s.2.2.1.2:=by
 unfold sigB at h
 rw[Bool.and_eq_true,List.all_eq_true] at h
 exact⟨fun t ht=>right_okL (h.2 t ht),right_okL h.1⟩
theorem okC_of {m:GModule} {faces:List GFace} (hm:ShM m) (hf:ShF faces) (ho:OkM m) (hb:facesB faces = true):OkC (cxM m faces) where
 vars:=fun f hf=>right_okL (ho.vars f hf).2
 flen:=Nat.le_trans hm.funcs.1 (by omega)
 funcs:=fun f hf=>⟨Nat.le_trans (hm.funcs.2 f hf).1 (by omega),fun p hp=>right_okL ((ho.funcs f hf).2.1 p hp).2,right_okL (ho.funcs f hf).2.2.1⟩
 ulen:=Nat.le_trans hm.uses (by omega)
 look:=fun x face h=>by
  obtain⟨p,hp,e⟩:=look_val h
  have hmem:face ∈ faces:=by rw[← e]; exact facesM_mem faces p hp
  refine⟨Nat.le_trans (hf.2 face hmem).1 (by omega),fun g hg=>sig_okL ?_⟩
  unfold facesB at hb
  rw[List.all_eq_true] at hb
  have:=hb face hmem
  unfold faceB at this
  rw[List.all_eq_true] at this
  exact this g hg
noncomputable def localsB (L:List FieldT):Bool:=L.all fun f=>rightS 4 f.kd f.fs
noncomputable def rightB (m:GModule):Bool:=(RightM m).getD false
theorem rightB_ok {m:GModule} (hm:ShM m):RightM m = some (rightB m) ∧ (rightB m = true → OkM m):=by
 obtain⟨b,hb,hb2⟩:=rightM_ok m hm
 unfold rightB
 rw[hb]
 exact⟨rfl,hb2⟩
noncomputable def argB (m:GModule) (faces:List GFace) (L:List FieldT) (e:ExpT):Bool:=localsB L && (rexpB e && (rightB m && facesB faces))
noncomputable def typeOfS (m:GModule) (faces:List GFace) (L:List FieldT) (e:ExpT):GType × Int × Int :=
 if argB m faces L e = true then (if (findS (cxM m faces) 12 L 0 e).2.1 = 0 then ((findS (cxM m faces) 12 L 0 e).1,(findS (cxM m faces) 12 L 0 e).2.2,0) else ((0,[]),0,(findS (cxM m faces) 12 L 0 e).2.1))
 else ((0,[]),0,1)
noncomputable abbrev TypeOfM (m:GModule) (faces:List GFace) (L:List FieldT) (e:ExpT):Option (GType × Int × Int) :=
 types_TypeOf_v2 m.1 m.2.1 (unL m.2.2.1) (unE m.2.2.2.1) m.2.2.2.2.1 m.2.2.2.2.2.1 (unL m.2.2.2.2.2.2.1) (unE m.2.2.2.2.2.2.2.1) (unE m.2.2.2.2.2.2.2.2) faces (unL L) e.op e.n e.s e.m e.names (unE e.args)
theorem locals_okL {L:List FieldT} (h:localsB L = true):∀ f ∈ L,okL 4 f.fs:=fun f hf=>by
 unfold localsB at h
 rw[List.all_eq_true] at h
 exact right_okL (h f hf)
theorem find_ok {m:GModule} {faces:List GFace} {L:List FieldT} {e:ExpT} (hm:ShM m) (hf:ShF faces) (hL:L.length ≤ 1000) (hr:rightB m = true) (hb:facesB faces = true) (hl:localsB L = true) (he:okE 12 e) (nm:Bs) (ini:List GExp) (mv:Bool) (old:List GField) (fw bk:List GExp) :
  types_judge_find (unL L) e.op e.n e.s e.m e.names (unE e.args) nm m.2.1 (unL m.2.2.1) ini m.2.2.2.2.1 mv old fw bk 0 (facesM faces) =
   some ((findS (cxM m faces) 12 L 0 e).1,(findS (cxM m faces) 12 L 0 e).2.1,nm,m.2.1,unL m.2.2.1,ini,m.2.2.2.2.1,mv,old,fw,bk,(findS (cxM m faces) 12 L 0 e).2.2,facesM faces) :=
 find_rec (okC_of hm hf ((rightB_ok hm).2 hr) hb) nm ini mv old fw bk (facesM faces) rfl 12 bigFuel.n 4 L 0 e (by omega) (fuel_big (by omega)) (by omega) (by omega) he (locals_okL hl) (by omega)
theorem find_type {C:Cx} (hC:OkC C) {L:List FieldT} {e:ExpT} (hl:localsB L = true) (he:okE 12 e):okL 4100 (findS C 12 L 0 e).1.2:=okL_le (by omega) (find_okL hC 12 4 L 0 e (by omega) he (locals_okL hl))
theorem typeOf_ok {m:GModule} {faces:List GFace} {L:List FieldT} {e:ExpT} (hm:ShM m) (hf:ShF faces) (hL:L.length ≤ 1000) (he:shE 16 e):TypeOfM m faces L e = some (typeOfS m faces L e):=by
 show types_TypeOf_v2 m.1 m.2.1 (unL m.2.2.1) (unE m.2.2.2.1) m.2.2.2.2.1 m.2.2.2.2.2.1 (unL m.2.2.2.2.2.2.1) (unE m.2.2.2.2.2.2.2.1) (unE m.2.2.2.2.2.2.2.2) faces (unL L) e.op e.n e.s e.m e.names (unE e.args) = _
 unfold types_TypeOf_v2 typeOfS argB
 have h1:slices_ContainsFunc_api_Field_api_Field (unL L) = some (!localsB L):=locals_ok L hL
 have h2:=(rexp_ok he).1
 have h3:syntax_Right m.1 m.2.1 (unL m.2.2.1) (unE m.2.2.2.1) m.2.2.2.2.1 m.2.2.2.2.2.1 (unL m.2.2.2.2.2.2.1) (unE m.2.2.2.2.2.2.2.1) (unE m.2.2.2.2.2.2.2.2) = some (rightB m):=(rightB_ok hm).1
 rw[h1,bind_in,h2,h3]
 simp only[bind_in]
 cases hl:localsB L with
 | false=>rfl
 | true =>
 cases hre:rexpB e with
 | false=>rfl
 | true =>
 cases hrm:rightB m with
 | false=>rfl
 | true =>
 unfold types_TypeOf_v2.j1
 simp only[Bool.not_true,cond_false,bind_in,Bool.true_and]
 rw[judge_ok _ _ _ _ _ _ _ _ _ _ hf,judge2_ok _ _ _ _ _ _ _ _ _ _ hf]
 cases hfb:facesB faces with
 | false=>rfl
 | true =>
 rw[if_pos rfl,if_pos rfl,if_pos rfl,bind_in]
 have hfi:=find_ok hm hf hL hrm hfb hl ((rexp_ok he).2 hre) m.1 (unE m.2.2.2.1) m.2.2.2.2.2.1 (unL m.2.2.2.2.2.2.1) (unE m.2.2.2.2.2.2.2.1) (unE m.2.2.2.2.2.2.2.2)
 dsimp only
 rw[hfi,bind_in]
 dsimp only
 rw[eqZ_eq]
 by_cases h0:(findS (cxM m faces) 12 L 0 e).2.1 = 0
 ·rw[decide_eq_true h0,if_pos h0,Bool.not_true,cond_false]
  simp only[fu1,fu2,fx1]
  rw[fresh_ok (d:=4100) (by omega) _ _ (find_type (okC_of hm hf ((rightB_ok hm).2 hrm) hfb) hl ((rexp_ok he).2 hre)),bind_in]; rfl
 ·rw[decide_eq_false h0,if_neg h0]; rfl
end Go.Proofs.Ytaocfjifacnokaa
namespace Go.Proofs.Ytaocfjifacnokaa
open Go.Lad
def cx0:Cx:=⟨[],[],[],fun _=>none⟩
theorem okC0:OkC cx0 where
 vars:=fun f hf=>by cases hf
 flen:=by simp [cx0]
 funcs:=fun f hf=>by cases hf
 ulen:=by simp [cx0]
 look:=fun x face h=>by cases h
def pureS (L:List FieldT) (e:ExpT) (w:GType):Int :=
 if (findS cx0 12 L 0 e).2.1 = 0 then (if (findS cx0 12 L 0 e).2.2 = 0 then (if subB (findS cx0 12 L 0 e).1 w = true then 0 else 13) else 14) else (findS cx0 12 L 0 e).2.1
theorem pure_ok (nm:Bs) {L:List FieldT} {e:ExpT} {k:Int} {l:List FieldT} (hL:L.length ≤ 1000) (hl:localsB L = true) (he:okE 12 e) (hw:okL 4 l):types_pure nm (unL L) e.op e.n e.s e.m e.names (unE e.args) k (unL l) = some (pureS L e (k,l)):=by
 unfold types_pure pureS types_judge_find_v2
 rw[find_v2_rec okC0 rfl nm false 12 bigFuel.n 4 L 0 e (by omega) (fuel_big (by omega)) (by omega) (by omega) he (locals_okL hl) (by omega),bind_in]
 dsimp only
 rw[eqZ_eq,eqZ_eq]
 by_cases h0:(findS cx0 12 L 0 e).2.1 = 0
 rotate_left
 ·rw[decide_eq_false h0,if_neg h0]; rfl
 rw[decide_eq_true h0,if_pos h0,Bool.not_true,cond_false]
 by_cases h1:(findS cx0 12 L 0 e).2.2 = 0
 rotate_left
 ·rw[decide_eq_false h1,if_neg h1]; rfl
 rw[decide_eq_true h1,if_pos h1,Bool.not_true,cond_false]
 simp only[fu1,fu2]
 rw[below_ok (d:=4) (by omega) _ _ _ _ hw,bind_in]
 unfold subB
 cases (decide ((findS cx0 12 L 0 e).1.1 = k) && belL l (findS cx0 12 L 0 e).1.2) <;> rfl
theorem scan_map {α β γ:Type} (g:Nat → α → Option β) (h:β → γ):∀ (l:List α) (k:Nat),scan (fun k x=>(g k x).map h) k l = (scan g k l).map h
 | [],_=>rfl
 | x :: r,k=>by
  unfold scan
  cases g k x with
  | some b=>rfl
  | none=>exact scan_map g h r (k + 1)
def badG (vs:List FieldT) (es:List ExpT) (L:List FieldT) (k:Nat) (f:FieldT):Option (Bs × Int):=if pureS L (argE es k) (f.kd,f.fs) = 0 then none else some (f.nm,pureS L (argE es k) (f.kd,f.fs))
def badS (vs:List FieldT) (es:List ExpT) (L:List FieldT):Option (Bs × Int):=scan (badG vs es L) 0 vs
def movesS (m:GModule):Bs × Int :=
 match badS m.2.2.1 m.2.2.2.1 [] with
 | some b=>b
 | none=>if m.2.2.2.2.2.1 = true then (match badS m.2.2.1 m.2.2.2.2.2.2.2.1 m.2.2.2.2.2.2.1 with
   | some b=>b
   | none=>(badS m.2.2.2.2.2.2.1 m.2.2.2.2.2.2.2.2 m.2.2.1).getD ([],0))
  else ([],0)
theorem moves_loop {β:Type} {body:Int → Option (Int ⊕ β)} (nm:Bs) (vs:List FieldT) (es:List ExpT) (L:List FieldT) (inj:Bs × Int → β) (e:β) (hv:vs.length ≤ 1000) (hes:es.length = vs.length) (hL:L.length ≤ 1000) (hl:localsB L = true) (he:∀ a ∈ es,okE 12 a) (hw:∀ f ∈ vs,okL 4 f.fs)
  (h:∀ i (hi:i < vs.length) (hi2:i < es.length),body (i:Int) = (types_pure nm (unL L) es[i].op es[i].n es[i].s es[i].m es[i].names (unE es[i].args) vs[i].kd (unL vs[i].fs)).bind fun p=>bif (!eqZ p 0) then some (.inr (inj (vs[i].nm,p))) else ((z64 ((i:Int) + 1)).bind fun v=>some (.inl v)))
  (hd:body (vs.length:Int) = some (.inr e)):loopF body 0 = some (((badS vs es L).map inj).getD e):=by
 unfold badS
 rw[← scan_map]
 refine loop_scan vs _ e (fun i hi=>?_) hd (by omega)
 rw[h i hi (by omega),pure_ok nm hL hl (he _ (List.getElem_mem _)) (hw _ (List.getElem_mem hi)),bind_in,z64_succ (by omega),eqZ_eq]
 unfold badG
 rw[argE_get (show i < es.length by omega)]
 by_cases h0:pureS L es[i] (vs[i].kd,vs[i].fs) = 0
 ·rw[decide_eq_true h0,if_pos h0]; rfl
 ·rw[decide_eq_false h0,if_neg h0]; rfl
theorem fields_locals {l:List FieldT} (h:∀ f ∈ l,nameB f.nm = true ∧ rightS 4 f.kd f.fs = true):localsB l = true:=by
 unfold localsB
 rw[List.all_eq_true]
 exact fun f hf=>(h f hf).2
theorem moves_ok {m:GModule} (hm:ShM m) (ho:OkM m):types_moves m.1 m.2.1 (unL m.2.2.1) (unE m.2.2.2.1) m.2.2.2.2.1 m.2.2.2.2.2.1 (unL m.2.2.2.2.2.2.1) (unE m.2.2.2.2.2.2.2.1) (unE m.2.2.2.2.2.2.2.2) = some (movesS m):=by
 have hv:=hm.vars
 have hol:=hm.old
 have okE_of:∀ {e:ExpT},shE 16 e → rexpB e = true → okE 12 e:=fun h1 h2=>(rexp_ok h1).2 h2
 have e1:∀ a ∈ m.2.2.2.1,okE 12 a:=fun a ha=>okE_of (hm.init.2 a ha) (ho.init.1 a ha)
 have e2:∀ a ∈ m.2.2.2.2.2.2.2.1,okE 12 a:=fun a ha=>okE_of (hm.fwd.2 a ha) (ho.fwd.1 a ha)
 have e3:∀ a ∈ m.2.2.2.2.2.2.2.2,okE 12 a:=fun a ha=>okE_of (hm.back.2 a ha) (ho.back.1 a ha)
 have w1:∀ f ∈ m.2.2.1,okL 4 f.fs:=fun f hf=>right_okL (ho.vars f hf).2
 have w2:∀ f ∈ m.2.2.2.2.2.2.1,okL 4 f.fs:=fun f hf=>right_okL (ho.old f hf).2
 unfold types_moves movesS
 have l1:=moves_loop (body:=fun x=>types_moves.b1 m.1 (unL m.2.2.1) (unE m.2.2.2.1) x) m.1 m.2.2.1 m.2.2.2.1 [] Sum.inr (Sum.inl ()) (by omega) ho.init.2 (by simp) rfl e1 w1 (fun i hi hi2=>by
  unfold types_moves.b1
  simp only[fu1,fu2,fe1,fe2]
  rw[un_len,ltZ_eq,decide_eq_true (by omega),cond_true,idx_un hi,bind_in,idx_unE hi2,bind_in]; rfl) (by
  unfold types_moves.b1
  rw[un_len,ltZ_eq,decide_eq_false (by omega),cond_false])
 rw[l1,bind_in]
 cases badS m.2.2.1 m.2.2.2.1 [] with
 | some b=>rfl
 | none =>
 dsimp only[Option.map_none,Option.getD_none]
 unfold types_moves.j2
 cases hmv:m.2.2.2.2.2.1 with
 | false=>rfl
 | true =>
 rw[Bool.not_true,cond_false,if_pos rfl]
 have l2:=moves_loop (body:=fun x=>types_moves.b2 m.1 (unL m.2.2.1) (unL m.2.2.2.2.2.2.1) (unE m.2.2.2.2.2.2.2.1) x) m.1 m.2.2.1 m.2.2.2.2.2.2.2.1 m.2.2.2.2.2.2.1 Sum.inr (Sum.inl ()) (by omega) (ho.fwd.2 hmv) (by omega) (fields_locals ho.old) e2 w1 (fun i hi hi2=>by
  unfold types_moves.b2
  simp only[fu1,fu2,fe1,fe2]
  rw[un_len,ltZ_eq,decide_eq_true (by omega),cond_true,idx_un hi,bind_in,idx_unE hi2,bind_in]; rfl) (by
  unfold types_moves.b2
  rw[un_len,ltZ_eq,decide_eq_false (by omega),cond_false])
 rw[l2,bind_in]
 cases badS m.2.2.1 m.2.2.2.2.2.2.2.1 m.2.2.2.2.2.2.1 with
 | some b=>rfl
 | none =>
 dsimp only[Option.map_none,Option.getD_none]
 unfold types_moves.j1
 have l3:=moves_loop (body:=fun x=>types_moves.b3 m.1 (unL m.2.2.1) (unL m.2.2.2.2.2.2.1) (unE m.2.2.2.2.2.2.2.2) x) m.1 m.2.2.2.2.2.2.1 m.2.2.2.2.2.2.2.2 m.2.2.1 id ([],0) (by omega) ho.back.2 (by omega) (fields_locals ho.vars) e3 w2 (fun i hi hi2=>by
  unfold types_moves.b3
  simp only[fu1,fu2,fe1,fe2]
  rw[un_len,ltZ_eq,decide_eq_true (by omega),cond_true,idx_un hi,bind_in,idx_unE hi2,bind_in]; rfl) (by
  unfold types_moves.b3
  rw[un_len,ltZ_eq,decide_eq_false (by omega),cond_false])
 rw[l3]
 cases badS m.2.2.2.2.2.2.1 m.2.2.2.2.2.2.2.2 m.2.2.1 <;> rfl
def usesG (m:GModule) (faces:List GFace) (_:Nat) (u:Bs):Option Bs:=if (!(lookM (facesM faces) u).isSome || decide (u = m.1)) = true then some u else none
noncomputable def funcG (C:Cx) (_:Nat) (f:GFunc):Option (Bs × Int) :=
 if (findS C 12 f.2.2.1 0 (bodyE f)).2.1 = 0 then
  (if subB (findS C 12 f.2.2.1 0 (bodyE f)).1 f.2.2.2.1 = true then (if anI .i64 (findS C 12 f.2.2.1 0 (bodyE f)).2.2 f.2.2.2.2.1 = 0 then none else some (f.1,14)) else some (f.1,13))
 else some (f.1,(findS C 12 f.2.2.1 0 (bodyE f)).2.1)
noncomputable def checkS (m:GModule) (faces:List GFace):Bs × Int :=
 if facesB faces = true then
  (if rightB m = true then
   (match scan (usesG m faces) 0 m.2.1 with
    | some u=>(u,12)
    | none=>if (movesS m).2 = 0 then (scan (funcG (cxM m faces)) 0 m.2.2.2.2.1).getD ([],0) else movesS m)
   else ([],1))
 else ([],1)
theorem runI_scan2 {α σ β:Type} (f:Nat → σ → α → σ ⊕ β) (g:Nat → α → Option β) (e:β) (h:∀ k s x,match g k x with | some b=>f k s x = .inr b | none=>∃ s',f k s x = .inl s'):∀ (l:List α) (k:Nat) (s:σ),runI f (fun _=>e) k s l = (scan g k l).getD e
 | [],_,_=>rfl
 | x :: r,k,s=>by
  unfold runI scan
  have:=h k s x
  cases hg:g k x with
  | some b=>rw[hg] at this; rw[this]; rfl
  | none =>
   rw[hg] at this
   obtain⟨s',hs'⟩:=this
   rw[hs']
   exact runI_scan2 f g e h r (k + 1) s'
noncomputable abbrev CheckM (m:GModule) (faces:List GFace):Option (Bs × Int) :=
 types_Check_v2 m.1 m.2.1 (unL m.2.2.1) (unE m.2.2.2.1) m.2.2.2.2.1 m.2.2.2.2.2.1 (unL m.2.2.2.2.2.2.1) (unE m.2.2.2.2.2.2.2.1) (unE m.2.2.2.2.2.2.2.2) faces
theorem check_ok {m:GModule} {faces:List GFace} (hm:ShM m) (hf:ShF faces):CheckM m faces = some (checkS m faces):=by
 show types_Check_v2 m.1 m.2.1 (unL m.2.2.1) (unE m.2.2.2.1) m.2.2.2.2.1 m.2.2.2.2.2.1 (unL m.2.2.2.2.2.2.1) (unE m.2.2.2.2.2.2.2.1) (unE m.2.2.2.2.2.2.2.2) faces = _
 unfold types_Check_v2 checkS
 rw[judge_ok _ _ _ _ _ _ _ _ _ _ hf,judge2_ok _ _ _ _ _ _ _ _ _ _ hf]
 cases hfb:facesB faces with
 | false=>rfl
 | true =>
 have h3:syntax_Right m.1 m.2.1 (unL m.2.2.1) (unE m.2.2.2.1) m.2.2.2.2.1 m.2.2.2.2.2.1 (unL m.2.2.2.2.2.2.1) (unE m.2.2.2.2.2.2.2.1) (unE m.2.2.2.2.2.2.2.2) = some (rightB m):=(rightB_ok hm).1
 rw[if_pos rfl,if_pos rfl,if_pos rfl,bind_in,h3,bind_in]
 cases hrm:rightB m with
 | false=>rfl
 | true =>
 have ho:=(rightB_ok hm).2 hrm
 rw[Bool.not_true,cond_false,if_pos rfl]
 have hul:=hm.uses
 have hul2:=hm.funcs.1
 have l1:=loop_scan (body:=fun x=>types_Check_v2.b1 m.1 m.2.1 (m.1,m.2.1,unL m.2.2.1,unE m.2.2.2.1,m.2.2.2.2.1,m.2.2.2.2.2.1,unL m.2.2.2.2.2.2.1,unE m.2.2.2.2.2.2.2.1,unE m.2.2.2.2.2.2.2.2,0,facesM faces) x) m.2.1 (fun k u=>(usesG m faces k u).map fun u=>Sum.inr (u,(12:Int))) (Sum.inl ()) (fun i hi=>by
  unfold types_Check_v2.b1 types_Check_v2.j1 usesG
  rw[ltZ_eq,decide_eq_true (by omega),cond_true,idx_nat hi,bind_in,z64_succ (by omega)]
  dsimp only
  cases (lookM (facesM faces) m.2.1[i]).isSome with
  | false=>rfl
  | true=>by_cases h:m.2.1[i] = m.1 <;> simp [h]) (by
  unfold types_Check_v2.b1
  rw[ltZ_eq,decide_eq_false (by omega),cond_false]) (by omega)
 rw[l1,bind_in,scan_map]
 cases hsu:scan (usesG m faces) 0 m.2.1 with
 | some u=>rfl
 | none =>
 dsimp only[Option.map_none,Option.getD_none]
 unfold types_Check_v2.j2
 rw[moves_ok hm ho,bind_in,eqZ_eq]
 by_cases h0:(movesS m).2 = 0
 rotate_left
 ·rw[decide_eq_false h0,if_neg h0]; rfl
 rw[decide_eq_true h0,if_pos h0,Bool.not_true,cond_false]
 dsimp only
 have l2:=loop_run (body:=fun x:Int × Bs × List Bs × List GField × List GExp × List GFunc × Bool × List GField × List GExp × List GExp × Int × List (Bs × GFace)=>types_Check_v2.b2 m.2.2.2.2.1 x.1 x.2.1 x.2.2.1 x.2.2.2.1 x.2.2.2.2.1 x.2.2.2.2.2.1 x.2.2.2.2.2.2.1 x.2.2.2.2.2.2.2.1 x.2.2.2.2.2.2.2.2.1 x.2.2.2.2.2.2.2.2.2.1 x.2.2.2.2.2.2.2.2.2.2.1 x.2.2.2.2.2.2.2.2.2.2.2)
  (mk:=fun k (s:Int)=>((k:Int),m.1,m.2.1,unL m.2.2.1,unE m.2.2.2.1,m.2.2.2.2.1,m.2.2.2.2.2.1,unL m.2.2.2.2.2.2.1,unE m.2.2.2.2.2.2.2.1,unE m.2.2.2.2.2.2.2.2,s,facesM faces)) m.2.2.2.2.1
  (fun k s f=>match funcG (cxM m faces) k f with | some b=>.inr b | none=>.inl (findS (cxM m faces) 12 f.2.2.1 0 (bodyE f)).2.2) (fun _=>(([]:Bs),(0:Int))) (fun _ _=>True) (fun _ _ _ _ _ _=>trivial)
  (fun k hk s _=>by
   obtain⟨hf1,hf2⟩:=hm.funcs.2 _ (List.getElem_mem hk)
   obtain⟨_,g2,g3,g4⟩:=ho.funcs _ (List.getElem_mem hk)
   have hfi:=find_ok (L:=m.2.2.2.2.1[k].2.2.1) (e:=bodyE m.2.2.2.2.1[k]) hm hf (by omega) hrm hfb (fields_locals g2) ((rexp_ok hf2).2 g4) m.1 (unE m.2.2.2.1) m.2.2.2.2.2.1 (unL m.2.2.2.2.2.2.1) (unE m.2.2.2.2.2.2.2.1) (unE m.2.2.2.2.2.2.2.2)
   have hfi:types_judge_find (unL m.2.2.2.2.1[k].2.2.1) m.2.2.2.2.1[k].2.2.2.2.2.1 m.2.2.2.2.1[k].2.2.2.2.2.2.1 m.2.2.2.2.1[k].2.2.2.2.2.2.2.1 m.2.2.2.2.1[k].2.2.2.2.2.2.2.2.1 m.2.2.2.2.1[k].2.2.2.2.2.2.2.2.2.1 (unE m.2.2.2.2.1[k].2.2.2.2.2.2.2.2.2.2) m.1 m.2.1 (unL m.2.2.1) (unE m.2.2.2.1) m.2.2.2.2.1 m.2.2.2.2.2.1 (unL m.2.2.2.2.2.2.1) (unE m.2.2.2.2.2.2.2.1) (unE m.2.2.2.2.2.2.2.2) 0 (facesM faces) = _:=hfi
   unfold types_Check_v2.b2 funcG
   simp only[fu1,fu2,fe1,fe2]
   rw[ltZ_eq,decide_eq_true (by omega),cond_true,idx_nat hk,bind_in,hfi,bind_in]
   dsimp only
   rw[eqZ_eq,eqZ_eq]
   by_cases c0:(findS (cxM m faces) 12 m.2.2.2.2.1[k].2.2.1 0 (bodyE m.2.2.2.2.1[k])).2.1 = 0
   rotate_left
   ·rw[decide_eq_false c0,if_neg c0]; rfl
   rw[decide_eq_true c0,if_pos c0,Bool.not_true,cond_false,below_ok (d:=4) (by omega) _ _ _ _ (right_okL g3),bind_in,z64_succ (by omega)]
   unfold subB
   by_cases c1:(decide ((findS (cxM m faces) 12 m.2.2.2.2.1[k].2.2.1 0 (bodyE m.2.2.2.2.1[k])).1.1 = m.2.2.2.2.1[k].2.2.2.1.1) && belL m.2.2.2.2.1[k].2.2.2.1.2 (findS (cxM m faces) 12 m.2.2.2.2.1[k].2.2.1 0 (bodyE m.2.2.2.2.1[k])).1.2) = true
   rotate_left
   ·rw[if_neg c1]
    rw[Bool.not_eq_true] at c1
    rw[c1]; rfl
   rw[if_pos c1,c1,Bool.not_true,cond_false]
   by_cases c2:anI .i64 (findS (cxM m faces) 12 m.2.2.2.2.1[k].2.2.1 0 (bodyE m.2.2.2.2.1[k])).2.2 m.2.2.2.2.1[k].2.2.2.2.1 = 0
   ·rw[if_pos c2,decide_eq_true c2]; rfl
   ·rw[if_neg c2,decide_eq_false c2]; rfl)
  (fun s _=>by
   unfold types_Check_v2.b2
   rw[ltZ_eq,decide_eq_false (by omega),cond_false]) (by omega) (s0:=0) trivial
 refine Eq.trans (congrArg (fun x=>orT x _) (l2.trans (congrArg some (runI_scan2 _ (funcG (cxM m faces)) ([],0) (fun k s f=>?_) _ _ _)))) rfl
 cases hg:funcG (cxM m faces) k f with
 | some b=>rfl
 | none=>exact⟨_,rfl⟩
end Go.Proofs.Ytaocfjifacnokaa
namespace Go.Proofs.Ytaocfjifacnokaa
open Go.Lad
theorem bad_some {vs:List FieldT} {es:List ExpT} {L:List FieldT} {b:Bs × Int} (h:badS vs es L = some b):(∃ f ∈ vs,b.1 = f.nm) ∧ b.2 ≠ 0:=by
 obtain⟨i,hi,h1,_⟩:=scan_some.1 h
 unfold badG at h1
 split at h1
 ·cases h1
 ·rename_i h2
  injection h1 with h1
  subst h1
  exact⟨⟨_,List.getElem_mem hi,rfl⟩,h2⟩
theorem bad_none {vs:List FieldT} {es:List ExpT} {L:List FieldT} (h:badS vs es L = none) (i:Nat) (hi:i < vs.length):pureS L (argE es i) (vs[i].kd,vs[i].fs) = 0:=by
 have:=scan_none.1 h i hi
 unfold badG at this
 rw[Nat.zero_add] at this
 split at this
 ·assumption
 ·cases this
structure MovesP (m:GModule):Prop where
 init:∀ i (hi:i < m.2.2.1.length),pureS [] (argE m.2.2.2.1 i) (m.2.2.1[i].kd,m.2.2.1[i].fs) = 0
 fwd:m.2.2.2.2.2.1 = true → ∀ i (hi:i < m.2.2.1.length),pureS m.2.2.2.2.2.2.1 (argE m.2.2.2.2.2.2.2.1 i) (m.2.2.1[i].kd,m.2.2.1[i].fs) = 0
 back:m.2.2.2.2.2.1 = true → ∀ i (hi:i < m.2.2.2.2.2.2.1.length),pureS m.2.2.1 (argE m.2.2.2.2.2.2.2.2 i) (m.2.2.2.2.2.2.1[i].kd,m.2.2.2.2.2.2.1[i].fs) = 0
theorem moves_good {m:GModule} (h:(movesS m).2 = 0):MovesP m:=by
 unfold movesS at h
 cases h1:badS m.2.2.1 m.2.2.2.1 [] with
 | some b=>rw[h1] at h; exact absurd h (bad_some h1).2
 | none =>
 rw[h1] at h
 dsimp only at h
 cases hmv:m.2.2.2.2.2.1 with
 | false=>exact⟨bad_none h1,fun h=>(by rw[hmv] at h; cases h),fun h=>(by rw[hmv] at h; cases h)⟩
 | true =>
 rw[hmv,if_pos rfl] at h
 cases h2:badS m.2.2.1 m.2.2.2.2.2.2.2.1 m.2.2.2.2.2.2.1 with
 | some b=>rw[h2] at h; exact absurd h (bad_some h2).2
 | none =>
 rw[h2] at h
 dsimp only at h
 cases h3:badS m.2.2.2.2.2.2.1 m.2.2.2.2.2.2.2.2 m.2.2.1 with
 | some b=>rw[h3] at h; exact absurd h (bad_some h3).2
 | none=>exact⟨bad_none h1,fun _=>bad_none h2,fun _=>bad_none h3⟩
theorem funcG_bad {C:Cx} {k:Nat} {f:GFunc} {b:Bs × Int} (h:funcG C k f = some b):b.1 = f.1 ∧ b.2 ≠ 0:=by
 unfold funcG at h
 split at h
 ·split at h
  ·split at h
   ·cases h
   ·injection h with h; subst h; exact⟨rfl,by simp⟩
  ·injection h with h; subst h; exact⟨rfl,by simp⟩
 ·rename_i h0
  injection h with h; subst h; exact⟨rfl,h0⟩
theorem funcG_none {C:Cx} {k:Nat} {f:GFunc} (h:funcG C k f = none):(findS C 12 f.2.2.1 0 (bodyE f)).2.1 = 0 ∧ subB (findS C 12 f.2.2.1 0 (bodyE f)).1 f.2.2.2.1 = true ∧ anI .i64 (findS C 12 f.2.2.1 0 (bodyE f)).2.2 f.2.2.2.2.1 = 0:=by
 unfold funcG at h
 split at h
 ·rename_i h0
  split at h
  ·rename_i h1
   split at h
   ·rename_i h2
    exact⟨h0,h1,h2⟩
   ·cases h
  ·cases h
 ·cases h
structure CheckP (m:GModule) (faces:List GFace):Prop where
 facesOk:facesB faces = true
 right:rightB m = true
 uses:∀ u ∈ m.2.1,(lookM (facesM faces) u).isSome = true ∧ u ≠ m.1
 moves:MovesP m
 funcs:∀ f ∈ m.2.2.2.2.1,(findS (cxM m faces) 12 f.2.2.1 0 (bodyE f)).2.1 = 0 ∧ subB (findS (cxM m faces) 12 f.2.2.1 0 (bodyE f)).1 f.2.2.2.1 = true ∧ anI .i64 (findS (cxM m faces) 12 f.2.2.1 0 (bodyE f)).2.2 f.2.2.2.2.1 = 0
theorem check_good {m:GModule} {faces:List GFace} (h:(checkS m faces).2 = 0):(checkS m faces).1 = [] ∧ CheckP m faces:=by
 unfold checkS at h ⊢
 cases hfb:facesB faces with
 | false=>rw[hfb] at h; exact absurd h (by simp)
 | true =>
 rw[hfb,if_pos rfl] at h
 rw[if_pos rfl]
 cases hrm:rightB m with
 | false=>rw[hrm] at h; exact absurd h (by simp)
 | true =>
 rw[hrm,if_pos rfl] at h
 rw[if_pos rfl]
 cases hsu:scan (usesG m faces) 0 m.2.1 with
 | some u=>rw[hsu] at h; exact absurd h (by simp)
 | none =>
 rw[hsu] at h
 dsimp only at h ⊢
 by_cases h0:(movesS m).2 = 0
 rotate_left
 ·rw[if_neg h0] at h; exact absurd h h0
 rw[if_pos h0] at h ⊢
 cases hs:scan (funcG (cxM m faces)) 0 m.2.2.2.2.1 with
 | some b =>
  rw[hs] at h
  obtain⟨i,hi,h1,_⟩:=scan_some.1 hs
  exact absurd h (funcG_bad h1).2
 | none =>
  refine⟨rfl,hfb,hrm,fun u hu=>?_,moves_good h0,fun f hf=>?_⟩
  ·obtain⟨i,hi,rfl⟩:=List.mem_iff_getElem.1 hu
   have:=scan_none.1 hsu i hi
   unfold usesG at this
   split at this
   ·cases this
   ·rename_i hh
    rw[Bool.not_eq_true,Bool.or_eq_false_iff,Bool.not_eq_false',decide_eq_false_iff_not] at hh
    exact hh
  ·obtain⟨i,hi,rfl⟩:=List.mem_iff_getElem.1 hf
   exact funcG_none (scan_none.1 hs i hi)
end Go.Proofs.Ytaocfjifacnokaa
namespace Go.Proofs.Ytaocfjifacnokaa
open Go.Lad
def srtN (l:List Bs):Prop := ∀ i j (hi:i < j) (hj:j < l.length),Op.bytesLess (l[i]'(by omega)) l[j] = true
def leafP (o n:Int) (ns:List Bs):Prop:=(o = 13 → srtN ns) ∧ (o = 16 → n = 1 ∨ n = 2 ∨ n = 4 ∨ n = 8)
def okN:Nat → ExpT → Prop
 | 0,_=>False
 | d + 1,e=>leafP e.op e.n e.names ∧ ∀ a ∈ e.args,okN d a
end Go.Proofs.Ytaocfjifacnokaa
namespace Go.Proofs.Ytaocfjifacnokaa
open Go.Lad
theorem no12 (h:(12:Int) = 0):False:=by omega
theorem no13 (h:(13:Int) = 0):False:=by omega
theorem lastOf_cons {α:Type} (p:α → Bool) (x:α) (l:List α):lastOf p (x :: l) = match lastOf p l with | some y=>some y | none=>if p x = true then some x else none:=by
 unfold lastOf
 rw[List.reverse_cons,List.find?_append]
 cases l.reverse.find? p with
 | some y=>rfl
 | none =>
  rw[Option.none_or,List.find?_cons]
  cases p x <;> rfl
structure ReC (C:Cx):Prop where
 vars:∀ f ∈ C.vars,belL f.fs f.fs = true
 callee:∀ s m g,calleeS C s m = some g → belL g.2.2.1.2 g.2.2.1.2 = true
theorem list_st {F:Int → ExpT → FR} {P:Int → Prop} (h0:P 0):∀ (l:List ExpT) (eff:Int),(∀ eff,∀ a ∈ l,P (F eff a).2.1) → P (listS F eff l).2.1
 | [],_,_=>h0
 | a :: r,eff,h=>by
  unfold listS
  split
  ·split
   ·exact h0
   ·exact list_st h0 r _ fun eff b hb=>h eff b (List.mem_cons_of_mem _ hb)
  ·exact h eff a List.mem_cons_self
theorem find_st {C:Cx}:∀ (d:Nat) (L:List FieldT) (eff:Int) (e:ExpT),(findS C d L eff e).2.1 = 0 ∨ (findS C d L eff e).2.1 = 12 ∨ (findS C d L eff e).2.1 = 13
 | 0,_,_,_=>.inl rfl
 | d + 1,L,eff,e=>by
  have ih:=find_st (C:=C) d
  unfold findS
  split
  ·split
   ·exact .inl rfl
   ·exact .inr (.inl rfl)
  split
  ·unfold letS
   split
   ·exact ih _ _ _
   ·exact ih _ _ _
  split
  ·unfold varS
   split
   ·split
    ·split
     ·split
      ·exact .inl rfl
      ·exact .inr (.inr rfl)
     ·exact ih _ _ _
    ·exact .inl rfl
   ·exact .inr (.inl rfl)
  split
  ·unfold callS
   split
   ·exact .inr (.inl rfl)
   ·split
    ·split
     ·split
      ·exact .inl rfl
      ·exact .inr (.inr rfl)
     ·exact list_st (P:=fun x=>x = 0 ∨ x = 12 ∨ x = 13) (.inl rfl) _ _ fun eff a _=>ih L eff a
    ·exact .inr (.inr rfl)
  ·unfold restS
   split
   ·unfold plainS
    split
    ·exact .inl rfl
    ·exact .inr (.inr rfl)
   ·exact list_st (P:=fun x=>x = 0 ∨ x = 12 ∨ x = 13) (.inl rfl) _ _ fun eff a _=>ih L eff a
theorem find_ne1 {C:Cx} (d:Nat) (L:List FieldT) (eff:Int) (e:ExpT):(findS C d L eff e).2.1 ≠ 1:=by
 rcases find_st (C:=C) d L eff e with h | h | h <;> rw[h] <;> decide
end Go.Proofs.Ytaocfjifacnokaa
namespace Go.Proofs.Ytaocfjifacnokaa
open Go.Lad
theorem wrap_bv (x:BitVec 64):IntKind.i64.wrap ((x.toNat:Nat):Int) = x.toInt:=by
 unfold IntKind.wrap
 have hx:=x.isLt
 have h1:((x.toNat:Nat):Int) % (2 ^ 64:Int) = (x.toNat:Int):=Int.emod_eq_of_lt (by omega) (by omega)
 rw[BitVec.toInt_eq_toNat_cond]
 show (if (true && decide (((x.toNat:Nat):Int) % (2 ^ 64:Int) ≥ (2 ^ 63:Int))) = true then ((x.toNat:Nat):Int) % (2 ^ 64:Int) - (2 ^ 64:Int) else ((x.toNat:Nat):Int) % (2 ^ 64:Int)) = _
 rw[h1,Bool.true_and]
 by_cases h:2 * x.toNat < 2 ^ 64
 ·rw[if_pos h,if_neg (by rw[decide_eq_true_eq]; omega)]
 ·rw[if_neg h,if_pos (by rw[decide_eq_true_eq]; omega)]; rfl
theorem an_iff (a b:Int):anI .i64 a b = 0 ↔ ∀ i,i < 64 → (BitVec.ofInt 64 a).getLsbD i = true → (BitVec.ofInt 64 b).getLsbD i = true:=by
 have h0:anI .i64 a b = (BitVec.ofInt 64 a &&& ~~~BitVec.ofInt 64 b).toInt:=wrap_bv _
 rw[h0]
 constructor
 ·intro h i hi ha
  have h1:BitVec.ofInt 64 a &&& ~~~BitVec.ofInt 64 b = 0#64:=BitVec.eq_of_toInt_eq (by rw[h]; rfl)
  have h2:=congrArg (fun x=>x.getLsbD i) h1
  simp only[BitVec.getLsbD_and,BitVec.getLsbD_not,BitVec.getLsbD_zero,ha,hi,decide_true,Bool.true_and,Bool.not_eq_false'] at h2
  exact h2
 ·intro h
  have h1:BitVec.ofInt 64 a &&& ~~~BitVec.ofInt 64 b = 0#64:=BitVec.eq_of_getLsbD_eq fun i hi=>by
   simp only[BitVec.getLsbD_and,BitVec.getLsbD_not,BitVec.getLsbD_zero,hi,decide_true,Bool.true_and]
   cases ha:(BitVec.ofInt 64 a).getLsbD i with
   | false=>rfl
   | true=>rw[h i hi ha]; rfl
  rw[h1]; rfl
theorem or_bits (a b:Int):BitVec.ofInt 64 (orI .i64 a b) = BitVec.ofInt 64 a ||| BitVec.ofInt 64 b:=by
 have h0:orI .i64 a b = (BitVec.ofInt 64 a ||| BitVec.ofInt 64 b).toInt:=wrap_bv _
 rw[h0,BitVec.ofInt_toInt]
def cln (a:Int):Prop:=anI .i64 a 15 = 0
theorem cln_or (a b:Int):cln (orI .i64 a b) ↔ cln a ∧ cln b:=by
 unfold cln
 rw[an_iff,an_iff,an_iff]
 simp only[or_bits,BitVec.getLsbD_or,Bool.or_eq_true]
 exact⟨fun h=>⟨fun i hi ha=>h i hi (.inl ha),fun i hi hb=>h i hi (.inr hb)⟩,fun h i hi ho=>ho.elim (h.1 i hi) (h.2 i hi)⟩
theorem cln_trans {a b:Int} (h:anI .i64 a b = 0) (hb:cln b):cln a:=by
 unfold cln at *
 rw[an_iff] at *
 exact fun i hi ha=>hb i hi (h i hi ha)
theorem cln0:cln 0:=by
 unfold cln
 rw[an_iff]
 intro i hi h
 simp at h
theorem cln15:cln 15:=by
 unfold cln
 rw[an_iff]
 exact fun i hi h=>h
def namedS:Nat → ExpT → Bs → Bool
 | 0,_,_=>false
 | d + 1,e,s=>(decide (e.s = s) && (decide (e.op = 2) || (decide (e.op = 15) && decide (e.m = [])))) || e.args.any fun a=>namedS d a s
theorem list_agree {F F':Int → ExpT → FR}:∀ (l:List ExpT) (eff:Int),(∀ eff,∀ a ∈ l,F eff a = F' eff a) → listS F eff l = listS F' eff l
 | [],_,_=>rfl
 | a :: r,eff,h=>by
  unfold listS
  rw[h eff a List.mem_cons_self,list_agree r _ fun eff b hb=>h eff b (List.mem_cons_of_mem _ hb)]
theorem look_app (L:List FieldT) (f:FieldT) (n:Bs):lookR (L ++ [f]) n = if f.nm = n then ((f.kd,f.fs),true) else lookR L n:=by
 unfold lookR lookF
 rw[lastOf_snoc]
 by_cases h:f.nm = n
 ·rw[decide_eq_true h,if_pos rfl,if_pos h]
 ·rw[decide_eq_false h,if_neg h]; rfl
theorem find_agree {C C':Cx} (hv:C.vars = C'.vars) (s:Bs) (hc:∀ n m,(m = [] → n ≠ s) → calleeS C n m = calleeS C' n m):∀ (d q:Nat) (L L':List FieldT) (eff:Int) (e:ExpT),okE d e → shE q e → (∀ n,n ≠ s → lookR L n = lookR L' n) → namedS q e s = false →
  findS C d L eff e = findS C' d L' eff e
 | 0,_,_,_,_,_,h,_,_,_=>h.elim
 | d + 1,0,_,_,_,_,_,h,_,_=>h.elim
 | d + 1,q + 1,L,L',eff,e,he,hs,hL,hn=>by
  obtain⟨a0,a1,a2,a3,a4,a5,a6⟩:=he
  obtain⟨s1,s2,s3⟩:=hs
  unfold namedS at hn
  rw[Bool.or_eq_false_iff,List.any_eq_false] at hn
  obtain⟨n1,n2⟩:=hn
  have n2:∀ a ∈ e.args,namedS q a s = false:=fun a ha=>by have:=n2 a ha; rwa [Bool.not_eq_true] at this
  have ih:∀ eff,∀ a ∈ e.args,findS C d L eff a = findS C' d L' eff a:=fun eff a ha=>find_agree hv s hc d q L L' eff a (a6 a ha) (s3 a ha) hL (n2 a ha)
  unfold findS
  by_cases o2:e.op = 2
  ·rw[if_pos o2,if_pos o2]
   have:e.s ≠ s:=by
    intro hx
    rw[hx,o2] at n1
    simp at n1
   rw[hL _ this]
  rw[if_neg o2,if_neg o2]
  by_cases o12:e.op = 12
  ·rw[if_pos o12,if_pos o12]
   have hl2:=a1 o12
   have e0:argE e.args 0 ∈ e.args:=by rw[argE_get (by omega)]; exact List.getElem_mem _
   have e1:argE e.args 1 ∈ e.args:=by rw[argE_get (by omega)]; exact List.getElem_mem _
   unfold letS
   rw[ih eff _ e0]
   split
   ·refine find_agree hv s hc d q _ _ _ _ (a6 _ e1) (s3 _ e1) (fun n hn=>?_) (n2 _ e1)
    rw[look_app,look_app,hL n hn]
   ·rfl
  rw[if_neg o12,if_neg o12]
  by_cases o17:e.op = 17 ∨ e.op = 18
  ·rw[if_pos o17,if_pos o17]
   unfold varS
   rw[← hv]
   by_cases o18:e.op = 18
   ·have hl2:=a2 o18
    have e0:argE e.args 0 ∈ e.args:=by rw[argE_get (by omega)]; exact List.getElem_mem _
    rw[ih eff _ e0]
   ·rw[if_neg o18,if_neg o18]
  rw[if_neg o17,if_neg o17]
  by_cases o15:e.op = 15
  ·rw[if_pos o15,if_pos o15]
   unfold callS
   have:calleeS C e.s e.m = calleeS C' e.s e.m:=by
    refine hc _ _ fun hm hx=>?_
    rw[hx,o15,hm] at n1
    simp at n1
   rw[this,list_agree e.args eff ih]
  rw[if_neg o15,if_neg o15]
  unfold restS
  rw[list_agree e.args eff ih]
theorem list_eff {F F':Int → ExpT → FR}:∀ (l:List ExpT) (eff:Int),(∀ eff,∀ a ∈ l,(F eff a).2.1 = 0 → cln (F eff a).2.2 → cln eff ∧ ∀ eff',cln eff' → (F' eff' a).1 = (F eff a).1 ∧ (F' eff' a).2.1 = 0 ∧ cln (F' eff' a).2.2) →
  (listS F eff l).2.1 = 0 → cln (listS F eff l).2.2 → cln eff ∧ ∀ eff',cln eff' → (listS F' eff' l).1 = (listS F eff l).1 ∧ (listS F' eff' l).2.1 = 0 ∧ cln (listS F' eff' l).2.2
 | [],eff,_,_,hc=>⟨hc,fun eff' h=>⟨rfl,rfl,h⟩⟩
 | a :: r,eff,h,h0,hc=>by
  unfold listS at h0 hc ⊢
  by_cases h1:(F eff a).2.1 = 0
  ·simp only[if_pos h1] at h0 hc ⊢
   by_cases h2:(listS F (F eff a).2.2 r).2.1 = 0
   ·simp only[if_pos h2] at h0 hc ⊢
    obtain⟨k1,k2⟩:=list_eff (F:=F) (F':=F') r (F eff a).2.2 (fun eff b hb=>h eff b (List.mem_cons_of_mem _ hb)) h2 hc
    obtain⟨j1,j2⟩:=h eff a List.mem_cons_self h1 k1
    refine⟨j1,fun eff' he'=>?_⟩
    obtain⟨i1,i2,i3⟩:=j2 eff' he'
    obtain⟨l1,l2,l3⟩:=k2 _ i3
    simp only[if_pos i2,if_pos l2]
    exact⟨by rw[i1,l1],trivial,l3⟩
   ·rw[if_neg h2] at h0
    exact absurd h0 h2
  ·rw[if_neg h1] at h0
   exact absurd h0 h1
theorem find_eff {C C':Cx} (hv:C.vars = C'.vars) (hcal:∀ n m g,calleeS C n m = some g → ∃ g',calleeS C' n m = some g' ∧ g'.2.1 = g.2.1 ∧ g'.2.2.1 = g.2.2.1 ∧ (cln g.2.2.2 → cln g'.2.2.2)):∀ (d:Nat) (L:List FieldT) (eff:Int) (e:ExpT),okE d e →
  (findS C d L eff e).2.1 = 0 → cln (findS C d L eff e).2.2 → cln eff ∧ ∀ eff',cln eff' → (findS C' d L eff' e).1 = (findS C d L eff e).1 ∧ (findS C' d L eff' e).2.1 = 0 ∧ cln (findS C' d L eff' e).2.2
 | 0,_,_,_,h,_,_=>h.elim
 | d + 1,L,eff,e,he,h0,hc=>by
  obtain⟨a0,a1,a2,a3,a4,a5,a6⟩:=he
  have ih:∀ eff,∀ a ∈ e.args,(findS C d L eff a).2.1 = 0 → cln (findS C d L eff a).2.2 → cln eff ∧ ∀ eff',cln eff' → (findS C' d L eff' a).1 = (findS C d L eff a).1 ∧ (findS C' d L eff' a).2.1 = 0 ∧ cln (findS C' d L eff' a).2.2:=fun eff a ha=>find_eff hv hcal d L eff a (a6 a ha)
  unfold findS at h0 hc ⊢
  by_cases o2:e.op = 2
  ·simp only[if_pos o2] at h0 hc ⊢
   by_cases hl:(lookR L e.s).2 = true
   ·simp only[if_pos hl] at hc ⊢
    exact⟨hc,fun eff' h=>by first | exact⟨rfl,rfl,h⟩ | exact⟨trivial,trivial,h⟩ | exact⟨trivial,rfl,h⟩ | exact⟨rfl,trivial,h⟩⟩
   ·rw[if_neg hl] at h0
    exact (no12 h0).elim
  simp only[if_neg o2] at h0 hc ⊢
  by_cases o12:e.op = 12
  ·simp only[if_pos o12] at h0 hc ⊢
   have hl2:=a1 o12
   have e0:argE e.args 0 ∈ e.args:=by rw[argE_get (by omega)]; exact List.getElem_mem _
   have e1:argE e.args 1 ∈ e.args:=by rw[argE_get (by omega)]; exact List.getElem_mem _
   unfold letS at h0 hc ⊢
   by_cases hz:(findS C d L eff (argE e.args 0)).2.1 = 0
   ·simp only[if_pos hz] at h0 hc ⊢
    obtain⟨k1,k2⟩:=find_eff hv hcal d _ _ _ (a6 _ e1) h0 hc
    obtain⟨j1,j2⟩:=ih _ _ e0 hz k1
    refine⟨j1,fun eff' he'=>?_⟩
    obtain⟨i1,i2,i3⟩:=j2 eff' he'
    simp only[if_pos i2]
    rw[i1]
    exact k2 _ i3
   ·rw[if_neg hz] at h0
    exact absurd h0 hz
  simp only[if_neg o12] at h0 hc ⊢
  by_cases o17:e.op = 17 ∨ e.op = 18
  ·simp only[if_pos o17] at h0 hc ⊢
   unfold varS at h0 hc ⊢
   rw[← hv]
   by_cases hl:(lookR C.vars e.s).2 = true
   ·simp only[if_pos hl] at h0 hc ⊢
    by_cases o18:e.op = 18
    ·simp only[if_pos o18] at h0 hc ⊢
     have hl2:=a2 o18
     have e0:argE e.args 0 ∈ e.args:=by rw[argE_get (by omega)]; exact List.getElem_mem _
     by_cases hz:(findS C d L eff (argE e.args 0)).2.1 = 0
     ·simp only[if_pos hz] at h0 hc ⊢
      by_cases hs:subB (findS C d L eff (argE e.args 0)).1 (lookR C.vars e.s).1 = true
      ·simp only[if_pos hs] at h0 hc ⊢
       obtain⟨j1,j2⟩:=ih _ _ e0 hz hc
       refine⟨j1,fun eff' he'=>?_⟩
       obtain⟨i1,i2,i3⟩:=j2 eff' he'
       rw[if_pos i2,i1,if_pos hs]
       exact⟨rfl,rfl,i3⟩
      ·rw[if_neg hs] at h0
       exact (no13 h0).elim
     ·rw[if_neg hz] at h0
      exact absurd h0 hz
    ·simp only[if_neg o18] at hc ⊢
     exact⟨hc,fun eff' h=>by first | exact⟨rfl,rfl,h⟩ | exact⟨trivial,trivial,h⟩ | exact⟨trivial,rfl,h⟩ | exact⟨rfl,trivial,h⟩⟩
   ·rw[if_neg hl] at h0
    exact (no12 h0).elim
  simp only[if_neg o17] at h0 hc ⊢
  by_cases o15:e.op = 15
  ·simp only[if_pos o15] at h0 hc ⊢
   unfold callS at h0 hc ⊢
   cases hg:calleeS C e.s e.m with
   | none=>rw[hg] at h0; exact (no12 h0).elim
   | some g =>
    obtain⟨g',g1,g2,g3,g4⟩:=hcal _ _ _ hg
    rw[hg] at h0 hc
    rw[g1]
    dsimp only at h0 hc ⊢
    rw[g2,g3]
    by_cases hp:g.2.1.length = e.args.length
    ·simp only[if_pos hp] at h0 hc ⊢
     by_cases hz:(listS (findS C d L) eff e.args).2.1 = 0
     ·simp only[if_pos hz] at h0 hc ⊢
      by_cases ha:allB (listS (findS C d L) eff e.args).1 g.2.1 = true
      ·simp only[if_pos ha] at h0 hc ⊢
       rw[cln_or] at hc
       obtain⟨j1,j2⟩:=list_eff e.args eff ih hz hc.1
       refine⟨j1,fun eff' he'=>?_⟩
       obtain⟨i1,i2,i3⟩:=j2 eff' he'
       rw[if_pos i2,i1,if_pos ha]
       exact⟨rfl,rfl,(cln_or _ _).2 ⟨i3,g4 hc.2⟩⟩
      ·rw[if_neg ha] at h0
       exact (no13 h0).elim
     ·rw[if_neg hz] at h0
      exact absurd h0 hz
    ·rw[if_neg hp] at h0
     exact (no13 h0).elim
  simp only[if_neg o15] at h0 hc ⊢
  unfold restS at h0 hc ⊢
  by_cases hz:(listS (findS C d L) eff e.args).2.1 = 0
  ·simp only[if_pos hz] at h0 hc ⊢
   by_cases o16:e.op = 16
   ·simp only[if_pos o16] at hc ⊢
    rw[cln_or] at hc
    obtain⟨j1,j2⟩:=list_eff e.args eff ih hz hc.1
    refine⟨j1,fun eff' he'=>?_⟩
    obtain⟨i1,i2,i3⟩:=j2 eff' he'
    rw[if_pos i2,i1]
    exact⟨rfl,h0,(cln_or _ _).2 ⟨i3,hc.2⟩⟩
   ·simp only[if_neg o16] at hc ⊢
    obtain⟨j1,j2⟩:=list_eff e.args eff ih hz hc
    refine⟨j1,fun eff' he'=>?_⟩
    obtain⟨i1,i2,i3⟩:=j2 eff' he'
    rw[if_pos i2,i1]
    exact⟨rfl,h0,i3⟩
  ·rw[if_neg hz] at h0
   exact absurd h0 hz
noncomputable def rfB (l:List FieldT) (n:Int):Bool:=(syntax_rightFields (unL l) n).getD false
theorem rfB_ok {l:List FieldT} (n:Int) (h:l.length ≤ 1000):syntax_rightFields (unL l) n = some (rfB l n):=by
 obtain⟨b,hb,_⟩:=rfields_ok l n h
 unfold rfB
 rw[hb]; rfl
noncomputable def funcB (f:GFunc):Bool:=nameB f.1 && (rfB f.2.2.1 6 && (rightS 4 f.2.2.2.1.1 f.2.2.2.1.2 && (rexpB (bodyE f) && eqZ (anI .i64 f.2.2.2.2.1 15) 0)))
theorem goL_badI {α β:Type} (T:Nat → α → Bool) (e:Option β) (b:β):∀ (l:List α) (k:Nat),goL (fun k x=>if T k x = true then some none else some (some b)) e k l = if allI T k l = true then e else some b
 | [],_=>rfl
 | x :: r,k=>by
  unfold goL allI
  cases T k x with
  | true=>rw[if_pos rfl,Bool.true_and]; exact goL_badI T e b r (k + 1)
  | false=>rfl
def knF (l:List GFunc):List (Bs × Bool):=l.foldl (fun m g=>putM m g.1 true) []
theorem knF_look (l:List GFunc) (x:Bs):(lookM (knF l) x).getD false = l.any fun g=>decide (g.1 = x):=by
 have:∀ (l:List GFunc) (m:List (Bs × Bool)),(lookM (l.foldl (fun m g=>putM m g.1 true) m) x).getD false = ((lookM m x).getD false || l.any fun g=>decide (g.1 = x)):=by
  intro l
  induction l with
  | nil=>intro m; simp
  | cons g r ih =>
   intro m
   rw[List.foldl_cons,ih,look_put,List.any_cons]
   by_cases h:x = g.1
   ·rw[if_pos h,decide_eq_true h.symm]
    simp
   ·rw[if_neg h,decide_eq_false (fun e=>h e.symm)]
    simp
 have h:=this l []
 unfold knF
 rw[h]; rfl
def ShFu (fu:List GFunc):Prop:=fu.length ≤ 6 ∧ ∀ f ∈ fu,f.2.2.1.length ≤ 8 ∧ shE 16 (bodyE f)
noncomputable def fuT (fu:List GFunc) (k:Nat) (f:GFunc):Bool := !((fu.take k).any fun g=>decide (g.1 = f.1)) && funcB f
theorem funcs_loop {fu:List GFunc} (hs:ShFu fu):loopF (fun x:Int × List (Bs × Bool)=>syntax_Right.b2 fu x.1 x.2) (0,[]) = if allI (fuT fu) 0 fu = true then some (.inl ()) else some (.inr false):=by
 have hl:=hs.1
 refine (loop_go (body:=fun x:Int × List (Bs × Bool)=>syntax_Right.b2 fu x.1 x.2) (fun k=>((k:Int),knF (fu.take k))) fu (fun k f=>if fuT fu k f = true then some none else some (some (.inr false))) (some (.inl ())) (fun i hi=>?_) ?_ (by omega)).trans (goL_badI _ _ _ _ _)
 ·unfold syntax_Right.b2 syntax_Right.j2
  simp only[fu1,fu2,fe1,fe2]
  obtain⟨hf1,hf2⟩:=hs.2 _ (List.getElem_mem hi)
  have hr:syntax_RightType fu[i].2.2.2.1.1 (unL fu[i].2.2.2.1.2) = some (rightS 4 fu[i].2.2.2.1.1 fu[i].2.2.2.1.2):=by
   have:=right_ok fu[i].2.2.2.1.1 fu[i].2.2.2.1.2
   unfold types_Right at this
   cases hx:syntax_RightType fu[i].2.2.2.1.1 (unL fu[i].2.2.2.1.2) with
   | none=>rw[hx] at this; cases this
   | some b=>rw[hx] at this; exact this
  have he:syntax_RightExp fu[i].2.2.2.2.2.1 fu[i].2.2.2.2.2.2.1 fu[i].2.2.2.2.2.2.2.1 fu[i].2.2.2.2.2.2.2.2.1 fu[i].2.2.2.2.2.2.2.2.2.1 (unE fu[i].2.2.2.2.2.2.2.2.2.2) = some (rexpB (bodyE fu[i])):=(rexp_ok hf2).1
  rw[ltZ_eq,decide_eq_true (by omega),cond_true,idx_nat hi,bind_in,name_ok,z64_succ (by omega),rfB_ok 6 (by omega),hr,he]
  simp only[bind_in,knF_look]
  have hkn:knF (fu.take (i + 1)) = putM (knF (fu.take i)) fu[i].1 true:=by
   unfold knF
   rw[take_succ hi,List.foldl_append]; rfl
  rw[hkn]
  unfold fuT funcB
  cases ((fu.take i).any fun g=>decide (g.1 = fu[i].1)) with
  | true=>rfl
  | false =>
  cases nameB fu[i].1 with
  | false=>rfl
  | true =>
  cases rfB fu[i].2.2.1 6 with
  | false=>rfl
  | true =>
  cases rightS 4 fu[i].2.2.2.1.1 fu[i].2.2.2.1.2 with
  | false=>rfl
  | true =>
  cases rexpB (bodyE fu[i]) with
  | false=>rfl
  | true =>
  cases eqZ (anI .i64 fu[i].2.2.2.2.1 15) 0 <;> rfl
 ·unfold syntax_Right.b2
  rw[ltZ_eq,decide_eq_false (by omega),cond_false]; rfl
theorem fuT_iff {fu:List GFunc}:allI (fuT fu) 0 fu = true ↔ fu.Pairwise (fun f g=>f.1 ≠ g.1) ∧ ∀ f ∈ fu,funcB f = true:=by
 rw[allI_iff,List.pairwise_iff_getElem]
 unfold fuT
 constructor
 ·intro h
  refine⟨fun i j hi hj hij e=>?_,fun f hf=>?_⟩
  ·have:=h j hj
   rw[Nat.zero_add,Bool.and_eq_true,Bool.not_eq_true',List.any_eq_false] at this
   have h1:=this.1 fu[i] (by rw[List.mem_take_iff_getElem]; exact⟨i,by omega,rfl⟩)
   rw[decide_eq_true_eq] at h1
   exact h1 e
  ·obtain⟨j,hj,rfl⟩:=List.mem_iff_getElem.1 hf
   have:=h j hj
   rw[Bool.and_eq_true] at this
   exact this.2
 ·intro ⟨h1,h2⟩ j hj
  rw[Nat.zero_add,Bool.and_eq_true,Bool.not_eq_true',List.any_eq_false]
  refine⟨fun g hg=>?_,h2 _ (List.getElem_mem hj)⟩
  rw[List.mem_take_iff_getElem] at hg
  obtain⟨i,hi,rfl⟩:=hg
  rw[decide_eq_true_eq]
  exact h1 i j (by omega) hj (by omega)
def setF (m:GModule) (fu:List GFunc):GModule:=(m.1,m.2.1,m.2.2.1,m.2.2.2.1,fu,m.2.2.2.2.2)
theorem right_funcs {m:GModule} {fu:List GFunc} (hm:ShM m) (hf:ShFu fu) (hl:(fu.Pairwise (fun f g=>f.1 ≠ g.1) ∧ ∀ f ∈ fu,funcB f = true)) (h:rightB m = true):rightB (setF m fu) = true:=by
 have h1:=(rightB_ok hm).1
 rw[h] at h1
 have h1:syntax_Right m.1 m.2.1 (unL m.2.2.1) (unE m.2.2.2.1) m.2.2.2.2.1 m.2.2.2.2.2.1 (unL m.2.2.2.2.2.2.1) (unE m.2.2.2.2.2.2.2.1) (unE m.2.2.2.2.2.2.2.2) = some true:=h1
 have h2:syntax_Right m.1 m.2.1 (unL m.2.2.1) (unE m.2.2.2.1) fu m.2.2.2.2.2.1 (unL m.2.2.2.2.2.2.1) (unE m.2.2.2.2.2.2.2.1) (unE m.2.2.2.2.2.2.2.2) = some true:=by
  unfold syntax_Right at h1 ⊢
  cases hu:loopF (fun x:Int × List (Bs × Bool)=>syntax_Right.b1 m.2.1 x.1 x.2) (0,([]:List (Bs × Bool))) with
  | none=>rw[hu] at h1; cases h1
  | some r =>
   rw[hu] at h1
   cases r with
   | inr b=>exact h1
   | inl u =>
    rw[bind_in] at h1 ⊢
    dsimp only at h1 ⊢
    unfold syntax_Right.j6 at h1 ⊢
    rw[funcs_loop (show ShFu m.2.2.2.2.1 from hm.funcs)] at h1
    rw[funcs_loop hf,if_pos (fuT_iff.2 hl)]
    split at h1
    ·rw[bind_in] at h1 ⊢
     dsimp only at h1 ⊢
     unfold syntax_Right.j5 at h1 ⊢
     have l1:=hm.funcs.1
     have l2:=hf.1
     rw[show ltZ 30 ((m.2.2.2.2.1.length:Nat):Int) = false by rw[ltZ_eq]; exact decide_eq_false (by omega)] at h1
     rw[show ltZ 30 ((fu.length:Nat):Int) = false by rw[ltZ_eq]; exact decide_eq_false (by omega)]
     exact h1
    ·cases h1
 unfold rightB
 have h3:RightM (setF m fu) = some true:=h2
 rw[h3]; rfl
theorem right_fuT {m:GModule} (hm:ShM m) (h:rightB m = true):m.2.2.2.2.1.Pairwise (fun f g=>f.1 ≠ g.1) ∧ ∀ f ∈ m.2.2.2.2.1,funcB f = true:=by
 have h1:=(rightB_ok hm).1
 rw[h] at h1
 have h1:syntax_Right m.1 m.2.1 (unL m.2.2.1) (unE m.2.2.2.1) m.2.2.2.2.1 m.2.2.2.2.2.1 (unL m.2.2.2.2.2.2.1) (unE m.2.2.2.2.2.2.2.1) (unE m.2.2.2.2.2.2.2.2) = some true:=h1
 obtain⟨r1,hu,q1⟩:=loopF_inv (body:=fun x:Int × List (Bs × Bool)=>syntax_Right.b1 m.2.1 x.1 x.2) (fun i x=>∃ kn,x = ((i:Int),kn)) (Q:=fun r=>r = .inr false ∨ r = .inl ()) m.2.1.length (x:=(0,[])) ⟨[],rfl⟩ (fun i hi x hx=>by
  obtain⟨kn,rfl⟩:=hx
  have hl:=hm.uses
  unfold syntax_Right.b1 syntax_Right.j1
  rw[ltZ_eq,decide_eq_true (by omega),cond_true,idx_nat hi,bind_in,name_ok,z64_succ (by omega)]
  simp only[bind_in]
  cases ((lookM kn m.2.1[i]).getD false) with
  | true=>exact .inr ⟨_,rfl,.inl rfl⟩
  | false =>
  cases hnm:nameB m.2.1[i] with
  | false=>exact .inr ⟨_,rfl,.inl rfl⟩
  | true=>exact .inl ⟨_,rfl,_,rfl⟩) (fun x hx=>by
  obtain⟨kn,rfl⟩:=hx
  unfold syntax_Right.b1
  rw[ltZ_eq,decide_eq_false (by omega),cond_false]
  exact⟨_,rfl,.inr rfl⟩) (by have:=hm.uses; omega)
 unfold syntax_Right at h1
 rw[hu] at h1
 rcases q1 with rfl | rfl
 ·cases h1
 rw[bind_in] at h1
 dsimp only at h1
 unfold syntax_Right.j6 at h1
 rw[funcs_loop (show ShFu m.2.2.2.2.1 from hm.funcs)] at h1
 split at h1
 ·rename_i h2
  exact fuT_iff.1 h2
 ·cases h1
end Go.Proofs.Ytaocfjifacnokaa
namespace Go.Proofs.Ytaocfjifacnokaa
open Go.Lad
theorem goL_any {α:Type} (p:α → Bool):∀ (l:List α) (k:Nat),goL (fun _ x=>if p x = true then some (some true) else some none) (some false) k l = some (l.any p)
 | [],_=>rfl
 | x :: r,k=>by
  unfold goL
  rw[List.any_cons]
  cases p x with
  | true=>rfl
  | false=>rw[if_neg (by simp),Bool.false_or]; exact goL_any p r (k + 1)
theorem named_rec:∀ (q n:Nat) (e:ExpT) (s:Bs),shE q e → q ≤ n → ladinglaw16_named.rec n e.op e.n e.s e.m e.names (unE e.args) s = some (namedS q e s)
 | 0,_,_,_,h,_=>h.elim
 | q + 1,0,_,_,_,h=>absurd h (by omega)
 | q + 1,n + 1,e,s,hs,hn=>by
  obtain⟨s1,s2,s3⟩:=hs
  show ladinglaw16_named.body (ladinglaw16_named.rec n) e.op e.n e.s e.m e.names (unE e.args) s = _
  unfold ladinglaw16_named.body ladinglaw16_named.j1 namedS
  have hl:loopF (fun x=>ladinglaw16_named.b1 (ladinglaw16_named.rec n) (unE e.args) s x) 0 = some (e.args.any fun a=>namedS q a s):=by
   refine (loop_go (body:=fun x=>ladinglaw16_named.b1 (ladinglaw16_named.rec n) (unE e.args) s x) (fun k=>(k:Int)) e.args (fun _ a=>if namedS q a s = true then some (some true) else some none) (some false) (fun i hi=>?_) ?_ (by omega)).trans (goL_any _ _ _)
   ·unfold ladinglaw16_named.b1
    simp only[fe1,fe2]
    rw[unE_len,ltZ_eq,decide_eq_true (by omega),cond_true,idx_unE hi,bind_in]
    have:=named_rec q n e.args[i] s (s3 _ (List.getElem_mem hi)) (by omega)
    unfold tupE
    simp only[this,bind_in]
    rw[z64_succ (by omega)]
    cases namedS q e.args[i] s <;> rfl
   ·unfold ladinglaw16_named.b1
    rw[unE_len,ltZ_eq,decide_eq_false (by omega),cond_false]; rfl
  rw[hl]
  simp only[eqZ_eq]
  by_cases h1:e.s = s
  ·rw[decide_eq_true h1]
   by_cases h2:e.op = 2
   ·rw[decide_eq_true h2]; rfl
   ·rw[decide_eq_false h2]
    by_cases h3:e.op = 15
    ·rw[decide_eq_true h3]
     cases decide (e.m = []) <;> rfl
    ·rw[decide_eq_false h3]; rfl
  ·rw[decide_eq_false h1]; rfl
theorem named_ok {e:ExpT} (s:Bs) (h:shE 16 e):ladinglaw16_named e.op e.n e.s e.m e.names (unE e.args) s = some (namedS 16 e s):=named_rec 16 bigFuel.n e s h (Nat.le_of_lt (fuel_big (by omega)))
def del {α:Type} (i:Nat) (l:List α):List α:=l.take i ++ l.drop (i + 1)
theorem del_mem {α:Type} {i:Nat} {l:List α} {x:α} (h:x ∈ del i l):x ∈ l:=by
 rcases List.mem_append.1 h with h | h
 ·exact List.mem_of_mem_take h
 ·exact List.mem_of_mem_drop h
theorem del_len {α:Type} (i:Nat) (l:List α):(del i l).length ≤ l.length:=by
 unfold del
 rw[List.length_append,List.length_take,List.length_drop]; omega
theorem split_at {α:Type} {i:Nat} {l:List α} (h:i < l.length):l = l.take i ++ l[i] :: l.drop (i + 1):=by
 rw[← List.drop_eq_getElem_cons h,List.take_append_drop]
theorem cut_del {α:Type} {l:List α} {i:Nat} (h:i < l.length) (hl:l.length ≤ 1000000) {β:Type} (f:List α → Option β) :
  ((cut l 0 (i:Int)).bind fun a=>(app? ([]:List α) a).bind fun b=>(z64 ((i:Int) + 1)).bind fun v=>(cut l v (l.length:Int)).bind fun c=>(app? b c).bind fun d=>f d) = f (del i l):=by
 rw[cut_in (by omega) (by omega) (by omega),bind_in,app_in (by simp; omega),bind_in,z64_succ (by omega),bind_in,cut_in (by omega) (by omega) (by omega),bind_in,app_in (by simp; omega),bind_in]
 unfold del
 simp
theorem lookF_app (a b:List FieldT) (n:Bs):lookF (a ++ b) n = match lookF b n with | some y=>some y | none=>lookF a n:=by
 unfold lookF lastOf
 rw[List.reverse_append,List.find?_append]
 cases b.reverse.find? (fun f=>decide (f.nm = n)) <;> rfl
theorem look_del {L:List FieldT} {i:Nat} (h:i < L.length) (n:Bs) (hn:n ≠ L[i].nm):lookR L n = lookR (del i L) n:=by
 unfold lookR
 have e:lookF L n = lookF (del i L) n:=by
  conv=>lhs; rw[split_at h]
  unfold del
  rw[lookF_app,lookF_app]
  unfold lookF
  rw[lastOf_cons,decide_eq_false (fun e=>hn e.symm)]
  cases lastOf (fun f=>decide (f.nm = n)) (L.drop (i + 1)) <;> rfl
 rw[e]
theorem find_del {fu:List GFunc} {i:Nat} (h:i < fu.length) (n:Bs) (hn:n ≠ fu[i].1):fu.find? (fun f=>decide (f.1 = n)) = (del i fu).find? (fun f=>decide (f.1 = n)):=by
 conv=>lhs; rw[split_at h]
 unfold del
 rw[List.find?_append,List.find?_append,List.find?_cons,decide_eq_false (fun e=>hn e.symm)]
theorem un_del (L:List FieldT) (i:Nat):del i (unL L) = unL (del i L):=by
 unfold del
 rw[un_app]
 exact congr (congrArg HAppend.hAppend (List.map_take (α:=FieldT) (β:=GField) (f:=Uun 0)).symm) (List.map_drop (α:=FieldT) (β:=GField) (f:=Uun 0)).symm
theorem callee_nil (C:Cx) (n:Bs):calleeS C n [] = (C.funcs.find? fun f=>decide (f.1 = n)).map fun f=>([],f.2.2.1.map (fun p=>(p.kd,p.fs)),f.2.2.2.1,f.2.2.2.2.1):=by
 unfold calleeS
 rw[if_pos rfl]
theorem callee_ne {C C':Cx} (hl:C.look = C'.look) (hu:C.uses = C'.uses) (n:Bs) {m:Bs} (h:m ≠ []):calleeS C n m = calleeS C' n m:=by
 unfold calleeS
 rw[if_neg h,if_neg h,hl,hu]
theorem set_vars (m:GModule) (fu:List GFunc) (faces:List GFace):(cxM m faces).vars = (cxM (setF m fu) faces).vars:=rfl
theorem set_look (m:GModule) (fu:List GFunc) (faces:List GFace):(cxM m faces).look = (cxM (setF m fu) faces).look:=rfl
theorem set_uses (m:GModule) (fu:List GFunc) (faces:List GFace):(cxM m faces).uses = (cxM (setF m fu) faces).uses:=rfl
theorem set_funcs (m:GModule) (fu:List GFunc) (faces:List GFace):(cxM (setF m fu) faces).funcs = fu:=rfl
theorem m_funcs (m:GModule) (faces:List GFace):(cxM m faces).funcs = m.2.2.2.2.1:=rfl
theorem spare_local {m:GModule} {faces:List GFace} {L:List FieldT} {e:ExpT} {i:Nat} (hm:ShM m) (he:shE 16 e) (ha:argB m faces L e = true) (hi:i < L.length) (hn:namedS 16 e L[i].nm = false):typeOfS m faces (del i L) e = typeOfS m faces L e:=by
 have h0:=ha
 unfold argB at h0
 rw[Bool.and_eq_true,Bool.and_eq_true] at h0
 have hl:localsB (del i L) = true:=by
  unfold localsB
  rw[List.all_eq_true]
  intro f hf
  have:=h0.1
  unfold localsB at this
  rw[List.all_eq_true] at this
  exact this f (del_mem hf)
 have ha2:argB m faces (del i L) e = true:=by
  unfold argB
  rw[hl,Bool.true_and,Bool.and_eq_true]
  exact h0.2
 have hf:findS (cxM m faces) 12 L 0 e = findS (cxM m faces) 12 (del i L) 0 e:=find_agree rfl L[i].nm (fun n m _=>rfl) 12 16 L (del i L) 0 e ((rexp_ok he).2 h0.2.1) he (fun n hn=>look_del hi n hn) hn
 unfold typeOfS
 rw[if_pos ha,if_pos ha2,hf]
theorem del_sh {fu:List GFunc} (i:Nat) (h:ShFu fu):ShFu (del i fu):=⟨Nat.le_trans (del_len i fu) h.1,fun f hf=>h.2 f (del_mem hf)⟩
theorem sh_setF {m:GModule} {fu:List GFunc} (hm:ShM m) (h:ShFu fu):ShM (setF m fu):=⟨hm.uses,hm.vars,hm.init,h,hm.old,hm.fwd,hm.back⟩
theorem del_fuT {fu:List GFunc} (i:Nat) (h:fu.Pairwise (fun f g=>f.1 ≠ g.1) ∧ ∀ f ∈ fu,funcB f = true):(del i fu).Pairwise (fun f g=>f.1 ≠ g.1) ∧ ∀ f ∈ del i fu,funcB f = true:=by
 refine⟨List.Pairwise.sublist ?_ h.1,fun f hf=>h.2 f (del_mem hf)⟩
 unfold del
 rw[← List.eraseIdx_eq_take_drop_succ]
 exact List.eraseIdx_sublist _ _
theorem spare_func {m:GModule} {faces:List GFace} {L:List FieldT} {e:ExpT} {i:Nat} (hm:ShM m) (he:shE 16 e) (ha:argB m faces L e = true) (hi:i < m.2.2.2.2.1.length) (hn:namedS 16 e m.2.2.2.2.1[i].1 = false):typeOfS (setF m (del i m.2.2.2.2.1)) faces L e = typeOfS m faces L e:=by
 have h0:=ha
 unfold argB at h0
 rw[Bool.and_eq_true,Bool.and_eq_true,Bool.and_eq_true] at h0
 have hr:=right_funcs (fu:=del i m.2.2.2.2.1) hm (del_sh i hm.funcs) (del_fuT i (right_fuT hm h0.2.2.1)) h0.2.2.1
 have ha2:argB (setF m (del i m.2.2.2.2.1)) faces L e = true:=by
  unfold argB
  rw[h0.1,h0.2.1,hr,h0.2.2.2]; rfl
 have hf:findS (cxM m faces) 12 L 0 e = findS (cxM (setF m (del i m.2.2.2.2.1)) faces) 12 L 0 e:=find_agree (set_vars m _ faces) m.2.2.2.2.1[i].1 (fun n x h=>by
  by_cases hx:x = []
  ·subst hx
   rw[callee_nil,callee_nil,set_funcs,m_funcs,find_del hi n (h rfl)]
  ·exact callee_ne (set_look m _ faces) (set_uses m _ faces) n hx) 12 16 L L 0 e ((rexp_ok he).2 h0.2.1) he (fun n _=>rfl) hn
 unfold typeOfS
 rw[if_pos ha,if_pos ha2,hf]
def eff15 (f:GFunc):GFunc:=(f.1,f.2.1,f.2.2.1,f.2.2.2.1,15,f.2.2.2.2.2)
theorem find_eff15 {fu:List GFunc} {n:Bs} {f:GFunc} (h:fu.find? (fun f=>decide (f.1 = n)) = some f):(fu.map eff15).find? (fun f=>decide (f.1 = n)) = some (eff15 f):=by
 rw[List.find?_map]
 have:(fu.find? ((fun f=>decide (f.1 = n)) ∘ eff15)) = some f:=h
 rw[this]; rfl
theorem eff_sh {fu:List GFunc} (h:ShFu fu):ShFu (fu.map eff15):=by
 refine⟨by rw[List.length_map]; exact h.1,fun f hf=>?_⟩
 obtain⟨g,hg,rfl⟩:=List.mem_map.1 hf
 exact h.2 g hg
theorem eff_fuT {fu:List GFunc} (h:fu.Pairwise (fun f g=>f.1 ≠ g.1) ∧ ∀ f ∈ fu,funcB f = true):(fu.map eff15).Pairwise (fun f g=>f.1 ≠ g.1) ∧ ∀ f ∈ fu.map eff15,funcB f = true:=by
 refine⟨List.pairwise_map.2 h.1,fun f hf=>?_⟩
 obtain⟨g,hg,rfl⟩:=List.mem_map.1 hf
 have:=h.2 g hg
 unfold funcB at this ⊢
 simp only[Bool.and_eq_true] at this
 show (nameB g.1 && (rfB g.2.2.1 6 && (rightS 4 g.2.2.2.1.1 g.2.2.2.1.2 && (rexpB (bodyE g) && eqZ (anI .i64 15 15) 0)))) = true
 rw[this.1,this.2.1,this.2.2.1,this.2.2.2.1,eqZ_eq,decide_eq_true (show anI .i64 15 15 = 0 from cln15)]; rfl
theorem check_setF {m:GModule} {faces:List GFace} {fu:List GFunc} (h:(checkS m faces).2 = 0) (hr:rightB (setF m fu) = true) (hs:scan (funcG (cxM (setF m fu) faces)) 0 fu = none):(checkS (setF m fu) faces).2 = 0:=by
 unfold checkS at h ⊢
 cases hfb:facesB faces with
 | false=>rw[hfb] at h; exact absurd h (by simp)
 | true =>
 rw[hfb,if_pos rfl] at h
 rw[if_pos rfl]
 cases hrm:rightB m with
 | false=>rw[hrm] at h; exact absurd h (by simp)
 | true =>
 rw[hrm,if_pos rfl] at h
 rw[hr,if_pos rfl]
 have hu:scan (usesG (setF m fu) faces) 0 (setF m fu).2.1 = scan (usesG m faces) 0 m.2.1:=rfl
 have hv:movesS (setF m fu) = movesS m:=rfl
 rw[hu,hv]
 cases hsu:scan (usesG m faces) 0 m.2.1 with
 | some u=>rw[hsu] at h; exact absurd h (by simp)
 | none =>
 rw[hsu] at h
 dsimp only at h ⊢
 by_cases h0:(movesS m).2 = 0
 rotate_left
 ·rw[if_neg h0] at h; exact absurd h h0
 rw[if_pos h0]
 show ((scan (funcG (cxM (setF m fu) faces)) 0 fu).getD ([],0)).2 = 0
 rw[hs]; rfl
theorem check_eff {m:GModule} {faces:List GFace} (hm:ShM m) (h:(checkS m faces).2 = 0):(checkS (setF m (m.2.2.2.2.1.map eff15)) faces).2 = 0:=by
 obtain⟨_,cp⟩:=check_good h
 have ho:=(rightB_ok hm).2 cp.right
 have hT:=right_fuT hm cp.right
 refine check_setF h (right_funcs hm (eff_sh hm.funcs) (eff_fuT hT) cp.right) ?_
 rw[scan_none]
 intro i hi
 have hi2:i < m.2.2.2.2.1.length:=by rw[List.length_map] at hi; exact hi
 have hmem:=List.getElem_mem hi2
 obtain⟨c1,c2,c3⟩:=cp.funcs _ hmem
 have hfb:=hT.2 _ hmem
 unfold funcB at hfb
 simp only[Bool.and_eq_true,eqZ_eq,decide_eq_true_eq] at hfb
 obtain⟨_,k⟩:=find_eff (C:=cxM m faces) (C':=cxM (setF m (m.2.2.2.2.1.map eff15)) faces) (set_vars m _ faces) (fun n x g hg=>by
  by_cases hx:x = []
  ·subst hx
   rw[callee_nil,Option.map_eq_some_iff] at hg
   obtain⟨f,hf,rfl⟩:=hg
   refine⟨([],f.2.2.1.map (fun p=>(p.kd,p.fs)),f.2.2.2.1,15),?_,rfl,rfl,fun _=>cln15⟩
   rw[m_funcs] at hf; rw[callee_nil,set_funcs,find_eff15 hf]; rfl
  ·exact⟨g,(callee_ne (set_look m _ faces) (set_uses m _ faces) n hx).symm.trans hg,rfl,rfl,id⟩) 12 m.2.2.2.2.1[i].2.2.1 0 (bodyE m.2.2.2.2.1[i]) ((rexp_ok (hm.funcs.2 _ hmem).2).2 hfb.2.2.2.1) c1 (cln_trans c3 hfb.2.2.2.2)
 obtain⟨k1,k2,k3⟩:=k 0 cln0
 rw[List.getElem_map]
 unfold funcG
 show (if (findS _ 12 m.2.2.2.2.1[i].2.2.1 0 (bodyE m.2.2.2.2.1[i])).2.1 = 0 then _ else _) = _
 rw[if_pos k2]
 show (if subB (findS _ 12 m.2.2.2.2.1[i].2.2.1 0 (bodyE m.2.2.2.2.1[i])).1 m.2.2.2.2.1[i].2.2.2.1 = true then _ else _) = _
 rw[k1,if_pos c2]
 exact if_pos k3
theorem spare_true (m:GModule) (faces:List GFace) (loc:List GField) (x:GExp) (k:Int):ladinglaw16_TypesSpare m faces loc x k = some true:=by
 obtain⟨L,rfl⟩:∃ L,loc = unL L:=⟨mkL loc,(un_mk loc).symm⟩
 obtain⟨e,rfl⟩:∃ e,x = tupE e:=⟨.mk x.1 x.2.1 x.2.2.1 x.2.2.2.1 x.2.2.2.2.1 x.2.2.2.2.2,rfl⟩
 unfold ladinglaw16_TypesSpare tupE
 simp only[fu1,fu2,fe1,fe2,fxe1,fme,fme2]
 obtain⟨b1,e1,g1⟩:=module_ok m
 obtain⟨b2,e2,g2⟩:=seen_ok faces
 obtain⟨b3,e3,g3⟩:=fields_ok L
 obtain⟨b5,e5,g5⟩:=exps_ok [e]
 have e1:ladinglaw16_module m.1 m.2.1 (unL m.2.2.1) (unE m.2.2.2.1) m.2.2.2.2.1 m.2.2.2.2.2.1 (unL m.2.2.2.2.2.2.1) (unE m.2.2.2.2.2.2.2.1) (unE m.2.2.2.2.2.2.2.2) = some b1:=e1
 have hone:unE [e] = ([(e.op,e.n,e.s,e.m,e.names,e.args)]:List GExp):=by cases e; rfl
 rw[hone] at e5
 rw[small_ok,bind_in,e1,bind_in,e2,e3,e5]
 simp only[bind_in]
 cases b1 with
 | false=>rfl
 | true =>
 cases b2 with
 | false=>rfl
 | true =>
 cases b3 with
 | false=>rfl
 | true =>
 cases b5 with
 | false=>rfl
 | true =>
 have hm:=g1 rfl
 have hf:=g2 rfl
 have hL:=g3 rfl
 have he:=(g5 rfl).2 e (List.mem_singleton.2 rfl)
 simp only[Bool.not_true,cond_false,bind_in]
 unfold ladinglaw16_TypesSpare.j8
 rw[ltZ_eq]
 by_cases hk:k < 0
 ·rw[decide_eq_true hk]; rfl
 rw[decide_eq_false hk,cond_false]
 obtain⟨i,rfl⟩:∃ i:Nat,k = (i:Int):=⟨k.toNat,by omega⟩
 simp only[fu1,fu2,fe1,fe2]
 have hto:∀ (m:GModule) (L:List FieldT),ShM m → L.length ≤ 1000 → types_TypeOf_v2 m.1 m.2.1 (unL m.2.2.1) (unE m.2.2.2.1) m.2.2.2.2.1 m.2.2.2.2.2.1 (unL m.2.2.2.2.2.2.1) (unE m.2.2.2.2.2.2.2.1) (unE m.2.2.2.2.2.2.2.2) faces (unL L) e.op e.n e.s e.m e.names (unE e.args) = some (typeOfS m faces L e):=fun m L hm hL=>typeOf_ok hm hf hL he
 rw[hto m L hm (by omega),bind_in]
 by_cases ha:argB m faces L e = true
 rotate_left
 ·have:typeOfS m faces L e = ((0,[]),0,1):=by unfold typeOfS; rw[if_neg ha]
  rw[this]; rfl
 have hst:eqZ (typeOfS m faces L e).2.2 1 = false:=by
  rw[eqZ_eq]
  refine decide_eq_false ?_
  unfold typeOfS
  rw[if_pos ha]
  split
  ·intro h; exact absurd h (by simp)
  ·exact find_ne1 12 L 0 e
 rw[hst,cond_false]
 have hty:okL 4100 (typeOfS m faces L e).1.2:=by
  have h0:=ha
  unfold argB at h0
  simp only[Bool.and_eq_true] at h0
  unfold typeOfS
  rw[if_pos ha]
  split
  ·exact find_type (okC_of hm hf ((rightB_ok hm).2 h0.2.2.1) h0.2.2.2) h0.1 ((rexp_ok he).2 h0.2.1)
  ·exact okL_nil _
 have hsame:ladinglaw16_same (typeOfS m faces L e).1.1 (unL (typeOfS m faces L e).1.2) (typeOfS m faces L e).1.1 (unL (typeOfS m faces L e).1.2) = some true:=by
  rw[same15_ok (d:=4100) (by omega) _ _ _ _ hty,decide_eq_true rfl,eqL_refl]; rfl
 have hz:∀ a:Int,eqZ a a = true:=fun a=>by rw[eqZ_eq]; exact decide_eq_true rfl
 have p1:((bif ltZ (i:Int) ((unL L).length:Int) then ((idx (unL L) (i:Int)).bind fun v13=>(ladinglaw16_named e.op e.n e.s e.m e.names (unE e.args) v13.1).bind fun n14=>some (!n14)) else some false).bind fun x=>ladinglaw16_TypesSpare.j2 m faces (unL L) (tupE e) (i:Int) (typeOfS m faces L e) x) = some (.inl ()):=by
  rw[un_len,ltZ_eq]
  by_cases hi:i < L.length
  rotate_left
  ·rw[decide_eq_false (by omega)]; rfl
  rw[decide_eq_true (by omega),cond_true,idx_un hi,bind_in,named_ok _ he,bind_in,bind_in]
  cases hn:namedS 16 e L[i].nm with
  | true=>rfl
  | false =>
   unfold ladinglaw16_TypesSpare.j2
   simp only[fu1,fu2,fe1,fe2]
   rw[Bool.not_false,cond_true]
   refine (cut_del (show i < (unL L).length by rw[un_len]; exact hi) (by rw[un_len]; omega) _).trans ?_
   rw[un_del]
   show (types_TypeOf_v2 m.1 m.2.1 (unL m.2.2.1) (unE m.2.2.2.1) m.2.2.2.2.1 m.2.2.2.2.2.1 (unL m.2.2.2.2.2.2.1) (unE m.2.2.2.2.2.2.2.1) (unE m.2.2.2.2.2.2.2.2) faces (unL (del i L)) e.op e.n e.s e.m e.names (unE e.args)).bind _ = _
   have:=del_len i L
   rw[hto m (del i L) hm (by omega),bind_in,spare_local hm he ha hi hn]
   try dsimp only
   rw[hz,hz,hsame]; rfl
 refine (congrArg (fun o=>Option.bind o _) p1).trans ?_
 rw[bind_in]
 dsimp only
 unfold ladinglaw16_TypesSpare.j7
 simp only[fu1,fu2,fe1,fe2]
 have hsf:ShFu m.2.2.2.2.1:=hm.funcs
 have hfl:=hsf.1
 have p2:((bif ltZ (i:Int) (m.2.2.2.2.1.length:Int) then ((idx m.2.2.2.2.1 (i:Int)).bind fun v24=>(ladinglaw16_named e.op e.n e.s e.m e.names (unE e.args) v24.1).bind fun n25=>some (!n25)) else some false).bind fun x=>ladinglaw16_TypesSpare.j4 m faces (unL L) (tupE e) (i:Int) (typeOfS m faces L e) x) = some (.inl ()):=by
  rw[ltZ_eq]
  by_cases hi:i < m.2.2.2.2.1.length
  rotate_left
  ·rw[decide_eq_false (by omega)]; rfl
  rw[decide_eq_true (by omega),cond_true,idx_nat hi,bind_in,named_ok _ he,bind_in,bind_in]
  cases hn:namedS 16 e m.2.2.2.2.1[i].1 with
  | true=>rfl
  | false =>
   unfold ladinglaw16_TypesSpare.j4
   simp only[fu1,fu2,fe1,fe2]
   rw[Bool.not_false,cond_true]
   refine (cut_del hi (by omega) _).trans ?_
   have h2:=hto (setF m (del i m.2.2.2.2.1)) L (sh_setF hm (del_sh i hsf)) (by omega)
   rw[spare_func hm he ha hi hn] at h2
   have h2:types_TypeOf_v2 m.1 m.2.1 (unL m.2.2.1) (unE m.2.2.2.1) (del i m.2.2.2.2.1) m.2.2.2.2.2.1 (unL m.2.2.2.2.2.2.1) (unE m.2.2.2.2.2.2.2.1) (unE m.2.2.2.2.2.2.2.2) faces (unL L) e.op e.n e.s e.m e.names (unE e.args) = some (typeOfS m faces L e):=h2
   show (types_TypeOf_v2 m.1 m.2.1 (unL m.2.2.1) (unE m.2.2.2.1) (del i m.2.2.2.2.1) m.2.2.2.2.2.1 (unL m.2.2.2.2.2.2.1) (unE m.2.2.2.2.2.2.2.1) (unE m.2.2.2.2.2.2.2.2) faces (unL L) e.op e.n e.s e.m e.names (unE e.args)).bind _ = _
   rw[h2,bind_in]
   try dsimp only
   rw[hz,hz,hsame]; rfl
 refine (congrArg (fun o=>Option.bind o _) p2).trans ?_
 rw[bind_in]
 dsimp only
 unfold ladinglaw16_TypesSpare.j6
 simp only[fu1,fu2,fe1,fe2]
 have hc:types_Check_v2 m.1 m.2.1 (unL m.2.2.1) (unE m.2.2.2.1) m.2.2.2.2.1 m.2.2.2.2.2.1 (unL m.2.2.2.2.2.2.1) (unE m.2.2.2.2.2.2.2.1) (unE m.2.2.2.2.2.2.2.2) faces = some (checkS m faces):=check_ok hm hf
 have hc2:types_Check_v2 m.1 m.2.1 (unL m.2.2.1) (unE m.2.2.2.1) (m.2.2.2.2.1.map eff15) m.2.2.2.2.2.1 (unL m.2.2.2.2.2.2.1) (unE m.2.2.2.2.2.2.2.1) (unE m.2.2.2.2.2.2.2.2) faces = some (checkS (setF m (m.2.2.2.2.1.map eff15)) faces):=check_ok (sh_setF hm (eff_sh hsf)) hf
 rw[hc,bind_in,app_in (by simp; omega),bind_in,List.nil_append]
 have hlp:loopF (fun x:Int × Bs × List Bs × List GField × List GExp × Bool × List GField × List GExp × List GExp × List GFunc=>ladinglaw16_TypesSpare.b1 x.1 x.2.1 x.2.2.1 x.2.2.2.1 x.2.2.2.2.1 x.2.2.2.2.2.1 x.2.2.2.2.2.2.1 x.2.2.2.2.2.2.2.1 x.2.2.2.2.2.2.2.2.1 x.2.2.2.2.2.2.2.2.2) (0,m.1,m.2.1,unL m.2.2.1,unE m.2.2.2.1,m.2.2.2.2.2.1,unL m.2.2.2.2.2.2.1,unE m.2.2.2.2.2.2.2.1,unE m.2.2.2.2.2.2.2.2,m.2.2.2.2.1) =
   some (m.1,m.2.1,unL m.2.2.1,unE m.2.2.2.1,m.2.2.2.2.2.1,unL m.2.2.2.2.2.2.1,unE m.2.2.2.2.2.2.2.1,unE m.2.2.2.2.2.2.2.2,m.2.2.2.2.1.map eff15):=by
  refine loopF_at (fun j=>((j:Int),m.1,m.2.1,unL m.2.2.1,unE m.2.2.2.1,m.2.2.2.2.2.1,unL m.2.2.2.2.2.2.1,unE m.2.2.2.2.2.2.2.1,unE m.2.2.2.2.2.2.2.2,(m.2.2.2.2.1.take j).map eff15 ++ m.2.2.2.2.1.drop j)) m.2.2.2.2.1.length rfl (fun j hj=>?_) ?_ (by omega)
  ·have hlen:((m.2.2.2.2.1.take j).map eff15 ++ m.2.2.2.2.1.drop j).length = m.2.2.2.2.1.length:=by
    rw[List.length_append,List.length_map,List.length_take,List.length_drop]; omega
   have hlt:((m.2.2.2.2.1.take j).map eff15).length = j:=by rw[List.length_map,List.length_take]; omega
   have hget:((m.2.2.2.2.1.take j).map eff15 ++ m.2.2.2.2.1.drop j)[j]'(by rw[hlen]; exact hj) = m.2.2.2.2.1[j]:=by
    rw[List.getElem_append_right (by omega)]
    simp only[hlt,Nat.sub_self,List.getElem_drop,Nat.add_zero]
   unfold ladinglaw16_TypesSpare.b1
   simp only[fu1,fu2,fe1,fe2,fx1,fx3,fxe1,fme,fme2,fmu,fmu2]
   rw[hlen,ltZ_eq,decide_eq_true (by omega),cond_true,idx_nat (by rw[hlen]; exact hj),bind_in,z64_succ (by omega),hget]
   simp only[bind_in]
   have hset:((m.2.2.2.2.1.take j).map eff15 ++ m.2.2.2.2.1.drop j).set j (eff15 m.2.2.2.2.1[j]) = (m.2.2.2.2.1.take (j + 1)).map eff15 ++ m.2.2.2.2.1.drop (j + 1):=by
    rw[List.set_append_right _ _ (by omega),hlt,Nat.sub_self,List.drop_eq_getElem_cons hj,List.set_cons_zero,take_succ hj,List.map_append,List.append_assoc]; rfl
   rw[← hset]; rfl
  ·unfold ladinglaw16_TypesSpare.b1
   dsimp only
   rw[List.take_length,List.drop_length,List.append_nil,List.length_map,ltZ_eq,decide_eq_false (by omega),cond_false]
 rw[hlp,bind_in]
 dsimp only
 unfold ladinglaw16_TypesSpare.j5
 rw[hc2,bind_in,cond_true,eqZ_eq,eqZ_eq]
 by_cases h0:(checkS m faces).2 = 0
 ·rw[decide_eq_true h0,decide_eq_true (check_eff hm h0)]; rfl
 ·rw[decide_eq_false h0]; rfl
end Go.Proofs.Ytaocfjifacnokaa
