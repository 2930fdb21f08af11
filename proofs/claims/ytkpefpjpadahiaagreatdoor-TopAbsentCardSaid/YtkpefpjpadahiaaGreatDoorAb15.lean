import Derived.Test.YtkpefpjpadahiaaGreatDoorAb14
namespace Go.Lad
set_option linter.unusedVariables false
set_option linter.unusedSimpArgs false
open Go.RowKit
section
variable {P:Program} {Γ:Opt} {s s':St} {Q:AEx->St->Prop} {K:St->Prop}
theorem qL {o:Oper} {K K':Eff->Prop} (hK:∀ e,K e->K' e) (h:oP P Γ s o K):oP P Γ s o K':=by
 unfold oP at h ⊢;split at h
 ·obtain⟨e,h1,h2,h3⟩:=h; exact⟨e,h1,h2,hK e h3⟩
 ·split at h
  ·exact⟨h.1,h.2.1,hK _ h.2.2⟩
  ·exact h.elim
theorem C4 {o:Oper} {K K':St->Prop} (hK:∀ s,K s->K' s) (h:rq Γ o s K):rq Γ o s K':=by
 unfold rq at h ⊢;split at h
 ·rename_i hv;rw[if_pos hv];rcases h with h | ⟨tms,hps,σ,h1,h2⟩
  ·exact .inl (hK _ h)
  ·exact .inr ⟨tms,hps,σ,h1,hK _ h2⟩
 ·rename_i hv;rw[if_neg hv];exact hK _ h
theorem nD {ops:List Oper} {K':St->Prop} (hK:∀ s,K s->K' s):∀ (l:List Oper) (s:St),od P Γ ops l s K->od P Γ ops l s K'
 | [],s,h=>hK s h
 | o::rest,s,h=>by
  unfold od at h ⊢;refine C4 (fun s h=>?_) h;split at h <;> rename_i hg
  ·exact qL (fun e h=>nD hK rest _ h) h
  ·split at h <;> rename_i he
   ·exact⟨fun hc=>qL (fun e h=>nD hK rest _ h) (h.1 hc),fun hc=>nD hK rest _ (h.2 hc)⟩
   ·exact nD hK rest _ h
   ·exact h
theorem fJ:∀ (c:Code) {s:St} {Q Q':AEx->St->Prop},(∀ e s,Q e s->Q' e s)->ij P Γ c s Q->ij P Γ c s Q'
 | .skip,s,Q,Q',hq,h=>hq _ _ h
 | .region _ ops _,s,Q,Q',hq,h=>nD (fun s h=>hq _ s h) _ _ h
 | .seq a b,s,Q,Q',hq,h=>h.elim (fun h=>.inl (fJ a (Q':=Ej (mF Γ.js b fun s'=>ij P Γ b s' Q') Q') (fun e s h=>by
   cases e with
   | normal =>
    have h:mF Γ.js b (fun s'=>ij P Γ b s' Q) s:=h;show mF Γ.js b (fun s'=>ij P Γ b s' Q') s;unfold mF at h ⊢;split at h <;> rename_i hj
    ·rw[if_pos hj];rcases h with h | ⟨tms,hps,σ,h1,h⟩
     ·exact .inl (fJ b hq h)
     ·exact .inr ⟨tms,hps,σ,h1,fJ b hq h⟩
    ·rw[if_neg hj];exact fJ b hq h
   | exit i=>exact hq _ _ h
   | ret=>exact hq _ _ h) h)) fun h=>.inr ⟨h.1,h.2.elim fun s' h=>⟨s',h.1,hq _ _ h.2⟩⟩
 | .cond c a b,s,Q,Q',hq,h=>by
  unfold ij at h ⊢;unfold Ek at h ⊢;split at h
  ·exact⟨fun ht=>fJ a hq (h.1 ht),fun ht=>fJ b hq (h.2 ht)⟩
  ·split at h
   ·rename_i hp; rw[if_pos hp]; exact⟨fun ht=>fJ a hq (h.1 ht),fJ b hq h.2⟩
   ·rename_i hp; rw[if_neg hp]; exact⟨fJ a hq h.1,fun ht=>fJ b hq (h.2 ht)⟩
  ·exact h.elim
 | .block id b,s,Q,Q',hq,h=>fJ b (Q':=Ia id Q') (fun e s h=>by
   cases e with
   | normal=>exact hq _ _ h
   | exit i =>
    have h:(if i=id then Q .normal s else Q (.exit i) s):=h;show (if i=id then Q' .normal s else Q' (.exit i) s);split
    ·rename_i hi; rw[if_pos hi] at h; exact hq _ _ h
    ·rename_i hi; rw[if_neg hi] at h; exact hq _ _ h
   | ret=>exact hq _ _ h) h
 | .loop b,s,Q,Q',hq,h=>by
  obtain⟨α,tms,hps,μ,h0,hr⟩:=h;refine⟨α,tms,hps,μ,h0,fun x=>fJ b (fun e s h=>?_) (hr x)⟩;cases e with
  | normal=>exact h
  | exit i=>exact hq _ _ h
  | ret=>exact hq _ _ h
 | .exit id,s,Q,Q',hq,h=>hq _ _ h
 | .ret,s,Q,Q',hq,h=>hq _ _ h
 | .scope b,s,Q,Q',hq,h=>fJ b hq h
 | .rangeFunc g ps x y,s,Q,Q',hq,h=>h.elim
 | .label _,_,_,_,_,h=>h.elim
 | .goto _,_,_,_,_,h=>h.elim
 | .refuse _,_,_,_,_,h=>h.elim
end
def iterM {α β:Type} (body:α->Option (α⊕β)):Nat->α->Option β
 | 0,_=>none
 | n+1,x=>match body x with
  | some (.inl y)=>iterM body n y
  | some (.inr b)=>some b
  | none=>none
open Classical in
noncomputable def El {α β:Type} (body:α->Option (α⊕β)) (x:α):Option β :=
 if h:∃ n r,iterM body n x=some r then some (Classical.choose (Classical.choose_spec h)) else none
theorem rC {α β:Type} {body:α->Option (α⊕β)}:∀ {n m:Nat} {x:α} {r:β},n<=m->iterM body n x=some r->iterM body m x=some r
 | 0,_,_,_,_,h=>by cases h
 | n+1,0,_,_,hm,_=>by omega
 | n+1,m+1,x,r,hm,h=>by
  unfold iterM at h ⊢;split at h
  ·exact rC (by omega) h
  ·exact h
  ·cases h
theorem iterM_eq {α β:Type} {body:α->Option (α⊕β)} {n m:Nat} {x:α} {r r':β} (h:iterM body n x=some r) (h':iterM body m x=some r'):r=r':=by
 have h1:=rC (Nat.le_max_left n m) h;have h2:=rC (Nat.le_max_right n m) h';rw[h1] at h2;injection h2
theorem vJ {α β:Type} {body:α->Option (α⊕β)} {x:α} {r:β}:El body x=some r↔∃ n,iterM body n x=some r:=by
 unfold El;constructor
 ·intro h;split at h
  ·rename_i hh;injection h with h
   exact⟨_,h ▸ Classical.choose_spec (Classical.choose_spec hh)⟩
  ·cases h
 ·rintro⟨n,h⟩;have hh:∃ n r,iterM body n x=some r:=⟨n,r,h⟩;rw[dif_pos hh];exact congrArg some (iterM_eq (Classical.choose_spec (Classical.choose_spec hh)) h)
def Ig {α:Type} (tms:α->List (Nat×Slot)) (hps:α->List (Nat×df)) (R:α->Prop) (Q:AEx->St->Prop):AEx->St->Prop
 | .normal,s=>∃ y σ,R y/\Sub σ s (tms y) (hps y)
 | e,s=>Q e s
theorem No {P:Program} {Γ:Opt} {s:St} {Q:AEx->St->Prop} {b:Code} {α β:Type} (body:α->Option (α⊕β)) (tms:α->List (Nat×Slot)) (hps:α->List (Nat×df)) (x:α) (e:β) (hx:El body x=some e) (σ:Ren) (h0:Sub σ s (tms x) (hps x))
  (h:∀ x o,body x=some o->(∀ b,o = .inr b->b=e)->ij P Γ b (qH (tms x) (hps x)) (Ig tms hps (fun y=>o = .inl y) Q)):ij P Γ (.loop b) s Q:=by
 obtain⟨n,hn⟩:=vJ.1 hx;refine⟨{p:α×Nat // iterM body p.2 p.1=some e},fun p=>tms p.1.1,fun p=>hps p.1.1,fun p=>p.1.2,⟨⟨(x,n),hn⟩,σ,h0⟩,?_⟩;rintro⟨⟨x,n⟩,hn⟩;dsimp only at hn ⊢;cases n with
 | zero=>cases hn
 | succ n =>
  unfold iterM at hn;cases hb:body x with
  | none=>rw[hb] at hn; cases hn
  | some o =>
   rw[hb] at hn;have:=h x o hb (fun b hb'=>by subst hb'; injection hn);refine fJ b ?_ this;intro e' s' hq;cases e' with
   | normal =>
    obtain⟨y,σ,hy,h1⟩:=(show ∃ y σ,o = .inl y/\Sub σ s' (tms y) (hps y) from hq);subst hy;exact⟨⟨(y,n),hn⟩,σ,h1,Nat.lt_succ_self n⟩
   | exit i=>exact hq
   | ret=>exact hq
theorem KQ {n:Int}:inK .i64 n=(-9223372036854775808<=n/\n<=9223372036854775807):=by
 simp [inK,IntKind.min,IntKind.max,IntKind.signed,IntKind.bits]
end Go.Lad
