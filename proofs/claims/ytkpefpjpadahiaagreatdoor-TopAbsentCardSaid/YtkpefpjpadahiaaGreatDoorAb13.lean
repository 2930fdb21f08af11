import Derived.Test.YtkpefpjpadahiaaGreatDoorAb12
namespace Go.Lad
set_option linter.unusedVariables false
set_option linter.unusedSimpArgs false
open Go.RowKit
def vF (Γ:Opt) (ops:List Oper):Bool :=
 (Region.noSelect ops.toArray && ops.all fun o=>!inL Γ.vs o.dst) && (List.range ops.length).all fun k=>match ops[k]? with
  | some o=>o.after.all (fun e=>!Region.binds .any e || decide (e.on<k)) && (List.range ops.length).all fun j=>decide (j<=k) || match ops[j]? with
   | some oj=>(o.apart ops.toArray oj && yV Γ o oj) || waits ops.toArray ops.length j k
   | none=>true
  | none=>true
section
variable {P:Program} {Γ:Opt} {ops:List Oper} {s:St} {w0:World} {χ0:Col} {T0:Ctx} {n:Nat} {K:St->Prop} {Q:Exit->Act->World->Prop}
def upto (m k:Nat):Array Bool:=(List.replicate k true++List.replicate (m-k) false).toArray
theorem nC {m k j:Nat} (hk:k<=m) (d:Bool):(upto m k).getD j d=if j<k then true else if j<m then false else d:=by
 unfold upto;simp only[Array.getD_eq_getD_getElem?,List.getElem?_toArray,List.getElem?_append,List.length_replicate,List.getElem?_replicate];split
 ·rfl
 ·split
  ·rw[if_pos (by omega)]; rfl
  ·rw[if_neg (by omega)]; rfl
theorem H7 {m k:Nat} (hk:k<m):(upto m k).setIfInBounds k true=upto m (k+1):=by
 apply Array.ext_getElem?;intro j;unfold upto;rw[Array.getElem?_setIfInBounds];simp only[List.getElem?_toArray,List.getElem?_append,List.length_replicate,List.getElem?_replicate,List.size_toArray,List.length_append];by_cases h:k=j
 ·subst h; simp; omega
 ·rw[if_neg h];by_cases h1:j<k
  ·simp [h1,show j<k+1 by omega]
  ·by_cases h2:j-k<m-k
   ·simp [h1,h2,show ¬ j<k+1 by omega,show j-(k+1)<m-(k+1) by omega]
   ·simp [h1,h2,show ¬ j<k+1 by omega,show ¬ j-(k+1)<m-(k+1) by omega]
theorem vG (hdn:∀ o∈ops,∀ k,o.dst=some k->k<n) (hb:∀ o∈ops,∀ k:Nat,o.dst=some k->k<10000) (hok:vF Γ ops=true) :
  ∀ (l:List Oper) (k:Nat) (s:St),l=ops.drop k->k<=ops.length->xQ w0 χ0 T0 n s->HT P Γ ops l s K->H6 P Γ ops K l.length (upto ops.length k) s
 | [],k,s,hl,hk,hlv,h=>by
  have hlen:k=ops.length:=by
   have:=congrArg List.length hl;simp at this; omega
  refine⟨?_,h⟩;rw[List.eq_nil_iff_forall_not_mem];intro j hj;obtain⟨h1,o,ho,_⟩:=mem_ready.1 hj;have hjl:j<ops.length:=by
   have:=(Array.getElem?_eq_some_iff.1 ho).1
   simpa using this
  rw[nC hk,if_pos (by omega)] at h1;cases h1
 | o::rest,k,s,hl,hk,hlv,h=>by
  have hklt:k<ops.length:=by
   have:=congrArg List.length hl;simp at this; omega
  have ho:ops[k]?=some o:=by
   have:=congrArg (fun l=>l[0]?) hl
   simpa using this.symm
  have hrest:rest=ops.drop (k+1):=by
   have:=congrArg List.tail hl
   simpa using this
  unfold vF at hok;rw[Bool.and_eq_true] at hok;have hokk:=List.all_eq_true.1 hok.2 k (List.mem_range.2 hklt);simp only[ho,Bool.and_eq_true] at hokk;obtain⟨hdeps,hfree⟩:=hokk;obtain⟨s',e,hrev,he,hc,hK⟩:=h;have hs':s'=s:=by
   rcases hrev with h | ⟨h,_⟩
   ·exact h
   ·have:=List.all_eq_true.1 (Bool.and_eq_true _ _ ▸ hok.1).2 o (List.mem_of_getElem? ho);rw[h] at this; cases this
  rw[hs'] at he hK;have hdep:∀ e∈o.after,Region.binds .any e=true->e.on<k:=fun e he hbd=>by
   have:=Array.all_eq_true_iff_forall_mem.1 hdeps e he
   simpa [hbd] using this
  refine C1 (f0:=ops.length) hdn hb ho rest.length _ s e hlv ?_ (fun j oj hoj hji hun=>?_) ?_ he hc ?_
  ·intro j oj hoj hj e' he' hbd';have hjl:j<ops.length:=by
    have:=(Array.getElem?_eq_some_iff.1 hoj).1
    simpa using this
   have hjk:j<k:=by
    rw[nC hk] at hj;by_cases h:j<k
    ·exact h
    ·rw[if_neg h,if_pos hjl] at hj; cases hj
   have hokj:=List.all_eq_true.1 hok.2 j (List.mem_range.2 hjl);have hoj':ops[j]?=some oj:=by simpa using hoj
   simp only[hoj',Bool.and_eq_true] at hokj;have:=Array.all_eq_true_iff_forall_mem.1 hokj.1 e' he';simp [hbd'] at this;rw[nC hk,if_pos (by omega)]
  ·have hjl:=(List.getElem?_eq_some_iff.1 hoj).1;have hjk:k<j:=by
    rw[nC hk] at hun;by_cases h:j<k
    ·rw[if_pos h] at hun; cases hun
    ·omega
   have:=List.all_eq_true.1 hfree j (List.mem_range.2 hjl);simp only[hoj,Bool.or_eq_true,Bool.and_eq_true,decide_eq_true_eq] at this;rcases this with h | h | h
   ·omega
   ·exact .inr h
   ·exact .inl h
  ·refine mem_ready.2 ⟨?_,o,by simpa using ho,fun e' he' hbd=>?_⟩
   ·rw[nC hk,if_neg (by omega),if_pos hklt]
   ·rw[nC hk,if_pos (hdep e' he' hbd)]
  ·rw[H7 hklt];exact vG hdn hb (by unfold vF; rw[Bool.and_eq_true]; exact hok) rest (k+1) _ hrest (by omega) (xR hdn (List.mem_of_getElem? ho) hlv he hc) hK
theorem rA (hdn:∀ o∈ops,∀ k,o.dst=some k->k<n) (hQ:∀ s a w,K s->bG w0 χ0 T0 n s a w->Q .normal a w) :
  ∀ (fuel:Nat) (listed:Array Bool) (s:St) (a:Act) (w:World),bG w0 χ0 T0 n s a w->H6 P Γ ops K fuel listed s->wpAny P .any ops.toArray Q fuel listed a w
 | 0,listed,s,a,w,ha,h=>⟨h.1,hQ s a w h.2 ha⟩
 | fuel+1,listed,s,a,w,ha,h=>by
  refine⟨fun h0=>hQ s a w (h.1 h0) ha,fun i hi=>?_⟩;obtain⟨o,e,ho,he,hc,hK⟩:=h.2 i hi;unfold wpOp;have ho':ops.toArray[i]?=some o:=by simpa using ho
  simp only[ho'];exact vo hdn (List.mem_of_getElem? ho) ha he hc fun a' w' ha'=>rA hdn hQ fuel _ _ a' w' ha' hK
theorem bG.drew {a:Act} {w:World} (h:bG w0 χ0 T0 n s a w):bG w0 χ0 T0 n s a w.drew:=by
 obtain⟨h1,G,r⟩:=h;exact⟨h1,G,r.drew⟩
theorem F3 {id:Nat} {draw:Bool} {a:Act} {w:World} (hχ:∀ b,χ0 b<=1) (hm:P.follows .mixedOrders=true) (hdn:∀ o∈ops,∀ k,o.dst=some k->k<n) (hb:∀ o∈ops,∀ k:Nat,o.dst=some k->k<10000)
  (hQ:∀ s a w,K s->bG w0 χ0 T0 n s a w->Q .normal a w) (ha:bG w0 χ0 T0 n s a w) (hok:draw=true->vF Γ ops=true) (h:od P Γ ops ops s K):(Code.region id ops.toArray draw).wp P Q a w:=by
 have hl:=mE _ _ h;cases draw with
 | false=>exact wp_region_list (by simpa using HV hχ hdn hQ ops s a w (fun _ h=>h) ha hl)
 | true =>
  refine wp_region_any hm ?_;have hany:=vG hdn hb (hok rfl) ops 0 s (by simp) (by omega) ⟨a,w,ha⟩ hl;have:upto ops.length 0=Array.replicate ops.toArray.size false:=by
   apply Array.ext';simp [upto]
  rw[this] at hany;exact rA hdn hQ _ _ s a _ ha.drew (by simpa using hany)
end
end Go.Lad
