import Derived.Test.YtkpefpjpadahiaaGreatDoorDPl
namespace Go.Lad
set_option linter.unusedVariables false
set_option linter.unusedSimpArgs false
theorem Jd {n:Int} (h : -9223372036854775808<=n/\n<=9223372036854775807):z64 n=some n:=DD h.1 h.2
theorem N7 {α:Type} {l:List α} {n:Int} {x:α} (h0:0<=n) (h:l[n.toNat]?=some x):idx l n=some x:=by unfold idx; rw[if_pos h0,h]
def DF {α σ β:Type} (f:Nat->σ->α->σ⊕β) (fin:σ->β):Nat->σ->List α->β
 | _,s,[]=>fin s
 | k,s,x::r=>match f k s x with
  | .inl s'=>DF f fin (k+1) s' r
  | .inr b=>b
theorem Je {α σ β τ:Type} {body:τ->Option (τ⊕β)} (mk:Nat->σ->τ) (l:List α) (f:Nat->σ->α->σ⊕β) (fin:σ->β) (I:Nat->σ->Prop)
  (hI:∀ k (hk:k<l.length) s s',I k s->f k s l[k] = .inl s'->I (k+1) s')
  (h:∀ k (hk:k<l.length) s,I k s->body (mk k s)=some (match f k s l[k] with | .inl s'=>.inl (mk (k+1) s') | .inr b=>.inr b))
  (hd:∀ s,I l.length s->body (mk l.length s)=some (.inr (fin s))) (hn:l.length<1606938044258990275541962092341162602522202993782792835301376) {s0:σ} (h0:I 0 s0) :
  bS body (mk 0 s0)=some (DF f fin 0 s0 l):=by
 have:∀ (r:List α) (k:Nat) (s:σ),r=l.drop k->k<=l.length->I k s->iterM body (r.length+1) (mk k s)=some (DF f fin k s r):=by
  intro r;induction r with
  | nil =>
   intro k s hr hk hs;have:k=l.length:=by
    have:=congrArg List.length hr;simp at this; omega
   subst this;unfold iterM DF;rw[hd s hs]
  | cons x r ih =>
   intro k s hr hk hs;have hkl:k<l.length:=by
    have:=congrArg List.length hr;simp at this; omega
   have hx:l[k]=x/\r=l.drop (k+1):=by
    rw[List.drop_eq_getElem_cons hkl] at hr;injection hr with h1 h2
    exact⟨h1.symm,h2⟩
   have hb:=h k hkl s hs;rw[hx.1] at hb;rw[List.length_cons,iterM,hb];unfold DF;cases hf:f k s x with
   | inl s' =>
    dsimp only;exact ih (k+1) s' hx.2 hkl (hI k hkl s s' hs (by rw[hx.1]; exact hf))
   | inr b=>rfl
 exact rX (this l 0 s0 rfl (Nat.zero_le _) h0) hn
def scan {α β:Type} (f:Nat->α->Option β):Nat->List α->Option β
 | _,[]=>none
 | k,x::r=>match f k x with
  | some b=>some b
  | none=>scan f (k+1) r
theorem ym {α β:Type} (f:Nat->α->Option β) (e:β):∀ (l:List α) (k:Nat),DF (fun k (_:Unit) x=>match f k x with | some b=>.inr b | none=>.inl ()) (fun _=>e) k () l=(scan f k l).getD e
 | [],_=>rfl
 | x::r,k=>by
  unfold DF scan;cases f k x with
  | some b=>rfl
  | none=>exact ym f e r (k+1)
theorem Gx {α β:Type} {body:Int->Option (Int⊕β)} (l:List α) (f:Nat->α->Option β) (e:β)
  (h:∀ k (hk:k<l.length),body (k:Int)=some (match f k l[k] with | some b=>.inr b | none=>.inl ((k+1:Nat):Int)))
  (hd:body (l.length:Int)=some (.inr e)) (hn:l.length<1606938044258990275541962092341162602522202993782792835301376) :
  bS body 0=some ((scan f 0 l).getD e):=by
 rw[← ym];refine Je (body:=body) (fun k (_:Unit)=>(k:Int)) l _ _ (fun _ _=>True) (fun _ _ _ _ _ _=>trivial) (fun k hk s _=>?_) (fun _ _=>hd) hn trivial;rw[h k hk];cases f k l[k] <;> rfl
theorem BJ {α β:Type} (p:α->Bool) (b:β):∀ (l:List α) (k:Nat),scan (fun _ x=>if p x=true then some b else none) k l=if l.any p=true then some b else none
 | [],_=>rfl
 | x::r,k=>by
  unfold scan;rw[List.any_cons];cases h:p x with
  | true=>simp
  | false=>simp [BJ p b r (k+1)]
end Go.Lad
