import Derived.Test.YtcppfkflcigjcaaGreatDoorFF
import Derived.Test.YtcppfkflcigjcaaGreatDoorFG
set_option linter.unusedVariables false
set_option linter.unusedSimpArgs false
set_option linter.unusedSectionVars false
namespace Go.Lad
theorem NU {α:Type} {p:Prop} [Decidable p] {x y:α}:(bif decide p then x else y)=if p then x else y:=by
 by_cases h:p <;> simp [h]
theorem NV {α:Type} {b:Bool} {x y:α}:(bif !b then x else y)=bif b then y else x:=by cases b <;> rfl
theorem BR {n:Int} (h1 : -9223372036854775808<=n) (h2:n<=9223372036854775807):z64 n=some n:=by
 rw[E1]; exact i64_in h1 h2
theorem ek {n:Nat} (h:n+1<=9223372036854775807):z64 ((n:Int)+1)=some ((n+1:Nat):Int):=by
 rw[E1]; exact J6 h
instance NW:Fuel:=⟨1606938044258990275541962092341162602522202993782792835301376⟩
theorem DH {α β:Type} {body:α->Option (α⊕β)} {b:β} (S:Nat->α):∀ (n k:Nat),(∀ j,k<=j->j<k+n->body (S j)=some (.inl (S (j+1))))->body (S (k+n))=some (.inr b)->iterM body (n+1) (S k)=some b
 | 0,k,_,hd=>by unfold iterM; rw[Nat.add_zero] at hd; rw[hd]
 | n+1,k,h,hd=>by
  unfold iterM;rw[h k (Nat.le_refl k) (by omega)];exact DH S n (k+1) (fun j h1 h2=>h j (by omega) (by omega)) (by rw[show k+1+n=k+(n+1) by omega]; exact hd)
theorem uI {α β:Type} {body:α->Option (α⊕β)} {x:α} {b:β} {n:Nat} (h:iterM body n x=some b) (hn:n<=1606938044258990275541962092341162602522202993782792835301376:=by omega):aw body x=some b:=rL (show n<=NW.n from hn) h
theorem Lc {α β:Type} {body:α->Option (α⊕β)} {b:β} (S:Nat->α) (n:Nat) (h:∀ k,k<n->body (S k)=some (.inl (S (k+1)))) (hd:body (S n)=some (.inr b)) (hn:n<1606938044258990275541962092341162602522202993782792835301376:=by omega):aw body (S 0)=some b :=
 uI (DH S n 0 (fun j _ h2=>h j (by omega)) (by rw[Nat.zero_add]; exact hd)) (by omega)
theorem Ld {α β:Type} {body:α->Option (α⊕β)} {b:β} {x:α} (S:Nat->α) (n:Nat) (h0:x=S 0) (h:∀ k,k<n->body (S k)=some (.inl (S (k+1)))) (hd:body (S n)=some (.inr b)) (hn:n<1606938044258990275541962092341162602522202993782792835301376:=by omega):aw body x=some b:=by
 rw[h0]; exact Lc S n h hd hn
theorem IA {α β:Type} {body:α->Option (α⊕β)} (I:Nat->α->Prop) {Q:β->Prop} (n:Nat) {x:α} (h0:I 0 x) (h:∀ k,k<n->∀ x,I k x->(∃ y,body x=some (.inl y)/\I (k+1) y)\/∃ b,body x=some (.inr b)/\Q b) (hd:∀ x,I n x->∃ b,body x=some (.inr b)/\Q b) (hn:n<1606938044258990275541962092341162602522202993782792835301376:=by omega):∃ b,aw body x=some b/\Q b:=by
 have:∀ m k x,k+m=n->I k x->∃ b,iterM body (m+1) x=some b/\Q b:=by
  intro m;induction m with
  | zero =>
   intro k x hk hx;rw[Nat.add_zero] at hk; subst hk
   obtain⟨b,hb,hq⟩:=hd x hx;exact⟨b,by unfold iterM; rw[hb],hq⟩
  | succ m ih =>
   intro k x hk hx;rcases h k (by omega) x hx with⟨y,hy,hi⟩ | ⟨b,hb,hq⟩
   ·obtain⟨b,hb,hq⟩:=ih (k+1) y (by omega) hi;exact⟨b,by rw[iterM,hy]; exact hb,hq⟩
   ·exact⟨b,by rw[iterM,hb],hq⟩
 obtain⟨b,hb,hq⟩:=this n 0 x (by omega) h0;exact⟨b,uI hb (by omega),hq⟩
theorem DI {α:Type} {n:Int} {x:α}:(ri n x).length=n.toNat:=by unfold ri; simp
theorem Ax {n:Int} (h0:0<=n) (h:n<=4294967296):pN n n=some ():=if_pos ⟨h0,rfl,h⟩
end Go.Lad
namespace Go.Lad
theorem mT {n:Int} (h : -9223372036854775808<=n/\n<=9223372036854775807):z64 n=some n:=BR h.1 h.2
theorem vD {α:Type} {l:List α} {n:Int} {x:α} (h0:0<=n) (h:l[n.toNat]?=some x):idx l n=some x:=by unfold idx; rw[if_pos h0,h]
def FC {α σ β:Type} (f:Nat->σ->α->σ⊕β) (fin:σ->β):Nat->σ->List α->β
 | _,s,[]=>fin s
 | k,s,x::r=>match f k s x with
  | .inl s'=>FC f fin (k+1) s' r
  | .inr b=>b
theorem Le {α σ β τ:Type} {body:τ->Option (τ⊕β)} (mk:Nat->σ->τ) (l:List α) (f:Nat->σ->α->σ⊕β) (fin:σ->β) (I:Nat->σ->Prop)
  (hI:∀ k (hk:k<l.length) s s',I k s->f k s l[k] = .inl s'->I (k+1) s')
  (h:∀ k (hk:k<l.length) s,I k s->body (mk k s)=some (match f k s l[k] with | .inl s'=>.inl (mk (k+1) s') | .inr b=>.inr b))
  (hd:∀ s,I l.length s->body (mk l.length s)=some (.inr (fin s))) (hn:l.length<1606938044258990275541962092341162602522202993782792835301376) {s0:σ} (h0:I 0 s0) :
  aw body (mk 0 s0)=some (FC f fin 0 s0 l):=by
 have:∀ (r:List α) (k:Nat) (s:σ),r=l.drop k->k<=l.length->I k s->iterM body (r.length+1) (mk k s)=some (FC f fin k s r):=by
  intro r;induction r with
  | nil =>
   intro k s hr hk hs;have:k=l.length:=by
    have:=congrArg List.length hr;simp at this; omega
   subst this;unfold iterM FC;rw[hd s hs]
  | cons x r ih =>
   intro k s hr hk hs;have hkl:k<l.length:=by
    have:=congrArg List.length hr;simp at this; omega
   have hx:l[k]=x/\r=l.drop (k+1):=by
    rw[List.drop_eq_getElem_cons hkl] at hr;injection hr with h1 h2
    exact⟨h1.symm,h2⟩
   have hb:=h k hkl s hs;rw[hx.1] at hb;rw[List.length_cons,iterM,hb];unfold FC;cases hf:f k s x with
   | inl s' =>
    dsimp only;exact ih (k+1) s' hx.2 hkl (hI k hkl s s' hs (by rw[hx.1]; exact hf))
   | inr b=>rfl
 exact uI (this l 0 s0 rfl (Nat.zero_le _) h0) hn
def scan {α β:Type} (f:Nat->α->Option β):Nat->List α->Option β
 | _,[]=>none
 | k,x::r=>match f k x with
  | some b=>some b
  | none=>scan f (k+1) r
theorem Ay {α β:Type} (f:Nat->α->Option β) (e:β):∀ (l:List α) (k:Nat),FC (fun k (_:Unit) x=>match f k x with | some b=>.inr b | none=>.inl ()) (fun _=>e) k () l=(scan f k l).getD e
 | [],_=>rfl
 | x::r,k=>by
  unfold FC scan;cases f k x with
  | some b=>rfl
  | none=>exact Ay f e r (k+1)
theorem IB {α β:Type} {body:Int->Option (Int⊕β)} (l:List α) (f:Nat->α->Option β) (e:β)
  (h:∀ k (hk:k<l.length),body (k:Int)=some (match f k l[k] with | some b=>.inr b | none=>.inl ((k+1:Nat):Int)))
  (hd:body (l.length:Int)=some (.inr e)) (hn:l.length<1606938044258990275541962092341162602522202993782792835301376) :
  aw body 0=some ((scan f 0 l).getD e):=by
 rw[← Ay];refine Le (body:=body) (fun k (_:Unit)=>(k:Int)) l _ _ (fun _ _=>True) (fun _ _ _ _ _ _=>trivial) (fun k hk s _=>?_) (fun _ _=>hd) hn trivial;rw[h k hk];cases f k l[k] <;> rfl
theorem DJ {α:Type} [DecidableEq α]:∀ {l m:List α},l.Nodup->(∀ x∈l,x∈m)->l.length<=m.length
 | [],_,_,_=>Nat.zero_le _
 | x::l,m,hn,h=>by
  have hx:=h x List.mem_cons_self;have hn':=List.nodup_cons.1 hn;have:=DJ (m:=m.erase x) hn'.2 fun y hy=>by
   have hne:y≠x:=fun e=>hn'.1 (e ▸ hy);exact (List.mem_erase_of_ne hne).2 (h y (List.mem_cons_of_mem _ hy))
  rw[List.length_erase_of_mem hx] at this;have:=List.length_pos_of_mem hx;rw[List.length_cons];omega
end Go.Lad
