import Derived.Test.YtkpefpjpadahiaaGreatDoorPlain
import Derived.Test.YtkpefpjpadahiaaGreatDoorD1
namespace Go.Lad
set_option linter.unusedVariables false
set_option linter.unusedSimpArgs false
theorem pY {α:Type} {a b:Int} {x y:α}:(bif ltZ a b then x else y)=if a<b then x else y:=by
 rw[dP]; by_cases h:a<b <;> simp [h]
theorem PA {α:Type} {a b:Int} {x y:α}:(bif leZ a b then x else y)=if a<=b then x else y:=by
 rw[iv]; by_cases h:a<=b <;> simp [h]
theorem LD {α:Type} {a b:Int} {x y:α}:(bif eqZ a b then x else y)=if a=b then x else y:=by
 rw[fE]; by_cases h:a=b <;> simp [h]
theorem zy {α:Type} {p:Prop} [Decidable p] {x y:α}:(bif decide p then x else y)=if p then x else y:=by
 by_cases h:p <;> simp [h]
theorem E1 {α:Type} {b:Bool} {x y:α}:(bif !b then x else y)=bif b then y else x:=by cases b <;> rfl
theorem DD {n:Int} (h1 : -9223372036854775808<=n) (h2:n<=9223372036854775807):z64 n=some n:=by
 rw[zb]; exact i64_in h1 h2
theorem mO {n:Nat} (h:n+1<=9223372036854775807):z64 ((n:Int)+1)=some ((n+1:Nat):Int):=by
 rw[zb]; exact I8 h
theorem PB {a b:Nat} (h:a+b<=9223372036854775807):z64 ((a:Int)+(b:Int))=some ((a+b:Nat):Int):=by
 rw[zb]; exact LA h
theorem DE {α ρ:Type} [DecidableEq ρ] {l:List α} {A B:Option ρ} {r:ρ} (hb:B=some r) (ha:l=[]->A=some r):po l A B=some r:=by
 unfold po;split
 ·rw[if_pos (by rw[ha rfl,hb]),hb]
 ·exact hb
instance jH:Fuel:=⟨1606938044258990275541962092341162602522202993782792835301376⟩
theorem BI {α β:Type} {body:α->Option (α⊕β)} {b:β} (S:Nat->α):∀ (n k:Nat),(∀ j,k<=j->j<k+n->body (S j)=some (.inl (S (j+1))))->body (S (k+n))=some (.inr b)->iterM body (n+1) (S k)=some b
 | 0,k,_,hd=>by unfold iterM; rw[Nat.add_zero] at hd; rw[hd]
 | n+1,k,h,hd=>by
  unfold iterM;rw[h k (Nat.le_refl k) (by omega)];exact BI S n (k+1) (fun j h1 h2=>h j (by omega) (by omega)) (by rw[show k+1+n=k+(n+1) by omega]; exact hd)
theorem rX {α β:Type} {body:α->Option (α⊕β)} {x:α} {b:β} {n:Nat} (h:iterM body n x=some b) (hn:n<=1606938044258990275541962092341162602522202993782792835301376:=by omega):bS body x=some b:=rC (show n<=jH.n from hn) h
theorem Jb {α β:Type} {body:α->Option (α⊕β)} {b:β} (S:Nat->α) (n:Nat) (h:∀ k,k<n->body (S k)=some (.inl (S (k+1)))) (hd:body (S n)=some (.inr b)) (hn:n<1606938044258990275541962092341162602522202993782792835301376:=by omega):bS body (S 0)=some b :=
 rX (BI S n 0 (fun j _ h2=>h j (by omega)) (by rw[Nat.zero_add]; exact hd)) (by omega)
theorem Jc {α β:Type} {body:α->Option (α⊕β)} {b:β} {x:α} (S:Nat->α) (n:Nat) (h0:x=S 0) (h:∀ k,k<n->body (S k)=some (.inl (S (k+1)))) (hd:body (S n)=some (.inr b)) (hn:n<1606938044258990275541962092341162602522202993782792835301376:=by omega):bS body x=some b:=by
 rw[h0]; exact Jb S n h hd hn
theorem pZ {α β:Type} {body:α->Option (α⊕β)} (I:Nat->α->Prop) {Q:β->Prop} (n:Nat) {x:α} (h0:I 0 x) (h:∀ k,k<n->∀ x,I k x->(∃ y,body x=some (.inl y)/\I (k+1) y)\/∃ b,body x=some (.inr b)/\Q b) (hd:∀ x,I n x->∃ b,body x=some (.inr b)/\Q b) (hn:n<1606938044258990275541962092341162602522202993782792835301376:=by omega):∃ b,bS body x=some b/\Q b:=by
 have:∀ m k x,k+m=n->I k x->∃ b,iterM body (m+1) x=some b/\Q b:=by
  intro m;induction m with
  | zero =>
   intro k x hk hx;rw[Nat.add_zero] at hk; subst hk
   obtain⟨b,hb,hq⟩:=hd x hx;exact⟨b,by unfold iterM; rw[hb],hq⟩
  | succ m ih =>
   intro k x hk hx;rcases h k (by omega) x hx with⟨y,hy,hi⟩ | ⟨b,hb,hq⟩
   ·obtain⟨b,hb,hq⟩:=ih (k+1) y (by omega) hi;exact⟨b,by rw[iterM,hy]; exact hb,hq⟩
   ·exact⟨b,by rw[iterM,hb],hq⟩
 obtain⟨b,hb,hq⟩:=this n 0 x (by omega) h0;exact⟨b,rX hb (by omega),hq⟩
theorem O4 {α:Type} {n:Int} {x:α}:(OU n x).length=n.toNat:=by unfold OU; simp
theorem PQ {l:List Int}:(AU l).length=l.length:=by unfold AU; simp
theorem Ox {n:Int} (h0:0<=n) (h:n<=4294967296):NH n n=some ():=if_pos ⟨h0,rfl,h⟩
end Go.Lad
