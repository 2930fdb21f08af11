import Derived.Test.YtaocfjifacnokaaGreatDPl
namespace Go.Lad
set_option linter.unusedVariables false
set_option linter.unusedSimpArgs false
theorem Ml {k n:Nat} (h:k < n):((k:Int) < (n:Int)) = True:=eq_true (by omega)
theorem Mm {k:Nat}:((k:Int) < (k:Int)) = False:=eq_false (by omega)
theorem ji {n:Int} (h : -9223372036854775808 ≤ n ∧ n ≤ 9223372036854775807):z64 n = some n:=Le h.1 h.2
theorem vL {k:Nat} (h:0 < k) (h2:k ≤ 9223372036854775807):z64 ((k:Int) - 1) = some ((k - 1:Nat):Int):=by
 rw[ji (by omega)]; congr 1; omega
def pZ {α σ β:Type} (f:Nat → σ → α → σ ⊕ β) (fin:σ → β):Nat → σ → List α → β
 | _,s,[]=>fin s
 | k,s,x :: r=>match f k s x with
  | .inl s'=>pZ f fin (k + 1) s' r
  | .inr b=>b
theorem qX {α σ β τ:Type} {body:τ → Option (τ ⊕ β)} (mk:Nat → σ → τ) (l:List α) (f:Nat → σ → α → σ ⊕ β) (fin:σ → β) (I:Nat → σ → Prop)
  (hI:∀ k (hk:k < l.length) s s',I k s → f k s l[k] = .inl s' → I (k + 1) s')
  (h:∀ k (hk:k < l.length) s,I k s → body (mk k s) = some (match f k s l[k] with | .inl s'=>.inl (mk (k + 1) s') | .inr b=>.inr b))
  (hd:∀ s,I l.length s → body (mk l.length s) = some (.inr (fin s))) (hn:l.length < 1606938044258990275541962092341162602522202993782792835301376) {s0:σ} (h0:I 0 s0) :
  bO body (mk 0 s0) = some (pZ f fin 0 s0 l):=by
 have:∀ (r:List α) (k:Nat) (s:σ),r = l.drop k → k ≤ l.length → I k s → iterM body (r.length + 1) (mk k s) = some (pZ f fin k s r):=by
  intro r
  induction r with
  | nil =>
   intro k s hr hk hs
   have:k = l.length:=by
    have:=congrArg List.length hr
    simp at this; omega
   subst this
   unfold iterM pZ
   rw[hd s hs]
  | cons x r ih =>
   intro k s hr hk hs
   have hkl:k < l.length:=by
    have:=congrArg List.length hr
    simp at this; omega
   have hx:l[k] = x ∧ r = l.drop (k + 1):=by
    rw[List.drop_eq_getElem_cons hkl] at hr
    injection hr with h1 h2
    exact⟨h1.symm,h2⟩
   have hb:=h k hkl s hs
   rw[hx.1] at hb
   rw[List.length_cons,iterM,hb]
   unfold pZ
   cases hf:f k s x with
   | inl s' =>
    dsimp only
    exact ih (k + 1) s' hx.2 hkl (hI k hkl s s' hs (by rw[hx.1]; exact hf))
   | inr b=>rfl
 exact qW (this l 0 s0 rfl (Nat.zero_le _) h0) hn
def scan {α β:Type} (f:Nat → α → Option β):Nat → List α → Option β
 | _,[]=>none
 | k,x :: r=>match f k x with
  | some b=>some b
  | none=>scan f (k + 1) r
theorem xJ {α β:Type} (f:Nat → α → Option β) (e:β):∀ (l:List α) (k:Nat),pZ (fun k (_:Unit) x=>match f k x with | some b=>.inr b | none=>.inl ()) (fun _=>e) k () l = (scan f k l).getD e
 | [],_=>rfl
 | x :: r,k=>by
  unfold pZ scan
  cases f k x with
  | some b=>rfl
  | none=>exact xJ f e r (k + 1)
theorem fM {α β:Type} {body:Int → Option (Int ⊕ β)} (l:List α) (f:Nat → α → Option β) (e:β)
  (h:∀ k (hk:k < l.length),body (k:Int) = some (match f k l[k] with | some b=>.inr b | none=>.inl ((k + 1:Nat):Int)))
  (hd:body (l.length:Int) = some (.inr e)) (hn:l.length < 1606938044258990275541962092341162602522202993782792835301376) :
  bO body 0 = some ((scan f 0 l).getD e):=by
 rw[← xJ]
 refine qX (body:=body) (fun k (_:Unit)=>(k:Int)) l _ _ (fun _ _=>True) (fun _ _ _ _ _ _=>trivial) (fun k hk s _=>?_) (fun _ _=>hd) hn trivial
 rw[h k hk]
 cases f k l[k] <;> rfl
theorem sm {α β:Type} {f:Nat → α → Option β}:∀ {l:List α} {k:Nat},scan f k l = none ↔ ∀ i (hi:i < l.length),f (k + i) l[i] = none
 | [],k=>by simp [scan]
 | x :: r,k=>by
  unfold scan
  cases h:f k x with
  | some b =>
   constructor
   ·intro h; cases h
   ·intro h2
    have:=h2 0 (by simp)
    simp [h] at this
  | none =>
   dsimp only
   rw[sm (l:=r)]
   constructor
   ·intro h2 i hi
    cases i with
    | zero=>simpa using h
    | succ i=>rw[List.getElem_cons_succ,show k + (i + 1) = k + 1 + i by omega]; exact h2 i (by simpa using hi)
   ·intro h2 i hi
    have:=h2 (i + 1) (by simpa using hi)
    rw[List.getElem_cons_succ,show k + (i + 1) = k + 1 + i by omega] at this
    exact this
theorem sn {α β:Type} {f:Nat → α → Option β} {b:β}:∀ {l:List α} {k:Nat},scan f k l = some b ↔ ∃ i,∃ hi:i < l.length,f (k + i) l[i] = some b ∧ ∀ j (hj:j < i),f (k + j) (l[j]'(by omega)) = none
 | [],k=>by simp [scan]
 | x :: r,k=>by
  unfold scan
  cases h:f k x with
  | some c =>
   constructor
   ·intro h2
    injection h2 with h2
    subst h2
    exact⟨0,by simp,by simpa using h,fun j hj=>absurd hj (by omega)⟩
   ·rintro⟨i,hi,h1,h2⟩
    cases i with
    | zero=>simp [h] at h1; rw[h1]
    | succ i =>
     have:=h2 0 (by omega)
     simp [h] at this
  | none =>
   dsimp only
   rw[sn (l:=r)]
   constructor
   ·rintro⟨i,hi,h1,h2⟩
    refine⟨i + 1,by simpa using hi,by rw[List.getElem_cons_succ,show k + (i + 1) = k + 1 + i by omega]; exact h1,fun j hj=>?_⟩
    cases j with
    | zero=>simpa using h
    | succ j=>rw[List.getElem_cons_succ,show k + (j + 1) = k + 1 + j by omega]; exact h2 j (by omega)
   ·rintro⟨i,hi,h1,h2⟩
    cases i with
    | zero=>simp [h] at h1
    | succ i =>
     refine⟨i,by simpa using hi,?_,fun j hj=>?_⟩
     ·rw[List.getElem_cons_succ,show k + (i + 1) = k + 1 + i by omega] at h1; exact h1
     ·have:=h2 (j + 1) (by omega)
      rw[List.getElem_cons_succ,show k + (j + 1) = k + 1 + j by omega] at this; exact this
theorem E7 {α β:Type} {body:Int → Option (Int ⊕ β)} (l:List α) (f:Nat → α → Option β) (e:β)
  (h:∀ k (hk:k < l.length),body (k:Int) = some (match f k l[k] with | some b=>.inr b | none=>.inl ((k:Int) - 1)))
  (hd:body (-1) = some (.inr e)) (hn:l.length < 1606938044258990275541962092341162602522202993782792835301376) :
  bO body ((l.length:Int) - 1) = some ((scan (fun k x=>f (l.length - 1 - k) x) 0 l.reverse).getD e):=by
 have key:∀ (n:Nat) (hn:n ≤ l.length),iterM body (n + 1) ((n:Int) - 1) = some ((scan (fun k x=>f (l.length - 1 - k) x) (l.length - n) (l.take n).reverse).getD e):=by
  intro n
  induction n with
  | zero =>
   intro _
   rw[List.take_zero,List.reverse_nil]
   unfold iterM scan
   rw[show (((0:Nat):Int) - 1) = -1 by omega,hd]; rfl
  | succ n ih =>
   intro hn'
   have hb:=h n (by omega)
   rw[E6 l n (by omega),List.reverse_append,List.reverse_singleton,List.singleton_append]
   unfold scan
   rw[iterM,show (((n + 1:Nat):Int) - 1) = (n:Int) by omega,hb,show l.length - 1 - (l.length - (n + 1)) = n by omega]
   cases f n l[n] with
   | some b=>rfl
   | none =>
    dsimp only
    rw[ih (by omega),show l.length - (n + 1) + 1 = l.length - n by omega]
 have:=key l.length (Nat.le_refl _)
 rw[Nat.sub_self,List.take_length] at this
 exact qW this (by omega)
def nI {α:Type} (p:α → Bool) (l:List α):Option α:=l.reverse.find? p
theorem A4 {α:Type} (p:α → Bool) (l:List α) (x:α):nI p (l ++ [x]) = if p x = true then some x else nI p l:=by
 unfold nI
 rw[List.reverse_append,List.reverse_singleton,List.singleton_append,List.find?_cons]
 cases p x <;> simp
theorem E8 {α:Type} {p:α → Bool}:∀ {l:List α} {k:Nat} (hk:k < l.length),p l[k] = true → (∀ j (hj:j < l.length),k < j → p l[j] = false) → nI p l = some l[k]:=by
 intro l
 refine y7 (p:=fun l=>∀ {k:Nat} (hk:k < l.length),p l[k] = true → (∀ j (hj:j < l.length),k < j → p l[j] = false) → nI p l = some l[k]) (fun {k} hk=>absurd hk (by simp)) (fun l x ih {k} hk h1 h2=>?_) l
 rw[A4]
 by_cases hkl:k = l.length
 ·subst hkl
  have e:(l ++ [x])[l.length] = x:=by simp
  rw[e] at h1 ⊢
  rw[if_pos h1]
 ·have hk':k < l.length:=by simp at hk; omega
  have hx:p x = false:=by
   have:=h2 l.length (by simp) (by omega)
   simpa using this
  rw[if_neg (by rw[hx]; simp)]
  have e:(l ++ [x])[k] = l[k]:=List.getElem_append_left hk'
  rw[e] at h1 ⊢
  exact ih hk' h1 fun j hj hkj=>by
   have:=h2 j (by simp; omega) hkj
   rwa [List.getElem_append_left hj] at this
theorem A5 {α:Type} {p:α → Bool} {l:List α} {x:α} (h:nI p l = some x):x ∈ l ∧ p x = true:=by
 unfold nI at h
 exact⟨by simpa using List.mem_of_find?_eq_some h,List.find?_some h⟩
end Go.Lad
