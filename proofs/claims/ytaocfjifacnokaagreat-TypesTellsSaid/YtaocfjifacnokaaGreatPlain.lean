import Derived.Test.YtaocfjifacnokaaGreatAb17
namespace Go.Lad
set_option linter.unusedVariables false
set_option linter.unusedSimpArgs false
theorem Jr {α β:Type} {body:α → Option (α ⊕ β)} {b:β} (S:Nat → α) (n:Nat) (h:∀ k,k < n → body (S k) = some (.inl (S (k + 1)))) (hd:body (S n) = some (.inr b)):kx body (S 0) = some b:=by
 have:∀ m k,k + m = n → kx body (S k) = some b:=by
  intro m
  induction m with
  | zero=>intro k hk; rw[Nat.add_zero] at hk; subst hk; exact uW hd
  | succ m ih=>intro k hk; rw[uV (h k (by omega))]; exact ih (k + 1) (by omega)
 exact this n 0 (by omega)
theorem MA {α β:Type} {body:α → Option (α ⊕ β)} {b:β} {x:α} (S:Nat → α) (n:Nat) (h0:x = S 0) (h:∀ k,k < n → body (S k) = some (.inl (S (k + 1)))) (hd:body (S n) = some (.inr b)):kx body x = some b:=by
 rw[h0]; exact Jr S n h hd
theorem aa {α β:Type} (a:α) (f:α → Option β):Option.bind (some a) f = f a:=Eq.trans rfl rfl
theorem cR {α:Type} {l:List α} {k:Nat} (h:k < l.length):idx l (k:Int) = some l[k]:=by
 unfold idx
 rw[if_pos (by omega),Int.toNat_natCast,List.getElem?_eq_getElem h]
theorem Mh {α β:Type} {body:α → Option (α ⊕ β)} (I:Nat → α → Prop) {Q:β → Prop} (n:Nat) {x:α} (h0:I 0 x) (h:∀ k,k < n → ∀ x,I k x → ∃ y,body x = some (.inl y) ∧ I (k + 1) y) (hd:∀ x,I n x → ∃ b,body x = some (.inr b) ∧ Q b):∃ b,kx body x = some b ∧ Q b:=by
 have:∀ m k x,k + m = n → I k x → ∃ b,kx body x = some b ∧ Q b:=by
  intro m
  induction m with
  | zero=>intro k x hk hx; rw[Nat.add_zero] at hk; subst hk; obtain⟨b,hb,hq⟩:=hd x hx; exact⟨b,uW hb,hq⟩
  | succ m ih=>intro k x hk hx; obtain⟨y,hy,hi⟩:=h k (by omega) x hx; rw[uV hy]; exact ih (k + 1) y (by omega) hi
 exact this n 0 x (by omega) h0
theorem MB {α:Type} {l:List α} {n:Int} (h0:0 ≤ n) (h:n.toNat < l.length):idx l n = some l[n.toNat]:=by
 unfold idx
 rw[if_pos h0,List.getElem?_eq_getElem h]
theorem i64_in {n:Int} (h1 : -9223372036854775808 ≤ n) (h2:n ≤ 9223372036854775807):i64? n = some n:=if_pos ⟨h1,h2⟩
theorem MC {n:Nat} (h:n ≤ 9223372036854775807):i64? (n:Int) = some (n:Int):=i64_in (by omega) (by omega)
theorem Hs {n:Nat} (h:n + 1 ≤ 9223372036854775807):i64? ((n:Int) + 1) = some ((n + 1:Nat):Int):=by
 rw[i64_in (by omega) (by omega)]; rfl
theorem Js {a b:Nat} (h:a + b ≤ 9223372036854775807):i64? ((a:Int) + (b:Int)) = some ((a + b:Nat):Int):=by
 rw[i64_in (by omega) (by omega)]; rfl
theorem MD {p:Prop} [Decidable p] (h:p):wK p = some ():=if_pos h
theorem gi {α:Type} {l m:List α} (h:l.length + m.length ≤ 2147483647):app? l m = some (l ++ m):=if_pos h
theorem Ld {α:Type} {l:List α} {i j:Int} (h1:0 ≤ i) (h2:i ≤ j) (h3:j ≤ l.length):cut l i j = some ((l.take j.toNat).drop i.toNat):=if_pos ⟨h1,h2,h3⟩
theorem E6 {α:Type} (l:List α) (k:Nat) (h:k < l.length):l.take (k + 1) = l.take k ++ [l[k]]:=List.take_succ_eq_append_getElem h
theorem Mi {α:Type} (l:List α) (k:Nat) (h:l.length ≤ k):l.take k = l:=List.take_of_length_le h
theorem Jt {α:Type} [DecidableEq α] {l:List α} {x:α} {m:Nat} (h:pos l x = some m):∃ hm:m < l.length,l[m] = x ∧ ∀ k (hk:k < m),l[k]'(by omega) ≠ x:=by
 obtain⟨h1,h2⟩:=iA h
 obtain⟨h3,h4⟩:=List.getElem?_eq_some_iff.1 h1
 refine⟨h3,h4,fun k hk he=>h2 k hk ?_⟩
 rw[List.getElem?_eq_getElem (by omega),he]
theorem Ht {α:Type} [DecidableEq α] {l:List α} {x:α} (h:pos l x = none):∀ k (hk:k < l.length),l[k] ≠ x:=fun k hk he=>nV.1 h (by rw[← he]; exact List.getElem_mem hk)
theorem Lv {α:Type} [DecidableEq α] {l:List α} {x:α} {m:Nat} (hm:m < l.length) (h1:l[m] = x) (h2:∀ k (hk:k < m),l[k]'(by omega) ≠ x):pos l x = some m:=by
 cases hp:pos l x with
 | none=>exact absurd h1 (Ht hp m hm)
 | some i =>
  obtain⟨h3,h4,h5⟩:=Jt hp
  rcases Nat.lt_trichotomy i m with h | h | h
  ·exact absurd h4 (h2 i h)
  ·rw[h]
  ·exact absurd h1 (h5 m h)
theorem y7 {α:Type} {p:List α → Prop} (h0:p []) (h1:∀ l x,p l → p (l ++ [x])) (l:List α):p l:=by
 rw[← List.reverse_reverse l]
 generalize l.reverse = r
 induction r with
 | nil=>exact h0
 | cons x r ih=>rw[List.reverse_cons]; exact h1 _ _ ih
theorem Hu {α β:Type} [DecidableEq α] (m:List (α × β)) (x:α) (y:β):(fE m x y).map (·.1) = if x ∈ m.map (·.1) then m.map (·.1) else m.map (·.1) ++ [x]:=by
 unfold fE
 cases h:pos (m.map (·.1)) x with
 | none =>
  rw[if_neg (nV.1 h)]
  simp
 | some i =>
  have hx:=(iA h).1
  have hm:x ∈ m.map (·.1):=List.mem_of_getElem? hx
  rw[if_pos hm]
  simp only[List.map_set]
  apply List.ext_getElem?
  intro j
  rw[List.getElem?_set]
  split
  ·rename_i hij
   subst hij
   rw[hx]
   simp [lp h]
   have:=lp h
   simpa using this
  ·rfl
theorem A1 {α β:Type} [DecidableEq α] (m:List (α × β)) (x x':α) (y:β):cD (fE m x y) x' = if x' = x then some y else cD m x':=by
 have hk:=Hu m x y
 unfold cD
 rw[hk]
 cases h:pos (m.map (·.1)) x with
 | none =>
  have hn:=nV.1 h
  rw[if_neg hn,tT]
  have hp:fE m x y = m ++ [(x,y)]:=by unfold fE; rw[h]
  rw[hp]
  by_cases hx:x' = x
  ·subst hx
   rw[h]
   simp [pos]
  ·rw[if_neg hx]
   cases h':pos (m.map (·.1)) x' with
   | none =>
    have:pos [x] x' = none:=nV.2 (by simp [hx])
    simp [this]
   | some i =>
    have hl:=lp h'
    rw[List.length_map] at hl
    simp [List.getElem?_append_left hl]
 | some i =>
  have hx:=(iA h).1
  have hm:x ∈ m.map (·.1):=List.mem_of_getElem? hx
  rw[if_pos hm]
  have hp:fE m x y = m.set i (x,y):=by unfold fE; rw[h]
  rw[hp]
  have hl:=lp h
  rw[List.length_map] at hl
  by_cases hxx:x' = x
  ·subst hxx
   rw[h]
   simp [hl]
  ·rw[if_neg hxx]
   cases h':pos (m.map (·.1)) x' with
   | none=>rfl
   | some j =>
    have hj:=(iA h').1
    have hij:i ≠ j:=fun e=>by
     subst e
     rw[hx] at hj
     exact hxx (by simpa using hj.symm)
    simp [List.getElem?_set,hij]
theorem Mj {p:Nat → Prop} [DecidablePred p] (n:Nat):(∃ m,m < n ∧ p m ∧ ∀ k,k < m → ¬ p k) ∨ (∀ k,k < n → ¬ p k):=by
 induction n with
 | zero=>exact .inr fun k hk=>by omega
 | succ n ih =>
  rcases ih with⟨m,h1,h2⟩ | h
  ·exact .inl ⟨m,by omega,h2⟩
  ·by_cases hp:p n
   ·exact .inl ⟨n,by omega,hp,h⟩
   ·refine .inr fun k hk=>?_
    rcases Nat.lt_or_ge k n with h1 | h1
    ·exact h k h1
    ·rw[show k = n by omega]; exact hp
end Go.Lad
