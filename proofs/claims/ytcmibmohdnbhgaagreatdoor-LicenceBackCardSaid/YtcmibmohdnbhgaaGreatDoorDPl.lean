import Derived.Test.YtcmibmohdnbhgaaGreatDoorPlain
import Derived.Test.YtcmibmohdnbhgaaGreatDoorD1
namespace Go.Lad
set_option linter.unusedVariables false
set_option linter.unusedSimpArgs false
theorem bif_ltZ {α:Type} {a b:Int} {x y:α}:(bif ltZ a b then x else y) = if a < b then x else y:=by
 rw[ltZ_eq]; by_cases h:a < b <;> simp [h]
theorem bif_leZ {α:Type} {a b:Int} {x y:α}:(bif leZ a b then x else y) = if a ≤ b then x else y:=by
 rw[leZ_eq]; by_cases h:a ≤ b <;> simp [h]
theorem bif_eqZ {α:Type} {a b:Int} {x y:α}:(bif eqZ a b then x else y) = if a = b then x else y:=by
 rw[eqZ_eq]; by_cases h:a = b <;> simp [h]
theorem bif_dec {α:Type} {p:Prop} [Decidable p] {x y:α}:(bif decide p then x else y) = if p then x else y:=by
 by_cases h:p <;> simp [h]
theorem bif_not {α:Type} {b:Bool} {x y:α}:(bif !b then x else y) = bif b then y else x:=by cases b <;> rfl
theorem z64_in {n:Int} (h1 : -9223372036854775808 ≤ n) (h2:n ≤ 9223372036854775807):z64 n = some n:=by
 rw[z64_eq]; exact i64_in h1 h2
theorem z64_succ {n:Nat} (h:n + 1 ≤ 9223372036854775807):z64 ((n:Int) + 1) = some ((n + 1:Nat):Int):=by
 rw[z64_eq]; exact i64_succ h
theorem z64_add {a b:Nat} (h:a + b ≤ 9223372036854775807):z64 ((a:Int) + (b:Int)) = some ((a + b:Nat):Int):=by
 rw[z64_eq]; exact i64_add h
theorem bothN_same {α ρ:Type} [DecidableEq ρ] {l:List α} {A B:Option ρ} {r:ρ} (hb:B = some r) (ha:l = [] → A = some r):bothN l A B = some r:=by
 unfold bothN
 split
 ·rw[if_pos (by rw[ha rfl,hb]),hb]
 ·exact hb
instance bigFuel:Fuel:=⟨1606938044258990275541962092341162602522202993782792835301376⟩
theorem iterM_to {α β:Type} {body:α → Option (α ⊕ β)} {b:β} (S:Nat → α):∀ (n k:Nat),(∀ j,k ≤ j → j < k + n → body (S j) = some (.inl (S (j + 1)))) → body (S (k + n)) = some (.inr b) → iterM body (n + 1) (S k) = some b
 | 0,k,_,hd=>by unfold iterM; rw[Nat.add_zero] at hd; rw[hd]
 | n + 1,k,h,hd=>by
  unfold iterM
  rw[h k (Nat.le_refl k) (by omega)]
  exact iterM_to S n (k + 1) (fun j h1 h2=>h j (by omega) (by omega)) (by rw[show k + 1 + n = k + (n + 1) by omega]; exact hd)
theorem loopF_of {α β:Type} {body:α → Option (α ⊕ β)} {x:α} {b:β} {n:Nat} (h:iterM body n x = some b) (hn:n ≤ 1606938044258990275541962092341162602522202993782792835301376:=by omega):loopF body x = some b:=iterM_le (show n ≤ bigFuel.n from hn) h
theorem loopF_to {α β:Type} {body:α → Option (α ⊕ β)} {b:β} (S:Nat → α) (n:Nat) (h:∀ k,k < n → body (S k) = some (.inl (S (k + 1)))) (hd:body (S n) = some (.inr b)) (hn:n < 1606938044258990275541962092341162602522202993782792835301376:=by omega):loopF body (S 0) = some b :=
 loopF_of (iterM_to S n 0 (fun j _ h2=>h j (by omega)) (by rw[Nat.zero_add]; exact hd)) (by omega)
theorem loopF_at {α β:Type} {body:α → Option (α ⊕ β)} {b:β} {x:α} (S:Nat → α) (n:Nat) (h0:x = S 0) (h:∀ k,k < n → body (S k) = some (.inl (S (k + 1)))) (hd:body (S n) = some (.inr b)) (hn:n < 1606938044258990275541962092341162602522202993782792835301376:=by omega):loopF body x = some b:=by
 rw[h0]; exact loopF_to S n h hd hn
theorem loopF_inv {α β:Type} {body:α → Option (α ⊕ β)} (I:Nat → α → Prop) {Q:β → Prop} (n:Nat) {x:α} (h0:I 0 x) (h:∀ k,k < n → ∀ x,I k x → (∃ y,body x = some (.inl y) ∧ I (k + 1) y) ∨ ∃ b,body x = some (.inr b) ∧ Q b) (hd:∀ x,I n x → ∃ b,body x = some (.inr b) ∧ Q b) (hn:n < 1606938044258990275541962092341162602522202993782792835301376:=by omega):∃ b,loopF body x = some b ∧ Q b:=by
 have:∀ m k x,k + m = n → I k x → ∃ b,iterM body (m + 1) x = some b ∧ Q b:=by
  intro m
  induction m with
  | zero =>
   intro k x hk hx
   rw[Nat.add_zero] at hk; subst hk
   obtain⟨b,hb,hq⟩:=hd x hx
   exact⟨b,by unfold iterM; rw[hb],hq⟩
  | succ m ih =>
   intro k x hk hx
   rcases h k (by omega) x hx with⟨y,hy,hi⟩ | ⟨b,hb,hq⟩
   ·obtain⟨b,hb,hq⟩:=ih (k + 1) y (by omega) hi
    exact⟨b,by rw[iterM,hy]; exact hb,hq⟩
   ·exact⟨b,by rw[iterM,hb],hq⟩
 obtain⟨b,hb,hq⟩:=this n 0 x (by omega) h0
 exact⟨b,loopF_of hb (by omega),hq⟩
theorem repT_len {α:Type} {n:Int} {x:α}:(repT n x).length = n.toNat:=by unfold repT; simp
theorem u8_len {l:List Int}:(u8sT l).length = l.length:=by unfold u8sT; simp
theorem msNeed_in {n:Int} (h0:0 ≤ n) (h:n ≤ 4294967296):msNeed n n = some ():=if_pos ⟨h0,rfl,h⟩
end Go.Lad
