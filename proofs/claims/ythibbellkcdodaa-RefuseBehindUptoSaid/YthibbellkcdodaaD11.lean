/-
  The typed run is sound: code and functions.
-/
import Derived.Test.YthibbellkcdodaaD10
namespace Go.Lad
set_option linter.unusedVariables false
set_option linter.unusedSimpArgs false
open Go.RowKit

section
variable {E : Env} {Γ : Opt}
theorem rec_some {α : Type} {b : Bool} {x : Option α} {r : α} (h : (Bool.rec none x b : Option α) = some r) : b = true ∧ x = some r := by
  cases b with
  | true => exact ⟨rfl, h⟩
  | false => cases h
/-- the places where the states are seen anew are named -/
def jsOK (js : List Nat) : Code → An → Bool
  | .seq a b, .seq x y => jsOK js a x && jsOK js b y
  | .seq a b, .join _ _ _ _ x y => js.contains (headId b) && jsOK js a x && jsOK js b y
  | .cond _ a b, .cond x y => jsOK js a x && jsOK js b y
  | .block _ b, .one x => jsOK js b x
  | .loop b, .loop _ _ _ x => jsOK js b x
  | .scope b, .one x => jsOK js b x
  | _, _ => true
theorem join_by {fx2 : TSt} {σs : Shp} {v : Tup σs.ps} {b : Code} {s : St} {K : St → Prop} (hj : Γ.js.contains (headId b) = true) (hs : ∃ σ, Sub σ s (unTm ((σs.at v).tm ++ fx2.tm)) (unHp ((σs.at v).hp ++ fx2.hp))) (hK : K (un2 fx2 (σs.at v))) : JoinAt Γ.js b K s := by
  unfold JoinAt
  rw [if_pos hj]
  obtain ⟨σ, hs⟩ := hs
  exact .inr ⟨_, _, σ, hs, hK⟩
theorem den_ok [Fuel] (hvs : Γ.vs = E.fz) (hΦ : ∀ con ∈ E.Φ, ConOK E.P con) (hΓ : Γ.hs = E.hs ∧ Γ.fz = E.zs ∧ Γ.mv = E.ns ∧ Γ.bx = E.bs) : ∀ (c : Code) (an : An) (fx : TSt) (ρ : Type) (dq : DecidableEq ρ) (cur : TSt) (K : AEx → TSt → Option ρ) (r : ρ) (Q : AEx → St → Prop), jsOK Γ.js c an = true → den E c an fx ρ dq cur K = some r → (∀ e c, K e c = some r → Q e (un2 fx c)) → codeA E.P Γ c (un2 fx cur) Q
  | .skip, an, fx, ρ, dq, cur, K, r, Q, hj, h, hQ => hQ _ _ h
  | .region id ops dr, an, fx, ρ, dq, cur, K, r, Q, hj, h, hQ => regT_ok rfl hvs hΦ hΓ (fun c hc => hQ _ _ hc) _ _ h
  | .seq a b, an, fx, ρ, dq, cur, K, r, Q, hj, h, hQ => by
    cases an with
    | seq x y =>
      unfold jsOK at hj
      rw [Bool.and_eq_true] at hj
      refine den_ok hvs hΦ hΓ a x fx ρ dq cur _ r _ hj.1 h fun e c hc => ?_
      cases e with
      | normal =>
        have hb := den_ok hvs hΦ hΓ b y fx ρ dq c K r Q hj.2 hc hQ
        show JoinAt Γ.js b (fun s => codeA E.P Γ b s Q) _
        unfold JoinAt
        split
        · exact .inl hb
        · exact hb
      | exit i => exact hQ _ _ hc
      | ret => exact hQ _ _ hc
    | join σs kt kh pure x y =>
      unfold jsOK at hj
      rw [Bool.and_eq_true, Bool.and_eq_true] at hj
      obtain ⟨⟨hj1, hj2⟩, hj3⟩ := hj
      cases pure with
      | true =>
        obtain ⟨hc, h⟩ := rec_some h
        rw [Bool.and_eq_true] at hc
        obtain ⟨hcl, hdr⟩ := hc
        obtain ⟨v, h1, h2⟩ := bind_some h
        have hb := den_ok hvs hΦ hΓ b y fx ρ _ _ K r Q hj3 h2 hQ
        rw [un2_back hdr] at hb
        have ha := den_ok hvs hΦ hΓ a x _ _ _ _ _ v (thenA (JoinAt Γ.js b fun s => codeA E.P Γ b s Q) Q) hj2 h1 fun e c hc => by
          cases e with
          | normal =>
            obtain ⟨hk, hc⟩ := rec_some hc
            obtain ⟨v', hv, hs⟩ := fitAll_ok hc
            injection hv with hv
            subst hv
            exact join_by hj1 (hs (kept_out hcl hk)) hb
          | exit i => cases hc
          | ret => cases hc
        rw [un2_own hdr] at ha
        exact ha
      | false =>
        obtain ⟨hc, h⟩ := rec_some h
        rw [Bool.and_eq_true] at hc
        obtain ⟨hcl, hdr⟩ := hc
        obtain ⟨v, h1, h2⟩ := bind_some h
        have ha := den_ok hvs hΦ hΓ a x _ _ _ _ _ v (thenA (JoinAt Γ.js b fun s => codeA E.P Γ b s Q) Q) hj2 h1 fun e c hc => by
          have out : ∀ e', e' = e → ((K e' ⟨c.tm ++ (keptOf cur σs kt kh).tm, c.hp ++ (keptOf cur σs kt kh).hp⟩).map Sum.inr = some v) → Q e' (un2 (fxOf fx cur (keptOf cur σs kt kh) σs) c) := fun e' _ hc => by
            rw [Option.map_eq_some_iff] at hc
            obtain ⟨r', hr, rfl⟩ := hc
            dsimp only at h2
            injection h2 with h2
            subst h2
            rw [← un2_back hdr]
            exact hQ _ _ hr
          cases e with
          | normal =>
            obtain ⟨hk, hc⟩ := rec_some hc
            obtain ⟨v', hv, hs⟩ := fitAll_ok hc
            injection hv with hv
            subst hv
            dsimp only at h2
            have hb := den_ok hvs hΦ hΓ b y fx ρ _ _ K r Q hj3 h2 hQ
            rw [un2_back hdr] at hb
            exact join_by hj1 (hs (kept_out hcl hk)) hb
          | exit i => exact out _ rfl hc
          | ret => exact out _ rfl hc
        rw [un2_own hdr] at ha
        exact ha
    | no => cases h
    | cond _ _ => cases h
    | loop _ _ _ _ => cases h
    | one _ => cases h
  | .cond c a b, an, fx, ρ, dq, cur, K, r, Q, hj, h, hQ => by
    cases an with
    | cond x y =>
      unfold jsOK at hj
      rw [Bool.and_eq_true] at hj
      unfold den at h
      dsimp only at h
      show condA ((un2 fx cur).ev c) _ _
      rw [ev_un]
      split at h
      · rename_i t heq
        obtain ⟨t, rfl⟩ : ∃ q : Bool, q = t := ⟨t, rfl⟩
        rw [heq]
        show (t = true → _) ∧ (t = false → _)
        cases t with
        | true => exact ⟨fun _ => den_ok hvs hΦ hΓ a x fx ρ dq cur K r Q hj.1 h hQ, (fun h => nomatch h)⟩
        | false => exact ⟨(fun h => nomatch h), fun _ => den_ok hvs hΦ hΓ b y fx ρ dq cur K r Q hj.2 h hQ⟩
      · rename_i pos t l heq
        rw [heq]
        cases pos with
        | true =>
          obtain ⟨h1, h2⟩ := bothN_some (show bothN l (den E a x fx ρ dq cur K) (den E b y fx ρ dq cur K) = some r from h)
          show (l.map (enc t) = [] → _) ∧ _
          exact ⟨fun hl => den_ok hvs hΦ hΓ a x fx ρ dq cur K r Q hj.1 (h2 (List.map_eq_nil_iff.1 hl)) hQ, den_ok hvs hΦ hΓ b y fx ρ dq cur K r Q hj.2 h1 hQ⟩
        | false =>
          obtain ⟨h1, h2⟩ := bothN_some (show bothN l (den E b y fx ρ dq cur K) (den E a x fx ρ dq cur K) = some r from h)
          show _ ∧ (l.map (enc t) = [] → _)
          exact ⟨den_ok hvs hΦ hΓ a x fx ρ dq cur K r Q hj.1 h1 hQ, fun hl => den_ok hvs hΦ hΓ b y fx ρ dq cur K r Q hj.2 (h2 (List.map_eq_nil_iff.1 hl)) hQ⟩
      · cases h
    | no => cases h
    | seq _ _ => cases h
    | join _ _ _ _ _ _ => cases h
    | loop _ _ _ _ => cases h
    | one _ => cases h
  | .block id b, an, fx, ρ, dq, cur, K, r, Q, hj, h, hQ => by
    cases an with
    | one x =>
      refine den_ok hvs hΦ hΓ b x fx ρ dq cur _ r _ hj h fun e c hc => ?_
      cases e with
      | normal => exact hQ _ _ hc
      | exit i =>
        show (if i = id then Q .normal (un2 fx c) else Q (.exit i) (un2 fx c))
        have hc : (Bool.rec (K (.exit i) c) (K .normal c) (Nat.beq i id) : Option ρ) = some r := hc
        rw [beqN] at hc
        by_cases hi : i = id
        · rw [if_pos hi]
          rw [decide_eq_true hi] at hc
          exact hQ _ _ hc
        · rw [if_neg hi]
          rw [decide_eq_false hi] at hc
          exact hQ _ _ hc
      | ret => exact hQ _ _ hc
    | no => cases h
    | seq _ _ => cases h
    | join _ _ _ _ _ _ => cases h
    | loop _ _ _ _ => cases h
    | cond _ _ => cases h
  | .loop b, an, fx, ρ, dq, cur, K, r, Q, hj, h, hQ => by
    cases an with
    | loop σs kt kh x =>
      obtain ⟨hc, h⟩ := rec_some h
      rw [Bool.and_eq_true] at hc
      obtain ⟨hcl, hdr⟩ := hc
      obtain ⟨v0, h1, hs0⟩ := fitAll_ok h
      obtain ⟨σ0, hs0⟩ := hs0 (kept_in hcl)
      refine loop_m _ (fun v => unTm ((σs.at v).tm ++ (fxOf fx cur (keptOf cur σs kt kh) σs).tm)) (fun v => unHp ((σs.at v).hp ++ (fxOf fx cur (keptOf cur σs kt kh) σs).hp)) v0 r (loopF_loopM h1) σ0 hs0 fun v o ho hr => ?_
      refine den_ok hvs hΦ hΓ b x _ _ _ _ _ o (roundQ _ _ (fun y => o = .inl y) Q) hj ho fun e c hc => ?_
      have out : ∀ e', ((K e' ⟨c.tm ++ (keptOf cur σs kt kh).tm, c.hp ++ (keptOf cur σs kt kh).hp⟩).map Sum.inr = some o) → Q e' (un2 (fxOf fx cur (keptOf cur σs kt kh) σs) c) := fun e' hc => by
        rw [Option.map_eq_some_iff] at hc
        obtain ⟨r', hr', rfl⟩ := hc
        have := hr r' rfl
        subst this
        rw [← un2_back hdr]
        exact hQ _ _ hr'
      cases e with
      | normal =>
        obtain ⟨hk, hc⟩ := rec_some hc
        obtain ⟨v', hv, hs⟩ := fitAll_ok hc
        injection hv with hv
        obtain ⟨σ, hs⟩ := hs (kept_out hcl hk)
        exact ⟨v', σ, hv.symm, hs⟩
      | exit i => exact out _ hc
      | ret => exact out _ hc
    | no => cases h
    | seq _ _ => cases h
    | join _ _ _ _ _ _ => cases h
    | one _ => cases h
    | cond _ _ => cases h
  | .exit id, an, fx, ρ, dq, cur, K, r, Q, hj, h, hQ => hQ _ _ h
  | .ret, an, fx, ρ, dq, cur, K, r, Q, hj, h, hQ => hQ _ _ h
  | .scope b, an, fx, ρ, dq, cur, K, r, Q, hj, h, hQ => by
    cases an with
    | one x => exact den_ok hvs hΦ hΓ b x fx ρ dq cur K r Q hj h hQ
    | no => cases h
    | seq _ _ => cases h
    | join _ _ _ _ _ _ => cases h
    | loop _ _ _ _ => cases h
    | cond _ _ => cases h
  | .rangeFunc _ _ _ _, an, fx, ρ, dq, cur, K, r, Q, hj, h, hQ => by cases h
  | .label _, an, fx, ρ, dq, cur, K, r, Q, hj, h, hQ => by cases h
  | .goto _, an, fx, ρ, dq, cur, K, r, Q, hj, h, hQ => by cases h
  | .refuse _, an, fx, ρ, dq, cur, K, r, Q, hj, h, hQ => by cases h
end
end Go.Lad
