/-
  Plain texts of layers 26 to 28.
-/
import Derived.Test.YthibbellkcdodaaC2
/-
  Layer 26 (clause): the reference.
-/
namespace Go.Proofs.Ythibbellkcdodaa
open Go.Lad
set_option linter.unusedVariables false
set_option linter.unusedSimpArgs false
set_option linter.unusedSectionVars false
theorem open_eq {v : List Bool} {c : List Int} (hv : v.length = 4001) (hl : c.length ≤ 1000000) : ∃ r, ladingref26_open v c = some r ∧ LookOK v (own c) r := by
  unfold ladingref26_open
  refine loopF_inv (body := fun x => ladingref26_open.b1 v c x.1 x.2)
    (fun k x => x.2 = (k : Int) ∧ ((x.1 = 0 ∧ ∀ y ∈ c.take k, Lit y → ins v (-y) = true) ∨ (x.1 ∈ c.take k ∧ Lit x.1 ∧ ins v (-x.1) = false ∧ ∀ y ∈ c.take k, Lit y → y ≠ x.1 → ins v (-y) = true)))
    c.length ⟨rfl, .inl ⟨rfl, by simp⟩⟩ (fun k hk x hx => ?_) (fun x hx => ?_) (by omega)
  · obtain ⟨f, i⟩ := x
    obtain ⟨h1, h2⟩ := hx
    simp only at h1 h2
    subst h1
    have hskip : (Lit c[k] → ins v (-c[k]) = true ∨ c[k] = f) → ((f = 0 ∧ ∀ y ∈ c.take (k + 1), Lit y → ins v (-y) = true) ∨ (f ∈ c.take (k + 1) ∧ Lit f ∧ ins v (-f) = false ∧ ∀ y ∈ c.take (k + 1), Lit y → y ≠ f → ins v (-y) = true)) := fun hs => by
      rw [take_snoc c k hk]
      rcases h2 with ⟨h2, h3⟩ | ⟨h2, h3, h4, h5⟩
      · refine .inl ⟨h2, fun y hy hyl => ?_⟩
        rcases List.mem_append.1 hy with hy | hy
        · exact h3 y hy hyl
        · rw [List.mem_singleton.1 hy] at hyl ⊢
          exact (hs hyl).resolve_right fun e => hyl.1 (e.trans h2)
      · refine .inr ⟨List.mem_append_left _ h2, h3, h4, fun y hy hyl hne => ?_⟩
        rcases List.mem_append.1 hy with hy | hy
        · exact h5 y hy hyl hne
        · rw [List.mem_singleton.1 hy] at hyl hne ⊢
          exact (hs hyl).resolve_right hne
    simp only [ladingref26_open.b1, lt_n hk, cond_true, idx_nat hk, bind_in, Lit_eq]
    by_cases hck : Lit c[k]
    · rw [decide_eq_true hck]
      simp only [Bool.not_true, cond_false, z64_litn hck, bind_in, idx_ins hv hck.neg rfl]
      cases hi : ins v (-c[k]) with
      | true =>
        rw [cond_true, bind_in]
        simp only [ladingref26_open.j1, cond_true, z64_nx hk (by omega), bind_in]
        exact .inl ⟨_, rfl, rfl, hskip fun _ => .inl hi⟩
      | false =>
        rw [cond_false, bind_in, eqZ_eq]
        by_cases hcf : c[k] = f
        · rw [decide_eq_true hcf]
          simp only [ladingref26_open.j1, cond_true, z64_nx hk (by omega), bind_in]
          exact .inl ⟨_, rfl, rfl, hskip fun _ => .inr hcf⟩
        · rw [decide_eq_false hcf]
          simp only [ladingref26_open.j1, cond_false, eqZ_eq, z64_nx hk (by omega), bind_in]
          rcases h2 with ⟨h2, h3⟩ | ⟨h2, h3, h4, h5⟩
          · subst h2
            refine .inl ⟨_, rfl, rfl, .inr ?_⟩
            rw [take_snoc c k hk]
            refine ⟨List.mem_append_right _ (List.mem_singleton.2 rfl), hck, hi, fun y hy hyl hne => ?_⟩
            rcases List.mem_append.1 hy with hy | hy
            · exact h3 y hy hyl
            · exact absurd (List.mem_singleton.1 hy) hne
          · exact .inr ⟨_, by rw [decide_eq_false h3.1]; rfl, .inr (.inr ⟨rfl, f, mem_own.2 ⟨List.mem_of_mem_take h2, h3⟩, c[k], mem_own.2 ⟨List.getElem_mem hk, hck⟩, fun e => hcf e.symm, h4, hi⟩)⟩
    · rw [decide_eq_false hck]
      simp only [Bool.not_false, cond_true, bind_in, ladingref26_open.j1, z64_nx hk (by omega)]
      exact .inl ⟨_, rfl, rfl, hskip fun h => absurd h hck⟩
  · obtain ⟨f, i⟩ := x
    obtain ⟨h1, h2⟩ := hx
    simp only at h1 h2
    subst h1
    rw [List.take_length] at h2
    refine ⟨(f, true), by simp only [ladingref26_open.b1, lt_e, cond_false], ?_⟩
    rcases h2 with ⟨h2, h3⟩ | ⟨h2, h3, h4, h5⟩
    · exact .inl ⟨rfl, h2, fun y hy => h3 y (mem_own.1 hy).1 (mem_own.1 hy).2⟩
    · exact .inr (.inl ⟨rfl, mem_own.2 ⟨h2, h3⟩, h3, h4, fun y hy hne => h5 y (mem_own.1 hy).1 (mem_own.1 hy).2 hne⟩)
/-- a clause from which nothing new follows -/
def Shut (v : List Bool) (c : List Int) : Prop := ∃ r, LookOK v (own c) r ∧ (r.2 = false ∨ (r.1 ≠ 0 ∧ ins v r.1 = true))
/-- the state of the reference's loops -/
structure RInv (C : List (List Int)) (s : List Int) (v : List Bool) : Prop where
  len : v.length = 4001
  zero : ins v 0 = false
  din : ∀ x, Lit x → ins v x = true → Der C s x
  st : ∀ x ∈ s, Lit x → ins v x = true
theorem RInv.key {C : List (List Int)} {s : List Int} {v : List Bool} (h : RInv C s v) (hs : ∀ c ∈ C, Shut v c) : (∀ x, Der C s x → ins v x = true) ∧ ∀ c ∈ C, ¬ ∀ y ∈ c, Lit y → Der C s (-y) := by
  have k1 : ∀ x, Der C s x → ins v x = true := fun x hx => hx.least (fun x => ins v x = true) h.st fun c hc x hx hl ho => by
    obtain ⟨r, h1, h2⟩ := hs c hc
    rcases h1 with ⟨h3, h4, h5⟩ | ⟨h3, h4, h5, h6, h7⟩ | ⟨h3, y, hy, z, hz, hyz, h6, h7⟩
    · rw [h3] at h2
      exact absurd h4 (h2.resolve_left (by simp)).1
    · rw [h3] at h2
      have h8 := (h2.resolve_left (by simp)).2
      have : r.1 = x := Classical.byContradiction fun hne => by
        have h9 : ins v (-r.1) = true := ho r.1 (mem_own.1 h4).1 h5 hne
        rw [h6] at h9; cases h9
      rw [← this]; exact h8
    · by_cases hyx : y = x
      · have h9 : ins v (-z) = true := ho z (mem_own.1 hz).1 (mem_own.1 hz).2 (fun e => hyz (hyx.trans e.symm))
        rw [h7] at h9; cases h9
      · have h9 : ins v (-y) = true := ho y (mem_own.1 hy).1 (mem_own.1 hy).2 hyx
        rw [h6] at h9; cases h9
  refine ⟨k1, fun c hc ho => ?_⟩
  obtain ⟨r, h1, h2⟩ := hs c hc
  rcases h1 with ⟨h3, h4, h5⟩ | ⟨h3, h4, h5, h6, h7⟩ | ⟨h3, y, hy, z, hz, hyz, h6, h7⟩
  · rw [h3] at h2
    exact absurd h4 (h2.resolve_left (by simp)).1
  · have h9 := k1 _ (ho r.1 (mem_own.1 h4).1 h5)
    rw [h6] at h9; cases h9
  · have h9 := k1 _ (ho y (mem_own.1 hy).1 (mem_own.1 hy).2)
    rw [h6] at h9; cases h9
theorem pass_eq {l : List GClause} {s : List Int} {v : List Bool} (hC : Ok (lits l)) (h : RInv (lits l) s v) :
    ∃ r, loopF (fun x => ladingref26_closure.b2 l x.1 x.2.1 x.2.2) (false, 0, v) = some r ∧
      ((∃ w, r = .inl (false, w) ∧ RInv (lits l) s w ∧ frees w ≤ frees v ∧ ∀ c ∈ lits l, Shut w c) ∨ (∃ w, r = .inl (true, w) ∧ RInv (lits l) s w ∧ frees w < frees v) ∨ ∃ w, r = .inr (.inr (w, false)) ∧ Fails (lits l) s) := by
  have h200 := hC.1
  rw [List.length_map] at h200
  refine loopF_inv (body := fun x => ladingref26_closure.b2 l x.1 x.2.1 x.2.2)
    (fun k x => x.2.1 = (k : Int) ∧ RInv (lits l) s x.2.2 ∧ ((x.1 = false ∧ x.2.2 = v ∧ ∀ j (hj : j < l.length), j < k → Shut v l[j].1) ∨ (x.1 = true ∧ frees x.2.2 < frees v)))
    l.length ⟨rfl, h, .inl ⟨rfl, rfl, fun j _ hj => by omega⟩⟩ (fun k hk x hx => ?_) (fun x hx => ?_) (by omega)
  · obtain ⟨ch, i, w⟩ := x
    obtain ⟨h1, h2, h3⟩ := hx
    simp only at h1 h2 h3
    subst h1
    have hm : l[k].1 ∈ lits l := List.mem_map.2 ⟨_, List.getElem_mem hk, rfl⟩
    obtain ⟨r, hr, hrl⟩ := open_eq (v := w) (c := l[k].1) h2.len (hC.2 _ hm)
    have hkeep : Shut w l[k].1 → ((ch = false ∧ w = v ∧ ∀ j (hj : j < l.length), j < k + 1 → Shut v l[j].1) ∨ (ch = true ∧ frees w < frees v)) := fun hsh => by
      rcases h3 with ⟨h3, h4, h5⟩ | h3
      · refine .inl ⟨h3, h4, fun j hj hjk => ?_⟩
        rcases Nat.lt_or_ge j k with hlt | hge
        · exact h5 j hj hlt
        · have : j = k := by omega
          subst this
          rw [← h4]; exact hsh
      · exact .inr h3
    have hfr : frees w ≤ frees v := by
      rcases h3 with ⟨_, h4, _⟩ | h3
      · rw [h4]; exact Nat.le_refl _
      · omega
    simp only [ladingref26_closure.b2, lt_n hk, cond_true, idx_nat hk, bind_in, hr, z64_nx hk (by omega), bif_not, eqZ_eq]
    have hrl' := hrl
    rcases hrl with ⟨h5, h6, h7⟩ | ⟨h5, h6, h7, h8, h9⟩ | ⟨h5, y, hy, z, hz, hyz, h6, h7⟩
    · rw [h5, h6, cond_true, decide_eq_true rfl, cond_true]
      exact .inr ⟨_, rfl, .inr (.inr ⟨w, rfl, .inl ⟨_, hm, fun y hy hl => h2.din _ hl.neg (h7 y (mem_own.2 ⟨hy, hl⟩))⟩⟩)⟩
    · rw [h5, cond_true, decide_eq_false h7.1, cond_false, z64_lit h7]
      simp only [bind_in, idx_ins h2.len h7 rfl]
      cases hi : ins w r.1 with
      | true =>
        rw [cond_true]
        exact .inl ⟨_, rfl, rfl, h2, hkeep ⟨r, hrl', .inr ⟨h7.1, hi⟩⟩⟩
      | false =>
        rw [cond_false]
        have hf := frees_ins h2.len h7 hi
        have hD : Der (lits l) s r.1 := .unit hm (mem_own.1 h6).1 h7 fun y hy hl hne => h2.din _ hl.neg (h9 y (mem_own.2 ⟨hy, hl⟩) hne)
        refine .inl ⟨_, rfl, rfl, ⟨by rw [List.length_set]; exact h2.len, (ins_zero h2.len h7).trans h2.zero, fun x hx h => ?_, fun x hx hl => ?_⟩, .inr ⟨rfl, ?_⟩⟩
        · have h : ins (w.set (2000 + r.1).toNat true) x = true := h
          rw [ins_set h2.len h7 hx] at h
          by_cases e : x = r.1
          · rw [e]; exact hD
          · rw [decide_eq_false e, Bool.false_or] at h
            exact h2.din x hx h
        · show ins (w.set (2000 + r.1).toNat true) x = true
          rw [ins_set h2.len h7 hl, h2.st x hx hl, Bool.or_true]
        · show frees (w.set (2000 + r.1).toNat true) < frees v
          omega
    · rw [h5, cond_false]
      exact .inl ⟨_, rfl, rfl, h2, hkeep ⟨r, hrl', .inl h5⟩⟩
  · obtain ⟨ch, i, w⟩ := x
    obtain ⟨h1, h2, h3⟩ := hx
    simp only at h1 h2 h3
    subst h1
    refine ⟨.inl (ch, w), by simp only [ladingref26_closure.b2, lt_e, cond_false], ?_⟩
    rcases h3 with ⟨rfl, rfl, h5⟩ | ⟨rfl, h3⟩
    · refine .inl ⟨w, rfl, h2, Nat.le_refl _, fun c hc => ?_⟩
      obtain ⟨x, hx, rfl⟩ := List.mem_map.1 hc
      obtain ⟨j, hj, rfl⟩ := List.mem_iff_getElem.1 hx
      exact h5 j hj hj
    · exact .inr (.inl ⟨w, rfl, h2, h3⟩)
theorem closure_eq {l : List GClause} {s : List Int} (hC : Ok (lits l)) (hs : s.length ≤ 1000000) : ∃ r, ladingref26_closure l s = some r ∧ CloseOK (lits l) s (r.2, r.1) := by
  unfold ladingref26_closure
  have hset : ladingref26_set = some (List.replicate 4001 false) := by
    unfold ladingref26_set
    rw [msNeed_in (by omega) (by omega), bind_in]
    unfold repT
    rw [show (4001 : Int).toNat = 4001 from rfl]
  rw [hset, bind_in]
  obtain ⟨v, h1, h2⟩ := loop_keep (body := fun x => ladingref26_closure.b1 s x.1 x.2) s
    (fun k v => v.length = 4001 ∧ ins v 0 = false ∧ (∀ x, Lit x → ins v x = true → Der (lits l) s x) ∧ ∀ x ∈ s.take k, Lit x → ins v x = true)
    (Q := fun v => RInv (lits l) s v) (s0 := List.replicate 4001 false)
    ⟨by rw [List.length_replicate], ins_rep 0, fun x _ h => (by rw [ins_rep] at h; cases h), fun x hx => (by rw [List.take_zero] at hx; cases hx)⟩
    (fun k hk v hv => by
      obtain ⟨h1, h2, h3, h4⟩ := hv
      simp only [ladingref26_closure.b1, lt_n hk, cond_true, idx_nat hk, bind_in, Lit_eq, z64_nx hk (by omega)]
      refine .inl ?_
      by_cases hp : Lit s[k]
      · rw [decide_eq_true hp, cond_true, z64_lit hp]
        simp only [bind_in, idx_ins h1 hp rfl]
        refine ⟨_, rfl, by rw [List.length_set]; exact h1, (ins_zero h1 hp).trans h2, fun x hx h => ?_, fun x hx hl => ?_⟩
        · rw [ins_set h1 hp hx] at h
          by_cases e : x = s[k]
          · rw [e]; exact .start (List.getElem_mem hk) hp
          · rw [decide_eq_false e, Bool.false_or] at h
            exact h3 x hx h
        · rw [ins_set h1 hp hl]
          rw [take_snoc s k hk] at hx
          rcases List.mem_append.1 hx with hx | hx
          · rw [h4 x hx hl, Bool.or_true]
          · rw [decide_eq_true (List.mem_singleton.1 hx), Bool.true_or]
      · rw [decide_eq_false hp, cond_false]
        refine ⟨_, rfl, h1, h2, h3, fun x hx hl => ?_⟩
        rw [take_snoc s k hk] at hx
        rcases List.mem_append.1 hx with hx | hx
        · exact h4 x hx hl
        · exact absurd (List.mem_singleton.1 hx ▸ hl) hp)
    (fun v hv => by
      obtain ⟨h1, h2, h3, h4⟩ := hv
      rw [List.take_length] at h4
      exact ⟨v, by simp only [ladingref26_closure.b1, lt_e, cond_false], h1, h2, h3, h4⟩)
    (by omega)
  rw [h1, bind_in]
  unfold ladingref26_closure.j3
  have hfr : frees v ≤ 4001 := by have := frees_le v; rw [h2.len] at this; exact this
  obtain ⟨r, h3, h4⟩ := loopF_less (body := fun x => ladingref26_closure.b3 l x.1 x.2) (x := (true, v)) (fun y => RInv (lits l) s y.2 ∧ (y.1 = false → ∀ c ∈ lits l, Shut y.2 c)) (fun y => 2 * frees y.2 + y.1.toNat)
    (Q := fun r => (∃ w, r = .inl w ∧ RInv (lits l) s w ∧ ∀ c ∈ lits l, Shut w c) ∨ ∃ w, r = .inr (w, false) ∧ Fails (lits l) s)
    ⟨h2, fun h => by cases h⟩
    (fun y hy => by
      obtain ⟨ch, w⟩ := y
      obtain ⟨hI, hS⟩ := hy
      simp only at hI hS
      cases ch with
      | false =>
        exact .inr ⟨.inl w, by simp only [ladingref26_closure.b3, cond_false], .inl ⟨w, rfl, hI, hS rfl⟩⟩
      | true =>
        obtain ⟨r, h5, h6⟩ := pass_eq hC hI
        have hst : ladingref26_closure.b3 l true w = some r := by
          unfold ladingref26_closure.b3
          rw [cond_true]; exact h5
        rcases h6 with ⟨u, rfl, h7, h8, h9⟩ | ⟨u, rfl, h7, h8⟩ | ⟨u, rfl, h7⟩
        · exact .inl ⟨_, hst, ⟨h7, fun _ => h9⟩, by show 2 * frees u + 0 < 2 * frees w + 1; omega⟩
        · exact .inl ⟨_, hst, ⟨h7, fun h => by cases h⟩, by show 2 * frees u + 1 < 2 * frees w + 1; omega⟩
        · exact .inr ⟨_, hst, .inr ⟨u, rfl, h7⟩⟩)
    (by show 2 * frees v + 1 < _; omega)
  rw [h3, bind_in]
  rcases h4 with ⟨w, rfl, h5, h6⟩ | ⟨w, rfl, h5⟩
  · obtain ⟨k1, k2⟩ := h5.key h6
    show ∃ r, ladingref26_closure.j2 w = some r ∧ _
    unfold ladingref26_closure.j2
    refine loopF_inv (body := fun x => ladingref26_closure.b4 w x) (fun k x => x = ((k + 1 : Nat) : Int) ∧ ∀ y : Int, 1 ≤ y → y ≤ k → ¬ (ins w y = true ∧ ins w (-y) = true)) 2000 ⟨rfl, fun y h1 h2 => by omega⟩ (fun k hk x hx => ?_) (fun x hx => ?_) (by omega)
    · obtain ⟨rfl, hx⟩ := hx
      have hl : Lit ((k + 1 : Nat) : Int) := ⟨by omega, by omega, by omega⟩
      simp only [ladingref26_closure.b4, leZ_eq]
      rw [decide_eq_true (by omega), cond_true, z64_lit hl]
      simp only [bind_in, idx_ins h5.len hl rfl, z64_litn hl, idx_ins h5.len hl.neg rfl]
      have hnext : ¬ (ins w ((k + 1 : Nat) : Int) = true ∧ ins w (-((k + 1 : Nat) : Int)) = true) → (∃ y, ladingref26_closure.j1 w ((k + 1 : Nat) : Int) false = some (.inl y) ∧ y = ((k + 1 + 1 : Nat) : Int) ∧ ∀ z : Int, 1 ≤ z → z ≤ ((k + 1 : Nat) : Int) → ¬ (ins w z = true ∧ ins w (-z) = true)) := fun hn => by
        refine ⟨_, by simp only [ladingref26_closure.j1, cond_false, z64_succ (show k + 1 + 1 ≤ 9223372036854775807 by omega), bind_in], rfl, fun z h1 h2 => ?_⟩
        by_cases hz : z = ((k + 1 : Nat) : Int)
        · rw [hz]; exact hn
        · exact hx z h1 (by omega)
      cases h7 : ins w ((k + 1 : Nat) : Int) with
      | false =>
        rw [cond_false, bind_in]
        exact .inl (hnext fun h => by rw [h7] at h; cases h.1)
      | true =>
        rw [cond_true, bind_in]
        cases h8 : ins w (-((k + 1 : Nat) : Int)) with
        | false => exact .inl (hnext fun h => by rw [h8] at h; cases h.2)
        | true =>
          refine .inr ⟨(w, false), by simp only [ladingref26_closure.j1, cond_true], .inl ⟨rfl, .inr ⟨_, h5.din _ hl h7, h5.din _ hl.neg h8⟩⟩⟩
    · obtain ⟨rfl, hx⟩ := hx
      refine ⟨(w, true), ?_, .inr ⟨rfl, ?_, h5.len, h5.zero, fun x hx => ⟨h5.din x hx, k1 x⟩⟩⟩
      · simp only [ladingref26_closure.b4, leZ_eq]
        rw [decide_eq_false (by omega), cond_false]
      · rintro (⟨c, hc, ho⟩ | ⟨x, h7, h8⟩)
        · exact k2 c hc ho
        · have hl := h7.lit
          unfold Lit at hl
          by_cases hp : 0 < x
          · exact hx x (by omega) (by omega) ⟨k1 _ h7, k1 _ h8⟩
          · exact hx (-x) (by omega) (by omega) ⟨k1 _ h8, by rw [Int.neg_neg]; exact k1 _ h7⟩
  · exact ⟨_, rfl, .inl ⟨rfl, h5⟩⟩
end Go.Proofs.Ythibbellkcdodaa
/-
  Layer 26 (clause): the reference's functions; Right, Holds; what the bounds say.
-/
namespace Go.Proofs.Ythibbellkcdodaa
open Go.Lad
set_option linter.unusedVariables false
set_option linter.unusedSimpArgs false
set_option linter.unusedSectionVars false
theorem rprop_eq {l : List GClause} {s : List Int} (h : Ok (lits l)) (hs : s.length ≤ 1000000) : ladingref26_Propagate l s = some ((propF (lits l) s).2, (propF (lits l) s).1) := by
  unfold ladingref26_Propagate
  obtain ⟨r, h3, h4⟩ := closure_eq (s := s) h hs
  rw [h3, bind_in, bif_not]
  unfold propF
  rcases h4 with ⟨h5, h6⟩ | ⟨h5, h6, h7, h8, h9⟩
  · have h5 : r.2 = false := h5
    rw [h5, cond_false, if_pos (failB_iff.2 h6)]
  · have h5 : r.2 = true := h5
    have h7 : r.1.length = 4001 := h7
    have h8 : ins r.1 0 = false := h8
    have h9 : ∀ x, Lit x → (ins r.1 x = true ↔ Der (lits l) s x) := h9
    rw [h5, cond_true, if_neg (by rw [failB_iff]; exact h6)]
    refine loopF_at (body := fun x => ladingref26_Propagate.b1 r x.1 x.2) (fun k => ((k : Int) - 2000, (upTo k).filter (derB (lits l) s))) 4001 rfl (fun k hk => ?_) ?_ (by omega)
    · have hfl : ((upTo k).filter (derB (lits l) s)).length ≤ k := Nat.le_trans (List.length_filter_le _ _) (by rw [upTo_len]; exact Nat.le_refl _)
      have hz : z64 ((2000 : Int) + ((k : Int) - 2000)) = some (k : Int) := z64_p (by omega) (by omega) (by omega)
      have hz2 : z64 ((k : Int) - 2000 + 1) = some (((k + 1 : Nat) : Int) - 2000) := z64_p (by omega) (by omega) (by omega)
      simp only [ladingref26_Propagate.b1, leZ_eq, hz, hz2, bind_in, ins_at h7 hk, ins_der h8 h9 (show (-2000 : Int) ≤ (k : Int) - 2000 by omega) (show (k : Int) - 2000 ≤ 2000 by omega)]
      rw [decide_eq_true (by omega), cond_true, upTo_succ, List.filter_append, fil1]
      cases hd : derB (lits l) s ((k : Int) - 2000) with
      | true =>
        rw [cond_true, app_in (by simp; omega), bind_in, if_pos rfl]
      | false =>
        rw [cond_false, if_neg (by simp), List.append_nil]
    · simp only [ladingref26_Propagate.b1, leZ_eq]
      rw [decide_eq_false (by omega), cond_false]; rfl
abbrev mk (c : List Int) : GClause := (c, 0, 0, 0)
theorem lits_mk (L : List (List Int)) : lits (L.map mk) = L := by
  unfold lits
  rw [List.map_map]
  exact List.map_id' L
theorem bif_pick {α : Type} {b : Bool} {x y : α} : (bif b then some x else some y) = some (if b = true then x else y) := by cases b <;> rfl
/-! ### Right -/
def badN (n x : Int) : Bool := decide (x = 0 ∨ x < -n ∨ n < x)
def rightF (l : List GClause) (n : Int) : Bool := decide (0 ≤ n ∧ n ≤ 2000 ∧ l.length ≤ 20000) && !(l.any fun c => c.1.any (badN n))
theorem rightF_iff {l : List GClause} {n : Int} : rightF l n = true ↔ (0 ≤ n ∧ n ≤ 2000 ∧ l.length ≤ 20000) ∧ ∀ c ∈ l, ∀ x ∈ c.1, x ≠ 0 ∧ -n ≤ x ∧ x ≤ n := by
  unfold rightF
  rw [Bool.and_eq_true, decide_eq_true_eq]
  refine and_congr Iff.rfl ?_
  rw [Bool.not_eq_true', List.any_eq_false]
  refine forall_congr' fun c => forall_congr' fun hc => ?_
  rw [List.any_eq_true]
  constructor
  · intro h x hx
    have : ¬ badN n x = true := fun hb => h ⟨x, hx, hb⟩
    unfold badN at this
    rw [decide_eq_true_eq] at this
    omega
  · rintro h ⟨x, hx, hb⟩
    have := h x hx
    unfold badN at hb
    rw [decide_eq_true_eq] at hb
    omega
theorem right1_eq {n x : Int} (h : 0 ≤ n ∧ n ≤ 2000) : clause_Right_1_1 x n = some (badN n x) := by
  unfold clause_Right_1_1 badN
  simp only [eqZ_eq, ltZ_eq, bif_dec]
  rw [z64_in (by omega) (by omega), bind_in]
  by_cases h1 : x = 0
  · rw [if_pos h1, decide_eq_true (.inl h1)]
  · rw [if_neg h1]
    by_cases h2 : x < -n
    · rw [if_pos h2, decide_eq_true (.inr (.inl h2))]
    · rw [if_neg h2]
      congr 1
      rw [decide_eq_decide]
      omega
theorem right2_eq {c : GClause} {n : Int} (h : 0 ≤ n ∧ n ≤ 2000) (hc : c.1.length ≤ 1000000) : clause_Right_1 c n = some (c.1.any (badN n)) := by
  have hb : ∀ k (hk : k < c.1.length), slices_IndexFunc_int_int.b1 c.1 n (k : Int) = some (if badN n c.1[k] = true then .inr (k : Int) else .inl ((k + 1 : Nat) : Int)) := fun k hk => by
    simp only [slices_IndexFunc_int_int.b1, lt_n hk, cond_true, idx_nat hk, bind_in, right1_eq h, z64_nx hk (by omega)]
    exact bif_pick
  have he : slices_IndexFunc_int_int.b1 c.1 n (c.1.length : Int) = some (.inr (-1)) := by simp only [slices_IndexFunc_int_int.b1, lt_e, cond_false]
  obtain ⟨i, h1, h2, _⟩ := loop_idx (body := fun x => slices_IndexFunc_int_int.b1 c.1 n x) c.1 (badN n) hb he (by omega)
  unfold clause_Right_1 slices_ContainsFunc_int_int
  rw [show slices_IndexFunc_int_int c.1 n = some i from h1, bind_in, bind_in, h2]
theorem right_eq {l : List GClause} {n : Int} (h : Ok (lits l)) : clause_Right l n = some (rightF l n) := by
  obtain ⟨h200, hc⟩ := h
  rw [List.length_map] at h200
  unfold clause_Right rightF
  simp only [ltZ_eq, bif_dec]
  by_cases h1 : n < 0
  · rw [if_pos h1, bind_in, decide_eq_false (by omega)]; rfl
  · rw [if_neg h1]
    by_cases h2 : 2000 < n
    · rw [if_pos h2, bind_in, decide_eq_false (by omega)]; rfl
    · rw [if_neg h2, bind_in]
      unfold clause_Right.j1
      by_cases h3 : l.length ≤ 20000
      · rw [decide_eq_false (by omega), cond_false, decide_eq_true (by omega)]
        have hb : ∀ k (hk : k < l.length), slices_IndexFunc_api_Clause_api_Clause.b1 l n (k : Int) = some (if (fun c : GClause => c.1.any (badN n)) l[k] = true then .inr (k : Int) else .inl ((k + 1 : Nat) : Int)) := fun k hk => by
          simp only [slices_IndexFunc_api_Clause_api_Clause.b1, lt_n hk, cond_true, idx_nat hk, bind_in, right2_eq (c := l[k]) (show 0 ≤ n ∧ n ≤ 2000 by omega) (hc _ (List.mem_map.2 ⟨_, List.getElem_mem hk, rfl⟩)), z64_nx hk (by omega)]
          exact bif_pick
        have he : slices_IndexFunc_api_Clause_api_Clause.b1 l n (l.length : Int) = some (.inr (-1)) := by simp only [slices_IndexFunc_api_Clause_api_Clause.b1, lt_e, cond_false]
        obtain ⟨i, h1, h2, _⟩ := loop_idx (body := fun x => slices_IndexFunc_api_Clause_api_Clause.b1 l n x) l (fun c : GClause => c.1.any (badN n)) hb he (by omega)
        unfold slices_ContainsFunc_api_Clause_api_Clause
        rw [show slices_IndexFunc_api_Clause_api_Clause l n = some i from h1, bind_in, bind_in, h2, Bool.true_and]
      · rw [decide_eq_true (by omega), cond_true, decide_eq_false (by omega)]; rfl
theorem rright_eq {l : List GClause} {n : Int} (h : Ok (lits l)) : ladingref26_Right l n = some (rightF l n) := by
  obtain ⟨h200, hc⟩ := h
  rw [List.length_map] at h200
  unfold ladingref26_Right rightF
  simp only [ltZ_eq, bif_dec]
  by_cases h1 : n < 0
  · rw [if_pos h1, bind_in, decide_eq_false (by omega)]; rfl
  · rw [if_neg h1]
    by_cases h2 : 2000 < n
    · rw [if_pos h2, bind_in, decide_eq_false (by omega)]; rfl
    · rw [if_neg h2, bind_in]
      unfold ladingref26_Right.j2
      by_cases h3 : l.length ≤ 20000
      · rw [decide_eq_false (by omega), cond_false, decide_eq_true (by omega), Bool.true_and]
        rw [loop_any (body := fun x => ladingref26_Right.b2 l n x) l (fun c => c.1.any (badN n)) false true (fun k hk => ?_) ?_ (by omega)]
        · cases l.any (fun c => c.1.any (badN n)) <;> rfl
        · simp only [ladingref26_Right.b2, lt_e, cond_false]
        · have hck := hc _ (List.mem_map.2 ⟨_, List.getElem_mem hk, rfl⟩)
          simp only [ladingref26_Right.b2, lt_n hk, cond_true]
          rw [loop_any (body := fun x => ladingref26_Right.b1 l n (k : Int) x) l[k].1 (badN n) (.inr false) (.inl ((k + 1 : Nat) : Int)) (fun j hj => ?_) ?_ (by omega)]
          · simp only [ladingref26_Right.b1, idx_nat hk, bind_in, lt_e, cond_false, z64_nx hk (by omega)]; rfl
          · simp only [ladingref26_Right.b1, idx_nat hk, bind_in, lt_n hj, cond_true, idx_nat hj, z64_p (show -n = -n from rfl) (by omega) (by omega)]
            simp only [eqZ_eq, ltZ_eq, bif_dec]
            by_cases h4 : badN n l[k].1[j] = true
            · rw [if_pos h4]
              unfold badN at h4
              rw [decide_eq_true_eq] at h4
              have : (if l[k].1[j] = 0 then some true else if l[k].1[j] < -n then some true else some (decide (n < l[k].1[j]))) = some true := by
                by_cases h5 : l[k].1[j] = 0
                · rw [if_pos h5]
                · rw [if_neg h5]
                  by_cases h6 : l[k].1[j] < -n
                  · rw [if_pos h6]
                  · rw [if_neg h6, decide_eq_true (by omega)]
              rw [this, bind_in]
              simp only [ladingref26_Right.j1, cond_true]
            · rw [if_neg h4]
              unfold badN at h4
              rw [decide_eq_true_eq] at h4
              rw [if_neg (by omega), if_neg (by omega), decide_eq_false (by omega), bind_in]
              simp only [ladingref26_Right.j1, cond_false, z64_nx hj (by omega), bind_in]
      · rw [decide_eq_true (by omega), cond_true, decide_eq_false (by omega)]; rfl
end Go.Proofs.Ythibbellkcdodaa
/-
  Layer 26 (clause): Holds; bounds; laws of what follows; the examples.
-/
namespace Go.Proofs.Ythibbellkcdodaa
open Go.Lad
set_option linter.unusedVariables false
set_option linter.unusedSimpArgs false
set_option linter.unusedSectionVars false
/-! ### models -/
def tru (m : List Bool) (x : Int) : Bool := decide (Lit x ∧ m[x.natAbs - 1]? = some (decide (0 < x)))
theorem tru_iff {m : List Bool} {x : Int} : tru m x = true ↔ Lit x ∧ m[x.natAbs - 1]? = some (decide (0 < x)) := by unfold tru; exact decide_eq_true_iff
theorem tru_neg {m : List Bool} {x : Int} (h : tru m x = true) (h2 : tru m (-x) = true) : False := by
  obtain ⟨h3, h4⟩ := tru_iff.1 h
  obtain ⟨h5, h6⟩ := tru_iff.1 h2
  rw [Int.natAbs_neg, h4] at h6
  have := Option.some.inj h6
  rw [decide_eq_decide] at this
  unfold Lit at h3
  omega
theorem tru_dec {m : List Bool} {x : Int} (h : Lit x) (hm : x.natAbs ≤ m.length) : tru m x = true ∨ tru m (-x) = true := by
  have hx : x.natAbs - 1 < m.length := by unfold Lit at h; omega
  by_cases he : m[x.natAbs - 1] = decide (0 < x)
  · exact .inl (tru_iff.2 ⟨h, by rw [List.getElem?_eq_getElem hx, he]⟩)
  · refine .inr (tru_iff.2 ⟨h.neg, ?_⟩)
    rw [Int.natAbs_neg, List.getElem?_eq_getElem hx]
    congr 1
    have : decide (0 < -x) = !decide (0 < x) := by
      unfold Lit at h
      by_cases hp : 0 < x
      · rw [decide_eq_true hp, decide_eq_false (by omega)]; rfl
      · rw [decide_eq_false hp, decide_eq_true (by omega)]; rfl
    rw [this]
    cases h1 : m[x.natAbs - 1] <;> cases h2 : decide (0 < x) <;> simp_all
def holdsF (l : List GClause) (m : List Bool) : Bool := l.all fun c => c.1.any (tru m)
theorem holds_iff {l : List GClause} {m : List Bool} : holdsF l m = true ↔ ∀ c ∈ lits l, ∃ x ∈ c, tru m x = true := by
  unfold holdsF lits
  rw [List.all_eq_true]
  constructor
  · intro h c hc
    obtain ⟨x, hx, rfl⟩ := List.mem_map.1 hc
    exact List.any_eq_true.1 (h x hx)
  · exact fun h c hc => List.any_eq_true.2 (h c.1 (List.mem_map.2 ⟨c, hc, rfl⟩))
theorem holds1_eq {m : List Bool} {x : Int} : clause_Holds_1_1 x (min (m.length : Int) 2000) m = some (tru m x) := by
  generalize hn : min (m.length : Int) 2000 = n
  have hn0 : 0 ≤ n ∧ n ≤ 2000 ∧ n ≤ m.length := by omega
  have hneg : (bif ltZ x 0 then (z64 (-n)).bind fun v => bif leZ v x then (z64 (-x)).bind fun v => (z64 (v - 1)).bind fun v => (idx m v).bind fun v => some (!v) else some false else some false) = some (decide (x < 0) && tru m x) := by
    simp only [ltZ_eq, leZ_eq, bif_dec]
    by_cases h1 : x < 0
    · rw [if_pos h1, decide_eq_true h1, Bool.true_and, z64_in (by omega) (by omega), bind_in]
      by_cases h2 : -n ≤ x
      · have hm : x.natAbs - 1 < m.length := by omega
        rw [if_pos h2, z64_in (by omega) (by omega), bind_in, z64_p (show -x - 1 = ((x.natAbs - 1 : Nat) : Int) by omega) (by omega) (by omega), bind_in, idx_nat hm, bind_in]
        congr 1
        rw [Bool.eq_iff_iff, tru_iff, List.getElem?_eq_getElem hm, decide_eq_false (show ¬ 0 < x by omega)]
        have : Lit x := ⟨by omega, by omega, by omega⟩
        simp [this]
      · rw [if_neg h2]
        congr 1
        symm
        rw [Bool.eq_false_iff, Ne, tru_iff]
        rintro ⟨h3, h4⟩
        have := (List.getElem?_eq_some_iff.1 h4).1
        unfold Lit at h3
        omega
    · rw [if_neg h1, decide_eq_false h1, Bool.false_and]
  unfold clause_Holds_1_1
  rw [hneg]
  simp only [ltZ_eq, leZ_eq, bif_dec]
  by_cases h1 : 0 < x
  · rw [if_pos h1, decide_eq_false (show ¬ x < 0 by omega), Bool.false_and]
    by_cases h2 : x ≤ n
    · have hm : x.natAbs - 1 < m.length := by omega
      rw [if_pos h2, z64_p (show x - 1 = ((x.natAbs - 1 : Nat) : Int) by omega) (by omega) (by omega), bind_in, idx_nat hm, bind_in]
      have : Lit x := ⟨by omega, by omega, by omega⟩
      have ht : tru m x = m[x.natAbs - 1] := by
        rw [Bool.eq_iff_iff, tru_iff, List.getElem?_eq_getElem hm, decide_eq_true h1]
        simp [this]
      rw [ht]
      cases m[x.natAbs - 1] with
      | true => rfl
      | false => rw [cond_false]
    · rw [if_neg h2]
      have ht : tru m x = false := by
        rw [Bool.eq_false_iff, Ne, tru_iff]
        rintro ⟨h3, h4⟩
        have := (List.getElem?_eq_some_iff.1 h4).1
        unfold Lit at h3
        omega
      rw [ht]
  · rw [if_neg h1]
    by_cases h2 : x < 0
    · rw [decide_eq_true h2, Bool.true_and]
    · have ht : tru m x = false := by
        rw [Bool.eq_false_iff, Ne, tru_iff]
        rintro ⟨h3, h4⟩
        unfold Lit at h3
        omega
      rw [ht, Bool.and_false]
theorem holds2_eq {c : GClause} {m : List Bool} (hc : c.1.length ≤ 1000000) : clause_Holds_1 c (min (m.length : Int) 2000) m = some (!c.1.any (tru m)) := by
  have hb : ∀ k (hk : k < c.1.length), slices_IndexFunc_int_int_v5.b1 c.1 (min (m.length : Int) 2000) m (k : Int) = some (if tru m c.1[k] = true then .inr (k : Int) else .inl ((k + 1 : Nat) : Int)) := fun k hk => by
    simp only [slices_IndexFunc_int_int_v5.b1, lt_n hk, cond_true, idx_nat hk, bind_in, holds1_eq, z64_nx hk (by omega)]
    exact bif_pick
  have he : slices_IndexFunc_int_int_v5.b1 c.1 (min (m.length : Int) 2000) m (c.1.length : Int) = some (.inr (-1)) := by simp only [slices_IndexFunc_int_int_v5.b1, lt_e, cond_false]
  obtain ⟨i, h1, h2, _⟩ := loop_idx (body := fun x => slices_IndexFunc_int_int_v5.b1 c.1 (min (m.length : Int) 2000) m x) c.1 (tru m) hb he (by omega)
  unfold clause_Holds_1 slices_ContainsFunc_int_int_v4
  rw [show slices_IndexFunc_int_int_v5 c.1 (min (m.length : Int) 2000) m = some i from h1, bind_in, bind_in, h2]
theorem holds_eq {l : List GClause} {m : List Bool} (h : Ok (lits l)) : clause_Holds l m = some (holdsF l m) := by
  obtain ⟨h200, hc⟩ := h
  rw [List.length_map] at h200
  have hb : ∀ k (hk : k < l.length), slices_IndexFunc_api_Clause_api_Clause_v2.b1 l (min (m.length : Int) 2000) m (k : Int) = some (if (fun c : GClause => !c.1.any (tru m)) l[k] = true then .inr (k : Int) else .inl ((k + 1 : Nat) : Int)) := fun k hk => by
    simp only [slices_IndexFunc_api_Clause_api_Clause_v2.b1, lt_n hk, cond_true, idx_nat hk, bind_in, holds2_eq (c := l[k]) (hc _ (List.mem_map.2 ⟨_, List.getElem_mem hk, rfl⟩)), z64_nx hk (by omega)]
    exact bif_pick
  have he : slices_IndexFunc_api_Clause_api_Clause_v2.b1 l (min (m.length : Int) 2000) m (l.length : Int) = some (.inr (-1)) := by simp only [slices_IndexFunc_api_Clause_api_Clause_v2.b1, lt_e, cond_false]
  obtain ⟨i, h1, h2, _⟩ := loop_idx (body := fun x => slices_IndexFunc_api_Clause_api_Clause_v2.b1 l (min (m.length : Int) 2000) m x) l (fun c : GClause => !c.1.any (tru m)) hb he (by omega)
  unfold clause_Holds slices_ContainsFunc_api_Clause_api_Clause_v2
  rw [show slices_IndexFunc_api_Clause_api_Clause_v2 l (min (m.length : Int) 2000) m = some i from h1, bind_in, bind_in, h2]
  unfold holdsF
  rw [List.any_eq_not_all_not, Bool.not_not]
  simp
/-! ### bounds -/
/-! ### laws of what follows -/
theorem Der.sub {C C' : List (List Int)} {s s' : List Int} {x : Int} (h : Der C s x) (hs : ∀ x ∈ s, Lit x → Der C' s' x) (hC : ∀ c ∈ C, ∃ c' ∈ C', ∀ x, x ∈ c ↔ x ∈ c') : Der C' s' x := by
  refine h.least (Der C' s') hs fun c hc x hx hl ho => ?_
  obtain ⟨c', h1, h2⟩ := hC c hc
  exact .unit h1 ((h2 x).1 hx) hl fun y hy hyl hne => ho y ((h2 y).2 hy) hyl hne
theorem Fails.sub {C C' : List (List Int)} {s s' : List Int} (h : Fails C s) (hs : ∀ x ∈ s, Lit x → Der C' s' x) (hC : ∀ c ∈ C, ∃ c' ∈ C', ∀ x, x ∈ c ↔ x ∈ c') : Fails C' s' := by
  rcases h with ⟨c, hc, ho⟩ | ⟨x, h1, h2⟩
  · obtain ⟨c', h1, h2⟩ := hC c hc
    exact .inl ⟨c', h1, fun y hy hl => (ho y ((h2 y).2 hy) hl).sub hs hC⟩
  · exact .inr ⟨x, h1.sub hs hC, h2.sub hs hC⟩
theorem Fails.mono {C C' : List (List Int)} {s s' : List Int} (h : Fails C s) (hs : ∀ x ∈ s, x ∈ s') (hC : ∀ c ∈ C, c ∈ C') : Fails C' s' :=
  h.sub (fun x hx hl => .start (hs x hx) hl) fun c hc => ⟨c, hC c hc, fun _ => Iff.rfl⟩
theorem Der.mono {C C' : List (List Int)} {s s' : List Int} {x : Int} (h : Der C s x) (hs : ∀ x ∈ s, x ∈ s') (hC : ∀ c ∈ C, c ∈ C') : Der C' s' x :=
  h.sub (fun x hx hl => .start (hs x hx) hl) fun c hc => ⟨c, hC c hc, fun _ => Iff.rfl⟩
/-- what follows is true in each model -/
theorem Der.tru {C : List (List Int)} {s : List Int} {m : List Bool} {x : Int} (h : Der C s x) (hC : ∀ c ∈ C, ∃ x ∈ c, tru m x = true) (hs : ∀ x ∈ s, Lit x → tru m x = true) : tru m x = true := by
  refine h.least (fun x => Go.Proofs.Ythibbellkcdodaa.tru m x = true) hs fun c hc x hx hl ho => ?_
  obtain ⟨z, hz, ht⟩ := hC c hc
  by_cases e : z = x
  · rw [← e]; exact ht
  · exact (tru_neg ht (ho z hz (tru_iff.1 ht).1 e)).elim
theorem Fails.no {C : List (List Int)} {s : List Int} {m : List Bool} (h : Fails C s) (hC : ∀ c ∈ C, ∃ x ∈ c, tru m x = true) (hs : ∀ x ∈ s, Lit x → tru m x = true) : False := by
  rcases h with ⟨c, hc, ho⟩ | ⟨x, h1, h2⟩
  · obtain ⟨z, hz, ht⟩ := hC c hc
    exact tru_neg ht ((ho z hz (tru_iff.1 ht).1).tru hC hs)
  · exact tru_neg (h1.tru hC hs) (h2.tru hC hs)
/-- ascending lists with the same numbers -/
theorem sorted_ext : ∀ {l m : List Int}, l.Pairwise (· < ·) → m.Pairwise (· < ·) → (∀ x, x ∈ l ↔ x ∈ m) → l = m
  | [], [], _, _, _ => rfl
  | [], y :: m, _, _, h => by have := (h y).2 (by simp); cases this
  | x :: l, [], _, _, h => by have := (h x).1 (by simp); cases this
  | x :: l, y :: m, h1, h2, h => by
    obtain ⟨h3, h4⟩ := List.pairwise_cons.1 h1
    obtain ⟨h5, h6⟩ := List.pairwise_cons.1 h2
    have e : x = y := by
      rcases List.mem_cons.1 ((h x).1 (by simp)) with e | e
      · exact e
      · rcases List.mem_cons.1 ((h y).2 (by simp)) with e2 | e2
        · exact e2.symm
        · have := h5 x e
          have := h3 y e2
          omega
    subst e
    rw [sorted_ext h4 h6 fun z => ⟨fun hz => ?_, fun hz => ?_⟩]
    · exact (List.mem_cons.1 ((h z).1 (List.mem_cons_of_mem _ hz))).resolve_left fun e => by have := h3 z hz; omega
    · exact (List.mem_cons.1 ((h z).2 (List.mem_cons_of_mem _ hz))).resolve_left fun e => by have := h5 z hz; omega
end Go.Proofs.Ythibbellkcdodaa
