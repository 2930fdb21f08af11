/-
  Layer 26 (clause): the reference.
-/
import Derived.Test.YtbkdiclfhoelbaaC6
namespace Go.Proofs.Ytbkdiclfhoelbaa
open Go.Lad
set_option linter.unusedVariables false
set_option linter.unusedSimpArgs false
set_option linter.unusedSectionVars false
theorem open_eq {v : List Bool} {c : List Int} (hv : v.length = 4001) (hl : c.length ≤ 1000000) : ∃ r, ladingref26_open v c = some r ∧ LookOK v (own c) r := by
  unfold ladingref26_open
  refine loopF_inv (body := fun x => ladingref26_open.b1 v c x.1 x.2)
    (fun k x => x.2 = (k : Int) ∧ ((x.1 = 0 ∧ ∀ y ∈ c.take k, Lit y → ins v (-y) = true) ∨ (x.1 ∈ c.take k ∧ Lit x.1 ∧ ins v (-x.1) = false ∧ ∀ y ∈ c.take k, Lit y → y ≠ x.1 → ins v (-y) = true)))
    c.length ⟨rfl, .inl ⟨rfl, by simp⟩⟩ (fun k hk x hx => ?_) (fun x hx => ?_) (by omega)
  · obtain ⟨f, i⟩ := x
    obtain ⟨h1, h2⟩ := hx
    simp only at h1 h2
    subst h1
    have hskip : (Lit c[k] → ins v (-c[k]) = true ∨ c[k] = f) → ((f = 0 ∧ ∀ y ∈ c.take (k + 1), Lit y → ins v (-y) = true) ∨ (f ∈ c.take (k + 1) ∧ Lit f ∧ ins v (-f) = false ∧ ∀ y ∈ c.take (k + 1), Lit y → y ≠ f → ins v (-y) = true)) := fun hs => by
      rw [take_snoc c k hk]
      rcases h2 with ⟨h2, h3⟩ | ⟨h2, h3, h4, h5⟩
      · refine .inl ⟨h2, fun y hy hyl => ?_⟩
        rcases List.mem_append.1 hy with hy | hy
        · exact h3 y hy hyl
        · rw [List.mem_singleton.1 hy] at hyl ⊢
          exact (hs hyl).resolve_right fun e => hyl.1 (e.trans h2)
      · refine .inr ⟨List.mem_append_left _ h2, h3, h4, fun y hy hyl hne => ?_⟩
        rcases List.mem_append.1 hy with hy | hy
        · exact h5 y hy hyl hne
        · rw [List.mem_singleton.1 hy] at hyl hne ⊢
          exact (hs hyl).resolve_right hne
    simp only [ladingref26_open.b1, lt_n hk, cond_true, idx_nat hk, bind_in, Lit_eq]
    by_cases hck : Lit c[k]
    · rw [decide_eq_true hck]
      simp only [Bool.not_true, cond_false, z64_litn hck, bind_in, idx_ins hv hck.neg rfl]
      cases hi : ins v (-c[k]) with
      | true =>
        rw [cond_true, bind_in]
        simp only [ladingref26_open.j1, cond_true, z64_nx hk (by omega), bind_in]
        exact .inl ⟨_, rfl, rfl, hskip fun _ => .inl hi⟩
      | false =>
        rw [cond_false, bind_in, eqZ_eq]
        by_cases hcf : c[k] = f
        · rw [decide_eq_true hcf]
          simp only [ladingref26_open.j1, cond_true, z64_nx hk (by omega), bind_in]
          exact .inl ⟨_, rfl, rfl, hskip fun _ => .inr hcf⟩
        · rw [decide_eq_false hcf]
          simp only [ladingref26_open.j1, cond_false, eqZ_eq, z64_nx hk (by omega), bind_in]
          rcases h2 with ⟨h2, h3⟩ | ⟨h2, h3, h4, h5⟩
          · subst h2
            refine .inl ⟨_, rfl, rfl, .inr ?_⟩
            rw [take_snoc c k hk]
            refine ⟨List.mem_append_right _ (List.mem_singleton.2 rfl), hck, hi, fun y hy hyl hne => ?_⟩
            rcases List.mem_append.1 hy with hy | hy
            · exact h3 y hy hyl
            · exact absurd (List.mem_singleton.1 hy) hne
          · exact .inr ⟨_, by rw [decide_eq_false h3.1]; rfl, .inr (.inr ⟨rfl, f, mem_own.2 ⟨List.mem_of_mem_take h2, h3⟩, c[k], mem_own.2 ⟨List.getElem_mem hk, hck⟩, fun e => hcf e.symm, h4, hi⟩)⟩
    · rw [decide_eq_false hck]
      simp only [Bool.not_false, cond_true, bind_in, ladingref26_open.j1, z64_nx hk (by omega)]
      exact .inl ⟨_, rfl, rfl, hskip fun h => absurd h hck⟩
  · obtain ⟨f, i⟩ := x
    obtain ⟨h1, h2⟩ := hx
    simp only at h1 h2
    subst h1
    rw [List.take_length] at h2
    refine ⟨(f, true), by simp only [ladingref26_open.b1, lt_e, cond_false], ?_⟩
    rcases h2 with ⟨h2, h3⟩ | ⟨h2, h3, h4, h5⟩
    · exact .inl ⟨rfl, h2, fun y hy => h3 y (mem_own.1 hy).1 (mem_own.1 hy).2⟩
    · exact .inr (.inl ⟨rfl, mem_own.2 ⟨h2, h3⟩, h3, h4, fun y hy hne => h5 y (mem_own.1 hy).1 (mem_own.1 hy).2 hne⟩)
/-- a clause from which nothing new follows -/
def Shut (v : List Bool) (c : List Int) : Prop := ∃ r, LookOK v (own c) r ∧ (r.2 = false ∨ (r.1 ≠ 0 ∧ ins v r.1 = true))
/-- the state of the reference's loops -/
structure RInv (C : List (List Int)) (s : List Int) (v : List Bool) : Prop where
  len : v.length = 4001
  zero : ins v 0 = false
  din : ∀ x, Lit x → ins v x = true → Der C s x
  st : ∀ x ∈ s, Lit x → ins v x = true
theorem RInv.key {C : List (List Int)} {s : List Int} {v : List Bool} (h : RInv C s v) (hs : ∀ c ∈ C, Shut v c) : (∀ x, Der C s x → ins v x = true) ∧ ∀ c ∈ C, ¬ ∀ y ∈ c, Lit y → Der C s (-y) := by
  have k1 : ∀ x, Der C s x → ins v x = true := fun x hx => hx.least (fun x => ins v x = true) h.st fun c hc x hx hl ho => by
    obtain ⟨r, h1, h2⟩ := hs c hc
    rcases h1 with ⟨h3, h4, h5⟩ | ⟨h3, h4, h5, h6, h7⟩ | ⟨h3, y, hy, z, hz, hyz, h6, h7⟩
    · rw [h3] at h2
      exact absurd h4 (h2.resolve_left (by simp)).1
    · rw [h3] at h2
      have h8 := (h2.resolve_left (by simp)).2
      have : r.1 = x := Classical.byContradiction fun hne => by
        have h9 : ins v (-r.1) = true := ho r.1 (mem_own.1 h4).1 h5 hne
        rw [h6] at h9; cases h9
      rw [← this]; exact h8
    · by_cases hyx : y = x
      · have h9 : ins v (-z) = true := ho z (mem_own.1 hz).1 (mem_own.1 hz).2 (fun e => hyz (hyx.trans e.symm))
        rw [h7] at h9; cases h9
      · have h9 : ins v (-y) = true := ho y (mem_own.1 hy).1 (mem_own.1 hy).2 hyx
        rw [h6] at h9; cases h9
  refine ⟨k1, fun c hc ho => ?_⟩
  obtain ⟨r, h1, h2⟩ := hs c hc
  rcases h1 with ⟨h3, h4, h5⟩ | ⟨h3, h4, h5, h6, h7⟩ | ⟨h3, y, hy, z, hz, hyz, h6, h7⟩
  · rw [h3] at h2
    exact absurd h4 (h2.resolve_left (by simp)).1
  · have h9 := k1 _ (ho r.1 (mem_own.1 h4).1 h5)
    rw [h6] at h9; cases h9
  · have h9 := k1 _ (ho y (mem_own.1 hy).1 (mem_own.1 hy).2)
    rw [h6] at h9; cases h9
theorem pass_eq {l : List GClause} {s : List Int} {v : List Bool} (hC : Ok (lits l)) (h : RInv (lits l) s v) :
    ∃ r, loopF (fun x => ladingref26_closure.b2 l x.1 x.2.1 x.2.2) (false, 0, v) = some r ∧
      ((∃ w, r = .inl (false, w) ∧ RInv (lits l) s w ∧ frees w ≤ frees v ∧ ∀ c ∈ lits l, Shut w c) ∨ (∃ w, r = .inl (true, w) ∧ RInv (lits l) s w ∧ frees w < frees v) ∨ ∃ w, r = .inr (.inr (w, false)) ∧ Fails (lits l) s) := by
  have h200 := hC.1
  rw [List.length_map] at h200
  refine loopF_inv (body := fun x => ladingref26_closure.b2 l x.1 x.2.1 x.2.2)
    (fun k x => x.2.1 = (k : Int) ∧ RInv (lits l) s x.2.2 ∧ ((x.1 = false ∧ x.2.2 = v ∧ ∀ j (hj : j < l.length), j < k → Shut v l[j].1) ∨ (x.1 = true ∧ frees x.2.2 < frees v)))
    l.length ⟨rfl, h, .inl ⟨rfl, rfl, fun j _ hj => by omega⟩⟩ (fun k hk x hx => ?_) (fun x hx => ?_) (by omega)
  · obtain ⟨ch, i, w⟩ := x
    obtain ⟨h1, h2, h3⟩ := hx
    simp only at h1 h2 h3
    subst h1
    have hm : l[k].1 ∈ lits l := List.mem_map.2 ⟨_, List.getElem_mem hk, rfl⟩
    obtain ⟨r, hr, hrl⟩ := open_eq (v := w) (c := l[k].1) h2.len (hC.2 _ hm)
    have hkeep : Shut w l[k].1 → ((ch = false ∧ w = v ∧ ∀ j (hj : j < l.length), j < k + 1 → Shut v l[j].1) ∨ (ch = true ∧ frees w < frees v)) := fun hsh => by
      rcases h3 with ⟨h3, h4, h5⟩ | h3
      · refine .inl ⟨h3, h4, fun j hj hjk => ?_⟩
        rcases Nat.lt_or_ge j k with hlt | hge
        · exact h5 j hj hlt
        · have : j = k := by omega
          subst this
          rw [← h4]; exact hsh
      · exact .inr h3
    have hfr : frees w ≤ frees v := by
      rcases h3 with ⟨_, h4, _⟩ | h3
      · rw [h4]; exact Nat.le_refl _
      · omega
    simp only [ladingref26_closure.b2, lt_n hk, cond_true, idx_nat hk, bind_in, hr, z64_nx hk (by omega), bif_not, eqZ_eq]
    have hrl' := hrl
    rcases hrl with ⟨h5, h6, h7⟩ | ⟨h5, h6, h7, h8, h9⟩ | ⟨h5, y, hy, z, hz, hyz, h6, h7⟩
    · rw [h5, h6, cond_true, decide_eq_true rfl, cond_true]
      exact .inr ⟨_, rfl, .inr (.inr ⟨w, rfl, .inl ⟨_, hm, fun y hy hl => h2.din _ hl.neg (h7 y (mem_own.2 ⟨hy, hl⟩))⟩⟩)⟩
    · rw [h5, cond_true, decide_eq_false h7.1, cond_false, z64_lit h7]
      simp only [bind_in, idx_ins h2.len h7 rfl]
      cases hi : ins w r.1 with
      | true =>
        rw [cond_true]
        exact .inl ⟨_, rfl, rfl, h2, hkeep ⟨r, hrl', .inr ⟨h7.1, hi⟩⟩⟩
      | false =>
        rw [cond_false]
        have hf := frees_ins h2.len h7 hi
        have hD : Der (lits l) s r.1 := .unit hm (mem_own.1 h6).1 h7 fun y hy hl hne => h2.din _ hl.neg (h9 y (mem_own.2 ⟨hy, hl⟩) hne)
        refine .inl ⟨_, rfl, rfl, ⟨by rw [List.length_set]; exact h2.len, (ins_zero h2.len h7).trans h2.zero, fun x hx h => ?_, fun x hx hl => ?_⟩, .inr ⟨rfl, ?_⟩⟩
        · have h : ins (w.set (2000 + r.1).toNat true) x = true := h
          rw [ins_set h2.len h7 hx] at h
          by_cases e : x = r.1
          · rw [e]; exact hD
          · rw [decide_eq_false e, Bool.false_or] at h
            exact h2.din x hx h
        · show ins (w.set (2000 + r.1).toNat true) x = true
          rw [ins_set h2.len h7 hl, h2.st x hx hl, Bool.or_true]
        · show frees (w.set (2000 + r.1).toNat true) < frees v
          omega
    · rw [h5, cond_false]
      exact .inl ⟨_, rfl, rfl, h2, hkeep ⟨r, hrl', .inl h5⟩⟩
  · obtain ⟨ch, i, w⟩ := x
    obtain ⟨h1, h2, h3⟩ := hx
    simp only at h1 h2 h3
    subst h1
    refine ⟨.inl (ch, w), by simp only [ladingref26_closure.b2, lt_e, cond_false], ?_⟩
    rcases h3 with ⟨rfl, rfl, h5⟩ | ⟨rfl, h3⟩
    · refine .inl ⟨w, rfl, h2, Nat.le_refl _, fun c hc => ?_⟩
      obtain ⟨x, hx, rfl⟩ := List.mem_map.1 hc
      obtain ⟨j, hj, rfl⟩ := List.mem_iff_getElem.1 hx
      exact h5 j hj hj
    · exact .inr (.inl ⟨w, rfl, h2, h3⟩)
theorem closure_eq {l : List GClause} {s : List Int} (hC : Ok (lits l)) (hs : s.length ≤ 1000000) : ∃ r, ladingref26_closure l s = some r ∧ CloseOK (lits l) s (r.2, r.1) := by
  unfold ladingref26_closure
  have hset : ladingref26_set = some (List.replicate 4001 false) := by
    unfold ladingref26_set
    rw [msNeed_in (by omega) (by omega), bind_in]
    unfold repT
    rw [show (4001 : Int).toNat = 4001 from rfl]
  rw [hset, bind_in]
  obtain ⟨v, h1, h2⟩ := loop_keep (body := fun x => ladingref26_closure.b1 s x.1 x.2) s
    (fun k v => v.length = 4001 ∧ ins v 0 = false ∧ (∀ x, Lit x → ins v x = true → Der (lits l) s x) ∧ ∀ x ∈ s.take k, Lit x → ins v x = true)
    (Q := fun v => RInv (lits l) s v) (s0 := List.replicate 4001 false)
    ⟨by rw [List.length_replicate], ins_rep 0, fun x _ h => (by rw [ins_rep] at h; cases h), fun x hx => (by rw [List.take_zero] at hx; cases hx)⟩
    (fun k hk v hv => by
      obtain ⟨h1, h2, h3, h4⟩ := hv
      simp only [ladingref26_closure.b1, lt_n hk, cond_true, idx_nat hk, bind_in, Lit_eq, z64_nx hk (by omega)]
      refine .inl ?_
      by_cases hp : Lit s[k]
      · rw [decide_eq_true hp, cond_true, z64_lit hp]
        simp only [bind_in, idx_ins h1 hp rfl]
        refine ⟨_, rfl, by rw [List.length_set]; exact h1, (ins_zero h1 hp).trans h2, fun x hx h => ?_, fun x hx hl => ?_⟩
        · rw [ins_set h1 hp hx] at h
          by_cases e : x = s[k]
          · rw [e]; exact .start (List.getElem_mem hk) hp
          · rw [decide_eq_false e, Bool.false_or] at h
            exact h3 x hx h
        · rw [ins_set h1 hp hl]
          rw [take_snoc s k hk] at hx
          rcases List.mem_append.1 hx with hx | hx
          · rw [h4 x hx hl, Bool.or_true]
          · rw [decide_eq_true (List.mem_singleton.1 hx), Bool.true_or]
      · rw [decide_eq_false hp, cond_false]
        refine ⟨_, rfl, h1, h2, h3, fun x hx hl => ?_⟩
        rw [take_snoc s k hk] at hx
        rcases List.mem_append.1 hx with hx | hx
        · exact h4 x hx hl
        · exact absurd (List.mem_singleton.1 hx ▸ hl) hp)
    (fun v hv => by
      obtain ⟨h1, h2, h3, h4⟩ := hv
      rw [List.take_length] at h4
      exact ⟨v, by simp only [ladingref26_closure.b1, lt_e, cond_false], h1, h2, h3, h4⟩)
    (by omega)
  rw [h1, bind_in]
  unfold ladingref26_closure.j3
  have hfr : frees v ≤ 4001 := by have := frees_le v; rw [h2.len] at this; exact this
  obtain ⟨r, h3, h4⟩ := loopF_less (body := fun x => ladingref26_closure.b3 l x.1 x.2) (x := (true, v)) (fun y => RInv (lits l) s y.2 ∧ (y.1 = false → ∀ c ∈ lits l, Shut y.2 c)) (fun y => 2 * frees y.2 + y.1.toNat)
    (Q := fun r => (∃ w, r = .inl w ∧ RInv (lits l) s w ∧ ∀ c ∈ lits l, Shut w c) ∨ ∃ w, r = .inr (w, false) ∧ Fails (lits l) s)
    ⟨h2, fun h => by cases h⟩
    (fun y hy => by
      obtain ⟨ch, w⟩ := y
      obtain ⟨hI, hS⟩ := hy
      simp only at hI hS
      cases ch with
      | false =>
        exact .inr ⟨.inl w, by simp only [ladingref26_closure.b3, cond_false], .inl ⟨w, rfl, hI, hS rfl⟩⟩
      | true =>
        obtain ⟨r, h5, h6⟩ := pass_eq hC hI
        have hst : ladingref26_closure.b3 l true w = some r := by
          unfold ladingref26_closure.b3
          rw [cond_true]; exact h5
        rcases h6 with ⟨u, rfl, h7, h8, h9⟩ | ⟨u, rfl, h7, h8⟩ | ⟨u, rfl, h7⟩
        · exact .inl ⟨_, hst, ⟨h7, fun _ => h9⟩, by show 2 * frees u + 0 < 2 * frees w + 1; omega⟩
        · exact .inl ⟨_, hst, ⟨h7, fun h => by cases h⟩, by show 2 * frees u + 1 < 2 * frees w + 1; omega⟩
        · exact .inr ⟨_, hst, .inr ⟨u, rfl, h7⟩⟩)
    (by show 2 * frees v + 1 < _; omega)
  rw [h3, bind_in]
  rcases h4 with ⟨w, rfl, h5, h6⟩ | ⟨w, rfl, h5⟩
  · obtain ⟨k1, k2⟩ := h5.key h6
    show ∃ r, ladingref26_closure.j2 w = some r ∧ _
    unfold ladingref26_closure.j2
    refine loopF_inv (body := fun x => ladingref26_closure.b4 w x) (fun k x => x = ((k + 1 : Nat) : Int) ∧ ∀ y : Int, 1 ≤ y → y ≤ k → ¬ (ins w y = true ∧ ins w (-y) = true)) 2000 ⟨rfl, fun y h1 h2 => by omega⟩ (fun k hk x hx => ?_) (fun x hx => ?_) (by omega)
    · obtain ⟨rfl, hx⟩ := hx
      have hl : Lit ((k + 1 : Nat) : Int) := ⟨by omega, by omega, by omega⟩
      simp only [ladingref26_closure.b4, leZ_eq]
      rw [decide_eq_true (by omega), cond_true, z64_lit hl]
      simp only [bind_in, idx_ins h5.len hl rfl, z64_litn hl, idx_ins h5.len hl.neg rfl]
      have hnext : ¬ (ins w ((k + 1 : Nat) : Int) = true ∧ ins w (-((k + 1 : Nat) : Int)) = true) → (∃ y, ladingref26_closure.j1 w ((k + 1 : Nat) : Int) false = some (.inl y) ∧ y = ((k + 1 + 1 : Nat) : Int) ∧ ∀ z : Int, 1 ≤ z → z ≤ ((k + 1 : Nat) : Int) → ¬ (ins w z = true ∧ ins w (-z) = true)) := fun hn => by
        refine ⟨_, by simp only [ladingref26_closure.j1, cond_false, z64_succ (show k + 1 + 1 ≤ 9223372036854775807 by omega), bind_in], rfl, fun z h1 h2 => ?_⟩
        by_cases hz : z = ((k + 1 : Nat) : Int)
        · rw [hz]; exact hn
        · exact hx z h1 (by omega)
      cases h7 : ins w ((k + 1 : Nat) : Int) with
      | false =>
        rw [cond_false, bind_in]
        exact .inl (hnext fun h => by rw [h7] at h; cases h.1)
      | true =>
        rw [cond_true, bind_in]
        cases h8 : ins w (-((k + 1 : Nat) : Int)) with
        | false => exact .inl (hnext fun h => by rw [h8] at h; cases h.2)
        | true =>
          refine .inr ⟨(w, false), by simp only [ladingref26_closure.j1, cond_true], .inl ⟨rfl, .inr ⟨_, h5.din _ hl h7, h5.din _ hl.neg h8⟩⟩⟩
    · obtain ⟨rfl, hx⟩ := hx
      refine ⟨(w, true), ?_, .inr ⟨rfl, ?_, h5.len, h5.zero, fun x hx => ⟨h5.din x hx, k1 x⟩⟩⟩
      · simp only [ladingref26_closure.b4, leZ_eq]
        rw [decide_eq_false (by omega), cond_false]
      · rintro (⟨c, hc, ho⟩ | ⟨x, h7, h8⟩)
        · exact k2 c hc ho
        · have hl := h7.lit
          unfold Lit at hl
          by_cases hp : 0 < x
          · exact hx x (by omega) (by omega) ⟨k1 _ h7, k1 _ h8⟩
          · exact hx (-x) (by omega) (by omega) ⟨k1 _ h8, by rw [Int.neg_neg]; exact k1 _ h7⟩
  · exact ⟨_, rfl, .inl ⟨rfl, h5⟩⟩
end Go.Proofs.Ytbkdiclfhoelbaa
