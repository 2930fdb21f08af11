/-
  Plain texts of layers 26 to 28.
-/
import Derived.Test.YthibbellkcdodaaC4
/-
  Layer 27 (solve): what the search finds.
-/
namespace Go.Proofs.Ythibbellkcdodaa
open Go.Lad
set_option linter.unusedVariables false
set_option linter.unusedSimpArgs false
set_option linter.unusedSectionVars false
/-- the models that are asked for -/
def Sat (C : List (List Int)) (n : Nat) (asm : List Int) (m : List Bool) : Prop := m.length = n ∧ (∀ c ∈ C, ∃ x ∈ c, tru m x = true) ∧ ∀ x ∈ asm, tru m x = true
/-- a clause for each literal -/
def units (asm : List Int) : List (List Int) := asm.map fun x => [x]
def Before (m' m : List Bool) : Prop := ∃ v, m'.take v = m.take v ∧ m'[v]? = some false ∧ m[v]? = some true
/-- what is asked is right -/
structure Asked (C : List (List Int)) (n : Nat) (asm : List Int) : Prop where
  small : n ≤ 2000
  right : ∀ c ∈ C, ∀ x ∈ c, Lit x ∧ x.natAbs ≤ n
  asmOK : ∀ x ∈ asm, Lit x ∧ x.natAbs ≤ n
/-- what every state of the search satisfies -/
structure Inv2 (C : List (List Int)) (n : Nat) (asm : List Int) (L : List (List Int)) (D : List Int) : Prop where
  good : Good n (L, D)
  imp : ∀ m, Sat C n asm m → ∀ c ∈ L, ∃ x ∈ c, tru m x = true
  closed : ∀ i (hi : i < D.length), ∀ v : Nat, (v : Int) + 1 < -D[i] → Der (C ++ L) (asm ++ D.take i) ((v : Int) + 1) ∨ Der (C ++ L) (asm ++ D.take i) (-(v : Int) - 1)
  asc : D.Pairwise (· > ·)
  prf : allF (C ++ units asm) L
  pre : ∀ c ∈ L, ¬ ∃ k, k ≤ D.length ∧ neg c = D.take k
  nd : L.Nodup
  pos : ∀ c ∈ L, c.Pairwise (· < ·) ∧ ∀ x ∈ c, 1 ≤ x ∧ x ≤ (n : Int)
theorem neg_neg (D : List Int) : neg (neg D) = D := by
  unfold neg
  rw [List.map_map]
  conv => rhs; rw [← List.map_id D]
  exact List.map_congr_left fun x _ => by simp
theorem mem_neg {D : List Int} {x : Int} : x ∈ neg D ↔ -x ∈ D := by
  unfold neg
  rw [List.mem_map]
  constructor
  · rintro ⟨y, hy, rfl⟩; rw [Int.neg_neg]; exact hy
  · exact fun h => ⟨-x, h, by simp⟩
theorem low_lit {n : Nat} {x : Int} (hn : n ≤ 2000) (h : -(n : Int) ≤ x ∧ x ≤ -1) : Lit x ∧ x.natAbs ≤ n := ⟨⟨by omega, by omega, by omega⟩, by omega⟩
theorem inv2_nil (C : List (List Int)) (n : Nat) (asm : List Int) : Inv2 C n asm [] [] :=
  ⟨good_nil n, fun m _ c hc => (by cases hc), fun i hi => (by simp at hi), .nil, trivial, fun c hc => (by cases hc), List.nodup_nil, fun c hc => (by cases hc)⟩
theorem neg_asc {D : List Int} (h : D.Pairwise (· > ·)) : (neg D).Pairwise (· < ·) := by
  unfold neg
  rw [List.pairwise_map]
  exact h.imp fun {a b} hab => by omega
/-- a conflict is learnt -/
theorem Inv2.learn {C : List (List Int)} {n : Nat} {asm : List Int} {L : List (List Int)} {D : List Int} (h : Inv2 C n asm L D) (ha : Asked C n asm) (hf : Fails (C ++ L) (asm ++ D)) :
    (∀ m, Sat C n asm m → ∃ x ∈ neg D, tru m x = true) ∧ allF (C ++ units asm) (L ++ [neg D]) ∧ neg D ∉ L ∧ ((neg D).Pairwise (· < ·) ∧ ∀ x ∈ neg D, 1 ≤ x ∧ x ≤ (n : Int)) := by
  refine ⟨fun m hm => ?_, ?_, fun hmem => h.pre _ hmem ⟨D.length, Nat.le_refl _, by rw [neg_neg, List.take_length]⟩, neg_asc h.asc, fun x hx => ?_⟩
  · refine Classical.byContradiction fun hno => hf.no (m := m) (fun c hc => ?_) (fun x hx _ => ?_)
    · rcases List.mem_append.1 hc with hc | hc
      · exact hm.2.1 c hc
      · exact h.imp m hm c hc
    · rcases List.mem_append.1 hx with hx | hx
      · exact hm.2.2 x hx
      · have hl := low_lit ha.small (h.good.low x hx)
        rcases tru_dec hl.1 (by rw [hm.1]; exact hl.2) with ht | ht
        · exact ht
        · exact absurd ⟨-x, mem_neg.2 (by rw [Int.neg_neg]; exact hx), ht⟩ hno
  · rw [allF_append]
    refine ⟨h.prf, allF_one.2 ?_⟩
    refine hf.sub (fun x hx hl => ?_) fun c hc => ⟨c, ?_, fun _ => Iff.rfl⟩
    · rcases List.mem_append.1 hx with hx | hx
      · refine .unit (c := [x]) (List.mem_append_left _ (List.mem_append_right _ (List.mem_map.2 ⟨x, hx, rfl⟩))) (by simp) hl fun y hy _ hne => absurd (List.mem_singleton.1 hy) hne
      · exact .start (mem_negs.2 ⟨mem_neg.2 (by rw [Int.neg_neg]; exact hx), hl⟩) hl
    · rcases List.mem_append.1 hc with hc | hc
      · exact List.mem_append_left _ (List.mem_append_left _ hc)
      · exact List.mem_append_right _ hc
  · have := h.good.low _ (mem_neg.1 hx)
    omega
theorem Inv2.step {C : List (List Int)} {n : Nat} {asm : List Int} {L : List (List Int)} {D : List Int} {st : List (List Int) × List Int} (h : Inv2 C n asm L D) (ha : Asked C n asm) (hs : Go.Proofs.Ythibbellkcdodaa.step C n asm (L, D) = .inl st) : Inv2 C n asm st.1 st.2 := by
  have hgood := (h.good.step ha.small hs).1
  unfold Go.Proofs.Ythibbellkcdodaa.step at hs
  simp only at hs
  split at hs
  · rename_i hfail
    have hf := failB_iff.1 hfail
    split at hs
    · cases hs
    · split at hs
      · cases hs
      · rename_i hD
        injection hs with hs
        subst hs
        obtain ⟨h1, h2, h3, h4⟩ := h.learn ha hf
        have hsub : ∀ c ∈ C ++ L, c ∈ C ++ (L ++ [neg D]) := fun c hc => by
          rw [← List.append_assoc]; exact List.mem_append_left _ hc
        refine ⟨hgood, fun m hm c hc => ?_, fun i hi v hv => ?_, ?_, h2, fun c hc => ?_, ?_, fun c hc => ?_⟩
        · rcases List.mem_append.1 hc with hc | hc
          · exact h.imp m hm c hc
          · rw [List.mem_singleton.1 hc]; exact h1 m hm
        · have hi' : i < D.length := by rw [List.length_dropLast] at hi; omega
          have e : D.dropLast[i] = D[i] := List.getElem_dropLast hi
          have e2 : D.dropLast.take i = D.take i := by
            rw [List.dropLast_eq_take, List.take_take, Nat.min_eq_left (by rw [List.length_dropLast] at hi; omega)]
          simp only at hv ⊢
          rw [e] at hv
          rw [e2]
          exact (h.closed i hi' v hv).imp (fun d => d.mono (fun _ h => h) hsub) (fun d => d.mono (fun _ h => h) hsub)
        · rw [List.dropLast_eq_take]
          exact h.asc.sublist (List.take_sublist _ _)
        · rintro ⟨k, hk, he⟩
          simp only at hk he
          rw [List.length_dropLast] at hk
          rw [List.dropLast_eq_take, List.take_take, Nat.min_eq_left (by omega)] at he
          rcases List.mem_append.1 hc with hc | hc
          · exact h.pre c hc ⟨k, by omega, he⟩
          · rw [List.mem_singleton.1 hc, neg_neg] at he
            have := congrArg List.length he
            rw [List.length_take] at this
            have hpos := List.length_pos_iff.2 hD
            omega
        · rw [List.nodup_append]
          exact ⟨h.nd, by simp, fun a ha b hb => by rw [List.mem_singleton.1 hb]; exact fun e => h3 (e ▸ ha)⟩
        · rcases List.mem_append.1 hc with hc | hc
          · exact h.pos c hc
          · rw [List.mem_singleton.1 hc]; exact h4
  · rename_i hfail
    split at hs
    · rename_i hv
      injection hs with hs
      subst hs
      obtain ⟨-, ho1, ho2⟩ := openN_spec (clos (C ++ L) (asm ++ D)) n
      have hop := ho2 hv
      generalize openN (clos (C ++ L) (asm ++ D)) n = v at *
      unfold opn at hop
      rw [Bool.and_eq_true, decide_eq_true_eq, decide_eq_true_eq] at hop
      have hcl : ∀ j : Nat, j < v → Der (C ++ L) (asm ++ D) ((j : Int) + 1) ∨ Der (C ++ L) (asm ++ D) (-(j : Int) - 1) := fun j hj => by
        have := ho1 j hj
        unfold opn at this
        rw [Bool.and_eq_false_iff, decide_eq_false_iff_not, decide_eq_false_iff_not, Classical.not_not, Classical.not_not] at this
        exact this.imp mem_clos.1 mem_clos.1
      have hbig : ∀ x ∈ D, -(v : Int) - 1 < x := fun x hx => by
        have hlow := h.good.low x hx
        have hl := low_lit ha.small hlow
        refine Classical.byContradiction fun hle => ?_
        have hxd : Der (C ++ L) (asm ++ D) x := .start (List.mem_append_right _ hx) hl.1
        by_cases hxe : x = -(v : Int) - 1
        · exact hop.2 (mem_clos.2 (hxe ▸ hxd))
        · obtain ⟨i, hi, hie⟩ := List.mem_iff_getElem.1 hx
          have := h.closed i hi v (by omega)
          have hmono : ∀ y, Der (C ++ L) (asm ++ D.take i) y → Der (C ++ L) (asm ++ D) y := fun y hy => hy.mono (fun z hz => by
            rcases List.mem_append.1 hz with hz | hz
            · exact List.mem_append_left _ hz
            · exact List.mem_append_right _ (List.mem_of_mem_take hz)) (fun _ h => h)
          rcases this with hd | hd
          · exact hop.1 (mem_clos.2 (hmono _ hd))
          · exact hop.2 (mem_clos.2 (hmono _ hd))
      refine ⟨hgood, h.imp, fun i hi w hw => ?_, ?_, h.prf, fun c hc => ?_, h.nd, h.pos⟩
      · simp only at hi hw ⊢
        rw [List.length_append, List.length_singleton] at hi
        rcases Nat.lt_or_ge i D.length with hlt | hge
        · rw [List.getElem_append_left hlt] at hw
          rw [List.take_append_of_le_length (by omega)]
          exact h.closed i hlt w hw
        · have : i = D.length := by omega
          subst this
          rw [List.getElem_append_right (Nat.le_refl _)] at hw
          simp only [Nat.sub_self, List.getElem_cons_zero] at hw
          rw [List.take_left]
          exact hcl w (by omega)
      · rw [List.pairwise_append]
        exact ⟨h.asc, by simp, fun a ha b hb => by rw [List.mem_singleton.1 hb]; have := hbig a ha; omega⟩
      · rintro ⟨k, hk, he⟩
        simp only at hk he
        rw [List.length_append, List.length_singleton] at hk
        rcases Nat.lt_or_ge D.length k with hlt | hge
        · rw [List.take_of_length_le (by rw [List.length_append, List.length_singleton]; omega)] at he
          have hce : c = neg D ++ [(v : Int) + 1] := by
            have := congrArg neg he
            rw [neg_neg, neg_snoc] at this
            rw [this]; congr 2; omega
          refine hop.1 (mem_clos.2 (.unit (c := c) (List.mem_append_right _ hc) (by rw [hce]; simp) ⟨by omega, by omega, by have := ha.small; omega⟩ fun y hy hyl hne => ?_))
          rw [hce] at hy
          rcases List.mem_append.1 hy with hy | hy
          · exact .start (List.mem_append_right _ (mem_neg.1 hy)) hyl.neg
          · exact absurd (List.mem_singleton.1 hy) hne
        · rw [List.take_append_of_le_length hge] at he
          exact h.pre c hc ⟨k, hge, he⟩
    · cases hs
/-- the model of a search that ends -/
theorem Inv2.found {C : List (List Int)} {n : Nat} {asm : List Int} {L : List (List Int)} {D : List Int} (h : Inv2 C n asm L D) (ha : Asked C n asm) (hf : ¬ Fails (C ++ L) (asm ++ D)) (ho : ¬ openN (clos (C ++ L) (asm ++ D)) n < n) :
    Sat C n asm (modelF (clos (C ++ L) (asm ++ D)) n) ∧ ∀ m', Sat C n asm m' → ¬ Before m' (modelF (clos (C ++ L) (asm ++ D)) n) := by
  have hsm := ha.small
  have hcl : ∀ j : Nat, j < n → Der (C ++ L) (asm ++ D) ((j : Int) + 1) ∨ Der (C ++ L) (asm ++ D) (-(j : Int) - 1) := fun j hj => by
    have := (openN_spec (clos (C ++ L) (asm ++ D)) n).2.1 j (by omega)
    unfold opn at this
    rw [Bool.and_eq_false_iff, decide_eq_false_iff_not, decide_eq_false_iff_not, Classical.not_not, Classical.not_not] at this
    exact this.imp mem_clos.1 mem_clos.1
  have hat : ∀ v, v < n → (modelF (clos (C ++ L) (asm ++ D)) n)[v]? = some (decide ((v : Int) + 1 ∈ clos (C ++ L) (asm ++ D))) := fun v hv => by
    unfold modelF
    rw [List.getElem?_map, List.getElem?_range hv]; rfl
  have hcon : ∀ x, Der (C ++ L) (asm ++ D) x → ¬ Der (C ++ L) (asm ++ D) (-x) := fun x h1 h2 => hf (.inr ⟨x, h1, h2⟩)
  have htru : ∀ x, Lit x → x.natAbs ≤ n → (tru (modelF (clos (C ++ L) (asm ++ D)) n) x = true ↔ Der (C ++ L) (asm ++ D) x) := fun x hl hx => by
    rw [tru_iff]
    have hx0 := hl.1
    rw [hat _ (by omega)]
    by_cases hp : 0 < x
    · have e : ((x.natAbs - 1 : Nat) : Int) + 1 = x := by omega
      rw [e, decide_eq_true hp]
      constructor
      · rintro ⟨_, h2⟩
        exact mem_clos.1 (of_decide_eq_true (Option.some.inj h2))
      · exact fun hd => ⟨hl, by rw [decide_eq_true (mem_clos.2 hd)]⟩
    · have e : ((x.natAbs - 1 : Nat) : Int) + 1 = -x := by omega
      rw [e, decide_eq_false hp]
      constructor
      · rintro ⟨_, h2⟩
        have hno : ¬ Der (C ++ L) (asm ++ D) (-x) := fun hd => of_decide_eq_false (Option.some.inj h2) (mem_clos.2 hd)
        rcases hcl (x.natAbs - 1) (by omega) with hd | hd
        · rw [e] at hd; exact absurd hd hno
        · rwa [show -((x.natAbs - 1 : Nat) : Int) - 1 = x by omega] at hd
      · exact fun hd => ⟨hl, by rw [decide_eq_false fun hm => hcon x hd (mem_clos.1 hm)]⟩
  have hsat : Sat C n asm (modelF (clos (C ++ L) (asm ++ D)) n) := by
    refine ⟨modelF_len _ n, fun c hc => ?_, fun x hx => ?_⟩
    · refine Classical.byContradiction fun hno => hf (.inl ⟨c, List.mem_append_left _ hc, fun y hy hl => ?_⟩)
      obtain ⟨h1, h2⟩ := ha.right c hc y hy
      have hny : ¬ Der (C ++ L) (asm ++ D) y := fun hd => hno ⟨y, hy, (htru y h1 h2).2 hd⟩
      have hx0 := h1.1
      rcases hcl (y.natAbs - 1) (by omega) with hd | hd
      · by_cases hp : 0 < y
        · rw [show ((y.natAbs - 1 : Nat) : Int) + 1 = y by omega] at hd; exact absurd hd hny
        · rwa [show ((y.natAbs - 1 : Nat) : Int) + 1 = -y by omega] at hd
      · by_cases hp : 0 < y
        · rwa [show -((y.natAbs - 1 : Nat) : Int) - 1 = -y by omega] at hd
        · rw [show -((y.natAbs - 1 : Nat) : Int) - 1 = y by omega] at hd; exact absurd hd hny
    · obtain ⟨h1, h2⟩ := ha.asmOK x hx
      exact (htru x h1 h2).2 (.start (List.mem_append_left _ hx) h1)
  refine ⟨hsat, ?_⟩
  rintro m' hm' ⟨v, hv1, hv2, hv3⟩
  have hvn : v < n := by
    have := (List.getElem?_eq_some_iff.1 hv3).1
    rwa [modelF_len] at this
  rw [hat v hvn] at hv3
  have hdv : Der (C ++ L) (asm ++ D) ((v : Int) + 1) := mem_clos.1 (of_decide_eq_true (Option.some.inj hv3))
  -- the decided literals below v
  have hsame : ∀ j, j < v → m'[j]? = (modelF (clos (C ++ L) (asm ++ D)) n)[j]? := fun j hj => by
    have := congrArg (fun z => z[j]?) hv1
    simpa [List.getElem?_take, hj] using this
  have hdt : ∀ x ∈ D, -x - 1 < (v : Int) → tru m' x = true := fun x hx hlt => by
    have hlow := h.good.low x hx
    have hl := low_lit hsm hlow
    have h1 := (htru x hl.1 hl.2).2 (.start (List.mem_append_right _ hx) hl.1)
    rw [tru_iff] at h1 ⊢
    refine ⟨h1.1, ?_⟩
    rw [hsame _ (by omega)]; exact h1.2
  have hne : ∀ x ∈ D, -x - 1 ≠ (v : Int) := fun x hx he => by
    have hlow := h.good.low x hx
    have hl := low_lit hsm hlow
    have hd : Der (C ++ L) (asm ++ D) x := .start (List.mem_append_right _ hx) hl.1
    refine hcon _ hdv ?_
    rwa [show -((v : Int) + 1) = x by omega]
  have hpre : ∃ i, i ≤ D.length ∧ (∀ x ∈ D.take i, tru m' x = true) ∧ (Der (C ++ L) (asm ++ D.take i) ((v : Int) + 1) ∨ Der (C ++ L) (asm ++ D.take i) (-(v : Int) - 1)) := by
    haveI hdec : DecidablePred fun i => ∃ hi : i < D.length, (v : Int) + 1 < -D[i] := fun i => Classical.propDecidable _
    rcases @first_of (fun i => ∃ hi : i < D.length, (v : Int) + 1 < -D[i]) hdec D.length with ⟨i, hi, ⟨hi2, hlt⟩, hmin⟩ | hnone
    · refine ⟨i, Nat.le_of_lt hi, fun x hx => ?_, h.closed i hi2 v hlt⟩
      obtain ⟨j, hj, hje⟩ := List.mem_iff_getElem.1 hx
      rw [List.length_take] at hj
      rw [List.getElem_take] at hje
      have hxD : x ∈ D := List.mem_of_mem_take hx
      have h1 := hmin j (by omega)
      have h2 := hne x hxD
      refine hdt x hxD ?_
      have : ¬ (v : Int) + 1 < -x := fun h => h1 ⟨by omega, by rw [hje]; exact h⟩
      omega
    · refine ⟨D.length, Nat.le_refl _, fun x hx => ?_, by rw [List.take_length]; exact hcl v hvn⟩
      have hxD : x ∈ D := List.mem_of_mem_take hx
      obtain ⟨j, hj, hje⟩ := List.mem_iff_getElem.1 hxD
      have h1 := hnone j hj
      have h2 := hne x hxD
      refine hdt x hxD ?_
      have : ¬ (v : Int) + 1 < -x := fun h => h1 ⟨hj, by rw [hje]; exact h⟩
      omega
  obtain ⟨i, hi, ht, hd⟩ := hpre
  rcases hd with hd | hd
  · have := hd.tru (m := m') (fun c hc => by
      rcases List.mem_append.1 hc with hc | hc
      · exact hm'.2.1 c hc
      · exact h.imp m' hm' c hc) (fun x hx _ => by
      rcases List.mem_append.1 hx with hx | hx
      · exact hm'.2.2 x hx
      · exact ht x hx)
    rw [tru_iff] at this
    rw [show ((v : Int) + 1).natAbs - 1 = v by omega, hv2, decide_eq_true (by omega)] at this
    cases this.2
  · refine hcon _ hdv ?_
    rw [show -((v : Int) + 1) = -(v : Int) - 1 by omega]
    exact hd.mono (fun z hz => by
      rcases List.mem_append.1 hz with hz | hz
      · exact List.mem_append_left _ hz
      · exact List.mem_append_right _ (List.mem_of_mem_take hz)) (fun _ h => h)
/-- what the search may return -/
def Outcome (C : List (List Int)) (n : Nat) (asm : List Int) (r : Res) : Prop :=
  (∃ m, r = (m, [], 0) ∧ Sat C n asm m ∧ ∀ m', Sat C n asm m' → ¬ Before m' m) ∨
  (∃ K, r = ([], K, 26) ∧ (∀ m, ¬ Sat C n asm m) ∧ PrfOK (C ++ units asm) K ∧ K.Nodup ∧ K.length ≤ 4000 ∧ ∀ c ∈ K, c.Pairwise (· < ·) ∧ ∀ x ∈ c, 1 ≤ x ∧ x ≤ (n : Int)) ∨
  (∃ K : List (List Int), r = ([], [], 6) ∧ K.length = 4000 ∧ K.Nodup ∧ ∀ c ∈ K, c.Pairwise (· < ·) ∧ ∀ x ∈ c, 1 ≤ x ∧ x ≤ (n : Int))
/-- WHAT THE SEARCH RETURNS -/
theorem found {C : List (List Int)} {n : Nat} {asm : List Int} {r : Res} {st : List (List Int) × List Int} (ha : Asked C n asm) (hr : Runs C n asm st r) : Inv2 C n asm st.1 st.2 → Outcome C n asm r := by
  induction hr with
  | stop hs =>
    rename_i st r
    intro h
    obtain ⟨L, D⟩ := st
    unfold Go.Proofs.Ythibbellkcdodaa.step at hs
    simp only at hs h
    split at hs
    · rename_i hfail
      have hf := failB_iff.1 hfail
      split at hs
      · rename_i h4
        injection hs with hs
        exact .inr (.inr ⟨L, hs.symm, h4, h.nd, h.pos⟩)
      · rename_i h4
        split at hs
        · rename_i hD
          injection hs with hs
          subst hD
          obtain ⟨h1, h2, h3, h5⟩ := h.learn ha hf
          refine .inr (.inl ⟨L ++ [neg []], hs.symm, fun m hm => ?_, ⟨by simp, ?_, h2⟩, ?_, ?_, fun c hc => ?_⟩)
          · obtain ⟨x, hx, _⟩ := h1 m hm
            cases hx
          · unfold lastLit
            rw [List.getLast?_append]; rfl
          · rw [List.nodup_append]
            exact ⟨h.nd, by simp, fun a ha b hb => by rw [List.mem_singleton.1 hb]; exact fun e => h3 (e ▸ ha)⟩
          · have := h.good.few
            simp only [List.length_append, List.length_singleton] at this ⊢
            omega
          · rcases List.mem_append.1 hc with hc | hc
            · exact h.pos c hc
            · rw [List.mem_singleton.1 hc]; exact h5
        · cases hs
    · rename_i hfail
      split at hs
      · cases hs
      · rename_i ho
        injection hs with hs
        obtain ⟨g1, g2⟩ := h.found ha (fun hf => hfail (failB_iff.2 hf)) ho
        exact .inl ⟨_, hs.symm, g1, g2⟩
  | next hs _ ih =>
    rename_i st st' r _
    intro h
    exact ih (h.step ha hs)
end Go.Proofs.Ythibbellkcdodaa
/-
  Layer 27 (solve): the examples; SolveTells.
-/
namespace Go.Proofs.Ythibbellkcdodaa
open Go.Lad
set_option linter.unusedVariables false
set_option linter.unusedSimpArgs false
set_option linter.unusedSectionVars false
/-- the ascending lists of numbers from 1 to n -/
def subs : Nat → List (List Int)
  | 0 => [[]]
  | n + 1 => subs n ++ (subs n).map fun c => c ++ [((n + 1 : Nat) : Int)]
theorem subs_len : ∀ n, (subs n).length = 2 ^ n
  | 0 => rfl
  | n + 1 => by
    unfold subs
    rw [List.length_append, List.length_map, subs_len n, Nat.pow_succ]; omega
theorem mem_subs : ∀ (n : Nat) (c : List Int), c.Pairwise (· < ·) → (∀ x ∈ c, 1 ≤ x ∧ x ≤ (n : Int)) → c ∈ subs n
  | 0, c, _, h => by
    cases c with
    | nil => simp [subs]
    | cons x c => have := h x (by simp); omega
  | n + 1, c, hs, h => by
    unfold subs
    rcases List.eq_nil_or_concat c with rfl | ⟨d, x, hdx⟩
    · exact List.mem_append_left _ (mem_subs n [] .nil fun x hx => by cases hx)
    · rw [List.concat_eq_append] at hdx
      subst hdx
      obtain ⟨h1, h2, h3⟩ := List.pairwise_append.1 hs
      have hx := h x (by simp)
      have hd : ∀ y ∈ d, y < x := fun y hy => h3 y hy x (by simp)
      by_cases he : x = ((n + 1 : Nat) : Int)
      · refine List.mem_append_right _ (List.mem_map.2 ⟨d, mem_subs n d h1 fun y hy => ?_, by rw [he]⟩)
        have := hd y hy
        have := h y (List.mem_append_left _ hy)
        omega
      · refine List.mem_append_left _ (mem_subs n _ hs fun y hy => ?_)
        have := h y hy
        rcases List.mem_append.1 hy with hy | hy
        · have := hd y hy; omega
        · rw [List.mem_singleton.1 hy] at this ⊢; omega
theorem full_no {n : Nat} {K : List (List Int)} (hn : n ≤ 11) (h1 : K.length = 4000) (h2 : K.Nodup) (h3 : ∀ c ∈ K, c.Pairwise (· < ·) ∧ ∀ x ∈ c, 1 ≤ x ∧ x ≤ (n : Int)) : False := by
  have := nodup_le h2 (m := subs n) fun c hc => mem_subs n c (h3 c hc).1 (h3 c hc).2
  rw [subs_len] at this
  have h4 : 2 ^ n ≤ 2 ^ 11 := Nat.pow_le_pow_right (by omega) hn
  omega
theorem asked_of {l : List GClause} {n : Nat} {asm : List Int} (hr : rightF l (n : Int) = true) (hb : badA (n : Int) asm = false) : Asked (lits l) n asm := by
  obtain ⟨⟨h1, h2, h3⟩, h4⟩ := rightF_iff.1 hr
  refine ⟨by omega, fun c hc x hx => ?_, fun x hx => ?_⟩
  · obtain ⟨d, hd, rfl⟩ := List.mem_map.1 hc
    have := h4 d hd x hx
    exact ⟨⟨this.1, by omega, by omega⟩, by omega⟩
  · unfold badA at hb
    rw [List.any_eq_false] at hb
    have := hb x hx
    unfold badN at this
    rw [decide_eq_true_eq] at this
    exact ⟨⟨by omega, by omega, by omega⟩, by omega⟩
/-- Solve's result, if the question is right -/
theorem solve_found {l : List GClause} {n : Nat} {asm : List Int} (hl : l.length ≤ 100000) (hc : ∀ c ∈ l, c.1.length ≤ 1000000) (has : asm.length ≤ 100000) (hr : rightF l (n : Int) = true) (hb : badA (n : Int) asm = false) :
    ∃ r, solve_Solve l (n : Int) asm = some r ∧ Outcome (lits l) n asm r := by
  have ha := asked_of hr hb
  obtain ⟨r, h1, h2⟩ := solve_eq ha.small hl hc has hr hb
  exact ⟨r, h1, found ha h2 (inv2_nil _ _ _)⟩
instance (C : List (List Int)) (n : Nat) (asm : List Int) (m : List Bool) : Decidable (Sat C n asm m) := by unfold Sat; infer_instance
theorem three {m : List Bool} (h : m.length = 3) : ∃ a b c, m = [a, b, c] := by
  match m, h with
  | [a, b, c], _ => exact ⟨a, b, c, rfl⟩
end Go.Proofs.Ythibbellkcdodaa
