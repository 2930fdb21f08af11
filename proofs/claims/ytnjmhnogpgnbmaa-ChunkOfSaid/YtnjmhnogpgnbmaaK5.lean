/-
  Layer 36 (chunk): the laws ChunkMissing and ChunkOf in plain words.
-/
import Derived.Test.YtnjmhnogpgnbmaaK4
namespace Go.Proofs.Ytnjmhnogpgnbmaa
open Go.Lad
set_option linter.unusedVariables false
set_option linter.unusedSimpArgs false
set_option linter.unusedSectionVars false
/-! ### ChunkMissing -/
theorem miss_grow (hv : List Int) : ∀ (l : List Int) (k : Nat) (s : List Int), s <+: foldI (missStep hv) k s l ∧ (foldI (missStep hv) k s l).length ≤ s.length + l.length
  | [], k, s => ⟨List.prefix_refl _, by simp [foldI]⟩
  | x :: r, k, s => by
    obtain ⟨h1, h2⟩ := miss_grow hv r (k + 1) (missStep hv k s x)
    unfold foldI
    have h3 : s <+: missStep hv k s x ∧ (missStep hv k s x).length ≤ s.length + 1 := by
      unfold missStep
      split
      · exact ⟨List.prefix_refl _, by omega⟩
      · exact ⟨List.prefix_append _ _, by simp⟩
    refine ⟨h3.1.trans h1, ?_⟩
    rw [List.length_cons]; omega
theorem foldI_app {α σ : Type} (f : Nat → σ → α → σ) (b : List α) : ∀ (a : List α) (k : Nat) (s : σ), foldI f k s (a ++ b) = foldI f (k + a.length) (foldI f k s a) b
  | [], k, s => rfl
  | x :: r, k, s => by
    show foldI f (k + 1) (f k s x) (r ++ b) = _
    rw [foldI_app f b r (k + 1), List.length_cons, show k + 1 + r.length = k + (r.length + 1) by omega]; rfl
theorem miss_prefix (ns hv : List Int) (i : Nat) : missF (ns.take i) hv <+: missF ns hv := by
  have h : missF ns hv = foldI (missStep hv) (0 + (ns.take i).length) (missF (ns.take i) hv) (ns.drop i) := by
    unfold missF
    rw [← foldI_app, List.take_append_drop]
  rw [h]
  exact (miss_grow hv _ _ _).1
theorem miss_snoc (ns hv : List Int) (i : Nat) (hi : i < ns.length) : missF (ns.take (i + 1)) hv = if ns[i] ∈ hv then missF (ns.take i) hv else missF (ns.take i) hv ++ [(i : Int)] := by
  unfold missF
  rw [take_snoc ns i hi, foldI_snoc, List.length_take, Nat.zero_add, Nat.min_eq_left (by omega)]
  rfl
theorem miss_mem (ns hv : List Int) (x : Int) : x ∈ missF ns hv ↔ ∃ i, ∃ hi : i < ns.length, x = (i : Int) ∧ ns[i] ∉ hv := by
  have key : ∀ n, n ≤ ns.length → (x ∈ missF (ns.take n) hv ↔ ∃ i, ∃ hi : i < ns.length, i < n ∧ x = (i : Int) ∧ ns[i] ∉ hv) := by
    intro n
    induction n with
    | zero => intro _; simp [missF, foldI]
    | succ n ih =>
      intro hn
      have ih := ih (by omega)
      rw [miss_snoc ns hv n (by omega)]
      split
      · rename_i h
        rw [ih]
        constructor
        · rintro ⟨i, hi, h1, h2, h3⟩; exact ⟨i, hi, by omega, h2, h3⟩
        · rintro ⟨i, hi, h1, h2, h3⟩
          refine ⟨i, hi, ?_, h2, h3⟩
          rcases Nat.lt_or_ge i n with h4 | h4
          · exact h4
          · have : i = n := by omega
            subst this; exact absurd h h3
      · rename_i h
        rw [List.mem_append, ih, List.mem_singleton]
        constructor
        · rintro (⟨i, hi, h1, h2, h3⟩ | h1)
          · exact ⟨i, hi, by omega, h2, h3⟩
          · exact ⟨n, by omega, by omega, h1, h⟩
        · rintro ⟨i, hi, h1, h2, h3⟩
          rcases Nat.lt_or_ge i n with h4 | h4
          · exact .inl ⟨i, hi, h4, h2, h3⟩
          · have : i = n := by omega
            subst this; exact .inr h2
  have := key ns.length (Nat.le_refl _)
  rw [List.take_length] at this
  rw [this]
  constructor
  · rintro ⟨i, hi, _, h2, h3⟩; exact ⟨i, hi, h2, h3⟩
  · rintro ⟨i, hi, h2, h3⟩; exact ⟨i, hi, hi, h2, h3⟩
theorem miss_nil {ns hv : List Int} (h : ∀ y ∈ ns, y ∈ hv) : missF ns hv = [] := by
  rw [List.eq_nil_iff_forall_not_mem]
  intro x hx
  obtain ⟨i, hi, _, h2⟩ := (miss_mem ns hv x).1 hx
  exact h2 (h _ (List.getElem_mem hi))
theorem miss_less {hv hv' : List Int} (h : ∀ y ∈ hv, y ∈ hv') : ∀ (l : List Int) (k : Nat) (s s' : List Int), s'.length ≤ s.length → (foldI (missStep hv') k s' l).length ≤ (foldI (missStep hv) k s l).length
  | [], _, _, _, hs => hs
  | x :: r, k, s, s', hs => by
    unfold foldI
    refine miss_less h r (k + 1) _ _ ?_
    unfold missStep
    by_cases h1 : x ∈ hv
    · rw [if_pos h1, if_pos (h x h1)]; exact hs
    · rw [if_neg h1, List.length_append, List.length_singleton]
      split
      · omega
      · rw [List.length_append, List.length_singleton]; omega
theorem missing_true (m : GManifest) (hv : List Int) (one : Int) : ladinglaw36_ChunkMissing m hv one = some true := by
  unfold ladinglaw36_ChunkMissing
  rw [small_true, light_eq]
  simp only [bind_in, bif_not, bif_dec, ltZ_eq]
  by_cases h1 : (m.2.2.length : Int) ≤ 40
  · rw [if_pos h1]
    simp only [bind_in, ladinglaw36_ChunkMissing.j6, bif_dec]
    by_cases h2 : (40 : Int) < (hv.length : Int)
    · rw [if_pos h2]
    · rw [if_neg h2, miss_eq (ns := m.2.2) (by omega) (by omega) rfl]
      simp only [bind_in]
      have hlen : (missF m.2.2 hv).length ≤ m.2.2.length := by
        have := (miss_grow hv m.2.2 0 []).2
        rw [List.length_nil] at this
        unfold missF; omega
      have hl1 : loopF (fun x => ladinglaw36_ChunkMissing.b2 m hv (missF m.2.2 hv) x.1 x.2) (0, 0) = some (.inl ((missF m.2.2 hv).length : Int)) := by
        refine loopF_at (fun i => (((missF (m.2.2.take i) hv).length : Int), (i : Int))) m.2.2.length rfl (fun i hi => ?_) ?_
        · have hp := (miss_grow hv (m.2.2.take i) 0 []).2
          simp only [List.length_nil, List.length_take] at hp
          have hp2 : (missF (m.2.2.take i) hv).length ≤ 40 := by unfold missF; omega
          simp only [ladinglaw36_ChunkMissing.b2, bif_ltZ]
          rw [if_pos (by omega)]
          have e : loopF (fun x => ladinglaw36_ChunkMissing.b1 m hv (i : Int) x.1 x.2) (false, 0) = some (decide (m.2.2[i] ∈ hv)) := by
            refine loopF_at (fun j => (decide (m.2.2[i] ∈ hv.take j), (j : Int))) hv.length (by simp) (fun j hj => ?_) ?_
            · simp only [ladinglaw36_ChunkMissing.b1, bif_ltZ, bif_dec]
              rw [if_pos (by omega), take_snoc hv j hj]
              by_cases h1 : m.2.2[i] ∈ hv.take j
              · rw [if_pos h1, z64_succ (by omega), decide_eq_true (List.mem_append_left _ h1)]
                simp only [bind_in]
              · rw [if_neg h1, idx_nat hj]
                simp only [bind_in]
                rw [idx_nat hi]
                simp only [bind_in]
                rw [z64_succ (by omega)]
                simp only [bind_in, eqZ_eq]
                by_cases h2 : hv[j] = m.2.2[i]
                · rw [decide_eq_true h2, decide_eq_true (by rw [h2]; simp)]
                · rw [decide_eq_false h2, decide_eq_false (fun h => by
                    rw [List.mem_append, List.mem_singleton] at h
                    rcases h with h | h
                    · exact h1 h
                    · exact h2 h.symm)]
            · simp only [ladinglaw36_ChunkMissing.b1, bif_ltZ]
              rw [if_neg (by omega), List.take_length]
          rw [e, miss_snoc m.2.2 hv i hi]
          simp only [bind_in, ladinglaw36_ChunkMissing.j2, bif_dec]
          by_cases h3 : m.2.2[i] ∈ hv
          · rw [if_pos h3, if_pos h3, z64_succ (by omega)]
            simp only [bind_in]
          · rw [if_neg h3, if_neg h3]
            have hpre := miss_prefix m.2.2 hv (i + 1)
            rw [miss_snoc m.2.2 hv i hi, if_neg h3] at hpre
            have hle := hpre.length_le
            rw [List.length_append, List.length_singleton] at hle
            have hget : (missF m.2.2 hv)[(missF (m.2.2.take i) hv).length]? = some (i : Int) := by
              obtain ⟨t, ht⟩ := hpre
              rw [← ht, List.append_assoc, List.getElem?_append_right (Nat.le_refl _), Nat.sub_self]; rfl
            have hidx : idx (missF m.2.2 hv) ((missF (m.2.2.take i) hv).length : Int) = some (i : Int) := idx_at (by omega) (by rw [Int.toNat_natCast]; exact hget)
            rw [leZ_eq, decide_eq_false (by omega), hidx]
            simp only [cond_false, bind_in, eqZ_eq, decide_true, Bool.not_true, ladinglaw36_ChunkMissing.j1]
            rw [z64_succ (by omega)]
            simp only [bind_in]
            rw [z64_succ (by omega), List.length_append, List.length_singleton]
            simp only [bind_in]
        · simp only [ladinglaw36_ChunkMissing.b2, bif_ltZ]
          rw [if_neg (by omega), List.take_length]
      rw [hl1]
      simp only [bind_in, ladinglaw36_ChunkMissing.j5]
      rw [app_in (by simp only [List.length_nil]; omega)]
      simp only [bind_in, List.nil_append]
      have hl2 : loopF (fun x => ladinglaw36_ChunkMissing.b3 m (missF m.2.2 hv) ((missF m.2.2 hv).length : Int) x.1 x.2) (0, hv) = some (hv ++ (missF m.2.2 hv).map fun x => m.2.2.getD x.toNat 0) := by
        refine loopF_at (fun i => ((i : Int), hv ++ ((missF m.2.2 hv).take i).map fun x => m.2.2.getD x.toNat 0)) (missF m.2.2 hv).length (by simp) (fun i hi => ?_) ?_
        · simp only [ladinglaw36_ChunkMissing.b3, bif_ltZ, eqZ_eq, decide_true]
          rw [if_pos (by omega)]
          simp only [bind_in, ladinglaw36_ChunkMissing.j3, cond_true]
          rw [idx_nat hi]
          simp only [bind_in]
          obtain ⟨j, hj, hx, _⟩ := (miss_mem m.2.2 hv _).1 (List.getElem_mem hi)
          rw [take_snoc _ i hi, List.map_append, List.map_singleton, hx, Int.toNat_natCast, List.getD_eq_getElem?_getD, List.getElem?_eq_getElem hj, Option.getD_some, idx_nat hj]
          simp only [bind_in]
          rw [app_in (by rw [List.length_append, List.length_map, List.length_take, List.length_singleton]; omega)]
          simp only [bind_in]
          rw [z64_succ (by omega), List.append_assoc]
          simp only [bind_in]
        · simp only [ladinglaw36_ChunkMissing.b3, bif_ltZ]
          rw [if_neg (by omega), List.take_length]
          rfl
      rw [hl2]
      simp only [bind_in, ladinglaw36_ChunkMissing.j4]
      rw [app_in (by simp only [List.length_nil]; omega)]
      simp only [bind_in, List.nil_append]
      rw [app_in (by simp only [List.length_singleton]; omega)]
      simp only [bind_in]
      rw [miss2_eq (ns := m.2.2) (by omega) (by rw [List.length_append, List.length_singleton]; omega) rfl]
      simp only [bind_in, cond_true, eqZ_eq, decide_true, leZ_eq]
      rw [decide_eq_true (by
        have := miss_less (hv := hv) (hv' := hv ++ [one]) (fun y hy => List.mem_append_left _ hy) m.2.2 0 [] [] (Nat.le_refl _)
        unfold missF; omega)]
      rw [cond_true, miss2_eq (ns := m.2.2) (by omega) (by rw [List.length_append, List.length_map]; omega) rfl]
      simp only [bind_in]
      rw [miss_nil (fun y hy => by
        obtain ⟨i, hi, rfl⟩ := List.mem_iff_getElem.1 hy
        rw [List.mem_append, List.mem_map]
        by_cases h4 : m.2.2[i] ∈ hv
        · exact .inl h4
        · refine .inr ⟨(i : Int), (miss_mem m.2.2 hv _).2 ⟨i, hi, rfl, h4⟩, ?_⟩
          rw [Int.toNat_natCast, List.getD_eq_getElem?_getD, List.getElem?_eq_getElem hi, Option.getD_some])]
      rfl
  · rw [if_neg h1]; rfl
/-! ### ChunkOf -/
theorem posI_app {l t : List Bs} {x : Bs} (h : x ∈ l) : posI (l ++ t) x = posI l x := by
  unfold posI
  rw [pos_append]
  cases hp : pos l x with
  | none => exact absurd h (pos_none.1 hp)
  | some i => rfl
theorem posI_pre {l L : List Bs} {x : Bs} (hp : l <+: L) (h : x ∈ l) : posI L x = posI l x := by
  obtain ⟨t, rfl⟩ := hp
  exact posI_app h
theorem posI_nn {l : List Bs} {x : Bs} (h : x ∈ l) : 0 ≤ posI l x := by
  rcases Int.lt_or_le (posI l x) 0 with h1 | h1
  · exact absurd h (posI_neg.1 h1)
  · exact h1
theorem textF_pos {l : List Bs} {x : Bs} (h : x ∈ l) : textF l (posI l x) = (x, true) := textF_get (posI_nn h) (posI_get (posI_nn h))
theorem addF_in {l : List Bs} {x : Bs} (hr : RightP l) (h : x ∈ l) : addF l x = (l, posI l x, 0) := by
  unfold addF
  rw [if_pos hr, if_pos h]
theorem addF_pre {l : List Bs} {s : Bs} (h : (addF l s).2.2 = 0) : l <+: (addF l s).1 := by
  rcases (addF_ok h).2.2.1 with h1 | h1 <;> rw [h1]
  · exact List.prefix_refl _
  · exact List.prefix_append _ _
theorem addsF_err : ∀ (xs l : List Bs) (ks : List Int) (e : Int), addsF xs l ks = .inr e → e ≠ 0
  | [], l, ks, e, h => by cases h
  | x :: r, l, ks, e, h => by
    unfold addsF at h
    split at h
    · exact addsF_err r _ _ e h
    · rename_i h1
      injection h with h
      rw [← h]; exact h1
theorem addsF_ok : ∀ (xs l : List Bs) (ks : List Int) (l' : List Bs) (ks' : List Int), RightP l → addsF xs l ks = .inl (l', ks') → RightP l' ∧ l <+: l' ∧ l'.length ≤ l.length + xs.length ∧ (∀ x ∈ xs, x ∈ l') ∧ ks' = ks ++ xs.map (posI l')
  | [], l, ks, l', ks', hr, h => by
    unfold addsF at h
    injection h with h
    injection h with h1 h2
    subst h1; subst h2
    exact ⟨hr, List.prefix_refl _, by simp, by simp, by simp⟩
  | x :: r, l, ks, l', ks', hr, h => by
    unfold addsF at h
    split at h
    · rename_i h0
      obtain ⟨_, a2, a3, a4, a5⟩ := addF_ok h0
      have al := addF_len h0
      obtain ⟨b1, b2, b3, b4, b5⟩ := addsF_ok r _ _ l' ks' a2 h
      refine ⟨b1, (addF_pre h0).trans b2, by rw [List.length_cons]; omega, fun y hy => ?_, ?_⟩
      · rcases List.mem_cons.1 hy with rfl | hy
        · exact b2.subset a5
        · exact b4 y hy
      · rw [b5, a4, List.map_cons, List.append_assoc, List.singleton_append, posI_pre b2 a5]
    · cases h
theorem addsF_in {l : List Bs} (hr : RightP l) : ∀ (xs : List Bs) (ks : List Int), (∀ x ∈ xs, x ∈ l) → addsF xs l ks = .inl (l, ks ++ xs.map (posI l))
  | [], ks, h => by unfold addsF; simp
  | x :: r, ks, h => by
    unfold addsF
    rw [addF_in hr (h x List.mem_cons_self), if_pos rfl, addsF_in hr r _ fun y hy => h y (List.mem_cons_of_mem _ hy)]
    simp
theorem fits_made {L : List Bs} : ∀ (xs : List Bs) (s : Bs), xs.flatten = s → (∀ x ∈ xs, x ∈ L ∧ x ≠ [] ∧ x.length ≤ 4096) → fits L s (xs.map (posI L)) = true
  | [], s, h, _ => by rw [← h]; rfl
  | x :: r, s, h, hx => by
    obtain ⟨h1, h2, h3⟩ := hx x List.mem_cons_self
    rw [List.map_cons]
    unfold fits good1
    rw [textF_pos h1]
    dsimp only
    rw [← h, List.flatten_cons, decide_eq_false h2, decide_eq_true h3, decide_eq_true (by simp), List.drop_left, fits_made r _ rfl fun y hy => hx y (List.mem_cons_of_mem _ hy)]
    rfl
theorem right_made {L : List Bs} {text : Bs} {xs : List Bs} (hr : RightP L) (ht : text ∈ L) (hf : xs.flatten = text) (hx : ∀ x ∈ xs, x ∈ L ∧ x ≠ [] ∧ x.length ≤ 4096) (hl : xs.length ≤ 1000) : rightM L (posI L text, (text.length : Int), xs.map (posI L)) = true := by
  unfold rightM
  dsimp only
  rw [textF_pos ht, if_pos ⟨rfl, hr, rfl, by rw [List.length_map]; exact hl⟩]
  exact fits_made xs text hf hx
theorem texts_made {L : List Bs} {xs : List Bs} (hx : ∀ x ∈ xs, x ∈ L) (hl : xs.length ≤ 1000) : content_Texts L (xs.map (posI L)) = some (xs, 0) := by
  unfold content_Texts
  refine loopF_at (fun k => ((k : Int), xs.take k)) xs.length (by simp) (fun k hk => ?_) ?_
  · simp only [content_Texts.b1, bif_ltZ]
    rw [if_pos (by rw [List.length_map]; omega), idx_nat (by rw [List.length_map]; exact hk)]
    simp only [bind_in]
    rw [text_eq, List.getElem_map, textF_pos (hx _ (List.getElem_mem hk))]
    simp only [bind_in, Bool.not_true, cond_false]
    rw [app_in (by rw [List.length_take, List.length_singleton]; omega)]
    simp only [bind_in]
    rw [z64_succ (by omega), take_snoc xs k hk]
    simp only [bind_in]
  · simp only [content_Texts.b1, bif_ltZ]
    rw [if_neg (by rw [List.length_map]; omega), List.take_length]
theorem of_true (c : List Bs) (text : Bs) (size : Int) (more : Bs) : ladinglaw36_ChunkOf c text size more = some true := by
  unfold ladinglaw36_ChunkOf
  rw [small_true]
  simp only [bind_in]
  obtain ⟨b1, h1, h1'⟩ := few_eq (l := c) (n := 30) (by omega)
  rw [show (30 : Int) = ((30 : Nat) : Int) from rfl, h1]
  simp only [bind_in]
  cases b1 with
  | false => rfl
  | true =>
    obtain ⟨hcl, hcx⟩ := h1' rfl
    have hc := sz_few hcl hcx
    simp only [bif_not, cond_true, bif_ltZ]
    by_cases h2 : (600 : Int) < (text.length : Int)
    · rw [if_pos h2]; rfl
    · rw [if_neg h2, ltZ_eq]
      simp only [bind_in, ladinglaw36_ChunkOf.j3, bif_dec]
      by_cases h3 : (3000 : Int) < (more.length : Int)
      · rw [if_pos h3]
      · rw [if_neg h3, of_eq (by omega) (by omega) (by omega)]
        simp only [bind_in]
        unfold ofF
        by_cases hr : (1 ≤ size ∧ size ≤ 4096) ∧ RightP c
        · rw [if_pos hr]
          by_cases h0 : (addF c text).2.2 = 0
          · rw [if_pos h0]
            obtain ⟨_, a2, a3, a4, a5⟩ := addF_ok h0
            have al := addF_len h0
            have ap := addF_pre h0
            cases hadd : addsF (cutN size.toNat text.length text) (addF c text).1 [] with
            | inr e =>
              have he := addsF_err _ _ _ _ hadd
              simp only [ofEnd, bif_not, bif_eqZ]
              rw [if_neg he, msame_self (by simp)]; rfl
            | inl p =>
              obtain ⟨L, ks⟩ := p
              obtain ⟨b1, b2, b3, b4, b5⟩ := addsF_ok _ _ _ _ _ a2 hadd
              rw [List.nil_append] at b5
              have hn : 0 < size.toNat := by omega
              have hf := Nat.le_refl text.length
              have c1 := cutN_flat size.toNat hn _ _ hf
              have c2 := cutN_len (n := size.toNat) (f := text.length) (s := text) hn hf
              have c3 : ∀ x ∈ cutN size.toNat text.length text, x ≠ [] ∧ x.length ≤ 4096 := fun x hx => by
                have := cutN_mem (n := size.toNat) hn hf hx
                exact ⟨this.1, by omega⟩
              have hcut : chunksF text size = cutN size.toNat text.length text := by unfold chunksF; rw [if_pos hr.1]
              have c4 := szF_mem a5
              have c5 : szF (cutN size.toNat text.length text) ≤ 600 := by rw [← flat_len, c1]; omega
              have hagain : ofF L text size = (L, ((addF c text).2.1, (text.length : Int), ks), 0) := by
                unfold ofF
                have ht : text ∈ L := b2.subset a5
                rw [if_pos ⟨hr.1, b1⟩, addF_in b1 ht, if_pos rfl, addsF_in b1 _ _ b4]
                simp only [ofEnd, List.nil_append]
                rw [b5, a4, posI_pre b2 a5]
              rw [a4, ← posI_pre b2 a5] at hagain ⊢
              have hpre : c <+: L := ap.trans b2
              have ht : text ∈ L := b2.subset a5
              subst b5
              revert hagain c1 c2 c3 c5 b4 b3
              generalize cutN size.toNat text.length text = xs
              intro b3 b4 c1 c2 c3 c5 hagain
              have hx : ∀ x ∈ xs, x ∈ L ∧ x ≠ [] ∧ x.length ≤ 4096 := fun x hx => ⟨b4 x hx, c3 x hx⟩
              have hL : L.length ≤ 700 := by omega
              have hLs : szF L ≤ 1048576 := b1.2
              have hrm := right_made b1 ht c1 hx (by omega)
              simp only [ofEnd, bif_not, bif_eqZ, bif_ltZ]
              rw [if_pos (by trivial), if_neg (by have := hpre.length_le; omega), cut_in (by omega) (by omega) (by have := hpre.length_le; omega)]
              have htake : (L.take (c.length : Int).toNat).drop (0 : Int).toNat = c := by
                rw [Int.toNat_natCast]
                exact (List.prefix_iff_eq_take.1 hpre).symm
              rw [htake]
              simp only [bind_in]
              rw [same_self (by omega)]
              simp only [bind_in, Bool.not_true, cond_false, cond_true]
              rw [right_eq (by omega) (by omega), decide_eq_true b1]
              simp only [bind_in, Bool.not_true, cond_false, cond_true]
              rw [mright_eq (by omega) (by omega), hrm]
              simp only [bind_in, Bool.not_true, ladinglaw36_ChunkOf.j2, cond_false]
              rw [texts_made b4 (by omega)]
              simp only [bind_in]
              rw [join_eq (by omega) (by omega) (by omega) (by omega), of_eq (by omega) (by omega) (by omega), hagain]
              have hjoin : joinM L (posI L text, (text.length : Int), xs.map (posI L)) xs = (text, 0) := by
                unfold joinM
                rw [if_pos ⟨hrm, by simp⟩, if_pos (show AllC L (xs.map (posI L)) xs from fun k hk => by
                  unfold checkF
                  rw [if_pos (by rw [List.length_map]; omega), Int.toNat_natCast, List.getD_eq_getElem?_getD, List.getElem?_eq_getElem (by rw [List.length_map]; exact hk), Option.getD_some, List.getElem_map, textF_pos (b4 _ (List.getElem_mem hk))]
                  simp), c1]
              rw [hjoin]
              simp only [bind_in, eqZ_eq, decide_true, Bool.not_true, cond_false, cond_true]
              rw [same_self (by omega)]
              simp only [bind_in, Bool.not_true, cond_false, cond_true]
              rw [msame_self (by simp; omega)]
              simp only [bind_in, Bool.not_true, cond_false, cond_true]
              rw [print_eq (by omega)]
              simp only [bind_in, decide_true, Bool.not_true, ladinglaw36_ChunkOf.j1, cond_false]
              rw [add2_eq (by omega) (by omega) (by omega)]
              have hmiss : missF (xs.map (posI L)) (xs.map (posI L)) = [] := miss_nil fun y hy => hy
              simp only [bind_in, cond_true, bif_not, eqZ_eq, bif_dec]
              rw [miss_eq (ns := xs.map (posI L)) (by simp; omega) (by simp; omega) rfl, hmiss]
              by_cases h5 : (addF L more).2.2 = 0
              · rw [if_pos h5]
                obtain ⟨_, d2, d3, d4, d5⟩ := addF_ok h5
                have dl := addF_len h5
                have dp := addF_pre h5
                rw [mright_eq (by omega) (by omega)]
                have hrm2 := right_made (L := (addF L more).1) d2 (dp.subset ht) c1 (fun x hx' => ⟨dp.subset (b4 x hx'), c3 x hx'⟩) (by omega)
                have hmap : xs.map (posI (addF L more).1) = xs.map (posI L) := List.map_congr_left fun x hx' => posI_pre dp (b4 x hx')
                rw [hmap, posI_pre dp ht] at hrm2
                rw [hrm2]
                simp
              · rw [if_neg h5]; rfl
          · rw [if_neg h0]
            simp only [bif_not, bif_eqZ]
            rw [if_neg h0, msame_self (by simp)]; rfl
        · rw [if_neg hr]
          simp only [bif_not, bif_eqZ]
          rw [if_neg (by decide), msame_self (by simp)]; rfl
end Go.Proofs.Ytnjmhnogpgnbmaa
