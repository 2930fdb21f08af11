/-
  Layer 11 (keys): the laws KeysChain and KeysDelegate in plain words.
-/
import Derived.Test.YtnbkjaoehkmcpaaKH
namespace Go.Proofs.Ytnbkjaoehkmcpaa
open Go.Lad
set_option linter.unusedVariables false
set_option linter.unusedSimpArgs false
/-! ### chains -/
def chainF (l : List GFact) (s : Bs) : List Int := foldI (fun (k : Nat) (o : List Int) f => if ownB s f = true then o ++ [(k : Int)] else o) 0 [] l
theorem chainF_snoc (l : List GFact) (s : Bs) (f : GFact) : chainF (l ++ [f]) s = if ownB s f = true then chainF l s ++ [(l.length : Int)] else chainF l s := by
  unfold chainF
  rw [foldI_snoc, Nat.zero_add]
theorem chainF_len (l : List GFact) (s : Bs) : (chainF l s).length ≤ l.length := by
  refine rev_ind (p := fun l => (chainF l s).length ≤ l.length) (Nat.le_refl _) (fun l x ih => ?_) l
  rw [chainF_snoc]
  split <;> simp <;> omega
theorem chain_eq {l : List GFact} {s : Bs} (h : l.length ≤ 1000000) : keys_Chain l s = some (chainF l s) := by
  unfold keys_Chain chainF
  refine loop_fold (body := fun x : Int × List Int => keys_Chain.b1 l s x.1 x.2) (fun k o => ((k : Int), o)) l (fun (k : Nat) (o : List Int) f => if ownB s f = true then o ++ [(k : Int)] else o) id (fun k o => o.length ≤ k) (fun k hk o ho => ?_) (fun k hk o ho => ?_) (fun o ho => ?_) (by omega) (Nat.le_refl _)
  · split
    · simp; omega
    · omega
  · simp only [keys_Chain.b1, bif_ltZ, lt_t hk, if_true, idx_nat hk, bind_in, owns_eq]
    cases ownB s l[k] with
    | true =>
      simp only [cond_true, if_true]
      rw [app_in (by simp; omega), z64_succ (by omega)]; rfl
    | false =>
      simp only [cond_false]
      rw [z64_succ (by omega)]; rfl
  · simp only [keys_Chain.b1, bif_ltZ, lt_f, if_false]; rfl
/-- the chain's last element is where the owner is said -/
theorem chain_last (l : List GFact) (s : Bs) : (chainF l s = [] ∧ lastOf (ownB s) l = none) ∨ ∃ k, ∃ hk : k < l.length, ∃ pre, chainF l s = pre ++ [(k : Int)] ∧ lastOf (ownB s) l = some l[k] := by
  refine rev_ind (p := fun l => (chainF l s = [] ∧ lastOf (ownB s) l = none) ∨ ∃ k, ∃ hk : k < l.length, ∃ pre, chainF l s = pre ++ [(k : Int)] ∧ lastOf (ownB s) l = some l[k]) (.inl ⟨rfl, rfl⟩) (fun l x ih => ?_) l
  rw [chainF_snoc, lastOf_snoc]
  cases hx : ownB s x with
  | true =>
    exact .inr ⟨l.length, by simp, chainF l s, by simp, by simp⟩
  | false =>
    rw [if_neg (by simp), if_neg (by simp)]
    rcases ih with h | ⟨k, hk, pre, h1, h2⟩
    · exact .inl h
    · exact .inr ⟨k, by simp; omega, pre, h1, by rw [h2, List.getElem_append_left hk]⟩
/-- the facts of the chain -/
theorem chain_facts (l : List GFact) (s : Bs) : ∀ c ∈ chainF l s, ∃ k, ∃ hk : k < l.length, c = (k : Int) ∧ ownB s l[k] = true := by
  refine rev_ind (p := fun l => ∀ c ∈ chainF l s, ∃ k, ∃ hk : k < l.length, c = (k : Int) ∧ ownB s l[k] = true) (fun c hc => by cases hc) (fun l x ih c hc => ?_) l
  rw [chainF_snoc] at hc
  have old : c ∈ chainF l s → ∃ k, ∃ hk : k < (l ++ [x]).length, c = (k : Int) ∧ ownB s (l ++ [x])[k] = true := fun hc => by
    obtain ⟨k, hk, h1, h2⟩ := ih c hc
    exact ⟨k, by simp; omega, h1, by rw [List.getElem_append_left hk]; exact h2⟩
  split at hc
  · rename_i hx
    rcases List.mem_append.1 hc with hc | hc
    · exact old hc
    · simp at hc
      exact ⟨l.length, by simp, hc, by simpa using hx⟩
  · exact old hc
def walkT (l : List GFact) (s : Bs) (c : List Int) : List Int × Int × Int := if c = chainF l s then (if (ownT l s).2.2 = true then ((ownT l s).1, (ownT l s).2.1, 0) else ([], 0, 24)) else ([], 0, 19)
theorem walk_key {l : List GFact} {s : Bs} (h : Bd l) : (chainF l s = [] ∧ (ownT l s).2.2 = false) ∨ ∃ k, ∃ hk : k < l.length, ∃ pre, chainF l s = pre ++ [(k : Int)] ∧ ownT l s = (fKeys l[k], fNeed l[k], true) := by
  rcases chain_last l s with ⟨h1, h2⟩ | ⟨k, hk, pre, h1, h2⟩
  · exact .inl ⟨h1, by unfold ownT; rw [h2]⟩
  · exact .inr ⟨k, hk, pre, h1, by unfold ownT; rw [h2]⟩
theorem walk_eq {l : List GFact} {s : Bs} {c : List Int} (h : Bd l) (hc : c.length ≤ 1000000) : keys_Walk l s c = some (walkT l s c) := by
  have hl := h.1
  unfold keys_Walk walkT
  rw [chain_eq (by omega)]
  simp only [bind_in]
  rw [equal_eq hc]
  simp only [bind_in, bif_not, bif_dec, eqZ_eq]
  by_cases he : c = chainF l s
  · rw [if_pos he, if_pos he]
    rcases walk_key (s := s) h with ⟨h1, h2⟩ | ⟨k, hk, pre, h1, h2⟩
    · rw [he, h1, h2]
      rfl
    · rw [he, h1, h2]
      rw [if_neg (by simp; omega), if_pos rfl, z64_i (by simp; rw [he, h1] at hc; simp at hc; omega)]
      simp only [bind_in]
      rw [idx_eq (k := pre.length) (by simp) (by simp)]
      simp only [bind_in, List.getElem_append_right (Nat.le_refl _), Nat.sub_self, List.getElem_singleton]
      rw [idx_nat hk]
      simp only [bind_in]
      rw [clone_eq (Nat.le_trans (h.2 _ (List.getElem_mem hk)) (by omega))]
      simp only [bind_in]
  · rw [if_neg he, if_neg he]
theorem walk_eq2 {l : List GFact} {s : Bs} {c : List Int} (h : Bd l) (hc : c.length ≤ 1000000) : keys_Walk_v2 l s c = some ((walkT l s c).2.1, (walkT l s c).2.2, (walkT l s c).1) := by
  have hl := h.1
  unfold keys_Walk_v2 walkT
  rw [chain_eq (by omega)]
  simp only [bind_in]
  rw [equal_eq hc]
  simp only [bind_in, bif_not, bif_dec, eqZ_eq]
  by_cases he : c = chainF l s
  · rw [if_pos he, if_pos he]
    rcases walk_key (s := s) h with ⟨h1, h2⟩ | ⟨k, hk, pre, h1, h2⟩
    · rw [he, h1, h2]
      rfl
    · rw [he, h1, h2]
      rw [if_neg (by simp; omega), if_pos rfl, z64_i (by simp; rw [he, h1] at hc; simp at hc; omega)]
      simp only [bind_in]
      rw [idx_eq (k := pre.length) (by simp) (by simp)]
      simp only [bind_in, List.getElem_append_right (Nat.le_refl _), Nat.sub_self, List.getElem_singleton]
      rw [idx_nat hk]
      simp only [bind_in]
      rw [clone_eq2 (Nat.le_trans (h.2 _ (List.getElem_mem hk)) (by omega))]
      simp only [bind_in]
  · rw [if_neg he, if_neg he]
/-- the facts that a chain names, one after the other -/
def named (l : List GFact) (c : List Int) : List GFact := c.filterMap fun c => l[c.toNat]?
theorem named_mem {l : List GFact} {c : List Int} {f : GFact} (h : f ∈ named l c) : f ∈ l := by
  unfold named at h
  obtain ⟨x, _, hx⟩ := List.mem_filterMap.1 h
  exact List.mem_of_getElem? hx
theorem named_len (l : List GFact) (c : List Int) : (named l c).length ≤ c.length := List.length_filterMap_le _ _
theorem named_own {l : List GFact} {s : Bs} : ownT (named l (chainF l s)) s = ownT l s := by
  unfold ownT
  rcases chain_last l s with ⟨h1, h2⟩ | ⟨k, hk, pre, h1, h2⟩
  · rw [h1, h2]; rfl
  · have : named l (pre ++ [(k : Int)]) = named l pre ++ [l[k]] := by
      unfold named
      rw [List.filterMap_append]
      congr 1
      simp [hk]
    rw [h1, this, lastOf_snoc, h2, if_pos (lastOf_some h2).2]
theorem chain_true (l : List GFact) (s : Bs) (which : Int) (hl : l.length ≤ 9223372036854775807) (hw : 0 ≤ which ∧ which ≤ 255) : ladinglaw11_KeysChain l s which = some true := by
  unfold ladinglaw11_KeysChain
  rw [small_true]
  simp only [bind_in]
  obtain ⟨b, hb, hfew⟩ := few_eq (l := l) (sg := []) (n := 15) (by omega) (by simp)
  rw [hb]
  simp only [bind_in]
  cases b with
  | false => rfl
  | true =>
    obtain ⟨f1, f2, f3, f4⟩ := hfew rfl
    have hBd : Bd l := ⟨by omega, fun g hg => Nat.le_trans (f3 g hg) (by omega)⟩
    simp only [Bool.not_true, cond_false]
    rw [chain_eq (by omega)]
    simp only [bind_in]
    rw [owner_eq hBd]
    simp only [bind_in]
    have hcl := chainF_len l s
    rw [walk_eq hBd (by omega)]
    simp only [bind_in]
    have hloop : loopF (fun x => ladinglaw11_KeysChain.b1 l (chainF l s) x.1 x.2) (0, []) = some (.inl (named l (chainF l s))) := by
      refine loopF_at (fun k => ((k : Int), named l ((chainF l s).take k))) (chainF l s).length (by simp [named]) (fun k hk => ?_) ?_
      · obtain ⟨j, hj, h1, h2⟩ := chain_facts l s _ (List.getElem_mem hk)
        have hn := named_len l ((chainF l s).take k)
        rw [List.length_take] at hn
        have e : named l ((chainF l s).take (k + 1)) = named l ((chainF l s).take k) ++ [l[j]] := by
          rw [take_snoc _ _ hk]
          unfold named
          rw [List.filterMap_append, h1]
          congr 1
          simp [hj]
        rw [e]
        simp only [ladinglaw11_KeysChain.b1, bif_ltZ, lt_t hk, if_true, idx_nat hk, bind_in, h1, leZ_eq]
        rw [if_neg (by omega), decide_eq_false (by omega)]
        simp only [bind_in, ladinglaw11_KeysChain.j1, cond_false, idx_nat hk, h1, idx_nat hj]
        rw [app_in (by simp; omega), z64_succ (by omega)]
        rfl
      · simp only [ladinglaw11_KeysChain.b1, bif_ltZ, lt_f, if_false, List.take_length]
    rw [hloop]
    have hn := named_len l (chainF l s)
    have hBn : Bd (named l (chainF l s)) := ⟨by omega, fun g hg => hBd.2 g (named_mem hg)⟩
    simp only [bind_in, ladinglaw11_KeysChain.j4]
    rw [owner_eq2 hBn, named_own]
    simp only [bind_in]
    have ho := ownT_len hBd s
    have hlong : ∀ c : List Int, c.length ≠ (chainF l s).length → walkT l s c = ([], 0, 19) := fun c hc => by
      unfold walkT
      rw [if_neg fun e => hc (by rw [e])]
    have j3 : ∀ o : List Int × Int × Bool, (o.2.2 = true → 0 < (chainF l s).length) → ladinglaw11_KeysChain.j3 l s which true (chainF l s) o false = some true := fun o ho => by
      unfold ladinglaw11_KeysChain.j3
      rw [cond_false, app_in (by simp; omega)]
      simp only [bind_in, List.nil_append]
      rw [app_in (by simp; omega)]
      simp only [bind_in]
      rw [walk_eq2 hBd (by simp; omega), hlong _ (by simp)]
      simp only [bind_in, eqZ_eq, bif_dec, bif_not]
      rw [if_pos (by first | trivial | rfl)]
      cases hw2 : o.2.2 with
      | false => rfl
      | true =>
        simp only [Bool.not_true, bind_in, ladinglaw11_KeysChain.j2, cond_false]
        obtain ⟨i, hi, hin⟩ := remZ_in (a := which) (n := (chainF l s).length) hw.1 (by omega) (ho hw2)
        rw [hi]
        simp only [bind_in]
        rw [cut_take (by omega)]
        simp only [bind_in]
        rw [app_in (by simp; omega)]
        simp only [bind_in]
        rw [z64_succ (by omega)]
        simp only [bind_in]
        rw [cut_in (by omega) (by omega) (by omega)]
        simp only [bind_in]
        rw [app_in (by simp; omega)]
        simp only [bind_in]
        rw [walk_eq2 hBd (by simp <;> omega), hlong _ (by simp <;> omega)]
        simp only [bind_in, eqZ_eq, cond_true]
        rfl
    have hwk := walk_key (s := s) hBd
    unfold walkT
    rw [if_pos rfl]
    simp only [eqZ_eq, ltZ_eq, bif_dec, bif_not]
    rcases hwk with ⟨h1, h2⟩ | ⟨k, hk, pre, h1, h2⟩
    · rw [h2]
      have e : (0 : Int) < ((chainF l s).length : Int) ↔ False := by rw [h1]; simp
      have e2 : decide ((0 : Int) < ((chainF l s).length : Int)) = false := by rw [h1]; rfl
      rw [ints_eq (by omega), e2]
      simp [bind_in]
      exact j3 _ (fun h => by rw [h2] at h; cases h)
    · rw [h2]
      have e2 : decide ((0 : Int) < ((chainF l s).length : Int)) = true := by rw [h1]; exact decide_eq_true (by simp <;> omega)
      rw [ints_eq (Nat.le_trans (hBd.2 _ (List.getElem_mem hk)) (by omega)), e2]
      simp [bind_in]
      rw [ints_eq (Nat.le_trans (hBd.2 _ (List.getElem_mem hk)) (by omega))]
      simp [bind_in]
      exact j3 _ (fun _ => by rw [h1]; simp)
/-! ### delegates -/
theorem own_log {l : List GFact} {nm : Bs} {a b : GFact} (h1 : a.1 = 5) (h2 : a.2.1 = nm) (h3 : b.1 = 6) (h4 : b.2.1 = nm) : ownT (l ++ [a, b]) nm = (fKeys a, fNeed a, true) ∧ delT (l ++ [a, b]) nm = (fKeys b, fNeed b, fUntil b) := by
  have e : l ++ [a, b] = (l ++ [a]) ++ [b] := by simp
  unfold ownT delT
  rw [e, lastOf_snoc, lastOf_snoc, lastOf_snoc]
  have o1 : ownB nm b = false := by unfold ownB; exact decide_eq_false (by omega)
  have o2 : ownB nm a = true := by unfold ownB; exact decide_eq_true ⟨.inl h1, h2⟩
  have o3 : tdB nm b = true := by unfold tdB; exact decide_eq_true ⟨.inr h3, h4⟩
  rw [o1, o2, o3]
  simp [h3]
theorem own_rot {l : List GFact} {nm : Bs} {a : GFact} (h1 : a.1 = 4) (h2 : a.2.1 = nm) : ownT (l ++ [a]) nm = (fKeys a, fNeed a, true) ∧ delT (l ++ [a]) nm = delT l nm := by
  unfold ownT delT
  rw [lastOf_snoc, lastOf_snoc]
  have o2 : ownB nm a = true := by unfold ownB; exact decide_eq_true ⟨.inr h1, h2⟩
  have o3 : tdB nm a = false := by unfold tdB; exact decide_eq_false (by omega)
  rw [o2, o3]
  simp
theorem own_tra {l : List GFact} {nm : Bs} {a : GFact} (h1 : a.1 = 5) (h2 : a.2.1 = nm) : ownT (l ++ [a]) nm = (fKeys a, fNeed a, true) ∧ delT (l ++ [a]) nm = ([], 0, 0) := by
  unfold ownT delT
  rw [lastOf_snoc, lastOf_snoc]
  have o2 : ownB nm a = true := by unfold ownB; exact decide_eq_true ⟨.inl h1, h2⟩
  have o3 : tdB nm a = true := by unfold tdB; exact decide_eq_true ⟨.inl h1, h2⟩
  rw [o2, o3]
  simp [h1]
theorem mayB_own {l : List GFact} {f : GFact} {S K : List Int} {n : Int} {D : List Int × Int × Int} (h : ownT l (nameF f) = (K, n, true)) (hd : delT l (nameF f) = D) : mayB l f S = if n ≤ cnt K S then 0 else if f.1 = 0 ∧ 1 ≤ D.2.1 ∧ (l.length : Int) ≤ D.2.2 ∧ D.2.1 ≤ cnt D.1 S then 0 else 23 := by
  unfold mayB
  rw [h, hd]
  simp
theorem cnt_a (a : Int) : cnt [a, a + 1] [a + 5] = 0 ∧ cnt [a, a + 1] [a + 1, a] = 2 ∧ cnt [a, a + 1] [a, a] = 1 ∧ cnt [a + 5] [a + 5] = 1 := by
  have h1 : ¬ a + 5 = a := by omega
  have h2 : ¬ a + 5 = a + 1 := by omega
  have h3 : ¬ a = a + 1 := by omega
  have h4 : ¬ a + 1 = a := by omega
  refine ⟨?_, ?_, ?_, ?_⟩ <;> simp [cnt, uniq, h1, h2, h3, h4]
theorem cnt_999 {a : Int} (h : a < 190) : cnt [a, a + 1] [a, 999, a + 1] = 2 := by
  have h1 : ¬ 999 = a := by omega
  have h2 : ¬ 999 = a + 1 := by omega
  have h3 : ¬ a = a + 1 := by omega
  have h4 : ¬ a + 1 = a := by omega
  simp [cnt, uniq, h1, h2, h3, h4]
theorem delegate_true (l : List GFact) (nm : Bs) (key until_ : Int) (hl : l.length ≤ 9223372036854775807) (hk : 0 ≤ key ∧ key ≤ 255) : ladinglaw11_KeysDelegate l nm key until_ = some true := by
  unfold ladinglaw11_KeysDelegate
  rw [small_true]
  simp only [bind_in]
  obtain ⟨b, hb, hfew⟩ := few_eq (l := l) (sg := []) (n := 12) (by omega) (by simp)
  rw [hb]
  simp only [bind_in]
  cases b with
  | false => rfl
  | true =>
    obtain ⟨f1, f2, f3, f4⟩ := hfew rfl
    have hBd : Bd l := ⟨by omega, fun g hg => Nat.le_trans (f3 g hg) (by omega)⟩
    simp only [Bool.not_true, cond_false]
    obtain ⟨i, hi, hin⟩ := remZ_in (a := key) (n := 190) hk.1 (by omega) (by omega)
    rw [show ((190 : Nat) : Int) = 190 from rfl] at hi
    rw [hi]
    generalize ha : (i : Int) = a
    have ha0 : 0 ≤ a ∧ a < 190 := by omega
    clear ha hi hin
    simp only [bind_in]
    rw [z64_i (n := a + 1) (by omega)]
    simp only [bind_in]
    rw [app_in (by simp; omega)]
    simp only [bind_in]
    rw [z64_i (n := a + 5) (by omega)]
    simp only [bind_in, List.nil_append]
    rw [app_in (by simp; omega)]
    simp only [bind_in, ladinglaw11_release]
    generalize hto : ((5, nm, (0, 0, 0), (([] : Bs), (0, 0, 0), ([] : Bs), [], [], [], ([] : Bs)), (0, ([] : Bs), [], ([] : Bs), 0, 0, ([] : Bs), ([] : Bs), [], []), ([a, a + 1] : List Int), 2, 0, 0, 0) : GFact) = to
    generalize hde : ((6, nm, (0, 0, 0), (([] : Bs), (0, 0, 0), ([] : Bs), [], [], [], ([] : Bs)), (0, ([] : Bs), [], ([] : Bs), 0, 0, ([] : Bs), ([] : Bs), [], []), ([a + 5] : List Int), 1, until_, 0, 0) : GFact) = de
    generalize hre : ((0, ([] : Bs), (0, 0, 0), (nm, (0, 0, 0), ([] : Bs), [], [], [], ([] : Bs)), (0, ([] : Bs), [], ([] : Bs), 0, 0, ([] : Bs), ([] : Bs), [], []), [], 0, 0, 0, 0) : GFact) = re
    have hL : (l ++ [to, de]).length = l.length + 2 := by simp
    have hBl : Bd (l ++ [to, de]) := ⟨by rw [hL]; omega, fun g hg => by
      rcases List.mem_append.1 hg with hg | hg
      · exact hBd.2 g hg
      · simp at hg
        rcases hg with rfl | rfl
        · rw [← hto]; show (2 : Nat) ≤ 1000; omega
        · rw [← hde]; show (1 : Nat) ≤ 1000; omega⟩
    obtain ⟨o1, o2⟩ := own_log (l := l) (nm := nm) (a := to) (b := de) (by rw [← hto]) (by rw [← hto]) (by rw [← hde]) (by rw [← hde])
    have k1 : fKeys to = [a, a + 1] ∧ fNeed to = 2 := by rw [← hto]; exact ⟨rfl, rfl⟩
    have k2 : fKeys de = [a + 5] ∧ fNeed de = 1 ∧ fUntil de = until_ := by rw [← hde]; exact ⟨rfl, rfl, rfl⟩
    rw [k1.1, k1.2] at o1
    rw [k2.1, k2.2.1, k2.2.2] at o2
    have hren : nameF re = nm := by rw [← hre]; rfl
    have hre0 : re.1 = 0 := by rw [← hre]
    have hrek : (fKeys re).length ≤ 1000 := by rw [← hre]; exact Nat.zero_le _
    obtain ⟨c1, c2, c3, c4⟩ := cnt_a a
    have c5 := cnt_999 ha0.2
    have mre : ∀ l' S, mayF l' [] re S = mayB l' re S := fun l' S => by
      unfold mayF
      rw [hre0]; rfl
    have v1 : mayB (l ++ [to, de]) re [a + 5] = if ((l ++ [to, de]).length : Int) ≤ until_ then 0 else 23 := by
      rw [mayB_own (K := [a, a + 1]) (n := 2) (D := ([a + 5], 1, until_)) (by rw [hren]; exact o1) (by rw [hren]; exact o2), c1, if_neg (by decide)]
      dsimp only
      rw [hre0, c4]
      by_cases h : ((l ++ [to, de]).length : Int) ≤ until_
      · rw [if_pos ⟨rfl, by decide, h, by decide⟩, if_pos h]
      · rw [if_neg fun hh => h hh.2.2.1, if_neg h]
    have v2 : mayB (l ++ [to, de]) re [a + 1, a] = 0 := by
      rw [mayB_own (K := [a, a + 1]) (n := 2) (D := ([a + 5], 1, until_)) (by rw [hren]; exact o1) (by rw [hren]; exact o2), c2, if_pos (by decide)]
    rw [may_eq hBl hrek (by simp) (by simp), mre, v1]
    simp only [bind_in]
    rw [may_eq hBl hrek (by simp) (by simp), mre, v2]
    have e0 : (eqZ (if ((l ++ [to, de]).length : Int) ≤ until_ then 0 else 23) 0 == leZ ((l ++ [to, de]).length : Int) until_) = true := by
      rw [eqZ_eq, leZ_eq]
      by_cases h : ((l ++ [to, de]).length : Int) ≤ until_
      · rw [if_pos h, decide_eq_true h]; rfl
      · rw [if_neg h, decide_eq_false h]; rfl
    rw [e0]
    simp only [Bool.not_true, cond_false, bind_in, eqZ_eq]
    simp only [decide_true, Bool.not_true, ladinglaw11_KeysDelegate.j3, cond_false]
    -- the kinds
    have kind : ∀ (kd : Int), kd = 1 ∨ kd = 2 ∨ kd = 4 ∨ kd = 5 ∨ kd = 6 → ∀ f : GFact, f.1 = kd → f.2.1 = nm → fKeys f = [a + 5] → fNeed f = 1 →
        keys_May (l ++ [to, de]) [] f [a + 5] = some 23 ∧ keys_May (l ++ [to, de]) [] f [a, 999, a + 1] = some 0 ∧ keys_May (l ++ [to, de]) [] f [a, a] = some 23 := by
      intro kd hkd f h1 h2 h3 h4
      have hfk : (fKeys f).length ≤ 1000 := by rw [h3]; simp
      have hnm : nameF f = nm := by unfold nameF; rw [if_neg (by omega), if_neg (by omega)]; exact h2
      have hset : setB (fKeys f) (fNeed f) = true := by
        rw [h3, h4]
        have hb : badAt [a + 5] 0 (a + 5) = false := by unfold badAt; exact decide_eq_false (by omega)
        simp [setB, scan, hb]
      have hm : ∀ S, mayF (l ++ [to, de]) [] f S = mayB (l ++ [to, de]) f S := fun S => by
        unfold mayF
        rw [hset]
        split
        · rfl
        · rw [if_neg (by omega), if_pos (by omega)]
      have hB : ∀ S, mayB (l ++ [to, de]) f S = if 2 ≤ cnt [a, a + 1] S then 0 else 23 := fun S => by
        rw [mayB_own (K := [a, a + 1]) (n := 2) (D := ([a + 5], 1, until_)) (by rw [hnm]; exact o1) (by rw [hnm]; exact o2)]
        split
        · rfl
        · rw [if_neg (by omega)]
      rw [may_eq hBl hfk (by simp) (by simp), may_eq hBl hfk (by simp) (by simp), may_eq hBl hfk (by simp) (by simp), hm, hm, hm, hB, hB, hB, c1, c3, c5]
      exact ⟨rfl, rfl, rfl⟩
    have hloop : loopF (fun x => ladinglaw11_KeysDelegate.b1 nm a (l ++ [to, de]) (a + 5) x) 0 = some (.inl ()) := by
      refine loopF_to (fun k => (k : Int)) 5 (fun k hk => ?_) ?_
      · have hk5 : k < ([1, 2, 4, 5, 6] : List Int).length := by simpa using hk
        have hkd : ([1, 2, 4, 5, 6] : List Int)[k] = 1 ∨ ([1, 2, 4, 5, 6] : List Int)[k] = 2 ∨ ([1, 2, 4, 5, 6] : List Int)[k] = 4 ∨ ([1, 2, 4, 5, 6] : List Int)[k] = 5 ∨ ([1, 2, 4, 5, 6] : List Int)[k] = 6 := by
          have : k = 0 ∨ k = 1 ∨ k = 2 ∨ k = 3 ∨ k = 4 := by omega
          rcases this with rfl | rfl | rfl | rfl | rfl <;> simp
        unfold ladinglaw11_KeysDelegate.b1
        rw [bif_ltZ, if_pos (by simp; omega), idx_nat hk5]
        simp only [bind_in]
        rw [z64_i (n := a + 5) (by omega)]
        simp only [bind_in]
        rw [(kind _ hkd _ rfl rfl rfl rfl).1]
        simp only [bind_in, bif_not, bif_eqZ]
        rw [if_pos (by first | trivial | rfl), z64_i (n := a + 1) (by omega)]
        simp only [bind_in]
        rw [(kind _ hkd _ rfl rfl rfl rfl).2.1]
        simp only [bind_in]
        rw [if_pos (by first | trivial | rfl)]
        rw [(kind _ hkd _ rfl rfl rfl rfl).2.2]
        simp only [bind_in, eqZ_eq, decide_true, Bool.not_true, ladinglaw11_KeysDelegate.j1, cond_false]
        rw [z64_succ (by omega)]; rfl
      · rfl
    rw [hloop]
    simp only [bind_in, ladinglaw11_KeysDelegate.j2]
    rw [app_in (by simp; omega)]
    simp only [bind_in, List.nil_append]
    rw [z64_i (n := a + 2) (by omega)]
    simp only [bind_in]
    generalize hro : ((4, nm, (0, 0, 0), (([] : Bs), (0, 0, 0), ([] : Bs), [], [], [], ([] : Bs)), (0, ([] : Bs), [], ([] : Bs), 0, 0, ([] : Bs), ([] : Bs), [], []), ([a + 2] : List Int), 1, 0, 0, 0) : GFact) = ro
    rw [hto]
    have hBx : ∀ x : GFact, (fKeys x).length ≤ 1000 → Bd (l ++ [to, de] ++ [x]) := fun x hx => ⟨by rw [List.length_append, hL]; simp; omega, fun g hg => by
      rcases List.mem_append.1 hg with hg | hg
      · exact hBl.2 g hg
      · simp at hg; rw [hg]; exact hx⟩
    have hkr : (fKeys ro).length ≤ 1000 := by rw [← hro]; show (1 : Nat) ≤ 1000; omega
    have hkt : (fKeys to).length ≤ 1000 := by rw [← hto]; show (2 : Nat) ≤ 1000; omega
    rw [app_in (by rw [hL]; simp; omega)]
    simp only [bind_in]
    rw [app_in (by rw [hL]; simp; omega)]
    simp only [bind_in]
    obtain ⟨r1, r2⟩ := own_rot (l := l ++ [to, de]) (nm := nm) (a := ro) (by rw [← hro]) (by rw [← hro])
    obtain ⟨t1, t2⟩ := own_tra (l := l ++ [to, de]) (nm := nm) (a := to) (by rw [← hto]) (by rw [← hto])
    have k3 : fKeys ro = [a + 2] ∧ fNeed ro = 1 := by rw [← hro]; exact ⟨rfl, rfl⟩
    rw [delegates_eq2 (hBx ro hkr), r2, o2]
    simp only [bind_in]
    rw [delegates_eq2 (hBx to hkt), t2]
    simp only [bind_in]
    rw [owner_eq2 (hBx ro hkr), r1, k3.1, k3.2]
    simp only [bind_in, cond_true, eqZ_eq, decide_true]
    rw [ints_eq (by simp)]
    simp only [bind_in, decide_true, cond_true]
    try rw [z64_i (n := a + 2) (by omega)]
    try simp only [bind_in]
    rw [ints_eq (by simp)]
    simp only [bind_in, decide_true, cond_true, ladinglaw11_release]
    rw [hre, may_eq (hBx to hkt) hrek (by simp) (by simp), mre, mayB_own (K := [a, a + 1]) (n := 2) (D := ([], 0, 0)) (by rw [hren, t1, k1.1, k1.2]) (by rw [hren]; exact t2), c1]
    rw [if_neg (by decide), if_neg (by simp)]
    rfl
end Go.Proofs.Ytnbkjaoehkmcpaa
