/-
  Layer 30 (refuse): all models by their numbers; RefuseLeast, RefuseChecks, RefuseBehind.
-/
import Derived.Test.YthibbellkcdodaaR3
namespace Go.Proofs.Ythibbellkcdodaa
open Go.Lad
set_option linter.unusedVariables false
set_option linter.unusedSimpArgs false
set_option linter.unusedSectionVars false
/-! ### models by their numbers -/
def bitsB (k n : Nat) : List Bool := (List.range n).map fun i => decide (k / 2 ^ i % 2 = 1)
theorem bitsB_len (k n : Nat) : (bitsB k n).length = n := by unfold bitsB; simp
theorem bitsB_get {k n i : Nat} (h : i < (bitsB k n).length) : (bitsB k n)[i] = decide (k / 2 ^ i % 2 = 1) := by simp [bitsB]
def numOf : List Bool → Nat
  | [] => 0
  | b :: m => (if b = true then 1 else 0) + 2 * numOf m
theorem numOf_lt : ∀ m : List Bool, numOf m < 2 ^ m.length
  | [] => by simp [numOf]
  | b :: m => by
    have := numOf_lt m
    unfold numOf
    rw [List.length_cons, Nat.pow_succ]
    split <;> omega
theorem bits_num : ∀ m : List Bool, bitsB (numOf m) m.length = m
  | [] => rfl
  | b :: m => by
    have ih := bits_num m
    apply List.ext_getElem (by rw [bitsB_len])
    intro i h1 h2
    rw [bitsB_get]
    cases i with
    | zero =>
      rw [List.getElem_cons_zero, Nat.pow_zero, Nat.div_one]
      unfold numOf
      cases b with
      | true => rw [if_pos rfl]; exact decide_eq_true (by omega)
      | false => rw [if_neg (by simp)]; exact decide_eq_false (by omega)
    | succ i =>
      rw [List.getElem_cons_succ]
      have hi : i < m.length := by simpa using h2
      have hg : (bitsB (numOf m) m.length)[i]'(by rw [bitsB_len]; exact hi) = m[i] := by
        have := congrArg (fun z => z[i]?) ih
        rw [List.getElem?_eq_getElem (by rw [bitsB_len]; exact hi), List.getElem?_eq_getElem hi] at this
        exact Option.some.inj this
      rw [← hg, bitsB_get, Nat.pow_succ', ← Nat.div_div_eq_div_mul]
      have : numOf (b :: m) / 2 = numOf m := by
        rw [show numOf (b :: m) = (if b = true then 1 else 0) + 2 * numOf m from rfl]
        split <;> omega
      rw [this]
theorem wrapU {a : Nat} (h : a < 18446744073709551616) : IntKind.u64.wrap (a : Int) = (a : Int) := by
  unfold IntKind.wrap
  have h1 : (a : Int) % 18446744073709551616 = (a : Int) := Int.emod_eq_of_lt (by omega) (by omega)
  simp [IntKind.bits, IntKind.signed, h1]
theorem shl1_eq {n : Nat} (hn : n ≤ 8) : shlZ .i64 1 (IntKind.u64.wrap (n : Int)) = some ((2 ^ n : Nat) : Int) := by
  have hpw : 2 ^ n ≤ 2 ^ 8 := Nat.pow_le_pow_right (by omega) hn
  have hnn : (0 : Int) ≤ ((2 ^ n : Nat) : Int) := Int.natCast_nonneg _
  rw [wrapU (by omega)]
  unfold shlZ shlI
  rw [leZ_eq, decide_eq_true (by omega), cond_true]
  rw [show min ((n : Int).toNat) (IntKind.i64.bits) = n by show min ((n : Int).toNat) 64 = n; simp; omega, Int.one_mul]
  rw [show ((2 : Int) ^ n) = ((2 ^ n : Nat) : Int) by simp]
  rw [wrap_in (show inK .i64 _ from ⟨by show (-9223372036854775808 : Int) ≤ _; omega, by show _ ≤ (9223372036854775807 : Int); omega⟩)]
theorem bit_eq {x k : Nat} (hx : x ≤ 1000000) (hk : k ≤ 60) : ∃ y : Nat, shrZ .i64 (x : Int) (k : Int) = some (y : Int) ∧ y = x / 2 ^ k ∧ andI .i64 (y : Int) 1 = ((y % 2 : Nat) : Int) := by
  have e2 : shrI .i64 (x : Int) (k : Int) = ((x / 2 ^ k : Nat) : Int) := by
    unfold shrI
    rw [show min ((k : Int).toNat) (IntKind.i64.bits) = k by show min ((k : Int).toNat) 64 = k; simp; omega]
    rw [Int.fdiv_eq_ediv_of_nonneg _ (by exact Int.pow_nonneg (by omega))]
    simp
  have hdiv : x / 2 ^ k ≤ x := Nat.div_le_self _ _
  generalize hy : x / 2 ^ k = y at e2 hdiv
  refine ⟨y, ?_, rfl, ?_⟩
  · unfold shrZ
    rw [e2, leZ_eq, decide_eq_true (by omega), Bool.true_and]
    have : inZ .i64 (y : Int) = true := by
      unfold inZ
      rw [leZ_eq, leZ_eq, Bool.and_eq_true, decide_eq_true_eq, decide_eq_true_eq]
      exact ⟨by show (-9223372036854775808 : Int) ≤ _; omega, by show _ ≤ (9223372036854775807 : Int); omega⟩
    rw [this]; rfl
  · unfold andI
    show IntKind.i64.wrap (((BitVec.ofInt 64 (y : Int) &&& BitVec.ofInt 64 ((1 : Nat) : Int)).toNat : Nat) : Int) = _
    rw [show BitVec.ofInt 64 (y : Int) = BitVec.ofNat 64 y by simp, show BitVec.ofInt 64 ((1 : Nat) : Int) = BitVec.ofNat 64 1 by simp, BitVec.toNat_and, BitVec.toNat_ofNat, BitVec.toNat_ofNat, Nat.mod_eq_of_lt (by omega), Nat.mod_eq_of_lt (by omega), Nat.and_one_is_mod]
    exact wrap_in (show inK .i64 _ from ⟨by show (-9223372036854775808 : Int) ≤ _; omega, by show _ ≤ (9223372036854775807 : Int); omega⟩)

def openB (l : List GClause) (n : Nat) : Bool := (List.range (2 ^ n)).any fun k => holdsF l (bitsB k n)
theorem openB_iff {l : List GClause} {n : Nat} : openB l n = true ↔ ∃ m, Sat (lits l) n [] m := by
  unfold openB Sat
  rw [List.any_eq_true]
  constructor
  · rintro ⟨k, _, hk⟩
    exact ⟨bitsB k n, bitsB_len k n, holds_iff.1 hk, fun x hx => by cases hx⟩
  · rintro ⟨m, h1, h2, _⟩
    refine ⟨numOf m, List.mem_range.2 (by rw [← h1]; exact numOf_lt m), ?_⟩
    rw [← h1, bits_num]
    exact holds_iff.2 h2
theorem open30_eq {l : List GClause} {n : Nat} (h : Sized l) (hn : n ≤ 8) : ladinglaw30_open l (n : Int) = some (openB l n) := by
  have hp : ∀ k, k ≤ 8 → 2 ^ k ≤ 256 := fun k hk => Nat.le_trans (Nat.pow_le_pow_right (by omega) hk) (by decide)
  have h8 := hp n hn
  unfold ladinglaw30_open
  have h2 : ∀ k : Nat, k < 2 ^ n → loopF (fun x => ladinglaw30_open.b1 (n : Int) (k : Int) x.1 x.2) (0, repT (n : Int) false) = some (bitsB k n) := fun k hk => by
    obtain ⟨r, g1, g2⟩ := loopF_inv (body := fun x => ladinglaw30_open.b1 (n : Int) (k : Int) x.1 x.2) (fun j x => x.1 = (j : Int) ∧ x.2.length = n ∧ ∀ i (hi : i < x.2.length), i < j → x.2[i] = decide (k / 2 ^ i % 2 = 1)) (Q := fun r => r = bitsB k n) n (x := (0, repT (n : Int) false))
      ⟨rfl, by rw [repT_len]; simp, fun i _ h => by omega⟩
      (fun j hj x hx => by
        obtain ⟨a, o⟩ := x
        obtain ⟨e1, e3, e4⟩ := hx
        simp only at e1 e3 e4
        subst e1
        have hjo : j < o.length := by omega
        obtain ⟨y, y1, y2, y3⟩ := bit_eq (x := k) (k := j) (by omega) (by omega)
        refine .inl ⟨(((j + 1 : Nat) : Int), o.set (j : Int).toNat (eqZ ((y % 2 : Nat) : Int) 1)), ?_, rfl, by rw [List.length_set]; exact e3, fun i hi hij => ?_⟩
        · simp only [ladinglaw30_open.b1, lt_n hj, cond_true]
          rw [wrapU (by omega), y1, bind_in, idx_nat hjo, bind_in, bind_in, z64_nx hjo (by omega), bind_in, y3]
        · simp only at hi ⊢
          rw [List.getElem_set]
          split
          · rename_i e
            have : j = i := by simpa using e
            subst this
            rw [eqZ_eq, decide_eq_decide, ← y2]; omega
          · rename_i e
            rw [List.length_set] at hi
            have : j ≠ i := by simpa using e
            exact e4 i hi (by omega))
      (fun x hx => by
        obtain ⟨a, o⟩ := x
        obtain ⟨e1, e3, e4⟩ := hx
        simp only at e1 e3 e4
        subst e1
        refine ⟨o, ?_, List.ext_getElem (by rw [bitsB_len]; exact e3) fun i hi hi2 => by rw [e4 i hi (by omega), bitsB_get]⟩
        simp only [ladinglaw30_open.b1, lt_e, cond_false])
      (by omega)
    rw [g1, g2]
  refine (loop_scan (body := fun x => ladinglaw30_open.b2 l (n : Int) x) (List.range (2 ^ n)) (fun _ k => if (fun k => holdsF l (bitsB k n)) k = true then some true else none) false (fun k hk => ?_) ?_ (by rw [List.length_range]; omega)).trans ?_
  · rw [List.length_range] at hk
    simp only [ladinglaw30_open.b2, shl1_eq hn, bind_in, lt_n hk, cond_true]
    rw [msNeed_in (by omega) (by omega), bind_in, h2 k hk, bind_in]
    unfold ladinglaw30_open.j1
    rw [holds_eq (ok_of (by have := h.len; omega) h.lits), bind_in, List.getElem_range]
    by_cases hh : holdsF l (bitsB k n) = true
    · simp only [hh, cond_true, if_true]
    · simp only [Bool.eq_false_iff.2 hh, cond_false, z64_nx hk (show 2 ^ n ≤ 9223372036854775807 by omega), bind_in]; rfl
  · rw [List.length_range]
    simp only [ladinglaw30_open.b2, shl1_eq hn, bind_in, lt_e, cond_false]
  · rw [scan_any]
    unfold openB
    split
    · rename_i h; rw [h]; rfl
    · rename_i h; rw [Bool.eq_false_iff.2 h]; rfl
/-! ### minimal -/
theorem some_all {l : List GClause} {core : List Int} (hv : Valid l core) (hc : core.length ≤ 1000000) : ladinglaw30_some l core (-1) = some (pickF l core) := by
  unfold ladinglaw30_some
  refine loopF_at (body := fun x => ladinglaw30_some.b1 l core (-1) x.1 x.2) (fun k => ((k : Int), pickF l (core.take k))) core.length rfl (fun k hk => ?_) ?_ (by omega)
  · have hk2 := hv _ (List.getElem_mem hk)
    simp only [ladinglaw30_some.b1, lt_n hk, cond_true]
    rw [bif_not, bif_eqZ, if_neg (by omega), idx_nat hk, bind_in, leZ_eq, decide_eq_true hk2.1, cond_true, bind_in, ltZ_eq, decide_eq_true hk2.2, bind_in]
    unfold ladinglaw30_some.j1
    rw [cond_true, idx_nat hk, bind_in, idx_valid hk2, bind_in, app_in (by rw [pick_len, List.length_take]; simp only [List.length_singleton]; omega), bind_in, z64_nx hk (by omega), bind_in, take_snoc core k hk, pick_snoc]
  · simp only [ladinglaw30_some.b1, lt_e, cond_false, List.take_length]
theorem some_but {l : List GClause} {core : List Int} {j : Nat} (hv : Valid l core) (hc : core.length ≤ 1000000) : ladinglaw30_some l core (j : Int) = some (pickF l (er core j)) := by
  unfold ladinglaw30_some
  refine loopF_at (body := fun x => ladinglaw30_some.b1 l core (j : Int) x.1 x.2) (fun k => ((k : Int), pickF l (er (core.take k) j))) core.length (by simp [er, pickF]) (fun k hk => ?_) ?_ (by omega)
  · have hk2 := hv _ (List.getElem_mem hk)
    have hkl : (core.take k).length = k := by rw [List.length_take]; omega
    have hel : (er (core.take k) j).length ≤ k := by unfold er; rw [List.length_append, List.length_take, List.length_drop, hkl]; omega
    simp only [ladinglaw30_some.b1, lt_n hk, cond_true]
    rw [bif_not, bif_eqZ, take_snoc core k hk, er_snoc, hkl]
    by_cases h : k = j
    · rw [if_pos (by omega), if_pos h, bind_in]
      unfold ladinglaw30_some.j1
      rw [cond_false, z64_nx hk (by omega), bind_in]
    · rw [if_neg (by omega), if_neg h, idx_nat hk, bind_in, leZ_eq, decide_eq_true hk2.1, cond_true, bind_in, ltZ_eq, decide_eq_true hk2.2, bind_in]
      unfold ladinglaw30_some.j1
      rw [cond_true, idx_nat hk, bind_in, idx_valid hk2, bind_in, app_in (by rw [pick_len]; simp only [List.length_singleton]; omega), bind_in, z64_nx hk (by omega), bind_in, pick_snoc]
  · simp only [ladinglaw30_some.b1, lt_e, cond_false, List.take_length]
theorem openP {l : List GClause} {n : Nat} {c : List Int} : openB (pickF l c) n = true ↔ Op l n c := openB_iff
theorem minimal_true {l : List GClause} {n : Nat} {core : List Int} (h : Sized l) (hn : n ≤ 8) (hc : core.length ≤ 10000) (ha : ascB (l.length : Int) (-1) core = true) (hu : ¬ Op l n core) (ho : ∀ j, j < core.length → Op l n (er core j)) : ladinglaw30_minimal l (n : Int) core = some true := by
  have hv := asc_valid ha
  unfold ladinglaw30_minimal
  rw [some_all hv (by omega), bind_in, open30_eq (h.pick hv (by omega)) hn, bind_in, Bool.eq_false_iff.2 (fun e => hu (openP.1 e)), cond_false]
  refine loopF_at (body := fun x => ladinglaw30_minimal.b1 l (n : Int) core x) (fun k => (k : Int)) core.length rfl (fun k hk => ?_) ?_ (by omega)
  · have hk2 := hv _ (List.getElem_mem hk)
    have hel := er_len hk
    have hop : ((ladinglaw30_some l core (k : Int)).bind fun s => (ladinglaw30_open s (n : Int)).bind fun o => some (!o)) = some false := by
      rw [some_but hv (by omega), bind_in, open30_eq (h.pick (hv.er k) (by omega)) hn, bind_in, openP.2 (ho k hk)]; rfl
    simp only [ladinglaw30_minimal.b1, lt_n hk, cond_true, hop]
    rw [idx_nat hk, bind_in, ltZ_eq, decide_eq_false (by omega), cond_false, bind_in, leZ_eq, decide_eq_false (by omega), cond_false, ltZ_eq]
    by_cases h0 : 0 < k
    · have hk1 : k - 1 < core.length := by omega
      have hlt := List.pairwise_iff_getElem.1 (ascB_iff.1 ha).2 (k - 1) k hk1 hk (by omega)
      rw [decide_eq_true (by omega), cond_true, bind_in, z64_pred h0 (by omega), bind_in, idx_nat hk1, bind_in, leZ_eq, decide_eq_false (by omega), cond_false, bind_in]
      unfold ladinglaw30_minimal.j1
      rw [cond_false, z64_nx hk (by omega), bind_in]
    · rw [decide_eq_false (by omega), cond_false, bind_in]
      unfold ladinglaw30_minimal.j1
      rw [cond_false, z64_nx hk (by omega), bind_in]
  · simp only [ladinglaw30_minimal.b1, lt_e, cond_false]
/-! ### RefuseLeast -/
theorem there_loop {l : List GClause} {c : Ref × Int} {f : List Int} {i : Nat} (hi : i < f.length) (hv : Valid l c.1.1) (hc : c.1.1.length ≤ 1000000) :
    loopF (fun x => ladinglaw30_RefuseLeast.b1 l c f (i : Int) x.1 x.2) (false, 0) = some (c.1.1.any fun k => decide ((l.getD k.toNat dfl).2.2.1 = f[i])) := by
  refine loopF_at (body := fun x => ladinglaw30_RefuseLeast.b1 l c f (i : Int) x.1 x.2) (fun k => ((c.1.1.take k).any fun k => decide ((l.getD k.toNat dfl).2.2.1 = f[i]), (k : Int))) c.1.1.length (by simp) (fun k hk => ?_) ?_ (by omega)
  · have hk2 := hv _ (List.getElem_mem hk)
    simp only [ladinglaw30_RefuseLeast.b1, lt_n hk, cond_true]
    rw [take_snoc _ k hk, List.any_append]
    cases (c.1.1.take k).any fun k => decide ((l.getD k.toNat dfl).2.2.1 = f[i]) with
    | true => rw [cond_true, z64_nx hk (by omega), bind_in, Bool.true_or]
    | false => rw [cond_false, idx_nat hk, bind_in, idx_valid hk2, bind_in, idx_nat hi, bind_in, z64_nx hk (by omega), bind_in, Bool.false_or, eqZ_eq]; simp
  · simp only [ladinglaw30_RefuseLeast.b1, lt_e, cond_false, List.take_length]
theorem facts_loop {l : List GClause} {c : Ref × Int} (hv : Valid l c.1.1) (hc : c.1.1.length ≤ 1000000) : loopF (fun x => ladinglaw30_RefuseLeast.b2 l true c (factsF l c.1.1) x) 0 = some true := by
  obtain ⟨f1, f2⟩ := facts_spec l c.1.1
  have fl := facts_len l c.1.1
  generalize hf : factsF l c.1.1 = f at f1 f2 fl
  refine loopF_at (body := fun x => ladinglaw30_RefuseLeast.b2 l true c f x) (fun k => (k : Int)) f.length rfl (fun k hk => ?_) ?_ (by omega)
  · simp only [ladinglaw30_RefuseLeast.b2, lt_n hk, cond_true]
    rw [there_loop hk hv hc, bind_in]
    obtain ⟨i, hi, he⟩ := List.mem_filterMap.1 ((f2 f[k]).1 (List.getElem_mem hk))
    unfold factOf at he
    split at he
    · rename_i hi2
      injection he with he
      have ht : (c.1.1.any fun j => decide ((l.getD j.toNat dfl).2.2.1 = f[k])) = true := List.any_eq_true.2 ⟨i, hi, decide_eq_true he⟩
      rw [ht]
      unfold ladinglaw30_RefuseLeast.j2
      rw [Bool.not_true, cond_false, idx_nat hk, bind_in, ltZ_eq, decide_eq_false (by omega), cond_false, ltZ_eq]
      by_cases h0 : 0 < k
      · have hk1 : k - 1 < f.length := by omega
        have hlt := List.pairwise_iff_getElem.1 f1 (k - 1) k hk1 hk (by omega)
        rw [decide_eq_true (by omega), cond_true, bind_in, z64_pred h0 (by omega), bind_in, idx_nat hk1, bind_in, leZ_eq, decide_eq_false (by omega), bind_in]
        unfold ladinglaw30_RefuseLeast.j1
        rw [cond_false, z64_nx hk (by omega), bind_in]
      · rw [decide_eq_false (by omega), cond_false, bind_in]
        unfold ladinglaw30_RefuseLeast.j1
        rw [cond_false, z64_nx hk (by omega), bind_in]
    · cases he
  · simp only [ladinglaw30_RefuseLeast.b2, lt_e, cond_false]
theorem least_true (l : List GClause) (n : Int) : ladinglaw30_RefuseLeast l n = some true := by
  unfold ladinglaw30_RefuseLeast
  rw [small_true, bind_in]
  obtain ⟨b1, h1, h2⟩ := light_eq l (N := 14) (by omega)
  have h1 : ladinglaw30_light l 14 = some b1 := h1
  have hout : ladinglaw30_RefuseLeast.j4 l n true true = some true := rfl
  rw [h1, bind_in]
  cases b1 with
  | false => rw [Bool.not_false, cond_true, bind_in, hout]
  | true =>
    rw [Bool.not_true, cond_false]
    simp only [ltZ_eq]
    by_cases hn : n < 0
    · rw [decide_eq_true hn, cond_true, bind_in, hout]
    rw [decide_eq_false hn, cond_false]
    by_cases hn7 : 7 < n
    · rw [decide_eq_true hn7, cond_true, bind_in, hout]
    rw [decide_eq_false hn7, cond_false]
    obtain ⟨a1, a2⟩ := h2 rfl
    have hs : Sized l := sized_of (by omega) (by omega) a1 a2
    rw [right_eq (ok_of (by omega) hs.lits), bind_in, bind_in]
    cases hr : rightF l n with
    | false => rw [Bool.not_false, hout]
    | true =>
      obtain ⟨k, rfl⟩ : ∃ k : Nat, n = (k : Int) := ⟨n.toNat, by omega⟩
      have hfit : Fit l k := ⟨hs, by omega, hr, by omega⟩
      rw [Bool.not_true]
      unfold ladinglaw30_RefuseLeast.j4
      rw [cond_false, core_eq hs (by omega), bind_in, open30_eq hs (by omega), bind_in]
      rcases core_spec hfit with ⟨g1, g2⟩ | ⟨r, g1, g2, g3⟩
      · rw [g2, openB_iff.2 g1]; rfl
      · have hlen := g3.len
        rw [g1, Bool.eq_false_iff.2 (fun e => g2 (openB_iff.1 e)), bif_not, bif_eqZ, if_pos rfl, cond_false, minimal_true hs (by omega) (by omega) g3.asc g3.un (fun j hj => ⟨_, g3.mods j (by rw [g3.mlen]; exact hj)⟩), bind_in, Bool.not_true, cond_false,
          check_eq (r := r) hs (by omega) (by omega) (fun c hc => by have := g3.plits c hc; omega), g3.check hfit, bind_in, eqZ_eq, decide_eq_true rfl, Bool.not_true, bind_in]
        unfold ladinglaw30_RefuseLeast.j3
        rw [cond_false, facts_eq (by omega) (by show r.1.length ≤ _; omega), bind_in]
        exact facts_loop (c := (r, 0)) (asc_valid g3.asc) (by show r.1.length ≤ _; omega)
/-! ### RefuseChecks -/
theorem prf_zero {C L : List (List Int)} (h : prfF C L = 0) : PrfOK C L := by
  unfold prfF at h
  split at h
  · cases h
  · split at h
    · rename_i h1
      exact (@decide_eq_true_iff _ (Classical.propDecidable _)).1 h1
    · cases h
theorem asc_er {n : Int} {c : List Int} {k : Nat} (h : ascB n (-1) c = true) : ascB n (-1) (er c k) = true := by
  obtain ⟨h1, h2⟩ := ascB_iff.1 h
  exact ascB_iff.2 ⟨fun x hx => h1 x (er_sub hx), h2.sublist (er_subl c k)⟩
theorem prf_op {l : List GClause} {n : Nat} {c : List Int} {L : List (List Int)} (hn : n ≤ 2000) (h : PrfOK (lits (pickF l c)) L) : ¬ Op l n c := fun ⟨m, hm⟩ => prf_no2 (m := m) (by rw [hm.1]; exact hn) h hm.2.1
theorem checks_true (l : List GClause) (n : Int) (core : List Int) (P : List (List Int)) (M : List (List Bool)) (k : Int) : ladinglaw30_RefuseChecks l n core P M k = some true := by
  unfold ladinglaw30_RefuseChecks
  rw [small_true, bind_in]
  obtain ⟨b1, h1, h2⟩ := light_eq l (N := 14) (by omega)
  obtain ⟨b2, h3, h4⟩ := lists30_eq P (N := 16) (by omega)
  obtain ⟨b3, h5, h6⟩ := models30_eq M (N := 16) (by omega)
  have h1 : ladinglaw30_light l 14 = some b1 := h1
  have h3 : ladinglaw30_lists P 16 = some b2 := h3
  have h5 : ladinglaw30_models M 16 = some b3 := h5
  have hout : ladinglaw30_RefuseChecks.j3 l n core P M k true true = some true := rfl
  rw [h1, bind_in]
  cases b1 with
  | false => rw [Bool.not_false, cond_true, bind_in, hout]
  | true =>
    rw [Bool.not_true, cond_false]
    simp only [ltZ_eq]
    by_cases hn : n < 0
    · rw [decide_eq_true hn, cond_true, bind_in, hout]
    rw [decide_eq_false hn, cond_false]
    by_cases hn7 : 7 < n
    · rw [decide_eq_true hn7, cond_true, bind_in, hout]
    rw [decide_eq_false hn7, cond_false]
    obtain ⟨a1, a2⟩ := h2 rfl
    have hs : Sized l := sized_of (by omega) (by omega) a1 a2
    rw [right_eq (ok_of (by omega) hs.lits), bind_in]
    cases hr : rightF l n with
    | false => rw [Bool.not_false, cond_true, bind_in, hout]
    | true =>
      rw [Bool.not_true, cond_false]
      by_cases hc : 16 < core.length
      · rw [decide_eq_true (by omega), cond_true, bind_in, hout]
      rw [decide_eq_false (by omega), cond_false, h3, bind_in]
      cases b2 with
      | false => rw [Bool.not_false, cond_true, bind_in, hout]
      | true =>
        rw [Bool.not_true, cond_false, h5, bind_in, bind_in]
        cases b3 with
        | false => rw [Bool.not_false, hout]
        | true =>
          obtain ⟨a3, a4⟩ := h4 rfl
          obtain ⟨a5, a6⟩ := h6 rfl
          have hP : ∀ c ∈ P, c.length ≤ 1000000 := fun c hc => by have := a4 c hc; omega
          obtain ⟨N, rfl⟩ : ∃ k : Nat, n = (k : Int) := ⟨n.toNat, by omega⟩
          rw [Bool.not_true]
          unfold ladinglaw30_RefuseChecks.j3
          rw [cond_false, check_eq (r := (core, P, M)) hs (by omega) (show core.length ≤ 10000 by omega) hP, bind_in, bif_not, bif_eqZ]
          by_cases h0 : checkF l (N : Int) (core, P, M) = 0
          · rw [if_pos h0]
            obtain ⟨_, c1, c2, c3, c4⟩ := checkF_zero h0
            simp only at c1 c2 c3 c4
            have hprf := prf_zero c2
            have hu : ¬ Op l N core := prf_op (by omega) hprf
            have ho : ∀ j, j < core.length → Op l N (er core j) := fun j hj => ⟨_, modOK_sat.1 (c4 j (by omega))⟩
            have hPl : 0 < P.length := List.length_pos_iff.2 hprf.1
            rw [minimal_true hs (by omega) (by omega) c1 hu ho, bind_in, Bool.not_true, cond_false, bif_not, bif_eqZ, if_pos (by omega), eqZ_eq, decide_eq_false (by omega), bind_in]
            unfold ladinglaw30_RefuseChecks.j2
            rw [cond_false]
            simp only [ltZ_eq, leZ_eq]
            by_cases hk : k < 0
            · rw [decide_eq_true hk, cond_true, bind_in]; rfl
            rw [decide_eq_false hk, cond_false, bind_in]
            by_cases hk2 : (core.length : Int) ≤ k
            · rw [decide_eq_true hk2]; rfl
            rw [decide_eq_false hk2]
            obtain ⟨j, rfl⟩ : ∃ j : Nat, k = (j : Int) := ⟨k.toNat, by omega⟩
            have hj : j < core.length := by omega
            have hjm : j < M.length := by omega
            have hel := er_len hj
            unfold ladinglaw30_RefuseChecks.j1
            have he1 : ([] : List Int) ++ (core.take (j : Int).toNat).drop (0 : Int).toNat ++ (core.take (core.length : Int).toNat).drop ((j + 1 : Nat) : Int).toNat = er core j := by
              rw [Int.toNat_natCast, Int.toNat_natCast, Int.toNat_natCast, show (0 : Int).toNat = 0 from rfl, List.drop_zero, List.nil_append, List.take_length]; rfl
            have he2 : ([] : List (List Bool)) ++ (M.take (j : Int).toNat).drop (0 : Int).toNat ++ (M.take (M.length : Int).toNat).drop ((j + 1 : Nat) : Int).toNat = er M j := by
              rw [Int.toNat_natCast, Int.toNat_natCast, Int.toNat_natCast, show (0 : Int).toNat = 0 from rfl, List.drop_zero, List.nil_append, List.take_length]; rfl
            rw [cond_false, cut_in (by omega) (by omega) (by omega), bind_in, app_in (by simp only [List.length_nil, List.length_drop, List.length_take]; omega), bind_in, z64_succ (by omega), bind_in, cut_in (by omega) (by omega) (by omega), bind_in, app_in (by simp only [List.length_append, List.length_nil, List.length_drop, List.length_take]; omega), bind_in, he1,
              cut_in (by omega) (by omega) (by omega), bind_in, app_in (by simp only [List.length_nil, List.length_drop, List.length_take]; omega), bind_in, bind_in, cut_in (by omega) (by omega) (by omega), bind_in, app_in (by simp only [List.length_append, List.length_nil, List.length_drop, List.length_take]; omega), bind_in, he2, cond_true]
            have e1 : checkF l (N : Int) (er core j, P, er M j) = 19 := checkF_no hr (asc_er c1) fun hh => prf_op (n := N) (by omega) (prf_zero hh.1) (ho j hj)
            have e2 : checkF l (N : Int) (core, [], M) = 19 := checkF_no hr c1 fun hh => (prf_zero hh.1).1 rfl
            rw [check_eq (r := (er core j, P, er M j)) hs (by omega) (show (er core j).length ≤ 10000 by omega) hP, bind_in, e1, eqZ_eq, decide_eq_true rfl, cond_true, check_eq (r := (core, [], M)) hs (by omega) (show core.length ≤ 10000 by omega) (fun c hc => by cases hc), bind_in, e2, eqZ_eq, decide_eq_true rfl]
          · rw [if_neg h0]
/-! ### RefuseBehind -/
theorem red_same {l more : List GClause} {n : Int} : ∀ {k : Nat} {c : List Int}, Valid l c → redF (l ++ more) n k c = redF l n k c
  | 0, c, _ => rfl
  | k + 1, c, hv => by
    have hp : pickF (l ++ more) (er c k) = pickF l (er c k) := by
      unfold pickF
      refine List.map_congr_left fun i hi => ?_
      have := (hv.er k) i hi
      rw [List.getD_eq_getElem?_getD, List.getD_eq_getElem?_getD, List.getElem?_append_left (by omega)]
    rw [red_succ, red_succ, hp, red_same (hv.er k), red_same hv]
theorem er_range (k : Nat) : er (rangeI (k + 1)) k = rangeI k := by
  rw [rangeI_succ, er_snoc, rangeI_len, if_pos rfl]
  unfold er
  rw [List.take_of_length_le (by rw [rangeI_len]; omega), List.drop_of_length_le (by rw [rangeI_len]; omega), List.append_nil]
theorem range_sub {a b : Nat} (h : a ≤ b) : ∀ x ∈ rangeI a, x ∈ rangeI b := fun x hx => by
  unfold rangeI at *
  obtain ⟨k, hk, rfl⟩ := List.mem_map.1 hx
  exact List.mem_map.2 ⟨k, List.mem_range.2 (by have := List.mem_range.1 hk; omega), rfl⟩
theorem range_valid {l : List GClause} {k : Nat} (h : k ≤ l.length) : Valid l (rangeI k) := fun i hi => rangeI_valid l i (range_sub h i hi)
theorem red_down {l : List GClause} {n L : Nat} (hf : Fit l n) (hu : ¬ Op l n (rangeI L)) : ∀ j, L + j ≤ l.length → redF l (n : Int) (L + j) (rangeI (L + j)) = redF l (n : Int) L (rangeI L)
  | 0, _ => rfl
  | j + 1, hj => by
    have hlen := hf.len
    have h1 : ¬ Op l n (er (rangeI (L + j + 1)) (L + j)) := by
      rw [er_range]
      exact fun h => hu (h.mono (range_sub (by omega)))
    rw [show L + (j + 1) = L + j + 1 by omega, red_step_un hf (range_valid (by omega)) (by rw [rangeI_len]; omega) h1, er_range]
    exact red_down hf hu j (by omega)
theorem right_left {l more : List GClause} {n : Int} (h : rightF (l ++ more) n = true) : rightF l n = true := by
  obtain ⟨h1, h2⟩ := rightF_iff.1 h
  rw [List.length_append] at h1
  exact rightF_iff.2 ⟨⟨h1.1, h1.2.1, by omega⟩, fun c hc => h2 c (List.mem_append_left _ hc)⟩
theorem pick_left (l more : List GClause) : pickF (l ++ more) (rangeI l.length) = l := by
  refine Eq.trans ?_ (pick_all l)
  unfold pickF
  refine List.map_congr_left fun i hi => ?_
  have := rangeI_valid l i hi
  rw [List.getD_eq_getElem?_getD, List.getD_eq_getElem?_getD, List.getElem?_append_left (by omega)]
theorem behind_true (l more : List GClause) (n : Int) (hl : l.length ≤ 1048576) (hm : more.length ≤ 1048576) : ladinglaw30_RefuseBehind l more n = some true := by
  unfold ladinglaw30_RefuseBehind
  rw [small_true, bind_in, app_in (by simp only [List.length_nil]; omega), bind_in, List.nil_append, app_in (by omega), bind_in]
  obtain ⟨b1, h1, h2⟩ := light_eq l (N := 10) (by omega)
  obtain ⟨b2, h3, h4⟩ := light_eq more (N := 5) (by omega)
  have h1 : ladinglaw30_light l 10 = some b1 := h1
  have h3 : ladinglaw30_light more 5 = some b2 := h3
  have hout : ladinglaw30_RefuseBehind.j1 l n true (l ++ more) true = some true := rfl
  rw [h1, bind_in]
  cases b1 with
  | false => rw [Bool.not_false, cond_true, bind_in, hout]
  | true =>
    rw [Bool.not_true, cond_false, h3, bind_in]
    cases b2 with
    | false => rw [Bool.not_false, cond_true, bind_in, hout]
    | true =>
      rw [Bool.not_true, cond_false]
      simp only [ltZ_eq]
      by_cases hn : n < 0
      · rw [decide_eq_true hn, cond_true, bind_in, hout]
      rw [decide_eq_false hn, cond_false]
      by_cases hn7 : 6 < n
      · rw [decide_eq_true hn7, cond_true, bind_in, hout]
      rw [decide_eq_false hn7, cond_false]
      obtain ⟨a1, a2⟩ := h2 rfl
      obtain ⟨a3, a4⟩ := h4 rfl
      have hs : Sized l := sized_of (by omega) (by omega) a1 a2
      have hal : (l ++ more).length = l.length + more.length := List.length_append
      have hsa : Sized (l ++ more) := sized_of (n := 15) (k := 6) (by omega) (by omega) (by omega) fun c hc => (List.mem_append.1 hc).elim (a2 c) (a4 c)
      rw [right_eq (ok_of (by omega) hsa.lits), bind_in, bind_in]
      cases hr : rightF (l ++ more) n with
      | false => rw [Bool.not_false, hout]
      | true =>
        obtain ⟨k, rfl⟩ : ∃ k : Nat, n = (k : Int) := ⟨n.toNat, by omega⟩
        have hfit : Fit l k := ⟨hs, by omega, right_left hr, by omega⟩
        have hfa : Fit (l ++ more) k := ⟨hsa, by omega, hr, by omega⟩
        rw [Bool.not_true]
        unfold ladinglaw30_RefuseBehind.j1
        rw [cond_false, core_eq hs (by omega), bind_in, core_eq hsa (by omega), bind_in]
        rcases core_spec hfit with ⟨g1, g2⟩ | ⟨r, g1, g2, g3⟩
        · rcases core_spec hfa with ⟨_, k2⟩ | ⟨q, k1, _, _⟩
          · rw [g2, k2]; rfl
          · rw [g2, k1]; rfl
        · have hu : ¬ Op (l ++ more) k (rangeI l.length) := by
            unfold Op; rw [pick_left]; exact g2
          rcases core_spec hfa with ⟨⟨m, hm⟩, _⟩ | ⟨q, k1, _, k3⟩
          · exact absurd ⟨m, hm.1, fun d hd => hm.2.1 d (by unfold lits at *; rw [List.map_append]; exact List.mem_append_left _ hd), hm.2.2⟩ g2
          · have hd := red_down hfa hu more.length (by omega)
            rw [← hal, k3.red, red_same (rangeI_valid l), g3.red] at hd
            have hq : q.1 = r.1 := Sum.inl.inj hd
            have hrl := g3.len
            rw [g1, k1, bif_not, bif_eqZ, if_pos rfl, cond_true, eqZ_eq, show decide (((q, (0 : Int)) : Ref × Int).2 = 6) = false from rfl, cond_false, eqZ_eq, show decide (((q, (0 : Int)) : Ref × Int).2 = 0) = true from rfl, cond_true]
            show ((ladingref26_Same r.1 q.1).bind fun s => some s) = some true
            rw [hq, same_eq (by omega), bind_in, decide_eq_true rfl]
end Go.Proofs.Ythibbellkcdodaa
