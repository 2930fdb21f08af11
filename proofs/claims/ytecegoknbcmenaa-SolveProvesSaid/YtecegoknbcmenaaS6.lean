/-
  Layer 27 (solve): models by their numbers; SolveDecides.
-/
import Derived.Test.YtecegoknbcmenaaS5
namespace Go.Proofs.Ytecegoknbcmenaa
open Go.Lad
set_option linter.unusedVariables false
set_option linter.unusedSimpArgs false
set_option linter.unusedSectionVars false
/-- the model of n variables with a number -/
def numB (k n : Nat) : List Bool := (List.range n).map fun i => decide (k / 2 ^ (n - 1 - i) % 2 = 1)
theorem numB_len (k n : Nat) : (numB k n).length = n := by unfold numB; simp
theorem numB_get {k n i : Nat} (h : i < (numB k n).length) : (numB k n)[i] = decide (k / 2 ^ (n - 1 - i) % 2 = 1) := by simp [numB]
/-- a model's number -/
def valB : List Bool → Nat
  | [] => 0
  | b :: m => (if b = true then 2 ^ m.length else 0) + valB m
theorem valB_lt : ∀ m : List Bool, valB m < 2 ^ m.length
  | [] => by simp [valB]
  | b :: m => by
    have := valB_lt m
    unfold valB
    rw [List.length_cons, Nat.pow_succ]
    split <;> omega
theorem numB_val : ∀ m : List Bool, numB (valB m) m.length = m
  | [] => rfl
  | b :: m => by
    have hlt := valB_lt m
    have ih := numB_val m
    apply List.ext_getElem (by rw [numB_len])
    intro i h1 h2
    rw [numB_get, List.length_cons]
    have hv : valB (b :: m) = (if b = true then 2 ^ m.length else 0) + valB m := rfl
    cases i with
    | zero =>
      rw [show m.length + 1 - 1 - 0 = m.length by omega, List.getElem_cons_zero, hv]
      cases b with
      | true =>
        rw [if_pos rfl, Nat.add_div_left _ (Nat.two_pow_pos _), Nat.div_eq_of_lt hlt]; rfl
      | false => rw [if_neg (by simp), Nat.zero_add, Nat.div_eq_of_lt hlt]; rfl
    | succ i =>
      rw [List.getElem_cons_succ]
      have hi : i < m.length := by simpa using h2
      have hg : (numB (valB m) m.length)[i]'(by rw [numB_len]; exact hi) = m[i] := by
        have := congrArg (fun z => z[i]?) ih
        rw [List.getElem?_eq_getElem (by rw [numB_len]; exact hi), List.getElem?_eq_getElem hi] at this
        exact Option.some.inj this
      rw [← hg, numB_get, show m.length + 1 - 1 - (i + 1) = m.length - 1 - i by omega, hv]
      cases b with
      | false => rw [if_neg (by simp), Nat.zero_add]
      | true =>
        rw [if_pos rfl, decide_eq_decide]
        have e : 2 ^ m.length = 2 ^ (m.length - 1 - i) * (2 * 2 ^ i) := by
          rw [Nat.mul_comm 2 (2 ^ i), ← Nat.pow_succ, ← Nat.pow_add]; congr 1; omega
        rw [e, Nat.add_comm, Nat.add_mul_div_left _ _ (Nat.two_pow_pos _), Nat.add_mul_mod_self_left]
theorem val_before : ∀ {a b : List Bool}, a.length = b.length → valB a < valB b → Before a b
  | [], [], _, h => by simp [valB] at h
  | [], _ :: _, h, _ => by cases h
  | _ :: _, [], h, _ => by cases h
  | x :: a, y :: b, hl, h => by
    have hl' : a.length = b.length := by simpa using hl
    have h1 := valB_lt a
    have h2 := valB_lt b
    unfold valB at h
    rw [hl'] at h h1
    by_cases hxy : x = y
    · subst hxy
      obtain ⟨v, g1, g2, g3⟩ := val_before hl' (by omega)
      exact ⟨v + 1, by rw [List.take_succ_cons, List.take_succ_cons, g1], by simpa using g2, by simpa using g3⟩
    · cases x with
      | true =>
        have : y = false := by cases y <;> simp_all
        subst this
        rw [if_pos rfl, if_neg (by simp)] at h
        omega
      | false =>
        have : y = true := by cases y <;> simp_all
        subst this
        exact ⟨0, rfl, rfl, rfl⟩
theorem val_num {k n : Nat} (h : k < 2 ^ n) : valB (numB k n) = k := by
  have hlen := numB_len k n
  have hl := valB_lt (numB k n)
  rw [hlen] at hl
  have h1 := numB_val (numB k n)
  rw [hlen] at h1
  -- numbers below 2 ^ n are told apart by their bits
  have key : ∀ n a b : Nat, a < 2 ^ n → b < 2 ^ n → numB a n = numB b n → a = b := by
    intro n
    induction n with
    | zero => intro a b ha hb _; simp at ha hb; omega
    | succ n ih =>
      intro a b ha hb he
      have hbit : ∀ i, i < n + 1 → (a / 2 ^ (n - i) % 2 = 1 ↔ b / 2 ^ (n - i) % 2 = 1) := fun i hi => by
        have := congrArg (fun z => z[i]?) he
        unfold numB at this
        simp only [List.getElem?_map, List.getElem?_range hi, Option.map_some, Option.some.injEq, decide_eq_decide] at this
        rw [show n + 1 - 1 - i = n - i by omega] at this
        exact this
      have h2 : a / 2 = b / 2 := by
        refine ih (a / 2) (b / 2) (by rw [Nat.pow_succ] at ha; omega) (by rw [Nat.pow_succ] at hb; omega) ?_
        unfold numB
        refine List.map_congr_left fun i hi => ?_
        have hi := List.mem_range.1 hi
        rw [decide_eq_decide, Nat.div_div_eq_div_mul, Nat.div_div_eq_div_mul, ← Nat.pow_succ', show (n - 1 - i).succ = n - i by omega]
        exact hbit i (by omega)
      have h3 := hbit n (by omega)
      rw [Nat.sub_self, Nat.pow_zero, Nat.div_one, Nat.div_one] at h3
      omega
  exact key n _ _ hl h h1
theorem shl9 {n : Nat} (hn : n ≤ 9) : shlZ .i64 1 (n : Int) = some ((2 ^ n : Nat) : Int) := by
  have hpw : 2 ^ n ≤ 2 ^ 9 := Nat.pow_le_pow_right (by omega) hn
  have hnn : (0 : Int) ≤ ((2 ^ n : Nat) : Int) := Int.natCast_nonneg _
  unfold shlZ shlI
  rw [leZ_eq, decide_eq_true (by omega), cond_true]
  rw [show min ((n : Int).toNat) (IntKind.i64.bits) = n by show min ((n : Int).toNat) 64 = n; simp; omega, Int.one_mul]
  rw [show ((2 : Int) ^ n) = ((2 ^ n : Nat) : Int) by simp]
  rw [wrap_in (show inK .i64 _ from ⟨by show (-9223372036854775808 : Int) ≤ _; omega, by show _ ≤ (9223372036854775807 : Int); omega⟩)]
theorem bit_eq {x k : Nat} (hx : x ≤ 1000000) (hk : k ≤ 60) : ∃ y : Nat, shrZ .i64 (x : Int) (k : Int) = some (y : Int) ∧ y = x / 2 ^ k ∧ andI .i64 (y : Int) 1 = ((y % 2 : Nat) : Int) := by
  have e2 : shrI .i64 (x : Int) (k : Int) = ((x / 2 ^ k : Nat) : Int) := by
    unfold shrI
    rw [show min ((k : Int).toNat) (IntKind.i64.bits) = k by show min ((k : Int).toNat) 64 = k; simp; omega]
    rw [Int.fdiv_eq_ediv_of_nonneg _ (by exact Int.pow_nonneg (by omega))]
    simp
  have hdiv : x / 2 ^ k ≤ x := Nat.div_le_self _ _
  generalize hy : x / 2 ^ k = y at e2 hdiv
  refine ⟨y, ?_, rfl, ?_⟩
  · unfold shrZ
    rw [e2, leZ_eq, decide_eq_true (by omega), Bool.true_and]
    have : inZ .i64 (y : Int) = true := by
      unfold inZ
      rw [leZ_eq, leZ_eq, Bool.and_eq_true, decide_eq_true_eq, decide_eq_true_eq]
      exact ⟨by show (-9223372036854775808 : Int) ≤ _; omega, by show _ ≤ (9223372036854775807 : Int); omega⟩
    rw [this]; rfl
  · unfold andI
    show IntKind.i64.wrap (((BitVec.ofInt 64 (y : Int) &&& BitVec.ofInt 64 ((1 : Nat) : Int)).toNat : Nat) : Int) = _
    rw [show BitVec.ofInt 64 (y : Int) = BitVec.ofNat 64 y by simp, show BitVec.ofInt 64 ((1 : Nat) : Int) = BitVec.ofNat 64 1 by simp, BitVec.toNat_and, BitVec.toNat_ofNat, BitVec.toNat_ofNat, Nat.mod_eq_of_lt (by omega), Nat.mod_eq_of_lt (by omega), Nat.and_one_is_mod]
    exact wrap_in (show inK .i64 _ from ⟨by show (-9223372036854775808 : Int) ≤ _; omega, by show _ ≤ (9223372036854775807 : Int); omega⟩)
theorem number_eq {k n : Nat} (hk : k ≤ 1000000) (hn : n ≤ 60) : ladingref27_Number (k : Int) (n : Int) = some (numB k n) := by
  unfold ladingref27_Number
  rw [msNeed_in (by omega) (by omega), bind_in]
  obtain ⟨r, h1, h2⟩ := loopF_inv (body := fun x => ladingref27_Number.b1 (k : Int) (n : Int) x.1 x.2) (fun j x => x.1 = (j : Int) ∧ x.2.length = n ∧ ∀ i (hi : i < x.2.length), i < j → x.2[i] = decide (k / 2 ^ (n - 1 - i) % 2 = 1)) (Q := fun r => r = numB k n) n (x := (0, repT (n : Int) false)) ⟨rfl, by rw [repT_len]; simp, fun i _ h => by omega⟩
    (fun j hj x hx => by
      obtain ⟨i, o⟩ := x
      obtain ⟨h1, h2, h3⟩ := hx
      simp only at h1 h2 h3
      subst h1
      obtain ⟨y, g1, g2, g3⟩ := bit_eq (x := k) (k := n - 1 - j) hk (by omega)
      have hjo : j < o.length := by omega
      have hz1 : z64 ((n : Int) - 1) = some ((n - 1 : Nat) : Int) := z64_p (by omega) (by omega) (by omega)
      have hz2 : z64 (((n - 1 : Nat) : Int) - (j : Int)) = some ((n - 1 - j : Nat) : Int) := z64_p (by omega) (by omega) (by omega)
      refine .inl ⟨(((j + 1 : Nat) : Int), o.set (j : Int).toNat (eqZ (andI .i64 (y : Int) 1) 1)), ?_, rfl, by rw [List.length_set]; exact h2, fun i hi hij => ?_⟩
      · simp only [ladingref27_Number.b1, lt_n hj, cond_true, hz1, hz2, bind_in, g1, idx_nat hjo, z64_nx hj (by omega)]
      · simp only at hi ⊢
        rw [List.getElem_set]
        split
        · rename_i e
          have : j = i := by simpa using e
          subst this
          rw [g3, eqZ_eq, decide_eq_decide, ← g2]
          omega
        · rename_i e
          rw [List.length_set] at hi
          exact h3 i hi (by
            have : j ≠ i := by simpa using e
            omega))
    (fun x hx => by
      obtain ⟨i, o⟩ := x
      obtain ⟨h1, h2, h3⟩ := hx
      simp only at h1 h2 h3
      subst h1
      refine ⟨o, by simp only [ladingref27_Number.b1, lt_e, cond_false], List.ext_getElem (by rw [numB_len]; exact h2) fun i hi hi2 => ?_⟩
      rw [h3 i hi (by omega), numB_get])
    (by omega)
  rw [h1, h2]
theorem true27_eq {m : List Bool} {s : List Int} (hs : s.length ≤ 1000000) : ladingref27_True m s = some (s.all (tru m)) := by
  unfold ladingref27_True
  rw [loop_any s (fun x => !tru m x) false true (fun k hk => ?_) ?_ (by omega)]
  · rw [List.any_eq_not_all_not]
    simp only [Bool.not_not]
    cases s.all (tru m) <;> simp
  · simp only [ladingref27_True.b1, lt_e, cond_false]
  · simp only [ladingref27_True.b1, lt_n hk, cond_true, idx_nat hk, bind_in, true_eq, z64_nx hk (by omega)]
    exact bif_pick
theorem with_eq {l : List GClause} {s : List Int} (hl : l.length ≤ 100000) (hs : s.length ≤ 100000) : ladinglaw27_with l s = some (l ++ (units s).map mk) := by
  unfold ladinglaw27_with
  rw [app_in (by simp only [List.length_nil]; omega), bind_in, List.nil_append]
  refine loopF_at (body := fun x => ladinglaw27_with.b1 s x.1 x.2) (fun k => ((k : Int), l ++ (units (s.take k)).map mk)) s.length (by simp [units]) (fun k hk => ?_) ?_ (by omega)
  · simp only [ladinglaw27_with.b1, lt_n hk, cond_true]
    rw [z64_nx hk (by omega), bind_in, cut_in (by omega) (by omega) (by omega), bind_in, Int.toNat_natCast, Int.toNat_natCast]
    have e : (s.take (k + 1)).drop k = [s[k]] := by
      rw [take_snoc s k hk, List.drop_append_of_le_length (by rw [List.length_take]; omega), List.drop_of_length_le (by rw [List.length_take]; omega), List.nil_append]
    rw [e, app_in (by unfold units; simp only [List.length_append, List.length_map, List.length_take, List.length_singleton]; omega), bind_in]
    have e2 : units (s.take (k + 1)) = units (s.take k) ++ [[s[k]]] := by
      rw [take_snoc s k hk]
      unfold units
      rw [List.map_append]; rfl
    rw [e2, List.map_append, List.append_assoc]; rfl
  · simp only [ladinglaw27_with.b1, lt_e, cond_false, List.take_length]
theorem with_lits (l : List GClause) (s : List Int) : lits (l ++ (units s).map mk) = lits l ++ units s := lits_app l (units s)
/-- whether a model is one that is asked for -/
def satB (l : List GClause) (s : List Int) (m : List Bool) : Bool := holdsF l m && s.all (tru m)
theorem satB_iff {l : List GClause} {n : Nat} {s : List Int} {m : List Bool} (hm : m.length = n) : satB l s m = true ↔ Sat (lits l) n s m := by
  unfold satB
  rw [Bool.and_eq_true, holds_iff, List.all_eq_true]
  exact ⟨fun h => ⟨hm, h.1, h.2⟩, fun h => ⟨h.2.1, h.2.2⟩⟩
/-- the first model among those with numbers below k -/
def firstB (p : Nat → Bool) : Nat → Int
  | 0 => -1
  | k + 1 => if firstB p k < 0 then (if p k = true then (k : Int) else -1) else firstB p k
theorem firstB_spec (p : Nat → Bool) : ∀ k, (firstB p k = -1 ∧ ∀ j, j < k → p j = false) ∨ ∃ m : Nat, firstB p k = (m : Int) ∧ m < k ∧ p m = true ∧ ∀ j, j < m → p j = false
  | 0 => .inl ⟨rfl, fun j h => by omega⟩
  | k + 1 => by
    unfold firstB
    rcases firstB_spec p k with ⟨h1, h2⟩ | ⟨m, h1, h2, h3, h4⟩
    · rw [h1, if_pos (by omega)]
      cases hp : p k with
      | true => rw [if_pos rfl]; exact .inr ⟨k, rfl, by omega, hp, h2⟩
      | false =>
        rw [if_neg (by simp)]
        refine .inl ⟨rfl, fun j hj => ?_⟩
        rcases Nat.lt_or_ge j k with h | h
        · exact h2 j h
        · have : j = k := by omega
          rw [this]; exact hp
    · rw [h1, if_neg (by omega)]
      exact .inr ⟨m, rfl, by omega, h3, h4⟩
theorem first_loop {l : List GClause} {s : List Int} {n : Nat} (hn : n ≤ 9) (hok : Ok (lits l)) (hs : s.length ≤ 1000000) : loopF (fun x => ladinglaw27_SolveDecides.b2 l (n : Int) s x.1 x.2) ((-1), 0) = some (firstB (fun k => satB l s (numB k n)) (2 ^ n)) := by
  have hpw : 2 ^ n ≤ 2 ^ 9 := Nat.pow_le_pow_right (by omega) hn
  obtain ⟨r, h1, h2⟩ := loopF_inv (body := fun x => ladinglaw27_SolveDecides.b2 l (n : Int) s x.1 x.2) (fun k x => x = (firstB (fun k => satB l s (numB k n)) k, (k : Int)) ∧ ∀ j, j < k → firstB (fun k => satB l s (numB k n)) j < 0) (Q := fun r => r = firstB (fun k => satB l s (numB k n)) (2 ^ n)) (2 ^ n) (x := ((-1), 0)) ⟨rfl, fun j h => by omega⟩
    (fun k hk x hx => by
      obtain ⟨rfl, hx⟩ := hx
      have ht : ((shlZ .i64 1 (n : Int)).bind fun v => bif ltZ (k : Int) v then some (ltZ (firstB (fun k => satB l s (numB k n)) k) 0) else some false) = some (decide (firstB (fun k => satB l s (numB k n)) k < 0)) := by
        rw [shl9 hn, bind_in, lt_n hk, cond_true, ltZ_eq]
      simp only [ladinglaw27_SolveDecides.b2, ht, bind_in]
      unfold ladinglaw27_SolveDecides.j3
      by_cases hneg : firstB (fun k => satB l s (numB k n)) k < 0
      · rw [decide_eq_true hneg, cond_true, number_eq (by omega) (by omega), bind_in]
        have hh : ((clause_Holds l (numB k n)).bind fun h => bif h then (ladingref27_True (numB k n) s).bind fun t => some t else some false) = some (satB l s (numB k n)) := by
          rw [holds_eq hok, bind_in, true27_eq hs, bind_in]
          unfold satB
          cases holdsF l (numB k n) <;> rfl
        rw [hh, bind_in]
        unfold ladinglaw27_SolveDecides.j2
        refine .inl ⟨(firstB (fun k => satB l s (numB k n)) (k + 1), ((k + 1 : Nat) : Int)), ?_, rfl, fun j hj => ?_⟩
        · have e : firstB (fun k => satB l s (numB k n)) (k + 1) = if satB l s (numB k n) = true then (k : Int) else -1 := by
            rw [firstB, if_pos hneg]
          have e0 : firstB (fun k => satB l s (numB k n)) k = -1 := by
            rcases firstB_spec (fun k => satB l s (numB k n)) k with ⟨h, _⟩ | ⟨m, h, _⟩
            · exact h
            · omega
          rw [e]
          cases satB l s (numB k n) with
          | true => rw [cond_true, z64_succ (by omega), bind_in, if_pos rfl]
          | false => rw [cond_false, z64_succ (by omega), bind_in, if_neg (by simp), e0]
        · rcases Nat.lt_or_ge j k with h | h
          · exact hx j h
          · have : j = k := by omega
            rw [this]; exact hneg
      · rw [decide_eq_false hneg, cond_false]
        refine .inr ⟨_, rfl, ?_⟩
        have hstay : ∀ d, firstB (fun k => satB l s (numB k n)) (k + d) = firstB (fun k => satB l s (numB k n)) k := by
          intro d
          induction d with
          | zero => rfl
          | succ d ih => rw [show k + (d + 1) = (k + d) + 1 by omega, firstB, ih, if_neg hneg]
        have := hstay (2 ^ n - k)
        rw [show k + (2 ^ n - k) = 2 ^ n by omega] at this
        exact this.symm)
    (fun x hx => by
      obtain ⟨rfl, hx⟩ := hx
      refine ⟨_, ?_, rfl⟩
      have ht : ((shlZ .i64 1 (n : Int)).bind fun v => bif ltZ ((2 ^ n : Nat) : Int) v then some (ltZ (firstB (fun k => satB l s (numB k n)) (2 ^ n)) 0) else some false) = some false := by
        rw [shl9 hn, bind_in, lt_e, cond_false]
      simp only [ladinglaw27_SolveDecides.b2, ht, bind_in]
      unfold ladinglaw27_SolveDecides.j3
      rw [cond_false])
    (by omega)
  rw [h1, h2]
theorem dbad_eq {n : Int} {s : List Int} (h : 0 ≤ n ∧ n ≤ 2000) (hs : s.length ≤ 1000000) : loopF (fun x => ladinglaw27_SolveDecides.b1 n s true x) 0 = some (if badA n s = true then .inr true else .inl ()) := by
  rw [loop_any (body := fun x => ladinglaw27_SolveDecides.b1 n s true x) s (badN n) (.inr true) (.inl ()) (fun k hk => ?_) ?_ (by omega)]
  · rfl
  · simp only [ladinglaw27_SolveDecides.b1, lt_e, cond_false]
  · simp only [ladinglaw27_SolveDecides.b1, lt_n hk, cond_true, idx_nat hk, bind_in, bad_test h, ladinglaw27_SolveDecides.j1, z64_nx hk (by omega)]
    exact bif_pick
theorem with_ok {l : List GClause} {s : List Int} (hl : l.length ≤ 40) (hc : ∀ c ∈ l, c.1.length ≤ 8) (hs : s.length ≤ 10) : Ok (lits (l ++ (units s).map mk)) ∧ (l ++ (units s).map mk).length ≤ 100000 := by
  have h2 : (l ++ (units s).map mk).length ≤ 50 := by unfold units; simp only [List.length_append, List.length_map]; omega
  refine ⟨ok_of (by omega) fun c hm => ?_, by omega⟩
  rcases List.mem_append.1 hm with hm | hm
  · have := hc c hm; omega
  · obtain ⟨x, hx, rfl⟩ := List.mem_map.1 hm
    unfold units at hx
    obtain ⟨y, _, rfl⟩ := List.mem_map.1 hx
    simp
theorem decides_true (l : List GClause) (n : Int) (asm : List Int) : ladinglaw27_SolveDecides l n asm = some true := by
  unfold ladinglaw27_SolveDecides
  rw [small_true, bind_in]
  obtain ⟨b, h1, h2⟩ := few_eq (l := l) (n := n) (most := 9) (s := asm)
  rw [h1, bind_in]
  cases b with
  | false => rw [Bool.not_false, cond_true, bind_in]; simp only [ladinglaw27_SolveDecides.j6, cond_true]
  | true =>
    obtain ⟨g1, g2, g3, g4⟩ := h2 rfl
    have hc : ∀ c ∈ l, c.1.length ≤ 1000000 := fun c hc => by have := g2 c hc; omega
    have hok : Ok (lits l) := ok_of (by omega) hc
    rw [Bool.not_true, cond_false, right_eq hok, bind_in, bind_in]
    cases hr : rightF l n with
    | false => rw [Bool.not_false]; simp only [ladinglaw27_SolveDecides.j6, cond_true]
    | true =>
      have hn := (rightF_iff.1 hr).1
      obtain ⟨N, rfl⟩ : ∃ N : Nat, n = N := ⟨n.toNat, by omega⟩
      have hN : N ≤ 9 := by omega
      rw [Bool.not_true]
      simp only [ladinglaw27_SolveDecides.j6, cond_false]
      rw [dbad_eq (by omega) (by omega)]
      cases hb : badA (N : Int) asm with
      | true => rw [if_pos rfl, bind_in]
      | false =>
        rw [if_neg (by simp), bind_in]
        show ladinglaw27_SolveDecides.j5 l (N : Int) asm true = some true
        unfold ladinglaw27_SolveDecides.j5
        obtain ⟨r, h3, h4⟩ := solve_found (l := l) (n := N) (asm := asm) (by omega) hc (by omega) hr hb
        rw [h3, bind_in, first_loop hN hok (by omega), bind_in]
        unfold ladinglaw27_SolveDecides.j4
        have hsp := firstB_spec (fun k => satB l asm (numB k N)) (2 ^ N)
        rcases h4 with ⟨m, rfl, hm1, hm2⟩ | ⟨K, rfl, hu1, hu2, hu3, hu4, hu5⟩ | ⟨K, rfl, hK1, hK2, hK3⟩
        · have hml := hm1.1
          have hmv := numB_val m
          have hlt := valB_lt m
          rw [hml] at hmv hlt
          have hfirst : firstB (fun k => satB l asm (numB k N)) (2 ^ N) = (valB m : Int) := by
            rcases hsp with ⟨f1, f2⟩ | ⟨j, f1, f2, f3, f4⟩
            · have := f2 (valB m) hlt
              rw [hmv, (satB_iff hml).2 hm1] at this; cases this
            · rcases Nat.lt_trichotomy j (valB m) with h | h | h
              · have hs := (satB_iff (numB_len j N)).1 f3
                exact absurd (val_before (by rw [numB_len, hml]) (by rw [val_num f2]; exact h)) (hm2 _ hs)
              · rw [f1, h]
              · have := f4 (valB m) h
                rw [hmv, (satB_iff hml).2 hm1] at this; cases this
          have hpw : 2 ^ N ≤ 2 ^ 9 := Nat.pow_le_pow_right (by omega) hN
          rw [hfirst, bif_ltZ, if_neg (by omega)]
          simp only [cond_true, eqZ_eq, List.length_nil]
          rw [decide_true, cond_true, show decide (((0 : Nat) : Int) = 0) = true from rfl, cond_true, number_eq (by omega) (by omega), bind_in, bools_eq (by omega), bind_in, hmv, decide_eq_true rfl]
        · have hfirst : firstB (fun k => satB l asm (numB k N)) (2 ^ N) = -1 := by
            rcases hsp with ⟨f1, f2⟩ | ⟨j, f1, f2, f3, f4⟩
            · exact f1
            · exact absurd ((satB_iff (numB_len j N)).1 f3) (hu1 _)
          obtain ⟨w1, w2⟩ := with_ok (s := asm) g1 g2 (by omega)
          rw [hfirst, bif_ltZ, if_pos (by omega)]
          simp only [cond_true, eqZ_eq, List.length_nil]
          rw [decide_true, cond_true, show decide (((0 : Nat) : Int) = 0) = true from rfl, cond_true, with_eq (by omega) (by omega), bind_in]
          have hKl : ∀ c ∈ K, c.length ≤ 1000000 := fun c hc => by
            have := nodup_le ((hu5 c hc).1.imp fun {a b} h => by omega) (m := (List.range N).map fun (k : Nat) => (k : Int) + 1) fun x hx => by
              have := (hu5 c hc).2 x hx
              exact List.mem_map.2 ⟨(x - 1).toNat, List.mem_range.2 (by omega), by omega⟩
            simp at this
            omega
          rw [Proof_eq w1 w2 hKl, bind_in, with_lits, prfF_yes hu4 hu2, decide_eq_true rfl]
        · exact (full_no (by omega) hK1 hK2 hK3).elim
end Go.Proofs.Ytecegoknbcmenaa
