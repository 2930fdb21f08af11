/-
  Layer 02 (disk): the disk in plain words, that the functions are it, and the example.
-/
import Derived.Test.YtanpfcdbfdkclaaKModel
import Derived.Test.YtanpfcdbfdkclaaDPl
import Derived.Test.YtanpfcdbfdkclaaLs
import Derived.Test.YtanpfcdbfdkclaaDel
namespace Go.Proofs.Ytanpfcdbfdkclaa
open Go.Lad
set_option linter.unusedVariables false
set_option linter.unusedSimpArgs false
/-- t put into s at a; bytes 0 between -/
def putF (s : Bs) (a : Nat) (t : Bs) : Bs := if t = [] then s else (List.range (max s.length (a + t.length))).map fun i => if a ≤ i ∧ i < a + t.length then t.getD (i - a) 0 else s.getD i 0
theorem putF_nil (s : Bs) (a : Nat) : putF s a [] = s := rfl
theorem putF_len {s t : Bs} {a : Nat} (h : t ≠ []) : (putF s a t).length = max s.length (a + t.length) := by
  unfold putF; rw [if_neg h]; simp
theorem put_fin {s t : Bs} {a : Nat} {B : List Int} (ht : t ≠ []) (hl : B.length = max s.length (a + t.length)) (hB : ∀ i, i < max s.length (a + t.length) → B[i]? = some ((s.getD i 0).toNat : Int)) : u8sT (putAt B a (bytesT t)) = putF s a t := by
  have htl : (bytesT t).length = t.length := List.length_map ..
  unfold putF
  rw [if_neg ht]
  apply List.ext_getElem?
  intro i
  unfold u8sT
  rw [List.getElem?_map, List.getElem?_map, putAt_get _ _ _ (by rw [hl, htl]; omega), htl]
  by_cases hi : i < max s.length (a + t.length)
  · rw [List.getElem?_range hi, Option.map_some]
    by_cases h1 : a ≤ i ∧ i < a + t.length
    · rw [if_pos h1, if_pos h1]
      unfold bytesT
      rw [List.getElem?_map, List.getD_eq_getElem?_getD, List.getElem?_eq_getElem (by omega)]
      simp
    · rw [if_neg h1, if_neg h1, hB i hi]
      simp
  · rw [if_neg (by omega), List.getElem?_eq_none (by omega), List.getElem?_eq_none (by simpa using hi)]; rfl
theorem put_eq (s : Bs) (a : Nat) (t : Bs) (h : a + t.length ≤ 4294967296) (hs : s.length ≤ 4294967296) : disk_put s (a : Int) t = some (putF s a t) := by
  unfold disk_put
  rw [bif_dec]
  split
  · rename_i ht; rw [ht, putF_nil]
  · rename_i ht
    have hm : max (s.length : Int) ((a + t.length : Nat) : Int) = ((max s.length (a + t.length) : Nat) : Int) := by omega
    rw [z64_add (by omega), bind_in, hm]
    generalize hN : max s.length (a + t.length) = N
    rw [msNeed_in (by omega) (by omega), bind_in]
    have hr : (repT (N : Int) (0 : Int)).length = N := by rw [repT_len]; omega
    have hc : cpB (repT (N : Int) 0) 0 (N : Int) s = putAt (repT (N : Int) 0) 0 (bytesT s) := by
      unfold cpB
      rw [List.take_of_length_le (by rw [bytesT_len]; omega)]; rfl
    have hcl : (cpB (repT (N : Int) 0) 0 (N : Int) s).length = N := by rw [hc, putAt_length _ _ _ (by rw [hr, bytesT_len]; omega), hr]
    have hc2 : ∀ B : List Int, cpB B (a : Int) (N : Int) t = putAt B a (bytesT t) := fun B => by
      unfold cpB
      rw [List.take_of_length_le (by rw [bytesT_len]; omega)]; rfl
    rw [hr, cpNeed, need_in (by omega), bind_in, hcl, cut_in (by omega) (by omega) (by omega), bind_in, cpNeed, need_in (by omega), bind_in, hc2]
    have e : u8sT (putAt (cpB (repT (N : Int) 0) 0 (N : Int) s) a (bytesT t)) = putF s a t := by
      refine put_fin ht (hcl.trans hN.symm) fun i hi => ?_
      rw [hc, putAt_get _ _ _ (by rw [hr, bytesT_len]; omega), bytesT_len]
      unfold bytesT repT
      by_cases h1 : 0 ≤ i ∧ i < 0 + s.length
      · rw [if_pos h1, List.getElem?_map, List.getD_eq_getElem?_getD, Nat.sub_zero, List.getElem?_eq_getElem (by omega)]; rfl
      · rw [if_neg h1, List.getElem?_replicate, if_pos (by omega), List.getD_eq_getElem?_getD, List.getElem?_eq_none (by omega)]; rfl
    rw [e, need_in (by rw [putF_len ht]; omega), bind_in]
theorem rput_eq (s : Bs) (a : Nat) (t : Bs) (h : a + t.length ≤ 1000000000) (hs : s.length ≤ 1000000000) : ladingref02_Put s (a : Int) t = some (putF s a t) := by
  unfold ladingref02_Put
  rw [bif_dec]
  split
  · rename_i ht; rw [ht, putF_nil]
  · rename_i ht
    have h1 : loopF (fun x => ladingref02_Put.b1 (a : Int) t x) (bytesT s) = some (bytesT s ++ List.replicate (a + t.length - s.length) 0) := by
      refine loopF_at (fun k => bytesT s ++ List.replicate k (0 : Int)) (a + t.length - s.length) (by simp) (fun k hk => ?_) ?_
      · unfold ladingref02_Put.b1
        rw [z64_add (by omega), bind_in, bif_ltZ, if_pos (by rw [List.length_append, bytesT_len, List.length_replicate]; omega), app_in (by rw [List.length_append, bytesT_len, List.length_replicate]; simp; omega), bind_in, List.append_assoc, List.replicate_succ']
      · unfold ladingref02_Put.b1
        rw [z64_add (by omega), bind_in, bif_ltZ, if_neg (by rw [List.length_append, bytesT_len, List.length_replicate]; omega)]
    rw [h1, bind_in]
    generalize hB : bytesT s ++ List.replicate (a + t.length - s.length) (0 : Int) = B
    have hBl : B.length = max s.length (a + t.length) := by rw [← hB, List.length_append, bytesT_len, List.length_replicate]; omega
    unfold ladingref02_Put.j1
    have hfin : u8sT (putAt B a (bytesT t)) = putF s a t := by
      refine put_fin ht hBl fun i hi => ?_
      rw [← hB]
      by_cases h2 : i < s.length
      · rw [List.getElem?_append_left (by rw [bytesT_len]; exact h2)]
        unfold bytesT
        rw [List.getElem?_map, List.getD_eq_getElem?_getD, List.getElem?_eq_getElem h2]; rfl
      · rw [List.getElem?_append_right (by rw [bytesT_len]; omega), List.getElem?_replicate, if_pos (by rw [bytesT_len]; omega), List.getD_eq_getElem?_getD, List.getElem?_eq_none (by omega)]; rfl
    have htl : (bytesT t).length = t.length := bytesT_len t
    have hpl : ∀ k, k ≤ t.length → (putAt B a ((bytesT t).take k)).length = B.length := fun k hk => putAt_length _ _ _ (by rw [List.length_take]; omega)
    refine loopF_at (fun k => ((k : Int), putAt B a ((bytesT t).take k))) t.length ?_ (fun k hk => ?_) ?_
    · have e : putAt B a ((bytesT t).take 0) = B := by simp [putAt]
      show _ = (((0 : Nat) : Int), putAt B a ((bytesT t).take 0))
      rw [e]; rfl
    · show ladingref02_Put.b2 (a : Int) t (k : Int) (putAt B a ((bytesT t).take k)) = _
      unfold ladingref02_Put.b2
      have hi : a + k < (putAt B a ((bytesT t).take k)).length := by rw [hpl k (by omega), hBl]; omega
      have hb : bAt t (k : Int) = some ((t[k]).toNat : Int) := by unfold bAt; rw [idx_nat hk]; rfl
      rw [bif_ltZ, if_pos (by omega), z64_add (by omega), bind_in, hb, bind_in, idx_nat hi, bind_in, bind_in, z64_succ (by omega), bind_in]
      congr 3
      apply List.ext_getElem?
      intro j
      rw [show (((a + k : Nat) : Int)).toNat = a + k from rfl, List.getElem?_set, putAt_get _ _ _ (by rw [List.length_take]; omega), putAt_get _ _ _ (by rw [List.length_take]; omega), List.length_take, List.length_take, htl]
      by_cases hj : a + k = j
      · subst hj
        rw [if_pos rfl, if_pos hi, if_pos (by omega), List.getElem?_take, if_pos (by omega)]
        unfold bytesT
        rw [List.getElem?_map, show a + k - a = k by omega, List.getElem?_eq_getElem hk]; rfl
      · rw [if_neg hj]
        by_cases h3 : a ≤ j ∧ j < a + min k t.length
        · rw [if_pos h3, if_pos (by omega), List.getElem?_take, List.getElem?_take, if_pos (by omega), if_pos (by omega)]
        · rw [if_neg h3, if_neg (by omega)]
    · show ladingref02_Put.b2 (a : Int) t (t.length : Int) (putAt B a ((bytesT t).take t.length)) = _
      unfold ladingref02_Put.b2
      rw [bif_ltZ, if_neg (by omega), List.take_of_length_le (by omega), hfin, need_in (by rw [putF_len ht]; omega), bind_in]; rfl
theorem fil1 {α : Type} (p : α → Bool) (x : α) : [x].filter p = if p x = true then [x] else [] := by cases h : p x <;> simp [h]
theorem lt_n {k n : Nat} (h : k < n) : ltZ (k : Int) (n : Int) = true := by rw [ltZ_eq, decide_eq_true (by omega)]
theorem lt_e {k : Nat} : ltZ (k : Int) (k : Int) = false := by rw [ltZ_eq, decide_eq_false (by omega)]
theorem z64_nx {k n : Nat} (h : k < n) (hn : n ≤ 9223372036854775807) : z64 ((k : Int) + 1) = some ((k + 1 : Nat) : Int) := z64_succ (by omega)
def KeepS (f : Int) (x : Int × Int) : Prop := x.1 ≠ f
instance (f : Int) (x : Int × Int) : Decidable (KeepS f x) := by unfold KeepS; infer_instance
theorem close_eq {x : Int × Int} {f : Int} : disk_Disk_settle_1 x f = some (!decide (KeepS f x)) := by
  unfold disk_Disk_settle_1 KeepS
  rw [eqZ_eq]
  by_cases h : x.1 = f <;> simp [h]
theorem loop_idx {α : Type} {body : Int → Option (Int ⊕ Int)} (l : List α) (p : α → Bool)
    (h : ∀ k (hk : k < l.length), body (k : Int) = some (if p l[k] = true then .inr (k : Int) else .inl ((k + 1 : Nat) : Int)))
    (hd : body (l.length : Int) = some (.inr (-1))) (hn : l.length < 1606938044258990275541962092341162602522202993782792835301376) :
    ∃ i, loopF body 0 = some i ∧ leZ 0 i = l.any p ∧ ((i = -1 ∧ ∀ x ∈ l, p x = false) ∨ ∃ m : Nat, ∃ hm : m < l.length, i = m ∧ p l[m] = true ∧ ∀ j (hj : j < m), p (l[j]'(by omega)) = false) := by
  refine ⟨_, loop_scan l (fun k x => if p x = true then some (k : Int) else none) (-1) (fun k hk => ?_) hd hn, ?_⟩
  · rw [h k hk]
    split <;> rfl
  · cases hs : scan (fun k x => if p x = true then some (k : Int) else none) 0 l with
    | none =>
      have hf : ∀ x ∈ l, p x = false := fun x hx => by
        obtain ⟨i, hi, he⟩ := List.mem_iff_getElem.1 hx
        have := scan_none.1 hs i hi
        rw [he] at this
        cases hp : p x with
        | false => rfl
        | true => rw [hp, if_pos rfl] at this; cases this
      refine ⟨?_, .inl ⟨rfl, hf⟩⟩
      rw [Option.getD_none, leZ_eq, decide_eq_false (by omega)]
      exact (List.any_eq_false.2 fun x hx => by rw [hf x hx]; exact Bool.false_ne_true).symm
    | some b =>
      obtain ⟨i, hi, h1, h2⟩ := scan_some.1 hs
      rw [Nat.zero_add] at h1
      split at h1
      · rename_i he
        injection h1 with h1
        subst h1
        refine ⟨?_, .inr ⟨i, hi, rfl, he, fun j hj => ?_⟩⟩
        · rw [Option.getD_some, leZ_eq, decide_eq_true (by omega)]
          exact (List.any_eq_true.2 ⟨_, List.getElem_mem hi, he⟩).symm
        · have := h2 j hj
          cases hp : p (l[j]'(by omega)) with
          | false => rfl
          | true => rw [hp, if_pos rfl] at this; cases this
      · cases h1
theorem delete_eq {f : Int} {l : List (Int × Int)} (h : l.length ≤ 1000000000) : slices_DeleteFunc_disk_sector_disk_sector f l = some (l.filter fun x => decide (KeepS f x)) := by
  have hb : ∀ k (hk : k < l.length), slices_IndexFunc_disk_sector_disk_sector.b1 l f (k : Int) = some (if (fun x => !decide (KeepS f x)) l[k] = true then .inr (k : Int) else .inl ((k + 1 : Nat) : Int)) := fun k hk => by
    simp only [slices_IndexFunc_disk_sector_disk_sector.b1, lt_n hk, cond_true, idx_nat hk, bind_in, close_eq, z64_nx hk (by omega)]
    by_cases hp : KeepS f l[k] <;> simp [hp]
  have he : slices_IndexFunc_disk_sector_disk_sector.b1 l f (l.length : Int) = some (.inr (-1)) := by simp only [slices_IndexFunc_disk_sector_disk_sector.b1, lt_e, cond_false]
  obtain ⟨i, h1, -, h2⟩ := loop_idx (body := fun x => slices_IndexFunc_disk_sector_disk_sector.b1 l f x) l (fun x => !decide (KeepS f x)) hb he (by omega)
  · have h1 : slices_IndexFunc_disk_sector_disk_sector l f = some i := h1
    unfold slices_DeleteFunc_disk_sector_disk_sector
    rw [h1, bind_in, bif_eqZ]
    rcases h2 with ⟨rfl, h2⟩ | ⟨m, hm, rfl, h3, h4⟩
    · rw [if_pos rfl]
      congr 1
      exact (List.filter_eq_self.2 fun x hx => by have := h2 x hx; simpa using this).symm
    · rw [if_neg (by omega), z64_nx hm (by omega), bind_in]
      have key := loopF_inv (body := fun x => slices_DeleteFunc_disk_sector_disk_sector.b1 f x.1 x.2.1 x.2.2)
        (fun k x => ∃ a : Nat, x.1 = (a : Int) ∧ x.2.1 = ((m + 1 + k : Nat) : Int) ∧ a < m + 1 + k ∧ x.2.2.length = l.length ∧ x.2.2.take a = (l.take (m + 1 + k)).filter (fun x => decide (KeepS f x)) ∧ x.2.2.drop (m + 1 + k) = l.drop (m + 1 + k))
        (Q := fun r => r = l.filter fun x => decide (KeepS f x)) (l.length - (m + 1)) (x := ((m : Int), ((m + 1 : Nat) : Int), l))
        ⟨m, rfl, rfl, by omega, rfl, ?_, rfl⟩ (fun k hk x hx => ?_) (fun x hx => ?_) (by omega)
      · obtain ⟨b, h5, h6⟩ := key
        rw [← h6]; exact h5
      · rw [take_snoc l m hm, List.filter_append]
        have : decide (KeepS f l[m]) = false := by simpa using h3
        rw [fil1, this]
        simp only [Bool.false_eq_true, if_false, List.append_nil]
        symm
        refine List.filter_eq_self.2 fun x hx => ?_
        obtain ⟨j, hj, he⟩ := List.mem_iff_getElem.1 hx
        rw [List.length_take] at hj
        have := h4 j (by omega)
        rw [List.getElem_take] at he
        rw [he] at this
        simpa using this
      · obtain ⟨i, j, s⟩ := x
        obtain ⟨a, ha, hj, hlt, hl, ht, hd⟩ := hx
        simp only at ha hj hl ht hd
        subst ha hj
        have hjl : m + 1 + k < s.length := by omega
        have hjl' : m + 1 + k < l.length := by omega
        have he : s[m + 1 + k] = l[m + 1 + k] := by
          have := congrArg (fun z => z[0]?) hd
          simpa [hjl, hjl'] using this
        have has : a < s.length := by omega
        refine .inl ?_
        simp only [slices_DeleteFunc_disk_sector_disk_sector.b1, lt_n hjl, cond_true, idx_nat hjl, idx_nat has, bind_in, close_eq, he, z64_nx hjl (by omega), z64_nx has (by omega), Bool.not_not]
        have hd' : s.drop (m + 1 + (k + 1)) = l.drop (m + 1 + (k + 1)) := by
          have := congrArg (List.drop 1) hd
          rw [List.drop_drop, List.drop_drop] at this
          exact this
        by_cases hp : KeepS f l[m + 1 + k]
        · rw [decide_eq_true hp, cond_true]
          refine ⟨_, rfl, a + 1, rfl, rfl, by omega, by rw [List.length_set]; exact hl, ?_, ?_⟩
          · show (s.set (a : Int).toNat l[m + 1 + k]).take (a + 1) = _
            rw [Int.toNat_natCast, take_snoc _ a (by rw [List.length_set]; omega), List.getElem_set_self, List.take_set, List.set_eq_of_length_le (by rw [List.length_take]; omega), ht]
            rw [show m + 1 + (k + 1) = (m + 1 + k) + 1 by omega, take_snoc l (m + 1 + k) hjl', List.filter_append, fil1, decide_eq_true hp]; rfl
          · show (s.set (a : Int).toNat l[m + 1 + k]).drop _ = _
            rw [Int.toNat_natCast, List.drop_set, if_pos (by omega)]
            exact hd'
        · rw [decide_eq_false hp, cond_false]
          refine ⟨_, rfl, a, rfl, rfl, by omega, hl, ?_, hd'⟩
          show s.take a = _
          rw [show m + 1 + (k + 1) = (m + 1 + k) + 1 by omega, take_snoc l (m + 1 + k) hjl', List.filter_append, fil1, decide_eq_false hp, ht]
          simp
      · obtain ⟨i, j, s⟩ := x
        obtain ⟨a, ha, hj, hlt, hl, ht, hd⟩ := hx
        simp only at ha hj hl ht hd
        subst ha hj
        have e : m + 1 + (l.length - (m + 1)) = s.length := by omega
        rw [e] at *
        have has : a < s.length := by omega
        refine ⟨_, ?_, rfl⟩
        simp only [slices_DeleteFunc_disk_sector_disk_sector.b1, lt_e, cond_false]
        rw [cut_in (by omega) (by omega) (by omega), bind_in, need_in ⟨by omega, by omega⟩, bind_in]
        have hc : (clrT s (a : Int) (s.length : Int) (0, 0)).length = s.length := by
          unfold clrT
          simp; omega
        rw [cut_in (by omega) (by omega) (by rw [hc]; omega), bind_in, Option.map_some]
        congr 2
        rw [Int.toNat_natCast, show (0 : Int).toNat = 0 from rfl, List.drop_zero]
        unfold clrT
        rw [Int.toNat_natCast, List.append_assoc, List.take_left' (by rw [List.length_take]; omega), ht, List.take_of_length_le (by omega)]
/-! ### maps -/
theorem lookM_nil {α β : Type} [DecidableEq α] (k : α) : lookM ([] : List (α × β)) k = none := rfl
theorem lookM_cons {α β : Type} [DecidableEq α] (x : α × β) (r : List (α × β)) (k : α) : lookM (x :: r) k = if k = x.1 then some x.2 else lookM r k := by
  unfold lookM
  show ((if k = x.1 then some 0 else (pos (r.map (·.1)) k).map (· + 1)).bind fun i => ((x :: r)[i]?).map (·.2)) = _
  by_cases h : k = x.1
  · rw [if_pos h, if_pos h]; rfl
  · rw [if_neg h, if_neg h]
    cases pos (r.map (·.1)) k <;> rfl
theorem lookM_filter {α β : Type} [DecidableEq α] (p : α → Bool) (k : α) : ∀ m : List (α × β), lookM (m.filter fun x => p x.1) k = if p k = true then lookM m k else none
  | [] => by simp [lookM_nil]
  | x :: r => by
    have ih := lookM_filter p k r
    rw [List.filter_cons, lookM_cons]
    by_cases h : p x.1 = true
    · rw [if_pos h, lookM_cons, ih]
      by_cases hk : k = x.1
      · subst hk; simp [h]
      · simp [hk]
    · rw [if_neg h, ih]
      by_cases hk : k = x.1
      · subst hk; simp [h]
      · simp [hk]
theorem lookM_lasts (k : Int) : ∀ m : List (Int × (Bs × Bs)), lookM (lastsF m) k = (lookM m k).map fun x => (x.2, x.2)
  | [] => rfl
  | x :: r => by
    have ih := lookM_lasts k r
    show lookM ((x.1, (x.2.2, x.2.2)) :: lastsF r) k = _
    rw [lookM_cons, lookM_cons, ih]
    by_cases hk : k = x.1
    · rw [if_pos hk, if_pos hk]; rfl
    · rw [if_neg hk, if_neg hk]
/-! ### the disk in plain words -/
structure DA where
  lost : Int
  down : Bool
  armed : Int
  keep : List Int
  fs : Int → Bs × Bs
  q : List (Int × Int)
def setFs (fs : Int → Bs × Bs) (f : Int) (x : Bs × Bs) : Int → Bs × Bs := fun g => if g = f then x else fs g
def mayA (A : DA) (f : Int) : Int := if A.down = true then 8 else if f < 0 ∨ 16 ≤ f then 1 else 0
def endsA (A : DA) : Bool × DA := if A.down = true ∨ A.armed = 0 then (false, A) else (decide (A.armed - 1 = 0), { A with armed := A.armed - 1 })
def secs (f : Int) (a len : Nat) : List (Int × Int) := (List.range ((a + len - 1) / 64 + 1 - a / 64)).map fun i => (f, ((a / 64 + i : Nat) : Int))
def addQ1 (q : List (Int × Int)) (x : Int × Int) : List (Int × Int) := if x ∈ q then q else q ++ [x]
def addQ (q : List (Int × Int)) (l : List (Int × Int)) : List (Int × Int) := l.foldl addQ1 q
def addA (f : Int) (a : Nat) (s : Bs) (A : DA) : DA := if s = [] then A else { A with fs := setFs A.fs f (putF (A.fs f).1 a s, (A.fs f).2), q := addQ A.q (secs f a s.length) }
def fitsA (at_ : Int) (s : Bs) : Int := if at_ < 0 then 1 else if 16777216 < at_ ∨ 16777216 - at_ < (s.length : Int) then 6 else 0
def writeA (f at_ : Int) (s : Bs) (A : DA) : Int × DA := if mayA A f ≠ 0 then (mayA A f, A) else if fitsA at_ s ≠ 0 then (fitsA at_ s, A) else (0, addA f at_.toNat s A)
def keptB (keep : List Int) (i : Nat) : Bool := match keep[i % keep.length]? with | some v => !decide (andI .i64 v 1 = 0) | none => false
def survA (fs : Int → Bs × Bs) (x : Int × Int) : Int → Bs × Bs := if x.2.toNat * 64 < (fs x.1).1.length then setFs fs x.1 ((fs x.1).1, putF (fs x.1).2 (x.2.toNat * 64) (((fs x.1).1.take (min (x.2.toNat * 64 + 64) (fs x.1).1.length)).drop (x.2.toNat * 64))) else fs
def crashFs (keep : List Int) : Nat → (Int → Bs × Bs) → List (Int × Int) → (Int → Bs × Bs)
  | _, fs, [] => fs
  | i, fs, x :: r => crashFs keep (i + 1) (if keptB keep i = true then survA fs x else fs) r
def crashA (keep : List Int) (A : DA) : DA := if A.down = true then A else { A with down := true, armed := 0, q := [], fs := fun f => ((crashFs keep 0 A.fs A.q f).2, (crashFs keep 0 A.fs A.q f).2) }
def WriteA (f at_ : Int) (s : Bs) (A : DA) : Int × DA := if (endsA A).1 = true then (8, crashA (writeA f at_ s (endsA A).2).2.keep (writeA f at_ s (endsA A).2).2) else writeA f at_ s (endsA A).2
def settleA (f : Int) (s : Bs) (A : DA) : DA := { A with fs := setFs A.fs f (s, s), q := A.q.filter fun x => decide (KeepS f x) }
def comesA (A : DA) : DA := if (endsA A).1 = true then crashA (endsA A).2.keep (endsA A).2 else (endsA A).2
def syncA (f : Int) (A : DA) : Int × DA := if mayA (comesA A) f ≠ 0 then (mayA (comesA A) f, comesA A) else if 0 < (comesA A).lost then (9, { comesA A with lost := (comesA A).lost - 1 }) else (0, settleA f ((comesA A).fs f).1 (comesA A))
def truncA (f size : Int) (A : DA) : Int × DA := if mayA (comesA A) f ≠ 0 then (mayA (comesA A) f, comesA A) else if size < 0 ∨ (((comesA A).fs f).1.length : Int) < size then (1, comesA A) else (0, settleA f (((comesA A).fs f).1.take size.toNat) (comesA A))
def loseA (n : Int) (A : DA) : DA := { A with lost := max n 0 }
def armA (n : Int) (keep : List Int) (A : DA) : DA := { A with armed := max n 0, keep := keep }
def startA (A : DA) : DA := { A with down := false }
def newA : DA := ⟨0, false, 0, [], fun _ => ([], []), []⟩
def readA (f at_ size : Int) (A : DA) : Bs × Int := if mayA A f ≠ 0 then ([], mayA A f) else if at_ < 0 ∨ size < 0 then ([], 1) else ((((A.fs f).1.drop at_.toNat).take size.toNat), 0)
/-- what the disk's parts hold -/
structure RD (p : List (Int × (Bs × Bs))) (q : List (Int × Int)) (st : List ((Int × Int) × Bool)) (A : DA) : Prop where
  files : ∀ f, (lookM p f).getD (([] : Bs), ([] : Bs)) = A.fs f
  queue : q = A.q
  set : ∀ x, (lookM st x).getD false = decide (x ∈ A.q)
structure IA (A : DA) : Prop where
  armed : 0 ≤ A.armed ∧ A.armed ≤ 9223372036854775807
  lost : 0 ≤ A.lost ∧ A.lost ≤ 9223372036854775807
  size : ∀ f, (A.fs f).1.length ≤ 16777216 ∧ (A.fs f).2.length ≤ 16777216
  q : ∀ x ∈ A.q, (0 ≤ x.1 ∧ x.1 < 16) ∧ 0 ≤ x.2 ∧ x.2 ≤ 262144
  nd : A.q.Nodup
  keep : A.keep.length ≤ 60
theorem flat_len {α β γ : Type} (g : α → β → γ) (m : List β) : ∀ l : List α, (l.flatMap fun i => m.map (g i)).length = l.length * m.length
  | [] => by simp
  | x :: l => by
    have ih := flat_len g m l
    rw [List.flatMap_cons, List.length_append, ih, List.length_map, List.length_cons, Nat.add_mul, Nat.one_mul, Nat.add_comm]
theorem IA.len {A : DA} (h : IA A) : A.q.length ≤ 4194320 := by
  have h1 := nodup_le (m := (List.range 16).flatMap fun (i : Nat) => (List.range 262145).map ((fun (i j : Nat) => ((i : Int), (j : Int))) i)) h.nd (fun x hx => by
    obtain ⟨⟨h1, h2⟩, h3, h4⟩ := h.q x hx
    refine List.mem_flatMap.2 ⟨x.1.toNat, List.mem_range.2 (by omega), List.mem_map.2 ⟨x.2.toNat, List.mem_range.2 (by omega), ?_⟩⟩
    obtain ⟨a, b⟩ := x
    simp only at *
    rw [Prod.mk.injEq]
    omega)
  rw [flat_len (fun (i j : Nat) => ((i : Int), (j : Int))) (List.range 262145) (List.range 16), List.length_range, List.length_range] at h1
  omega
section
variable {p : List (Int × (Bs × Bs))} {q : List (Int × Int)} {st : List ((Int × Int) × Bool)} {A : DA}
theorem may_eq (f : Int) : disk_Disk_may f A.lost A.down A.armed A.keep p q st = some (mayA A f) := by
  unfold disk_Disk_may mayA
  cases A.down with
  | true => rfl
  | false =>
    rw [cond_false, if_neg (by simp), bif_ltZ, leZ_eq]
    by_cases h1 : f < 0
    · rw [if_pos h1, if_pos (.inl h1), bind_in]; rfl
    · rw [if_neg h1, bind_in]
      unfold disk_Disk_may.j1
      by_cases h2 : 16 ≤ f
      · rw [if_pos (.inr h2), decide_eq_true h2]; rfl
      · rw [if_neg (by omega), decide_eq_false h2]; rfl
theorem ends_eq (h : IA A) : disk_Disk_ends A.lost A.down A.armed A.keep p q st = some ((endsA A).1, (endsA A).2.lost, (endsA A).2.down, (endsA A).2.armed, (endsA A).2.keep, p, q, st) := by
  obtain ⟨h1, h2⟩ := h.armed
  unfold disk_Disk_ends endsA
  by_cases hd : A.down = true
  · rw [hd, cond_true, bind_in, if_pos (.inl rfl)]
    unfold disk_Disk_ends.j1
    rw [cond_true] <;> simp [hd]
  · rw [Bool.not_eq_true] at hd
    rw [hd, cond_false, bind_in, eqZ_eq]
    unfold disk_Disk_ends.j1
    by_cases h0 : A.armed = 0
    · rw [decide_eq_true h0, cond_true, if_pos (.inr h0)] <;> simp [hd]
    · rw [decide_eq_false h0, cond_false, if_neg (by simp [h0]), z64_in (by omega) (by omega), bind_in, eqZ_eq] <;> simp [hd]
theorem rd_ends (h : RD p q st A) : RD p q st (endsA A).2 := by
  unfold endsA
  split
  · exact h
  · exact ⟨h.files, h.queue, h.set⟩
theorem ia_ends (h : IA A) : IA (endsA A).2 := by
  unfold endsA
  split
  · exact h
  · rename_i hn
    obtain ⟨h1, h2⟩ := h.armed
    refine ⟨⟨?_, ?_⟩, h.lost, h.size, h.q, h.nd, h.keep⟩
    · show 0 ≤ A.armed - 1
      rw [not_or] at hn; omega
    · show A.armed - 1 ≤ _
      omega
end
/-! ### sectors to be added -/
def stepQ (x : List (Int × Int) × List ((Int × Int) × Bool)) (y : Int × Int) : List (Int × Int) × List ((Int × Int) × Bool) :=
  if (lookM x.2 y).getD false = true then x else (x.1 ++ [y], putM (putM x.2 y ((lookM x.2 y).getD false)) y true)
theorem stepQ_ok {q : List (Int × Int)} {st : List ((Int × Int) × Bool)} (h : ∀ x, (lookM st x).getD false = decide (x ∈ q)) (y : Int × Int) : (stepQ (q, st) y).1 = addQ1 q y ∧ ∀ x, (lookM (stepQ (q, st) y).2 x).getD false = decide (x ∈ addQ1 q y) := by
  unfold stepQ addQ1
  rw [h y]
  by_cases hy : y ∈ q
  · rw [decide_eq_true hy, if_pos rfl, if_pos hy]; exact ⟨rfl, h⟩
  · rw [decide_eq_false hy, if_neg (by simp), if_neg hy]
    refine ⟨rfl, fun x => ?_⟩
    rw [look_put, look_put]
    by_cases hx : x = y
    · simp [hx]
    · rw [if_neg hx, if_neg hx, h x]; simp [hx]
theorem foldQ_ok : ∀ (l : List (Int × Int)) {q : List (Int × Int)} {st : List ((Int × Int) × Bool)}, (∀ x, (lookM st x).getD false = decide (x ∈ q)) → (l.foldl stepQ (q, st)).1 = addQ q l ∧ ∀ x, (lookM (l.foldl stepQ (q, st)).2 x).getD false = decide (x ∈ addQ q l)
  | [], q, st, h => ⟨rfl, h⟩
  | y :: l, q, st, h => by
    obtain ⟨h1, h2⟩ := stepQ_ok h y
    have e : stepQ (q, st) y = (addQ1 q y, (stepQ (q, st) y).2) := Prod.ext h1 rfl
    show (l.foldl stepQ (stepQ (q, st) y)).1 = addQ (addQ1 q y) l ∧ ∀ x, (lookM (l.foldl stepQ (stepQ (q, st) y)).2 x).getD false = decide (x ∈ addQ (addQ1 q y) l)
    rw [e]
    exact foldQ_ok l h2
theorem addQ_len : ∀ (l q : List (Int × Int)), (addQ q l).length ≤ q.length + l.length
  | [], q => Nat.le_refl _
  | y :: l, q => by
    have := addQ_len l (addQ1 q y)
    show (addQ (addQ1 q y) l).length ≤ _
    have h2 : (addQ1 q y).length ≤ q.length + 1 := by unfold addQ1; split <;> simp
    rw [List.length_cons]; omega
theorem addQ_mem : ∀ (l q : List (Int × Int)) (x : Int × Int), x ∈ addQ q l ↔ x ∈ q ∨ x ∈ l
  | [], q, x => by simp [addQ]
  | y :: l, q, x => by
    have := addQ_mem l (addQ1 q y) x
    show x ∈ addQ (addQ1 q y) l ↔ _
    rw [this]
    unfold addQ1
    by_cases hy : y ∈ q
    · rw [if_pos hy, List.mem_cons]
      constructor
      · rintro (h | h)
        · exact .inl h
        · exact .inr (.inr h)
      · rintro (h | rfl | h)
        · exact .inl h
        · exact .inl hy
        · exact .inr h
    · rw [if_neg hy, List.mem_append, List.mem_singleton, List.mem_cons]
      constructor
      · rintro ((h | h) | h)
        · exact .inl h
        · exact .inr (.inl h)
        · exact .inr (.inr h)
      · rintro (h | h | h)
        · exact .inl (.inl h)
        · exact .inl (.inr h)
        · exact .inr h
theorem addQ_nd : ∀ (l q : List (Int × Int)), q.Nodup → (addQ q l).Nodup
  | [], q, h => h
  | y :: l, q, h => addQ_nd l (addQ1 q y) (by
    unfold addQ1
    split
    · exact h
    · rename_i hy
      rw [List.nodup_append]
      exact ⟨h, by simp, fun a ha b hb => by rw [List.mem_singleton] at hb; subst hb; rintro rfl; exact hy ha⟩)
theorem secs_len (f : Int) (a n : Nat) (h : 0 < n) : (secs f a n).length = (a + n - 1) / 64 + 1 - a / 64 := by unfold secs; simp
theorem secs_at (f : Int) (a n k : Nat) (h : k < (secs f a n).length) : (secs f a n)[k] = (f, ((a / 64 + k : Nat) : Int)) := by unfold secs; simp
theorem secs_mem {f : Int} {a n : Nat} (h : 0 < n) {x : Int × Int} : x ∈ secs f a n ↔ x.1 = f ∧ ((a / 64 : Nat) : Int) ≤ x.2 ∧ x.2 ≤ (((a + n - 1) / 64 : Nat) : Int) := by
  unfold secs
  rw [List.mem_map]
  constructor
  · rintro ⟨i, hi, rfl⟩
    rw [List.mem_range] at hi
    exact ⟨rfl, by dsimp only; omega, by dsimp only; omega⟩
  · rintro ⟨h1, h2, h3⟩
    refine ⟨x.2.toNat - a / 64, List.mem_range.2 (by omega), ?_⟩
    obtain ⟨u, v⟩ := x
    simp only at *
    rw [Prod.mk.injEq]
    omega
theorem quo64 {a : Nat} (h : a ≤ 1000000000) : quoZ .i64 (a : Int) 64 = some ((a / 64 : Nat) : Int) := by
  have e : (a : Int).tdiv 64 = ((a / 64 : Nat) : Int) := rfl
  unfold quoZ
  rw [e, eqZ_eq, decide_eq_false (by omega), Bool.not_false, Bool.true_and]
  generalize hy : a / 64 = y
  have : inZ .i64 (y : Int) = true := by
    unfold inZ
    rw [leZ_eq, leZ_eq, Bool.and_eq_true, decide_eq_true_eq, decide_eq_true_eq]
    exact ⟨by show (-9223372036854775808 : Int) ≤ _; omega, by show _ ≤ (9223372036854775807 : Int); omega⟩
  rw [this]; rfl
section
variable {p : List (Int × (Bs × Bs))} {q : List (Int × Int)} {st : List ((Int × Int) × Bool)} {A : DA}
theorem write_loop {f : Int} {a : Nat} {s : Bs} (hs : s ≠ []) (h1 : a + s.length ≤ 16777216) (hl : q.length ≤ 10000000) (d4 : Int) (d5 : Bool) (d6 : Int) (d7 : List Int) (p' : List (Int × (Bs × Bs))) :
    loopF (fun x => disk_Disk_write.b1 f (a : Int) s x.1 x.2.1 x.2.2.1 x.2.2.2.1 x.2.2.2.2.1 x.2.2.2.2.2.1 x.2.2.2.2.2.2.1 x.2.2.2.2.2.2.2) (((a / 64 : Nat) : Int), d4, d5, d6, d7, p', q, st) =
      some (0, d4, d5, d6, d7, ((secs f a s.length).foldl stepQ (q, st)).1, p', ((secs f a s.length).foldl stepQ (q, st)).2) := by
  have hn : 0 < s.length := List.length_pos_iff.2 hs
  have hsl := secs_len f a s.length hn
  have hql : ∀ k, (((secs f a s.length).take k).foldl stepQ (q, st)).1.length ≤ q.length + k := by
    intro k
    induction k with
    | zero => simp
    | succ k ih =>
      by_cases hk : k < (secs f a s.length).length
      · rw [take_snoc _ _ hk, List.foldl_append]
        show (stepQ _ _).1.length ≤ _
        generalize ((secs f a s.length).take k).foldl stepQ (q, st) = Q at ih ⊢
        unfold stepQ
        split
        · omega
        · rw [List.length_append]; simp; omega
      · rw [List.take_of_length_le (by omega)] at ih ⊢; omega
  refine loopF_at (fun k => (((a / 64 + k : Nat) : Int), d4, d5, d6, d7, p', (((secs f a s.length).take k).foldl stepQ (q, st)).1, (((secs f a s.length).take k).foldl stepQ (q, st)).2)) (secs f a s.length).length rfl (fun k hk => ?_) ?_ (by omega)
  · have hb := hql k
    have hat := secs_at f a s.length k hk
    have hstep : ((secs f a s.length).take (k + 1)).foldl stepQ (q, st) = stepQ (((secs f a s.length).take k).foldl stepQ (q, st)) (f, ((a / 64 + k : Nat) : Int)) := by
      rw [take_snoc _ _ hk, List.foldl_append, hat]; rfl
    rw [hstep]
    generalize ((secs f a s.length).take k).foldl stepQ (q, st) = Q at hb ⊢
    unfold disk_Disk_write.b1
    dsimp only
    rw [z64_add (by omega), bind_in, show (((a + s.length : Nat) : Int) - 1) = ((a + s.length - 1 : Nat) : Int) by omega, z64_in (by omega) (by omega), bind_in, quo64 (by omega), bind_in, bif_leZ, if_pos (by omega)]
    unfold stepQ
    rw [show (((a / 64 + k : Nat) : Int) + 1) = ((a / 64 + (k + 1) : Nat) : Int) by omega]
    cases hg : (lookM Q.2 (f, ((a / 64 + k : Nat) : Int))).getD false with
    | true =>
      rw [Bool.not_true, cond_false, if_pos rfl, z64_in (by omega) (by omega), bind_in]
    | false =>
      rw [Bool.not_false, cond_true, if_neg (by simp), app_in (by simp; omega), bind_in, z64_in (by omega) (by omega), bind_in]
  · unfold disk_Disk_write.b1
    dsimp only
    rw [z64_add (by omega), bind_in, show (((a + s.length : Nat) : Int) - 1) = ((a + s.length - 1 : Nat) : Int) by omega, z64_in (by omega) (by omega), bind_in, quo64 (by omega), bind_in, bif_leZ, if_neg (by omega), List.take_of_length_le (Nat.le_refl _)]
theorem write_eq {f at_ : Int} {s : Bs} (hR : RD p q st A) (hI : IA A) (hs : s.length ≤ 300) : ∃ p' q' st', disk_Disk_write f at_ s A.lost A.down A.armed A.keep p q st =
    some ((writeA f at_ s A).1, (writeA f at_ s A).2.lost, (writeA f at_ s A).2.down, (writeA f at_ s A).2.armed, (writeA f at_ s A).2.keep, q', p', st') ∧ RD p' q' st' (writeA f at_ s A).2 := by
  unfold disk_Disk_write
  rw [may_eq, bind_in, bif_not, bif_eqZ]
  by_cases hm : mayA A f = 0
  case neg =>
    rw [if_neg hm]
    have e : writeA f at_ s A = (mayA A f, A) := by unfold writeA; rw [if_pos hm]
    rw [e]
    exact ⟨p, q, st, rfl, hR⟩
  rw [if_pos hm, bif_ltZ]
  by_cases h1 : at_ < 0
  · rw [if_pos h1]
    have e : writeA f at_ s A = (1, A) := by unfold writeA fitsA; rw [if_neg (by omega), if_pos (by rw [if_pos h1]; omega), if_pos h1]
    rw [e]
    exact ⟨p, q, st, rfl, hR⟩
  rw [if_neg h1, bif_ltZ]
  by_cases h3 : 16777216 < at_ ∨ 16777216 - at_ < (s.length : Int)
  · have e : writeA f at_ s A = (6, A) := by unfold writeA fitsA; rw [if_neg (by omega), if_neg h1, if_pos h3, if_pos (by omega)]
    have e2 : (if 16777216 < at_ then some true else (z64 ((16777216 : Int) - at_)).bind fun v12 => some (ltZ v12 (s.length : Int))) = some true := by
      by_cases h2 : 16777216 < at_
      · rw [if_pos h2]
      · rw [if_neg h2, z64_in (by omega) (by omega), bind_in, ltZ_eq, decide_eq_true (by omega)]
    rw [e2, bind_in, e]
    exact ⟨p, q, st, rfl, hR⟩
  · have e2 : (if 16777216 < at_ then some true else (z64 ((16777216 : Int) - at_)).bind fun v12 => some (ltZ v12 (s.length : Int))) = some false := by
      rw [if_neg (by omega), z64_in (by omega) (by omega), bind_in, ltZ_eq, decide_eq_false (by omega)]
    rw [e2, bind_in]
    obtain ⟨a, rfl⟩ := Int.eq_ofNat_of_zero_le (show 0 ≤ at_ by omega)
    have e : writeA f (a : Int) s A = (0, addA f a s A) := by unfold writeA fitsA; rw [if_neg (by omega), if_neg h1, if_neg h3, if_neg (by omega)]; rfl
    rw [e]
    unfold disk_Disk_write.j1
    rw [cond_false, bif_dec]
    by_cases hz : s = []
    · rw [if_pos hz]
      have e3 : addA f a s A = A := by unfold addA; rw [if_pos hz]
      rw [e3]
      exact ⟨p, q, st, rfl, hR⟩
    · have hsz := hI.size f
      rw [if_neg hz, hR.files f, put_eq _ _ _ (by omega) (by omega), bind_in, quo64 (by omega), bind_in, write_loop hz (by omega) (by rw [hR.queue]; have := hI.len; omega)]
      have e3 : addA f a s A = { A with fs := setFs A.fs f (putF (A.fs f).1 a s, (A.fs f).2), q := addQ A.q (secs f a s.length) } := by unfold addA; rw [if_neg hz]
      rw [e3]
      obtain ⟨h5, h6⟩ := foldQ_ok (secs f a s.length) (q := q) (st := st) (by rw [hR.queue]; exact hR.set)
      refine ⟨_, _, _, rfl, ⟨fun g => ?_, ?_, ?_⟩⟩
      · rw [look_put]
        show _ = setFs A.fs f _ g
        unfold setFs
        by_cases hg : g = f
        · rw [if_pos hg, if_pos hg]; rfl
        · rw [if_neg hg, if_neg hg]; exact hR.files g
      · rw [h5, hR.queue]
      · rw [hR.queue] at h6 ⊢; exact h6
theorem ia_add {f : Int} {a : Nat} {s : Bs} (hI : IA A) (hf : 0 ≤ f ∧ f < 16) (h : a + s.length ≤ 16777216) : IA (addA f a s A) := by
  unfold addA
  split
  · exact hI
  · rename_i hs
    have hn : 0 < s.length := List.length_pos_iff.2 hs
    refine ⟨hI.armed, hI.lost, fun g => ?_, fun x hx => ?_, addQ_nd _ _ hI.nd, hI.keep⟩
    · show (setFs A.fs f _ g).1.length ≤ _ ∧ (setFs A.fs f _ g).2.length ≤ _
      unfold setFs
      split
      · dsimp only
        rw [putF_len hs]
        have := hI.size f
        omega
      · exact hI.size g
    · rcases (addQ_mem _ _ _).1 hx with h1 | h1
      · exact hI.q x h1
      · obtain ⟨h2, h3, h4⟩ := (secs_mem hn).1 h1
        rw [h2]
        exact ⟨hf, by omega, by omega⟩
theorem may_zero {f : Int} (h : mayA A f = 0) : A.down = false ∧ 0 ≤ f ∧ f < 16 := by
  unfold mayA at h
  split at h
  · cases h
  · rename_i h1
    split at h
    · cases h
    · exact ⟨by simpa using h1, by omega, by omega⟩
theorem ia_write {f at_ : Int} {s : Bs} (hI : IA A) (hs : s.length ≤ 300) : IA (writeA f at_ s A).2 := by
  unfold writeA
  split
  · exact hI
  · rename_i h1
    split
    · exact hI
    · rename_i h2
      have h1 : mayA A f = 0 := Classical.byContradiction h1
      have h2 : fitsA at_ s = 0 := Classical.byContradiction h2
      unfold fitsA at h2
      split at h2
      · cases h2
      · split at h2
        · cases h2
        · exact ia_add hI (may_zero h1).2 (by omega)
/-! ### Crash -/
theorem rem_eq {a b : Nat} (hb : 0 < b) (hl : b ≤ 1000000) : remZ .i64 (a : Int) (b : Int) = some ((a % b : Nat) : Int) := by
  have hm : a % b < b := Nat.mod_lt _ hb
  have e : ((a : Int).tmod (b : Int)) = ((a % b : Nat) : Int) := rfl
  unfold remZ
  rw [e, eqZ_eq, decide_eq_false (by omega), Bool.not_false, Bool.true_and]
  generalize a % b = y at *
  have : inZ .i64 (y : Int) = true := by
    unfold inZ
    rw [leZ_eq, leZ_eq, Bool.and_eq_true, decide_eq_true_eq, decide_eq_true_eq]
    exact ⟨by show (-9223372036854775808 : Int) ≤ _; omega, by show _ ≤ (9223372036854775807 : Int); omega⟩
  rw [this]; rfl
def getF (s : List (Int × (Bs × Bs))) (g : Int) : Bs × Bs := (lookM s g).getD (([] : Bs), ([] : Bs))
def chunkF (x : Bs) (n : Nat) : Bs := (x.take (min (n * 64 + 64) x.length)).drop (n * 64)
def survL (s : List (Int × (Bs × Bs))) (x : Int × Int) : List (Int × (Bs × Bs)) :=
  if x.2.toNat * 64 < (getF s x.1).1.length then putM s x.1 ((getF s x.1).1, putF (getF s x.1).2 (x.2.toNat * 64) (chunkF (getF s x.1).1 x.2.toNat)) else s
theorem getF_put (s : List (Int × (Bs × Bs))) (f : Int) (y : Bs × Bs) (g : Int) : getF (putM s f y) g = if g = f then y else getF s g := by
  unfold getF
  rw [look_put]
  split <;> rfl
theorem survL_get (s : List (Int × (Bs × Bs))) (x : Int × Int) : getF (survL s x) = survA (getF s) x := by
  funext g
  unfold survL survA
  split
  · rw [getF_put]; rfl
  · rfl
theorem chunk_len (x : Bs) (n : Nat) : n * 64 + (chunkF x n).length ≤ max (n * 64) x.length := by unfold chunkF; rw [List.length_drop, List.length_take]; omega
theorem surv_size {fs : Int → Bs × Bs} {x : Int × Int} (h : ∀ g, (fs g).1.length ≤ 16777216 ∧ (fs g).2.length ≤ 16777216) : ∀ g, (survA fs x g).1.length ≤ 16777216 ∧ (survA fs x g).2.length ≤ 16777216 := by
  intro g
  unfold survA
  split
  · rename_i hx
    unfold setFs
    split
    · refine ⟨(h x.1).1, ?_⟩
      dsimp only
      have h1 := chunk_len (fs x.1).1 x.2.toNat
      unfold chunkF at h1
      have h2 := h x.1
      by_cases hz : ((fs x.1).1.take (min (x.2.toNat * 64 + 64) (fs x.1).1.length)).drop (x.2.toNat * 64) = []
      · rw [hz, putF_nil]; exact h2.2
      · rw [putF_len hz]; omega
    · exact h g
  · exact h g
theorem crash_size (keep : List Int) : ∀ (l : List (Int × Int)) (i : Nat) (fs : Int → Bs × Bs), (∀ g, (fs g).1.length ≤ 16777216 ∧ (fs g).2.length ≤ 16777216) → ∀ g, (crashFs keep i fs l g).1.length ≤ 16777216 ∧ (crashFs keep i fs l g).2.length ≤ 16777216
  | [], _, _, h => h
  | x :: l, i, fs, h => crash_size keep l (i + 1) _ (by
    split
    · exact surv_size h
    · exact h)
theorem crash_fold (keep : List Int) : ∀ (l : List (Int × Int)) (i : Nat) (s : List (Int × (Bs × Bs))), getF (foldI (fun k s x => if keptB keep k = true then survL s x else s) i s l) = crashFs keep i (getF s) l
  | [], _, _ => rfl
  | x :: l, i, s => by
    show getF (foldI _ (i + 1) (if keptB keep i = true then survL s x else s) l) = crashFs keep (i + 1) (if keptB keep i = true then survA (getF s) x else getF s) l
    rw [crash_fold keep l]
    congr 1
    split
    · exact survL_get s x
    · rfl
theorem crash_eq {keep : List Int} (hk : keep.length ≤ 60) (hR : RD p q st A) (hI : IA A) : ∃ p' q' st', disk_Disk_Crash keep A.lost A.down A.armed A.keep p q st =
    some ((crashA keep A).lost, (crashA keep A).down, (crashA keep A).armed, (crashA keep A).keep, q', st', p') ∧ RD p' q' st' (crashA keep A) := by
  unfold disk_Disk_Crash
  by_cases hd : A.down = true
  · rw [hd, cond_true]
    have e : crashA keep A = A := by unfold crashA; rw [if_pos hd]
    rw [e]
    exact ⟨p, q, st, by rw [hd], hR⟩
  rw [Bool.not_eq_true] at hd
  rw [hd, cond_false]
  have e : crashA keep A = { A with down := true, armed := 0, q := [], fs := fun f => ((crashFs keep 0 A.fs A.q f).2, (crashFs keep 0 A.fs A.q f).2) } := by unfold crashA; rw [if_neg (by rw [hd]; simp)]
  have hgf : getF p = A.fs := funext hR.files
  have hql : q.length ≤ 4194320 := by rw [hR.queue]; exact hI.len
  have hloop := loop_fold (body := fun x => disk_Disk_Crash.b1 keep q x.1 x.2.1 x.2.2.1 x.2.2.2.1 x.2.2.2.2.1 x.2.2.2.2.2.1 x.2.2.2.2.2.2.1 x.2.2.2.2.2.2.2)
    (fun (k : Nat) s => ((k : Int), A.lost, true, (0 : Int), A.keep, q, s, st)) q (fun k s x => if keptB keep k = true then survL s x else s) (fun s => (A.lost, true, (0 : Int), A.keep, s, q, st))
    (fun _ s => ∀ g, (getF s g).1.length ≤ 16777216 ∧ (getF s g).2.length ≤ 16777216) (fun k hk s hs => by
      split
      · rw [survL_get]; exact surv_size hs
      · exact hs) (fun k hk s hs => by
      have hx := hI.q q[k] (by rw [← hR.queue]; exact List.getElem_mem hk)
      obtain ⟨n, hn⟩ := Int.eq_ofNat_of_zero_le hx.2.1
      have hn : q[k].2 = (n : Int) := hn
      have hnl : n ≤ 262144 := by have := hx.2.2; omega
      have hsz := hs q[k].1
      unfold disk_Disk_Crash.b1
      dsimp only
      rw [bif_ltZ, if_pos (by omega), idx_nat hk, bind_in, bind_in, hn, show ((n : Int) * 64) = ((n * 64 : Nat) : Int) by omega, z64_in (by omega) (by omega), bind_in]
      have hfin : ∀ b : Bool, (b = true ∨ (leZ (((((lookM s q[k].1).getD (([] : Bs), ([] : Bs))).1).length : Nat) : Int) ((n * 64 : Nat) : Int)) = b) → disk_Disk_Crash.j1 (k : Int) A.lost true 0 A.keep q s st q[k] ((n * 64 : Nat) : Int) b = some (.inl (((k + 1 : Nat) : Int), A.lost, true, (0 : Int), A.keep, q, (if b = true then s else survL s q[k]), st)) := by
        intro b hb
        unfold disk_Disk_Crash.j1
        cases b with
        | true => rw [cond_true, z64_succ (by omega), bind_in, if_pos rfl]
        | false =>
          have hlt : n * 64 < (getF s q[k].1).1.length := by
            rcases hb with hb | hb
            · cases hb
            · rw [leZ_eq, decide_eq_false_iff_not] at hb
              have hb : ¬ (((getF s q[k].1).1.length : Nat) : Int) ≤ ((n * 64 : Nat) : Int) := hb
              omega
          show (Option.bind (z64 (((n * 64 : Nat) : Int) + 64)) fun v24 => (cut (getF s q[k].1).1 ((n * 64 : Nat) : Int) (min v24 ((getF s q[k].1).1.length : Int))).bind fun s25 => (disk_put (getF s q[k].1).2 ((n * 64 : Nat) : Int) s25).bind fun p26 => (z64 ((k : Int) + 1)).bind fun v27 => some (Sum.inl (v27, A.lost, true, (0 : Int), A.keep, q, putM s q[k].1 ((getF s q[k].1).1, p26), st))) = _
          have hsz : (getF s q[k].1).1.length ≤ 16777216 ∧ (getF s q[k].1).2.length ≤ 16777216 := hsz
          have hcl := chunk_len (getF s q[k].1).1 n
          rw [show (((n * 64 : Nat) : Int) + 64) = ((n * 64 + 64 : Nat) : Int) by omega, z64_in (by omega) (by omega), bind_in, show min ((n * 64 + 64 : Nat) : Int) ((getF s q[k].1).1.length : Int) = ((min (n * 64 + 64) (getF s q[k].1).1.length : Nat) : Int) by omega, cut_in (by omega) (by omega) (by omega), bind_in]
          rw [show ((List.take ((min (n * 64 + 64) (getF s q[k].1).1.length : Nat) : Int).toNat (getF s q[k].1).1).drop ((n * 64 : Nat) : Int).toNat) = chunkF (getF s q[k].1).1 n from rfl, put_eq _ _ _ (by omega) (by omega), bind_in, z64_succ (by omega), bind_in, if_neg (by simp)]
          unfold survL
          rw [hn, Int.toNat_natCast, if_pos hlt]
      rw [bif_eqZ]
      by_cases hk0 : (keep.length : Int) = 0
      · rw [if_pos hk0, bind_in, hfin true (.inl rfl), if_pos rfl]
        have : keptB keep k = false := by
          unfold keptB
          rw [List.getElem?_eq_none (by omega)]
        rw [this, if_neg (by simp)]
      · rw [if_neg hk0, rem_eq (by omega) (by omega), bind_in]
        have hm : k % keep.length < keep.length := Nat.mod_lt _ (by omega)
        rw [idx_nat hm, bind_in, bif_eqZ]
        have hkb : keptB keep k = !decide (andI .i64 keep[k % keep.length] 1 = 0) := by
          unfold keptB
          rw [List.getElem?_eq_getElem hm]
        rw [hkb]
        by_cases h0 : andI .i64 keep[k % keep.length] 1 = 0
        · rw [if_pos h0, bind_in, hfin true (.inl rfl), if_pos rfl, decide_eq_true h0, if_neg (by simp)]
        · rw [if_neg h0, bind_in, hfin _ (.inr rfl), decide_eq_false h0]
          cases hlz : leZ (((((lookM s q[k].1).getD (([] : Bs), ([] : Bs))).1).length : Nat) : Int) ((n * 64 : Nat) : Int) with
          | false => rfl
          | true =>
            have hsv : survL s q[k] = s := by
              unfold survL
              rw [leZ_eq, decide_eq_true_eq] at hlz
              have hlz : (((getF s q[k].1).1.length : Nat) : Int) ≤ ((n * 64 : Nat) : Int) := hlz
              rw [hn, Int.toNat_natCast, if_neg (by omega)]
            rw [hsv]; rfl) (fun s hs => by
      unfold disk_Disk_Crash.b1
      dsimp only
      rw [bif_ltZ, if_neg (by omega)]) (by omega) (s0 := p) (by rw [hgf]; exact hI.size)
  have hloop' := hloop
  rw [show ((0 : Nat) : Int) = 0 from rfl] at hloop'
  rw [hloop', bind_in, e]
  refine ⟨_, _, _, rfl, ⟨fun f => ?_, rfl, fun x => by simp [lookM_nil]⟩⟩
  rw [lookM_lasts]
  have h9 := congrFun (crash_fold keep q 0 p) f
  rw [hgf, hR.queue] at h9
  dsimp only
  rw [← h9, hR.queue]
  unfold getF
  cases lookM (foldI (fun k s x => if keptB keep k = true then survL s x else s) 0 p A.q) f <;> rfl
theorem ia_crash {keep : List Int} (hI : IA A) : IA (crashA keep A) := by
  unfold crashA
  split
  · exact hI
  · exact ⟨⟨by simp, by simp⟩, hI.lost, fun f => ⟨(crash_size keep A.q 0 A.fs hI.size f).2, (crash_size keep A.q 0 A.fs hI.size f).2⟩, (fun x hx => nomatch hx), List.nodup_nil, hI.keep⟩
end
section
variable {p : List (Int × (Bs × Bs))} {q : List (Int × Int)} {st : List ((Int × Int) × Bool)} {A : DA}
theorem Write_eq {f at_ : Int} {s : Bs} (hR : RD p q st A) (hI : IA A) (hs : s.length ≤ 300) : ∃ p' q' st', disk_Disk_Write f at_ s A.lost A.down A.armed A.keep p q st =
    some ((WriteA f at_ s A).1, (WriteA f at_ s A).2.lost, (WriteA f at_ s A).2.down, (WriteA f at_ s A).2.armed, (WriteA f at_ s A).2.keep, q', st', p') ∧ RD p' q' st' (WriteA f at_ s A).2 := by
  unfold disk_Disk_Write
  rw [ends_eq hI, bind_in]
  obtain ⟨p1, q1, s1, h1, r1⟩ := write_eq (f := f) (at_ := at_) (s := s) (rd_ends hR) (ia_ends hI) hs
  dsimp only at h1 ⊢
  rw [h1, bind_in]
  have i1 := ia_write (f := f) (at_ := at_) (ia_ends hI) hs
  unfold WriteA
  cases hb : (endsA A).1 with
  | true =>
    rw [cond_true, if_pos rfl]
    obtain ⟨p2, q2, s2, h2, r2⟩ := crash_eq (keep := (writeA f at_ s (endsA A).2).2.keep) i1.keep r1 i1
    dsimp only at h2 ⊢
    rw [h2, bind_in]
    exact ⟨p2, q2, s2, rfl, r2⟩
  | false =>
    rw [cond_false, if_neg (by simp)]
    exact ⟨p1, q1, s1, rfl, r1⟩
theorem settle_eq {f : Int} {s : Bs} (hR : RD p q st A) (hI : IA A) : ∃ p' q' st', disk_Disk_settle f s A.lost A.down A.armed A.keep p q st =
    some (A.lost, A.down, A.armed, A.keep, q', p', st') ∧ RD p' q' st' (settleA f s A) := by
  unfold disk_Disk_settle
  rw [delete_eq (by rw [hR.queue]; have := hI.len; omega), bind_in, maps_DeleteFunc_eq, bind_in]
  refine ⟨_, _, _, rfl, ⟨fun g => ?_, ?_, fun x => ?_⟩⟩
  · rw [look_put]
    show _ = setFs A.fs f _ g
    unfold setFs
    by_cases hg : g = f
    · rw [if_pos hg, if_pos hg]; rfl
    · rw [if_neg hg, if_neg hg]; exact hR.files g
  · rw [hR.queue]; rfl
  · rw [lookM_filter (fun y : Int × Int => !decide (y.1 = f))]
    show _ = decide (x ∈ A.q.filter fun x => decide (KeepS f x))
    have h1 := hR.set x
    unfold KeepS
    by_cases hx : x.1 = f
    · rw [if_neg (by simp [hx]), decide_eq_false (by simp [hx])]; rfl
    · rw [if_pos (by simp [hx]), h1]
      simp [hx]
theorem ia_settle {f : Int} {s : Bs} (hI : IA A) (hs : s.length ≤ 16777216) : IA (settleA f s A) := by
  refine ⟨hI.armed, hI.lost, fun g => ?_, fun x hx => hI.q x (List.mem_filter.1 hx).1, hI.nd.sublist List.filter_sublist, hI.keep⟩
  show (setFs A.fs f _ g).1.length ≤ _ ∧ (setFs A.fs f _ g).2.length ≤ _
  unfold setFs
  split
  · exact ⟨hs, hs⟩
  · exact hI.size g
theorem ia_comes (hI : IA A) : IA (comesA A) := by
  unfold comesA
  split
  · exact ia_crash (ia_ends hI)
  · exact ia_ends hI
theorem comes_eq (hR : RD p q st A) (hI : IA A) : ∃ p' q' st', ((disk_Disk_ends A.lost A.down A.armed A.keep p q st).bind fun e9 =>
 bif e9.1 then
  ((disk_Disk_Crash e9.2.2.2.2.1 e9.2.1 e9.2.2.1 e9.2.2.2.1 e9.2.2.2.2.1 e9.2.2.2.2.2.1 e9.2.2.2.2.2.2.1 e9.2.2.2.2.2.2.2).bind fun c10 =>
  some (c10.1, c10.2.1, c10.2.2.1, c10.2.2.2.1, c10.2.2.2.2.2.2, c10.2.2.2.2.1, c10.2.2.2.2.2.1))
 else
  some (e9.2.1, e9.2.2.1, e9.2.2.2.1, e9.2.2.2.2.1, e9.2.2.2.2.2.1, e9.2.2.2.2.2.2.1, e9.2.2.2.2.2.2.2)) = some ((comesA A).lost, (comesA A).down, (comesA A).armed, (comesA A).keep, p', q', st') ∧ RD p' q' st' (comesA A) := by
  rw [ends_eq hI, bind_in]
  dsimp only
  unfold comesA
  cases hb : (endsA A).1 with
  | true =>
    rw [cond_true, if_pos rfl]
    obtain ⟨p2, q2, s2, h2, r2⟩ := crash_eq (keep := (endsA A).2.keep) (ia_ends hI).keep (rd_ends hR) (ia_ends hI)
    rw [h2, bind_in]
    exact ⟨p2, q2, s2, rfl, r2⟩
  | false =>
    rw [cond_false, if_neg (by simp)]
    exact ⟨p, q, st, rfl, rd_ends hR⟩
theorem Sync_eq {f : Int} (hR : RD p q st A) (hI : IA A) : ∃ p' q' st', disk_Disk_Sync f A.lost A.down A.armed A.keep p q st =
    some ((syncA f A).1, (syncA f A).2.lost, (syncA f A).2.down, (syncA f A).2.armed, (syncA f A).2.keep, q', st', p') ∧ RD p' q' st' (syncA f A).2 := by
  unfold disk_Disk_Sync
  obtain ⟨p1, q1, s1, h1, r1⟩ := comes_eq hR hI
  have i1 := ia_comes hI
  rw [h1, bind_in]
  unfold disk_Disk_Sync.j1 syncA
  dsimp only
  rw [may_eq, bind_in, bif_not, bif_eqZ]
  by_cases hm : mayA (comesA A) f = 0
  case neg => rw [if_neg hm, if_pos hm]; exact ⟨p1, q1, s1, rfl, r1⟩
  rw [if_pos hm, if_neg (fun h => h hm), bif_ltZ]
  by_cases hl : 0 < (comesA A).lost
  · have := i1.lost
    rw [if_pos hl, if_pos hl, z64_in (by omega) (by omega), bind_in]
    exact ⟨p1, q1, s1, rfl, ⟨r1.files, r1.queue, r1.set⟩⟩
  · rw [if_neg hl, if_neg hl]
    have hg := r1.files f
    rw [hg]
    obtain ⟨p2, q2, s2, h2, r2⟩ := settle_eq (f := f) (s := ((comesA A).fs f).1) r1 i1
    rw [h2, bind_in]
    exact ⟨p2, q2, s2, rfl, r2⟩
theorem ia_sync {f : Int} (hI : IA A) : IA (syncA f A).2 := by
  have i1 := ia_comes hI
  unfold syncA
  split
  · exact i1
  · split
    · have := i1.lost
      exact ⟨i1.armed, ⟨by dsimp only; omega, by dsimp only; omega⟩, i1.size, i1.q, i1.nd, i1.keep⟩
    · exact ia_settle i1 (i1.size f).1
theorem Size_eq (f : Int) (hR : RD p q st A) : disk_Disk_Size f A.lost A.down A.armed A.keep p q st = some (((A.fs f).1.length : Nat) : Int) := by
  unfold disk_Disk_Size
  rw [hR.files f]
theorem Trunc_eq {f size : Int} (hR : RD p q st A) (hI : IA A) : ∃ p' q' st', disk_Disk_Truncate f size A.lost A.down A.armed A.keep p q st =
    some ((truncA f size A).1, (truncA f size A).2.lost, (truncA f size A).2.down, (truncA f size A).2.armed, (truncA f size A).2.keep, q', st', p') ∧ RD p' q' st' (truncA f size A).2 := by
  unfold disk_Disk_Truncate
  obtain ⟨p1, q1, s1, h1, r1⟩ := comes_eq hR hI
  have i1 := ia_comes hI
  rw [h1, bind_in]
  unfold disk_Disk_Truncate.j2 truncA
  dsimp only
  rw [may_eq, bind_in, bif_not, bif_eqZ]
  by_cases hm : mayA (comesA A) f = 0
  case neg => rw [if_neg hm, if_pos hm]; exact ⟨p1, q1, s1, rfl, r1⟩
  rw [if_pos hm, if_neg (fun h => h hm), bif_ltZ]
  have e2 : (if size < 0 then some true else (disk_Disk_Size f (comesA A).lost (comesA A).down (comesA A).armed (comesA A).keep p1 q1 s1).bind fun s20 => some (ltZ s20 size)) = some (decide (size < 0 ∨ (((comesA A).fs f).1.length : Int) < size)) := by
    by_cases h : size < 0
    · rw [if_pos h, decide_eq_true (.inl h)]
    · rw [if_neg h, Size_eq f r1, bind_in, ltZ_eq]; simp [h]
  rw [e2, bind_in]
  unfold disk_Disk_Truncate.j1
  by_cases hc : size < 0 ∨ (((comesA A).fs f).1.length : Int) < size
  · rw [decide_eq_true hc, cond_true, if_pos hc]
    exact ⟨p1, q1, s1, rfl, r1⟩
  · rw [decide_eq_false hc, cond_false, if_neg hc, r1.files f, cut_in (by omega) (by omega) (by omega), bind_in]
    obtain ⟨p2, q2, s2, h2, r2⟩ := settle_eq (f := f) (s := (((comesA A).fs f).1.take size.toNat).drop (0 : Int).toNat) r1 i1
    rw [h2, bind_in]
    exact ⟨p2, q2, s2, rfl, r2⟩
theorem ia_trunc {f size : Int} (hI : IA A) : IA (truncA f size A).2 := by
  have i1 := ia_comes hI
  unfold truncA
  split
  · exact i1
  · split
    · exact i1
    · exact ia_settle i1 (by rw [List.length_take]; have := (i1.size f).1; omega)
theorem clone_int {l : List Int} (h : l.length ≤ 1000000) : slices_Clone_int_int l = some l := by
  unfold slices_Clone_int_int
  refine bothN_same ?_ (fun h => by rw [h])
  rw [app_in (by simp; omega)]; rfl
theorem clone_sec {l : List (Int × Int)} (h : l.length ≤ 10000000) : slices_Clone_disk_sector_disk_sector l = some l := by
  unfold slices_Clone_disk_sector_disk_sector
  refine bothN_same ?_ (fun h => by rw [h])
  rw [app_in (by simp; omega)]; rfl
theorem Arm_eq {n : Int} {keep : List Int} (hk : keep.length ≤ 60) : disk_Disk_Arm n keep A.lost A.down A.armed A.keep p q st = some (A.lost, A.down, max n 0, keep, p, q, st) := by
  unfold disk_Disk_Arm
  rw [clone_int (by omega), bind_in]
theorem Copy_eq (hR : RD p q st A) (hI : IA A) : disk_Disk_Copy A.lost A.down A.armed A.keep p q st = some (A.lost, A.down, A.armed, A.keep, p, q, st) := by
  unfold disk_Disk_Copy maps_Clone maps_Clone_v2
  rw [bind_in, clone_sec (by rw [hR.queue]; have := hI.len; omega), bind_in, bind_in]
theorem take_min {s : Bs} {k : Nat} (h : s.length ≤ 16777216) : s.take (min k s.length) = s.take k := by
  rw [List.take_eq_take_iff]; omega
theorem Read_eq {f at_ size : Int} (hR : RD p q st A) (hI : IA A) : disk_Disk_Read f at_ size A.lost A.down A.armed A.keep p q st = some (readA f at_ size A) := by
  unfold disk_Disk_Read readA
  rw [may_eq, bind_in, bif_not, bif_eqZ]
  by_cases hm : mayA A f = 0
  case neg => rw [if_neg hm, if_pos hm]
  rw [if_pos hm, if_neg (fun h => h hm), bif_ltZ]
  have e2 : (if at_ < 0 then some true else some (ltZ size 0)) = some (decide (at_ < 0 ∨ size < 0)) := by
    by_cases h : at_ < 0
    · rw [if_pos h, decide_eq_true (.inl h)]
    · rw [if_neg h, ltZ_eq]; simp [h]
  rw [e2, bind_in]
  unfold disk_Disk_Read.j1
  by_cases hc : at_ < 0 ∨ size < 0
  · rw [decide_eq_true hc, cond_true, if_pos hc]
  · rw [decide_eq_false hc, cond_false, if_neg hc, hR.files f]
    obtain ⟨a, rfl⟩ := Int.eq_ofNat_of_zero_le (show 0 ≤ at_ by omega)
    obtain ⟨z, rfl⟩ := Int.eq_ofNat_of_zero_le (show 0 ≤ size by omega)
    have hsz := (hI.size f).1
    generalize (A.fs f).1 = x at hsz
    rw [show min (a : Int) (x.length : Int) = ((min a x.length : Nat) : Int) by omega, cut_in (by omega) (by omega) (by omega), bind_in]
    have e : (x.take ((x.length : Nat) : Int).toNat).drop ((min a x.length : Nat) : Int).toNat = x.drop a := by
      rw [Int.toNat_natCast, Int.toNat_natCast, List.take_length]
      by_cases h : a ≤ x.length
      · rw [Nat.min_eq_left h]
      · rw [Nat.min_eq_right (by omega), List.drop_of_length_le (Nat.le_refl _), List.drop_of_length_le (by omega)]
    rw [e]
    generalize hy : x.drop a = y
    have hyl : y.length ≤ 16777216 := by rw [← hy, List.length_drop]; omega
    rw [show min (z : Int) (y.length : Int) = ((min z y.length : Nat) : Int) by omega, cut_in (by omega) (by omega) (by omega), bind_in]
    show some ((y.take (min z y.length)).drop 0, (0 : Int)) = some ((x.drop a).take z, 0)
    rw [List.drop_zero, take_min hyl, hy]
end
/-! ### acts -/
def kindA (a : GAct) : Int := andI .i64 a.1 7
def doA (a : GAct) (A : DA) : Int × DA :=
  if kindA a = 2 then syncA a.2.1 A else if kindA a = 3 then truncA a.2.1 a.2.2.1 A else if kindA a = 4 then (0, loseA (andI .i64 a.2.2.1 3) A) else if kindA a = 5 then (0, armA a.2.2.1 a.2.2.2.2 A)
  else if kindA a = 6 then (0, crashA a.2.2.2.2 A) else if kindA a = 7 then (0, startA A) else WriteA a.2.1 a.2.2.1 a.2.2.2.1 A
/-- what is asked of an act -/
def OkA (a : GAct) : Prop := a.2.2.2.1.length ≤ 300 ∧ a.2.2.2.2.length ≤ 60 ∧ ¬ (3000 < a.2.2.1 ∧ a.2.2.1 < 16776916)
instance (a : GAct) : Decidable (OkA a) := by unfold OkA; infer_instance
def InA (a : GAct) : Prop := a.2.2.1 ≤ 9223372036854775807
theorem and_in (a b : Int) : -9223372036854775808 ≤ andI .i64 a b ∧ andI .i64 a b ≤ 9223372036854775807 := by
  have h := wrap_inK .i64 (((BitVec.ofInt IntKind.i64.bits a &&& BitVec.ofInt IntKind.i64.bits b).toNat : Nat) : Int)
  exact h
section
variable {p : List (Int × (Bs × Bs))} {q : List (Int × Int)} {st : List ((Int × Int) × Bool)} {A : DA}
theorem do_eq {a : GAct} (ha : OkA a) (hR : RD p q st A) (hI : IA A) : ∃ p' q' st', ladinglaw02_do a A.lost A.down A.armed A.keep p q st =
    some ((doA a A).1, (doA a A).2.lost, (doA a A).2.down, (doA a A).2.armed, (doA a A).2.keep, q', st', p') ∧ RD p' q' st' (doA a A).2 := by
  unfold ladinglaw02_do doA
  show ∃ p' q' st', (bif eqZ (kindA a) 2 then _ else bif eqZ (kindA a) 3 then _ else bif eqZ (kindA a) 4 then _ else bif eqZ (kindA a) 5 then _ else bif eqZ (kindA a) 6 then _ else bif eqZ (kindA a) 7 then _ else _) = _ ∧ _
  simp only [bif_eqZ]
  by_cases h2 : kindA a = 2
  · rw [if_pos h2, if_pos h2]
    obtain ⟨p1, q1, s1, h1, r1⟩ := Sync_eq (f := a.2.1) hR hI
    rw [h1, bind_in]
    exact ⟨p1, q1, s1, rfl, r1⟩
  rw [if_neg h2, if_neg h2]
  by_cases h3 : kindA a = 3
  · rw [if_pos h3, if_pos h3]
    obtain ⟨p1, q1, s1, h1, r1⟩ := Trunc_eq (f := a.2.1) (size := a.2.2.1) hR hI
    rw [h1, bind_in]
    exact ⟨p1, q1, s1, rfl, r1⟩
  rw [if_neg h3, if_neg h3]
  by_cases h4 : kindA a = 4
  · rw [if_pos h4, if_pos h4]
    exact ⟨p, q, st, rfl, ⟨hR.files, hR.queue, hR.set⟩⟩
  rw [if_neg h4, if_neg h4]
  by_cases h5 : kindA a = 5
  · rw [if_pos h5, if_pos h5, Arm_eq ha.2.1, bind_in]
    exact ⟨p, q, st, rfl, ⟨hR.files, hR.queue, hR.set⟩⟩
  rw [if_neg h5, if_neg h5]
  by_cases h6 : kindA a = 6
  · rw [if_pos h6, if_pos h6]
    obtain ⟨p1, q1, s1, h1, r1⟩ := crash_eq (keep := a.2.2.2.2) ha.2.1 hR hI
    rw [h1, bind_in]
    exact ⟨p1, q1, s1, rfl, r1⟩
  rw [if_neg h6, if_neg h6]
  by_cases h7 : kindA a = 7
  · rw [if_pos h7, if_pos h7]
    exact ⟨p, q, st, rfl, ⟨hR.files, hR.queue, hR.set⟩⟩
  rw [if_neg h7, if_neg h7]
  obtain ⟨p1, q1, s1, h1, r1⟩ := Write_eq (f := a.2.1) (at_ := a.2.2.1) (s := a.2.2.2.1) hR hI ha.1
  rw [h1, bind_in]
  exact ⟨p1, q1, s1, rfl, r1⟩
theorem ia_Write {f at_ : Int} {s : Bs} (hI : IA A) (hs : s.length ≤ 300) : IA (WriteA f at_ s A).2 := by
  unfold WriteA
  split
  · exact ia_crash (ia_write (ia_ends hI) hs)
  · exact ia_write (ia_ends hI) hs
theorem ia_do {a : GAct} (ha : OkA a) (hi : InA a) (hI : IA A) : IA (doA a A).2 := by
  unfold doA
  split
  · exact ia_sync hI
  split
  · exact ia_trunc hI
  split
  · have := and_in a.2.2.1 3
    exact ⟨hI.armed, ⟨by show 0 ≤ max _ 0; omega, by show max _ 0 ≤ _; omega⟩, hI.size, hI.q, hI.nd, hI.keep⟩
  split
  · exact ⟨⟨by show 0 ≤ max _ 0; omega, by have hi : a.2.2.1 ≤ 9223372036854775807 := hi; show max _ 0 ≤ _; omega⟩, hI.lost, hI.size, hI.q, hI.nd, ha.2.1⟩
  split
  · exact ia_crash hI
  split
  · exact ⟨hI.armed, hI.lost, hI.size, hI.q, hI.nd, hI.keep⟩
  · exact ia_Write hI ha.1
end
theorem rd_new : RD [] [] [] newA := ⟨fun f => rfl, rfl, fun x => by simp [lookM_nil, newA]⟩
theorem ia_new : IA newA := ⟨⟨by simp [newA], by simp [newA]⟩, ⟨by simp [newA], by simp [newA]⟩, fun f => by simp [newA], (fun x hx => nomatch hx), List.nodup_nil, by simp [newA]⟩
theorem few_eq {l : List GAct} (h : l.length ≤ 9223372036854775807) : ladinglaw02_few l = some (decide ((∀ a ∈ l, OkA a) ∧ l.length ≤ 40)) := by
  unfold ladinglaw02_few
  refine (loop_scan l (fun _ a => if (fun a => !decide (OkA a)) a = true then some false else none) (decide (l.length ≤ 40)) (fun k hk => ?_) ?_ (by omega)).trans ?_
  · simp only [ladinglaw02_few.b1, lt_n hk, cond_true, idx_nat hk, bind_in, bif_ltZ, ladinglaw02_few.j1]
    have e : (if (300 : Int) < (l[k].2.2.2.1.length : Int) then some true else if (60 : Int) < (l[k].2.2.2.2.length : Int) then some true else if 3000 < l[k].2.2.1 then some (ltZ l[k].2.2.1 16776916) else some false) = some (!decide (OkA l[k])) := by
      unfold OkA
      by_cases h1 : l[k].2.2.2.1.length ≤ 300
      · rw [if_neg (by omega)]
        by_cases h2 : l[k].2.2.2.2.length ≤ 60
        · rw [if_neg (by omega), ltZ_eq]
          by_cases h3 : 3000 < l[k].2.2.1
          · rw [if_pos h3]; by_cases h4 : l[k].2.2.1 < 16776916 <;> simp [h1, h2, h3, h4] <;> omega
          · rw [if_neg h3]; simp [h1, h2, h3]
        · rw [if_pos (by omega)]; simp [h2]
      · rw [if_pos (by omega)]; simp [h1]
    rw [e, bind_in]
    by_cases ho : OkA l[k]
    · simp only [ho, decide_true, Bool.not_true, cond_false, Bool.false_eq_true, if_false, z64_nx hk (by omega), bind_in]
    · simp only [ho, decide_false, Bool.not_false, cond_true, if_true]
  · simp only [ladinglaw02_few.b1, lt_e, cond_false, leZ_eq]
    congr 2
    rw [decide_eq_decide]; omega
  · rw [scan_any]
    congr 1
    by_cases hall : ∀ a ∈ l, OkA a
    · rw [if_neg (by simp; exact fun a b c d e h => hall _ h)]
      simp only [Option.getD_none]
      rw [decide_eq_decide]
      exact ⟨fun h => ⟨hall, h⟩, fun h => h.2⟩
    · rw [if_pos (by simp only [List.any_eq_true, Bool.not_eq_true', decide_eq_false_iff_not]; simpa using hall), decide_eq_false (p := (∀ a ∈ l, OkA a) ∧ l.length ≤ 40) (fun h => hall h.1)]; rfl
set_option maxRecDepth 100000
theorem small_true : ladinglaw02_small = some true := by
  unfold ladinglaw02_small disk_New
  rw [bind_in]
  obtain ⟨A0, hA0⟩ : ∃ A, newA = A := ⟨_, rfl⟩
  obtain ⟨p1, q1, s1, h1, r1⟩ := Write_eq (f := 0) (at_ := 0) (s := [97, 98, 99]) rd_new ia_new (by decide)
  have i1 := ia_Write (f := 0) (at_ := 0) (s := [97, 98, 99]) ia_new (by decide)
  refine (congrArg (fun z => Option.bind z _) h1).trans ?_
  rw [bind_in]
  dsimp only
  obtain ⟨p2, q2, s2, h2, r2⟩ := Sync_eq (f := 0) r1 i1
  have i2 := ia_sync (f := 0) i1
  rw [h2, bind_in]
  dsimp only
  obtain ⟨p3, q3, s3, h3, r3⟩ := Write_eq (f := 0) (at_ := 1) (s := [88, 89]) r2 i2 (by decide)
  have i3 := ia_Write (f := 0) (at_ := 1) (s := [88, 89]) i2 (by decide)
  rw [h3, bind_in]
  dsimp only
  rw [Copy_eq r3 i3, bind_in]
  obtain ⟨p4, q4, s4, h4, r4⟩ := crash_eq (keep := [1]) (by decide) r3 i3
  have i4 := ia_crash (keep := [1]) i3
  rw [h4, bind_in]
  dsimp only
  unfold disk_Disk_Down
  rw [bind_in, Read_eq r4 i4, bind_in]
  unfold disk_Disk_Start
  rw [bind_in]
  dsimp only
  have r5 : RD p4 q4 s4 (startA (crashA [1] (WriteA 0 1 [88, 89] (syncA 0 (WriteA 0 0 [97, 98, 99] newA).2).2).2)) := ⟨r4.files, r4.queue, r4.set⟩
  have i5 : IA (startA (crashA [1] (WriteA 0 1 [88, 89] (syncA 0 (WriteA 0 0 [97, 98, 99] newA).2).2).2)) := ⟨i4.armed, i4.lost, i4.size, i4.q, i4.nd, i4.keep⟩
  refine (congrArg (fun z => Option.bind z _) (Read_eq (f := 0) (at_ := 0) (size := 9) r5 i5)).trans ?_
  rw [bind_in]
  obtain ⟨p6, q6, s6, h6, r6⟩ := crash_eq (keep := [0]) (by decide) r3 i3
  have i6 := ia_crash (keep := [0]) i3
  rw [h6, bind_in]
  dsimp only
  rw [bind_in]
  dsimp only
  have r7 : RD p6 q6 s6 (startA (crashA [0] (WriteA 0 1 [88, 89] (syncA 0 (WriteA 0 0 [97, 98, 99] newA).2).2).2)) := ⟨r6.files, r6.queue, r6.set⟩
  have i7 : IA (startA (crashA [0] (WriteA 0 1 [88, 89] (syncA 0 (WriteA 0 0 [97, 98, 99] newA).2).2).2)) := ⟨i6.armed, i6.lost, i6.size, i6.q, i6.nd, i6.keep⟩
  refine (congrArg (fun z => Option.bind z _) (Read_eq (f := 0) (at_ := 1) (size := 9) r7 i7)).trans ?_
  rw [bind_in]
  obtain ⟨p8, q8, s8, h8, r8⟩ := Write_eq (f := 1) (at_ := 62) (s := [97, 98, 99, 100]) r7 i7 (by decide)
  have i8 := ia_Write (f := 1) (at_ := 62) (s := [97, 98, 99, 100]) i7 (by decide)
  refine (congrArg (fun z => Option.bind z _) h8).trans ?_
  rw [bind_in]
  dsimp only
  obtain ⟨p9, q9, s9, h9, r9⟩ := crash_eq (keep := [0, 1]) (by decide) r8 i8
  have i9 := ia_crash (keep := [0, 1]) i8
  rw [h9, bind_in]
  dsimp only
  rw [bind_in]
  dsimp only
  obtain ⟨A9, hA9⟩ : ∃ A9, startA (crashA [0, 1] (WriteA 1 62 [97, 98, 99, 100] (startA (crashA [0] (WriteA 0 1 [88, 89] (syncA 0 (WriteA 0 0 [97, 98, 99] newA).2).2).2))).2) = A9 := ⟨_, rfl⟩
  have r10 : RD p9 q9 s9 A9 := by rw [← hA9]; exact ⟨r9.files, r9.queue, r9.set⟩
  have i10 : IA A9 := by rw [← hA9]; exact ⟨i9.armed, i9.lost, i9.size, i9.q, i9.nd, i9.keep⟩
  have e9 : (crashA [0, 1] (WriteA 1 62 [97, 98, 99, 100] (startA (crashA [0] (WriteA 0 1 [88, 89] (syncA 0 (WriteA 0 0 [97, 98, 99] newA).2).2).2))).2).lost = A9.lost ∧ false = A9.down ∧ (crashA [0, 1] (WriteA 1 62 [97, 98, 99, 100] (startA (crashA [0] (WriteA 0 1 [88, 89] (syncA 0 (WriteA 0 0 [97, 98, 99] newA).2).2).2))).2).armed = A9.armed ∧ (crashA [0, 1] (WriteA 1 62 [97, 98, 99, 100] (startA (crashA [0] (WriteA 0 1 [88, 89] (syncA 0 (WriteA 0 0 [97, 98, 99] newA).2).2).2))).2).keep = A9.keep := by rw [← hA9]; exact ⟨rfl, rfl, rfl, rfl⟩
  rw [e9.1, e9.2.1, e9.2.2.1, e9.2.2.2, Read_eq r10 i10, bind_in]
  have step : ∀ (x : Bool), x = true → ladinglaw02_small.j1 (A9.lost, A9.down, A9.armed, A9.keep, p9, q9, s9) (readA 1 60 100 A9) x = some true := by
    rintro x rfl
    unfold ladinglaw02_small.j1
    rw [cond_true]
    have e1 : decide ((readA 1 60 100 A9).1 = ([0, 0, 0, 0, 99, 100] : Bs)) = true := by rw [← hA9]; kernel_rfl
    have e2 : eqZ (readA 1 60 100 A9).2 0 = true := by rw [← hA9]; kernel_rfl
    rw [e1, cond_true, e2, cond_true]
    dsimp only
    rw [Size_eq 1 r10, bind_in]
    have e3 : eqZ (((A9.fs 1).1.length : Nat) : Int) 66 = true := by rw [← hA9]; kernel_rfl
    rw [e3, cond_true]
    obtain ⟨p11, q11, s11, h11, r11⟩ := Write_eq (f := 16) (at_ := 0) (s := []) r10 i10 (by decide)
    have i11 := ia_Write (f := 16) (at_ := 0) (s := []) i10 (by decide)
    rw [h11, bind_in]
    dsimp only
    have e4 : eqZ (WriteA 16 0 [] A9).1 1 = true := by rw [← hA9]; kernel_rfl
    rw [e4, cond_true]
    obtain ⟨p12, q12, s12, h12, r12⟩ := Write_eq (f := 1) (at_ := 16777216) (s := [97]) r11 i11 (by decide)
    rw [h12, bind_in]
    dsimp only
    have e5 : eqZ (WriteA 1 16777216 [97] (WriteA 16 0 [] A9).2).1 6 = true := by rw [← hA9]; kernel_rfl
    rw [e5]
  have fin : ∀ b : Option Bool, b = some true → (b.bind fun x => ladinglaw02_small.j1 (A9.lost, A9.down, A9.armed, A9.keep, p9, q9, s9) (readA 1 60 100 A9) x) = some true := by
    rintro b rfl
    rw [bind_in]
    exact step true rfl
  exact fin _ (by kernel_rfl)
end Go.Proofs.Ytanpfcdbfdkclaa
