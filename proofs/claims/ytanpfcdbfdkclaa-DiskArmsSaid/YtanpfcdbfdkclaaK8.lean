/-
  Layer 02 (disk): DiskReads, DiskSurvives, DiskSynced, DiskArms.
-/
import Derived.Test.YtanpfcdbfdkclaaK3
namespace Go.Proofs.Ytanpfcdbfdkclaa
open Go.Lad
set_option linter.unusedVariables false
set_option linter.unusedSimpArgs false
theorem ends_zero {A : DA} (h : A.armed = 0) : endsA A = (false, A) := by unfold endsA; rw [if_pos (.inr h)]
theorem ends_down {A : DA} (h : A.down = true) : endsA A = (false, A) := by unfold endsA; rw [if_pos (.inl h)]
theorem comes_zero {A : DA} (h : A.armed = 0) : comesA A = A := by unfold comesA; rw [ends_zero h, if_neg (by simp)]
theorem comes_down {A : DA} (h : A.down = true) : comesA A = A := by unfold comesA; rw [ends_down h, if_neg (by simp)]
theorem Write_zero {A : DA} {f at_ : Int} {s : Bs} (h : A.armed = 0) : WriteA f at_ s A = writeA f at_ s A := by unfold WriteA; rw [ends_zero h, if_neg (by simp)]
theorem may_ok {A : DA} {f : Int} (h : A.down = false) (h1 : 0 ≤ f) (h2 : f < 16) : mayA A f = 0 := by unfold mayA; rw [if_neg (by simp [h]), if_neg (by omega)]
theorem may_no {A : DA} {f : Int} (h : A.down = true ∨ f < 0 ∨ 15 < f) : mayA A f ≠ 0 := by
  unfold mayA
  by_cases hd : A.down = true
  · rw [if_pos hd]; omega
  · rw [if_neg hd, if_pos (by rcases h with h | h | h; exact absurd h hd; exact .inl h; exact .inr (by omega))]; omega
theorem read_ok {A : DA} {f at_ size : Int} (h : mayA A f = 0) (h1 : 0 ≤ at_) (h2 : 0 ≤ size) : readA f at_ size A = ((((A.fs f).1.drop at_.toNat).take size.toNat), 0) := by unfold readA; rw [if_neg (fun h2 => h2 h), if_neg (by omega)]
theorem write_ok {A : DA} {f : Int} {a : Nat} {s : Bs} (h : mayA A f = 0) (h1 : a + s.length ≤ 16777216) : writeA f (a : Int) s A = (0, addA f a s A) := by
  unfold writeA
  have : fitsA (a : Int) s = 0 := by unfold fitsA; rw [if_neg (by omega), if_neg (by omega)]
  rw [if_neg (fun h2 => h2 h), if_neg (fun h2 => h2 this)]; rfl
theorem setFs_self (fs : Int → Bs × Bs) (f : Int) (x : Bs × Bs) : setFs fs f x f = x := if_pos rfl
theorem add_now (f : Int) (a : Nat) (s : Bs) (A : DA) : ((addA f a s A).fs f).1 = putF (A.fs f).1 a s := by
  unfold addA
  split
  · rename_i h; rw [h, putF_nil]
  · show (setFs _ _ _ f).1 = _
    rw [setFs_self]
theorem add_scal (f : Int) (a : Nat) (s : Bs) (A : DA) : (addA f a s A).down = A.down ∧ (addA f a s A).armed = A.armed ∧ (addA f a s A).lost = A.lost ∧ (addA f a s A).keep = A.keep := by unfold addA; split <;> exact ⟨rfl, rfl, rfl, rfl⟩
theorem put_read (x : Bs) (a : Nat) (s : Bs) : ((putF x a s).drop a).take s.length = s := by
  by_cases hs : s = []
  · rw [hs]; rfl
  · apply List.ext_getElem
    · rw [List.length_take, List.length_drop, putF_len hs]; omega
    · intro i h1 h2
      rw [List.getElem_take, List.getElem_drop]
      have h3 : a + i < (putF x a s).length := by rw [putF_len hs]; omega
      have h4 := putF_get (s := x) (a := a) hs (a + i)
      rw [List.getD_eq_getElem?_getD, List.getElem?_eq_getElem h3, Option.getD_some, if_pos (by omega), show a + i - a = i by omega, List.getD_eq_getElem?_getD, List.getElem?_eq_getElem h2] at h4
      exact h4
theorem crashFs_nil : ∀ (l : List (Int × Int)) (i : Nat) (fs : Int → Bs × Bs), crashFs [] i fs l = fs
  | [], _, _ => rfl
  | x :: l, i, fs => by
    have : keptB [] i = false := rfl
    show crashFs [] (i + 1) (if keptB [] i = true then survA fs x else fs) l = fs
    rw [this, if_neg (by simp)]
    exact crashFs_nil l (i + 1) fs
theorem crash_fs {keep : List Int} {A : DA} (h : A.down = false) (f : Int) : (crashA keep A).fs f = ((crashFs keep 0 A.fs A.q f).2, (crashFs keep 0 A.fs A.q f).2) := by unfold crashA; rw [if_neg (by simp [h])]
theorem crash_up {keep : List Int} {A : DA} (h : A.down = false) : (crashA keep A).down = true ∧ (crashA keep A).lost = A.lost ∧ (crashA keep A).armed = 0 ∧ (crashA keep A).q = [] := by unfold crashA; rw [if_neg (by simp [h])]; exact ⟨rfl, rfl, rfl, rfl⟩
theorem part_eq (x : Bs) (a z : Nat) : (x.drop a).take z = (x.take (min a x.length + min z (x.length - min a x.length))).drop (min a x.length) := by
  by_cases h : a ≤ x.length
  · rw [Nat.min_eq_left h, List.drop_take, List.take_eq_take_iff, List.length_drop]
    omega
  · rw [Nat.min_eq_right (by omega), List.drop_of_length_le (by omega), List.drop_of_length_le (by rw [List.length_take]; omega), List.take_nil]
/-- behind the examples and the bounds -/
theorem head_by {b : Bool} {x : Option Bool} {J : Bool → Option Bool} (hx : x = some b) (h1 : b = true → J true = some true) (h2 : b = false → J false = some true) : (x.bind fun y => J y) = some true := by
  subst hx
  rw [bind_in]
  cases b with
  | true => exact h1 rfl
  | false => exact h2 rfl
theorem few_in {l : List GAct} (h : decide ((∀ a ∈ l, OkA a) ∧ l.length ≤ 40) = true) (hi : ∀ a ∈ l, InA a) : (∀ a ∈ l, OkA a ∧ InA a) ∧ l.length ≤ 40 := by
  rw [decide_eq_true_eq] at h
  exact ⟨fun a ha => ⟨h.1 a ha, hi a ha⟩, h.2⟩
theorem reads_true (l : List GAct) (f at_ : Int) (s : Bs) (size : Int) (hl : l.length ≤ 9223372036854775807) (hi : ∀ a ∈ l, InA a) : ladinglaw02_DiskReads l f at_ s size = some true := by
  unfold ladinglaw02_DiskReads
  rw [small_true, bind_in, few_eq hl, bind_in, bif_not]
  refine head_by (b := !(decide ((∀ a ∈ l, OkA a) ∧ l.length ≤ 40) && decide (s.length ≤ 300 ∧ 0 ≤ at_ ∧ at_ ≤ 3000 ∧ 0 ≤ size))) ?_ ?_ ?_
  · cases decide ((∀ a ∈ l, OkA a) ∧ l.length ≤ 40) with
    | false => rfl
    | true =>
      simp only [cond_true, bif_ltZ, Bool.true_and]
      by_cases h1 : s.length ≤ 300
      · rw [if_neg (by omega)]
        by_cases h2 : 0 ≤ at_
        · rw [if_neg (by omega)]
          by_cases h3 : at_ ≤ 3000
          · rw [if_neg (by omega)]
            rw [ltZ_eq]; by_cases h4 : 0 ≤ size <;> simp [h1, h2, h3, h4] <;> omega
          · rw [if_pos (by omega)]; simp [h3]
        · rw [if_pos (by omega)]; simp [h2]
      · rw [if_pos (by omega)]; simp [h1]
  · intro _; rfl
  intro hb
  have hb : (decide ((∀ a ∈ l, OkA a) ∧ l.length ≤ 40) && decide (s.length ≤ 300 ∧ 0 ≤ at_ ∧ at_ ≤ 3000 ∧ 0 ≤ size)) = true := by simpa using hb
  rw [Bool.and_eq_true] at hb
  obtain ⟨hok, h40⟩ := few_in hb.1 hi
  obtain ⟨hs, h1, h2, h3⟩ := of_decide_eq_true hb.2
  obtain ⟨p, q, st, hp, hR⟩ := played_eq hok (by omega)
  have hI : IA (playA l newA) := ia_play hok ia_new
  generalize playA l newA = A at hp hR hI
  unfold ladinglaw02_DiskReads.j3
  rw [cond_false, hp, bind_in]
  dsimp only
  rw [Arm_eq (by simp), bind_in]
  dsimp only
  obtain ⟨A1, hA1⟩ : ∃ A1, armA 0 [] A = A1 := ⟨_, rfl⟩
  have e1 : A.lost = A1.lost ∧ A.down = A1.down ∧ max (0 : Int) 0 = A1.armed ∧ ([] : List Int) = A1.keep := by rw [← hA1]; exact ⟨rfl, rfl, rfl, rfl⟩
  have hR1 : RD p q st A1 := by rw [← hA1]; exact ⟨hR.files, hR.queue, hR.set⟩
  have hI1 : IA A1 := by rw [← hA1]; exact ⟨⟨by simp [armA], by simp [armA]⟩, hI.lost, hI.size, hI.q, hI.nd, by simp [armA]⟩
  have ha1 : A1.armed = 0 := by rw [← e1.2.2.1]; simp
  rw [e1.1, e1.2.1, e1.2.2.1, e1.2.2.2]
  obtain ⟨a, rfl⟩ := Int.eq_ofNat_of_zero_le h1
  obtain ⟨z, rfl⟩ := Int.eq_ofNat_of_zero_le h3
  refine head_by (b := decide (A1.down = true ∨ f < 0 ∨ 15 < f)) ?_ ?_ ?_
  · unfold disk_Disk_Down
    rw [bind_in, bif_ltZ, ltZ_eq]
    cases A1.down with
    | true => simp
    | false => by_cases h : f < 0 <;> simp [h]
  · intro hd
    have hd := of_decide_eq_true hd
    unfold ladinglaw02_DiskReads.j2
    rw [cond_true, cond_true]
    obtain ⟨p2, q2, s2, h4, r2⟩ := Write_eq (f := f) (at_ := (a : Int)) (s := s) hR1 hI1 hs
    dsimp only
    rw [h4, bind_in]
    dsimp only
    have : (WriteA f (a : Int) s A1).1 ≠ 0 := by
      rw [Write_zero ha1]
      unfold writeA
      rw [if_pos (may_no hd)]
      exact may_no hd
    rw [eqZ_eq, decide_eq_false this]; rfl
  intro hd
  have hd := of_decide_eq_false hd
  have hd1 : A1.down = false := by cases h : A1.down with | false => rfl | true => exact absurd (.inl h) hd
  have hm1 : mayA A1 f = 0 := may_ok hd1 (by omega) (by omega)
  obtain ⟨p2, q2, s2, h4, r2⟩ := Write_eq (f := f) (at_ := (a : Int)) (s := s) hR1 hI1 hs
  have i2 := ia_Write (f := f) (at_ := (a : Int)) hI1 hs
  have hW : WriteA f (a : Int) s A1 = (0, addA f a s A1) := by rw [Write_zero ha1, write_ok hm1 (by omega)]
  rw [hW] at h4 r2 i2
  dsimp only at h4 r2 i2
  unfold ladinglaw02_DiskReads.j2
  rw [cond_false]
  dsimp only
  rw [h4, bind_in]
  dsimp only
  obtain ⟨hB1, hB2, hB3, hB4⟩ := add_scal f a s A1
  have hnow := add_now f a s A1
  generalize addA f a s A1 = B at hW h4 r2 i2 hB1 hB2 hB3 hB4 hnow
  have hmB : mayA B f = 0 := may_ok (hB1.trans hd1) (by omega) (by omega)
  have hbl := (i2.size f).1
  obtain ⟨x, hx⟩ : ∃ x, (B.fs f).1 = x := ⟨_, rfl⟩
  rw [hx] at hbl hnow
  rw [Read_eq r2 i2, bind_in, Size_eq f r2, bind_in, Read_eq r2 i2, bind_in, Read_eq r2 i2, bind_in, read_ok hmB (by omega) (by omega), read_ok hmB (by omega) (by omega), read_ok hmB (by omega) (by omega), hx]
  dsimp only
  have e2 : (x.drop (a : Int).toNat).take (s.length : Int).toNat = s := by rw [Int.toNat_natCast, Int.toNat_natCast, hnow]; exact put_read _ _ _
  have e3 : (x.drop (0 : Int).toNat).take (x.length : Int).toNat = x := by rw [Int.toNat_natCast]; show (x.drop 0).take x.length = x; rw [List.drop_zero, List.take_length]
  rw [e2, e3]
  refine head_by (b := false) ?_ (fun h => by cases h) fun _ => ?_
  · simp only [eqZ_eq, decide_true, Bool.not_true, cond_false, bind_in]
  unfold ladinglaw02_DiskReads.j1
  rw [cond_false]
  dsimp only
  have hmin : min (a : Int) (x.length : Int) = ((min a x.length : Nat) : Int) := by omega
  rw [hmin, z64_in (by omega) (by omega), bind_in]
  have hmin2 : min (z : Int) ((x.length : Int) - ((min a x.length : Nat) : Int)) = ((min z (x.length - min a x.length) : Nat) : Int) := by omega
  rw [hmin2, z64_add (by omega), bind_in, cut_in (by omega) (by omega) (by omega), bind_in]
  have e4 : decide ((x.drop (a : Int).toNat).take (z : Int).toNat = (x.take ((min a x.length + min z (x.length - min a x.length) : Nat) : Int).toNat).drop ((min a x.length : Nat) : Int).toNat) = true := decide_eq_true (part_eq x a z)
  rw [e4, Bool.not_true, cond_false]
  obtain ⟨p3, q3, s3, h5, r3⟩ := Trunc_eq (f := f) (size := ((min a x.length : Nat) : Int)) r2 i2
  have i3 := ia_trunc (f := f) (size := ((min a x.length : Nat) : Int)) i2
  have hT : truncA f ((min a x.length : Nat) : Int) B = (0, settleA f (x.take (min a x.length)) B) := by
    unfold truncA
    rw [comes_zero (hB2.trans ha1), if_neg (fun h => h hmB), hx, if_neg (by omega)]; rfl
  rw [hT] at h5 r3 i3
  dsimp only at h5 r3 i3
  rw [h5, bind_in]
  dsimp only
  have hC : (settleA f (x.take (min a x.length)) B).down = false := hB1.trans hd1
  have hCf : (settleA f (x.take (min a x.length)) B).fs f = (x.take (min a x.length), x.take (min a x.length)) := setFs_self _ _ _
  obtain ⟨p6, q6, s6, h6, r6⟩ := crash_eq (keep := []) (by simp) r3 i3
  have i6 := ia_crash (keep := []) i3
  rw [h6, bind_in]
  unfold disk_Disk_Start
  dsimp only
  rw [bind_in]
  have r7 : RD p6 q6 s6 (startA (crashA [] (settleA f (x.take (min a x.length)) B))) := ⟨r6.files, r6.queue, r6.set⟩
  have i7 : IA (startA (crashA [] (settleA f (x.take (min a x.length)) B))) := ⟨i6.armed, i6.lost, i6.size, i6.q, i6.nd, i6.keep⟩
  refine (congrArg (fun z => Option.bind z _) (Read_eq (f := f) (at_ := 0) (size := 16777216) r7 i7)).trans ?_
  rw [bind_in, read_ok (may_ok rfl (by omega) (by omega)) (by omega) (by omega)]
  have e7 : ((startA (crashA [] (settleA f (x.take (min a x.length)) B))).fs f).1 = x.take (min a x.length) := by
    show ((crashA [] (settleA f (x.take (min a x.length)) B)).fs f).1 = _
    rw [crash_fs hC, crashFs_nil, hCf]
  rw [e7, cond_true, show eqZ (0 : Int) 0 = true from rfl, cond_true, cond_true, cut_in (by omega) (by omega) (by omega), bind_in]
  congr 1
  refine decide_eq_true ?_
  show ((x.take (min a x.length)).drop 0).take 16777216 = (x.take (min a x.length)).drop 0
  rw [List.drop_zero, List.take_of_length_le (by rw [List.length_take]; omega)]
/-! ### what differs from the durable part is pending -/
structure JA (A : DA) : Prop where
  diff : ∀ (f : Int) (i : Nat), (f, ((i / 64 : Nat) : Int)) ∉ A.q → (A.fs f).1.getD i 0 = (A.fs f).2.getD i 0
  len : ∀ f, (A.fs f).2.length ≤ (A.fs f).1.length
  ext : ∀ f, (A.fs f).2.length < (A.fs f).1.length → (f, ((((A.fs f).1.length - 1) / 64 : Nat) : Int)) ∈ A.q
section
variable {A B : DA}
theorem JA.of (h : JA A) (h1 : B.fs = A.fs) (h2 : B.q = A.q) : JA B := by
  obtain ⟨a, b, c⟩ := h
  exact ⟨by rw [h1, h2]; exact a, by rw [h1]; exact b, by rw [h1, h2]; exact c⟩
theorem ja_new : JA newA := ⟨fun _ _ _ => rfl, fun _ => Nat.le_refl _, fun _ h => absurd h (Nat.lt_irrefl _)⟩
theorem ja_ends (h : JA A) : JA (endsA A).2 := by
  unfold endsA
  split
  · exact h
  · exact h.of rfl rfl
theorem ja_add {f : Int} {a : Nat} {s : Bs} (h : JA A) : JA (addA f a s A) := by
  unfold addA
  split
  · exact h
  · rename_i hs
    have hn : 0 < s.length := List.length_pos_iff.2 hs
    have hin : ∀ x, x ∈ A.q → x ∈ addQ A.q (secs f a s.length) := fun x hx => (addQ_mem _ _ _).2 (.inl hx)
    refine ⟨fun g i hi => ?_, fun g => ?_, fun g hg => ?_⟩
    · show (setFs A.fs f _ g).1.getD i 0 = (setFs A.fs f _ g).2.getD i 0
      have h1 : (g, ((i / 64 : Nat) : Int)) ∉ A.q := fun hx => hi (hin _ hx)
      unfold setFs
      by_cases hg : g = f
      · subst hg
        rw [if_pos rfl, putF_get hs, if_neg, h.diff g i h1]
        intro h2
        exact hi ((addQ_mem _ _ _).2 (.inr ((secs_mem hn).2 ⟨rfl, by show ((a / 64 : Nat) : Int) ≤ ((i / 64 : Nat) : Int); omega, by show ((i / 64 : Nat) : Int) ≤ _; omega⟩)))
      · rw [if_neg hg]; exact h.diff g i h1
    · show (setFs A.fs f _ g).2.length ≤ (setFs A.fs f _ g).1.length
      unfold setFs
      by_cases hg : g = f
      · rw [if_pos hg]
        dsimp only
        rw [putF_len hs]
        have := h.len f
        omega
      · rw [if_neg hg]; exact h.len g
    · have hg : (setFs A.fs f (putF (A.fs f).1 a s, (A.fs f).2) g).2.length < (setFs A.fs f (putF (A.fs f).1 a s, (A.fs f).2) g).1.length := hg
      show (g, ((((setFs A.fs f (putF (A.fs f).1 a s, (A.fs f).2) g).1.length - 1) / 64 : Nat) : Int)) ∈ addQ A.q (secs f a s.length)
      unfold setFs at hg ⊢
      by_cases hgf : g = f
      · subst hgf
        rw [if_pos rfl] at hg ⊢
        dsimp only at hg ⊢
        rw [putF_len hs] at hg ⊢
        by_cases h2 : (A.fs g).1.length ≤ a + s.length
        · rw [Nat.max_eq_right h2]
          exact (addQ_mem _ _ _).2 (.inr ((secs_mem hn).2 ⟨rfl, by show ((a / 64 : Nat) : Int) ≤ (((a + s.length - 1) / 64 : Nat) : Int); omega, Int.le_refl _⟩))
        · rw [Nat.max_eq_left (by omega)] at hg ⊢
          exact hin _ (h.ext g hg)
      · rw [if_neg hgf] at hg ⊢
        exact hin _ (h.ext g hg)
theorem ja_write {f at_ : Int} {s : Bs} (h : JA A) : JA (writeA f at_ s A).2 := by
  unfold writeA
  split
  · exact h
  · split
    · exact h
    · exact ja_add h
theorem ja_crash {keep : List Int} (h : JA A) : JA (crashA keep A) := by
  unfold crashA
  split
  · exact h
  · exact ⟨fun _ _ _ => rfl, fun _ => Nat.le_refl _, fun _ h => absurd h (Nat.lt_irrefl _)⟩
theorem ja_settle {f : Int} {s : Bs} (h : JA A) : JA (settleA f s A) := by
  have hin : ∀ (g : Int) (n : Int), g ≠ f → ((g, n) ∈ (settleA f s A).q ↔ (g, n) ∈ A.q) := fun g n hg => by
    show (g, n) ∈ A.q.filter (fun x => decide (KeepS f x)) ↔ _
    rw [List.mem_filter]
    exact ⟨fun h => h.1, fun h => ⟨h, decide_eq_true hg⟩⟩
  refine ⟨fun g i hi => ?_, fun g => ?_, fun g hg => ?_⟩
  · show (setFs A.fs f _ g).1.getD i 0 = (setFs A.fs f _ g).2.getD i 0
    unfold setFs
    by_cases hgf : g = f
    · rw [if_pos hgf]
    · rw [if_neg hgf]
      rw [hin g _ hgf] at hi
      exact h.diff g i hi
  · show (setFs A.fs f _ g).2.length ≤ (setFs A.fs f _ g).1.length
    unfold setFs
    split
    · exact Nat.le_refl _
    · exact h.len g
  · have hg : (setFs A.fs f (s, s) g).2.length < (setFs A.fs f (s, s) g).1.length := hg
    show (g, ((((setFs A.fs f (s, s) g).1.length - 1) / 64 : Nat) : Int)) ∈ (settleA f s A).q
    unfold setFs at hg ⊢
    by_cases hgf : g = f
    · rw [if_pos hgf] at hg; exact absurd hg (Nat.lt_irrefl _)
    · rw [if_neg hgf] at hg ⊢
      rw [hin g _ hgf]
      exact h.ext g hg
theorem ja_comes (h : JA A) : JA (comesA A) := by
  unfold comesA
  split
  · exact ja_crash (ja_ends h)
  · exact ja_ends h
theorem ja_do {a : GAct} (h : JA A) : JA (doA a A).2 := by
  have h1 := ja_comes h
  unfold doA
  split
  · unfold syncA
    split
    · exact h1
    · split
      · exact h1.of rfl rfl
      · exact ja_settle h1
  split
  · unfold truncA
    split
    · exact h1
    · split
      · exact h1
      · exact ja_settle h1
  split
  · exact h.of rfl rfl
  split
  · exact h.of rfl rfl
  split
  · exact ja_crash h
  split
  · exact h.of rfl rfl
  · unfold WriteA
    split
    · exact ja_crash (ja_write (ja_ends h))
    · exact ja_write (ja_ends h)
theorem ja_play : ∀ {l : List GAct} {A : DA}, JA A → JA (playA l A)
  | [], _, h => h
  | _ :: l, _, h => ja_play (l := l) (ja_do h)
end
/-! ### sectors that survive -/
def keptL (keep : List Int) : Nat → List (Int × Int) → List (Int × Int)
  | _, [] => []
  | i, x :: r => if keptB keep i = true then x :: keptL keep (i + 1) r else keptL keep (i + 1) r
theorem crash_kept (keep : List Int) : ∀ (l : List (Int × Int)) (i : Nat) (fs : Int → Bs × Bs), crashFs keep i fs l = (keptL keep i l).foldl survA fs
  | [], _, _ => rfl
  | x :: l, i, fs => by
    show crashFs keep (i + 1) _ l = _
    unfold keptL
    rw [crash_kept keep l]
    split <;> rfl
theorem kept_sub (keep : List Int) : ∀ (l : List (Int × Int)) (i : Nat) (x : Int × Int), x ∈ keptL keep i l → x ∈ l
  | [], _, _, h => h
  | y :: l, i, x, h => by
    unfold keptL at h
    split at h
    · rcases List.mem_cons.1 h with h | h
      · exact List.mem_cons.2 (.inl h)
      · exact List.mem_cons_of_mem _ (kept_sub keep l (i + 1) x h)
    · exact List.mem_cons_of_mem _ (kept_sub keep l (i + 1) x h)
theorem kept_one : ∀ (l : List (Int × Int)) (i : Nat), keptL [1] i l = l
  | [], _ => rfl
  | x :: l, i => by
    have h : keptB [1] i = true := by
      unfold keptB
      rw [List.length_singleton, Nat.mod_one]
      rfl
    unfold keptL
    rw [h, if_pos rfl, kept_one l]
theorem chunk_get (x : Bs) (n i : Nat) (h : n * 64 ≤ i ∧ i < min (n * 64 + 64) x.length) : (chunkF x n).getD (i - n * 64) 0 = x.getD i 0 := by
  unfold chunkF
  rw [List.getD_eq_getElem?_getD, List.getD_eq_getElem?_getD, List.getElem?_drop, List.getElem?_take, if_pos (by omega), show n * 64 + (i - n * 64) = i by omega]
theorem surv_one (fs : Int → Bs × Bs) (x : Int × Int) (hx : 0 ≤ x.2) (f : Int) : (survA fs x f).1 = (fs f).1 ∧ (∀ i, (survA fs x f).2.getD i 0 = if (f, ((i / 64 : Nat) : Int)) = x ∧ i < (fs f).1.length then (fs f).1.getD i 0 else (fs f).2.getD i 0) ∧
    (fs f).2.length ≤ (survA fs x f).2.length ∧ (survA fs x f).2.length ≤ max (fs f).2.length (fs f).1.length ∧ ∀ n : Nat, (f, (n : Int)) = x → n * 64 < (fs f).1.length → min (n * 64 + 64) (fs f).1.length ≤ (survA fs x f).2.length := by
  obtain ⟨g, m0⟩ := x
  obtain ⟨m, rfl⟩ := Int.eq_ofNat_of_zero_le hx
  unfold survA
  show ((if m * 64 < (fs g).1.length then setFs fs g ((fs g).1, putF (fs g).2 (m * 64) (chunkF (fs g).1 m)) else fs) f).1 = _ ∧ (∀ i, ((if m * 64 < (fs g).1.length then setFs fs g ((fs g).1, putF (fs g).2 (m * 64) (chunkF (fs g).1 m)) else fs) f).2.getD i 0 = _) ∧
    _ ≤ ((if m * 64 < (fs g).1.length then setFs fs g ((fs g).1, putF (fs g).2 (m * 64) (chunkF (fs g).1 m)) else fs) f).2.length ∧ ((if m * 64 < (fs g).1.length then setFs fs g ((fs g).1, putF (fs g).2 (m * 64) (chunkF (fs g).1 m)) else fs) f).2.length ≤ _ ∧
    ∀ n : Nat, _ → _ → _ ≤ ((if m * 64 < (fs g).1.length then setFs fs g ((fs g).1, putF (fs g).2 (m * 64) (chunkF (fs g).1 m)) else fs) f).2.length
  by_cases hm : m * 64 < (fs g).1.length
  · rw [if_pos hm]
    have hcl : (chunkF (fs g).1 m).length = min (m * 64 + 64) (fs g).1.length - m * 64 := by unfold chunkF; rw [List.length_drop, List.length_take]; omega
    have hc : chunkF (fs g).1 m ≠ [] := fun h => by rw [h] at hcl; simp at hcl; omega
    unfold setFs
    by_cases hf : f = g
    · subst hf
      rw [if_pos rfl]
      refine ⟨rfl, fun i => ?_, ?_, ?_, fun n hn hlt => ?_⟩
      · dsimp only
        rw [putF_get hc, hcl]
        by_cases hi : i / 64 = m ∧ i < (fs f).1.length
        · rw [if_pos (by omega), if_pos ⟨by rw [hi.1], hi.2⟩]
          exact chunk_get _ _ _ (by omega)
        · rw [if_neg (by omega), if_neg]
          rintro ⟨h1, h2⟩
          rw [Prod.mk.injEq] at h1
          exact hi ⟨by omega, h2⟩
      · dsimp only; rw [putF_len hc]; omega
      · dsimp only; rw [putF_len hc, hcl]; omega
      · dsimp only
        rw [Prod.mk.injEq] at hn
        rw [putF_len hc, hcl]; omega
    · rw [if_neg hf]
      refine ⟨rfl, fun i => ?_, Nat.le_refl _, by omega, fun n hn _ => ?_⟩
      · rw [if_neg]; rintro ⟨h1, _⟩; rw [Prod.mk.injEq] at h1; exact hf h1.1
      · rw [Prod.mk.injEq] at hn; exact absurd hn.1 hf
  · rw [if_neg hm]
    refine ⟨rfl, fun i => ?_, Nat.le_refl _, by omega, fun n hn hlt => ?_⟩
    · rw [if_neg]
      rintro ⟨h1, h2⟩
      rw [Prod.mk.injEq] at h1
      rw [← h1.1] at hm
      omega
    · rw [Prod.mk.injEq] at hn
      rw [← hn.1] at hm
      omega
theorem surv_fold : ∀ (xs : List (Int × Int)), (∀ x ∈ xs, 0 ≤ x.2) → ∀ (fs : Int → Bs × Bs) (f : Int), (xs.foldl survA fs f).1 = (fs f).1 ∧ (∀ i, (xs.foldl survA fs f).2.getD i 0 = if (f, ((i / 64 : Nat) : Int)) ∈ xs ∧ i < (fs f).1.length then (fs f).1.getD i 0 else (fs f).2.getD i 0) ∧
    (fs f).2.length ≤ (xs.foldl survA fs f).2.length ∧ (xs.foldl survA fs f).2.length ≤ max (fs f).2.length (fs f).1.length ∧ ∀ n : Nat, (f, (n : Int)) ∈ xs → n * 64 < (fs f).1.length → min (n * 64 + 64) (fs f).1.length ≤ (xs.foldl survA fs f).2.length
  | [], _, fs, f => ⟨rfl, fun i => by rw [if_neg (fun h => nomatch h.1)]; rfl, Nat.le_refl _, Nat.le_max_left .., fun n h => nomatch h⟩
  | x :: xs, hx, fs, f => by
    obtain ⟨a1, a2, a3, a4, a5⟩ := surv_one fs x (hx x List.mem_cons_self) f
    obtain ⟨b1, b2, b3, b4, b5⟩ := surv_fold xs (fun y hy => hx y (List.mem_cons_of_mem _ hy)) (survA fs x) f
    rw [a1] at b1 b2 b4 b5
    show ((xs.foldl survA (survA fs x)) f).1 = _ ∧ (∀ i, ((xs.foldl survA (survA fs x)) f).2.getD i 0 = _) ∧ _ ≤ ((xs.foldl survA (survA fs x)) f).2.length ∧ ((xs.foldl survA (survA fs x)) f).2.length ≤ _ ∧ ∀ n : Nat, _ → _ → _ ≤ ((xs.foldl survA (survA fs x)) f).2.length
    refine ⟨b1, fun i => ?_, by omega, by omega, fun n hn hlt => ?_⟩
    · rw [b2 i, a2 i]
      by_cases h1 : (f, ((i / 64 : Nat) : Int)) ∈ xs ∧ i < (fs f).1.length
      · rw [if_pos h1, if_pos ⟨List.mem_cons_of_mem _ h1.1, h1.2⟩]
      · rw [if_neg h1]
        by_cases h2 : (f, ((i / 64 : Nat) : Int)) = x ∧ i < (fs f).1.length
        · rw [if_pos h2, if_pos ⟨List.mem_cons.2 (.inl h2.1), h2.2⟩]
        · rw [if_neg h2, if_neg]
          rintro ⟨h3, h4⟩
          rcases List.mem_cons.1 h3 with h3 | h3
          · exact h2 ⟨h3, h4⟩
          · exact h1 ⟨h3, h4⟩
    · rcases List.mem_cons.1 hn with hn | hn
      · have := a5 n hn hlt; omega
      · exact b5 n hn hlt
/-- a file behind a crash -/
def lastA (keep : List Int) (A : DA) (f : Int) : Bs := (crashFs keep 0 A.fs A.q f).2
theorem last_none (A : DA) (f : Int) : lastA [] A f = (A.fs f).2 := by unfold lastA; rw [crashFs_nil]
theorem eq_of_getD {x y : Bs} (hl : x.length = y.length) (h : ∀ i, x.getD i 0 = y.getD i 0) : x = y := by
  apply List.ext_getElem hl
  intro i h1 h2
  have := h i
  rw [List.getD_eq_getElem?_getD, List.getD_eq_getElem?_getD, List.getElem?_eq_getElem h1, List.getElem?_eq_getElem h2] at this
  exact this
theorem last_all {A : DA} (hI : IA A) (hJ : JA A) (f : Int) : lastA [1] A f = (A.fs f).1 := by
  unfold lastA
  rw [crash_kept, kept_one]
  obtain ⟨_, b2, b3, b4, b5⟩ := surv_fold A.q (fun x hx => (hI.q x hx).2.1) A.fs f
  have hl := hJ.len f
  refine eq_of_getD ?_ fun i => ?_
  · by_cases h : (A.fs f).2.length < (A.fs f).1.length
    · have := b5 _ (hJ.ext f h) (by omega)
      omega
    · omega
  · rw [b2 i]
    by_cases h1 : (f, ((i / 64 : Nat) : Int)) ∈ A.q ∧ i < (A.fs f).1.length
    · rw [if_pos h1]
    · rw [if_neg h1]
      by_cases h2 : i < (A.fs f).1.length
      · exact (hJ.diff f i fun h => h1 ⟨h, h2⟩).symm
      · rw [List.getD_eq_getElem?_getD, List.getD_eq_getElem?_getD, List.getElem?_eq_none (by omega), List.getElem?_eq_none (by omega)]
theorem last_some {A : DA} (hI : IA A) (hJ : JA A) (keep : List Int) (f : Int) : (A.fs f).2.length ≤ (lastA keep A f).length ∧ (lastA keep A f).length ≤ (A.fs f).1.length ∧
    ∀ n : Nat, (∀ i, i / 64 = n → i < (lastA keep A f).length → (lastA keep A f).getD i 0 = (A.fs f).1.getD i 0) ∨ (∀ i, i / 64 = n → i < (lastA keep A f).length → (lastA keep A f).getD i 0 = (A.fs f).2.getD i 0) := by
  unfold lastA
  rw [crash_kept]
  obtain ⟨_, b2, b3, b4, b5⟩ := surv_fold (keptL keep 0 A.q) (fun x hx => (hI.q x (kept_sub _ _ _ _ hx)).2.1) A.fs f
  have hl := hJ.len f
  refine ⟨b3, by omega, fun n => ?_⟩
  by_cases h : (f, (n : Int)) ∈ keptL keep 0 A.q
  · refine .inl fun i hi hlt => ?_
    rw [b2 i, if_pos ⟨by rw [hi]; exact h, by omega⟩]
  · refine .inr fun i hi _ => ?_
    rw [b2 i, if_neg (fun h2 => h (by have := h2.1; rw [hi] at this; exact this))]
section
variable {p : List (Int × (Bs × Bs))} {q : List (Int × Int)} {st : List ((Int × Int) × Bool)} {A : DA}
theorem after_eq {f : Int} {keep : List Int} (hk : keep.length ≤ 60) (hR : RD p q st A) (hI : IA A) (hd : A.down = false) (h0 : 0 ≤ f) (h1 : f < 16) : ladinglaw02_after f keep A.lost A.down A.armed A.keep p q st = some (lastA keep A f, true) := by
  unfold ladinglaw02_after
  rw [Copy_eq hR hI, bind_in]
  dsimp only
  obtain ⟨p6, q6, s6, h6, r6⟩ := crash_eq hk hR hI
  have i6 := ia_crash (keep := keep) hI
  rw [h6, bind_in]
  unfold disk_Disk_Start
  dsimp only
  rw [bind_in]
  have r7 : RD p6 q6 s6 (startA (crashA keep A)) := ⟨r6.files, r6.queue, r6.set⟩
  have i7 : IA (startA (crashA keep A)) := ⟨i6.armed, i6.lost, i6.size, i6.q, i6.nd, i6.keep⟩
  refine (congrArg (fun z => Option.bind z _) (Read_eq (f := f) (at_ := 0) (size := 16777216) r7 i7)).trans ?_
  rw [bind_in, read_ok (may_ok rfl h0 h1) (by omega) (by omega)]
  have e : ((startA (crashA keep A)).fs f).1 = lastA keep A f := by
    show ((crashA keep A).fs f).1 = _
    rw [crash_fs hd]; rfl
  have hl := (i7.size f).1
  rw [e] at hl ⊢
  show some (((lastA keep A f).drop 0).take 16777216, eqZ 0 0) = _
  rw [List.drop_zero, List.take_of_length_le hl]; rfl
end
theorem bAt_at {s : Bs} {i : Nat} (h : i < s.length) : bAt s (i : Int) = some ((s.getD i 0).toNat : Int) := by
  unfold bAt
  rw [idx_nat h, List.getD_eq_getElem?_getD, List.getElem?_eq_getElem h]; rfl
theorem byteAt_eq {s : Bs} {i : Nat} : ladinglaw02_byteAt s (i : Int) = some ((s.getD i 0).toNat : Int) := by
  unfold ladinglaw02_byteAt
  rw [bif_ltZ, if_neg (by omega), bind_in]
  unfold ladinglaw02_byteAt.j1
  by_cases h : i < s.length
  · rw [leZ_eq, decide_eq_false (by omega), cond_false, bAt_at h, bind_in]
  · rw [leZ_eq, decide_eq_true (by omega), cond_true, List.getD_eq_getElem?_getD, List.getElem?_eq_none (by omega)]; rfl
section
variable {now last some_ : Bs} {n : Nat}
theorem inner_eq (hl : some_.length ≤ now.length) (hm : some_.length ≤ 16777216) (hn : n * 64 < some_.length) (c1 : Int) (c2 c3 : Bool) :
    ∃ r, loopF (fun x => ladinglaw02_DiskSurvives.b1 (now, c1) (last, c2) (some_, c3) (n : Int) x.1 x.2.1 x.2.2) (true, true, ((64 * n : Nat) : Int)) = some r ∧
      ((∀ i, i / 64 = n → i < some_.length → some_.getD i 0 = now.getD i 0) → r.1 = true) ∧ ((∀ i, i / 64 = n → i < some_.length → some_.getD i 0 = last.getD i 0) → r.2 = true) := by
  refine loopF_inv (body := fun x => ladinglaw02_DiskSurvives.b1 (now, c1) (last, c2) (some_, c3) (n : Int) x.1 x.2.1 x.2.2)
    (fun k x => x.2.2 = ((64 * n + k : Nat) : Int) ∧ ((∀ i, i / 64 = n → i < some_.length → some_.getD i 0 = now.getD i 0) → x.1 = true) ∧ ((∀ i, i / 64 = n → i < some_.length → some_.getD i 0 = last.getD i 0) → x.2.1 = true))
    (min 64 (some_.length - 64 * n)) ⟨rfl, fun _ => rfl, fun _ => rfl⟩ (fun k hk x hx => ?_) (fun x hx => ?_) (by omega)
  · obtain ⟨u, v, i⟩ := x
    obtain ⟨h1, h2, h3⟩ := hx
    dsimp only at h1 h2 h3
    subst h1
    have hs : 64 * n + k < some_.length := by omega
    have hdiv : (64 * n + k) / 64 = n := by omega
    refine .inl ?_
    dsimp only
    unfold ladinglaw02_DiskSurvives.b1
    dsimp only
    rw [show ((64 : Int) * (n : Int)) = ((64 * n : Nat) : Int) by omega, z64_in (by omega) (by omega), bind_in, show (((64 * n : Nat) : Int) + 64) = ((64 * n + 64 : Nat) : Int) by omega, z64_in (by omega) (by omega), bind_in, bif_ltZ, if_pos (by omega), ltZ_eq, decide_eq_true (by omega), bind_in]
    unfold ladinglaw02_DiskSurvives.j2
    rw [cond_true]
    dsimp only
    have e1 : (bif u then (bAt some_ ((64 * n + k : Nat) : Int)).bind fun c25 => (bAt now ((64 * n + k : Nat) : Int)).bind fun c26 => some (eqZ c25 c26) else some false) = some (u && decide (some_.getD (64 * n + k) 0 = now.getD (64 * n + k) 0)) := by
      cases u with
      | false => rfl
      | true =>
        rw [cond_true, bAt_at hs, bind_in, bAt_at (by omega), bind_in, eqZ_eq, Bool.true_and]
        congr 1
        rw [decide_eq_decide]
        exact ⟨fun h => UInt8.toNat_inj.1 (by omega), fun h => by rw [h]⟩
    rw [e1, bind_in]
    unfold ladinglaw02_DiskSurvives.j1
    dsimp only
    rw [show (((64 * n + k : Nat) : Int) + 1) = ((64 * n + (k + 1) : Nat) : Int) by omega, z64_in (by omega) (by omega)]
    have h2' : (∀ i, i / 64 = n → i < some_.length → some_.getD i 0 = now.getD i 0) → (u && decide (some_.getD (64 * n + k) 0 = now.getD (64 * n + k) 0)) = true := fun h => by
      rw [h2 h, decide_eq_true (h _ hdiv hs)]; rfl
    cases v with
    | false => exact ⟨_, rfl, rfl, h2', fun h => h3 h⟩
    | true =>
      rw [cond_true, bAt_at hs, bind_in, byteAt_eq, bind_in, bind_in, eqZ_eq]
      exact ⟨_, rfl, rfl, h2', fun h => decide_eq_true (by rw [h _ hdiv hs])⟩
  · obtain ⟨u, v, i⟩ := x
    obtain ⟨h1, h2, h3⟩ := hx
    dsimp only at h1 h2 h3
    subst h1
    refine ⟨(u, v), ?_, h2, h3⟩
    dsimp only
    unfold ladinglaw02_DiskSurvives.b1
    dsimp only
    rw [show ((64 : Int) * (n : Int)) = ((64 * n : Nat) : Int) by omega, z64_in (by omega) (by omega), bind_in, show (((64 * n : Nat) : Int) + 64) = ((64 * n + 64 : Nat) : Int) by omega, z64_in (by omega) (by omega), bind_in]
    have e : (bif ltZ ((64 * n + min 64 (some_.length - 64 * n) : Nat) : Int) ((64 * n + 64 : Nat) : Int) then some (ltZ ((64 * n + min 64 (some_.length - 64 * n) : Nat) : Int) ((some_.length : Nat) : Int)) else some false) = some false := by
      rw [bif_ltZ]
      split
      · rw [ltZ_eq, decide_eq_false (by omega)]
      · rfl
    rw [e, bind_in]
    unfold ladinglaw02_DiskSurvives.j2
    rw [cond_false]
end
theorem survives_true (l : List GAct) (f : Int) (keep : List Int) (hl : l.length ≤ 9223372036854775807) (hi : ∀ a ∈ l, InA a) : ladinglaw02_DiskSurvives l f keep = some true := by
  unfold ladinglaw02_DiskSurvives
  rw [small_true, bind_in, few_eq hl, bind_in, bif_not]
  refine head_by (b := !(decide ((∀ a ∈ l, OkA a) ∧ l.length ≤ 40) && decide (keep.length ≤ 60))) ?_ (fun _ => rfl) ?_
  · cases decide ((∀ a ∈ l, OkA a) ∧ l.length ≤ 40) with
    | false => rfl
    | true =>
      rw [cond_true, ltZ_eq, Bool.true_and]
      by_cases h : keep.length ≤ 60 <;> simp [h] <;> omega
  intro hb
  have hb : (decide ((∀ a ∈ l, OkA a) ∧ l.length ≤ 40) && decide (keep.length ≤ 60)) = true := by simpa using hb
  rw [Bool.and_eq_true] at hb
  obtain ⟨hok, h40⟩ := few_in hb.1 hi
  have hk := of_decide_eq_true hb.2
  obtain ⟨p, q, st, hp, hR⟩ := played_eq hok (by omega)
  have hI : IA (playA l newA) := ia_play hok ia_new
  have hJ : JA (playA l newA) := ja_play ja_new
  generalize playA l newA = A at hp hR hI hJ
  unfold ladinglaw02_DiskSurvives.j7
  rw [cond_false, hp, bind_in]
  dsimp only
  refine head_by (b := decide (A.down = true ∨ f < 0 ∨ 15 < f ∨ 100000 < (A.fs f).1.length)) ?_ (fun _ => rfl) ?_
  · unfold disk_Disk_Down
    rw [bind_in]
    cases A.down with
    | true => simp
    | false =>
      rw [cond_false, bif_ltZ, bif_ltZ]
      by_cases h : f < 0
      · simp [h]
      · rw [if_neg h]
        by_cases h2 : 15 < f
        · simp [h2]
        · rw [if_neg h2]
          unfold disk_Disk_Size
          rw [bind_in, hR.files f, ltZ_eq]
          congr 1
          rw [decide_eq_decide]
          simp [h, h2]
          omega
  intro hd
  have hd := of_decide_eq_false hd
  have hd1 : A.down = false := by cases h : A.down with | false => rfl | true => exact absurd (.inl h) hd
  have h0 : 0 ≤ f := by omega
  have h1 : f < 16 := by omega
  obtain ⟨s1, s2, s3⟩ := last_some hI hJ keep f
  unfold ladinglaw02_DiskSurvives.j6
  rw [cond_false]
  dsimp only
  rw [Read_eq hR hI, bind_in, after_eq (by simp) hR hI hd1 h0 h1, bind_in, after_eq (by simp) hR hI hd1 h0 h1, bind_in, after_eq hk hR hI hd1 h0 h1, bind_in, read_ok (may_ok hd1 h0 h1) (by omega) (by omega), last_all hI hJ, last_none]
  have hnow : ((A.fs f).1.drop (0 : Int).toNat).take (16777216 : Int).toNat = (A.fs f).1 := by
    show ((A.fs f).1.drop 0).take 16777216 = _
    rw [List.drop_zero, List.take_of_length_le (hI.size f).1]
  rw [hnow]
  have hns := (hI.size f).1
  generalize (A.fs f).1 = now at *
  generalize (A.fs f).2 = last at *
  generalize lastA keep A f = som at *
  refine head_by (b := false) ?_ (fun h => by cases h) fun _ => ?_
  · simp only [eqZ_eq, decide_true, Bool.not_true, cond_false, bif_ltZ]
    rw [if_neg (by omega), ltZ_eq, decide_eq_false (by omega)]
  unfold ladinglaw02_DiskSurvives.j5
  rw [cond_false]
  refine loopF_at (fun k => (k : Int)) ((som.length + 63) / 64) rfl (fun n hn => ?_) ?_ (by omega)
  · have hn64 : n * 64 < som.length := by omega
    unfold ladinglaw02_DiskSurvives.b2
    dsimp only
    rw [show ((64 : Int) * (n : Int)) = ((64 * n : Nat) : Int) by omega, z64_in (by omega) (by omega), bind_in, bif_ltZ, if_pos (by omega), bind_in]
    obtain ⟨r, hr, hr1, hr2⟩ := inner_eq (now := now) (last := last) s2 (by omega) hn64 0 true true
    rw [hr, bind_in]
    unfold ladinglaw02_DiskSurvives.j4
    have : r.1 = true ∨ r.2 = true := by
      rcases s3 n with h | h
      · exact .inl (hr1 h)
      · exact .inr (hr2 h)
    have e : (bif !r.1 then some (!r.2) else some false) = some false := by
      rcases this with h | h
      · rw [h]; rfl
      · rw [h]; cases r.1 <;> rfl
    rw [e, bind_in]
    unfold ladinglaw02_DiskSurvives.j3
    rw [cond_false, z64_in (by omega) (by omega), bind_in]; rfl
  · unfold ladinglaw02_DiskSurvives.b2
    dsimp only
    rw [show ((64 : Int) * (((som.length + 63) / 64 : Nat) : Int)) = ((64 * ((som.length + 63) / 64) : Nat) : Int) by omega, z64_in (by omega) (by omega), bind_in, bif_ltZ, if_neg (by omega)]
/-- a file that is durable -/
def KF (f : Int) (x : Bs) (B : DA) : Prop := B.fs f = (x, x) ∧ ∀ y ∈ B.q, y.1 ≠ f
section
variable {f : Int} {x : Bs} {B : DA}
theorem kf_ends (h : KF f x B) : KF f x (endsA B).2 := by unfold endsA; split <;> exact h
theorem crash_other {keep : List Int} : ∀ (l : List (Int × Int)) (i : Nat) (fs : Int → Bs × Bs), (∀ y ∈ l, y.1 ≠ f) → crashFs keep i fs l f = fs f
  | [], _, _, _ => rfl
  | y :: l, i, fs, h => by
    show crashFs keep (i + 1) (if keptB keep i = true then survA fs y else fs) l f = fs f
    rw [crash_other l (i + 1) _ (fun z hz => h z (List.mem_cons_of_mem _ hz))]
    split
    · unfold survA
      split
      · unfold setFs; rw [if_neg (fun e => h y List.mem_cons_self e.symm)]
      · rfl
    · rfl
theorem kf_crash {keep : List Int} (h : KF f x B) : KF f x (crashA keep B) := by
  unfold crashA
  split
  · exact h
  · refine ⟨?_, (fun y hy => nomatch hy)⟩
    show ((crashFs keep 0 B.fs B.q f).2, (crashFs keep 0 B.fs B.q f).2) = _
    rw [crash_other _ _ _ h.2, h.1]
theorem kf_comes (h : KF f x B) : KF f x (comesA B) := by
  unfold comesA
  split
  · exact kf_crash (kf_ends h)
  · exact kf_ends h
theorem kf_settle {g : Int} {s : Bs} (hg : g ≠ f) (h : KF f x B) : KF f x (settleA g s B) := by
  refine ⟨?_, fun y hy => h.2 y (List.mem_filter.1 hy).1⟩
  show setFs B.fs g (s, s) f = _
  unfold setFs
  rw [if_neg (fun e => hg e.symm)]; exact h.1
theorem kf_write {g at_ : Int} {s : Bs} (hg : g ≠ f) (h : KF f x B) : KF f x (writeA g at_ s B).2 := by
  unfold writeA
  split
  · exact h
  · split
    · exact h
    · show KF f x (addA g at_.toNat s B)
      unfold addA
      split
      · exact h
      · rename_i hs
        refine ⟨?_, fun y hy => ?_⟩
        · show setFs B.fs g _ f = _
          unfold setFs
          rw [if_neg (fun e => hg e.symm)]; exact h.1
        · rcases (addQ_mem _ _ _).1 hy with hy | hy
          · exact h.2 y hy
          · rw [((secs_mem (List.length_pos_iff.2 hs)).1 hy).1]; exact hg
theorem kf_do {a : GAct} (ha : kindA a < 4 ∧ a.2.1 ≠ f ∨ kindA a = 4) (h : KF f x B) : KF f x (doA a B).2 := by
  have hc := kf_comes h
  unfold doA
  by_cases h2 : kindA a = 2
  · rw [if_pos h2]
    unfold syncA
    split
    · exact hc
    · split
      · exact hc
      · exact kf_settle (by omega) hc
  rw [if_neg h2]
  by_cases h3 : kindA a = 3
  · rw [if_pos h3]
    unfold truncA
    split
    · exact hc
    · split
      · exact hc
      · exact kf_settle (by omega) hc
  rw [if_neg h3]
  by_cases h4 : kindA a = 4
  · rw [if_pos h4]; exact h
  rw [if_neg h4, if_neg (by omega), if_neg (by omega), if_neg (by omega)]
  have hne : a.2.1 ≠ f := by omega
  unfold WriteA
  split
  · exact kf_crash (kf_write hne (kf_ends h))
  · exact kf_write hne (kf_ends h)
end
theorem sync_ok {f : Int} {A : DA} (h : (syncA f A).1 = 0) : A.down = false ∧ 0 ≤ f ∧ f < 16 ∧ (syncA f A).2.down = false ∧ KF f (A.fs f).1 (syncA f A).2 := by
  unfold syncA at h ⊢
  by_cases hm : mayA (comesA A) f = 0
  case neg => rw [if_pos hm] at h; exact absurd h hm
  rw [if_neg (fun h => h hm)] at h ⊢
  by_cases hl : 0 < (comesA A).lost
  · rw [if_pos hl] at h; cases h
  rw [if_neg hl] at h ⊢
  obtain ⟨hd, h1, h2⟩ := may_zero hm
  have hc : comesA A = (endsA A).2 ∧ A.down = false := by
    unfold comesA at hd ⊢
    by_cases he : (endsA A).1 = true
    · rw [if_pos he] at hd
      unfold crashA at hd
      split at hd
      · rename_i h3
        rw [h3] at hd; cases hd
      · cases hd
    · rw [if_neg he] at hd ⊢
      refine ⟨rfl, ?_⟩
      unfold endsA at hd
      split at hd
      · exact hd
      · exact hd
  have hfs : (comesA A).fs = A.fs := by
    rw [hc.1]
    unfold endsA
    split <;> rfl
  refine ⟨hc.2, h1, h2, hd, ?_, fun y hy => ?_⟩
  · show setFs _ f _ f = _
    rw [setFs_self, hfs]
  · exact of_decide_eq_true (List.mem_filter.1 hy).2
theorem synced_true (l : List GAct) (f : Int) (more : List GAct) (keep : List Int) (hl : l.length ≤ 9223372036854775807) (hi : ∀ a ∈ l, InA a) (hl2 : more.length ≤ 9223372036854775807) (hi2 : ∀ a ∈ more, InA a) : ladinglaw02_DiskSynced l f more keep = some true := by
  unfold ladinglaw02_DiskSynced
  rw [small_true, bind_in, few_eq hl, bind_in, few_eq hl2, bind_in, bif_not, bif_not]
  refine head_by (b := !(decide ((∀ a ∈ l, OkA a) ∧ l.length ≤ 40) && (decide ((∀ a ∈ more, OkA a) ∧ more.length ≤ 40) && decide (keep.length ≤ 60)))) ?_ (fun _ => rfl) ?_
  · cases decide ((∀ a ∈ l, OkA a) ∧ l.length ≤ 40) with
    | false => rfl
    | true =>
      cases decide ((∀ a ∈ more, OkA a) ∧ more.length ≤ 40) with
      | false => rfl
      | true =>
        rw [cond_true, cond_true, ltZ_eq, Bool.true_and, Bool.true_and]
        by_cases h : keep.length ≤ 60 <;> simp [h] <;> omega
  intro hb
  have hb : (decide ((∀ a ∈ l, OkA a) ∧ l.length ≤ 40) && (decide ((∀ a ∈ more, OkA a) ∧ more.length ≤ 40) && decide (keep.length ≤ 60))) = true := by simpa using hb
  rw [Bool.and_eq_true, Bool.and_eq_true] at hb
  obtain ⟨hok, h40⟩ := few_in hb.1 hi
  obtain ⟨hok2, h402⟩ := few_in hb.2.1 hi2
  have hk := of_decide_eq_true hb.2.2
  obtain ⟨p, q, st, hp, hR⟩ := played_eq hok (by omega)
  have hI : IA (playA l newA) := ia_play hok ia_new
  generalize playA l newA = A at hp hR hI
  unfold ladinglaw02_DiskSynced.j3
  rw [cond_false, hp, bind_in]
  dsimp only
  rw [Read_eq hR hI, bind_in]
  obtain ⟨p1, q1, s1, h1, r1⟩ := Sync_eq (f := f) hR hI
  have i1 := ia_sync (f := f) hI
  rw [h1, bind_in]
  dsimp only
  rw [bif_not, bif_eqZ]
  by_cases h0 : (syncA f A).1 = 0
  case neg => rw [if_neg h0]
  rw [if_pos h0]
  obtain ⟨hd, hf0, hf1, hd2, hK⟩ := sync_ok h0
  have hbig : ∀ {C : DA}, IA C → C.down = false → readA f 0 16777216 C = ((C.fs f).1, 0) := fun hC hdn => by
    rw [read_ok (may_ok hdn hf0 hf1) (by omega) (by omega)]
    show (((_ : Bs).drop 0).take 16777216, (0 : Int)) = _
    rw [List.drop_zero, List.take_of_length_le (hC.size f).1]
  rw [hbig hI hd, Read_eq r1 i1, bind_in, hbig i1 hd2, show ((syncA f A).2.fs f).1 = (A.fs f).1 by rw [hK.1]]
  generalize (A.fs f).1 = x at hK
  generalize (syncA f A).2 = S at hK r1 i1 hd2
  have key := loopF_inv (body := fun x => ladinglaw02_DiskSynced.b1 f more x.1 x.2.1 x.2.2.1 x.2.2.2.1 x.2.2.2.2.1 x.2.2.2.2.2.1 x.2.2.2.2.2.2.1 x.2.2.2.2.2.2.2)
    (fun k y => ∃ B p q st, y = (((k : Nat) : Int), B.lost, B.down, B.armed, B.keep, p, q, st) ∧ RD p q st B ∧ IA B ∧ KF f x B)
    (Q := fun r => ∃ B p q st, r = (B.lost, B.down, B.armed, B.keep, p, q, st) ∧ RD p q st B ∧ IA B ∧ KF f x B) more.length
    (x := (0, S.lost, S.down, S.armed, S.keep, p1, q1, s1)) ⟨S, p1, q1, s1, rfl, r1, i1, hK⟩ (fun k hk y hy => ?_) (fun y hy => ?_) (by omega)
  · obtain ⟨r, hr, B, p2, q2, s2, rfl, r2, i2, k2⟩ := key
    rw [hr, bind_in]
    dsimp only
    unfold ladinglaw02_DiskSynced.j2
    obtain ⟨p6, q6, s6, h6, r6⟩ := crash_eq hk r2 i2
    have i6 := ia_crash (keep := keep) i2
    rw [h6, bind_in]
    unfold disk_Disk_Start
    dsimp only
    rw [bind_in]
    have r7 : RD p6 q6 s6 (startA (crashA keep B)) := ⟨r6.files, r6.queue, r6.set⟩
    have i7 : IA (startA (crashA keep B)) := ⟨i6.armed, i6.lost, i6.size, i6.q, i6.nd, i6.keep⟩
    refine (congrArg (fun z => Option.bind z _) (Read_eq (f := f) (at_ := 0) (size := 16777216) r7 i7)).trans ?_
    rw [bind_in, hbig i7 rfl]
    have e7 : ((startA (crashA keep B)).fs f).1 = x := by
      show ((crashA keep B).fs f).1 = x
      rw [(kf_crash k2).1]
    rw [e7, cond_true, show eqZ (0 : Int) 0 = true from rfl, cond_true, cond_true]
    simp
  · obtain ⟨B, p2, q2, s2, rfl, r2, i2, k2⟩ := hy
    have hka : more[k] ∈ more := List.getElem_mem hk
    refine .inl ?_
    unfold ladinglaw02_DiskSynced.b1
    dsimp only
    rw [bif_ltZ, if_pos (by omega), idx_nat hk, bind_in]
    have e : (bif ltZ (andI .i64 more[k].1 7) 4 then (some more[k]).bind fun v22 => bif !eqZ v22.2.1 f then some true else some (eqZ (andI .i64 more[k].1 7) 4) else some (eqZ (andI .i64 more[k].1 7) 4)) = some (decide (kindA more[k] < 4 ∧ more[k].2.1 ≠ f ∨ kindA more[k] = 4)) := by
      show (bif ltZ (kindA more[k]) 4 then (some more[k]).bind fun v22 => bif !eqZ v22.2.1 f then some true else some (eqZ (kindA more[k]) 4) else some (eqZ (kindA more[k]) 4)) = _
      rw [bif_ltZ, bind_in, bif_not, bif_eqZ, eqZ_eq]
      by_cases h4 : kindA more[k] < 4
      · rw [if_pos h4]
        by_cases hf : more[k].2.1 = f
        · rw [if_pos hf]; simp [hf]
        · rw [if_neg hf]; simp [h4, hf]
      · rw [if_neg h4]; simp [h4]
    rw [e, bind_in]
    unfold ladinglaw02_DiskSynced.j1
    by_cases hc : kindA more[k] < 4 ∧ more[k].2.1 ≠ f ∨ kindA more[k] = 4
    · rw [decide_eq_true hc, cond_true, idx_nat hk, bind_in]
      obtain ⟨p3, q3, s3, h3, r3⟩ := do_eq (hok2 _ hka).1 r2 i2
      rw [h3, bind_in, z64_succ (by omega), bind_in]
      exact ⟨_, rfl, _, p3, q3, s3, rfl, r3, ia_do (hok2 _ hka).1 (hok2 _ hka).2 i2, kf_do hc k2⟩
    · rw [decide_eq_false hc, cond_false, z64_succ (by omega), bind_in]
      exact ⟨_, rfl, B, p2, q2, s2, rfl, r2, i2, k2⟩
  · obtain ⟨B, p2, q2, s2, rfl, r2, i2, k2⟩ := hy
    refine ⟨_, ?_, B, p2, q2, s2, rfl, r2, i2, k2⟩
    unfold ladinglaw02_DiskSynced.b1
    dsimp only
    rw [bif_ltZ, if_neg (by omega)]
/-- the same disk with a crash scheduled -/
def setAK (C : DA) (n : Int) (keep : List Int) : DA := { C with armed := n, keep := keep }
section
variable {C : DA} {n : Int} {keep : List Int}
theorem may_ak (f : Int) : mayA (setAK C n keep) f = mayA C f := rfl
theorem write_ak (f at_ : Int) (s : Bs) : writeA f at_ s (setAK C n keep) = ((writeA f at_ s C).1, setAK (writeA f at_ s C).2 n keep) := by
  unfold writeA
  rw [may_ak]
  split
  · rfl
  · split
    · rfl
    · show ((0 : Int), addA f at_.toNat s (setAK C n keep)) = (0, setAK (addA f at_.toNat s C) n keep)
      unfold addA
      split <;> rfl
theorem sync_ak (f : Int) (h : C.armed = 0) (hn : 2 ≤ n) (hd : C.down = false) : syncA f (setAK C n keep) = ((syncA f C).1, setAK (syncA f C).2 (n - 1) keep) := by
  have hc : comesA (setAK C n keep) = setAK C (n - 1) keep := by
    have he : endsA (setAK C n keep) = (false, setAK C (n - 1) keep) := by
      unfold endsA
      rw [if_neg (by show ¬ (C.down = true ∨ n = 0); rw [hd]; simp; omega)]
      show (decide (n - 1 = 0), setAK C (n - 1) keep) = _
      rw [decide_eq_false (by omega)]
    unfold comesA
    rw [he, if_neg (by simp)]
  unfold syncA
  rw [hc, comes_zero h, may_ak]
  split
  · rfl
  · show (if 0 < C.lost then _ else _) = _
    split <;> rfl
theorem trunc_ak (f size : Int) (h : C.armed = 0) (hn : 2 ≤ n) (hd : C.down = false) : truncA f size (setAK C n keep) = ((truncA f size C).1, setAK (truncA f size C).2 (n - 1) keep) := by
  have hc : comesA (setAK C n keep) = setAK C (n - 1) keep := by
    have he : endsA (setAK C n keep) = (false, setAK C (n - 1) keep) := by
      unfold endsA
      rw [if_neg (by show ¬ (C.down = true ∨ n = 0); rw [hd]; simp; omega)]
      show (decide (n - 1 = 0), setAK C (n - 1) keep) = _
      rw [decide_eq_false (by omega)]
    unfold comesA
    rw [he, if_neg (by simp)]
  unfold truncA
  rw [hc, comes_zero h, may_ak]
  split
  · rfl
  · show (if size < 0 ∨ ((C.fs f).1.length : Int) < size then _ else _) = _
    split <;> rfl
theorem Write_ak (f at_ : Int) (s : Bs) (h : C.armed = 0) (hn : 2 ≤ n) (hd : C.down = false) : WriteA f at_ s (setAK C n keep) = ((WriteA f at_ s C).1, setAK (WriteA f at_ s C).2 (n - 1) keep) := by
  have he : endsA (setAK C n keep) = (false, setAK C (n - 1) keep) := by
    unfold endsA
    rw [if_neg (by show ¬ (C.down = true ∨ n = 0); rw [hd]; simp; omega)]
    show (decide (n - 1 = 0), setAK C (n - 1) keep) = _
    rw [decide_eq_false (by omega)]
  rw [Write_zero h]
  unfold WriteA
  rw [he, if_neg (by simp)]
  exact write_ak f at_ s
theorem write_scal (f at_ : Int) (s : Bs) : (writeA f at_ s C).2.down = C.down ∧ (writeA f at_ s C).2.armed = C.armed := by
  unfold writeA
  split
  · exact ⟨rfl, rfl⟩
  · split
    · exact ⟨rfl, rfl⟩
    · exact ⟨(add_scal f at_.toNat s C).1, (add_scal f at_.toNat s C).2.1⟩
theorem sync_scal (f : Int) (h : C.armed = 0) : (syncA f C).2.down = C.down ∧ (syncA f C).2.armed = 0 := by
  unfold syncA
  rw [comes_zero h]
  split
  · exact ⟨rfl, h⟩
  · split <;> exact ⟨rfl, h⟩
theorem trunc_scal (f size : Int) (h : C.armed = 0) : (truncA f size C).2.down = C.down ∧ (truncA f size C).2.armed = 0 := by
  unfold truncA
  rw [comes_zero h]
  split
  · exact ⟨rfl, h⟩
  · split <;> exact ⟨rfl, h⟩
end
/-- before the crash -/
def P1 (n : Nat) (keep : List Int) (cnt : Nat) (D C : DA) : Prop := cnt < n ∧ D = setAK C ((n - cnt : Nat) : Int) keep ∧ C.armed = 0 ∧ C.down = false
/-- behind it -/
def P2 (n cnt : Nat) (D C : DA) : Prop := n ≤ cnt ∧ D.down = true ∧ C.down = true ∧ D.fs = C.fs
section
variable {n cnt : Nat} {keep : List Int} {D C : DA} {a : GAct}
theorem do_lose (h : kindA a = 4) (A : DA) : doA a A = (0, loseA (andI .i64 a.2.2.1 3) A) := by
  unfold doA
  rw [if_neg (by omega), if_neg (by omega), if_pos h]
theorem do_low (h : kindA a < 4) (A : DA) : doA a A = if kindA a = 2 then syncA a.2.1 A else if kindA a = 3 then truncA a.2.1 a.2.2.1 A else WriteA a.2.1 a.2.2.1 a.2.2.2.1 A := by
  unfold doA
  by_cases h2 : kindA a = 2
  · rw [if_pos h2, if_pos h2]
  · rw [if_neg h2, if_neg h2]
    by_cases h3 : kindA a = 3
    · rw [if_pos h3, if_pos h3]
    · rw [if_neg h3, if_neg h3, if_neg (by omega), if_neg (by omega), if_neg (by omega), if_neg (by omega)]
/-- an act before the crash -/
theorem step1 (h : P1 n keep cnt D C) (hk : kindA a < 4) (h2 : cnt + 1 < n) : (doA a D).1 = (doA a C).1 ∧ P1 n keep (cnt + 1) (doA a D).2 (doA a C).2 := by
  obtain ⟨h3, rfl, h4, h5⟩ := h
  have hn : (((n - (cnt + 1) : Nat)) : Int) = ((n - cnt : Nat) : Int) - 1 := by omega
  rw [do_low hk, do_low hk]
  by_cases e2 : kindA a = 2
  · rw [if_pos e2, if_pos e2, sync_ak _ h4 (by omega) h5]
    obtain ⟨s1, s2⟩ := sync_scal (C := C) a.2.1 h4
    exact ⟨rfl, h2, by rw [hn], s2, s1.trans h5⟩
  rw [if_neg e2, if_neg e2]
  by_cases e3 : kindA a = 3
  · rw [if_pos e3, if_pos e3, trunc_ak _ _ h4 (by omega) h5]
    obtain ⟨s1, s2⟩ := trunc_scal (C := C) a.2.1 a.2.2.1 h4
    exact ⟨rfl, h2, by rw [hn], s2, s1.trans h5⟩
  rw [if_neg e3, if_neg e3, Write_ak _ _ _ h4 (by omega) h5, Write_zero h4]
  obtain ⟨s1, s2⟩ := write_scal (C := C) a.2.1 a.2.2.1 a.2.2.2.1
  exact ⟨rfl, h2, by rw [hn], s2.trans h4, s1.trans h5⟩
theorem step1L (h : P1 n keep cnt D C) (hk : kindA a = 4) : (doA a D).1 = (doA a C).1 ∧ P1 n keep cnt (doA a D).2 (doA a C).2 := by
  obtain ⟨h3, rfl, h4, h5⟩ := h
  rw [do_lose hk, do_lose hk]
  exact ⟨rfl, h3, rfl, h4, h5⟩
theorem ends_one (h : P1 n keep cnt D C) (h2 : cnt + 1 = n) : endsA D = (true, setAK C 0 keep) := by
  obtain ⟨h3, rfl, h4, h5⟩ := h
  unfold endsA
  rw [if_neg (by show ¬ (C.down = true ∨ ((n - cnt : Nat) : Int) = 0); rw [h5]; simp; omega)]
  show (decide (((n - cnt : Nat) : Int) - 1 = 0), setAK C (((n - cnt : Nat) : Int) - 1) keep) = _
  rw [decide_eq_true (by omega), show ((n - cnt : Nat) : Int) - 1 = 0 by omega]
theorem crash_ak {E : DA} (h : E.down = false) : (crashA keep (setAK E 0 keep)).down = true ∧ (crashA keep (setAK E 0 keep)).fs = (crashA keep E).fs ∧ (crashA keep E).down = true := by
  obtain ⟨a1, _⟩ := crash_up (keep := keep) (A := setAK E 0 keep) h
  obtain ⟨b1, _⟩ := crash_up (keep := keep) (A := E) h
  refine ⟨a1, funext fun f => ?_, b1⟩
  rw [crash_fs (A := setAK E 0 keep) h, crash_fs h]; rfl
/-- the act in which the crash comes -/
theorem stepX (h : P1 n keep cnt D C) (hk : kindA a < 4) (h2 : cnt + 1 = n) : (doA a D).1 = 8 ∧ P2 n (cnt + 1) (doA a D).2 (crashA keep (if kindA a < 2 then (doA a C).2 else C)) := by
  have he := ends_one h h2
  obtain ⟨h3, hD, h4, h5⟩ := h
  have hc : comesA D = crashA keep (setAK C 0 keep) := by unfold comesA; rw [he, if_pos rfl]; rfl
  obtain ⟨c1, c2, c3⟩ := crash_ak (keep := keep) h5
  have hm : ∀ f, mayA (comesA D) f = 8 := fun f => by unfold mayA; rw [hc, if_pos c1]
  rw [do_low hk]
  by_cases e2 : kindA a = 2
  · rw [if_pos e2, if_neg (by omega)]
    unfold syncA
    rw [hm, if_pos (by omega), hc]
    exact ⟨rfl, by omega, c1, c3, c2⟩
  rw [if_neg e2]
  by_cases e3 : kindA a = 3
  · rw [if_pos e3, if_neg (by omega)]
    unfold truncA
    rw [hm, if_pos (by omega), hc]
    exact ⟨rfl, by omega, c1, c3, c2⟩
  rw [if_neg e3, if_pos (by omega), do_low hk, if_neg e2, if_neg e3, Write_zero h4]
  unfold WriteA
  rw [he, if_pos rfl]
  dsimp only
  rw [write_ak]
  dsimp only
  obtain ⟨d1, d2, d3⟩ := crash_ak (keep := keep) (E := (writeA a.2.1 a.2.2.1 a.2.2.2.1 C).2) ((write_scal a.2.1 a.2.2.1 a.2.2.2.1).1.trans h5)
  exact ⟨rfl, by omega, d1, d3, d2⟩
theorem may_dn {A : DA} (h : A.down = true) (f : Int) : mayA A f = 8 := by unfold mayA; rw [if_pos h]
theorem step2 (h : P2 n cnt D C) (hk : kindA a < 4) : (doA a D).1 = 8 ∧ P2 n (cnt + 1) (doA a D).2 C := by
  obtain ⟨h1, h2, h3, h4⟩ := h
  rw [do_low hk]
  have h5 : P2 n (cnt + 1) D C := ⟨by omega, h2, h3, h4⟩
  by_cases e2 : kindA a = 2
  · rw [if_pos e2]
    unfold syncA
    rw [comes_down h2, may_dn h2, if_pos (by omega)]
    exact ⟨rfl, h5⟩
  rw [if_neg e2]
  by_cases e3 : kindA a = 3
  · rw [if_pos e3]
    unfold truncA
    rw [comes_down h2, may_dn h2, if_pos (by omega)]
    exact ⟨rfl, h5⟩
  rw [if_neg e3]
  unfold WriteA
  rw [ends_down h2, if_neg (by simp)]
  unfold writeA
  rw [may_dn h2, if_pos (by omega)]
  exact ⟨rfl, h5⟩
theorem step2L (h : P2 n cnt D C) (hk : kindA a = 4) : P2 n cnt (doA a D).2 C := by
  obtain ⟨h1, h2, h3, h4⟩ := h
  rw [do_lose hk]
  exact ⟨h1, h2, h3, h4⟩
end
theorem read_same {D C : DA} (h1 : D.down = C.down) (h2 : D.fs = C.fs) (f at_ size : Int) : readA f at_ size D = readA f at_ size C := by
  unfold readA mayA
  rw [h1, h2]
theorem same_eq {D C : DA} {p p' : List (Int × (Bs × Bs))} {q q' : List (Int × Int)} {st st' : List ((Int × Int) × Bool)} {l : List GAct} (hl : l.length ≤ 40) (r1 : RD p q st D) (i1 : IA D) (r2 : RD p' q' st' C) (i2 : IA C) (h1 : D.down = C.down) (h2 : D.fs = C.fs) :
    ladinglaw02_same l D.lost D.down D.armed D.keep p q st C.lost C.down C.armed C.keep p' q' st' = some true := by
  unfold ladinglaw02_same disk_Disk_Down
  rw [bind_in, bind_in, h1, beq_self_eq_true, Bool.not_true, cond_false]
  refine loopF_at (fun k => (k : Int)) l.length rfl (fun k hk => ?_) ?_ (by omega)
  · unfold ladinglaw02_same.b1
    have e1 := Read_eq (f := l[k].2.1) (at_ := 0) (size := 16777216) r1 i1
    have e2 := Size_eq l[k].2.1 r1
    rw [h1] at e1 e2
    rw [bif_ltZ, if_pos (by omega), idx_nat hk, bind_in, e1, bind_in, bind_in, Read_eq r2 i2, bind_in, read_same h1 h2, bind_in, e2, bind_in, bind_in, Size_eq _ r2, bind_in, h2]
    simp only [eqZ_eq, decide_true, Bool.not_true, cond_false, bind_in]
    unfold ladinglaw02_same.j1
    rw [cond_false, z64_succ (by omega), bind_in]
  · unfold ladinglaw02_same.b1
    rw [bif_ltZ, if_neg (by omega)]
abbrev LP := List (Int × (Bs × Bs))
abbrev LQ := List (Int × Int)
abbrev LS := List ((Int × Int) × Bool)
/-- the loop's state -/
def ArmI (n : Nat) (keep : List Int) (k : Nat) (x : Int × Int × Int × Bool × Int × (List Int) × Int × Bool × Int × (List Int) × LP × LQ × LS × LP × LQ × LS) : Prop :=
  ∃ (cnt : Nat) (D C : DA) (p : LP) (q : LQ) (st : LS) (p' : LP) (q' : LQ) (st' : LS), x = ((cnt : Int), (k : Int), D.lost, D.down, D.armed, D.keep, C.lost, C.down, C.armed, C.keep, p, q, st, p', q', st') ∧
    RD p q st D ∧ IA D ∧ RD p' q' st' C ∧ IA C ∧ (P1 n keep cnt D C ∨ P2 n cnt D C) ∧ cnt ≤ k
def ArmQ (r : (Int × Bool × Int × (List Int) × Int × Bool × Int × (List Int) × LP × LQ × LS × LP × LQ × LS) ⊕ Bool) : Prop :=
  r = .inr true ∨ ∃ (D C : DA) (p : LP) (q : LQ) (st : LS) (p' : LP) (q' : LQ) (st' : LS), r = .inl (D.lost, D.down, D.armed, D.keep, C.lost, C.down, C.armed, C.keep, p, q, st, p', q', st') ∧
    RD p q st D ∧ IA D ∧ RD p' q' st' C ∧ IA C ∧ D.down = C.down ∧ D.fs = C.fs
theorem bool_bind {b : Bool} {α : Type} {x : Option Bool} {J : Bool → Option α} (hx : x = some b) : (x.bind fun y => J y) = J b := by subst hx; exact bind_in ..
section
variable {l : List GAct} {n k cnt : Nat} {keep : List Int} {D C : DA} {p p' : LP} {q q' : LQ} {st st' : LS}
theorem arm_step (hok : ∀ a ∈ l, OkA a ∧ InA a) (h40 : l.length ≤ 40) (hn : n ≤ 60) (hkp : keep.length ≤ 60) (hk : k < l.length) (r1 : RD p q st D) (i1 : IA D) (r2 : RD p' q' st' C) (i2 : IA C) (hP : P1 n keep cnt D C ∨ P2 n cnt D C) (hc : cnt ≤ k) :
    (∃ y, ladinglaw02_DiskArms.b1 l (n : Int) keep true (cnt : Int) (k : Int) D.lost D.down D.armed D.keep C.lost C.down C.armed C.keep p q st p' q' st' = some (.inl y) ∧ ArmI n keep (k + 1) y) ∨
      ∃ b, ladinglaw02_DiskArms.b1 l (n : Int) keep true (cnt : Int) (k : Int) D.lost D.down D.armed D.keep C.lost C.down C.armed C.keep p q st p' q' st' = some (.inr b) ∧ ArmQ b := by
  have hka : l[k] ∈ l := List.getElem_mem hk
  obtain ⟨ho, hin⟩ := hok _ hka
  unfold ladinglaw02_DiskArms.b1
  rw [bif_ltZ, if_pos (by omega), idx_nat hk, bind_in]
  rw [show andI .i64 l[k].1 7 = kindA l[k] from rfl]
  rw [bif_ltZ (a := 4)]
  by_cases h4 : 4 < kindA l[k]
  · rw [if_pos h4]
    exact .inr ⟨_, rfl, .inl rfl⟩
  rw [if_neg h4]
  refine .inl ?_
  obtain ⟨cnt2, hcnt2⟩ : ∃ c : Nat, (if kindA l[k] < 4 then cnt + 1 else cnt) = c := ⟨_, rfl⟩
  have e1 : (bif ltZ (kindA l[k]) 4 then (z64 ((cnt : Int) + 1)).bind fun v27 => some v27 else some (cnt : Int)) = some (cnt2 : Int) := by
    rw [bif_ltZ, ← hcnt2]
    split
    · rw [z64_succ (by omega), bind_in]
    · rfl
  refine (congrArg (fun z => ∃ y, Option.bind z _ = some (Sum.inl y) ∧ ArmI n keep (k + 1) y) e1).mpr ?_
  rw [bind_in]
  have hc2 : cnt2 ≤ k + 1 := by rw [← hcnt2]; split <;> omega
  unfold ladinglaw02_DiskArms.j7
  obtain ⟨p3, q3, s3, h3, r3⟩ := do_eq ho r1 i1
  have i3 := ia_do ho hin i1
  rw [idx_nat hk, bind_in, h3, bind_in]
  dsimp only
  obtain ⟨p4, q4, s4, h5, r4⟩ := do_eq ho r2 i2
  have i4 := ia_do ho hin i2
  have hnext : ∀ x : Int, z64 ((k : Int) + 1) = some ((k + 1 : Nat) : Int) := fun _ => z64_succ (by omega)
  -- the act is performed on both
  have both : (doA l[k] D).1 = (doA l[k] C).1 → P1 n keep cnt2 (doA l[k] D).2 (doA l[k] C).2 → ∃ y, ladinglaw02_DiskArms.j6 l (n : Int) keep (k : Int) C.lost C.down C.armed C.keep p' q' st' l[k] (cnt2 : Int) ((doA l[k] D).1, (doA l[k] D).2.lost, (doA l[k] D).2.down, (doA l[k] D).2.armed, (doA l[k] D).2.keep, q3, s3, p3) true = some (.inl y) ∧ ArmI n keep (k + 1) y := by
    intro he hp
    unfold ladinglaw02_DiskArms.j6
    rw [cond_true, idx_nat hk, bind_in, h5, bind_in]
    dsimp only
    rw [he, eqZ_eq, decide_eq_true rfl, Bool.not_true, cond_false, z64_succ (by omega), bind_in]
    exact ⟨_, rfl, cnt2, _, _, p3, q3, s3, p4, q4, s4, rfl, r3, i3, r4, i4, .inl hp, hc2⟩
  -- what comes behind the crash
  have tail : ∀ {E : DA} {pe : LP} {qe : LQ} {se : LS}, RD pe qe se E → IA E → P2 n cnt2 (doA l[k] D).2 E → (kindA l[k] < 4 → (doA l[k] D).1 = 8) →
      ∃ y, ladinglaw02_DiskArms.j4 (k : Int) l[k] (cnt2 : Int) ((doA l[k] D).1, (doA l[k] D).2.lost, (doA l[k] D).2.down, (doA l[k] D).2.armed, (doA l[k] D).2.keep, q3, s3, p3) E.lost E.down E.armed E.keep pe qe se = some (.inl y) ∧ ArmI n keep (k + 1) y := by
    intro E pe qe se hre hie hp h8
    unfold ladinglaw02_DiskArms.j4 disk_Disk_Down
    dsimp only
    have e : (bif ltZ (andI .i64 l[k].1 7) 4 then bif !eqZ (doA l[k] D).1 8 then some true else (some (doA l[k] D).2.down).bind fun d55 => some (!d55) else (some (doA l[k] D).2.down).bind fun d56 => some (!d56)) = some false := by
      show (bif ltZ (kindA l[k]) 4 then bif !eqZ (doA l[k] D).1 8 then some true else (some (doA l[k] D).2.down).bind fun d55 => some (!d55) else (some (doA l[k] D).2.down).bind fun d56 => some (!d56)) = some false
      rw [hp.2.1, bif_ltZ]
      split
      · rename_i hlt
        rw [h8 hlt]; rfl
      · rfl
    rw [e, bind_in]
    unfold ladinglaw02_DiskArms.j3
    rw [cond_false, z64_succ (by omega), bind_in]
    exact ⟨_, rfl, cnt2, _, _, p3, q3, s3, pe, qe, se, rfl, r3, i3, hre, hie, .inr hp, hc2⟩
  have c2' : (C.lost, C.down, C.armed, C.keep, p', q', st') = (C.lost, C.down, C.armed, C.keep, p', q', st') := rfl
  rcases hP with hP | hP
  · by_cases hk4 : kindA l[k] = 4
    · -- Lose
      have hcc : cnt2 = cnt := by rw [← hcnt2, if_neg (by omega)]
      have hlt := hP.1
      obtain ⟨g1, g2⟩ := step1L hP hk4
      refine (congrArg (fun z => ∃ y, z = some (Sum.inl y) ∧ ArmI n keep (k + 1) y) (bool_bind (b := true) ?_)).mpr (both g1 (by rw [hcc]; exact g2))
      rw [bif_ltZ, if_pos (by omega)]
    · have hlow : kindA l[k] < 4 := by omega
      have hcc : cnt2 = cnt + 1 := by rw [← hcnt2, if_pos hlow]
      by_cases hlt : cnt + 1 < n
      · obtain ⟨g1, g2⟩ := step1 hP hlow hlt
        refine (congrArg (fun z => ∃ y, z = some (Sum.inl y) ∧ ArmI n keep (k + 1) y) (bool_bind (b := true) ?_)).mpr (both g1 (by rw [hcc]; exact g2))
        rw [bif_ltZ, if_pos (by omega)]
      · have heq : cnt + 1 = n := by have := hP.1; omega
        obtain ⟨g1, g2⟩ := stepX hP hlow heq
        refine (congrArg (fun z => ∃ y, z = some (Sum.inl y) ∧ ArmI n keep (k + 1) y) (bool_bind (b := false) ?_)).mpr ?_
        · show (bif ltZ (cnt2 : Int) (n : Int) then _ else bif eqZ (cnt2 : Int) (n : Int) then (bif eqZ (kindA l[k]) 4 then _ else _) else _) = _
          rw [bif_ltZ, if_neg (by omega), bif_eqZ, if_pos (by omega), bif_eqZ, if_neg hk4]
        unfold ladinglaw02_DiskArms.j6
        rw [cond_false, bif_eqZ, if_pos (by omega), bind_in]
        show ∃ y, (ladinglaw02_DiskArms.j1 l (k : Int) C.lost C.down C.armed C.keep p' q' st' (ltZ (kindA l[k]) 2)).bind _ = _ ∧ _
        -- the other disk, behind the write
        obtain ⟨E, pe, qe, se, he, hre, hie, hE⟩ : ∃ E pe qe se, ladinglaw02_DiskArms.j1 l (k : Int) C.lost C.down C.armed C.keep p' q' st' (ltZ (kindA l[k]) 2) = some (E.lost, E.down, E.armed, E.keep, pe, qe, se) ∧ RD pe qe se E ∧ IA E ∧ E = (if kindA l[k] < 2 then (doA l[k] C).2 else C) := by
          unfold ladinglaw02_DiskArms.j1
          rw [bif_ltZ]
          by_cases h2 : kindA l[k] < 2
          · rw [if_pos h2, if_pos h2, idx_nat hk, bind_in, h5, bind_in]
            exact ⟨_, p4, q4, s4, rfl, r4, i4, rfl⟩
          · rw [if_neg h2, if_neg h2]
            exact ⟨C, p', q', st', rfl, r2, i2, rfl⟩
        rw [he, bind_in]
        dsimp only
        unfold ladinglaw02_DiskArms.j5
        rw [bif_eqZ, if_pos (by omega), bind_in]
        show ∃ y, (ladinglaw02_DiskArms.j2 keep E.lost E.down E.armed E.keep pe qe se (ltZ (kindA l[k]) 4)).bind _ = _ ∧ _
        obtain ⟨p6, q6, s6, h6, r6⟩ := crash_eq hkp hre hie
        have i6 := ia_crash (keep := keep) hie
        unfold ladinglaw02_DiskArms.j2
        rw [bif_ltZ, if_pos hlow, h6, bind_in, bind_in]
        dsimp only
        rw [← hE] at g2
        exact tail r6 i6 (by rw [hcc]; exact g2) fun _ => g1
  · have hge := hP.1
    have hD2 : P2 n cnt2 (doA l[k] D).2 C ∧ (kindA l[k] < 4 → (doA l[k] D).1 = 8) := by
      by_cases hlow : kindA l[k] < 4
      · obtain ⟨g1, g2⟩ := step2 hP hlow
        rw [show cnt2 = cnt + 1 by rw [← hcnt2, if_pos hlow]]
        exact ⟨g2, fun _ => g1⟩
      · rw [show cnt2 = cnt by rw [← hcnt2, if_neg hlow]]
        exact ⟨step2L hP (by omega), fun h => absurd h hlow⟩
    have hcc : kindA l[k] < 4 → n < cnt2 := fun h => by rw [← hcnt2, if_pos h]; omega
    have hge2 : n ≤ cnt2 := hD2.1.1
    refine (congrArg (fun z => ∃ y, z = some (Sum.inl y) ∧ ArmI n keep (k + 1) y) (bool_bind (b := false) ?_)).mpr ?_
    · show (bif ltZ (cnt2 : Int) (n : Int) then _ else bif eqZ (cnt2 : Int) (n : Int) then (bif eqZ (kindA l[k]) 4 then (some (doA l[k] D).2.down).bind fun d31 => some (!d31) else _) else _) = _
      rw [bif_ltZ, if_neg (by omega), bif_eqZ]
      split
      · rw [bif_eqZ]
        split
        · rw [hD2.1.2.1]; rfl
        · rfl
      · rfl
    unfold ladinglaw02_DiskArms.j6
    rw [cond_false]
    have e2 : (bif eqZ (cnt2 : Int) (n : Int) then some (ltZ (andI .i64 l[k].1 7) 2) else some false) = some false := by
      show (bif eqZ (cnt2 : Int) (n : Int) then some (ltZ (kindA l[k]) 2) else some false) = some false
      rw [bif_eqZ]
      split
      · rw [ltZ_eq, decide_eq_false]
        intro h
        have := hcc (by omega)
        omega
      · rfl
    rw [e2, bind_in]
    unfold ladinglaw02_DiskArms.j1
    rw [cond_false, bind_in]
    dsimp only
    unfold ladinglaw02_DiskArms.j5
    have e3 : (bif eqZ (cnt2 : Int) (n : Int) then some (ltZ (andI .i64 l[k].1 7) 4) else some false) = some false := by
      show (bif eqZ (cnt2 : Int) (n : Int) then some (ltZ (kindA l[k]) 4) else some false) = some false
      rw [bif_eqZ]
      split
      · rw [ltZ_eq, decide_eq_false]
        intro h
        have := hcc h
        omega
      · rfl
    rw [e3, bind_in]
    unfold ladinglaw02_DiskArms.j2
    rw [cond_false, bind_in]
    dsimp only
    exact tail r2 i2 hD2.1 hD2.2
end
theorem arms_true (l : List GAct) (n : Int) (keep : List Int) (hl : l.length ≤ 9223372036854775807) (hi : ∀ a ∈ l, InA a) : ladinglaw02_DiskArms l n keep = some true := by
  unfold ladinglaw02_DiskArms
  rw [small_true, bind_in, few_eq hl, bind_in, bif_not]
  refine head_by (b := !(decide ((∀ a ∈ l, OkA a) ∧ l.length ≤ 40) && decide (keep.length ≤ 60 ∧ 1 ≤ n ∧ n ≤ 60))) ?_ (fun _ => rfl) ?_
  · cases decide ((∀ a ∈ l, OkA a) ∧ l.length ≤ 40) with
    | false => rfl
    | true =>
      rw [cond_true, bif_ltZ, bif_ltZ, Bool.true_and]
      by_cases h : keep.length ≤ 60
      · rw [if_neg (by omega)]
        by_cases h1 : 1 ≤ n
        · rw [if_neg (by omega), ltZ_eq]
          by_cases h2 : n ≤ 60 <;> simp [h, h1, h2] <;> omega
        · rw [if_pos (by omega)]; simp [h1]
      · rw [if_pos (by omega)]; simp [h]
  intro hb
  have hb : (decide ((∀ a ∈ l, OkA a) ∧ l.length ≤ 40) && decide (keep.length ≤ 60 ∧ 1 ≤ n ∧ n ≤ 60)) = true := by simpa using hb
  rw [Bool.and_eq_true] at hb
  obtain ⟨hok, h40⟩ := few_in hb.1 hi
  obtain ⟨hk, hn1, hn2⟩ := of_decide_eq_true hb.2
  obtain ⟨m, rfl⟩ := Int.eq_ofNat_of_zero_le (show 0 ≤ n by omega)
  unfold ladinglaw02_DiskArms.j9 disk_New
  rw [cond_false, bind_in, bind_in]
  dsimp only
  refine (congrArg (fun z => Option.bind z _ = some true) (Arm_eq (A := newA) (n := (m : Int)) (p := []) (q := []) (st := []) hk)).mpr ?_
  rw [bind_in]
  dsimp only
  have hmax : max (m : Int) 0 = (m : Int) := by omega
  have i0 : IA (armA (m : Int) keep newA) := ⟨⟨by show 0 ≤ max _ _; omega, by show max (m : Int) 0 ≤ _; omega⟩, ia_new.lost, ia_new.size, ia_new.q, ia_new.nd, hk⟩
  have hP0 : P1 m keep 0 (armA (m : Int) keep newA) newA := by
    refine ⟨by omega, ?_, rfl, rfl⟩
    show ({ newA with armed := max (m : Int) 0, keep := keep } : DA) = setAK newA _ keep
    rw [hmax]; rfl
  have key := loopF_inv (body := fun x => ladinglaw02_DiskArms.b1 l (m : Int) keep true x.1 x.2.1 x.2.2.1 x.2.2.2.1 x.2.2.2.2.1 x.2.2.2.2.2.1 x.2.2.2.2.2.2.1 x.2.2.2.2.2.2.2.1 x.2.2.2.2.2.2.2.2.1 x.2.2.2.2.2.2.2.2.2.1 x.2.2.2.2.2.2.2.2.2.2.1 x.2.2.2.2.2.2.2.2.2.2.2.1 x.2.2.2.2.2.2.2.2.2.2.2.2.1 x.2.2.2.2.2.2.2.2.2.2.2.2.2.1 x.2.2.2.2.2.2.2.2.2.2.2.2.2.2.1 x.2.2.2.2.2.2.2.2.2.2.2.2.2.2.2)
    (ArmI m keep) (Q := ArmQ) l.length (x := (0, 0, newA.lost, newA.down, max (m : Int) 0, keep, 0, false, 0, [], ([] : LP), ([] : LQ), ([] : LS), ([] : LP), ([] : LQ), ([] : LS)))
    ⟨0, armA (m : Int) keep newA, newA, [], [], [], [], [], [], rfl, ⟨rd_new.files, rd_new.queue, rd_new.set⟩, i0, rd_new, ia_new, .inl hP0, Nat.le_refl _⟩ (fun k hk2 x hx => ?_) (fun x hx => ?_) (by omega)
  · obtain ⟨r, hr, hq⟩ := key
    refine (congrArg (fun z => Option.bind z _ = some true) hr).mpr ?_
    rw [bind_in]
    rcases hq with rfl | ⟨D, C, p, q, st, p', q', st', rfl, r1, i1, r2, i2, hd, hf⟩
    · rfl
    · dsimp only
      unfold ladinglaw02_DiskArms.j8 disk_Disk_Start
      rw [same_eq h40 r1 i1 r2 i2 hd hf, bind_in, bind_in, bind_in, cond_true, cond_true]
      have r1' : RD p q st (startA D) := ⟨r1.files, r1.queue, r1.set⟩
      have i1' : IA (startA D) := ⟨i1.armed, i1.lost, i1.size, i1.q, i1.nd, i1.keep⟩
      have r2' : RD p' q' st' (startA C) := ⟨r2.files, r2.queue, r2.set⟩
      have i2' : IA (startA C) := ⟨i2.armed, i2.lost, i2.size, i2.q, i2.nd, i2.keep⟩
      refine (congrArg (fun z => Option.bind z _ = some true) (same_eq h40 r1' i1' r2' i2' rfl hf)).mpr ?_
      rw [bind_in]
  · obtain ⟨cnt, D, C, p, q, st, p', q', st', rfl, r1, i1, r2, i2, hP, hc⟩ := hx
    exact arm_step hok h40 (by omega) hk hk2 r1 i1 r2 i2 hP hc
  · obtain ⟨cnt, D, C, p, q, st, p', q', st', rfl, r1, i1, r2, i2, hP, hc⟩ := hx
    refine ⟨.inl (D.lost, D.down, D.armed, D.keep, C.lost, C.down, C.armed, C.keep, p, q, st, p', q', st'), ?_, .inr ⟨D, C, p, q, st, p', q', st', rfl, r1, i1, r2, i2, ?_, ?_⟩⟩
    · unfold ladinglaw02_DiskArms.b1
      dsimp only
      rw [bif_ltZ, if_neg (by omega)]
    · rcases hP with ⟨_, rfl, _, _⟩ | ⟨_, h1, h2, _⟩
      · rfl
      · rw [h1, h2]
    · rcases hP with ⟨_, rfl, _, _⟩ | ⟨_, _, _, h⟩
      · rfl
      · exact h
end Go.Proofs.Ytanpfcdbfdkclaa
