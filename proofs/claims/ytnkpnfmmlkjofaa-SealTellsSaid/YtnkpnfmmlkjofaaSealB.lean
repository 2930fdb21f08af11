/-
  Layer 5 (seal): Valid, All, and the reference's Few, Same, New, find, Sign, Valid, All: what each call does.
-/
import Derived.Test.YtnkpnfmmlkjofaaSealA
namespace Go.Proofs.Ytnkpnfmmlkjofaa
open Go.RowKit Go.Lad

def validM (l : List Sealed) (s : Signed) : Bool :=
  match pos l ⟨s.Key, s.Text⟩ with
  | some i => decide ((i : Int) = s.Mark)
  | none => false

theorem valid_any (k0 : Nat) (χ : Col) (w : World) (p : Nat) (l : List Sealed) (k m : Int) (s : ByteArray) (hr : RingAt k0 χ w p l) :
    Calls Try.prog 11 #[.pointer (some ⟨p, 0, none⟩), .agg #[.int .i64 k, .string s, .int .i64 m]] w fun e w' => e = .returned (.bool (validM l ⟨k, s, m⟩)) ∧ Below w.heap.size w w' := by
  obtain ⟨⟨A, c, mb, es, clock, hb, ho, hm, hp, hmb⟩, hn⟩ := hr
  have hp1 : w.cell? ⟨p, 1, none⟩ = some (.map (some mb)) := hb.cell 1
  have hpl := hb.lt
  have hml := hm.lt
  have hlk0 : ∀ o1 nq, (Instr.lookup 46 (.map (some mb)) (.agg #[.int .i64 k, .string s]) true).run Try.prog ((w.alloc o1).drewN nq) = .ok (.tuple #[((pos l ⟨k, s⟩).map vfI).getD (.int .i64 0), .bool (pos l ⟨k, s⟩).isSome]) ((w.alloc o1).drewN nq) := by
    intro o1 nq
    have := (hm.frame (w' := (w.alloc o1).drewN nq) (Below.heap_alloc w o1 mb hml)).look_ok law_sealed Try.underlying46 (z := .int .i64 0) (fun w => by kernel_rfl) ⟨k, s⟩
    rw [look_zip] at this
    exact this
  clear hm hb ho hn hp hmb
  cases hpos : pos l ⟨k, s⟩ with
  | none =>
    have hlk : ∀ o1 nq, (Instr.lookup 46 (.map (some mb)) (.agg #[.int .i64 k, .string s]) true).run Try.prog ((w.alloc o1).drewN nq) = .ok (.tuple #[.int .i64 0, .bool false]) ((w.alloc o1).drewN nq) := by
      intro o1 nq; rw [hlk0, hpos]; rfl
    have hv := Lib.hid (show validM l ⟨k, s, m⟩ = false by simp [validM, hpos])
    clear hlk0 hpos
    go_enter Try.func11, Try.ntmps11
    go_wp2_with fail
    go_quiet (fail)
    go_wp2_with fail
    go_ret
    exact ⟨by rw [hv.out]; rfl, (((Below.refl _ w).alloc (Nat.le_refl _) _).drewN _)⟩
  | some i =>
    have hlk : ∀ o1 nq, (Instr.lookup 46 (.map (some mb)) (.agg #[.int .i64 k, .string s]) true).run Try.prog ((w.alloc o1).drewN nq) = .ok (.tuple #[.int .i64 i, .bool true]) ((w.alloc o1).drewN nq) := by
      intro o1 nq; rw [hlk0, hpos]; rfl
    have hv := Lib.hid (show validM l ⟨k, s, m⟩ = ((i : Int) == m) by simp only [validM, hpos]; rfl)
    clear hlk0 hpos
    go_enter Try.func11, Try.ntmps11
    go_wp2_with fail
    go_quiet (fail)
    go_wp2_with fail
    go_ret
    exact ⟨by rw [hv.out]; rfl, (((Below.refl _ w).alloc (Nat.le_refl _) _).drewN _)⟩

theorem clone_any (w : World) (A : Option Addr) (n c : Nat) (l : List Sealed) {F : Nat → Prop} (hs : Sl F w A n c l) (hl : l.length ≤ 1000000) :
    Calls Try.prog 22 #[.slice A n c] w fun e w' => ∃ v, e = .returned v ∧ OwnNew w.heap.size 32 w' v l ∧ Below w.heap.size w w' := by
  have hnil := fun (W : World) => Lib.run_eql_slice_nil (P := Try.prog) W 22 32 A n c 0 0 Try.underlying22
  have hn := hs.len
  rcases A with _ | a
  · have hc : c = 0 := hs.nil rfl
    have : n = 0 := by have := hs.cap; omega
    subst hc this
    have : l = [] := List.eq_nil_of_length_eq_zero hn
    subst this
    go_enter Try.func22, Try.ntmps22
    go_wp2
    go_ret
    exact ⟨_, rfl, ⟨fun _ => 0, Own.nil _ _ _ _, fun _ _ => rfl⟩, Below.refl _ _⟩
  · have Hs := Lib.hid hs
    clear hs hn
    go_enter Try.func22, Try.ntmps22
    go_wp2_with (at_builtin; refine wpList_app (α := Sealed) (k := 1) (χ := fun b => if b = w.heap.size then 1 else 0) (e := 32) (l := []) (l2 := l) rfl (.tmp 5) (.tmp 6) rfl elem22 rfl (Own.empty_new rfl (by simp)) rfl (Hs.out.alloc _) (fun _ _ _ h => Plain.any h) (by omega) (by have := Hs.out.len; simp; omega) ?_; intro v1 w1 χ1 hown1 hst1)
    go_ret
    refine ⟨v1, rfl, ⟨χ1, hown1, fun b hb => ?_⟩, ?_⟩
    · rw [hst1.col b (by simp; omega)]; simp; omega
    · exact (((Step.refl [1] _ w).alloc _).trans hst1).below (Nat.le_refl _) fun b hb => by
        have : b ≠ w.heap.size := by omega
        simp [this]

theorem all_any (k0 : Nat) (χ : Col) (w : World) (p : Nat) (l : List Sealed) (hr : RingAt k0 χ w p l) (hl : l.length ≤ 1000000) :
    Calls Try.prog 13 #[.pointer (some ⟨p, 0, none⟩)] w fun e w' => ∃ v, e = .returned v ∧ OwnNew w.heap.size 32 w' v l ∧ Below w.heap.size w w' := by
  obtain ⟨⟨A, c, mb, es, clock, hb, ho, hm, hp, hmb⟩, hn⟩ := hr
  have hp0 : w.cell? ⟨p, 0, none⟩ = some (.slice A l.length c) := hb.cell 0
  obtain ⟨A', c', he, hs⟩ := ho.slp
  injection he with h1 h2 h3
  subst h1 h3
  clear hm hb ho hn hp hmb
  go_enter Try.func13, Try.ntmps13
  go_wp2_with (go_at_call 22; refine (clone_any _ _ _ _ l hs hl).mono ?_; rintro e w1 ⟨v, rfl, hown, hbel⟩)
  go_ret
  exact ⟨v, rfl, hown, hbel⟩

/-! ### the reference -/
def fewM (l : List Sealed) (n : Nat) : Bool := ((l.take (n + 1)).all fun e => decide (e.Text.size ≤ 500)) && decide (l.length ≤ n)

theorem few_any (w : World) (A : Option Addr) (n c : Nat) (l : List Sealed) (m : Nat) (hm : m ≤ 1000000) (hs : Sl (Old w) w A n c l) :
    Calls Try.prog 9 #[.slice A n c, .int .i64 m] w fun e w' => e = .returned (.bool (fewM l m)) ∧ w = w' := by
  have hn := hs.len
  have hc := hs.cap
  have hx := hs.max
  have Hn := Lib.hid hn
  have Hs := Lib.hid hs
  clear hn hs
  go_enter Try.func9, Try.ntmps9
  go_wp2
  go_loop [5] (fun i => ∃ k : Nat, k ≤ n ∧ k ≤ m + 1 ∧ i = .int .i64 k ∧ ((l.take k).all fun e => decide (e.Text.size ≤ 500)) = true) (fun i => n - (intOf i).toNat)
  case atStart => exact ⟨0, Nat.zero_le _, Nat.zero_le _, rfl, by simp⟩
  case round =>
    obtain ⟨k, hk, hkm, rfl, hall⟩ := hrel
    have Hall := Lib.hid hall
    clear hall
    by_cases hlt : k < n
    · by_cases hle : k ≤ m
      · obtain ⟨b, off, rfl, H⟩ := Hs.out.at_ (by omega)
        have hkl : k < l.length := by rw [Hn.out]; exact hlt
        have hat := Sealed.at_ (H k l[k] (List.getElem?_eq_getElem hkl))
        have h1 : w.cell? ⟨b, off + k * 2 + 1, none⟩ = some (.string l[k].Text) := hat.2.1
        generalize hT : l[k].Text = T at h1
        have HT := Lib.hid hT
        have hle' : (k : Int) ≤ (m : Int) := by omega
        clear hat H hT
        by_cases h5 : T.size ≤ 500
        · go_wp2
          go_round
          case rel =>
            refine ⟨k + 1, by omega, by omega, by go_num, ?_⟩
            rw [List.take_succ_eq_append_getElem hkl, List.all_append, Hall.out]
            simp [HT.out, h5]
          case measure => simp [intOf]; omega
        · go_wp2
          go_ret
          refine ⟨ret_bool ?_, rfl⟩
          have : fewM l m = false := by
            unfold fewM
            rw [Bool.and_eq_false_iff]
            left
            rw [List.all_eq_false]
            refine ⟨l[k], ?_, by rw [HT.out]; simpa using h5⟩
            rw [List.mem_take_iff_getElem]
            exact ⟨k, by omega, rfl⟩
          rw [this]
      · have hle' : ¬ (k : Int) ≤ (m : Int) := by omega
        go_wp2
        go_ret
        refine ⟨ret_bool ?_, rfl⟩
        have : fewM l m = false := by
          unfold fewM
          rw [Bool.and_eq_false_iff]
          right
          rw [Hn.out]; simp; omega
        rw [this]
        simp; omega
    · go_wp2
      go_ret
      refine ⟨ret_bool ?_, rfl⟩
      have : k = n := by omega
      subst this
      have : fewM l m = decide (k ≤ m) := by
        unfold fewM
        have h1 : (l.take (m + 1)).all (fun e => decide (e.Text.size ≤ 500)) = true := by
          rw [List.all_eq_true]
          intro x hx
          have h2 := Hall.out
          rw [List.take_of_length_le (by rw [Hn.out]; omega), List.all_eq_true] at h2
          exact h2 x (List.mem_of_mem_take hx)
        rw [h1, Hn.out]
        simp
      rw [this]

theorem eq_run (W : World) (k k' : Int) (s s' : ByteArray) : (binOp .neq 32 (.agg #[.int .i64 k, .string s]) (.agg #[.int .i64 k', .string s'])).run Try.prog W = .ok (.bool (!decide ((⟨k, s⟩ : Sealed) = ⟨k', s'⟩))) W := by
  have h := eq_sealed ⟨k, s⟩ ⟨k', s'⟩ W
  simp only [Sealed.val] at h
  simp only [binOp]
  simp [h]

theorem same_any (w : World) (A B : Option Addr) (n c m d : Nat) (l r : List Sealed) {F F' : Nat → Prop} (hs : Sl F w A n c l) (ht : Sl F' w B m d r) :
    Calls Try.prog 12 #[.slice A n c, .slice B m d] w fun e w' => e = .returned (.bool (decide (l = r))) ∧ Below w.heap.size w w' := by
  have hln := hs.len
  have hlm := ht.len
  by_cases hnm : n = m
  · subst hnm
    have hc := hs.cap
    have hx := hs.max
    have Hn := Lib.hid hln
    have Hm := Lib.hid hlm
    have Hs := Lib.hid hs
    have Ht := Lib.hid ht
    have heq := eq_run
    clear hln hlm hs ht
    go_enter Try.func12, Try.ntmps12
    go_wp2
    go_loopw [5] (fun i wr => ∃ k q : Nat, k ≤ n ∧ i = .int .i64 k ∧ l.take k = r.take k ∧ wr = w.drewN q) (fun i _ => n - (intOf i).toNat)
    case atStart => exact ⟨0, 0, Nat.zero_le _, rfl, rfl, rfl⟩
    case round =>
      obtain ⟨k, q, hk, rfl, htk, rfl⟩ := hrel
      have Htk := Lib.hid htk
      clear htk
      by_cases hlt : k < n
      · obtain ⟨b, off, rfl, H⟩ := Hs.out.at_ (by omega)
        obtain ⟨b', off', rfl, H'⟩ := Ht.out.at_ (by omega)
        have hkl : k < l.length := by rw [Hn.out]; exact hlt
        have hkr : k < r.length := by rw [Hm.out]; exact hlt
        have hat := Sealed.at_ (H k l[k] (List.getElem?_eq_getElem hkl))
        have hat' := Sealed.at_ (H' k r[k] (List.getElem?_eq_getElem hkr))
        have h0 : w.cell? ⟨b, off + k * 2, none⟩ = some (.int .i64 l[k].Key) := hat.1
        have h1 : w.cell? ⟨b, off + k * 2 + 1, none⟩ = some (.string l[k].Text) := hat.2.1
        have h0' : w.cell? ⟨b', off' + k * 2, none⟩ = some (.int .i64 r[k].Key) := hat'.1
        have h1' : w.cell? ⟨b', off' + k * 2 + 1, none⟩ = some (.string r[k].Text) := hat'.2.1
        have hki : (0 : Int) ≤ (k : Int) := by omega
        have hkn : (k : Int) < (n : Int) := by omega
        clear hat hat' H H'
        generalize hX : l[k] = X at h0 h1
        generalize hY : r[k] = Y at h0' h1'
        have HX := Lib.hid hX
        have HY := Lib.hid hY
        clear hX hY
        by_cases he : X = Y
        · have he' : decide ((⟨X.Key, X.Text⟩ : Sealed) = ⟨Y.Key, Y.Text⟩) = true := by simp [he]
          go_wp2_with fail
          go_quiet (fail)
          go_wp2_with fail
          go_roundw
          case rel =>
            refine ⟨k + 1, _, by omega, by go_num, ?_, rfl⟩
            rw [List.take_succ_eq_append_getElem hkl, List.take_succ_eq_append_getElem hkr, Htk.out, HX.out, HY.out, he]
          case measure => simp [intOf]; omega
        · have he' : decide ((⟨X.Key, X.Text⟩ : Sealed) = ⟨Y.Key, Y.Text⟩) = false := by
            rw [decide_eq_false_iff_not]; intro h; apply he; cases X; cases Y; simpa using h
          go_wp2_with fail
          go_quiet (fail)
          go_wp2_with fail
          go_ret
          refine ⟨ret_bool ?_, (((Below.refl _ w).drewN _).drewN _)⟩
          symm
          rw [decide_eq_false_iff_not]
          rintro rfl
          exact he (HX.out.symm.trans HY.out)
      · go_wp2
        go_ret
        refine ⟨ret_bool ?_, ((Below.refl _ w).drewN _)⟩
        have : k = n := by omega
        subst this
        have h := Htk.out
        rw [List.take_of_length_le (by rw [Hn.out]; omega), List.take_of_length_le (by rw [Hm.out]; omega)] at h
        simp [h]
  · have hne : ((n : Int) != (m : Int)) = true := by simp; omega
    have hd : decide (l = r) = false := by rw [decide_eq_false_iff_not]; rintro rfl; omega
    rw [hd]
    clear hln hlm
    go_enter Try.func12, Try.ntmps12
    go_wp2
    go_ret
    exact ⟨rfl, Below.refl _ _⟩

/-! ### the reference's ring -/
structure RefAt (k : Nat) (χ : Col) (w : World) (p : Nat) (l : List Sealed) : Prop where
  ex : ∃ A c, Blk w p 53 #[.slice A l.length c] ∧ Own k χ 32 w (.slice A l.length c) l ∧ χ p = k
theorem RefAt.step {T : List Nat} {k : Nat} {χ χ' : Col} {w w' : World} {p : Nat} {l : List Sealed} (h : RefAt k χ w p l) (s : Step T χ w χ' w') (hk : k ∉ T) : RefAt k χ' w' p l := by
  obtain ⟨A, c, hb, ho, h1⟩ := h
  exact ⟨A, c, hb.step s (by rw [h1]; exact hk), ho.stepP s hk, (s.col _ hb.lt).trans h1⟩

theorem refnew_any (k : Nat) (χ : Col) (w : World) :
    Calls Try.prog 14 #[] w fun e w' => ∃ p χ', e = .returned (.pointer (some ⟨p, 0, none⟩)) ∧ Step [] χ w χ' w' ∧ RefAt k χ' w' p [] ∧ w.heap.size ≤ p := by
  go_enter Try.func14, Try.ntmps14
  go_wp2
  go_ret
  refine ⟨_, fun b => if b < w.heap.size then χ b else k, rfl, ((Step.refl [] χ w).alloc _).recol fun b hb => by simp [hb], ⟨none, 0, Blk.fresh _ _ _ (by simp), Own.nil _ _ _ _, ?_⟩, Nat.le_refl _⟩
  simp

/-- The place as an int; -1: none. -/
def posI (l : List Sealed) (e : Sealed) : Int := match pos l e with | some i => i | none => -1

theorem posI_take (l : List Sealed) (e : Sealed) (k : Nat) (hk : k < l.length) (h : e ∉ l.take k) (he : l[k] = e) : posI l e = k := by
  have : pos l e = some k := by
    have h1 : l = l.take k ++ l.drop k := (List.take_append_drop k l).symm
    rw [h1, pos_append, pos_none.2 h]
    have h2 : l.drop k = l[k] :: l.drop (k + 1) := List.drop_eq_getElem_cons hk
    rw [h2, he]
    simp [pos]
    omega
  simp [posI, this]

theorem find_any (k0 : Nat) (χ : Col) (w : World) (p : Nat) (l : List Sealed) (k : Int) (s : ByteArray) (hr : RefAt k0 χ w p l) :
    Calls Try.prog 23 #[.pointer (some ⟨p, 0, none⟩), .int .i64 k, .string s] w fun e w' => e = .returned (.int .i64 (posI l ⟨k, s⟩)) ∧ w = w' := by
  obtain ⟨A, c, hb, ho, hp⟩ := hr
  have hp0 : w.cell? ⟨p, 0, none⟩ = some (.slice A l.length c) := hb.cell 0
  obtain ⟨A', c', he, hs⟩ := ho.slp
  injection he with h1 h2 h3
  subst h1 h3
  have hc := hs.cap
  have hx := hs.max
  have Hs := Lib.hid hs
  clear hb ho hp hs h2
  go_enter Try.func23, Try.ntmps23
  go_wp2
  go_loop [7] (fun i => ∃ j : Nat, j ≤ l.length ∧ i = .int .i64 j ∧ (⟨k, s⟩ : Sealed) ∉ l.take j) (fun i => l.length - (intOf i).toNat)
  case atStart => exact ⟨0, Nat.zero_le _, rfl, by simp⟩
  case round =>
    obtain ⟨j, hj, rfl, hnot⟩ := hrel
    have Hnot := Lib.hid hnot
    clear hnot
    by_cases hlt : j < l.length
    · obtain ⟨b, off, rfl, H⟩ := Hs.out.at_ (by omega)
      have hat := Sealed.at_ (H j l[j] (List.getElem?_eq_getElem hlt))
      have h0 : w.cell? ⟨b, off + j * 2, none⟩ = some (.int .i64 l[j].Key) := hat.1
      have h1 : w.cell? ⟨b, off + j * 2 + 1, none⟩ = some (.string l[j].Text) := hat.2.1
      clear hat H
      generalize hX : l[j] = X at h0 h1
      have HX := Lib.hid hX
      clear hX
      by_cases hK : X.Key = k
      · have hK1 : (X.Key == k) = true := by simpa using hK
        have HK := Lib.hid hK
        clear hK
        by_cases hT : X.Text = s
        · have hT1 : (X.Text.toList == s.toList) = true := by simp [hT]
          have HT := Lib.hid hT
          clear hT
          go_wp2
          go_ret
          refine ⟨ret_int ?_, rfl⟩
          rw [posI_take l ⟨k, s⟩ j hlt Hnot.out]
          rw [HX.out]
          cases X
          simp_all [Hid]
        · have hT1 : (X.Text.toList == s.toList) = false := by
            rw [← beq_toListBytes, bytes_beq]; simpa using hT
          go_wp2
          go_round
          case rel =>
            refine ⟨j + 1, by omega, by go_num, ?_⟩
            rw [List.take_succ_eq_append_getElem hlt, List.mem_append]
            rintro (h | h)
            · exact Hnot.out h
            · rw [HX.out, List.mem_singleton] at h
              subst h
              exact hT rfl
          case measure => simp [intOf]; omega
      · have hK1 : (X.Key == k) = false := by simpa using hK
        go_wp2
        go_round
        case rel =>
          refine ⟨j + 1, by omega, by go_num, ?_⟩
          rw [List.take_succ_eq_append_getElem hlt, List.mem_append]
          rintro (h | h)
          · exact Hnot.out h
          · rw [HX.out, List.mem_singleton] at h
            subst h
            exact hK rfl
        case measure => simp [intOf]; omega
    · go_wp2
      go_ret
      refine ⟨ret_int ?_, rfl⟩
      have h := Hnot.out
      rw [List.take_of_length_le (by omega)] at h
      simp [posI, pos_none.2 h]
end Go.Proofs.Ytnkpnfmmlkjofaa
