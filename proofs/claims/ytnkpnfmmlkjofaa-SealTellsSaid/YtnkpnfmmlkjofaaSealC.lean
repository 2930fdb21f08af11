/-
  Layer 5 (seal): the reference's Sign, Valid, All; Open, Copy: what each call does.
-/
import Derived.Test.YtnkpnfmmlkjofaaSealB
namespace Go.Proofs.Ytnkpnfmmlkjofaa
open Go.RowKit Go.Lad

def Refed (k : Nat) (χ : Col) (w : World) (p : Nat) (l : List Sealed) (v : Value) (e : Ending) (w' : World) : Prop :=
  ∃ χ', e = .returned v ∧ Step [k] χ w χ' w' ∧ RefAt k χ' w' p l

set_option maxHeartbeats 1000000 in
theorem refsign_any (k0 : Nat) (χ : Col) (w : World) (p : Nat) (l : List Sealed) (k : Int) (s : ByteArray) (hr : RefAt k0 χ w p l) (hl : l.length ≤ 1000000) (hs : s.size ≤ 9223372036854775807) :
    Calls Try.prog 15 #[.pointer (some ⟨p, 0, none⟩), .int .i64 k, .string s] w (Refed k0 χ w p (signM l k s).1 (signM l k s).2.val) := by
  by_cases hk : 0 ≤ k ∧ k < 200
  · obtain ⟨hk1, hk2⟩ := hk
    have hk1' : ¬ k < 0 := by omega
    have hk2' : ¬ 200 ≤ k := by omega
    have Hr := Lib.hid hr
    cases hpos : pos l ⟨k, s⟩ with
    | some i =>
      have hS := Lib.hid (show signM l k s = (l, ⟨k, s, i⟩) by simp [signM, hk1, hk2, hpos])
      have hI : posI l ⟨k, s⟩ = (i : Int) := by simp [posI, hpos]
      have HI := Lib.hid hI
      clear hpos hI hr
      go_enter Try.func15, Try.ntmps15
      go_wp2_with (go_at_call 23; refine (find_any k0 χ _ p l k s (Hr.out.step ((Step.refl [] χ w).alloc _) (by simp))).mono ?_; rw [HI.out]; rintro e w' ⟨rfl, rfl⟩)
      refine bodyPost_ret (v := .agg #[.int .i64 k, .string s, .int .i64 i]) (by simp [results, Try.results15, go_sem]) rfl ?_
      rw [hS.out]
      have st : Step [] χ w χ (w.alloc (Obj.cells #[.int .i64 k, .string s, .int .i64 i] 24)) := (Step.refl [] χ w).alloc _
      exact ⟨χ, rfl, st.wide (by simp), Hr.out.step st (by simp)⟩
    | none =>
      have hS := Lib.hid (show signM l k s = (l ++ [⟨k, s⟩], ⟨k, s, l.length⟩) by simp [signM, hk1, hk2, hpos])
      have hI : posI l ⟨k, s⟩ = -1 := by simp [posI, hpos]
      have HI := Lib.hid hI
      obtain ⟨A, c, hb, ho, hp⟩ := hr
      have hp0 : w.cell? ⟨p, 0, none⟩ = some (.slice A l.length c) := hb.cell 0
      have hpl := hb.lt
      obtain ⟨χ1, hχ1⟩ : ∃ χ1 : Col, χ1 = fun b => if b < w.heap.size ∧ χ b = k0 then (if b = p then 2 else 1) else 0 := ⟨_, rfl⟩
      have hc2 : χ1 p = 2 := by rw [hχ1]; simp [hpl, hp]
      have hcn : ∀ b, w.heap.size ≤ b → χ1 b = 0 := by intro b hb'; rw [hχ1]; simp only; rw [if_neg (by omega)]
      have hck : ∀ b, b < w.heap.size → χ1 b ≠ 0 → χ b = k0 := by
        intro b hb' h0
        rw [hχ1] at h0
        simp only at h0
        by_cases hx : b < w.heap.size ∧ χ b = k0
        · exact hx.2
        · rw [if_neg hx] at h0; exact absurd rfl h0
      have ho1 : Own 1 χ1 32 w (.slice A l.length c) l := ho.recol fun g hg hgl hgk => by
        have h1 := ho.ne hb (by decide)
        rw [hg] at h1
        rw [hχ1]
        simp only
        rw [if_pos ⟨hgl, hgk⟩, if_neg (fun e => h1 (by rw [e]))]
      have hkey : ∀ o3 χ2 w1, Step [1] χ1 ((w.alloc (.cells #[.int .i64 0, .string { data := #[] }, .int .i64 0] 24)).alloc o3) χ2 w1 →
          Blk w1 p 53 #[.slice A l.length c] ∧ Blk w1 w.heap.size 24 #[.int .i64 0, .string { data := #[] }, .int .i64 0] ∧ Step [1] χ1 w χ2 w1 ∧ χ2 p = 2 ∧ χ2 w.heap.size = 0 ∧ w.heap.size + 1 < w1.heap.size := by
        intro o3 χ2 w1 st
        refine ⟨((hb.alloc _).alloc _).step st (by rw [hc2]; decide), ((Blk.new w _ _).alloc _).step st (by rw [hcn _ (Nat.le_refl _)]; decide), (((Step.refl [1] χ1 w).alloc _).alloc _).trans st, (st.col _ (by simp; omega)).trans hc2, (st.col _ (by simp; omega)).trans (hcn _ (Nat.le_refl _)), ?_⟩
        have := st.size; simp at this; omega
      have Hkey := Lib.hid hkey
      have Ho := Lib.hid ho1
      have Hck := Lib.hid hck
      have Hz := Lib.hid hp
      clear hkey hpos hI hb ho hp hc2 hcn hck ho1 hχ1
      go_enter Try.func15, Try.ntmps15
      go_wp2_with (first
        | (go_at_call 23; refine (find_any k0 χ _ p l k s (Hr.out.step ((Step.refl [] χ w).alloc _) (by simp))).mono ?_; rw [HI.out]; rintro e w' ⟨rfl, rfl⟩)
        | (at_builtin; refine wpList_app (α := Sealed) rfl (.tmp 30) (.tmp 34) rfl elem22 rfl (Own.alloc (Own.alloc Ho.out _) _) rfl (Sl.new1 ⟨k, s⟩ (by simp) (Sealed.mk_rd ⟨by omega, by omega⟩ hs)) (fun _ _ _ h => Plain.any h) (by omega) (by simp; omega) ?_
           intro v1 w1 χ2 hown1 hst1
           obtain ⟨A1, c1, rfl, hcap1, hmax1⟩ := hown1.form
           obtain ⟨hb1, hr1, hst, hk2p, hk2r, hsz1⟩ := Hkey.out _ _ _ hst1
           have h1p : w1.cell? ⟨p, 0, none⟩ = some (.slice A l.length c) := hb1.cell 0
           have h1f := hb1.frozen 0
           have r0 : w1.cell? ⟨w.heap.size, 0, none⟩ = some (.int .i64 0) := hr1.cell 0
           have r1 : w1.cell? ⟨w.heap.size, 1, none⟩ = some (.string { data := #[] }) := hr1.cell 1
           have r2 : w1.cell? ⟨w.heap.size, 2, none⟩ = some (.int .i64 0) := hr1.cell 2
           have f0 := hr1.frozen 0
           have f1 := hr1.frozen 1
           have f2 := hr1.frozen 2
           have Hb1 := Lib.hid hb1
           have H2p := Lib.hid hk2p
           have H2r := Lib.hid hk2r
           clear hb1 hr1 hst1 hk2p hk2r))
      refine bodyPost_ret (v := .agg #[.int .i64 k, .string s, .int .i64 l.length]) (by simp [results, Try.results15, go_sem, r0, r1, r2]) rfl ?_
      rw [hS.out]
      have hll : (l ++ [(⟨k, s⟩ : Sealed)]).length = l.length + 1 := by simp
      have st3 := (((((hst.wide (T' := [1, 2]) (by simp)).setCell (p := ⟨p, 0, none⟩) (.inl (by rw [H2p.out]; decide)) (.slice A1 (l ++ [(⟨k, s⟩ : Sealed)]).length c1))).setCell (p := ⟨w.heap.size, 0, none⟩) (.inr (Nat.le_refl _)) (.int .i64 k)).setCell (p := ⟨w.heap.size, 1, none⟩) (.inr (Nat.le_refl _)) (.string s)).setCell (p := ⟨w.heap.size, 2, none⟩) (.inr (Nat.le_refl _)) (.int .i64 (l.length : Nat))
      have st13 := ((((Step.refl [0, 2] χ2 w1).setCell (p := ⟨p, 0, none⟩) (.inl (by rw [H2p.out]; decide)) (.slice A1 (l ++ [(⟨k, s⟩ : Sealed)]).length c1)).setCell (p := ⟨w.heap.size, 0, none⟩) (.inl (by rw [H2r.out]; decide)) (.int .i64 k)).setCell (p := ⟨w.heap.size, 1, none⟩) (.inl (by rw [H2r.out]; decide)) (.string s)).setCell (p := ⟨w.heap.size, 2, none⟩) (.inl (by rw [H2r.out]; decide)) (.int .i64 (l.length : Nat))
      rw [hll] at st3 st13 hown1
      refine ⟨Lad.merge χ χ2 w.heap.size k0, rfl, st3.merge fun b hb hT => Hck.out b hb (by intro e; rw [e] at hT; simp at hT), ⟨A1, c1, ?_, ?_, ?_⟩⟩
      · show Blk _ p _ #[.slice A1 (l ++ [_]).length c1]
        rw [hll]
        exact (((Hb1.out.set_ 0 _).far (by simp; omega) _).far (by simp; omega) _).far (by simp; omega) _
      · show Own k0 _ _ _ (.slice A1 (l ++ [_]).length c1) (l ++ [_])
        rw [hll]
        exact (hown1.stepP st13 (by decide)).recol fun g hg hgl hg1 => by
          unfold Lad.merge
          split
          · rename_i hlt
            have h1 := hst.col g hlt
            exact Hck.out g hlt (by rw [← h1, hg1]; decide)
          · rw [hg1]; simp
      · unfold Lad.merge; rw [if_pos hpl]; exact Hz.out
  · have hS : signM l k s = (l, ⟨0, noText, 0⟩) := by simp [signM, hk]
    rw [hS]
    have fin : Refed k0 χ w p l (Signed.val ⟨0, noText, 0⟩) (.returned (.agg #[.int .i64 0, .string noText, .int .i64 0])) (w.alloc (Obj.cells #[.int .i64 0, .string { data := #[] }, .int .i64 0] 24)) := by
      have st : Step [] χ w χ (w.alloc (Obj.cells #[.int .i64 0, .string { data := #[] }, .int .i64 0] 24)) := (Step.refl [] χ w).alloc _
      exact ⟨χ, rfl, st.wide (by simp), hr.step st (by simp)⟩
    have Fin := Lib.hid fin
    clear fin hS hr
    by_cases h1 : k < 0
    · go_enter Try.func15, Try.ntmps15
      go_wp2_with fail
      exact bodyPost_ret (v := .agg #[.int .i64 0, .string noText, .int .i64 0]) (by simp [results, Try.results15, go_sem, noText]) rfl Fin.out
    · have h1' : decide (k < 0) = false := by simpa using h1
      have h2 : 200 ≤ k := by omega
      go_enter Try.func15, Try.ntmps15
      go_wp2_with fail
      exact bodyPost_ret (v := .agg #[.int .i64 0, .string noText, .int .i64 0]) (by simp [results, Try.results15, go_sem, noText]) rfl Fin.out

/-- The reference's Valid. -/
def refValidM (l : List Sealed) (s : Signed) : Bool := decide (0 ≤ s.Mark) && decide (l[s.Mark.toNat]? = some ⟨s.Key, s.Text⟩)
theorem refValid_eq (l : List Sealed) (hn : l.Nodup) (s : Signed) : refValidM l s = validM l s := by
  unfold refValidM validM
  cases hp : pos l ⟨s.Key, s.Text⟩ with
  | none =>
    have := pos_none.1 hp
    rw [Bool.and_eq_false_iff]
    right
    rw [decide_eq_false_iff_not]
    intro h
    exact this (List.mem_of_getElem? h)
  | some i =>
    have h1 := (pos_some hp).1
    rw [Bool.eq_iff_iff]
    simp only [Bool.and_eq_true, decide_eq_true_eq]
    constructor
    · rintro ⟨h0, h2⟩
      have hl := (List.getElem?_eq_some_iff.1 h1).1
      have := (List.getElem?_inj (i := i) (j := s.Mark.toNat) hl hn).1 (h1.trans h2.symm)
      omega
    · intro h
      rw [← h]
      exact ⟨by omega, by simpa using h1⟩

set_option maxHeartbeats 1000000 in
theorem refvalid_any (k0 : Nat) (χ : Col) (w : World) (p : Nat) (l : List Sealed) (k m : Int) (s : ByteArray) (hr : RefAt k0 χ w p l) :
    Calls Try.prog 16 #[.pointer (some ⟨p, 0, none⟩), .agg #[.int .i64 k, .string s, .int .i64 m]] w fun e w' => e = .returned (.bool (refValidM l ⟨k, s, m⟩)) ∧ Below w.heap.size w w' := by
  obtain ⟨A, c, hb, ho, hp⟩ := hr
  have hp0 : w.cell? ⟨p, 0, none⟩ = some (.slice A l.length c) := hb.cell 0
  have hpl := hb.lt
  obtain ⟨A', c', he, hs⟩ := ho.slp
  injection he with h1 h2 h3
  subst h1 h3
  have hcap := hs.cap
  have hmax := hs.max
  clear hb ho hp h2
  by_cases hm0 : 0 ≤ m
  · obtain ⟨j, rfl⟩ := Int.eq_ofNat_of_zero_le hm0
    by_cases hj : j < l.length
    · obtain ⟨b, off, rfl, H⟩ := hs.at_ (by omega)
      have hat := Sealed.at_ (H j l[j] (List.getElem?_eq_getElem hj))
      have h0 : w.cell? ⟨b, off + j * 2, none⟩ = some (.int .i64 l[j].Key) := hat.1
      have h1 : w.cell? ⟨b, off + j * 2 + 1, none⟩ = some (.string l[j].Text) := hat.2.1
      have hbl := cell_lt h0
      have hjl : (j : Int) < (l.length : Int) := by omega
      have hv : refValidM l ⟨k, s, (j : Int)⟩ = (l[j].Key == k && l[j].Text.toList == s.toList) := by
        unfold refValidM
        rw [← beq_toListBytes, bytes_beq]
        simp only [Int.toNat_natCast, List.getElem?_eq_getElem hj, Option.some.injEq, hm0, decide_true, Bool.true_and]
        rw [Bool.eq_iff_iff]
        generalize l[j] = X
        cases X
        simp
      have HV := Lib.hid hv
      clear hv hat H hs
      generalize l[j] = X at *
      by_cases hK : X.Key = k
      · have hK1 : (X.Key == k) = true := by simpa using hK
        clear hK
        go_enter Try.func16, Try.ntmps16
        go_wp2_with fail
        go_quiet (fail)
        go_wp2_with fail
        go_ret
        exact ⟨ret_bool (by rw [HV.out, hK1]; simp), ((Below.refl _ w).alloc (Nat.le_refl _) _).drewN _⟩
      · have hK1 : (X.Key == k) = false := by simpa using hK
        clear hK
        go_enter Try.func16, Try.ntmps16
        go_wp2_with fail
        go_quiet (fail)
        go_wp2_with fail
        go_ret
        exact ⟨ret_bool (by rw [HV.out, hK1]; simp), ((Below.refl _ w).alloc (Nat.le_refl _) _).drewN _⟩
    · have hjl : decide ((j : Int) < (l.length : Int)) = false := by simp; omega
      have hjl' : decide (j < l.length) = false := by simp; omega
      have hv : refValidM l ⟨k, s, (j : Int)⟩ = false := by
        unfold refValidM
        have : l[j]? = none := by simp; omega
        simp [this]
      have HV := Lib.hid hv
      clear hv
      go_enter Try.func16, Try.ntmps16
      go_wp2_with fail
      go_quiet (fail)
      go_wp2_with fail
      go_ret
      exact ⟨ret_bool (by rw [HV.out]), ((Below.refl _ w).alloc (Nat.le_refl _) _).drewN _⟩
  · have hm1 : decide (0 ≤ m) = false := by simpa using hm0
    have hv : refValidM l ⟨k, s, m⟩ = false := by simp [refValidM, hm0]
    have HV := Lib.hid hv
    clear hv
    go_enter Try.func16, Try.ntmps16
    go_wp2_with fail
    go_quiet (fail)
    go_wp2_with fail
    go_ret
    exact ⟨ret_bool (by rw [HV.out]), ((Below.refl _ w).alloc (Nat.le_refl _) _).drewN _⟩

theorem refall_any (k0 : Nat) (χ : Col) (w : World) (p : Nat) (l : List Sealed) (hr : RefAt k0 χ w p l) (hl : l.length ≤ 1000000) :
    Calls Try.prog 19 #[.pointer (some ⟨p, 0, none⟩)] w fun e w' => ∃ v, e = .returned v ∧ OwnNew w.heap.size 32 w' v l ∧ Below w.heap.size w w' := by
  obtain ⟨A, c, hb, ho, hp⟩ := hr
  have hp0 : w.cell? ⟨p, 0, none⟩ = some (.slice A l.length c) := hb.cell 0
  have hpl := hb.lt
  obtain ⟨A', c', he, hs⟩ := ho.slp
  injection he with h1 h2 h3
  subst h1 h3
  have Hs := Lib.hid hs
  clear hb ho hp hs h2
  go_enter Try.func19, Try.ntmps19
  go_wp2_with (at_builtin; refine wpList_app (α := Sealed) (k := 1) (χ := fun b => if b = w.heap.size then 1 else 0) (e := 32) (l := []) (l2 := l) rfl (.tmp 3) (.tmp 7) rfl elem22 rfl (Own.empty_new rfl (by simp)) rfl (Hs.out.alloc _) (fun _ _ _ h => Plain.any h) (by omega) (by simp; omega) ?_; intro v1 w1 χ1 hown1 hst1)
  go_ret
  refine ⟨v1, rfl, ⟨χ1, hown1, fun b hb => ?_⟩, ?_⟩
  · rw [hst1.col b (by simp; omega)]; simp; omega
  · exact (((Step.refl [1] _ w).alloc _).trans hst1).below (Nat.le_refl _) fun b hb => by
      have : b ≠ w.heap.size := by omega
      simp [this]
end Go.Proofs.Ytnkpnfmmlkjofaa
