/-
  Layer 5 (seal): the walk of SealMarks: it returns true.
-/
import Derived.Test.YtnkpnfmmlkjofaaSealMakes
import Derived.Deep.DeepCutAuto
import Derived.Deep.RegionHeld3
namespace Go.Proofs.Ytnkpnfmmlkjofaa
open Go.RowKit Go.Lad

/-- what the calls of Sign return, one after the other -/
def resM : List Sealed → List Sealed → List Signed
  | _, [] => []
  | a, e :: l => (signM a e.Key e.Text).2 :: resM (signM a e.Key e.Text).1 l
theorem resM_snoc (l : List Sealed) (e : Sealed) : ∀ a, resM a (l ++ [e]) = resM a l ++ [(signM (signs a l) e.Key e.Text).2] := by
  induction l with
  | nil => intro a; rfl
  | cons x l ih => intro a; simp only [List.cons_append, resM, ih]; rfl
theorem resM_len (l : List Sealed) : ∀ a, (resM a l).length = l.length := by
  induction l with
  | nil => intro a; rfl
  | cons x l ih => intro a; simp [resM, ih]
theorem resM_get (l : List Sealed) : ∀ a i (h : i < l.length), (resM a l)[i]? = some (signM (signs a (l.take i)) l[i].Key l[i].Text).2 := by
  induction l with
  | nil => intro a i h; simp at h
  | cons x l ih =>
    intro a i h
    cases i with
    | zero => simp [resM, signs]
    | succ i =>
      simp only [resM, List.getElem?_cons_succ, List.take_succ_cons, List.getElem_cons_succ]
      exact ih _ i (by simpa using h)
theorem signM_pre (l : List Sealed) (k : Int) (s : ByteArray) : ∃ r, (signM l k s).1 = l ++ r := by
  unfold signM
  split
  · split
    · exact ⟨[], by simp⟩
    · exact ⟨_, rfl⟩
  · exact ⟨[], by simp⟩
theorem signs_pre (l : List Sealed) : ∀ a, ∃ r, signs a l = a ++ r := by
  induction l with
  | nil => intro a; exact ⟨[], by simp [signs]⟩
  | cons e l ih =>
    intro a
    obtain ⟨r1, h1⟩ := signM_pre a e.Key e.Text
    obtain ⟨r2, h2⟩ := ih (signM a e.Key e.Text).1
    exact ⟨r1 ++ r2, by show signs (signM a e.Key e.Text).1 l = _; rw [h2, h1, List.append_assoc]⟩
/-- signing again returns the same and changes nothing -/
theorem signM_again (a r : List Sealed) (k : Int) (s : ByteArray) : signM ((signM a k s).1 ++ r) k s = ((signM a k s).1 ++ r, (signM a k s).2) := by
  by_cases hk : 0 ≤ k ∧ k < 200
  · cases hp : pos a ⟨k, s⟩ with
    | some i =>
      have e1 : signM a k s = (a, ⟨k, s, i⟩) := by simp [signM, hk, hp]
      rw [e1]
      simp [signM, hk, pos_append, hp]
    | none =>
      have e1 : signM a k s = (a ++ [⟨k, s⟩], ⟨k, s, a.length⟩) := by simp [signM, hk, hp]
      rw [e1]
      simp [signM, hk, pos_append, hp, pos]
  · simp [signM, hk]
theorem again (l : List Sealed) (i : Nat) (h : i < l.length) : signM (signs [] l) l[i].Key l[i].Text = (signs [] l, (signM (signs [] (l.take i)) l[i].Key l[i].Text).2) := by
  have h1 : l = l.take i ++ l[i] :: l.drop (i + 1) := by rw [← List.drop_eq_getElem_cons h, List.take_append_drop]
  have h2 : signs [] l = signs (signM (signs [] (l.take i)) l[i].Key l[i].Text).1 (l.drop (i + 1)) := by
    conv => lhs; rw [h1]
    rw [signs_append]; rfl
  obtain ⟨r, hr⟩ := signs_pre (l.drop (i + 1)) (signM (signs [] (l.take i)) l[i].Key l[i].Text).1
  rw [h2, hr]
  exact signM_again _ _ _ _
theorem signM_rd (a : List Sealed) (k : Int) (s : ByteArray) (ha : a.length ≤ 1000000) (hk : I64 k) (hs : s.size ≤ 9223372036854775807) :
    I64 (signM a k s).2.Key ∧ (signM a k s).2.Text.size ≤ 9223372036854775807 ∧ I64 (signM a k s).2.Mark := by
  unfold signM
  split
  · split
    · rename_i i hi
      have := pos_lt hi
      exact ⟨hk, hs, ⟨by show _ ≤ (i : Int); omega, by show (i : Int) ≤ _; omega⟩⟩
    · exact ⟨hk, hs, ⟨by show _ ≤ (a.length : Int); omega, by show (a.length : Int) ≤ _; omega⟩⟩
  · exact ⟨⟨by simp, by simp⟩, by show (0 : Nat) ≤ _; omega, ⟨by simp, by simp⟩⟩
/-- the mark is the index of the entry -/
theorem signM_mark (a : List Sealed) (e : Sealed) (hk : isKey e.Key = true) : ∃ m : Nat, (signM a e.Key e.Text).2 = ⟨e.Key, e.Text, m⟩ ∧ (signM a e.Key e.Text).1[m]? = some e ∧ (e ∉ a → m = a.length) := by
  have hk' : 0 ≤ e.Key ∧ e.Key < 200 := by simpa [isKey] using hk
  cases hp : pos a ⟨e.Key, e.Text⟩ with
  | some i => exact ⟨i, by simp [signM, hk', hp], by simp [signM, hk', hp]; exact (pos_some hp).1, fun h => absurd (List.mem_of_getElem? (pos_some hp).1) h⟩
  | none => exact ⟨a.length, by simp [signM, hk', hp], by simp [signM, hk', hp], fun _ => rfl⟩

theorem Stab.ring (p : Nat) (l : List Sealed) : Stab 1 (fun χ w => RingAt 1 χ w p l) := ⟨by decide, fun T χ w χ' w' h s hk => by
  obtain ⟨⟨A, c, mb, es, clock, hb, ho, hm, h1, h2⟩, hn⟩ := h
  exact ⟨⟨A, c, mb, es, clock, hb.step s (by rw [h1]; exact hk), ho.stepP s hk, hm.frame (s.block _ hm.lt (by rw [h2]; exact hk)), (s.col _ hb.lt).trans h1, (s.col _ hm.lt).trans h2⟩, hn⟩⟩

/-- the law's facts: the ring, what was returned, what is wanted -/
def maFs (p : Nat) (es : List Sealed) (mv : Value) (made : List Signed) (wv : Value) (want : List Sealed) : List (Nat × (Col → World → Prop)) :=
  [(1, fun χ w => RingAt 1 χ w p es), (2, fun χ w => Own 2 χ 24 w mv made), (3, fun χ w => Own 3 χ 32 w wv want)]
def MaSt (w : World) (p : Nat) (es : List Sealed) (mv : Value) (made : List Signed) (wv : Value) (want : List Sealed) (χ : Col) (wr : World) : Prop := LS w [1, 2, 3] (maFs p es mv made wv want) χ wr
section
variable {w : World} {p : Nat} {es : List Sealed} {mv wv : Value} {made : List Signed} {want : List Sealed} {χ χ' : Col} {wr wr' : World}
theorem MaSt.ring (h : MaSt w p es mv made wv want χ wr) : RingAt 1 χ wr p es := LS.get h 0 rfl
theorem MaSt.own2 (h : MaSt w p es mv made wv want χ wr) : Own 2 χ 24 wr mv made := LS.get h 1 rfl
theorem MaSt.own3 (h : MaSt w p es mv made wv want χ wr) : Own 3 χ 32 wr wv want := LS.get h 2 rfl
theorem MaSt.ls (h : MaSt w p es mv made wv want χ wr) : LS w [1, 2, 3] (maFs p es mv made wv want) χ wr := h
theorem MaSt.set1 (h : MaSt w p es mv made wv want χ wr) {es' : List Sealed} (s : Step [1] χ wr χ' wr') (hr : RingAt 1 χ' wr' p es') : MaSt w p es' mv made wv want (clip χ' wr'.heap.size) wr' :=
  LS.set h 0 rfl (by simp [maFs]) (by simp) s (Stab.ring p es') hr.clip
theorem MaSt.set2 (h : MaSt w p es mv made wv want χ wr) {mv' : Value} {made' : List Signed} (s : Step [2] χ wr χ' wr') (hr : Own 2 χ' 24 wr' mv' made') : MaSt w p es mv' made' wv want (clip χ' wr'.heap.size) wr' :=
  LS.set h 1 rfl (by simp [maFs]) (by simp) s (Stab.own 2 (by simp) _ _ _) hr.clip
theorem MaSt.set3 (h : MaSt w p es mv made wv want χ wr) {wv' : Value} {want' : List Sealed} (s : Step [3] χ wr χ' wr') (hr : Own 3 χ' 32 wr' wv' want') : MaSt w p es mv made wv' want' (clip χ' wr'.heap.size) wr' :=
  LS.set h 2 rfl (by simp [maFs]) (by simp) s (Stab.own 3 (by simp) _ _ _) hr.clip
end

/-- what a round's Sign leaves -/
def MaSignd (w : World) (p : Nat) (x : Signed) (es : List Sealed) (mv : Value) (made : List Signed) (wv : Value) (want : List Sealed) (xv : Value) (wx : World) : Prop :=
  ∃ (bx : Nat) (χ' : Col), xv = .pointer (some ⟨bx, 0, none⟩) ∧ MaSt w p es mv made wv want χ' wx ∧ Box 0 χ' wx bx 24 #[.int .i64 x.Key, .string x.Text, .int .i64 x.Mark] ∧ w.heap.size ≤ bx
theorem isKey_iff' {k : Int} : isKey k = true ↔ 0 ≤ k ∧ k < 200 := by simp [isKey]
theorem eql_sealed (W : World) (k k' : Int) (s s' : ByteArray) : (binOp .eql 32 (.agg #[.int .i64 k, .string s]) (.agg #[.int .i64 k', .string s'])).run Try.prog W = .ok (.bool (decide ((⟨k, s⟩ : Sealed) = ⟨k', s'⟩))) W := by
  have h := eq_sealed ⟨k, s⟩ ⟨k', s'⟩ W
  simp only [Sealed.val] at h
  simp only [binOp]
  simp [h]
theorem neq_sealed_same (W : World) (k : Int) (s : ByteArray) : (binOp .neq 32 (.agg #[.int .i64 k, .string s]) (.agg #[.int .i64 k, .string s])).run Try.prog W = .ok (.bool false) W := by
  have h := eq_sealed ⟨k, s⟩ ⟨k, s⟩ W
  simp only [Sealed.val] at h
  simp only [binOp]
  simp [h]

theorem neq_signed_same (W : World) (k m : Int) (s : ByteArray) : (binOp .neq 24 (.agg #[.int .i64 k, .string s, .int .i64 m]) (.agg #[.int .i64 k, .string s, .int .i64 m])).run Try.prog W = .ok (.bool false) W := by
  have h := eq_signed ⟨k, s, m⟩ ⟨k, s, m⟩ W
  simp only [Signed.val] at h
  simp only [binOp]
  simp [h]
theorem all_sl (k0 : Nat) (χ : Col) (w : World) (p : Nat) (l : List Sealed) (hr : RingAt k0 χ w p l) (hl : l.length ≤ 1000000) :
    Calls Try.prog 13 #[.pointer (some ⟨p, 0, none⟩)] w fun e w' => ∃ A c χ', e = .returned (.slice A l.length c) ∧ Sl (In χ' 1) w' A l.length c l ∧ Below w.heap.size w w' :=
  (all_any k0 χ w p l hr hl).mono fun e w' ⟨v, he, ⟨χ', ho, _⟩, hb⟩ => by
    obtain ⟨A, c, rfl, hs⟩ := Own.slp ho
    exact ⟨A, c, χ', he, hs, hb⟩

set_option maxRecDepth 100000 in
set_option maxHeartbeats 4000000 in
theorem marks_any (w : World) (A : Option Addr) (n c : Nat) (l : List Sealed) (hs : Sl (Old w) w A n c l) :
    Calls Try.prog 4 #[.slice A n c] w fun e w' => e = .returned (.bool true) ∧ Below w.heap.size w w' := by
  have hn := hs.len
  have hc := hs.cap
  have hx := hs.max
  have Hn := Lib.hid hn
  have Hs := Lib.hid hs
  clear hn hs
  go_enter Try.func4, Try.ntmps4
  go_wp2_with (go_at_call 7; refine (small_any _).mono ?_; rintro e w1 ⟨rfl, hb1⟩)
  refine (new_n 1 (fun _ => 0) w1).mono ?_
  rintro e w2 ⟨p, χ2, rfl, hst2, hr2, hn2⟩
  have hM : MaSt w p [] (.slice none 0 0) [] (.slice none 0 0) [] χ2 w2 :=
    ⟨by simp, by
      intro x hx
      simp only [maFs, List.mem_cons, List.not_mem_nil, or_false] at hx
      rcases hx with rfl | rfl | rfl
      · exact Stab.ring _ _
      · exact Stab.own 2 (by simp) _ _ _
      · exact Stab.own 3 (by simp) _ _ _, (Step.of_below0 _ hb1).trans (hst2.wide (by simp)), hn2, by
      intro x hx
      simp only [maFs, List.mem_cons, List.not_mem_nil, or_false] at hx
      rcases hx with rfl | rfl | rfl
      · exact hr2
      · exact Own.nil _ _ _ _
      · exact Own.nil _ _ _ _⟩
  have HM := Lib.hid hM
  have hsl : Sl (Old w2) w2 A n c l := (Hs.out.old_below hM.ls.bel).mono fun b h1 _ => by have := hM.ls.size; unfold Old at *; omega
  have Hsl := Lib.hid hsl
  clear hb1 hst2 hr2 hn2 hM hsl
  cases hfew : fewM l 40 with
  | false =>
    have Hfew := Lib.hid hfew
    clear hfew
    go_wp2_with (go_at_call 9; refine (few_any _ A n c l 40 (by omega) Hsl.out).mono ?_; rw [Hfew.out]; rintro e w3 ⟨rfl, rfl⟩)
    go_ret
    exact ⟨rfl, HM.out.ls.bel⟩
  | true =>
    have Hfew := Lib.hid hfew
    clear hfew
    have hn40 : n ≤ 40 := by
      have := Hfew.out
      simp [fewM] at this
      have h := Hn.out
      omega
    go_wp2_with (go_at_call 9; refine (few_any _ A n c l 40 (by omega) Hsl.out).mono ?_; rw [Hfew.out]; rintro e w3 ⟨rfl, rfl⟩)
    go_loopw [5, 6, 7] (fun wv mv iv wr => ∃ (k : Nat) (χr : Col), k ≤ n ∧ iv = .int .i64 k ∧ MaSt w p (signs [] (l.take k)) mv (resM [] (l.take k)) wv (signs [] (l.take k)) χr wr) (fun _ _ iv _ => n - (intOf iv).toNat)
    case atStart => exact ⟨0, χ2, Nat.zero_le _, rfl, by simpa [resM, signs] using HM.out⟩
    case round =>
      obtain ⟨wo, rfl⟩ : ∃ wo : World, wo = wr := ⟨_, rfl⟩
      obtain ⟨k, χr, hk, rfl, hm⟩ := hrel
      have Hm := Lib.hid hm
      clear hm
      by_cases hlt : k < n
      · obtain ⟨b, off, rfl, H⟩ := Hs.out.at_ (by omega)
        have hkl : k < l.length := by rw [Hn.out]; exact hlt
        have hat := Sealed.at_ (H k l[k] (List.getElem?_eq_getElem hkl))
        have hbo : b < w.heap.size := hat.2.2.2.2
        have Hw0 := Lib.hid (show w.cell? ⟨b, off + k * 2, none⟩ = some (.int .i64 l[k].Key) from hat.1)
        have Hw1 := Lib.hid (show w.cell? ⟨b, off + k * 2 + 1, none⟩ = some (.string l[k].Text) from hat.2.1)
        have hT := hat.2.2.2.1
        have hI := Lib.hid hat.2.2.1
        have h0 := (Hm.out.ls.bel.cell (p := ⟨b, off + k * 2, none⟩) hbo).trans Hw0.out
        have h1 := (Hm.out.ls.bel.cell (p := ⟨b, off + k * 2 + 1, none⟩) hbo).trans Hw1.out
        have hwr : w.heap.size ≤ wo.heap.size := Hm.out.ls.size
        have hki : (0 : Int) ≤ (k : Int) := by omega
        have hkn : (k : Int) < (n : Int) := by omega
        clear hat H
        have hsg : signs [] (l.take (k + 1)) = (signM (signs [] (l.take k)) l[k].Key l[k].Text).1 := by
          rw [List.take_succ_eq_append_getElem hkl, signs_append]; rfl
        have hrs : resM [] (l.take (k + 1)) = resM [] (l.take k) ++ [(signM (signs [] (l.take k)) l[k].Key l[k].Text).2] := by
          rw [List.take_succ_eq_append_getElem hkl, resM_snoc]
        have hel : (signs [] (l.take k)).length ≤ 40 := by have := signs_len (l.take k) []; rw [List.length_take] at this; simp at this; omega
        have hrl : (resM [] (l.take k)).length ≤ 40 := by rw [resM_len, List.length_take]; omega
        have hrd := signM_rd (signs [] (l.take k)) l[k].Key l[k].Text (by omega) hI.out hT
        have hmk := signM_mark (signs [] (l.take k)) l[k]
        have hff := signM_fst (signs [] (l.take k)) l[k]
        have hfn := signM_fst_no (signs [] (l.take k)) l[k]
        generalize l[k] = X at *
        generalize (signs [] (l.take k)) = es at *
        generalize (resM [] (l.take k)) = made at *
        obtain ⟨x, hxe⟩ : ∃ x, x = (signM es X.Key X.Text).2 := ⟨_, rfl⟩
        obtain ⟨es', hes⟩ : ∃ es', es' = (signM es X.Key X.Text).1 := ⟨_, rfl⟩
        rw [← hxe] at hrs hrd hmk
        rw [← hes] at hsg hff hfn hmk
        have Hsg := Lib.hid hsg
        have Hrs := Lib.hid hrs
        have Hmk := Lib.hid hmk
        have Hff := Lib.hid hff
        have Hfn := Lib.hid hfn
        have Hrd := Lib.hid hrd
        have hcall : ∀ W, MaSt w p es u6 made u5 es χr W → Calls Try.prog 10 #[.pointer (some ⟨p, 0, none⟩), .int .i64 X.Key, .string X.Text] W fun e w' => e = .returned (.agg #[.int .i64 x.Key, .string x.Text, .int .i64 x.Mark]) ∧
            ∃ χ', MaSt w p es' u6 made u5 es χ' w' ∧ Step [1] χr W χ' w' := by
          intro W hW
          refine (sign_n 1 χr W p es es' X.Key X.Text (.agg #[.int .i64 x.Key, .string x.Text, .int .i64 x.Mark]) hes.symm (by rw [← hxe]; rfl) hW.ring (by omega) hT).mono ?_
          rintro e w' ⟨χ', he, h1, h2, h3⟩
          exact ⟨he, _, hW.set1 h1 h2, h1.clip⟩
        have HcallD := Lib.hid (hcall wo.drew Hm.out.ls.drew)
        have HcallA := Lib.hid (fun o => hcall (wo.alloc o).drew (Hm.out.ls.alloc o).drew)
        have hc2 : ∀ o, (wo.drew.alloc o).cell? ⟨b, off + k * 2, none⟩ = some (.int .i64 X.Key) := fun o => (World.cell?_of_block (Below.heap_alloc wo.drew o b (by show b < wo.heap.size; omega))).trans h0
        have hc3 : ∀ o, (wo.drew.alloc o).cell? ⟨b, off + k * 2 + 1, none⟩ = some (.string X.Text) := fun o => (World.cell?_of_block (Below.heap_alloc wo.drew o b (by show b < wo.heap.size; omega))).trans h1
        clear hxe hes hsg hrs hmk hff hfn hrd hcall
        go_upto_region 10 with fail
        go_cut [8] (MaSignd w p x es' u6 made u5 es)
        case first =>
          go_region_held3 (fun w' => w'.cell? ⟨b, off + k * 2, none⟩ = some (.int .i64 X.Key) ∧ w'.cell? ⟨b, off + k * 2 + 1, none⟩ = some (.string X.Text))
            (first | go_keep | (refine ⟨?_, ?_⟩ <;> assumption))
            (first
              | (go_at_call 10; (with_reducible refine HcallD.out.mono ?_); rintro e w3 ⟨rfl, χ3, hm3, hs3⟩; have q0 := (hm3.ls.bel.cell (p := ⟨b, off + k * 2, none⟩) hbo).trans Hw0.out; have q1 := (hm3.ls.bel.cell (p := ⟨b, off + k * 2 + 1, none⟩) hbo).trans Hw1.out; have hb3 : b < w3.heap.size := Nat.lt_of_lt_of_le hbo hm3.ls.size; have hne3 : ¬ b = w3.heap.size := (by omega); have Hm3 := Lib.hid hm3; have Hs3 := Lib.hid hs3; clear hm3 hs3)
              | (go_at_call 10; (with_reducible refine (HcallA.out _).mono ?_); rintro e w3 ⟨rfl, χ3, hm3, hs3⟩; have q0 := (hm3.ls.bel.cell (p := ⟨b, off + k * 2, none⟩) hbo).trans Hw0.out; have q1 := (hm3.ls.bel.cell (p := ⟨b, off + k * 2 + 1, none⟩) hbo).trans Hw1.out
                 have qb := ((Box.new (χ := χr) (w := wo) (t := 24) (cs := #[.int .i64 0, .string { data := #[] }, .int .i64 0]) rfl Hm.out.norm).drew.step hs3 (by simp))
                 have z0 : w3.cell? ⟨wo.heap.size, 0, none⟩ = some (.int .i64 0) := qb.blk.cell 0
                 have z1 : w3.cell? ⟨wo.heap.size, 1, none⟩ = some (.string { data := #[] }) := qb.blk.cell 1
                 have z2 : w3.cell? ⟨wo.heap.size, 2, none⟩ = some (.int .i64 0) := qb.blk.cell 2
                 have y0 : w3.frozen? ⟨wo.heap.size, 0, none⟩ = false := qb.blk.frozen 0
                 have y1 : w3.frozen? ⟨wo.heap.size, 1, none⟩ = false := qb.blk.frozen 1
                 have y2 : w3.frozen? ⟨wo.heap.size, 2, none⟩ = false := qb.blk.frozen 2
                 have hne : wo.heap.size ≠ b := by omega
                 have Hqb := Lib.hid qb
                 have Hm3 := Lib.hid hm3
                 clear hm3 hs3 qb))
          · go_wp2_with fail
            go_meet
            exact ⟨w3.heap.size, χ3, rfl, Hm3.out.ls.alloc _, Box.new rfl Hm3.out.norm, Hm3.out.ls.size⟩
          · go_wp2_with fail
            go_meet
            refine ⟨wo.heap.size, χ3, rfl, ((Hm3.out.ls.store Hqb.out.col hwr 0 _).store Hqb.out.col hwr 1 _).store Hqb.out.col hwr 2 _, ⟨?_, Hqb.out.col⟩, hwr⟩
            exact ((Hqb.out.blk.set_ 0 (.int .i64 x.Key)).set_ 1 (.string x.Text)).set_ 2 (.int .i64 x.Mark)
        case rest =>
          clear h0 h1 hc2 hc3
          obtain ⟨bx, χ3, rfl, hm3, hbx3, hbw⟩ := hcut
          have Hm3 := Lib.hid hm3
          have Hbx3 := Lib.hid hbx3
          clear hm3 hbx3
          have b0 : wc.cell? ⟨bx, 0, none⟩ = some (.int .i64 x.Key) := Hbx3.out.blk.cell 0
          have b1 : wc.cell? ⟨bx, 1, none⟩ = some (.string x.Text) := Hbx3.out.blk.cell 1
          have b2 : wc.cell? ⟨bx, 2, none⟩ = some (.int .i64 x.Mark) := Hbx3.out.blk.cell 2
          go_upto_region 11 with fail
          go_cut [6] (fun mv' wx => MaSignd w p x es' mv' (made ++ [x]) u5 es (.pointer (some ⟨bx, 0, none⟩)) wx)
          case first =>
            go_wp2_with (at_builtin; refine wpList_app (α := Signed) rfl (.tmp 44) (.tmp 46) rfl elem29 rfl (Hm3.out.own2.alloc _) rfl (Sl.new1 x (by simp) (Signed.mk_rd Hrd.out.1 Hrd.out.2.1 Hrd.out.2.2)) (fun _ _ _ h => Plain.any h) (by omega) (by simp; omega) ?_; intro v4 w4 χ4 hown4 hst4)
            go_meet
            exact ⟨bx, _, rfl, MaSt.set2 (Hm3.out.ls.alloc _) hst4 hown4, (Hbx3.out.alloc _).step hst4.clip (by simp), hbw⟩
          case rest =>
            clear b0 b1 b2
            obtain ⟨bx', χ5, hbe, hm5, hbx5, hbw5⟩ := hcut
            injection hbe with hbe
            injection hbe with hbe
            injection hbe with hbe
            subst hbe
            have Hm5 := Lib.hid hm5
            have Hbx5 := Lib.hid hbx5
            have c0 : wc.cell? ⟨b, off + k * 2, none⟩ = some (.int .i64 X.Key) := (hm5.ls.bel.cell (p := ⟨b, off + k * 2, none⟩) hbo).trans Hw0.out
            have c1 : wc.cell? ⟨b, off + k * 2 + 1, none⟩ = some (.string X.Text) := (hm5.ls.bel.cell (p := ⟨b, off + k * 2 + 1, none⟩) hbo).trans Hw1.out
            clear hm5 hbx5 Hm3 Hbx3
            obtain ⟨mv5, rfl⟩ : ∃ mv5 : Value, mv5 = u6 := ⟨_, rfl⟩
            cases hkey : isKey X.Key with
            | false =>
              have hee : es' = es := Hfn.out hkey
              have hnk : ¬ (0 ≤ X.Key ∧ X.Key < 200) := fun h => by rw [isKey_iff'.2 h] at hkey; cases hkey
              have hfin : MaSt w p (signs [] (l.take (k + 1))) mv5 (resM [] (l.take (k + 1))) u5 (signs [] (l.take (k + 1))) χ5 wc := by
                rw [Hsg.out, Hrs.out]
                have := Hm5.out
                rw [hee] at this ⊢
                exact this
              have Hfin := Lib.hid hfin
              clear hkey hee hfin
              by_cases hk0 : X.Key < 0
              · go_wp2_with fail
                go_roundw
                case rel => exact ⟨k + 1, χ5, by omega, by go_num, Hfin.out⟩
                case measure => simp [intOf]; omega
              · have hk0' : decide (X.Key < 0) = false := by simpa using hk0
                have hk1 : 200 ≤ X.Key := by omega
                go_wp2_with fail
                go_roundw
                case rel => exact ⟨k + 1, χ5, by omega, by go_num, Hfin.out⟩
                case measure => simp [intOf]; omega
            | true =>
              have hk2 := isKey_iff'.1 hkey
              obtain ⟨hka, hkb⟩ := hk2
              have hka' : decide (X.Key < 0) = false := by simp; omega
              have hkb' : ¬ 200 ≤ X.Key := by omega
              obtain ⟨m, hx1, hx2, hx3⟩ := Hmk.out hkey
              have Hee := Lib.hid (Hff.out hkey)
              have Hm1 := Lib.hid hx2
              have Hm2 := Lib.hid hx3
              subst hx1
              obtain ⟨A5, c5, hav, hsl5⟩ := (MaSt.own3 Hm5.out).slp
              subst hav
              have Hsl5 := Lib.hid hsl5
              have hc5 := hsl5.cap
              have hx5 := hsl5.max
              have heq := eql_sealed
              clear hkey hx2 hx3 hsl5
              go_wp2_with fail
              go_loopw [9, 10] (fun bv qv wx => ∃ q j : Nat, q ≤ es.length ∧ qv = .int .i64 q ∧ bv = .bool (decide (X ∈ es.take q)) ∧ wx = wc.drewN j) (fun _ qv _ => es.length - (intOf qv).toNat)
              case atStart => exact ⟨0, 0, Nat.zero_le _, rfl, by simp, rfl⟩
              case round =>
                obtain ⟨q, j, hq, rfl, rfl, rfl⟩ := hrel
                by_cases hql : q < es.length
                · obtain ⟨b10, off10, hA10, H10⟩ := Hsl5.out.at_ (by omega)
                  subst hA10
                  have hat10 := Sealed.at_ (H10 q es[q] (List.getElem?_eq_getElem hql))
                  have y0 : wc.cell? ⟨b10, off10 + q * 2, none⟩ = some (.int .i64 es[q].Key) := hat10.1
                  have y1 : wc.cell? ⟨b10, off10 + q * 2 + 1, none⟩ = some (.string es[q].Text) := hat10.2.1
                  have hqq : (0 : Int) ≤ (q : Int) := by omega
                  have hql' : (q : Int) < (es.length : Int) := by omega
                  have hnext : decide (X ∈ es.take (q + 1)) = (decide (X ∈ es.take q) || decide ((⟨es[q].Key, es[q].Text⟩ : Sealed) = ⟨X.Key, X.Text⟩)) := by
                    rw [List.take_succ_eq_append_getElem hql]
                    rw [Bool.eq_iff_iff]
                    simp only [List.mem_append, List.mem_singleton, Bool.or_eq_true, decide_eq_true_eq]
                    have e1 : (⟨es[q].Key, es[q].Text⟩ : Sealed) = es[q] := rfl
                    have e2 : (⟨X.Key, X.Text⟩ : Sealed) = X := rfl
                    rw [e1, e2]
                    exact ⟨fun h => h.imp id Eq.symm, fun h => h.imp id Eq.symm⟩
                  clear hat10 H10
                  generalize es[q] = Y at *
                  generalize decide (X ∈ es.take q) = bb at *
                  have Hnext := Lib.hid hnext
                  clear hnext
                  cases bb with
                  | true =>
                    go_wp2_with fail
                    go_quiet (fail)
                    go_wp2_with fail
                    go_roundw
                    case rel => exact ⟨q + 1, _, by omega, by go_num, by rw [Hnext.out]; rfl, rfl⟩
                    case measure => simp [intOf]; omega
                  | false =>
                    go_wp2_with fail
                    go_quiet (fail)
                    go_wp2_with fail
                    go_roundw
                    case rel => exact ⟨q + 1, _, by omega, by go_num, by rw [Hnext.out]; simp, rfl⟩
                    case measure => simp [intOf]; omega
                · have hqe : q = es.length := by omega
                  subst hqe
                  obtain ⟨W, hW⟩ : ∃ W, W = wc.drewN j := ⟨_, rfl⟩
                  rw [List.take_length, ← hW]
                  have hm6 : MaSt w p es' mv5 (made ++ [⟨X.Key, X.Text, (m : Nat)⟩]) (.slice A5 es.length c5) es χ5 W := by rw [hW]; exact Hm5.out.ls.drewN j
                  have hbx6 : Box 0 χ5 W bx 24 #[.int .i64 X.Key, .string X.Text, .int .i64 (m : Nat)] := by rw [hW]; exact Hbx5.out.drewN j
                  clear hW c0 c1
                  by_cases hin : X ∈ es
                  · have hd : decide (X ∈ es) = true := by simpa using hin
                    rw [hd]
                    have hee : es' = es := by rw [Hee.out, if_pos hin]
                    obtain ⟨wc, rfl⟩ : ∃ wc : World, wc = W := ⟨_, rfl⟩
                    obtain ⟨χ6, rfl⟩ : ∃ χ6 : Col, χ6 = χ5 := ⟨_, rfl⟩
                    have hm6' : MaSt w p es' mv5 (made ++ [⟨X.Key, X.Text, (m : Nat)⟩]) (.slice A5 es'.length c5) es' χ6 wc := by rw [hee] at hm6 ⊢; exact hm6
                    have Hm6 := Lib.hid hm6'
                    have Hbx6 := Lib.hid hbx6
                    have hlen : es.length = es'.length := by rw [hee]
                    rw [hlen] at *
                    clear hm6 hbx6 hm6' hd hin hee
                    have hml : m < es'.length := (List.getElem?_eq_some_iff.1 Hm1.out).1
                    obtain ⟨A6, c6, he6, hsl6⟩ := (MaSt.own3 Hm6.out).slp
                    injection he6 with e1 e2 e3
                    subst e1 e3
                    clear e2
                    have Hsl6 := Lib.hid hsl6
                    obtain ⟨b6, off6, hA6, H6⟩ := hsl6.at_ (by omega)
                    subst hA6
                    have hat6 := Sealed.at_ (H6 m X Hm1.out)
                    have y0 : wc.cell? ⟨b6, off6 + m * 2, none⟩ = some (.int .i64 X.Key) := hat6.1
                    have y1 : wc.cell? ⟨b6, off6 + m * 2 + 1, none⟩ = some (.string X.Text) := hat6.2.1
                    have c0 : wc.cell? ⟨b, off + k * 2, none⟩ = some (.int .i64 X.Key) := (Hm6.out.ls.bel.cell (p := ⟨b, off + k * 2, none⟩) hbo).trans Hw0.out
                    have c1 : wc.cell? ⟨b, off + k * 2 + 1, none⟩ = some (.string X.Text) := (Hm6.out.ls.bel.cell (p := ⟨b, off + k * 2 + 1, none⟩) hbo).trans Hw1.out
                    have d0 : wc.cell? ⟨bx, 0, none⟩ = some (.int .i64 X.Key) := Hbx6.out.blk.cell 0
                    have d1 : wc.cell? ⟨bx, 1, none⟩ = some (.string X.Text) := Hbx6.out.blk.cell 1
                    have d2 : wc.cell? ⟨bx, 2, none⟩ = some (.int .i64 (m : Nat)) := Hbx6.out.blk.cell 2
                    have hm0 : ¬ ((m : Int) < 0) := by omega
                    have hm0' : decide ((m : Int) < 0) = false := by simp
                    have hmn : ¬ ((es'.length : Int) ≤ (m : Int)) := by omega
                    have hmp : (0 : Int) ≤ (m : Int) := by omega
                    have hmq : (m : Int) < (es'.length : Int) := by omega
                    have hnq := fun W => neq_sealed_same W X.Key X.Text
                    go_wp2_with fail
                    go_quiet (fail)
                    go_wp2_with fail
                    go_roundw
                    case rel => exact ⟨k + 1, χ6, by omega, by go_num, by rw [Hsg.out, Hrs.out]; exact Hm6.out.ls.drewN _⟩
                    case measure => simp [intOf]; omega
                  · have hd : decide (X ∈ es) = false := by simpa using hin
                    rw [hd]
                    have hee : es' = es ++ [X] := by rw [Hee.out, if_neg hin]
                    have hmm : m = es.length := Hm2.out hin
                    obtain ⟨wq, rfl⟩ : ∃ wq : World, wq = W := ⟨_, rfl⟩
                    have Hee' := Lib.hid hee
                    have Hmm := Lib.hid hmm
                    have Hm6 := Lib.hid hm6
                    have Hbx6 := Lib.hid hbx6
                    have c0 : wq.cell? ⟨b, off + k * 2, none⟩ = some (.int .i64 X.Key) := (hm6.ls.bel.cell (p := ⟨b, off + k * 2, none⟩) hbo).trans Hw0.out
                    have c1 : wq.cell? ⟨b, off + k * 2 + 1, none⟩ = some (.string X.Text) := (hm6.ls.bel.cell (p := ⟨b, off + k * 2 + 1, none⟩) hbo).trans Hw1.out
                    clear hd hin hee hmm hm6 hbx6
                    go_upto_region 19 with fail
                    go_cut [5] (fun wv' wx => ∃ χ6, MaSt w p es' mv5 (made ++ [⟨X.Key, X.Text, (m : Nat)⟩]) wv' es' χ6 wx ∧ Box 0 χ6 wx bx 24 #[.int .i64 X.Key, .string X.Text, .int .i64 (m : Nat)])
                    case first =>
                      go_wp2_with (at_builtin; refine wpList_app (α := Sealed) rfl (.tmp 82) (.tmp 87) rfl elem22 rfl ((MaSt.own3 Hm6.out).alloc _) rfl (Sl.new1 X (by simp) (Sealed.mk_rd hI.out hT)) (fun _ _ _ h => Plain.any h) (by omega) (by simp; omega) ?_; intro v7 w7 χ7 hown7 hst7)
                      go_meet
                      exact ⟨_, MaSt.set3 (Hm6.out.ls.alloc _) hst7 (by rw [Hee'.out]; exact hown7), (Hbx6.out.alloc _).step hst7.clip (by simp)⟩
                    case rest =>
                      obtain ⟨χ6, hm6, hbx6⟩ := hcut
                      have Hm6 := Lib.hid hm6
                      have Hbx6 := Lib.hid hbx6
                      obtain ⟨A5, c5, hav, hsl5⟩ := (MaSt.own3 hm6).slp
                      subst hav
                      have hc5 := hsl5.cap
                      have hx5 := hsl5.max
                      clear c0 c1 hm6 hbx6 hsl5
                      have hme : ((m : Int) != (es'.length : Int) - 1) = false := by rw [Hee'.out, Hmm.out]; simp
                      have hml : m < es'.length := (List.getElem?_eq_some_iff.1 Hm1.out).1
                      obtain ⟨A6, c6, he6, hsl6⟩ := (MaSt.own3 Hm6.out).slp
                      injection he6 with e1 e2 e3
                      subst e1 e3
                      clear e2
                      have Hsl6 := Lib.hid hsl6
                      obtain ⟨b6, off6, hA6, H6⟩ := hsl6.at_ (by omega)
                      subst hA6
                      have hat6 := Sealed.at_ (H6 m X Hm1.out)
                      have y0 : wc.cell? ⟨b6, off6 + m * 2, none⟩ = some (.int .i64 X.Key) := hat6.1
                      have y1 : wc.cell? ⟨b6, off6 + m * 2 + 1, none⟩ = some (.string X.Text) := hat6.2.1
                      have c0 : wc.cell? ⟨b, off + k * 2, none⟩ = some (.int .i64 X.Key) := (Hm6.out.ls.bel.cell (p := ⟨b, off + k * 2, none⟩) hbo).trans Hw0.out
                      have c1 : wc.cell? ⟨b, off + k * 2 + 1, none⟩ = some (.string X.Text) := (Hm6.out.ls.bel.cell (p := ⟨b, off + k * 2 + 1, none⟩) hbo).trans Hw1.out
                      have d0 : wc.cell? ⟨bx, 0, none⟩ = some (.int .i64 X.Key) := Hbx6.out.blk.cell 0
                      have d1 : wc.cell? ⟨bx, 1, none⟩ = some (.string X.Text) := Hbx6.out.blk.cell 1
                      have d2 : wc.cell? ⟨bx, 2, none⟩ = some (.int .i64 (m : Nat)) := Hbx6.out.blk.cell 2
                      have hm0 : ¬ ((m : Int) < 0) := by omega
                      have hm0' : decide ((m : Int) < 0) = false := by simp
                      have hmn : ¬ ((es'.length : Int) ≤ (m : Int)) := by omega
                      have hmp : (0 : Int) ≤ (m : Int) := by omega
                      have hmq : (m : Int) < (es'.length : Int) := by omega
                      have hnq := fun W => neq_sealed_same W X.Key X.Text
                      go_wp2_with fail
                      go_quiet (fail)
                      go_wp2_with fail
                      go_roundw
                      case rel => exact ⟨k + 1, χ6, by omega, by go_num, by rw [Hsg.out, Hrs.out]; exact Hm6.out.ls.drewN _⟩
                      case measure => simp [intOf]; omega
      · have hkn : k = n := by omega
        subst hkn
        have htk : l.take k = l := List.take_of_length_le (by rw [Hn.out]; omega)
        have hm := Hm.out
        rw [htk] at hm
        have hel : (signs [] l).length ≤ 40 := by have := signs_len l []; rw [Hn.out] at this; simp at this; omega
        have hml : (resM [] l).length = k := by rw [resM_len, Hn.out]
        have hag := again l
        have hrg := resM_get l []
        generalize (signs [] l) = es at *
        generalize (resM [] l) = made at *
        obtain ⟨A5, c5, hav, hsl5⟩ := (MaSt.own3 hm).slp
        subst hav
        have Hag := Lib.hid hag
        have Hrg := Lib.hid hrg
        have Hml := Lib.hid hml
        have Hm1 := Lib.hid hm
        clear hm hag hrg hml htk hsl5 Hm
        go_wp2_with (first
          | (go_at_call 13; refine (all_sl 1 χr wo p es (MaSt.ring Hm1.out) (by omega)).mono ?_; rintro e w3 ⟨A6, c6, χ6, rfl, hs6, hb6⟩
             have hm6 := Hm1.out.ls.below hb6; obtain ⟨A7, c7, he7, hs7⟩ := (MaSt.own3 hm6).slp; injection he7 with e1 e2 e3; subst e1 e3; have Hm6 := Lib.hid hm6; have Hs6 := Lib.hid hs6; have Hs7 := Lib.hid hs7; clear hm6 hs6 hs7 hb6 e2)
          | (go_at_call 12; refine (same_any _ _ _ _ _ _ _ _ _ Hs6.out Hs7.out).mono ?_; rw [decide_eq_true rfl]; rintro e w4 ⟨rfl, hb4⟩))
        have Hm4 := Lib.hid (show MaSt w p es u6 made (.slice A5 es.length c5) es χr _ from Hm6.out.below hb4)
        clear hb4
        go_loopw [11] (fun iv wx => ∃ (j : Nat) (χj : Col), j ≤ k ∧ iv = .int .i64 j ∧ MaSt w p es u6 made (.slice A5 es.length c5) es χj wx) (fun iv _ => k - (intOf iv).toNat)
        case atStart => exact ⟨0, χr, Nat.zero_le _, rfl, Hm4.out⟩
        case round =>
          obtain ⟨wp, rfl⟩ : ∃ wp : World, wp = wr := ⟨_, rfl⟩
          obtain ⟨j, χj, hj, rfl, hm7⟩ := hrel
          have Hm7 := Lib.hid hm7
          clear hm7
          by_cases hjl : j < k
          · obtain ⟨b, off, rfl, H⟩ := Hs.out.at_ (by omega)
            have hjll : j < l.length := by rw [Hn.out]; exact hjl
            have hat := Sealed.at_ (H j l[j] (List.getElem?_eq_getElem hjll))
            have hbo : b < w.heap.size := hat.2.2.2.2
            have Hw0 := Lib.hid (show w.cell? ⟨b, off + j * 2, none⟩ = some (.int .i64 l[j].Key) from hat.1)
            have Hw1 := Lib.hid (show w.cell? ⟨b, off + j * 2 + 1, none⟩ = some (.string l[j].Text) from hat.2.1)
            have hT := hat.2.2.2.1
            have h0 := (Hm7.out.ls.bel.cell (p := ⟨b, off + j * 2, none⟩) hbo).trans Hw0.out
            have h1 := (Hm7.out.ls.bel.cell (p := ⟨b, off + j * 2 + 1, none⟩) hbo).trans Hw1.out
            obtain ⟨A8, c8, hav, hsl8⟩ := (MaSt.own2 Hm7.out).slp
            subst hav
            have hc8 := hsl8.cap
            have hx8 := hsl8.max
            have hml := Hml.out
            obtain ⟨b8, off8, rfl, H8⟩ := hsl8.at_ (by omega)
            have hg := Hrg.out j hjll
            have hag := Hag.out j hjll
            generalize (signM (signs [] (l.take j)) l[j].Key l[j].Text).2 = x at *
            generalize l[j] = X at *
            have hat8 := Signed.at_ (H8 j x hg)
            have g0 : wp.cell? ⟨b8, off8 + j * 3, none⟩ = some (.int .i64 x.Key) := hat8.1
            have g1 : wp.cell? ⟨b8, off8 + j * 3 + 1, none⟩ = some (.string x.Text) := hat8.2.1
            have g2 : wp.cell? ⟨b8, off8 + j * 3 + 2, none⟩ = some (.int .i64 x.Mark) := hat8.2.2.1
            have hcol : χj b8 = 2 := hat8.2.2.2.2.2.2
            have hblk : ∀ χ3 (w3 : World) i, Step [1] χj wp.drew χ3 w3 → w3.cell? ⟨b8, i, none⟩ = wp.cell? ⟨b8, i, none⟩ := fun _ _ i s => World.cell?_of_block (a := ⟨b8, i, none⟩) (s.block b8 (cell_lt g0) (by rw [hcol]; simp))
            have Hblk := Lib.hid hblk
            have hcall : Calls Try.prog 10 #[.pointer (some ⟨p, 0, none⟩), .int .i64 X.Key, .string X.Text] wp.drew fun e w' => e = .returned (.agg #[.int .i64 x.Key, .string x.Text, .int .i64 x.Mark]) ∧
                ∃ χ', MaSt w p es (.slice (some ⟨b8, off8, none⟩) made.length c8) made (.slice A5 es.length c5) es χ' w' ∧ Step [1] χj wp.drew χ' w' := by
              refine (sign_n 1 χj _ p es es X.Key X.Text (.agg #[.int .i64 x.Key, .string x.Text, .int .i64 x.Mark]) (by rw [hag]) (by rw [hag]; rfl) (MaSt.ring Hm7.out.ls.drew) (by omega) hT).mono ?_
              rintro e w' ⟨χ', he, h1, h2, h3⟩
              exact ⟨he, _, MaSt.set1 Hm7.out.ls.drew h1 h2, h1.clip⟩
            have HcallD := Lib.hid hcall
            have hki : (0 : Int) ≤ (j : Int) := by omega
            have hkn : (j : Int) < (k : Int) := by omega
            have hkm : (j : Int) < (made.length : Int) := by omega
            have hnq := fun W => neq_signed_same W x.Key x.Mark x.Text
            clear hat H hat8 H8 hsl8 hcall hblk hag hg hml
            go_upto_region 29 with fail
            go_region_held3 (fun w' => w'.cell? ⟨b, off + j * 2, none⟩ = some (.int .i64 X.Key) ∧ w'.cell? ⟨b, off + j * 2 + 1, none⟩ = some (.string X.Text) ∧ w'.cell? ⟨b8, off8 + j * 3, none⟩ = some (.int .i64 x.Key) ∧ w'.cell? ⟨b8, off8 + j * 3 + 1, none⟩ = some (.string x.Text) ∧ w'.cell? ⟨b8, off8 + j * 3 + 2, none⟩ = some (.int .i64 x.Mark))
              (first | go_keep | (refine ⟨?_, ?_, ?_, ?_, ?_⟩ <;> assumption))
              (first | (go_at_call 10; (with_reducible refine HcallD.out.mono ?_); rintro e w3 ⟨rfl, χ3, hm3, hs3⟩; have q0 := (hm3.ls.bel.cell (p := ⟨b, off + j * 2, none⟩) hbo).trans Hw0.out; have q1 := (hm3.ls.bel.cell (p := ⟨b, off + j * 2 + 1, none⟩) hbo).trans Hw1.out; have q2 := (Hblk.out _ _ (off8 + j * 3) hs3).trans g0; have q3 := (Hblk.out _ _ (off8 + j * 3 + 1) hs3).trans g1; have q4 := (Hblk.out _ _ (off8 + j * 3 + 2) hs3).trans g2; have Hm3 := Lib.hid hm3; clear hm3 hs3))
            all_goals
              go_wp2_with fail
              go_roundw
              case rel => exact ⟨j + 1, χ3, by omega, by go_num, Hm3.out⟩
              case measure => simp [intOf]; omega
          · obtain ⟨A9, c9, he9, hsl9⟩ := (MaSt.own3 Hm7.out).slp
            injection he9 with e1 e2 e3
            subst e1 e3
            clear e2 hsl9
            go_wp2_with (first
              | (go_at_call 13; refine (all_sl 1 χj wp p es (MaSt.ring Hm7.out) (by omega)).mono ?_; rintro e w3 ⟨A6, c6, χ6, rfl, hs6, hb6⟩
                 have hm6 := Hm7.out.ls.below hb6; obtain ⟨A7, c7, he7, hs7⟩ := (MaSt.own3 hm6).slp; injection he7 with e1 e2 e3; subst e1 e3; have Hm6 := Lib.hid hm6; have Hs6 := Lib.hid hs6; have Hs7 := Lib.hid hs7; clear hm6 hs6 hs7 hb6 e2)
              | (go_at_call 12; refine (same_any _ _ _ _ _ _ _ _ _ Hs6.out Hs7.out).mono ?_; rw [decide_eq_true rfl]; rintro e w5 ⟨rfl, hb5⟩; have Hm8 := Lib.hid (Hm6.out.below hb5); clear hb5))
            go_ret
            exact ⟨rfl, Hm8.out.bel⟩
end Go.Proofs.Ytnkpnfmmlkjofaa
