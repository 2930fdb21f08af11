/-
  Layer 5 (seal): the walk of SealTells: it returns true.
-/
import Derived.Test.YtnkpnfmmlkjofaaSealMarks
namespace Go.Proofs.Ytnkpnfmmlkjofaa
open Go.RowKit Go.Lad

theorem Stab.ref (k : Nat) (hk : k ≠ 0) (p : Nat) (l : List Sealed) : Stab k (fun χ w => RefAt k χ w p l) := ⟨hk, fun T χ w χ' w' h s hk => by
  obtain ⟨A, c, hb, ho, h1⟩ := h
  exact ⟨A, c, hb.step s (by rw [h1]; exact hk), ho.stepP s hk, (s.col _ hb.lt).trans h1⟩⟩
/-- the law's facts: the reference's ring, the ring, the signature's box -/
def teFs (p q g : Nat) (s : Signed) (es es' : List Sealed) : List (Nat × (Col → World → Prop)) :=
  [(2, fun χ w => RefAt 2 χ w q es), (1, fun χ w => RingAt 1 χ w p es'), (3, fun χ w => Box 3 χ w g 24 #[.int .i64 s.Key, .string s.Text, .int .i64 s.Mark])]
def TeSt (w : World) (p q g : Nat) (s : Signed) (es es' : List Sealed) (χ : Col) (wr : World) : Prop := LS w [1, 2, 3] (teFs p q g s es es') χ wr
section
variable {w : World} {p q g : Nat} {s : Signed} {es es' es2 : List Sealed} {χ χ' : Col} {wr wr' : World}
theorem TeSt.ref (h : TeSt w p q g s es es' χ wr) : RefAt 2 χ wr q es := LS.get h 0 rfl
theorem TeSt.ring (h : TeSt w p q g s es es' χ wr) : RingAt 1 χ wr p es' := LS.get h 1 rfl
theorem TeSt.box (h : TeSt w p q g s es es' χ wr) : Box 3 χ wr g 24 #[.int .i64 s.Key, .string s.Text, .int .i64 s.Mark] := LS.get h 2 rfl
theorem TeSt.ls (h : TeSt w p q g s es es' χ wr) : LS w [1, 2, 3] (teFs p q g s es es') χ wr := h
theorem TeSt.set1 (h : TeSt w p q g s es es' χ wr) (st : Step [1] χ wr χ' wr') (hr : RingAt 1 χ' wr' p es2) : TeSt w p q g s es es2 (clip χ' wr'.heap.size) wr' :=
  LS.set h 1 rfl (by simp [teFs]) (by simp) st (Stab.ring p es2) hr.clip
theorem TeSt.set2 (h : TeSt w p q g s es es' χ wr) (st : Step [2] χ wr χ' wr') (hr : RefAt 2 χ' wr' q es2) : TeSt w p q g s es2 es' (clip χ' wr'.heap.size) wr' :=
  LS.set h 0 rfl (by simp [teFs]) (by simp) st (Stab.ref 2 (by simp) q es2) hr.clip
end

theorem refvalid_n (k0 : Nat) (χ : Col) (w : World) (p : Nat) (l : List Sealed) (k m : Int) (s : ByteArray) (b : Bool) (hn : l.Nodup) (hv : validM l ⟨k, s, m⟩ = b) (hr : RefAt k0 χ w p l) :
    Calls Try.prog 16 #[.pointer (some ⟨p, 0, none⟩), .agg #[.int .i64 k, .string s, .int .i64 m]] w fun e w' => e = .returned (.bool b) ∧ Below w.heap.size w w' := by
  rw [← refValid_eq l hn] at hv
  subst hv
  exact refvalid_any k0 χ w p l k m s hr

theorem refall_sl (k0 : Nat) (χ : Col) (w : World) (p : Nat) (l : List Sealed) (hr : RefAt k0 χ w p l) (hl : l.length ≤ 1000000) :
    Calls Try.prog 19 #[.pointer (some ⟨p, 0, none⟩)] w fun e w' => ∃ A c χ', e = .returned (.slice A l.length c) ∧ Sl (In χ' 1) w' A l.length c l ∧ Below w.heap.size w w' :=
  (refall_any k0 χ w p l hr hl).mono fun e w' ⟨v, he, ⟨χ', ho, _⟩, hb⟩ => by
    obtain ⟨A, c, rfl, hs⟩ := Own.slp ho
    exact ⟨A, c, χ', he, hs, hb⟩
theorem LS.ringNew {w : World} {T : List Nat} {fs : List (Nat × (Col → World → Prop))} {χ : Col} {wr wr' : World} {p : Nat} {l : List Sealed} (h : LS w T fs χ wr) (k : Nat) (hk : k ≠ 0) (hb : Below wr.heap.size wr wr') (hr : RingNew wr.heap.size wr' p l) :
    ∃ χ', LS w T ((k, fun χ w => RingAt k χ w p l) :: fs) χ' wr' := by
  obtain ⟨χ', hs, hr'⟩ := hr.col hb χ k
  exact ⟨_, (h.quiet hs.clip (clip_norm _ _)).more ⟨hk, fun T χ w χ' w' h s ht => ringStepP h s ht⟩ hr'.clip⟩
theorem LS.refNew {w : World} {T : List Nat} {fs : List (Nat × (Col → World → Prop))} {χ : Col} {wr wr' : World} {p : Nat} {l : List Sealed} (h : LS w T fs χ wr) (k : Nat) (hk : k ≠ 0) (hb : Below wr.heap.size wr wr') (hr : RefNew wr.heap.size wr' p l) :
    ∃ χ', LS w T ((k, fun χ w => RefAt k χ w p l) :: fs) χ' wr' := by
  obtain ⟨χ', hs, hr'⟩ := hr.col hb χ k
  exact ⟨_, (h.quiet hs.clip (clip_norm _ _)).more (Stab.ref k hk p l) hr'.clip⟩

theorem open_ok (w : World) (A : Option Addr) (n c : Nat) (l : List Sealed) (hs : Sl (Old w) w A n c l) (hl : l.length ≤ 500000) (he : openErr l = 0) :
    Calls Try.prog 17 #[.slice A n c] w fun e w' => ∃ p, e = .returned (.tuple #[.pointer (some ⟨p, 0, none⟩), .int .i64 0]) ∧ RingNew w.heap.size w' p l ∧ Below w.heap.size w w' :=
  (open_any w A n c l hs hl).mono fun e w' ⟨hb, h⟩ => by
    rcases h with ⟨_, p, h1, h2⟩ | ⟨h1, _⟩
    · exact ⟨p, h1, h2, hb⟩
    · exact absurd he h1
theorem open_no (w : World) (A : Option Addr) (n c : Nat) (l : List Sealed) (v : Int) (hs : Sl (Old w) w A n c l) (hl : l.length ≤ 500000) (he : openErr l ≠ 0) (hv : openErr l = v) :
    Calls Try.prog 17 #[.slice A n c] w fun e w' => e = .returned (.tuple #[.pointer none, .int .i64 v]) ∧ Below w.heap.size w w' :=
  (open_any w A n c l hs hl).mono fun e w' ⟨hb, h⟩ => by
    rcases h with ⟨h1, _⟩ | ⟨_, h2⟩
    · exact absurd h1 he
    · exact ⟨by rw [← hv]; exact h2, hb⟩
theorem refopen_ok (w : World) (A : Option Addr) (n c : Nat) (l : List Sealed) (hs : Sl (Old w) w A n c l) (hl : l.length ≤ 500000) (he : openErr l = 0) :
    Calls Try.prog 18 #[.slice A n c] w fun e w' => ∃ p, e = .returned (.tuple #[.pointer (some ⟨p, 0, none⟩), .int .i64 0]) ∧ RefNew w.heap.size w' p l ∧ Below w.heap.size w w' :=
  (refopen_any w A n c l hs hl).mono fun e w' ⟨hb, h⟩ => by
    rcases h with ⟨_, p, h1, h2⟩ | ⟨h1, _⟩
    · exact ⟨p, h1, h2, hb⟩
    · exact absurd he h1
theorem refopen_no (w : World) (A : Option Addr) (n c : Nat) (l : List Sealed) (v : Int) (hs : Sl (Old w) w A n c l) (hl : l.length ≤ 500000) (he : openErr l ≠ 0) (hv : openErr l = v) :
    Calls Try.prog 18 #[.slice A n c] w fun e w' => e = .returned (.tuple #[.pointer none, .int .i64 v]) ∧ Below w.heap.size w w' :=
  (refopen_any w A n c l hs hl).mono fun e w' ⟨hb, h⟩ => by
    rcases h with ⟨h1, _⟩ | ⟨_, h2⟩
    · exact absurd h1 he
    · exact ⟨by rw [← hv]; exact h2, hb⟩
/-- with the two opened rings -/
def Te5 (w : World) (p q g : Nat) (s : Signed) (es : List Sealed) (p2 q2 : Nat) (l : List Sealed) (χ : Col) (wr : World) : Prop :=
  LS w [1, 2, 3] ((5, fun χ w => RefAt 5 χ w q2 l) :: (4, fun χ w => RingAt 4 χ w p2 l) :: teFs p q g s es es) χ wr
section
variable {w : World} {p q g : Nat} {s : Signed} {es : List Sealed} {p2 q2 : Nat} {l : List Sealed} {χ : Col} {wr wr' : World}
theorem Te5.ref2 (h : Te5 w p q g s es p2 q2 l χ wr) : RefAt 5 χ wr q2 l := LS.get h 0 rfl
theorem Te5.ring2 (h : Te5 w p q g s es p2 q2 l χ wr) : RingAt 4 χ wr p2 l := LS.get h 1 rfl
theorem Te5.st (h : Te5 w p q g s es p2 q2 l χ wr) : TeSt w p q g s es es χ wr := LS.sub h fun _ hx => List.mem_cons_of_mem _ (List.mem_cons_of_mem _ hx)
theorem Te5.below (h : Te5 w p q g s es p2 q2 l χ wr) (hb : Below wr.heap.size wr wr') : Te5 w p q g s es p2 q2 l χ wr' := LS.below h hb
theorem Te5.drew (h : Te5 w p q g s es p2 q2 l χ wr) : Te5 w p q g s es p2 q2 l χ wr.drew := LS.drew h
theorem TeSt.cells (h : TeSt w p q g s es es χ wr) : wr.cell? ⟨g, 0, none⟩ = some (.int .i64 s.Key) ∧ wr.cell? ⟨g, 1, none⟩ = some (.string s.Text) ∧ wr.cell? ⟨g, 2, none⟩ = some (.int .i64 s.Mark) :=
  ⟨h.box.blk.cell 0, h.box.blk.cell 1, h.box.blk.cell 2⟩
end
theorem openErr_nodup {l : List Sealed} (h : openErr l = 0) : l.Nodup := by
  unfold openErr at h
  split at h
  · split at h
    · assumption
    · cases h
  · cases h

set_option maxRecDepth 100000 in
set_option maxHeartbeats 4000000 in
theorem tells_any (w : World) (A : Option Addr) (n c : Nat) (l : List Sealed) (s : Signed) (hs : Sl (Old w) w A n c l) :
    Calls Try.prog 5 #[.slice A n c, .agg #[.int .i64 s.Key, .string s.Text, .int .i64 s.Mark]] w fun e w' => e = .returned (.bool true) ∧ Below w.heap.size w w' := by
  have hn := hs.len
  have hc := hs.cap
  have hx := hs.max
  have Hn := Lib.hid hn
  have Hs := Lib.hid hs
  clear hn hs
  go_enter Try.func5, Try.ntmps5
  go_wp2_with (go_at_call 7; refine (small_any _).mono ?_; rintro e w1 ⟨rfl, hb1⟩)
  have hl1 := ((LS.start w [1, 2, 3] (by simp)).newBox 3 (by simp) 24 #[.int .i64 s.Key, .string s.Text, .int .i64 s.Mark]).below hb1
  generalize (fun b => if b = w.heap.size then 3 else 0) = χ1 at hl1
  have Hl1 := Lib.hid hl1
  have hsl : Sl (Old w1) w1 A n c l := (Hs.out.old_below hl1.bel).mono fun b h1 _ => by have := hl1.size; unfold Old at *; omega
  have Hsl := Lib.hid hsl
  clear hb1 hl1 hsl
  cases hfew : fewM l 40 with
  | false =>
    have Hfew := Lib.hid hfew
    clear hfew
    go_wp2_with (go_at_call 9; refine (few_any _ A n c l 40 (by omega) Hsl.out).mono ?_; rw [Hfew.out]; rintro e w3 ⟨rfl, rfl⟩)
    go_ret
    exact ⟨rfl, Hl1.out.bel⟩
  | true =>
    have Hfew := Lib.hid hfew
    clear hfew
    have hn40 : n ≤ 40 := by
      have := Hfew.out
      simp [fewM] at this
      have h := Hn.out
      omega
    go_wp2_with (first
      | (go_at_call 9; refine (few_any _ A n c l 40 (by omega) Hsl.out).mono ?_; rw [Hfew.out]; rintro e w3 ⟨rfl, rfl⟩)
      | (go_at_call 8; refine (new_n 1 χ1 w1).mono ?_; rintro e w2 ⟨p, χ2, rfl, hst2, hr2, hn2⟩; have Hl2 := Lib.hid ((Hl1.out.quiet hst2 hn2).more (Stab.ring p []) hr2); clear hst2 hr2 hn2)
      | (go_at_call 14; refine (refnew_n 2 χ2 w2).mono ?_; rintro e w3 ⟨q, χ3, rfl, hst3, hr3, hn3⟩; have Hl3 := Lib.hid ((Hl2.out.quiet hst3 hn3).more (Stab.ref 2 (by simp) q []) hr3); clear hst3 hr3 hn3))
    have hM : TeSt w p q w.heap.size s [] [] χ3 w3 := Hl3.out
    have HM := Lib.hid hM
    clear hM Hl3 Hl2 Hl1
    go_loopw [8] (fun iv wr => ∃ (k : Nat) (χr : Col), k ≤ n ∧ iv = .int .i64 k ∧ TeSt w p q w.heap.size s (signs [] (l.take k)) (signs [] (l.take k)) χr wr) (fun iv _ => n - (intOf iv).toNat)
    case atStart => exact ⟨0, χ3, Nat.zero_le _, rfl, by simpa [signs] using HM.out⟩
    case round =>
      obtain ⟨wo, rfl⟩ : ∃ wo : World, wo = wr := ⟨_, rfl⟩
      obtain ⟨k, χr, hk, rfl, hm⟩ := hrel
      have Hm := Lib.hid hm
      clear hm
      by_cases hlt : k < n
      · obtain ⟨b, off, rfl, H⟩ := Hs.out.at_ (by omega)
        have hkl : k < l.length := by rw [Hn.out]; exact hlt
        have hat := Sealed.at_ (H k l[k] (List.getElem?_eq_getElem hkl))
        have hbo : b < w.heap.size := hat.2.2.2.2
        have Hw0 := Lib.hid (show w.cell? ⟨b, off + k * 2, none⟩ = some (.int .i64 l[k].Key) from hat.1)
        have Hw1 := Lib.hid (show w.cell? ⟨b, off + k * 2 + 1, none⟩ = some (.string l[k].Text) from hat.2.1)
        have hT := hat.2.2.2.1
        have hki : (0 : Int) ≤ (k : Int) := by omega
        have hkn : (k : Int) < (n : Int) := by omega
        clear hat H
        have hsg : signs [] (l.take (k + 1)) = (signM (signs [] (l.take k)) l[k].Key l[k].Text).1 := by
          rw [List.take_succ_eq_append_getElem hkl, signs_append]; rfl
        have hnd : (signs [] (l.take (k + 1))).Nodup := signs_nodup _ [] (by simp)
        have hel : (signs [] (l.take k)).length ≤ 40 := by have := signs_len (l.take k) []; rw [List.length_take] at this; simp at this; omega
        generalize l[k] = X at *
        generalize (signs [] (l.take k)) = es at *
        obtain ⟨x, hxe⟩ : ∃ x, x = (signM es X.Key X.Text).2 := ⟨_, rfl⟩
        obtain ⟨es', hes⟩ : ∃ es', es' = (signM es X.Key X.Text).1 := ⟨_, rfl⟩
        rw [← hes] at hsg
        rw [hsg] at hnd
        have Hsg := Lib.hid hsg
        have Hnd := Lib.hid hnd
        have hcells : ∀ es1 es2 χ W, TeSt w p q w.heap.size s es1 es2 χ W → W.cell? ⟨b, off + k * 2, none⟩ = some (.int .i64 X.Key) ∧ W.cell? ⟨b, off + k * 2 + 1, none⟩ = some (.string X.Text) ∧
            W.cell? ⟨w.heap.size, 0, none⟩ = some (.int .i64 s.Key) ∧ W.cell? ⟨w.heap.size, 1, none⟩ = some (.string s.Text) ∧ W.cell? ⟨w.heap.size, 2, none⟩ = some (.int .i64 s.Mark) := fun _ _ _ _ h =>
          ⟨(h.ls.bel.cell (p := ⟨b, off + k * 2, none⟩) hbo).trans Hw0.out, (h.ls.bel.cell (p := ⟨b, off + k * 2 + 1, none⟩) hbo).trans Hw1.out, h.box.blk.cell 0, h.box.blk.cell 1, h.box.blk.cell 2⟩
        have Hcells := Lib.hid hcells
        have hcall : ∀ χ W, TeSt w p q w.heap.size s es es χ W → Calls Try.prog 10 #[.pointer (some ⟨p, 0, none⟩), .int .i64 X.Key, .string X.Text] W fun e w' => e = .returned (.agg #[.int .i64 x.Key, .string x.Text, .int .i64 x.Mark]) ∧
            ∃ χ', TeSt w p q w.heap.size s es es' χ' w' := by
          intro χ W hW
          refine (sign_n 1 χ W p es es' X.Key X.Text (.agg #[.int .i64 x.Key, .string x.Text, .int .i64 x.Mark]) hes.symm (by rw [← hxe]; rfl) hW.ring (by omega) hT).mono ?_
          rintro e w' ⟨χ', he, h1, h2, h3⟩
          exact ⟨he, _, hW.set1 h1 h2⟩
        have hcall2 : ∀ χ W, TeSt w p q w.heap.size s es es' χ W → Calls Try.prog 15 #[.pointer (some ⟨q, 0, none⟩), .int .i64 X.Key, .string X.Text] W fun e w' => e = .returned (.agg #[.int .i64 x.Key, .string x.Text, .int .i64 x.Mark]) ∧
            ∃ χ', TeSt w p q w.heap.size s es' es' χ' w' := by
          intro χ W hW
          refine (refsign_n 2 χ W q es es' X.Key X.Text (.agg #[.int .i64 x.Key, .string x.Text, .int .i64 x.Mark]) hes.symm (by rw [← hxe]; rfl) hW.ref (by omega) hT).mono ?_
          rintro e w' ⟨χ', he, h1, h2, h3⟩
          exact ⟨he, _, hW.set2 h1 h2⟩
        obtain ⟨v, hv⟩ : ∃ v, validM es' ⟨s.Key, s.Text, s.Mark⟩ = v := ⟨_, rfl⟩
        have Hv := Lib.hid hv
        have HcallD := Lib.hid (hcall χr wo.drew (TeSt.ls Hm.out).drew)
        have Hcall2 := Lib.hid hcall2
        obtain ⟨h0, h1, h2, h3, h4⟩ := Hcells.out _ _ _ _ Hm.out
        have hnq := fun W => neq_signed_same W x.Key x.Mark x.Text
        clear hsg hnd hcells hcall hcall2 hv hxe hes
        go_upto_region 11 with fail
        go_region_held3 (fun w' => w'.cell? ⟨b, off + k * 2, none⟩ = some (.int .i64 X.Key) ∧ w'.cell? ⟨b, off + k * 2 + 1, none⟩ = some (.string X.Text) ∧ w'.cell? ⟨w.heap.size, 0, none⟩ = some (.int .i64 s.Key) ∧ w'.cell? ⟨w.heap.size, 1, none⟩ = some (.string s.Text) ∧ w'.cell? ⟨w.heap.size, 2, none⟩ = some (.int .i64 s.Mark))
          (first | go_keep | (refine ⟨?_, ?_, ?_, ?_, ?_⟩ <;> assumption))
          (first
            | (go_at_call 10; (with_reducible refine HcallD.out.mono ?_); rintro e w3 ⟨rfl, χ3, hm3⟩; obtain ⟨q0, q1, q2, q3, q4⟩ := Hcells.out _ _ _ _ hm3; have Hm3 := Lib.hid hm3; clear hm3)
            | (go_at_call 15; (with_reducible refine (Hcall2.out _ _ Hm3.out).mono ?_); rintro e w4 ⟨rfl, χ4, hm4⟩; obtain ⟨q0, q1, q2, q3, q4⟩ := Hcells.out _ _ _ _ hm4; have Hm4 := Lib.hid hm4; clear hm4)
            | (go_at_call 11; (with_reducible refine (valid_n 1 χ4 _ p es' s.Key s.Mark s.Text v Hv.out Hm4.out.ring).mono ?_); rintro e w5 ⟨rfl, hb5⟩; have hm5 : TeSt w p q w.heap.size s es' es' χ4 w5 := (TeSt.ls Hm4.out).below hb5; obtain ⟨q0, q1, q2, q3, q4⟩ := Hcells.out _ _ _ _ hm5; have Hm5 := Lib.hid hm5; clear hm5 hb5)
            | (go_at_call 16; (with_reducible refine (refvalid_n 2 χ4 _ q es' s.Key s.Mark s.Text v Hnd.out Hv.out Hm5.out.ref).mono ?_); rintro e w6 ⟨rfl, hb6⟩; have hm6 : TeSt w p q w.heap.size s es' es' χ4 w6 := (TeSt.ls Hm5.out).below hb6; obtain ⟨q0, q1, q2, q3, q4⟩ := Hcells.out _ _ _ _ hm6; have Hm6 := Lib.hid hm6; clear hm6 hb6))
        all_goals
          go_wp2_with fail
          go_roundw
          case rel => exact ⟨k + 1, χ4, by omega, by go_num, by rw [Hsg.out]; exact Hm6.out⟩
          case measure => simp [intOf]; omega
      · have hkn : k = n := by omega
        subst hkn
        have htk : l.take k = l := List.take_of_length_le (by rw [Hn.out]; omega)
        have hm := Hm.out
        rw [htk] at hm
        have hel : (signs [] l).length ≤ 40 := by have := signs_len l []; rw [Hn.out] at this; simp at this; omega
        generalize (signs [] l) = es at *
        have Hm1 := Lib.hid hm
        have hll : l.length ≤ 40 := by rw [Hn.out]; omega
        have hsl1 := (Hs.out.old_below hm.ls.bel).old
        have Hsl1 := Lib.hid hsl1
        clear hm hsl1 htk Hm
        by_cases he0 : openErr l = 0
        · have He0 := Lib.hid he0
          obtain ⟨v, hv⟩ : ∃ v, validM l ⟨s.Key, s.Text, s.Mark⟩ = v := ⟨_, rfl⟩
          have Hv := Lib.hid hv
          clear he0 hv
          go_wp2_with (first
            | (go_at_call 17; refine (open_ok wo A k c l Hsl1.out (by omega) He0.out).mono ?_; rintro e w3 ⟨p2, rfl, hr3, hb3⟩
               obtain ⟨χ3, hm3⟩ := LS.ringNew (TeSt.ls Hm1.out) 4 (by simp) hb3 hr3; have Hm3 := Lib.hid hm3; have hsl3 := (Hsl1.out.old_below hb3).old; have Hsl3 := Lib.hid hsl3; clear hr3 hb3 hm3 hsl3)
            | (go_at_call 18; refine (refopen_ok w3 A k c l Hsl3.out (by omega) He0.out).mono ?_; rintro e w4 ⟨q2, rfl, hr4, hb4⟩
               obtain ⟨χ4, hm4⟩ := LS.refNew Hm3.out 5 (by simp) hb4 hr4; have Hm4 := Lib.hid hm4; clear hr4 hb4 hm4))
          have Hnd := Lib.hid (openErr_nodup He0.out)
          have hm4 : Te5 w p q w.heap.size s es p2 q2 l χ4 w4 := Hm4.out
          clear Hm4
          have Hm4 := Lib.hid hm4
          obtain ⟨h2, h3, h4⟩ := hm4.st.cells
          clear hm4
          go_upto_region 20 with fail
          go_region_held3 (fun w' => w'.cell? ⟨w.heap.size, 0, none⟩ = some (.int .i64 s.Key) ∧ w'.cell? ⟨w.heap.size, 1, none⟩ = some (.string s.Text) ∧ w'.cell? ⟨w.heap.size, 2, none⟩ = some (.int .i64 s.Mark))
            (first | go_keep | (refine ⟨?_, ?_, ?_⟩ <;> assumption))
            (first
              | (go_at_call 13; (with_reducible refine (all_sl 4 χ4 w4.drew p2 l Hm4.out.drew.ring2 (by omega)).mono ?_); rintro e w5 ⟨A5, c5, χ5, rfl, hs5, hb5⟩
                 have hm5 := Hm4.out.drew.below hb5; obtain ⟨q2', q3, q4⟩ := hm5.st.cells; have Hm5 := Lib.hid hm5; have Hs5 := Lib.hid hs5; clear hs5 hb5 hm5)
              | (go_at_call 19; (with_reducible refine (refall_sl 5 χ4 _ q2 l Hm5.out.ref2 (by omega)).mono ?_); rintro e w6 ⟨A6, c6, χ6, rfl, hs6, hb6⟩
                 have hm6 := Hm5.out.below hb6; obtain ⟨q2', q3, q4⟩ := hm6.st.cells; have Hm6 := Lib.hid hm6; have Hs6 := Lib.hid hs6; have Hs56 := Lib.hid (Hs5.out.old.old_below hb6); clear hs6 hb6 hm6)
              | (go_at_call 12; (with_reducible refine (same_any _ _ _ _ _ _ _ _ _ Hs56.out Hs6.out).mono ?_); rw [decide_eq_true rfl]; rintro e w7 ⟨rfl, hb7⟩
                 have hm7 := Hm6.out.below hb7; obtain ⟨q2', q3, q4⟩ := hm7.st.cells; have Hm7 := Lib.hid hm7; clear hb7 hm7)
              | (go_at_call 11; (with_reducible refine (valid_n 4 χ4 _ p2 l s.Key s.Mark s.Text v Hv.out Hm7.out.ring2).mono ?_); rintro e w8 ⟨rfl, hb8⟩
                 have hm8 := Hm7.out.below hb8; obtain ⟨q2', q3, q4⟩ := hm8.st.cells; have Hm8 := Lib.hid hm8; clear hb8 hm8)
              | (go_at_call 16; (with_reducible refine (refvalid_n 5 χ4 _ q2 l s.Key s.Mark s.Text v Hnd.out Hv.out Hm8.out.ref2).mono ?_); rintro e w9 ⟨rfl, hb9⟩
                 have hm9 := Hm8.out.below hb9; obtain ⟨q2', q3, q4⟩ := hm9.st.cells; have Hm9 := Lib.hid hm9; clear hb9 hm9))
          all_goals
            have HF := Lib.hid Hm9.out.st
            obtain ⟨wf, rfl⟩ : ∃ wf : World, wf = w9 := ⟨_, rfl⟩
            obtain ⟨χf, rfl⟩ : ∃ χf : Col, χf = χ4 := ⟨_, rfl⟩
            clear h2 h3 h4 Hm4
            go_wp2_with (first
              | (go_at_call 13; refine (all_sl 1 χf wf p es (TeSt.ring HF.out) (by omega)).mono ?_; rintro e w8 ⟨A8, c8, χ8, rfl, hs8, hb8⟩
                 have Hm8 := Lib.hid (show TeSt w p q w.heap.size s es es χf w8 from (TeSt.ls HF.out).below hb8); have Hs8 := Lib.hid hs8; clear hs8 hb8)
              | (go_at_call 19; refine (refall_sl 2 χf w8 q es (TeSt.ref Hm8.out) (by omega)).mono ?_; rintro e w9 ⟨A9, c9, χ9, rfl, hs9, hb9⟩
                 have Hm9 := Lib.hid (show TeSt w p q w.heap.size s es es χf w9 from (TeSt.ls Hm8.out).below hb9); have Hs9 := Lib.hid hs9; have Hs89 := Lib.hid (Hs8.out.old.old_below hb9); clear hs9 hb9)
              | (go_at_call 12; refine (same_any _ _ _ _ _ _ _ _ _ Hs89.out Hs9.out).mono ?_; rw [decide_eq_true rfl]; rintro e w10 ⟨rfl, hb10⟩; have Hm10 := Lib.hid ((TeSt.ls Hm9.out).below hb10); clear hb10))
            go_ret
            exact ⟨rfl, Hm10.out.bel⟩
        · have He0 := Lib.hid he0
          obtain ⟨v, hv⟩ : ∃ v, openErr l = v := ⟨_, rfl⟩
          have Hv := Lib.hid hv
          clear he0 hv
          go_wp2_with (first
            | (go_at_call 17; refine (open_no wo A k c l v Hsl1.out (by omega) He0.out Hv.out).mono ?_; rintro e w3 ⟨rfl, hb3⟩
               have Hm3 := Lib.hid (show TeSt w p q w.heap.size s es es χr w3 from (TeSt.ls Hm1.out).below hb3); have hsl3 := (Hsl1.out.old_below hb3).old; have Hsl3 := Lib.hid hsl3; clear hb3 hsl3)
            | (go_at_call 18; refine (refopen_no w3 A k c l v Hsl3.out (by omega) He0.out Hv.out).mono ?_; rintro e w4 ⟨rfl, hb4⟩
               have Hm4 := Lib.hid (show TeSt w p q w.heap.size s es es χr w4 from (TeSt.ls Hm3.out).below hb4); clear hb4))
          have HF := Lib.hid (show ∀ m, TeSt w p q w.heap.size s es es χr (w4.drewN m) from fun m => (TeSt.ls Hm4.out).drewN m)
          clear Hm4 Hm3
          go_upto_region 20 with fail
          go_quiet (fail)
          obtain ⟨χf, rfl⟩ : ∃ χf : Col, χf = χr := ⟨_, rfl⟩
          go_wp2_with (first
            | (go_at_call 13; refine (all_sl 1 χf _ p es (TeSt.ring (HF.out _)) (by omega)).mono ?_; rintro e w8 ⟨A8, c8, χ8, rfl, hs8, hb8⟩
               have Hm8 := Lib.hid (show TeSt w p q w.heap.size s es es χf w8 from (TeSt.ls (HF.out _)).below hb8); have Hs8 := Lib.hid hs8; clear hs8 hb8)
            | (go_at_call 19; refine (refall_sl 2 χf w8 q es (TeSt.ref Hm8.out) (by omega)).mono ?_; rintro e w9 ⟨A9, c9, χ9, rfl, hs9, hb9⟩
               have Hm9 := Lib.hid (show TeSt w p q w.heap.size s es es χf w9 from (TeSt.ls Hm8.out).below hb9); have Hs9 := Lib.hid hs9; have Hs89 := Lib.hid (Hs8.out.old.old_below hb9); clear hs9 hb9)
            | (go_at_call 12; refine (same_any _ _ _ _ _ _ _ _ _ Hs89.out Hs9.out).mono ?_; rw [decide_eq_true rfl]; rintro e w10 ⟨rfl, hb10⟩; have Hm10 := Lib.hid ((TeSt.ls Hm9.out).below hb10); clear hb10))
          go_ret
          exact ⟨rfl, Hm10.out.bel⟩
end Go.Proofs.Ytnkpnfmmlkjofaa
