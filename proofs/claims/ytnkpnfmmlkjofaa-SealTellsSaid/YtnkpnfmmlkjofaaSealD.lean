/-
  Layer 5 (seal): Open of both, Copy, and the law file's small: what each call does.
-/
import Derived.Test.YtnkpnfmmlkjofaaSealC
import Derived.Laws.Externs
import Derived.MapKept
import Derived.Deep.RegionHeld3
namespace Go.Proofs.Ytnkpnfmmlkjofaa
open Go.RowKit Go.Lad

/-- entries behind signing all of a list -/
def signs (a : List Sealed) (l : List Sealed) : List Sealed := l.foldl (fun a e => (signM a e.Key e.Text).1) a
theorem signs_append (a l r : List Sealed) : signs a (l ++ r) = signs (signs a l) r := by simp [signs, List.foldl_append]
theorem signM_fst (l : List Sealed) (e : Sealed) (hk : isKey e.Key = true) : (signM l e.Key e.Text).1 = if e ∈ l then l else l ++ [e] := by
  have hk' : 0 ≤ e.Key ∧ e.Key < 200 := by simpa [isKey] using hk
  unfold signM
  rw [if_pos hk']
  cases hp : pos l ⟨e.Key, e.Text⟩ with
  | some i =>
    have : e ∈ l := List.mem_of_getElem? (pos_some hp).1
    simp [this]
  | none =>
    have : e ∉ l := pos_none.1 hp
    simp [this]
theorem signM_fst_no (l : List Sealed) (e : Sealed) (hk : isKey e.Key = false) : (signM l e.Key e.Text).1 = l := by
  have hk' : ¬ (0 ≤ e.Key ∧ e.Key < 200) := by
    intro h
    simp [isKey, h] at hk
  unfold signM
  rw [if_neg hk']
theorem signM_len (l : List Sealed) (k : Int) (s : ByteArray) : (signM l k s).1.length ≤ l.length + 1 := by
  unfold signM
  split
  · split <;> simp
  · simp
theorem signs_len (l : List Sealed) : ∀ a, (signs a l).length ≤ a.length + l.length := by
  induction l with
  | nil => intro a; simp [signs]
  | cons e l ih =>
    intro a
    have h1 := ih (signM a e.Key e.Text).1
    have h2 := signM_len a e.Key e.Text
    show (signs (signM a e.Key e.Text).1 l).length ≤ _
    simp only [List.length_cons]
    omega
theorem signs_nodup (l : List Sealed) : ∀ a, a.Nodup → (signs a l).Nodup := by
  induction l with
  | nil => intro a h; exact h
  | cons e l ih =>
    intro a h
    refine ih _ ?_
    show (signM a e.Key e.Text).1.Nodup
    cases hk : isKey e.Key with
    | false => rw [signM_fst_no a e hk]; exact h
    | true =>
      rw [signM_fst a e hk]
      split
      · exact h
      · rename_i hm
        rw [List.nodup_append]
        exact ⟨h, by simp, fun x hx y hy => by
          simp only [List.mem_singleton] at hy
          subst hy
          rintro rfl
          exact hm hx⟩
/-- all keys are keys: the list comes whole exactly if nothing stands in it twice -/
theorem signs_all (l : List Sealed) : ∀ a, a.Nodup → (∀ e ∈ l, isKey e.Key = true) →
    ((a ++ l).Nodup → signs a l = a ++ l) ∧ (¬ (a ++ l).Nodup → (signs a l).length < a.length + l.length) := by
  induction l with
  | nil => intro a ha _; simpa [signs] using ha
  | cons e l ih =>
    intro a ha hk
    have hs : signs a (e :: l) = signs (if e ∈ a then a else a ++ [e]) l := by
      show signs (signM a e.Key e.Text).1 l = _
      rw [signM_fst a e (hk e (by simp))]
    rw [hs]
    by_cases hm : e ∈ a
    · rw [if_pos hm]
      have hnd : ¬ (a ++ e :: l).Nodup := by
        rw [List.nodup_append]
        rintro ⟨_, _, h⟩
        exact h e hm e (by simp) rfl
      refine ⟨fun h => absurd h hnd, fun _ => ?_⟩
      have := signs_len l a
      simp only [List.length_cons]
      omega
    · rw [if_neg hm]
      have hnd : (a ++ [e]).Nodup := by
        rw [List.nodup_append]
        exact ⟨ha, by simp, fun x hx y hy => by
          simp only [List.mem_singleton] at hy
          subst hy
          rintro rfl
          exact hm hx⟩
      have h := ih (a ++ [e]) hnd (fun x hx => hk x (by simp [hx]))
      simp only [List.append_assoc, List.singleton_append, List.length_append, List.length_singleton] at h
      refine ⟨h.1, fun hn => ?_⟩
      have := h.2 hn
      simp only [List.length_cons]
      omega

/-- What Open answers: 0 OK, 1 ErrArg, 5 ErrTwice. -/
def openErr (l : List Sealed) : Int := if (l.all fun e => isKey e.Key) = true then (if l.Nodup then 0 else 5) else 1

/-- A ring of blocks B or later. -/
def RingNew (B : Nat) (w : World) (p : Nat) (l : List Sealed) : Prop := ∃ χ, RingAt 1 χ w p l ∧ ∀ b, b < B → χ b = 0
def RefNew (B : Nat) (w : World) (p : Nat) (l : List Sealed) : Prop := ∃ χ, RefAt 1 χ w p l ∧ ∀ b, b < B → χ b = 0
theorem RingNew.col {w w' : World} {p : Nat} {l : List Sealed} (h : RingNew w.heap.size w' p l) (hb : Below w.heap.size w w') (χ : Col) (k : Nat) : ∃ χ', Step [] χ w χ' w' ∧ RingAt k χ' w' p l := by
  obtain ⟨χ2, ⟨⟨A, c, mb, es, clock, h1, h2, h3, h4, h5⟩, h6⟩, hn⟩ := h
  have hm : ∀ g, χ2 g = 1 → merge χ χ2 w.heap.size k g = k := by
    intro g hg
    unfold merge
    split
    · rename_i hlt
      rw [hn g hlt] at hg
      cases hg
    · rw [hg]; simp
  exact ⟨merge χ χ2 w.heap.size k, Step.of_below hb fun b hb' => by simp [merge, hb'], ⟨A, c, mb, es, clock, h1, h2.recol fun g _ _ hg => hm g hg, h3, hm p h4, hm mb h5⟩, h6⟩
theorem RefNew.col {w w' : World} {p : Nat} {l : List Sealed} (h : RefNew w.heap.size w' p l) (hb : Below w.heap.size w w') (χ : Col) (k : Nat) : ∃ χ', Step [] χ w χ' w' ∧ RefAt k χ' w' p l := by
  obtain ⟨χ2, ⟨A, c, h1, h2, h3⟩, hn⟩ := h
  have hm : ∀ g, χ2 g = 1 → merge χ χ2 w.heap.size k g = k := by
    intro g hg
    unfold merge
    split
    · rename_i hlt
      rw [hn g hlt] at hg
      cases hg
    · rw [hg]; simp
  exact ⟨merge χ χ2 w.heap.size k, Step.of_below hb fun b hb' => by simp [merge, hb'], ⟨A, c, h1, h2.recol fun g _ _ hg => hm g hg, hm p h3⟩⟩

/-- what Open leaves -/
def Opened (w : World) (l : List Sealed) (R : Nat → World → Nat → List Sealed → Prop) (e : Ending) (w' : World) : Prop :=
  Below w.heap.size w w' ∧ ((openErr l = 0 ∧ ∃ p, e = .returned (.tuple #[.pointer (some ⟨p, 0, none⟩), .int .i64 0]) ∧ R w.heap.size w' p l) ∨
    (openErr l ≠ 0 ∧ e = .returned (.tuple #[.pointer none, .int .i64 (openErr l)])))

set_option maxHeartbeats 1000000 in
theorem open_any (w : World) (A : Option Addr) (n c : Nat) (l : List Sealed) (hs : Sl (Old w) w A n c l) (hl : l.length ≤ 500000) :
    Calls Try.prog 17 #[.slice A n c] w (Opened w l RingNew) := by
  have hn := hs.len
  have hc := hs.cap
  have hx := hs.max
  have Hn := Lib.hid hn
  have Hs := Lib.hid hs
  clear hn hs
  go_enter Try.func17, Try.ntmps17
  go_wp2_with (go_at_call 8; refine (new_any 1 (fun _ => 0) w).mono ?_; rintro e w1 ⟨p, χ1, rfl, hst1, hr1, hp1⟩)
  have hst1' : Step [1] (fun _ => 0) w χ1 w1 := hst1.wide (by simp)
  have Hst1 := Lib.hid hst1'
  have Hr1 := Lib.hid hr1
  clear hst1 hst1' hr1
  go_loopw [10] (fun i wr => ∃ (k : Nat) (χr : Col), k ≤ n ∧ i = .int .i64 k ∧ Step [1] (fun _ => 0) w χr wr ∧ RingAt 1 χr wr p (signs [] (l.take k)) ∧ ∀ e ∈ l.take k, isKey e.Key = true) (fun i _ => n - (intOf i).toNat)
  case atStart => exact ⟨0, χ1, Nat.zero_le _, rfl, Hst1.out, by simpa [signs] using Hr1.out, by simp⟩
  case round =>
    obtain ⟨k, χr, hk, rfl, hst, hr, hall⟩ := hrel
    have hbel : Below w.heap.size w wr := hst.below (Nat.le_refl _) (by simp)
    have Hst := Lib.hid hst
    have Hr := Lib.hid hr
    have Hall := Lib.hid hall
    have Hbel := Lib.hid hbel
    clear hst hr hall hbel
    by_cases hlt : k < n
    · obtain ⟨b, off, rfl, H⟩ := (Hs.out.old_below Hbel.out).at_ (by omega)
      have hkl : k < l.length := by rw [Hn.out]; exact hlt
      have hat := Sealed.at_ (H k l[k] (List.getElem?_eq_getElem hkl))
      have h0 : wr.cell? ⟨b, off + k * 2, none⟩ = some (.int .i64 l[k].Key) := hat.1
      have h1 : wr.cell? ⟨b, off + k * 2 + 1, none⟩ = some (.string l[k].Text) := hat.2.1
      have hT := hat.2.2.2.1
      clear hat H
      generalize hX : l[k] = X at h0 h1 hT
      have HX := Lib.hid hX
      clear hX
      cases hkey : isKey X.Key with
      | true =>
        have hk1 : 0 ≤ X.Key ∧ X.Key < 200 := by simpa [isKey] using hkey
        have Hkey := Lib.hid hkey
        clear hkey
        have hlen : (signs [] (l.take k)).length ≤ 1000000 := by
          have h1 := signs_len (l.take k) []
          simp only [List.length_nil, List.length_take] at h1
          omega
        have Hlen := Lib.hid hlen
        clear hlen
        go_wp2_with (first
          | (go_at_call 21; refine (key_yes _ _ hk1.1 hk1.2).mono ?_; rintro e w' ⟨rfl, rfl⟩)
          | (go_at_call 10; refine (sign_any 1 χr _ p (signs [] (l.take k)) X.Key X.Text (Hr.out.step (T := []) ((Step.refl _ _ _).alloc _) (by simp) (by simp)) Hlen.out hT).mono ?_; rintro e w2 ⟨χ2, rfl, hst2, hr2⟩))
        go_roundw
        case rel =>
          refine ⟨k + 1, χ2, by omega, by go_num, (Hst.out.alloc _).trans hst2, ?_, ?_⟩
          · rw [List.take_succ_eq_append_getElem hkl, signs_append, HX.out]
            exact hr2
          · rw [List.take_succ_eq_append_getElem hkl, HX.out]
            intro e he
            rcases List.mem_append.1 he with he | he
            · exact Hall.out e he
            · rw [List.mem_singleton] at he; rw [he]; exact Hkey.out
        case measure => simp [intOf]; omega
      | false =>
        have hk1 : ¬ (0 ≤ X.Key ∧ X.Key < 200) := by
          intro h
          simp [isKey, h] at hkey
        go_wp2_with (go_at_call 21; refine (key_no _ _ hk1).mono ?_; rintro e w' ⟨rfl, rfl⟩)
        go_ret2
        have he : openErr l = 1 := by
          unfold openErr
          rw [if_neg]
          intro h
          rw [List.all_eq_true] at h
          have := h l[k] (List.getElem_mem hkl)
          rw [HX.out, hkey] at this
          cases this
        refine ⟨Hbel.out.alloc Hbel.out.size _, .inr ⟨by rw [he]; decide, ?_⟩⟩
        rw [he]; rfl
    · have hkn : k = n := by omega
      subst hkn
      obtain ⟨⟨A1, c1, mb, es, clock, hb1, ho1, _⟩, _⟩ := Hr.out
      have h0 : wr.cell? ⟨p, 0, none⟩ = some (.slice A1 (signs [] (l.take k)).length c1) := hb1.cell 0
      clear hb1 ho1
      have htk : l.take k = l := List.take_of_length_le (by rw [Hn.out]; omega)
      have hal : (l.all fun e => isKey e.Key) = true := by
        rw [List.all_eq_true]
        have := Hall.out
        rw [htk] at this
        exact this
      have hsa := signs_all l [] List.nodup_nil (by rw [List.all_eq_true] at hal; exact hal)
      simp only [List.nil_append, List.length_nil, Nat.zero_add] at hsa
      rw [htk] at h0
      by_cases hnd : l.Nodup
      · have he : openErr l = 0 := by simp [openErr, hal, hnd]
        rw [hsa.1 hnd, Hn.out] at h0
        have Hfin := Lib.hid (show Opened w l RingNew (.returned (.tuple #[.pointer (some ⟨p, 0, none⟩), .int .i64 0])) wr from
          ⟨Hbel.out, .inl ⟨he, p, rfl, χr, by have := Hr.out; rw [htk, hsa.1 hnd] at this; exact this, fun b hb => Hst.out.col b hb⟩⟩)
        clear hsa hal htk he hnd
        go_wp2
        go_ret2
        exact Hfin.out
      · have he : openErr l = 5 := by simp [openErr, hal, hnd]
        have hlt' := hsa.2 hnd
        rw [Hn.out] at hlt'
        have Hfin := Lib.hid (show Opened w l RingNew (.returned (.tuple #[.pointer none, .int .i64 5])) wr from
          ⟨Hbel.out, .inr ⟨by rw [he]; decide, by rw [he]⟩⟩)
        generalize (signs [] l).length = q at h0 hlt'
        clear hsa hal htk he hnd
        go_wp2
        go_ret2
        exact Hfin.out

theorem quiet_left {P : Program} {f : FuncId} {args : Array Value} {w : World} {n : Nat} {v : Value}
    (h : Calls P f args (w.drewN n) fun e w' => e = .returned v ∧ w.drewN n = w') : Calls P f args (w.drewN n) fun e w'' => e = .returned v ∧ ∃ m, w'' = w.drewN m :=
  h.mono fun _ _ ⟨he, hm⟩ => ⟨he, n, hm.symm⟩

theorem refnew_raw (w : World) :
    Calls Try.prog 14 #[] w fun e w' => e = .returned (.pointer (some ⟨w.heap.size, 0, none⟩)) ∧ w' = w.alloc (.cells #[.slice none 0 0] 53) := by
  go_enter Try.func14, Try.ntmps14
  go_wp2
  go_ret
  exact ⟨rfl, rfl⟩

theorem nodup_take_succ (l : List Sealed) (k : Nat) (hk : k < l.length) : (l.take (k + 1)).Nodup ↔ (l.take k).Nodup ∧ l[k] ∉ l.take k := by
  rw [List.take_succ_eq_append_getElem hk, List.nodup_append]
  constructor
  · rintro ⟨h1, _, h2⟩
    exact ⟨h1, fun hm => h2 _ hm _ (by simp) rfl⟩
  · rintro ⟨h1, h2⟩
    refine ⟨h1, by simp, fun a ha b hb => ?_⟩
    simp only [List.mem_singleton] at hb
    subst hb
    rintro rfl
    exact h2 ha

def badOf (l : List Sealed) : Int := if l.Nodup then 0 else 5

set_option maxHeartbeats 2000000 in
theorem refopen_any (w : World) (A : Option Addr) (n c : Nat) (l : List Sealed) (hs : Sl (Old w) w A n c l) (hl : l.length ≤ 500000) :
    Calls Try.prog 18 #[.slice A n c] w (Opened w l RefNew) := by
  have hn := hs.len
  have hc := hs.cap
  have hx := hs.max
  have Hn := Lib.hid hn
  have Hs := Lib.hid hs
  have Hl := Lib.hid hl
  clear hn hs hl
  go_enter Try.func18, Try.ntmps18
  go_wp2_with (go_at_call 14; refine (refnew_raw w).mono ?_; rintro e w1 ⟨rfl, rfl⟩)
  go_loopw [5, 6] (fun bad i wr => ∃ (k : Nat) (χr : Col) (A1 : Option Addr) (c1 : Nat), k ≤ n ∧ i = .int .i64 k ∧ bad = .int .i64 (badOf (l.take k)) ∧ Step [1, 2] (colAt w.heap.size 2) w χr wr ∧
      Blk wr w.heap.size 53 #[.slice A1 k c1] ∧ Own 1 χr 32 wr (.slice A1 k c1) (l.take k) ∧ χr w.heap.size = 2 ∧ ∀ e ∈ l.take k, isKey e.Key = true) (fun _ i _ => n - (intOf i).toNat)
  case atStart =>
    exact ⟨0, colAt w.heap.size 2, none, 0, Nat.zero_le _, rfl, rfl, (Step.refl _ _ w).alloc _, Blk.new _ _ _, Own.nil _ _ _ _, colAt_same _ _, by simp⟩
  case round =>
    obtain ⟨k, χr, A1, c1, hk, rfl, rfl, hst, hb, ho, hcp, hall⟩ := hrel
    have hbel : Below w.heap.size w wr := hst.below (Nat.le_refl _) fun b hb => by rw [colAt_ne _ (by omega)]; decide
    have Hst := Lib.hid hst
    have Hb := Lib.hid hb
    have Ho := Lib.hid ho
    have Hcp := Lib.hid hcp
    have Hall := Lib.hid hall
    have Hbel := Lib.hid hbel
    have hwl := hb.lt
    clear hst hb ho hcp hall hbel
    by_cases hlt : k < n
    · obtain ⟨b, off, rfl, H⟩ := (Hs.out.old_below Hbel.out).at_ (by omega)
      have hkl : k < l.length := by rw [Hn.out]; exact hlt
      have hat := Sealed.at_ (H k l[k] (List.getElem?_eq_getElem hkl))
      have h0 : wr.cell? ⟨b, off + k * 2, none⟩ = some (.int .i64 l[k].Key) := hat.1
      have h1 : wr.cell? ⟨b, off + k * 2 + 1, none⟩ = some (.string l[k].Text) := hat.2.1
      have hT := hat.2.2.2.1
      have hI := Lib.hid hat.2.2.1
      have hbo : b < w.heap.size := hat.2.2.2.2
      have hki : (0 : Int) ≤ (k : Int) := by omega
      have hkn : (k : Int) < (n : Int) := by omega
      clear hat H
      have hnd := nodup_take_succ l k hkl
      have htk := List.take_succ_eq_append_getElem hkl
      have Hkl := Lib.hid (show (l.take k).length = k by rw [List.length_take]; omega)
      generalize hX : l[k] = X at h0 h1 hT hI hnd htk
      have HX := Lib.hid hX
      have Hnd := Lib.hid hnd
      have Htk := Lib.hid htk
      clear hX hnd htk
      cases hkey : isKey X.Key with
      | true =>
        have hk1 : 0 ≤ X.Key ∧ X.Key < 200 := by simpa [isKey] using hkey
        obtain ⟨hka, hkb⟩ := hk1
        have hka' : decide (X.Key < 0) = false := by simp; omega
        have hkb' : ¬ 200 ≤ X.Key := by omega
        have Hkey := Lib.hid hkey
        clear hkey
        have hrp : ∀ nq, RefAt 1 (fun b => if χr b = 0 then 0 else 1) (wr.drewN nq) w.heap.size (l.take k) := by
          intro nq
          refine ⟨A1, c1, ?_, ?_, ?_⟩
          · rw [Hkl.out]; exact Hb.out
          · rw [Hkl.out]; exact (Ho.out.drewN nq).recol fun g _ _ hg => by rw [hg]; simp
          · rw [Hcp.out]; simp
        have hJ : ∃ J, J = posI (l.take k) ⟨X.Key, X.Text⟩ := ⟨_, rfl⟩
        obtain ⟨J, hJ⟩ := hJ
        have hfind : ∀ nq, Calls Try.prog 23 #[.pointer (some ⟨w.heap.size, 0, none⟩), .int .i64 X.Key, .string X.Text] (wr.drewN nq) fun e w' => e = .returned (.int .i64 J) ∧ wr.drewN nq = w' := by
          intro nq; rw [hJ]; exact find_any 1 _ _ _ _ _ _ (hrp nq)
        have hbad : badOf (l.take (k + 1)) = if 0 ≤ J then 5 else badOf (l.take k) := by
          unfold badOf
          rw [hJ]
          unfold posI
          cases hp : pos (l.take k) (⟨X.Key, X.Text⟩ : Sealed) with
          | some i =>
            have hm : X ∈ l.take k := List.mem_of_getElem? (pos_some hp).1
            rw [if_neg (fun h => (Hnd.out.1 h).2 hm), if_pos (by simp)]
          | none =>
            have hm : X ∉ l.take k := pos_none.1 hp
            rw [if_neg (by simp : ¬ (0 : Int) ≤ -1)]
            simp only [Hnd.out, hm, not_false_iff, and_true]
        have Hfind := Lib.hid hfind
        have Hbad := Lib.hid hbad
        clear hrp hfind hbad hJ
        have hcell : wr.cell? ⟨w.heap.size, 0, none⟩ = some (.slice A1 k c1) := Hb.out.cell 0
        have hcell2 : ∀ o nq, ((wr.drewN nq).alloc o).cell? ⟨w.heap.size, 0, none⟩ = some (.slice A1 k c1) := fun o nq => ((Hb.out.drewN nq).alloc o).cell 0
        have hx0 : ∀ o nq, ((wr.drewN nq).alloc o).cell? ⟨b, off + k * 2, none⟩ = some (.int .i64 X.Key) := fun o nq => (World.cell?_of_block (Below.heap_alloc (wr.drewN nq) o b (by simp; omega))).trans h0
        have hx1 : ∀ o nq, ((wr.drewN nq).alloc o).cell? ⟨b, off + k * 2 + 1, none⟩ = some (.string X.Text) := fun o nq => (World.cell?_of_block (Below.heap_alloc (wr.drewN nq) o b (by simp; omega))).trans h1
        have hown0 : ∀ o nq, Own 1 χr 32 ((wr.drewN nq).alloc o) (.slice A1 k c1) (l.take k) := fun o nq => (Ho.out.drewN nq).alloc o
        have hk6 : k + 1 ≤ 2147483647 := by have := Hl.out; omega
        have hafter : ∀ o nq χ2 w1 v, Step [1] χr ((wr.drewN nq).alloc o) χ2 w1 → Own 1 χ2 32 w1 v (l.take k ++ [(⟨X.Key, X.Text⟩ : Sealed)]) → ∃ A2 c2, v = .slice A2 (k + 1) c2 ∧
            Blk w1 w.heap.size 53 #[.slice A1 k c1] ∧
            Step [1, 2] (colAt w.heap.size 2) w χ2 (w1.setCell ⟨w.heap.size, 0, none⟩ (.slice A2 (k + 1) c2)) ∧ Blk (w1.setCell ⟨w.heap.size, 0, none⟩ (.slice A2 (k + 1) c2)) w.heap.size 53 #[.slice A2 (k + 1) c2] ∧
            Own 1 χ2 32 (w1.setCell ⟨w.heap.size, 0, none⟩ (.slice A2 (k + 1) c2)) (.slice A2 (k + 1) c2) (l.take (k + 1)) ∧ χ2 w.heap.size = 2 := by
          intro o nq χ2 w1 v st hv
          obtain ⟨A2, c2, rfl, _, _⟩ := hv.formN (n := k + 1) (by simp [Hkl.out])
          have hb1 := ((Hb.out.drewN nq).alloc o).step st (by rw [Hcp.out]; decide)
          have hc2 : χ2 w.heap.size = 2 := (st.col _ (by simp; omega)).trans Hcp.out
          refine ⟨A2, c2, rfl, hb1, ?_, hb1.set_ 0 _, ?_, hc2⟩
          · exact (((Hst.out.drewN nq).alloc o).trans (st.wide (by simp))).setCell (.inl (by rw [hc2]; decide)) _
          · rw [Htk.out]
            exact hv.stepP ((Step.refl [2] χ2 w1).setCell (.inl (by rw [hc2]; decide)) _) (by decide)
        have Hafter := Lib.hid hafter
        have Hown0 := Lib.hid hown0
        clear hafter hown0
        by_cases hJ0 : 0 ≤ J
        all_goals
          go_wp2_with fail
          go_quiet ((go_at_call 23; exact quiet_left (Hfind.out _)))
          go_wp2_with fail
          go_region_law (first | (refine step_app (α := Sealed) rfl (.tmp 45) (.tmp 50) rfl elem22 rfl (Hown0.out _ _) rfl (Sl.new1 ⟨X.Key, X.Text⟩ (by simp) (Sealed.mk_rd hI.out hT)) (fun _ _ _ h => Plain.any h) (by omega) (by rw [Hkl.out]; exact hk6) ?_; intro v1 w1 χ2 hown1 hst1; obtain ⟨A2, c2, rfl, hb1, hA, hB, hC, hD⟩ := Hafter.out _ _ _ _ _ hst1 hown1; have h1p : w1.cell? ⟨w.heap.size, 0, none⟩ = some (.slice A1 k c1) := hb1.cell 0; have h1f := hb1.frozen 0; have HA := Lib.hid hA; have HB := Lib.hid hB; have HC := Lib.hid hC; have HD := Lib.hid hD; clear hb1 hst1 hown1 hA hB hC hD))
          all_goals
            go_wp2_with fail
            go_roundw
            case rel =>
              refine ⟨k + 1, χ2, A2, c2, by omega, by go_num, ?_, HA.out, HB.out, HC.out, HD.out, ?_⟩
              · rw [Hbad.out]; first | rw [if_pos hJ0] | rw [if_neg (by omega)]
              · rw [Htk.out]
                intro e he
                rcases List.mem_append.1 he with he | he
                · exact Hall.out e he
                · rw [List.mem_singleton] at he; rw [he]; exact Hkey.out
            case measure => simp [intOf]; omega
      | false =>
        have he : openErr l = 1 := by
          unfold openErr
          rw [if_neg]
          intro h
          rw [List.all_eq_true] at h
          have := h l[k] (List.getElem_mem hkl)
          rw [HX.out, hkey] at this
          cases this
        have hfin : Opened w l RefNew (.returned (.tuple #[.pointer none, .int .i64 1])) wr := ⟨Hbel.out, .inr ⟨by rw [he]; decide, by rw [he]⟩⟩
        have Hfin := Lib.hid hfin
        clear hfin he
        by_cases hk0 : X.Key < 0
        · clear hkey
          go_wp2_with fail
          go_ret2
          exact Hfin.out
        · have hk0' : decide (X.Key < 0) = false := by simpa using hk0
          have hk1 : 200 ≤ X.Key := by simp [isKey] at hkey; omega
          clear hkey
          go_wp2_with fail
          go_ret2
          exact Hfin.out
    · have hkn : k = n := by omega
      subst hkn
      have htk : l.take k = l := List.take_of_length_le (by rw [Hn.out]; omega)
      have hal : (l.all fun e => isKey e.Key) = true := by
        rw [List.all_eq_true]
        have := Hall.out
        rw [htk] at this
        exact this
      by_cases hnd : l.Nodup
      · have he : openErr l = 0 := by simp [openErr, hal, hnd]
        have hbz : badOf (l.take k) = 0 := by rw [htk]; simp [badOf, hnd]
        have hfin : Opened w l RefNew (.returned (.tuple #[.pointer (some ⟨w.heap.size, 0, none⟩), .int .i64 0])) wr := by
          refine ⟨Hbel.out, .inl ⟨he, _, rfl, fun b => if χr b = 0 then 0 else 1, ⟨A1, c1, ?_, ?_, ?_⟩, fun b hb => ?_⟩⟩
          · rw [Hn.out]; exact Hb.out
          · rw [Hn.out]
            have := Ho.out
            rw [htk] at this
            exact this.recol fun g _ _ hg => by rw [hg]; simp
          · rw [Hcp.out]; simp
          · show (if χr b = 0 then 0 else 1) = 0
            rw [Hst.out.col b hb, colAt_ne _ (by omega)]; simp
        have Hfin := Lib.hid hfin
        rw [hbz]
        clear hfin hal htk he hnd hbz
        go_wp2_with fail
        go_ret2
        exact Hfin.out
      · have he : openErr l = 5 := by simp [openErr, hal, hnd]
        have hbz : badOf (l.take k) = 5 := by rw [htk]; simp [badOf, hnd]
        have hfin : Opened w l RefNew (.returned (.tuple #[.pointer none, .int .i64 5])) wr := ⟨Hbel.out, .inr ⟨by rw [he]; decide, by rw [he]⟩⟩
        have Hfin := Lib.hid hfin
        rw [hbz]
        clear hfin hal htk he hnd hbz
        go_wp2_with fail
        go_ret2
        exact Hfin.out

/-! ### Copy -/
section
variable {P : Program} (w : World)
theorem run_typeAssert_map (t xT k e : TypeId) (v : Value) (h : P.underlying t = some (.map k e)) : (Instr.typeAssert (.iface t v) xT t false).run P w = .ok v w := by
  simp [Instr.typeAssert, run_underlying h, go_sem, Result.andThen]
theorem run_maps_clone {r : Nat} {es : Array MapEntry} {clock : Nat} (t : TypeId) (hb : w.heap[r]? = some (.map es clock)) :
    (Extern.MapsClone.clone #[.iface t (.map (some r))]).run P w = .ok (.iface t (.map (some w.heap.size))) (w.alloc (.map es clock)) := by
  have e : Extern.MapsClone.clone #[.iface t (.map (some r))] = (getObj r >>= fun o => match o with
      | .map entries clock => (newObj (.map entries clock) >>= fun n => pure (.iface t (.map (some n))))
      | _ => stuck "maps.clone: a map expected") := rfl
  rw [e]
  simp [MapKept.run_getObj_map hb, Result.andThen, go_sem]
end

theorem mapsclone_any (w : World) (b : Nat) (es : Array MapEntry) (clock : Nat) (hb : w.heap[b]? = some (.map es clock)) :
    Calls Try.prog 24 #[.map (some b)] w fun e w' => e = .returned (.map (some w.heap.size)) ∧ w' = w.alloc (.map es clock) := by
  have hq := fun w => run_eql_map_nil (P := Try.prog) w 46 _ _ (some b) Try.underlying46
  go_enter Try.func24, Try.ntmps24
  go_wp2
  rw [run_callFunc_extern Try.func25 (by kernel_rfl) (by kernel_rfl) (by kernel_rfl) (e := Extern.MapsClone.clone) (by kernel_rfl), run_maps_clone w 46 hb]
  simp only [Result.andThen]
  rw [Oper.upon_value]
  go_wp2
  rw [run_typeAssert_map _ 46 _ _ _ _ Try.underlying46]
  simp only [Result.andThen]
  rw [Oper.upon_value]
  go_wp2
  go_ret
  exact ⟨rfl, rfl⟩

set_option maxHeartbeats 1000000 in
theorem copy_any (k0 : Nat) (χ : Col) (w : World) (p : Nat) (l : List Sealed) (hr : RingAt k0 χ w p l) (hl : l.length ≤ 1000000) :
    Calls Try.prog 20 #[.pointer (some ⟨p, 0, none⟩)] w fun e w' => ∃ q, e = .returned (.pointer (some ⟨q, 0, none⟩)) ∧ RingNew w.heap.size w' q l ∧ Below w.heap.size w w' := by
  obtain ⟨⟨A, c, mb, es, clock, hb, ho, hm, hp, hmb⟩, hn⟩ := hr
  have hp0 : w.cell? ⟨p, 0, none⟩ = some (.slice A l.length c) := hb.cell 0
  have hp1 : w.cell? ⟨p, 1, none⟩ = some (.map (some mb)) := hb.cell 1
  have hpl := hb.lt
  have hml := hm.lt
  obtain ⟨A', c', he, hs⟩ := ho.slp
  injection he with h1 h2 h3
  subst h1 h3
  have Hs := Lib.hid hs
  have Hm := Lib.hid hm
  have Hn := Lib.hid hn
  have hafter : ∀ nq v w1, OwnNew (w.drewN nq).heap.size 32 w1 v l → Below (w.drewN nq).heap.size (w.drewN nq) w1 → ∃ A2 c2, v = .slice A2 l.length c2 ∧ w1.cell? ⟨p, 0, none⟩ = some (.slice A l.length c) ∧ w1.cell? ⟨p, 1, none⟩ = some (.map (some mb)) ∧
      w1.heap[mb]? = some (.map es clock) ∧ RingNew w.heap.size ((w1.alloc (.map es clock)).alloc (.cells #[.slice A2 l.length c2, .map (some w1.heap.size)] 48)) (w1.heap.size + 1) l ∧ Below w.heap.size w ((w1.alloc (.map es clock)).alloc (.cells #[.slice A2 l.length c2, .map (some w1.heap.size)] 48)) := by
    intro nq v w1 hown hbel
    obtain ⟨χ2, ho2, hn2⟩ := hown
    obtain ⟨A2, c2, rfl, _, _⟩ := ho2.formN (n := l.length) rfl
    have hbel' : Below w.heap.size w w1 := ⟨hbel.os, hbel.tape, hbel.output, hbel.size, hbel.block⟩
    have hsz := hbel'.size
    have hm1 : w1.heap[mb]? = some (.map es clock) := (hbel'.block mb hml).trans hm.at_
    refine ⟨A2, c2, rfl, (hbel'.cell (p := ⟨p, 0, none⟩) hpl).trans hp0, (hbel'.cell (p := ⟨p, 1, none⟩) hpl).trans hp1, hm1, ?_, (hbel'.alloc hsz _).alloc (by simp; omega) _⟩
    refine ⟨fun b => if b < w1.heap.size then χ2 b else if b < w1.heap.size + 2 then 1 else 0, ⟨⟨A2, c2, w1.heap.size, es, clock, Blk.fresh _ _ _ (by simp), ?_, ?_, ?_, ?_⟩, hn⟩, ?_⟩
    · exact ((ho2.alloc _).alloc _).recol fun g hg hgl hg1 => by
        show (if g < w1.heap.size then χ2 g else if g < w1.heap.size + 2 then 1 else 0) = 1
        split
        · exact hg1
        · have := hgl
          simp at this
          rw [if_pos (by omega)]
    · refine ⟨?_, hm.eq, hm.born, hm.apart⟩
      exact (Below.heap_alloc _ _ _ (by simp)).trans (MapKept.heap_alloc w1 _).1
    · show (if w1.heap.size + 1 < w1.heap.size then χ2 (w1.heap.size + 1) else if w1.heap.size + 1 < w1.heap.size + 2 then 1 else 0) = 1
      rw [if_neg (by omega), if_pos (by omega)]
    · show (if w1.heap.size < w1.heap.size then χ2 w1.heap.size else if w1.heap.size < w1.heap.size + 2 then 1 else 0) = 1
      rw [if_neg (by omega), if_pos (by omega)]
    · intro b hb'
      have : b < w1.heap.size := by omega
      simp only [this, if_true]
      exact hn2 b hb'
  have Hafter := Lib.hid hafter
  clear hb ho hm hp hmb hs h2 hn hafter
  go_enter Try.func20, Try.ntmps20
  go_wp2_with fail
  go_region_held3 (fun w' => w'.cell? ⟨p, 0, none⟩ = some (.slice A l.length c) ∧ w'.cell? ⟨p, 1, none⟩ = some (.map (some mb)))
    (first | go_keep | (refine ⟨?_, ?_⟩ <;> assumption))
    (first
      | (go_at_call 22; refine (clone_any _ _ _ _ l (Hs.out.drewN 1) (by omega)).mono ?_; rintro e w1 ⟨v, rfl, hown, hbel⟩; obtain ⟨A2, c2, rfl, q0, q1, q2, q3, q4⟩ := Hafter.out 1 _ _ hown hbel; have Hq3 := Lib.hid q3; have Hq4 := Lib.hid q4; clear q3 q4 hown hbel)
      | (go_at_call 24; refine (mapsclone_any _ mb es clock (by assumption)).mono ?_; rintro e w2 ⟨rfl, rfl⟩))
  go_wp2_with fail
  go_ret
  exact ⟨_, rfl, Hq3.out, Hq4.out⟩

theorem RingAt.clip {k : Nat} {χ : Col} {w : World} {p : Nat} {l : List Sealed} (h : RingAt k χ w p l) : RingAt k (clip χ w.heap.size) w p l := by
  obtain ⟨⟨A, c, mb, es, clock, h1, h2, h3, h4, h5⟩, h6⟩ := h
  exact ⟨⟨A, c, mb, es, clock, h1, h2.clip, h3, (clip_lt h1.lt).trans h4, (clip_lt h3.lt).trans h5⟩, h6⟩
theorem RefAt.clip {k : Nat} {χ : Col} {w : World} {p : Nat} {l : List Sealed} (h : RefAt k χ w p l) : RefAt k (clip χ w.heap.size) w p l := by
  obtain ⟨A, c, h1, h2, h4⟩ := h
  exact ⟨A, c, h1, h2.clip, (clip_lt h1.lt).trans h4⟩

/-- Sign, said once more: its colours end where the heap ends. -/
theorem sign_n (k0 : Nat) (χ : Col) (w : World) (p : Nat) (l l' : List Sealed) (k : Int) (s : ByteArray) (v : Value) (hS : (signM l k s).1 = l') (hv : (signM l k s).2.val = v) (hr : RingAt k0 χ w p l) (hl : l.length ≤ 1000000) (hs : s.size ≤ 9223372036854775807) :
    Calls Try.prog 10 #[.pointer (some ⟨p, 0, none⟩), .int .i64 k, .string s] w fun e w' => ∃ χ', e = .returned v ∧ Step [k0] χ w χ' w' ∧ RingAt k0 χ' w' p l' ∧ Norm χ' w' := by
  subst hS hv
  exact (sign_any k0 χ w p l k s hr hl hs).mono fun e w' ⟨χ', he, h1, h2⟩ => ⟨_, he, h1.clip, h2.clip, clip_norm _ _⟩
theorem refsign_n (k0 : Nat) (χ : Col) (w : World) (p : Nat) (l l' : List Sealed) (k : Int) (s : ByteArray) (v : Value) (hS : (signM l k s).1 = l') (hv : (signM l k s).2.val = v) (hr : RefAt k0 χ w p l) (hl : l.length ≤ 1000000) (hs : s.size ≤ 9223372036854775807) :
    Calls Try.prog 15 #[.pointer (some ⟨p, 0, none⟩), .int .i64 k, .string s] w fun e w' => ∃ χ', e = .returned v ∧ Step [k0] χ w χ' w' ∧ RefAt k0 χ' w' p l' ∧ Norm χ' w' := by
  subst hS hv
  exact (refsign_any k0 χ w p l k s hr hl hs).mono fun e w' ⟨χ', he, h1, h2⟩ => ⟨_, he, h1.clip, h2.clip, clip_norm _ _⟩
theorem new_n (k : Nat) (χ : Col) (w : World) :
    Calls Try.prog 8 #[] w fun e w' => ∃ p χ', e = .returned (.pointer (some ⟨p, 0, none⟩)) ∧ Step [] χ w χ' w' ∧ RingAt k χ' w' p [] ∧ Norm χ' w' :=
  (new_any k χ w).mono fun e w' ⟨p, χ', he, h1, h2, _⟩ => ⟨p, _, he, h1.clip, h2.clip, clip_norm _ _⟩
theorem refnew_n (k : Nat) (χ : Col) (w : World) :
    Calls Try.prog 14 #[] w fun e w' => ∃ p χ', e = .returned (.pointer (some ⟨p, 0, none⟩)) ∧ Step [] χ w χ' w' ∧ RefAt k χ' w' p [] ∧ Norm χ' w' :=
  (refnew_any k χ w).mono fun e w' ⟨p, χ', he, h1, h2, _⟩ => ⟨p, _, he, h1.clip, h2.clip, clip_norm _ _⟩
theorem valid_n (k0 : Nat) (χ : Col) (w : World) (p : Nat) (l : List Sealed) (k m : Int) (s : ByteArray) (b : Bool) (hv : validM l ⟨k, s, m⟩ = b) (hr : RingAt k0 χ w p l) :
    Calls Try.prog 11 #[.pointer (some ⟨p, 0, none⟩), .agg #[.int .i64 k, .string s, .int .i64 m]] w fun e w' => e = .returned (.bool b) ∧ Below w.heap.size w w' := by
  subst hv
  exact valid_any k0 χ w p l k m s hr
theorem Step.of_below0 {χ : Col} {w w' : World} (T : List Nat) (hb : Below w.heap.size w w') : Step T χ w χ w' := Step.of_below hb fun _ _ => rfl
theorem Norm.below {χ : Col} {w w' : World} (h : Norm χ w) (hb : Below w.heap.size w w') : Norm χ w' := fun b hb' => h b (Nat.le_trans hb.size hb')

end Go.Proofs.Ytnkpnfmmlkjofaa
