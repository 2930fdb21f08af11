/-
  Layer 5 (seal): the law file's small: it returns true.
-/
import Derived.Test.YtnkpnfmmlkjofaaSealD
namespace Go.Proofs.Ytnkpnfmmlkjofaa
open Go.RowKit Go.Lad

def tA : ByteArray := ⟨#[97]⟩
def tB : ByteArray := ⟨#[98]⟩

/-- The four calls of Sign, one step each: behind the call a box for what came back. -/
theorem small_step {w w0 : World} {χ : Col} {p : Nat} {l l' : List Sealed} {k : Int} {s : ByteArray} {cs : Array Value} (hS : (signM l k s).1 = l') (hv : (signM l k s).2.val = .agg cs)
    (hst : Step [1] (fun _ => 0) w0 χ w) (hr : RingAt 1 χ w p l) (hl : l.length ≤ 1000) (hs : s.size ≤ 1000) :
    Calls Try.prog 10 #[.pointer (some ⟨p, 0, none⟩), .int .i64 k, .string s] w fun e w' => e = .returned (.agg cs) ∧ ∃ χ', Step [1] χ w χ' w' ∧
      Step [1] (fun _ => 0) w0 χ' (w'.alloc (.cells cs 24)) ∧ RingAt 1 χ' (w'.alloc (.cells cs 24)) p l' ∧ Box 0 χ' (w'.alloc (.cells cs 24)) w'.heap.size 24 cs :=
  (sign_n 1 χ w p l l' k s (.agg cs) hS hv hr (by omega) (by omega)).mono fun e w' ⟨χ', he, h1, h2, h3⟩ =>
    ⟨he, χ', h1, (hst.trans h1).alloc _, h2.step (T := []) ((Step.refl _ _ _).alloc _) (by simp) (by simp), Box.new rfl h3⟩

set_option maxHeartbeats 4000000 in
theorem small_any (w : World) :
    Calls Try.prog 7 #[] w fun e w' => e = .returned (.bool true) ∧ Below w.heap.size w w' := by
  go_enter Try.func7, Try.ntmps7
  go_wp2_with (go_at_call 8; refine (new_n 1 (fun _ => 0) w).mono ?_; rintro e w1 ⟨p, χ1, rfl, hst1, hr1, hn1⟩)
  refine (small_step (l' := [⟨3, tA⟩]) (s := tA) (cs := #[.int .i64 3, .string tA, .int .i64 0]) (by rfl) (by rfl) (hst1.wide (by simp)) hr1 (by simp) (by decide)).mono ?_
  rintro e w2 ⟨rfl, χ2, -, hst2, hr2, hb2⟩
  have Hst2 := Lib.hid hst2
  have Hr2 := Lib.hid hr2
  have Hb2 := Lib.hid hb2
  clear hst1 hr1 hn1 hst2 hr2 hb2
  go_wp2_with fail
  refine (small_step (l' := [⟨3, tA⟩, ⟨4, tA⟩]) (s := tA) (cs := #[.int .i64 4, .string tA, .int .i64 1]) (by rfl) (by rfl) Hst2.out Hr2.out (by simp) (by decide)).mono ?_
  rintro e w3 ⟨rfl, χ3, hs3, hst3, hr3, hb3⟩
  have Ha3 := Lib.hid ((Hb2.out.step hs3 (by simp)).alloc (.cells #[.int .i64 4, .string tA, .int .i64 1] 24))
  have Hb3 := Lib.hid hb3
  have Hst3 := Lib.hid hst3
  have Hr3 := Lib.hid hr3
  clear hs3 hst3 hr3 hb3
  go_wp2_with fail
  refine (small_step (l' := [⟨3, tA⟩, ⟨4, tA⟩]) (s := tA) (cs := #[.int .i64 3, .string tA, .int .i64 0]) (by rfl) (by rfl) Hst3.out Hr3.out (by simp) (by decide)).mono ?_
  rintro e w4 ⟨rfl, χ4, hs4, hst4, hr4, hb4⟩
  have Ha4 := Lib.hid ((Ha3.out.step hs4 (by simp)).alloc (.cells #[.int .i64 3, .string tA, .int .i64 0] 24))
  have Hb4 := Lib.hid ((Hb3.out.step hs4 (by simp)).alloc (.cells #[.int .i64 3, .string tA, .int .i64 0] 24))
  have Hc4 := Lib.hid hb4
  have Hst4 := Lib.hid hst4
  have Hr4 := Lib.hid hr4
  clear hs4 hst4 hr4 hb4
  go_wp2_with fail
  refine (small_step (l' := [⟨3, tA⟩, ⟨4, tA⟩]) (s := tA) (cs := #[.int .i64 0, .string noText, .int .i64 0]) (by rfl) (by rfl) Hst4.out Hr4.out (by simp) (by decide)).mono ?_
  rintro e w5 ⟨rfl, χ5, hs5, hst5, hr5, hb5⟩
  have ha5 := (Ha4.out.step hs5 (by simp)).blk
  have hb5' := (Hb4.out.step hs5 (by simp)).blk
  have hc5 := (Hc4.out.step hs5 (by simp)).blk
  have la := ha5.lt
  have lb := hb5'.lt
  have lc := hc5.lt
  have a0 : w5.cell? ⟨w2.heap.size, 0, none⟩ = some (.int .i64 3) := ha5.cell 0
  have a1 : w5.cell? ⟨w2.heap.size, 1, none⟩ = some (.string tA) := ha5.cell 1
  have a2 : w5.cell? ⟨w2.heap.size, 2, none⟩ = some (.int .i64 0) := ha5.cell 2
  have b0 : w5.cell? ⟨w3.heap.size, 0, none⟩ = some (.int .i64 4) := hb5'.cell 0
  have b1 : w5.cell? ⟨w3.heap.size, 1, none⟩ = some (.string tA) := hb5'.cell 1
  have b2 : w5.cell? ⟨w3.heap.size, 2, none⟩ = some (.int .i64 1) := hb5'.cell 2
  have c0 : w5.cell? ⟨w4.heap.size, 0, none⟩ = some (.int .i64 3) := hc5.cell 0
  have c1 : w5.cell? ⟨w4.heap.size, 1, none⟩ = some (.string tA) := hc5.cell 1
  have c2 : w5.cell? ⟨w4.heap.size, 2, none⟩ = some (.int .i64 0) := hc5.cell 2
  have Hst5 := Lib.hid hst5
  have Hr5 := Lib.hid hr5
  have Ha5 := Lib.hid ha5
  clear hs5 hst5 hr5 hb5 ha5 hb5' hc5
  have hA : tA.toList = [97] := by rw [ByteArray.toList_eq]; rfl
  have hN : noText.toList = [] := by rw [ByteArray.toList_eq]; rfl
  simp only []
  go_wp2_with fail
  refine (valid_n 1 χ5 _ p [⟨3, tA⟩, ⟨4, tA⟩] 3 0 tA true (by rfl) Hr5.out).mono ?_
  rintro e w6 ⟨rfl, hb6⟩
  have Hr6 := Lib.hid (Hr5.out.step (Step.of_below0 (χ := χ5) [] hb6) (by simp) (by simp))
  have Hst6 := Lib.hid (Hst5.out.trans (Step.of_below0 (χ := χ5) [1] hb6))
  clear hb6
  go_wp2_with fail
  refine (valid_n 1 χ5 _ p [⟨3, tA⟩, ⟨4, tA⟩] 3 1 tA false (by rfl) Hr6.out).mono ?_
  rintro e w7 ⟨rfl, hb7⟩
  have Hr7 := Lib.hid (Hr6.out.step (Step.of_below0 (χ := χ5) [] hb7) (by simp) (by simp))
  have Hst7 := Lib.hid (Hst6.out.trans (Step.of_below0 (χ := χ5) [1] hb7))
  clear hb7
  go_wp2_with fail
  refine (valid_n 1 χ5 _ p [⟨3, tA⟩, ⟨4, tA⟩] 3 0 tB false (by rfl) Hr7.out).mono ?_
  rintro e w8 ⟨rfl, hb8⟩
  have Hr8 := Lib.hid (Hr7.out.step (Step.of_below0 (χ := χ5) [] hb8) (by simp) (by simp))
  have Hst8 := Lib.hid (Hst7.out.trans (Step.of_below0 (χ := χ5) [1] hb8))
  clear hb8
  go_wp2_with fail
  refine (all_any 1 χ5 _ p [⟨3, tA⟩, ⟨4, tA⟩] Hr8.out (by simp)).mono ?_
  rintro e w9 ⟨v, rfl, ⟨χ9, ho9, _⟩, hb9⟩
  obtain ⟨A9, c9, rfl, _, _⟩ := ho9.formN (n := 2) rfl
  have Hst9 := Lib.hid (Hst8.out.trans (Step.of_below0 (χ := χ5) [1] hb9))
  clear hb9 ho9
  go_wp2_with fail
  go_ret
  exact ⟨rfl, Hst9.out.below (Nat.le_refl _) (by simp)⟩
end Go.Proofs.Ytnkpnfmmlkjofaa
