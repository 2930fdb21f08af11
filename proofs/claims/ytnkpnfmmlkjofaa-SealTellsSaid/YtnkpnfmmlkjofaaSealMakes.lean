/-
  Layer 5 (seal): the walk of SealMakes: it returns true.
-/
import Derived.Test.YtnkpnfmmlkjofaaSealE
import Derived.Deep.DeepCutAuto
import Derived.Deep.RegionHeld3
namespace Go.Proofs.Ytnkpnfmmlkjofaa
open Go.RowKit Go.Lad

/-- entries, and what was returned for keys, behind signing a list -/
def runM (l : List Sealed) : List Sealed × List Signed :=
  l.foldl (fun st e => ((signM st.1 e.Key e.Text).1, if isKey e.Key then st.2 ++ [(signM st.1 e.Key e.Text).2] else st.2)) ([], [])
theorem runM_snoc (l : List Sealed) (e : Sealed) : runM (l ++ [e]) = ((signM (runM l).1 e.Key e.Text).1, if isKey e.Key then (runM l).2 ++ [(signM (runM l).1 e.Key e.Text).2] else (runM l).2) := by
  simp [runM, List.foldl_append]
theorem isKey_iff {k : Int} : isKey k = true ↔ 0 ≤ k ∧ k < 200 := by simp [isKey]

/-- what holds of the two -/
structure RunOk (n : Nat) (es : List Sealed) (made : List Signed) : Prop where
  nodup : es.Nodup
  el : es.length ≤ n
  ml : made.length ≤ n
  sound : ∀ m ∈ made, validM es m = true
  full : ∀ m, validM es m = true → m ∈ made
theorem validM_iff {es : List Sealed} (hn : es.Nodup) {m : Signed} : validM es m = true ↔ ∃ i : Nat, es[i]? = some ⟨m.Key, m.Text⟩ ∧ (i : Int) = m.Mark := by
  unfold validM
  constructor
  · intro h
    cases hp : pos es ⟨m.Key, m.Text⟩ with
    | none => rw [hp] at h; cases h
    | some i => rw [hp] at h; exact ⟨i, (pos_some hp).1, by simpa using h⟩
  · rintro ⟨i, h1, h2⟩
    cases hp : pos es ⟨m.Key, m.Text⟩ with
    | none => exact absurd (List.mem_of_getElem? h1) (pos_none.1 hp)
    | some j =>
      have hj := (pos_some hp).1
      have hl := (List.getElem?_eq_some_iff.1 hj).1
      have := (List.getElem?_inj hl hn).1 (hj.trans h1.symm)
      subst this
      simpa using h2
theorem runOk (l : List Sealed) : RunOk l.length (runM l).1 (runM l).2 := by
  refine snoc_ind (p := fun l => RunOk l.length (runM l).1 (runM l).2) ?_ ?_ l
  · exact ⟨List.nodup_nil, by simp [runM], by simp [runM], by simp [runM], fun m h => by simp [runM, validM, pos] at h⟩
  · intro l e ih
    show RunOk (l ++ [e]).length (runM (l ++ [e])).1 (runM (l ++ [e])).2
    rw [runM_snoc]
    generalize (runM l).1 = es at *
    generalize (runM l).2 = made at *
    have hll : (l ++ [e]).length = l.length + 1 := by simp
    rw [hll]
    cases hk : isKey e.Key with
    | false =>
      rw [signM_fst_no es e hk]
      exact ⟨ih.nodup, by have := ih.el; omega, by have := ih.ml; simp; omega, ih.sound, ih.full⟩
    | true =>
      have hk' := isKey_iff.1 hk
      simp only [if_true]
      cases hp : pos es ⟨e.Key, e.Text⟩ with
      | some i =>
        have hS : signM es e.Key e.Text = (es, ⟨e.Key, e.Text, i⟩) := by simp [signM, hk', hp]
        rw [hS]
        have hv : validM es ⟨e.Key, e.Text, i⟩ = true := (validM_iff ih.nodup).2 ⟨i, (pos_some hp).1, rfl⟩
        refine ⟨ih.nodup, by have := ih.el; simp; omega, by have := ih.ml; simp; omega, ?_, ?_⟩
        · intro m hm
          rcases List.mem_append.1 hm with hm | hm
          · exact ih.sound m hm
          · rw [List.mem_singleton] at hm; rw [hm]; exact hv
        · intro m hm
          exact List.mem_append_left _ (ih.full m hm)
      | none =>
        have hS : signM es e.Key e.Text = (es ++ [⟨e.Key, e.Text⟩], ⟨e.Key, e.Text, es.length⟩) := by simp [signM, hk', hp]
        rw [hS]
        have hnd : (es ++ [(⟨e.Key, e.Text⟩ : Sealed)]).Nodup := by
          rw [List.nodup_append]
          exact ⟨ih.nodup, by simp, fun a ha b hb => by
            simp only [List.mem_singleton] at hb
            subst hb
            rintro rfl
            exact pos_none.1 hp ha⟩
        refine ⟨hnd, by have := ih.el; simp; omega, by have := ih.ml; simp; omega, ?_, ?_⟩
        · intro m hm
          rcases List.mem_append.1 hm with hm | hm
          · obtain ⟨i, h1, h2⟩ := (validM_iff ih.nodup).1 (ih.sound m hm)
            refine (validM_iff hnd).2 ⟨i, ?_, h2⟩
            rw [List.getElem?_append_left (List.getElem?_eq_some_iff.1 h1).1]
            exact h1
          · rw [List.mem_singleton] at hm
            subst hm
            exact (validM_iff hnd).2 ⟨es.length, by simp, rfl⟩
        · intro m hm
          obtain ⟨i, h1, h2⟩ := (validM_iff hnd).1 hm
          rcases Nat.lt_or_ge i es.length with hi | hi
          · rw [List.getElem?_append_left hi] at h1
            exact List.mem_append_left _ (ih.full m ((validM_iff ih.nodup).2 ⟨i, h1, h2⟩))
          · rw [List.getElem?_append_right hi] at h1
            have hi0 : i - es.length = 0 := by
              have := (List.getElem?_eq_some_iff.1 h1).1
              simp at this
              omega
            rw [hi0] at h1
            simp at h1
            refine List.mem_append_right _ ?_
            rw [List.mem_singleton]
            obtain ⟨mk, mt, mm⟩ := m
            simp at h1 h2
            obtain ⟨rfl, rfl⟩ := h1
            congr 1
            omega
theorem runM_mark (l : List Sealed) : ∀ m ∈ (runM l).2, 0 ≤ m.Mark ∧ m.Mark < l.length := by
  intro m hm
  have h := runOk l
  obtain ⟨i, h1, h2⟩ := (validM_iff h.nodup).1 (h.sound m hm)
  have := (List.getElem?_eq_some_iff.1 h1).1
  have := h.el
  omega

/-- the state of the law's loops -/
structure MkSt (w : World) (p : Nat) (s : Signed) (χ : Col) (wr : World) (es : List Sealed) (mv : Value) (made : List Signed) : Prop where
  st : Step [1, 2, 3] (fun _ => 0) w χ wr
  norm : Norm χ wr
  ring : RingAt 1 χ wr p es
  own : Own 2 χ 24 wr mv made
  box : Box 0 χ wr w.heap.size 24 #[.int .i64 s.Key, .string s.Text, .int .i64 s.Mark]
section
variable {w : World} {p : Nat} {s : Signed} {χ χ' : Col} {wr wr' : World} {es : List Sealed} {mv : Value} {made : List Signed}
theorem MkSt.quiet (h : MkSt w p s χ wr es mv made) (st : Step [] χ wr χ' wr') (hn : Norm χ' wr') : MkSt w p s χ' wr' es mv made :=
  ⟨h.st.trans (st.wide (by simp)), hn, h.ring.step st (by simp) (by simp), h.own.step st (by simp) (by simp), h.box.step st (by simp)⟩
theorem MkSt.below (h : MkSt w p s χ wr es mv made) (hb : Below wr.heap.size wr wr') : MkSt w p s χ wr' es mv made :=
  h.quiet (Step.of_below0 _ hb) (Norm.below h.norm hb)
theorem MkSt.alloc (h : MkSt w p s χ wr es mv made) (o : Obj) : MkSt w p s χ (wr.alloc o) es mv made := h.quiet ((Step.refl _ _ _).alloc o) (Norm.alloc h.norm o)
theorem MkSt.drewN (h : MkSt w p s χ wr es mv made) (n : Nat) : MkSt w p s χ (wr.drewN n) es mv made := h.quiet ((Step.refl _ _ _).drewN n) h.norm
theorem ringStepP {T : List Nat} {k : Nat} {χ χ' : Col} {w w' : World} {p : Nat} {l : List Sealed} (h : RingAt k χ w p l) (s : Step T χ w χ' w') (hk : k ∉ T) : RingAt k χ' w' p l := by
  obtain ⟨⟨A, c, mb, es, clock, hb, ho, hm, h1, h2⟩, hn⟩ := h
  exact ⟨⟨A, c, mb, es, clock, hb.step s (by rw [h1]; exact hk), ho.stepP s hk, hm.frame (s.block _ hm.lt (by rw [h2]; exact hk)), (s.col _ hb.lt).trans h1, (s.col _ hm.lt).trans h2⟩, hn⟩
theorem MkSt.store (h : MkSt w p s χ wr es mv made) {q : Nat} (hq : χ q = 0) (hqw : w.heap.size < q) (i : Nat) (u : Value) : MkSt w p s χ (wr.setCell ⟨q, i, none⟩ u) es mv made := by
  have st : Step [0] χ wr χ (wr.setCell ⟨q, i, none⟩ u) := (Step.refl _ χ wr).setCell (.inl (by rw [hq]; simp)) u
  exact ⟨h.st.setCell (.inr (Nat.le_of_lt hqw)) u, fun b hb => h.norm b (by simpa [World.setCell] using hb), ringStepP h.ring st (by simp), h.own.stepP st (by simp), ⟨h.box.blk.far (by show w.heap.size ≠ q; omega) u, h.box.col⟩⟩
theorem MkSt.app (h : MkSt w p s χ wr es mv made) {mv' : Value} {made' : List Signed} (st : Step [2] χ wr χ' wr') (ho : Own 2 χ' 24 wr' mv' made') : MkSt w p s (clip χ' wr'.heap.size) wr' es mv' made' :=
  ⟨h.st.trans (st.clip.wide (by simp)), clip_norm _ _, h.ring.step st.clip (by simp) (by simp), ho.clip, h.box.step st.clip (by simp)⟩
theorem MkSt.bel (h : MkSt w p s χ wr es mv made) : Below w.heap.size w wr := h.st.below (Nat.le_refl _) (by simp)
end

theorem MkSt.touch {w : World} {p : Nat} {s : Signed} {χ χ' : Col} {wr wr' : World} {es : List Sealed} {mv : Value} {made : List Signed} (h : MkSt w p s χ wr es mv made) (st : Step [3] χ wr χ' wr') : MkSt w p s (clip χ' wr'.heap.size) wr' es mv made :=
  ⟨h.st.trans (st.clip.wide (by simp)), clip_norm _ _, h.ring.step st.clip (by simp) (by simp), h.own.step st.clip (by simp) (by simp), h.box.step st.clip (by simp)⟩
/-- .. with the list of all signatures that are tried -/
def MkAll (w : World) (p : Nat) (s : Signed) (es : List Sealed) (mv : Value) (made : List Signed) (K : Nat) (av : Value) (wx : World) : Prop :=
  ∃ (χ' : Col) (L : List Signed), MkSt w p s χ' wx es mv made ∧ Own 3 χ' 24 wx av L ∧ L.length = K
theorem new4 {W : World} {g : Nat} {k1 k2 k3 k4 m1 m2 m3 m4 : Int} {s1 s2 s3 s4 : ByteArray} (hg : W.heap.size = g) (h1 : I64 k1) (h2 : I64 k2) (h3 : I64 k3) (h4 : I64 k4)
    (t1 : s1.size ≤ 9223372036854775807) (t2 : s2.size ≤ 9223372036854775807) (t3 : s3.size ≤ 9223372036854775807) (t4 : s4.size ≤ 9223372036854775807) (n1 : I64 m1) (n2 : I64 m2) (n3 : I64 m3) (n4 : I64 m4) :
    Sl (fun _ => True) (W.alloc (.cells #[.int .i64 k1, .string s1, .int .i64 m1, .int .i64 k2, .string s2, .int .i64 m2, .int .i64 k3, .string s3, .int .i64 m3, .int .i64 k4, .string s4, .int .i64 m4] 24)) (some ⟨g, 0, none⟩) 4 4
      [(⟨k1, s1, m1⟩ : Signed), ⟨k2, s2, m2⟩, ⟨k3, s3, m3⟩, ⟨k4, s4, m4⟩] := by
  refine Sl.newN _ hg rfl (by omega) fun i x hx => ?_
  match i, hx with
  | 0, hx => simp at hx; subst hx; exact ⟨_, Signed.mk_rd h1 t1 n1, fun j u hu => by match j, hu with | 0, hu => exact hu | 1, hu => exact hu | 2, hu => exact hu⟩
  | 1, hx => simp at hx; subst hx; exact ⟨_, Signed.mk_rd h2 t2 n2, fun j u hu => by match j, hu with | 0, hu => exact hu | 1, hu => exact hu | 2, hu => exact hu⟩
  | 2, hx => simp at hx; subst hx; exact ⟨_, Signed.mk_rd h3 t3 n3, fun j u hu => by match j, hu with | 0, hu => exact hu | 1, hu => exact hu | 2, hu => exact hu⟩
  | 3, hx => simp at hx; subst hx; exact ⟨_, Signed.mk_rd h4 t4 n4, fun j u hu => by match j, hu with | 0, hu => exact hu | 1, hu => exact hu | 2, hu => exact hu⟩
theorem eq_signed (x y : Signed) (w : World) : (Op.equal 24 x.val y.val).run Try.prog w = .ok (decide (x = y)) w := by
  have h : (Op.equal 24 x.val y.val) = Op.equalIn (9999 + 1) 24 x.val y.val := rfl
  rw [h, Signed.val, Signed.val]
  have e : decide (x = y) = (x.Key == y.Key && (x.Text.toList == y.Text.toList && x.Mark == y.Mark)) := by
    rw [← beq_toListBytes, bytes_beq, Bool.eq_iff_iff]
    cases x; cases y; simp
  rw [e]
  simp [go_sem]
  split
  · split
    · split <;> simp_all
    · simp_all
  · simp_all
theorem eql_signed (W : World) (k k' m m' : Int) (s s' : ByteArray) : (binOp .eql 24 (.agg #[.int .i64 k, .string s, .int .i64 m]) (.agg #[.int .i64 k', .string s', .int .i64 m'])).run Try.prog W = .ok (.bool (decide ((⟨k, s, m⟩ : Signed) = ⟨k', s', m'⟩))) W := by
  have h := eq_signed ⟨k, s, m⟩ ⟨k', s', m'⟩ W
  simp only [Signed.val] at h
  simp only [binOp]
  simp [h]

/-- what one round's Sign leaves -/
def Signd (w : World) (p : Nat) (s x : Signed) (es : List Sealed) (mv : Value) (made : List Signed) (xv : Value) (wx : World) : Prop :=
  ∃ (bx : Nat) (χ' : Col), xv = .pointer (some ⟨bx, 0, none⟩) ∧ MkSt w p s χ' wx es mv made ∧ Box 0 χ' wx bx 24 #[.int .i64 x.Key, .string x.Text, .int .i64 x.Mark]
def MkAny (w : World) (p : Nat) (s : Signed) (es : List Sealed) (made : List Signed) (mv : Value) (wx : World) : Prop := ∃ χ', MkSt w p s χ' wx es mv made

set_option maxRecDepth 100000 in
set_option maxHeartbeats 4000000 in
theorem makes_any (w : World) (A : Option Addr) (n c : Nat) (l : List Sealed) (s : Signed) (hs : Sl (Old w) w A n c l) (hsk : I64 s.Key) (hst : s.Text.size ≤ 9223372036854775807) (hsm : I64 s.Mark) :
    Calls Try.prog 3 #[.slice A n c, .agg #[.int .i64 s.Key, .string s.Text, .int .i64 s.Mark]] w fun e w' => e = .returned (.bool true) ∧ Below w.heap.size w w' := by
  have hn := hs.len
  have hc := hs.cap
  have hx := hs.max
  have Hn := Lib.hid hn
  have Hs := Lib.hid hs
  clear hn hs
  go_enter Try.func3, Try.ntmps3
  go_wp2_with (go_at_call 7; refine (small_any _).mono ?_; rintro e w1 ⟨rfl, hb1⟩)
  refine (new_n 1 (fun _ => 0) w1).mono ?_
  rintro e w2 ⟨p, χ2, rfl, hst2, hr2, hn2⟩
  have hbx : Blk w1 w.heap.size 24 #[.int .i64 s.Key, .string s.Text, .int .i64 s.Mark] := (Blk.new w _ _).below hb1 (by simp)
  have hstp : Step [1, 2, 3] (fun _ => 0) w (fun _ => 0) w1 := ((Step.refl _ _ w).alloc _).trans (Step.of_below0 _ hb1)
  have hM : MkSt w p s χ2 w2 [] (.slice none 0 0) [] := ⟨hstp.trans (hst2.wide (by simp)), hn2, hr2, Own.nil _ _ _ _, (Box.mk hbx rfl : Box 0 (fun _ => 0) _ _ _ _).step hst2 (by simp)⟩
  have HM := Lib.hid hM
  have hsl : Sl (Old w2) w2 A n c l := (Hs.out.old_below hM.bel).mono fun b h1 _ => by have := hM.st.size; unfold Old at *; omega
  have Hsl := Lib.hid hsl
  clear hb1 hst2 hr2 hn2 hbx hstp hM hsl
  cases hfew : fewM l 40 with
  | false =>
    have Hfew := Lib.hid hfew
    clear hfew
    go_wp2_with (go_at_call 9; refine (few_any _ A n c l 40 (by omega) Hsl.out).mono ?_; rw [Hfew.out]; rintro e w3 ⟨rfl, rfl⟩)
    go_ret
    exact ⟨rfl, HM.out.bel⟩
  | true =>
    have Hfew := Lib.hid hfew
    clear hfew
    have hn40 : n ≤ 40 := by
      have := Hfew.out
      simp [fewM] at this
      have h := Hn.out
      omega
    go_wp2_with (go_at_call 9; refine (few_any _ A n c l 40 (by omega) Hsl.out).mono ?_; rw [Hfew.out]; rintro e w3 ⟨rfl, rfl⟩)
    go_loopw [7, 8] (fun mv iv wr => ∃ (k : Nat) (χr : Col), k ≤ n ∧ iv = .int .i64 k ∧ MkSt w p s χr wr (runM (l.take k)).1 mv (runM (l.take k)).2) (fun _ iv _ => n - (intOf iv).toNat)
    case atStart => exact ⟨0, χ2, Nat.zero_le _, rfl, by simpa [runM] using HM.out⟩
    case round =>
      obtain ⟨k, χr, hk, rfl, hm⟩ := hrel
      have Hm := Lib.hid hm
      clear hm
      by_cases hlt : k < n
      · obtain ⟨b, off, rfl, H⟩ := (Hs.out.old_below Hm.out.bel).at_ (by omega)
        have hkl : k < l.length := by rw [Hn.out]; exact hlt
        have hat := Sealed.at_ (H k l[k] (List.getElem?_eq_getElem hkl))
        have h0 : wr.cell? ⟨b, off + k * 2, none⟩ = some (.int .i64 l[k].Key) := hat.1
        have h1 : wr.cell? ⟨b, off + k * 2 + 1, none⟩ = some (.string l[k].Text) := hat.2.1
        have hT := hat.2.2.2.1
        have hI := Lib.hid hat.2.2.1
        have hbo : b < w.heap.size := hat.2.2.2.2
        have hwr : w.heap.size ≤ wr.heap.size := Hm.out.st.size
        have hki : (0 : Int) ≤ (k : Int) := by omega
        have hkn : (k : Int) < (n : Int) := by omega
        clear hat H
        have hrun : runM (l.take (k + 1)) = ((signM (runM (l.take k)).1 l[k].Key l[k].Text).1, if isKey l[k].Key then (runM (l.take k)).2 ++ [(signM (runM (l.take k)).1 l[k].Key l[k].Text).2] else (runM (l.take k)).2) := by
          rw [List.take_succ_eq_append_getElem hkl]; exact runM_snoc _ _
        have hok := runOk (l.take k)
        have hel : (runM (l.take k)).1.length ≤ 40 := by have := hok.el; rw [List.length_take] at this; omega
        have hml : (runM (l.take k)).2.length ≤ 40 := by have := hok.ml; rw [List.length_take] at this; omega
        have hok2 := runOk (l.take (k + 1))
        generalize hX : l[k] = X at h0 h1 hT hI hrun
        generalize (runM (l.take k)).1 = es at *
        generalize (runM (l.take k)).2 = made at *
        obtain ⟨x, hxe⟩ : ∃ x, x = (signM es X.Key X.Text).2 := ⟨_, rfl⟩
        obtain ⟨es', hes⟩ : ∃ es', es' = (signM es X.Key X.Text).1 := ⟨_, rfl⟩
        rw [← hxe, ← hes] at hrun
        have Hxe := Lib.hid hxe
        have Hes := Lib.hid hes
        have Hrun := Lib.hid hrun
        have Hok2 := Lib.hid hok2
        have hc2 : ∀ o, (wr.drew.alloc o).cell? ⟨b, off + k * 2, none⟩ = some (.int .i64 X.Key) := fun o => (World.cell?_of_block (Below.heap_alloc wr.drew o b (by show b < wr.heap.size; omega))).trans h0
        have hc3 : ∀ o, (wr.drew.alloc o).cell? ⟨b, off + k * 2 + 1, none⟩ = some (.string X.Text) := fun o => (World.cell?_of_block (Below.heap_alloc wr.drew o b (by show b < wr.heap.size; omega))).trans h1
        have hcall : ∀ W, MkSt w p s χr W es u7 made → Calls Try.prog 10 #[.pointer (some ⟨p, 0, none⟩), .int .i64 X.Key, .string X.Text] W fun e w' => e = .returned (.agg #[.int .i64 x.Key, .string x.Text, .int .i64 x.Mark]) ∧
            ∃ χ', MkSt w p s χ' w' es' u7 made ∧ Step [1] χr W χ' w' := by
          intro W hW
          refine (sign_n 1 χr W p es es' X.Key X.Text (.agg #[.int .i64 x.Key, .string x.Text, .int .i64 x.Mark]) hes.symm (by rw [← hxe]; rfl) hW.ring (by omega) hT).mono ?_
          rintro e w' ⟨χ', he, h1, h2, h3⟩
          exact ⟨he, χ', ⟨hW.st.trans (h1.wide (by simp)), h3, h2, hW.own.step h1 (by simp) (by simp), hW.box.step h1 (by simp)⟩, h1⟩
        have Hw0 := Lib.hid ((Hm.out.bel.cell (p := ⟨b, off + k * 2, none⟩) hbo).symm.trans h0)
        have Hw1 := Lib.hid ((Hm.out.bel.cell (p := ⟨b, off + k * 2 + 1, none⟩) hbo).symm.trans h1)
        have HcallD := Lib.hid (hcall wr.drew (Hm.out.drewN 1))
        have HcallA := Lib.hid (fun o => hcall (wr.alloc o).drew ((Hm.out.alloc o).drewN 1))
        clear hX hxe hes hrun hok hok2 hcall
        go_upto_region 9 with fail
        go_cut [9] (Signd w p s x es' u7 made)
        case first =>
          go_region_held3 (fun w' => w'.cell? ⟨b, off + k * 2, none⟩ = some (.int .i64 X.Key) ∧ w'.cell? ⟨b, off + k * 2 + 1, none⟩ = some (.string X.Text))
            (first | go_keep | (refine ⟨?_, ?_⟩ <;> assumption))
            (first
              | (go_at_call 10; (with_reducible refine HcallD.out.mono ?_); rintro e w3 ⟨rfl, χ3, hm3, hs3⟩; have q0 := (hm3.bel.cell (p := ⟨b, off + k * 2, none⟩) hbo).trans Hw0.out; have q1 := (hm3.bel.cell (p := ⟨b, off + k * 2 + 1, none⟩) hbo).trans Hw1.out; have hb3 : b < w3.heap.size := Nat.lt_of_lt_of_le hbo hm3.st.size; have hne3 : ¬ b = w3.heap.size := (by omega); have Hm3 := Lib.hid hm3; have Hs3 := Lib.hid hs3; clear hm3 hs3)
              | (go_at_call 10; (with_reducible refine (HcallA.out _).mono ?_); rintro e w3 ⟨rfl, χ3, hm3, hs3⟩; have q0 := (hm3.bel.cell (p := ⟨b, off + k * 2, none⟩) hbo).trans Hw0.out; have q1 := (hm3.bel.cell (p := ⟨b, off + k * 2 + 1, none⟩) hbo).trans Hw1.out
                 have qb := ((Box.new (χ := χr) (w := wr) (t := 24) (cs := #[.int .i64 0, .string { data := #[] }, .int .i64 0]) rfl Hm.out.norm).drew.step hs3 (by simp))
                 have z0 : w3.cell? ⟨wr.heap.size, 0, none⟩ = some (.int .i64 0) := qb.blk.cell 0
                 have z1 : w3.cell? ⟨wr.heap.size, 1, none⟩ = some (.string { data := #[] }) := qb.blk.cell 1
                 have z2 : w3.cell? ⟨wr.heap.size, 2, none⟩ = some (.int .i64 0) := qb.blk.cell 2
                 have y0 : w3.frozen? ⟨wr.heap.size, 0, none⟩ = false := qb.blk.frozen 0
                 have y1 : w3.frozen? ⟨wr.heap.size, 1, none⟩ = false := qb.blk.frozen 1
                 have y2 : w3.frozen? ⟨wr.heap.size, 2, none⟩ = false := qb.blk.frozen 2
                 have hne : wr.heap.size ≠ b := by omega
                 have Hqb := Lib.hid qb
                 have Hm3 := Lib.hid hm3
                 clear hm3 hs3 qb))
          · go_wp2_with fail
            go_meet
            exact ⟨w3.heap.size, χ3, rfl, Hm3.out.alloc _, Box.new rfl Hm3.out.norm⟩
          · go_wp2_with fail
            go_meet
            have hwq : w.heap.size < wr.heap.size := Hm.out.box.blk.lt
            refine ⟨wr.heap.size, χ3, rfl, ((Hm3.out.store Hqb.out.col hwq 0 _).store Hqb.out.col hwq 1 _).store Hqb.out.col hwq 2 _, ⟨?_, Hqb.out.col⟩⟩
            exact ((Hqb.out.blk.set_ 0 (.int .i64 x.Key)).set_ 1 (.string x.Text)).set_ 2 (.int .i64 x.Mark)
        case rest =>
          obtain ⟨wo, rfl⟩ : ∃ wo : World, wo = wr := ⟨_, rfl⟩
          obtain ⟨bx, χ3, rfl, hm3, hbx3⟩ := hcut
          have b0 : wc.cell? ⟨bx, 0, none⟩ = some (.int .i64 x.Key) := hbx3.blk.cell 0
          have b1 : wc.cell? ⟨bx, 1, none⟩ = some (.string x.Text) := hbx3.blk.cell 1
          have b2 : wc.cell? ⟨bx, 2, none⟩ = some (.int .i64 x.Mark) := hbx3.blk.cell 2
          have c0 : wc.cell? ⟨b, off + k * 2, none⟩ = some (.int .i64 X.Key) := (hm3.bel.cell (p := ⟨b, off + k * 2, none⟩) hbo).trans Hw0.out
          have c1 : wc.cell? ⟨b, off + k * 2 + 1, none⟩ = some (.string X.Text) := (hm3.bel.cell (p := ⟨b, off + k * 2 + 1, none⟩) hbo).trans Hw1.out
          have Hm3 := Lib.hid hm3
          clear hm3 hbx3 h0 h1 hc2 hc3
          obtain ⟨mq, hmq⟩ : ∃ mq, mq = (runM (l.take (k + 1))).2 := ⟨_, rfl⟩
          have hes2 : es' = (runM (l.take (k + 1))).1 := by rw [Hrun.out]
          have hok2 : ∀ m ∈ mq, validM es' m = true := by rw [hes2, hmq]; exact Hok2.out.sound
          clear Hok2
          have Hok2 := Lib.hid hok2
          have Hes2 := Lib.hid hes2
          have Hmq := Lib.hid hmq
          clear hmq hes2 hok2
          cases hkey : isKey X.Key with
          | false =>
            have hxx : x = ⟨0, noText, 0⟩ := by
              rw [Hxe.out]
              unfold signM
              rw [if_neg (fun h => by rw [isKey_iff.2 h] at hkey; cases hkey)]
            subst hxx
            have Hm4 : Hid (MkSt w p s χ3 wc es' u7 mq) := Lib.hid (by
              have : mq = made := by rw [Hmq.out, Hrun.out, hkey]; simp
              rw [this]; exact Hm3.out)
            have hnk : ¬ (0 ≤ X.Key ∧ X.Key < 200) := fun h => by rw [isKey_iff.2 h] at hkey; cases hkey
            clear hkey
            have hN : noText.toList = [] := by rw [ByteArray.toList_eq]; rfl
            obtain ⟨χ4, rfl⟩ : ∃ χ4 : Col, χ4 = χ3 := ⟨_, rfl⟩
            obtain ⟨mv4, rfl⟩ : ∃ mv4 : Value, mv4 = u7 := ⟨_, rfl⟩
            by_cases hk0 : 0 ≤ X.Key
            · have hk1 : ¬ X.Key < 200 := by omega
              clear hnk
              go_wp2_with fail
              go_loopw [10] (fun jv wx => ∃ (j : Nat), j ≤ mq.length ∧ jv = .int .i64 j ∧ MkSt w p s χ4 wx es' mv4 mq) (fun jv _ => mq.length - (intOf jv).toNat)
              case atStart => exact ⟨0, Nat.zero_le _, rfl, Hm4.out⟩
              case round =>
                obtain ⟨j, hj, rfl, hm5⟩ := hrel
                have Hm5 := Lib.hid hm5
                clear hm5
                obtain ⟨A5, c5, hmv5, hsl5⟩ := Hm5.out.own.slp
                subst hmv5
                have Hsl5 := Lib.hid hsl5
                clear hsl5
                have hc5 := Hsl5.out.cap
                have hx5 := Hsl5.out.max
                by_cases hjl : j < mq.length
                · obtain ⟨b5, off5, hA5, H5⟩ := Hsl5.out.at_ (by omega)
                  subst hA5
                  have hat5 := Signed.at_ (H5 j mq[j] (List.getElem?_eq_getElem hjl))
                  have hv5 : validM es' mq[j] = true := Hok2.out _ (List.getElem_mem hjl)
                  have g0 : wr.cell? ⟨b5, off5 + j * 3, none⟩ = some (.int .i64 mq[j].Key) := hat5.1
                  have g1 : wr.cell? ⟨b5, off5 + j * 3 + 1, none⟩ = some (.string mq[j].Text) := hat5.2.1
                  have g2 : wr.cell? ⟨b5, off5 + j * 3 + 2, none⟩ = some (.int .i64 mq[j].Mark) := hat5.2.2.1
                  clear hat5 H5
                  generalize mq[j] = Y at *
                  have Hv5 := Lib.hid hv5
                  clear hv5
                  go_wp2_with (go_at_call 11; refine (valid_n 1 χ4 _ p es' Y.Key Y.Mark Y.Text true Hv5.out Hm5.out.ring).mono ?_; rintro e w6 ⟨rfl, hb6⟩)
                  go_roundw
                  case rel => exact ⟨j + 1, by omega, by go_num, Hm5.out.below hb6⟩
                  case measure => simp [intOf]; omega
                · go_wp2_with fail
                  go_roundw
                  case rel => exact ⟨k + 1, χ4, by omega, by go_num, by rw [← Hes2.out, ← Hmq.out]; exact Hm5.out⟩
                  case measure => simp [intOf]; omega
            · have hk1 : decide (0 ≤ X.Key) = false := by simpa using hk0
              clear hnk
              go_wp2_with fail
              go_loopw [10] (fun jv wx => ∃ (j : Nat), j ≤ mq.length ∧ jv = .int .i64 j ∧ MkSt w p s χ4 wx es' mv4 mq) (fun jv _ => mq.length - (intOf jv).toNat)
              case atStart => exact ⟨0, Nat.zero_le _, rfl, Hm4.out⟩
              case round =>
                obtain ⟨j, hj, rfl, hm5⟩ := hrel
                have Hm5 := Lib.hid hm5
                clear hm5
                obtain ⟨A5, c5, hmv5, hsl5⟩ := Hm5.out.own.slp
                subst hmv5
                have Hsl5 := Lib.hid hsl5
                clear hsl5
                have hc5 := Hsl5.out.cap
                have hx5 := Hsl5.out.max
                by_cases hjl : j < mq.length
                · obtain ⟨b5, off5, hA5, H5⟩ := Hsl5.out.at_ (by omega)
                  subst hA5
                  have hat5 := Signed.at_ (H5 j mq[j] (List.getElem?_eq_getElem hjl))
                  have hv5 : validM es' mq[j] = true := Hok2.out _ (List.getElem_mem hjl)
                  have g0 : wr.cell? ⟨b5, off5 + j * 3, none⟩ = some (.int .i64 mq[j].Key) := hat5.1
                  have g1 : wr.cell? ⟨b5, off5 + j * 3 + 1, none⟩ = some (.string mq[j].Text) := hat5.2.1
                  have g2 : wr.cell? ⟨b5, off5 + j * 3 + 2, none⟩ = some (.int .i64 mq[j].Mark) := hat5.2.2.1
                  clear hat5 H5
                  generalize mq[j] = Y at *
                  have Hv5 := Lib.hid hv5
                  clear hv5
                  go_wp2_with (go_at_call 11; refine (valid_n 1 χ4 _ p es' Y.Key Y.Mark Y.Text true Hv5.out Hm5.out.ring).mono ?_; rintro e w6 ⟨rfl, hb6⟩)
                  go_roundw
                  case rel => exact ⟨j + 1, by omega, by go_num, Hm5.out.below hb6⟩
                  case measure => simp [intOf]; omega
                · go_wp2_with fail
                  go_roundw
                  case rel => exact ⟨k + 1, χ4, by omega, by go_num, by rw [← Hes2.out, ← Hmq.out]; exact Hm5.out⟩
                  case measure => simp [intOf]; omega
          | true =>
            have hk2 := isKey_iff.1 hkey
            obtain ⟨hka, hkb⟩ := hk2
            have hxx : x.Key = X.Key ∧ x.Text = X.Text ∧ 0 ≤ x.Mark ∧ x.Mark ≤ 40 := by
              rw [Hxe.out]
              unfold signM
              rw [if_pos ⟨hka, hkb⟩]
              split
              · rename_i i hi
                have := pos_lt hi
                exact ⟨rfl, rfl, by simp, by simp; omega⟩
              · exact ⟨rfl, rfl, by simp, by simp; omega⟩
            obtain ⟨xk, xt, xm⟩ := x
            obtain ⟨rfl, rfl, hxm0, hxm1⟩ := hxx
            have hmd : mq = made ++ [⟨X.Key, X.Text, xm⟩] := by rw [Hmq.out, Hrun.out, hkey]; simp
            have Hmd := Lib.hid hmd
            clear hmd hkey
            go_wp2_with fail
            go_quiet (fail)
            go_upto_region 13 with fail
            go_cut [7] (MkAny w p s es' mq)
            case first =>
              go_wp2_with (at_builtin; refine wpList_app (α := Signed) rfl (.tmp 81) (.tmp 83) rfl elem29 rfl ((Hm3.out.own.drewN _).alloc _) rfl (Sl.new1 ⟨X.Key, X.Text, xm⟩ (by simp) (Signed.mk_rd hI.out hT ⟨by omega, by omega⟩)) (fun _ _ _ h => Plain.any h) (by omega) (by simp; omega) ?_; intro v4 w4 χ4 hown4 hst4)
              go_meet
              exact ⟨_, by rw [Hmd.out]; exact ((Hm3.out.drewN _).alloc _).app hst4 hown4⟩
            case rest =>
              obtain ⟨χ4, hm4⟩ := hcut
              have Hm4 := Lib.hid hm4
              clear hm4
              obtain ⟨mv4, rfl⟩ : ∃ mv4 : Value, mv4 = u7 := ⟨_, rfl⟩
              go_wp2_with fail
              go_loopw [10] (fun jv wx => ∃ (j : Nat), j ≤ mq.length ∧ jv = .int .i64 j ∧ MkSt w p s χ4 wx es' mv4 mq) (fun jv _ => mq.length - (intOf jv).toNat)
              case atStart => exact ⟨0, Nat.zero_le _, rfl, Hm4.out⟩
              case round =>
                obtain ⟨j, hj, rfl, hm5⟩ := hrel
                have Hm5 := Lib.hid hm5
                clear hm5
                obtain ⟨A5, c5, hmv5, hsl5⟩ := Hm5.out.own.slp
                subst hmv5
                have Hsl5 := Lib.hid hsl5
                clear hsl5
                have hc5 := Hsl5.out.cap
                have hx5 := Hsl5.out.max
                by_cases hjl : j < mq.length
                · obtain ⟨b5, off5, hA5, H5⟩ := Hsl5.out.at_ (by omega)
                  subst hA5
                  have hat5 := Signed.at_ (H5 j mq[j] (List.getElem?_eq_getElem hjl))
                  have hv5 : validM es' mq[j] = true := Hok2.out _ (List.getElem_mem hjl)
                  have g0 : wr.cell? ⟨b5, off5 + j * 3, none⟩ = some (.int .i64 mq[j].Key) := hat5.1
                  have g1 : wr.cell? ⟨b5, off5 + j * 3 + 1, none⟩ = some (.string mq[j].Text) := hat5.2.1
                  have g2 : wr.cell? ⟨b5, off5 + j * 3 + 2, none⟩ = some (.int .i64 mq[j].Mark) := hat5.2.2.1
                  clear hat5 H5
                  generalize mq[j] = Y at *
                  have Hv5 := Lib.hid hv5
                  clear hv5
                  go_wp2_with (go_at_call 11; refine (valid_n 1 χ4 _ p es' Y.Key Y.Mark Y.Text true Hv5.out Hm5.out.ring).mono ?_; rintro e w6 ⟨rfl, hb6⟩)
                  go_roundw
                  case rel => exact ⟨j + 1, by omega, by go_num, Hm5.out.below hb6⟩
                  case measure => simp [intOf]; omega
                · go_wp2_with fail
                  go_roundw
                  case rel => exact ⟨k + 1, χ4, by omega, by go_num, by rw [← Hes2.out, ← Hmq.out]; exact Hm5.out⟩
                  case measure => simp [intOf]; omega
      · have hkn : k = n := by omega
        subst hkn
        have htk : l.take k = l := List.take_of_length_le (by rw [Hn.out]; omega)
        have hm := Hm.out
        rw [htk] at hm
        have hok := runOk l
        have hmk := runM_mark l
        rw [Hn.out] at hok hmk
        generalize (runM l).1 = es at *
        generalize (runM l).2 = made at *
        have Hm1 := Lib.hid hm
        have Hok := Lib.hid hok
        have Hmk := Lib.hid hmk
        have hml : made.length ≤ 40 := by have := hok.ml; omega
        clear hm hok hmk htk
        obtain ⟨A5, c5, hmv5, hsl5⟩ := Hm1.out.own.slp
        subst hmv5
        have Hsl5 := Lib.hid hsl5
        have hs0 : wr.cell? ⟨w.heap.size, 0, none⟩ = some (.int .i64 s.Key) := Hm1.out.box.blk.cell 0
        have hs1 : wr.cell? ⟨w.heap.size, 1, none⟩ = some (.string s.Text) := Hm1.out.box.blk.cell 1
        have hs2 : wr.cell? ⟨w.heap.size, 2, none⟩ = some (.int .i64 s.Mark) := Hm1.out.box.blk.cell 2
        have hso : ∀ arr, Own 3 (fun b => if b = wr.heap.size then 3 else χr b) 24 (wr.alloc (.cells #[.int .i64 s.Key, .string s.Text, .int .i64 s.Mark] arr)) (.slice (some ⟨wr.heap.size, 0, none⟩) 1 1) [s] → True := fun _ _ => trivial
        clear hsl5 hso
        go_upto_region 21 with fail
        go_cut [11] (MkAll w p s es (.slice A5 made.length c5) made (1 + made.length))
        case first =>
          go_wp2_with (at_builtin; refine wpList_app (α := Signed) (k := 3) (χ := fun b => if b = wr.heap.size then 3 else χr b) (l := [s]) rfl (.tmp 102) (.tmp 103) rfl elem29 rfl (Own.built1 s rfl (by simp) (Signed.mk_rd hsk hst hsm)) rfl (Hsl5.out.alloc _) (fun _ _ _ h => Plain.any h) (by omega) (by simp; omega) ?_; intro v6 w6 χ6 hown6 hst6)
          go_meet
          have hq : MkSt w p s (fun b => if b = wr.heap.size then 3 else χr b) (wr.alloc (.cells #[.int .i64 s.Key, .string s.Text, .int .i64 s.Mark] 24)) es (.slice A5 made.length c5) made :=
            Hm1.out.quiet (((Step.refl [] χr wr).alloc _).recol fun b hb => by show (if b = wr.heap.size then 3 else χr b) = χr b; rw [if_neg (by omega)]) fun b hb => by
              have hb' : wr.heap.size + 1 ≤ b := by simpa using hb
              show (if b = wr.heap.size then 3 else χr b) = 0
              rw [if_neg (by omega)]; exact Hm1.out.norm b (by omega)
          exact ⟨_, _, hq.touch hst6, hown6.clip, by simp; omega⟩
        case rest =>
          have Hcut := Lib.hid hcut
          clear hcut hs0 hs1 hs2
          go_wp2_with fail
          go_loopw [11, 12] (fun av iv wx => ∃ j : Nat, j ≤ made.length ∧ iv = .int .i64 j ∧ MkAll w p s es (.slice A5 made.length c5) made (1 + made.length + 4 * j) av wx) (fun _ iv _ => made.length - (intOf iv).toNat)
          case atStart => exact ⟨0, Nat.zero_le _, rfl, Hcut.out⟩
          case round =>
            obtain ⟨wo, rfl⟩ : ∃ wo : World, wo = wr := ⟨_, rfl⟩
            obtain ⟨j, hj, rfl, χ7, L, hm7, ho7, hL⟩ := hrel
            have hbx := hm7.box.blk.lt
            have hs0 : wo.cell? ⟨w.heap.size, 0, none⟩ = some (.int .i64 s.Key) := hm7.box.blk.cell 0
            have hs1 : wo.cell? ⟨w.heap.size, 1, none⟩ = some (.string s.Text) := hm7.box.blk.cell 1
            have hs2 : wo.cell? ⟨w.heap.size, 2, none⟩ = some (.int .i64 s.Mark) := hm7.box.blk.cell 2
            obtain ⟨A7, c7, he7, hsl7⟩ := hm7.own.slp
            injection he7 with e1 e2 e3
            subst e1 e3
            have Hsl7 := Lib.hid hsl7
            have Hm7 := Lib.hid hm7
            have Ho7 := Lib.hid ho7
            have HL := Lib.hid hL
            have hc7 := hsl7.cap
            have hx7 := hsl7.max
            clear hsl7 hm7 ho7 hL e2
            by_cases hjl : j < made.length
            · obtain ⟨b7, off7, hA7, H7⟩ := Hsl7.out.at_ (by omega)
              subst hA7
              have hat7 := Signed.at_ (H7 j made[j] (List.getElem?_eq_getElem hjl))
              have hmk7 := Hmk.out made[j] (List.getElem_mem hjl)
              have g0 : wo.cell? ⟨b7, off7 + j * 3, none⟩ = some (.int .i64 made[j].Key) := hat7.1
              have g1 : wo.cell? ⟨b7, off7 + j * 3 + 1, none⟩ = some (.string made[j].Text) := hat7.2.1
              have g2 : wo.cell? ⟨b7, off7 + j * 3 + 2, none⟩ = some (.int .i64 made[j].Mark) := hat7.2.2.1
              have hgl := cell_lt g0
              have q1 := Lib.hid hat7.2.2.2.1
              have q2 := hat7.2.2.2.2.1
              have q3 := Lib.hid hat7.2.2.2.2.2.1
              obtain ⟨hmk0, hmk1⟩ := hmk7
              clear hat7 H7
              generalize made[j] = Y at *
              go_wp2_with (at_builtin; refine wpList_app (α := Signed) rfl (.tmp 115) (.tmp 145) rfl elem29 rfl ((Ho7.out.alloc _).alloc _) rfl (new4 (by simp) hsk q1.out q1.out q1.out q2 hst q2 q2 q3.out q3.out hsm ⟨by omega, by omega⟩) (fun _ _ _ h => Plain.any h) (by omega) (by rw [HL.out]; simp; omega) ?_; intro v8 w8 χ8 hown8 hst8)
              go_roundw
              case rel =>
                exact ⟨j + 1, by omega, by go_num, _, _, ((Hm7.out.alloc _).alloc _).touch hst8, hown8.clip, by simp [HL.out]; omega⟩
              case measure => simp [intOf]; omega
            · clear hs0 hs1 hs2
              obtain ⟨A9, c9, hav, hsl9⟩ := Ho7.out.slp
              subst hav
              have Hsl9 := Lib.hid hsl9
              have hc9 := hsl9.cap
              have hx9 := hsl9.max
              have heq := eql_signed
              clear hsl9
              go_wp2_with fail
              go_loopw [14] (fun iv wx => ∃ i : Nat, i ≤ L.length ∧ iv = .int .i64 i ∧ MkSt w p s χ7 wx es (.slice A5 made.length c5) made ∧ Own 3 χ7 24 wx (.slice A9 L.length c9) L) (fun iv _ => L.length - (intOf iv).toNat)
              case atStart => exact ⟨0, Nat.zero_le _, rfl, Hm7.out, Ho7.out⟩
              case round =>
                obtain ⟨wp, rfl⟩ : ∃ wp : World, wp = wr := ⟨_, rfl⟩
                obtain ⟨i, hi, rfl, hm8, ho8⟩ := hrel
                have Hm8 := Lib.hid hm8
                have Ho8 := Lib.hid ho8
                obtain ⟨A8, c8, he8, hsl8⟩ := hm8.own.slp
                injection he8 with e1 e2 e3
                subst e1 e3
                have Hsl8 := Lib.hid hsl8
                obtain ⟨A8', c8', he8, hsl8'⟩ := ho8.slp
                injection he8 with e1 e2' e3
                subst e1 e3
                have Hsl8' := Lib.hid hsl8'
                clear hm8 ho8 hsl8 hsl8' e2 e2'
                by_cases hil : i < L.length
                · obtain ⟨b9, off9, hA9, H9⟩ := Hsl8'.out.at_ (by omega)
                  subst hA9
                  have hat9 := Signed.at_ (H9 i L[i] (List.getElem?_eq_getElem hil))
                  have z0 : wp.cell? ⟨b9, off9 + i * 3, none⟩ = some (.int .i64 L[i].Key) := hat9.1
                  have z1 : wp.cell? ⟨b9, off9 + i * 3 + 1, none⟩ = some (.string L[i].Text) := hat9.2.1
                  have z2 : wp.cell? ⟨b9, off9 + i * 3 + 2, none⟩ = some (.int .i64 L[i].Mark) := hat9.2.2.1
                  have hii : (0 : Int) ≤ (i : Int) := by omega
                  have hil' : (i : Int) < (L.length : Int) := by omega
                  clear hat9 H9
                  generalize L[i] = Z at *
                  have hv9 : validM es ⟨Z.Key, Z.Text, Z.Mark⟩ = decide (Z ∈ made) := by
                    rw [Bool.eq_iff_iff, decide_eq_true_eq]
                    exact ⟨fun h => Hok.out.full Z h, fun h => Hok.out.sound Z h⟩
                  have Hv9 := Lib.hid hv9
                  clear hv9
                  go_wp2_with fail
                  go_loopw [15, 16] (fun bv qv wx => ∃ q m : Nat, q ≤ made.length ∧ qv = .int .i64 q ∧ bv = .bool (decide (Z ∈ made.take q)) ∧ wx = wp.drewN m) (fun _ qv _ => made.length - (intOf qv).toNat)
                  case atStart => exact ⟨0, 0, Nat.zero_le _, rfl, by simp, rfl⟩
                  case round =>
                    obtain ⟨q, m, hq, rfl, rfl, rfl⟩ := hrel
                    by_cases hql : q < made.length
                    · obtain ⟨b10, off10, hA10, H10⟩ := Hsl8.out.at_ (by omega)
                      subst hA10
                      have hat10 := Signed.at_ (H10 q made[q] (List.getElem?_eq_getElem hql))
                      have y0 : wp.cell? ⟨b10, off10 + q * 3, none⟩ = some (.int .i64 made[q].Key) := hat10.1
                      have y1 : wp.cell? ⟨b10, off10 + q * 3 + 1, none⟩ = some (.string made[q].Text) := hat10.2.1
                      have y2 : wp.cell? ⟨b10, off10 + q * 3 + 2, none⟩ = some (.int .i64 made[q].Mark) := hat10.2.2.1
                      have hqq : (0 : Int) ≤ (q : Int) := by omega
                      have hql' : (q : Int) < (made.length : Int) := by omega
                      have hnext : decide (Z ∈ made.take (q + 1)) = (decide (Z ∈ made.take q) || decide ((⟨made[q].Key, made[q].Text, made[q].Mark⟩ : Signed) = ⟨Z.Key, Z.Text, Z.Mark⟩)) := by
                        rw [List.take_succ_eq_append_getElem hql]
                        rw [Bool.eq_iff_iff]
                        simp only [List.mem_append, List.mem_singleton, Bool.or_eq_true, decide_eq_true_eq]
                        have e1 : (⟨made[q].Key, made[q].Text, made[q].Mark⟩ : Signed) = made[q] := rfl
                        have e2 : (⟨Z.Key, Z.Text, Z.Mark⟩ : Signed) = Z := rfl
                        rw [e1, e2]
                        exact ⟨fun h => h.imp id Eq.symm, fun h => h.imp id Eq.symm⟩
                      clear hat10 H10
                      generalize made[q] = Y at *
                      generalize decide (Z ∈ made.take q) = bb at *
                      have Hnext := Lib.hid hnext
                      clear hnext
                      cases bb with
                      | true =>
                        go_wp2_with fail
                        go_quiet (fail)
                        go_wp2_with fail
                        go_roundw
                        case rel => exact ⟨q + 1, _, by omega, by go_num, by rw [Hnext.out]; rfl, rfl⟩
                        case measure => simp [intOf]; omega
                      | false =>
                        go_wp2_with fail
                        go_quiet (fail)
                        go_wp2_with fail
                        go_roundw
                        case rel => exact ⟨q + 1, _, by omega, by go_num, by rw [Hnext.out]; simp, rfl⟩
                        case measure => simp [intOf]; omega
                    · have hqe : q = made.length := by omega
                      subst hqe
                      have hcn : ∀ m, MkSt w p s χ7 (wp.drewN m) es (.slice A5 made.length c5) made := fun m => Hm8.out.drewN m
                      have Hcn := Lib.hid hcn
                      have hon : ∀ m, Own 3 χ7 24 (wp.drewN m) (.slice (some ⟨b9, off9, none⟩) L.length c9) L := fun m => Ho8.out.drewN m
                      have Hon := Lib.hid hon
                      rw [List.take_length]
                      clear hcn hon
                      go_wp2_with (go_at_call 11; refine (valid_n 1 χ7 _ p es Z.Key Z.Mark Z.Text (decide (Z ∈ made)) Hv9.out (Hcn.out _).ring).mono ?_; rintro e w6 ⟨rfl, hb6⟩)
                      go_roundw
                      case rel => exact ⟨i + 1, by omega, by go_num, (Hcn.out _).below hb6, (Hon.out _).step (Step.of_below0 (χ := χ7) [] hb6) (by simp) (by simp)⟩
                      case measure => simp [intOf]; omega
                · go_wp2_with fail
                  go_ret
                  exact ⟨rfl, Hm8.out.bel⟩
end Go.Proofs.Ytnkpnfmmlkjofaa
