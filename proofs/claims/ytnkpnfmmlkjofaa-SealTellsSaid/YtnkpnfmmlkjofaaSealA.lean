/-
  Layer 5 (seal): Sign, Valid, New, All, Open, Copy and the reference's functions: what each call does.
-/
import Derived.Test.YtnkpnfmmlkjofaaMaps
import Derived.Test.YtnkpnfmmlkjofaaProg
import Derived.Deep.RegionLaw
import Derived.StillTailTactics
namespace Go.Proofs.Ytnkpnfmmlkjofaa
open Go.RowKit Go.Lad

structure Sealed where
  Key : Int
  Text : ByteArray
  deriving DecidableEq
structure Signed where
  Key : Int
  Text : ByteArray
  Mark : Int
  deriving DecidableEq
instance : GoRep Sealed := GoRep.via fun e => (e.Key, e.Text, ())
instance : GoRep Signed := GoRep.via fun e => (e.Key, e.Text, e.Mark, ())
instance : Plain Sealed := ⟨fun h => Plain.any (α := Int × ByteArray × Unit) h⟩
instance : Plain Signed := ⟨fun h => Plain.any (α := Int × ByteArray × Int × Unit) h⟩
def Sealed.val (e : Sealed) : Value := .agg #[.int .i64 e.Key, .string e.Text]
def Signed.val (e : Signed) : Value := .agg #[.int .i64 e.Key, .string e.Text, .int .i64 e.Mark]
def vfI (n : Nat) : Value := .int .i64 n
theorem Sealed.mk_rd {F : Nat → Prop} {w : World} {k : Int} {s : ByteArray} (h : I64 k) (hs : s.size ≤ 9223372036854775807) : GoRep.rd F w [.int .i64 k, .string s] (⟨k, s⟩ : Sealed) :=
  ⟨[_], [_], rfl, ⟨rfl, h⟩, [_], [], rfl, ⟨rfl, hs⟩, rfl⟩
theorem Signed.mk_rd {F : Nat → Prop} {w : World} {k m : Int} {s : ByteArray} (h : I64 k) (hs : s.size ≤ 9223372036854775807) (hm : I64 m) : GoRep.rd F w [.int .i64 k, .string s, .int .i64 m] (⟨k, s, m⟩ : Signed) :=
  ⟨[_], [_, _], rfl, ⟨rfl, h⟩, [_], [_], rfl, ⟨rfl, hs⟩, [_], [], rfl, ⟨rfl, hm⟩, rfl⟩
theorem Sealed.at_ {F : Nat → Prop} {w : World} {b off : Nat} {e : Sealed} (h : At F w b off e) :
    w.cell? ⟨b, off, none⟩ = some (.int .i64 e.Key) ∧ w.cell? ⟨b, off + 1, none⟩ = some (.string e.Text) ∧ I64 e.Key ∧ e.Text.size ≤ 9223372036854775807 ∧ F b := by
  have h : At F w b off (e.Key, e.Text, ()) := h
  have h0 := h.fst.cell0
  have h1 := h.snd.fst.str
  exact ⟨h0.2.1, h1.2.1, h0.2.2, h1.2.2, h0.1⟩
theorem Signed.at_ {F : Nat → Prop} {w : World} {b off : Nat} {e : Signed} (h : At F w b off e) :
    w.cell? ⟨b, off, none⟩ = some (.int .i64 e.Key) ∧ w.cell? ⟨b, off + 1, none⟩ = some (.string e.Text) ∧ w.cell? ⟨b, off + 2, none⟩ = some (.int .i64 e.Mark) ∧
      I64 e.Key ∧ e.Text.size ≤ 9223372036854775807 ∧ I64 e.Mark ∧ F b := by
  have h : At F w b off (e.Key, e.Text, e.Mark, ()) := h
  have h0 := h.fst.cell0
  have h1 := h.snd.fst.str
  have h2 := h.snd.snd.fst.cell0
  exact ⟨h0.2.1, h1.2.1, h2.2.1, h0.2.2, h1.2.2, h2.2.2, h0.1⟩

theorem elem22 : ElemOf Try.prog 22 32 (GoRep.sz Sealed) := by
  refine ⟨Try.underlying22, ?_, by decide⟩
  obtain ⟨i, hi, hz, hs, hb⟩ := info_parts (P := Try.prog) (e := 32) (z := .agg #[.int .i64 0, .string ⟨#[]⟩]) (size := 2) (bytes := 24) (by kernel_rfl)
  exact ⟨i, _, hi, hz, hs, by omega, rfl⟩
theorem elem29 : ElemOf Try.prog 29 24 (GoRep.sz Signed) := by
  refine ⟨Try.underlying29, ?_, by decide⟩
  obtain ⟨i, hi, hz, hs, hb⟩ := info_parts (P := Try.prog) (e := 24) (z := .agg #[.int .i64 0, .string ⟨#[]⟩, .int .i64 0]) (size := 3) (bytes := 32) (by kernel_rfl)
  exact ⟨i, _, hi, hz, hs, by omega, rfl⟩

theorem eq_sealed (x y : Sealed) (w : World) : (Op.equal 32 x.val y.val).run Try.prog w = .ok (decide (x = y)) w := by
  have h : (Op.equal 32 x.val y.val) = Op.equalIn (9999 + 1) 32 x.val y.val := rfl
  rw [h, Sealed.val, Sealed.val]
  have e : decide (x = y) = (x.Key == y.Key && x.Text.toList == y.Text.toList) := by
    rw [← beq_toListBytes, bytes_beq, Bool.eq_iff_iff]
    cases x; cases y; simp
  rw [e]
  simp [go_sem]
  split
  · split <;> simp_all
  · simp_all
theorem law_sealed : KeyLaw Try.prog 32 Sealed.val := by
  refine KeyLaw.struct Try.underlying32 ?_ eq_sealed ?_
  · intro b x w
    have key : ∀ n, (Instr.checkKey b (n + 1 + 1) 32 x.val).run Try.prog w = .ok () w := by
      intro n
      have hu : (Try.prog).underlying 32 = some (.struct (Try.prog.fieldsOf 32)) := by kernel_rfl
      have hf : (Try.prog.fieldsOf 32).toList = [⟨ "Key", 3, 0, false, "", "", 0⟩, ⟨ "Text", 9, 1, false, "", "", 8⟩] := by kernel_rfl
      rw [Sealed.val, Instr.checkKey]
      simp only [Sem.run_bind, run_underlying hu, Result.andThen_ok]
      rw [← Array.forIn_toList, hf]
      simp [go_sem, Instr.checkKey]
    exact key 9998
  · intro x
    simp [Sealed.val, Instr.sameBits, bytes_beq]

/-! ### the ring -/
structure RingAt (k : Nat) (χ : Col) (w : World) (p : Nat) (l : List Sealed) : Prop where
  ex : ∃ A c mb es clock, Blk w p 48 #[.slice A l.length c, .map (some mb)] ∧ Own k χ 32 w (.slice A l.length c) l ∧ MapAt Sealed.val vfI w mb es clock l.zipIdx ∧ χ p = k ∧ χ mb = k
  nodup : l.Nodup

theorem RingAt.step {T : List Nat} {k : Nat} {χ χ' : Col} {w w' : World} {p : Nat} {l : List Sealed} (h : RingAt k χ w p l) (s : Step T χ w χ' w') (hk : k ∉ T) (h0 : 0 ∉ T) : RingAt k χ' w' p l := by
  obtain ⟨⟨A, c, mb, es, clock, hb, ho, hm, h1, h2⟩, hn⟩ := h
  exact ⟨⟨A, c, mb, es, clock, hb.step s (by rw [h1]; exact hk), ho.step s hk h0, hm.frame (s.block _ hm.lt (by rw [h2]; exact hk)), (s.col _ hb.lt).trans h1, (s.col _ hm.lt).trans h2⟩, hn⟩

def isKey (k : Int) : Bool := decide (0 ≤ k) && decide (k < 200)
def noText : ByteArray := ⟨#[]⟩
def signM (l : List Sealed) (k : Int) (s : ByteArray) : List Sealed × Signed :=
  if 0 ≤ k ∧ k < 200 then
    match pos l ⟨k, s⟩ with
    | some i => (l, ⟨k, s, i⟩)
    | none => (l ++ [⟨k, s⟩], ⟨k, s, l.length⟩)
  else (l, ⟨0, noText, 0⟩)

theorem look_zip {α : Type} [DecidableEq α] (l : List α) (x : α) : lookM l.zipIdx x = pos l x := by
  unfold lookM
  have : l.zipIdx.map (·.1) = l := by simp
  rw [this]
  cases h : pos l x with
  | none => rfl
  | some i =>
    have hl := pos_lt h
    simp [hl]
theorem put_zip {α : Type} [DecidableEq α] (l : List α) (x : α) (h : pos l x = none) : putM l.zipIdx x l.length = (l ++ [x]).zipIdx := by
  unfold putM
  have : l.zipIdx.map (·.1) = l := by simp
  rw [this, h]
  simp [List.zipIdx_append]

theorem key_no (a : Int) (w : World) (h : ¬ (0 ≤ a ∧ a < 200)) :
    Calls Try.prog 21 #[.int .i64 a] w fun e w' => e = .returned (.bool false) ∧ w = w' := by
  by_cases h1 : 0 ≤ a
  · have h2 : ¬ a < 200 := by omega
    go_enter Try.func21, Try.ntmps21
    go_wp2
    go_ret
    exact ⟨rfl, rfl⟩
  · have h1' : decide (0 ≤ a) = false := by simpa using h1
    go_enter Try.func21, Try.ntmps21
    go_wp2
    go_ret
    exact ⟨rfl, rfl⟩
theorem key_yes (a : Int) (w : World) (h1 : 0 ≤ a) (h2 : a < 200) :
    Calls Try.prog 21 #[.int .i64 a] w fun e w' => e = .returned (.bool true) ∧ w = w' := by
  go_enter Try.func21, Try.ntmps21
  go_wp2
  go_ret
  exact ⟨rfl, rfl⟩

/-- What a call on a ring leaves. -/
def Ringed (k : Nat) (χ : Col) (w : World) (p : Nat) (l : List Sealed) (v : Value) (e : Ending) (w' : World) : Prop :=
  ∃ χ', e = .returned v ∧ Step [k] χ w χ' w' ∧ RingAt k χ' w' p l

theorem new_any (k : Nat) (χ : Col) (w : World) :
    Calls Try.prog 8 #[] w fun e w' => ∃ p χ', e = .returned (.pointer (some ⟨p, 0, none⟩)) ∧ Step [] χ w χ' w' ∧ RingAt k χ' w' p [] ∧ w.heap.size ≤ p := by
  have hmm := @run_makeMap Try.prog
  go_enter Try.func8, Try.ntmps8
  go_wp2
  go_ret
  refine ⟨_, fun b => if b < w.heap.size then χ b else k, rfl, ?_, ⟨⟨none, 0, w.heap.size, #[], 0, ?_, Own.nil _ _ _ _, ?_, ?_, ?_⟩, List.nodup_nil⟩, ?_⟩
  · exact (((Step.refl [] χ w).alloc _).alloc _).recol fun b hb => by simp [hb]
  · exact Blk.fresh _ _ _ (by simp)
  · exact (MapAt.made Sealed.val vfI w).frame (Below.heap_alloc _ _ _ (by simp))
  · show (if w.heap.size + 1 < w.heap.size then _ else k) = k
    rw [if_neg (by omega)]
  · simp
  · simp

set_option maxHeartbeats 1000000 in
theorem sign_any (k0 : Nat) (χ : Col) (w : World) (p : Nat) (l : List Sealed) (k : Int) (s : ByteArray) (hr : RingAt k0 χ w p l) (hl : l.length ≤ 1000000) (hs : s.size ≤ 9223372036854775807) :
    Calls Try.prog 10 #[.pointer (some ⟨p, 0, none⟩), .int .i64 k, .string s] w (Ringed k0 χ w p (signM l k s).1 (signM l k s).2.val) := by
  by_cases hk : 0 ≤ k ∧ k < 200
  · obtain ⟨⟨A, c, mb, es, clock, hb, ho, hm, hp, hmb⟩, hn⟩ := hr
    have hp0 : w.cell? ⟨p, 0, none⟩ = some (.slice A l.length c) := hb.cell 0
    have hp1 : w.cell? ⟨p, 1, none⟩ = some (.map (some mb)) := hb.cell 1
    have hpl := hb.lt
    have hlk0 : ∀ W : World, W.heap[mb]? = w.heap[mb]? → (Instr.lookup 46 (.map (some mb)) (.agg #[.int .i64 k, .string s]) true).run Try.prog W = .ok (.tuple #[((pos l ⟨k, s⟩).map vfI).getD (.int .i64 0), .bool (pos l ⟨k, s⟩).isSome]) W := by
      intro W hW
      have := (hm.frame hW).look_ok law_sealed Try.underlying46 (z := .int .i64 0) (fun w => by kernel_rfl) ⟨k, s⟩
      rw [look_zip] at this
      exact this
    have hml := hm.lt
    have hW2 : ∀ o1 o2 nq, (((w.alloc o1).alloc o2).drewN nq).heap[mb]? = w.heap[mb]? := by
      intro o1 o2 nq
      exact (Below.heap_alloc _ o2 mb (by simp; omega)).trans (Below.heap_alloc w o1 mb hml)
    cases hpos : pos l ⟨k, s⟩ with
    | some i =>
      have hil := pos_lt hpos
      have hlk : ∀ o1 o2 nq, (Instr.lookup 46 (.map (some mb)) (.agg #[.int .i64 k, .string s]) true).run Try.prog (((w.alloc o1).alloc o2).drewN nq) = .ok (.tuple #[.int .i64 i, .bool true]) (((w.alloc o1).alloc o2).drewN nq) := by
        intro o1 o2 nq
        rw [hlk0 _ (hW2 o1 o2 nq), hpos]; rfl
      have hS := Lib.hid (show signM l k s = (l, ⟨k, s, i⟩) by simp [signM, hk, hpos])
      clear hlk0 hW2 hpos
      obtain ⟨hk1, hk2⟩ := hk
      have HX := Lib.hid (show RingAt k0 χ w p l from ⟨⟨A, c, mb, es, clock, hb, ho, hm, hp, hmb⟩, hn⟩)
      clear hm hp hmb hb ho hn
      go_enter Try.func10, Try.ntmps10
      go_wp2_with (go_at_call 21; refine (key_yes _ _ hk1 hk2).mono ?_; rintro e w' ⟨rfl, rfl⟩)
      go_quiet (fail)
      go_wp2_with fail
      refine bodyPost_ret (v := .agg #[.int .i64 k, .string s, .int .i64 i]) (by simp [results, Try.results10, go_sem]) rfl ?_
      rw [hS.out]
      have st : Step [] χ w χ ((((((w.alloc (Obj.cells #[.int .i64 0, .string { data := #[] }, .int .i64 0] 24)).alloc (Obj.cells #[.int .i64 k, .string s] 32)).drewN nq).setCell ⟨w.heap.size, 0, none⟩ (.int .i64 k)).setCell ⟨w.heap.size, 1, none⟩ (.string s)).setCell ⟨w.heap.size, 2, none⟩ (.int .i64 i)) :=
        ((((((Step.refl [] χ w).alloc _).alloc _).drewN nq).setCell (.inr (Nat.le_refl _)) _).setCell (.inr (Nat.le_refl _)) _).setCell (.inr (Nat.le_refl _)) _
      exact ⟨χ, rfl, st.wide (by simp), HX.out.step st (by simp) (by simp)⟩
    | none =>
      have hlk : ∀ o1 o2 nq, (Instr.lookup 46 (.map (some mb)) (.agg #[.int .i64 k, .string s]) true).run Try.prog (((w.alloc o1).alloc o2).drewN nq) = .ok (.tuple #[.int .i64 0, .bool false]) (((w.alloc o1).alloc o2).drewN nq) := by
        intro o1 o2 nq
        rw [hlk0 _ (hW2 o1 o2 nq), hpos]; rfl
      have hS := Lib.hid (show signM l k s = (l ++ [⟨k, s⟩], ⟨k, s, l.length⟩) by simp [signM, hk, hpos])
      have hput := Lib.hid (show putM l.zipIdx (⟨k, s⟩ : Sealed) l.length = (l ++ [(⟨k, s⟩ : Sealed)]).zipIdx from put_zip l _ hpos)
      have hn' := Lib.hid (show (l ++ [(⟨k, s⟩ : Sealed)]).Nodup by
        rw [List.nodup_append]
        exact ⟨hn, by simp, fun a ha b hb => by
          simp only [List.mem_singleton] at hb
          rintro rfl
          subst hb
          exact pos_none.1 hpos ha⟩)
      obtain ⟨χ1, hχ1⟩ : ∃ χ1 : Col, χ1 = fun b => if b < w.heap.size ∧ χ b = k0 then (if b = p then 2 else if b = mb then 3 else 1) else 0 := ⟨_, rfl⟩
      have hpm : p ≠ mb := by
        rintro rfl
        have h1 := hm.at_
        unfold Blk at hb
        rw [hb] at h1
        cases h1
      have hc2 : χ1 p = 2 := by rw [hχ1]; simp [hpl, hp]
      have hc3 : χ1 mb = 3 := by rw [hχ1]; simp [hml, hmb, Ne.symm hpm]
      have hcn : ∀ b, w.heap.size ≤ b → χ1 b = 0 := by intro b hb'; rw [hχ1]; simp only; rw [if_neg (by omega)]
      have hck : ∀ b, b < w.heap.size → χ1 b ≠ 0 → χ b = k0 := by
        intro b hb' h0
        rw [hχ1] at h0
        simp only at h0
        by_cases hx : b < w.heap.size ∧ χ b = k0
        · exact hx.2
        · rw [if_neg hx] at h0; exact absurd rfl h0
      have ho1 : Own 1 χ1 32 w (.slice A l.length c) l := ho.recol fun g hg hgl hgk => by
        have h1 := ho.ne hb (by decide)
        have h2 := ho.ne_map hm.at_
        rw [hg] at h1 h2
        rw [hχ1]
        simp only
        rw [if_pos ⟨hgl, hgk⟩, if_neg (fun e => h1 (by rw [e])), if_neg (fun e => h2 (by rw [e]))]
      have hown0 : ∀ o1 o2 o3 nq, Own 1 χ1 32 ((((w.alloc o1).alloc o2).drewN nq).alloc o3) (.slice A l.length c) l := fun o1 o2 o3 nq => Own.alloc (Own.drewN (Own.alloc (Own.alloc ho1 _) _) _) _
      have hkey : ∀ o3 nq χ2 w1, Step [1] χ1 ((((w.alloc (.cells #[.int .i64 0, .string { data := #[] }, .int .i64 0] 24)).alloc (.cells #[.int .i64 k, .string s] 32)).drewN nq).alloc o3) χ2 w1 →
          Blk w1 p 48 #[.slice A l.length c, .map (some mb)] ∧ Blk w1 (w.heap.size + 1) 32 #[.int .i64 k, .string s] ∧ MapAt Sealed.val vfI w1 mb es clock l.zipIdx ∧ Step [1] χ1 w χ2 w1 ∧ w.heap.size + 2 < w1.heap.size ∧ χ2 p = 2 ∧ χ2 mb = 3 ∧ χ2 w.heap.size = 0 ∧ Blk w1 w.heap.size 24 #[.int .i64 0, .string { data := #[] }, .int .i64 0] := by
        intro o3 nq χ2 w1 st
        refine ⟨(((hb.alloc _).alloc _).drewN _).alloc _ |>.step st (by rw [hc2]; decide), (((Blk.fresh (w.alloc _) _ _ (by simp)).drewN _).alloc _).step st (by rw [hcn _ (by omega)]; decide), hm.frame ?_, ?_, ?_, (st.col _ (by simp; omega)).trans hc2, (st.col _ (by simp; omega)).trans hc3, (st.col _ (by simp; omega)).trans (hcn _ (Nat.le_refl _)), ((((Blk.new w _ _).alloc _).drewN _).alloc _).step st (by rw [hcn _ (Nat.le_refl _)]; decide)⟩
        · exact (st.block mb (by simp; omega) (by rw [hc3]; decide)).trans ((Below.heap_alloc _ _ _ (by simp; omega)).trans ((Below.heap_alloc _ _ _ (by simp; omega)).trans (Below.heap_alloc _ _ _ hml)))
        · exact ((((Step.refl [1] χ1 w).alloc _).alloc _).drewN _).alloc _ |>.trans st
        · have := st.size; simp at this; omega
      have hp03 : ∀ o1 o2 o3 nq, ((((w.alloc o1).alloc o2).drewN nq).alloc o3).cell? ⟨p, 0, none⟩ = some (.slice A l.length c) := fun o1 o2 o3 nq => ((((hb.alloc o1).alloc o2).drewN nq).alloc o3).cell 0
      have Hkey := Lib.hid hkey
      have Hown0 := Lib.hid hown0
      have Hck := Lib.hid hck
      have Hc2 := Lib.hid hc2
      have Hc3 := Lib.hid hc3
      have Hpos := Lib.hid hpos
      have Hz := Lib.hid hp
      have Hzm := Lib.hid hmb
      clear hkey hown0 hlk0 hW2 hpos hm hp hmb hb hn hcn hck hc2 hc3 ho ho1 hpm hχ1
      obtain ⟨hk1, hk2⟩ := hk
      go_enter Try.func10, Try.ntmps10
      go_wp2_with (go_at_call 21; refine (key_yes _ _ hk1 hk2).mono ?_; rintro e w' ⟨rfl, rfl⟩)
      go_quiet (fail)
      go_wp2_with fail
      go_region_law (first | (refine step_app (α := Sealed) rfl (.tmp 37) (.tmp 39) rfl elem22 rfl (Hown0.out _ _ _ _) rfl (Sl.new1 ⟨k, s⟩ (by simp) (Sealed.mk_rd ⟨by omega, by omega⟩ hs)) (fun _ _ _ h => Plain.any h) (by omega) (by simp; omega) ?_; intro v1 w1 χ2 hown1 hst1; obtain ⟨A1, c1, rfl, hcap1, hmax1⟩ := hown1.form; obtain ⟨hb1, hx1, hm1, hst, hsz1, hk2p, hk2m, hk2r, hr1⟩ := Hkey.out _ _ _ _ hst1; have Hr1 := Lib.hid hr1; have H2p := Lib.hid hk2p; have H2m := Lib.hid hk2m; have H2r := Lib.hid hk2r; clear hr1 hk2p hk2m hk2r; have h1p : w1.cell? ⟨p, 0, none⟩ = some (.slice A l.length c) := hb1.cell 0; have h1f := hb1.frozen 0; have Hb1 := Lib.hid hb1; have Hx1 := Lib.hid hx1; have Hm1 := Lib.hid hm1; clear hb1 hx1 hm1 hst1))
      all_goals
        clear hlk hp0 hp1 hp03 h1p h1f
        have hll : (l ++ [(⟨k, s⟩ : Sealed)]).length = l.length + 1 := by simp
        rw [hll] at hown1 hcap1
        have hcell : (w1.setCell ⟨p, 0, none⟩ (.slice A1 (l.length + 1) c1)).cell? ⟨p, 1, none⟩ = some (.map (some mb)) := (Hb1.out.set_ 0 _).cell 1
        have hx20 : (w1.setCell ⟨p, 0, none⟩ (.slice A1 (l.length + 1) c1)).cell? ⟨w.heap.size + 1, 0, none⟩ = some (.int .i64 k) := (Hx1.out.far (by simp; omega) _).cell 0
        have hx21 : (w1.setCell ⟨p, 0, none⟩ (.slice A1 (l.length + 1) c1)).cell? ⟨w.heap.size + 1, 1, none⟩ = some (.string s) := (Hx1.out.far (by simp; omega) _).cell 1
        have hm2 : MapAt Sealed.val vfI (w1.setCell ⟨p, 0, none⟩ (.slice A1 (l.length + 1) c1)) mb es clock l.zipIdx := Hm1.out.frame (Below.heap_setCell _ _ _ _ (by
          rintro rfl
          have h1 := Hm1.out.at_
          have h2 := Hb1.out
          unfold Blk at h2
          rw [h2] at h1
          cases h1))
        have hpm1 : mb ≠ p := by
          rintro rfl
          have h1 := Hm1.out.at_
          have h2 := Hb1.out
          unfold Blk at h2
          rw [h2] at h1
          cases h1
        have hup := ((hm2.frame (w' := (w1.setCell ⟨p, 0, none⟩ (.slice A1 (l.length + 1) c1)).drew) rfl).update law_sealed Try.underlying46 ⟨k, s⟩ l.length)
        generalize (putEs es clock (pos (l.zipIdx.map (·.1)) (⟨k, s⟩ : Sealed)) (Sealed.val ⟨k, s⟩) (vfI l.length)).1 = es2 at hup
        generalize (putEs es clock (pos (l.zipIdx.map (·.1)) (⟨k, s⟩ : Sealed)) (Sealed.val ⟨k, s⟩) (vfI l.length)).2 = clock2 at hup
        obtain ⟨w2, hw2⟩ : ∃ w2, w2 = setMap (w1.setCell ⟨p, 0, none⟩ (.slice A1 (l.length + 1) c1)).drew mb es2 clock2 := ⟨_, rfl⟩
        rw [← hw2] at hup
        obtain ⟨hup, hm3⟩ := hup
        rw [hput.out] at hm3
        have hup' : (Instr.mapUpdate 46 (.map (some mb)) (.agg #[.int .i64 k, .string s]) (.int .i64 (l.length : Nat))).run Try.prog (w1.setCell ⟨p, 0, none⟩ (.slice A1 (l.length + 1) c1)).drew = .ok () w2 := hup
        have hs2 : Step [0, 2, 3] χ2 w1 χ2 w2 := by
          rw [hw2]
          exact (((Step.refl _ χ2 w1).setCell (.inl (by rw [H2p.out]; decide)) _).drew).setMap (.inl (by rw [H2m.out]; decide)) _ _
        have hs0 : Step [1, 2, 3] χ1 w χ2 w2 := by
          rw [hw2]
          exact (((hst.wide (T' := [1, 2, 3]) (by simp)).setCell (.inl (by rw [H2p.out]; decide)) _).drew).setMap (.inl (by rw [H2m.out]; decide)) _ _
        have Hs0 := Lib.hid hs0
        clear hs0
        have hp3 : Blk w2 p 48 #[.slice A1 (l.length + 1) c1, .map (some mb)] := by
          rw [hw2]; exact (setMap_other _ _ _ _ _ hpm1.symm).trans (Hb1.out.set_ 0 _)
        have hr3 : Blk w2 w.heap.size 24 #[.int .i64 0, .string { data := #[] }, .int .i64 0] := by
          rw [hw2]; exact (setMap_other _ _ _ _ _ (by omega)).trans (Hr1.out.far (by simp; omega) _)
        have c0 : w2.cell? ⟨w.heap.size, 0, none⟩ = some (.int .i64 0) := hr3.cell 0
        have c1' : w2.cell? ⟨w.heap.size, 1, none⟩ = some (.string { data := #[] }) := hr3.cell 1
        have c2 : w2.cell? ⟨w.heap.size, 2, none⟩ = some (.int .i64 0) := hr3.cell 2
        have f0 := hr3.frozen 0
        have f1 := hr3.frozen 1
        have f2 := hr3.frozen 2
        have Hm3 := Lib.hid hm3
        have Hs2 := Lib.hid hs2
        have Hp3 := Lib.hid hp3
        clear hup hm2 hm3 hs2 hp3 hr3 hw2
        go_wp2_with fail
        go_region
        go_wp2_with fail
        refine bodyPost_ret (v := .agg #[.int .i64 k, .string s, .int .i64 l.length]) (by simp [results, Try.results10, go_sem, c0, c1', c2]) rfl ?_
        rw [hS.out]
        have st3 := ((Hs0.out.setCell (p := ⟨w.heap.size, 0, none⟩) (.inr (Nat.le_refl _)) (.int .i64 k)).setCell (p := ⟨w.heap.size, 1, none⟩) (.inr (Nat.le_refl _)) (.string s)).setCell (p := ⟨w.heap.size, 2, none⟩) (.inr (Nat.le_refl _)) (.int .i64 (l.length : Nat))
        have st13 := ((Hs2.out.setCell (p := ⟨w.heap.size, 0, none⟩) (.inl (by rw [H2r.out]; decide)) (.int .i64 k)).setCell (p := ⟨w.heap.size, 1, none⟩) (.inl (by rw [H2r.out]; decide)) (.string s)).setCell (p := ⟨w.heap.size, 2, none⟩) (.inl (by rw [H2r.out]; decide)) (.int .i64 (l.length : Nat))
        refine ⟨Lad.merge χ χ2 w.heap.size k0, rfl, st3.merge fun b hb hT => Hck.out b hb (by intro e; rw [e] at hT; simp at hT), ⟨A1, c1, mb, es2, clock2, ?_, ?_, ?_, ?_, ?_⟩, hn'.out⟩
        · show Blk _ p _ #[.slice A1 (l ++ [_]).length c1, _]
          rw [hll]
          exact ((Hp3.out.far (by simp; omega) _).far (by simp; omega) _).far (by simp; omega) _
        · show Own k0 _ _ _ (.slice A1 (l ++ [_]).length c1) (l ++ [_])
          rw [hll]
          exact (hown1.stepP st13 (by decide)).recol fun g hg hgl hg1 => by
            unfold Lad.merge
            split
            · rename_i hlt
              have h1 := hst.col g hlt
              exact Hck.out g hlt (by rw [← h1, hg1]; decide)
            · rw [hg1]; simp
        · exact Hm3.out.frame (((Below.heap_setCell _ _ _ _ (by simp; omega)).trans (Below.heap_setCell _ _ _ _ (by simp; omega))).trans (Below.heap_setCell _ _ _ _ (by simp; omega)))
        · unfold Lad.merge; rw [if_pos hpl]; exact Hz.out
        · unfold Lad.merge; rw [if_pos hml]; exact Hzm.out
  · have hS : signM l k s = (l, ⟨0, noText, 0⟩) := by simp [signM, hk]
    rw [hS]
    go_enter Try.func10, Try.ntmps10
    go_wp2_with (go_at_call 21; refine (key_no _ _ hk).mono ?_; rintro e w' ⟨rfl, rfl⟩)
    refine bodyPost_ret (v := .agg #[.int .i64 0, .string noText, .int .i64 0]) (by simp [results, Try.results10, go_sem, noText]) rfl ?_
    have st : Step [] χ w χ (w.alloc (Obj.cells #[.int .i64 0, .string { data := #[] }, .int .i64 0] 24)) := (Step.refl [] χ w).alloc _
    exact ⟨χ, rfl, st.wide (by simp), hr.step st (by simp) (by simp)⟩
end Go.Proofs.Ytnkpnfmmlkjofaa
