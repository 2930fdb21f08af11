/-
  Functions as plain Lean: words for texts, numbers and lists; rules for 'simp'.
-/
import Derived.Test.YtecegoknbcmenaaAb15
namespace Go.Lad
set_option linter.unusedVariables false
set_option linter.unusedSimpArgs false
open Go.RowKit

/-! ### texts as lists of bytes -/
abbrev Bs := List UInt8
def mkS (l : Bs) : ByteArray := ⟨l.toArray⟩
theorem mkS_data (l : Bs) : (mkS l).data.toList = l := by simp [mkS]
theorem mkS_size (l : Bs) : (mkS l).size = l.length := by simp [mkS, ByteArray.size]
theorem mkS_app (a b : Bs) : mkS a ++ mkS b = mkS (a ++ b) := by
  apply ByteArray.ext
  simp [mkS, ByteArray.data_append]
theorem mkS_inj {a b : Bs} : (mkS a = mkS b) = (a = b) := by
  apply propext
  constructor
  · intro h
    have := congrArg (fun s : ByteArray => s.data.toList) h
    simpa [mkS_data] using this
  · intro h; rw [h]
theorem mkS_extract (l : Bs) (i j : Nat) : (mkS l).extract i j = mkS ((l.take j).drop i) := by
  apply ByteArray.ext
  simp [mkS, ByteArray.data_extract, List.extract_toArray, List.extract_eq_take_drop, List.drop_take]
theorem mkS_toList (l : Bs) : (mkS l).toList = l := by
  rw [ByteArray.toList_eq]
  exact mkS_data l
theorem mkS_of (s : ByteArray) : mkS s.data.toList = s := by
  apply ByteArray.ext
  simp [mkS]
theorem cS_k {l : List UInt8} (h : l.length ≤ 9223372036854775807) : constSlot (.string ⟨l.toArray⟩) = .c (.v (.p (.str (mkS l)))) := cS_s h

/-! ### operations that may fail -/
def inR (k : IntKind) (n : Int) : Prop := k.min ≤ n ∧ n ≤ k.max
instance (k : IntKind) (n : Int) : Decidable (inR k n) := inferInstanceAs (Decidable (_ ∧ _))
def i64? (n : Int) : Option Int := if -9223372036854775808 ≤ n ∧ n ≤ 9223372036854775807 then some n else none
abbrev addI (a b : Int) : Option Int := i64? (a + b)
abbrev subI (a b : Int) : Option Int := i64? (a - b)
abbrev mulI (a b : Int) : Option Int := i64? (a * b)
abbrev negI (a : Int) : Option Int := i64? (-a)
def quoI (k : IntKind) (a b : Int) : Option Int := if b ≠ 0 ∧ inR k (a.tdiv b) then some (a.tdiv b) else none
def remI (k : IntKind) (a b : Int) : Option Int := if b ≠ 0 ∧ inR k (a.tmod b) then some (a.tmod b) else none
def idx {α : Type} (l : List α) (n : Int) : Option α := if 0 ≤ n then l[n.toNat]? else none
def bAt (l : Bs) (n : Int) : Option Int := (idx l n).map fun c => (c.toNat : Int)
def cut {α : Type} (l : List α) (i j : Int) : Option (List α) := if 0 ≤ i ∧ i ≤ j ∧ j ≤ l.length then some ((l.take j.toNat).drop i.toNat) else none
def cat? (a b : Bs) : Option Bs := if a.length + b.length ≤ 9223372036854775807 then some (a ++ b) else none
def app? {α : Type} (l m : List α) : Option (List α) := if l.length + m.length ≤ 2147483647 then some (l ++ m) else none
def set? {α : Type} (l : List α) (n : Int) (x : α) : Option (List α) := if 0 ≤ n ∧ n.toNat < l.length then some (l.set n.toNat x) else none
def need (p : Prop) [Decidable p] : Option Unit := if p then some () else none
theorem i64_some {n m : Int} (h : i64? n = some m) : n = m ∧ (-9223372036854775808 ≤ n ∧ n ≤ 9223372036854775807) := by
  unfold i64? at h
  split at h
  · injection h with h; exact ⟨h, by assumption⟩
  · cases h
theorem quo_some {k : IntKind} {a b m : Int} (h : quoI k a b = some m) : a.tdiv b = m ∧ b ≠ 0 ∧ inK k (a.tdiv b) := by
  unfold quoI at h
  split at h
  · rename_i hc; injection h with h; exact ⟨h, hc⟩
  · cases h
theorem rem_some {k : IntKind} {a b m : Int} (h : remI k a b = some m) : a.tmod b = m ∧ b ≠ 0 ∧ inK k (a.tmod b) := by
  unfold remI at h
  split at h
  · rename_i hc; injection h with h; exact ⟨h, hc⟩
  · cases h
theorem idx_some {α : Type} {l : List α} {n : Int} {x : α} (h : idx l n = some x) : 0 ≤ n ∧ n.toNat < l.length ∧ l[n.toNat]? = some x := by
  unfold idx at h
  split at h
  · exact ⟨by assumption, (List.getElem?_eq_some_iff.1 h).1, h⟩
  · cases h
theorem idx_map {α : Type} {l : List α} {n : Int} {x : α} (e : α → List PV) (h : idx l n = some x) : (l.map e).getD n.toNat [] = e x := by
  have := (idx_some h).2.2
  rw [List.getD_eq_getElem?_getD, List.getElem?_map, this]; rfl
theorem bAt_some {l : Bs} {n c : Int} (h : bAt l n = some c) : 0 ≤ n ∧ n.toNat < l.length ∧ ((l.getD n.toNat 0).toNat : Int) = c := by
  unfold bAt at h
  rw [Option.map_eq_some_iff] at h
  obtain ⟨b, hb, rfl⟩ := h
  obtain ⟨h1, h2, h3⟩ := idx_some hb
  exact ⟨h1, h2, by rw [List.getD_eq_getElem?_getD, h3]; rfl⟩
theorem cut_some {α : Type} {l m : List α} {i j : Int} (h : cut l i j = some m) : (l.take j.toNat).drop i.toNat = m ∧ 0 ≤ i ∧ i ≤ j ∧ j ≤ l.length ∧ j.toNat ≤ l.length := by
  unfold cut at h
  split at h
  · rename_i hc; injection h with h; exact ⟨h, hc.1, hc.2.1, hc.2.2, by omega⟩
  · cases h
theorem cat_some {a b m : Bs} (h : cat? a b = some m) : a ++ b = m ∧ a.length + b.length ≤ 9223372036854775807 := by
  unfold cat? at h
  split at h
  · injection h with h; exact ⟨h, by assumption⟩
  · cases h
theorem app_some {α : Type} {a b m : List α} (h : app? a b = some m) : a ++ b = m ∧ a.length + b.length ≤ 2147483647 := by
  unfold app? at h
  split at h
  · injection h with h; exact ⟨h, by assumption⟩
  · cases h
theorem set_some {α : Type} {l m : List α} {n : Int} {x : α} (h : set? l n x = some m) : l.set n.toNat x = m ∧ 0 ≤ n ∧ n.toNat < l.length := by
  unfold set? at h
  split at h
  · rename_i hc; injection h with h; exact ⟨h, hc⟩
  · cases h
theorem need_some {p : Prop} [Decidable p] {u : Unit} (h : need p = some u) : p := by
  unfold need at h
  split at h
  · assumption
  · cases h
theorem bind_some {α β : Type} {o : Option α} {f : α → Option β} {r : β} (h : o.bind f = some r) : ∃ x, o = some x ∧ f x = some r := Option.bind_eq_some_iff.1 h

/-! ### what is known of a bool -/
theorem pvT {b : Bool} (h : b = true) : PV.bool b = .bool true ∧ PV.bool (!b) = .bool false := by subst h; exact ⟨rfl, rfl⟩
theorem pvF {b : Bool} (h : b = false) : PV.bool b = .bool false ∧ PV.bool (!b) = .bool true := by subst h; exact ⟨rfl, rfl⟩
theorem pvP {p : Prop} [Decidable p] (h : p) : PV.bool (decide p) = .bool true ∧ PV.bool (!decide p) = .bool false := pvT (decide_eq_true h)
theorem pvN {p : Prop} [Decidable p] (h : ¬ p) : PV.bool (decide p) = .bool false ∧ PV.bool (!decide p) = .bool true := pvF (decide_eq_false h)
theorem bcT {b : Bool} (h : b = true) (x y : Bool) : (bif b then x else y) = x := by subst h; rfl
theorem bcF {b : Bool} (h : b = false) (x y : Bool) : (bif b then x else y) = y := by subst h; rfl

/-! ### lists of encoded rows -/
theorem map_app' {α : Type} (e : α → List PV) (l m : List α) : l.map e ++ m.map e = (l ++ m).map e := List.map_append.symm
theorem map_take' {α : Type} (e : α → List PV) (l : List α) (n : Nat) : (l.map e).take n = (l.take n).map e := List.map_take.symm
theorem map_drop' {α : Type} (e : α → List PV) (l : List α) (n : Nat) : (l.map e).drop n = (l.drop n).map e := List.map_drop.symm
theorem map_ne {α : Type} (e : α → List PV) {l : List α} : (l.map e = []) = (l = []) := by simp
theorem rows_len {α : Type} {e : α → List PV} {z : Nat} (h : ∀ x, (e x).length = z) (l : List α) : (∀ x ∈ l.map e, x.length = z) = True := by
  simp only [eq_iff_iff, iff_true]
  intro x hx
  obtain ⟨y, _, rfl⟩ := List.mem_map.1 hx
  exact h y
theorem rows_flat {α : Type} {e : α → List PV} (h : ∀ x, ∀ p ∈ e x, p.flat = true) (l : List α) : (∀ row ∈ l.map e, ∀ p ∈ row, p.flat = true) = True := by
  simp only [eq_iff_iff, iff_true]
  intro x hx
  obtain ⟨y, _, rfl⟩ := List.mem_map.1 hx
  exact h y

/-! ### reckoning with lists that are written out -/
section
variable {s : St} {ρ : List (Nat × Nat)}
theorem mev_n : List.map s.ev [] = [] := rfl
theorem mev_c {x : Operand} {l : List Operand} : List.map s.ev (x :: l) = s.ev x :: List.map s.ev l := rfl
theorem marg_n : List.map s.arg [] = [] := rfl
theorem marg_c {x : Operand} {l : List Operand} : List.map s.arg (x :: l) = s.arg x :: List.map s.arg l := rfl
theorem mfst_n {α : Type} : List.map (fun x : Nat × α => x.1) [] = [] := rfl
theorem mfst_c {α : Type} {x : Nat × α} {l : List (Nat × α)} : List.map (fun x : Nat × α => x.1) (x :: l) = x.1 :: List.map (fun x => x.1) l := rfl
theorem msnd_n {α : Type} : List.map (fun x : Nat × α => x.2) [] = [] := rfl
theorem msnd_c {α : Type} {x : Nat × α} {l : List (Nat × α)} : List.map (fun x : Nat × α => x.2) (x :: l) = x.2 :: List.map (fun x => x.2) l := rfl
theorem mswap_n : List.map (fun x : Nat × Nat => (x.2, x.1)) [] = [] := rfl
theorem mswap_c {x : Nat × Nat} {l : List (Nat × Nat)} : List.map (fun x : Nat × Nat => (x.2, x.1)) (x :: l) = (x.2, x.1) :: List.map (fun x => (x.2, x.1)) l := rfl
theorem mrn_n : List.map (fun x : Nat × HObj => (rnN ρ x.1, rnH ρ x.2)) [] = [] := rfl
theorem mrn_c {x : Nat × HObj} {l : List (Nat × HObj)} : List.map (fun x : Nat × HObj => (rnN ρ x.1, rnH ρ x.2)) (x :: l) = (rnN ρ x.1, rnH ρ x.2) :: List.map (fun x => (rnN ρ x.1, rnH ρ x.2)) l := rfl
theorem mrl_n : List.map (rnL ρ) [] = [] := rfl
theorem mrl_c {x : Leaf} {l : List Leaf} : List.map (rnL ρ) (x :: l) = rnL ρ x :: List.map (rnL ρ) l := rfl
theorem mrc_n : List.map (rnC ρ) [] = [] := rfl
theorem mrc_c {x : Cmp} {l : List Cmp} : List.map (rnC ρ) (x :: l) = rnC ρ x :: List.map (rnC ρ) l := rfl
theorem mrnn_n : List.map (rnN ρ) [] = [] := rfl
theorem mrnn_c {x : Nat} {l : List Nat} : List.map (rnN ρ) (x :: l) = rnN ρ x :: List.map (rnN ρ) l := rfl
theorem mp_n : List.map Leaf.p [] = [] := rfl
theorem mp_c {x : PV} {l : List PV} : List.map Leaf.p (x :: l) = .p x :: List.map Leaf.p l := rfl
theorem mloc_n : List.map (fun o => Slot.c (.v (.loc o 0))) [] = [] := rfl
theorem mloc_c {x : Nat} {l : List Nat} : List.map (fun o => Slot.c (.v (.loc o 0))) (x :: l) = .c (.v (.loc x 0)) :: List.map (fun o => Slot.c (.v (.loc o 0))) l := rfl
theorem mhp_n {hp : Hp} : List.map hp [] = [] := rfl
theorem fid_n : List.flatMap Leaf.ids [] = [] := rfl
theorem fid_c {x : Leaf} {l : List Leaf} : List.flatMap Leaf.ids (x :: l) = Leaf.ids x ++ List.flatMap Leaf.ids l := rfl
theorem fcid_n : List.flatMap Cmp.ids [] = [] := rfl
theorem fcid_c {x : Cmp} {l : List Cmp} : List.flatMap Cmp.ids (x :: l) = Cmp.ids x ++ List.flatMap Cmp.ids l := rfl
theorem mhp_c {hp : Hp} {x : Nat} {l : List Nat} : List.map hp (x :: l) = hp x :: List.map hp l := rfl
theorem mpx_n : List.map (fun x : Nat × Nat => x.1 + 2) [] = [] := rfl
theorem zi_n {α : Type} {n : Nat} : List.zipIdx ([] : List α) n = [] := rfl
theorem zi_c {α : Type} {x : α} {l : List α} {n : Nat} : List.zipIdx (x :: l) n = (x, n) :: List.zipIdx l (n + 1) := rfl
theorem mres_n : List.map (fun x : Cmp × Nat => (x.2, Slot.c x.1)) [] = [] := rfl
theorem mres_c {x : Cmp × Nat} {l : List (Cmp × Nat)} : List.map (fun x : Cmp × Nat => (x.2, Slot.c x.1)) (x :: l) = (x.2, Slot.c x.1) :: List.map (fun x => (x.2, Slot.c x.1)) l := rfl
end
/-- A law's call: it returns true, and nothing that was there has changed. -/
theorem law_of_meets {P : Program} {f : FuncId} {args : List Slot} {vs : List Value} {w : World} (h : MeetsH P f ⟨args, [], .one (.v (.p (.bool true))), []⟩) (hg : GlobR (fun _ => 0) w) (ha : All2 (SRd ⟨fun _ => 0, fun _ => 0, fun _ => undef⟩ (hpL []) w) args vs) :
    Calls P f vs.toArray w fun e w' => e = .returned (.bool true) ∧ Below w.heap.size w w' := by
  refine (h w ⟨fun _ => 0, fun _ => 0, fun _ => undef⟩ vs (fun _ _ => rfl) hg ha (fun o h ho => by cases ho)).mono ?_
  rintro e w' ⟨G', v, us, rfl, hv, h1, h2, h3, h4, h5, h6, h7, h8, h9, h10⟩
  have hv : us = [v] := hv
  subst hv
  have hr : LRd G' (hpL []) w' (.p (.bool true)) v := h9.2 0 _ _ rfl rfl
  have : v = .bool true := by cases (show Rd _ _ (.bool true) v from hr.val); rfl
  exact ⟨by rw [this], h1, h2, h3, h4, fun b hb => (h5 b hb (by show 0 ≤ 1; omega)).1⟩
theorem srd_p {w : World} {p : PV} {v : Value} (h : Rd (Old w) w p v) : SRd ⟨fun _ => 0, fun _ => 0, fun _ => undef⟩ (hpL []) w (.c (.v (.p p))) v :=
  ⟨h.one, by simp [Leaf.ids], Rd.frame (fun _ _ _ => ⟨rfl, rfl⟩) h⟩
theorem srd_g {w : World} {ps : List PV} {cs : Array Value} (h : RdL (Old w) w ps cs.toList) : SRd ⟨fun _ => 0, fun _ => 0, fun _ => undef⟩ (hpL []) w (.c (.g (ps.map .p))) (.agg cs) := by
  refine ⟨cs.toList, by simp, by simpa using h.1, fun i x u hx hu => ?_⟩
  rw [List.getElem?_map, Option.map_eq_some_iff] at hx
  obtain ⟨p, hp, rfl⟩ := hx
  have := h.2 i p u hp hu
  exact ⟨this.one, by simp [Leaf.ids], Rd.frame (fun _ _ _ => ⟨rfl, rfl⟩) this⟩
theorem all2_nil {α β : Type} {R : α → β → Prop} : All2 R [] [] := ⟨rfl, by simp⟩
theorem all2_cons {α β : Type} {R : α → β → Prop} {a : α} {b : β} {l : List α} {m : List β} (h : R a b) (k : All2 R l m) : All2 R (a :: l) (b :: m) :=
  ⟨by simp [k.1], fun i x y hx hy => by
    cases i with
    | zero => simp at hx hy; subst hx hy; exact h
    | succ i => exact k.2 i x y (by simpa using hx) (by simpa using hy)⟩
end Go.Lad
