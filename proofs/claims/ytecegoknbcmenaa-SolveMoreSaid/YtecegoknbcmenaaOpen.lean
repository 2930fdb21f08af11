/-
  Arguments that came in, read as Lean's own data: once a type, for every type that is built of ints, bools, strings, structs and slices. Plain theorems; no program in sight.
-/
import Derived.Test.YtecegoknbcmenaaBase
import Derived.ProofKit
import Derived.OpenShut
import Derived.ChangeOld
import Derived.Deep.Slices
import Derived.JoinedCond
namespace Go.Lad
set_option linter.unusedVariables false
set_option linter.unusedSimpArgs false
open Go.RowKit Go.ChangeShapes Go.WideShapes Go.Deep

/-- What can be read as data of type t reads as a Lean value of α. -/
def Opens (P : Program) (t : TypeId) (α : Type) [GoRep α] : Prop :=
  ∀ (H : Type) (enc : TypeId × Value → H) (w : World) (base : Nat) (sp : Nat → Bool) (held : Bool) (fuel : Nat) (cs : List Value) (y : DataW H × List MemPlace),
    DataW.trod enc P w base sp held fuel t cs = some y → ∃ x : α, GoRep.rd (Old w) w cs x

section
variable {P : Program} {t : TypeId}
theorem i64_of_wf {n : Int} (h : (Lit.int .i64 n).wf = true) : I64 n := by
  simp [Lit.wf, IntKind.min, IntKind.max, IntKind.signed, IntKind.bits] at h
  exact ⟨by omega, by omega⟩
theorem wf_of_i64 {n : Int} (h : I64 n) : (Lit.int .i64 n).wf = true := by
  simp [Lit.wf, IntKind.min, IntKind.max, IntKind.signed, IntKind.bits]
  exact ⟨by have := h.1; omega, by have := h.2; omega⟩
theorem opens_int (ht : P.underlying t = some (.int .i64)) : Opens P t Int := by
  intro H enc w base sp held fuel cs y h
  obtain ⟨n, rfl, _, hw⟩ := DataW.trod_int ht h
  exact ⟨n, rfl, i64_of_wf hw⟩
theorem opens_u8 (ht : P.underlying t = some (.int .u8)) : Opens P t UInt8 := by
  intro H enc w base sp held fuel cs y h
  obtain ⟨n, rfl, _, hw⟩ := DataW.trod_int ht h
  simp [Lit.wf, IntKind.min, IntKind.max, IntKind.signed, IntKind.bits] at hw
  refine ⟨UInt8.ofNat n.toNat, ?_⟩
  show [Value.int .u8 n] = [.int .u8 ((UInt8.ofNat n.toNat).toNat : Int)]
  congr 2
  simp [UInt8.toNat_ofNat']
  omega
theorem opens_bool (ht : P.underlying t = some .bool) : Opens P t Bool := by
  intro H enc w base sp held fuel cs y h
  cases fuel with
  | zero => simp [DataW.trod] at h
  | succ n =>
    unfold DataW.trod at h
    rw [ht] at h
    split at h <;> first | exact ⟨_, rfl⟩ | (exfalso; simp_all; done)
theorem opens_string (ht : P.underlying t = some .string) : Opens P t ByteArray := by
  intro H enc w base sp held fuel cs y h
  obtain ⟨s, rfl, _, hw⟩ := DataW.trod_string ht h
  exact ⟨s, rfl, by simpa [maxLen] using hw⟩

theorem opens_slice {e : TypeId} {α : Type} [GoRep α] (ht : P.underlying t = some (.slice e)) (hC : P.cellsOf e = GoRep.sz α) (hpos : 0 < GoRep.sz α) (ho : Opens P e α) : Opens P t (List α) := by
  intro H enc w base sp held fuel cs y h
  rcases open_slice ht h with ⟨rfl, _⟩ | ⟨a, len, cap, m, n, D, Pl, rfl, hb, hl, hm, hmm, _, hx⟩
  · exact ⟨[], none, 0, 0, rfl, Sl.empty _ _⟩
  · have hlm : len ≤ m := by rw [hmm]; split <;> omega
    have hex : ∀ i : Fin len, ∃ x : α, ∃ cs', w.cells? base (a.add (i.1 * P.cellsOf e)) (P.cellsOf e) = some cs' ∧ GoRep.rd (Old w) w cs' x := by
      intro i
      obtain ⟨cs', h1, h2⟩ := hx i.1 (by omega)
      obtain ⟨x, hx'⟩ := ho H enc w base sp held n cs' _ h2
      exact ⟨x, cs', h1, hx'⟩
    refine ⟨List.ofFn fun i => Classical.choose (hex i), some a, len, cap, rfl, by simp, hl, by simpa [maxLen] using hm, by simp, fun hn => ?_⟩
    have hspot : a.spot = none := by
      obtain ⟨x, cs', h1, _⟩ := hex ⟨0, hn⟩
      obtain ⟨_, hlen, hat⟩ := World.cells?_some h1
      have h0 := hat 0 (by rw [hC]; exact hpos)
      have e0 : (a.add (0 * P.cellsOf e)).add 0 = a := by simp [Addr.add]
      rw [e0] at h0
      rw [List.getElem?_eq_getElem (by rw [hlen, hC]; exact hpos)] at h0
      exact World.cell?_spot h0
    obtain ⟨b, off, spot⟩ := a
    subst hspot
    refine ⟨b, off, rfl, fun i x hi => ?_⟩
    have hil : i < len := by simpa using (List.getElem?_eq_some_iff.1 hi).1
    rw [List.getElem?_ofFn, dif_pos hil] at hi
    injection hi with hi
    obtain ⟨cs', h1, h2⟩ := Classical.choose_spec (hex ⟨i, hil⟩)
    rw [hi] at h2
    refine ⟨cs', h2, fun j u hu => ?_⟩
    obtain ⟨_, hlen, hat⟩ := World.cells?_some h1
    have hj : j < cs'.length := (List.getElem?_eq_some_iff.1 hu).1
    have h3 := hat j (by rw [← hlen]; exact hj)
    rw [add_none, add_none, hC, hu] at h3
    exact ⟨cell_lt h3, h3⟩

/-- The fields of a struct from offset off on. -/
def OpensF (P : Program) (off : Nat) (fs : List Field) (β : Type) [GoRep β] : Prop :=
  ∀ (H : Type) (enc : TypeId × Value → H) (w : World) (base : Nat) (sp : Nat → Bool) (held : Bool) (fuel : Nat) (cs : List Value),
    cs.length = off + GoRep.sz β → (∀ f ∈ fs, ∃ y, DataW.trod enc P w base sp held fuel f.type ((cs.drop f.offset).take (P.cellsOf f.type)) = some y) → ∃ x : β, GoRep.rd (Old w) w (cs.drop off) x
theorem opensF_nil (off : Nat) : OpensF P off [] Unit := by
  intro H enc w base sp held fuel cs hl _
  refine ⟨(), ?_⟩
  show cs.drop off = []
  rw [List.drop_eq_nil_iff, hl]
  exact Nat.le_refl _
theorem opensF_cons {off : Nat} {f : Field} {fs : List Field} {α β : Type} [GoRep α] [GoRep β] (ho : f.offset = off) (hC : P.cellsOf f.type = GoRep.sz α) (ha : Opens P f.type α) (hb : OpensF P (off + GoRep.sz α) fs β) : OpensF P off (f :: fs) (α × β) := by
  intro H enc w base sp held fuel cs hl hf
  have hsz : GoRep.sz (α × β) = GoRep.sz α + GoRep.sz β := rfl
  obtain ⟨y, hy⟩ := hf f (by simp)
  obtain ⟨x, hx⟩ := ha H enc w base sp held fuel _ y hy
  obtain ⟨z, hz⟩ := hb H enc w base sp held fuel cs (by rw [hl, hsz]; omega) (fun g hg => hf g (by simp [hg]))
  rw [ho, hC] at hx
  refine ⟨(x, z), (cs.drop off).take (GoRep.sz α), (cs.drop off).drop (GoRep.sz α), (List.take_append_drop _ _).symm, hx, ?_⟩
  rw [List.drop_drop]
  exact hz
theorem opens_struct {fs : Array Field} {β : Type} [GoRep β] (ht : P.underlying t = some (.struct fs)) (hC : P.cellsOf t = GoRep.sz β) (hf : OpensF P 0 fs.toList β) : Opens P t β := by
  intro H enc w base sp held fuel cs y h
  obtain ⟨xs, n, _, _, hlen, hxl, hg⟩ := DataW.trod_struct ht h
  have := hf H enc w base sp held n cs (by rw [hlen, hC, Nat.zero_add]) (fun f hfm => by
    obtain ⟨i, hi⟩ := List.mem_iff_getElem?.1 hfm
    have h1 := hg i f (by simpa using hi)
    have hil : i < fs.toList.length := (List.getElem?_eq_some_iff.1 hi).1
    have hil' : i < xs.length := by rw [hxl]; simpa using hil
    rw [List.getElem?_eq_getElem hil'] at h1
    exact ⟨_, h1⟩)
  simpa using this
/-- a struct by its fields: the Lean structure -/
theorem Opens.via {α β : Type} [GoRep β] {f : α → β} (g : β → α) (hg : ∀ x, f (g x) = x) (h : Opens P t β) : @Opens P t α (GoRep.via f) := by
  intro H enc w base sp held fuel cs y hy
  obtain ⟨x, hx⟩ := h H enc w base sp held fuel cs y hy
  refine ⟨g x, ?_⟩
  show GoRep.rd (Old w) w cs (f (g x))
  rw [hg]
  exact hx

/-- An argument, opened. -/
theorem Opens.arg {α : Type} [GoRep α] (ho : Opens P t α) {H : Type} {enc : TypeId × Value → H} {w : World} {base : Nat} {sp : Nat → Bool} {held : Bool} {v : Value} {d : DataW H} {ps : List MemPlace}
    (h : DataW.Trod enc P w base sp held t v d ps) : ∃ x : α, GoRep.rd (Old w) w v.cells.toList x := by
  obtain ⟨fuel, hf⟩ := h
  exact ho H enc w base sp held fuel _ _ hf
theorem rd_slice {α : Type} [GoRep α] {F : Nat → Prop} {w : World} {A : Option Addr} {n c : Nat} {l : List α} (h : GoRep.rd F w (Value.slice A n c).cells.toList l) : Sl F w A n c l := by
  obtain ⟨A', n', c', e, hs⟩ := h
  simp [Value.cells] at e
  obtain ⟨rfl, rfl, rfl⟩ := e
  exact hs
theorem okWide_agg {r : Reach} {b0 : Nat} {w : World} {fs : Array Field} {v : Value} (hs : P.underlying t = some (.struct fs)) (hv : Value.okWide P w r b0 t v) : ∃ cs : Array Value, v = .agg cs := by
  obtain ⟨cs, rfl, _⟩ := okWide_struct hs hv
  exact ⟨cs, rfl⟩
end
end Go.Lad
