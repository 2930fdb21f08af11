/-
  Contracts of library functions that are proved elsewhere: strings.Join.
-/
import Derived.Test.YtnjmhnogpgnbmaaD12
import Derived.Lib.Join
import Derived.Below
namespace Go.Lad
set_option linter.unusedVariables false
set_option linter.unusedSimpArgs false
open Go.RowKit

def joinF (l : List Bs) (sep : Bs) : Option Bs := cond (Nat.ble l.length 140737488355328 && Nat.ble (Lib.join l sep).length 140737488355328) (some (Lib.join l sep)) none
noncomputable def joinCon (f : FuncId) : Con := ⟨f, [.c (.v (.d (.sl .str))), .c (.v (.d .str))], [], [], [.sl .str, .str], .one (.v (.d .str)), [], [.str], fun x => joinF x.1 x.2⟩
theorem mkS_back (l : List Bs) : (l.map mkS).map (·.data.toList) = l := by
  rw [List.map_map]
  have : ((fun s : ByteArray => s.data.toList) ∘ mkS) = id := by funext x; exact mkS_data x
  rw [this, List.map_id]
theorem join_con {P : Program} {f : FuncId} (hc : callable P f = true)
    (h0 : ∀ (a : Option Addr) (c : Nat) (sep : ByteArray) (w : World), Calls P f #[.slice a 0 c, .string sep] w fun e w' => e = .returned (.string ⟨#[]⟩) ∧ w' = w)
    (h1 : ∀ (bk o c : Nat) (xs : List ByteArray) (sep : ByteArray) (w : World), (∀ (j : Nat) x, xs[j]? = some x → w.cell? ⟨bk, o + j, none⟩ = some (.string x)) → bk < w.heap.size → xs.length ≤ 140737488355328 → xs.length ≤ c → (Lib.join (xs.map (·.data.toList)) sep.data.toList).length ≤ 140737488355328 →
      Calls P f #[.slice (some ⟨bk, o, none⟩) xs.length c, .string sep] w fun e w' => e = .returned (.string ⟨(Lib.join (xs.map (·.data.toList)) sep.data.toList).toArray⟩) ∧ Below w.heap.size w w') : ConOK P (joinCon f) := by
  refine ⟨hc, fun x r hr => ?_⟩
  obtain ⟨l, sep⟩ := x
  obtain ⟨l, rfl⟩ : ∃ m : List Bs, m = l := ⟨l, rfl⟩
  obtain ⟨sep, rfl⟩ : ∃ m : Bs, m = sep := ⟨sep, rfl⟩
  obtain ⟨r, rfl⟩ : ∃ m : Bs, m = r := ⟨r, rfl⟩
  have hr : joinF l sep = some r := hr
  unfold joinF at hr
  obtain ⟨hb, hr⟩ := cond_some hr
  rw [Bool.and_eq_true, bleN, bleN, decide_eq_true_eq, decide_eq_true_eq] at hb
  injection hr with hr
  show MeetsH P f ⟨[.c (.v (.p (.sl (l.map fun x => [PV.str (mkS x)])))), .c (.v (.p (.str (mkS sep))))], [], .one (.v (.p (.str (mkS r)))), []⟩
  intro w G vs hnorm _ hargs _
  obtain ⟨v0, v1, rfl⟩ : ∃ v0 v1, vs = [v0, v1] := by
    have := hargs.1
    match vs, this with
    | [a, b], _ => exact ⟨a, b, rfl⟩
  have r0 : Rd (In G.χ 0) w (.sl (l.map fun x => [PV.str (mkS x)])) v0 := (hargs.2 0 _ _ rfl rfl : SRd G _ w _ v0).val
  have r1 : Rd (In G.χ 0) w (.str (mkS sep)) v1 := (hargs.2 1 _ _ rfl rfl : SRd G _ w _ v1).val
  have hv1 : v1 = .string (mkS sep) := by cases r1; rfl
  subst hv1
  have hsep : (mkS sep).data.toList = sep := mkS_data sep
  have fin : ∀ w', Below w.heap.size w w' → ∃ (G' : Gh) (v : Value) (us : List Value), Ending.returned (.string (mkS r)) = .returned v ∧ (Rz.one (.v (.p (.str (mkS r))))).val v us ∧ w'.os = w.os ∧ w'.tape = w.tape ∧ w'.output = w.output ∧ w.heap.size ≤ w'.heap.size ∧
      (∀ b, b < w.heap.size → G.χ b ≤ 1 → w'.heap[b]? = w.heap[b]? ∧ G'.χ b = G.χ b) ∧ (∀ b, 2 ≤ G'.χ b → 2 ≤ G.χ b ∨ w.heap.size ≤ b) ∧ (∀ o, 1000000 ≤ o → G'.bl o = G.bl o ∧ G'.hv o = G.hv o) ∧ Norm G'.χ w' ∧
      All2 (CRd G' (hpL []) w') (Rz.one (.v (.p (.str (mkS r))))).comps us ∧ (∀ o h, hpL [] o = some h → HRd G' (hpL []) w' o h) := fun w' hw => by
    refine ⟨G, _, [.string (mkS r)], rfl, rfl, hw.os, hw.tape, hw.output, hw.size, fun b hb _ => ⟨hw.block b hb, rfl⟩, fun b hb => .inl hb, fun _ _ => ⟨rfl, rfl⟩, fun b hb => hnorm b (Nat.le_trans hw.size hb), ⟨rfl, fun i x v hx hv => ?_⟩, (fun o h ho => by cases ho)⟩
    cases i with
    | zero =>
      simp [Rz.comps] at hx hv
      subst hx hv
      refine ⟨rfl, by simp [Leaf.ids], Rd.str ?_⟩
      rw [mkS_size, ← hr]
      omega
    | succ i => simp [Rz.comps] at hx
  have nil : l = [] → ∀ A c, v0 = .slice A 0 c → Calls P f [v0, .string (mkS sep)].toArray w fun e w' => ∃ (G' : Gh) (v : Value) (us : List Value), e = .returned v ∧ (Rz.one (.v (.p (.str (mkS r))))).val v us ∧ w'.os = w.os ∧ w'.tape = w.tape ∧ w'.output = w.output ∧ w.heap.size ≤ w'.heap.size ∧
      (∀ b, b < w.heap.size → G.χ b ≤ 1 → w'.heap[b]? = w.heap[b]? ∧ G'.χ b = G.χ b) ∧ (∀ b, 2 ≤ G'.χ b → 2 ≤ G.χ b ∨ w.heap.size ≤ b) ∧ (∀ o, 1000000 ≤ o → G'.bl o = G.bl o ∧ G'.hv o = G.hv o) ∧ Norm G'.χ w' ∧
      All2 (CRd G' (hpL []) w') (Rz.one (.v (.p (.str (mkS r))))).comps us ∧ (∀ o h, hpL [] o = some h → HRd G' (hpL []) w' o h) := fun hl A c hv => by
    subst hl
    subst hv
    have : r = [] := by rw [← hr]; rfl
    subst this
    refine (h0 A c (mkS sep) w).mono ?_
    rintro e w' ⟨rfl, rfl⟩
    exact fin w' (Below.refl _ _)
  rcases List.eq_nil_or_concat l with hl | ⟨_, _, hl⟩
  · subst hl
    obtain ⟨A, c, z, hv, _⟩ := Rd.to_sl r0
    exact nil rfl A c hv
  · have hne : l ≠ [] := by rw [hl]; simp
    clear hl nil
    generalize hrows : (l.map fun x => [PV.str (mkS x)]) = rows at r0
    cases r0 with
    | sl0 h hm => exact absurd (List.map_eq_nil_iff.1 hrows) hne
    | @sl _ b off c z us hn0 hF hbb hcc hmm hz hcell hrd =>
      have hlen : rows.length = l.length := by rw [← hrows, List.length_map]
      have hz1 : z = 1 := by
        obtain ⟨y, ys, rfl⟩ := List.exists_cons_of_ne_nil hne
        have := hz 0 [PV.str (mkS y)] (by rw [← hrows]; rfl)
        simpa using this.symm
      subst hz1
      have hx : rows.length = (l.map mkS).length := by rw [hlen, List.length_map]
      rw [hx]
      refine (h1 b off c (l.map mkS) (mkS sep) w (fun j x hj => ?_) hbb (by rw [List.length_map]; exact hb.1) (by rw [← hx]; exact hcc) (by rw [mkS_back, hsep]; exact hb.2)).mono ?_
      · rw [List.getElem?_map, Option.map_eq_some_iff] at hj
        obtain ⟨y, hy, rfl⟩ := hj
        have hi : rows[j]? = some [PV.str (mkS y)] := by rw [← hrows, List.getElem?_map, hy]; rfl
        have h3 := hcell j 0 _ _ hi rfl
        have h4 := hrd j 0 _ _ hi rfl
        have h5 : us j 0 = .string (mkS y) := by
          generalize us j 0 = u at h4
          cases h4; rfl
        rw [h5, Nat.mul_one, Nat.add_zero] at h3
        exact h3
      · rintro e w' ⟨rfl, hw⟩
        rw [mkS_back, hsep, hr]
        exact fin w' hw
end Go.Lad
