/-
  A map while it is ranged over: the entries that the iterator has not handed out, by their keys.
-/
import Derived.Test.YtanpfcdbfdkclaaMaps
import Derived.Maps.RangeRun
namespace Go.Lad
set_option linter.unusedVariables false
set_option linter.unusedSimpArgs false
open Go.RowKit
open Go.ChangeMaps (setBlock)

section
variable {α β : Type} {kv : α → Value} {vf : β → Value} {w w' : World} {b r : Nat} {m : List (α × β)} {left : α → Bool} {P : Program} {t kt et : TypeId}
/-- block r is the iterator over block b; the entries whose keys are left have not been handed out -/
def RngAt (kv : α → Value) (vf : β → Value) (w : World) (b r : Nat) (m : List (α × β)) (left : α → Bool) : Prop :=
  ∃ es clock since c0 seen, MapAt kv vf w b es clock m ∧ w.heap[r]? = some (.mapIter (some b) since seen c0) ∧ (∀ e ∈ es.toList, e.born < since) ∧ since ≤ c0 ∧ since ≤ clock ∧
    ∀ (i : Nat) (e : MapEntry) (x : α × β), es.toList[i]? = some e → m[i]? = some x → left x.1 = !seen.contains e.born
theorem RngAt.frame (h : RngAt kv vf w b r m left) (hb : w'.heap[b]? = w.heap[b]?) (hr : w'.heap[r]? = w.heap[r]?) : RngAt kv vf w' b r m left := by
  obtain ⟨es, clock, since, c0, seen, h1, h2, h3⟩ := h
  exact ⟨es, clock, since, c0, seen, h1.frame hb, hr.trans h2, h3⟩
theorem RngAt.lt (h : RngAt kv vf w b r m left) : b < w.heap.size ∧ r < w.heap.size ∧ b ≠ r := by
  obtain ⟨es, clock, since, c0, seen, h1, h2, h3⟩ := h
  refine ⟨h1.lt, (Array.getElem?_eq_some_iff.1 h2).1, ?_⟩
  rintro rfl
  rw [h1.at_] at h2; cases h2
theorem RngAt.map (h : RngAt kv vf w b r m left) : ∃ es clock, MapAt kv vf w b es clock m := by
  obtain ⟨es, clock, since, c0, seen, h1, h2, h3⟩ := h
  exact ⟨es, clock, h1⟩
/-- 'range m' -/
theorem MapAt.range {es : Array MapEntry} {clock : Nat} (h : MapAt kv vf w b es clock m) (ht : P.underlying t = some (.map kt et)) :
    (Instr.range t (.map (some b))).run P w = .ok (.pointer (some ⟨w.heap.size, 0, none⟩)) (w.alloc (.mapIter (some b) clock #[] clock)) ∧ RngAt kv vf (w.alloc (.mapIter (some b) clock #[] clock)) b w.heap.size m fun _ => true := by
  refine ⟨run_range_map w t kt et b es clock ht h.at_, es, clock, clock, clock, #[], h.frame (heap_alloc_old w _ h.lt), heap_alloc_new w _, h.born, Nat.le_refl _, Nat.le_refl _, fun i e x he hx => ?_⟩
  simp
theorem MapAt.atI {es : Array MapEntry} {clock : Nat} (h : MapAt kv vf w b es clock m) {i : Nat} {e : MapEntry} (he : es.toList[i]? = some e) : ∃ x, m[i]? = some x ∧ e.key = kv x.1 ∧ e.val = vf x.2 := by
  have h1 := congrArg (fun l => l[i]?) h.eq
  simp only [List.getElem?_map, he, Option.map_some] at h1
  cases hx : m[i]? with
  | none => rw [hx] at h1; cases h1
  | some x =>
    rw [hx] at h1
    simp only [Option.map_some, Option.some.injEq, Prod.mk.injEq] at h1
    exact ⟨x, rfl, h1.1, h1.2⟩
theorem MapAt.at2 {es : Array MapEntry} {clock : Nat} (h : MapAt kv vf w b es clock m) {i : Nat} {x : α × β} (hx : m[i]? = some x) : ∃ e, es.toList[i]? = some e ∧ e.key = kv x.1 ∧ e.val = vf x.2 := by
  have h1 := congrArg (fun l => l[i]?) h.eq
  simp only [List.getElem?_map, hx, Option.map_some] at h1
  cases he : es.toList[i]? with
  | none => rw [he] at h1; cases h1
  | some e =>
    rw [he] at h1
    simp only [Option.map_some, Option.some.injEq, Prod.mk.injEq] at h1
    exact ⟨e, rfl, h1.1, h1.2⟩
theorem uniq_idx {m : List (α × β)} (hn : (m.map (·.1)).Nodup) {i j : Nat} {x y : α × β} (hx : m[i]? = some x) (hy : m[j]? = some y) (h : x.1 = y.1) : i = j := by
  refine (List.getElem?_inj (by rw [List.length_map]; exact (List.getElem?_eq_some_iff.1 hx).1) hn).1 ?_
  rw [List.getElem?_map, List.getElem?_map, hx, hy, Option.map_some, Option.map_some, h]
theorem born_idx {es : List MapEntry} (hn : (es.map (·.born)).Nodup) {i j : Nat} {x y : MapEntry} (hx : es[i]? = some x) (hy : es[j]? = some y) (h : x.born = y.born) : i = j := by
  refine (List.getElem?_inj (by rw [List.length_map]; exact (List.getElem?_eq_some_iff.1 hx).1) hn).1 ?_
  rw [List.getElem?_map, List.getElem?_map, hx, hy, Option.map_some, Option.map_some, h]
/-- 'next': nothing is left, or one entry that is left comes out, whichever. -/
theorem RngAt.next [DecidableEq α] (h : RngAt kv vf w b r m left) (ty : TypeId) :
    ((∀ x ∈ m, left x.1 = false) ∧ (Instr.next (.pointer (some ⟨r, 0, none⟩)) false ty).run P w = .ok (.tuple #[.bool false]) w) ∨
    ∃ (i : Nat) (x : α × β) (w1 w2 : World) (o : Obj), m[i]? = some x ∧ left x.1 = true ∧ (w1 = w ∨ w1 = w.drew) ∧ w2 = setBlock w1 r o ∧ (Instr.next (.pointer (some ⟨r, 0, none⟩)) false ty).run P w = .ok (.tuple #[.bool true, kv x.1, vf x.2]) w2 ∧
      RngAt kv vf w2 b r m (fun k => left k && !decide (k = x.1)) ∧ (Instr.entry (.pointer (some ⟨r, 0, none⟩))).run P w2 = .ok (.tuple #[kv x.1, vf x.2]) w2 := by
  have hlt := h.lt
  obtain ⟨es, clock, since, c0, seen, h1, h2, h3, h4, h4', h5⟩ := h
  rcases run_next_at (P := P) w ty r b since c0 seen es clock h2 h1.at_ h3 h4 with ⟨h6, h7⟩ | ⟨e, he, w1, h6, h7⟩
  · refine .inl ⟨fun x hx => ?_, h7⟩
    obtain ⟨i, hi⟩ := List.getElem?_of_mem hx
    obtain ⟨e, he, _, _⟩ := h1.at2 hi
    rw [h5 i e x he hi]
    cases hc : seen.contains e.born with
    | true => rfl
    | false =>
      exfalso
      have : e ∈ leftOf es seen := by
        unfold leftOf
        rw [Array.mem_filter]
        exact ⟨Array.mem_toList_iff.1 (List.mem_of_getElem? he), by rw [hc]; rfl⟩
      have h0 : leftOf es seen = #[] := Array.eq_empty_of_size_eq_zero h6
      rw [h0] at this
      simp at this
  · obtain ⟨hm, hs⟩ := mem_left he
    obtain ⟨i, hi⟩ := List.getElem?_of_mem hm
    obtain ⟨x, hx, hk, hv⟩ := h1.atI hi
    have hw1 : ∀ j : Nat, w1.heap[j]? = w.heap[j]? := fun j => by rcases h6 with rfl | rfl <;> rfl
    have hsz : w1.heap.size = w.heap.size := by rcases h6 with rfl | rfl <;> rfl
    obtain ⟨o, ho⟩ : ∃ o, Obj.mapIter (some b) since (seen.push e.born) clock = o := ⟨_, rfl⟩
    have hr2 : (setBlock w1 r o).heap[r]? = some o := by
      simp only [setBlock]
      rw [Array.getElem?_setIfInBounds_self, if_pos (by rw [hsz]; exact hlt.2.1)]
    have hb2 : (setBlock w1 r o).heap[b]? = w.heap[b]? := by
      simp only [setBlock]
      rw [Array.getElem?_setIfInBounds_ne (fun e => hlt.2.2 e.symm), hw1]
    rw [hk, hv] at h7
    refine .inr ⟨i, x, w1, setBlock w1 r o, o, hx, ?_, h6, rfl, by rw [← ho]; exact h7, ?_, ?_⟩
    · rw [h5 i e x hi hx, hs]; rfl
    · refine ⟨es, clock, since, clock, seen.push e.born, h1.frame hb2, by rw [hr2, ho], h3, h4', h4', fun j e' x' he' hx' => ?_⟩
      show (left x'.1 && !decide (x'.1 = x.1)) = _
      rw [h5 j e' x' he' hx', contains_push]
      by_cases hj : j = i
      · subst hj
        rw [hi] at he'
        rw [hx] at hx'
        injection he' with he'
        injection hx' with hx'
        subst he' hx'
        simp
      · have h8 : x'.1 ≠ x.1 := fun h => hj (uniq_idx h1.uniq hx' hx h)
        have h9 : e'.born ≠ e.born := fun h => hj (born_idx h1.apart he' hi h)
        simp [h8, h9]
    · rw [← hk, ← hv]; exact run_entry_at _ r b since seen es clock e (by rw [hr2, ho]) (hb2.trans h1.at_) hm h1.apart
/-- what is written behind keys that are there leaves the stamps as they were -/
theorem RngAt.written {m' : List (α × β)} {es' : Array MapEntry} {clock' : Nat} (h : RngAt kv vf w b r m left) (h' : MapAt kv vf w' b es' clock' m') (hr : w'.heap[r]? = w.heap[r]?) (hk : m'.map (·.1) = m.map (·.1))
    (hs : ∀ es clock, w.heap[b]? = some (.map es clock) → clock ≤ clock' ∧ es.toList.map (·.born) <+: es'.toList.map (·.born)) : RngAt kv vf w' b r m' left := by
  obtain ⟨es, clock, since, c0, seen, h1, h2, h3, h4, h4', h5⟩ := h
  obtain ⟨hc, hp⟩ := hs es clock h1.at_
  have hl : (es.toList.map (·.born)).length = (es'.toList.map (·.born)).length := by
    rw [List.length_map, List.length_map, Array.length_toList, Array.length_toList, h1.len, h'.len, ← List.length_map (f := (·.1)) (as := m), ← hk, List.length_map]
  have he := hp.eq_of_length hl
  refine ⟨es', clock', since, c0, seen, h', hr.trans h2, fun e hm => ?_, h4, Nat.le_trans h4' hc, fun i e x hi hx => ?_⟩
  · have : e.born ∈ es.toList.map (·.born) := by rw [he]; exact List.mem_map_of_mem hm
    obtain ⟨e', hm', hb⟩ := List.mem_map.1 this
    rw [← hb]; exact h3 e' hm'
  · have hb : (es.toList.map (·.born))[i]? = some e.born := by rw [he, List.getElem?_map, hi]; rfl
    rw [List.getElem?_map, Option.map_eq_some_iff] at hb
    obtain ⟨e0, h6, h7⟩ := hb
    have hk2 : (m.map (·.1))[i]? = some x.1 := by rw [← hk, List.getElem?_map, hx]; rfl
    rw [List.getElem?_map, Option.map_eq_some_iff] at hk2
    obtain ⟨x0, h8, h9⟩ := hk2
    rw [← h9, ← h7]
    exact h5 i e0 x0 h6 h8
theorem pos_at [DecidableEq α] {m : List (α × β)} (hn : (m.map (·.1)).Nodup) {i : Nat} {x : α × β} (hx : m[i]? = some x) : pos (m.map (·.1)) x.1 = some i := by
  cases hp : pos (m.map (·.1)) x.1 with
  | none => exact absurd (List.mem_map_of_mem (List.mem_of_getElem? hx)) (pos_none.1 hp)
  | some j =>
    have hj := (pos_some hp).1
    rw [List.getElem?_map, Option.map_eq_some_iff] at hj
    obtain ⟨y, hy, hy2⟩ := hj
    rw [uniq_idx hn hy hx hy2]
/-- 'm[x] = y', x there -/
theorem RngAt.update [DecidableEq α] (h : RngAt kv vf w b r m left) (K : KeyLaw P kt kv) (ht : P.underlying t = some (.map kt et)) {i : Nat} {x : α × β} (hx : m[i]? = some x) (y : β) :
    ∃ es clock, (Instr.mapUpdate t (.map (some b)) (kv x.1) (vf y)).run P w = .ok () (setMap w b es clock) ∧ RngAt kv vf (setMap w b es clock) b r (m.set i (x.1, y)) left := by
  have hlt := h.lt
  have h0 := h
  obtain ⟨es, clock, since, c0, seen, h1, h2, h3, h4, h4', h5⟩ := h
  obtain ⟨hrun, hm⟩ := h1.update (P := P) K ht x.1 y
  have hp := pos_at h1.uniq hx
  have hput : putM m x.1 y = m.set i (x.1, y) := by unfold putM; rw [hp]
  rw [hp] at hrun hm
  rw [hput] at hm
  refine ⟨_, _, hrun, h0.written hm ((setMap_other _ _ _ _ _ fun e => hlt.2.2 e.symm)) ?_ fun es2 clock2 h6 => ?_⟩
  · rw [← hput, putM_keys, hp]
  · rw [h1.at_] at h6
    injection h6 with h6
    injection h6 with h6 h7
    subst h6 h7
    refine ⟨Nat.le_refl _, ?_⟩
    have e : (((putEs es clock (some i) (kv x.1) (vf y)).1).toList.map (·.born)) = es.toList.map (·.born) := by
      simp only [putEs]
      apply List.ext_getElem?
      intro j
      simp only [List.getElem?_map, Array.getElem?_toList, Array.getElem?_modify]
      split
      · rename_i hij; subst hij; cases es[i]? <;> rfl
      · rfl
    rw [e]
    exact List.prefix_refl _
/-- 'delete(m, x)' -/
theorem RngAt.delete [DecidableEq α] (h : RngAt kv vf w b r m left) (K : KeyLaw P kt kv) (ht : P.underlying t = some (.map kt et)) {i : Nat} {x : α × β} (hx : m[i]? = some x) (ty : TypeId) :
    ∃ es clock, (Builtin.delete_ #[t, kt] ty #[.map (some b), kv x.1]).run P w = .ok (.tuple #[]) (setMap w b es clock) ∧ RngAt kv vf (setMap w b es clock) b r (m.eraseIdx i) left := by
  have hlt := h.lt
  obtain ⟨es, clock, since, c0, seen, h1, h2, h3, h4, h4', h5⟩ := h
  have hf := K.find x.1 es.toList _ h1.keys w
  have hpos : pos (m.map (·.1)) x.1 = some i := by
    cases hp : pos (m.map (·.1)) x.1 with
    | none => exact absurd (List.mem_map_of_mem (List.mem_of_getElem? hx)) (pos_none.1 hp)
    | some j =>
      have hj := (pos_some hp).1
      rw [List.getElem?_map, Option.map_eq_some_iff] at hj
      obtain ⟨y, hy, hy2⟩ := hj
      rw [uniq_idx h1.uniq hy hx hy2]
  have hg : (getObj b).run P w = .ok (.map es clock) w := by simp [getObj, Sem.run, h1.at_]
  have hs : ∀ es' c', (setObj b (.map es' c')).run P w = .ok () (setMap w b es' c') := by
    intro es' c'
    simp [setObj, Sem.run, h1.at_, Lad.setMap]
  have htl : (es.eraseIdxIfInBounds i).toList = es.toList.eraseIdx i := by
    have hl : i < es.size := by
      have := (List.getElem?_eq_some_iff.1 hx).1
      rw [h1.len]; exact this
    simp [Array.eraseIdxIfInBounds, hl]
  refine ⟨es.eraseIdxIfInBounds i, clock, ?_, es.eraseIdxIfInBounds i, clock, since, c0, seen, ⟨setMap_same _ _ _ _ hlt.1, ?_, ?_, ?_, ?_⟩, (setMap_other _ _ _ _ _ fun e => hlt.2.2 e.symm).trans h2, ?_, h4, h4', ?_⟩
  · simp [Builtin.delete_, run_underlying ht, hg, K.chk, hf, hpos, hs, Result.andThen]
  · have e1 : ∀ {γ δ : Type} (f : γ → δ) (l : List γ) (k : Nat), (l.eraseIdx k).map f = (l.map f).eraseIdx k := fun f l => by
      induction l with
      | nil => intro k; simp
      | cons y l ih => intro k; cases k with
        | zero => rfl
        | succ k => simp [ih]
    rw [htl, e1, e1, h1.eq]
  · intro e he
    rw [htl] at he
    exact h1.born e (List.mem_of_mem_eraseIdx he)
  · rw [htl]
    exact h1.apart.sublist ((List.eraseIdx_sublist _ _).map _)
  · exact h1.uniq.sublist ((List.eraseIdx_sublist _ _).map _)
  · intro e he
    rw [htl] at he
    exact h3 e (List.mem_of_mem_eraseIdx he)
  · intro j e y he hy
    rw [htl] at he
    rw [List.getElem?_eraseIdx] at he hy
    split at he
    · rename_i hj
      rw [if_pos hj] at hy
      exact h5 j e y he hy
    · rename_i hj
      rw [if_neg hj] at hy
      exact h5 (j + 1) e y he hy
end
end Go.Lad
