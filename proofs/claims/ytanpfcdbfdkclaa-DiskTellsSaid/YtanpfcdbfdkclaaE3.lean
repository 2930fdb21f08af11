/-
  Contracts of library functions that are proved elsewhere: maps.Clone (of a map that a call made).
-/
import Derived.Test.YtanpfcdbfdkclaaD12
import Derived.Below
namespace Go.Lad
set_option linter.unusedVariables false
set_option linter.unusedSimpArgs false
open Go.RowKit

noncomputable def cloneCon (f : FuncId) (k : IntKind) (agg : Bool) (t : Ty) : Con :=
  ⟨f, [.c (.v (.mp 1000000))], [(1000000, .mapQ k agg t)], [], [.sl (.pair (.pair (.int k) (.int .i64)) t)], .one (.v (.mp 0)), [(0, .mapQ k agg t)], [.sl (.pair (.pair (.int k) (.int .i64)) t)], fun x => some x⟩
theorem MapAt.clone {α β : Type} {kv : α → Value} {vf : β → Value} {w : World} {b : Nat} {es : Array MapEntry} {clock : Nat} {m : List (α × β)} (h : MapAt kv vf w b es clock m) : MapAt kv vf (w.alloc (.map es clock)) w.heap.size es clock m :=
  ⟨by simp [World.alloc, -World.alloc_eq], h.eq, h.born, h.apart, h.uniq⟩
theorem clone_con {P : Program} {f : FuncId} {k : IntKind} {agg : Bool} {t : Ty} (hc : callable P f = true)
    (h1 : ∀ (b : Nat) (es : Array MapEntry) (clock : Nat) (w : World), w.heap[b]? = some (.map es clock) → Calls P f #[.map (some b)] w fun e w' => e = .returned (.map (some w.heap.size)) ∧ w' = w.alloc (.map es clock)) : ConOK P (cloneCon f k agg t) := by
  refine ⟨hc, fun x r hr => ?_⟩
  injection hr with hr
  subst hr
  obtain ⟨m, rfl⟩ : ∃ m : List ((Int × Int) × t.den), m = x := ⟨x, rfl⟩
  have key : MeetsH P f ⟨[.c (.v (.mp 1000000))], [(1000000, .mapQ k agg (encM mkQ (enc t) m))], .one (.v (.mp 0)), [(0, .mapQ k agg (encM mkQ (enc t) m)), (1000000, .mapQ k agg (encM mkQ (enc t) m))]⟩ := by
    intro w G vs hnorm hglob hargs hobjs
    obtain ⟨v0, rfl⟩ : ∃ v0, vs = [v0] := by
      have := hargs.1
      match vs, this with
      | [a], _ => exact ⟨a, rfl⟩
    have hv0 : v0 = .map (some (G.bl 1000000)) := (hargs.2 0 _ _ rfl rfl : SRd G _ w _ v0).val
    subst hv0
    obtain ⟨es, clock, hm, hcol, hrow⟩ := hobjs 1000000 _ rfl
    refine (h1 (G.bl 1000000) es clock w hm.at_).mono ?_
    rintro e w' ⟨rfl, rfl⟩
    have bel : Below w.heap.size w (w.alloc (.map es clock)) := (Below.refl _ w).alloc (Nat.le_refl _) _
    have hsz : (w.alloc (.map es clock)).heap.size = w.heap.size + 1 := by simp
    refine ⟨⟨fun b => if b = w.heap.size then 2 else G.χ b, fun o => if o = 0 then w.heap.size else G.bl o, G.hv⟩, _, [_], rfl, rfl, bel.os, bel.tape, bel.output, bel.size, fun b hb _ => ⟨bel.block b hb, if_neg (by omega)⟩, fun b hb => ?_, fun o ho => ⟨if_neg (by omega), rfl⟩, fun b hb => ?_, ⟨rfl, fun i x v hx hv => ?_⟩, fun o h ho => ?_⟩
    · by_cases hbs : b = w.heap.size
      · exact .inr (by omega)
      · dsimp only at hb
        rw [if_neg hbs] at hb
        exact .inl hb
    · have hb : w.heap.size + 1 ≤ b := by rw [← hsz]; exact hb
      dsimp only
      rw [if_neg (by omega)]
      exact hnorm b (by omega)
    · cases i with
      | succ i => simp [Rz.comps] at hx
      | zero =>
        simp [Rz.comps] at hx hv
        subst hx hv
        exact ⟨rfl, by simp [Leaf.ids, hpL, lookL], by simp [LVal]⟩
    · have hlt : G.bl 1000000 < w.heap.size := hm.lt
      have hb0 : (fun o : Nat => if o = 0 then w.heap.size else G.bl o) 0 = w.heap.size := if_pos rfl
      simp only [hpL, lookL] at ho
      split at ho
      · rename_i he
        have he : o = 0 := by simpa using he
        subst he
        injection ho with ho
        subst ho
        exact ⟨es, clock, hm.clone, by simp, hrow⟩
      · split at ho
        · rename_i he
          have he : o = 1000000 := by simpa using he
          subst he
          injection ho with ho
          subst ho
          refine ⟨es, clock, ?_, ?_, hrow⟩
          · exact hm.frame (bel.block _ hlt)
          · show (if G.bl 1000000 = w.heap.size then 2 else G.χ (G.bl 1000000)) = 1000000 + 2
            rw [if_neg (by omega)]; exact hcol
        · cases ho
  have e1 : (cloneCon f k agg t).spec m m = ⟨[.c (.v (.mp 1000000))], [(1000000, .mapQ k agg (encM mkQ (enc t) m))], .one (.v (.mp 0)), [(0, .mapQ k agg (encM mkQ (enc t) m)), (1000000, .mapQ k agg (encM mkQ (enc t) m))]⟩ := by
    have hl : listAs (.pair (.pair (.int k) (.int .i64)) t) ⟨.sl (.pair (.pair (.int k) (.int .i64)) t), m⟩ = m := listAs_d (t := .pair (.pair (.int k) (.int .i64)) t) m
    show HSpec.mk _ [(1000000, TObj.un (.mapQ k agg t (listAs (.pair (.pair (.int k) (.int .i64)) t) ⟨.sl (.pair (.pair (.int k) (.int .i64)) t), m⟩)))] _ [(0, TObj.un (.mapQ k agg t (listAs (.pair (.pair (.int k) (.int .i64)) t) ⟨.sl (.pair (.pair (.int k) (.int .i64)) t), m⟩))), (1000000, TObj.un (.mapQ k agg t (listAs (.pair (.pair (.int k) (.int .i64)) t) ⟨.sl (.pair (.pair (.int k) (.int .i64)) t), m⟩)))] = _
    rw [hl]
    rfl
  rw [show (cloneCon f k agg t).f = f from rfl] at *
  show MeetsH P f ((cloneCon f k agg t).spec m m)
  rw [e1]
  exact key
noncomputable def cloneConI (f : FuncId) (k : IntKind) (agg : Bool) (t : Ty) : Con :=
  ⟨f, [.c (.v (.mp 1000000))], [(1000000, .mapI k agg t)], [], [.sl (.pair (.int k) t)], .one (.v (.mp 0)), [(0, .mapI k agg t)], [.sl (.pair (.int k) t)], fun x => some x⟩
theorem clone_conI {P : Program} {f : FuncId} {k : IntKind} {agg : Bool} {t : Ty} (hc : callable P f = true)
    (h1 : ∀ (b : Nat) (es : Array MapEntry) (clock : Nat) (w : World), w.heap[b]? = some (.map es clock) → Calls P f #[.map (some b)] w fun e w' => e = .returned (.map (some w.heap.size)) ∧ w' = w.alloc (.map es clock)) : ConOK P (cloneConI f k agg t) := by
  refine ⟨hc, fun x r hr => ?_⟩
  injection hr with hr
  subst hr
  obtain ⟨m, rfl⟩ : ∃ m : List (Int × t.den), m = x := ⟨x, rfl⟩
  have key : MeetsH P f ⟨[.c (.v (.mp 1000000))], [(1000000, .mapI k agg (encM id (enc t) m))], .one (.v (.mp 0)), [(0, .mapI k agg (encM id (enc t) m)), (1000000, .mapI k agg (encM id (enc t) m))]⟩ := by
    intro w G vs hnorm hglob hargs hobjs
    obtain ⟨v0, rfl⟩ : ∃ v0, vs = [v0] := by
      have := hargs.1
      match vs, this with
      | [a], _ => exact ⟨a, rfl⟩
    have hv0 : v0 = .map (some (G.bl 1000000)) := (hargs.2 0 _ _ rfl rfl : SRd G _ w _ v0).val
    subst hv0
    obtain ⟨es, clock, hm, hcol, hrow⟩ := hobjs 1000000 _ rfl
    refine (h1 (G.bl 1000000) es clock w hm.at_).mono ?_
    rintro e w' ⟨rfl, rfl⟩
    have bel : Below w.heap.size w (w.alloc (.map es clock)) := (Below.refl _ w).alloc (Nat.le_refl _) _
    have hsz : (w.alloc (.map es clock)).heap.size = w.heap.size + 1 := by simp
    refine ⟨⟨fun b => if b = w.heap.size then 2 else G.χ b, fun o => if o = 0 then w.heap.size else G.bl o, G.hv⟩, _, [_], rfl, rfl, bel.os, bel.tape, bel.output, bel.size, fun b hb _ => ⟨bel.block b hb, if_neg (by omega)⟩, fun b hb => ?_, fun o ho => ⟨if_neg (by omega), rfl⟩, fun b hb => ?_, ⟨rfl, fun i x v hx hv => ?_⟩, fun o h ho => ?_⟩
    · by_cases hbs : b = w.heap.size
      · exact .inr (by omega)
      · dsimp only at hb
        rw [if_neg hbs] at hb
        exact .inl hb
    · have hb : w.heap.size + 1 ≤ b := by rw [← hsz]; exact hb
      dsimp only
      rw [if_neg (by omega)]
      exact hnorm b (by omega)
    · cases i with
      | succ i => simp [Rz.comps] at hx
      | zero =>
        simp [Rz.comps] at hx hv
        subst hx hv
        exact ⟨rfl, by simp [Leaf.ids, hpL, lookL], by simp [LVal]⟩
    · have hlt : G.bl 1000000 < w.heap.size := hm.lt
      have hb0 : (fun o : Nat => if o = 0 then w.heap.size else G.bl o) 0 = w.heap.size := if_pos rfl
      simp only [hpL, lookL] at ho
      split at ho
      · rename_i he
        have he : o = 0 := by simpa using he
        subst he
        injection ho with ho
        subst ho
        exact ⟨es, clock, hm.clone, by simp, hrow⟩
      · split at ho
        · rename_i he
          have he : o = 1000000 := by simpa using he
          subst he
          injection ho with ho
          subst ho
          refine ⟨es, clock, ?_, ?_, hrow⟩
          · exact hm.frame (bel.block _ hlt)
          · show (if G.bl 1000000 = w.heap.size then 2 else G.χ (G.bl 1000000)) = 1000000 + 2
            rw [if_neg (by omega)]; exact hcol
        · cases ho
  have e1 : (cloneConI f k agg t).spec m m = ⟨[.c (.v (.mp 1000000))], [(1000000, .mapI k agg (encM id (enc t) m))], .one (.v (.mp 0)), [(0, .mapI k agg (encM id (enc t) m)), (1000000, .mapI k agg (encM id (enc t) m))]⟩ := by
    have hl : listAs (.pair (.int k) t) ⟨.sl (.pair (.int k) t), m⟩ = m := listAs_d (t := .pair (.int k) t) m
    show HSpec.mk _ [(1000000, TObj.un (.mapI k agg t (listAs (.pair (.int k) t) ⟨.sl (.pair (.int k) t), m⟩)))] _ [(0, TObj.un (.mapI k agg t (listAs (.pair (.int k) t) ⟨.sl (.pair (.int k) t), m⟩))), (1000000, TObj.un (.mapI k agg t (listAs (.pair (.int k) t) ⟨.sl (.pair (.int k) t), m⟩)))] = _
    rw [hl]
    rfl
  rw [show (cloneConI f k agg t).f = f from rfl] at *
  show MeetsH P f ((cloneConI f k agg t).spec m m)
  rw [e1]
  exact key
end Go.Lad
