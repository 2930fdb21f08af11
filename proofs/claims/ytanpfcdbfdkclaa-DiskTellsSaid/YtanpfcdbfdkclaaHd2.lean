/-
  Layer 02 (disk): Crash's loop over the files as a hand of the typed run.
-/
import Derived.Test.YtanpfcdbfdkclaaHd
namespace Go.Proofs.Ytanpfcdbfdkclaa
open Go.Lad Go.RowKit
set_option linter.unusedVariables false
set_option linter.unusedSimpArgs false
set_option maxRecDepth 100000
def lastMap : (t : Ty) → List (Int × t.den) → Option (List (Int × t.den))
  | .pair .str .str, l => some (lastsF l)
  | _, _ => none
/-- the files are settled; what the loop assigns is dead -/
noncomputable def handLast (fx cur : TSt) : Option TSt :=
  match look2 cur.tm fx.tm 0 with
  | some (.c (.v (.loc od 0))) => match Go.Lad.look cur.hp od with
    | some (.box _ (.mp om :: _)) => match Go.Lad.look cur.hp om with
      | some (.mapI .i64 true t l) => (lastMap t l).map fun l' => ⟨(crashTs.map fun i => (i, .dead)) ++ cur.tm, Go.Lad.putA cur.hp om (.mapI .i64 true t l')⟩
      | _ => none
    | _ => none
  | _ => none
theorem enc_lasts : ∀ l : List (Int × (List UInt8 × List UInt8)), encM (V := (Ty.pair .str .str).den) id (enc (.pair .str .str)) (lastsF l) = (encM (V := (Ty.pair .str .str).den) id (enc (.pair .str .str)) l).map (fun x => (x.1, lastP x.2))
  | [] => rfl
  | x :: r => congrArg (List.cons _) (enc_lasts r)
theorem lastMap_some {t : Ty} {l l' : List (Int × t.den)} (h : lastMap t l = some l') : ∃ e : t = .pair .str .str, encM id (enc t) l' = (encM id (enc t) l).map (fun x => (x.1, lastP x.2)) ∧ ∀ x ∈ encM id (enc t) l, ∃ p q : ByteArray, x.2 = [.str p, .str q] := by
  unfold lastMap at h
  split at h
  · rename_i l0
    injection h with h
    subst h
    refine ⟨rfl, ?_, fun x hx => ?_⟩
    · exact enc_lasts l0
    · obtain ⟨y, hy, rfl⟩ := List.mem_map.1 hx
      exact ⟨⟨y.2.1.toArray⟩, ⟨y.2.2.toArray⟩, rfl⟩
  · cases h
theorem handLast_some {fx cur cur' : TSt} (h : handLast fx cur = some cur') : ∃ od bt om cs t l l', look2 cur.tm fx.tm 0 = some (.c (.v (.loc od 0))) ∧ Go.Lad.look cur.hp od = some (.box bt (.mp om :: cs)) ∧ Go.Lad.look cur.hp om = some (.mapI .i64 true t l) ∧ lastMap t l = some l' ∧
    cur' = ⟨(crashTs.map fun i => (i, .dead)) ++ cur.tm, Go.Lad.putA cur.hp om (.mapI .i64 true t l')⟩ := by
  unfold handLast at h
  split at h
  · rename_i od h1
    split at h
    · rename_i bt om cs h2
      split at h
      · rename_i t l h3
        rw [Option.map_eq_some_iff] at h
        obtain ⟨l', h4, h5⟩ := h
        exact ⟨od, bt, om, cs, t, l, l', h1, h2, h3, h4, h5.symm⟩
      · cases h
    · cases h
  · cases h
theorem look_dead (ts : List Nat) (t : Nat) : lookL (ts.map fun i => (i, TSl.dead)) t = if t ∈ ts then some .dead else none := by
  induction ts with
  | nil => rfl
  | cons i ts ih =>
    show (if t = i then some TSl.dead else lookL (ts.map fun i => (i, TSl.dead)) t) = _
    rw [ih]
    by_cases h : t = i <;> simp [h]
theorem crash_hand {Γ : Opt} (hΓ : Γ.nt = 111) {fx cur cur' : TSt} (h : handLast fx cur = some cur') : HandS Try.prog Γ crashLoop (un2 fx cur) (un2 fx cur') := by
  obtain ⟨od, bt, om, cs, t, l, l', h1, h2, h3, h4, rfl⟩ := handLast_some h
  obtain ⟨rfl, he, hrow⟩ := lastMap_some h4
  intro w0 χ0 T0 n a w hm hχ hlo hk hnt ⟨hn, G, r⟩
  have hn : a.tmps.size = 111 := by rw [hn, ← hnt, hΓ]
  rw [look2_eq] at h1
  rw [look_eq] at h2 h3
  have ht0 : (un2 fx cur).tm 0 = .c (.v (.loc od 0)) := by
    rw [un2_tm]; unfold tmAt; rw [h1]; rfl
  have ho : (un2 fx cur).hp od = some (.box bt (.mp om :: cs.map TL.un)) := by
    rw [un2_hp, obT_eq, lookL_app, h2]; rfl
  have hmm : (un2 fx cur).hp om = some (.mapI .i64 true (encM id (enc (.pair .str .str)) l)) := by
    rw [un2_hp, obT_eq, lookL_app, h3]; rfl
  have hv := r.tms 0
  rw [ht0] at hv
  have hp0 : a.tmps.getD 0 undef = .pointer (some ⟨G.bl od, 0, none⟩) := LRd.val hv
  obtain ⟨vs, hb, hcol, hall⟩ := r.objs od _ ho
  obtain ⟨es, clock, hmap, hcol2, hrok⟩ := r.objs om _ hmm
  have hc : w.cell? ⟨G.bl od, 0, none⟩ = some (.map (some (G.bl om))) := by
    rw [hb.cell]
    match vs, hall.1 with
    | v :: vs, _ =>
      have h5 := (hall.2 0 _ v rfl rfl).val
      have h5 : v = .map (some (G.bl om)) := h5
      rw [h5]; rfl
  have hne : od ≠ om := by rintro rfl; rw [ho] at hmm; cases hmm
  have hB : G.bl od ≠ G.bl om := fun e => by rw [e, hcol2] at hcol; omega
  have ha : a = { tmps := a.tmps, defers := a.defers } := rfl
  have hW := crash_walk (fun k => a.tmps.getD k undef) a.defers (G.bl od) (G.bl om) w (encM id (enc (.pair .str .str)) l) hmap hrow hc hB
  have harr := arr_lit a.tmps hn
  rw [hp0] at harr
  rw [← harr] at hW
  refine wp_mono hW fun e a' w' ⟨h5, h6, h7, h8, hg, es', clock', hmap'⟩ => ⟨h5, h7.trans (hn.symm.trans (by rw [hn, ← hnt, hΓ])), G, ?_⟩
  have htm : ∀ t, t ∉ crashTs → (un2 fx ⟨(crashTs.map fun i => (i, .dead)) ++ cur.tm, Go.Lad.putA cur.hp om (.mapI .i64 true (.pair .str .str) l')⟩).tm t = (un2 fx cur).tm t := fun t ht => by
    rw [un2_tm, un2_tm]
    unfold tmAt
    rw [lookL_app, lookL_app, look_dead, if_neg ht, lookL_app]
  have htd : ∀ t, t ∈ crashTs → (un2 fx ⟨(crashTs.map fun i => (i, .dead)) ++ cur.tm, Go.Lad.putA cur.hp om (.mapI .i64 true (.pair .str .str) l')⟩).tm t = .dead := fun t ht => by
    rw [un2_tm]
    unfold tmAt
    rw [lookL_app, lookL_app, look_dead, if_pos ht]; rfl
  have hhp : ∀ o, o ≠ om → (un2 fx ⟨(crashTs.map fun i => (i, .dead)) ++ cur.tm, Go.Lad.putA cur.hp om (.mapI .i64 true (.pair .str .str) l')⟩).hp o = (un2 fx cur).hp o := fun o ho => by
    rw [un2_hp, un2_hp, obT_eq, obT_eq]
    dsimp only
    rw [lookL_app, lookL_app, lookL_putA, if_neg ho]
  have hho : (un2 fx ⟨(crashTs.map fun i => (i, .dead)) ++ cur.tm, Go.Lad.putA cur.hp om (.mapI .i64 true (.pair .str .str) l')⟩).hp om = some (.mapI .i64 true (encM id (enc (.pair .str .str)) l')) := by
    rw [un2_hp, obT_eq]
    dsimp only
    rw [lookL_app, lookL_putA, if_pos rfl]; rfl
  revert htm htd hhp hho
  generalize un2 fx ⟨(crashTs.map fun i => (i, .dead)) ++ cur.tm, Go.Lad.putA cur.hp om (.mapI .i64 true (.pair .str .str) l')⟩ = s'
  intro htm htd hhp hho
  have hblk : ∀ b, b < w.heap.size → b ≠ G.bl om → w'.heap[b]? = w.heap[b]? := fun b hb hne => hg.block b hb fun e => hne (Option.some.inj e)
  have e : Ext G (un2 fx cur).hp w G s'.hp w' := ⟨fun b hb0 hlt => ⟨hb0, hblk b hlt fun e => by subst e; have hb0 : G.χ (G.bl om) = 0 := hb0; omega⟩, fun _ _ => rfl, fun _ _ => rfl, fun i hi => by
    by_cases hio : i = om
    · subst hio; rw [hho]; simp
    · rw [hhp i hio]; exact hi⟩
  have st : Chg [om + 2] G.χ w G.χ w' := ⟨hg.os, hg.tape, hg.output, hg.size, fun _ _ _ => rfl, fun b hb hT => hblk b hb fun e => hT (by subst e; rw [hcol2]; simp)⟩
  have hU := r.upd (d := none) (x := .dead) (v := undef) (hp' := s'.hp) (by simp) e st (by simp) (fun b hb => r.norm b (Nat.le_trans hg.size hb)) (fun i h hi => by
    by_cases hio : i = om
    · subst hio
      rw [hho] at hi
      injection hi with hi
      subst hi
      refine .inr ⟨es', clock', by rw [he]; exact hmap', hcol2, fun x hx => ?_⟩
      rw [he] at hx
      obtain ⟨y, hy, rfl⟩ := List.mem_map.1 hx
      obtain ⟨p, q, hpq⟩ := hrow y hy
      have h9 := (hrok y hy).1
      rw [hpq] at h9
      refine ⟨fun z hz => ?_, fun h => by cases h⟩
      have hz : z ∈ lastP y.2 := hz
      rw [hpq] at hz
      have hz : z ∈ [PV.str q, PV.str q] := hz
      simp only [List.mem_cons, List.not_mem_nil, or_false, or_self] at hz
      subst hz
      exact h9 _ (by simp)
    · rw [hhp i hio] at hi
      exact .inl ⟨hi, by simp; exact hio⟩) trivial
  refine ⟨hU.os, hU.tape, hU.output, hU.size, hU.old, hU.col, hU.own, hU.pin, hU.norm, by rw [h6]; exact hU.defers, fun t => ?_, hU.objs, hU.glob⟩
  by_cases ht : t ∈ crashTs
  · rw [htd t ht]; trivial
  · rw [htm t ht, h8 t ht]
    exact hU.tms t
theorem crash_hands {E : Env} {an : An} (hP : E.P = Try.prog) (hE : E.hands = [handLast]) (hof : (match Try.f25.body with | some c => handsOf c an | none => []) = [(0, crashLoop)]) : HandsOK E Try.f25 an := by
  intro c hc x hx h hh
  rw [hc] at hof
  dsimp only at hof
  rw [hof] at hx
  rw [List.mem_singleton] at hx
  subst hx
  rw [hE] at hh
  injection hh with hh
  subst hh
  refine ⟨by kernel_rfl, fun fx cur cur' h => ?_⟩
  have := crash_hand (Γ := { js := E.js, hs := E.hs, vs := E.fz, fz := E.zs, mv := E.ns, bx := E.bs, nt := Try.f25.ntmps }) (by kernel_rfl) h
  rw [hP]
  exact this
end Go.Proofs.Ytanpfcdbfdkclaa
