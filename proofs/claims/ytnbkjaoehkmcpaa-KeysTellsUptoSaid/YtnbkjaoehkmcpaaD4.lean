/-
  The typed run is sound: operations.
-/
import Derived.Test.YtnbkjaoehkmcpaaD3
namespace Go.Lad
set_option linter.unusedVariables false
set_option linter.unusedSimpArgs false
open Go.RowKit

section
variable {ρ : Type} {P : Program} {H : List (Nat × Ty)} {fx cur : TSt} {k : KE ρ} {r : ρ}
/-- an operand as the abstract operations have it -/
def argU (fx cur : TSt) (x : TSl) : Arg := (x.un, x.un.ids.map (un2 fx cur).hp)
def Did (o : Option Eff) (k : KE ρ) (r : ρ) : Prop := ∃ y wr c, k y wr = some r ∧ o = some ⟨c, y.un, unHp wr⟩ ∧ c
theorem did {o : Option Eff} {c : Prop} (y : TSl) (wr : List (Nat × TObj)) (h : k y wr = some r) (ho : o = some ⟨c, y.un, unHp wr⟩) (hc : c) : Did o k r := ⟨y, wr, c, h, ho, hc⟩

theorem hp_some {o : Nat} {x : TObj} (h : obT fx cur o = some x) : (un2 fx cur).hp o = some x.un := by rw [un2_hp, h]; rfl
theorem move_ok {x : TSl} (h : tMove x k = some r) : Did (opMove [x.un]) k r := did x [] h rfl trivial
theorem pick_any (c : Bool) (X Y : Slot) : opPick [.c (.v (.p (.bool c))), X, Y] = val (bif c then X else Y) := by
  unfold opPick
  split
  · rename_i c' x y heq
    simp only [List.cons.injEq, Slot.c.injEq, Cmp.v.injEq, Leaf.p.injEq, PV.bool.injEq, and_true] at heq
    obtain ⟨rfl, rfl, rfl⟩ := heq
    cases c <;> rfl
  · rename_i c' x y _ heq
    simp only [List.cons.injEq, Slot.c.injEq, Cmp.v.injEq, Leaf.p.injEq, PV.bool.injEq, and_true] at heq
    obtain ⟨rfl, rfl, rfl⟩ := heq
    rfl
  · rename_i h1 h2; exact absurd rfl (h2 c X Y)
theorem pick_ok {c x y : TSl} (h : tPick c x y k = some r) : Did (opPick [c.un, x.un, y.un]) k r := by
  unfold tPick at h
  split at h
  · rename_i c
    obtain ⟨c, rfl⟩ : ∃ m : Bool, m = c := ⟨c, rfl⟩
    rw [show (TSl.c (.v (.v .bool c))).un = Slot.c (.v (.p (.bool c))) from rfl, pick_any]
    split at h
    · rename_i x y
      exact did _ _ h (by cases c <;> rfl) trivial
    · exact did _ _ h (by cases c <;> rfl) trivial
  · cases h
theorem alloc_ok {t : TypeId} {d : Option Nat} (h : tAlloc P fx cur t d k = some r) : Did (opAlloc P t d (isFree (un2 fx cur).hp d) []) k r := by
  unfold tAlloc at h
  split at h
  · rename_i d cs hz
    obtain ⟨h1, h2⟩ := cond_some h
    refine did (c := True) _ _ h2 ?_ trivial
    unfold opAlloc
    simp only [tzero_un hz, freeT_un h1, if_true]
    rfl
  · cases h
theorem cutL_p {ps : List PV} {off n : Nat} {agg : Bool} {c : Cmp} (h : cutL (ps.map Leaf.p) off n agg = some c) : (agg = true → off + n ≤ ps.length ∧ c = .g (((ps.drop off).take n).map .p)) ∧ (agg = false → off < ps.length ∧ c = .v (.p (ps.getD off (.bool false)))) := by
  unfold cutL at h
  cases agg with
  | true =>
    refine ⟨fun _ => ?_, (fun h => nomatch h)⟩
    simp only [if_true, List.length_map] at h
    split at h
    · rename_i hl
      injection h with h
      exact ⟨hl, by rw [← h, List.map_take, List.map_drop]⟩
    · cases h
  | false =>
    refine ⟨(fun h => nomatch h), fun _ => ?_⟩
    simp only [Bool.false_eq_true, if_false, List.getElem?_map] at h
    cases hp : ps[off]? with
    | none => rw [hp] at h; cases h
    | some p =>
      rw [hp] at h
      injection h with h
      exact ⟨(List.getElem?_eq_some_iff.1 hp).1, by rw [← h, List.getD_eq_getElem?_getD, hp]; rfl⟩
theorem load_ok {t : TypeId} {x : TSl} (h : tLoad P fx cur t x k = some r) : Did (opLoad P t [argU fx cur x]) k r := by
  unfold tLoad at h
  split at h
  · cases h
  · rename_i n hn
    split at h
    · rename_i o off
      split at h
      · rename_i bt cs ho
        split at h
        · rename_i c hc
          refine did (c := True) _ _ h ?_ trivial
          show opLoad P t [(.c (.v (.loc o off)), [(un2 fx cur).hp o])] = _
          rw [hp_some ho]
          simp only [opLoad, TObj.un, hn, cutT_un hc]
          rfl
        · cases h
      · cases h
    · rename_i t' x off
      split at h
      · rename_i c hc
        have h1 := cutT_un hc
        rw [leaves_un] at h1
        obtain ⟨h2, h3⟩ := cutL_p h1
        show Did (opLoad P t [(.c (.v (.ip (enc t' x) off)), _)]) k r
        simp only [opLoad, hn]
        cases hg : tyAgg P t with
        | true =>
          obtain ⟨h4, h5⟩ := h2 hg
          exact did (c := off + n ≤ (enc t' x).length) _ _ h (by rw [if_pos rfl, show (TSl.c c).un = .c c.un from rfl, h5]; rfl) h4
        | false =>
          obtain ⟨h4, h5⟩ := h3 hg
          exact did (c := off < (enc t' x).length) _ _ h (by rw [if_neg (by simp), show (TSl.c c).un = .c c.un from rfl, h5]; rfl) h4
      · cases h
    · rename_i o i off z
      split at h
      · rename_i e t' l ho
        obtain ⟨hz, h⟩ := cond_some h
        rw [beqN, decide_eq_true_eq] at hz
        obtain ⟨x, hx, h⟩ := bind_some h
        split at h
        · rename_i c hc
          have h1 := cutT_un hc
          rw [leaves_un] at h1
          obtain ⟨h2, h3⟩ := cutL_p h1
          obtain ⟨i1, i2, i3⟩ := idx_some hx
          have hg := idx_map (enc t') hx
          show Did (opLoad P t [(.c (.v (.el o i.toNat off z)), [(un2 fx cur).hp o])]) k r
          rw [hp_some ho]
          simp only [opLoad, TObj.un, hn, hz, if_true]
          rw [hg]
          rw [enc_len] at h2 h3
          cases ha : tyAgg P t with
          | true =>
            obtain ⟨h4, h5⟩ := h2 ha
            exact did (c := i.toNat < (l.map (enc t')).length ∧ off + n ≤ t'.cells) _ _ h (by rw [if_pos rfl, show (TSl.c c).un = .c c.un from rfl, h5]; rfl) ⟨by simpa using i2, h4⟩
          | false =>
            obtain ⟨h4, h5⟩ := h3 ha
            exact did (c := i.toNat < (l.map (enc t')).length ∧ off < t'.cells) _ _ h (by rw [if_neg (by simp), show (TSl.c c).un = .c c.un from rfl, h5]; rfl) ⟨by simpa using i2, h4⟩
        · cases h
      · cases h
    · cases h
def unP : Leaf → PV
  | .p p => p
  | _ => .bool false
theorem mid_p {A B C : List Leaf} {qs : List PV} (h : A ++ B ++ C = qs.map Leaf.p) : B = (B.map unP).map Leaf.p := by
  rw [List.map_map]
  have : ∀ x ∈ B, (Leaf.p ∘ unP) x = x := fun x hx => by
    have : x ∈ qs.map Leaf.p := by rw [← h]; simp [hx]
    obtain ⟨p, _, rfl⟩ := List.mem_map.1 this
    rfl
  conv => lhs; rw [← List.map_id B]
  exact List.map_congr_left fun x hx => (this x hx).symm
theorem p_inj {a b : List PV} (h : a.map Leaf.p = b.map Leaf.p) : a = b := by
  have := congrArg (List.map unP) h
  simpa [List.map_map, Function.comp_def, unP] using this
theorem store_ok {t : TypeId} {x v : TSl} (h : tStore P fx cur t x v k = some r) : Did (opStore P t [argU fx cur x, argU fx cur v]) k r := by
  unfold tStore at h
  split at h
  · rename_i n c hn
    split at h
    · rename_i o off
      split at h
      · rename_i bt cs ho
        obtain ⟨hc, h⟩ := cond_some h
        rw [Bool.and_eq_true, beqN, bleN, decide_eq_true_eq, decide_eq_true_eq] at hc
        refine did (c := True) _ _ h ?_ trivial
        show opStore P t [(.c (.v (.loc o off)), [(un2 fx cur).hp o]), (.c c.un, _)] = _
        rw [hp_some ho]
        simp only [opStore, TObj.un, hn, leavesC_un, List.length_map]
        rw [if_pos hc]
        simp only [unHp, List.map_cons, List.map_nil, TObj.un, List.map_append, List.map_take, List.map_drop, TSl.un]
      · cases h
    · rename_i o i off z
      split at h
      · rename_i e t' l ho
        obtain ⟨hc, h⟩ := cond_some h
        simp only [Bool.and_eq_true, beqN, bleN, decide_eq_true_eq] at hc
        obtain ⟨⟨hz, hl⟩, hoz⟩ := hc
        obtain ⟨x, hx, h⟩ := bind_some h
        obtain ⟨y, h, hp⟩ := packAll_some h
        obtain ⟨i1, i2, i3⟩ := idx_some hx
        have hg := idx_map (enc t') hx
        rw [List.map_append, List.map_append, List.map_take, List.map_drop, leaves_un] at hp
        have hm := mid_p hp
        have hps : allPV c.un.leaves = some ((c.leaves.map TL.un).map unP) := by
          rw [leavesC_un]
          conv => lhs; rw [hm]
          exact allPV_p _
        have hy : (enc t' x).take off ++ (c.leaves.map TL.un).map unP ++ (enc t' x).drop (off + n) = enc t' y := by
          apply p_inj
          rw [List.map_append, List.map_append, ← hm, List.map_take, List.map_drop]
          exact hp
        refine did (c := i.toNat < (l.map (enc t')).length ∧ off + n ≤ z) _ _ h ?_ ⟨by simpa using i2, hoz⟩
        show opStore P t [(.c (.v (.el o i.toNat off z)), [(un2 fx cur).hp o]), (.c c.un, _)] = _
        rw [hp_some ho]
        simp only [opStore, TObj.un, hn, hps]
        rw [if_pos ⟨hz, by simpa using hl⟩, hg, hy]
        simp only [unHp, List.map_cons, List.map_nil, TObj.un, List.map_set, TSl.un, hz]
      · cases h
    · cases h
  · cases h
theorem nil_ok {x : TSl} (h : tNil x k = some r) : Did (opNil [x.un]) k r := by
  unfold tNil at h
  split at h
  · exact did _ _ h rfl trivial
  · exact did _ _ h rfl trivial
  · exact did _ _ h rfl trivial
  · cases h
theorem fieldAddr_ok {t : TypeId} {f : Nat} {x : TSl} (h : tFieldAddr P t f x k = some r) : Did (opFieldAddr P t f [x.un]) k r := by
  unfold tFieldAddr at h
  split at h
  · rename_i j a b hf
    split at h
    · exact did (c := True) _ _ h (by simp only [TSl.un, TC.un, TL.un, opFieldAddr, hf]; rfl) trivial
    · exact did (c := True) _ _ h (by simp only [TSl.un, TC.un, TL.un, opFieldAddr, hf]; rfl) trivial
    · exact did (c := True) _ _ h (by simp only [TSl.un, TC.un, TL.un, opFieldAddr, hf]; rfl) trivial
    · cases h
  · cases h
theorem field_ok {t : TypeId} {f : Nat} {x : TSl} (h : tField P t f x k = some r) : Did (opField P t f [x.un]) k r := by
  unfold tField at h
  split at h
  · rename_i j n agg xs hf
    split at h
    · rename_i c hc
      exact did (c := True) _ _ h (by simp only [TSl.un, TC.un, opField, hf, cutT_un hc]; rfl) trivial
    · cases h
  · cases h
theorem svNeed_some {a b n : Int} {m : Nat} {u : Unit} (h : svNeed a b n m = some u) : 0 ≤ a ∧ 0 ≤ n ∧ n < b - a ∧ b ≤ m := need_some h
theorem indexAddr_ok {t : TypeId} {x i : TSl} (h : tIndexAddr P fx cur t x i k = some r) : Did (opIndexAddr P t [argU fx cur x, argU fx cur i]) k r := by
  unfold tIndexAddr at h
  split at h
  · rename_i e z kd n he
    obtain ⟨n, rfl⟩ : ∃ m : Int, m = n := ⟨n, rfl⟩
    split at h
    · rename_i t' l
      obtain ⟨l, rfl⟩ : ∃ m : List t'.den, m = l := ⟨l, rfl⟩
      obtain ⟨hz, h⟩ := cond_some h
      rw [beqN, decide_eq_true_eq] at hz
      obtain ⟨x, hx, h⟩ := bind_some h
      obtain ⟨i1, i2, i3⟩ := idx_some hx
      have hg := idx_map (enc t') hx
      refine did (c := 0 ≤ n ∧ n.toNat < (List.map (enc t') l).length ∧ ((List.map (enc t') l).getD n.toNat []).length = z) _ _ h ?_ ⟨i1, by simpa using i2, by rw [hg, enc_len, hz]⟩
      show opIndexAddr P t [(.c (.v (.p (.sl (List.map (enc t') l)))), _), (.c (.v (.p (.int kd n))), _)] = _
      simp only [opIndexAddr, he, valIf]
      rw [hg]; rfl
    · rename_i o
      split at h
      · rename_i e' t' l ho
        obtain ⟨hz, h⟩ := cond_some h
        rw [beqN, decide_eq_true_eq] at hz
        obtain ⟨x, hx, h⟩ := bind_some h
        obtain ⟨i1, i2, i3⟩ := idx_some hx
        refine did (c := 0 ≤ n ∧ n.toNat < (l.map (enc t')).length) _ _ h ?_ ⟨i1, by simpa using i2⟩
        show opIndexAddr P t [(.c (.v (.own o)), [(un2 fx cur).hp o]), (.c (.v (.p (.int kd n))), _)] = _
        rw [hp_some ho]
        simp only [opIndexAddr, TObj.un, he, hz, if_true, valIf]
        rfl
      · cases h
    · rename_i o a b z2
      split at h
      · rename_i e' t' l ho
        obtain ⟨hz, h⟩ := cond_some h
        rw [Bool.and_eq_true, beqN, beqN, decide_eq_true_eq, decide_eq_true_eq] at hz
        obtain ⟨u, hu, h⟩ := bind_some h
        obtain ⟨u1, u2, u3, u4⟩ := svNeed_some hu
        refine did (c := 0 ≤ n ∧ n.toNat < b.toNat - a.toNat ∧ b.toNat ≤ (l.map (enc t')).length) _ _ h ?_ ⟨u2, by omega, by simp; omega⟩
        show opIndexAddr P t [(.c (.v (.sv o a.toNat b.toNat z2)), [(un2 fx cur).hp o]), (.c (.v (.p (.int kd n))), _)] = _
        rw [hp_some ho]
        simp only [opIndexAddr, TObj.un, he]
        rw [if_pos ⟨hz.1, by rw [hz.2, hz.1]⟩]
        simp only [valIf, TSl.un, TC.un, TL.un, unHp, List.map_nil]
        have : (addZ a n).toNat = a.toNat + n.toNat := by unfold addZ; omega
        rw [this]
      · cases h
    · cases h
  · cases h
theorem index_ok {t : TypeId} {x i : TSl} (h : tIndex P t x i k = some r) : Did (opIndex P t [x.un, i.un]) k r := by
  unfold tIndex at h
  split at h
  · rename_i s kd n hu
    obtain ⟨n, rfl⟩ : ∃ m : Int, m = n := ⟨n, rfl⟩
    obtain ⟨s, rfl⟩ : ∃ m : Bs, m = s := ⟨s, rfl⟩
    obtain ⟨c, hc, h⟩ := bind_some h
    obtain ⟨b1, b2, b3⟩ := bAt_some hc
    refine did (c := 0 ≤ n ∧ n.toNat < (mkS s).size) _ _ h ?_ ⟨b1, by rw [mkS_size]; exact b2⟩
    show opIndex P t [.c (.v (.p (.str (mkS s)))), .c (.v (.p (.int kd n)))] = _
    simp only [opIndex, hu, mkS_data]
    rw [b3]; rfl
  · cases h
theorem z64_some {n m : Int} (h : z64 n = some m) : n = m ∧ inK .i64 n := by
  rw [z64_eq] at h
  obtain ⟨h1, h2⟩ := i64_some h
  exact ⟨h1, h2⟩
theorem inZ_iff {k : IntKind} {n : Int} (h : inZ k n = true) : inK k n := by
  unfold inZ at h
  rw [Bool.and_eq_true, leZ_eq, leZ_eq, decide_eq_true_eq, decide_eq_true_eq] at h
  exact h
theorem quoZ_some {k : IntKind} {a b m : Int} (h : quoZ k a b = some m) : a.tdiv b = m ∧ b ≠ 0 ∧ inK k (a.tdiv b) := by
  unfold quoZ at h
  obtain ⟨h1, h2⟩ := cond_some h
  rw [Bool.and_eq_true, eqZ_eq] at h1
  injection h2 with h2
  exact ⟨h2, by simpa using h1.1, inZ_iff h1.2⟩
theorem remZ_some {k : IntKind} {a b m : Int} (h : remZ k a b = some m) : a.tmod b = m ∧ b ≠ 0 ∧ inK k (a.tmod b) := by
  unfold remZ at h
  obtain ⟨h1, h2⟩ := cond_some h
  rw [Bool.and_eq_true, eqZ_eq] at h1
  injection h2 with h2
  exact ⟨h2, by simpa using h1.1, inZ_iff h1.2⟩
theorem int_ok {op : BinOp} {kd : IntKind} {a b : Int} (h : tInt op kd a b k = some r) : Did (intBin op kd a b) k r := by
  unfold tInt at h
  split at h
  · split at h
    · rename_i hk _
      obtain ⟨c, hc, h⟩ := bind_some h
      obtain ⟨rfl, hi⟩ := z64_some hc
      refine did (c := inK .i64 (a + b)) _ _ h ?_ hi
      simp only [intBin, hk.down, if_true]; rfl
    · rename_i hk
      refine did (c := True) _ _ h ?_ trivial
      have : kd ≠ .i64 := fun e => by unfold IntKind.same at hk; rw [dif_pos e] at hk; cases hk
      simp only [intBin, this, if_false]; rfl
  · split at h
    · rename_i hk _
      obtain ⟨c, hc, h⟩ := bind_some h
      obtain ⟨rfl, hi⟩ := z64_some hc
      refine did (c := inK .i64 (a - b)) _ _ h ?_ hi
      simp only [intBin, hk.down, if_true]; rfl
    · rename_i hk
      refine did (c := True) _ _ h ?_ trivial
      have : kd ≠ .i64 := fun e => by unfold IntKind.same at hk; rw [dif_pos e] at hk; cases hk
      simp only [intBin, this, if_false]; rfl
  · split at h
    · rename_i hk _
      obtain ⟨c, hc, h⟩ := bind_some h
      obtain ⟨rfl, hi⟩ := z64_some hc
      refine did (c := inK .i64 (a * b)) _ _ h ?_ hi
      simp only [intBin, hk.down, if_true]; rfl
    · rename_i hk
      refine did (c := True) _ _ h ?_ trivial
      have : kd ≠ .i64 := fun e => by unfold IntKind.same at hk; rw [dif_pos e] at hk; cases hk
      simp only [intBin, this, if_false]; rfl
  · obtain ⟨c, hc, h⟩ := bind_some h
    obtain ⟨rfl, h1⟩ := quoZ_some hc
    exact did (c := b ≠ 0 ∧ inK kd (a.tdiv b)) _ _ h rfl h1
  · obtain ⟨c, hc, h⟩ := bind_some h
    obtain ⟨rfl, h1⟩ := remZ_some hc
    exact did (c := b ≠ 0 ∧ inK kd (a.tmod b)) _ _ h rfl h1
  · exact did (c := True) _ _ h (by rw [eqZ_eq]; rfl) trivial
  · exact did (c := True) _ _ h (by rw [eqZ_eq]; rfl) trivial
  · exact did (c := True) _ _ h (by rw [ltZ_eq]; rfl) trivial
  · exact did (c := True) _ _ h (by rw [leZ_eq]; rfl) trivial
  · exact did (c := True) _ _ h (by rw [ltZ_eq]; rfl) trivial
  · exact did (c := True) _ _ h (by rw [leZ_eq]; rfl) trivial
  · cases h
theorem str_ok {op : BinOp} {a b : Bs} (h : tStr op a b k = some r) : Did (strBin op (mkS a) (mkS b)) k r := by
  have hd : decide (mkS a = mkS b) = decide (a = b) := by rw [Bool.eq_iff_iff]; simp [mkS_inj]
  unfold tStr at h
  split at h
  · obtain ⟨c, hc, h⟩ := bind_some h
    obtain ⟨rfl, h1⟩ := cat_some hc
    exact did (c := (mkS a).size + (mkS b).size ≤ 9223372036854775807) _ _ h (by simp only [strBin, mkS_app]; rfl) (by rw [mkS_size, mkS_size]; exact h1)
  · exact did (c := True) _ _ h (by simp only [strBin]; rw [hd]; rfl) trivial
  · exact did (c := True) _ _ h (by simp only [strBin]; rw [hd]; rfl) trivial
  · exact did (c := True) _ _ h (by simp only [strBin, mkS_toList]; rfl) trivial
  · exact did (c := True) _ _ h (by simp only [strBin, mkS_toList]; rw [hd]; rfl) trivial
  · exact did (c := True) _ _ h (by simp only [strBin, mkS_toList]; rw [hd]; rfl) trivial
  · exact did (c := True) _ _ h (by simp only [strBin, mkS_toList]; rfl) trivial
  · cases h
theorem bin_ok {op : BinOp} {t : TypeId} {x y : TSl} (h : tBin P op t x y k = some r) : Did (opBin P op t [x.un, y.un]) k r := by
  unfold tBin at h
  split at h
  · rename_i kd a kd' b
    split at h
    · rename_i hk _
      have := int_ok h
      show Did (if kd = kd' then intBin op kd a b else none) k r
      rw [if_pos hk.down]; exact this
    · cases h
  · exact str_ok h
  · rename_i a b
    split at h
    · rename_i hu; exact did (c := True) _ _ h (by simp only [TSl.un, TC.un, TL.un, enc, opBin, hu]; rfl) trivial
    · rename_i hu; exact did (c := True) _ _ h (by simp only [TSl.un, TC.un, TL.un, enc, opBin, hu]; rfl) trivial
    · cases h
  · rename_i t' l
    split at h
    · rename_i hu; exact did (c := True) _ _ h (by simp only [TSl.un, TC.un, TL.un, enc, opBin, hu]; rfl) trivial
    · rename_i hu; exact did (c := True) _ _ h (by simp only [TSl.un, TC.un, TL.un, enc, opBin, hu]; rfl) trivial
    · cases h
  · split at h
    · rename_i hu; exact did (c := True) _ _ h (by simp only [TSl.un, TC.un, TL.un, enc, opBin, hu]; rfl) trivial
    · rename_i hu; exact did (c := True) _ _ h (by simp only [TSl.un, TC.un, TL.un, enc, opBin, hu]; rfl) trivial
    · cases h
  · split at h
    · rename_i hu; exact did (c := True) _ _ h (by simp only [TSl.un, TC.un, TL.un, enc, opBin, hu]; rfl) trivial
    · rename_i hu; exact did (c := True) _ _ h (by simp only [TSl.un, TC.un, TL.un, enc, opBin, hu]; rfl) trivial
    · cases h
  · split at h
    · rename_i hu; exact did (c := True) _ _ h (by simp only [TSl.un, TC.un, TL.un, enc, opBin, hu]; rfl) trivial
    · rename_i hu; exact did (c := True) _ _ h (by simp only [TSl.un, TC.un, TL.un, enc, opBin, hu]; rfl) trivial
    · cases h
  · cases h
theorem un_ok {op : UnOp} {x : TSl} (h : tUn op x k = some r) : Did (opUn op [x.un]) k r := by
  unfold tUn at h
  split at h
  · exact did (c := True) _ _ h rfl trivial
  · rename_i a
    obtain ⟨a, rfl⟩ : ∃ m : Int, m = a := ⟨a, rfl⟩
    obtain ⟨c, hc, h⟩ := bind_some h
    obtain ⟨rfl, hi⟩ := z64_some hc
    exact did (c := inK .i64 (-a)) _ _ h rfl hi
  · cases h
theorem extract_ok {i : Nat} {x : TSl} (h : tExtract i x k = some r) : Did (opExtract i [x.un]) k r := by
  unfold tExtract at h
  split at h
  · rename_i l
    split at h
    · rename_i c hc
      refine did (c := True) _ _ h ?_ trivial
      simp only [TSl.un, opExtract, List.getElem?_map, hc]; rfl
    · cases h
  · cases h
end
end Go.Lad
