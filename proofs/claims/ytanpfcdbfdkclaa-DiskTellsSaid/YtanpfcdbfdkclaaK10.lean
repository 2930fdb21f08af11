/-
  Layer 02 (disk): DiskReads .. DiskArms; the reference; DiskTells.
-/
import Derived.Test.YtanpfcdbfdkclaaK3
namespace Go.Proofs.Ytanpfcdbfdkclaa
open Go.Lad
set_option linter.unusedVariables false
set_option linter.unusedSimpArgs false
theorem may_ok {A : DA} {f : Int} (h : A.down = false) (h1 : 0 ≤ f) (h2 : f < 16) : mayA A f = 0 := by unfold mayA; rw [if_neg (by simp [h]), if_neg (by omega)]
theorem write_ok {A : DA} {f : Int} {a : Nat} {s : Bs} (h : mayA A f = 0) (h1 : a + s.length ≤ 16777216) : writeA f (a : Int) s A = (0, addA f a s A) := by
  unfold writeA
  have : fitsA (a : Int) s = 0 := by unfold fitsA; rw [if_neg (by omega), if_neg (by omega)]
  rw [if_neg (fun h2 => h2 h), if_neg (fun h2 => h2 this)]; rfl
theorem add_scal (f : Int) (a : Nat) (s : Bs) (A : DA) : (addA f a s A).down = A.down ∧ (addA f a s A).armed = A.armed ∧ (addA f a s A).lost = A.lost ∧ (addA f a s A).keep = A.keep := by unfold addA; split <;> exact ⟨rfl, rfl, rfl, rfl⟩
theorem crashFs_nil : ∀ (l : List (Int × Int)) (i : Nat) (fs : Int → Bs × Bs), crashFs [] i fs l = fs
  | [], _, _ => rfl
  | x :: l, i, fs => by
    have : keptB [] i = false := rfl
    show crashFs [] (i + 1) (if keptB [] i = true then survA fs x else fs) l = fs
    rw [this, if_neg (by simp)]
    exact crashFs_nil l (i + 1) fs
theorem crash_up {keep : List Int} {A : DA} (h : A.down = false) : (crashA keep A).down = true ∧ (crashA keep A).lost = A.lost ∧ (crashA keep A).armed = 0 ∧ (crashA keep A).q = [] := by unfold crashA; rw [if_neg (by simp [h])]; exact ⟨rfl, rfl, rfl, rfl⟩
theorem few_in {l : List GAct} (h : decide ((∀ a ∈ l, OkA a) ∧ l.length ≤ 40) = true) (hi : ∀ a ∈ l, InA a) : (∀ a ∈ l, OkA a ∧ InA a) ∧ l.length ≤ 40 := by
  rw [decide_eq_true_eq] at h
  exact ⟨fun a ha => ⟨h.1 a ha, hi a ha⟩, h.2⟩
/-! ### what differs from the durable part is pending -/
structure JA (A : DA) : Prop where
  diff : ∀ (f : Int) (i : Nat), (f, ((i / 64 : Nat) : Int)) ∉ A.q → (A.fs f).1.getD i 0 = (A.fs f).2.getD i 0
  len : ∀ f, (A.fs f).2.length ≤ (A.fs f).1.length
  ext : ∀ f, (A.fs f).2.length < (A.fs f).1.length → (f, ((((A.fs f).1.length - 1) / 64 : Nat) : Int)) ∈ A.q
section
variable {A B : DA}
theorem JA.of (h : JA A) (h1 : B.fs = A.fs) (h2 : B.q = A.q) : JA B := by
  obtain ⟨a, b, c⟩ := h
  exact ⟨by rw [h1, h2]; exact a, by rw [h1]; exact b, by rw [h1, h2]; exact c⟩
end
/-! ### sectors that survive -/
theorem chunk_get (x : Bs) (n i : Nat) (h : n * 64 ≤ i ∧ i < min (n * 64 + 64) x.length) : (chunkF x n).getD (i - n * 64) 0 = x.getD i 0 := by
  unfold chunkF
  rw [List.getD_eq_getElem?_getD, List.getD_eq_getElem?_getD, List.getElem?_drop, List.getElem?_take, if_pos (by omega), show n * 64 + (i - n * 64) = i by omega]
section
variable {p : List (Int × (Bs × Bs))} {q : List (Int × Int)} {st : List ((Int × Int) × Bool)} {A : DA}
end
section
variable {now last some_ : Bs} {n : Nat}
end
/-- a file that is durable -/
def KF (f : Int) (x : Bs) (B : DA) : Prop := B.fs f = (x, x) ∧ ∀ y ∈ B.q, y.1 ≠ f
section
variable {f : Int} {x : Bs} {B : DA}
end
section
variable {C : DA} {n : Int} {keep : List Int}
theorem write_scal (f at_ : Int) (s : Bs) : (writeA f at_ s C).2.down = C.down ∧ (writeA f at_ s C).2.armed = C.armed := by
  unfold writeA
  split
  · exact ⟨rfl, rfl⟩
  · split
    · exact ⟨rfl, rfl⟩
    · exact ⟨(add_scal f at_.toNat s C).1, (add_scal f at_.toNat s C).2.1⟩
end
section
variable {n cnt : Nat} {keep : List Int} {D C : DA} {a : GAct}
theorem may_dn {A : DA} (h : A.down = true) (f : Int) : mayA A f = 8 := by unfold mayA; rw [if_pos h]
end
abbrev LP := List (Int × (Bs × Bs))
abbrev LQ := List (Int × Int)
abbrev LS := List ((Int × Int) × Bool)
section
variable {l : List GAct} {n k cnt : Nat} {keep : List Int} {D C : DA} {p p' : LP} {q q' : LQ} {st st' : LS}
end
def getR (F : List (Int × (Bs × Bs))) (f : Int) : Int × (Bs × Bs) := (F.find? fun x => decide (x.1 = f)).getD (f, [], [])
def setR (F : List (Int × (Bs × Bs))) (x : Int × (Bs × Bs)) : List (Int × (Bs × Bs)) := F.filter (fun y => !decide (y.1 = x.1)) ++ [x]
/-- what the reference's parts hold -/
structure RF (F : List (Int × (Bs × Bs))) (fs : Int → Bs × Bs) : Prop where
  get : ∀ f, getR F f = (f, fs f)
  nd : (F.map (·.1)).Nodup
  rng : ∀ x ∈ F, 0 ≤ x.1 ∧ x.1 < 16
theorem RF.len {F : List (Int × (Bs × Bs))} {fs : Int → Bs × Bs} (h : RF F fs) : F.length ≤ 16 := by
  have h1 := nodup_le (m := (List.range 16).map fun (i : Nat) => (i : Int)) h.nd (fun x hx => by
    obtain ⟨y, hy, rfl⟩ := List.mem_map.1 hx
    have := h.rng y hy
    exact List.mem_map.2 ⟨y.1.toNat, List.mem_range.2 (by omega), by omega⟩)
  simpa using h1
theorem getR_set (F : List (Int × (Bs × Bs))) (x : Int × (Bs × Bs)) (g : Int) : getR (setR F x) g = if g = x.1 then x else getR F g := by
  unfold getR setR
  rw [List.find?_append, List.find?_filter]
  by_cases hg : g = x.1
  · subst hg
    have e : F.find? (fun a => decide ((!decide (a.1 = x.1)) = true ∧ decide (a.1 = x.1) = true)) = none := by
      rw [List.find?_eq_none]
      intro y _
      by_cases h : y.1 = x.1 <;> simp [h]
    rw [e]
    simp
  · rw [if_neg hg]
    have e : (fun a : Int × (Bs × Bs) => decide ((!decide (a.1 = x.1)) = true ∧ decide (a.1 = g) = true)) = fun a => decide (a.1 = g) := by
      funext a
      by_cases h : a.1 = g
      · have : a.1 ≠ x.1 := fun h2 => hg (h.symm.trans h2)
        simp [h, hg]
      · simp [h]
    rw [e]
    cases F.find? (fun a => decide (a.1 = g)) with
    | some y => rfl
    | none =>
      have : ¬ x.1 = g := fun h => hg h.symm
      simp [this]
theorem rf_set {F : List (Int × (Bs × Bs))} {fs : Int → Bs × Bs} (h : RF F fs) {f : Int} (hf : 0 ≤ f ∧ f < 16) (y : Bs × Bs) : RF (setR F (f, y)) (setFs fs f y) := by
  refine ⟨fun g => ?_, ?_, fun x hx => ?_⟩
  · rw [getR_set]
    unfold setFs
    by_cases hg : g = f
    · rw [if_pos hg, if_pos hg, hg]
    · rw [if_neg hg, if_neg hg]; exact h.get g
  · unfold setR
    rw [List.map_append, List.nodup_append]
    refine ⟨h.nd.sublist (List.filter_sublist.map _), by simp, fun a ha b hb => ?_⟩
    obtain ⟨z, hz, rfl⟩ := List.mem_map.1 ha
    have := (List.mem_filter.1 hz).2
    simp at hb this
    rw [hb]; exact this
  · rcases List.mem_append.1 hx with hx | hx
    · exact h.rng x (List.mem_filter.1 hx).1
    · rw [List.mem_singleton] at hx; subst hx; exact hf
theorem scan_find {α : Type} (p : α → Bool) : ∀ (l : List α) (k : Nat), scan (fun _ x => if p x = true then some x else none) k l = l.find? p
  | [], _ => rfl
  | x :: l, k => by
    unfold scan
    rw [List.find?_cons]
    cases hp : p x with
    | true => rfl
    | false =>
      simp only [Bool.false_eq_true, if_false]
      exact scan_find p l (k + 1)
section
variable {F : List (Int × (Bs × Bs))} {Q : List (Int × Int)} {d2 : Int} {d3 : Bool} {d4 : Int} {d5 : List Int}
theorem rget_eq {f : Int} (hF : F.length ≤ 1000000) : ladingref02_Disk_get f d2 d3 d4 d5 F Q = some (getR F f) := by
  unfold ladingref02_Disk_get
  refine (loop_scan F (fun _ x => if (fun x : Int × (Bs × Bs) => decide (x.1 = f)) x = true then some x else none) (f, [], []) (fun k hk => ?_) ?_ (by omega)).trans ?_
  · simp only [ladingref02_Disk_get.b1, lt_n hk, cond_true, idx_nat hk, bind_in, bif_eqZ, z64_nx hk (by omega), decide_eq_true_eq]
    split <;> rfl
  · simp only [ladingref02_Disk_get.b1, lt_e, cond_false]
  · rw [scan_find (fun x : Int × (Bs × Bs) => decide (x.1 = f))]; rfl
theorem fold_filter {α : Type} (p : α → Bool) : ∀ (l s : List α), l.foldl (fun s y => if p y = true then s ++ [y] else s) s = s ++ l.filter p
  | [], s => by simp
  | x :: l, s => by
    rw [List.foldl_cons, fold_filter p l, List.filter_cons]
    split <;> simp
theorem rset_eq {x : Int × (Bs × Bs)} (hF : F.length ≤ 1000000) : ladingref02_Disk_set x d2 d3 d4 d5 F Q = some (d2, d3, d4, d5, setR F x, F, Q) := by
  unfold ladingref02_Disk_set
  refine (loop_fold (body := fun y => ladingref02_Disk_set.b1 x d2 d3 d4 d5 F Q y.1 y.2) (fun (k : Nat) s => ((k : Int), s)) F (fun _ s y => if (fun y : Int × (Bs × Bs) => !decide (y.1 = x.1)) y = true then s ++ [y] else s) (fun s => (d2, d3, d4, d5, s ++ [x], F, Q)) (fun k s => s.length ≤ k)
    (fun k hk s hs => ?_) (fun k hk s hs => ?_) (fun s hs => ?_) (by omega) (s0 := []) (Nat.le_refl _)).trans ?_
  · split
    · rw [List.length_append]; simp; omega
    · omega
  · simp only [ladingref02_Disk_set.b1, lt_n hk, cond_true, idx_nat hk, bind_in, eqZ_eq, z64_nx hk (by omega)]
    by_cases h : F[k].1 = x.1
    · simp only [h, decide_true, Bool.not_true, cond_false, Bool.false_eq_true, if_false]
    · simp only [h, decide_false, Bool.not_false, cond_true, if_true]
      rw [app_in (by simp; omega), bind_in]
  · simp only [ladingref02_Disk_set.b1, lt_e, cond_false]
    rw [app_in (by simp; omega), bind_in]; rfl
  · rw [foldI_foldl (fun s y => if (fun y : Int × (Bs × Bs) => !decide (y.1 = x.1)) y = true then s ++ [y] else s), fold_filter]; rfl
theorem pending_eq {f n : Int} (hQ : Q.length ≤ 100000000) : ladingref02_Disk_pending f n d2 d3 d4 d5 F Q = some (decide ((f, n) ∈ Q)) := by
  unfold ladingref02_Disk_pending
  refine (loop_scan Q (fun _ y => if (fun y => decide (y = (f, n))) y = true then some true else none) false (fun k hk => ?_) ?_ (by omega)).trans ?_
  · simp only [ladingref02_Disk_pending.b1, lt_n hk, cond_true, idx_nat hk, bind_in, bif_eqZ, ladingref02_Disk_pending.j1]
    have e : (if Q[k].1 = f then some (eqZ Q[k].2 n) else some false) = some (decide (Q[k] = (f, n))) := by
      obtain ⟨u, v⟩ := Q[k]
      by_cases h : u = f
      · rw [if_pos h, eqZ_eq]; simp [h]
      · rw [if_neg h]; simp [h]
    rw [e, bind_in]
    by_cases ho : Q[k] = (f, n)
    · simp only [ho, decide_true, cond_true, if_true]
    · simp only [ho, decide_false, cond_false, Bool.false_eq_true, if_false, z64_nx hk (by omega), bind_in]
  · simp only [ladingref02_Disk_pending.b1, lt_e, cond_false, bind_in]
  · rw [scan_any]
    congr 1
    by_cases h : (f, n) ∈ Q
    · rw [if_pos (by simp [h]), decide_eq_true h]; rfl
    · rw [if_neg (by simp [h]), decide_eq_false h]; rfl
end
section
variable {F : List (Int × (Bs × Bs))} {A : DA}
theorem add_loop {f : Int} {a : Nat} {s : Bs} {Q : List (Int × Int)} (hs : s ≠ []) (h1 : a + s.length ≤ 16777216) (hl : Q.length ≤ 10000000) (d4 : Int) (d5 : Bool) (d6 : Int) (d7 : List Int) (p' : List (Int × (Bs × Bs))) :
    loopF (fun x => ladingref02_Disk_add.b1 f (a : Int) s x.1 x.2.1 x.2.2.1 x.2.2.2.1 x.2.2.2.2.1 x.2.2.2.2.2.1 x.2.2.2.2.2.2) (((a / 64 : Nat) : Int), d4, d5, d6, d7, p', Q) = some (d4, d5, d6, d7, p', addQ Q (secs f a s.length)) := by
  have hn : 0 < s.length := List.length_pos_iff.2 hs
  have hsl := secs_len f a s.length hn
  refine loopF_at (fun k => (((a / 64 + k : Nat) : Int), d4, d5, d6, d7, p', addQ Q ((secs f a s.length).take k))) (secs f a s.length).length rfl (fun k hk => ?_) ?_ (by omega)
  · have hb := addQ_len ((secs f a s.length).take k) Q
    rw [List.length_take] at hb
    have hat := secs_at f a s.length k hk
    have hstep : addQ Q ((secs f a s.length).take (k + 1)) = addQ1 (addQ Q ((secs f a s.length).take k)) (f, ((a / 64 + k : Nat) : Int)) := by
      unfold addQ
      rw [take_snoc _ _ hk, List.foldl_append, hat]; rfl
    rw [hstep]
    generalize addQ Q ((secs f a s.length).take k) = Q2 at hb ⊢
    unfold ladingref02_Disk_add.b1
    dsimp only
    rw [z64_add (by omega), bind_in, show (((a + s.length : Nat) : Int) - 1) = ((a + s.length - 1 : Nat) : Int) by omega, z64_in (by omega) (by omega), bind_in, quo64 (by omega), bind_in, bif_leZ, if_pos (by omega), pending_eq (by omega), bind_in]
    unfold addQ1
    rw [show (((a / 64 + k : Nat) : Int) + 1) = ((a / 64 + (k + 1) : Nat) : Int) by omega]
    by_cases hg : (f, ((a / 64 + k : Nat) : Int)) ∈ Q2
    · rw [decide_eq_true hg, Bool.not_true, cond_false, if_pos hg, z64_in (by omega) (by omega), bind_in]
    · rw [decide_eq_false hg, Bool.not_false, cond_true, if_neg hg, app_in (by simp; omega), bind_in, z64_in (by omega) (by omega), bind_in]
  · unfold ladingref02_Disk_add.b1
    dsimp only
    rw [z64_add (by omega), bind_in, show (((a + s.length : Nat) : Int) - 1) = ((a + s.length - 1 : Nat) : Int) by omega, z64_in (by omega) (by omega), bind_in, quo64 (by omega), bind_in, bif_leZ, if_neg (by omega), List.take_of_length_le (Nat.le_refl _)]
theorem radd_eq {f : Int} {a : Nat} {s : Bs} (hF : RF F A.fs) (hI : IA A) (hf : 0 ≤ f ∧ f < 16) (h : a + s.length ≤ 16777216) : ∃ F', ladingref02_Disk_add f (a : Int) s A.lost A.down A.armed A.keep F A.q = some ((addA f a s A).lost, (addA f a s A).down, (addA f a s A).armed, (addA f a s A).keep, F', (addA f a s A).q) ∧ RF F' (addA f a s A).fs := by
  unfold ladingref02_Disk_add
  rw [bif_dec]
  by_cases hz : s = []
  · rw [if_pos hz]
    have e3 : addA f a s A = A := by unfold addA; rw [if_pos hz]
    rw [e3]
    exact ⟨F, rfl, hF⟩
  · have hsz := hI.size f
    have hl := hF.len
    rw [if_neg hz, rget_eq (by omega), bind_in, hF.get f]
    dsimp only
    rw [rput_eq _ _ _ (by omega) (by omega), bind_in, rset_eq (by omega), bind_in, quo64 (by omega), bind_in]
    dsimp only
    rw [add_loop hz h (by have := hI.len; omega)]
    have e3 : addA f a s A = { A with fs := setFs A.fs f (putF (A.fs f).1 a s, (A.fs f).2), q := addQ A.q (secs f a s.length) } := by unfold addA; rw [if_neg hz]
    rw [e3]
    exact ⟨_, rfl, rf_set hF hf _⟩
/-! ### Crash -/
theorem bit_one (v : Int) : andI .i64 v 1 = 0 ∨ andI .i64 v 1 = 1 := by
  unfold andI
  have h : (BitVec.ofInt IntKind.i64.bits v &&& BitVec.ofInt IntKind.i64.bits 1).toNat = 0 ∨ (BitVec.ofInt IntKind.i64.bits v &&& BitVec.ofInt IntKind.i64.bits 1).toNat = 1 := by
    rw [BitVec.toNat_and]
    have e : (BitVec.ofInt IntKind.i64.bits 1).toNat = 1 := by decide
    rw [e, Nat.and_one_is_mod]
    omega
  rcases h with h | h
  · rw [h]; exact .inl (by decide)
  · rw [h]; exact .inr (by decide)
def survR (s : List (Int × (Bs × Bs))) (x : Int × Int) : List (Int × (Bs × Bs)) :=
  setR s (x.1, if x.2.toNat * 64 < (getR s x.1).2.1.length then ((getR s x.1).2.1, putF (getR s x.1).2.2 (x.2.toNat * 64) (chunkF (getR s x.1).2.1 x.2.toNat)) else (getR s x.1).2)
theorem rf_surv {s : List (Int × (Bs × Bs))} {fs : Int → Bs × Bs} (h : RF s fs) {x : Int × Int} (hx : 0 ≤ x.1 ∧ x.1 < 16) : RF (survR s x) (survA fs x) := by
  unfold survR survA
  rw [h.get x.1]
  dsimp only
  split
  · exact rf_set h hx _
  · have := rf_set h hx (fs x.1)
    have e : setFs fs x.1 (fs x.1) = fs := by
      funext g
      unfold setFs
      split
      · rename_i hg; rw [hg]
      · rfl
    rw [e] at this
    exact this
theorem rf_fold (keep : List Int) : ∀ (l : List (Int × Int)) (i : Nat) (s : List (Int × (Bs × Bs))) (fs : Int → Bs × Bs), (∀ x ∈ l, 0 ≤ x.1 ∧ x.1 < 16) → RF s fs → RF (foldI (fun k s x => if keptB keep k = true then survR s x else s) i s l) (crashFs keep i fs l)
  | [], _, _, _, _, h => h
  | x :: l, i, s, fs, hx, h => rf_fold keep l (i + 1) _ _ (fun y hy => hx y (List.mem_cons_of_mem _ hy)) (by
    show RF (if keptB keep i = true then survR s x else s) (if keptB keep i = true then survA fs x else fs)
    split
    · exact rf_surv h (hx x List.mem_cons_self)
    · exact h)
theorem survive_eq {s : List (Int × (Bs × Bs))} {fs : Int → Bs × Bs} {Q : List (Int × Int)} {x : Int × Int} {d2 : Int} {d3 : Bool} {d4 : Int} {d5 : List Int} (h : RF s fs) (hs : ∀ g, (fs g).1.length ≤ 16777216 ∧ (fs g).2.length ≤ 16777216) (hx : 0 ≤ x.2 ∧ x.2 ≤ 262144) :
    ladingref02_Disk_survive x d2 d3 d4 d5 s Q = some (d2, d3, d4, d5, survR s x, s, Q) := by
  obtain ⟨f, m0⟩ := x
  obtain ⟨m, rfl⟩ := Int.eq_ofNat_of_zero_le hx.1
  have hl := h.len
  have hm : m ≤ 262144 := by have := hx.2; dsimp only at this; omega
  unfold ladingref02_Disk_survive
  rw [rget_eq (by omega), bind_in, h.get f]
  unfold survR
  dsimp only
  rw [h.get f]
  dsimp only
  have hsz := hs f
  rw [show ((64 : Int) * (m : Int)) = ((m * 64 : Nat) : Int) by omega, z64_in (by omega) (by omega), bind_in, bind_in, bind_in, bind_in, bif_ltZ, Int.toNat_natCast]
  by_cases hlt : m * 64 < (fs f).1.length
  · have hcl := chunk_len (fs f).1 m
    rw [if_pos (by omega), if_pos hlt, show (((m * 64 : Nat) : Int) + 64) = ((m * 64 + 64 : Nat) : Int) by omega, z64_in (by omega) (by omega), bind_in, show min ((m * 64 + 64 : Nat) : Int) ((fs f).1.length : Int) = ((min (m * 64 + 64) (fs f).1.length : Nat) : Int) by omega, cut_in (by omega) (by omega) (by omega), bind_in]
    rw [show ((List.take ((min (m * 64 + 64) (fs f).1.length : Nat) : Int).toNat (fs f).1).drop ((m * 64 : Nat) : Int).toNat) = chunkF (fs f).1 m from rfl, rput_eq _ _ _ (by omega) (by omega), bind_in, bind_in]
    unfold ladingref02_Disk_survive.j1
    rw [rset_eq (by omega), bind_in]
  · rw [if_neg (by omega), if_neg hlt, bind_in]
    unfold ladingref02_Disk_survive.j1
    rw [rset_eq (by omega), bind_in]
theorem getR_map (F : List (Int × (Bs × Bs))) (f : Int) : getR (F.map fun y => (y.1, y.2.2, y.2.2)) f = ((getR F f).1, (getR F f).2.2, (getR F f).2.2) := by
  unfold getR
  rw [List.find?_map]
  show (((F.find? fun x => decide (x.1 = f)).map fun y => (y.1, y.2.2, y.2.2)).getD (f, [], [])) = _
  cases F.find? fun x => decide (x.1 = f) <;> rfl
theorem fold_map {α β : Type} (g : α → β) : ∀ (l : List α) (s : List β), l.foldl (fun s y => s ++ [g y]) s = s ++ l.map g
  | [], s => by simp
  | x :: l, s => by rw [List.foldl_cons, fold_map g l, List.map_cons]; simp
theorem rcrash_eq {keep : List Int} (hk : keep.length ≤ 60) (hF : RF F A.fs) (hI : IA A) : ∃ F', ladingref02_Disk_Crash keep A.lost A.down A.armed A.keep F A.q =
    some ((crashA keep A).lost, (crashA keep A).down, (crashA keep A).armed, (crashA keep A).keep, F', (crashA keep A).q) ∧ RF F' (crashA keep A).fs := by
  unfold ladingref02_Disk_Crash
  by_cases hd : A.down = true
  · rw [hd, cond_true]
    have e : crashA keep A = A := by unfold crashA; rw [if_pos hd]
    rw [e]
    exact ⟨F, by rw [hd], hF⟩
  rw [Bool.not_eq_true] at hd
  rw [hd, cond_false]
  have e : crashA keep A = { A with down := true, armed := 0, q := [], fs := fun f => ((crashFs keep 0 A.fs A.q f).2, (crashFs keep 0 A.fs A.q f).2) } := by unfold crashA; rw [if_neg (by rw [hd]; simp)]
  have hql := hI.len
  have hqr : ∀ x ∈ A.q, 0 ≤ x.1 ∧ x.1 < 16 := fun x hx => (hI.q x hx).1
  -- the sectors
  obtain ⟨F1, hF1, hloop⟩ : ∃ F1, RF F1 (crashFs keep 0 A.fs A.q) ∧ loopF (fun x => ladingref02_Disk_Crash.b1 keep x.1 x.2.1 x.2.2.1 x.2.2.2.1 x.2.2.2.2.1 x.2.2.2.2.2.1 x.2.2.2.2.2.2) (0, A.lost, true, 0, A.keep, F, A.q) = some (A.lost, true, 0, A.keep, F1, A.q) := by
    by_cases hk0 : keep = []
    · subst hk0
      refine ⟨F, by rw [crashFs_nil]; exact hF, ?_⟩
      refine loopF_at (fun _ => ((0 : Int), A.lost, true, (0 : Int), A.keep, F, A.q)) 0 rfl (fun k hk => absurd hk (Nat.not_lt_zero _)) ?_
      unfold ladingref02_Disk_Crash.b1
      dsimp only
      have e2 : (bif ltZ 0 (A.q.length : Int) then some (ltZ 0 ((([] : List Int).length : Nat) : Int)) else some false) = some false := by
        rw [bif_ltZ]
        split <;> rfl
      rw [e2, bind_in]
      unfold ladingref02_Disk_Crash.j1
      rw [cond_false]
    · have hkl : 0 < keep.length := List.length_pos_iff.2 hk0
      refine ⟨_, rf_fold keep A.q 0 F A.fs hqr hF, ?_⟩
      have := loop_fold (body := fun x => ladingref02_Disk_Crash.b1 keep x.1 x.2.1 x.2.2.1 x.2.2.2.1 x.2.2.2.2.1 x.2.2.2.2.2.1 x.2.2.2.2.2.2)
        (fun (k : Nat) s => ((k : Int), A.lost, true, (0 : Int), A.keep, s, A.q)) A.q (fun k s x => if keptB keep k = true then survR s x else s) (fun s => (A.lost, true, (0 : Int), A.keep, s, A.q))
        (fun _ s => ∃ fs, RF s fs ∧ ∀ g, (fs g).1.length ≤ 16777216 ∧ (fs g).2.length ≤ 16777216) (fun k hk s hs => by
          obtain ⟨fs, h1, h2⟩ := hs
          split
          · exact ⟨_, rf_surv h1 (hqr _ (List.getElem_mem hk)), surv_size h2⟩
          · exact ⟨fs, h1, h2⟩) (fun k hk s hs => by
          obtain ⟨fs, h1, h2⟩ := hs
          have hm : k % keep.length < keep.length := Nat.mod_lt _ hkl
          have hkb : keptB keep k = !decide (andI .i64 keep[k % keep.length] 1 = 0) := by
            unfold keptB
            rw [List.getElem?_eq_getElem hm]
          unfold ladingref02_Disk_Crash.b1
          dsimp only
          rw [bif_ltZ, if_pos (by omega), ltZ_eq, decide_eq_true (by omega), bind_in]
          unfold ladingref02_Disk_Crash.j1
          rw [cond_true, rem_eq hkl (by omega), bind_in, idx_nat hm, bind_in, bif_eqZ, hkb]
          rcases bit_one keep[k % keep.length] with hb | hb
          · rw [if_neg (by omega), decide_eq_true hb, if_neg (by simp), z64_succ (by omega), bind_in]
          · rw [if_pos hb, decide_eq_false (by omega), if_pos (by rfl), idx_nat hk, bind_in, bind_in, survive_eq h1 h2 (hI.q _ (List.getElem_mem hk)).2, bind_in, z64_succ (by omega), bind_in]) (fun s hs => by
          unfold ladingref02_Disk_Crash.b1
          dsimp only
          rw [bif_ltZ, if_neg (by omega), bind_in]
          unfold ladingref02_Disk_Crash.j1
          rw [cond_false]) (by omega) (s0 := F) ⟨A.fs, hF, hI.size⟩
      exact this
  rw [hloop, bind_in]
  dsimp only
  unfold ladingref02_Disk_Crash.j2
  have hl1 := hF1.len
  have h2 := loop_fold (body := fun x => ladingref02_Disk_Crash.b2 A.lost true 0 A.keep F1 x.1 x.2) (fun (k : Nat) s => ((k : Int), s)) F1 (fun _ s (y : Int × (Bs × Bs)) => s ++ [(fun y : Int × (Bs × Bs) => (y.1, y.2.2, y.2.2)) y]) (fun s => (A.lost, true, (0 : Int), A.keep, s, ([] : List (Int × Int))))
    (fun k s => s.length = k) (fun k hk s hs => by rw [List.length_append]; simp; exact hs) (fun k hk s hs => by
      simp only [ladingref02_Disk_Crash.b2, lt_n hk, cond_true, idx_nat hk, bind_in, z64_nx hk (by omega)]
      rw [app_in (by simp; omega), bind_in]) (fun s hs => by simp only [ladingref02_Disk_Crash.b2, lt_e, cond_false]) (by omega) (s0 := []) rfl
  rw [foldI_foldl (fun s (y : Int × (Bs × Bs)) => s ++ [(fun y : Int × (Bs × Bs) => (y.1, y.2.2, y.2.2)) y]), fold_map] at h2
  refine ⟨_, h2.trans (by rw [e]), ?_⟩
  rw [List.nil_append, e]
  refine ⟨fun f => ?_, ?_, fun x hx => ?_⟩
  · rw [getR_map, hF1.get f]
  · rw [List.map_map]; exact hF1.nd
  · obtain ⟨y, hy, rfl⟩ := List.mem_map.1 hx
    exact hF1.rng y hy
/-! ### what comes ahead of a call -/
def comesW (f at_ : Int) (s : Bs) (A : DA) : DA := if (endsA A).1 = true then crashA (writeA f at_ s (endsA A).2).2.keep (writeA f at_ s (endsA A).2).2 else (endsA A).2
theorem comesW_nil (A : DA) : comesW 0 0 [] A = comesA A := by
  have e : ∀ B : DA, (writeA 0 0 [] B).2 = B := fun B => by
    unfold writeA
    split
    · rfl
    · split
      · rfl
      · rfl
  unfold comesW comesA
  rw [e]
theorem Write_W (f at_ : Int) (s : Bs) (A : DA) : WriteA f at_ s A = if (endsA A).1 = true then (8, comesW f at_ s A) else writeA f at_ s (comesW f at_ s A) := by
  unfold WriteA comesW
  split <;> rename_i h
  · rfl
  · rfl
theorem fits_eq {at_ : Int} {s : Bs} (hs : s.length ≤ 300) : ladingref02_fits at_ s = some (decide (0 ≤ at_ ∧ fitsA at_ s = 0)) := by
  have hf : 0 ≤ at_ → (fitsA at_ s = 0 ↔ at_ ≤ 16777216 ∧ at_ + s.length ≤ 16777216) := fun h1 => by
    unfold fitsA
    rw [if_neg (by omega)]
    split
    · constructor
      · intro h; cases h
      · intro h; omega
    · constructor
      · intro h; omega
      · intro h; rfl
  unfold ladingref02_fits
  rw [bif_leZ]
  by_cases h1 : 0 ≤ at_
  · rw [if_pos h1, bif_leZ]
    have hf := hf h1
    by_cases h2 : at_ ≤ 16777216
    · rw [if_pos h2, z64_in (by omega) (by omega), bind_in, leZ_eq]
      congr 1
      rw [decide_eq_decide, hf]
      exact ⟨fun h => ⟨h1, h2, h⟩, fun h => h.2.2⟩
    · rw [if_neg h2, decide_eq_false (fun h => h2 (hf.1 h.2).1)]
  · rw [if_neg h1, decide_eq_false (fun h => h1 h.1)]
theorem rcomes_eq {f at_ : Int} {s : Bs} (hF : RF F A.fs) (hI : IA A) (hs : s.length ≤ 300) : ∃ F', ladingref02_Disk_comes f at_ s A.lost A.down A.armed A.keep F A.q =
    some ((comesW f at_ s A).lost, (comesW f at_ s A).down, (comesW f at_ s A).armed, (comesW f at_ s A).keep, F', (comesW f at_ s A).q) ∧ RF F' (comesW f at_ s A).fs := by
  obtain ⟨h1, h2⟩ := hI.armed
  unfold ladingref02_Disk_comes
  by_cases hn : A.down = true ∨ A.armed = 0
  · have e : comesW f at_ s A = A := by
      have : endsA A = (false, A) := by unfold endsA; rw [if_pos hn]
      unfold comesW
      rw [this, if_neg (by simp)]
    have e2 : (bif A.down then some true else some (eqZ A.armed 0)) = some true := by
      cases hd : A.down with
      | true => rfl
      | false =>
        rw [cond_false, eqZ_eq, decide_eq_true]
        rcases hn with hn | hn
        · rw [hd] at hn; cases hn
        · exact hn
    rw [e2, bind_in, e]
    unfold ladingref02_Disk_comes.j3
    rw [cond_true]
    exact ⟨F, rfl, hF⟩
  rw [not_or] at hn
  have hd : A.down = false := by simpa using hn.1
  have he : endsA A = (decide (A.armed - 1 = 0), { A with armed := A.armed - 1 }) := by unfold endsA; rw [if_neg (by rw [hd]; simp [hn.2])]
  have e2 : (bif A.down then some true else some (eqZ A.armed 0)) = some false := by rw [hd, cond_false, eqZ_eq, decide_eq_false hn.2]
  rw [e2, bind_in]
  unfold ladingref02_Disk_comes.j3
  rw [cond_false, z64_in (by omega) (by omega), bind_in, bif_ltZ]
  by_cases h3 : 0 < A.armed - 1
  · rw [if_pos h3]
    have e : comesW f at_ s A = { A with armed := A.armed - 1 } := by
      unfold comesW
      rw [he, if_neg (by simp; omega)]
    rw [e]
    exact ⟨F, rfl, hF⟩
  · rw [if_neg h3]
    have e : comesW f at_ s A = crashA (writeA f at_ s { A with armed := A.armed - 1 }).2.keep (writeA f at_ s { A with armed := A.armed - 1 }).2 := by
      unfold comesW
      rw [he, if_pos (by simp; omega)]
    have hI1 : IA { A with armed := A.armed - 1 } := by
      have := ia_ends hI
      rw [he] at this
      exact this
    rw [e]
    generalize hA1 : ({ A with armed := A.armed - 1 } : DA) = A1 at hI1
    have hs1 : A.lost = A1.lost ∧ A.down = A1.down ∧ A.armed - 1 = A1.armed ∧ A.keep = A1.keep ∧ A.fs = A1.fs ∧ A.q = A1.q := by rw [← hA1]; exact ⟨rfl, rfl, rfl, rfl, rfl, rfl⟩
    rw [hs1.1, hs1.2.1, hs1.2.2.1, hs1.2.2.2.1, hs1.2.2.2.2.2]
    rw [hs1.2.2.2.2.1] at hF
    rw [hs1.2.1] at hd
    have ia2 := ia_write (f := f) (at_ := at_) hI1 hs
    obtain ⟨F2, hF2, hr⟩ : ∃ F2, RF F2 (writeA f at_ s A1).2.fs ∧ ((bif (leZ 0 f) then (bif (leZ f 15) then ((ladingref02_fits at_ s).bind fun f12 => some f12) else some false) else some false).bind fun x =>
        ladingref02_Disk_comes.j1 f at_ s A1.lost A1.down A1.keep F A1.q A1.armed x) = some ((writeA f at_ s A1).2.lost, (writeA f at_ s A1).2.down, (writeA f at_ s A1).2.armed, (writeA f at_ s A1).2.keep, F2, (writeA f at_ s A1).2.q) := by
      have e4 : (bif (leZ 0 f) then (bif (leZ f 15) then ((ladingref02_fits at_ s).bind fun f12 => some f12) else some false) else some false) = some (decide ((0 ≤ f ∧ f < 16) ∧ 0 ≤ at_ ∧ fitsA at_ s = 0)) := by
        rw [bif_leZ, bif_leZ, fits_eq hs, bind_in]
        by_cases g1 : 0 ≤ f
        · rw [if_pos g1]
          by_cases g2 : f ≤ 15
          · rw [if_pos g2]
            congr 1
            rw [decide_eq_decide]
            exact ⟨fun h => ⟨⟨g1, by omega⟩, h⟩, fun h => h.2⟩
          · rw [if_neg g2, decide_eq_false (fun h => g2 (by have := h.1.2; omega))]
        · rw [if_neg g1, decide_eq_false (fun h => g1 h.1.1)]
      rw [e4, bind_in]
      unfold ladingref02_Disk_comes.j1
      by_cases hc : (0 ≤ f ∧ f < 16) ∧ 0 ≤ at_ ∧ fitsA at_ s = 0
      · obtain ⟨hf, ha, hfit⟩ := hc
        rw [decide_eq_true ⟨hf, ha, hfit⟩, cond_true]
        obtain ⟨a, rfl⟩ := Int.eq_ofNat_of_zero_le ha
        have hle : a + s.length ≤ 16777216 := by
          unfold fitsA at hfit
          rw [if_neg (by omega)] at hfit
          split at hfit
          · cases hfit
          · omega
        rw [write_ok (may_ok hd hf.1 hf.2) hle]
        obtain ⟨F2, g1, g2⟩ := radd_eq hF hI1 hf hle
        rw [g1, bind_in]
        exact ⟨F2, g2, rfl⟩
      · rw [decide_eq_false hc, cond_false]
        have e5 : (writeA f at_ s A1).2 = A1 := by
          unfold writeA
          split
          · rfl
          · rename_i g1
            split
            · rfl
            · rename_i g2
              exfalso
              refine hc ⟨(may_zero (Classical.byContradiction g1)).2, ?_, Classical.byContradiction g2⟩
              have g2 : fitsA at_ s = 0 := Classical.byContradiction g2
              unfold fitsA at g2
              split at g2
              · cases g2
              · omega
        rw [e5]
        exact ⟨F, hF, rfl⟩
    rw [hr, bind_in]
    dsimp only
    unfold ladingref02_Disk_comes.j2
    obtain ⟨F3, g3, g4⟩ := rcrash_eq (keep := (writeA f at_ s A1).2.keep) ia2.keep hF2 ia2
    rw [g3, bind_in]
    exact ⟨F3, rfl, g4⟩
end
section
variable {F : List (Int × (Bs × Bs))} {A : DA}
theorem rmay_eq (f : Int) : ladingref02_Disk_may f A.lost A.down A.armed A.keep F A.q = some (mayA A f) := by
  unfold ladingref02_Disk_may mayA
  cases A.down with
  | true => rfl
  | false =>
    rw [cond_false, if_neg (by simp), bif_ltZ, ltZ_eq]
    by_cases h1 : f < 0
    · rw [if_pos h1, if_pos (.inl h1), bind_in]; rfl
    · rw [if_neg h1, bind_in]
      unfold ladingref02_Disk_may.j1
      by_cases h2 : 16 ≤ f
      · rw [if_pos (.inr h2), decide_eq_true (by omega)]; rfl
      · rw [if_neg (by omega), decide_eq_false (by omega)]; rfl
theorem rsettle_eq {f : Int} {s : Bs} (hF : RF F A.fs) (hI : IA A) (hf : 0 ≤ f ∧ f < 16) : ∃ F' Q', ladingref02_Disk_settle f s A.lost A.down A.armed A.keep F A.q = some (A.lost, A.down, A.armed, A.keep, F', (settleA f s A).q, Q') ∧ RF F' (settleA f s A).fs := by
  have hl := hF.len
  have hq := hI.len
  unfold ladingref02_Disk_settle
  rw [rset_eq (by omega), bind_in]
  refine ⟨setR F (f, s, s), A.q, (loop_fold (body := fun x => ladingref02_Disk_settle.b1 f (A.lost, A.down, A.armed, A.keep, setR F (f, s, s), F, A.q) x.1 x.2) (fun (k : Nat) s => ((k : Int), s)) A.q (fun _ s y => if (fun y : Int × Int => decide (KeepS f y)) y = true then s ++ [y] else s) (fun t => (A.lost, A.down, A.armed, A.keep, setR F (f, s, s), t, A.q)) (fun k s => s.length ≤ k)
    (fun k hk s hs => ?_) (fun k hk t ht => ?_) (fun t ht => ?_) (by omega) (s0 := []) (Nat.le_refl _)).trans ?_, rf_set hF hf (s, s)⟩
  · split
    · rw [List.length_append]; simp; omega
    · omega
  · simp only [ladingref02_Disk_settle.b1, lt_n hk, cond_true, idx_nat hk, bind_in, eqZ_eq, z64_nx hk (by omega)]
    by_cases h : A.q[k].1 = f
    · have : ¬ KeepS f A.q[k] := fun h2 => h2 h
      simp only [h, this, decide_true, decide_false, Bool.not_true, cond_false, Bool.false_eq_true, if_false]
    · have : KeepS f A.q[k] := h
      simp only [h, this, decide_true, decide_false, Bool.not_false, cond_true, if_true]
      rw [app_in (by simp; omega), bind_in]
  · simp only [ladingref02_Disk_settle.b1, lt_e, cond_false]
  · rw [foldI_foldl (fun s y => if (fun y : Int × Int => decide (KeepS f y)) y = true then s ++ [y] else s), fold_filter]; rfl
theorem rSync_eq {f : Int} (hF : RF F A.fs) (hI : IA A) : ∃ F', ladingref02_Disk_Sync f A.lost A.down A.armed A.keep F A.q =
    some ((syncA f A).1, (syncA f A).2.lost, (syncA f A).2.down, (syncA f A).2.armed, (syncA f A).2.keep, F', (syncA f A).2.q) ∧ RF F' (syncA f A).2.fs := by
  unfold ladingref02_Disk_Sync
  obtain ⟨F1, h1, r1⟩ := rcomes_eq (f := 0) (at_ := 0) (s := []) hF hI (by simp)
  rw [comesW_nil] at h1 r1
  have i1 := ia_comes hI
  rw [h1, bind_in]
  unfold syncA
  dsimp only
  rw [rmay_eq, bind_in, bif_not, bif_eqZ]
  by_cases hm : mayA (comesA A) f = 0
  case neg => rw [if_neg hm, if_pos hm]; exact ⟨F1, rfl, r1⟩
  rw [if_pos hm, if_neg (fun h => h hm), bif_ltZ]
  by_cases hl : 0 < (comesA A).lost
  · have := i1.lost
    rw [if_pos hl, if_pos hl, z64_in (by omega) (by omega), bind_in]
    exact ⟨F1, rfl, r1⟩
  · rw [if_neg hl, if_neg hl, rget_eq (by have := r1.len; omega), bind_in, r1.get f]
    dsimp only
    obtain ⟨F2, Q2, h2, r2⟩ := rsettle_eq (f := f) (s := ((comesA A).fs f).1) r1 i1 (may_zero hm).2
    rw [h2, bind_in]
    exact ⟨F2, rfl, r2⟩
theorem rTrunc_eq {f size : Int} (hF : RF F A.fs) (hI : IA A) : ∃ F', ladingref02_Disk_Truncate f size A.lost A.down A.armed A.keep F A.q =
    some ((truncA f size A).1, (truncA f size A).2.lost, (truncA f size A).2.down, (truncA f size A).2.armed, (truncA f size A).2.keep, F', (truncA f size A).2.q) ∧ RF F' (truncA f size A).2.fs := by
  unfold ladingref02_Disk_Truncate
  obtain ⟨F1, h1, r1⟩ := rcomes_eq (f := 0) (at_ := 0) (s := []) hF hI (by simp)
  rw [comesW_nil] at h1 r1
  have i1 := ia_comes hI
  rw [h1, bind_in]
  unfold truncA
  dsimp only
  rw [rmay_eq, bind_in, bif_not, bif_eqZ]
  by_cases hm : mayA (comesA A) f = 0
  case neg => rw [if_neg hm, if_pos hm]; exact ⟨F1, rfl, r1⟩
  rw [if_pos hm, if_neg (fun h => h hm), rget_eq (by have := r1.len; omega), bind_in, r1.get f, bif_ltZ]
  dsimp only
  have e2 : (if size < 0 then some true else some (ltZ (((comesA A).fs f).1.length : Int) size)) = some (decide (size < 0 ∨ (((comesA A).fs f).1.length : Int) < size)) := by
    by_cases h : size < 0
    · rw [if_pos h, decide_eq_true (.inl h)]
    · rw [if_neg h, ltZ_eq]; simp [h]
  rw [e2, bind_in]
  unfold ladingref02_Disk_Truncate.j1
  by_cases hc : size < 0 ∨ (((comesA A).fs f).1.length : Int) < size
  · rw [decide_eq_true hc, cond_true, if_pos hc]
    exact ⟨F1, rfl, r1⟩
  · rw [decide_eq_false hc, cond_false, if_neg hc]
    dsimp only
    rw [cut_in (by omega) (by omega) (by omega), bind_in]
    obtain ⟨F2, Q2, h2, r2⟩ := rsettle_eq (f := f) (s := (((comesA A).fs f).1.take size.toNat).drop (0 : Int).toNat) r1 i1 (may_zero hm).2
    rw [h2, bind_in]
    exact ⟨F2, rfl, r2⟩
theorem comesW_end {f at_ : Int} {s : Bs} (h : (endsA A).1 = true) : (comesW f at_ s A).down = true := by
  have hd : (endsA A).2.down = false := by
    unfold endsA at h ⊢
    split at h
    · cases h
    · rename_i h2
      rw [if_neg h2]
      rw [not_or] at h2
      simpa using h2.1
  unfold comesW
  rw [if_pos h]
  exact (crash_up ((write_scal f at_ s).1.trans hd)).1
theorem rWrite_eq {f at_ : Int} {s : Bs} (hF : RF F A.fs) (hI : IA A) (hs : s.length ≤ 300) : ∃ F', ladingref02_Disk_Write f at_ s A.lost A.down A.armed A.keep F A.q =
    some ((WriteA f at_ s A).1, (WriteA f at_ s A).2.lost, (WriteA f at_ s A).2.down, (WriteA f at_ s A).2.armed, (WriteA f at_ s A).2.keep, F', (WriteA f at_ s A).2.q) ∧ RF F' (WriteA f at_ s A).2.fs := by
  unfold ladingref02_Disk_Write
  obtain ⟨F1, h1, r1⟩ := rcomes_eq (f := f) (at_ := at_) (s := s) hF hI hs
  rw [h1, bind_in, Write_W]
  dsimp only
  rw [rmay_eq, bind_in, bif_not, bif_eqZ]
  by_cases he : (endsA A).1 = true
  · have hd := comesW_end (f := f) (at_ := at_) (s := s) he
    have hm : mayA (comesW f at_ s A) f = 8 := may_dn hd f
    rw [hm, if_neg (by omega), if_pos he]
    exact ⟨F1, rfl, r1⟩
  rw [if_neg he]
  have i1 : IA (comesW f at_ s A) := by
    unfold comesW
    rw [if_neg he]; exact ia_ends hI
  generalize comesW f at_ s A = B at r1 i1
  unfold writeA
  by_cases hm : mayA B f = 0
  case neg => rw [if_neg hm, if_pos hm]; exact ⟨F1, rfl, r1⟩
  rw [if_pos hm, if_neg (fun h => h hm), bif_ltZ]
  by_cases h0 : at_ < 0
  · have e : fitsA at_ s = 1 := by unfold fitsA; rw [if_pos h0]
    rw [if_pos h0, e, if_pos (by omega)]
    exact ⟨F1, rfl, r1⟩
  rw [if_neg h0, fits_eq hs, bind_in, bif_not]
  obtain ⟨a, rfl⟩ := Int.eq_ofNat_of_zero_le (show 0 ≤ at_ by omega)
  by_cases hfit : fitsA (a : Int) s = 0
  · rw [decide_eq_true ⟨by omega, hfit⟩, cond_true, if_neg (fun h => h hfit)]
    have hle : a + s.length ≤ 16777216 := by
      unfold fitsA at hfit
      rw [if_neg (by omega)] at hfit
      split at hfit
      · cases hfit
      · omega
    obtain ⟨F2, g1, g2⟩ := radd_eq r1 i1 (may_zero hm).2 hle
    rw [g1, bind_in]
    exact ⟨F2, rfl, g2⟩
  · have e : fitsA (a : Int) s = 6 := by
      unfold fitsA at hfit ⊢
      rw [if_neg (by omega)] at hfit ⊢
      split at hfit
      · rename_i h; rw [if_pos h]
      · exact absurd rfl hfit
    rw [decide_eq_false (fun h => hfit h.2), cond_false, if_pos hfit, e]
    exact ⟨F1, rfl, r1⟩
theorem tell_eq {a : GAct} (ha : OkA a) (hF : RF F A.fs) (hI : IA A) : ∃ F', ladinglaw02_tell a A.lost A.down A.armed A.keep F A.q =
    some ((doA a A).1, (doA a A).2.lost, (doA a A).2.down, (doA a A).2.armed, (doA a A).2.keep, F', (doA a A).2.q) ∧ RF F' (doA a A).2.fs := by
  unfold ladinglaw02_tell doA
  rw [show andI .i64 a.1 7 = kindA a from rfl]
  simp only [bif_eqZ]
  by_cases h2 : kindA a = 2
  · rw [if_pos h2, if_pos h2]
    obtain ⟨F1, h1, r1⟩ := rSync_eq (f := a.2.1) hF hI
    rw [h1, bind_in]
    exact ⟨F1, rfl, r1⟩
  rw [if_neg h2, if_neg h2]
  by_cases h3 : kindA a = 3
  · rw [if_pos h3, if_pos h3]
    obtain ⟨F1, h1, r1⟩ := rTrunc_eq (f := a.2.1) (size := a.2.2.1) hF hI
    rw [h1, bind_in]
    exact ⟨F1, rfl, r1⟩
  rw [if_neg h3, if_neg h3]
  by_cases h4 : kindA a = 4
  · rw [if_pos h4, if_pos h4]
    exact ⟨F, rfl, hF⟩
  rw [if_neg h4, if_neg h4]
  by_cases h5 : kindA a = 5
  · rw [if_pos h5, if_pos h5]
    unfold ladingref02_Disk_Arm
    rw [app_in (by have := ha.2.1; simp; omega), bind_in, bind_in]
    exact ⟨F, rfl, hF⟩
  rw [if_neg h5, if_neg h5]
  by_cases h6 : kindA a = 6
  · rw [if_pos h6, if_pos h6]
    obtain ⟨F1, h1, r1⟩ := rcrash_eq (keep := a.2.2.2.2) ha.2.1 hF hI
    rw [h1, bind_in]
    exact ⟨F1, rfl, r1⟩
  rw [if_neg h6, if_neg h6]
  by_cases h7 : kindA a = 7
  · rw [if_pos h7, if_pos h7]
    exact ⟨F, rfl, hF⟩
  rw [if_neg h7, if_neg h7]
  obtain ⟨F1, h1, r1⟩ := rWrite_eq (f := a.2.1) (at_ := a.2.2.1) (s := a.2.2.2.1) hF hI ha.1
  rw [h1, bind_in]
  exact ⟨F1, rfl, r1⟩
theorem rSize_eq (f : Int) (hF : RF F A.fs) : ladingref02_Disk_Size f A.lost A.down A.armed A.keep F A.q = some (((A.fs f).1.length : Nat) : Int) := by
  unfold ladingref02_Disk_Size
  rw [rget_eq (by have := hF.len; omega), bind_in, hF.get f]
theorem rRead_eq {f at_ size : Int} (hF : RF F A.fs) (hI : IA A) : ladingref02_Disk_Read f at_ size A.lost A.down A.armed A.keep F A.q = some (readA f at_ size A) := by
  unfold ladingref02_Disk_Read readA
  rw [rmay_eq, bind_in, bif_not, bif_eqZ]
  by_cases hm : mayA A f = 0
  case neg => rw [if_neg hm, if_pos hm]
  rw [if_pos hm, if_neg (fun h => h hm), bif_ltZ]
  have e2 : (if at_ < 0 then some true else some (ltZ size 0)) = some (decide (at_ < 0 ∨ size < 0)) := by
    by_cases h : at_ < 0
    · rw [if_pos h, decide_eq_true (.inl h)]
    · rw [if_neg h, ltZ_eq]; simp [h]
  rw [e2, bind_in]
  unfold ladingref02_Disk_Read.j1
  by_cases hc : at_ < 0 ∨ size < 0
  · rw [decide_eq_true hc, cond_true, if_pos hc]
  · rw [decide_eq_false hc, cond_false, if_neg hc, rget_eq (by have := hF.len; omega), bind_in, hF.get f]
    obtain ⟨a, rfl⟩ := Int.eq_ofNat_of_zero_le (show 0 ≤ at_ by omega)
    obtain ⟨z, rfl⟩ := Int.eq_ofNat_of_zero_le (show 0 ≤ size by omega)
    have hsz := (hI.size f).1
    dsimp only
    generalize (A.fs f).1 = x at hsz
    rw [bif_leZ, Int.toNat_natCast, Int.toNat_natCast]
    by_cases h : x.length ≤ a
    · rw [if_pos (by omega), List.drop_of_length_le h, List.take_nil]
    · rw [if_neg (by omega), show ((x.length : Int) - (a : Int)) = ((x.length - a : Nat) : Int) by omega, z64_in (by omega) (by omega), bind_in, show min (z : Int) ((x.length - a : Nat) : Int) = ((min z (x.length - a) : Nat) : Int) by omega, z64_add (by omega), bind_in, cut_in (by omega) (by omega) (by omega), bind_in]
      congr 2
      rw [Int.toNat_natCast, Int.toNat_natCast, List.drop_take, List.take_eq_take_iff, List.length_drop]
      omega
end
theorem quo2 {k : Nat} (h : k ≤ 1000000) : quoZ .i64 (k : Int) 2 = some ((k / 2 : Nat) : Int) := by
  have e : (k : Int).tdiv 2 = ((k / 2 : Nat) : Int) := rfl
  unfold quoZ
  rw [e, eqZ_eq, decide_eq_false (by omega), Bool.not_false, Bool.true_and]
  generalize hy : k / 2 = y
  have : inZ .i64 (y : Int) = true := by
    unfold inZ
    rw [leZ_eq, leZ_eq, Bool.and_eq_true, decide_eq_true_eq, decide_eq_true_eq]
    exact ⟨by show (-9223372036854775808 : Int) ≤ _; omega, by show _ ≤ (9223372036854775807 : Int); omega⟩
  rw [this]; rfl
theorem tells_true (l : List GAct) (f at_ size : Int) (hl : l.length ≤ 9223372036854775807) (hi : ∀ a ∈ l, InA a) : ladinglaw02_DiskTells l f at_ size = some true := by
  unfold ladinglaw02_DiskTells
  rw [small_true, bind_in, few_eq hl, bind_in, bif_not]
  cases hfew : decide ((∀ a ∈ l, OkA a) ∧ l.length ≤ 40) with
  | false => rfl
  | true =>
    obtain ⟨hok, h40⟩ := few_in hfew hi
    rw [cond_true]
    unfold disk_New ladingref02_New
    rw [bind_in, bind_in]
    dsimp only
    have key := loopF_inv (body := fun x => ladinglaw02_DiskTells.b1 l f x.1 x.2.1 x.2.2.1 x.2.2.2.1 x.2.2.2.2.1 x.2.2.2.2.2.1 x.2.2.2.2.2.2.1 x.2.2.2.2.2.2.2.1 x.2.2.2.2.2.2.2.2.1 x.2.2.2.2.2.2.2.2.2.1 x.2.2.2.2.2.2.2.2.2.2.1 x.2.2.2.2.2.2.2.2.2.2.2.1 x.2.2.2.2.2.2.2.2.2.2.2.2.1 x.2.2.2.2.2.2.2.2.2.2.2.2.2)
      (fun k x => ∃ A p q st F, x = (((k : Nat) : Int), A.lost, A.down, A.armed, A.keep, A.lost, A.down, A.armed, A.keep, p, q, st, F, A.q) ∧ RD p q st A ∧ RF F A.fs ∧ IA A)
      (Q := fun r => ∃ A p q st F, r = .inl (A.lost, A.down, A.armed, A.keep, A.lost, A.down, A.armed, A.keep, p, q, st, F, A.q) ∧ RD p q st A ∧ RF F A.fs ∧ IA A) l.length
      (x := (0, 0, false, 0, [], 0, false, 0, [], ([] : LP), ([] : LQ), ([] : LS), ([] : LP), ([] : LQ)))
      ⟨newA, [], [], [], [], rfl, rd_new, ⟨fun g => rfl, List.nodup_nil, (fun x hx => nomatch hx)⟩, ia_new⟩ (fun k hk x hx => ?_) (fun x hx => ?_) (by omega)
    · obtain ⟨r, hr, A, p, q, st, F, rfl, h1, h2, h3⟩ := key
      refine (congrArg (fun z => Option.bind z _ = some true) hr).mpr ?_
      rw [bind_in]
      dsimp only
      unfold ladinglaw02_DiskTells.j2
      rw [Read_eq h1 h3, bind_in, rRead_eq h2 h3, bind_in, cond_true, decide_eq_true rfl, cond_true, eqZ_eq, decide_eq_true rfl]
    · obtain ⟨A, p, q, st, F, rfl, hR, hF, hI⟩ := hx
      have hka : l[k] ∈ l := List.getElem_mem hk
      obtain ⟨ho, hin⟩ := hok _ hka
      obtain ⟨p3, q3, s3, h3, r3⟩ := do_eq ho hR hI
      have i3 := ia_do ho hin hI
      obtain ⟨F3, h4, r4⟩ := tell_eq ho hF hI
      refine .inl ?_
      unfold ladinglaw02_DiskTells.b1
      dsimp only
      rw [bif_ltZ, if_pos (by omega), idx_nat hk, bind_in, h3, bind_in, bind_in, h4, bind_in]
      dsimp only
      have e0 : eqZ (doA l[k] A).1 (doA l[k] A).1 = true := by rw [eqZ_eq, decide_eq_true rfl]
      rw [e0, Bool.not_true, cond_false]
      unfold disk_Disk_Down ladingref02_Disk_Down
      rw [bind_in, bind_in, beq_self_eq_true, Bool.not_true, cond_false, Size_eq f r3, bind_in, rSize_eq f r4, bind_in]
      have e1 : eqZ ((((doA l[k] A).2.fs f).1.length : Nat) : Int) ((((doA l[k] A).2.fs f).1.length : Nat) : Int) = true := by rw [eqZ_eq, decide_eq_true rfl]
      rw [e1, bind_in]
      dsimp only
      unfold ladinglaw02_DiskTells.j1
      rw [Bool.not_true, cond_false, quo2 (by omega), bind_in, bif_eqZ]
      by_cases hh : (k : Int) = ((l.length / 2 : Nat) : Int)
      · have h0 : 0 < l.length := by omega
        have hz : l[0] ∈ l := List.getElem_mem h0
        obtain ⟨p5, q5, s5, h5, r5⟩ := do_eq (hok _ hz).1 r3 i3
        have i5 := ia_do (hok _ hz).1 (hok _ hz).2 i3
        obtain ⟨p6, q6, s6, h6, r6⟩ := Sync_eq (f := f) r5 i5
        have ez : idx l 0 = some l[0] := idx_nat h0
        rw [if_pos hh, Copy_eq r3 i3, bind_in, ez, bind_in, h5, bind_in]
        dsimp only
        rw [h6, bind_in, z64_succ (by omega), bind_in]
        exact ⟨_, rfl, _, p3, q3, s3, F3, rfl, r3, r4, i3⟩
      · rw [if_neg hh, z64_succ (by omega), bind_in]
        exact ⟨_, rfl, _, p3, q3, s3, F3, rfl, r3, r4, i3⟩
    · obtain ⟨A, p, q, st, F, rfl, hR, hF, hI⟩ := hx
      refine ⟨_, ?_, A, p, q, st, F, rfl, hR, hF, hI⟩
      unfold ladinglaw02_DiskTells.b1
      dsimp only
      rw [bif_ltZ, if_neg (by omega)]
end Go.Proofs.Ytanpfcdbfdkclaa
