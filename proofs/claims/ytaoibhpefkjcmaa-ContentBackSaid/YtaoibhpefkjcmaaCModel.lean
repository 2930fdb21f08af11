/-
  The functions as plain Lean.
-/
import Derived.Test.YtaoibhpefkjcmaaAb18
import Derived.Test.YtaoibhpefkjcmaaProg
import Derived.KernelRfl
namespace Go.Proofs.Ytaoibhpefkjcmaa
open Go.Lad
set_option linter.unusedVariables false
set_option linter.unusedSimpArgs false
set_option linter.defProp false
theorem mixed : Try.prog.follows .mixedOrders = true := by kernel_rfl
def eI_i64 (x : Int) : List PV := [.int .i64 x]
theorem fold1_eI_i64 {a : Int} : ([[.int .i64 a]] : List (List PV)) = List.map eI_i64 [a] := rfl
theorem fold2_eI_i64 {l : List Int} {a : Int} : List.map eI_i64 l ++ [[.int .i64 a]] = List.map eI_i64 (l ++ [a]) := by rw [List.map_append]; rfl
theorem foldc_eI_i64 {l : List Int} {a : Int} : ([.int .i64 a] : List PV) :: List.map eI_i64 l = List.map eI_i64 (a :: l) := rfl
theorem folds_eI_i64 {l : List Int} {i : Nat} {a : Int} : (List.map eI_i64 l).set i [.int .i64 a] = List.map eI_i64 (l.set i a) := by rw [List.map_set]; rfl
theorem ps_eI_i64 {m : List (Bs × Int)} {k : Bs} {a : Int} : putM (encM mkS eI_i64 m) (mkS k) [.int .i64 a] = encM mkS eI_i64 (putM m k a) := putS eI_i64 m k a
theorem pn_eI_i64 {m : List (Int × Int)} {k : Int} {a : Int} : putM (encM id eI_i64 m) k [.int .i64 a] = encM id eI_i64 (putM m k a) := putN eI_i64 m k a
theorem qs_eI_i64 {k : Bs} {a : Int} : putM [] (mkS k) [.int .i64 a] = encM mkS eI_i64 (putM [] k a) := mapS_nil eI_i64 k a
theorem qn_eI_i64 {k : Int} {a : Int} : putM [] k [.int .i64 a] = encM id eI_i64 (putM [] k a) := mapN_nil eI_i64 k a
theorem rl_eI_i64 (l : List Int) : (∀ x ∈ List.map eI_i64 l, x.length = 1) = True := rows_len (e := eI_i64) (fun _ => rfl) l
theorem rf_eI_i64 (l : List Int) : (∀ row ∈ List.map eI_i64 l, ∀ p ∈ row, p.flat = true) = True := rows_flat (e := eI_i64) (fun x p hp => by simp only [eI_i64, List.mem_cons, List.not_mem_nil, or_false] at hp; first | (subst hp; rfl) | (rcases hp with hp <;> subst hp <;> rfl)) l
theorem rep_eI_i64 (k : Nat) : List.replicate k [.int .i64 0] = List.map eI_i64 (List.replicate k 0) := rep_map eI_i64 0 k
theorem opt_eI_i64 (o : Option Int) : (o.map eI_i64).getD [.int .i64 0] = eI_i64 (o.getD 0) := by cases o <;> rfl
def eB (x : Bool) : List PV := [.bool x]
theorem fold1_eB {a : Bool} : ([[.bool a]] : List (List PV)) = List.map eB [a] := rfl
theorem fold2_eB {l : List Bool} {a : Bool} : List.map eB l ++ [[.bool a]] = List.map eB (l ++ [a]) := by rw [List.map_append]; rfl
theorem foldc_eB {l : List Bool} {a : Bool} : ([.bool a] : List PV) :: List.map eB l = List.map eB (a :: l) := rfl
theorem folds_eB {l : List Bool} {i : Nat} {a : Bool} : (List.map eB l).set i [.bool a] = List.map eB (l.set i a) := by rw [List.map_set]; rfl
theorem ps_eB {m : List (Bs × Bool)} {k : Bs} {a : Bool} : putM (encM mkS eB m) (mkS k) [.bool a] = encM mkS eB (putM m k a) := putS eB m k a
theorem pn_eB {m : List (Int × Bool)} {k : Int} {a : Bool} : putM (encM id eB m) k [.bool a] = encM id eB (putM m k a) := putN eB m k a
theorem qs_eB {k : Bs} {a : Bool} : putM [] (mkS k) [.bool a] = encM mkS eB (putM [] k a) := mapS_nil eB k a
theorem qn_eB {k : Int} {a : Bool} : putM [] k [.bool a] = encM id eB (putM [] k a) := mapN_nil eB k a
theorem rl_eB (l : List Bool) : (∀ x ∈ List.map eB l, x.length = 1) = True := rows_len (e := eB) (fun _ => rfl) l
theorem rf_eB (l : List Bool) : (∀ row ∈ List.map eB l, ∀ p ∈ row, p.flat = true) = True := rows_flat (e := eB) (fun x p hp => by simp only [eB, List.mem_cons, List.not_mem_nil, or_false] at hp; first | (subst hp; rfl) | (rcases hp with hp <;> subst hp <;> rfl)) l
theorem rep_eB (k : Nat) : List.replicate k [.bool false] = List.map eB (List.replicate k false) := rep_map eB false k
theorem opt_eB (o : Option Bool) : (o.map eB).getD [.bool false] = eB (o.getD false) := by cases o <;> rfl
def eI_u8 (x : Int) : List PV := [.int .u8 x]
theorem fold1_eI_u8 {a : Int} : ([[.int .u8 a]] : List (List PV)) = List.map eI_u8 [a] := rfl
theorem fold2_eI_u8 {l : List Int} {a : Int} : List.map eI_u8 l ++ [[.int .u8 a]] = List.map eI_u8 (l ++ [a]) := by rw [List.map_append]; rfl
theorem foldc_eI_u8 {l : List Int} {a : Int} : ([.int .u8 a] : List PV) :: List.map eI_u8 l = List.map eI_u8 (a :: l) := rfl
theorem folds_eI_u8 {l : List Int} {i : Nat} {a : Int} : (List.map eI_u8 l).set i [.int .u8 a] = List.map eI_u8 (l.set i a) := by rw [List.map_set]; rfl
theorem ps_eI_u8 {m : List (Bs × Int)} {k : Bs} {a : Int} : putM (encM mkS eI_u8 m) (mkS k) [.int .u8 a] = encM mkS eI_u8 (putM m k a) := putS eI_u8 m k a
theorem pn_eI_u8 {m : List (Int × Int)} {k : Int} {a : Int} : putM (encM id eI_u8 m) k [.int .u8 a] = encM id eI_u8 (putM m k a) := putN eI_u8 m k a
theorem qs_eI_u8 {k : Bs} {a : Int} : putM [] (mkS k) [.int .u8 a] = encM mkS eI_u8 (putM [] k a) := mapS_nil eI_u8 k a
theorem qn_eI_u8 {k : Int} {a : Int} : putM [] k [.int .u8 a] = encM id eI_u8 (putM [] k a) := mapN_nil eI_u8 k a
theorem rl_eI_u8 (l : List Int) : (∀ x ∈ List.map eI_u8 l, x.length = 1) = True := rows_len (e := eI_u8) (fun _ => rfl) l
theorem rf_eI_u8 (l : List Int) : (∀ row ∈ List.map eI_u8 l, ∀ p ∈ row, p.flat = true) = True := rows_flat (e := eI_u8) (fun x p hp => by simp only [eI_u8, List.mem_cons, List.not_mem_nil, or_false] at hp; first | (subst hp; rfl) | (rcases hp with hp <;> subst hp <;> rfl)) l
theorem rep_eI_u8 (k : Nat) : List.replicate k [.int .u8 0] = List.map eI_u8 (List.replicate k 0) := rep_map eI_u8 0 k
theorem by_u8 (l : List Int) : bytesOf (List.map eI_u8 l) = some (u8s l) := bytes_map _ (fun _ => rfl) l
theorem opt_eI_u8 (o : Option Int) : (o.map eI_u8).getD [.int .u8 0] = eI_u8 (o.getD 0) := by cases o <;> rfl
def eS (x : Bs) : List PV := [.str (mkS x)]
theorem fold1_eS {a : Bs} : ([[.str (mkS a)]] : List (List PV)) = List.map eS [a] := rfl
theorem fold2_eS {l : List Bs} {a : Bs} : List.map eS l ++ [[.str (mkS a)]] = List.map eS (l ++ [a]) := by rw [List.map_append]; rfl
theorem foldc_eS {l : List Bs} {a : Bs} : ([.str (mkS a)] : List PV) :: List.map eS l = List.map eS (a :: l) := rfl
theorem folds_eS {l : List Bs} {i : Nat} {a : Bs} : (List.map eS l).set i [.str (mkS a)] = List.map eS (l.set i a) := by rw [List.map_set]; rfl
theorem ps_eS {m : List (Bs × Bs)} {k : Bs} {a : Bs} : putM (encM mkS eS m) (mkS k) [.str (mkS a)] = encM mkS eS (putM m k a) := putS eS m k a
theorem pn_eS {m : List (Int × Bs)} {k : Int} {a : Bs} : putM (encM id eS m) k [.str (mkS a)] = encM id eS (putM m k a) := putN eS m k a
theorem qs_eS {k : Bs} {a : Bs} : putM [] (mkS k) [.str (mkS a)] = encM mkS eS (putM [] k a) := mapS_nil eS k a
theorem qn_eS {k : Int} {a : Bs} : putM [] k [.str (mkS a)] = encM id eS (putM [] k a) := mapN_nil eS k a
theorem rl_eS (l : List Bs) : (∀ x ∈ List.map eS l, x.length = 1) = True := rows_len (e := eS) (fun _ => rfl) l
theorem rf_eS (l : List Bs) : (∀ row ∈ List.map eS l, ∀ p ∈ row, p.flat = true) = True := rows_flat (e := eS) (fun x p hp => by simp only [eS, List.mem_cons, List.not_mem_nil, or_false] at hp; first | (subst hp; rfl) | (rcases hp with hp <;> subst hp <;> rfl)) l
theorem rep_eS (k : Nat) : List.replicate k [.str (mkS [])] = List.map eS (List.replicate k []) := rep_map eS [] k
theorem opt_eS (o : Option Bs) : (o.map eS).getD [.str (mkS [])] = eS (o.getD []) := by cases o <;> rfl
theorem ts_3 : tySize Try.prog 3 = some 1 := by kernel_rfl
theorem ta_3 : tyAgg Try.prog 3 = false := by kernel_rfl
theorem tu_3 : Try.prog.underlying 3 = some (.int .i64) := by kernel_rfl
theorem zl_3 : zeroLeaves Try.prog 3 = some [.p (.int .i64 0)] := by kernel_rfl
theorem ts_4 : tySize Try.prog 4 = some 1 := by kernel_rfl
theorem ta_4 : tyAgg Try.prog 4 = false := by kernel_rfl
theorem tu_4 : Try.prog.underlying 4 = some (.bool) := by kernel_rfl
theorem zl_4 : zeroLeaves Try.prog 4 = some [.p (.bool false)] := by kernel_rfl
theorem ts_5 : tySize Try.prog 5 = some 1 := by kernel_rfl
theorem ta_5 : tyAgg Try.prog 5 = false := by kernel_rfl
theorem tu_5 : Try.prog.underlying 5 = some (.int .u8) := by kernel_rfl
theorem zl_5 : zeroLeaves Try.prog 5 = some [.p (.int .u8 0)] := by kernel_rfl
theorem ts_9 : tySize Try.prog 9 = some 1 := by kernel_rfl
theorem ta_9 : tyAgg Try.prog 9 = false := by kernel_rfl
theorem tu_9 : Try.prog.underlying 9 = some (.string) := by kernel_rfl
theorem zl_9 : zeroLeaves Try.prog 9 = some [.p (.str (mkS []))] := by kernel_rfl
theorem ts_22 : tySize Try.prog 22 = some 1 := by kernel_rfl
theorem ta_22 : tyAgg Try.prog 22 = false := by kernel_rfl
theorem tu_22 : Try.prog.underlying 22 = some (.slice 9) := by kernel_rfl
theorem tl_22 : tyElem Try.prog 22 = some (9, 1) := by kernel_rfl
theorem zl_22 : zeroLeaves Try.prog 22 = some [.nil] := by kernel_rfl
theorem ts_23 : tySize Try.prog 23 = some 1 := by kernel_rfl
theorem ta_23 : tyAgg Try.prog 23 = false := by kernel_rfl
theorem tu_23 : Try.prog.underlying 23 = some (.slice 3) := by kernel_rfl
theorem tl_23 : tyElem Try.prog 23 = some (3, 1) := by kernel_rfl
theorem zl_23 : zeroLeaves Try.prog 23 = some [.nil] := by kernel_rfl
theorem ts_26 : tySize Try.prog 26 = some 1 := by kernel_rfl
theorem ta_26 : tyAgg Try.prog 26 = false := by kernel_rfl
theorem tu_26 : Try.prog.underlying 26 = some (.int .i64) := by kernel_rfl
theorem zl_26 : zeroLeaves Try.prog 26 = some [.p (.int .i64 0)] := by kernel_rfl
theorem ts_40 : tySize Try.prog 40 = some 1 := by kernel_rfl
theorem ta_40 : tyAgg Try.prog 40 = false := by kernel_rfl
theorem tu_40 : Try.prog.underlying 40 = some (.slice 5) := by kernel_rfl
theorem tl_40 : tyElem Try.prog 40 = some (5, 1) := by kernel_rfl
theorem zl_40 : zeroLeaves Try.prog 40 = some [.nil] := by kernel_rfl
theorem ts_44 : tySize Try.prog 44 = some 1 := by kernel_rfl
theorem ta_44 : tyAgg Try.prog 44 = false := by kernel_rfl
theorem tu_44 : Try.prog.underlying 44 = some (.map 9 3) := by kernel_rfl
theorem tz_3 : tyZero Try.prog 3 = some (false, [.int .i64 0]) := by kernel_rfl
theorem ts_46 : tySize Try.prog 46 = some 1 := by kernel_rfl
theorem ta_46 : tyAgg Try.prog 46 = false := by kernel_rfl
theorem tu_46 : Try.prog.underlying 46 = some (.map 9 4) := by kernel_rfl
theorem tz_4 : tyZero Try.prog 4 = some (false, [.bool false]) := by kernel_rfl
/-- lading/content.size -/
noncomputable def content_size.b1 (list_0 : List Bs) : (Int × Int) → Option ((Int × Int) ⊕ (Int))
  | (n1, v2) =>
    if v2 < (list_0.length : Int) then
      (idx list_0 v2).bind fun v4 =>
      (i64? (n1 + (v4.length : Int))).bind fun v5 =>
      (i64? (v2 + 1)).bind fun v6 =>
      some (.inl (v5, v6))
    else
      some (.inr n1)
noncomputable def content_size (list_0 : List Bs) : Option Int :=
  (loopM (content_size.b1 list_0) (0, 0)).bind fun e7 =>
  some e7
/-- lading/content.Right -/
noncomputable def content_Right.b1 (list_0 : List Bs) : ((List (Bs × Bool)) × Int) → Option (((List (Bs × Bool)) × Int) ⊕ ((List (Bs × Bool))))
  | (seen1, v2) =>
    if v2 < (list_0.length : Int) then
      (idx list_0 v2).bind fun v4 =>
      (i64? (v2 + 1)).bind fun v5 =>
      some (.inl ((putM seen1 v4 true), v5))
    else
      some (.inr seen1)
noncomputable def content_Right (list_0 : List Bs) : Option Bool :=
  (loopM (content_Right.b1 list_0) ([], 0)).bind fun e6 =>
  (need (e6.length ≤ 9223372036854775807)).bind fun _ =>
  if (e6.length : Int) = (list_0.length : Int) then
    (content_size list_0).bind fun c8 =>
    some (decide (c8 ≤ 1048576))
  else
    some false
/-- slices.Index[[]string,string] -/
noncomputable def slices_Index_string_string.b1 (s_0 : List Bs) (v_1 : Bs) : Int → Option ((Int) ⊕ ((Int) ⊕ (Unit)))
  | v1 =>
    if v1 < (s_0.length : Int) then
      (idx s_0 v1).bind fun v3 =>
      if v_1 = v3 then
        some (.inr (.inl v1))
      else
        (i64? (v1 + 1)).bind fun v5 =>
        some (.inl v5)
    else
      some (.inr (.inr ()))
noncomputable def slices_Index_string_string (s_0 : List Bs) (v_1 : Bs) : Option Int :=
  (loopM (slices_Index_string_string.b1 s_0 v_1) 0).bind fun e6 =>
  match e6 with
  | (.inl e7) =>
    some e7
  | (.inr e8) =>
    some (-1)
/-- lading/content.Print -/
noncomputable def content_Print (list_0 : List Bs) (s_1 : Bs) : Option Int :=
  (slices_Index_string_string list_0 s_1).bind fun s1 =>
  some s1
/-- slices.Clone[[]string,string] -/
noncomputable def slices_Clone_string_string (s_0 : List Bs) : Option (List Bs) :=
  (need (s_0.length ≤ 2147483647)).bind fun _ =>
  some s_0
/-- lading/content.Add -/
noncomputable def content_Add (list_0 : List Bs) (s_1 : Bs) : Option ((List Bs) × Int × Int) :=
  (content_Right list_0).bind fun c1 =>
  if c1 = true then
    (content_Print list_0 s_1).bind fun c3 =>
    if 0 ≤ c3 then
      (slices_Clone_string_string list_0).bind fun s5 =>
      some (s5, c3, 0)
    else
      (content_size list_0).bind fun c6 =>
      (i64? (c6 + (s_1.length : Int))).bind fun v7 =>
      if 1048576 < v7 then
        some ([], 0, 6)
      else
        (slices_Clone_string_string list_0).bind fun s9 =>
        (push? s9 s_1).bind fun v10 =>
        some (v10, (list_0.length : Int), 0)
  else
    some ([], 0, 1)
/-- lading/content.Join -/
noncomputable def content_Join.b1 (a_0 : List Bs) : ((List (Bs × Int)) × Int) → Option (((List (Bs × Int)) × Int) ⊕ ((List (Bs × Int))))
  | (v6, v7) =>
    if v7 < (a_0.length : Int) then
      (idx a_0 v7).bind fun v9 =>
      (i64? (v7 + 1)).bind fun v10 =>
      some (.inl ((putM v6 v9 v7), v10))
    else
      some (.inr v6)
noncomputable def content_Join.b2 (p_1 : List Bs) : ((List Bs) × (List (Bs × Int)) × (List Int) × Int) → Option (((List Bs) × (List (Bs × Int)) × (List Int) × Int) ⊕ ((List Bs) × (List Int)))
  | (v12, v13, v14, v15) =>
    if v15 < (p_1.length : Int) then
      (idx p_1 v15).bind fun v17 =>
      if ((lookM v13 v17).isSome) = true then
        (push? v14 ((lookM v13 v17).getD 0)).bind fun v19 =>
        (i64? (v15 + 1)).bind fun v20 =>
        some (.inl (v12, v13, v19, v20))
      else
        (push? v12 v17).bind fun v21 =>
        (push? v14 ((lookM (putM v13 v17 (v12.length : Int)) v17).getD 0)).bind fun v22 =>
        (i64? (v15 + 1)).bind fun v23 =>
        some (.inl (v21, (putM v13 v17 (v12.length : Int)), v22, v23))
    else
      some (.inr (v12, v14))
noncomputable def content_Join (a_0 : List Bs) (p_1 : List Bs) : Option ((List Bs) × (List Int) × Int) :=
  (content_Right a_0).bind fun c1 =>
  if c1 = true then
    (content_Right p_1).bind fun c3 =>
    if c3 = true then
      (slices_Clone_string_string a_0).bind fun s5 =>
      (loopM (content_Join.b1 a_0) ([], 0)).bind fun e11 =>
      (loopM (content_Join.b2 p_1) (s5, e11, [], 0)).bind fun e24 =>
      (content_size e24.1).bind fun c25 =>
      if 1048576 < c25 then
        some ([], [], 6)
      else
        some (e24.1, e24.2, 0)
    else
      some ([], [], 1)
  else
    some ([], [], 1)
/-- lading/content.Text -/
noncomputable def content_Text (list_0 : List Bs) (n_1 : Int) : Option (Bs × Bool) :=
  if n_1 < 0 then
    some ([], false)
  else
    if (list_0.length : Int) ≤ n_1 then
      some ([], false)
    else
      (idx list_0 n_1).bind fun v3 =>
      some (v3, true)
/-- lading/content.Texts -/
noncomputable def content_Texts.b1 (list_0 : List Bs) (prints_1 : List Int) : ((List Bs) × Int) → Option (((List Bs) × Int) ⊕ ((Unit) ⊕ ((List Bs))))
  | (out1, v2) =>
    if v2 < (prints_1.length : Int) then
      (idx prints_1 v2).bind fun v4 =>
      (content_Text list_0 v4).bind fun c5 =>
      if c5.2 = true then
        (push? out1 c5.1).bind fun v7 =>
        (i64? (v2 + 1)).bind fun v8 =>
        some (.inl (v7, v8))
      else
        some (.inr (.inl ()))
    else
      some (.inr (.inr out1))
noncomputable def content_Texts (list_0 : List Bs) (prints_1 : List Int) : Option ((List Bs) × Int) :=
  (loopM (content_Texts.b1 list_0 prints_1) ([], 0)).bind fun e9 =>
  match e9 with
  | (.inl e10) =>
    some ([], 4)
  | (.inr e11) =>
    some (e11, 0)
/-- lading/ladingref04.Same -/
noncomputable def ladingref04_Same.b1 (a_0 : List Bs) (b_1 : List Bs) : Int → Option ((Int) ⊕ ((Unit) ⊕ (Unit)))
  | i2 =>
    if i2 < (a_0.length : Int) then
      (idx a_0 i2).bind fun v4 =>
      (idx b_1 i2).bind fun v5 =>
      if v4 = v5 then
        (i64? (i2 + 1)).bind fun v7 =>
        some (.inl v7)
      else
        some (.inr (.inl ()))
    else
      some (.inr (.inr ()))
noncomputable def ladingref04_Same (a_0 : List Bs) (b_1 : List Bs) : Option Bool :=
  if (a_0.length : Int) = (b_1.length : Int) then
    (loopM (ladingref04_Same.b1 a_0 b_1) 0).bind fun e8 =>
    match e8 with
    | (.inl e9) =>
      some false
    | (.inr e10) =>
      some true
  else
    some false
/-- lading/ladingref04.Ints -/
noncomputable def ladingref04_Ints.b1 (a_0 : List Int) (b_1 : List Int) : Int → Option ((Int) ⊕ ((Unit) ⊕ (Unit)))
  | i2 =>
    if i2 < (a_0.length : Int) then
      (idx a_0 i2).bind fun v4 =>
      (idx b_1 i2).bind fun v5 =>
      if v4 = v5 then
        (i64? (i2 + 1)).bind fun v7 =>
        some (.inl v7)
      else
        some (.inr (.inl ()))
    else
      some (.inr (.inr ()))
noncomputable def ladingref04_Ints (a_0 : List Int) (b_1 : List Int) : Option Bool :=
  if (a_0.length : Int) = (b_1.length : Int) then
    (loopM (ladingref04_Ints.b1 a_0 b_1) 0).bind fun e8 =>
    match e8 with
    | (.inl e9) =>
      some false
    | (.inr e10) =>
      some true
  else
    some false
/-- lading/ladinglaw04.small -/
noncomputable def ladinglaw04_small  : Option Bool :=
  (content_Add [] [97, 98]).bind fun c1 =>
  (content_Add c1.1 []).bind fun c2 =>
  (content_Join [[97], [98]] [[99], [97]]).bind fun c3 =>
  (content_Texts [[97], [98]] [1, 0, 1]).bind fun c4 =>
  (content_Texts [[97], [98]] [2]).bind fun c5 =>
  if c1.2.2 = 0 then
    if c2.2.2 = 0 then
      if c3.2.2 = 0 then
        if c4.2 = 0 then
          if c5.2 = 4 then
            if c1.2.1 = 0 then
              (ladingref04_Same c2.1 [[97, 98], []]).bind fun l12 =>
              if l12 = true then
                (ladingref04_Same c3.1 [[97], [98], [99]]).bind fun l14 =>
                if l14 = true then
                  (ladingref04_Ints c3.2.1 [2, 0]).bind fun l16 =>
                  if l16 = true then
                    (ladingref04_Same c4.1 [[98], [97], [98]]).bind fun l18 =>
                    if c2.2.1 = 1 then
                      if l18 = true then
                        (content_Print c2.1 []).bind fun c21 =>
                        if c21 = 1 then
                          (content_Print c2.1 [120]).bind fun c23 =>
                          if c23 = (-1) then
                            (content_Right c2.1).bind fun c25 =>
                            if c25 = true then
                              (content_Right [[97], [97]]).bind fun c27 =>
                              some !c27
                            else
                              some false
                          else
                            some false
                        else
                          some false
                      else
                        some false
                    else
                      some false
                  else
                    if c2.2.1 = 1 then
                      some false
                    else
                      some false
                else
                  if c2.2.1 = 1 then
                    some false
                  else
                    some false
              else
                if c2.2.1 = 1 then
                  some false
                else
                  some false
            else
              (ladingref04_Same c2.1 [[97, 98], []]).bind fun l31 =>
              if l31 = true then
                (ladingref04_Same c3.1 [[97], [98], [99]]).bind fun l33 =>
                if l33 = true then
                  (ladingref04_Ints c3.2.1 [2, 0]).bind fun l35 =>
                  if l35 = true then
                    (ladingref04_Same c4.1 [[98], [97], [98]]).bind fun l37 =>
                    some false
                  else
                    some false
                else
                  some false
              else
                some false
          else
            (ladingref04_Same c2.1 [[97, 98], []]).bind fun l38 =>
            if l38 = true then
              (ladingref04_Same c3.1 [[97], [98], [99]]).bind fun l40 =>
              if l40 = true then
                (ladingref04_Ints c3.2.1 [2, 0]).bind fun l42 =>
                if l42 = true then
                  (ladingref04_Same c4.1 [[98], [97], [98]]).bind fun l44 =>
                  some false
                else
                  some false
              else
                some false
            else
              some false
        else
          (ladingref04_Same c2.1 [[97, 98], []]).bind fun l45 =>
          if l45 = true then
            (ladingref04_Same c3.1 [[97], [98], [99]]).bind fun l47 =>
            if l47 = true then
              (ladingref04_Ints c3.2.1 [2, 0]).bind fun l49 =>
              if l49 = true then
                (ladingref04_Same c4.1 [[98], [97], [98]]).bind fun l51 =>
                some false
              else
                some false
            else
              some false
          else
            some false
      else
        (ladingref04_Same c2.1 [[97, 98], []]).bind fun l52 =>
        if l52 = true then
          (ladingref04_Same c3.1 [[97], [98], [99]]).bind fun l54 =>
          if l54 = true then
            (ladingref04_Ints c3.2.1 [2, 0]).bind fun l56 =>
            if l56 = true then
              (ladingref04_Same c4.1 [[98], [97], [98]]).bind fun l58 =>
              some false
            else
              some false
          else
            some false
        else
          some false
    else
      (ladingref04_Same c2.1 [[97, 98], []]).bind fun l59 =>
      if l59 = true then
        (ladingref04_Same c3.1 [[97], [98], [99]]).bind fun l61 =>
        if l61 = true then
          (ladingref04_Ints c3.2.1 [2, 0]).bind fun l63 =>
          if l63 = true then
            (ladingref04_Same c4.1 [[98], [97], [98]]).bind fun l65 =>
            some false
          else
            some false
        else
          some false
      else
        some false
  else
    (ladingref04_Same c2.1 [[97, 98], []]).bind fun l66 =>
    if l66 = true then
      (ladingref04_Same c3.1 [[97], [98], [99]]).bind fun l68 =>
      if l68 = true then
        (ladingref04_Ints c3.2.1 [2, 0]).bind fun l70 =>
        if l70 = true then
          (ladingref04_Same c4.1 [[98], [97], [98]]).bind fun l72 =>
          some false
        else
          some false
      else
        some false
    else
      some false
/-- lading/ladinglaw04.few -/
noncomputable def ladinglaw04_few.b1 (l_0 : List Bs) : Int → Option ((Int) ⊕ ((Unit) ⊕ (Unit)))
  | i1 =>
    if i1 < (l_0.length : Int) then
      if i1 < 25 then
        (idx l_0 i1).bind fun v4 =>
        if 100 < (v4.length : Int) then
          some (.inr (.inl ()))
        else
          (i64? (i1 + 1)).bind fun v6 =>
          some (.inl v6)
      else
        some (.inr (.inr ()))
    else
      some (.inr (.inr ()))
noncomputable def ladinglaw04_few (l_0 : List Bs) : Option Bool :=
  (loopM (ladinglaw04_few.b1 l_0) 0).bind fun e7 =>
  match e7 with
  | (.inl e8) =>
    some false
  | (.inr e9) =>
    some (decide ((l_0.length : Int) ≤ 24))
/-- lading/ladingref04.Print -/
noncomputable def ladingref04_Print.b1 (list_0 : List Bs) (s_1 : Bs) : Int → Option ((Int) ⊕ ((Int) ⊕ (Unit)))
  | i1 =>
    if i1 < (list_0.length : Int) then
      (idx list_0 i1).bind fun v3 =>
      if v3 = s_1 then
        some (.inr (.inl i1))
      else
        (i64? (i1 + 1)).bind fun v5 =>
        some (.inl v5)
    else
      some (.inr (.inr ()))
noncomputable def ladingref04_Print (list_0 : List Bs) (s_1 : Bs) : Option Int :=
  (loopM (ladingref04_Print.b1 list_0 s_1) 0).bind fun e6 =>
  match e6 with
  | (.inl e7) =>
    some e7
  | (.inr e8) =>
    some (-1)
/-- lading/ladingref04.bytes -/
noncomputable def ladingref04_bytes.b1 (list_0 : List Bs) : (Int × Int) → Option ((Int × Int) ⊕ (Int))
  | (n1, i2) =>
    if i2 < (list_0.length : Int) then
      (idx list_0 i2).bind fun v4 =>
      (i64? (n1 + (v4.length : Int))).bind fun v5 =>
      (i64? (i2 + 1)).bind fun v6 =>
      some (.inl (v5, v6))
    else
      some (.inr n1)
noncomputable def ladingref04_bytes (list_0 : List Bs) : Option Int :=
  (loopM (ladingref04_bytes.b1 list_0) (0, 0)).bind fun e7 =>
  some e7
/-- lading/ladingref04.Right -/
noncomputable def ladingref04_Right.b1 (list_0 : List Bs) : Int → Option ((Int) ⊕ ((Unit) ⊕ (Unit)))
  | i1 =>
    if i1 < (list_0.length : Int) then
      (idx list_0 i1).bind fun v3 =>
      (ladingref04_Print list_0 v3).bind fun l4 =>
      if l4 = i1 then
        (i64? (i1 + 1)).bind fun v6 =>
        some (.inl v6)
      else
        some (.inr (.inl ()))
    else
      some (.inr (.inr ()))
noncomputable def ladingref04_Right (list_0 : List Bs) : Option Bool :=
  (loopM (ladingref04_Right.b1 list_0) 0).bind fun e7 =>
  match e7 with
  | (.inl e8) =>
    some false
  | (.inr e9) =>
    (ladingref04_bytes list_0).bind fun l10 =>
    some (decide (l10 ≤ 1048576))
/-- lading/ladingref04.Add -/
noncomputable def ladingref04_Add (list_0 : List Bs) (s_1 : Bs) : Option ((List Bs) × Int × Int) :=
  (ladingref04_Right list_0).bind fun l1 =>
  if l1 = true then
    (need (list_0.length ≤ 2147483647)).bind fun _ =>
    (ladingref04_Print list_0 s_1).bind fun l3 =>
    if 0 ≤ l3 then
      some (list_0, l3, 0)
    else
      (ladingref04_bytes list_0).bind fun l5 =>
      (i64? (l5 + (s_1.length : Int))).bind fun v6 =>
      if 1048576 < v6 then
        some ([], 0, 6)
      else
        (push? list_0 s_1).bind fun v8 =>
        some (v8, (list_0.length : Int), 0)
  else
    some ([], 0, 1)
/-- lading/ladingref04.Join -/
noncomputable def ladingref04_Join.b1 (b_1 : List Bs) : ((List Bs) × (List Int) × Int) → Option (((List Bs) × (List Int) × Int) ⊕ ((List Bs) × (List Int)))
  | (out5, prints6, i7) =>
    if i7 < (b_1.length : Int) then
      (idx b_1 i7).bind fun v9 =>
      (ladingref04_Print out5 v9).bind fun l10 =>
      if l10 < 0 then
        (push? out5 v9).bind fun v12 =>
        (push? prints6 (out5.length : Int)).bind fun v13 =>
        (i64? (i7 + 1)).bind fun v14 =>
        some (.inl (v12, v13, v14))
      else
        (push? prints6 l10).bind fun v15 =>
        (i64? (i7 + 1)).bind fun v16 =>
        some (.inl (out5, v15, v16))
    else
      some (.inr (out5, prints6))
noncomputable def ladingref04_Join (a_0 : List Bs) (b_1 : List Bs) : Option ((List Bs) × (List Int) × Int) :=
  (ladingref04_Right a_0).bind fun l1 =>
  if l1 = true then
    (ladingref04_Right b_1).bind fun l3 =>
    if l3 = true then
      (need (a_0.length ≤ 2147483647)).bind fun _ =>
      (loopM (ladingref04_Join.b1 b_1) (a_0, [], 0)).bind fun e17 =>
      (ladingref04_bytes e17.1).bind fun l18 =>
      if 1048576 < l18 then
        some ([], [], 6)
      else
        some (e17.1, e17.2, 0)
    else
      some ([], [], 1)
  else
    some ([], [], 1)
/-- lading/ladingref04.Text -/
noncomputable def ladingref04_Text (list_0 : List Bs) (n_1 : Int) : Option (Bs × Bool) :=
  if n_1 < 0 then
    some ([], false)
  else
    if (list_0.length : Int) ≤ n_1 then
      some ([], false)
    else
      (idx list_0 n_1).bind fun v3 =>
      some (v3, true)
/-- lading/ladingref04.Texts -/
noncomputable def ladingref04_Texts.b1 (list_0 : List Bs) (prints_1 : List Int) : ((List Bs) × Int) → Option (((List Bs) × Int) ⊕ ((Unit) ⊕ ((List Bs))))
  | (out1, i2) =>
    if i2 < (prints_1.length : Int) then
      (idx prints_1 i2).bind fun v4 =>
      (ladingref04_Text list_0 v4).bind fun l5 =>
      if l5.2 = true then
        (push? out1 l5.1).bind fun v7 =>
        (i64? (i2 + 1)).bind fun v8 =>
        some (.inl (v7, v8))
      else
        some (.inr (.inl ()))
    else
      some (.inr (.inr out1))
noncomputable def ladingref04_Texts (list_0 : List Bs) (prints_1 : List Int) : Option ((List Bs) × Int) :=
  (loopM (ladingref04_Texts.b1 list_0 prints_1) ([], 0)).bind fun e9 =>
  match e9 with
  | (.inl e10) =>
    some ([], 4)
  | (.inr e11) =>
    some (e11, 0)
/-- lading/ladinglaw04.ContentTells -/
noncomputable def ladinglaw04_ContentTells.b1 (a_0 : List Bs) (p_3 : List Int) : Int → Option ((Int) ⊕ ((Unit) ⊕ (Unit)))
  | v26 =>
    if v26 < (p_3.length : Int) then
      (idx p_3 v26).bind fun v28 =>
      (content_Text a_0 v28).bind fun c29 =>
      (ladingref04_Text a_0 v28).bind fun l30 =>
      if c29.1 = l30.1 then
        if (c29.2 == l30.2) = true then
          (i64? (v26 + 1)).bind fun v33 =>
          some (.inl v33)
        else
          some (.inr (.inl ()))
      else
        some (.inr (.inl ()))
    else
      some (.inr (.inr ()))
noncomputable def ladinglaw04_ContentTells (a_0 : List Bs) (p_1 : List Bs) (p_2 : Bs) (p_3 : List Int) : Option Bool :=
  (ladinglaw04_small ).bind fun l1 =>
  (ladinglaw04_few a_0).bind fun l2 =>
  if l2 = true then
    (ladinglaw04_few p_1).bind fun l4 =>
    if l4 = true then
      if 100 < (p_2.length : Int) then
        some l1
      else
        if 24 < (p_3.length : Int) then
          some l1
        else
          (content_Add a_0 p_2).bind fun c8 =>
          (ladingref04_Add a_0 p_2).bind fun l9 =>
          if c8.2.1 = l9.2.1 then
            if c8.2.2 = l9.2.2 then
              (ladingref04_Same c8.1 l9.1).bind fun l12 =>
              if l12 = true then
                (content_Join a_0 p_1).bind fun c14 =>
                (ladingref04_Join a_0 p_1).bind fun l15 =>
                (content_Texts a_0 p_3).bind fun c16 =>
                (ladingref04_Texts a_0 p_3).bind fun l17 =>
                if c14.2.2 = l15.2.2 then
                  (ladingref04_Same c14.1 l15.1).bind fun l19 =>
                  if l19 = true then
                    (ladingref04_Ints c14.2.1 l15.2.1).bind fun l21 =>
                    if l21 = true then
                      if c16.2 = l17.2 then
                        (ladingref04_Same c16.1 l17.1).bind fun l24 =>
                        if l24 = true then
                          (loopM (ladinglaw04_ContentTells.b1 a_0 p_3) 0).bind fun e34 =>
                          match e34 with
                          | (.inl e35) =>
                            some false
                          | (.inr e36) =>
                            if l1 = true then
                              (content_Right a_0).bind fun c38 =>
                              (ladingref04_Right a_0).bind fun l39 =>
                              if (c38 == l39) = true then
                                (content_Print a_0 p_2).bind fun c41 =>
                                (ladingref04_Print a_0 p_2).bind fun l42 =>
                                some (decide (c41 = l42))
                              else
                                some false
                            else
                              some false
                        else
                          some false
                      else
                        some false
                    else
                      some false
                  else
                    some false
                else
                  some false
              else
                some false
            else
              some false
          else
            some false
    else
      some l1
  else
    some l1
/-- lading/ladinglaw04.ContentBack -/
noncomputable def ladinglaw04_ContentBack.b1 (l_0 : List Bs) : ((List Bs) × (List Int) × Int) → Option (((List Bs) × (List Int) × Int) ⊕ ((Unit) ⊕ ((List Bs) × (List Int))))
  | (v4, v5, v6) =>
    if v6 < (l_0.length : Int) then
      (idx l_0 v6).bind fun v8 =>
      (content_Add v4 v8).bind fun c9 =>
      if c9.2.2 = 0 then
        if c9.2.1 < 0 then
          some (.inr (.inl ()))
        else
          if (c9.1.length : Int) ≤ c9.2.1 then
            some (.inr (.inl ()))
          else
            (i64? ((v4.length : Int) + 1)).bind fun v13 =>
            if v13 < (c9.1.length : Int) then
              some (.inr (.inl ()))
            else
              if (c9.1.length : Int) < (v4.length : Int) then
                some (.inr (.inl ()))
              else
                (content_Right c9.1).bind fun c16 =>
                if c16 = true then
                  (idx c9.1 c9.2.1).bind fun v18 =>
                  if v18 = v8 then
                    (cut c9.1 0 (v4.length : Int)).bind fun v20 =>
                    (ladingref04_Same v20 v4).bind fun l21 =>
                    if l21 = true then
                      (push? v5 c9.2.1).bind fun v23 =>
                      (i64? (v6 + 1)).bind fun v24 =>
                      some (.inl (c9.1, v23, v24))
                    else
                      some (.inr (.inl ()))
                  else
                    some (.inr (.inl ()))
                else
                  some (.inr (.inl ()))
      else
        some (.inr (.inl ()))
    else
      some (.inr (.inr (v4, v5)))
noncomputable def ladinglaw04_ContentBack.b3 (l_0 : List Bs) (e27 : (List Bs) × (List Int)) (v28 : Int) (v30 : Bs) (v32 : Int) : Int → Option ((Int) ⊕ ((Unit) ⊕ (Unit)))
  | v42 =>
    if v42 < v28 then
      (idx e27.2 v42).bind fun v44 =>
      (idx l_0 v42).bind fun v45 =>
      if (decide (v44 = v32) == decide (v45 = v30)) = true then
        (i64? (v42 + 1)).bind fun v47 =>
        some (.inl v47)
      else
        some (.inr (.inl ()))
    else
      some (.inr (.inr ()))
noncomputable def ladinglaw04_ContentBack.b2 (l_0 : List Bs) (e27 : (List Bs) × (List Int)) : Int → Option ((Int) ⊕ ((Unit) ⊕ (Unit)))
  | v28 =>
    if v28 < (l_0.length : Int) then
      (idx l_0 v28).bind fun v30 =>
      (content_Add e27.1 v30).bind fun c31 =>
      (idx e27.2 v28).bind fun v32 =>
      (content_Text e27.1 v32).bind fun c33 =>
      if c31.2.2 = 0 then
        if c31.2.1 = v32 then
          (ladingref04_Same c31.1 e27.1).bind fun l36 =>
          if l36 = true then
            if c33.2 = true then
              if c33.1 = v30 then
                (content_Print e27.1 v30).bind fun c40 =>
                if c40 = c31.2.1 then
                  (loopM (ladinglaw04_ContentBack.b3 l_0 e27 v28 v30 v32) 0).bind fun e48 =>
                  match e48 with
                  | (.inl e49) =>
                    some (.inr (.inl ()))
                  | (.inr e50) =>
                    (i64? (v28 + 1)).bind fun v51 =>
                    some (.inl v51)
                else
                  some (.inr (.inl ()))
              else
                some (.inr (.inl ()))
            else
              some (.inr (.inl ()))
          else
            some (.inr (.inl ()))
        else
          some (.inr (.inl ()))
      else
        some (.inr (.inl ()))
    else
      some (.inr (.inr ()))
noncomputable def ladinglaw04_ContentBack (l_0 : List Bs) : Option Bool :=
  (ladinglaw04_small ).bind fun l1 =>
  (ladinglaw04_few l_0).bind fun l2 =>
  if l2 = true then
    (loopM (ladinglaw04_ContentBack.b1 l_0) ([], [], 0)).bind fun e25 =>
    match e25 with
    | (.inl e26) =>
      some false
    | (.inr e27) =>
      (loopM (ladinglaw04_ContentBack.b2 l_0 e27) 0).bind fun e52 =>
      match e52 with
      | (.inl e53) =>
        some false
      | (.inr e54) =>
        (content_Texts e27.1 e27.2).bind fun c55 =>
        if l1 = true then
          if c55.2 = 0 then
            (ladingref04_Same c55.1 l_0).bind fun l58 =>
            some l58
          else
            some false
        else
          some false
  else
    some l1
/-- lading/ladinglaw04.ContentPrints -/
noncomputable def ladinglaw04_ContentPrints.b1 (l_0 : List Bs) (p_1 : Bs) : (Bool × Int) → Option ((Bool × Int) ⊕ ((Unit) ⊕ (Bool)))
  | (v7, v8) =>
    if v8 < (l_0.length : Int) then
      (idx l_0 v8).bind fun v10 =>
      (content_Print l_0 v10).bind fun c11 =>
      if c11 = v8 then
        if v7 = true then
          (i64? (v8 + 1)).bind fun v14 =>
          some (.inl (true, v14))
        else
          (i64? (v8 + 1)).bind fun v15 =>
          some (.inl (decide (v10 = p_1), v15))
      else
        some (.inr (.inl ()))
    else
      some (.inr (.inr v7))
noncomputable def ladinglaw04_ContentPrints (l_0 : List Bs) (p_1 : Bs) (p_2 : Int) : Option Bool :=
  (ladinglaw04_small ).bind fun l1 =>
  (ladinglaw04_few l_0).bind fun l2 =>
  if l2 = true then
    if 100 < (p_1.length : Int) then
      some l1
    else
      (content_Right l_0).bind fun c5 =>
      if c5 = true then
        (loopM (ladinglaw04_ContentPrints.b1 l_0 p_1) (false, 0)).bind fun e16 =>
        match e16 with
        | (.inl e17) =>
          some false
        | (.inr e18) =>
          (content_Print l_0 p_1).bind fun c19 =>
          (content_Text l_0 p_2).bind fun c20 =>
          (content_Text l_0 c19).bind fun c21 =>
          if (e18 == c21.2) = true then
            if e18 = true then
              if c21.1 = p_1 then
                if l1 = true then
                  if 0 ≤ p_2 then
                    if (c20.2 == decide (p_2 < (l_0.length : Int))) = true then
                      if c20.2 = true then
                        some true
                      else
                        some (decide (c20.1 = []))
                    else
                      some false
                  else
                    if (c20.2 == false) = true then
                      if c20.2 = true then
                        some true
                      else
                        some (decide (c20.1 = []))
                    else
                      some false
                else
                  some false
              else
                some false
            else
              if c19 = (-1) then
                if l1 = true then
                  if 0 ≤ p_2 then
                    if (c20.2 == decide (p_2 < (l_0.length : Int))) = true then
                      if c20.2 = true then
                        some true
                      else
                        some (decide (c20.1 = []))
                    else
                      some false
                  else
                    if (c20.2 == false) = true then
                      if c20.2 = true then
                        some true
                      else
                        some (decide (c20.1 = []))
                    else
                      some false
                else
                  some false
              else
                some false
          else
            some false
      else
        some l1
  else
    some l1
/-- lading/ladinglaw04.ContentJoins -/
noncomputable def ladinglaw04_ContentJoins.b1 (p_1 : List Bs) (c10 : (List Bs) × (List Int) × Int) : Int → Option ((Int) ⊕ ((Unit) ⊕ (Unit)))
  | v20 =>
    if v20 < (c10.1.length : Int) then
      (idx c10.1 v20).bind fun v22 =>
      (content_Print p_1 v22).bind fun c23 =>
      if c23 < 0 then
        some (.inr (.inl ()))
      else
        (i64? (v20 + 1)).bind fun v25 =>
        some (.inl v25)
    else
      some (.inr (.inr ()))
noncomputable def ladinglaw04_ContentJoins.b2 (c30 : (List Bs) × (List Int) × Int) : Int → Option ((Int) ⊕ ((Unit) ⊕ (Unit)))
  | v31 =>
    if v31 < (c30.2.1.length : Int) then
      (idx c30.2.1 v31).bind fun v33 =>
      if v33 = v31 then
        (i64? (v31 + 1)).bind fun v35 =>
        some (.inl v35)
      else
        some (.inr (.inl ()))
    else
      some (.inr (.inr ()))
noncomputable def ladinglaw04_ContentJoins (a_0 : List Bs) (p_1 : List Bs) : Option Bool :=
  (ladinglaw04_small ).bind fun l1 =>
  (ladinglaw04_few a_0).bind fun l2 =>
  if l2 = true then
    (ladinglaw04_few p_1).bind fun l4 =>
    if l4 = true then
      (content_Right a_0).bind fun c6 =>
      if c6 = true then
        (content_Right p_1).bind fun c8 =>
        if c8 = true then
          (content_Join a_0 p_1).bind fun c10 =>
          if c10.2.2 = 0 then
            if (c10.2.1.length : Int) = (p_1.length : Int) then
              if (c10.1.length : Int) < (a_0.length : Int) then
                some false
              else
                (content_Right c10.1).bind fun c14 =>
                if c14 = true then
                  (cut c10.1 0 (a_0.length : Int)).bind fun v16 =>
                  (ladingref04_Same v16 a_0).bind fun l17 =>
                  if l17 = true then
                    (content_Texts c10.1 c10.2.1).bind fun c19 =>
                    (loopM (ladinglaw04_ContentJoins.b1 p_1 c10) (a_0.length : Int)).bind fun e26 =>
                    match e26 with
                    | (.inl e27) =>
                      some false
                    | (.inr e28) =>
                      (content_Join c10.1 p_1).bind fun c29 =>
                      (content_Join c10.1 a_0).bind fun c30 =>
                      (loopM (ladinglaw04_ContentJoins.b2 c30) 0).bind fun e36 =>
                      match e36 with
                      | (.inl e37) =>
                        some false
                      | (.inr e38) =>
                        if l1 = true then
                          if c19.2 = 0 then
                            if c29.2.2 = 0 then
                              if c30.2.2 = 0 then
                                (ladingref04_Same c19.1 p_1).bind fun l43 =>
                                if l43 = true then
                                  (ladingref04_Same c29.1 c10.1).bind fun l45 =>
                                  if l45 = true then
                                    (ladingref04_Same c30.1 c10.1).bind fun l47 =>
                                    if l47 = true then
                                      some (decide ((c30.2.1.length : Int) = (a_0.length : Int)))
                                    else
                                      some false
                                  else
                                    some false
                                else
                                  some false
                              else
                                some false
                            else
                              some false
                          else
                            some false
                        else
                          some false
                  else
                    some false
                else
                  some false
            else
              some false
          else
            some false
        else
          some l1
      else
        some l1
    else
      some l1
  else
    some l1
/-- lading/ladinglaw04.ContentFull -/
noncomputable def ladinglaw04_ContentFull (s_0 : Bs) (p_1 : Int) : Option Bool :=
  (ladinglaw04_small ).bind fun l1 =>
  if 100 < (s_0.length : Int) then
    some l1
  else
    if 100 < p_1 then
      some l1
    else
      (i64? (1048576 - p_1)).bind fun v4 =>
      (need (0 ≤ v4 ∧ v4 ≤ 4294967296)).bind fun _ =>
      (need ((u8s (List.replicate (Int.toNat v4) 0)).length ≤ 9223372036854775807)).bind fun _ =>
      (content_Add [(u8s (List.replicate (Int.toNat v4) 0))] s_0).bind fun c5 =>
      (content_Add [(u8s (List.replicate (Int.toNat v4) 0))] (u8s (List.replicate (Int.toNat v4) 0))).bind fun c6 =>
      (i64? (p_1 + 1)).bind fun v7 =>
      (need (0 ≤ v7 ∧ v7 ≤ 4294967296)).bind fun _ =>
      (need ((u8s (List.replicate (Int.toNat v7) 0)).length ≤ 9223372036854775807)).bind fun _ =>
      (content_Add [(u8s (List.replicate (Int.toNat v4) 0)), (u8s (List.replicate (Int.toNat v7) 0))] s_0).bind fun c8 =>
      if c6.2.2 = 0 then
        if c6.2.1 = 0 then
          (content_Right [(u8s (List.replicate (Int.toNat v4) 0)), (u8s (List.replicate (Int.toNat v7) 0))]).bind fun c11 =>
          if c11 = true then
            some false
          else
            if c8.2.2 = 1 then
              (content_Right [(u8s (List.replicate (Int.toNat v4) 0))]).bind fun c14 =>
              if c14 = true then
                if (s_0.length : Int) ≤ p_1 then
                  if l1 = true then
                    if c5.2.2 = 0 then
                      if c5.2.1 = 1 then
                        some (decide ((c5.1.length : Int) = 2))
                      else
                        some false
                    else
                      some false
                  else
                    some false
                else
                  if l1 = true then
                    if c5.2.2 = 6 then
                      if (c5.1.length : Int) = 0 then
                        some (decide (c5.2.1 = 0))
                      else
                        some false
                    else
                      some false
                  else
                    some false
              else
                some false
            else
              some false
        else
          some false
      else
        some false
end Go.Proofs.Ytaoibhpefkjcmaa
