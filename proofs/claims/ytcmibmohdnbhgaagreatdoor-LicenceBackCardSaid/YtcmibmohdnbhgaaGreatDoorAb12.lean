import Derived.Test.YtcmibmohdnbhgaaGreatDoorAb11
namespace Go.Lad
set_option linter.unusedVariables false
set_option linter.unusedSimpArgs false
open Go.RowKit
inductive Cls where
 | N | A | W | R | P
 deriving DecidableEq
def cls0 (Γ:Opt) (o:Oper):Cls :=
 match o.op with
 | .move _ | .assign _ | .pick _ _ _ | .nilCheck _ | .fieldAddr _ _ _ | .field _ _ _ | .binOp _ _ _ _ _ | .unOp _ _ _ | .extract _ _ | .build _ _ | .index _ _ _ | .makeFunc _ _ _=>.N
 | .call { callee := .builtin .min,.. } | .call { callee := .builtin .max,.. }=>.N
 | .load _ _ | .indexAddr _ _ _ | .alloc _ | .buildSlice _ _ _ | .makeMap _ _ | .lookup _ _ _ _ | .slice _ _ _ _ none | .convert _ _ _ | .box _ _ | .makeSlice _ _ _=>.A
 | .call { callee := .builtin .len,.. }=>.A
 | .call { callee := .value _,.. }=>if pureAt Γ o then .A else .W
 | .call { callee := .builtin .append,.. }=>.P
 | _=>.W
def cls (Γ:Opt) (o:Oper):Cls:=if inL Γ.fz o.dst && isBuild o.op then .N else if inL Γ.fz o.dst && isTake o.op then .P else if inL Γ.mv o.dst && mvOp o.op then .N else if inL Γ.bx o.dst && mvOp o.op then .R else cls0 Γ o
def compC:Cls → Cls → Bool
 | .N,_=>true
 | _,.N=>true
 | .A,.A=>true
 | .A,.R=>true
 | .R,.A=>true
 | .R,.R=>true
 | .R,.P=>true
 | .P,.R=>true
 | _,_=>false
def compat0 (Γ:Opt) (x y:Oper):Bool:=compC (cls Γ x) (cls Γ y) && !(isSl x.op && decide (cls Γ y = .P))
theorem compC_comm (a b:Cls):compC a b = compC b a:=by cases a <;> cases b <;> rfl
theorem compat_c {Γ:Opt} {x y:Oper} (h:compat0 Γ x y = true):compC (cls Γ x) (cls Γ y) = true:=by
 unfold compat0 at h
 rw[Bool.and_eq_true] at h
 exact h.1
theorem compat_s {Γ:Opt} {x y:Oper} (h:compat0 Γ x y = true):isSl x.op = true → cls Γ y ≠ .P:=by
 unfold compat0 at h
 rw[Bool.and_eq_true] at h
 intro h1 h2
 have:=h.2
 rw[h1,h2] at this
 cases this
def isCv:Op → Bool
 | .call { callee := .value _,.. }=>true
 | _=>false
def isAl:Op → Bool
 | .alloc _=>true
 | .buildSlice _ _ ps=>ps.toList.isEmpty
 | _=>false
def alF (Γ:Opt) (o:Oper):Bool:=isAl o.op && !inL Γ.fz o.dst
def mvF (Γ:Opt) (o:Oper):Bool:=mvOp o.op && !inL Γ.fz o.dst
def ldst (Γ:Opt) (x y:Oper):Bool :=
 (mvF Γ x && decide (cls Γ x = .R)) && (match adrOf x.op,y.op with
  | some a,.store _ (.tmp b) _=>Γ.bx.any fun e=>Nat.beq (e / 1000000) (a + 1) && Γ.bx.any fun e'=>Nat.beq (e' / 1000000) (b + 1) && (!Nat.beq (e % 1000000) (e' % 1000000) && (Nat.ble 500000 (e % 1000000) == Nat.ble 500000 (e' % 1000000)))
  | _,_=>false)
def rdsSp (Γ:Opt) (x y:Oper):Bool :=
 isCv x.op && ((mvF Γ y && decide (cls Γ y = .R)) && (match adrOf y.op with
  | some a=>Γ.bx.any fun e=>Nat.beq (e / 1000000) (a + 1) && (Nat.ble 500000 (e % 1000000) && spareAt Γ x (e % 1000000 - 500000))
  | none=>false))
def compat (Γ:Opt) (x y:Oper):Bool:=compat0 Γ x y || ((ldst Γ x y || ldst Γ y x) || (((isCv x.op || decide (cls Γ x = .P)) && alF Γ y) || ((isCv x.op && (keptAt Γ x && mvF Γ y)) || (isCv y.op && (keptAt Γ y && mvF Γ x))))) || (rdsSp Γ x y || rdsSp Γ y x)
theorem mvF_mv {Γ:Opt} {o:Oper} (h:mvF Γ o = true):mvOp o.op = true ∧ inL Γ.fz o.dst = false:=by unfold mvF at h; rw[Bool.and_eq_true] at h; exact⟨h.1,by simpa using h.2⟩
theorem cls0_R {Γ:Opt} {o:Oper}:cls0 Γ o ≠ .R:=by
 unfold cls0
 split <;> (try split) <;> simp
theorem opds_sub (op:Op) (x:Operand) (h:x ∈ Op.opds op):x ∈ op.operands:=by
 cases op <;> simp only[Op.opds,Op.operands] at h ⊢ <;> first
  | (simp at h; done)
  | (simpa using h)
  | skip
 case call c =>
  unfold Call.operands
  cases hc:c.callee <;> rw[hc] at h <;> simp_all
theorem looks_sub {ops:Array Oper} {o:Oper} {d:Nat} (h : .tmp d ∈ Op.opds o.op):d ∈ o.looksAt ops :=
 List.mem_append_left _ (List.mem_filterMap.2 ⟨.tmp d,by simpa using opds_sub _ _ h,rfl⟩)
section
variable {P:Program} {Γ:Opt} {ops:List Oper} {s:St}
def WF (s:St):Prop := ∀ t,∀ i ∈ (s.tm t).ids,s.hp i ≠ none
theorem constLeaf_ids (v:Value):(constLeaf v).ids = []:=by
 unfold constLeaf; split <;> (try split) <;> rfl
theorem constSlot_ids (v:Value):(constSlot v).ids = []:=by
 unfold constSlot
 split
 ·split
  ·simp only[Slot.ids,Cmp.ids,Cmp.leaves,List.flatMap_map]
   rw[List.flatMap_eq_nil_iff]
   intro x _
   exact constLeaf_ids x
  ·rfl
 ·rfl
 ·simp [Slot.ids,Cmp.ids,Cmp.leaves,constLeaf_ids]
theorem WF.ev {s:St} (h:WF s) (x:Operand):∀ i ∈ (s.ev x).ids,s.hp i ≠ none:=by
 cases x with
 | tmp t=>exact h t
 | const v=>intro i hi; rw[St.ev,constSlot_ids] at hi; cases hi
 | global g =>
  have key:∀ o:Option (List PV),∀ i ∈ (match o with | some cs=>(.c (.v (.ip cs 0)):Slot) | none=>.dead).ids,s.hp i ≠ none:=fun o i hi=>by cases o <;> simp [Slot.ids,Cmp.ids,Cmp.leaves,Leaf.ids] at hi
  exact key (gtab g)
 | func f=>intro i hi; simp [St.ev,Slot.ids,Cmp.ids,Cmp.leaves,Leaf.ids] at hi
theorem wf_of_rep {w0:World} {χ0:Col} {T0:Ctx} {s:St} {a:Act} {w:World} {G:Gh} (r:RepG w0 χ0 T0 s a w G):WF s:=by
 have hc:∀ (c:Cmp) v,CRd G s.hp w c v → ∀ i ∈ c.ids,s.hp i ≠ none:=by
  intro c v h i hi
  cases c with
  | v x=>exact LRd.ids h i (by simpa [Cmp.ids,Cmp.leaves] using hi)
  | g xs =>
   obtain⟨vs,_,hall⟩:=h
   obtain⟨x,hx,hi'⟩:=List.mem_flatMap.1 hi
   obtain⟨j,hj⟩:=List.mem_iff_getElem?.1 hx
   obtain⟨y,_,hr⟩:=hall.get hj
   exact hr.ids i hi'
 intro t i hi
 have h:=r.tms t
 cases hs:s.tm t with
 | dead=>rw[hs] at hi; cases hi
 | c c=>rw[hs] at h hi; exact hc c _ h i hi
 | t l =>
  rw[hs] at h hi
  obtain⟨vs,_,hall⟩:=h
  obtain⟨x,hx,hi'⟩:=List.mem_flatMap.1 hi
  obtain⟨j,hj⟩:=List.mem_iff_getElem?.1 hx
  obtain⟨y,_,hr⟩:=hall.get hj
  exact hc x y hr i hi'
theorem LSubP_congr {s s':St} {σ:Ren} {x:Leaf} {p:PV} (h:∀ i ∈ x.ids,s'.hp i = s.hp i) (hs:LSubP σ s x p):LSubP σ s' x p:=by
 unfold LSubP at hs ⊢
 split at hs <;> first | exact hs | trivial | skip
 ·rename_i o l
  rw[h o (by simp [Leaf.ids])]; exact hs
 ·rename_i o k m
  rw[h o (by simp [Leaf.ids])]; exact hs
def Okp (s s':St) (i:Nat):Prop:=s'.hp i = s.hp i ∧ ((∀ e cs,s.hp i ≠ some (.lit e cs)) ∨ s'.hp = s.hp)
theorem LSub_congr {s s':St} {σ:Ren} {hps:List (Nat × HObj)} {x y:Leaf} (h:∀ i ∈ x.ids,Okp s s' i) (hip:y.isIp = false ∨ ∀ i,s'.hp i = s.hp i) (hs:LSub σ s hps x y):LSub σ s' hps x y:=by
 unfold LSub at hs ⊢
 split at hs <;> first | exact hs | trivial | skip
 ·rename_i o l
  obtain⟨h1,h2⟩:=h o (by simp [Leaf.ids])
  rcases h2 with h2 | h2
  ·rw[h1]
   refine⟨?_,hs.2⟩
   have h3:=hs.1
   split at h3
   ·exact h3
   ·rename_i e cs he
    exact absurd he (h2 e cs)
   ·exact h3.elim
  ·have e:litP σ s' = litP σ s:=by
    have e3:LSubP σ s' = LSubP σ s:=by
     funext x p
     unfold LSubP
     rw[h2]
    funext xs ps
    induction xs generalizing ps with
    | nil=>cases ps <;> rfl
    | cons x xs ih=>cases ps with
     | nil=>rfl
     | cons p ps=>unfold litP; rw[e3,ih]
   rw[h1,e]; exact hs
 ·rename_i o a b z l
  rw[(h o (by simp [Leaf.ids])).1]; exact hs
 ·exact LSubP_congr (fun i hi=>(h i hi).1) hs
 ·rcases hip with hip | hip
  ·cases hip
  ·have e:St.hp s' = s.hp:=funext hip
   have e2:LSubsP σ s' = LSubsP σ s:=by
    have e3:LSubP σ s' = LSubP σ s:=by
     funext x p
     unfold LSubP
     rw[e]
    funext xs ps
    induction xs generalizing ps with
    | nil=>cases ps <;> rfl
    | cons x xs ih=>cases ps with
     | nil=>rfl
     | cons p ps=>unfold LSubsP; rw[e3,ih]
   rw[e,e2]; exact hs
theorem LSubs_congr {s s':St} {σ:Ren} {hps:List (Nat × HObj)}:∀ {xs ys:List Leaf},(∀ x ∈ xs,∀ i ∈ x.ids,Okp s s' i) → ((∀ y ∈ ys,y.isIp = false) ∨ ∀ i,s'.hp i = s.hp i) → LSubs σ s hps xs ys → LSubs σ s' hps xs ys
 | [],[],_,_,h=>h
 | [],_ :: _,_,_,h=>h.elim
 | _ :: _,[],_,_,h=>h.elim
 | x :: xs,y :: ys,hh,hip,h=>⟨LSub_congr (hh x List.mem_cons_self) (hip.imp_left fun h=>h y List.mem_cons_self) h.1,LSubs_congr (fun z hz=>hh z (List.mem_cons_of_mem _ hz)) (hip.imp_left fun h z hz=>h z (List.mem_cons_of_mem _ hz)) h.2⟩
theorem CSub_congr {s s':St} {σ:Ren} {hps:List (Nat × HObj)} {x y:Cmp} (h:∀ i ∈ x.ids,Okp s s' i) (hip:(∀ l ∈ y.leaves,l.isIp = false) ∨ ∀ i,s'.hp i = s.hp i) (hs:CSub σ s hps x y):CSub σ s' hps x y:=by
 unfold CSub at hs ⊢
 split at hs
 ·exact LSub_congr (fun i hi=>h i (by simpa [Cmp.ids,Cmp.leaves] using hi)) (hip.imp_left fun h=>h _ (by simp [Cmp.leaves])) hs
 ·exact LSubs_congr (fun z hz i hi=>h i (List.mem_flatMap.2 ⟨z,hz,hi⟩)) hip hs
 ·exact hs.elim
theorem CSubs_congr {s s':St} {σ:Ren} {hps:List (Nat × HObj)}:∀ {xs ys:List Cmp},(∀ x ∈ xs,∀ i ∈ x.ids,Okp s s' i) → ((∀ y ∈ ys,∀ l ∈ y.leaves,l.isIp = false) ∨ ∀ i,s'.hp i = s.hp i) → CSubs σ s hps xs ys → CSubs σ s' hps xs ys
 | [],[],_,_,h=>h
 | [],_ :: _,_,_,h=>h.elim
 | _ :: _,[],_,_,h=>h.elim
 | x :: xs,y :: ys,hh,hip,h=>⟨CSub_congr (hh x List.mem_cons_self) (hip.imp_left fun h=>h y List.mem_cons_self) h.1,CSubs_congr (fun z hz=>hh z (List.mem_cons_of_mem _ hz)) (hip.imp_left fun h z hz=>h z (List.mem_cons_of_mem _ hz)) h.2⟩
theorem SSub_congr {s s':St} {σ:Ren} {hps:List (Nat × HObj)} {x y:Slot} (h:∀ i ∈ x.ids,Okp s s' i) (hip:(∀ l ∈ y.lvs,l.isIp = false) ∨ ∀ i,s'.hp i = s.hp i) (hs:SSub σ s hps x y):SSub σ s' hps x y:=by
 unfold SSub at hs ⊢
 split at hs
 ·trivial
 ·exact CSub_congr h hip hs
 ·exact CSubs_congr (fun z hz i hi=>h i (List.mem_flatMap.2 ⟨z,hz,hi⟩)) (hip.imp_left fun h y hy l hl=>h l (List.mem_flatMap.2 ⟨y,hy,hl⟩)) hs
 ·exact hs.elim
theorem SSubs_congr {s s':St} {σ:Ren} {hps:List (Nat × HObj)}:∀ {xs ys:List Slot},(∀ x ∈ xs,∀ i ∈ x.ids,Okp s s' i) → ((∀ y ∈ ys,∀ l ∈ y.lvs,l.isIp = false) ∨ ∀ i,s'.hp i = s.hp i) → SSubs σ s hps xs ys → SSubs σ s' hps xs ys
 | [],[],_,_,h=>h
 | [],_ :: _,_,_,h=>h.elim
 | _ :: _,[],_,_,h=>h.elim
 | x :: xs,y :: ys,hh,hip,h=>⟨SSub_congr (hh x List.mem_cons_self) (hip.imp_left fun h=>h y List.mem_cons_self) h.1,SSubs_congr (fun z hz=>hh z (List.mem_cons_of_mem _ hz)) (hip.imp_left fun h z hz=>h z (List.mem_cons_of_mem _ hz)) h.2⟩
theorem allP_imp {α:Type} {p q:α → Prop}:∀ {l:List α},(∀ x ∈ l,p x → q x) → allP p l → allP q l
 | [],_,_=>trivial
 | x :: l,hh,h=>⟨hh x List.mem_cons_self h.1,allP_imp (fun y hy=>hh y (List.mem_cons_of_mem _ hy)) h.2⟩
theorem callArgs_mem {s:St} {c:Call} {f:Nat} {caps:List Nat} {x:Slot} (h:x ∈ callArgs s c f caps):x ∈ c.args.toList.map s.ev ∨ x ∈ caps.map fun o=>Slot.c (.v (.loc o 0)):=by
 unfold callArgs at h
 split at h
 ·exact List.mem_append.1 h
 ·exact (List.mem_append.1 h).symm
theorem callStep_congr {s s' : St} {o : Oper} {e : Eff} (hev : ∀ x ∈ Op.opds o.op, s'.ev x = s.ev x) (hhp : ∀ x ∈ Op.opds o.op, ∀ i ∈ (s.ev x).ids, s'.hp i = s.hp i) (hfr : ∀ k, freshOf o k → s'.hp k = s.hp k)
    (hW : pureAt Γ o = false → s'.hp = s.hp) (h : CallStep P Γ s o e) : CallStep P Γ s' o e := by
  obtain ⟨c, fo, f, caps, S, τ, vw, news, ho, hcal, hfo, hcb, hm, hok, hkp, rfl⟩ := h
  have hops : Op.opds o.op = fo :: c.args.toList := by rw [ho]; simp [Op.opds, hcal]
  have hca : callArgs s' c f caps = callArgs s c f caps := by
    unfold callArgs
    rw [List.map_congr_left fun x hx => hev x (by rw [hops]; exact List.mem_cons_of_mem _ hx)]
  have hids : ∀ x ∈ callArgs s c f caps, ∀ i ∈ x.ids, s'.hp i = s.hp i := fun x hx i hi => by
    rcases callArgs_mem hx with hx | hx
    · obtain ⟨y, hy, rfl⟩ := List.mem_map.1 hx
      exact hhp y (by rw [hops]; exact List.mem_cons_of_mem _ hy) i hi
    · obtain ⟨y, hy, rfl⟩ := List.mem_map.1 hx
      refine hhp fo (by rw [hops]; exact List.mem_cons_self) i ?_
      rw [hfo]
      simp [Slot.ids, Cmp.ids, Cmp.leaves, Leaf.ids] at hi ⊢
      subst hi; exact hy
  refine ⟨c, fo, f, caps, S, τ, vw, news, ho, hcal, (hev fo (by rw [hops]; exact List.mem_cons_self)).trans hfo, hcb, hm, ?_, fun x hx hk => ?_, rfl⟩
  rotate_left
  · have e : s'.hp x.1 = s.hp x.1 := by
      cases hp : pureAt Γ o with
      | false => rw [hW hp]
      | true =>
        have hτ := (hok.pure hp).1
        obtain ⟨y, hy, rfl⟩ := List.mem_map.1 hx
        have hd := allP_mem hok.dom y hy
        rw [hτ] at hd ⊢
        cases hl : lookL news y.1 with
        | none => exact absurd hl hd
        | some k =>
          have h1 := allP_mem hok.fresh _ (lookL_mem hl)
          have h2 : rnN ([].map (fun x : Nat × Nat => (x.2, x.1)) ++ news) y.1 = k := by
            show (lookL news y.1).getD y.1 = k
            rw [hl]; rfl
          dsimp only
          rw [h2]
          exact hfr k h1.2.2
    rw [e]
    exact hkp x hx hk
  rw [hca]
  cases hp : pureAt Γ o with
  | false =>
    have hh := hW hp
    refine ⟨fun h => (by rw [hp] at h; cases h), SSubs_congr (fun x hx i hi => ⟨hids x hx i hi, .inr hh⟩) (.inr fun i => by rw [hh]) hok.args, allP_imp (fun q _ hq => ?_) hok.objs, hok.nd0, hok.nd1, hok.nd2, hok.nd3, allP_imp (fun x _ hx => by rw [hh]; exact hx) hok.tau, hok.dom, allP_imp (fun x _ hx => by rw [hh]; exact hx) hok.fresh, hok.flat, fun h => (by rw [hp] at h; cases h)⟩
    unfold HSub at hq ⊢
    rw [hh]
    split
    · rename_i o2 hl
      rw [hl] at hq
      dsimp only at hq
      unfold OSub at hq ⊢
      split at hq <;> rename_i heq1 <;> first | trivial | skip
      · rename_i heq2
        obtain ⟨q1, q2⟩ := hq
        exact ⟨q1, LSubs_congr (fun _ _ i _ => ⟨by rw [hh], .inr hh⟩) (.inr fun i => by rw [hh]) q2⟩
      · rename_i heq2
        first
          | exact hq
          | (obtain ⟨q1, q2⟩ := hq
             exact ⟨q1, LSubs_congr (fun _ _ i _ => ⟨by rw [hh], .inr hh⟩) (.inr fun i => by rw [hh]) q2⟩)
      all_goals first
        | exact hq
        | (obtain ⟨q1, q2⟩ := hq
           exact ⟨q1, LSubs_congr (fun _ _ i _ => ⟨by rw [hh], .inr hh⟩) (.inr fun i => by rw [hh]) q2⟩)
    · rename_i hl
      rw [hl] at hq
      exact hq
  | true =>
    obtain ⟨hτ, hnoip⟩ := hok.pure hp
    have hnolit := hok.lt hp
    subst hτ
    refine ⟨fun _ x hx i hi => (by rw [hids x hx i hi]; exact hnolit x hx i hi), SSubs_congr (fun x hx i hi => ⟨hids x hx i hi, .inl (hnolit x hx i hi).2⟩) (.inl hnoip) hok.args, hok.objs, hok.nd0, hok.nd1, hok.nd2, hok.nd3, trivial, hok.dom, allP_imp (fun x _ hx => ⟨by rw [hfr x.2 hx.2.2]; exact hx.1, hx.2⟩) hok.fresh, hok.flat, fun _ => ⟨rfl, hnoip⟩⟩
theorem opX_congr {s s':St} {o:Oper} (hcl:∀ c f,o.op = .call c → c.callee ≠ .value f) (hev:∀ x ∈ Op.opds o.op,s'.ev x = s.ev x) (hhp:cls Γ o ≠ .N → ∀ x ∈ Op.opds o.op,∀ i ∈ (s.ev x).ids,s'.hp i = s.hp i) (hfr:cls Γ o ≠ .N → cls Γ o ≠ .R → ∀ k,freshOf o k → s'.hp k = s.hp k) (hno:noObj Γ s o):opX P Γ s' o = opX P Γ s o:=by
 have e1:(Op.opds o.op).map s'.ev = (Op.opds o.op).map s.ev:=List.map_congr_left hev
 cases hz:inL Γ.fz o.dst && isBuild o.op with
 | true=>rw[opX_z hz,opX_z hz,e1]
 | false =>
 cases ht:inL Γ.fz o.dst && isTake o.op with
 | true =>
  have hP:cls Γ o = .P:=by unfold cls; rw[hz,ht]; rfl
  have hN:cls Γ o ≠ .N:=by rw[hP]; simp
  have hR:cls Γ o ≠ .R:=by rw[hP]; simp
  have e2:(Op.opds o.op).map s'.arg = (Op.opds o.op).map s.arg:=List.map_congr_left fun x hx=>by
   unfold St.arg
   rw[hev x hx]
   congr 1
   exact List.map_congr_left fun i hi=>hhp hN x hx i hi
  have e3:isFree s'.hp o.dst = isFree s.hp o.dst:=by
   cases hd:o.dst with
   | none=>rfl
   | some d =>
    simp only[isFree]
    rw[hfr hN hR d ⟨d,0,hd,by simp⟩]
  rw[opX_t ht,opX_t ht,e2,e3]
 | false =>
 have hzt:=fz_cases hz ht
 rw[opX_nf hzt,opX_nf hzt]
 have hmvs:mvOp o.op = true → (Op.opds o.op).map s'.arg = (Op.opds o.op).map s.arg → orE (opE P o.op o.dst (isFree s'.hp o.dst) ((Op.opds o.op).map s'.arg)) (opY P o.op o.dst (isFree s'.hp o.dst) ((Op.opds o.op).map s'.arg)) = orE (opE P o.op o.dst (isFree s.hp o.dst) ((Op.opds o.op).map s.arg)) (opY P o.op o.dst (isFree s.hp o.dst) ((Op.opds o.op).map s.arg)):=fun h2 e2=>by
  rw[e2]
  unfold mvOp at h2
  split at h2 <;> rename_i hop <;> first | (cases h2; done) | (rw[hop]; simp only[opE,opY,opY0,opV])
 by_cases hN:cls Γ o = .N
 ·cases hmv:inL Γ.mv o.dst && mvOp o.op with
  | true =>
   rw[Bool.and_eq_true] at hmv
   exact hmvs hmv.2 (List.map_congr_left fun x hx=>by
    unfold St.arg
    rw[hev x hx,hno.1 hmv.1 x hx]; rfl)
  | false =>
   have hm:∀ s:St,((Op.opds o.op).map s.arg).map (·.1) = (Op.opds o.op).map s.ev:=fun s=>by rw[List.map_map]; rfl
   unfold cls at hN
   rw[hz,ht,hmv] at hN
   simp only[Bool.false_eq_true,if_false] at hN
   split at hN
   ·cases hN
   unfold cls0 at hN
   split at hN <;> rename_i hop <;> first | (cases hN; done) | (rw[hop]; simp only[opE,opY,opY0,opV]; rw[← hop,hm s',hm s,e1]) | (split at hN <;> cases hN)
 ·have e2:(Op.opds o.op).map s'.arg = (Op.opds o.op).map s.arg:=List.map_congr_left fun x hx=>by
   unfold St.arg
   rw[hev x hx]
   congr 1
   exact List.map_congr_left fun i hi=>hhp hN x hx i hi
  by_cases hR:cls Γ o = .R
  ·refine hmvs ?_ e2
   unfold cls at hR
   rw[hz,ht] at hR
   simp only[Bool.false_eq_true,if_false] at hR
   split at hR
   ·cases hR
   ·split at hR
    ·rename_i h; rw[Bool.and_eq_true] at h; exact h.2
    ·exact absurd hR cls0_R
  ·have e3:isFree s'.hp o.dst = isFree s.hp o.dst:=by
    cases hd:o.dst with
    | none=>rfl
    | some d =>
     simp only[isFree]
     rw[hfr hN hR d ⟨d,0,hd,by simp⟩]
   rw[e2,e3]
theorem adr_opds {op:Op} {k:Nat} (h:adrOf op = some k) : .tmp k ∈ Op.opds op:=by
 unfold adrOf at h
 split at h <;> first | (cases h; done) | (injection h with h; subst h; simp [Op.opds])
theorem adr_cls {o:Oper} {k:Nat} (h:adrOf o.op = some k) (hN:cls Γ o = .N):inL Γ.mv o.dst = true:=by
 unfold adrOf at h
 unfold cls cls0 at hN
 split at h <;> rename_i hop <;> first | (cases h; done) | skip
 all_goals
  rw[hop] at hN
  simp only[isBuild,isTake,mvOp,Bool.and_false,Bool.and_true,Bool.false_eq_true,if_false] at hN
 ·split at hN
  ·assumption
  ·split at hN <;> cases hN
 ·cases hN
theorem bt_congr {s s':St} {o:Oper} (hev:∀ x ∈ Op.opds o.op,s'.ev x = s.ev x) (hhp:cls Γ o ≠ .N → ∀ x ∈ Op.opds o.op,∀ i ∈ (s.ev x).ids,s'.hp i = s.hp i) (h:noObj Γ s o):btOK Γ s' o:=by
 intro k hk t ht i hi
 have hm:=adr_opds hk
 rw[hev _ hm] at hi
 by_cases hN:cls Γ o = .N
 ·have:=h.1 (adr_cls hk hN) _ hm
  rw[this] at hi; cases hi
 ·unfold btP
  rw[hhp hN _ hm i hi]
  exact h.2.2 k hk t ht i hi
theorem stp_congr {s s':St} {o:Oper} {e:Eff} (hev:∀ x ∈ Op.opds o.op,s'.ev x = s.ev x) (hhp:cls Γ o ≠ .N → ∀ x ∈ Op.opds o.op,∀ i ∈ (s.ev x).ids,s'.hp i = s.hp i) (hfr:cls Γ o ≠ .N → cls Γ o ≠ .R → ∀ k,freshOf o k → s'.hp k = s.hp k)
  (hW:cls Γ o = .W → s'.hp = s.hp) (h:Stp P Γ s o e):Stp P Γ s' o e:=by
 unfold Stp at h ⊢
 split at h
 ·rename_i f args ts hop
  have hc:cls Γ o = if pureAt Γ o then .A else .W:=by unfold cls cls0; rw[hop]; simp [mvOp,isBuild,isTake]
  have hN:cls Γ o ≠ .N:=by rw[hc]; split <;> simp
  have hR:cls Γ o ≠ .R:=by rw[hc]; split <;> simp
  exact callStep_congr hev (hhp hN) (hfr hN hR) (fun hp=>hW (by rw[hc,hp]; rfl)) h
 ·rename_i hno
  by_cases hN:cls Γ o = .N
  ·refine⟨?_,fun hm x hx=>by rw[hev x hx]; exact h.2.1 hm x hx,fun hm hb x hx i hi=>?_,bt_congr hev hhp h.2⟩
   ·rw[opX_congr (Γ:=Γ) (fun c f hop hcal=>by
     obtain⟨cl,as,ts⟩:=c
     dsimp only at hcal
     subst hcal
     exact hno _ _ _ hop) hev hhp hfr h.2]; exact h.1
   ·exfalso
    unfold cls at hN
    have hbl:isBuild o.op = false:=by
     rw[Bool.and_eq_true] at hb
     have hb:=hb.2
     unfold mvOp at hb
     split at hb <;> rename_i hop <;> first | (cases hb; done) | (rw[hop]; rfl)
    rw[hm,hb,hbl,Bool.and_false] at hN
    simp at hN
    split at hN <;> cases hN
  ·refine⟨?_,fun hm x hx=>by rw[hev x hx]; exact h.2.1 hm x hx,fun hm hb x hx i hi=>?_,bt_congr hev hhp h.2⟩
   ·rw[opX_congr (Γ:=Γ) (fun c f hop hcal=>by
     obtain⟨cl,as,ts⟩:=c
     dsimp only at hcal
     subst hcal
     exact hno _ _ _ hop) hev hhp hfr h.2]; exact h.1
   ·rw[hev x hx] at hi
    rw[hhp hN x hx i hi]
    exact h.2.2.1 hm hb x hx i hi
theorem valE {x:Slot} {e:Eff} (h:val x = some e):e.wr = []:=by simp only[val,Option.some.injEq] at h; rw[← h]
theorem valIfE {c:Prop} {x:Slot} {e:Eff} (h:valIf c x = some e):e.wr = []:=by simp only[valIf,Option.some.injEq] at h; rw[← h]
theorem valE' {x:Slot} {e:Eff} {c:Prop} (h:(some ⟨c,x,[]⟩:Option Eff) = some e):e.wr = []:=by simp only[Option.some.injEq] at h; rw[← h]
theorem intBinE {op:BinOp} {k:IntKind} {a b:Int} {e:Eff} (h:intBin op k a b = some e):e.wr = []:=by
 unfold intBin at h
 split at h <;> (try split at h) <;> first | exact valE h | exact valIfE h | cases h
theorem strBinE {op:BinOp} {a b:ByteArray} {e:Eff} (h:strBin op a b = some e):e.wr = []:=by
 unfold strBin at h
 split at h <;> first | exact valE h | exact valIfE h | cases h
theorem cls_take {o:Oper} (h:(inL Γ.fz o.dst && isTake o.op) = true):cls Γ o = .P:=by
 have h2:=h
 rw[Bool.and_eq_true] at h2
 have hb:isBuild o.op = false:=by
  have h3:=h2.2
  unfold isTake at h3
  split at h3 <;> rename_i hop <;> first | (cases h3; done) | (rw[hop]; rfl)
 unfold cls
 rw[hb,Bool.and_false,h]; rfl
theorem not_take {o:Oper} (h:cls Γ o ≠ .P):(inL Γ.fz o.dst && isTake o.op) = false:=by
 cases ht:inL Γ.fz o.dst && isTake o.op with
 | true=>exact absurd (cls_take ht) h
 | false=>rfl
theorem opS_N {s:St} {o:Oper} {e:Eff} (hN:cls Γ o = .N ∨ cls Γ o = .R) (h:Stp P Γ s o e):e.wr = []:=by
 have key:∀ (hnc:∀ f a t,o.op ≠ .call ⟨.value f,a,t⟩),opX P Γ s o = some e ∧ noObj Γ s o:=fun hnc=>by
  unfold Stp at h
  split at h
  ·rename_i f a t hop; exact absurd hop (hnc f a t)
  ·exact h
 cases hz:inL Γ.fz o.dst && isBuild o.op with
 | true =>
  have hb:isBuild o.op = true:=by rw[Bool.and_eq_true] at hz; exact hz.2
  have h1:=(key (by intro f a t hop; rw[hop] at hb; cases hb)).1
  rw[opX_z hz] at h1
  exact opZ_wr h1
 | false =>
 have ht:(inL Γ.fz o.dst && isTake o.op) = false:=not_take (by rcases hN with h | h <;> rw[h] <;> simp)
 rw[opX_nf (fz_cases hz ht)] at key
 cases h2:(inL Γ.mv o.dst || inL Γ.bx o.dst) && mvOp o.op with
 | true =>
  rw[Bool.and_eq_true] at h2
  have h2:=h2.2
  unfold mvOp at h2
  split at h2 <;> rename_i hop <;> first | (cases h2; done) | skip
  all_goals
   obtain⟨h,_⟩:=key (by simp [hop])
   rw[hop] at h
   simp only[opE,opY,opY0,opV,orE_r,orE_l] at h
  ·unfold opLoad at h
   split at h
   ·split at h
    ·rw[Option.bind_eq_some_iff] at h
     obtain⟨c,_,h⟩:=h
     exact (valE h)
    ·cases h
   ·split at h <;> (try split at h) <;> first | exact (valIfE h) | cases h
   ·split at h <;> (try split at h) <;> (try split at h) <;> first | exact (valIfE h) | cases h
   ·cases h
  ·rcases orE_cases h with h | h
   ·unfold opIndexAddr at h
    split at h <;> (try split at h) <;> (try split at h) <;> first | exact (valIfE h) | cases h
   ·exact nomatch h
  ·unfold opSlice at h
   split at h <;> (try split at h) <;> (try split at h) <;> first | exact (valE h) | exact (valIfE h) | cases h
  ·split at h
   ·unfold opLen at h
    split at h <;> (try split at h) <;> first | exact (valE h) | exact (valIfE h) | cases h
   ·cases h
 | false =>
 have hN:cls0 Γ o = .N:=by
  have e1:(inL Γ.mv o.dst && mvOp o.op) = false:=by
   cases h3:inL Γ.mv o.dst <;> cases h4:inL Γ.bx o.dst <;> cases h5:mvOp o.op <;> simp_all
  have e2:(inL Γ.bx o.dst && mvOp o.op) = false:=by
   cases h3:inL Γ.mv o.dst <;> cases h4:inL Γ.bx o.dst <;> cases h5:mvOp o.op <;> simp_all
  unfold cls at hN
  rw[hz,ht,e1,e2] at hN
  rcases hN with hN | hN
  ·exact hN
  ·exact absurd hN cls0_R
 unfold cls0 at hN
 split at hN <;> rename_i hop <;> first | (cases hN; done) | (split at hN <;> cases hN; done) | skip
 all_goals
  obtain⟨h,_⟩:=key (by simp [hop])
  rw[hop] at h
  simp only[opE,opY,opY0,opV,orE_r,orE_l] at h
 ·unfold opMove at h; split at h <;> first | exact valE h | cases h
 ·unfold opMove at h; split at h <;> first | exact valE h | cases h
 ·unfold opPick at h; split at h <;> first | exact valE h | cases h
 ·unfold opNil at h; split at h <;> first | exact valE h | cases h
 ·unfold opFieldAddr at h; split at h <;> (try split at h) <;> first | exact valE h | cases h
 ·unfold opField at h
  split at h
  ·split at h
   ·rw[Option.bind_eq_some_iff] at h
    obtain⟨c,_,h⟩:=h
    exact valE h
   ·cases h
  ·cases h
 ·rcases orE_cases h with h | h
  ·unfold opBin at h
   split at h
   ·split at h
    ·exact intBinE h
    ·cases h
   ·exact strBinE h
   all_goals first | cases h | (split at h <;> first | exact valE h | cases h)
  ·unfold opES at h
   split at h
   ·rename_i heq
    injection h with h
    subst h
    unfold opEqS at heq
    split at heq <;> (try split at heq) <;> (try split at heq) <;> (try split at heq) <;> (try split at heq) <;> first | exact valE heq | cases heq
   ·unfold opSh at h
    split at h <;> (try split at h) <;> (try split at h) <;> first | exact valE h | exact valIfE h | cases h
 ·unfold opUn at h; split at h <;> (try split at h) <;> first | exact valE h | exact valIfE h | cases h
 ·unfold opExtract at h; split at h <;> (try split at h) <;> first | exact valE h | cases h
 ·unfold opBuild at h; split at h <;> (try split at h) <;> (try split at h) <;> first | exact valE h | cases h
 ·unfold opIndex at h; split at h <;> (try split at h) <;> (try split at h) <;> (try split at h) <;> first | exact valIfE h | cases h
 ·unfold opMakeFunc at h; split at h <;> (try split at h) <;> first | exact valE h | cases h
 ·exact nomatch h
 ·exact nomatch h
theorem opS_A {s:St} {o:Oper} {e:Eff} (hA:cls Γ o = .A) (h:Stp P Γ s o e):∀ x ∈ e.wr,s.hp x.1 = none ∧ freshOf o x.1:=by
 have nil:e.wr = [] → ∀ x ∈ e.wr,s.hp x.1 = none ∧ freshOf o x.1:=fun h x hx=>by rw[h] at hx; cases hx
 have key:∀ (hnc:∀ f a t,o.op ≠ .call ⟨.value f,a,t⟩),e.wr = [] ∨ orE (opE P o.op o.dst (isFree s.hp o.dst) ((Op.opds o.op).map s.arg)) (opY P o.op o.dst (isFree s.hp o.dst) ((Op.opds o.op).map s.arg)) = some e:=fun hnc=>by
  unfold Stp at h
  split at h
  ·rename_i f a t hop; exact absurd hop (hnc f a t)
  ·cases hz:inL Γ.fz o.dst && isBuild o.op with
   | true=>rw[opX_z hz] at h; exact .inl (opZ_wr h.1)
   | false=>rw[opX_nf (fz_cases hz (not_take (by rw[hA]; simp)))] at h; exact .inr h.1
 unfold cls at hA
 split at hA
 ·cases hA
 split at hA
 ·cases hA
 split at hA
 ·cases hA
 split at hA
 ·cases hA
 unfold cls0 at hA
 split at hA <;> rename_i hop <;> first | (cases hA; done) | skip
 ·rcases key (by simp [hop]) with h | h
  ·exact nil h
  rw[hop] at h
  simp only[opE,opY,opY0,opV,orE_r,orE_l] at h
  unfold opLoad at h
  split at h
  ·split at h
   ·rw[Option.bind_eq_some_iff] at h
    obtain⟨c,_,h⟩:=h
    exact nil (valE h)
   ·cases h
  ·split at h <;> (try split at h) <;> first | exact nil (valIfE h) | cases h
  ·split at h <;> (try split at h) <;> (try split at h) <;> first | exact nil (valIfE h) | cases h
  ·cases h
 ·rcases key (by simp [hop]) with h | h
  ·exact nil h
  rw[hop] at h
  simp only[opE,opY,opY0,opV,orE_r,orE_l] at h
  rcases orE_cases h with h | h
  ·unfold opIndexAddr at h
   split at h <;> (try split at h) <;> (try split at h) <;> first | exact nil (valIfE h) | cases h
  ·exact nomatch h
 ·rename_i t
  rcases key (by simp [hop]) with h | h
  ·exact nil h
  rw[hop] at h
  simp only[opE,opY,opY0,opV,orE_r,Op.opds,List.map_nil] at h
  cases hdst:o.dst with
  | none=>simp [opAlloc,hdst] at h
  | some d =>
   cases hz:zeroLeaves P t with
   | none=>simp [opAlloc,hz] at h
   | some cs =>
    simp only[opAlloc,hdst,hz] at h
    split at h
    ·rename_i hf
     simp only[Option.some.injEq] at h
     subst h
     intro x hx
     simp at hx
     subst hx
     exact⟨(by simpa [isFree] using hf:_ ∧ _).1,d,0,hdst,by simp⟩
    ·cases h
 ·rcases key (by simp [hop]) with h | h
  ·exact nil h
  rw[hop] at h
  simp only[opE,opY,opY0,opV,orE_r,orE_l] at h
  cases hdst:o.dst with
  | none =>
   rcases orE_cases h with h | h
   ·simp [opBuildSlice,hdst] at h
   ·simp [opBuildLit,hdst] at h
  | some d =>
   rcases orE_cases h with h | h
   ·unfold opBuildSlice at h
    rw[hdst] at h
    split at h
    ·rename_i e' z d' _ hdd
     injection hdd with hdd
     subst hdd
     split at h
     ·rename_i hc
      split at h
      ·simp only[Option.some.injEq] at h
       subst h
       intro x hx
       simp at hx
       subst hx
       exact⟨(by simpa [isFree] using hc.2.1:_ ∧ _).1,d,0,hdst,by simp⟩
      ·cases h
     ·cases h
    ·cases h
   ·unfold opBuildLit at h
    rw[hdst] at h
    split at h
    ·rename_i e' z d' _ hdd
     injection hdd with hdd
     subst hdd
     split at h
     ·rename_i hc
      split at h
      ·simp only[Option.some.injEq] at h
       subst h
       intro x hx
       simp at hx
       subst hx
       exact⟨(by simpa [isFree] using hc.2.1:_ ∧ _).1,d,0,hdst,by simp⟩
      ·cases h
     ·cases h
    ·cases h
 ·rename_i t rs
  rcases key (by simp [hop]) with h | h
  ·exact nil h
  rw[hop] at h
  simp only[opE,opY,opY0,opV,orE_r,orE_l] at h
  exact nomatch h
 ·rcases key (by simp [hop]) with h | h
  ·exact nil h
  rw[hop] at h
  simp only[opE,opY,opY0,opV,orE_r,orE_l] at h
  rcases orE_cases h with h | h
  ·exact nomatch h
  ·split at h
   all_goals first | (rename_i heq; cases heq; done) | skip
   ·exact nomatch h
   all_goals cases h
 ·rcases key (by simp [hop]) with h | h
  ·exact nil h
  rw[hop] at h
  simp only[opE,opY,opY0,opV,orE_r,orE_l] at h
  unfold opSlice at h
  split at h <;> (try split at h) <;> (try split at h) <;> first | exact nil (valE h) | exact nil (valIfE h) | cases h
 ·rcases key (by simp [hop]) with h | h
  ·exact nil h
  rw[hop] at h
  simp only[opE,opY,opY0,opV,orE_r,orE_l] at h
  rcases orE_cases h with h | h
  ·unfold opConv at h; split at h <;> (try split at h) <;> (try split at h) <;> first | exact nil (valE h) | cases h
  ·unfold opBytes at h
   split at h
   ·rename_i heq
    injection h with h
    subst h
    exact nil (opCB_wr heq)
   ·unfold opBytes0 at h
    split at h <;> (try split at h) <;> (try split at h) <;> first | exact nil (valE' h) | cases h
 ·rcases key (by simp [hop]) with h | h
  ·exact nil h
  rw[hop] at h
  simp only[opE,opY,opY0,opV,orE_r,orE_l] at h
  unfold opBox at h
  split at h
  ·split at h
   ·rename_i d n hdst hn
    split at h
    ·rename_i hc
     simp only[Option.some.injEq] at h
     subst h
     intro x hx
     simp at hx
     subst hx
     have hf:=hc.1
     rw[hdst] at hf
     exact⟨(by simpa [isFree] using hf:_ ∧ _).1,d,0,hdst,by simp⟩
    ·cases h
   ·cases h
  ·cases h
 ·rcases key (by simp [hop]) with h | h
  ·exact nil h
  rw[hop] at h
  simp only[opE,opY,opY0,opV,orE_r,orE_l] at h
  exact nomatch h
 ·rcases key (by simp [hop]) with h | h
  ·exact nil h
  rw[hop] at h
  simp only[opE,opY,opY0,opV,orE_r,orE_l] at h
  split at h
  ·unfold opLen at h
   split at h <;> (try split at h) <;> first | exact nil (valE h) | exact nil (valIfE h) | cases h
  ·cases h
 ·split at hA
  ·rename_i hp
   unfold Stp at h
   rw[hop] at h
   obtain⟨c,fo,f,caps,S,τ,vw,news,ho,hcal,hfo,hcb,hm,hok,hkp,rfl⟩:=h
   have hτ:=(hok.pure hp).1
   subst hτ
   intro x hx
   obtain⟨y,hy,rfl⟩:=List.mem_map.1 hx
   have hd:=allP_mem hok.dom y hy
   cases hl:lookL news y.1 with
   | none=>exact absurd hl hd
   | some k =>
    have h1:=allP_mem hok.fresh _ (lookL_mem hl)
    have h2:rnN ([].map (fun x:Nat × Nat=>(x.2,x.1)) ++ news) y.1 = k:=by
     show (lookL news y.1).getD y.1 = k
     rw[hl]; rfl
    dsimp only
    rw[h2]
    exact⟨h1.1,h1.2.2⟩
  ·cases hA
theorem opTk_wr {s:St} {o:Oper} {e:Eff} (h:opTk P o.op o.dst (isFree s.hp o.dst) ((Op.opds o.op).map s.arg) = some e):∀ x ∈ e.wr,(s.hp x.1 = none ∨ ∀ t cs,s.hp x.1 ≠ some (.box t cs)) ∧ (∀ t cs,x.2 ≠ .box t cs) ∧ ((∀ t z l,x.2 ≠ .arr t z l) ∨ s.hp x.1 = none):=by
 have hfree:∀ d,o.dst = some d → isFree s.hp o.dst = true → s.hp d = none:=fun d hd hf=>by
  rw[hd] at hf
  exact (by simpa [isFree] using hf:_ ∧ _).1
 unfold opTk at h
 split at h <;> rename_i hop
 ·exact nomatch h
 ·rw[hop] at h
  simp only[Op.opds,List.map_cons,List.map_nil] at h
  exact nomatch h
 ·rw[hop] at h
  simp only[Op.opds,List.map_cons] at h
  unfold opCutO at h
  split at h
  ·rename_i ob e' z' l as heq
   simp only[List.cons.injEq] at heq
   have hob:s.hp ob = some (.arr e' z' l):=by simpa [Slot.ids,Cmp.ids,Cmp.leaves,Leaf.ids] using (St.arg_eq heq.1).2
   split at h
   ·rename_i hdst
    split at h
    ·rename_i hc
     simp only[Option.some.injEq] at h
     subst h
     have hn:=hfree _ hdst hc.2
     intro x hx
     simp at hx
     rcases hx with rfl | rfl
     ·exact⟨.inr (by rw[hob]; simp),by simp,.inl (by simp)⟩
     ·exact⟨.inl hn,by simp,.inr hn⟩
    ·cases h
   ·cases h
  ·cases h
 ·rw[hop] at h
  simp only[Op.opds,List.map_nil] at h
  exact nomatch h
 ·rw[hop] at h
  simp only[Op.opds,Option.toList,List.map_nil] at h
  exact nomatch h
 ·rw[hop] at h
  exact nomatch h
 ·rename_i as ts
  split at h
  ·split at h
   ·rw[hop] at h
    simp only[Op.opds,List.nil_append] at h
    unfold opAppZ at h
    split at h
    ·rename_i ob e0 z l y heq
     have hob:s.hp ob = some (.arr e0 z l):=by
      cases hl:as.toList with
      | nil=>rw[hl] at heq; cases heq
      | cons x r =>
       rw[hl,List.map_cons] at heq
       injection heq with h1 h2
       injection h1 with h3 h4
       rw[h3] at h4
       simpa [Slot.ids,Cmp.ids,Cmp.leaves,Leaf.ids] using h4
     split at h
     ·split at h
      ·simp only[Option.some.injEq] at h
       subst h
       intro x hx
       simp at hx
       subst hx
       exact⟨.inr (by rw[hob]; simp),by simp,.inl (by simp)⟩
      ·cases h
     ·cases h
    ·cases h
   ·cases h
  ·cases h
 ·cases h
theorem opS_P {s:St} {o:Oper} {e:Eff} (hP:cls Γ o = .P) (h:Stp P Γ s o e):∀ x ∈ e.wr,(s.hp x.1 = none ∨ ∀ t cs,s.hp x.1 ≠ some (.box t cs)) ∧ (∀ t cs,x.2 ≠ .box t cs) ∧ ((∀ t z l,x.2 ≠ .arr t z l) ∨ s.hp x.1 = none):=by
 cases ht:inL Γ.fz o.dst && isTake o.op with
 | true =>
  have h1:opX P Γ s o = some e:=by
   unfold Stp at h
   split at h
   ·rename_i hop
    rw[Bool.and_eq_true] at ht
    have:=ht.2
    rw[hop] at this; cases this
   ·exact h.1
  rw[opX_t ht] at h1
  exact opTk_wr h1
 | false =>
 unfold cls at hP
 split at hP
 ·cases hP
 rename_i hz
 rw[ht] at hP
 rw[if_neg (by simp)] at hP
 split at hP
 ·cases hP
 split at hP
 ·cases hP
 unfold cls0 at hP
 split at hP <;> rename_i hop <;> first | (cases hP; done) | (split at hP <;> cases hP; done) | skip
 rename_i as ts
 unfold Stp at h
 rw[hop] at h
 obtain⟨h,_⟩:=h
 rw[opX_nf (fz_cases (by simpa using hz) ht)] at h
 rw[hop] at h
 simp only[opE,opY,opY0,opV,orE_r,orE_l,Op.opds,List.nil_append] at h
 have key:∀ t,opAppend P t o.dst (isFree s.hp o.dst) (as.toList.map s.arg) = some e → ∀ x ∈ e.wr,(s.hp x.1 = none ∨ ∀ t cs,s.hp x.1 ≠ some (.box t cs)) ∧ (∀ t cs,x.2 ≠ .box t cs) ∧ ((∀ t z l,x.2 ≠ .arr t z l) ∨ s.hp x.1 = none):=by
  intro t h
  have hfree:∀ d,o.dst = some d → isFree s.hp o.dst = true → s.hp d = none:=fun d hd hf=>by
   rw[hd] at hf
   exact (by simpa [isFree] using hf:_ ∧ _).1
  unfold opAppend at h
  split at h
  ·rename_i ob e0 z l y heq
   have hob:s.hp ob = some (.arr e0 z l):=by
    cases hl:as.toList with
    | nil=>rw[hl] at heq; cases heq
    | cons x r =>
     rw[hl,List.map_cons] at heq
     injection heq with h1 h2
     injection h1 with h3 h4
     rw[h3] at h4
     simpa [Slot.ids,Cmp.ids,Cmp.leaves,Leaf.ids] using h4
   split at h
   ·rename_i e' z' m d _ _ hd
    split at h
    ·rename_i hc
     simp only[Option.some.injEq] at h
     subst h
     intro x hx
     simp at hx
     rcases hx with rfl | rfl
     ·exact⟨.inr (by rw[hob]; simp),by simp⟩
     ·exact⟨.inl (hfree d hd hc.2.2),by simp,.inr (hfree d hd hc.2.2)⟩
    ·cases h
   ·cases h
  ·split at h
   ·rename_i e' z' m d _ _ hd
    split at h
    ·rename_i hc
     simp only[Option.some.injEq] at h
     subst h
     intro x hx
     simp at hx
     subst hx
     exact⟨.inl (hfree d hd hc),by simp,.inr (hfree d hd hc)⟩
    ·cases h
   ·cases h
  ·cases h
 have keyT:∀ t,opAppT P t o.dst (isFree s.hp o.dst) (as.toList.map s.arg) = some e → ∀ x ∈ e.wr,(s.hp x.1 = none ∨ ∀ t cs,s.hp x.1 ≠ some (.box t cs)) ∧ (∀ t cs,x.2 ≠ .box t cs) ∧ ((∀ t z l,x.2 ≠ .arr t z l) ∨ s.hp x.1 = none):=by
  intro t h
  unfold opAppT at h
  split at h
  ·split at h
   ·rename_i hd
    split at h
    ·rename_i hc
     simp only[Option.some.injEq] at h
     subst h
     intro x hx
     simp at hx
     subst hx
     rw[hd] at hc
     have hn:=(by simpa [isFree] using hc:_ ∧ _).1
     exact⟨.inl hn,by simp,.inr hn⟩
    ·cases h
   ·cases h
  ·cases h
 have keyI:∀ t t',opAppI P t t' o.dst (isFree s.hp o.dst) (as.toList.map s.arg) = some e → ∀ x ∈ e.wr,(s.hp x.1 = none ∨ ∀ t cs,s.hp x.1 ≠ some (.box t cs)) ∧ (∀ t cs,x.2 ≠ .box t cs) ∧ ((∀ t z l,x.2 ≠ .arr t z l) ∨ s.hp x.1 = none):=by
  intro t t' h
  unfold opAppI at h
  split at h
  ·split at h
   ·rename_i hd
    split at h
    ·split at h
     ·rename_i hc
      simp only[Option.some.injEq] at h
      subst h
      intro x hx
      simp at hx
      subst hx
      rw[hd] at hc
      have hn:=(by simpa [isFree] using hc.1:_ ∧ _).1
      exact⟨.inl hn,by simp,.inr hn⟩
     ·cases h
    ·cases h
   ·cases h
  ·cases h
 rcases orE_cases h with h | h
 ·split at h
  ·split at h
   ·exact key _ h
   ·cases h
  ·cases h
 ·split at h
  ·split at h
   ·exact keyT _ h
   ·exact keyI _ _ h
  ·cases h
theorem effA_congr {s s':St} {o:Oper} {e:Eff} (hg:wantA ops s' o = wantA ops s o) (h:Stp P Γ s o e → Stp P Γ s' o e):EffR P Γ ops s o e → EffR P Γ ops s' o e:=by
 rintro (⟨h1,h2⟩ | ⟨h1,h2⟩)
 ·exact .inl ⟨hg.trans h1,h h2⟩
 ·exact .inr ⟨hg.trans h1,h2⟩
theorem app_tm (s:St) (d:Option Nat) (e:Eff) (t:Nat):(s.app d e).tm t = if d = some t then e.res else s.tm t:=by
 cases d with
 | none=>rfl
 | some k =>
  show upd s.tm k e.res t = _
  unfold upd
  by_cases h:t = k
  ·subst h; simp
  ·rw[if_neg h,if_neg (fun e=>h (by injection e with e; exact e.symm))]
theorem app_ev {s:St} {d:Option Nat} {e:Eff} {x:Operand} (h:∀ k,d = some k → x ≠ .tmp k):(s.app d e).ev x = s.ev x:=by
 cases x with
 | tmp t =>
  show (s.app d e).tm t = s.tm t
  rw[app_tm,if_neg (fun hd=>h t hd rfl)]
 | _=>rfl
theorem updL_other (hp:Hp):∀ (l:List (Nat × HObj)) (k:Nat),(∀ x ∈ l,x.1 ≠ k) → updL hp l k = hp k
 | [],_,_=>rfl
 | x :: l,k,h=>by
  show updL (upd hp x.1 (some x.2)) l k = hp k
  rw[updL_other _ l k fun y hy=>h y (List.mem_cons_of_mem _ hy)]
  unfold upd
  rw[if_neg (fun e=>h x List.mem_cons_self e.symm)]
theorem updL_upd:∀ (m:List (Nat × HObj)) (hp:Hp) (k:Nat) (v:HObj),(∀ y ∈ m,k ≠ y.1) → updL (upd hp k (some v)) m = upd (updL hp m) k (some v)
 | [],_,_,_,_=>rfl
 | y :: m,hp,k,v,hx=>by
  show updL (upd (upd hp k (some v)) y.1 (some y.2)) m = upd (updL (upd hp y.1 (some y.2)) m) k (some v)
  rw[← updL_upd m _ k v fun z hz=>hx z (List.mem_cons_of_mem _ hz)]
  congr 1
  funext j
  have:=hx y List.mem_cons_self
  unfold upd
  by_cases h1:j = y.1
  ·rw[if_pos h1,if_neg (fun e=>this (e.symm.trans h1)),if_pos h1]
  ·rw[if_neg h1]
   by_cases h2:j = k
   ·rw[if_pos h2,if_pos h2]
   ·rw[if_neg h2,if_neg h2,if_neg h1]
theorem updL_comm:∀ (l m:List (Nat × HObj)) (hp:Hp),(∀ x ∈ l,∀ y ∈ m,x.1 ≠ y.1) → updL (updL hp l) m = updL (updL hp m) l
 | [],m,hp,_=>rfl
 | x :: l,m,hp,h=>by
  show updL (updL (upd hp x.1 (some x.2)) l) m = updL (upd (updL hp m) x.1 (some x.2)) l
  rw[updL_comm l m _ fun a ha b hb=>h a (List.mem_cons_of_mem _ ha) b hb]
  congr 1
  exact updL_upd m hp x.1 x.2 (h x List.mem_cons_self)
theorem eff_wr {s:St} {o:Oper} {e:Eff} (h:EffR P Γ ops s o e):(cls Γ o = .N ∨ cls Γ o = .R → e.wr = []) ∧ (cls Γ o = .A → ∀ x ∈ e.wr,s.hp x.1 = none ∧ freshOf o x.1) ∧ (cls Γ o = .P → ∀ x ∈ e.wr,(s.hp x.1 = none ∨ ∀ t cs,s.hp x.1 ≠ some (.box t cs)) ∧ (∀ t cs,x.2 ≠ .box t cs) ∧ ((∀ t z l,x.2 ≠ .arr t z l) ∨ s.hp x.1 = none)):=by
 rcases h with⟨_,h⟩ | ⟨_,rfl⟩
 ·exact⟨fun hN=>opS_N hN h,fun hA=>opS_A hA h,fun hP=>opS_P hP h⟩
 ·exact⟨fun _=>rfl,(fun _ x hx=>by cases hx),(fun _ x hx=>by cases hx)⟩
theorem guard_app {s:St} {oi oj:Oper} {ei:Eff} (h1:∀ d,oi.dst = some d → d ∉ oj.looksAt ops.toArray):wantA ops (s.app oi.dst ei) oj = wantA ops s oj:=by
 unfold wantA
 cases hg:oj.guard with
 | none=>rfl
 | some gb =>
  obtain⟨g,b⟩:=gb
  have:guardSlot ops (s.app oi.dst ei) g = guardSlot ops s g:=by
   unfold guardSlot
   cases hd:(ops[g]?).bind (·.dst) with
   | none=>rfl
   | some d =>
    dsimp only
    rw[app_tm,if_neg]
    intro he
    refine h1 d he ?_
    unfold Oper.looksAt
    refine List.mem_append_right _ ?_
    rw[hg]
    have:((ops.toArray[g]?).bind (·.dst)) = some d:=by simpa using hd
    simp [hd]
  simp only[this]
theorem updL_nobox:∀ (l:List (Nat × HObj)) (hp:Hp) (i:Nat),(∀ x ∈ l,∀ t cs,x.2 ≠ .box t cs) → ∀ {t:TypeId} {cs:List Leaf},updL hp l i = some (.box t cs) → updL hp l i = hp i
 | [],_,_,_,_,_,_=>rfl
 | x :: l,hp,i,h,t,cs,he=>by
  have he:updL (upd hp x.1 (some x.2)) l i = some (.box t cs):=he
  show updL (upd hp x.1 (some x.2)) l i = _
  have:=updL_nobox l _ i (fun y hy=>h y (List.mem_cons_of_mem _ hy)) he
  rw[this]
  rw[this] at he
  unfold upd at he ⊢
  by_cases hi:i = x.1
  ·rw[if_pos hi] at he
   injection he with he
   exact absurd he (h x List.mem_cons_self t cs)
  ·rw[if_neg hi]
theorem updL_noarr:∀ (l:List (Nat × HObj)) (hp:Hp) (i:Nat),(∀ x ∈ l,x.1 = i → ∀ t z l,x.2 ≠ .arr t z l) → ∀ {t:TypeId} {z:Nat} {cs:List (List PV)},updL hp l i = some (.arr t z cs) → updL hp l i = hp i
 | [],_,_,_,_,_,_,_=>rfl
 | x :: l,hp,i,h,t,z,cs,he=>by
  have he:updL (upd hp x.1 (some x.2)) l i = some (.arr t z cs):=he
  show updL (upd hp x.1 (some x.2)) l i = _
  have:=updL_noarr l _ i (fun y hy=>h y (List.mem_cons_of_mem _ hy)) he
  rw[this]
  rw[this] at he
  unfold upd at he ⊢
  by_cases hi:i = x.1
  ·rw[if_pos hi] at he
   injection he with he
   exact absurd he (h x List.mem_cons_self hi.symm t z cs)
  ·rw[if_neg hi]
theorem eff_after {s:St} {oi oj:Oper} {ei ej:Eff} (hwf:WF s) (hap:oi.apart ops.toArray oj = true) (hc:compat0 Γ oi oj = true) (hbi:∀ d:Nat,oi.dst = some d → d < 10000) (hbj:∀ d:Nat,oj.dst = some d → d < 10000)
  (hi:EffR P Γ ops s oi ei):(EffR P Γ ops (s.app oi.dst ei) oj ej → EffR P Γ ops s oj ej) ∧ ((isSl oj.op = true → cls Γ oi ≠ .P) → EffR P Γ ops s oj ej → EffR P Γ ops (s.app oi.dst ei) oj ej):=by
 obtain⟨h1,h2,h3⟩:=Oper.apart_spec hap
 have hev:∀ x ∈ Op.opds oj.op,(s.app oi.dst ei).ev x = s.ev x:=fun x hx=>app_ev fun k hk hxk=>h1 k hk (looks_sub (by rw[← hxk]; exact hx))
 have hcases:ei.wr = [] ∨ cls Γ oj = .N ∨ (cls Γ oi = .A ∧ (cls Γ oj = .A ∨ cls Γ oj = .R)) ∨ (cls Γ oi = .P ∧ cls Γ oj = .R):=by
  have hc:=compat_c hc
  have hw:=(eff_wr hi).1
  cases hci:cls Γ oi <;> cases hcj:cls Γ oj <;> rw[hci,hcj] at hc <;> first | (cases hc; done) | (exact .inl (hw (.inl hci))) | (exact .inl (hw (.inr hci))) | (exact .inr (.inl rfl)) | (exact .inr (.inr (.inl ⟨rfl,.inl rfl⟩))) | (exact .inr (.inr (.inl ⟨rfl,.inr rfl⟩))) | (exact .inr (.inr (.inr ⟨rfl,rfl⟩)))
 have hRb:cls Γ oj = .R → EffR P Γ ops s oj ej ∨ EffR P Γ ops (s.app oi.dst ei) oj ej → True:=fun _ _=>trivial
 rcases hcases with hw | hN | hA | hP
 ·
  have hh:(s.app oi.dst ei).hp = s.hp:=by show updL s.hp ei.wr = s.hp; rw[hw]; rfl
  constructor
  ·exact effA_congr (guard_app h1).symm (stp_congr (fun x hx=>(hev x hx).symm) (fun _ x hx i hid=>by rw[hh]) (fun _ _ k hk=>by rw[hh]) (fun _=>hh.symm))
  ·intro _
   exact effA_congr (guard_app h1) (stp_congr hev (fun _ x hx i hid=>by rw[hh]) (fun _ _ k hk=>by rw[hh]) (fun _=>hh))
 ·constructor
  ·exact effA_congr (guard_app h1).symm (stp_congr (fun x hx=>(hev x hx).symm) (fun h=>absurd hN h) (fun h=>absurd hN h) (fun h=>by rw[hN] at h; cases h))
  ·intro _
   exact effA_congr (guard_app h1) (stp_congr hev (fun h=>absurd hN h) (fun h=>absurd hN h) (fun h=>by rw[hN] at h; cases h))
 ·obtain⟨hA,hj⟩:=hA
  have hnW:cls Γ oj ≠ .W:=by rcases hj with h | h <;> rw[h] <;> simp
  have hhp:∀ x ∈ Op.opds oj.op,∀ i ∈ (s.ev x).ids,(s.app oi.dst ei).hp i = s.hp i:=fun x hx i hid=>by
   refine updL_other _ _ _ fun y hy he=>?_
   have h5:=((eff_wr hi).2.1 hA y hy).1
   have h6:=hwf.ev x i hid
   rw[← he] at h6
   exact h6 h5
  have hfr:∀ k,freshOf oj k → (s.app oi.dst ei).hp k = s.hp k:=fun k hk=>by
   refine updL_other _ _ _ fun y hy he=>?_
   obtain⟨d,m,hd,hm⟩:=((eff_wr hi).2.1 hA y hy).2
   obtain⟨d',m',hd',hm'⟩:=hk
   have b1:=hbi d hd
   have b2:=hbj d' hd'
   have:d = d':=by omega
   subst this
   exact h2 d hd hd'
  constructor
  ·exact effA_congr (guard_app h1).symm (stp_congr (fun x hx=>(hev x hx).symm) (fun hN x hx i hid=>(hhp x hx i (by rw[← hev x hx]; exact hid)).symm) (fun hN _ k hk=>(hfr k hk).symm) (fun h=>absurd h hnW))
  ·intro _
   exact effA_congr (guard_app h1) (stp_congr hev (fun _=>hhp) (fun _ _=>hfr) (fun h=>absurd h hnW))
 ·obtain⟨hP,hR⟩:=hP
  have hnW:cls Γ oj ≠ .W:=by rw[hR]; simp
  have hbx:inL Γ.mv oj.dst = false ∨ inL Γ.mv oj.dst = true:=by cases inL Γ.mv oj.dst <;> simp
  have hRR:inL Γ.mv oj.dst = false ∧ (inL Γ.bx oj.dst && mvOp oj.op) = true ∨ ∀ q,mvOp oj.op = q → (inL Γ.mv oj.dst && q) = false ∧ (inL Γ.bx oj.dst && q) = true:=by
   right
   rintro q rfl
   have hR':=hR
   unfold cls at hR'
   split at hR'
   ·cases hR'
   split at hR'
   ·cases hR'
   split at hR'
   ·cases hR'
   ·rename_i h
    split at hR'
    ·rename_i h'; exact⟨by simpa using h,h'⟩
    ·exact absurd hR' cls0_R
  have hb:(inL Γ.mv oj.dst && mvOp oj.op) = false ∧ (inL Γ.bx oj.dst && mvOp oj.op) = true:=by
   rcases hRR with⟨h,h'⟩ | h
   ·exact⟨by rw[h]; rfl,h'⟩
   ·exact h _ rfl
  have hmvf:inL Γ.mv oj.dst = false:=by
   have h5:=hb.1
   have h6:=hb.2
   rw[Bool.and_eq_true] at h6
   rw[h6.2] at h5
   simpa using h5
  have hPc:=hP
  have hP:=(eff_wr hi).2.2 hP
  have hupd:∀ i,(∃ t cs,s.hp i = some (.box t cs)) → (s.app oi.dst ei).hp i = s.hp i:=fun i ⟨t,cs,hi2⟩=>by
   refine updL_other _ _ _ fun y hy he=>?_
   rcases (hP y hy).1 with h | h
   ·rw[he,hi2] at h; cases h
   ·exact h t cs (by rw[he,hi2])
  have hback:∀ i,(∃ t cs,(s.app oi.dst ei).hp i = some (.box t cs)) → (s.app oi.dst ei).hp i = s.hp i:=fun i ⟨t,cs,hi2⟩ =>
   updL_nobox _ _ _ (fun y hy=>(hP y hy).2.1) hi2
  have hback2:∀ i,s.hp i ≠ none → (∃ t z l,(s.app oi.dst ei).hp i = some (.arr t z l)) → (s.app oi.dst ei).hp i = s.hp i:=fun i hn ⟨t,z,l,hi2⟩ =>
   updL_noarr _ _ _ (fun y hy he=>by
    rcases (hP y hy).2.2 with h | h
    ·exact h
    ·rw[he] at h; exact absurd h hn) hi2
  have hno:∀ s,Stp P Γ s oj ej → ∀ x ∈ Op.opds oj.op,∀ i ∈ (s.ev x).ids,if isSl oj.op = true then ∃ t z l,s.hp i = some (.arr t z l) else ∃ t cs,s.hp i = some (.box t cs):=fun s h=>by
   have hmo:mvOp oj.op = true:=by have h6:=hb.2; rw[Bool.and_eq_true] at h6; exact h6.2
   unfold Stp at h
   split at h
   ·rename_i hop; rw[hop] at hmo; cases hmo
   ·exact h.2.2.1 hmvf hb.2
  constructor
  ·exact effA_congr (guard_app h1).symm fun hst=>stp_congr (fun x hx=>(hev x hx).symm) (fun _ x hx i hid=>by
    have h7:=hno _ hst x hx i hid
    have h8:s.hp i ≠ none:=hwf.ev x i (by rw[← hev x hx]; exact hid)
    split at h7
    ·exact (hback2 i h8 h7).symm
    ·exact (hback i h7).symm) (fun _ h=>absurd hR h) (fun h=>absurd h hnW) hst
  ·intro hsl
   have hsl':isSl oj.op = false:=by
    cases h:isSl oj.op with
    | false=>rfl
    | true=>exact absurd hPc (hsl h)
   exact effA_congr (guard_app h1) fun hst=>stp_congr hev (fun _ x hx i hid=>by
    have h7:=hno _ hst x hx i hid
    rw[hsl',if_neg (by simp)] at h7
    exact hupd i h7) (fun _ h=>absurd hR h) (fun h=>absurd h hnW) hst
theorem eff_nowr {s:St} {oi oj:Oper} {ei ej:Eff} (hap:oj.apart ops.toArray oi = true) (hw:ej.wr = []) (hi:EffR P Γ ops s oi ei):EffR P Γ ops (s.app oj.dst ej) oi ei:=by
 obtain⟨h1,h2,h3⟩:=Oper.apart_spec hap
 have hev:∀ x ∈ Op.opds oi.op,(s.app oj.dst ej).ev x = s.ev x:=fun x hx=>app_ev fun k hk hxk=>h1 k hk (looks_sub (by rw[← hxk]; exact hx))
 have hh:(s.app oj.dst ej).hp = s.hp:=by show updL s.hp ej.wr = s.hp; rw[hw]; rfl
 exact effA_congr (guard_app h1) (stp_congr hev (fun _ x hx i hid=>by rw[hh]) (fun _ _ k hk=>by rw[hh]) (fun _=>hh)) hi
theorem LSubP_mono {s s':St} {σ:Ren} {x:Leaf} {p:PV} (h:∀ i,s.hp i ≠ none → s'.hp i = s.hp i) (hs:LSubP σ s x p):LSubP σ s' x p:=by
 unfold LSubP at hs ⊢
 split at hs <;> first | exact hs | trivial | skip
 ·rename_i o l
  have hn:s.hp o ≠ none:=fun e=>by rw[e] at hs; exact hs.1.elim
  rw[h o hn]; exact hs
 ·rename_i o k m
  have hn:s.hp o ≠ none:=fun e=>by rw[e] at hs; exact hs.1.elim
  rw[h o hn]; exact hs
theorem LSubsP_mono {s s':St} {σ:Ren} (h:∀ i,s.hp i ≠ none → s'.hp i = s.hp i):∀ {xs:List Leaf} {ps:List PV},LSubsP σ s xs ps → LSubsP σ s' xs ps
 | [],[],hs=>hs
 | [],_ :: _,hs=>hs.elim
 | _ :: _,[],hs=>hs.elim
 | _ :: _,_ :: _,hs=>⟨LSubP_mono h hs.1,LSubsP_mono h hs.2⟩
theorem litP_mono {s s':St} {σ:Ren} (h:∀ i,s.hp i ≠ none → s'.hp i = s.hp i):∀ {xs:List Leaf} {l:List (List PV)},litP σ s xs l → litP σ s' xs l
 | [],[],hs=>hs
 | [],_ :: _,hs=>hs.elim
 | _ :: _,[],hs=>hs.elim
 | _ :: _,y :: _,hs=>by
  refine⟨?_,litP_mono h hs.2⟩
  have h1:=hs.1
  split at h1
  ·exact LSubP_mono h h1
  ·exact h1.elim
theorem LSub_mono {s s':St} {σ:Ren} {hps:List (Nat × HObj)} {x y:Leaf} (h:∀ i,s.hp i ≠ none → s'.hp i = s.hp i) (hs:LSub σ s hps x y):LSub σ s' hps x y:=by
 unfold LSub at hs ⊢
 split at hs <;> first | exact hs | trivial | skip
 ·rename_i o l
  have hn:s.hp o ≠ none:=fun e=>by rw[e] at hs; exact hs.1.elim
  rw[h o hn]
  refine⟨?_,hs.2⟩
  have h3:=hs.1
  split at h3
  ·exact h3
  ·exact litP_mono h h3
  ·exact h3.elim
 ·rename_i o a b z l
  have hn:s.hp o ≠ none:=fun e=>by rw[e] at hs; exact hs.2.1.elim
  rw[h o hn]; exact hs
 ·exact LSubP_mono h hs
 ·rename_i o f cs f2
  obtain⟨h1,h2,h3⟩:=hs
  have hn:s.hp o ≠ none:=fun e=>by rw[e] at h2; exact h2.elim
  refine⟨h1,?_,h3⟩
  rw[h o hn]
  split at h2
  ·exact LSubsP_mono h h2
  ·exact h2.elim
theorem LSubs_mono {s s':St} {σ:Ren} {hps:List (Nat × HObj)} (h:∀ i,s.hp i ≠ none → s'.hp i = s.hp i):∀ {xs ys:List Leaf},LSubs σ s hps xs ys → LSubs σ s' hps xs ys
 | [],[],hs=>hs
 | [],_ :: _,hs=>hs.elim
 | _ :: _,[],hs=>hs.elim
 | _ :: _,_ :: _,hs=>⟨LSub_mono h hs.1,LSubs_mono h hs.2⟩
theorem CSub_mono {s s':St} {σ:Ren} {hps:List (Nat × HObj)} {x y:Cmp} (h:∀ i,s.hp i ≠ none → s'.hp i = s.hp i) (hs:CSub σ s hps x y):CSub σ s' hps x y:=by
 unfold CSub at hs ⊢
 split at hs
 ·exact LSub_mono h hs
 ·exact LSubs_mono h hs
 ·exact hs.elim
theorem CSubs_mono {s s':St} {σ:Ren} {hps:List (Nat × HObj)} (h:∀ i,s.hp i ≠ none → s'.hp i = s.hp i):∀ {xs ys:List Cmp},CSubs σ s hps xs ys → CSubs σ s' hps xs ys
 | [],[],hs=>hs
 | [],_ :: _,hs=>hs.elim
 | _ :: _,[],hs=>hs.elim
 | _ :: _,_ :: _,hs=>⟨CSub_mono h hs.1,CSubs_mono h hs.2⟩
theorem SSub_mono {s s':St} {σ:Ren} {hps:List (Nat × HObj)} {x y:Slot} (h:∀ i,s.hp i ≠ none → s'.hp i = s.hp i) (hs:SSub σ s hps x y):SSub σ s' hps x y:=by
 unfold SSub at hs ⊢
 split at hs
 ·trivial
 ·exact CSub_mono h hs
 ·exact CSubs_mono h hs
 ·exact hs.elim
theorem SSubs_mono {s s':St} {σ:Ren} {hps:List (Nat × HObj)} (h:∀ i,s.hp i ≠ none → s'.hp i = s.hp i):∀ {xs ys:List Slot},SSubs σ s hps xs ys → SSubs σ s' hps xs ys
 | [],[],hs=>hs
 | [],_ :: _,hs=>hs.elim
 | _ :: _,[],hs=>hs.elim
 | _ :: _,_ :: _,hs=>⟨SSub_mono h hs.1,SSubs_mono h hs.2⟩
theorem isCv_call {o:Oper} (h:isCv o.op = true):∃ f a t,o.op = .call ⟨.value f,a,t⟩:=by
 unfold isCv at h
 split at h
 ·rename_i f a t hop; exact⟨_,_,_,hop⟩
 ·cases h
theorem isAl_alloc {o:Oper} (h:isAl o.op = true):(∃ t,o.op = .alloc t) ∨ ∃ t n ps,o.op = .buildSlice t n ps ∧ ps.toList = []:=by
 unfold isAl at h
 split at h
 ·rename_i t hop; exact .inl ⟨t,hop⟩
 ·rename_i t n ps hop; exact .inr ⟨t,n,ps,hop,by simpa using h⟩
 ·cases h
theorem stp_call {s:St} {o:Oper} {e:Eff} (h:isCv o.op = true):Stp P Γ s o e ↔ CallStep P Γ s o e:=by
 obtain⟨f,a,t,hop⟩:=isCv_call h
 unfold Stp
 rw[hop]
theorem call_wr {s:St} {o:Oper} {e:Eff} (h:CallStep P Γ s o e):∀ x ∈ e.wr,s.hp x.1 ≠ none ∨ freshOf o x.1:=by
 obtain⟨c,fo,f,caps,S,τ,vw,news,ho,hcal,hfo,hcb,hm,hok,hkp,rfl⟩:=h
 intro x hx
 obtain⟨y,hy,rfl⟩:=List.mem_map.1 hx
 have hd:=allP_mem hok.dom y hy
 cases hl:lookL (τ.map (fun x=>(x.2,x.1)) ++ news) y.1 with
 | none=>exact absurd hl hd
 | some k =>
  have h2:rnN (τ.map (fun x=>(x.2,x.1)) ++ news) y.1 = k:=by
   show (lookL (τ.map (fun x=>(x.2,x.1)) ++ news) y.1).getD y.1 = k
   rw[hl]; rfl
  dsimp only
  rw[h2]
  rcases List.mem_append.1 (lookL_mem hl) with h3 | h3
  ·obtain⟨x,hx,he⟩:=List.mem_map.1 h3
   injection he with e1 e2
   rw[← e2]
   exact .inl (allP_mem hok.tau x hx).2.1
  ·exact .inr (allP_mem hok.fresh _ h3).2.2
theorem callStep_mono {s s':St} {o:Oper} {e:Eff} (hwf:WF s) (hev:∀ x ∈ Op.opds o.op,s'.ev x = s.ev x) (hmono:∀ i,s.hp i ≠ none → s'.hp i = s.hp i) (hfr:∀ k,freshOf o k → s'.hp k = s.hp k)
  (h:CallStep P Γ s o e):CallStep P Γ s' o e:=by
 have hwr:=call_wr h
 obtain⟨c,fo,f,caps,S,τ,vw,news,ho,hcal,hfo,hcb,hm,hok,hkp,rfl⟩:=h
 have hops:Op.opds o.op = fo :: c.args.toList:=by rw[ho]; simp [Op.opds,hcal]
 have hca:callArgs s' c f caps = callArgs s c f caps:=by
  unfold callArgs
  rw[List.map_congr_left fun x hx=>hev x (by rw[hops]; exact List.mem_cons_of_mem _ hx)]
 have hids:∀ x ∈ callArgs s c f caps,∀ i ∈ x.ids,s'.hp i = s.hp i:=fun x hx i hi=>by
  refine hmono i ?_
  rcases callArgs_mem hx with hx | hx
  ·obtain⟨y,hy,rfl⟩:=List.mem_map.1 hx
   exact hwf.ev y i hi
  ·obtain⟨y,hy,rfl⟩:=List.mem_map.1 hx
   refine hwf.ev fo i ?_
   rw[hfo]
   simp [Slot.ids,Cmp.ids,Cmp.leaves,Leaf.ids] at hi ⊢
   subst hi; exact hy
 refine⟨c,fo,f,caps,S,τ,vw,news,ho,hcal,(hev fo (by rw[hops]; exact List.mem_cons_self)).trans hfo,hcb,hm,?_,fun x hx hk=>?_,rfl⟩
 rotate_left
 ·have e:s'.hp x.1 = s.hp x.1:=by
   rcases hwr x hx with h1 | h1
   ·exact hmono _ h1
   ·exact hfr _ h1
  rw[e]
  exact hkp x hx hk
 rw[hca]
 refine⟨fun h x hx i hi=>(by
  have:=hok.lt h x hx i hi
  rw[hmono i this.1]; exact this),SSubs_mono hmono hok.args,allP_imp (fun q _ hq=>?_) hok.objs,hok.nd0,hok.nd1,hok.nd2,hok.nd3,allP_imp (fun x _ hx=>⟨hx.1,by rw[hmono _ hx.2.1]; exact hx.2.1,hx.2.2⟩) hok.tau,hok.dom,allP_imp (fun x _ hx=>⟨by rw[hfr x.2 hx.2.2]; exact hx.1,hx.2⟩) hok.fresh,hok.flat,hok.pure⟩
 unfold HSub at hq ⊢
 split
 ·rename_i o2 hl
  rw[hl] at hq
  dsimp only at hq
  have hn:s.hp o2 ≠ none:=by
   obtain⟨x,hx,he⟩:=List.mem_map.1 (lookL_mem hl)
   have:=(allP_mem hok.tau x hx).2.1
   injection he with e1 e2
   rw[← e2]; exact this
  rw[hmono o2 hn]
  unfold OSub at hq ⊢
  split at hq <;> rename_i heq1 <;> first | trivial | skip
  ·exact⟨hq.1,LSubs_mono hmono hq.2⟩
  all_goals first
   | exact hq
   | exact⟨hq.1,LSubs_mono hmono hq.2⟩
 ·rename_i hl
  rw[hl] at hq
  exact hq
theorem alloc_free {s:St} {o:Oper} {e:Eff} (ha:alF Γ o = true) (h:Stp P Γ s o e):∃ d:Nat,o.dst = some d ∧ s.hp d = none ∧ (∀ x ∈ e.wr,x.1 = d) ∧ ∀ s':St,s'.hp d = none → Stp P Γ s' o e:=by
 unfold alF at ha
 rw[Bool.and_eq_true] at ha
 have hfz:inL Γ.fz o.dst = false:=by simpa using ha.2
 have gen:∀ F:Bool → Option Eff,(∀ s:St,opX P Γ s o = F (isFree s.hp o.dst)) → F false = none → (∀ e,F true = some e → ∀ d,o.dst = some d → ∀ x ∈ e.wr,x.1 = d) → (o.dst = none → F true = none) → (∀ s e,Stp P Γ s o e ↔ opX P Γ s o = some e) → ∃ d:Nat,o.dst = some d ∧ s.hp d = none ∧ (∀ x ∈ e.wr,x.1 = d) ∧ ∀ s':St,s'.hp d = none → Stp P Γ s' o e:=by
  intro F hx hF1 hF2 hF3 hS
  have h:=(hS s e).1 h
  rw[hx] at h
  cases hd:o.dst with
  | none =>
   cases hf:isFree s.hp o.dst with
   | true=>rw[hf,hF3 hd] at h; cases h
   | false=>rw[hf,hF1] at h; cases h
  | some d =>
   cases hf:isFree s.hp o.dst with
   | false=>rw[hf,hF1] at h; cases h
   | true =>
    rw[hf] at h
    have hf':s.hp d = none ∧ d < 1000000:=by rw[hd] at hf; simpa [isFree] using hf
    refine⟨d,rfl,hf'.1,hF2 e h d hd,fun s' hs'=>(hS s' e).2 ?_⟩
    rw[hx,hd,show isFree s'.hp (some d) = true by simpa [isFree] using ⟨hs',hf'.2⟩,h]
 rcases isAl_alloc ha.1 with⟨t,hop⟩ | ⟨t,n,ps,hop,hps⟩
 ·refine gen (fun b=>opAlloc P t o.dst b []) (fun s=>?_) ?_ ?_ ?_ fun s e=>?_
  ·rw[opX_nf (by rw[hfz,Bool.false_and]),hop]
   simp only[opE,opY,opY0,opV,orE_r,orE_l,Op.opds,List.map_nil]
  ·simp only[opAlloc]
   split
   ·rfl
   ·rfl
  ·intro e he d hd x hx
   simp only[opAlloc] at he
   rw[hd] at he
   split at he
   ·rename_i d' cs hd' _
    injection hd' with hd'
    subst hd'
    simp only[if_true,Option.some.injEq] at he
    rw[← he] at hx
    simpa using congrArg Prod.fst (List.mem_singleton.1 hx)
   ·cases he
  ·intro hd
   simp only[opAlloc]
   rw[hd]
  ·unfold Stp noObj
   rw[hop]
   exact⟨fun h=>h.1,fun h=>⟨h,fun _ x hx=>by simp [Op.opds] at hx,fun _ _ x hx=>by simp [Op.opds] at hx,fun k hk=>(by rw[hop] at hk; cases hk)⟩⟩
 ·refine gen (fun b=>orE (opBuildSlice P t n (ps.toList.map (·.1)) o.dst b []) (opBuildLit P t n (ps.toList.map (·.1)) o.dst b [])) (fun s=>?_) ?_ ?_ ?_ fun s e=>?_
  ·rw[opX_nf (by rw[hfz,Bool.false_and]),hop]
   simp only[opE,opY,opV,Op.opds,hps,List.map_nil]
  ·unfold opBuildSlice opBuildLit orE
   split
   ·rename_i e he
    split at he
    ·split at he
     ·rename_i hc; exact absurd hc.2.1 (by simp)
     ·cases he
    ·cases he
   ·split
    ·split
     ·rename_i hc; exact absurd hc.2.1 (by simp)
     ·rfl
    ·rfl
  ·intro e he d hd x hx
   rw[hd] at he
   rcases orE_cases he with he | he
   ·unfold opBuildSlice at he
    split at he
    ·rename_i hd'
     injection hd' with hd'
     subst hd'
     split at he
     ·split at he
      ·simp only[Option.some.injEq] at he
       rw[← he] at hx
       simpa using congrArg Prod.fst (List.mem_singleton.1 hx)
      ·cases he
     ·cases he
    ·cases he
   ·unfold opBuildLit at he
    split at he
    ·rename_i hd'
     injection hd' with hd'
     subst hd'
     split at he
     ·split at he
      ·simp only[Option.some.injEq] at he
       rw[← he] at hx
       simpa using congrArg Prod.fst (List.mem_singleton.1 hx)
      ·cases he
     ·cases he
    ·cases he
  ·intro hd
   rw[hd]
   unfold opBuildSlice opBuildLit orE
   split
   ·rename_i e he
    split at he
    ·rename_i hd' ; cases hd'
    ·cases he
   ·split
    ·rename_i hd'; cases hd'
    ·rfl
  ·unfold Stp noObj
   rw[hop]
   exact⟨fun h=>h.1,fun h=>⟨h,fun _ x hx=>by simp [Op.opds,hps] at hx,fun _ _ x hx=>by simp [Op.opds,hps] at hx,fun k hk=>(by rw[hop] at hk; cases hk)⟩⟩
theorem call_alloc {s:St} {oi oj:Oper} {ei ej:Eff} (hwf:WF s) (hap:oi.apart ops.toArray oj = true) (hap':oj.apart ops.toArray oi = true) (hc:isCv oi.op = true ∨ decide (cls Γ oi = .P) = true) (ha:alF Γ oj = true) (hbi:∀ d:Nat,oi.dst = some d → d < 10000) (hbj:∀ d:Nat,oj.dst = some d → d < 10000)
  (hi:EffR P Γ ops s oi ei) (hj:EffR P Γ ops (s.app oi.dst ei) oj ej):EffR P Γ ops s oj ej ∧ EffR P Γ ops (s.app oj.dst ej) oi ei ∧ ∀ x ∈ ei.wr,∀ y ∈ ej.wr,x.1 ≠ y.1:=by
 obtain⟨h1,h2,h3⟩:=Oper.apart_spec hap
 obtain⟨h1',h2',h3'⟩:=Oper.apart_spec hap'
 rcases hj with⟨hg,hst⟩ | ⟨hg,rfl⟩
 ·obtain⟨d,hd,hfree,hwj,hall⟩:=alloc_free ha hst
  have hnot:∀ x ∈ ei.wr,x.1 ≠ d:=fun x hx he=>by
   exact updL_mem s.hp ei.wr d ⟨x.2,by rw[← he]; exact hx⟩ hfree
  have hd0:s.hp d = none:=by
   have:updL s.hp ei.wr d = s.hp d:=updL_other _ _ _ fun y hy he=>hnot y hy he
   rw[← this]; exact hfree
  refine⟨.inl ⟨(guard_app h1).symm.trans hg,hall s hd0⟩,?_,fun x hx y hy he=>hnot x hx (he.trans (hwj y hy))⟩
  have hoth:∀ i,i ≠ d → (s.app oj.dst ej).hp i = s.hp i:=fun i hid=>updL_other _ _ _ fun y hy he=>hid (by rw[← he,hwj y hy])
  have hfr:∀ k,freshOf oi k → (s.app oj.dst ej).hp k = s.hp k:=fun k hk=>hoth k fun e=>by
   obtain⟨d',m',hd',hm'⟩:=hk
   have b1:=hbi d' hd'
   have b2:=hbj d hd
   have:d' = d:=by omega
   subst this
   exact h2 _ hd' hd
  have hev:∀ x ∈ Op.opds oi.op,(s.app oj.dst ej).ev x = s.ev x:=fun x hx=>app_ev fun k hk hxk=>h1' k hk (looks_sub (by rw[← hxk]; exact hx))
  refine effA_congr (guard_app h1') (fun h=>?_) hi
  rcases hc with hc | hc
  ·rw[stp_call hc] at h ⊢
   exact callStep_mono hwf hev (fun i hi=>hoth i fun e=>hi (by rw[e]; exact hd0)) hfr h
  ·have hc:=of_decide_eq_true hc
   exact stp_congr hev (fun _ x hx i hid=>hoth i fun e=>hwf.ev x i hid (by rw[e]; exact hd0)) (fun _ _=>hfr) (fun h=>by rw[hc] at h; cases h) h
 ·refine⟨.inr ⟨(guard_app h1).symm.trans hg,rfl⟩,eff_nowr hap' rfl hi,fun x hx y hy=>by cases hy⟩
theorem mv_wr {s:St} {o:Oper} {e:Eff} (hmf:mvF Γ o = true) (h:Stp P Γ s o e):e.wr = []:=by
 obtain⟨hm,hfz⟩:=mvF_mv hmf
 have key:(∀ f a t,o.op ≠ .call ⟨.value f,a,t⟩) → orE (opE P o.op o.dst (isFree s.hp o.dst) ((Op.opds o.op).map s.arg)) (opY P o.op o.dst (isFree s.hp o.dst) ((Op.opds o.op).map s.arg)) = some e:=fun hnc=>by
  unfold Stp at h
  split at h
  ·rename_i f a t hop; exact absurd hop (hnc f a t)
  ·rw[← opX_nf (Γ:=Γ) (by rw[hfz,Bool.false_and])]; exact h.1
 unfold mvOp at hm
 split at hm <;> rename_i hop <;> first | (cases hm; done) | skip
 all_goals
  have h:=key (by simp [hop])
  rw[hop] at h
  simp only[opE,opY,opY0,opV,orE_r,orE_l] at h
 ·unfold opLoad at h
  split at h
  ·split at h
   ·rw[Option.bind_eq_some_iff] at h
    obtain⟨c,_,h⟩:=h
    exact (valE h)
   ·cases h
  ·split at h <;> (try split at h) <;> first | exact (valIfE h) | cases h
  ·split at h <;> (try split at h) <;> (try split at h) <;> first | exact (valIfE h) | cases h
  ·cases h
 ·rcases orE_cases h with h | h
  ·unfold opIndexAddr at h
   split at h <;> (try split at h) <;> (try split at h) <;> first | exact (valIfE h) | cases h
  ·exact nomatch h
 ·unfold opSlice at h
  split at h <;> (try split at h) <;> (try split at h) <;> first | exact (valE h) | exact (valIfE h) | cases h
 ·split at h
  ·unfold opLen at h
   split at h <;> (try split at h) <;> first | exact (valE h) | exact (valIfE h) | cases h
  ·cases h
theorem mv_cls {o:Oper} (hmf:mvF Γ o = true):cls Γ o ≠ .W:=by
 obtain⟨hm,_⟩:=mvF_mv hmf
 have h0:cls0 Γ o = .A:=by
  unfold mvOp at hm
  unfold cls0
  split at hm <;> rename_i hop <;> first | (cases hm; done) | (rw[hop])
 unfold cls
 split
 ·simp
 ·split
  ·simp
  ·split
   ·simp
   ·split
    ·simp
    ·rw[h0]; simp
theorem updL_keep (i:Nat):∀ (l:List (Nat × HObj)) (hp:Hp),(∀ x ∈ l,x.1 = i → hp i = some x.2) → updL hp l i = hp i
 | [],_,_=>rfl
 | x :: l,hp,h=>by
  show updL (upd hp x.1 (some x.2)) l i = hp i
  have e:upd hp x.1 (some x.2) i = hp i:=by
   unfold upd
   split
   ·rename_i he; exact (h x List.mem_cons_self he.symm).symm
   ·rfl
  rw[updL_keep i l _ fun y hy he=>by rw[e]; exact h y (List.mem_cons_of_mem _ hy) he,e]
theorem call_keep {s:St} {o:Oper} {e:Eff} (hk:keptAt Γ o = true) (h:CallStep P Γ s o e):∀ x ∈ e.wr,s.hp x.1 = none ∨ s.hp x.1 = some x.2:=by
 obtain⟨c,fo,f,caps,S,τ,vw,news,ho,hcal,hfo,hcb,hm,hok,hkp,rfl⟩:=h
 exact fun x hx=>hkp x hx (by rw[hk]; rfl)
theorem call_spare {s:St} {o:Oper} {e:Eff} {i:Nat} (hk:spareAt Γ o i = true) (h:CallStep P Γ s o e):∀ x ∈ e.wr,x.1 = i → s.hp x.1 = none ∨ s.hp x.1 = some x.2:=by
 obtain⟨c,fo,f,caps,S,τ,vw,news,ho,hcal,hfo,hcb,hm,hok,hkp,rfl⟩:=h
 exact fun x hx he=>hkp x hx (by rw[he,hk,Bool.or_true])
theorem call_read {s:St} {oi oj:Oper} {ei ej:Eff} (hwf:WF s) (hap:oi.apart ops.toArray oj = true) (hap':oj.apart ops.toArray oi = true) (hc:isCv oi.op = true) (hk:keptAt Γ oi = true) (hr:mvF Γ oj = true) (hbi:∀ d:Nat,oi.dst = some d → d < 10000) (hbj:∀ d:Nat,oj.dst = some d → d < 10000)
  (hi:EffR P Γ ops s oi ei) (hj:EffR P Γ ops (s.app oi.dst ei) oj ej):EffR P Γ ops s oj ej ∧ EffR P Γ ops (s.app oj.dst ej) oi ei ∧ ∀ x ∈ ei.wr,∀ y ∈ ej.wr,x.1 ≠ y.1:=by
 obtain⟨h1,h2,h3⟩:=Oper.apart_spec hap
 have hw:∀ x ∈ ei.wr,s.hp x.1 ≠ none ∨ freshOf oi x.1:=by
  rcases hi with⟨_,h⟩ | ⟨_,rfl⟩
  ·exact call_wr ((stp_call hc).1 h)
  ·intro x hx; cases hx
 have hkeep:∀ x ∈ ei.wr,s.hp x.1 = none ∨ s.hp x.1 = some x.2:=by
  rcases hi with⟨_,h⟩ | ⟨_,rfl⟩
  ·exact call_keep hk ((stp_call hc).1 h)
  ·intro x hx; cases hx
 have hsame:∀ i,s.hp i ≠ none → (s.app oi.dst ei).hp i = s.hp i:=fun i hn=>updL_keep i ei.wr s.hp fun x hx he=>by
  rcases hkeep x hx with h | h
  ·rw[he] at h; exact absurd h hn
  ·rw[← he]; exact h
 have hnone:∀ k,freshOf oj k → (s.app oi.dst ei).hp k = s.hp k:=fun k hkf=>by
  by_cases hn:s.hp k = none
  ·refine updL_other _ _ _ fun y hy he=>?_
   rcases hw y hy with h | h
   ·rw[he] at h; exact h hn
   ·obtain⟨d,m,hd,hm⟩:=h
    obtain⟨d',m',hd',hm'⟩:=hkf
    have b1:=hbi d hd
    have b2:=hbj d' hd'
    have:d = d':=by omega
    subst this
    exact h2 _ hd hd'
  ·exact hsame k hn
 rcases hj with⟨hg,hst⟩ | ⟨hg,rfl⟩
 ·have hev:∀ x ∈ Op.opds oj.op,s.ev x = (s.app oi.dst ei).ev x:=fun x hx=>(app_ev fun k hk hxk=>h1 k hk (looks_sub (by rw[← hxk]; exact hx))).symm
  have hst':Stp P Γ s oj ej:=stp_congr hev (fun _ x hx i hi=>by
   rw[← hev x hx] at hi
   exact (hsame i (hwf.ev x i hi)).symm) (fun _ _ k hk=>(hnone k hk).symm) (fun h=>absurd h (mv_cls hr)) hst
  refine⟨.inl ⟨(guard_app h1).symm.trans hg,hst'⟩,eff_nowr hap' (mv_wr hr hst') hi,fun x hx y hy=>?_⟩
  rw[mv_wr hr hst'] at hy; cases hy
 ·refine⟨.inr ⟨(guard_app h1).symm.trans hg,rfl⟩,eff_nowr hap' rfl hi,fun x hx y hy=>by cases hy⟩
theorem read_call {s:St} {oi oj:Oper} {ei ej:Eff} (hwf:WF s) (hap:oi.apart ops.toArray oj = true) (hap':oj.apart ops.toArray oi = true) (hc:isCv oj.op = true) (hk:keptAt Γ oj = true) (hr:mvF Γ oi = true) (hbi:∀ d:Nat,oi.dst = some d → d < 10000) (hbj:∀ d:Nat,oj.dst = some d → d < 10000)
  (hi:EffR P Γ ops s oi ei) (hj:EffR P Γ ops (s.app oi.dst ei) oj ej):EffR P Γ ops s oj ej ∧ EffR P Γ ops (s.app oj.dst ej) oi ei ∧ ∀ x ∈ ei.wr,∀ y ∈ ej.wr,x.1 ≠ y.1:=by
 obtain⟨h1,h2,h3⟩:=Oper.apart_spec hap
 obtain⟨h1',h2',h3'⟩:=Oper.apart_spec hap'
 have hnw:ei.wr = []:=by
  rcases hi with⟨_,h⟩ | ⟨_,rfl⟩
  ·exact mv_wr hr h
  ·rfl
 have hh:s.hp = (s.app oi.dst ei).hp:=by show s.hp = updL s.hp ei.wr; rw[hnw]; rfl
 have hj':EffR P Γ ops s oj ej:=effA_congr (guard_app h1).symm (stp_congr (fun x hx=>(app_ev fun k hk hxk=>h1 k hk (looks_sub (by rw[← hxk]; exact hx))).symm) (fun _ x hx i hi=>by rw[← hh]) (fun _ _ k hk=>by rw[← hh]) (fun _=>hh)) hj
 have hw:∀ x ∈ ej.wr,s.hp x.1 ≠ none ∨ freshOf oj x.1:=by
  rcases hj' with⟨_,h⟩ | ⟨_,rfl⟩
  ·exact call_wr ((stp_call hc).1 h)
  ·intro x hx; cases hx
 have hkeep:∀ x ∈ ej.wr,s.hp x.1 = none ∨ s.hp x.1 = some x.2:=by
  rcases hj' with⟨_,h⟩ | ⟨_,rfl⟩
  ·exact call_keep hk ((stp_call hc).1 h)
  ·intro x hx; cases hx
 have hsame:∀ i,s.hp i ≠ none → (s.app oj.dst ej).hp i = s.hp i:=fun i hn=>updL_keep i ej.wr s.hp fun x hx he=>by
  rcases hkeep x hx with h | h
  ·rw[he] at h; exact absurd h hn
  ·rw[← he]; exact h
 have hnone:∀ k,freshOf oi k → (s.app oj.dst ej).hp k = s.hp k:=fun k hkf=>by
  by_cases hn:s.hp k = none
  ·refine updL_other _ _ _ fun y hy he=>?_
   rcases hw y hy with h | h
   ·rw[he] at h; exact h hn
   ·obtain⟨d,m,hd,hm⟩:=h
    obtain⟨d',m',hd',hm'⟩:=hkf
    have b1:=hbj d hd
    have b2:=hbi d' hd'
    have:d' = d:=by omega
    subst this
    exact h2 _ hd' hd
  ·exact hsame k hn
 refine⟨hj',effA_congr (guard_app h1') (fun hst=>stp_congr (fun x hx=>app_ev fun k hk hxk=>h1' k hk (looks_sub (by rw[← hxk]; exact hx))) (fun _ x hx i hi=>hsame i (hwf.ev x i hi)) (fun _ _ k hk=>hnone k hk) (fun h=>absurd h (mv_cls hr)) hst) hi,fun x hx y hy=>?_⟩
 rw[hnw] at hx; cases hx
theorem st_wr {s:St} {o:Oper} {e:Eff} {t:TypeId} {x v:Operand} (hop:o.op = .store t x v) (h:Stp P Γ s o e):∃ i w,e.wr = [(i,w)] ∧ i ∈ (s.ev x).ids ∧ ((∃ bt cs cs',s.hp i = some (.box bt cs) ∧ w = .box bt cs') ∨ (∃ a z l l',s.hp i = some (.arr a z l) ∧ w = .arr a z l')):=by
 have h1:opX P Γ s o = some e:=by
  unfold Stp at h
  rw[hop] at h
  exact h.1
 rw[opX_nf (by rw[hop]; simp [isFz,isBuild,isTake]),hop] at h1
 simp only[opE,opY,opY0,opV,orE_r,orE_l,Op.opds,List.map_cons,List.map_nil,St.arg] at h1
 unfold opStore at h1
 split at h1
 ·rename_i o' off bt cs c q heq
  simp only[List.cons.injEq,Prod.mk.injEq] at heq
  obtain⟨⟨e1,e2⟩,_⟩:=heq
  have hids:(s.ev x).ids = [o']:=by rw[e1]; rfl
  rw[hids] at e2
  simp only[List.map_cons,List.map_nil,List.cons.injEq,and_true] at e2
  split at h1
  ·split at h1
   ·injection h1 with h1
    rw[← h1,hids]
    exact⟨_,_,rfl,by simp,.inl ⟨_,_,_,e2,rfl⟩⟩
   ·cases h1
  ·cases h1
 ·rename_i o' i off z a z' l c q heq
  simp only[List.cons.injEq,Prod.mk.injEq] at heq
  obtain⟨⟨e1,e2⟩,_⟩:=heq
  have hids:(s.ev x).ids = [o']:=by rw[e1]; rfl
  rw[hids] at e2
  simp only[List.map_cons,List.map_nil,List.cons.injEq,and_true] at e2
  split at h1
  ·split at h1
   ·rename_i hz
    injection h1 with h1
    rw[← h1,hids]
    exact⟨_,_,rfl,by simp,.inr ⟨_,_,_,_,by rw[e2,hz.1],rfl⟩⟩
   ·cases h1
  ·cases h1
 ·cases h1
theorem ldst_spec {x y:Oper} (h:ldst Γ x y = true):mvF Γ x = true ∧ cls Γ x = .R ∧ ∃ a b t v,adrOf x.op = some a ∧ y.op = .store t (.tmp b) v ∧ ∃ ta tb,(ta ≠ tb ∧ (500000 ≤ ta ↔ 500000 ≤ tb)) ∧ isBt Γ.bx a ta = true ∧ isBt Γ.bx b tb = true:=by
 unfold ldst at h
 simp only[Bool.and_eq_true,decide_eq_true_eq] at h
 obtain⟨⟨h1,h2⟩,h3⟩:=h
 refine⟨h1,h2,?_⟩
 split at h3
 ·rename_i a t b v e1 e2
  obtain⟨e,he,h4⟩:=List.any_eq_true.1 h3
  simp only[Bool.and_eq_true] at h4
  obtain⟨e',he',h5⟩:=List.any_eq_true.1 h4.2
  simp only[Bool.and_eq_true,Bool.not_eq_true'] at h5
  obtain⟨h5,h6,h7⟩:=h5
  have h5:=And.intro h5 h6
  refine⟨a,b,t,v,e1,e2,e % 1000000,e' % 1000000,⟨?_,by
   rw[beq_iff_eq,Bool.eq_iff_iff] at h7
   rw[← Nat.ble_eq,← Nat.ble_eq]; exact h7⟩,List.any_eq_true.2 ⟨e,he,by rw[h4.1,Nat.beq_refl]; rfl⟩,List.any_eq_true.2 ⟨e',he',by rw[h5.1,Nat.beq_refl]; rfl⟩⟩
  intro hx
  rw[hx,Nat.beq_refl] at h5
  exact absurd h5.2 (by simp)
 ·cases h3
theorem bt_of {s:St} {o:Oper} {e:Eff} {k t:Nat} (hn:∀ f a t,o.op ≠ .call ⟨.value f,a,t⟩) (hk:adrOf o.op = some k) (ht:isBt Γ.bx k t = true) (h:Stp P Γ s o e):∀ i ∈ (s.ev (.tmp k)).ids,btP s t i:=by
 unfold Stp at h
 split at h
 ·rename_i f a t hop; exact absurd hop (hn f a t)
 ·exact h.2.2.2 k hk t ht
theorem adr_nc {o:Oper} {k:Nat} (hk:adrOf o.op = some k):∀ f a t,o.op ≠ .call ⟨.value f,a,t⟩:=fun f a t e=>by rw[e] at hk; cases hk
theorem ld_st {s:St} {oi oj:Oper} {ei ej:Eff} (hap:oi.apart ops.toArray oj = true) (hap':oj.apart ops.toArray oi = true) (hl:ldst Γ oi oj = true)
  (hi:EffR P Γ ops s oi ei) (hj:EffR P Γ ops (s.app oi.dst ei) oj ej):EffR P Γ ops s oj ej ∧ EffR P Γ ops (s.app oj.dst ej) oi ei ∧ ∀ x ∈ ei.wr,∀ y ∈ ej.wr,x.1 ≠ y.1:=by
 obtain⟨h1,h2,h3⟩:=Oper.apart_spec hap
 obtain⟨h1',h2',h3'⟩:=Oper.apart_spec hap'
 obtain⟨hm,hR,a,b,t,v,ha,hb,ta,tb,hne,hta,htb⟩:=ldst_spec hl
 have hnw:ei.wr = []:=by
  rcases hi with⟨_,h⟩ | ⟨_,rfl⟩
  ·exact mv_wr hm h
  ·rfl
 have hh:s.hp = (s.app oi.dst ei).hp:=by show s.hp = updL s.hp ei.wr; rw[hnw]; rfl
 have hj':EffR P Γ ops s oj ej:=effA_congr (guard_app h1).symm (stp_congr (fun x hx=>(app_ev fun k hk hxk=>h1 k hk (looks_sub (by rw[← hxk]; exact hx))).symm) (fun _ x hx i hi=>by rw[← hh]) (fun _ _ k hk=>by rw[← hh]) (fun _=>hh)) hj
 refine⟨hj',?_,fun x hx y hy=>by rw[hnw] at hx; cases hx⟩
 refine effA_congr (guard_app h1') (fun hst=>stp_congr (fun x hx=>app_ev fun k hk hxk=>h1' k hk (looks_sub (by rw[← hxk]; exact hx))) (fun _ x hx i hi=>?_) (fun _ h=>absurd hR h) (fun h=>by rw[hR] at h; cases h) hst) hi
 rcases hj' with⟨_,hs⟩ | ⟨_,rfl⟩
 ·obtain⟨o',w,hw,ho',_⟩:=st_wr hb hs
  show updL s.hp ej.wr i = s.hp i
  refine updL_other _ _ _ fun y hy he=>?_
  rw[hw] at hy
  rw[List.mem_singleton.1 hy] at he
  dsimp only at he
  have k1:=bt_of (adr_nc (by rw[hb]; rfl)) (by rw[hb]; rfl) htb hs o' ho'
  have hxa:x = .tmp a:=by
   have hx2:=hx
   unfold adrOf at ha
   split at ha <;> rename_i hop <;> first | (cases ha; done) | skip
   ·injection ha with ha
    subst ha
    rw[hop] at hx2
    simpa [Op.opds] using hx2
   ·have:=(mvF_mv hm).1
    rw[hop] at this; cases this
  subst hxa
  have k2:=bt_of (adr_nc ha) ha hta hst i hi
  rcases k1 with⟨l1,cs,k1⟩ | k1 <;> rcases k2 with⟨l2,cs',k2⟩ | k2
  ·rw[he,k2] at k1
   injection k1 with k1
   injection k1 with k1
   exact hne.1 k1
  ·have:=hne.2; omega
  ·have:=hne.2; omega
  ·exact hne.1 (by omega)
 ·rfl
theorem st_ld {s:St} {oi oj:Oper} {ei ej:Eff} (hap:oi.apart ops.toArray oj = true) (hap':oj.apart ops.toArray oi = true) (hl:ldst Γ oj oi = true)
  (hi:EffR P Γ ops s oi ei) (hj:EffR P Γ ops (s.app oi.dst ei) oj ej):EffR P Γ ops s oj ej ∧ EffR P Γ ops (s.app oj.dst ej) oi ei ∧ ∀ x ∈ ei.wr,∀ y ∈ ej.wr,x.1 ≠ y.1:=by
 obtain⟨h1,h2,h3⟩:=Oper.apart_spec hap
 obtain⟨hm,hR,a,b,t,v,ha,hb,ta,tb,hne,hta,htb⟩:=ldst_spec hl
 have hnw:ej.wr = []:=by
  rcases hj with⟨_,h⟩ | ⟨_,rfl⟩
  ·exact mv_wr hm h
  ·rfl
 have hev:∀ x ∈ Op.opds oj.op,(s.app oi.dst ei).ev x = s.ev x:=fun x hx=>app_ev fun k hk hxk=>h1 k hk (looks_sub (by rw[← hxk]; exact hx))
 have hj':EffR P Γ ops s oj ej:=effA_congr (guard_app h1).symm (fun hst=>stp_congr (fun x hx=>(hev x hx).symm) (fun _ x hx i hxi=>?_) (fun _ h=>absurd hR h) (fun h=>by rw[hR] at h; cases h) hst) hj
 ·exact⟨hj',eff_nowr hap' hnw hi,fun x hx y hy=>by rw[hnw] at hy; cases hy⟩
 ·rcases hi with⟨_,hs⟩ | ⟨_,rfl⟩
  ·obtain⟨o',w,hw,ho',hty⟩:=st_wr hb hs
   have hxa:x = .tmp a:=by
    have hx2:=hx
    unfold adrOf at ha
    split at ha <;> rename_i hop <;> first | (cases ha; done) | skip
    ·injection ha with ha
     subst ha
     rw[hop] at hx2
     simpa [Op.opds] using hx2
    ·have:=(mvF_mv hm).1
     rw[hop] at this; cases this
   subst hxa
   have k1:=bt_of (adr_nc (by rw[hb]; rfl)) (by rw[hb]; rfl) htb hs o' ho'
   have k2:=bt_of (adr_nc ha) ha hta hst i hxi
   have hio:o' ≠ i:=fun he=>by
    rcases k1 with⟨l1,cs,k1⟩ | k1 <;> rcases k2 with⟨l2,cs',k2⟩ | k2
    rotate_left
    ·have:=hne.2; omega
    ·have:=hne.2; omega
    ·exact hne.1 (by omega)
    rw[← he] at k2
    have:(s.app oi.dst ei).hp o' = some w:=by
     show updL s.hp ei.wr o' = some w
     rw[hw]
     show upd s.hp o' (some w) o' = some w
     unfold upd; rw[if_pos rfl]
    rw[this] at k2
    injection k2 with k2
    rcases hty with⟨bt,c1,c2,e1,e2⟩ | ⟨_,z,l,l',e1,e2⟩
    ·rw[k1] at e1
     injection e1 with e1
     injection e1 with e1 _
     rw[e2] at k2
     injection k2 with k2 _
     exact hne.1 (k2.symm.trans e1.symm)
    ·rw[e2] at k2; cases k2
   symm
   show updL s.hp ei.wr i = s.hp i
   refine updL_other _ _ _ fun y hy he=>?_
   rw[hw] at hy
   rw[List.mem_singleton.1 hy] at he
   exact hio he
  ·rfl
theorem rdsSp_spec {x y:Oper} (h:rdsSp Γ x y = true):isCv x.op = true ∧ mvF Γ y = true ∧ cls Γ y = .R ∧ ∃ a i,adrOf y.op = some a ∧ isBt Γ.bx a (i + 500000) = true ∧ spareAt Γ x i = true:=by
 unfold rdsSp at h
 simp only[Bool.and_eq_true,decide_eq_true_eq] at h
 obtain⟨h0,⟨h1,h2⟩,h3⟩:=h
 refine⟨h0,h1,h2,?_⟩
 split at h3
 ·rename_i a e1
  obtain⟨e,he,h4⟩:=List.any_eq_true.1 h3
  simp only[Bool.and_eq_true,Nat.ble_eq] at h4
  obtain⟨h4,h5,h6⟩:=h4
  refine⟨a,e % 1000000 - 500000,e1,List.any_eq_true.2 ⟨e,he,?_⟩,h6⟩
  rw[h4,show e % 1000000 - 500000 + 500000 = e % 1000000 by omega,Nat.beq_refl]; rfl
 ·cases h3
theorem adr_opd {o:Oper} {a:Nat} {x:Operand} (hm:mvF Γ o = true) (ha:adrOf o.op = some a) (hx:x ∈ Op.opds o.op):x = .tmp a:=by
 unfold adrOf at ha
 split at ha <;> rename_i hop <;> first | (cases ha; done) | skip
 ·injection ha with ha
  subst ha
  rw[hop] at hx
  simpa [Op.opds] using hx
 ·have:=(mvF_mv hm).1
  rw[hop] at this; cases this
theorem sp_keep {s s0:St} {oc o:Oper} {ec e:Eff} {x:Operand} {a i0 i:Nat} (hwf:WF s) (hc:isCv oc.op = true) (hm:mvF Γ o = true) (ha:adrOf o.op = some a) (hb:isBt Γ.bx a (i0 + 500000) = true) (hs:spareAt Γ oc i0 = true)
  (hcall:EffR P Γ ops s oc ec) (hst:Stp P Γ s0 o e) (hx:x ∈ Op.opds o.op) (hi:i ∈ (s0.ev x).ids) (hi2:i ∈ (s.ev x).ids):(s.app oc.dst ec).hp i = s.hp i:=by
 have hxa:=adr_opd hm ha hx
 subst hxa
 have hib:i = i0:=by
  rcases bt_of (adr_nc ha) ha hb hst i hi with⟨h,_⟩ | h <;> omega
 subst hib
 refine updL_keep i ec.wr s.hp fun y hy he=>?_
 rcases hcall with⟨_,h⟩ | ⟨_,rfl⟩
 ·rcases call_spare hs ((stp_call hc).1 h) y hy he with h1 | h1
  ·rw[he] at h1; exact absurd h1 (hwf.ev _ i hi2)
  ·rw[← he]; exact h1
 ·cases hy
theorem call_sp {s:St} {oi oj:Oper} {ei ej:Eff} (hwf:WF s) (hap:oi.apart ops.toArray oj = true) (hap':oj.apart ops.toArray oi = true) (hl:rdsSp Γ oi oj = true)
  (hi:EffR P Γ ops s oi ei) (hj:EffR P Γ ops (s.app oi.dst ei) oj ej):EffR P Γ ops s oj ej ∧ EffR P Γ ops (s.app oj.dst ej) oi ei ∧ ∀ x ∈ ei.wr,∀ y ∈ ej.wr,x.1 ≠ y.1:=by
 obtain⟨h1,h2,h3⟩:=Oper.apart_spec hap
 obtain⟨hc,hm,hR,a,i0,ha,hb,hs⟩:=rdsSp_spec hl
 have hnw:ej.wr = []:=by
  rcases hj with⟨_,h⟩ | ⟨_,rfl⟩
  ·exact mv_wr hm h
  ·rfl
 have hev:∀ x ∈ Op.opds oj.op,(s.app oi.dst ei).ev x = s.ev x:=fun x hx=>app_ev fun k hk hxk=>h1 k hk (looks_sub (by rw[← hxk]; exact hx))
 have hj':EffR P Γ ops s oj ej:=effA_congr (guard_app h1).symm (fun hst=>stp_congr (fun x hx=>(hev x hx).symm) (fun _ x hx i hxi=>(sp_keep hwf hc hm ha hb hs hi hst hx hxi (by rw[← hev x hx]; exact hxi)).symm) (fun _ h=>absurd hR h) (fun h=>by rw[hR] at h; cases h) hst) hj
 exact⟨hj',eff_nowr hap' hnw hi,fun x hx y hy=>by rw[hnw] at hy; cases hy⟩
theorem sp_call {s:St} {oi oj:Oper} {ei ej:Eff} (hwf:WF s) (hap:oi.apart ops.toArray oj = true) (hap':oj.apart ops.toArray oi = true) (hl:rdsSp Γ oj oi = true)
  (hi:EffR P Γ ops s oi ei) (hj:EffR P Γ ops (s.app oi.dst ei) oj ej):EffR P Γ ops s oj ej ∧ EffR P Γ ops (s.app oj.dst ej) oi ei ∧ ∀ x ∈ ei.wr,∀ y ∈ ej.wr,x.1 ≠ y.1:=by
 obtain⟨h1,h2,h3⟩:=Oper.apart_spec hap
 obtain⟨h1',h2',h3'⟩:=Oper.apart_spec hap'
 obtain⟨hc,hm,hR,a,i0,ha,hb,hs⟩:=rdsSp_spec hl
 have hnw:ei.wr = []:=by
  rcases hi with⟨_,h⟩ | ⟨_,rfl⟩
  ·exact mv_wr hm h
  ·rfl
 have hh:s.hp = (s.app oi.dst ei).hp:=by show s.hp = updL s.hp ei.wr; rw[hnw]; rfl
 have hj':EffR P Γ ops s oj ej:=effA_congr (guard_app h1).symm (stp_congr (fun x hx=>(app_ev fun k hk hxk=>h1 k hk (looks_sub (by rw[← hxk]; exact hx))).symm) (fun _ x hx i hi=>by rw[← hh]) (fun _ _ k hk=>by rw[← hh]) (fun _=>hh)) hj
 refine⟨hj',?_,fun x hx y hy=>by rw[hnw] at hx; cases hx⟩
 exact effA_congr (guard_app h1') (fun hst=>stp_congr (fun x hx=>app_ev fun k hk hxk=>h1' k hk (looks_sub (by rw[← hxk]; exact hx))) (fun _ x hx i hxi=>sp_keep hwf hc hm ha hb hs hj' hst hx hxi hxi) (fun _ h=>absurd hR h) (fun h=>by rw[hR] at h; cases h) hst) hi
theorem app_comm {s:St} {oi oj:Oper} {ei ej:Eff} (hd:∀ d,oi.dst = some d → oj.dst ≠ some d) (hw:∀ x ∈ ei.wr,∀ y ∈ ej.wr,x.1 ≠ y.1):(s.app oi.dst ei).app oj.dst ej = (s.app oj.dst ej).app oi.dst ei:=by
 have h1:((s.app oi.dst ei).app oj.dst ej).tm = ((s.app oj.dst ej).app oi.dst ei).tm:=by
  funext t
  simp only[app_tm]
  by_cases h1:oi.dst = some t
  ·rw[if_pos h1,if_neg (hd t h1)]
   simp [h1]
  ·rw[if_neg h1]
   simp [h1]
 have h2:((s.app oi.dst ei).app oj.dst ej).hp = ((s.app oj.dst ej).app oi.dst ei).hp:=updL_comm ei.wr ej.wr s.hp hw
 cases hx:(s.app oi.dst ei).app oj.dst ej
 cases hy:(s.app oj.dst ej).app oi.dst ei
 rw[hx,hy] at h1 h2
 dsimp only at h1 h2
 rw[h1,h2]
theorem wr_apart {s:St} {oi oj:Oper} {ei ej:Eff} (hap:oi.apart ops.toArray oj = true) (hc:compat0 Γ oi oj = true) (hbi:∀ d:Nat,oi.dst = some d → d < 10000) (hbj:∀ d:Nat,oj.dst = some d → d < 10000)
  (hi:EffR P Γ ops s oi ei) (hj:EffR P Γ ops s oj ej):∀ x ∈ ei.wr,∀ y ∈ ej.wr,x.1 ≠ y.1:=by
 intro x hx y hy he
 have hcases:ei.wr = [] ∨ ej.wr = [] ∨ (cls Γ oi = .A ∧ cls Γ oj = .A):=by
  have hc:=compat_c hc
  have hw:=(eff_wr hi).1
  have hw':=(eff_wr hj).1
  cases hci:cls Γ oi <;> cases hcj:cls Γ oj <;> rw[hci,hcj] at hc <;> first | (cases hc; done) | (exact .inl (hw (.inl hci))) | (exact .inl (hw (.inr hci))) | (exact .inr (.inl (hw' (.inl hcj)))) | (exact .inr (.inl (hw' (.inr hcj)))) | (exact .inr (.inr ⟨rfl,rfl⟩))
 rcases hcases with h | h | ⟨h,h'⟩
 ·rw[h] at hx; cases hx
 ·rw[h] at hy; cases hy
 ·obtain⟨_,d,m,hd,hm⟩:=(eff_wr hi).2.1 h x hx
  obtain⟨_,d',m',hd',hm'⟩:=(eff_wr hj).2.1 h' y hy
  have b1:=hbi d hd
  have b2:=hbj d' hd'
  have:d = d':=by omega
  subst this
  exact (Oper.apart_spec hap).2.1 d hd hd'
def edgesM (ops:Array Oper) (j:Nat):Nat :=
 match ops[j]? with
 | some o=>o.after.toList.foldl (fun m e=>cond (Region.binds .any e) (m ||| 2 ^ e.on) m) 0
 | none=>0
def reachM (ops:Array Oper):Nat → Nat → Nat
 | 0,m=>m
 | i + 1,m=>cond (m.testBit i) (reachM ops i (m ||| edgesM ops i)) (reachM ops i m)
def waits (ops:Array Oper) (_ j i:Nat):Bool:=(reachM ops j (edgesM ops j)).testBit i
def closedL (ops:Array Oper) (listed:Array Bool):Prop := ∀ (j:Nat) o,ops[j]? = some o → listed.getD j false = true → ∀ e ∈ o.after,Region.binds .any e = true → listed.getD e.on false = true
theorem fold_bits:∀ (l:List Edge) (m0 i:Nat),(l.foldl (fun m e=>cond (Region.binds .any e) (m ||| 2 ^ e.on) m) m0).testBit i = true → m0.testBit i = true ∨ ∃ e ∈ l,Region.binds .any e = true ∧ e.on = i
 | [],m0,i,h=>.inl h
 | e :: l,m0,i,h=>by
  rw[List.foldl_cons] at h
  rcases fold_bits l _ i h with h1 | ⟨e',he',h1⟩
  ·cases hb:Region.binds .any e with
   | true =>
    rw[hb,cond_true,Nat.testBit_or,Bool.or_eq_true] at h1
    rcases h1 with h1 | h1
    ·exact .inl h1
    ·rw[Nat.testBit_two_pow,decide_eq_true_eq] at h1
     exact .inr ⟨e,List.mem_cons_self,hb,h1⟩
   | false =>
    rw[hb,cond_false] at h1
    exact .inl h1
  ·exact .inr ⟨e',List.mem_cons_of_mem _ he',h1⟩
theorem edges_listed {ops:Array Oper} {listed:Array Bool} {j i:Nat} (hj:∀ o,ops[j]? = some o → ∀ e ∈ o.after,Region.binds .any e = true → listed.getD e.on false = true) (h:(edgesM ops j).testBit i = true):listed.getD i false = true:=by
 unfold edgesM at h
 split at h
 ·rename_i o ho
  rcases fold_bits _ _ _ h with h1 | ⟨e,he,hb,rfl⟩
  ·rw[Nat.zero_testBit] at h1; cases h1
  ·exact hj o ho e (Array.mem_toList_iff.1 he) hb
 ·rw[Nat.zero_testBit] at h; cases h
theorem reach_listed {ops:Array Oper} {listed:Array Bool} (hcl:closedL ops listed):∀ (k m:Nat),(∀ i,m.testBit i = true → listed.getD i false = true) → ∀ i,(reachM ops k m).testBit i = true → listed.getD i false = true
 | 0,m,hm,i,h=>hm i h
 | k + 1,m,hm,i,h=>by
  unfold reachM at h
  cases hb:m.testBit k with
  | true =>
   rw[hb,cond_true] at h
   refine reach_listed hcl k _ (fun i hi=>?_) i h
   rw[Nat.testBit_or,Bool.or_eq_true] at hi
   rcases hi with hi | hi
   ·exact hm i hi
   ·exact edges_listed (fun o ho=>hcl k o ho (hm k hb)) hi
  | false =>
   rw[hb,cond_false] at h
   exact reach_listed hcl k m hm i h
theorem waits_listed {ops:Array Oper} {listed:Array Bool} (hcl:closedL ops listed):∀ (f j i:Nat),(∀ o,ops[j]? = some o → ∀ e ∈ o.after,Region.binds .any e = true → listed.getD e.on false = true) → waits ops f j i = true → listed.getD i false = true :=
 fun f j i hj h=>reach_listed hcl j _ (fun i hi=>edges_listed hj hi) i h
def anyA (P:Program) (Γ:Opt) (ops:List Oper) (K:St → Prop):Nat → Array Bool → St → Prop
 | 0,listed,s=>Region.ready .any ops.toArray listed = [] ∧ K s
 | f + 1,listed,s=>(Region.ready .any ops.toArray listed = [] → K s) ∧
  ∀ i ∈ Region.ready .any ops.toArray listed,∃ o e,ops[i]? = some o ∧ EffR P Γ ops s o e ∧ e.cond ∧ anyA P Γ ops K f (listed.setIfInBounds i true) (s.app o.dst e)
section
variable {w0:World} {χ0:Col} {T0:Ctx} {n:Nat} {K:St → Prop}
def LiveS (w0:World) (χ0:Col) (T0:Ctx) (n:Nat) (s:St):Prop := ∃ a w,After w0 χ0 T0 n s a w
theorem Oper.wp_exists {o:Oper} {a:Act} {w:World} {K:Act → World → Prop} (h:o.wp P a w K (fun _ _ _=>False)):∃ a' w',K a' w':=by
 unfold Oper.wp at h
 generalize (execOp a.eval o).run P w = r at h
 cases r with
 | ok nx w' =>
  cases nx <;> simp only[Oper.upon] at h
  case value v=>exact⟨_,_,h⟩
  case skip=>exact⟨_,_,h⟩
  case defer d=>exact⟨_,_,h⟩
  case enter f args =>
   obtain⟨e,w'',fr,hR,_⟩:=h []
   cases e with
   | returned v=>exact⟨_,_,hR⟩
   | panicked c=>exact hR.elim
   | outgrown=>obtain⟨_,_,h⟩:=hR; exact h.elim
  case row r args =>
   obtain⟨v,w'',hR,_⟩:=h default []
   exact⟨_,_,hR⟩
 | halt x w'=>cases x <;> simp only[Oper.upon] at h
theorem live_step {o:Oper} {e:Eff} (hdn:∀ o ∈ ops,∀ k,o.dst = some k → k < n) (ho:o ∈ ops) (hl:LiveS w0 χ0 T0 n s) (h:EffR P Γ ops s o e) (hc:e.cond):LiveS w0 χ0 T0 n (s.app o.dst e):=by
 obtain⟨a,w,ha⟩:=hl
 have:=eff_step (Q:=fun _ _ _=>False) hdn ho ha h hc (K:=fun a' w'=>After w0 χ0 T0 n (s.app o.dst e) a' w') (fun _ _ h=>h)
 split at this
 ·rcases this with h | ⟨_,_,_,h⟩
  ·exact Oper.wp_exists h
  ·exact h.elim
 ·exact⟨_,_,this⟩
theorem live_wf (hl:LiveS w0 χ0 T0 n s):WF s:=by obtain⟨a,w,_,G,r⟩:=hl; exact wf_of_rep r
theorem anyA_first (hdn:∀ o ∈ ops,∀ k,o.dst = some k → k < n) (hb:∀ o ∈ ops,∀ k:Nat,o.dst = some k → k < 10000) {i:Nat} {oi:Oper} {f0:Nat} (hi:ops[i]? = some oi) :
  ∀ (fuel:Nat) (listed:Array Bool) (s:St) (ei:Eff),LiveS w0 χ0 T0 n s → closedL ops.toArray listed → (∀ j oj,ops[j]? = some oj → j ≠ i → listed.getD j true = false → waits ops.toArray f0 j i = true ∨ (oi.apart ops.toArray oj = true ∧ compat Γ oi oj = true)) →
   i ∈ Region.ready .any ops.toArray listed → EffR P Γ ops s oi ei → ei.cond → anyA P Γ ops K fuel (listed.setIfInBounds i true) (s.app oi.dst ei) → anyA P Γ ops K (fuel + 1) listed s:=by
 intro fuel
 induction fuel with
 | zero =>
  intro listed s ei hl hcl hfree hr he hc H
  refine⟨fun h=>(by rw[h] at hr; cases hr),fun j hj=>?_⟩
  by_cases hji:j = i
  ·subst hji; exact⟨oi,ei,hi,he,hc,H⟩
  ·have:=ready_mono hj hji
   rw[H.1] at this
   cases this
 | succ fuel ih =>
  intro listed s ei hl hcl hfree hr he hc H
  refine⟨fun h=>(by rw[h] at hr; cases hr),fun j hj=>?_⟩
  by_cases hji:j = i
  ·subst hji; exact⟨oi,ei,hi,he,hc,H⟩
  ·obtain⟨oj,ej,hoj,hej,hcj,hjK⟩:=H.2 j (ready_mono hj hji)
   obtain⟨hjun,oj',hoj',hall⟩:=mem_ready.1 hj
   have hoj'':ops[j]? = some oj':=by simpa using hoj'
   rw[hoj] at hoj''
   injection hoj'' with hoj''
   subst hoj''
   have hiun:=(mem_ready.1 hr).1
   have hcm:oi.apart ops.toArray oj = true ∧ compat Γ oi oj = true:=by
    rcases hfree j oj hoj hji hjun with h | h
    ·have:=waits_listed hcl f0 j i (fun o ho e he hb=>by rw[hoj'] at ho; injection ho with ho; subst ho; exact hall e he hb) h
     rcases Nat.lt_or_ge i listed.size with h' | h'
     ·simp [h'] at this hiun; rw[hiun] at this; cases this
     ·simp [Array.getElem?_eq_none h'] at this
    ·exact h
   have hbi:=hb oi (List.mem_of_getElem? hi)
   have hbj:=hb oj (List.mem_of_getElem? hoj)
   have hap':oj.apart ops.toArray oi = true:=by
    obtain⟨a1,a2,a3⟩:=Oper.apart_spec hcm.1
    unfold Oper.apart
    rw[Bool.and_eq_true]
    constructor
    ·split
     ·rename_i d hd
      rw[Bool.and_eq_true]
      exact⟨by simpa using a3 d hd,by simp only[bne_iff_ne]; exact fun h=>a2 d h hd⟩
     ·rfl
    ·split
     ·rename_i d hd
      simpa using a1 d hd
     ·rfl
   have three:EffR P Γ ops s oj ej ∧ EffR P Γ ops (s.app oj.dst ej) oi ei ∧ ∀ x ∈ ei.wr,∀ y ∈ ej.wr,x.1 ≠ y.1:=by
    have hcc:=hcm.2
    unfold compat at hcc
    simp only[Bool.or_eq_true,Bool.and_eq_true] at hcc
    rcases hcc with (hc0 | (hca | hca) | hca | hca | hca) | (hca | hca)
    ·have hej':EffR P Γ ops s oj ej:=(eff_after (live_wf hl) hcm.1 hc0 hbi hbj he).1 hej
     refine⟨hej',?_,wr_apart hcm.1 hc0 hbi hbj he hej'⟩
     by_cases hps:isSl oj.op = true ∧ cls Γ oi = .P
     ·have hc2:=compat_c hc0
      rw[hps.2] at hc2
      refine eff_nowr hap' ((eff_wr hej').1 ?_) he
      cases hcj2:cls Γ oj <;> rw[hcj2] at hc2 <;> first | (cases hc2; done) | exact .inl rfl | exact .inr rfl
     ·have hcm':compat0 Γ oj oi = true:=by
       unfold compat0
       rw[compC_comm,compat_c hc0,Bool.true_and]
       cases h1:isSl oj.op with
       | false=>rfl
       | true =>
        have:cls Γ oi ≠ .P:=fun h2=>hps ⟨h1,h2⟩
        rw[decide_eq_false this]; rfl
      exact (eff_after (live_wf hl) hap' hcm' hbj hbi hej').2 (compat_s hc0) he
    ·exact ld_st hcm.1 hap' hca he hej
    ·exact st_ld hcm.1 hap' hca he hej
    ·exact call_alloc (live_wf hl) hcm.1 hap' hca.1 hca.2 hbi hbj he hej
    ·exact call_read (live_wf hl) hcm.1 hap' hca.1 hca.2.1 hca.2.2 hbi hbj he hej
    ·exact read_call (live_wf hl) hcm.1 hap' hca.1 hca.2.1 hca.2.2 hbi hbj he hej
    ·exact call_sp (live_wf hl) hcm.1 hap' hca he hej
    ·exact sp_call (live_wf hl) hcm.1 hap' hca he hej
   obtain⟨hej',hei',hwa⟩:=three
   have hl':LiveS w0 χ0 T0 n (s.app oj.dst ej):=live_step hdn (List.mem_of_getElem? hoj) hl hej' hcj
   refine⟨oj,ej,hoj,hej',hcj,ih (listed.setIfInBounds j true) _ ei hl' ?_ ?_ (ready_mono hr (Ne.symm hji)) hei' hc ?_⟩
   ·intro m o ho hm e he hbd
    by_cases hmj:m = j
    ·subst hmj
     rw[hoj'] at ho
     injection ho with ho
     subst ho
     exact getD_set_true (hall e he hbd)
    ·rw[getD_set_ne false (Ne.symm hmj)] at hm
     exact getD_set_true (hcl m o ho hm e he hbd)
   ·intro k ok hk hki hun
    refine hfree k ok hk hki ?_
    by_cases hjk:j = k
    ·subst hjk; exact hjun
    ·rw[getD_set_ne true hjk] at hun; exact hun
   ·rw[Array.setIfInBounds_comm _ _ hji]
    have hcom:=app_comm (s:=s) (ei:=ei) (ej:=ej) (Oper.apart_spec hcm.1).2.1 hwa
    rw[← hcom]; exact hjK
end
end
end Go.Lad
