import Derived.Test.YtcmibmohdnbhgaaGreatDoorAb14r
namespace Go.Lad
set_option linter.unusedVariables false
set_option linter.unusedSimpArgs false
open Go.RowKit
def LoopA (B:St → (AEx → St → Prop) → Prop) (s:St) (Q:AEx → St → Prop):Prop :=
 ∃ (α:Type) (tms:α → List (Nat × Slot)) (hps:α → List (Nat × HObj)) (μ:α → Nat),(∃ x σ,Sub σ s (tms x) (hps x)) ∧
  ∀ x,B (mkSt (tms x) (hps x)) fun e s'=>match e with
   | .normal=>∃ y σ,Sub σ s' (tms y) (hps y) ∧ μ y < μ x
   | e=>Q e s'
def JoinS (K:St → Prop) (s:St):Prop:=K s ∨ ∃ tms hps σ,Sub σ s tms hps ∧ K (mkSt tms hps)
def headId:Code → Nat
 | .region id _ _=>id
 | .seq a _=>headId a
 | .block _ b=>headId b
 | .loop b=>headId b
 | .scope b=>headId b
 | _=>1000000
def JoinAt (js:List Nat) (b:Code) (K:St → Prop) (s:St):Prop:=if js.contains (headId b) then JoinS K s else K s
def thenA (K:St → Prop) (Q:AEx → St → Prop):AEx → St → Prop
 | .normal,s=>K s
 | e,s=>Q e s
def blockA (id:Nat) (Q:AEx → St → Prop):AEx → St → Prop
 | .exit i,s=>if i = id then Q .normal s else Q (.exit i) s
 | e,s=>Q e s
def condA (x:Slot) (A B:Prop):Prop :=
 match x with
 | .c (.v (.p (.bool t)))=>(t = true → A) ∧ (t = false → B)
 | .c (.v (.nb p l))=>if p then (l = [] → A) ∧ B else A ∧ (l = [] → B)
 | _=>False
def capsF (os:List Nat) (cs:List HObj) (hp:Hp):Hp:=fun o=>match lookL (os.zip cs) o with | some h=>some h | none=>hp o
def St.restr (s:St) (ts:List Nat):St:={ s with tm:=fun t=>if t ∈ ts then .dead else s.tm t }
structure AtRec (w0:World) (χ0:Col) (T0:Ctx) (s:St) (a:Act) (l:Nat) (r:Loop) (G:Gh) (W:World):Prop where
 rep:RepG w0 χ0 T0 s a W G
 rec_:W.heap[l]? = some (.loop r)
 col:G.χ l = 1
def IterLaw (P:Program) (gf:FuncId) (xs:List (List Cmp)) (cs:Nat → List HObj):Prop :=
 ∀ (w0:World) (χ0:Col) (T0:Ctx) (a:Act) (tm:Nat → Slot) (tg:Nat) (os:List Nat) (lb:Array Value) (l m:Nat) (r:Loop) (I:Nat → Hp → Prop) (Jx:World → Prop) (W:World),
  (∀ b,χ0 b ≤ 1) → w0.heap.size ≤ l → tm tg = .c (.v (.fn (2 * gf) os)) → a.tmps.getD tg undef = .func (.func gf) #[] lb → (∀ k,(cs k).length = os.length) → os.Nodup →
  (∀ (m k:Nat) (hk:k < xs.length) (hp:Hp) G W' vs,I k hp → AtRec w0 χ0 T0 ⟨tm,capsF os (cs k) hp⟩ a l r G W' → All2 (CRd G (capsF os (cs k) hp) W') xs[k] vs →
   YieldAt Fence.wide m P l vs.toArray W' fun e W''=>(e = .returned (.bool true) ∧ ∃ hp' G',I (k + 1) hp' ∧ AtRec w0 χ0 T0 ⟨tm,capsF os (cs k) hp'⟩ a l r G' W'') ∨ (e = .returned (.bool false) ∧ Jx W'')) →
  (∃ hp G,I 0 hp ∧ AtRec w0 χ0 T0 ⟨tm,capsF os (cs 0) hp⟩ a l r G W) →
  CallsIn Fence.wide m P gf (#[.func (.yield l) #[] #[]] ++ lb) W fun e W'=>(∃ v,e = .returned v) ∧ ((∃ hp G,I xs.length hp ∧ AtRec w0 χ0 T0 ⟨tm,capsF os (cs xs.length) hp⟩ a l r G W') ∨ Jx W')
def RangeA (P:Program) (A B:St → (AEx → St → Prop) → Prop) (g:Operand) (ps:List Nat) (ts:List Nat) (s:St) (Q:AEx → St → Prop):Prop :=
 ∃ (tg:Nat) (gf:FuncId) (os:List Nat) (xs:List (List Cmp)) (cs:Nat → List HObj) (α:Type) (R:Nat → α → Prop) (tms:List (Nat × Slot)) (H:Nat → α → List (Nat × HObj)),
  g = .tmp tg ∧ IterLaw P gf xs cs ∧ lookL tms tg = some (.c (.v (.fn (2 * gf) os))) ∧ (∀ k,(cs k).length = os.length) ∧ os.Nodup ∧ (∀ args w,(callFunc gf args).run P w = .ok (.enter gf args) w) ∧ (∀ x ∈ xs,x.length = ps.length) ∧ (∀ x ∈ tms,x.1 ∈ ts → x.2 = .dead) ∧
  (∀ k x,(fun o=>lookL (H k x) o) = capsF os (cs k) (fun o=>lookL (H 0 x) o)) ∧ (∃ x σ,R 0 x ∧ Sub σ s tms (H 0 x)) ∧
  (∀ (k:Nat) (hk:k < xs.length) (x:α),R k x → A (mkSt (ps.zip (xs[k].map Slot.c) ++ tms) (H k x)) fun e s1=>match e with
   | .normal=>B s1 fun e s'=>match e with
    | .normal=>∃ (y:α) (σ:Ren),R (k + 1) y ∧ Sub σ s' tms (H k y)
    | .exit i=>Q (.exit i) (s'.restr ts)
    | .ret=>Q .ret (s'.restr ts)
   | _=>False) ∧
  (∀ x:α,R xs.length x → Q .normal (mkSt tms (H xs.length x)))
def nodupB:List Nat → Bool
 | []=>true
 | x :: r=>!r.contains x && nodupB r
theorem nodupB_iff:∀ l:List Nat,nodupB l = true → l.Nodup
 | [],_=>List.nodup_nil
 | x :: r,h=>by
  unfold nodupB at h
  rw[Bool.and_eq_true] at h
  exact List.nodup_cons.2 ⟨fun hm=>(by have:=h.1; rw[List.contains_iff_mem.2 hm] at this; cases this),nodupB_iff r h.2⟩
def codeOK (Γ:Opt) (n:Nat):Code → Bool
 | .region _ ops draw=>ops.toList.all (fun o=>match o.dst with | some d=>decide (d < n) && decide (d < 10000) | none=>true) && (!draw || okDraw Γ ops.toList)
 | .seq a b=>codeOK Γ n a && codeOK Γ n b
 | .cond _ a b=>codeOK Γ n a && codeOK Γ n b
 | .block _ b=>codeOK Γ n b
 | .loop b=>codeOK Γ n b
 | .scope b=>codeOK Γ n b
 | .rangeFunc _ ps a b=>codeOK Γ n a && codeOK Γ n b && roundOK a && roundOK b && ps.toList.all (fun p=>decide (p < n)) && nodupB ps.toList
 | _=>true
def HandS (P:Program) (Γ:Opt) (c:Code) (s s':St):Prop :=
 ∀ (w0:World) (χ0:Col) (T0:Ctx) (n:Nat) (a:Act) (w:World),P.follows .mixedOrders = true → (∀ b,χ0 b ≤ 1) → T0.lo ≤ w0.heap.size → codeOK Γ n c = true → Γ.nt = n → After w0 χ0 T0 n s a w → c.wp P (fun e a' w'=>e = .normal ∧ After w0 χ0 T0 n s' a' w') a w
def codeA (P:Program) (Γ:Opt):Code → St → (AEx → St → Prop) → Prop
 | .skip,s,Q=>Q .normal s
 | .region _ ops _,s,Q=>regA P Γ ops.toList ops.toList s (fun s'=>Q .normal s')
 | .seq a b,s,Q=>codeA P Γ a s (thenA (JoinAt Γ.js b fun s'=>codeA P Γ b s' Q) Q) ∨ (roundOK (.seq a b) = false ∧ ∃ s',HandS P Γ (.seq a b) s s' ∧ Q .normal s')
 | .cond c a b,s,Q=>condA (s.ev c) (codeA P Γ a s Q) (codeA P Γ b s Q)
 | .block id b,s,Q=>codeA P Γ b s (blockA id Q)
 | .loop b,s,Q=>LoopA (codeA P Γ b) s Q
 | .exit id,s,Q=>Q (.exit id) s
 | .ret,s,Q=>Q .ret s
 | .scope b,s,Q=>codeA P Γ b s Q
 | .rangeFunc g ps a b,s,Q=>RangeA P (codeA P Γ a) (codeA P Γ b) g ps.toList (ps.toList ++ dsts a ++ dsts b) s Q
 | _,_,_=>False
section
variable {P:Program} {Γ:Opt} {s:St} {w0:World} {χ0:Col} {T0:Ctx} {n:Nat} {a:Act} {w:World}
def liftQ (w0:World) (χ0:Col) (T0:Ctx) (n:Nat) (Q:AEx → St → Prop):Exit → Act → World → Prop
 | .normal,a,w=>∃ s,Q .normal s ∧ After w0 χ0 T0 n s a w
 | .exit i,a,w=>∃ s,Q (.exit i) s ∧ After w0 χ0 T0 n s a w
 | .ret,a,w=>∃ s,Q .ret s ∧ After w0 χ0 T0 n s a w
 | _,_,_=>False
def exOf:AEx → Exit
 | .normal=>.normal
 | .exit i=>.exit i
 | .ret=>.ret
theorem dsts_region {id:Nat} {ops:Array Oper} {draw:Bool} {o:Oper} {k:Nat} (ho:o ∈ ops.toList) (hk:o.dst = some k):k ∈ dsts (.region id ops draw):=List.mem_filterMap.2 ⟨o,ho,hk⟩
theorem SameT.mono {ts ts':List Nat} {a b:Act} (h:SameT ts a b) (hs:∀ t ∈ ts,t ∈ ts'):SameT ts' a b:=fun t ht=>h t fun h2=>ht (hs t h2)
theorem SameT.trans {ts:List Nat} {a b c:Act} (h:SameT ts a b) (h2:SameT ts b c):SameT ts a c:=fun t ht=>(h2 t ht).trans (h t ht)
theorem code_okR {l0 m:Nat} {ts:List Nat} (hχ:∀ b,χ0 b ≤ 1):∀ (c:Code) (s:St) (Q:AEx → St → Prop) (a:Act) (w:World),codeOK Γ n c = true → roundOK c = true → (∀ t ∈ dsts c,t ∈ ts) → codeA P Γ c s Q → After w0 χ0 T0 n s a w →
  c.wpIn (Fence.wide.inRound l0) m P (fun e a' w'=>liftQ w0 χ0 T0 n Q e a' w' ∧ SameT ts a a') a w
 | .skip,s,Q,a,w,_,_,_,h,ha=>wpIn_skip ⟨⟨s,h,ha⟩,SameT.refl _ _⟩
 | .region id ops draw,s,Q,a,w,hk,hr,hd,h,ha=>by
  unfold codeOK at hk
  unfold roundOK at hr
  rw[Bool.and_eq_true] at hk hr
  have hdst:∀ o ∈ ops.toList,∀ k:Nat,o.dst = some k → k < n:=fun o ho k hd=>by
   have:=List.all_eq_true.1 hk.1 o ho
   rw[hd] at this
   simp at this
   exact this.1
  have hdr:draw = false:=by simpa using hr.1
  subst hdr
  refine wpIn_region_list ?_
  have:=regR_ok (ops:=ops.toList) (l0:=l0) (m:=m) (Q:=fun e a' w'=>liftQ w0 χ0 T0 n Q e a' w' ∧ SameT ts a a') (ts:=ts) (a0:=a) hχ hdst (fun o ho c hc=>by
    have:=List.all_eq_true.1 hr.2 o ho
    rw[hc] at this; cases this)
   (fun o ho k hk=>hd k (dsts_region ho hk)) (K:=fun s'=>Q .normal s') (fun s a w h ha hs=>⟨⟨s,h,ha⟩,hs⟩) ops.toList s a w (fun o ho=>ho) ha (SameT.refl _ _) (lex_of_reg _ _ h)
  simpa using this
 | .seq x y,s,Q,a,w,hk,hr,hd,h,ha=>by
  rcases h with h | ⟨h,_⟩
  case inr=>rw[hr] at h; cases h
  unfold codeOK at hk
  unfold roundOK at hr
  rw[Bool.and_eq_true] at hk hr
  refine wpIn_seq (wpIn_mono (code_okR hχ x s _ a w hk.1 hr.1 (fun t ht=>hd t (List.mem_append_left _ ht)) h ha) fun e a' w' hq=>?_)
  obtain⟨hq,hs⟩:=hq
  cases e with
  | normal =>
   obtain⟨s',h1,h2⟩:=hq
   have h1:JoinS (fun s'=>codeA P Γ y s' Q) s':=by
    have h1:(if Γ.js.contains (headId y) then JoinS (fun s'=>codeA P Γ y s' Q) s' else codeA P Γ y s' Q):=h1
    split at h1
    ·exact h1
    ·exact .inl h1
   have go:∀ s2,codeA P Γ y s2 Q → After w0 χ0 T0 n s2 a' w' → y.wpIn (Fence.wide.inRound l0) m P (fun e a' w'=>liftQ w0 χ0 T0 n Q e a' w' ∧ SameT ts a a') a' w':=fun s2 h3 h4 =>
    wpIn_mono (code_okR hχ y s2 Q a' w' hk.2 hr.2 (fun t ht=>hd t (List.mem_append_right _ ht)) h3 h4) fun e a2 w2 h5=>⟨h5.1,hs.trans h5.2⟩
   rcases h1 with h1 | ⟨tms,hps,σ,h1,h3⟩
   ·exact go s' h1 h2
   ·exact go _ h3 (Sub_ok hχ h1 h2)
  | exit i=>exact⟨hq,hs⟩
  | ret=>exact⟨hq,hs⟩
  | goto l=>exact hq.elim
  | panic c=>exact hq.elim
  | outgrown=>exact hq.elim
 | .cond c x y,s,Q,a,w,hk,hr,hd,h,ha=>by
  unfold codeOK at hk
  unfold roundOK at hr
  rw[Bool.and_eq_true] at hk hr
  unfold codeA at h
  have hx:∀ t ∈ dsts x,t ∈ ts:=fun t ht=>hd t (List.mem_append_left _ ht)
  have hy:∀ t ∈ dsts y,t ∈ ts:=fun t ht=>hd t (List.mem_append_right _ ht)
  obtain⟨hn,G,r⟩:=ha
  have hv:=r.ev c
  unfold condA at h
  split at h
  ·rename_i t hs
   rw[hs] at hv
   exact wpIn_cond_split (rd_bool hv) (fun ht=>code_okR hχ x s Q a w hk.1 hr.1 hx (h.1 ht) ⟨hn,G,r⟩) (fun ht=>code_okR hχ y s Q a w hk.2 hr.2 hy (h.2 ht) ⟨hn,G,r⟩)
  ·rename_i p l hs
   rw[hs] at hv
   obtain⟨b,hb,hl⟩:=LRd.val hv
   cases p with
   | true =>
    simp only[if_true] at h
    exact wpIn_cond_split hb (fun ht=>code_okR hχ x s Q a w hk.1 hr.1 hx (h.1 (hl ht)) ⟨hn,G,r⟩) (fun ht=>code_okR hχ y s Q a w hk.2 hr.2 hy h.2 ⟨hn,G,r⟩)
   | false =>
    simp only[Bool.false_eq_true,if_false] at h
    exact wpIn_cond_split hb (fun ht=>code_okR hχ x s Q a w hk.1 hr.1 hx h.1 ⟨hn,G,r⟩) (fun ht=>code_okR hχ y s Q a w hk.2 hr.2 hy (h.2 (hl ht)) ⟨hn,G,r⟩)
  ·exact h.elim
 | .block id b,s,Q,a,w,hk,hr,hd,h,ha=>by
  unfold codeOK at hk
  unfold roundOK at hr
  refine wpIn_block (wpIn_mono (code_okR hχ b s _ a w hk hr hd h ha) fun e a' w' hq=>?_)
  obtain⟨hq,hs⟩:=hq
  cases e with
  | normal=>exact⟨hq,hs⟩
  | exit i =>
   obtain⟨s',h1,h2⟩:=hq
   have h1:(if i = id then Q .normal s' else Q (.exit i) s'):=h1
   simp only[Exit.inBlock]
   split
   ·rename_i hi; rw[if_pos hi] at h1; exact⟨⟨s',h1,h2⟩,hs⟩
   ·rename_i hi; rw[if_neg hi] at h1; exact⟨⟨s',h1,h2⟩,hs⟩
  | ret=>exact⟨hq,hs⟩
  | goto l=>exact hq.elim
  | panic c=>exact hq.elim
  | outgrown=>exact hq.elim
 | .exit id,s,Q,a,w,_,_,_,h,ha=>wpIn_exit ⟨⟨s,h,ha⟩,SameT.refl _ _⟩
 | .ret,s,Q,a,w,_,_,_,h,ha=>wpIn_ret ⟨⟨s,h,ha⟩,SameT.refl _ _⟩
 | .loop _,_,_,_,_,_,hr,_,_,_=>by cases hr
 | .scope _,_,_,_,_,_,hr,_,_,_=>by cases hr
 | .rangeFunc _ _ _ _,_,_,_,_,_,hr,_,_,_=>by cases hr
 | .label _,_,_,_,_,_,hr,_,_,_=>by cases hr
 | .goto _,_,_,_,_,_,hr,_,_,_=>by cases hr
 | .refuse _,_,_,_,_,_,hr,_,_,_=>by cases hr
def PostR (w0:World) (χ0:Col) (T0:Ctx) (n:Nat) (Q:AEx → St → Prop) (ts:List Nat) (a:Act) (G:Gh) (W:World):Exit → Act → World → Prop:=fun e a' w' =>
 ∃ ex s' G',exOf ex = e ∧ Q ex s' ∧ a'.tmps.size = n ∧ RepG w0 χ0 T0 s' a' w' G' ∧ SameT ts a a' ∧ Kept1 G W G' w'
theorem code_okRB {l0 m:Nat} {ts:List Nat} {c:Code} {Q:AEx → St → Prop} {G:Gh} (hχ:∀ b,χ0 b ≤ 1) (hk:codeOK Γ n c = true) (hr:roundOK c = true) (hd:∀ t ∈ dsts c,t ∈ ts) (h:codeA P Γ c s Q) (hn:a.tmps.size = n) (r:RepG w0 χ0 T0 s a w G) :
  c.wpIn (Fence.wide.inRound l0) m P (PostR w0 χ0 T0 n Q ts a G w) a w:=by
 have hb:=r.base
 refine wpIn_mono (code_okR (l0:=l0) (m:=m) (ts:=ts) (baseχ_le G) c s Q a w hk hr hd h ⟨hn,G,hb⟩) fun ex a' w' hq=>?_
 obtain⟨hq,hs⟩:=hq
 have go:∀ (ax:AEx) (s':St),Q ax s' → exOf ax = ex → After w (baseχ G) (baseT T0 G) n s' a' w' → PostR w0 χ0 T0 n Q ts a G w ex a' w':=fun ax s' h1 h2 ⟨h3,G',h4⟩ =>
  ⟨ax,s',G',h2,h1,h3,r.back hχ h4 rfl h4.tms h4.defers,hs,h4.kept1⟩
 cases ex with
 | normal=>obtain⟨s',h1,h2⟩:=hq; exact go .normal s' h1 rfl h2
 | exit i=>obtain⟨s',h1,h2⟩:=hq; exact go (.exit i) s' h1 rfl h2
 | ret=>obtain⟨s',h1,h2⟩:=hq; exact go .ret s' h1 rfl h2
 | goto l=>exact hq.elim
 | panic c=>exact hq.elim
 | outgrown=>exact hq.elim
theorem lookL_app2 {α:Type}:∀ (l m:List (Nat × α)) (k:Nat),lookL (l ++ m) k = match lookL l k with | some x=>some x | none=>lookL m k
 | [],_,_=>rfl
 | x :: r,m,k=>by
  show (if k = x.1 then some x.2 else lookL (r ++ m) k) = match (if k = x.1 then some x.2 else lookL r k) with | some x=>some x | none=>lookL m k
  by_cases h:k = x.1
  ·rw[if_pos h,if_pos h]
  ·rw[if_neg h,if_neg h,lookL_app2 r m k]
theorem lookL_cons {α:Type} (p:Nat) (v:α) (l:List (Nat × α)) (k:Nat):lookL ((p,v) :: l) k = if k = p then some v else lookL l k:=rfl
theorem lookL_no {α:Type} {l:List (Nat × α)} {k:Nat} (h:∀ x ∈ l,x.1 ≠ k):lookL l k = none:=by
 cases hl:lookL l k with
 | none=>rfl
 | some v=>exact absurd rfl (h _ (lookL_mem hl))
theorem zip_rd {G:Gh} {hp:Hp} {w:World}:∀ (ps:List Nat) (cs:List Cmp) (vs:List Value) (t0:Array Value) (tms:List (Nat × Slot)),ps.length = cs.length → All2 (CRd G hp w) cs vs → ps.Nodup → (∀ p ∈ ps,p < t0.size) →
  (∀ t,SRd G hp w ((lookL tms t).getD .dead) (t0.getD t undef)) → ∀ t,SRd G hp w ((lookL (ps.zip (cs.map Slot.c) ++ tms) t).getD .dead) (((ps.zip vs).foldl (fun t (x:Nat × Value)=>t.setIfInBounds x.1 x.2) t0).getD t undef)
 | [],cs,vs,t0,tms,_,_,_,_,h,t=>h t
 | p :: ps,[],_,_,_,hl,_,_,_,_,_=>by cases hl
 | p :: ps,c :: cs,[],_,_,_,h2,_,_,_,_=>by have:=h2.1; cases this
 | p :: ps,c :: cs,v :: vs,t0,tms,hl,h2,hn,hb,h,t=>by
  rw[List.nodup_cons] at hn
  have hpt:p < t0.size:=hb p List.mem_cons_self
  have ih:=zip_rd (G:=G) (hp:=hp) (w:=w) ps cs vs (t0.setIfInBounds p v) ((p,.c c) :: tms) (by simpa using hl) ⟨by simpa using h2.1,fun i a b ha hb=>h2.2 (i + 1) a b (by simpa using ha) (by simpa using hb)⟩ hn.2 (fun q hq=>by rw[Array.size_setIfInBounds]; exact hb q (List.mem_cons_of_mem _ hq)) (fun t=>by
   show SRd G hp w ((if t = p then some (Slot.c c) else lookL tms t).getD .dead) _
   rw[Array.getD_eq_getD_getElem?,Array.getElem?_setIfInBounds]
   by_cases ht:t = p
   ·subst ht
    rw[if_pos rfl,if_pos rfl,if_pos hpt]
    exact h2.2 0 c v rfl rfl
   ·rw[if_neg ht,if_neg (fun e=>ht e.symm),← Array.getD_eq_getD_getElem?]; exact h t) t
  have e:lookL ((p,Slot.c c) :: (ps.zip (cs.map Slot.c) ++ tms)) t = lookL (ps.zip (cs.map Slot.c) ++ (p,Slot.c c) :: tms) t:=by
   rw[lookL_app2,lookL_cons,lookL_cons]
   by_cases ht:t = p
   ·subst ht
    rw[if_pos rfl,lookL_no (fun x hx e=>hn.1 (by rw[← e]; exact (List.of_mem_zip (a:=x.1) (b:=x.2) hx).1))]
    exact (if_pos rfl).symm
   ·rw[if_neg ht,if_neg ht,lookL_app2]
  show SRd G hp w ((lookL ((p,Slot.c c) :: (ps.zip (cs.map Slot.c) ++ tms)) t).getD .dead) _
  rw[e]; exact ih
theorem foldl_size:∀ (l:List (Nat × Value)) (t0:Array Value),(l.foldl (fun t (x:Nat × Value)=>t.setIfInBounds x.1 x.2) t0).size = t0.size
 | [],_=>rfl
 | x :: l,t0=>by rw[List.foldl_cons,foldl_size l,Array.size_setIfInBounds]
theorem foldl_same:∀ (ps:List Nat) (vs:List Value) (t0:Array Value) (t:Nat),t ∉ ps → ((ps.zip vs).foldl (fun t (x:Nat × Value)=>t.setIfInBounds x.1 x.2) t0).getD t undef = t0.getD t undef
 | [],_,_,_,_=>rfl
 | p :: ps,[],_,_,_=>rfl
 | p :: ps,v :: vs,t0,t,ht=>by
  rw[List.zip_cons_cons,List.foldl_cons,foldl_same ps vs _ t fun h=>ht (List.mem_cons_of_mem _ h)]
  rw[Array.getD_eq_getD_getElem?,Array.getElem?_setIfInBounds,if_neg (fun e=>ht (List.mem_cons.2 (.inl (show t = p from e.symm)))),← Array.getD_eq_getD_getElem?]
theorem DefOK.put {lo:Nat} {χ:Col} {ds:List Deferred} {l:Nat} {r:Loop} {o:Obj} (h:DefOK lo χ w ds) (hl:w.heap[l]? = some (.loop r)):DefOK lo χ (w.putObj l o) ds:=⟨h.1,fun d hd=>by
 obtain⟨D,h1,h2,h3,h4,h5⟩:=h.2 d hd
 have hne:D ≠ l:=by rintro rfl; rw[h5] at hl; cases hl
 exact⟨D,h1,h2,by simpa using h3,h4,(World.putObj_heap_other hne).trans h5⟩⟩
theorem DefOK.ne {lo:Nat} {χ:Col} {ds:List Deferred} {l:Nat} {r:Loop} (h:DefOK lo χ w ds) (hl:w.heap[l]? = some (.loop r)):∀ d ∈ ds,d ≠ { target := .collected l,args := #[] }:=by
 rintro d hd rfl
 obtain⟨D,h1,h2,h3,h4,h5⟩:=h.2 _ hd
 injection h1 with h1
 injection h1 with h1
 subst h1
 rw[h5] at hl; cases hl
theorem restr_rd {G:Gh} {hp:Hp} {ts:List Nat} {a b:Act} {s:St} (h:∀ t,SRd G hp w (s.tm t) (b.tmps.getD t undef)) (hs:SameT ts a b):∀ t,SRd G hp w ((s.restr ts).tm t) (a.tmps.getD t undef):=fun t=>by
 show SRd G hp w (if t ∈ ts then .dead else s.tm t) _
 by_cases ht:t ∈ ts
 ·rw[if_pos ht]; trivial
 ·rw[if_neg ht,← hs t ht]; exact h t
theorem rangeF_ok {g:Operand} {ps:Array Tmp} {A B:Code} {Q:AEx → St → Prop} (hχ:∀ b,χ0 b ≤ 1) (hlo:T0.lo ≤ w0.heap.size) (hkA:codeOK Γ n A = true) (hkB:codeOK Γ n B = true) (hrA:roundOK A = true) (hrB:roundOK B = true) (hps:∀ p ∈ ps.toList,p < n) (hnd:ps.toList.Nodup)
  (h:RangeA P (codeA P Γ A) (codeA P Γ B) g ps.toList (ps.toList ++ dsts A ++ dsts B) s Q) (ha:After w0 χ0 T0 n s a w):(Code.rangeFunc g ps A B).wp P (liftQ w0 χ0 T0 n Q) a w:=by
 obtain⟨tg,gf,os,xs,cs,α,R,tms,H,rfl,hit,hg,hcs,hond,eg,hxl,htd,hcap,⟨x0,σ0,hR0,hsub⟩,hround,hend⟩:=h
 have hst:∀ k x,mkSt tms (H k x) = (⟨fun t=>(lookL tms t).getD .dead,capsF os (cs k) (fun o=>lookL (H 0 x) o)⟩:St):=fun k x=>by
  unfold mkSt; rw[← hcap k x]
 obtain⟨hn,G0,r0⟩:=ha
 have r:=Sub_okG hχ hsub r0
 generalize renGh σ0 G0 = G at r
 refine (wpIn_wide (n:=1)).1 (wpIn_rangeFunc fun fn _=>?_)
 have hv:SRd G _ w ((lookL tms tg).getD .dead) (a.tmps.getD tg undef):=r.tms tg
 rw[hg] at hv
 have hval:=LRd.val (show LRd G _ w (.fn (2 * gf) os) (a.tmps.getD tg undef) from hv)
 obtain⟨lb,hlb⟩:∃ lb,(os.map fun o=>ptr (G.bl o) 0).toArray = lb:=⟨_,rfl⟩
 have hval:a.tmps.getD tg undef = .func (.func gf) #[] lb:=by
  have h1:a.tmps.getD tg undef = fnV (2 * gf) (os.map fun o=>ptr (G.bl o) 0):=hval
  rw[h1,fnV_even,hlb]
 have hge:a.eval (.tmp tg) = .func (.func gf) #[] lb:=hval
 obtain⟨rec0,hrec⟩:∃ rec0:Loop,rec0 = { state := .ready,pending:=none,fn,tmps:=a.tmps,params:=ps,assign:=A,body:=B,defers:=w.heap.size }:=⟨_,rfl⟩
 obtain⟨W1,hW1⟩:∃ W1,(w.alloc (.deferred (some []))).alloc (.loop rec0) = W1:=⟨_,rfl⟩
 obtain⟨l,hl⟩:∃ l,w.heap.size + 1 = l:=⟨_,rfl⟩
 obtain⟨a',ha'⟩:∃ a':Act,({ a with defers:={ target := .collected w.heap.size,args := #[] } :: a.defers }:Act) = a':=⟨_,rfl⟩
 have ht':a'.tmps = a.tmps:=by rw[← ha']
 have hsz1:(w.alloc (.deferred (some []))).heap.size = l:=by rw[World.size_alloc]; exact hl
 have hsz2:W1.heap.size = l + 1:=by rw[← hW1,World.size_alloc,hsz1]
 have hL1:W1.heap[l]? = some (.loop rec0):=by rw[← hW1,← hsz1]; exact World.alloc_heap_new _ _
 have hD1:W1.heap[w.heap.size]? = some (.deferred (some [])):=by
  rw[← hW1]; exact (Below.heap_alloc _ _ _ (by rw[hsz1]; omega)).trans (World.alloc_heap_new w _)
 obtain⟨G1,hG1⟩:∃ G1,addχ (addχ G w.heap.size) (w.alloc (.deferred (some []))).heap.size = G1:=⟨_,rfl⟩
 have r1:RepG w0 χ0 T0 (mkSt tms (H 0 x0)) a W1 G1:=by
  rw[← hW1,← hG1]; exact (r.allocF _).allocF _
 have hc1:G1.χ l = 1:=by rw[← hG1,hsz1]; exact if_pos rfl
 have hcD:G1.χ w.heap.size = 1:=by
  rw[← hG1,hsz1]
  show (if w.heap.size = l then 1 else if w.heap.size = w.heap.size then 1 else G.χ _) = 1
  rw[if_neg (by omega),if_pos rfl]
 have hw0:=r.size
 have r1':RepG w0 χ0 T0 (mkSt tms (H 0 x0)) a' W1 G1:=by
  refine⟨r1.os,r1.tape,r1.output,r1.size,r1.old,r1.col,r1.own,r1.pin,r1.norm,?_,fun t=>by rw[ht']; exact r1.tms t,r1.objs,r1.glob⟩
  rw[← ha']
  refine⟨List.nodup_cons.2 ⟨fun hm=>?_,r.defers.1⟩,fun d hd=>?_⟩
  ·obtain⟨D,h1,h2,h3,h4,h5⟩:=r.defers.2 _ hm
   injection h1 with h1
   injection h1 with h1
   omega
  ·rcases List.mem_cons.1 hd with rfl | hd
   ·exact⟨w.heap.size,rfl,by omega,by omega,hcD,hD1⟩
   ·exact r1.defers.2 d hd
 have hl0:w0.heap.size ≤ l:=by omega
 refine⟨l,[{ target := .collected w.heap.size,args := #[] }],W1,{ target := .fn (.func gf) lb,args := #[.func (.yield l) #[] #[]] },W1,gf,#[.func (.yield l) #[] #[]] ++ lb,W1,?_,?_,fun _ _=>trivial,?_,fun h=>by simp [Fence.wide] at h,?_⟩
 ·rw[← hW1,hrec,← hl]; exact run_enterLoop_outer _ _ _ _ _
 ·simp only[resolve,hge]
  simp [go_sem]
 ·simp [invoke,go_sem,eg]
 let Jx:World → Prop:=fun W=>∃ (ex:AEx) (c:Code) (s':St) (G':Gh) (rc:Loop),(ex = .ret ∧ c = .ret ∨ ∃ i,ex = .exit i ∧ c = .exit i) ∧ Q ex s' ∧ RepG w0 χ0 T0 s' a' W G' ∧ W.heap[l]? = some (.loop rc) ∧ rc.state ≠ .busy ∧ rc.pending = some c ∧ G'.χ l = 1
 refine (hit w0 χ0 T0 a' (fun t=>(lookL tms t).getD .dead) tg os lb l (1 - 1) rec0 (fun k hp=>∃ x:α,R k x ∧ hp = fun o=>lookL (H 0 x) o) Jx W1 hχ hl0 (by rw[hg]; rfl) (by rw[ht']; exact hval) hcs hond ?_ ⟨_,G1,⟨x0,hR0,rfl⟩,by rw[← hst]; exact r1',hL1,hc1⟩).mono ?_
 ·
  rintro m k hk hp G2 W2 vs ⟨x,hRk,rfl⟩ ⟨r2,hL2,hc2⟩ hvs
  rw[← hst] at r2
  rw[← hcap k x] at hvs
  have hvl:vs.length = ps.size:=by rw[← hvs.1,hxl _ (List.getElem_mem hk),Array.length_toList]
  have hy:=run_yield (P:=P) (args:=vs.toArray) hL2 (by rw[hrec]; simpa using hvl)
  rw[hrec] at hy
  refine⟨fn,_,A,B,hy,roundIn_of_wpIn trivial ?_⟩
  obtain⟨aR,haR⟩:∃ aR:Act,({ tmps:=(ps.zip vs.toArray).foldl (fun tmps (t,v)=>tmps.setIfInBounds t v) a.tmps,defers:=[] }:Act) = aR:=⟨_,rfl⟩
  have hzt:aR.tmps = (ps.toList.zip vs).foldl (fun t (x:Nat × Value)=>t.setIfInBounds x.1 x.2) a.tmps:=by
   rw[← haR]
   show (ps.zip vs.toArray).foldl _ _ = _
   rw[← Array.foldl_toList,Array.toList_zip]
  rw[haR]
  have hnR:aR.tmps.size = n:=by rw[hzt,foldl_size]; exact hn
  have hsR:SameT (ps.toList ++ dsts A ++ dsts B) a' aR:=fun t ht=>by
   rw[hzt,ht']
   exact foldl_same _ _ _ t fun h=>ht (by simp [h])
  have rR:RepG w0 χ0 T0 (mkSt (ps.toList.zip (xs[k].map Slot.c) ++ tms) (H k x)) aR W2 G2:=by
   refine⟨r2.os,r2.tape,r2.output,r2.size,r2.old,r2.col,r2.own,r2.pin,r2.norm,by rw[← haR]; exact DefOK.nil,fun t=>?_,r2.objs,r2.glob⟩
   rw[hzt]
   refine zip_rd ps.toList xs[k] vs a.tmps tms (hxl _ (List.getElem_mem hk)).symm hvs hnd (fun p hp=>by rw[hn]; exact hps p hp) (fun t=>?_) t
   have:=r2.tms t
   rw[ht'] at this
   exact this
  refine wpIn_mono (code_okRB (l0:=l) (m:=m) (ts:=ps.toList ++ dsts A ++ dsts B) hχ hkA hrA (fun t ht=>by simp [ht]) (hround k hk x hRk) hnR rR) fun e a3 W3 hq=>?_
  obtain⟨ex,s3,G3,rfl,hQ3,hn3,r3,hs3,hk3⟩:=hq
  cases ex with
  | exit i=>exact hQ3.elim
  | ret=>exact hQ3.elim
  | normal =>
   obtain⟨hc3,hL3⟩:=hk3.2 l (Array.getElem?_eq_some_iff.1 hL2).1 hc2
   have hL3:=hL3.trans hL2
   have hd3:=r2.defers.step hk3.1 hk3.2
   refine⟨_,run_beginRound hL3 (by rw[hrec]),?_⟩
   obtain⟨W4,hW4⟩:∃ W4,W3.putObj l (.loop { rec0 with state := .busy }) = W4:=⟨_,rfl⟩
   rw[hW4]
   have hL4:W4.heap[l]? = some (.loop { rec0 with state := .busy }):=by rw[← hW4]; exact World.putObj_heap_same (Array.getElem?_eq_some_iff.1 hL3).1
   have hd4:DefOK T0.lo G3.χ W4 a'.defers:=by rw[← hW4]; exact hd3.put hL3
   have r4:RepG w0 χ0 T0 s3 a3 W4 G3:=by rw[← hW4]; exact r3.putF hl0 hc3 (r3.defers.ne hL3)
   refine wpIn_mono (code_okRB (l0:=l) (m:=m) (ts:=ps.toList ++ dsts A ++ dsts B) hχ hkB hrB (fun t ht=>by simp [ht]) hQ3 hn3 r4) fun e a5 W5 hq=>?_
   obtain⟨ex,s5,G5,rfl,hQ5,hn5,r5,hs5,hk5⟩:=hq
   obtain⟨hc5,hL5⟩:=hk5.2 l (Array.getElem?_eq_some_iff.1 hL4).1 hc3
   have hL5:=hL5.trans hL4
   have hd5:=hd4.step hk5.1 hk5.2
   have r6:RepG w0 χ0 T0 (s5.restr (ps.toList ++ dsts A ++ dsts B)) a' W5 G5 :=
    ⟨r5.os,r5.tape,r5.output,r5.size,r5.old,r5.col,r5.own,r5.pin,r5.norm,hd5,restr_rd r5.tms ((hsR.trans hs3).trans hs5),r5.objs,r5.glob⟩
   have fin:∀ (jump:Option Code),(Instr.endRound l jump).run P W5 = .ok (.bool jump.isNone) (W5.putObj l (.loop { rec0 with state:=if jump.isNone then .ready else .done,pending:=jump })) ∧
     RepG w0 χ0 T0 (s5.restr (ps.toList ++ dsts A ++ dsts B)) a' (W5.putObj l (.loop { rec0 with state:=if jump.isNone then .ready else .done,pending:=jump })) G5 ∧
     (W5.putObj l (.loop { rec0 with state:=if jump.isNone then .ready else .done,pending:=jump })).heap[l]? = some (.loop { rec0 with state:=if jump.isNone then .ready else .done,pending:=jump }):=fun jump =>
    ⟨run_endRound (r:={ rec0 with state := .busy }) jump hL5,r6.putF hl0 hc5 (hd5.ne hL5),World.putObj_heap_same (Array.getElem?_eq_some_iff.1 hL5).1⟩
   cases ex with
   | normal =>
    obtain⟨y,σ,hRy,hsy⟩:=hQ5
    have r7:=Sub_okG hχ hsy r5
    have hc7:(renGh σ G5).χ l = 1:=(if_pos (by rw[hc5]; omega)).trans hc5
    have hd7:DefOK T0.lo (renGh σ G5).χ W5 a'.defers:=hd5.step (Nat.le_refl _) fun b _ h1=>⟨(if_pos (by rw[h1]; omega)).trans h1,rfl⟩
    have r8:RepG w0 χ0 T0 (mkSt tms (H k y)) a' W5 (renGh σ G5):=by
     refine⟨r7.os,r7.tape,r7.output,r7.size,r7.old,r7.col,r7.own,r7.pin,r7.norm,hd7,fun t=>?_,r7.objs,r7.glob⟩
     by_cases ht:t ∈ ps.toList ++ dsts A ++ dsts B
     ·show SRd _ _ _ ((lookL tms t).getD .dead) _
      cases hl2:lookL tms t with
      | none=>trivial
      | some z=>rw[show z = Slot.dead from htd _ (lookL_mem hl2) ht]; trivial
     ·rw[← ((hsR.trans hs3).trans hs5) t ht]; exact r7.tms t
    have f1:=run_endRound (P:=P) (r:={ rec0 with state := .busy }) none hL5
    refine⟨_,_,f1,.inl ⟨rfl,_,renGh σ G5,⟨y,hRy,rfl⟩,by rw[← hst]; exact r8.putF hl0 hc7 (hd7.ne hL5),?_,hc7⟩⟩
    rw[World.putObj_heap_same (Array.getElem?_eq_some_iff.1 hL5).1]
    rw[hrec]; rfl
   | exit i =>
    obtain⟨f1,f2,f3⟩:=fin (some (.exit i))
    exact⟨_,_,f1,.inr ⟨rfl,.exit i,.exit i,_,G5,_,.inr ⟨i,rfl,rfl⟩,hQ5,f2,f3,by simp,rfl,hc5⟩⟩
   | ret =>
    obtain⟨f1,f2,f3⟩:=fin (some .ret)
    exact⟨_,_,f1,.inr ⟨rfl,.ret,.ret,_,G5,_,.inl ⟨rfl,rfl⟩,hQ5,f2,f3,by simp,rfl,hc5⟩⟩
 ·
  rintro e W2 ⟨⟨v,rfl⟩,(⟨hp,G2,⟨x,hRx,rfl⟩,r2,hL2,hc2⟩ | ⟨ex,c,s',G2,rc,hex,hQ2,r2,hL2,hb2,hp2,hc2⟩)⟩
  ·rw[← hst] at r2
   refine⟨none,_,by have:=run_endLoop (P:=P) hL2 (by rw[hrec]; simp); rw[hrec] at this; exact this,?_⟩
   have hact:({ a with defers:=[{ target := .collected w.heap.size,args := #[] }] ++ a.defers }:Act) = a':=ha'
   rw[hact]
   exact⟨_,hend x hRx,by rw[ht']; exact hn,G2,r2.putF hl0 hc2 (r2.defers.ne hL2)⟩
  ·refine⟨some c,_,by have:=run_endLoop (P:=P) hL2 hb2; rw[hp2] at this; exact this,?_⟩
   have hact:({ a with defers:=[{ target := .collected w.heap.size,args := #[] }] ++ a.defers }:Act) = a':=ha'
   rw[hact]
   have hfin:∀ o,After w0 χ0 T0 n s' a' (W2.putObj l o):=fun o=>⟨by rw[ht']; exact hn,G2,r2.putF hl0 hc2 (r2.defers.ne hL2)⟩
   rcases hex with⟨rfl,rfl⟩ | ⟨i,rfl,rfl⟩
   ·exact wpIn_ret ⟨_,hQ2,hfin _⟩
   ·exact wpIn_exit ⟨_,hQ2,hfin _⟩
theorem code_ok (hnt:Γ.nt = n) (hm:P.follows .mixedOrders = true) (hχ:∀ b,χ0 b ≤ 1) (hlo:T0.lo ≤ w0.heap.size):∀ (c:Code) (s:St) (Q:AEx → St → Prop) (a:Act) (w:World),codeOK Γ n c = true → codeA P Γ c s Q → After w0 χ0 T0 n s a w → c.wp P (liftQ w0 χ0 T0 n Q) a w
 | .skip,s,Q,a,w,_,h,ha=>wp_skip ⟨s,h,ha⟩
 | .region id ops draw,s,Q,a,w,hk,h,ha=>by
  unfold codeOK at hk
  rw[Bool.and_eq_true] at hk
  have hdst:∀ o ∈ ops.toList,∀ k:Nat,o.dst = some k → k < n ∧ k < 10000:=fun o ho k hd=>by
   have:=List.all_eq_true.1 hk.1 o ho
   rw[hd] at this
   simpa using this
  have:=region_ok (ops:=ops.toList) (id:=id) (draw:=draw) (Q:=liftQ w0 χ0 T0 n Q) hχ hm (fun o ho k hd=>(hdst o ho k hd).1) (fun o ho k hd=>(hdst o ho k hd).2) (K:=fun s'=>Q .normal s') (fun s a w h ha=>⟨s,h,ha⟩) ha
   (fun hd=>by have h2:=hk.2; rw[hd] at h2; simpa using h2) h
  simpa using this
 | .seq x y,s,Q,a,w,hk,h,ha=>by
  rcases h with h | ⟨_,s',h,hQ⟩
  case inr=>exact wp_mono (h w0 χ0 T0 n a w hm hχ hlo hk hnt ha) fun e a' w' hq=>by obtain⟨rfl,hq⟩:=hq; exact⟨s',hQ,hq⟩
  unfold codeOK at hk
  rw[Bool.and_eq_true] at hk
  refine wp_seq (wp_mono (code_ok hnt hm hχ hlo x s _ a w hk.1 h ha) fun e a' w' hq=>?_)
  cases e with
  | normal =>
   obtain⟨s',h1,h2⟩:=hq
   have h1:JoinS (fun s'=>codeA P Γ y s' Q) s':=by
    have h1:(if Γ.js.contains (headId y) then JoinS (fun s'=>codeA P Γ y s' Q) s' else codeA P Γ y s' Q):=h1
    split at h1
    ·exact h1
    ·exact .inl h1
   rcases h1 with h1 | ⟨tms,hps,σ,h1,h3⟩
   ·exact code_ok hnt hm hχ hlo y s' Q a' w' hk.2 h1 h2
   ·exact code_ok hnt hm hχ hlo y _ Q a' w' hk.2 h3 (Sub_ok hχ h1 h2)
  | exit i=>exact hq
  | ret=>exact hq
  | goto l=>exact hq
  | panic c=>exact hq
  | outgrown=>exact hq
 | .cond c x y,s,Q,a,w,hk,h,ha=>by
  unfold codeOK at hk
  rw[Bool.and_eq_true] at hk
  unfold codeA at h
  obtain⟨hn,G,r⟩:=ha
  have hv:=r.ev c
  unfold condA at h
  split at h
  ·rename_i t hs
   rw[hs] at hv
   exact wp_cond_split (rd_bool hv) (fun ht=>code_ok hnt hm hχ hlo x s Q a w hk.1 (h.1 ht) ⟨hn,G,r⟩) (fun ht=>code_ok hnt hm hχ hlo y s Q a w hk.2 (h.2 ht) ⟨hn,G,r⟩)
  ·rename_i p l hs
   rw[hs] at hv
   obtain⟨b,hb,hl⟩:=LRd.val hv
   cases p with
   | true =>
    simp only[if_true] at h
    exact wp_cond_split hb (fun ht=>code_ok hnt hm hχ hlo x s Q a w hk.1 (h.1 (hl ht)) ⟨hn,G,r⟩) (fun ht=>code_ok hnt hm hχ hlo y s Q a w hk.2 h.2 ⟨hn,G,r⟩)
   | false =>
    simp only[Bool.false_eq_true,if_false] at h
    exact wp_cond_split hb (fun ht=>code_ok hnt hm hχ hlo x s Q a w hk.1 h.1 ⟨hn,G,r⟩) (fun ht=>code_ok hnt hm hχ hlo y s Q a w hk.2 (h.2 (hl ht)) ⟨hn,G,r⟩)
  ·exact h.elim
 | .block id b,s,Q,a,w,hk,h,ha=>by
  unfold codeOK at hk
  refine wp_block (wp_mono (code_ok hnt hm hχ hlo b s _ a w hk h ha) fun e a' w' hq=>?_)
  cases e with
  | normal=>exact hq
  | exit i =>
   obtain⟨s',h1,h2⟩:=hq
   have h1:(if i = id then Q .normal s' else Q (.exit i) s'):=h1
   simp only[Exit.inBlock]
   split
   ·rename_i hi; rw[if_pos hi] at h1; exact⟨s',h1,h2⟩
   ·rename_i hi; rw[if_neg hi] at h1; exact⟨s',h1,h2⟩
  | ret=>exact hq
  | goto l=>exact hq
  | panic c=>exact hq
  | outgrown=>exact hq
 | .loop b,s,Q,a,w,hk,h,ha=>by
  unfold codeOK at hk
  obtain⟨α,tms,hps,μ,⟨x,σ,hx⟩,hround⟩:=h
  refine wp_loop_ghost (fun k a w=>∃ x,μ x = k ∧ After w0 χ0 T0 n (mkSt (tms x) (hps x)) a w) (μ x) ⟨x,rfl,Sub_ok hχ hx ha⟩ ?_
  rintro k a w ⟨x,rfl,hax⟩
  refine wp_mono (code_ok hnt hm hχ hlo b _ _ a w hk (hround x) hax) fun e a' w' hq=>?_
  cases e with
  | normal =>
   obtain⟨s',⟨y,σ',h1,h2⟩,h3⟩:=hq
   exact⟨μ y,h2,y,rfl,Sub_ok hχ h1 h3⟩
  | exit i=>exact hq
  | ret=>exact hq
  | goto l=>exact hq
  | panic c=>exact hq
  | outgrown=>exact hq
 | .exit id,s,Q,a,w,_,h,ha=>wp_exit ⟨s,h,ha⟩
 | .ret,s,Q,a,w,_,h,ha=>wp_ret ⟨s,h,ha⟩
 | .scope b,s,Q,a,w,hk,h,ha=>by
  unfold codeOK at hk
  refine wp_scope_straight (wp_mono (code_ok hnt hm hχ hlo b s Q a w hk h ha) fun e a' w' hq=>?_)
  cases e <;> exact hq
 | .rangeFunc g ps x y,s,Q,a,w,hk,h,ha=>by
  unfold codeOK at hk
  simp only[Bool.and_eq_true,List.all_eq_true,decide_eq_true_eq] at hk
  obtain⟨⟨⟨⟨⟨h1,h2⟩,h3⟩,h4⟩,h5⟩,h6⟩:=hk
  exact rangeF_ok hχ hlo h1 h2 h3 h4 h5 (nodupB_iff _ h6) h ha
 | .label _,_,_,_,_,_,h,_=>h.elim
 | .goto _,_,_,_,_,_,h,_=>h.elim
 | .refuse _,_,_,_,_,_,h,_=>h.elim
end
def resCmp (P:Program) (s:St):ResultVar → Option Cmp
 | .tmp t=>match s.tm t with | .c c=>some c | _=>none
 | .cell t ty=>match s.tm t with
  | .c (.v (.loc o off))=>match s.hp o,tySize P ty with
   | some (.box _ cs),some n=>cutL cs off n (tyAgg P ty)
   | _,_=>none
  | _=>none
def resCmps (P:Program) (s:St):List ResultVar → Option (List Cmp)
 | []=>some []
 | r :: rs=>match resCmp P s r,resCmps P s rs with | some c,some l=>some (c :: l) | _,_=>none
def resTms:Rz → List (Nat × Slot)
 | .one c=>[(0,.c c)]
 | .tup l=>l.zipIdx.map fun x=>(x.2,.c x.1)
def cmpSt (cs:List Cmp) (hp:Hp):St:={ tm:=fun i=>match cs[i]? with | some c=>.c c | none=>.dead,hp:=hp }
def RetA (P:Program) (rs:List ResultVar) (s:St) (res:Rz) (hps':List (Nat × HObj)):Prop :=
 match resCmps P s rs with
 | none=>False
 | some cs=>(match res with | .one _=>True | .tup l=>l.length ≠ 1) ∧ cs.length = res.comps.length ∧ ∃ σ,Sub σ (cmpSt cs s.hp) (resTms res) hps'
section
variable {P:Program} {Γ:Opt} {s:St} {w0:World} {χ0:Col} {T0:Ctx} {n:Nat} {a:Act} {w:World} {G:Gh}
def rvSem (tmps:Array Value):ResultVar → Sem Value
 | .tmp t=>pure (tmps.getD t undef)
 | .cell a t=>do loadVar t (← asAddr (tmps.getD a undef))
def oneOf:List Value → Value
 | [v]=>v
 | vs=>.tuple vs.toArray
theorem run_results {vs:List Value} {fn:Func} (tmps:Array Value) (h:(fn.results.toList.mapM (rvSem tmps)).run P w = .ok vs w):(results fn tmps).run P w = .ok (oneOf vs) w:=by
 have e:results fn tmps = (do let vs ← fn.results.mapM (rvSem tmps); pure (if h:vs.size = 1 then vs[0] else .tuple vs)):=rfl
 have e2:(fn.results.mapM (rvSem tmps)).run P w = .ok vs.toArray w:=by
  rw[show fn.results = fn.results.toList.toArray from (Array.toArray_toList).symm,List.mapM_toArray,Sem.run_map,h]
  rfl
 rw[e,Sem.run_bind,e2]
 simp only[Result.andThen_ok,Sem.run_pure]
 cases vs with
 | nil=>rfl
 | cons v vs=>cases vs <;> rfl
theorem resCmp_rd {rv:ResultVar} {c:Cmp} (r:RepG w0 χ0 T0 s a w G) (h:resCmp P s rv = some c):∃ v,CRd G s.hp w c v ∧ (rvSem a.tmps rv).run P w = .ok v w:=by
 cases rv with
 | tmp t =>
  have hv:=r.tms t
  simp only[resCmp] at h
  split at h
  ·rename_i c' hs
   injection h with h
   subst h
   rw[hs] at hv
   exact⟨_,hv,rfl⟩
  ·cases h
 | cell t ty =>
  have hv:=r.tms t
  simp only[resCmp] at h
  split at h
  ·rename_i o off hs
   rw[hs] at hv
   split at h
   ·rename_i bt cs k ho hn
    obtain⟨vs,hb,_,hall⟩:=r.objs o _ ho
    obtain⟨v,g1,g2⟩:=cutL_rd (b:=G.bl o) (o2:=0) h hall hn (tySize_und hn) (fun j v hj=>by rw[hb.cell]; simpa using hj)
    have hp:a.tmps.getD t undef = ptr (G.bl o) off:=LRd.val hv
    refine⟨v,g1,?_⟩
    rw[Nat.zero_add] at g2
    simpa [rvSem,hp,ptr,asAddr,Instr.loadAt,Instr.sureAddr] using g2
   ·cases h
  ·cases h
theorem resCmps_rd (r:RepG w0 χ0 T0 s a w G):∀ (rs:List ResultVar) (cs:List Cmp),resCmps P s rs = some cs → ∃ vs:List Value,All2 (CRd G s.hp w) cs vs ∧
  (rs.mapM (rvSem a.tmps)).run P w = .ok vs w
 | [],cs,h=>by
  simp [resCmps] at h
  subst h
  exact⟨[],⟨rfl,by simp⟩,by simp⟩
 | x :: rs,cs,h=>by
  unfold resCmps at h
  split at h
  ·rename_i c l h1 h2
   injection h with h
   subst h
   obtain⟨v,g1,g2⟩:=resCmp_rd r h1
   obtain⟨vs,g3,g4⟩:=resCmps_rd r rs l h2
   refine⟨v :: vs,⟨by simp [g3.1],fun i a b ha hb=>?_⟩,?_⟩
   ·cases i with
    | zero=>simp at ha hb; subst ha hb; exact g1
    | succ i=>exact g3.2 i a b (by simpa using ha) (by simpa using hb)
   ·rw[List.mapM_cons]
    simp only[Sem.run_bind,g2,Result.andThen_ok,g4,Sem.run_pure]
  ·cases h
def endA (P:Program) (rs:List ResultVar) (res:Rz) (hps':List (Nat × HObj)):AEx → St → Prop
 | .exit _,_=>False
 | _,s=>RetA P rs s res hps'
def argTms:Nat → List Slot → List (Nat × Slot)
 | _,[]=>[]
 | i,x :: r=>(i,x) :: argTms (i + 1) r
def st0 (S:HSpec):St:=mkSt (argTms 0 S.args) S.hps
theorem argTms_look:∀ (args:List Slot) (i t:Nat),lookL (argTms i args) t = if i ≤ t then args[t - i]? else none
 | [],i,t=>by simp [argTms,lookL]
 | x :: r,i,t=>by
  simp only[argTms,lookL]
  by_cases h:t = i
  ·subst h; simp
  ·rw[if_neg h,argTms_look r (i + 1) t]
   by_cases h2:i ≤ t
   ·rw[if_pos (by omega),if_pos h2]
    have:t - i = (t - (i + 1)) + 1:=by omega
    rw[this,List.getElem?_cons_succ]
   ·rw[if_neg (by omega),if_neg h2]
theorem resTms_get {res:Rz} {i:Nat} {c:Cmp} (h:res.comps[i]? = some c):(i,Slot.c c) ∈ resTms res:=by
 cases res with
 | one c' =>
  cases i with
  | zero=>simp [Rz.comps] at h; subst h; simp [resTms]
  | succ i=>simp [Rz.comps] at h
 | tup l=>exact List.mem_map.2 ⟨(c,i),List.mem_zipIdx_iff_getElem?.2 h,rfl⟩
theorem leaves_marks {fn:Func} {R:Ending → World → Prop} {tmps:Array Value} {m:Nat} (hlo:w0.heap.size ≤ T0.lo) (hR:∀ w',RepG w0 χ0 T0 s { tmps:=tmps,defers:=[] } w' G → ∃ v,(results fn tmps).run P w' = .ok v w' ∧ R (.returned v) w') :
  ∀ (ds:List Deferred) (w':World),RepG w0 χ0 T0 s { tmps:=tmps,defers:=ds } w' G → LeavesInM Fence.wide m P fn tmps R ds .returning w'
 | [],w',r=>hR w' r
 | d :: ds,w',r=>by
  obtain⟨D,rfl,h2,h3,h4,h5⟩:=r.defers.2 d List.mem_cons_self
  have hn:=List.nodup_cons.1 r.defers.1
  have r':RepG w0 χ0 T0 s { tmps:=tmps,defers:=ds } w' G:=⟨r.os,r.tape,r.output,r.size,r.old,r.col,r.own,r.pin,r.norm,⟨hn.2,fun d hd=>r.defers.2 d (List.mem_cons_of_mem _ hd)⟩,r.tms,r.objs,r.glob⟩
  exact⟨by simp,.inl ⟨D,_,rfl,run_takeDeferred h5,leaves_marks hlo hR ds _ (r'.putF (Nat.le_trans hlo h2) h4 fun d hd e=>hn.1 (e ▸ hd))⟩⟩
theorem meets_of_code {f:FuncId} {fn:Func} {c:Code} {S:HSpec} (hnt:Γ.nt = fn.ntmps) (hm:P.follows .mixedOrders = true) (hf:P.funcs[f]? = some fn) (hb:fn.body = some c) (hk:codeOK Γ fn.ntmps c = true) (hn:S.args.length ≤ fn.ntmps)
  (h:codeA P Γ c (st0 S) (endA P fn.results.toList S.res S.hps')):MeetsH P f S:=by
 intro w G0 vs hnorm hglob hargs hobjs
 refine (callsIn_wide (n:=0)).1 (callsIn_of_wp_marks hf hb trivial (wpIn_wide.2 ?_))
 have hlen:vs.length = S.args.length:=hargs.1.symm
 let χ0:Col:=fun b=>if G0.χ b ≤ 1 then G0.χ b else 0
 let T0:Ctx:=⟨fun b=>2 ≤ G0.χ b,G0.bl,G0.hv,w.heap.size⟩
 have hχ:∀ b,χ0 b ≤ 1:=fun b=>by
  show (if G0.χ b ≤ 1 then G0.χ b else 0) ≤ 1
  split <;> omega
 have hrep:After w χ0 T0 fn.ntmps (st0 S) { tmps:=vs.toArray ++ Array.replicate (fn.ntmps - vs.toArray.size) undef,defers:=[] } w:=by
  refine⟨by simp; omega,G0,rfl,rfl,rfl,Nat.le_refl _,fun _ _ _=>rfl,fun b _ hT=>?_,fun b hb=>.inl hb,fun o _=>⟨rfl,rfl⟩,hnorm,DefOK.nil,fun t=>?_,hobjs,fun g h=>?_,fun g h h2=>?_⟩
  ·have hT:¬ 2 ≤ G0.χ b:=hT
   exact (if_pos (by omega)).symm
  ·show SRd G0 _ w ((lookL (argTms 0 S.args) t).getD .dead) _
   rw[argTms_look,if_pos (Nat.zero_le _),Nat.sub_zero]
   cases ht:S.args[t]? with
   | none=>trivial
   | some x =>
    obtain⟨v,hv,hr⟩:=hargs.get ht
    have hlt:t < vs.length:=(List.getElem?_eq_some_iff.1 hv).1
    have e:(vs.toArray ++ Array.replicate (fn.ntmps - vs.toArray.size) undef).getD t undef = v:=by
     rw[Array.getD_eq_getD_getElem?,Array.getElem?_append_left (by simpa using hlt)]
     simp [hv]
    rw[e]; exact hr
  ·obtain⟨h1,h2⟩:=hglob g h
   exact⟨(if_pos (by omega)).trans h1,h2⟩
  ·have h2:2 ≤ G0.χ g:=h2
   have:=(hglob g h).1
   omega
 have hwp:=code_ok hnt hm hχ (Nat.le_refl _) c (st0 S) _ _ w hk h hrep
 have fin:∀ (s:St) (a:Act) (w':World),RetA P fn.results.toList s S.res S.hps' → After w χ0 T0 fn.ntmps s a w' →
   LeavesInM Fence.wide 0 P fn a.tmps (fun e w'=>∃ (G':Gh) (v':Value) (us:List Value),e = .returned v' ∧ S.res.val v' us ∧ w'.os = w.os ∧ w'.tape = w.tape ∧ w'.output = w.output ∧ w.heap.size ≤ w'.heap.size ∧
   (∀ b,b < w.heap.size → G0.χ b ≤ 1 → w'.heap[b]? = w.heap[b]? ∧ G'.χ b = G0.χ b) ∧ (∀ b,2 ≤ G'.χ b → 2 ≤ G0.χ b ∨ w.heap.size ≤ b) ∧ (∀ o,1000000 ≤ o → G'.bl o = G0.bl o ∧ G'.hv o = G0.hv o) ∧ Norm G'.χ w' ∧
   All2 (CRd G' (hpL S.hps') w') S.res.comps us ∧ (∀ o h,hpL S.hps' o = some h → HRd G' (hpL S.hps') w' o h)) a.defers .returning w':=by
  intro s a w' hret ⟨_,G',r⟩
  refine leaves_marks (Nat.le_refl _) (fun w' r=>?_) a.defers w' r
  unfold RetA at hret
  split at hret
  ·exact hret.elim
  ·rename_i cs hcs
   obtain⟨hsh,hcl,σ,⟨⟨hσ,hv0,hp0,hpins⟩,ht,hh⟩⟩:=hret
   obtain⟨us,hus,hrun⟩:=resCmps_rd r _ _ hcs
   have hobj':∀ o h,(cmpSt cs s.hp).hp o = some h → HRd G' (cmpSt cs s.hp).hp w' o h:=r.objs
   have key:∀ o2,1000000 ≤ o2 → ∀ o,lookL (σ.m.map fun x=>(x.2,x.1)) o2 = some o → o = o2:=fun o2 ho2 o hl=>by
    obtain⟨x,hx,he⟩:=List.mem_map.1 (lookL_mem hl)
    injection he with e1 e2
    have:=allP_mem hpins x hx (by omega)
    omega
   refine⟨_,run_results a.tmps hrun,renGh σ G',_,us,rfl,?_,r.os,r.tape,r.output,r.size,fun b hb h1=>?_,fun b hb=>?_,fun o ho=>?_,fun b hb=>ren_zero (r.norm b hb),?_,fun o h ho=>?_⟩
   ·cases hrs:S.res with
    | one c' =>
     rw[hrs] at hcl
     have:us.length = 1:=by rw[← hus.1,hcl]; rfl
     cases us with
     | nil=>simp at this
     | cons u us=>cases us with
      | nil=>rfl
      | cons _ _=>simp at this
    | tup l =>
     rw[hrs] at hsh hcl
     have hl:us.length ≠ 1:=by rw[← hus.1,hcl]; exact hsh
     cases us with
     | nil=>rfl
     | cons u us=>cases us with
      | nil=>simp at hl
      | cons _ _=>rfl
   ·have hT:¬ T0.T b:=fun h=>by have h:2 ≤ G0.χ b:=h; omega
    refine⟨r.old b hb hT,?_⟩
    have h2:G'.χ b = G0.χ b:=(r.col b hb hT).trans (if_pos h1)
    exact (if_pos (by omega)).trans h2
   ·exact r.own b (ren_ge hb).1
   ·constructor
    ·show (match lookL (σ.m.map fun x=>(x.2,x.1)) o with | some o=>G'.bl o | none=>if σ.pin = true ∧ 1000000 ≤ o then G'.bl o else 0) = _
     cases hl:lookL (σ.m.map fun x=>(x.2,x.1)) o with
     | some o'=>rw[key o ho o' hl]; exact (r.pin o ho).1
     | none=>exact (if_pos ⟨hp0,ho⟩).trans (r.pin o ho).1
    ·show (match lookL (σ.m.map fun x=>(x.2,x.1)) o with | some o=>G'.hv o | none=>if σ.pin = true ∧ 1000000 ≤ o then G'.hv o else .slice none 0 0) = _
     cases hl:lookL (σ.m.map fun x=>(x.2,x.1)) o with
     | some o'=>rw[key o ho o' hl]; exact (r.pin o ho).2
     | none=>exact (if_pos ⟨hp0,ho⟩).trans (r.pin o ho).2
   ·refine⟨by rw[← hcl]; exact hus.1,fun i c' u hc' hu=>?_⟩
    have h1:=allP_mem ht _ (resTms_get hc')
    have hi:i < cs.length:=by rw[hcl]; exact (List.getElem?_eq_some_iff.1 hc').1
    have h2:(cmpSt cs s.hp).tm i = .c cs[i]:=by
     show (match cs[i]? with | some c=>Slot.c c | none=>.dead) = _
     rw[List.getElem?_eq_getElem hi]
    dsimp only at h1
    rw[h2] at h1
    exact CSub_rd hσ hobj' (hus.2 i _ u (List.getElem?_eq_getElem hi) hu) h1
   ·exact OSub_rd (q:=(o,h)) hσ hobj' (allP_mem hh _ (lookL_mem ho))
 refine wp_mono hwp fun e a w' hq=>?_
 cases e with
 | normal=>obtain⟨s,h1,h2⟩:=hq; exact fin s a w' h1 h2
 | ret=>obtain⟨s,h1,h2⟩:=hq; exact fin s a w' h1 h2
 | exit i=>obtain⟨s,h1,h2⟩:=hq; exact h1.elim
 | goto l=>exact hq.elim
 | panic ch=>exact hq.elim
 | outgrown=>exact hq.elim
end
end Go.Lad
