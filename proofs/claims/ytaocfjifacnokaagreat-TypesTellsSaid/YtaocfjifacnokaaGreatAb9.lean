import Derived.Test.YtaocfjifacnokaaGreatAb8
namespace Go.Lad
set_option linter.unusedVariables false
set_option linter.unusedSimpArgs false
open Go.RowKit
theorem Rd.of_flat {F F':Nat → Prop} {w w':World} {p:PV} {v:Value} (h:Rd F w p v) (hf:p.flat = true):Rd F' w' p v:=by
 cases h with
 | int h=>exact .int h
 | bool=>exact .bool
 | str h=>exact .str h
 | oth h=>exact .oth h
 | sl0 h hm=>cases hf
 | sl us h0 hF hb hc hm hz hcell hrd=>cases hf
 | mp mv _ _ _ _=>cases hf
theorem mX (hp:Hp):∀ (l:List (Nat × dv)) (j:Nat),hp j ≠ none → eA hp l j ≠ none
 | [],j,h=>h
 | x :: l,j,h=>mX (upd hp x.1 (some x.2)) l j (by
   by_cases e:j = x.1
   ·rw[e]; simp [upd]
   ·simp [upd,e]; exact h)
theorem zL (hp:Hp):∀ (l:List (Nat × dv)) (j:Nat),(∃ h,(j,h) ∈ l) → eA hp l j ≠ none
 | [],j,⟨h,e⟩=>by cases e
 | x :: l,j,⟨h,e⟩=>by
  rcases List.mem_cons.1 e with e | e
  ·exact mX _ l j (by rw[← e]; simp [upd])
  ·exact zL _ l j ⟨h,e⟩
theorem Own.od {z k k':Nat} {χ χ':Col} {e:TypeId} {w:World} {v:Value} {l:List (List PV)} (h:Own (α:=CZ z) k χ e w v l) (hc:∀ g,v.ownBlock = some g → g < w.heap.size → χ g = k → χ' g = k')
  (hf:(∀ b,b < w.heap.size → χ b = 0 → χ' b = 0) ∨ (∀ row ∈ l,∀ p ∈ row,p.flat = true)):Own (α:=CZ z) k' χ' e w v l:=by
 obtain⟨⟨xs,h1,h2⟩,h3⟩:=h
 refine⟨⟨xs,h1,fun i x hx=>?_⟩,fun g hg=>hc g hg (h1.lt g hg).2 (h3 g hg)⟩
 obtain⟨q1,q2,q3⟩:=h2 i x hx
 refine⟨q1,q2,fun j p u hp hu=>?_⟩
 rcases hf with hf | hf
 ·exact Rd.frame (fun b hb hl=>⟨hf b hl hb,rfl⟩) (q3 j p u hp hu)
 ·exact Rd.of_flat (q3 j p u hp hu) (hf x (List.mem_of_getElem? hx) p (List.mem_of_getElem? hp))
def ae {α:Type}:List (Nat × α) → Nat → Option α
 | [],_=>none
 | x :: r,k=>if k = x.1 then some x.2 else ae r k
theorem dg {α:Type}:∀ {l:List (Nat × α)} {k:Nat} {v:α},ae l k = some v → (k,v) ∈ l
 | [],_,_,h=>by cases h
 | x :: r,k,v,h=>by
  unfold ae at h
  split at h
  ·rename_i e
   injection h with h
   subst h e
   exact List.mem_cons_self
  ·exact List.mem_cons_of_mem _ (dg h)
def kU (tms:List (Nat × Slot)) (hps:List (Nat × dv)):St:={ tm:=fun t=>(ae tms t).getD .dead,hp:=fun o=>ae hps o }
structure Ren where
 m:List (Nat × Nat)
 v:Option (List Nat):=none
 pin:Bool:=true
def Ren.nodup (σ:Ren):Prop:=(σ.m.map (·.1)).Nodup ∧ (σ.m.map (·.2)).Nodup
def Ren.may (σ:Ren) (o:Nat):Prop:=match σ.v with | none=>True | some l=>o ∈ l
def Ren.low (σ:Ren) (o:Nat):Prop:=σ.pin = true → o < 1000000
def pd (σ:Ren) (hps:List (Nat × dv)):List Nat → List Nat → Prop
 | [],[]=>True
 | x :: xs,y :: ys=>((x,y) ∈ σ.m ∧ ae hps y ≠ none) ∧ pd σ hps xs ys
 | _,_=>False
def jt (σ:Ren) (s:St):aJ → PV → Prop
 | .p a,b=>a = b
 | .nil,.sl l=>l = []
 | .own o,.sl l=>(match s.hp o with | some (.arr _ _ l2)=>l2 = l | _=>False) ∧ o ∉ σ.m.map (·.1) ∧ σ.may o
 | .mp o,.mp k m=>(match s.hp o with | some (.jN k2 _ _ m2 none)=>k2 = k ∧ m2 = m | _=>False) ∧ o ∉ σ.m.map (·.1) ∧ σ.may o
 | _,_=>False
def jD (σ:Ren) (s:St):List aJ → List PV → Prop
 | [],[]=>True
 | x :: xs,y :: ys=>jt σ s x y ∧ jD σ s xs ys
 | _,_=>False
def uq (σ:Ren) (s:St):List aJ → List (List PV) → Prop
 | [],[]=>True
 | x :: xs,y :: ys=>(match y with | [p]=>jt σ s x p | _=>False) ∧ uq σ s xs ys
 | _,_=>False
def mu (σ:Ren) (s:St) (hps:List (Nat × dv)):aJ → aJ → Prop
 | _,.dead=>True
 | .p a,.p b=>a = b
 | .nil,.nil=>True
 | .nil,.p (.sl l)=>l = []
 | .own o,.p (.sl l)=>(match s.hp o with | some (.arr _ _ l2)=>l2 = l | some (.lit _ cs)=>uq σ s cs l | _=>False) ∧ o ∉ σ.m.map (·.1) ∧ σ.may o
 | .sv o a b z,.p (.sl l)=>0 < z ∧ (match s.hp o with | some (.arr _ z' l2)=>z = z' ∧ b ≤ l2.length ∧ (l2.take b).drop a = l | _=>False) ∧ o ∉ σ.m.map (·.1) ∧ σ.may o
 | .own o,.own o2=>(o,o2) ∈ σ.m ∧ ae hps o2 ≠ none
 | .sv o a b z,.sv o2 a2 b2 z2=>((o,o2) ∈ σ.m ∧ ae hps o2 ≠ none) ∧ a = a2 ∧ b = b2 ∧ z = z2
 | .nil,.own o2=>o2 ∉ σ.m.map (·.2) ∧ ae hps o2 ≠ none ∧ σ.low o2
 | .loc o f,.loc o2 f2=>((o,o2) ∈ σ.m ∧ ae hps o2 ≠ none) ∧ f = f2
 | .el o i f z,.el o2 i2 f2 z2=>((o,o2) ∈ σ.m ∧ ae hps o2 ≠ none) ∧ i = i2 ∧ f = f2 ∧ z = z2
 | .ip c f,.ip c2 f2=>c = c2 ∧ f = f2
 | .fn f caps,.fn f2 caps2=>f = f2 ∧ pd σ hps caps caps2
 | .mp o,.mp o2=>(o,o2) ∈ σ.m ∧ ae hps o2 ≠ none
 | .nb p l,.nb p2 l2=>p = p2 ∧ l = l2
 | .tl l,.tl l2=>l = l2
 | .tl l,.p (.sl l2)=>l = l2
 | .mp o,.p (.mp k m)=>jt σ s (.mp o) (.mp k m)
 | .loc o f,.ip cs f2=>f = f2 ∧ (match s.hp o with | some (.box _ xs)=>jD σ s xs cs | _=>False) ∧ o ∉ σ.m.map (·.1) ∧ σ.may o
 | _,_=>False
def ju (σ:Ren) (s:St) (hps:List (Nat × dv)):List aJ → List aJ → Prop
 | [],[]=>True
 | x :: xs,y :: ys=>mu σ s hps x y ∧ ju σ s hps xs ys
 | _,_=>False
def rK (σ:Ren) (s:St) (hps:List (Nat × dv)):Cmp → Cmp → Prop
 | .v x,.v y=>mu σ s hps x y
 | .g xs,.g ys=>ju σ s hps xs ys
 | _,_=>False
def pE (σ:Ren) (s:St) (hps:List (Nat × dv)):List Cmp → List Cmp → Prop
 | [],[]=>True
 | x :: xs,y :: ys=>rK σ s hps x y ∧ pE σ s hps xs ys
 | _,_=>False
def oe (σ:Ren) (s:St) (hps:List (Nat × dv)):Slot → Slot → Prop
 | _,.dead=>True
 | .c x,.c y=>rK σ s hps x y
 | .t xs,.t ys=>pE σ s hps xs ys
 | _,_=>False
def yk (σ:Ren) (s:St) (hps:List (Nat × dv)):Option dv → dv → Prop
 | _,.gone=>True
 | some (.box t cs),.box t2 cs2=>t = t2 ∧ ju σ s hps cs cs2
 | some (.arr e z l),.arr e2 z2 l2=>e = e2 ∧ z = z2 ∧ l = l2
 | some (.ix k g m),.ix k2 g2 m2=>k = k2 ∧ g = g2 ∧ m = m2
 | some (.fi g m),.fi g2 m2=>g = g2 ∧ m = m2
 | some (.iy k g m),.iy k2 g2 m2=>k = k2 ∧ g = g2 ∧ m = m2
 | some (.py k g m key d),.py k2 g2 m2 key2 d2=>k = k2 ∧ g = g2 ∧ m = m2 ∧ key = key2 ∧ (d,d2) ∈ σ.m ∧ ae hps d2 ≠ none
 | some (.jN k e z m h),.jN k2 e2 z2 m2 h2=>k = k2 ∧ e = e2 ∧ z = z2 ∧ m = m2 ∧ h = h2
 | some (.lit e cs),.lit e2 cs2=>e = e2 ∧ ju σ s hps cs cs2
 | _,_=>False
def zM:dv → Prop
 | .arr _ _ l=>l = []
 | _=>False
def HSub (σ:Ren) (s:St) (hps:List (Nat × dv)) (q:Nat × dv):Prop :=
 match ae (σ.m.map fun x=>(x.2,x.1)) q.1 with
 | some o=>yk σ s hps (s.hp o) q.2
 | none=>(zM q.2 ∧ σ.low q.1) ∨ q.2 = .gone
def mh {α:Type} (p:α → Prop):List α → Prop
 | []=>True
 | x :: r=>p x ∧ mh p r
theorem eO {α:Type} {p:α → Prop}:∀ {l:List α},mh p l → ∀ x ∈ l,p x
 | [],_,x,hx=>by cases hx
 | y :: l,h,x,hx=>by
  rcases List.mem_cons.1 hx with rfl | hx
  ·exact h.1
  ·exact eO h.2 x hx
def Sub (σ:Ren) (s:St) (tms:List (Nat × Slot)) (hps:List (Nat × dv)):Prop :=
 (σ.nodup ∧ σ.v = none ∧ σ.pin = true ∧ mh (fun x=>1000000 ≤ x.2 → x.1 = x.2) σ.m) ∧ mh (fun p=>oe σ s hps (s.tm p.1) p.2) tms ∧ mh (HSub σ s hps) hps
section
variable {P:Program} {s:St} {w0:World} {χ0:Col} {T0:Ctx} {n:Nat} {a:Act} {w:World} {G:Gh} {σ:Ren} {tms:List (Nat × Slot)} {hps:List (Nat × dv)}
theorem dw {α:Type}:∀ {l:List (Nat × α)} {k:Nat} {v:α},(l.map (·.1)).Nodup → (k,v) ∈ l → ae l k = some v
 | [],_,_,_,h=>by cases h
 | x :: r,k,v,hn,h=>by
  rw[List.map_cons,List.nodup_cons] at hn
  unfold ae
  rcases List.mem_cons.1 h with h | h
  ·rw[← h]; simp
  ·rw[if_neg,dw hn.2 h]
   intro e
   exact hn.1 (List.mem_map.2 ⟨(k,v),h,e⟩)
theorem lr {α:Type}:∀ {l:List (Nat × α)} {k:Nat},k ∉ l.map (·.1) → ae l k = none
 | [],_,_=>rfl
 | x :: r,k,h=>by
  unfold ae
  rw[List.map_cons,List.mem_cons,not_or] at h
  rw[if_neg h.1,lr h.2]
def dM (σ : Ren) (G : Gh) : Gh :=
  { χ := fun b => if G.χ b ≤ 1 then G.χ b else match ae σ.m (G.χ b - 2) with | some o2 => o2 + 2 | none => (match σ.v with | none => 0 | some l => if G.χ b - 2 ∈ l then 0 else 1),
    bl := fun o2 => match ae (σ.m.map fun x => (x.2, x.1)) o2 with | some o => G.bl o | none => if σ.pin = true ∧ 1000000 ≤ o2 then G.bl o2 else 0,
    hv := fun o2 => match ae (σ.m.map fun x => (x.2, x.1)) o2 with | some o => G.hv o | none => if σ.pin = true ∧ 1000000 ≤ o2 then G.hv o2 else .slice none 0 0 }
theorem hM {b:Nat} (h:G.χ b = 0):(dM σ G).χ b = 0:=by
 show (if G.χ b ≤ 1 then G.χ b else _) = 0
 rw[if_pos (by omega)]; exact h
theorem og (hσ:σ.nodup) {o o2:Nat} (h:(o,o2) ∈ σ.m):ae σ.m o = some o2 ∧ ae (σ.m.map fun x=>(x.2,x.1)) o2 = some o:=by
 refine⟨dw hσ.1 h,dw ?_ (List.mem_map.2 ⟨(o,o2),h,rfl⟩)⟩
 rw[List.map_map]; exact hσ.2
theorem kV (hσ:σ.nodup) {o o2 b:Nat} (h:(o,o2) ∈ σ.m) (hb:G.χ b = o + 2):(dM σ G).χ b = o2 + 2:=by
 show (if G.χ b ≤ 1 then G.χ b else match ae σ.m (G.χ b - 2) with | some o2=>o2 + 2 | none=>(match σ.v with | none=>0 | some l=>if G.χ b - 2 ∈ l then 0 else 1)) = o2 + 2
 rw[if_neg (by omega),hb,Nat.add_sub_cancel,(og hσ h).1]
theorem gB (hσ:σ.nodup) {o o2:Nat} (h:(o,o2) ∈ σ.m):(dM σ G).bl o2 = G.bl o:=by
 show (match ae (σ.m.map fun x=>(x.2,x.1)) o2 with | some o=>G.bl o | none=>_) = _
 rw[(og hσ h).2]
theorem oh (hσ:σ.nodup) {o o2:Nat} (h:(o,o2) ∈ σ.m):(dM σ G).hv o2 = G.hv o:=by
 show (match ae (σ.m.map fun x=>(x.2,x.1)) o2 with | some o=>G.hv o | none=>_) = _
 rw[(og hσ h).2]
theorem Dd {o2:Nat} (h:o2 ∉ σ.m.map (·.2)) (hl:σ.low o2):(dM σ G).hv o2 = .slice none 0 0:=by
 show (match ae (σ.m.map fun x=>(x.2,x.1)) o2 with | some o=>G.hv o | none=>if σ.pin = true ∧ 1000000 ≤ o2 then G.hv o2 else .slice none 0 0) = _
 rw[lr (by rw[List.map_map]; exact h)]
 exact if_neg fun hc=>by have:=hl hc.1; omega
theorem pe {o b:Nat} (ho:o ∉ σ.m.map (·.1)) (hm:σ.may o) (hb:G.χ b = o + 2):(dM σ G).χ b = 0:=by
 show (if G.χ b ≤ 1 then G.χ b else match ae σ.m (G.χ b - 2) with | some o2=>o2 + 2 | none=>(match σ.v with | none=>0 | some l=>if G.χ b - 2 ∈ l then 0 else 1)) = 0
 rw[if_neg (by omega),hb,Nat.add_sub_cancel,lr ho]
 unfold Ren.may at hm
 cases hv:σ.v with
 | none=>rfl
 | some l=>rw[hv] at hm; exact if_pos hm
theorem BS {b:Nat} (h:2 ≤ (dM σ G).χ b):2 ≤ G.χ b ∧ ae σ.m (G.χ b - 2) ≠ none:=by
 have h:2 ≤ (if G.χ b ≤ 1 then G.χ b else match ae σ.m (G.χ b - 2) with | some o2=>o2 + 2 | none=>(match σ.v with | none=>0 | some l=>if G.χ b - 2 ∈ l then 0 else 1)):=h
 split at h
 ·omega
 ·refine⟨by omega,fun hn=>?_⟩
  rw[hn] at h
  dsimp only at h
  split at h
  ·omega
  ·split at h <;> omega
theorem mw:∀ b,In G.χ 0 b → b < w.heap.size → In (dM σ G).χ 0 b ∧ w.heap[b]? = w.heap[b]? := fun b hb _=>⟨hM hb,rfl⟩
theorem ur (hσ:σ.nodup):∀ {xs ys:List Nat},pd σ hps xs ys → (∀ o ∈ ys,ae hps o ≠ none) ∧ xs.map (fun o=>ptr (G.bl o) 0) = ys.map (fun o=>ptr ((dM σ G).bl o) 0)
 | [],[],_=>⟨by simp,rfl⟩
 | [],_ :: _,h=>h.elim
 | _ :: _,[],h=>h.elim
 | x :: xs,y :: ys,h=>by
  have ih:=ur hσ h.2
  refine⟨fun o ho=>?_,?_⟩
  ·rcases List.mem_cons.1 ho with rfl | ho
   ·exact h.1.2
   ·exact ih.1 o ho
  ·rw[List.map_cons,List.map_cons,ih.2,gB hσ h.1.1]
theorem BT {k z:Nat} {χ:Col} {e:TypeId} {v:Value} {l:List (List PV)} (hown:Own (α:=CZ z) k χ e w v l):Rd (fun b=>χ b = k ∨ χ b = 0) w (.sl l) v:=by
 obtain⟨A,c,hv,hs⟩:=hown.sl
 rw[hv]
 refine Rd.wP hs (.inr fun b off hA=>?_)
 obtain⟨⟨xs,h1,_⟩,h3⟩:=hown
 rcases h1.2 with⟨h4,_⟩ | ⟨g,cap,cur,off',h4,_,hgg,_⟩
 ·rw[hv] at h4
  injection h4 with h4
  rw[hA] at h4; cases h4
 ·have h5:=h3 g (by rw[h4]; rfl)
  rw[hv] at h4
  injection h4 with h4
  rw[hA] at h4
  injection h4 with h4
  injection h4 with h4
  subst h4
  exact⟨.inl h5,hgg.lt⟩
theorem LI {k z a b c n:Nat} {A:Option Addr} {χ:Col} {e:TypeId} {l:List (List PV)} (hz:0 < z) (hown:Own (α:=CZ z) k χ e w (.slice A n c) l) (hab:a ≤ b) (hb:b ≤ l.length):Rd (fun b=>χ b = k ∨ χ b = 0) w (.sl ((l.take b).drop a)) (svV A c a b z):=by
 obtain⟨A',c',hv,hs⟩:=hown.sl
 injection hv with e1 e2 e3
 subst e1 e3
 exact Rd.wP ((hs.take (k:=b) hb).drop (k:=a) hab) (.inl hz)
theorem De {o:Nat} {e:TypeId} {z:Nat} {l:List (List PV)} {v:Value} (hno:o ∉ σ.m.map (·.1)) (hmay:σ.may o) (h:Own (α:=CZ z) (o + 2) G.χ e w v l):Rd (In (dM σ G).χ 0) w (.sl l) v:=by
 refine Rd.frame (fun b hb _=>⟨?_,rfl⟩) (BT h)
 rcases hb with hb | hb
 ·exact pe hno hmay hb
 ·exact hM hb
theorem uu {x:aJ} {p:PV} {v:Value} (ho:∀ o h,s.hp o = some h → HRd G s.hp w o h) (h:LRd G s.hp w x v) (hs:jt σ s x p):Rd (In (dM σ G).χ 0) w p v:=by
 have hv:=h.val
 unfold jt at hs
 split at hs
 ·subst hs; exact Rd.frame mw hv
 ·subst hs
  rw[show v = .slice none 0 0 from hv]
  exact Rd.sl0 (fun _=>rfl) (by omega)
 ·rename_i o l
  obtain⟨ho',hno,hmay⟩:=hs
  split at ho'
  ·rename_i e z l2 heq
   subst ho'
   rw[show v = G.hv o from hv]
   exact De hno hmay (ho o _ heq).1
  ·exact ho'.elim
 ·rename_i o k m
  obtain⟨ho',hno,hmay⟩:=hs
  split at ho'
  ·rename_i k2 e z m2 heq
   obtain⟨rfl,rfl⟩:=ho'
   obtain⟨es,clock,mv,h1,h2,h3,h4,h5⟩:=ho o _ heq
   rw[show v = .map (some (G.bl o)) from hv]
   exact .mp mv (pe hno hmay h2) h1 h3 fun i x y hx hy=>De hno hmay (h4 i x y hx hy (by simp))
  ·exact ho'.elim
 ·exact hs.elim
theorem wY (ho:∀ o h,s.hp o = some h → HRd G s.hp w o h):∀ {xs:List aJ} {cs:List PV} {vs:List Value},dV (LRd G s.hp w) xs vs → jD σ s xs cs → ∀ (j:Nat) p,cs[j]? = some p → ∃ u,vs[j]? = some u ∧ Rd (In (dM σ G).χ 0) w p u
 | [],[],vs,h,_,j,p,hp=>by simp at hp
 | [],_ :: _,_,_,h,_,_,_=>h.elim
 | _ :: _,[],_,_,h,_,_,_=>h.elim
 | x :: xs,y :: ys,vs,h,hs,j,p,hp=>by
  cases vs with
  | nil=>have:=h.1; simp at this
  | cons v vs =>
   cases j with
   | zero=>simp at hp; subst hp; exact⟨v,rfl,uu ho (h.2 0 _ _ rfl rfl) hs.1⟩
   | succ j=>exact wY ho (xs:=xs) (cs:=ys) (vs:=vs) ⟨by have:=h.1; simpa using this,fun i a b ha hb=>h.2 (i + 1) a b (by simpa using ha) (by simpa using hb)⟩ hs.2 j p (by simpa using hp)
theorem zN:∀ {xs:List aJ} {l:List (List PV)},uq σ s xs l → xs.length = l.length
 | [],[],_=>rfl
 | [],_ :: _,h=>h.elim
 | _ :: _,[],h=>h.elim
 | _ :: xs,_ :: l,h=>by rw[List.length_cons,List.length_cons,zN h.2]
theorem Df (ho:∀ o h,s.hp o = some h → HRd G s.hp w o h):∀ {xs:List aJ} {l:List (List PV)} {vs:List Value},dV (LRd G s.hp w) xs vs → uq σ s xs l → ∀ (j:Nat) row,l[j]? = some row → ∃ u,vs[j]? = some u ∧ u.oneCell' = true ∧ ∃ p,row = [p] ∧ Rd (In (dM σ G).χ 0) w p u
 | [],[],vs,h,_,j,p,hp=>by simp at hp
 | [],_ :: _,_,_,h,_,_,_=>h.elim
 | _ :: _,[],_,_,h,_,_,_=>h.elim
 | x :: xs,y :: ys,vs,h,hs,j,p,hp=>by
  cases vs with
  | nil=>have:=h.1; simp at this
  | cons v vs =>
   cases j with
   | zero =>
    simp at hp; subst hp
    obtain⟨h1,_⟩:=hs
    split at h1
    ·have hx:=h.2 0 _ _ rfl rfl
     exact⟨v,rfl,hx.one,_,rfl,uu ho hx h1⟩
    ·exact h1.elim
   | succ j=>exact Df ho (xs:=xs) (l:=ys) (vs:=vs) ⟨by have:=h.1; simpa using this,fun i a b ha hb=>h.2 (i + 1) a b (by simpa using ha) (by simpa using hb)⟩ hs.2 j p (by simpa using hp)
theorem Kn {o:Nat} {e:TypeId} {cs:List aJ} {l:List (List PV)} (ho:∀ o h,s.hp o = some h → HRd G s.hp w o h) (hb:s.hp o = some (.lit e cs)) (hl:uq σ s cs l) (hno:o ∉ σ.m.map (·.1)) (hmay:σ.may o):Rd (In (dM σ G).χ 0) w (.sl l) (G.hv o):=by
 obtain⟨vs,h1,h2,h3,h4,h5⟩:=ho o _ hb
 have hlen:=zN hl
 rw[h4,hlen]
 have hcol:=pe hno hmay h2
 refine Rd.wP (z:=1) ⟨rfl,Nat.le_refl _,by first | omega | (simp only[maxLen]; omega) | (unfold maxLen; omega),by simp,fun hpos=>⟨G.bl o,0,rfl,fun i row hi=>?_⟩⟩ (.inl (by omega))
 obtain⟨u,hu,hone,p,rfl,hr⟩:=Df ho h3 hl i row hi
 refine⟨[u],⟨rfl,?_⟩,fun j v hv=>?_⟩
 ·refine⟨by simp,fun j q v h6 h7=>?_⟩
  cases j with
  | zero=>simp at h6 h7; subst h6 h7; exact hr
  | succ j=>simp at h6
 ·cases j with
  | zero =>
   simp at hv
   subst hv
   refine⟨hcol,?_⟩
   have h8:w.cell? ⟨G.bl o,0 + (i * 1 + 0),none⟩ = some u:=by
    rw[Nat.zero_add,Nat.add_zero,Nat.mul_one,h1.cell]; simpa using hu
   simpa [aL.sz] using h8
  | succ j=>simp at hv
theorem Dg {x y:aJ} {v:Value} (hσ:σ.nodup) (ho:∀ o h,s.hp o = some h → HRd G s.hp w o h) (h:LRd G s.hp w x v) (hs:mu σ s hps x y):LRd (dM σ G) (fun o=>ae hps o) w y v:=by
 have hv:=h.val
 unfold mu at hs
 split at hs
 ·exact⟨h.one,by simp [aJ.ids],trivial⟩
 ·subst hs
  exact⟨h.one,by simp [aJ.ids],Rd.frame mw hv⟩
 ·exact⟨h.one,by simp [aJ.ids],hv⟩
 ·subst hs
  refine⟨h.one,by simp [aJ.ids],?_⟩
  rw[show v = .slice none 0 0 from hv]
  exact Rd.sl0 (fun _=>rfl) (by omega)
 ·rename_i o l
  obtain⟨ho',hno,hmay⟩:=hs
  split at ho'
  ·rename_i e z l2 heq
   subst ho'
   refine⟨h.one,by simp [aJ.ids],?_⟩
   rw[show v = G.hv o from hv]
   refine Rd.frame (fun b hb _=>⟨?_,rfl⟩) (BT (ho o _ heq).1)
   rcases hb with hb | hb
   ·exact pe hno hmay hb
   ·exact hM hb
  ·rename_i e cs heq
   refine⟨h.one,by simp [aJ.ids],?_⟩
   rw[show v = G.hv o from hv]
   exact Kn ho heq ho' hno hmay
  ·exact ho'.elim
 ·rename_i o a b z l
  obtain⟨hzp,ho',hno,hmay⟩:=hs
  split at ho'
  ·rename_i e z' l2 heq
   obtain⟨rfl,hbl,rfl⟩:=ho'
   refine⟨h.one,by simp [aJ.ids],?_⟩
   obtain⟨A,n,c,h1,h2,h3,h4,h5⟩:=hv
   have hown:=(ho o _ heq).1
   have hfr:∀ b,(G.χ b = o + 2 ∨ G.χ b = 0) → b < w.heap.size → In (dM σ G).χ 0 b ∧ w.heap[b]? = w.heap[b]? := fun b hb _=>⟨by
    rcases hb with hb | hb
    ·exact pe hno hmay hb
    ·exact hM hb,rfl⟩
   rw[h1] at hown
   rw[h5]
   exact Rd.frame hfr (LI hzp hown h2 hbl)
  ·exact ho'.elim
 ·rename_i o o2
  refine⟨h.one,fun j hj=>?_,?_⟩
  ·simp [aJ.ids] at hj; subst hj; exact hs.2
  ·show v = (dM σ G).hv o2
   rw[oh hσ hs.1]; exact hv
 ·rename_i o a b z o2 a2 b2 z2
  obtain⟨⟨g1,g2⟩,rfl,rfl,rfl⟩:=hs
  refine⟨h.one,fun j hj=>?_,?_⟩
  ·simp [aJ.ids] at hj; subst hj; exact g2
  ·obtain⟨A,n,c,h1,h2⟩:=hv
   exact⟨A,n,c,by rw[oh hσ g1]; exact h1,h2⟩
 ·rename_i o2
  refine⟨h.one,fun j hj=>?_,?_⟩
  ·simp [aJ.ids] at hj; subst hj; exact hs.2.1
  ·show v = (dM σ G).hv o2
   rw[Dd hs.1 hs.2.2]; exact hv
 ·rename_i o f o2 f2
  obtain⟨⟨h1,h2⟩,rfl⟩:=hs
  refine⟨h.one,fun j hj=>?_,?_⟩
  ·simp [aJ.ids] at hj; subst hj; exact h2
  ·show v = ptr ((dM σ G).bl o2) f
   rw[gB hσ h1]; exact hv
 ·rename_i o i f z o2 i2 f2 z2
  obtain⟨⟨h1,h2⟩,rfl,rfl,rfl⟩:=hs
  refine⟨h.one,fun j hj=>?_,?_⟩
  ·simp [aJ.ids] at hj; subst hj; exact h2
  ·show v = ptr ((dM σ G).bl o2) (mq ((dM σ G).hv o2) + _)
   rw[gB hσ h1,oh hσ h1]; exact hv
 ·obtain⟨rfl,rfl⟩:=hs
  obtain⟨b,off0,h1,h2,h3,h4⟩:=hv
  exact⟨h.one,by simp [aJ.ids],b,off0,h1,hM h2,h3,fun j p hj=>by
   obtain⟨u,hu,hr⟩:=h4 j p hj
   exact⟨u,hu,Rd.frame mw hr⟩⟩
 ·obtain⟨rfl,hcs⟩:=hs
  obtain⟨h1,h2⟩:=ur (G:=G) hσ hcs
  refine⟨h.one,h1,?_⟩
  have hv':v = _:=hv
  rw[LVal,hv',h2]
 ·rename_i o o2
  refine⟨h.one,fun j hj=>?_,?_⟩
  ·simp [aJ.ids] at hj; subst hj; exact hs.2
  ·show v = .map (some ((dM σ G).bl o2))
   rw[gB hσ hs.1]; exact hv
 ·obtain⟨rfl,rfl⟩:=hs
  exact⟨h.one,by simp [aJ.ids],hv⟩
 ·subst hs
  exact⟨h.one,by simp [aJ.ids],Rd.frame mw hv.1,hv.2⟩
 ·subst hs
  exact⟨h.one,by simp [aJ.ids],Rd.frame mw hv.1⟩
 ·exact⟨h.one,by simp [aJ.ids],uu ho h hs⟩
 ·rename_i o f cs f2
  obtain⟨rfl,hb,hno,hmay⟩:=hs
  split at hb
  ·rename_i t xs heq
   obtain⟨vs,h1,h2,h3⟩:=ho o _ heq
   refine⟨h.one,by simp [aJ.ids],G.bl o,0,by rw[Nat.zero_add]; exact hv,pe hno hmay h2,h1.lt,fun j p hj=>?_⟩
   obtain⟨u,hu,hr⟩:=wY ho h3 hb j p hj
   exact⟨u,by rw[Nat.zero_add,h1.cell]; simpa using hu,hr⟩
  ·exact hb.elim
 ·exact hs.elim
theorem qp (hσ:σ.nodup) (ho:∀ o h,s.hp o = some h → HRd G s.hp w o h):∀ {xs ys:List aJ} {vs:List Value},dV (LRd G s.hp w) xs vs → ju σ s hps xs ys → dV (LRd (dM σ G) (fun o=>ae hps o) w) ys vs
 | [],[],vs,h,_=>⟨by simpa using h.1,by simp⟩
 | [],_ :: _,_,_,h=>h.elim
 | _ :: _,[],_,_,h=>h.elim
 | x :: xs,y :: ys,vs,h,hs=>by
  cases vs with
  | nil=>have:=h.1; simp at this
  | cons v vs =>
   have ih:=qp hσ ho (xs:=xs) (ys:=ys) (vs:=vs) ⟨by have:=h.1; simpa using this,fun i a b ha hb=>h.2 (i + 1) a b (by simpa using ha) (by simpa using hb)⟩ hs.2
   refine⟨by simp [ih.1],fun i a b ha hb=>?_⟩
   cases i with
   | zero=>simp at ha hb; subst ha hb; exact Dg hσ ho (h.2 0 _ _ rfl rfl) hs.1
   | succ i=>exact ih.2 i a b (by simpa using ha) (by simpa using hb)
theorem yl (hσ:σ.nodup) (ho:∀ o h,s.hp o = some h → HRd G s.hp w o h) {x y:Cmp} {v:Value} (h:CRd G s.hp w x v) (hs:rK σ s hps x y):CRd (dM σ G) (fun o=>ae hps o) w y v:=by
 unfold rK at hs
 split at hs
 ·exact Dg hσ ho h hs
 ·obtain⟨vs,h1,h2⟩:=h
  exact⟨vs,h1,qp hσ ho h2 hs⟩
 ·exact hs.elim
theorem zO (hσ:σ.nodup) (ho:∀ o h,s.hp o = some h → HRd G s.hp w o h):∀ {xs ys:List Cmp} {vs:List Value},dV (CRd G s.hp w) xs vs → pE σ s hps xs ys → dV (CRd (dM σ G) (fun o=>ae hps o) w) ys vs
 | [],[],vs,h,_=>⟨by simpa using h.1,by simp⟩
 | [],_ :: _,_,_,h=>h.elim
 | _ :: _,[],_,_,h=>h.elim
 | x :: xs,y :: ys,vs,h,hs=>by
  cases vs with
  | nil=>have:=h.1; simp at this
  | cons v vs =>
   have ih:=zO hσ ho (xs:=xs) (ys:=ys) (vs:=vs) ⟨by have:=h.1; simpa using this,fun i a b ha hb=>h.2 (i + 1) a b (by simpa using ha) (by simpa using hb)⟩ hs.2
   refine⟨by simp [ih.1],fun i a b ha hb=>?_⟩
   cases i with
   | zero=>simp at ha hb; subst ha hb; exact yl hσ ho (h.2 0 _ _ rfl rfl) hs.1
   | succ i=>exact ih.2 i a b (by simpa using ha) (by simpa using hb)
theorem Dh (hσ:σ.nodup) (ho:∀ o h,s.hp o = some h → HRd G s.hp w o h) {x y:Slot} {v:Value} (h:SRd G s.hp w x v) (hs:oe σ s hps x y):SRd (dM σ G) (fun o=>ae hps o) w y v:=by
 unfold oe at hs
 split at hs
 ·trivial
 ·exact yl hσ ho h hs
 ·obtain⟨vs,h1,h2⟩:=h
  exact⟨vs,h1,zO hσ ho h2 hs⟩
 ·exact hs.elim
theorem ym (hσ:σ.nodup) (hr:∀ o h,s.hp o = some h → HRd G s.hp w o h) {q:Nat × dv} (hm:HSub σ s hps q):HRd (dM σ G) (fun o=>ae hps o) w q.1 q.2:=by
 obtain⟨o2,h2⟩:=q
 unfold HSub at hm
 split at hm
 ·rename_i o hl
  have hmem:(o,o2) ∈ σ.m:=by
   obtain⟨x,hx,he⟩:=List.mem_map.1 (dg hl)
   injection he with e1 e2
   cases x; simp only at e1 e2; subst e1 e2; exact hx
  unfold yk at hm
  split at hm
  ·rename_i heq
   dsimp only at heq
   subst heq
   trivial
  ·rename_i t cs t2 cs2 ho' heq
   dsimp only at heq
   subst heq
   obtain⟨rfl,hcs⟩:=hm
   obtain⟨vs,h1,h2,h3⟩:=hr o _ ho'
   show HRd (dM σ G) _ w o2 (.box t cs2)
   refine⟨vs,?_,?_,qp hσ hr h3 hcs⟩
   ·rw[gB hσ hmem]; exact h1
   ·rw[gB hσ hmem]; exact kV hσ hmem h2
  ·rename_i e z l e2 z2 l2 ho' heq
   dsimp only at heq
   subst heq
   obtain⟨rfl,rfl,rfl⟩:=hm
   obtain⟨h1,h2⟩:=hr o _ ho'
   show HRd (dM σ G) _ w o2 (.arr e z l)
   refine⟨?_,?_⟩
   ·rw[oh hσ hmem]
    exact h1.od (fun g _ _ hk=>kV hσ hmem hk) (.inl fun b _ hb=>hM hb)
   ·rw[oh hσ hmem,gB hσ hmem]; exact h2
  ·rename_i k g m k2 g2 m2 ho' heq
   dsimp only at heq
   subst heq
   obtain⟨rfl,rfl,rfl⟩:=hm
   obtain⟨es,clock,h1,h2,h3⟩:=hr o _ ho'
   show HRd (dM σ G) _ w o2 (.ix k g m)
   refine⟨es,clock,?_,?_,h3⟩
   ·rw[gB hσ hmem]; exact h1
   ·rw[gB hσ hmem]; exact kV hσ hmem h2
  ·rename_i g m g2 m2 ho' heq
   dsimp only at heq
   subst heq
   obtain⟨rfl,rfl⟩:=hm
   obtain⟨es,clock,mv,h1,h2,h3⟩:=hr o _ ho'
   show HRd (dM σ G) _ w o2 (.fi g m)
   refine⟨es,clock,mv,?_,?_,h3.frame fun b hb _=>⟨hM hb,rfl⟩⟩
   ·rw[gB hσ hmem]; exact h1
   ·rw[gB hσ hmem]; exact kV hσ hmem h2
  ·rename_i k g m k2 g2 m2 ho' heq
   dsimp only at heq
   subst heq
   obtain⟨rfl,rfl,rfl⟩:=hm
   obtain⟨es,clock,h1,h2,h3⟩:=hr o _ ho'
   show HRd (dM σ G) _ w o2 (.iy k g m)
   refine⟨es,clock,?_,?_,h3⟩
   ·rw[gB hσ hmem]; exact h1
   ·rw[gB hσ hmem]; exact kV hσ hmem h2
  ·rename_i k g m key d k2 g2 m2 key2 d2 ho' heq
   dsimp only at heq
   subst heq
   obtain⟨rfl,rfl,rfl,rfl,hmd,hd2⟩:=hm
   obtain⟨es,clock,h1,h2,h3,h4,i,e',h5,h6,h7⟩:=hr o _ ho'
   show HRd (dM σ G) _ w o2 (.py k g m key d2)
   refine⟨es,clock,?_,?_,h3,hd2,i,e',h5,h6,?_⟩
   ·rw[gB hσ hmem]; exact h1
   ·rw[gB hσ hmem]; exact kV hσ hmem h2
   ·rw[oh hσ hmd]; exact h7
  ·rename_i k e z m h k2 e2 z2 m2 h2 ho' heq
   dsimp only at heq
   subst heq
   obtain⟨rfl,rfl,rfl,rfl,rfl⟩:=hm
   obtain⟨es,clock,mv,h1,h2,h3,h4,h5⟩:=hr o _ ho'
   show HRd (dM σ G) _ w o2 (.jN k e z m h)
   refine⟨es,clock,mv,?_,?_,h3,fun i x y hx hy hh=>?_,h5⟩
   ·rw[gB hσ hmem]; exact h1
   ·rw[gB hσ hmem]; exact kV hσ hmem h2
   ·exact (h4 i x y hx hy hh).od (fun g _ _ hk=>kV hσ hmem hk) (.inl fun b _ hb=>hM hb)
  ·rename_i e cs e2 cs2 ho' heq
   dsimp only at heq
   subst heq
   obtain⟨rfl,hcs⟩:=hm
   obtain⟨vs,h1,h2,h3,h4,h5⟩:=hr o _ ho'
   show HRd (dM σ G) _ w o2 (.lit e cs2)
   have h6:=qp hσ hr h3 hcs
   have hlen:cs2.length = cs.length:=h6.1.trans h3.1.symm
   refine⟨vs,?_,?_,h6,?_,by rw[hlen]; exact h5⟩
   ·rw[gB hσ hmem]; exact h1
   ·rw[gB hσ hmem]; exact kV hσ hmem h2
   ·rw[oh hσ hmem,gB hσ hmem,hlen]; exact h4
  ·exact hm.elim
 ·rename_i hl
  rcases hm with hm | hm
  rotate_left
  ·dsimp only at hm
   subst hm
   trivial
  obtain⟨hm,hlow⟩:=hm
  unfold zM at hm
  split at hm
  ·rename_i e z l heq
   dsimp only at heq
   subst heq hm
   have hno:o2 ∉ σ.m.map (·.2):=fun hin=>by
    obtain⟨x,hx,he⟩:=List.mem_map.1 hin
    have:=(og hσ (o:=x.1) (o2:=o2) (by rw[← he]; exact hx)).2
    rw[this] at hl; cases hl
   have hv:(dM σ G).hv o2 = .slice none 0 0:=Dd hno hlow
   show HRd (dM σ G) _ w o2 (.arr e z [])
   refine⟨?_,?_⟩
   ·rw[hv]; exact Own.nil _ _ _ _
   ·rw[hv]; simp [Value.ownBlock]
  ·exact hm.elim
theorem yn (hχ:∀ b,χ0 b ≤ 1) (h:Sub σ s tms hps) (r:cV w0 χ0 T0 s a w G):cV w0 χ0 T0 (kU tms hps) a w (dM σ G):=by
 obtain⟨⟨hσ,hv0,hp0,hpins⟩,ht,hh⟩:=h
 refine⟨r.os,r.tape,r.output,r.size,r.old,fun b hb hT=>?_,fun b hb=>?_,fun o2 ho2=>?_,fun b hb=>hM (r.norm b hb),r.defers.step (Nat.le_refl _) (fun b _ h1=>⟨(if_pos (by omega)).trans h1,rfl⟩),fun t=>?_,fun o2 h2 ho=>?_,r.tX⟩
 ·have h1:=r.col b hb hT
  show (if G.χ b ≤ 1 then G.χ b else _) = χ0 b
  rw[if_pos (by rw[h1]; exact hχ b)]; exact h1
 ·exact r.own b (BS hb).1
 ·have key:∀ o,ae (σ.m.map fun x=>(x.2,x.1)) o2 = some o → o = o2:=fun o hl=>by
   obtain⟨x,hx,he⟩:=List.mem_map.1 (dg hl)
   injection he with e1 e2
   have:=eO hpins x hx (by omega)
   omega
  constructor
  ·show (match ae (σ.m.map fun x=>(x.2,x.1)) o2 with | some o=>G.bl o | none=>if σ.pin = true ∧ 1000000 ≤ o2 then G.bl o2 else 0) = _
   cases hl:ae (σ.m.map fun x=>(x.2,x.1)) o2 with
   | some o=>rw[key o hl]; exact (r.pin o2 ho2).1
   | none=>exact (if_pos ⟨hp0,ho2⟩).trans (r.pin o2 ho2).1
  ·show (match ae (σ.m.map fun x=>(x.2,x.1)) o2 with | some o=>G.hv o | none=>if σ.pin = true ∧ 1000000 ≤ o2 then G.hv o2 else .slice none 0 0) = _
   cases hl:ae (σ.m.map fun x=>(x.2,x.1)) o2 with
   | some o=>rw[key o hl]; exact (r.pin o2 ho2).2
   | none=>exact (if_pos ⟨hp0,ho2⟩).trans (r.pin o2 ho2).2
 ·show SRd (dM σ G) (fun o=>ae hps o) w ((ae tms t).getD .dead) _
  cases hl:ae tms t with
  | none=>trivial
  | some y=>exact Dh hσ r.gn (r.tms t) (eO ht _ (dg hl))
 ·exact ym (q:=(o2,h2)) hσ r.gn (eO hh _ (dg (show ae hps o2 = some h2 from ho)))
theorem uv (hχ:∀ b,χ0 b ≤ 1) (h:Sub σ s tms hps) (ha:bX w0 χ0 T0 n s a w):bX w0 χ0 T0 n (kU tms hps) a w:=by
 obtain⟨hn,G,r⟩:=ha
 exact⟨hn,_,yn hχ h r⟩
end
end Go.Lad
