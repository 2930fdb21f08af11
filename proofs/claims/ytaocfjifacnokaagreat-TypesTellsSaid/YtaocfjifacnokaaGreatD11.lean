import Derived.Test.YtaocfjifacnokaaGreatD10
namespace Go.Lad
set_option linter.unusedVariables false
set_option linter.unusedSimpArgs false
open Go.RowKit
structure oL (P:Program) (it:Iter):Prop where
 enter:∀ args w,(callFunc it.f args).run P w = .ok (.enter it.f args) w
 law:∀ ol xs,it.fn ol = some xs → qB P it.f (xs.map fun x=>(it.row x).map TC.un) (fun k=>(it.at_ ol k).map cY.un)
 at0:∀ ol xs,it.fn ol = some xs → it.at_ ol 0 = ol
 len:∀ ol xs,it.fn ol = some xs → ∀ k,(it.at_ ol k).length = ol.length
 ids:∀ ol xs,it.fn ol = some xs → ∀ k,∀ h ∈ it.at_ ol k,h.gw = []
theorem Hl {α σ β:Type} {f:Nat → α → σ → Option (σ ⊕ β)} {xs:List α} {v0:σ} {o:σ ⊕ β} (h:oF f 0 xs v0 = some o) :
  ∃ R:Nat → σ → Prop,R 0 v0 ∧ (∀ k (hk:k < xs.length) v,R k v → ∃ y,f k xs[k] v = some y ∧ (∀ v',y = .inl v' → R (k + 1) v') ∧ (∀ b,y = .inr b → o = .inr b)) ∧ ∀ v,R xs.length v → o = .inl v:=by
 refine⟨fun k v=>oF f k (xs.drop k) v = some o,h,fun k hk v hv=>?_,fun v hv=>?_⟩
 ·have hv:oF f k (xs.drop k) v = some o:=hv
  rw[List.drop_eq_getElem_cons hk] at hv
  obtain⟨y,h1,h2⟩:=bind_some (show ((f k xs[k] v).bind fun y=>match y with | .inl s'=>oF f (k + 1) (xs.drop (k + 1)) s' | .inr b=>some (.inr b)) = some o from hv)
  refine⟨y,h1,fun v' e=>by subst e; exact h2,fun b e=>by subst e; injection h2 with h2; exact h2.symm⟩
 ·have hv:oF f xs.length (xs.drop xs.length) v = some o:=hv
  rw[List.drop_length] at hv
  injection hv with hv
  exact hv.symm
theorem sR:∀ {os:List Nat} {l:List (Nat × cY)} {ol:List cY},tE l os = some ol → ol.length = os.length ∧ ∀ o,(match ae (os.zip ol) o with | some h=>ae l o = some h | none=>True)
 | [],l,ol,h=>by injection h with h; subst h; exact⟨rfl,fun o=>trivial⟩
 | o' :: os,l,ol,h=>by
  unfold tE at h
  split at h
  ·rename_i h' hl
   split at h
   ·rename_i t ht
    injection h with h
    subst h
    obtain⟨h1,h2⟩:=sR ht
    refine⟨by simp [h1],fun o=>?_⟩
    rw[List.zip_cons_cons,jn]
    by_cases ho:o = o'
    ·subst ho; rw[if_pos rfl]; rw[look_eq] at hl; exact hl
    ·rw[if_neg ho]; exact h2 o
   ·cases h
  ·cases h
theorem nH (os:List Nat) (ol:List cY):∀ (l:List (Nat × cY)) (o:Nat),ae (me os ol l) o = (ae l o).map fun h=>(ae (os.zip ol) o).getD h
 | [],_=>rfl
 | x :: r,o=>by
  have ih:=nH os ol r o
  unfold me at ih ⊢
  rw[List.map_cons,jn]
  have e:ae (x :: r) o = if o = x.1 then some x.2 else ae r o:=rfl
  rw[e,ih]
  by_cases h:o = x.1
  ·subst h
   rw[if_pos rfl,if_pos rfl,look_eq,Option.map_some]
   cases ae (os.zip ol) x.1 <;> rfl
  ·rw[if_neg h,if_neg h]
theorem yX (os:List Nat) (ol:List cY) (l:List (Nat × cY)):aW (me os ol l) = aW l:=by
 unfold me aW
 rw[List.map_map]; rfl
theorem Hm {α:Type} {os:List Nat} {ol:List α} (hl:ol.length = os.length) {o:Nat} (h:o ∈ os):ae (os.zip ol) o ≠ none:=by
 induction os generalizing ol with
 | nil=>cases h
 | cons x os ih =>
  cases ol with
  | nil=>cases hl
  | cons y ol =>
   rw[List.zip_cons_cons,jn]
   by_cases ho:o = x
   ·rw[if_pos ho]; simp
   ·rw[if_neg ho]
    exact ih (by simpa using hl) ((List.mem_cons.1 h).resolve_left ho)
theorem vF:∀ (ss:List CSh) (ds:List Dyn),(jO ss ds).1.length = ss.length
 | [],_=>rfl
 | s :: ss,ds=>by
  show (jO ss (mkC s ds).2).1.length + 1 = ss.length + 1
  rw[vF ss]
def sS (l:List (Nat × SSh)):List (Nat × TSl):=l.map fun x=>(x.1,(u7 x.2 []).1)
theorem vG:∀ (l:List (Nat × SSh)) (ds:List Dyn),(∀ x ∈ l,Cu x.2 = true) → Ar l ds = (sS l,ds)
 | [],_,_=>rfl
 | x :: l,ds,h=>by
  have ih:=vG l ds fun y hy=>h y (List.mem_cons_of_mem _ hy)
  obtain⟨i,sh⟩:=x
  have hx:=h (i,sh) List.mem_cons_self
  unfold Cu at hx
  split at hx
  ·rename_i o off heq
   dsimp only at heq
   subst heq
   show (match Ar l ds with | (l,ds)=>((i,TSl.c (.v (.loc o off))) :: l,ds)) = _
   rw[ih]; rfl
  ·cases hx
theorem CI (l:List (Nat × SSh)):aW (sS l) = aW l:=by unfold sS aW; rw[List.map_map]; rfl
theorem vH {α:Type} {os:List Nat} {ol:List α} {o:Nat} {h:α} (hl:ae (os.zip ol) o = some h):o ∈ os ∧ h ∈ ol:=⟨(List.of_mem_zip (dg hl)).1,(List.of_mem_zip (dg hl)).2⟩
theorem zip_map {α β:Type} (f:α → β):∀ (os:List Nat) (ol:List α) (o:Nat),ae (os.zip (ol.map f)) o = (ae (os.zip ol) o).map f
 | [],_,_=>rfl
 | _ :: _,[],_=>rfl
 | x :: os,y :: ol,o=>by
  rw[List.map_cons,List.zip_cons_cons,List.zip_cons_cons,jn,jn,zip_map f os ol o]
  by_cases h:o = x
  ·rw[if_pos h,if_pos h]; rfl
  ·rw[if_neg h,if_neg h]
theorem AX:∀ (ps:List Nat) (cs:List TC),kz (ps.zip (cs.map TSl.c)) = ps.zip ((cs.map TC.un).map Slot.c)
 | [],_=>rfl
 | _ :: _,[]=>rfl
 | p :: ps,c :: cs=>by
  show (p,Slot.c c.un) :: kz (ps.zip (cs.map TSl.c)) = _
  rw[AX ps cs]; rfl
section
variable {fx cur:TSt} {os:List Nat} {ol:List cY} {σs:Shp} {kt kh:List Nat}
theorem CJ:aW (bE (lV cur os ol) σs kt kh).hp = aW (bE cur σs kt kh).hp:=by
 show aW ((me os ol cur.hp).filter fun x=>!cm (aW σs.hp) x.1 && cm kh x.1) = aW (cur.hp.filter fun x=>!cm (aW σs.hp) x.1 && cm kh x.1)
 unfold me aW
 rw[List.filter_map,List.map_map]; rfl
theorem Mg (h:kK fx cur (bE cur σs kt kh) σs = true):kK fx (lV cur os ol) (bE (lV cur os ol) σs kt kh) σs = true:=by
 unfold kK at h ⊢
 rw[CJ]
 rw[Bool.and_eq_true] at h ⊢
 refine⟨List.all_eq_true.2 fun x hx=>?_,h.2⟩
 obtain⟨y,hy,rfl⟩:=List.mem_map.1 hx
 exact List.all_eq_true.1 h.1 y hy
theorem Hn (hos:∀ o ∈ os,cm (aW (bE cur σs kt kh).hp) o = true) (o:Nat):ae (fxK fx cur os ol σs kt kh).hp o = (ae (fR fx cur (bE cur σs kt kh) σs).hp o).map fun h=>(ae (os.zip ol) o).getD h:=by
 unfold fxK
 rw[jr,jr,gx,gx]
 have e:ae (lV cur os ol).hp o = (ae cur.hp o).map fun h=>(ae (os.zip ol) o).getD h:=nH os ol cur.hp o
 have e2:aW (lV cur os ol).hp = aW cur.hp:=yX os ol cur.hp
 rw[e,e2]
 cases hc : !cm (aW σs.hp) o && cm kh o with
 | true =>
  simp only[if_true]
  cases hl:ae cur.hp o with
  | some h=>rfl
  | none =>
   simp only[Option.map_none]
   cases hz:ae (os.zip ol) o with
   | none =>
    split
    ·cases ae fx.hp o <;> rfl
    ·rfl
   | some c =>
    exfalso
    have h1:=hos o (vH hz).1
    have h2:cm (aW (bE cur σs kt kh).hp) o = false:=(fm _ _).2 (by rw[gx,hc,if_pos rfl,hl])
    rw[h2] at h1; cases h1
 | false =>
  simp only[Bool.false_eq_true,if_false]
  cases hz:ae (os.zip ol) o with
  | none =>
   split
   ·cases ae fx.hp o <;> rfl
   ·rfl
  | some c =>
   exfalso
   have h1:=hos o (vH hz).1
   have h2:cm (aW (bE cur σs kt kh).hp) o = false:=(fm _ _).2 (by rw[gx,hc]; rfl)
   rw[h2] at h1; cases h1
end
section
variable {E:Env} {Γ:Opt}
theorem jh {α:Type} {b:Bool} {x:Option α} {r:α} (h:(Bool.rec none x b:Option α) = some r):b = true ∧ x = some r:=by
 cases b with
 | true=>exact⟨rfl,h⟩
 | false=>cases h
def oM (js:List Nat):Code → An → Bool
 | .seq a b,.seq x y=>oM js a x && oM js b y
 | .seq a b,.join _ _ _ _ x y=>js.contains (nk b) && oM js a x && oM js b y
 | .cond _ a b,.cond x y=>oM js a x && oM js b y
 | .block _ b,.one x=>oM js b x
 | .loop b,.loop _ _ _ x=>oM js b x
 | .scope b,.one x=>oM js b x
 | .rangeFunc _ _ a b,.range _ _ _ x y=>oM js a x && oM js b y
 | _,_=>true
def iS:Code → An → List (Nat × Code)
 | .seq a b,.seq x y=>iS a x ++ iS b y
 | .seq a b,.join _ _ _ _ x y=>iS a x ++ iS b y
 | .seq a b,.hand i=>[(i,.seq a b)]
 | .cond _ a b,.cond x y=>iS a x ++ iS b y
 | .block _ b,.one x=>iS b x
 | .loop b,.loop _ _ _ x=>iS b x
 | .scope b,.one x=>iS b x
 | .rangeFunc _ _ a b,.range _ _ _ x y=>iS a x ++ iS b y
 | _,_=>[]
def Ho (E:Env) (Γ:Opt) (x:Nat × Code):Prop := ∀ h,KZ E.G6 x.1 = some h → gv x.2 = false ∧ ∀ fx cur cur',h fx cur = some cur' → J6 E.P Γ x.2 (un2 fx cur) (un2 fx cur')
theorem CK {α:Type} {p:α → Prop} {l m:List α} (h:∀ x ∈ l ++ m,p x):∀ x ∈ l,p x:=fun x hx=>h x (List.mem_append_left _ hx)
theorem CL {α:Type} {p:α → Prop} {l m:List α} (h:∀ x ∈ l ++ m,p x):∀ x ∈ m,p x:=fun x hx=>h x (List.mem_append_right _ hx)
theorem DV {fx2:TSt} {σs:Shp} {v:Tup σs.ps} {b:Code} {s:St} {K:St → Prop} (hj:Γ.js.contains (nk b) = true) (hs:∃ σ,Sub σ s (kz ((σs.at v).tm ++ fx2.tm)) (dN ((σs.at v).hp ++ fx2.hp))) (hK:K (un2 fx2 (σs.at v))):lz Γ.js b K s:=by
 unfold lz
 rw[if_pos hj]
 obtain⟨σ,hs⟩:=hs
 exact .inr ⟨_,_,σ,hs,hK⟩
theorem iq [Fuel] (hIt:∀ it ∈ E.its,oL E.P it) (hvs:Γ.vs = E.fz) (hΦ:∀ con ∈ E.Φ,ay E.P con) (hΓ:Γ.hs = E.hs ∧ Γ.fz = E.zs ∧ Γ.mv = E.ns ∧ Γ.bx = E.bs):∀ (c:Code) (an:An) (fx:TSt) (ρ:Type) (dq:DecidableEq ρ) (cur:TSt) (K:AEx → TSt → Option ρ) (r:ρ) (Q:AEx → St → Prop),(∀ x ∈ iS c an,Ho E Γ x) → oM Γ.js c an = true → den E c an fx ρ dq cur K = some r → (∀ e c,K e c = some r → Q e (un2 fx c)) → fe E.P Γ c (un2 fx cur) Q
 | .skip,an,fx,ρ,dq,cur,K,r,Q,hH,hj,h,hQ=>hQ _ _ h
 | .region id ops dr,an,fx,ρ,dq,cur,K,r,Q,hH,hj,h,hQ=>DU rfl hvs hΦ hΓ (fun c hc=>hQ _ _ hc) _ _ h
 | .seq a b,an,fx,ρ,dq,cur,K,r,Q,hH,hj,h,hQ=>by
  cases an with
  | seq x y =>
   unfold oM at hj
   rw[Bool.and_eq_true] at hj
   refine .inl (iq hIt hvs hΦ hΓ a x fx ρ dq cur _ r _ (CK hH) hj.1 h fun e c hc=>?_)
   cases e with
   | normal =>
    have hb:=iq hIt hvs hΦ hΓ b y fx ρ dq c K r Q (CL hH) hj.2 hc hQ
    show lz Γ.js b (fun s=>fe E.P Γ b s Q) _
    unfold lz
    split
    ·exact .inl hb
    ·exact hb
   | exit i=>exact hQ _ _ hc
   | ret=>exact hQ _ _ hc
  | join σs kt kh pure x y =>
   unfold oM at hj
   rw[Bool.and_eq_true,Bool.and_eq_true] at hj
   obtain⟨⟨hj1,hj2⟩,hj3⟩:=hj
   cases pure with
   | true =>
    obtain⟨hc,h⟩:=jh h
    rw[Bool.and_eq_true] at hc
    obtain⟨hcl,hdr⟩:=hc
    obtain⟨v,h1,h2⟩:=bind_some h
    have hb:=iq hIt hvs hΦ hΓ b y fx ρ _ _ K r Q (CL hH) hj3 h2 hQ
    rw[oK hdr] at hb
    have ha:=iq hIt hvs hΦ hΓ a x _ _ _ _ _ v (Dp (lz Γ.js b fun s=>fe E.P Γ b s Q) Q) (CK hH) hj2 h1 fun e c hc=>by
     cases e with
     | normal =>
      obtain⟨hk,hc⟩:=jh hc
      obtain⟨v',hv,hs⟩:=jZ hc
      injection hv with hv
      subst hv
      exact DV hj1 (hs (qT hcl hk)) hb
     | exit i=>cases hc
     | ret=>cases hc
    rw[DO hdr] at ha
    exact .inl ha
   | false =>
    obtain⟨hc,h⟩:=jh h
    rw[Bool.and_eq_true] at hc
    obtain⟨hcl,hdr⟩:=hc
    obtain⟨v,h1,h2⟩:=bind_some h
    have ha:=iq hIt hvs hΦ hΓ a x _ _ _ _ _ v (Dp (lz Γ.js b fun s=>fe E.P Γ b s Q) Q) (CK hH) hj2 h1 fun e c hc=>by
     have out:∀ e',e' = e → ((K e' ⟨c.tm ++ (bE cur σs kt kh).tm,c.hp ++ (bE cur σs kt kh).hp⟩).map Sum.inr = some v) → Q e' (un2 (fR fx cur (bE cur σs kt kh) σs) c):=fun e' _ hc=>by
      rw[Option.map_eq_some_iff] at hc
      obtain⟨r',hr,rfl⟩:=hc
      dsimp only at h2
      injection h2 with h2
      subst h2
      rw[← oK hdr]
      exact hQ _ _ hr
     cases e with
     | normal =>
      obtain⟨hk,hc⟩:=jh hc
      obtain⟨v',hv,hs⟩:=jZ hc
      injection hv with hv
      subst hv
      dsimp only at h2
      have hb:=iq hIt hvs hΦ hΓ b y fx ρ _ _ K r Q (CL hH) hj3 h2 hQ
      rw[oK hdr] at hb
      exact DV hj1 (hs (qT hcl hk)) hb
     | exit i=>exact out _ rfl hc
     | ret=>exact out _ rfl hc
    rw[DO hdr] at ha
    exact .inl ha
  | hand i =>
   unfold den at h
   dsimp only at h
   split at h
   ·rename_i hd hi
    obtain⟨cur',h1,h2⟩:=bind_some h
    obtain⟨h3,h4⟩:=hH (i,.seq a b) List.mem_cons_self hd hi
    exact .inr ⟨h3,_,h4 fx cur cur' h1,hQ _ _ h2⟩
   ·cases h
  | no=>cases h
  | cond _ _=>cases h
  | loop _ _ _ _=>cases h
  | one _=>cases h
  | range _ _ _ _ _=>cases h
 | .cond c a b,an,fx,ρ,dq,cur,K,r,Q,hH,hj,h,hQ=>by
  cases an with
  | cond x y =>
   unfold oM at hj
   rw[Bool.and_eq_true] at hj
   unfold den at h
   dsimp only at h
   show Aa ((un2 fx cur).ev c) _ _
   rw[fS]
   split at h
   ·rename_i t heq
    obtain⟨t,rfl⟩:∃ q:Bool,q = t:=⟨t,rfl⟩
    rw[heq]
    show (t = true → _) ∧ (t = false → _)
    cases t with
    | true=>exact⟨fun _=>iq hIt hvs hΦ hΓ a x fx ρ dq cur K r Q (CK hH) hj.1 h hQ,(fun h=>nomatch h)⟩
    | false=>exact⟨(fun h=>nomatch h),fun _=>iq hIt hvs hΦ hΓ b y fx ρ dq cur K r Q (CL hH) hj.2 h hQ⟩
   ·rename_i pos t l heq
    rw[heq]
    cases pos with
    | true =>
     obtain⟨h1,h2⟩:=uY (show qF l (den E a x fx ρ dq cur K) (den E b y fx ρ dq cur K) = some r from h)
     show (l.map (enc t) = [] → _) ∧ _
     exact⟨fun hl=>iq hIt hvs hΦ hΓ a x fx ρ dq cur K r Q (CK hH) hj.1 (h2 (List.map_eq_nil_iff.1 hl)) hQ,iq hIt hvs hΦ hΓ b y fx ρ dq cur K r Q (CL hH) hj.2 h1 hQ⟩
    | false =>
     obtain⟨h1,h2⟩:=uY (show qF l (den E b y fx ρ dq cur K) (den E a x fx ρ dq cur K) = some r from h)
     show _ ∧ (l.map (enc t) = [] → _)
     exact⟨iq hIt hvs hΦ hΓ a x fx ρ dq cur K r Q (CK hH) hj.1 h1 hQ,fun hl=>iq hIt hvs hΦ hΓ b y fx ρ dq cur K r Q (CL hH) hj.2 (h2 (List.map_eq_nil_iff.1 hl)) hQ⟩
   ·cases h
  | no=>cases h
  | hand _=>cases h
  | seq _ _=>cases h
  | join _ _ _ _ _ _=>cases h
  | loop _ _ _ _=>cases h
  | one _=>cases h
  | range _ _ _ _ _=>cases h
 | .block id b,an,fx,ρ,dq,cur,K,r,Q,hH,hj,h,hQ=>by
  cases an with
  | one x =>
   refine iq hIt hvs hΦ hΓ b x fx ρ dq cur _ r _ hH hj h fun e c hc=>?_
   cases e with
   | normal=>exact hQ _ _ hc
   | exit i =>
    show (if i = id then Q .normal (un2 fx c) else Q (.exit i) (un2 fx c))
    have hc:(Bool.rec (K (.exit i) c) (K .normal c) (Nat.beq i id):Option ρ) = some r:=hc
    rw[eB] at hc
    by_cases hi:i = id
    ·rw[if_pos hi]
     rw[decide_eq_true hi] at hc
     exact hQ _ _ hc
    ·rw[if_neg hi]
     rw[decide_eq_false hi] at hc
     exact hQ _ _ hc
   | ret=>exact hQ _ _ hc
  | no=>cases h
  | hand _=>cases h
  | seq _ _=>cases h
  | join _ _ _ _ _ _=>cases h
  | loop _ _ _ _=>cases h
  | cond _ _=>cases h
  | range _ _ _ _ _=>cases h
 | .loop b,an,fx,ρ,dq,cur,K,r,Q,hH,hj,h,hQ=>by
  cases an with
  | loop σs kt kh x =>
   obtain⟨hc,h⟩:=jh h
   rw[Bool.and_eq_true] at hc
   obtain⟨hcl,hdr⟩:=hc
   obtain⟨v0,h1,hs0⟩:=jZ h
   obtain⟨σ0,hs0⟩:=hs0 (DN hcl)
   refine Ku _ (fun v=>kz ((σs.at v).tm ++ (fR fx cur (bE cur σs kt kh) σs).tm)) (fun v=>dN ((σs.at v).hp ++ (fR fx cur (bE cur σs kt kh) σs).hp)) v0 r (Ak h1) σ0 hs0 fun v o ho hr=>?_
   refine iq hIt hvs hΦ hΓ b x _ _ _ _ _ o (GA _ _ (fun y=>o = .inl y) Q) hH hj ho fun e c hc=>?_
   have out:∀ e',((K e' ⟨c.tm ++ (bE cur σs kt kh).tm,c.hp ++ (bE cur σs kt kh).hp⟩).map Sum.inr = some o) → Q e' (un2 (fR fx cur (bE cur σs kt kh) σs) c):=fun e' hc=>by
    rw[Option.map_eq_some_iff] at hc
    obtain⟨r',hr',rfl⟩:=hc
    have:=hr r' rfl
    subst this
    rw[← oK hdr]
    exact hQ _ _ hr'
   cases e with
   | normal =>
    obtain⟨hk,hc⟩:=jh hc
    obtain⟨v',hv,hs⟩:=jZ hc
    injection hv with hv
    obtain⟨σ,hs⟩:=hs (qT hcl hk)
    exact⟨v',σ,hv.symm,hs⟩
   | exit i=>exact out _ hc
   | ret=>exact out _ hc
  | no=>cases h
  | hand _=>cases h
  | seq _ _=>cases h
  | join _ _ _ _ _ _=>cases h
  | one _=>cases h
  | cond _ _=>cases h
  | range _ _ _ _ _=>cases h
 | .exit id,an,fx,ρ,dq,cur,K,r,Q,hH,hj,h,hQ=>hQ _ _ h
 | .ret,an,fx,ρ,dq,cur,K,r,Q,hH,hj,h,hQ=>hQ _ _ h
 | .scope b,an,fx,ρ,dq,cur,K,r,Q,hH,hj,h,hQ=>by
  cases an with
  | one x=>exact iq hIt hvs hΦ hΓ b x fx ρ dq cur K r Q hH hj h hQ
  | no=>cases h
  | hand _=>cases h
  | seq _ _=>cases h
  | join _ _ _ _ _ _=>cases h
  | loop _ _ _ _=>cases h
  | cond _ _=>cases h
  | range _ _ _ _ _=>cases h
 | .rangeFunc g ps a b,an,fx,ρ,dq,cur,K,r,Q,hH,hj,h,hQ=>by
  cases an with
  | range σs kt kh x y =>
   unfold oM at hj
   rw[Bool.and_eq_true] at hj
   unfold den at h
   dsimp only at h
   split at h
   rotate_left
   ·cases h
   rename_i tg
   split at h
   rotate_left
   ·cases h
   rename_i f2 os hlook
   split at h
   rotate_left
   ·cases h
   rename_i ol hol
   split at h
   rotate_left
   ·cases h
   rename_i it hit
   obtain⟨hchk,h⟩:=jh h
   obtain⟨xs,hxs,h⟩:=bind_some h
   obtain⟨v0,h1,hs0⟩:=jZ h
   obtain⟨o,ho,hfin⟩:=bind_some h1
   obtain⟨R,r0,r1,r2⟩:=Hl ho
   have hmem:=List.mem_of_find?_eq_some hit
   have hf2:f2 = 2 * it.f:=by
    have:=List.find?_some hit
    rw[eB,decide_eq_true_eq] at this
    exact this.symm
   subst hf2
   have iok:=hIt it hmem
   unfold DB at hchk
   simp only[Bool.and_eq_true] at hchk
   obtain⟨⟨⟨⟨⟨⟨hcl,hdr⟩,htm⟩,hlen⟩,hos⟩,hnod⟩,hdead⟩:=hchk
   rw[List.all_eq_true] at hos hdead
   obtain⟨htm,htg⟩:=htm
   rw[List.all_eq_true] at htm
   simp only[Bool.and_eq_true] at htm
   obtain⟨hol1,hol2⟩:=sR hol
   have hl0:∀ k,(it.at_ ol k).length = os.length:=fun k=>(iok.len ol xs hxs k).trans hol1
   have hat:∀ v,(σs.at v).tm = sS σs.tm:=fun v=>by
    unfold Shp.at Shp.mk'
    rw[vG _ _ fun x hx=>(htm x hx).1]
   have hfx:∀ v,σs.at v = ⟨sS σs.tm,(σs.at v).hp⟩:=fun v=>by rw[← hat v]
   have hkeys:∀ v,aW (σs.at v).hp = aW σs.hp:=fun v=>by
    unfold Shp.at Shp.mk'
    rw[vG _ _ fun x hx=>(htm x hx).1]
    exact ll _ _
   have hfl:=fun k=>Hn (fx:=fx) (cur:=cur) (os:=os) (ol:=it.at_ ol k) (σs:=σs) (kt:=kt) (kh:=kh) hos
   have hclK:∀ k,gj (fxK fx cur os (it.at_ ol k) σs kt kh) = true:=fun k=>by
    unfold gj at hcl ⊢
    simp only[Bool.and_eq_true,List.all_eq_true] at hcl ⊢
    have hkey:∀ i,cm (aW (fR fx cur (bE cur σs kt kh) σs).hp) i = true → cm (aW (fxK fx cur os (it.at_ ol k) σs kt kh).hp) i = true:=fun i hi=>by
     cases hc:cm (aW (fxK fx cur os (it.at_ ol k) σs kt kh).hp) i with
     | true=>rfl
     | false =>
      have h2:=(fm _ _).1 hc
      rw[hfl k i,Option.map_eq_none_iff] at h2
      rw[(fm _ _).2 h2] at hi; cases hi
    refine⟨fun z hz i hi=>hkey i (hcl.1 z hz i hi),fun z hz i hi=>?_⟩
    have h2:=si hz
    have h3:=hfl k z.1
    unfold fxK at h3
    rw[h2] at h3
    cases hz0:ae (fR fx cur (bE cur σs kt kh) σs).hp z.1 with
    | none=>rw[hz0] at h3; cases h3
    | some h0 =>
     rw[hz0,Option.map_some] at h3
     injection h3 with h3
     cases hzz:ae (os.zip (it.at_ ol k)) z.1 with
     | some c =>
      rw[hzz] at h3
      have h3:z.2 = c:=h3
      rw[h3,iok.ids ol xs hxs k c (vH hzz).2] at hi
      cases hi
     | none =>
      rw[hzz] at h3
      have h3:z.2 = h0:=h3
      exact hkey i (hcl.2 (z.1,h0) (dg hz0) i (by rw[h3] at hi; exact hi))
   have hdrK:∀ k,kK fx (lV cur os (it.at_ ol k)) (bE (lV cur os (it.at_ ol k)) σs kt kh) σs = true:=fun k=>Mg hdr
   have hnil:∀ k (c:TSt),un2 fx ⟨c.tm ++ (bE (lV cur os (it.at_ ol k)) σs kt kh).tm,c.hp ++ (bE (lV cur os (it.at_ ol k)) σs kt kh).hp⟩ = un2 (fxK fx cur os (it.at_ ol k) σs kt kh) c:=fun k c=>oK (hdrK k)
   show Cb E.P (fe E.P Γ a) (fe E.P Γ b) (.tmp tg) ps.toList (ps.toList ++ fC a ++ fC b) (un2 fx cur) Q
   refine⟨tg,it.f,os,xs.map fun x=>(it.row x).map TC.un,fun k=>(it.at_ ol k).map cY.un,Tup σs.ps,R,kz (sS σs.tm ++ (fR fx cur (bE cur σs kt kh) σs).tm),fun k v=>dN ((σs.at v).hp ++ (fxK fx cur os (it.at_ ol k) σs kt kh).hp),
    rfl,iok.law ol xs hxs,?_,fun k=>by rw[List.length_map]; exact hl0 k,gZ _ hnod,iok.enter,fun z hz=>?_,fun q hq ht=>?_,fun k v=>?_,?_,fun k hk v hRk=>?_,fun v hRv=>?_⟩
   ·rw[look_eq] at hlook
    unfold kz
    rw[gr TSl.un,bT]
    have hno:ae (sS σs.tm) tg = none:=(fm _ _).1 (by rw[CI]; simpa using htg)
    rw[hno,hlook]; rfl
   ·obtain⟨row,_,rfl⟩:=List.mem_map.1 hz
    rw[List.length_map]
    rw[eB,decide_eq_true_eq] at hlen
    unfold Iter.row
    rw[vF]; exact hlen
   ·obtain⟨z,hz,rfl⟩:=List.mem_map.1 hq
    rcases List.mem_append.1 hz with hz | hz
    ·obtain⟨x0,hx0,rfl⟩:=List.mem_map.1 hz
     have h2:=(htm x0 hx0).2
     rw[(cP _ _).2 ht] at h2; cases h2
    have:=hdead z hz
    rw[(cP _ _).2 ht] at this
    show z.2.un = .dead
    rw[sg (show z.2.rX = true by simpa using this)]; rfl
   ·funext i
    have hun:∀ k,ae (dN ((σs.at v).hp ++ (fxK fx cur os (it.at_ ol k) σs kt kh).hp)) i = (match ae (σs.at v).hp i with | some x=>some x | none=>ae (fxK fx cur os (it.at_ ol k) σs kt kh).hp i).map cY.un:=fun k=>by
     unfold dN
     rw[gr cY.un,bT]
     cases ae (σs.at v).hp i <;> rfl
    unfold nS
    dsimp only
    rw[hun k,hun 0,zip_map,hfl k i,hfl 0 i]
    cases hz:ae (os.zip (it.at_ ol k)) i with
    | some c =>
     have hio:=(vH hz).1
     have hno:ae (σs.at v).hp i = none:=by
      have h1:=hos i hio
      refine (fm _ _).1 ?_
      rw[hkeys]
      cases hc:cm (aW σs.hp) i with
      | false=>rfl
      | true =>
       have h2:cm (aW (bE cur σs kt kh).hp) i = false:=(fm _ _).2 (by rw[gx,hc]; rfl)
       rw[h2] at h1; cases h1
     rw[hno]
     have hyes:ae (fR fx cur (bE cur σs kt kh) σs).hp i ≠ none:=by
      rw[jr]
      cases hkk:ae (bE cur σs kt kh).hp i with
      | some _=>simp
      | none =>
       have h1:=hos i hio
       rw[(fm _ _).2 hkk] at h1; cases h1
     cases hll:ae (fR fx cur (bE cur σs kt kh) σs).hp i with
     | none=>exact absurd hll hyes
     | some h0=>rfl
    | none =>
     have hz0:ae (os.zip (it.at_ ol 0)) i = none:=by
      cases hz0:ae (os.zip (it.at_ ol 0)) i with
      | none=>rfl
      | some c=>exact absurd hz (Hm (hl0 k) (vH hz0).1)
     rw[hz0]
     rfl
   ·obtain⟨σ,hσ⟩:=hs0 (DN (cur:=lV cur os (it.at_ ol 0)) (hclK 0))
    refine⟨v0,σ,r0,?_⟩
    have e:un2 fx (lV cur os (it.at_ ol 0)) = un2 fx cur:=St.ext' (fun _=>rfl) fun i=>by
     rw[fO,fO,iE,iE,bT,bT]
     have e2:ae (lV cur os (it.at_ ol 0)).hp i = ae cur.hp i:=by
      show ae (me os (it.at_ ol 0) cur.hp) i = _
      rw[nH,iok.at0 ol xs hxs]
      have h2:=hol2 i
      cases hz:ae (os.zip ol) i with
      | none=>cases ae cur.hp i <;> rfl
      | some c =>
       rw[hz] at h2
       rw[show ae cur.hp i = some c from h2]; rfl
     rw[e2]
    rw[e,hat v0] at hσ
    exact hσ
   ·rw[List.length_map] at hk
    obtain⟨yv,hy,hy1,hy2⟩:=r1 k hk v hRk
    have est:kU (ps.toList.zip (((xs.map fun x=>(it.row x).map TC.un)[k]'(by rw[List.length_map]; exact hk)).map Slot.c) ++ kz (sS σs.tm ++ (fR fx cur (bE cur σs kt kh) σs).tm)) (dN ((σs.at v).hp ++ (fxK fx cur os (it.at_ ol k) σs kt kh).hp)) =
      un2 (fxK fx cur os (it.at_ ol k) σs kt kh) ⟨ps.toList.zip ((it.row xs[k]).map TSl.c) ++ (σs.at v).tm,(σs.at v).hp⟩:=by
     unfold un2
     rw[List.getElem_map,← AX,hat v]
     unfold kz
     rw[← List.map_append,List.append_assoc]; rfl
    rw[est]
    refine iq hIt hvs hΦ hΓ a x _ _ _ _ _ yv _ (CK hH) hj.1 hy fun e c hc=>?_
    cases e with
    | exit i=>cases hc
    | ret=>cases hc
    | normal =>
     refine iq hIt hvs hΦ hΓ b y _ _ _ _ _ yv _ (CL hH) hj.2 hc fun e c hc=>?_
     have hdd:∀ t,t ∈ ps.toList ++ fC a ++ fC b → ((ae (fxK fx cur os (it.at_ ol k) σs kt kh).tm t).getD .dead) = TSl.dead:=fun t ht=>by
      cases hl:ae (fxK fx cur os (it.at_ ol k) σs kt kh).tm t with
      | none=>rfl
      | some z =>
       have:=hdead _ (dg (show ae (fR fx cur (bE cur σs kt kh) σs).tm t = some z from hl))
       rw[(cP _ _).2 ht] at this
       rw[Option.getD_some,sg (show z.rX = true by simpa using this)]
     have out:∀ e',((K e' ⟨(c.tm.filter fun x=>!cm (ps.toList ++ fC a ++ fC b) x.1) ++ (bE (lV cur os (it.at_ ol k)) σs kt kh).tm,c.hp ++ (bE (lV cur os (it.at_ ol k)) σs kt kh).hp⟩).map Sum.inr:Option (Tup σs.ps ⊕ ρ)) = some yv → Q e' ((un2 (fxK fx cur os (it.at_ ol k) σs kt kh) c).uQ (ps.toList ++ fC a ++ fC b)):=fun e' hc=>by
      rw[Option.map_eq_some_iff] at hc
      obtain⟨r',hr',rfl⟩:=hc
      have:=hy2 r' rfl
      subst this
      injection hfin with hfin
      subst hfin
      have h2:=hQ _ _ hr'
      rw[hnil k ⟨c.tm.filter fun x=>!cm (ps.toList ++ fC a ++ fC b) x.1,c.hp⟩] at h2
      have e:(un2 (fxK fx cur os (it.at_ ol k) σs kt kh) c).uQ (ps.toList ++ fC a ++ fC b) = un2 (fxK fx cur os (it.at_ ol k) σs kt kh) ⟨c.tm.filter fun x=>!cm (ps.toList ++ fC a ++ fC b) x.1,c.hp⟩:=St.ext' (fun t=>by
       show (if t ∈ ps.toList ++ fC a ++ fC b then Slot.dead else (un2 _ c).tm t) = _
       rw[gq,gq]
       unfold je
       rw[bT,bT,eu (fun k=>!cm (ps.toList ++ fC a ++ fC b) k)]
       by_cases ht:t ∈ ps.toList ++ fC a ++ fC b
       ·rw[if_pos ht,(cP _ _).2 ht]
        show _ = ((ae (fxK fx cur os (it.at_ ol k) σs kt kh).tm t).getD .dead).un
        rw[hdd t ht]; rfl
       ·have hf:cm (ps.toList ++ fC a ++ fC b) t = false:=by
         cases hh:cm (ps.toList ++ fC a ++ fC b) t with
         | false=>rfl
         | true=>exact absurd ((cP _ _).1 hh) ht
        rw[if_neg ht,hf]; rfl) (fun _=>rfl)
      rw[e]; exact h2
     cases e with
     | normal =>
      obtain⟨hk2,hc⟩:=jh hc
      obtain⟨v',hv,hs⟩:=jZ hc
      injection hv with hv
      obtain⟨σ,hs⟩:=hs (qT (cur:=lV cur os (it.at_ ol k)) (hclK k) hk2)
      rw[hat v'] at hs
      exact⟨v',σ,hy1 v' hv.symm,hs⟩
     | exit i=>exact out _ hc
     | ret=>exact out _ hc
   ·have hRv':R xs.length v:=by rw[List.length_map] at hRv; exact hRv
    have ho2:=r2 v hRv'
    subst ho2
    have h2:=hQ _ _ hfin
    rw[hnil xs.length (σs.at v)] at h2
    rw[List.length_map]
    unfold un2 at h2
    rw[hat v] at h2
    exact h2
  | no=>cases h
  | hand _=>cases h
  | seq _ _=>cases h
  | join _ _ _ _ _ _=>cases h
  | loop _ _ _ _=>cases h
  | one _=>cases h
  | cond _ _=>cases h
 | .label _,an,fx,ρ,dq,cur,K,r,Q,hH,hj,h,hQ=>by cases h
 | .goto _,an,fx,ρ,dq,cur,K,r,Q,hH,hj,h,hQ=>by cases h
 | .refuse _,an,fx,ρ,dq,cur,K,r,Q,hH,hj,h,hQ=>by cases h
end
end Go.Lad
