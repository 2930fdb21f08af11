import Derived.Test.YtcmibmohdnbhgaaGreatDoorD10
namespace Go.Lad
set_option linter.unusedVariables false
set_option linter.unusedSimpArgs false
open Go.RowKit
structure IterOK (P:Program) (it:Iter):Prop where
 enter:∀ args w,(callFunc it.f args).run P w = .ok (.enter it.f args) w
 law:∀ ol xs,it.fn ol = some xs → IterLaw P it.f (xs.map fun x=>(it.row x).map TC.un) (fun k=>(it.at_ ol k).map TObj.un)
 at0:∀ ol xs,it.fn ol = some xs → it.at_ ol 0 = ol
 len:∀ ol xs,it.fn ol = some xs → ∀ k,(it.at_ ol k).length = ol.length
 ids:∀ ol xs,it.fn ol = some xs → ∀ k,∀ h ∈ it.at_ ol k,h.idsT = []
theorem foldR_ok {α σ β:Type} {f:Nat → α → σ → Option (σ ⊕ β)} {xs:List α} {v0:σ} {o:σ ⊕ β} (h:foldR f 0 xs v0 = some o) :
  ∃ R:Nat → σ → Prop,R 0 v0 ∧ (∀ k (hk:k < xs.length) v,R k v → ∃ y,f k xs[k] v = some y ∧ (∀ v',y = .inl v' → R (k + 1) v') ∧ (∀ b,y = .inr b → o = .inr b)) ∧ ∀ v,R xs.length v → o = .inl v:=by
 refine⟨fun k v=>foldR f k (xs.drop k) v = some o,h,fun k hk v hv=>?_,fun v hv=>?_⟩
 ·have hv:foldR f k (xs.drop k) v = some o:=hv
  rw[List.drop_eq_getElem_cons hk] at hv
  obtain⟨y,h1,h2⟩:=bind_some (show ((f k xs[k] v).bind fun y=>match y with | .inl s'=>foldR f (k + 1) (xs.drop (k + 1)) s' | .inr b=>some (.inr b)) = some o from hv)
  refine⟨y,h1,fun v' e=>by subst e; exact h2,fun b e=>by subst e; injection h2 with h2; exact h2.symm⟩
 ·have hv:foldR f xs.length (xs.drop xs.length) v = some o:=hv
  rw[List.drop_length] at hv
  injection hv with hv
  exact hv.symm
theorem capObjs_get:∀ {os:List Nat} {l:List (Nat × TObj)} {ol:List TObj},capObjs l os = some ol → ol.length = os.length ∧ ∀ o,(match lookL (os.zip ol) o with | some h=>lookL l o = some h | none=>True)
 | [],l,ol,h=>by injection h with h; subst h; exact⟨rfl,fun o=>trivial⟩
 | o' :: os,l,ol,h=>by
  unfold capObjs at h
  split at h
  ·rename_i h' hl
   split at h
   ·rename_i t ht
    injection h with h
    subst h
    obtain⟨h1,h2⟩:=capObjs_get ht
    refine⟨by simp [h1],fun o=>?_⟩
    rw[List.zip_cons_cons,lookL_cons]
    by_cases ho:o = o'
    ·subst ho; rw[if_pos rfl]; rw[look_eq] at hl; exact hl
    ·rw[if_neg ho]; exact h2 o
   ·cases h
  ·cases h
theorem putCaps_look (os:List Nat) (ol:List TObj):∀ (l:List (Nat × TObj)) (o:Nat),lookL (putCaps os ol l) o = (lookL l o).map fun h=>(lookL (os.zip ol) o).getD h
 | [],_=>rfl
 | x :: r,o=>by
  have ih:=putCaps_look os ol r o
  unfold putCaps at ih ⊢
  rw[List.map_cons,lookL_cons]
  have e:lookL (x :: r) o = if o = x.1 then some x.2 else lookL r o:=rfl
  rw[e,ih]
  by_cases h:o = x.1
  ·subst h
   rw[if_pos rfl,if_pos rfl,look_eq,Option.map_some]
   cases lookL (os.zip ol) x.1 <;> rfl
  ·rw[if_neg h,if_neg h]
theorem putCaps_keys (os:List Nat) (ol:List TObj) (l:List (Nat × TObj)):keysN (putCaps os ol l) = keysN l:=by
 unfold putCaps keysN
 rw[List.map_map]; rfl
theorem zip_none {α:Type} {os:List Nat} {ol:List α} (hl:ol.length = os.length) {o:Nat} (h:o ∈ os):lookL (os.zip ol) o ≠ none:=by
 induction os generalizing ol with
 | nil=>cases h
 | cons x os ih =>
  cases ol with
  | nil=>cases hl
  | cons y ol =>
   rw[List.zip_cons_cons,lookL_cons]
   by_cases ho:o = x
   ·rw[if_pos ho]; simp
   ·rw[if_neg ho]
    exact ih (by simpa using hl) ((List.mem_cons.1 h).resolve_left ho)
theorem mkCs_len:∀ (ss:List CSh) (ds:List Dyn),(mkCs ss ds).1.length = ss.length
 | [],_=>rfl
 | s :: ss,ds=>by
  show (mkCs ss (mkC s ds).2).1.length + 1 = ss.length + 1
  rw[mkCs_len ss]
def locTm (l:List (Nat × SSh)):List (Nat × TSl):=l.map fun x=>(x.1,(mkS1 x.2 []).1)
theorem mkTm_loc:∀ (l:List (Nat × SSh)) (ds:List Dyn),(∀ x ∈ l,isLocS x.2 = true) → mkTm l ds = (locTm l,ds)
 | [],_,_=>rfl
 | x :: l,ds,h=>by
  have ih:=mkTm_loc l ds fun y hy=>h y (List.mem_cons_of_mem _ hy)
  obtain⟨i,sh⟩:=x
  have hx:=h (i,sh) List.mem_cons_self
  unfold isLocS at hx
  split at hx
  ·rename_i o off heq
   dsimp only at heq
   subst heq
   show (match mkTm l ds with | (l,ds)=>((i,TSl.c (.v (.loc o off))) :: l,ds)) = _
   rw[ih]; rfl
  ·cases hx
theorem locTm_keys (l:List (Nat × SSh)):keysN (locTm l) = keysN l:=by unfold locTm keysN; rw[List.map_map]; rfl
theorem zip_in {α:Type} {os:List Nat} {ol:List α} {o:Nat} {h:α} (hl:lookL (os.zip ol) o = some h):o ∈ os ∧ h ∈ ol:=⟨(List.of_mem_zip (lookL_mem hl)).1,(List.of_mem_zip (lookL_mem hl)).2⟩
theorem zip_map {α β:Type} (f:α → β):∀ (os:List Nat) (ol:List α) (o:Nat),lookL (os.zip (ol.map f)) o = (lookL (os.zip ol) o).map f
 | [],_,_=>rfl
 | _ :: _,[],_=>rfl
 | x :: os,y :: ol,o=>by
  rw[List.map_cons,List.zip_cons_cons,List.zip_cons_cons,lookL_cons,lookL_cons,zip_map f os ol o]
  by_cases h:o = x
  ·rw[if_pos h,if_pos h]; rfl
  ·rw[if_neg h,if_neg h]
theorem unTm_zip:∀ (ps:List Nat) (cs:List TC),unTm (ps.zip (cs.map TSl.c)) = ps.zip ((cs.map TC.un).map Slot.c)
 | [],_=>rfl
 | _ :: _,[]=>rfl
 | p :: ps,c :: cs=>by
  show (p,Slot.c c.un) :: unTm (ps.zip (cs.map TSl.c)) = _
  rw[unTm_zip ps cs]; rfl
section
variable {fx cur:TSt} {os:List Nat} {ol:List TObj} {σs:Shp} {kt kh:List Nat}
theorem keptK_keys:keysN (keptOf (curK cur os ol) σs kt kh).hp = keysN (keptOf cur σs kt kh).hp:=by
 show keysN ((putCaps os ol cur.hp).filter fun x=>!hasN (keysN σs.hp) x.1 && hasN kh x.1) = keysN (cur.hp.filter fun x=>!hasN (keysN σs.hp) x.1 && hasN kh x.1)
 unfold putCaps keysN
 rw[List.filter_map,List.map_map]; rfl
theorem dropK (h:dropOK fx cur (keptOf cur σs kt kh) σs = true):dropOK fx (curK cur os ol) (keptOf (curK cur os ol) σs kt kh) σs = true:=by
 unfold dropOK at h ⊢
 rw[keptK_keys]
 rw[Bool.and_eq_true] at h ⊢
 refine⟨List.all_eq_true.2 fun x hx=>?_,h.2⟩
 obtain⟨y,hy,rfl⟩:=List.mem_map.1 hx
 exact List.all_eq_true.1 h.1 y hy
theorem fxK_look (hos:∀ o ∈ os,hasN (keysN (keptOf cur σs kt kh).hp) o = true) (o:Nat):lookL (fxK fx cur os ol σs kt kh).hp o = (lookL (fxOf fx cur (keptOf cur σs kt kh) σs).hp o).map fun h=>(lookL (os.zip ol) o).getD h:=by
 unfold fxK
 rw[look_fx_hp,look_fx_hp,look_kept_hp,look_kept_hp]
 have e:lookL (curK cur os ol).hp o = (lookL cur.hp o).map fun h=>(lookL (os.zip ol) o).getD h:=putCaps_look os ol cur.hp o
 have e2:keysN (curK cur os ol).hp = keysN cur.hp:=putCaps_keys os ol cur.hp
 rw[e,e2]
 cases hc : !hasN (keysN σs.hp) o && hasN kh o with
 | true =>
  simp only[if_true]
  cases hl:lookL cur.hp o with
  | some h=>rfl
  | none =>
   simp only[Option.map_none]
   cases hz:lookL (os.zip ol) o with
   | none =>
    split
    ·cases lookL fx.hp o <;> rfl
    ·rfl
   | some c =>
    exfalso
    have h1:=hos o (zip_in hz).1
    have h2:hasN (keysN (keptOf cur σs kt kh).hp) o = false:=(hasN_keys _ _).2 (by rw[look_kept_hp,hc,if_pos rfl,hl])
    rw[h2] at h1; cases h1
 | false =>
  simp only[Bool.false_eq_true,if_false]
  cases hz:lookL (os.zip ol) o with
  | none =>
   split
   ·cases lookL fx.hp o <;> rfl
   ·rfl
  | some c =>
   exfalso
   have h1:=hos o (zip_in hz).1
   have h2:hasN (keysN (keptOf cur σs kt kh).hp) o = false:=(hasN_keys _ _).2 (by rw[look_kept_hp,hc]; rfl)
   rw[h2] at h1; cases h1
end
section
variable {E:Env} {Γ:Opt}
theorem rec_some {α:Type} {b:Bool} {x:Option α} {r:α} (h:(Bool.rec none x b:Option α) = some r):b = true ∧ x = some r:=by
 cases b with
 | true=>exact⟨rfl,h⟩
 | false=>cases h
def jsOK (js:List Nat):Code → An → Bool
 | .seq a b,.seq x y=>jsOK js a x && jsOK js b y
 | .seq a b,.join _ _ _ _ x y=>js.contains (headId b) && jsOK js a x && jsOK js b y
 | .cond _ a b,.cond x y=>jsOK js a x && jsOK js b y
 | .block _ b,.one x=>jsOK js b x
 | .loop b,.loop _ _ _ x=>jsOK js b x
 | .scope b,.one x=>jsOK js b x
 | .rangeFunc _ _ a b,.range _ _ _ x y=>jsOK js a x && jsOK js b y
 | _,_=>true
def handsOf:Code → An → List (Nat × Code)
 | .seq a b,.seq x y=>handsOf a x ++ handsOf b y
 | .seq a b,.join _ _ _ _ x y=>handsOf a x ++ handsOf b y
 | .seq a b,.hand i=>[(i,.seq a b)]
 | .cond _ a b,.cond x y=>handsOf a x ++ handsOf b y
 | .block _ b,.one x=>handsOf b x
 | .loop b,.loop _ _ _ x=>handsOf b x
 | .scope b,.one x=>handsOf b x
 | .rangeFunc _ _ a b,.range _ _ _ x y=>handsOf a x ++ handsOf b y
 | _,_=>[]
def HandOK (E:Env) (Γ:Opt) (x:Nat × Code):Prop := ∀ h,nthH E.hands x.1 = some h → roundOK x.2 = false ∧ ∀ fx cur cur',h fx cur = some cur' → HandS E.P Γ x.2 (un2 fx cur) (un2 fx cur')
theorem allL {α:Type} {p:α → Prop} {l m:List α} (h:∀ x ∈ l ++ m,p x):∀ x ∈ l,p x:=fun x hx=>h x (List.mem_append_left _ hx)
theorem allR {α:Type} {p:α → Prop} {l m:List α} (h:∀ x ∈ l ++ m,p x):∀ x ∈ m,p x:=fun x hx=>h x (List.mem_append_right _ hx)
theorem join_by {fx2:TSt} {σs:Shp} {v:Tup σs.ps} {b:Code} {s:St} {K:St → Prop} (hj:Γ.js.contains (headId b) = true) (hs:∃ σ,Sub σ s (unTm ((σs.at v).tm ++ fx2.tm)) (unHp ((σs.at v).hp ++ fx2.hp))) (hK:K (un2 fx2 (σs.at v))):JoinAt Γ.js b K s:=by
 unfold JoinAt
 rw[if_pos hj]
 obtain⟨σ,hs⟩:=hs
 exact .inr ⟨_,_,σ,hs,hK⟩
theorem den_ok [Fuel] (hIt:∀ it ∈ E.its,IterOK E.P it) (hvs:Γ.vs = E.fz) (hΦ:∀ con ∈ E.Φ,ConOK E.P con) (hΓ:Γ.hs = E.hs ∧ Γ.fz = E.zs ∧ Γ.mv = E.ns ∧ Γ.bx = E.bs):∀ (c:Code) (an:An) (fx:TSt) (ρ:Type) (dq:DecidableEq ρ) (cur:TSt) (K:AEx → TSt → Option ρ) (r:ρ) (Q:AEx → St → Prop),(∀ x ∈ handsOf c an,HandOK E Γ x) → jsOK Γ.js c an = true → den E c an fx ρ dq cur K = some r → (∀ e c,K e c = some r → Q e (un2 fx c)) → codeA E.P Γ c (un2 fx cur) Q
 | .skip,an,fx,ρ,dq,cur,K,r,Q,hH,hj,h,hQ=>hQ _ _ h
 | .region id ops dr,an,fx,ρ,dq,cur,K,r,Q,hH,hj,h,hQ=>regT_ok rfl hvs hΦ hΓ (fun c hc=>hQ _ _ hc) _ _ h
 | .seq a b,an,fx,ρ,dq,cur,K,r,Q,hH,hj,h,hQ=>by
  cases an with
  | seq x y =>
   unfold jsOK at hj
   rw[Bool.and_eq_true] at hj
   refine .inl (den_ok hIt hvs hΦ hΓ a x fx ρ dq cur _ r _ (allL hH) hj.1 h fun e c hc=>?_)
   cases e with
   | normal =>
    have hb:=den_ok hIt hvs hΦ hΓ b y fx ρ dq c K r Q (allR hH) hj.2 hc hQ
    show JoinAt Γ.js b (fun s=>codeA E.P Γ b s Q) _
    unfold JoinAt
    split
    ·exact .inl hb
    ·exact hb
   | exit i=>exact hQ _ _ hc
   | ret=>exact hQ _ _ hc
  | join σs kt kh pure x y =>
   unfold jsOK at hj
   rw[Bool.and_eq_true,Bool.and_eq_true] at hj
   obtain⟨⟨hj1,hj2⟩,hj3⟩:=hj
   cases pure with
   | true =>
    obtain⟨hc,h⟩:=rec_some h
    rw[Bool.and_eq_true] at hc
    obtain⟨hcl,hdr⟩:=hc
    obtain⟨v,h1,h2⟩:=bind_some h
    have hb:=den_ok hIt hvs hΦ hΓ b y fx ρ _ _ K r Q (allR hH) hj3 h2 hQ
    rw[un2_back hdr] at hb
    have ha:=den_ok hIt hvs hΦ hΓ a x _ _ _ _ _ v (thenA (JoinAt Γ.js b fun s=>codeA E.P Γ b s Q) Q) (allL hH) hj2 h1 fun e c hc=>by
     cases e with
     | normal =>
      obtain⟨hk,hc⟩:=rec_some hc
      obtain⟨v',hv,hs⟩:=fitAll_ok hc
      injection hv with hv
      subst hv
      exact join_by hj1 (hs (kept_out hcl hk)) hb
     | exit i=>cases hc
     | ret=>cases hc
    rw[un2_own hdr] at ha
    exact .inl ha
   | false =>
    obtain⟨hc,h⟩:=rec_some h
    rw[Bool.and_eq_true] at hc
    obtain⟨hcl,hdr⟩:=hc
    obtain⟨v,h1,h2⟩:=bind_some h
    have ha:=den_ok hIt hvs hΦ hΓ a x _ _ _ _ _ v (thenA (JoinAt Γ.js b fun s=>codeA E.P Γ b s Q) Q) (allL hH) hj2 h1 fun e c hc=>by
     have out:∀ e',e' = e → ((K e' ⟨c.tm ++ (keptOf cur σs kt kh).tm,c.hp ++ (keptOf cur σs kt kh).hp⟩).map Sum.inr = some v) → Q e' (un2 (fxOf fx cur (keptOf cur σs kt kh) σs) c):=fun e' _ hc=>by
      rw[Option.map_eq_some_iff] at hc
      obtain⟨r',hr,rfl⟩:=hc
      dsimp only at h2
      injection h2 with h2
      subst h2
      rw[← un2_back hdr]
      exact hQ _ _ hr
     cases e with
     | normal =>
      obtain⟨hk,hc⟩:=rec_some hc
      obtain⟨v',hv,hs⟩:=fitAll_ok hc
      injection hv with hv
      subst hv
      dsimp only at h2
      have hb:=den_ok hIt hvs hΦ hΓ b y fx ρ _ _ K r Q (allR hH) hj3 h2 hQ
      rw[un2_back hdr] at hb
      exact join_by hj1 (hs (kept_out hcl hk)) hb
     | exit i=>exact out _ rfl hc
     | ret=>exact out _ rfl hc
    rw[un2_own hdr] at ha
    exact .inl ha
  | hand i =>
   unfold den at h
   dsimp only at h
   split at h
   ·rename_i hd hi
    obtain⟨cur',h1,h2⟩:=bind_some h
    obtain⟨h3,h4⟩:=hH (i,.seq a b) List.mem_cons_self hd hi
    exact .inr ⟨h3,_,h4 fx cur cur' h1,hQ _ _ h2⟩
   ·cases h
  | no=>cases h
  | cond _ _=>cases h
  | loop _ _ _ _=>cases h
  | one _=>cases h
  | range _ _ _ _ _=>cases h
 | .cond c a b,an,fx,ρ,dq,cur,K,r,Q,hH,hj,h,hQ=>by
  cases an with
  | cond x y =>
   unfold jsOK at hj
   rw[Bool.and_eq_true] at hj
   unfold den at h
   dsimp only at h
   show condA ((un2 fx cur).ev c) _ _
   rw[ev_un]
   split at h
   ·rename_i t heq
    obtain⟨t,rfl⟩:∃ q:Bool,q = t:=⟨t,rfl⟩
    rw[heq]
    show (t = true → _) ∧ (t = false → _)
    cases t with
    | true=>exact⟨fun _=>den_ok hIt hvs hΦ hΓ a x fx ρ dq cur K r Q (allL hH) hj.1 h hQ,(fun h=>nomatch h)⟩
    | false=>exact⟨(fun h=>nomatch h),fun _=>den_ok hIt hvs hΦ hΓ b y fx ρ dq cur K r Q (allR hH) hj.2 h hQ⟩
   ·rename_i pos t l heq
    rw[heq]
    cases pos with
    | true =>
     obtain⟨h1,h2⟩:=bothN_some (show bothN l (den E a x fx ρ dq cur K) (den E b y fx ρ dq cur K) = some r from h)
     show (l.map (enc t) = [] → _) ∧ _
     exact⟨fun hl=>den_ok hIt hvs hΦ hΓ a x fx ρ dq cur K r Q (allL hH) hj.1 (h2 (List.map_eq_nil_iff.1 hl)) hQ,den_ok hIt hvs hΦ hΓ b y fx ρ dq cur K r Q (allR hH) hj.2 h1 hQ⟩
    | false =>
     obtain⟨h1,h2⟩:=bothN_some (show bothN l (den E b y fx ρ dq cur K) (den E a x fx ρ dq cur K) = some r from h)
     show _ ∧ (l.map (enc t) = [] → _)
     exact⟨den_ok hIt hvs hΦ hΓ a x fx ρ dq cur K r Q (allL hH) hj.1 h1 hQ,fun hl=>den_ok hIt hvs hΦ hΓ b y fx ρ dq cur K r Q (allR hH) hj.2 (h2 (List.map_eq_nil_iff.1 hl)) hQ⟩
   ·cases h
  | no=>cases h
  | hand _=>cases h
  | seq _ _=>cases h
  | join _ _ _ _ _ _=>cases h
  | loop _ _ _ _=>cases h
  | one _=>cases h
  | range _ _ _ _ _=>cases h
 | .block id b,an,fx,ρ,dq,cur,K,r,Q,hH,hj,h,hQ=>by
  cases an with
  | one x =>
   refine den_ok hIt hvs hΦ hΓ b x fx ρ dq cur _ r _ hH hj h fun e c hc=>?_
   cases e with
   | normal=>exact hQ _ _ hc
   | exit i =>
    show (if i = id then Q .normal (un2 fx c) else Q (.exit i) (un2 fx c))
    have hc:(Bool.rec (K (.exit i) c) (K .normal c) (Nat.beq i id):Option ρ) = some r:=hc
    rw[beqN] at hc
    by_cases hi:i = id
    ·rw[if_pos hi]
     rw[decide_eq_true hi] at hc
     exact hQ _ _ hc
    ·rw[if_neg hi]
     rw[decide_eq_false hi] at hc
     exact hQ _ _ hc
   | ret=>exact hQ _ _ hc
  | no=>cases h
  | hand _=>cases h
  | seq _ _=>cases h
  | join _ _ _ _ _ _=>cases h
  | loop _ _ _ _=>cases h
  | cond _ _=>cases h
  | range _ _ _ _ _=>cases h
 | .loop b,an,fx,ρ,dq,cur,K,r,Q,hH,hj,h,hQ=>by
  cases an with
  | loop σs kt kh x =>
   obtain⟨hc,h⟩:=rec_some h
   rw[Bool.and_eq_true] at hc
   obtain⟨hcl,hdr⟩:=hc
   obtain⟨v0,h1,hs0⟩:=fitAll_ok h
   obtain⟨σ0,hs0⟩:=hs0 (kept_in hcl)
   refine loop_m _ (fun v=>unTm ((σs.at v).tm ++ (fxOf fx cur (keptOf cur σs kt kh) σs).tm)) (fun v=>unHp ((σs.at v).hp ++ (fxOf fx cur (keptOf cur σs kt kh) σs).hp)) v0 r (loopF_loopM h1) σ0 hs0 fun v o ho hr=>?_
   refine den_ok hIt hvs hΦ hΓ b x _ _ _ _ _ o (roundQ _ _ (fun y=>o = .inl y) Q) hH hj ho fun e c hc=>?_
   have out:∀ e',((K e' ⟨c.tm ++ (keptOf cur σs kt kh).tm,c.hp ++ (keptOf cur σs kt kh).hp⟩).map Sum.inr = some o) → Q e' (un2 (fxOf fx cur (keptOf cur σs kt kh) σs) c):=fun e' hc=>by
    rw[Option.map_eq_some_iff] at hc
    obtain⟨r',hr',rfl⟩:=hc
    have:=hr r' rfl
    subst this
    rw[← un2_back hdr]
    exact hQ _ _ hr'
   cases e with
   | normal =>
    obtain⟨hk,hc⟩:=rec_some hc
    obtain⟨v',hv,hs⟩:=fitAll_ok hc
    injection hv with hv
    obtain⟨σ,hs⟩:=hs (kept_out hcl hk)
    exact⟨v',σ,hv.symm,hs⟩
   | exit i=>exact out _ hc
   | ret=>exact out _ hc
  | no=>cases h
  | hand _=>cases h
  | seq _ _=>cases h
  | join _ _ _ _ _ _=>cases h
  | one _=>cases h
  | cond _ _=>cases h
  | range _ _ _ _ _=>cases h
 | .exit id,an,fx,ρ,dq,cur,K,r,Q,hH,hj,h,hQ=>hQ _ _ h
 | .ret,an,fx,ρ,dq,cur,K,r,Q,hH,hj,h,hQ=>hQ _ _ h
 | .scope b,an,fx,ρ,dq,cur,K,r,Q,hH,hj,h,hQ=>by
  cases an with
  | one x=>exact den_ok hIt hvs hΦ hΓ b x fx ρ dq cur K r Q hH hj h hQ
  | no=>cases h
  | hand _=>cases h
  | seq _ _=>cases h
  | join _ _ _ _ _ _=>cases h
  | loop _ _ _ _=>cases h
  | cond _ _=>cases h
  | range _ _ _ _ _=>cases h
 | .rangeFunc g ps a b,an,fx,ρ,dq,cur,K,r,Q,hH,hj,h,hQ=>by
  cases an with
  | range σs kt kh x y =>
   unfold jsOK at hj
   rw[Bool.and_eq_true] at hj
   unfold den at h
   dsimp only at h
   split at h
   rotate_left
   ·cases h
   rename_i tg
   split at h
   rotate_left
   ·cases h
   rename_i f2 os hlook
   split at h
   rotate_left
   ·cases h
   rename_i ol hol
   split at h
   rotate_left
   ·cases h
   rename_i it hit
   obtain⟨hchk,h⟩:=rec_some h
   obtain⟨xs,hxs,h⟩:=bind_some h
   obtain⟨v0,h1,hs0⟩:=fitAll_ok h
   obtain⟨o,ho,hfin⟩:=bind_some h1
   obtain⟨R,r0,r1,r2⟩:=foldR_ok ho
   have hmem:=List.mem_of_find?_eq_some hit
   have hf2:f2 = 2 * it.f:=by
    have:=List.find?_some hit
    rw[beqN,decide_eq_true_eq] at this
    exact this.symm
   subst hf2
   have iok:=hIt it hmem
   unfold rangeOK at hchk
   simp only[Bool.and_eq_true] at hchk
   obtain⟨⟨⟨⟨⟨⟨hcl,hdr⟩,htm⟩,hlen⟩,hos⟩,hnod⟩,hdead⟩:=hchk
   rw[List.all_eq_true] at hos hdead
   obtain⟨htm,htg⟩:=htm
   rw[List.all_eq_true] at htm
   simp only[Bool.and_eq_true] at htm
   obtain⟨hol1,hol2⟩:=capObjs_get hol
   have hl0:∀ k,(it.at_ ol k).length = os.length:=fun k=>(iok.len ol xs hxs k).trans hol1
   have hat:∀ v,(σs.at v).tm = locTm σs.tm:=fun v=>by
    unfold Shp.at Shp.mk'
    rw[mkTm_loc _ _ fun x hx=>(htm x hx).1]
   have hfx:∀ v,σs.at v = ⟨locTm σs.tm,(σs.at v).hp⟩:=fun v=>by rw[← hat v]
   have hkeys:∀ v,keysN (σs.at v).hp = keysN σs.hp:=fun v=>by
    unfold Shp.at Shp.mk'
    rw[mkTm_loc _ _ fun x hx=>(htm x hx).1]
    exact mkHp_keys _ _
   have hfl:=fun k=>fxK_look (fx:=fx) (cur:=cur) (os:=os) (ol:=it.at_ ol k) (σs:=σs) (kt:=kt) (kh:=kh) hos
   have hclK:∀ k,closedT (fxK fx cur os (it.at_ ol k) σs kt kh) = true:=fun k=>by
    unfold closedT at hcl ⊢
    simp only[Bool.and_eq_true,List.all_eq_true] at hcl ⊢
    have hkey:∀ i,hasN (keysN (fxOf fx cur (keptOf cur σs kt kh) σs).hp) i = true → hasN (keysN (fxK fx cur os (it.at_ ol k) σs kt kh).hp) i = true:=fun i hi=>by
     cases hc:hasN (keysN (fxK fx cur os (it.at_ ol k) σs kt kh).hp) i with
     | true=>rfl
     | false =>
      have h2:=(hasN_keys _ _).1 hc
      rw[hfl k i,Option.map_eq_none_iff] at h2
      rw[(hasN_keys _ _).2 h2] at hi; cases hi
    refine⟨fun z hz i hi=>hkey i (hcl.1 z hz i hi),fun z hz i hi=>?_⟩
    have h2:=kept_memH hz
    have h3:=hfl k z.1
    unfold fxK at h3
    rw[h2] at h3
    cases hz0:lookL (fxOf fx cur (keptOf cur σs kt kh) σs).hp z.1 with
    | none=>rw[hz0] at h3; cases h3
    | some h0 =>
     rw[hz0,Option.map_some] at h3
     injection h3 with h3
     cases hzz:lookL (os.zip (it.at_ ol k)) z.1 with
     | some c =>
      rw[hzz] at h3
      have h3:z.2 = c:=h3
      rw[h3,iok.ids ol xs hxs k c (zip_in hzz).2] at hi
      cases hi
     | none =>
      rw[hzz] at h3
      have h3:z.2 = h0:=h3
      exact hkey i (hcl.2 (z.1,h0) (lookL_mem hz0) i (by rw[h3] at hi; exact hi))
   have hdrK:∀ k,dropOK fx (curK cur os (it.at_ ol k)) (keptOf (curK cur os (it.at_ ol k)) σs kt kh) σs = true:=fun k=>dropK hdr
   have hnil:∀ k (c:TSt),un2 fx ⟨c.tm ++ (keptOf (curK cur os (it.at_ ol k)) σs kt kh).tm,c.hp ++ (keptOf (curK cur os (it.at_ ol k)) σs kt kh).hp⟩ = un2 (fxK fx cur os (it.at_ ol k) σs kt kh) c:=fun k c=>un2_back (hdrK k)
   show RangeA E.P (codeA E.P Γ a) (codeA E.P Γ b) (.tmp tg) ps.toList (ps.toList ++ dsts a ++ dsts b) (un2 fx cur) Q
   refine⟨tg,it.f,os,xs.map fun x=>(it.row x).map TC.un,fun k=>(it.at_ ol k).map TObj.un,Tup σs.ps,R,unTm (locTm σs.tm ++ (fxOf fx cur (keptOf cur σs kt kh) σs).tm),fun k v=>unHp ((σs.at v).hp ++ (fxK fx cur os (it.at_ ol k) σs kt kh).hp),
    rfl,iok.law ol xs hxs,?_,fun k=>by rw[List.length_map]; exact hl0 k,nodupN_iff _ hnod,iok.enter,fun z hz=>?_,fun q hq ht=>?_,fun k v=>?_,?_,fun k hk v hRk=>?_,fun v hRv=>?_⟩
   ·rw[look_eq] at hlook
    unfold unTm
    rw[lookL_map TSl.un,lookL_app]
    have hno:lookL (locTm σs.tm) tg = none:=(hasN_keys _ _).1 (by rw[locTm_keys]; simpa using htg)
    rw[hno,hlook]; rfl
   ·obtain⟨row,_,rfl⟩:=List.mem_map.1 hz
    rw[List.length_map]
    rw[beqN,decide_eq_true_eq] at hlen
    unfold Iter.row
    rw[mkCs_len]; exact hlen
   ·obtain⟨z,hz,rfl⟩:=List.mem_map.1 hq
    rcases List.mem_append.1 hz with hz | hz
    ·obtain⟨x0,hx0,rfl⟩:=List.mem_map.1 hz
     have h2:=(htm x0 hx0).2
     rw[(hasN_iff _ _).2 ht] at h2; cases h2
    have:=hdead z hz
    rw[(hasN_iff _ _).2 ht] at this
    show z.2.un = .dead
    rw[isDead_eq (show z.2.isDead = true by simpa using this)]; rfl
   ·funext i
    have hun:∀ k,lookL (unHp ((σs.at v).hp ++ (fxK fx cur os (it.at_ ol k) σs kt kh).hp)) i = (match lookL (σs.at v).hp i with | some x=>some x | none=>lookL (fxK fx cur os (it.at_ ol k) σs kt kh).hp i).map TObj.un:=fun k=>by
     unfold unHp
     rw[lookL_map TObj.un,lookL_app]
     cases lookL (σs.at v).hp i <;> rfl
    unfold capsF
    dsimp only
    rw[hun k,hun 0,zip_map,hfl k i,hfl 0 i]
    cases hz:lookL (os.zip (it.at_ ol k)) i with
    | some c =>
     have hio:=(zip_in hz).1
     have hno:lookL (σs.at v).hp i = none:=by
      have h1:=hos i hio
      refine (hasN_keys _ _).1 ?_
      rw[hkeys]
      cases hc:hasN (keysN σs.hp) i with
      | false=>rfl
      | true =>
       have h2:hasN (keysN (keptOf cur σs kt kh).hp) i = false:=(hasN_keys _ _).2 (by rw[look_kept_hp,hc]; rfl)
       rw[h2] at h1; cases h1
     rw[hno]
     have hyes:lookL (fxOf fx cur (keptOf cur σs kt kh) σs).hp i ≠ none:=by
      rw[look_fx_hp]
      cases hkk:lookL (keptOf cur σs kt kh).hp i with
      | some _=>simp
      | none =>
       have h1:=hos i hio
       rw[(hasN_keys _ _).2 hkk] at h1; cases h1
     cases hll:lookL (fxOf fx cur (keptOf cur σs kt kh) σs).hp i with
     | none=>exact absurd hll hyes
     | some h0=>rfl
    | none =>
     have hz0:lookL (os.zip (it.at_ ol 0)) i = none:=by
      cases hz0:lookL (os.zip (it.at_ ol 0)) i with
      | none=>rfl
      | some c=>exact absurd hz (zip_none (hl0 k) (zip_in hz0).1)
     rw[hz0]
     rfl
   ·obtain⟨σ,hσ⟩:=hs0 (kept_in (cur:=curK cur os (it.at_ ol 0)) (hclK 0))
    refine⟨v0,σ,r0,?_⟩
    have e:un2 fx (curK cur os (it.at_ ol 0)) = un2 fx cur:=St.ext' (fun _=>rfl) fun i=>by
     rw[un2_hp,un2_hp,obT_eq,obT_eq,lookL_app,lookL_app]
     have e2:lookL (curK cur os (it.at_ ol 0)).hp i = lookL cur.hp i:=by
      show lookL (putCaps os (it.at_ ol 0) cur.hp) i = _
      rw[putCaps_look,iok.at0 ol xs hxs]
      have h2:=hol2 i
      cases hz:lookL (os.zip ol) i with
      | none=>cases lookL cur.hp i <;> rfl
      | some c =>
       rw[hz] at h2
       rw[show lookL cur.hp i = some c from h2]; rfl
     rw[e2]
    rw[e,hat v0] at hσ
    exact hσ
   ·rw[List.length_map] at hk
    obtain⟨yv,hy,hy1,hy2⟩:=r1 k hk v hRk
    have est:mkSt (ps.toList.zip (((xs.map fun x=>(it.row x).map TC.un)[k]'(by rw[List.length_map]; exact hk)).map Slot.c) ++ unTm (locTm σs.tm ++ (fxOf fx cur (keptOf cur σs kt kh) σs).tm)) (unHp ((σs.at v).hp ++ (fxK fx cur os (it.at_ ol k) σs kt kh).hp)) =
      un2 (fxK fx cur os (it.at_ ol k) σs kt kh) ⟨ps.toList.zip ((it.row xs[k]).map TSl.c) ++ (σs.at v).tm,(σs.at v).hp⟩:=by
     unfold un2
     rw[List.getElem_map,← unTm_zip,hat v]
     unfold unTm
     rw[← List.map_append,List.append_assoc]; rfl
    rw[est]
    refine den_ok hIt hvs hΦ hΓ a x _ _ _ _ _ yv _ (allL hH) hj.1 hy fun e c hc=>?_
    cases e with
    | exit i=>cases hc
    | ret=>cases hc
    | normal =>
     refine den_ok hIt hvs hΦ hΓ b y _ _ _ _ _ yv _ (allR hH) hj.2 hc fun e c hc=>?_
     have hdd:∀ t,t ∈ ps.toList ++ dsts a ++ dsts b → ((lookL (fxK fx cur os (it.at_ ol k) σs kt kh).tm t).getD .dead) = TSl.dead:=fun t ht=>by
      cases hl:lookL (fxK fx cur os (it.at_ ol k) σs kt kh).tm t with
      | none=>rfl
      | some z =>
       have:=hdead _ (lookL_mem (show lookL (fxOf fx cur (keptOf cur σs kt kh) σs).tm t = some z from hl))
       rw[(hasN_iff _ _).2 ht] at this
       rw[Option.getD_some,isDead_eq (show z.isDead = true by simpa using this)]
     have out:∀ e',((K e' ⟨(c.tm.filter fun x=>!hasN (ps.toList ++ dsts a ++ dsts b) x.1) ++ (keptOf (curK cur os (it.at_ ol k)) σs kt kh).tm,c.hp ++ (keptOf (curK cur os (it.at_ ol k)) σs kt kh).hp⟩).map Sum.inr:Option (Tup σs.ps ⊕ ρ)) = some yv → Q e' ((un2 (fxK fx cur os (it.at_ ol k) σs kt kh) c).restr (ps.toList ++ dsts a ++ dsts b)):=fun e' hc=>by
      rw[Option.map_eq_some_iff] at hc
      obtain⟨r',hr',rfl⟩:=hc
      have:=hy2 r' rfl
      subst this
      injection hfin with hfin
      subst hfin
      have h2:=hQ _ _ hr'
      rw[hnil k ⟨c.tm.filter fun x=>!hasN (ps.toList ++ dsts a ++ dsts b) x.1,c.hp⟩] at h2
      have e:(un2 (fxK fx cur os (it.at_ ol k) σs kt kh) c).restr (ps.toList ++ dsts a ++ dsts b) = un2 (fxK fx cur os (it.at_ ol k) σs kt kh) ⟨c.tm.filter fun x=>!hasN (ps.toList ++ dsts a ++ dsts b) x.1,c.hp⟩:=St.ext' (fun t=>by
       show (if t ∈ ps.toList ++ dsts a ++ dsts b then Slot.dead else (un2 _ c).tm t) = _
       rw[un2_tm,un2_tm]
       unfold tmAt
       rw[lookL_app,lookL_app,lookL_filter (fun k=>!hasN (ps.toList ++ dsts a ++ dsts b) k)]
       by_cases ht:t ∈ ps.toList ++ dsts a ++ dsts b
       ·rw[if_pos ht,(hasN_iff _ _).2 ht]
        show _ = ((lookL (fxK fx cur os (it.at_ ol k) σs kt kh).tm t).getD .dead).un
        rw[hdd t ht]; rfl
       ·have hf:hasN (ps.toList ++ dsts a ++ dsts b) t = false:=by
         cases hh:hasN (ps.toList ++ dsts a ++ dsts b) t with
         | false=>rfl
         | true=>exact absurd ((hasN_iff _ _).1 hh) ht
        rw[if_neg ht,hf]; rfl) (fun _=>rfl)
      rw[e]; exact h2
     cases e with
     | normal =>
      obtain⟨hk2,hc⟩:=rec_some hc
      obtain⟨v',hv,hs⟩:=fitAll_ok hc
      injection hv with hv
      obtain⟨σ,hs⟩:=hs (kept_out (cur:=curK cur os (it.at_ ol k)) (hclK k) hk2)
      rw[hat v'] at hs
      exact⟨v',σ,hy1 v' hv.symm,hs⟩
     | exit i=>exact out _ hc
     | ret=>exact out _ hc
   ·have hRv':R xs.length v:=by rw[List.length_map] at hRv; exact hRv
    have ho2:=r2 v hRv'
    subst ho2
    have h2:=hQ _ _ hfin
    rw[hnil xs.length (σs.at v)] at h2
    rw[List.length_map]
    unfold un2 at h2
    rw[hat v] at h2
    exact h2
  | no=>cases h
  | hand _=>cases h
  | seq _ _=>cases h
  | join _ _ _ _ _ _=>cases h
  | loop _ _ _ _=>cases h
  | one _=>cases h
  | cond _ _=>cases h
 | .label _,an,fx,ρ,dq,cur,K,r,Q,hH,hj,h,hQ=>by cases h
 | .goto _,an,fx,ρ,dq,cur,K,r,Q,hH,hj,h,hQ=>by cases h
 | .refuse _,an,fx,ρ,dq,cur,K,r,Q,hH,hj,h,hQ=>by cases h
end
end Go.Lad
