import Derived.Test.YtcmibmohdnbhgaaGreatDoorD2
namespace Go.Lad
set_option linter.unusedVariables false
set_option linter.unusedSimpArgs false
open Go.RowKit
theorem bleN {a b:Nat}:Nat.ble a b = decide (a ≤ b):=by
 rw[Bool.eq_iff_iff,decide_eq_true_eq,Nat.ble_eq]
theorem beqN {a b:Nat}:Nat.beq a b = decide (a = b):=by
 rw[Bool.eq_iff_iff,decide_eq_true_eq]; exact Nat.beq_eq ▸ Iff.rfl
theorem look_eq {α:Type}:∀ (l:List (Nat × α)) (k:Nat),look l k = lookL l k
 | [],_=>rfl
 | x :: r,k=>by
  unfold look lookL
  rw[beqN,look_eq r k]
  by_cases h:k = x.1 <;> simp [h]
theorem lookL_app {α:Type}:∀ (l m:List (Nat × α)) (k:Nat),lookL (l ++ m) k = match lookL l k with | some x=>some x | none=>lookL m k
 | [],_,_=>rfl
 | x :: r,m,k=>by
  rw[List.cons_append]
  have e:∀ l:List (Nat × α),lookL (x :: l) k = if k = x.1 then some x.2 else lookL l k:=fun _=>rfl
  rw[e,e]
  by_cases h:k = x.1
  ·rw[if_pos h,if_pos h]
  ·rw[if_neg h,if_neg h]; exact lookL_app r m k
theorem lookL_map {α β:Type} (f:α → β):∀ (l:List (Nat × α)) (k:Nat),lookL (l.map fun x=>(x.1,f x.2)) k = (lookL l k).map f
 | [],_=>rfl
 | x :: r,k=>by
  rw[List.map_cons]
  unfold lookL
  by_cases h:k = x.1
  ·simp [h]
  ·rw[if_neg h,if_neg h]; exact lookL_map f r k
theorem look2_eq {α:Type} (l m:List (Nat × α)) (k:Nat):look2 l m k = lookL (l ++ m) k:=by
 unfold look2
 rw[look_eq,look_eq,lookL_app]
 cases lookL l k <;> rfl
theorem lookL_putA {α:Type}:∀ (l:List (Nat × α)) (k:Nat) (v:α) (j:Nat),lookL (putA l k v) j = if j = k then some v else lookL l j
 | [],k,v,j=>by simp [putA,lookL]
 | x :: r,k,v,j=>by
  unfold putA
  rw[beqN]
  by_cases h:k = x.1
  ·subst h
   simp only[decide_true,cond_true]
   unfold lookL
   by_cases hj:j = x.1 <;> simp [hj]
  ·simp only[h,decide_false,cond_false]
   unfold lookL
   rw[lookL_putA r k v j]
   by_cases hj:j = x.1
   ·subst hj
    have:¬ x.1 = k:=fun e=>h e.symm
    simp [this]
   ·simp [hj]
def tmAt (fx cur:TSt) (k:Nat):TSl:=(lookL (cur.tm ++ fx.tm) k).getD .dead
theorem un2_tm (fx cur:TSt) (k:Nat):(un2 fx cur).tm k = (tmAt fx cur k).un:=by
 show (lookL (unTm (cur.tm ++ fx.tm)) k).getD .dead = _
 unfold unTm tmAt
 rw[lookL_map TSl.un]
 cases lookL (cur.tm ++ fx.tm) k <;> rfl
theorem obT_eq (fx cur:TSt) (o:Nat):obT fx cur o = lookL (cur.hp ++ fx.hp) o:=look2_eq _ _ _
theorem un2_hp (fx cur:TSt) (o:Nat):(un2 fx cur).hp o = (obT fx cur o).map TObj.un:=by
 show lookL (unHp (cur.hp ++ fx.hp)) o = _
 unfold unHp
 rw[lookL_map TObj.un,obT_eq]
theorem un_enc {a b:Ty} {x:a.den} {y:b.den} (h:enc b y = enc a x):(TL.v b y).un = (TL.v a x).un:=by
 show (match enc b y with | [p]=>Leaf.p p | _=>.dead) = (match enc a x with | [p]=>Leaf.p p | _=>.dead)
 rw[h]
theorem nrmL_un (x:TL):(nrmL x).un = x.un:=by
 unfold nrmL
 split
 ·exact un_enc (enc_slu _ _)
 ·rfl
theorem nrm_un (x:TSl):(nrm x).un = x.un:=by
 unfold nrm
 split
 ·rename_i y
  show Slot.c (.v (nrmL y).un) = .c (.v y.un)
  rw[nrmL_un]
 ·rfl
theorem evT_tmp (fx cur:TSt) (c:Value → TSl) (t:Nat):evT fx cur c (.tmp t) = nrm (tmAt fx cur t):=by
 show (match look2 cur.tm fx.tm t with | some x=>nrm x | none=>.dead) = _
 unfold tmAt
 rw[look2_eq]
 cases lookL (cur.tm ++ fx.tm) t <;> rfl
theorem St.ext' {s t:St} (h1:∀ k,s.tm k = t.tm k) (h2:∀ o,s.hp o = t.hp o):s = t:=by
 cases s; cases t
 simp only[St.mk.injEq]
 exact⟨funext h1,funext h2⟩
theorem constL_un (v:Value):(constLT v).un = constLeaf v:=by
 unfold constLT constLeaf
 split
 ·rename_i k n
  dsimp only
  by_cases h:k.min ≤ n ∧ n ≤ k.max
  ·rw[if_pos h]; simp only[h.1,h.2,decide_true,Bool.and_self,cond_true]; rfl
  ·rw[if_neg h]
   have:(decide (k.min ≤ n) && decide (n ≤ k.max)) = false:=by rw[Bool.eq_false_iff]; simpa using h
   rw[this]; rfl
 ·rfl
 ·rename_i s
  dsimp only
  by_cases h:s.size ≤ 9223372036854775807
  ·rw[if_pos h]
   have:Nat.ble s.size 9223372036854775807 = true:=by rw[bleN]; exact decide_eq_true h
   rw[this]
   show Leaf.p (.str (mkS s.data.toList)) = _
   rw[mkS_of]
  ·rw[if_neg h]
   have:Nat.ble s.size 9223372036854775807 = false:=by rw[bleN]; exact decide_eq_false h
   rw[this]; rfl
 ·rfl
 ·rfl
 ·rfl
 ·rfl
 ·rfl
 ·split <;> first | rfl | simp_all
theorem const_un (v:Value):(constT v).un = constSlot v:=by
 unfold constT constSlot
 split
 ·rename_i cs
  dsimp only
  by_cases h:cs.all (·.oneCell') = true
  ·rw[if_pos h,h]
   simp only[cond_true,TSl.un,TC.un,List.map_map]
   rw[show List.map (TL.un ∘ constLT) cs.toList = List.map constLeaf cs.toList from List.map_congr_left fun v _=>constL_un v]
  ·rw[if_neg h]
   rw[Bool.not_eq_true] at h
   rw[h]; rfl
 ·rfl
 ·rename_i h1 h2
  have:=constL_un v
  simp only[TSl.un,TC.un,this]
theorem ev_un (fx cur:TSt) (x:Operand):(un2 fx cur).ev x = (evT fx cur constT x).un:=by
 cases x with
 | tmp t=>rw[evT_tmp,nrm_un]; exact un2_tm fx cur t
 | const v=>exact (const_un v).symm
 | global g =>
  show (match gtab g with | some cs=>Slot.c (.v (.ip cs 0)) | none=>.dead) = TSl.un (match gtabT g with | some d=>.c (.v (.ip d.t d.x 0)) | none=>.dead)
  rw[gtab_un]
  cases gtabT g <;> rfl
 | func f=>rfl
theorem tzero_un {P:Program} {t:TypeId} {cs:List TL} (h:tzero P t = some cs):zeroLeaves P t = some (cs.map TL.un):=by
 unfold tzero at h
 unfold zeroLeaves
 split at h
 ·rename_i i hi
  rw[hi]
  dsimp only
  split at h
  ·rename_i v hv
   rw[hv]
   dsimp only
   by_cases hc:v.cells.all (·.oneCell') = true
   ·rw[hc] at h
    simp only[cond_true,Option.some.injEq] at h
    subst h
    rw[if_pos hc,List.map_map]
    congr 1
    exact List.map_congr_left fun v _=>(constL_un v).symm
   ·rw[Bool.not_eq_true] at hc
    rw[hc] at h; cases h
  ·cases h
 ·cases h
theorem leaves_un:∀ (t:Ty) (x:t.den),(leavesT t x).map TL.un = (enc t x).map Leaf.p
 | .any,_=>rfl
 | .int _,_=>rfl
 | .bool,_=>rfl
 | .str,_=>rfl
 | .sl _,_=>rfl
 | .map _ _,_=>rfl
 | .slu i,x=>(rfl:_ = (enc (.sl (Ubody i)) (List.map (Uun i) x)).map Leaf.p).trans (congrArg (List.map Leaf.p) (enc_slu i x))
 | .pair a b,x=>by unfold leavesT enc; rw[List.map_append,List.map_append,leaves_un a,leaves_un b]
theorem asTy_some {α:Type} {a b:Ty} {x:a.den} {k:b.den → Option α} {r:α} (h:asTy a b x k = some r):∃ e:a = b,k (castTy e x) = some r:=by
 unfold asTy at h
 split at h
 ·rename_i g _; exact⟨g.down,h⟩
 ·cases h
def isLeaf:Ty → Bool
 | .pair _ _=>false
 | _=>true
theorem enc_leaf {t:Ty} (h:isLeaf t = true) (x:t.den):∃ p,enc t x = [p] ∧ (TL.v t x).un = .p p:=by
 cases t with
 | pair a b=>cases h
 | any=>exact⟨_,rfl,rfl⟩
 | int k=>exact⟨_,rfl,rfl⟩
 | bool=>exact⟨_,rfl,rfl⟩
 | str=>exact⟨_,rfl,rfl⟩
 | sl e=>exact⟨_,rfl,rfl⟩
 | map k e=>exact⟨_,rfl,rfl⟩
 | slu i=>exact⟨_,rfl,rfl⟩
theorem leafAs_some {ρ:Type} {t:Ty} {l:TL} {k:t.den → Option ρ} {r:ρ} (h:leafAs t l k = some r):∃ x:t.den,l.un = (TL.v t x).un ∧ k x = some r:=by
 unfold leafAs at h
 split at h
 ·obtain⟨y,h,he⟩:=asTyU_some h
  exact⟨y,(un_enc he).symm,h⟩
 ·cases h
theorem pack_some {ρ:Type} {r:ρ}:∀ (t:Ty) (ls:List TL) (k:t.den → List TL → Option ρ),packT t ls k = some r → ∃ x rest,k x rest = some r ∧ ∃ pre,ls = pre ++ rest ∧ pre.map TL.un = (enc t x).map Leaf.p
 | .pair a b,ls,k,h=>by
  unfold packT at h
  obtain⟨x,r1,h1,p1,rfl,e1⟩:=pack_some a ls _ h
  obtain⟨y,r2,h2,p2,rfl,e2⟩:=pack_some b r1 _ h1
  refine⟨(x,y),r2,h2,p1 ++ p2,by rw[List.append_assoc],?_⟩
  rw[List.map_append,e1,e2]
  show _ = (enc a x ++ enc b y).map Leaf.p
  rw[List.map_append]
 | .int kd,[],k,h=>by cases h
 | .bool,[],k,h=>by cases h
 | .any,[],k,h=>by cases h
 | .any,l :: ls,k,h=>by obtain⟨x,hu,h2⟩:=leafAs_some (t := .any) h; exact⟨x,ls,h2,[l],rfl,congrArg (fun u=>[u]) hu⟩
 | .str,[],k,h=>by cases h
 | .sl e,[],k,h=>by cases h
 | .map kd e,[],k,h=>by cases h
 | .int kd,l :: ls,k,h=>by obtain⟨x,hu,h2⟩:=leafAs_some (t := .int kd) h; exact⟨x,ls,h2,[l],rfl,congrArg (fun u=>[u]) hu⟩
 | .bool,l :: ls,k,h=>by obtain⟨x,hu,h2⟩:=leafAs_some (t := .bool) h; exact⟨x,ls,h2,[l],rfl,congrArg (fun u=>[u]) hu⟩
 | .str,l :: ls,k,h=>by obtain⟨x,hu,h2⟩:=leafAs_some (t := .str) h; exact⟨x,ls,h2,[l],rfl,congrArg (fun u=>[u]) hu⟩
 | .sl e,l :: ls,k,h=>by obtain⟨x,hu,h2⟩:=leafAs_some (t := .sl e) h; exact⟨x,ls,h2,[l],rfl,congrArg (fun u=>[u]) hu⟩
 | .slu i,[],k,h=>by cases h
 | .slu i,l :: ls,k,h=>by obtain⟨x,hu,h2⟩:=leafAs_some (t := .slu i) h; exact⟨x,ls,h2,[l],rfl,congrArg (fun u=>[u]) hu⟩
 | .map kd e,l :: ls,k,h=>by obtain⟨x,hu,h2⟩:=leafAs_some (t := .map kd e) h; exact⟨x,ls,h2,[l],rfl,congrArg (fun u=>[u]) hu⟩
theorem packAll_some {ρ:Type} {r:ρ} {t:Ty} {ls:List TL} {k:t.den → Option ρ} (h:packAll t ls k = some r):∃ x,k x = some r ∧ ls.map TL.un = (enc t x).map Leaf.p:=by
 unfold packAll at h
 obtain⟨x,rest,h2,pre,rfl,e⟩:=pack_some t ls _ h
 split at h2
 ·exact⟨x,h2,by rw[List.append_nil]; exact e⟩
 ·cases h2
theorem allPV_p:∀ (l:List PV),allPV (l.map Leaf.p) = some l
 | []=>rfl
 | p :: l=>by rw[List.map_cons]; unfold allPV; rw[allPV_p l]; rfl
theorem leavesC_un (c:TC):c.un.leaves = c.leaves.map TL.un:=by cases c <;> rfl
theorem cutT_un {cs:List TL} {off n:Nat} {agg:Bool} {c:TC} (h:cutT cs off n agg = some c):cutL (cs.map TL.un) off n agg = some c.un:=by
 unfold cutT at h
 unfold cutL
 cases agg with
 | true =>
  simp only[cond_true,if_true] at h ⊢
  by_cases hb:off + n ≤ cs.length
  ·rw[show Nat.ble (off + n) cs.length = true by rw[bleN]; exact decide_eq_true hb] at h
   simp only[cond_true,Option.some.injEq] at h
   subst h
   rw[List.length_map,if_pos hb,List.map_drop.symm,List.map_take.symm]; rfl
  ·have:Nat.ble (off + n) cs.length = false:=by rw[bleN]; exact decide_eq_false hb
   rw[this] at h; cases h
 | false =>
  simp only[cond_false,Bool.false_eq_true,if_false] at h ⊢
  rw[List.getElem?_map]
  cases hc:cs[off]? with
  | none=>rw[hc] at h; cases h
  | some x=>rw[hc] at h; simp only[Option.map_some,Option.some.injEq] at h ⊢; subst h; rfl
theorem cond_some {α:Type} {b:Bool} {x:Option α} {r:α} (h:cond b x none = some r):b = true ∧ x = some r:=by
 cases b with
 | true=>exact⟨rfl,h⟩
 | false=>cases h
theorem freeT_un {fx cur:TSt} {d:Nat} (h:freeT fx cur d = true):isFree (un2 fx cur).hp (some d) = true:=by
 unfold freeT at h
 show (((un2 fx cur).hp d).isNone && decide (d < 1000000)) = true
 rw[un2_hp]
 split at h
 ·cases h
 ·rename_i hn
  rw[hn]
  rw[bleN,decide_eq_true_eq] at h
  simp; omega
end Go.Lad
