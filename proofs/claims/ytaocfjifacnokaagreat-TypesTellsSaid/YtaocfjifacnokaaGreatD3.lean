import Derived.Test.YtaocfjifacnokaaGreatD2
namespace Go.Lad
set_option linter.unusedVariables false
set_option linter.unusedSimpArgs false
open Go.RowKit
theorem lX {a b:Nat}:Nat.ble a b = decide (a ≤ b):=by
 rw[Bool.eq_iff_iff,decide_eq_true_eq,Nat.ble_eq]
theorem eB {a b:Nat}:Nat.beq a b = decide (a = b):=by
 rw[Bool.eq_iff_iff,decide_eq_true_eq]; exact Nat.beq_eq ▸ Iff.rfl
theorem look_eq {α:Type}:∀ (l:List (Nat × α)) (k:Nat),look l k = ae l k
 | [],_=>rfl
 | x :: r,k=>by
  unfold look ae
  rw[eB,look_eq r k]
  by_cases h:k = x.1 <;> simp [h]
theorem bT {α:Type}:∀ (l m:List (Nat × α)) (k:Nat),ae (l ++ m) k = match ae l k with | some x=>some x | none=>ae m k
 | [],_,_=>rfl
 | x :: r,m,k=>by
  rw[List.cons_append]
  have e:∀ l:List (Nat × α),ae (x :: l) k = if k = x.1 then some x.2 else ae l k:=fun _=>rfl
  rw[e,e]
  by_cases h:k = x.1
  ·rw[if_pos h,if_pos h]
  ·rw[if_neg h,if_neg h]; exact bT r m k
theorem gr {α β:Type} (f:α → β):∀ (l:List (Nat × α)) (k:Nat),ae (l.map fun x=>(x.1,f x.2)) k = (ae l k).map f
 | [],_=>rfl
 | x :: r,k=>by
  rw[List.map_cons]
  unfold ae
  by_cases h:k = x.1
  ·simp [h]
  ·rw[if_neg h,if_neg h]; exact gr f r k
theorem oG {α:Type} (l m:List (Nat × α)) (k:Nat):pH l m k = ae (l ++ m) k:=by
 unfold pH
 rw[look_eq,look_eq,bT]
 cases ae l k <;> rfl
theorem nA {α:Type}:∀ (l:List (Nat × α)) (k:Nat) (v:α) (j:Nat),ae (pA l k v) j = if j = k then some v else ae l j
 | [],k,v,j=>by simp [pA,ae]
 | x :: r,k,v,j=>by
  unfold pA
  rw[eB]
  by_cases h:k = x.1
  ·subst h
   simp only[decide_true,cond_true]
   unfold ae
   by_cases hj:j = x.1 <;> simp [hj]
  ·simp only[h,decide_false,cond_false]
   unfold ae
   rw[nA r k v j]
   by_cases hj:j = x.1
   ·subst hj
    have:¬ x.1 = k:=fun e=>h e.symm
    simp [this]
   ·simp [hj]
def je (fx cur:TSt) (k:Nat):TSl:=(ae (cur.tm ++ fx.tm) k).getD .dead
theorem gq (fx cur:TSt) (k:Nat):(un2 fx cur).tm k = (je fx cur k).un:=by
 show (ae (kz (cur.tm ++ fx.tm)) k).getD .dead = _
 unfold kz je
 rw[gr TSl.un]
 cases ae (cur.tm ++ fx.tm) k <;> rfl
theorem iE (fx cur:TSt) (o:Nat):obT fx cur o = ae (cur.hp ++ fx.hp) o:=oG _ _ _
theorem fO (fx cur:TSt) (o:Nat):(un2 fx cur).hp o = (obT fx cur o).map cY.un:=by
 show ae (dN (cur.hp ++ fx.hp)) o = _
 unfold dN
 rw[gr cY.un,iE]
theorem oH {a b:Ty} {x:a.den} {y:b.den} (h:enc b y = enc a x):(TL.v b y).un = (TL.v a x).un:=by
 show (match enc b y with | [p]=>aJ.p p | _=>.dead) = (match enc a x with | [p]=>aJ.p p | _=>.dead)
 rw[h]
theorem I6 (x:TL):(IZ x).un = x.un:=by
 unfold IZ
 split
 ·exact oH (pf _ _)
 ·rfl
theorem K1 (x:TSl):(nrm x).un = x.un:=by
 unfold nrm
 split
 ·rename_i y
  show Slot.c (.v (IZ y).un) = .c (.v y.un)
  rw[I6]
 ·rfl
theorem I7 (fx cur:TSt) (c:Value → TSl) (t:Nat):evT fx cur c (.tmp t) = nrm (je fx cur t):=by
 show (match pH cur.tm fx.tm t with | some x=>nrm x | none=>.dead) = _
 unfold je
 rw[oG]
 cases ae (cur.tm ++ fx.tm) t <;> rfl
theorem St.ext' {s t:St} (h1:∀ k,s.tm k = t.tm k) (h2:∀ o,s.hp o = t.hp o):s = t:=by
 cases s; cases t
 simp only[St.mk.injEq]
 exact⟨funext h1,funext h2⟩
theorem sa (v:Value):(pg v).un = fY v:=by
 unfold pg fY
 split
 ·rename_i k n
  dsimp only
  by_cases h:k.min ≤ n ∧ n ≤ k.max
  ·rw[if_pos h]; simp only[h.1,h.2,decide_true,Bool.and_self,cond_true]; rfl
  ·rw[if_neg h]
   have:(decide (k.min ≤ n) && decide (n ≤ k.max)) = false:=by rw[Bool.eq_false_iff]; simpa using h
   rw[this]; rfl
 ·rfl
 ·rename_i s
  dsimp only
  by_cases h:s.size ≤ 9223372036854775807
  ·rw[if_pos h]
   have:Nat.ble s.size 9223372036854775807 = true:=by rw[lX]; exact decide_eq_true h
   rw[this]
   show aJ.p (.str (mkS s.data.toList)) = _
   rw[GB]
  ·rw[if_neg h]
   have:Nat.ble s.size 9223372036854775807 = false:=by rw[lX]; exact decide_eq_false h
   rw[this]; rfl
 ·rfl
 ·rfl
 ·rfl
 ·rfl
 ·rfl
 ·split <;> first | rfl | simp_all
theorem vn (v:Value):(da v).un = iL v:=by
 unfold da iL
 split
 ·rename_i cs
  dsimp only
  by_cases h:cs.all (·.oneCell') = true
  ·rw[if_pos h,h]
   simp only[cond_true,TSl.un,TC.un,List.map_map]
   rw[show List.map (TL.un ∘ pg) cs.toList = List.map fY cs.toList from List.map_congr_left fun v _=>sa v]
  ·rw[if_neg h]
   rw[Bool.not_eq_true] at h
   rw[h]; rfl
 ·rfl
 ·rename_i h1 h2
  have:=sa v
  simp only[TSl.un,TC.un,this]
theorem fS (fx cur:TSt) (x:Operand):(un2 fx cur).ev x = (evT fx cur da x).un:=by
 cases x with
 | tmp t=>rw[I7,K1]; exact gq fx cur t
 | const v=>exact (vn v).symm
 | global g =>
  show (match wC g with | some cs=>Slot.c (.v (.ip cs 0)) | none=>.dead) = TSl.un (match Ds g with | some d=>.c (.v (.ip d.t d.x 0)) | none=>.dead)
  rw[IY]
  cases Ds g <;> rfl
 | func f=>rfl
theorem Az {P:Program} {t:TypeId} {cs:List TL} (h:Dt P t = some cs):iB P t = some (cs.map TL.un):=by
 unfold Dt at h
 unfold iB
 split at h
 ·rename_i i hi
  rw[hi]
  dsimp only
  split at h
  ·rename_i v hv
   rw[hv]
   dsimp only
   by_cases hc:v.cells.all (·.oneCell') = true
   ·rw[hc] at h
    simp only[cond_true,Option.some.injEq] at h
    subst h
    rw[if_pos hc,List.map_map]
    congr 1
    exact List.map_congr_left fun v _=>(sa v).symm
   ·rw[Bool.not_eq_true] at hc
    rw[hc] at h; cases h
  ·cases h
 ·cases h
theorem gO:∀ (t:Ty) (x:t.den),(dH t x).map TL.un = (enc t x).map aJ.p
 | .any,_=>rfl
 | .int _,_=>rfl
 | .bool,_=>rfl
 | .str,_=>rfl
 | .sl _,_=>rfl
 | .map _ _,_=>rfl
 | .slu i,x=>(rfl:_ = (enc (.sl (eH i)) (List.map (Uun i) x)).map aJ.p).trans (congrArg (List.map aJ.p) (pf i x))
 | .pair a b,x=>by unfold dH enc; rw[List.map_append,List.map_append,gO a,gO b]
theorem Cy (t:Ty) (x:t.den):(dH t x).length = t.cells:=by
 have:=congrArg List.length (gO t x)
 rw[List.length_map,List.length_map,kk] at this
 exact this
theorem fL {α:Type} {a b:Ty} {x:a.den} {k:b.den → Option α} {r:α} (h:jF a b x k = some r):∃ e:a = b,k (jT e x) = some r:=by
 unfold jF at h
 split at h
 ·rename_i g _; exact⟨g.down,h⟩
 ·cases h
def nB:Ty → Bool
 | .pair _ _=>false
 | _=>true
theorem oI {t:Ty} (h:nB t = true) (x:t.den):∃ p,enc t x = [p] ∧ (TL.v t x).un = .p p:=by
 cases t with
 | pair a b=>cases h
 | any=>exact⟨_,rfl,rfl⟩
 | int k=>exact⟨_,rfl,rfl⟩
 | bool=>exact⟨_,rfl,rfl⟩
 | str=>exact⟨_,rfl,rfl⟩
 | sl e=>exact⟨_,rfl,rfl⟩
 | map k e=>exact⟨_,rfl,rfl⟩
 | slu i=>exact⟨_,rfl,rfl⟩
theorem iF {ρ:Type} {t:Ty} {l:TL} {k:t.den → Option ρ} {r:ρ} (h:Ch t l k = some r):∃ x:t.den,l.un = (TL.v t x).un ∧ k x = some r:=by
 unfold Ch at h
 split at h
 ·obtain⟨y,h,he⟩:=jU h
  exact⟨y,(oH he).symm,h⟩
 ·cases h
theorem sb {ρ:Type} {r:ρ}:∀ (t:Ty) (ls:List TL) (k:t.den → List TL → Option ρ),Aj t ls k = some r → ∃ x rest,k x rest = some r ∧ ∃ pre,ls = pre ++ rest ∧ pre.map TL.un = (enc t x).map aJ.p
 | .pair a b,ls,k,h=>by
  unfold Aj at h
  obtain⟨x,r1,h1,p1,rfl,e1⟩:=sb a ls _ h
  obtain⟨y,r2,h2,p2,rfl,e2⟩:=sb b r1 _ h1
  refine⟨(x,y),r2,h2,p1 ++ p2,by rw[List.append_assoc],?_⟩
  rw[List.map_append,e1,e2]
  show _ = (enc a x ++ enc b y).map aJ.p
  rw[List.map_append]
 | .int kd,[],k,h=>by cases h
 | .bool,[],k,h=>by cases h
 | .any,[],k,h=>by cases h
 | .any,l :: ls,k,h=>by obtain⟨x,hu,h2⟩:=iF (t := .any) h; exact⟨x,ls,h2,[l],rfl,congrArg (fun u=>[u]) hu⟩
 | .str,[],k,h=>by cases h
 | .sl e,[],k,h=>by cases h
 | .map kd e,[],k,h=>by cases h
 | .int kd,l :: ls,k,h=>by obtain⟨x,hu,h2⟩:=iF (t := .int kd) h; exact⟨x,ls,h2,[l],rfl,congrArg (fun u=>[u]) hu⟩
 | .bool,l :: ls,k,h=>by obtain⟨x,hu,h2⟩:=iF (t := .bool) h; exact⟨x,ls,h2,[l],rfl,congrArg (fun u=>[u]) hu⟩
 | .str,l :: ls,k,h=>by obtain⟨x,hu,h2⟩:=iF (t := .str) h; exact⟨x,ls,h2,[l],rfl,congrArg (fun u=>[u]) hu⟩
 | .sl e,l :: ls,k,h=>by obtain⟨x,hu,h2⟩:=iF (t := .sl e) h; exact⟨x,ls,h2,[l],rfl,congrArg (fun u=>[u]) hu⟩
 | .slu i,[],k,h=>by cases h
 | .slu i,l :: ls,k,h=>by obtain⟨x,hu,h2⟩:=iF (t := .slu i) h; exact⟨x,ls,h2,[l],rfl,congrArg (fun u=>[u]) hu⟩
 | .map kd e,l :: ls,k,h=>by obtain⟨x,hu,h2⟩:=iF (t := .map kd e) h; exact⟨x,ls,h2,[l],rfl,congrArg (fun u=>[u]) hu⟩
theorem fT {ρ:Type} {r:ρ} {t:Ty} {ls:List TL} {k:t.den → Option ρ} (h:jG t ls k = some r):∃ x,k x = some r ∧ ls.map TL.un = (enc t x).map aJ.p:=by
 unfold jG at h
 obtain⟨x,rest,h2,pre,rfl,e⟩:=sb t ls _ h
 split at h2
 ·exact⟨x,h2,by rw[List.append_nil]; exact e⟩
 ·cases h2
theorem tF:∀ (l:List PV),dG (l.map aJ.p) = some l
 | []=>rfl
 | p :: l=>by rw[List.map_cons]; unfold dG; rw[tF l]; rfl
theorem jq (c:TC):c.un.leaves = c.leaves.map TL.un:=by cases c <;> rfl
theorem qH {cs:List TL} {off n:Nat} {agg:Bool} {c:TC} (h:Ci cs off n agg = some c):mV (cs.map TL.un) off n agg = some c.un:=by
 unfold Ci at h
 unfold mV
 cases agg with
 | true =>
  simp only[cond_true,if_true] at h ⊢
  by_cases hb:off + n ≤ cs.length
  ·rw[show Nat.ble (off + n) cs.length = true by rw[lX]; exact decide_eq_true hb] at h
   simp only[cond_true,Option.some.injEq] at h
   subst h
   rw[List.length_map,if_pos hb,List.map_drop.symm,List.map_take.symm]; rfl
  ·have:Nat.ble (off + n) cs.length = false:=by rw[lX]; exact decide_eq_false hb
   rw[this] at h; cases h
 | false =>
  simp only[cond_false,Bool.false_eq_true,if_false] at h ⊢
  rw[List.getElem?_map]
  cases hc:cs[off]? with
  | none=>rw[hc] at h; cases h
  | some x=>rw[hc] at h; simp only[Option.map_some,Option.some.injEq] at h ⊢; subst h; rfl
theorem a7 {α:Type} {b:Bool} {x:Option α} {r:α} (h:cond b x none = some r):b = true ∧ x = some r:=by
 cases b with
 | true=>exact⟨rfl,h⟩
 | false=>cases h
theorem jf {fx cur:TSt} {d:Nat} (h:nT fx cur d = true):bN (un2 fx cur).hp (some d) = true:=by
 unfold nT at h
 show (((un2 fx cur).hp d).isNone && decide (d < 1000000)) = true
 rw[fO]
 split at h
 ·cases h
 ·rename_i hn
  rw[hn]
  rw[lX,decide_eq_true_eq] at h
  simp; omega
end Go.Lad
