import Derived.Test.YtcmibmohdnbhgaaGreatDoorEL
import Derived.Sort.OwnSortedInts
import Derived.Sort.EncStr
import Derived.Lib.SlicesCompact
import Derived.Test.YtcmibmohdnbhgaaGreatDoorSh
import Derived.Lib.OthersKept
import Derived.Lib.TrimU
import Derived.Deep.LoopGhost
import Derived.Laws.RangeString
import Derived.RegionTactic
import Derived.Tactics2
import Derived.Test.YtcmibmohdnbhgaaGreatDoorProg
import Derived.KernelRfl
import Derived.Tactics
import Derived.Defers
import Derived.Laws.Pointers
import Derived.Laws.LoneSync
import Derived.RegionCalls
import Derived.ChangeAlike
import Derived.Laws.Tables
import Derived.Below
import Derived.Lib.SliceRun
import Derived.Laws.IdiomStrings
import Derived.Lib.SlBuf
import Derived.Shelf.Spec.SlicesInsert
import Derived.WalkKit
set_option linter.unusedVariables false
set_option linter.unusedSimpArgs false
set_option linter.unusedSectionVars false
namespace Go.Lad
open Go.RowKit Go.Sort Go.Proofs
abbrev encT (x:Bs):Value:=encStr x
def strs (l:List Bs):List (List PV):=l.map fun x=>[PV.str (mkS x)]
def aft (w:World) (q g off:Nat) (d:List Bs) (os:Array Obj):World:=Sort.grow (Sort.putRow encT (Sort.ahead w q) g off d.toArray) os
section
variable {w:World} {q g off:Nat} {d:List Bs} {os:Array Obj}
theorem grow_none (w:World):Sort.grow w #[] = w:=by cases w; simp [Sort.grow]
theorem aft_none:Sort.putRow encT (Sort.ahead w q) g off d.toArray = aft w q g off d #[]:=by
 unfold aft; rw[grow_none]
theorem aft_size:w.heap.size ≤ (aft w q g off d os).heap.size:=by simp [aft,Sort.grow,Sort.putRow,Sort.mapBlock,Sort.ahead]
theorem aft_get {cur:Array Value} {e:TypeId} {fr:Nat × Nat} (hb:w.heap[g]? = some (.cells cur e fr)):(aft w q g off d os).heap[g]? = some (.cells (Sort.putCells encT off d.toArray cur) e fr):=by
 have hg:g < w.heap.size:=(Array.getElem?_eq_some_iff.1 hb).1
 unfold aft
 rw[Sort.heap_grow_old _ _ (by simpa [Sort.putRow,Sort.mapBlock,Sort.ahead] using hg)]
 simp [Sort.putRow,Sort.mapBlock,Sort.ahead,Array.getElem?_modify,hb,Sort.onCells]
theorem aft_row {cur:Array Value} {e:TypeId} (hb:RowAt w g cur e):RowAt (aft w q g off d os) g (Sort.putCells encT off d.toArray cur) e:=by
 obtain⟨fr,h1,h2⟩:=hb
 exact⟨fr,aft_get h1,by rw[show (Sort.putCells encT off d.toArray cur).size = cur.size by simp [Sort.putCells]]; exact h2⟩
theorem row_frozen {w:World} {g:Nat} {cur:Array Value} {e:TypeId} (hb:RowAt w g cur e) (i:Nat):w.frozen? ⟨g,i,none⟩ = false:=by
 obtain⟨⟨lo,hi⟩,h1,h2⟩:=hb
 simp only[World.frozen?,h1,Bool.and_eq_false_iff,decide_eq_false_iff_not]
 rcases h2 with h2 | ⟨_,h2⟩
 ·simp only at h2; omega
 ·cases h2
theorem aft_other {b:Nat} (hb:b < w.heap.size) (hne:g ≠ b):(aft w q g off d os).heap[b]? = w.heap[b]? := by
 unfold aft
 rw[Sort.heap_grow_old _ _ (by simpa [Sort.putRow,Sort.mapBlock,Sort.ahead] using hb)]
 simp [Sort.putRow,Sort.mapBlock,Sort.ahead,Array.getElem?_modify,hne]
theorem put_cells {cur:Array Value} {n:Nat} (hn:n ≤ d.length) (h:off + d.length ≤ cur.size):((Sort.putCells encT off d.toArray cur).toList.drop off).take n = (d.take n).map encT:=by
 apply List.ext_getElem?
 intro j
 by_cases hj:j < n
 ·rw[List.getElem?_take_of_lt hj,List.getElem?_drop,Array.getElem?_toList,List.getElem?_map,List.getElem?_take_of_lt hj]
  have h1:off + j < cur.size:=by omega
  have h2:j < d.length:=by omega
  simp [Sort.putCells,h1,h2,show off + j < off + d.length by omega]
 ·rw[List.getElem?_take_eq_none (by omega),List.getElem?_eq_none (by simp; omega)]
end
section
variable {w:World} {k e:Nat} {χ:Col} {v:Value} {l:List Bs}
theorem rd_strv {F:Nat → Prop} {w:World} {n:Bs} {v:Value} (h:Rd F w (.str (mkS n)) v):v = encT n ∧ n.length ≤ 9223372036854775807:=by cases h; exact⟨rfl,by rename_i h; rw[mkS_size] at h; exact h⟩
theorem strs_at {l:List Bs} {j:Nat} (hj:j < l.length):(strs l)[j]? = some [PV.str (mkS l[j])]:=by unfold strs; rw[List.getElem?_map,List.getElem?_eq_getElem hj]; rfl
theorem add_at (g off j:Nat):(⟨g,off,none⟩:Addr).add j = ⟨g,off + j,none⟩:=by
 unfold Addr.add
 split
 ·rename_i h; subst h; rfl
 ·rfl
theorem own_strs (h:Own (α:=CZ 1) k χ e w v (strs l)) :
  (v = .slice none 0 0 ∧ l = []) ∨ ∃ g cap cur off,v = .slice (some ⟨g,off,none⟩) l.length cap ∧ g < w.heap.size ∧ χ g = k ∧ RowAt w g cur e ∧ l.length ≤ cap ∧ cap ≤ maxLen ∧ off + cap ≤ cur.size ∧ Sort.Holds encT w g off l.toArray ∧ ∀ x ∈ l,x.length ≤ 9223372036854775807:=by
 obtain⟨xs,hor,hrd⟩:=h.ex
 have hlen:List.length (α:=CZ 1) (strs l) = l.length:=by show List.length (α:=List PV) (strs l) = _; unfold strs; simp
 have hxl:xs.length = l.length:=by
  have:=hor.1
  rw[show GoRep.sz (CZ 1) = 1 from rfl,Nat.mul_one] at this
  exact this.trans hlen
 rcases hor.2 with⟨hv,hn⟩ | ⟨g,cap,cur,off,hv,_,hb,hnc,hm,hsz,hxs⟩
 ·exact .inl ⟨hv,List.eq_nil_of_length_eq_zero (by rw[← hlen]; exact hn)⟩
 ·refine .inr ⟨g,cap,cur,off,by rw[hv]; congr 1,hb.lt,h.col g (by rw[hv]; rfl),hb,by rw[← hlen]; exact hnc,hm,by rw[show GoRep.sz (CZ 1) = 1 from rfl,Nat.mul_one] at hsz; exact hsz,?_,?_⟩
  ·intro j hj
   have hj:j < l.length:=by simpa using hj
   have hrow:=hrd j _ (strs_at hj)
   obtain⟨_,hR⟩:=hrow
   have hch:chunk (GoRep.sz (CZ 1)) j xs = [xs[j]'(by omega)]:=by
    show (xs.drop (j * 1)).take 1 = _
    rw[Nat.mul_one,List.drop_eq_getElem_cons (by omega)]; rfl
   rw[hch] at hR
   have hv1:=hR.2 0 _ _ rfl rfl
   have hxj:xs[j]'(by omega) = encT l[j]:=(rd_strv hv1).1
   have hcell:=oRow.cells hor (g:=g) (by rw[hv]; rfl) j (xs[j]'(by omega)) (List.getElem?_eq_getElem (by omega))
   refine⟨?_,row_frozen hb _⟩
   have ho:hOff v = off:=by rw[hv]; rfl
   rw[hxj,ho,add_at] at hcell
   rw[hcell]
   simp [hj]
  ·intro x hx
   obtain⟨j,hj,rfl⟩:=List.mem_iff_getElem.1 hx
   have hrow:=hrd j _ (strs_at hj)
   obtain⟨_,hR⟩:=hrow
   have hch:chunk (GoRep.sz (CZ 1)) j xs = [xs[j]'(by omega)]:=by
    show (xs.drop (j * 1)).take 1 = _
    rw[Nat.mul_one,List.drop_eq_getElem_cons (by omega)]; rfl
   rw[hch] at hR
   exact (rd_strv (hR.2 0 _ _ rfl rfl)).2
theorem own_aft {q g off cap:Nat} {cur:Array Value} {os:Array Obj} {χ':Col} {k':Nat} {l' pad:List Bs} (hb:RowAt w g cur e) (hc:(l' ++ pad).length ≤ cap) (hm:cap ≤ maxLen) (hs:off + cap ≤ cur.size) (hk:χ' g = k') (hi:∀ x ∈ l',x.length ≤ 9223372036854775807) :
  Own (α:=CZ 1) k' χ' e (aft w q g off (l' ++ pad) os) (.slice (some ⟨g,off,none⟩) l'.length cap) (strs l'):=by
 have hlen:List.length (α:=CZ 1) (strs l') = l'.length:=by show List.length (α:=List PV) (strs l') = _; unfold strs; simp
 have hll:l'.length ≤ (l' ++ pad).length:=by simp
 refine⟨⟨l'.map encT,⟨by rw[List.length_map,hlen]; show _ = _ * 1; omega,.inr ⟨g,cap,_,off,by rw[hlen],Nat.zero_le _,aft_row hb,by rw[hlen]; omega,hm,?_,?_⟩⟩,fun j row hj=>?_⟩,fun b hb'=>?_⟩
 ·show off + cap * 1 ≤ _
  simp [Sort.putCells]; omega
 ·rw[hlen,show GoRep.sz (CZ 1) = 1 from rfl,Nat.mul_one,put_cells hll (by omega),List.take_append_of_le_length (Nat.le_refl _),List.take_length]
 ·have hj:(l'.map fun x=>[PV.str (mkS x)])[j]? = some (show List PV from row):=hj
  rw[List.getElem?_map,Option.map_eq_some_iff] at hj
  obtain⟨x,hx,rfl⟩:=hj
  obtain⟨hjl,hxe⟩:=List.getElem?_eq_some_iff.1 hx
  have hch:chunk (GoRep.sz (CZ 1)) j (l'.map encT) = [encT x]:=by
   show ((l'.map encT).drop (j * 1)).take 1 = _
   rw[Nat.mul_one,List.drop_eq_getElem_cons (by rw[List.length_map]; exact hjl),List.getElem_map,hxe]; rfl
  rw[hch]
  refine⟨rfl,rfl,fun i p u hp hu=>?_⟩
  cases i with
  | zero =>
   simp at hp hu
   subst hp hu
   exact .str (by rw[mkS_size]; exact hi x (hxe ▸ List.getElem_mem hjl))
  | succ i=>simp at hp
 ·simp [Value.ownBlock] at hb'
  subst hb'; exact hk
end
theorem sortS_con {P:Program} {f:FuncId} {e:TypeId} (hc:callable P f = true)
  (h1:∀ (blk off cap:Nat) (zs:List Bs) (w:World),Sort.Holds (encT) w blk off zs.toArray → blk < w.heap.size → zs.length < 4611686018427387904 →
   Calls P f #[.slice (some ⟨blk,off,none⟩) zs.length cap] w fun e w'=>e = .returned (.tuple #[]) ∧ ∃ n os,w' = Sort.grow (Sort.putRow (encT) (Sort.ahead w n) blk off (zs.mergeSort leS).toArray) os)
  (h0:∀ (p:Option Addr) (cap:Nat) (w:World),Calls P f #[.slice p 0 cap] w fun e w'=>e = .returned (.tuple #[]) ∧ w' = w):ConOK P (sortSCon f e):=by
 refine⟨hc,fun x r hr=>?_⟩
 obtain⟨l,rfl⟩:∃ m:List Bs,m = x:=⟨x,rfl⟩
 obtain⟨r,rfl⟩:∃ m:List Bs,m = r:=⟨r,rfl⟩
 have hr:sortS l = some r:=hr
 unfold sortS at hr
 obtain⟨hb,hr⟩:=cond_some hr
 rw[bleN,decide_eq_true_eq] at hb
 injection hr with hr
 have key:MeetsH P f ⟨[.c (.v (.own 1000000))],[(1000000,.arr e 1 (strs l))],.tup [],[(1000000,.arr e 1 (strs r))]⟩:=by
  intro w G vs hnorm hglob hargs hobjs
  obtain⟨v0,rfl⟩:∃ v0,vs = [v0]:=by
   have:=hargs.1
   match vs,this with
   | [a],_=>exact⟨a,rfl⟩
  have hv0:v0 = G.hv 1000000:=(hargs.2 0 _ _ rfl rfl:SRd G _ w _ v0).val
  obtain⟨hown,hbl⟩:=hobjs 1000000 _ rfl
  have hlen:r.length = l.length:=by rw[← hr]; exact List.length_mergeSort l
  rcases own_strs hown with⟨hv,hl⟩ | ⟨g,cap,cur,off,hv,hg,hcol,hbk,hnc,hm,hs,hH,hin⟩
  ·rw[hv0,hv]
   refine (h0 none 0 w).mono ?_
   rintro en w' ⟨rfl,rfl⟩
   subst hl
   have hre:r = []:=List.eq_nil_of_length_eq_zero hlen
   subst hre
   refine⟨G,_,[],rfl,rfl,rfl,rfl,rfl,Nat.le_refl _,fun b _ _=>⟨rfl,rfl⟩,fun b h=>.inl h,fun _ _=>⟨rfl,rfl⟩,hnorm,⟨rfl,fun i x v hx hv=>by simp [Rz.comps] at hx⟩,fun o h ho=>hobjs o h ho⟩
  ·rw[hv0,hv]
   refine (h1 g off cap l w hH hg (by omega)).mono ?_
   rintro en w' ⟨rfl,q,os,rfl⟩
   rw[hr]
   show ∃ (G':Gh) (v:Value) (us:List Value),_ ∧ _ ∧ (aft w q g off r os).os = w.os ∧ _
   refine⟨G,_,[],rfl,rfl,rfl,rfl,rfl,aft_size,fun b hb hχ=>⟨aft_other hb (fun e=>by subst e; omega),rfl⟩,fun b h=>.inl h,fun _ _=>⟨rfl,rfl⟩,fun b hb=>hnorm b (Nat.le_trans aft_size hb),⟨rfl,fun i x v hx hv=>by simp [Rz.comps] at hx⟩,fun o h ho=>?_⟩
   simp only[hpL,lookL] at ho
   split at ho
   ·rename_i he
    have he:o = 1000000:=by simpa using he
    subst he
    injection ho with ho
    subst ho
    refine⟨?_,fun b hb'=>hbl b hb'⟩
    have hperm:r.Perm l:=by rw[← hr]; exact List.mergeSort_perm _ _
    have:=own_aft (q:=q) (os:=os) (l':=r) (pad:=[]) (χ':=G.χ) (k':=1000000 + 2) (e:=e) hbk (by rw[List.append_nil]; omega) hm hs hcol (fun x hx=>hin x (hperm.mem_iff.1 hx))
    rw[List.append_nil,hlen,← hv] at this
    exact this
   ·cases ho
 have hl:∀ l:List Bs,listAs .str ⟨.sl .str,l⟩ = l:=fun l=>listAs_d (t := .str) l
 have e1:(sortSCon f e).spec l r = ⟨[.c (.v (.own 1000000))],[(1000000,.arr e 1 (strs l))],.tup [],[(1000000,.arr e 1 (strs r))]⟩:=by
  show HSpec.mk _ [(1000000,TObj.un (.arr e .str (listAs .str ⟨.sl .str,l⟩)))] _ [(1000000,TObj.un (.arr e .str (listAs .str ⟨.sl .str,r⟩)))] = _
  rw[hl,hl]
  rfl
 show MeetsH P f ((sortSCon f e).spec l r)
 rw[e1]
 exact key
theorem back_meets {P:Program} {f:FuncId} {e:TypeId} {l r:List Bs} {az:List Slot} (has:∀ (G:Gh) (hp:Hp) (w:World) (vs:List Value),All2 (SRd G hp w) az vs → ∀ x ∈ az.zip vs,True)
  {H:List Value → Prop}
  (hcall:∀ (w:World) (v:Value) (us:List Value) (G:Gh) (hp:Hp),All2 (SRd G hp w) az us → ∀ (χ:Col),Own (α:=CZ 1) 1000002 χ e w v (strs l) →
   Calls P f (v :: us).toArray w fun en w'=>(en = .returned v ∧ w' = w ∧ r = l) ∨ ∃ g cap cur off q pad,v = .slice (some ⟨g,off,none⟩) l.length cap ∧ g < w.heap.size ∧ RowAt w g cur e ∧ cap ≤ maxLen ∧ off + cap ≤ cur.size ∧ en = .returned (.slice (some ⟨g,off,none⟩) r.length cap) ∧ w' = aft w q g off (r ++ pad) #[] ∧ (r ++ pad).length ≤ cap ∧ ∀ x ∈ r,x.length ≤ 9223372036854775807) :
  MeetsH P f ⟨.c (.v (.own 1000000)) :: az,[(1000000,.arr e 1 (strs l))],.one (.v (.own 0)),[(0,.arr e 1 (strs r)),(1000000,.gone)]⟩:=by
 intro w G vs hnorm hglob hargs hobjs
 obtain⟨v0,us,rfl⟩:∃ v0 us,vs = v0 :: us:=by
  have:=hargs.1
  match vs,this with
  | a :: l,_=>exact⟨a,l,rfl⟩
 have hv0:v0 = G.hv 1000000:=(hargs.2 0 _ _ rfl rfl:SRd G _ w _ v0).val
 obtain⟨hown,hbl⟩:=hobjs 1000000 _ rfl
 have hown:Own (α:=CZ 1) 1000002 G.χ e w v0 (strs l):=by rw[hv0]; exact hown
 have hus:All2 (SRd G (hpL [(1000000,.arr e 1 (strs l))]) w) az us:=⟨by have:=hargs.1; simpa using this,fun i a b ha hb=>hargs.2 (i + 1) a b (by simpa using ha) (by simpa using hb)⟩
 refine (hcall w v0 us G _ hus G.χ hown).mono ?_
 have hG:∀ (w':World) (v':Value),w'.os = w.os → w'.tape = w.tape → w'.output = w.output → w.heap.size ≤ w'.heap.size → (∀ b,b < w.heap.size → v0.ownBlock ≠ some b → w'.heap[b]? = w.heap[b]?) → v'.ownBlock = v0.ownBlock → v'.oneCell' = true →
   (∀ χ':Col,(∀ g,v0.ownBlock = some g → χ' g = 2) → (∀ b,χ' b = 0 ↔ G.χ b = 0) → Own (α:=CZ 1) 2 χ' e w' v' (strs r)) →
   ∃ (G':Gh) (v:Value) (us:List Value),Ending.returned v' = .returned v ∧ (Rz.one (.v (.own 0))).val v us ∧ w'.os = w.os ∧ w'.tape = w.tape ∧ w'.output = w.output ∧ w.heap.size ≤ w'.heap.size ∧
   (∀ b,b < w.heap.size → G.χ b ≤ 1 → w'.heap[b]? = w.heap[b]? ∧ G'.χ b = G.χ b) ∧ (∀ b,2 ≤ G'.χ b → 2 ≤ G.χ b ∨ w.heap.size ≤ b) ∧ (∀ o,1000000 ≤ o → G'.bl o = G.bl o ∧ G'.hv o = G.hv o) ∧ Norm G'.χ w' ∧
   All2 (CRd G' (hpL [(0,.arr e 1 (strs r)),(1000000,.gone)]) w') (Rz.one (.v (.own 0))).comps us ∧ (∀ o h,hpL [(0,.arr e 1 (strs r)),(1000000,.gone)] o = some h → HRd G' (hpL [(0,.arr e 1 (strs r)),(1000000,.gone)]) w' o h):=by
  intro w' v' c1 c2 c3 c4 c5 c6 c7 c8
  have hcolb:∀ g,v0.ownBlock = some g → G.χ g = 1000002:=hown.col
  refine⟨⟨fun b=>if v0.ownBlock = some b then 2 else G.χ b,fun o=>if o = 0 then v0.ownBlock.getD 0 else G.bl o,fun o=>if o = 0 then v' else G.hv o⟩,v',[v'],rfl,rfl,c1,c2,c3,c4,fun b hb hχ=>?_,fun b hb=>?_,fun o ho=>⟨if_neg (by omega),if_neg (by omega)⟩,fun b hb=>?_,⟨rfl,fun i x v hx hv=>?_⟩,fun o h ho=>?_⟩
  ·have hne:v0.ownBlock ≠ some b:=fun e=>by have:=hcolb b e; omega
   exact⟨c5 b hb hne,if_neg hne⟩
  ·dsimp only at hb
   split at hb
   ·rename_i he
    exact .inl (by have:=hcolb b he; omega)
   ·exact .inl hb
  ·dsimp only
   split
   ·rename_i he
    have h1:=hcolb b he
    have h2:=hnorm b (Nat.le_trans c4 hb)
    rw[h1] at h2
    exact absurd h2 (by decide)
   ·exact hnorm b (Nat.le_trans c4 hb)
  ·cases i with
   | succ i=>simp [Rz.comps] at hx
   | zero =>
    simp [Rz.comps] at hx hv
    subst hx hv
    exact⟨c7,by simp [Leaf.ids,hpL,lookL],by simp [LVal]⟩
  ·simp only[hpL,lookL] at ho
   split at ho
   ·rename_i he
    have he:o = 0:=by simpa using he
    subst he
    injection ho with ho
    subst ho
    refine⟨?_,fun b hb'=>?_⟩
    ·show Own (α:=CZ 1) 2 _ e w' (if (0:Nat) = 0 then v' else G.hv 0) (strs r)
     rw[if_pos rfl]
     refine c8 _ (fun g hg=>if_pos hg) fun b=>?_
     dsimp only
     split
     ·rename_i he
      have:=hcolb b he
      rw[this]
      exact⟨fun h=>absurd h (by decide),fun h=>absurd h (by decide)⟩
     ·exact Iff.rfl
    ·have hb':(if (0:Nat) = 0 then v' else G.hv 0).ownBlock = some b:=hb'
     rw[if_pos rfl,c6] at hb'
     show b = if (0:Nat) = 0 then v0.ownBlock.getD 0 else G.bl 0
     rw[if_pos rfl,hb']; rfl
   ·split at ho
    ·injection ho with ho
     subst ho
     trivial
    ·cases ho
 rintro en w' (⟨rfl,rfl,rfl⟩ | ⟨g,cap,cur,off,q,pad,hv,hg,hbk,hm,hs,rfl,rfl,hpl,hin⟩)
 ·refine hG w' v0 rfl rfl rfl (Nat.le_refl _) (fun b _ _=>rfl) rfl ?_ fun χ' h1 h2=>?_
  ·rcases own_strs hown with⟨hv,_⟩ | ⟨_,_,_,_,hv,_⟩ <;> rw[hv] <;> rfl
  ·refine⟨?_,h1⟩
   obtain⟨xs,hor,hrd⟩:=hown.ex
   refine⟨xs,hor,fun i x hx=>?_⟩
   have:=hrd i x hx
   exact⟨this.1,this.2.frame fun b hb hlt=>⟨(h2 b).2 hb,rfl⟩⟩
 ·refine hG _ _ rfl rfl rfl aft_size (fun b hb hne=>aft_other hb (fun e=>hne (by rw[hv,e]; rfl))) (by rw[hv]; rfl) rfl fun χ' h1 h2=>?_
  exact own_aft hbk hpl hm hs (h1 g (by rw[hv]; rfl)) hin
theorem mem_compact {l:List Bs} {x:Bs} (h:x ∈ Lib.compact l):x ∈ l:=by
 unfold Lib.compact Lib.compactUpTo at h
 obtain⟨i,hi,rfl⟩:=List.mem_map.1 h
 have hi:=List.mem_range.1 (List.mem_filter.1 hi).1
 simp [hi]
theorem compact_len (l:List Bs):(Lib.compact l).length ≤ l.length:=by
 unfold Lib.compact Lib.compactUpTo
 rw[List.length_map]
 exact Nat.le_trans (List.length_filter_le _ _) (by simp)
theorem compS_con {P:Program} {f:FuncId} {e:TypeId} (hc:callable P f = true)
  (h1:∀ (blk off cap:Nat) (zs:List Bs) (w:World),Sort.Holds (encT) w blk off zs.toArray → zs.length ≤ 9223372036854775807 → zs.length ≤ cap →
   Calls P f #[.slice (some ⟨blk,off,none⟩) zs.length cap] w fun e w'=>e = .returned (.slice (some ⟨blk,off,none⟩) (Lib.compact zs).length cap) ∧ ∃ q,w' = Sort.putRow (encT) (Sort.ahead w q) blk off (Lib.compact zs ++ List.replicate (zs.length - (Lib.compact zs).length) []).toArray)
  (h0:∀ (a:Option Addr) (cap:Nat) (w:World),Calls P f #[.slice a 0 cap] w fun e w'=>e = .returned (.slice a 0 cap) ∧ w' = w):ConOK P (compSCon f e):=by
 refine⟨hc,fun x r hr=>?_⟩
 obtain⟨l,rfl⟩:∃ m:List Bs,m = x:=⟨x,rfl⟩
 obtain⟨r,rfl⟩:∃ m:List Bs,m = r:=⟨r,rfl⟩
 have hr:compS l = some r:=hr
 unfold compS at hr
 obtain⟨hb,hr⟩:=cond_some hr
 rw[bleN,decide_eq_true_eq] at hb
 injection hr with hr
 have hcl:=compact_len l
 have key:MeetsH P f ⟨[.c (.v (.own 1000000))],[(1000000,.arr e 1 (strs l))],.one (.v (.own 0)),[(0,.arr e 1 (strs r)),(1000000,.gone)]⟩:=by
  refine back_meets (H:=fun _=>True) (fun _ _ _ _ _ _ _=>trivial) fun w v us G hp hus χ hown=>?_
  have hu:us = []:=by
   have:=hus.1
   match us,this with
   | [],_=>rfl
  subst hu
  rcases own_strs hown with⟨hv,hl⟩ | ⟨g,cap,cur,off,hv,hg,hcol,hbk,hnc,hm,hs,hH,hin⟩
  ·rw[hv]
   refine (h0 none 0 w).mono ?_
   rintro en w' ⟨rfl,rfl⟩
   refine .inl ⟨rfl,rfl,?_⟩
   rw[← hr,hl]; rfl
  ·rw[hv]
   refine (h1 g off cap l w hH (by omega) hnc).mono ?_
   rintro en w' ⟨rfl,q,rfl⟩
   rw[hr] at hcl ⊢
   refine .inr ⟨g,cap,cur,off,q,List.replicate (l.length - r.length) [],rfl,hg,hbk,hm,hs,rfl,aft_none,by rw[List.length_append,List.length_replicate]; omega,fun x hx=>hin x (mem_compact (by rw[hr]; exact hx))⟩
 have hl:∀ l:List Bs,listAs .str ⟨.sl .str,l⟩ = l:=fun l=>listAs_d (t := .str) l
 have e1:(compSCon f e).spec l r = ⟨[.c (.v (.own 1000000))],[(1000000,.arr e 1 (strs l))],.one (.v (.own 0)),[(0,.arr e 1 (strs r)),(1000000,.gone)]⟩:=by
  show HSpec.mk _ [(1000000,TObj.un (.arr e .str (listAs .str ⟨.sl .str,l⟩)))] _ [(0,TObj.un (.arr e .str (listAs .str ⟨.sl .str,r⟩))),(1000000,.gone)] = _
  rw[hl,hl]
  rfl
 show MeetsH P f ((compSCon f e).spec l r)
 rw[e1]
 exact key
end Go.Lad
namespace Go.Proofs.YtcmibmohdnbhgaaGreatDoor
open Go.Lad Go.Proofs Go.Lib Go.RowKit Go.Shelf
def cutS:Bs:=[97,98,99,100,101,102,103,104,105,106,107,108,109,110,111,112,113,114,115,116,117,118,119,120,121,122,48,49,50,51,52,53,54,55,56,57,45,46]
def inR' (c:Nat):Bool:=decide (0 ≤ Lib.indexByte cutS c.toUInt8)
theorem clo_ok (c:Nat) (hc:c < 128) (w:World):Calls Tryz.prog 74 #[.int .i32 (c:Int)] w fun e w'=>e = .returned (.bool (!inR' c)) ∧ w' = w:=by
 have h:Calls Tryz.prog 75 #[.string ⟨#[97,98,99,100,101,102,103,104,105,106,107,108,109,110,111,112,113,114,115,116,117,118,119,120,121,122,48,49,50,51,52,53,54,55,56,57,45,46]⟩,.int .i32 (c:Int)] w fun e w'=>e = .returned (.bool (inR' c)) ∧ w' = w:=Tryz.strings_ContainsRune_ascii (mkS cutS) c w (by omega) (by omega)
 have hnot:∀ (x:Bool) (w:World),(Op.unary .not (.bool x)).run Tryz.prog w = .ok (.bool (!x)) w:=fun _ _=>rfl
 generalize hq:inR' c = q at h ⊢
 go_enter Tryz.func74,Tryz.ntmps74
 go_wp2_with (go_at_call 75; refine h.mono ?_; rintro e w' ⟨rfl,rfl⟩)
 go_ret
 exact⟨rfl,rfl⟩
set_option maxHeartbeats 2000000 in
set_option maxRecDepth 1000000 in
theorem idx_ok (s:ByteArray) (hs:∀ (j:Nat) (h:j < s.size),(s[j]'h).toNat < 128 ∧ inR' (s[j]'h).toNat = true) (w:World):Calls Tryz.prog 148 #[.string s,.func (.func 74) #[] #[],.bool true] w fun e w'=>e = .returned (.int .i64 (-1)) ∧ Below w.heap.size w w':=by
 have eg:∀ args w,(callFunc 74 args).run Tryz.prog w = .ok (.enter 74 args) w:=enters_of Tryz.func74 (by kernel_rfl) rfl
 go_enter Tryz.func148,Tryz.ntmps148
 go_wp2
 go_loopg [] s.size (fun gf wx=>∃ pos:Nat,wx.heap[w.heap.size]? = some (.stringIter s pos) ∧ Below w.heap.size w wx ∧ s.size ≤ pos + gf)
 case atStart=>exact⟨0,World.iter_heap w s 0,(Below.refl _ w).alloc (Nat.le_refl _) _,by omega⟩
 case round =>
  obtain⟨pos,hit,hbw,hfu⟩:=hrel
  by_cases hps:pos < s.size
  ·obtain⟨g',rfl⟩:∃ g',gk = g' + 1:=⟨gk - 1,by omega⟩
   have hnx:∀ ty,(Instr.next (.pointer (some ⟨w.heap.size,0,none⟩)) true ty).run Tryz.prog wr = _:=fun ty=>Lib.run_next_any_at wr w.heap.size s pos ty hit hps
   obtain⟨ha,hin⟩:=hs pos hps
   obtain⟨R,hR⟩:∃ R,(s[pos]'hps).toNat = R:=⟨_,rfl⟩
   rw[hR] at ha hin
   rw[decode_ascii s pos hps (by rw[hR]; exact ha),hR] at hnx
   have hit2:=Lib.iterAt_heap wr w.heap.size s pos (pos + 1) hit
   have hbw2:=Lib.below_iterAt hbw (k:=w.heap.size) (Nat.le_refl _) s (pos + 1)
   obtain⟨W,hWd⟩:∃ W,wr.iterAt w.heap.size s (pos + 1) = W:=⟨_,rfl⟩
   dsimp only at hnx
   rw[hWd] at hnx hit2 hbw2
   have cS:=clo_ok R ha W
   rw[hin] at cS
   go_wp2_with (go_at_fn 74; refine cS.mono ?_; rintro e W' ⟨rfl,rfl⟩)
   go_roundg g'
   case measure=>omega
   case rel=>exact⟨pos + 1,hit2,hbw2,by omega⟩
  ·have hnx:∀ ty,(Instr.next (.pointer (some ⟨w.heap.size,0,none⟩)) true ty).run Tryz.prog wr = _:=fun ty=>Lib.run_next_end_at wr w.heap.size s pos ty hit hps
   go_wp2
   go_ret
   exact⟨rfl,hbw⟩
theorem idxF_ok (s:ByteArray) (hs:∀ (j:Nat) (h:j < s.size),(s[j]'h).toNat < 128 ∧ inR' (s[j]'h).toNat = true) (w:World):Calls Tryz.prog 119 #[.string s,.func (.func 74) #[] #[]] w fun e w'=>e = .returned (.int .i64 (-1)) ∧ Below w.heap.size w w':=by
 have c:=idx_ok s hs w
 clear hs
 go_enter Tryz.func119,Tryz.ntmps119
 go_wp2_with (go_at_call 148; refine c.mono ?_; rintro e w' ⟨rfl,hb⟩)
 go_ret
 exact⟨rfl,hb⟩
theorem cont_ok (s:ByteArray) (hs:∀ (j:Nat) (h:j < s.size),(s[j]'h).toNat < 128 ∧ inR' (s[j]'h).toNat = true) (w:World):Calls Tryz.prog 73 #[.string s,.func (.func 74) #[] #[]] w fun e w'=>e = .returned (.bool false) ∧ Below w.heap.size w w':=by
 have c:=idxF_ok s hs w
 clear hs
 go_enter Tryz.func73,Tryz.ntmps73
 go_wp2_with (go_at_call 119; refine c.mono ?_; rintro e w' ⟨rfl,hb⟩)
 go_ret
 exact⟨rfl,hb⟩
theorem quiet {w w':World} {G:Gh} {p:PV} {v:Value} (hnorm:Norm G.χ w) (hw:Below w.heap.size w w') (hp:Rd (In G.χ 0) w' p v):∃ (G':Gh) (v':Value) (us:List Value),Ending.returned v = .returned v' ∧ (Rz.one (.v (.p p))).val v' us ∧ w'.os = w.os ∧ w'.tape = w.tape ∧ w'.output = w.output ∧ w.heap.size ≤ w'.heap.size ∧
   (∀ b,b < w.heap.size → G.χ b ≤ 1 → w'.heap[b]? = w.heap[b]? ∧ G'.χ b = G.χ b) ∧ (∀ b,2 ≤ G'.χ b → 2 ≤ G.χ b ∨ w.heap.size ≤ b) ∧ (∀ o,1000000 ≤ o → G'.bl o = G.bl o ∧ G'.hv o = G.hv o) ∧ Norm G'.χ w' ∧
   All2 (CRd G' (hpL []) w') (Rz.one (.v (.p p))).comps us ∧ (∀ o h,hpL [] o = some h → HRd G' (hpL []) w' o h):=by
 refine⟨G,_,[v],rfl,rfl,hw.os,hw.tape,hw.output,hw.size,fun b hb _=>⟨hw.block b hb,rfl⟩,fun b hb=>.inl hb,fun _ _=>⟨rfl,rfl⟩,fun b hb=>hnorm b (Nat.le_trans hw.size hb),⟨rfl,fun i x v hx hv=>?_⟩,(fun o h ho=>by cases ho)⟩
 cases i with
 | zero =>
  simp [Rz.comps] at hx hv
  subst hx hv
  exact⟨hp.one,by simp [Leaf.ids],hp⟩
 | succ i=>simp [Rz.comps] at hx
theorem trim_con:ConOK Tryz.prog (trimCon 72):=by
 refine⟨by kernel_rfl,fun x r hr=>?_⟩
 obtain⟨l,cs⟩:=x
 obtain⟨l,rfl⟩:∃ m:Bs,m = l:=⟨l,rfl⟩
 obtain⟨cs,rfl⟩:∃ m:Bs,m = cs:=⟨cs,rfl⟩
 obtain⟨r,rfl⟩:∃ m:Bs,m = r:=⟨r,rfl⟩
 have hr:trimF l cs = some r:=hr
 unfold trimF at hr
 obtain⟨hb,hr⟩:=cond_some hr
 rw[Bool.and_eq_true,bleN,decide_eq_true_eq] at hb
 injection hr with hr
 show MeetsH Tryz.prog 72 ⟨[.c (.v (.p (.str (mkS l)))),.c (.v (.p (.str (mkS cs))))],[],.one (.v (.p (.str (mkS r)))),[]⟩
 intro w G vs hnorm hglob hargs _
 obtain⟨v0,v1,rfl⟩:∃ v0 v1,vs = [v0,v1]:=by
  have:=hargs.1
  match vs,this with
  | [a,b],_=>exact⟨a,b,rfl⟩
 have r0:Rd (In G.χ 0) w (.str (mkS l)) v0:=(hargs.2 0 _ _ rfl rfl:SRd G _ w _ v0).val
 have r1:Rd (In G.χ 0) w (.str (mkS cs)) v1:=(hargs.2 1 _ _ rfl rfl:SRd G _ w _ v1).val
 have hv1:v1 = .string (mkS cs):=by cases r1; rfl
 obtain⟨hv0,hsz⟩:v0 = .string (mkS l) ∧ (mkS l).size ≤ 9223372036854775807:=by cases r0; exact⟨rfl,by assumption⟩
 subst hv0
 subst hv1
 refine (Any.strings_Trim_laid Tryz.lays160 (by kernel_rfl) (mkS l) (mkS cs) w hsz (by rw[mkS_size]; omega) (fun j b hj=>?_)).mono ?_
 ·rw[mkS_data] at hj
  have:=List.all_eq_true.1 hb.1 b (List.mem_of_getElem? hj)
  simp [Nat.blt] at this
  omega
 ·rintro e w' ⟨rfl,hw⟩
  rw[mkS_data,mkS_data,hr]
  refine quiet hnorm hw (.str ?_)
  rw[mkS_size] at hsz ⊢
  have h1:∀ (q:Bs),(Lib.trimLeftS q cs).length ≤ q.length:=fun q=>by unfold Lib.trimLeftS; exact (List.dropWhile_sublist _).length_le
  have h2:(Lib.trimRightS l cs).length ≤ l.length:=by unfold Lib.trimRightS; rw[List.length_reverse]; exact Nat.le_trans (List.dropWhile_sublist _).length_le (by simp)
  have h3:r.length ≤ l.length:=by rw[← hr]; exact Nat.le_trans (h1 _) h2
  omega
theorem licC_all:(List.range 256).all (fun n=>!licC (UInt8.ofNat n) || (Nat.blt n 128 && inR' n)) = true:=by kernel_rfl
theorem licC_in (c:UInt8) (h:licC c = true):c.toNat < 128 ∧ inR' c.toNat = true:=by
 have:=List.all_eq_true.1 licC_all c.toNat (List.mem_range.2 c.toNat_lt)
 rw[show UInt8.ofNat c.toNat = c by simp,h,Bool.not_true,Bool.false_or,Bool.and_eq_true] at this
 refine⟨?_,this.2⟩
 have h1:=this.1
 simp [Nat.blt] at h1
 omega
theorem contF_con:ConOK Tryz.prog (contFCon 73 74):=by
 refine⟨by kernel_rfl,fun x r hr=>?_⟩
 obtain⟨l,rfl⟩:∃ m:Bs,m = x:=⟨x,rfl⟩
 obtain⟨r,rfl⟩:∃ m:Bool,m = r:=⟨r,rfl⟩
 have hr:contFF l = some r:=hr
 unfold contFF at hr
 obtain⟨hb,hr⟩:=cond_some hr
 injection hr with hr
 show MeetsH Tryz.prog 73 ⟨[.c (.v (.p (.str (mkS l)))),.c (.v (.fn 148 []))],[],.one (.v (.p (.bool r))),[]⟩
 intro w G vs hnorm hglob hargs _
 obtain⟨v0,v1,rfl⟩:∃ v0 v1,vs = [v0,v1]:=by
  have:=hargs.1
  match vs,this with
  | [a,b],_=>exact⟨a,b,rfl⟩
 have r0:Rd (In G.χ 0) w (.str (mkS l)) v0:=(hargs.2 0 _ _ rfl rfl:SRd G _ w _ v0).val
 have h1:=(hargs.2 1 _ _ rfl rfl:SRd G _ w _ v1)
 have hv1:v1 = .func (.func 74) #[] #[]:=(h1:LRd G _ w (.fn 148 []) v1).val
 have hv0:v0 = .string (mkS l):=by cases r0; rfl
 subst hv0
 subst hv1
 refine (cont_ok (mkS l) (fun j h=>?_) w).mono ?_
 ·have hj:(mkS l)[j]'h ∈ l:=by
   have:(mkS l)[j]'h = l[j]'(by rw[mkS_size] at h; exact h):=by simp [mkS,ByteArray.getElem_eq_getElem_data]
   rw[this]; exact List.getElem_mem _
  exact licC_in _ (List.all_eq_true.1 hb _ hj)
 ·rintro e w' ⟨rfl,hw⟩
  rw[← hr]
  exact quiet hnorm hw .bool
end Go.Proofs.YtcmibmohdnbhgaaGreatDoor
namespace Go.Proofs.YtcmibmohdnbhgaaGreatDoor
open Go.Lad Go.Proofs Go.Lib Go.RowKit Go.Shelf
theorem nan_ok (s:ByteArray) (w:World):Calls Tryz.prog 145 #[.string s] w fun e w'=>e = .returned (.bool false) ∧ w' = w:=by
 go_enter Tryz.func145,Tryz.ntmps145
 go_wp2
 go_ret
 simp
def cmpB (x y:Bs):Int:=if Op.bytesLess x y = true then -1 else if x == y then 0 else 1
set_option maxRecDepth 100000 in
theorem cmpS_ok (s t:ByteArray) (w:World):Calls Tryz.prog 123 #[.string s,.string t] w fun e w'=>e = .returned (.int .i64 (cmpB s.toList t.toList)) ∧ w' = w:=by
 have h1:=nan_ok s w
 have h2:=nan_ok t w
 unfold cmpB
 cases b1:Op.bytesLess s.toList t.toList <;> cases b2:(s.toList == t.toList)
 all_goals
  go_enter Tryz.func123,Tryz.ntmps123
  go_wp2_with (go_at_call 145; first | (refine h1.mono ?_; rintro e w' ⟨rfl,rfl⟩) | (refine h2.mono ?_; rintro e w' ⟨rfl,rfl⟩))
  go_ret
  exact⟨rfl,rfl⟩
set_option maxHeartbeats 2000000 in
set_option maxRecDepth 100000 in
theorem or_ok (b:Nat) (x y:Int) (w:World) (h0:w.cell? ⟨b,0,none⟩ = some (.int .i64 x)) (h1:w.cell? ⟨b,1,none⟩ = some (.int .i64 y)):Calls Tryz.prog 79 #[.slice (some ⟨b,0,none⟩) 2 2] w fun e w'=>e = .returned (.int .i64 (if x = 0 then y else x)) ∧ w' = w:=by
 by_cases hx:x = 0
 ·rw[if_pos hx]
  by_cases hy:y = 0
  ·subst hx hy
   go_enter Tryz.func79,Tryz.ntmps79
   go_wp2
   go_loopg [8] 2 (fun g s8 wr=>∃ k:Nat,k ≤ 2 ∧ 2 - k ≤ g ∧ s8 = .int .i64 k ∧ wr = w)
   case atStart=>exact⟨0,by omega,by omega,rfl,rfl⟩
   case round =>
    obtain⟨k,hk,hg,rfl,rfl⟩:=hrel
    match k,hk with
    | 0,_ =>
     go_wp2
     go_roundg 1
     case measure=>omega
     case rel=>exact⟨1,by omega,by omega,rfl,rfl⟩
    | 1,_ =>
     go_wp2
     go_roundg 0
     case measure=>omega
     case rel=>exact⟨2,by omega,by omega,rfl,rfl⟩
    | 2,_ =>
     go_wp2
     go_ret
     exact⟨rfl,rfl⟩
  ·subst hx
   go_enter Tryz.func79,Tryz.ntmps79
   go_wp2
   go_loopg [8] 2 (fun g s8 wr=>∃ k:Nat,k ≤ 1 ∧ 2 - k ≤ g ∧ s8 = .int .i64 k ∧ wr = w)
   case atStart=>exact⟨0,by omega,by omega,rfl,rfl⟩
   case round =>
    obtain⟨k,hk,hg,rfl,rfl⟩:=hrel
    match k,hk with
    | 0,_ =>
     go_wp2
     go_roundg 1
     case measure=>omega
     case rel=>exact⟨1,by omega,by omega,rfl,rfl⟩
    | 1,_ =>
     go_wp2
     go_ret
     exact⟨rfl,rfl⟩
 ·rw[if_neg hx]
  go_enter Tryz.func79,Tryz.ntmps79
  go_wp2
  go_loopg [8] 2 (fun g s8 wr=>s8 = .int .i64 0 ∧ wr = w)
  case atStart=>exact⟨rfl,rfl⟩
  case round =>
   obtain⟨rfl,rfl⟩:=hrel
   go_wp2
   go_ret
   exact⟨rfl,rfl⟩
def cmpL:List ByteArray → List ByteArray → Int
 | [],[]=>0
 | [],_ :: _=>-1
 | _ :: _,[]=>1
 | x :: a,y :: b=>if cmpB x.toList y.toList = 0 then cmpL a b else cmpB x.toList y.toList
set_option maxHeartbeats 2000000 in
set_option maxRecDepth 100000 in
theorem cmpL_ok (A1 A2:Option Addr) (b1 o1 c1 b2 o2 c2:Nat) (xs ys:List ByteArray) (w:World) (hx:xs.length ≤ 9223372036854775807) (hy:ys.length ≤ 9223372036854775807) (h1:∀ j x,xs[j]? = some x → A1 = some ⟨b1,o1,none⟩ ∧ w.cell? ⟨b1,o1 + j,none⟩ = some (.string x)) (h2:∀ j y,ys[j]? = some y → A2 = some ⟨b2,o2,none⟩ ∧ w.cell? ⟨b2,o2 + j,none⟩ = some (.string y)) :
  Calls Tryz.prog 81 #[.slice A1 xs.length c1,.slice A2 ys.length c2] w fun e w'=>e = .returned (.int .i64 (cmpL xs ys)) ∧ w' = w:=by
 obtain⟨n,hn⟩:∃ n,xs.length = n:=⟨_,rfl⟩
 obtain⟨m,hm⟩:∃ m,ys.length = m:=⟨_,rfl⟩
 rw[hn,hm]
 rw[hn] at hx
 rw[hm] at hy
 have H:Aside (xs.length = n ∧ ys.length = m):=⟨hn,hm⟩
 clear hn hm
 go_enter Tryz.func81,Tryz.ntmps81
 go_wp2
 go_loopg [11] n (fun g s11 wr=>∃ k:Nat,k ≤ n ∧ n - k ≤ g ∧ s11 = .int .i64 k ∧ wr = w ∧ cmpL (xs.drop k) (ys.drop k) = cmpL xs ys ∧ k ≤ m)
 case atStart=>exact⟨0,Nat.zero_le _,by omega,rfl,rfl,rfl,Nat.zero_le _⟩
 case round =>
  obtain⟨k,hk,hg,rfl,rfl,heq,hkm⟩:=hrel
  by_cases hlt:k < n
  ·by_cases hlm:k < m
   ·have hxk:k < xs.length:=by rw[H.1]; exact hlt
    have hyk:k < ys.length:=by rw[H.2]; exact hlm
    obtain⟨e1,g1⟩:=h1 k _ (List.getElem?_eq_getElem hxk)
    obtain⟨e2,g2⟩:=h2 k _ (List.getElem?_eq_getElem hyk)
    subst e1 e2
    rw[List.drop_eq_getElem_cons hxk,List.drop_eq_getElem_cons hyk] at heq
    replace heq:(if cmpB xs[k].toList ys[k].toList = 0 then cmpL (xs.drop (k + 1)) (ys.drop (k + 1)) else cmpB xs[k].toList ys[k].toList) = cmpL xs ys:=heq
    have cS:=cmpS_ok xs[k] ys[k] wr
    obtain⟨x,hxe⟩:∃ x,xs[k] = x:=⟨_,rfl⟩
    obtain⟨y,hye⟩:∃ y,ys[k] = y:=⟨_,rfl⟩
    rw[hxe,hye] at heq cS
    rw[hxe] at g1
    rw[hye] at g2
    obtain⟨c,hc⟩:∃ c,cmpB x.toList y.toList = c:=⟨_,rfl⟩
    rw[hc] at heq cS
    by_cases hc0:c = 0
    ·subst hc0
     rw[if_pos rfl] at heq
     have A:Aside (cmpL (xs.drop (k + 1)) (ys.drop (k + 1)) = cmpL xs ys):=heq
     clear heq h1 h2 hxe hye hxk hyk hc
     go_wp2_with (go_at_call 123; refine cS.mono ?_; rintro e w' ⟨rfl,rfl⟩)
     go_roundg (n - (k + 1))
     case measure=>omega
     case rel=>exact⟨k + 1,by omega,by omega,by go_num,rfl,A,by omega⟩
    ·rw[if_neg hc0] at heq
     have A:Aside (c = cmpL xs ys):=heq
     clear heq h1 h2 hxe hye hxk hyk hc
     go_wp2_with (go_at_call 123; refine cS.mono ?_; rintro e w' ⟨rfl,rfl⟩)
     go_ret
     have A:c = cmpL xs ys:=A
     exact⟨by rw[← A] <;> rfl,rfl⟩
   ·have hkm:k = m:=by omega
    subst hkm
    have A:Aside (cmpL (xs.drop k) (ys.drop k) = cmpL xs ys):=heq
    obtain⟨e1,g1⟩:=h1 k _ (List.getElem?_eq_getElem (show k < xs.length by rw[H.1]; exact hlt))
    subst e1
    obtain⟨x,hxe⟩:∃ x,xs[k]'(show k < xs.length by rw[H.1]; exact hlt) = x:=⟨_,rfl⟩
    rw[hxe] at g1
    clear heq h1 h2 hxe
    go_wp2
    go_ret
    refine⟨?_,rfl⟩
    have:=A
    rw[List.drop_eq_getElem_cons (show k < xs.length by rw[H.1]; exact hlt),List.drop_of_length_le (show ys.length ≤ k by rw[H.2]; exact Nat.le_refl _)] at this
    rw[← this]
    rfl
  ·have hkn:k = n:=by omega
   subst hkn
   have A:Aside (cmpL (xs.drop k) (ys.drop k) = cmpL xs ys):=heq
   clear heq h1 h2
   by_cases hlm:k < m
   ·go_wp2
    go_ret
    refine⟨?_,rfl⟩
    have:=A
    rw[List.drop_eq_getElem_cons (show k < ys.length by rw[H.2]; exact hlm),List.drop_of_length_le (show xs.length ≤ k by rw[H.1]; exact Nat.le_refl _)] at this
    rw[← this]
    rfl
   ·have hkm:k = m:=by omega
    subst hkm
    go_wp2
    go_ret
    refine⟨?_,rfl⟩
    have:=A
    rw[List.drop_of_length_le (show ys.length ≤ k by rw[H.2]; exact Nat.le_refl _),List.drop_of_length_le (show xs.length ≤ k by rw[H.1]; exact Nat.le_refl _)] at this
    rw[← this]
    rfl
def cmpI (a b:List ByteArray):Int:=if Lib.compareInt a.length b.length = 0 then cmpL a b else Lib.compareInt a.length b.length
set_option maxHeartbeats 2000000 in
set_option maxRecDepth 100000 in
theorem less_ok (A1 A2:Option Addr) (b1 o1 c1 b2 o2 c2:Nat) (xs ys:List ByteArray) (w:World) (hx:xs.length ≤ 9223372036854775807) (hy:ys.length ≤ 9223372036854775807) (h1:∀ j x,xs[j]? = some x → A1 = some ⟨b1,o1,none⟩ ∧ w.cell? ⟨b1,o1 + j,none⟩ = some (.string x)) (h2:∀ j y,ys[j]? = some y → A2 = some ⟨b2,o2,none⟩ ∧ w.cell? ⟨b2,o2 + j,none⟩ = some (.string y)) :
  Calls Tryz.prog 78 #[.slice A1 xs.length c1,.slice A2 ys.length c2] w fun e w'=>e = .returned (.int .i64 (cmpI xs ys)) ∧ ∃ cs t,w' = w.alloc (.cells cs t):=by
 have cL:=cmpL_ok A1 A2 b1 o1 c1 b2 o2 c2 xs ys w hx hy h1 h2
 have cC:=Tryz.cmp_Compare_int xs.length ys.length w
 unfold cmpI
 obtain⟨n,hn⟩:∃ n,xs.length = n:=⟨_,rfl⟩
 obtain⟨m,hm⟩:∃ m,ys.length = m:=⟨_,rfl⟩
 rw[hn,hm] at cL cC ⊢
 obtain⟨p,hp⟩:∃ p,cmpL xs ys = p:=⟨_,rfl⟩
 obtain⟨q,hq⟩:∃ q,Lib.compareInt n m = q:=⟨_,rfl⟩
 rw[hp] at cL ⊢
 rw[hq] at cC ⊢
 have cO:∀ (t:TypeId) (W:World),W = w.alloc (.cells #[.int .i64 q,.int .i64 p] t) → Calls Tryz.prog 79 #[.slice (some ⟨w.heap.size,0,none⟩) 2 2] W fun e w'=>e = .returned (.int .i64 (if q = 0 then p else q)) ∧ w' = W:=fun t W hW=>by
  subst hW
  exact or_ok w.heap.size q p _ (by rw[World.cell?,heap_alloc_new]; rfl) (by rw[World.cell?,heap_alloc_new]; rfl)
 obtain⟨z,hz⟩:∃ z,(if q = 0 then p else q) = z:=⟨_,rfl⟩
 rw[hz] at cO ⊢
 clear h1 h2 hp hq hn hm hx hy hz
 go_enter Tryz.func78,Tryz.ntmps78
 go_wp2_with (first | (go_at_call 80; refine cC.mono ?_; rintro e w' ⟨rfl,rfl⟩) | (go_at_call 81; refine cL.mono ?_; rintro e w' ⟨rfl,rfl⟩) | (go_at_call 79; refine (cO _ _ rfl).mono ?_; rintro e w' ⟨rfl,rfl⟩))
 go_ret
 exact⟨rfl,_,_,rfl⟩
end Go.Proofs.YtcmibmohdnbhgaaGreatDoor
namespace Go.Lad
open Go.RowKit Go.Sort Go.Proofs
def rowS (x:List Bs):List PV:=[PV.sl (x.map fun y=>[PV.str (mkS y)])]
def rowsS (l:List (List Bs)):List (List PV):=l.map rowS
section
variable {α:Type} [Inhabited α] {enc:α → Value} {w:World} {q g off:Nat} {d:Array α} {os:Array Obj}
theorem sw_size:w.heap.size ≤ (sortWorld enc w g off q d os).heap.size:=by simp [sortWorld,Sort.grow,Sort.putRow,Sort.mapBlock,Sort.ahead]
theorem sw_get {cur:Array Value} {e:TypeId} {fr:Nat × Nat} (hb:w.heap[g]? = some (.cells cur e fr)):(sortWorld enc w g off q d os).heap[g]? = some (.cells (Sort.putCells enc off d cur) e fr):=by
 have hg:g < w.heap.size:=(Array.getElem?_eq_some_iff.1 hb).1
 unfold sortWorld
 rw[Sort.heap_grow_old _ _ (by simpa [Sort.putRow,Sort.mapBlock,Sort.ahead] using hg)]
 simp [Sort.putRow,Sort.mapBlock,Sort.ahead,Array.getElem?_modify,hb,Sort.onCells]
theorem sw_row {cur:Array Value} {e:TypeId} (hb:RowAt w g cur e):RowAt (sortWorld enc w g off q d os) g (Sort.putCells enc off d cur) e:=by
 obtain⟨fr,h1,h2⟩:=hb
 exact⟨fr,sw_get h1,by rw[show (Sort.putCells enc off d cur).size = cur.size by simp [Sort.putCells]]; exact h2⟩
theorem sw_other {b:Nat} (hb:b < w.heap.size) (hne:g ≠ b):(sortWorld enc w g off q d os).heap[b]? = w.heap[b]? := by
 unfold sortWorld
 rw[Sort.heap_grow_old _ _ (by simpa [Sort.putRow,Sort.mapBlock,Sort.ahead] using hb)]
 simp [Sort.putRow,Sort.mapBlock,Sort.ahead,Array.getElem?_modify,hne]
theorem sw_cells {cur:Array Value} (h:off + d.size ≤ cur.size):((Sort.putCells enc off d cur).toList.drop off).take d.size = d.toList.map enc:=by
 apply List.ext_getElem?
 intro j
 by_cases hj:j < d.size
 ·rw[List.getElem?_take_of_lt hj,List.getElem?_drop,Array.getElem?_toList,List.getElem?_map,Array.getElem?_toList]
  have h1:off + j < cur.size:=by omega
  simp [Sort.putCells,h1,hj,show off + j < off + d.size by omega]
 ·rw[List.getElem?_take_eq_none (by omega),List.getElem?_eq_none (by simp; omega)]
end
theorem rowsS_at {l:List (List Bs)} {j:Nat} (hj:j < l.length):(rowsS l)[j]? = some (rowS l[j]):=by unfold rowsS; rw[List.getElem?_map,List.getElem?_eq_getElem hj]; rfl
theorem own_rows {w:World} {k e:Nat} {χ:Col} {v:Value} {l:List (List Bs)} (h:Own (α:=CZ 1) k χ e w v (rowsS l)) :
  (v = .slice none 0 0 ∧ l = []) ∨ ∃ g cap cur off,∃ xs:List Value,v = .slice (some ⟨g,off,none⟩) l.length cap ∧ χ g = k ∧ RowAt w g cur e ∧ l.length ≤ cap ∧ cap ≤ maxLen ∧ off + cap ≤ cur.size ∧ xs.length = l.length ∧
   (∀ j u,xs[j]? = some u → w.cell? ⟨g,off + j,none⟩ = some u) ∧ ∀ j (hj:j < l.length) (hx:j < xs.length),Rd (In χ 0) w (.sl (l[j].map fun y=>[PV.str (mkS y)])) xs[j]:=by
 obtain⟨xs,hor,hrd⟩:=h.ex
 have hlen:List.length (α:=CZ 1) (rowsS l) = l.length:=by show List.length (α:=List PV) (rowsS l) = _; unfold rowsS; simp
 have hxl:xs.length = l.length:=by
  have:=hor.1
  rw[show GoRep.sz (CZ 1) = 1 from rfl,Nat.mul_one] at this
  exact this.trans hlen
 rcases hor.2 with⟨hv,hn⟩ | ⟨g,cap,cur,off,hv,_,hb,hnc,hm,hsz,hxs⟩
 ·exact .inl ⟨hv,List.eq_nil_of_length_eq_zero (by rw[← hlen]; exact hn)⟩
 ·refine .inr ⟨g,cap,cur,off,xs,by rw[hv]; congr 1,h.col g (by rw[hv]; rfl),hb,by rw[← hlen]; exact hnc,hm,by rw[show GoRep.sz (CZ 1) = 1 from rfl,Nat.mul_one] at hsz; exact hsz,hxl,fun j u hj=>?_,fun j hj hx=>?_⟩
  ·have hcell:=oRow.cells hor (g:=g) (by rw[hv]; rfl) j u hj
   have ho:hOff v = off:=by rw[hv]; rfl
   rw[ho,add_at] at hcell
   exact hcell
  ·have hrow:=hrd j _ (rowsS_at hj)
   obtain⟨_,hR⟩:=hrow
   have hch:chunk (GoRep.sz (CZ 1)) j xs = [xs[j]'hx]:=by
    show (xs.drop (j * 1)).take 1 = _
    rw[Nat.mul_one,List.drop_eq_getElem_cons hx]; rfl
   rw[hch] at hR
   exact hR.2 0 _ _ rfl rfl
theorem rows_own {w:World} {k e g cap off:Nat} {χ:Col} {cur:Array Value} {xs:List Value} {l:List (List Bs)} (hb:RowAt w g cur e) (hc:l.length ≤ cap) (hm:cap ≤ maxLen) (hs:off + cap ≤ cur.size) (hk:χ g = k) (hxl:xs.length = l.length)
  (hcell:(cur.toList.drop off).take l.length = xs) (hrd:∀ j (hj:j < l.length) (hx:j < xs.length),Rd (In χ 0) w (.sl (l[j].map fun y=>[PV.str (mkS y)])) xs[j]) :
  Own (α:=CZ 1) k χ e w (.slice (some ⟨g,off,none⟩) l.length cap) (rowsS l):=by
 have hlen:List.length (α:=CZ 1) (rowsS l) = l.length:=by show List.length (α:=List PV) (rowsS l) = _; unfold rowsS; simp
 refine⟨⟨xs,⟨by rw[hxl,hlen]; show _ = _ * 1; omega,.inr ⟨g,cap,cur,off,by rw[hlen],Nat.zero_le _,hb,by rw[hlen]; exact hc,hm,?_,?_⟩⟩,fun j row hj=>?_⟩,fun b hb'=>?_⟩
 ·show off + cap * 1 ≤ _
  omega
 ·rw[hlen,show GoRep.sz (CZ 1) = 1 from rfl,Nat.mul_one]; exact hcell
 ·have hj:(l.map rowS)[j]? = some (show List PV from row):=hj
  rw[List.getElem?_map,Option.map_eq_some_iff] at hj
  obtain⟨x,hx,rfl⟩:=hj
  obtain⟨hjl,hxe⟩:=List.getElem?_eq_some_iff.1 hx
  have hjx:j < xs.length:=by omega
  have hch:chunk (GoRep.sz (CZ 1)) j xs = [xs[j]]:=by
   show (xs.drop (j * 1)).take 1 = _
   rw[Nat.mul_one,List.drop_eq_getElem_cons hjx]; rfl
  rw[hch]
  refine⟨rfl,rfl,fun i p u hp hu=>?_⟩
  cases i with
  | zero =>
   simp [rowS] at hp hu
   subst hp hu
   have:=hrd j hjl hjx
   rw[hxe] at this
   exact this
  | succ i=>simp [rowS] at hp
 ·simp [Value.ownBlock] at hb'
  subst hb'; exact hk
end Go.Lad
namespace Go.Proofs.YtcmibmohdnbhgaaGreatDoor
open Go.Lad Go.Proofs Go.Lib Go.RowKit Go.Shelf Go.Sort
theorem bl_cmp {x y:Bs}:(cmpB x y < 0 ↔ Op.bytesLess x y = true) ∧ (cmpB x y = 0 ↔ x = y):=by
 unfold cmpB
 by_cases h:x = y
 ·subst h; rw[bl_irrefl]; simp
 ·split
  ·rename_i h1; rw[h1]; simp [h]
  ·rename_i h1
   rw[if_neg (by simpa using h)]
   simp [h,h1]
theorem cmpL_iff:∀ (a b:List Bs),cmpL (a.map mkS) (b.map mkS) < 0 ∧ a.length = b.length ↔ a.length = b.length ∧ cmpSets.cmpL a b = true
 | [],[]=>by simp [cmpL,cmpSets.cmpL]
 | [],_ :: _=>by simp
 | _ :: _,[]=>by simp
 | x :: a,y :: b=>by
  rw[cl_cons,List.map_cons,List.map_cons,cmpL,mkS_toList,mkS_toList]
  have ih:=cmpL_iff a b
  by_cases h:x = y
  ·subst h
   rw[if_pos (bl_cmp.2.2 rfl),bl_irrefl]
   simp only[List.length_cons,Nat.add_right_cancel_iff,true_and,Bool.false_eq_true,or_false]
   exact ih
  ·rw[if_neg (fun e=>h (bl_cmp.2.1 e)),bl_cmp.1]
   simp [h,and_comm]
theorem cmpI_iff (a b:List Bs):cmpI (a.map mkS) (b.map mkS) < 0 ↔ cmpSets a b = true:=by
 rw[ss_iff]
 unfold cmpI Lib.compareInt
 rw[List.length_map,List.length_map]
 have:=cmpL_iff a b
 by_cases h1:a.length < b.length
 ·rw[if_pos (show (a.length:Int) < b.length by omega)]
  simp [h1]
 ·by_cases h2:b.length < a.length
  ·rw[if_neg (show ¬ (a.length:Int) < b.length by omega),if_pos (show (a.length:Int) > b.length by omega)]
   simp [h1]
   omega
  ·have he:a.length = b.length:=by omega
   rw[if_neg (show ¬ (a.length:Int) < b.length by omega),if_neg (show ¬ (a.length:Int) > b.length by omega),if_pos rfl]
   simp [he] at this ⊢
   exact this
theorem less_rd {F:Nat → Prop} {a b:List Bs} {u v:Value} {w:World} (hu:Rd F w (.sl (a.map fun y=>[PV.str (mkS y)])) u) (hv:Rd F w (.sl (b.map fun y=>[PV.str (mkS y)])) v) (W:World) (hf:∀ g,F g → g < w.heap.size → W.heap[g]? = w.heap[g]?) :
  Calls Tryz.prog 78 #[u,v] W fun e w'=>e = .returned (.int .i64 (cmpI (a.map mkS) (b.map mkS))) ∧ ∃ cs t,w' = W.alloc (.cells cs t):=by
 have key:∀ (a:List Bs) (u:Value),Rd F w (.sl (a.map fun y=>[PV.str (mkS y)])) u → ∃ A bk o c,u = .slice A (a.map mkS).length c ∧ (a.map mkS).length ≤ 9223372036854775807 ∧ ∀ j x,(a.map mkS)[j]? = some x → A = some ⟨bk,o,none⟩ ∧ W.cell? ⟨bk,o + j,none⟩ = some (.string x):=by
  intro a u hu
  generalize hrows:(a.map fun y=>[PV.str (mkS y)]) = rows at hu
  have hlen:rows.length = a.length:=by rw[← hrows,List.length_map]
  cases hu with
  | @sl0 A c h hm =>
   have ha:a = []:=List.map_eq_nil_iff.1 hrows
   subst ha
   exact⟨A,0,0,c,rfl,by simp,fun j x hx=>by simp at hx⟩
  | @sl _ bk off c z us hn0 hF hbb hcc hmm hz hcell hrd =>
   refine⟨some ⟨bk,off,none⟩,bk,off,c,by rw[hlen,List.length_map],by rw[List.length_map]; omega,fun j x hx=>⟨rfl,?_⟩⟩
   rw[List.getElem?_map,Option.map_eq_some_iff] at hx
   obtain⟨y,hy,rfl⟩:=hx
   have hi:rows[j]? = some [PV.str (mkS y)]:=by rw[← hrows,List.getElem?_map,hy]; rfl
   have h3:=hcell j 0 _ _ hi rfl
   have h4:=hrd j 0 _ _ hi rfl
   have h5:us j 0 = .string (mkS y):=by
    generalize us j 0 = u at h4
    cases h4; rfl
   have hz1:z = 1:=(hz j _ hi).symm
   subst hz1
   rw[h5,Nat.mul_one,Nat.add_zero] at h3
   rw[← h3]
   simp only[World.cell?,hf bk hF hbb]
 obtain⟨A1,b1,o1,c1,rfl,hx,h1⟩:=key a u hu
 obtain⟨A2,b2,o2,c2,rfl,hy,h2⟩:=key b v hv
 exact less_ok A1 A2 b1 o1 c1 b2 o2 c2 _ _ W hx hy h1 h2
end Go.Proofs.YtcmibmohdnbhgaaGreatDoor
namespace Go.Proofs.YtcmibmohdnbhgaaGreatDoor
open Go.Lad Go.Proofs Go.RowKit Go.Sort
theorem swo_sets (l:List (List Bs)):SWO (ltOf fun (i j:Fin l.length)=>cmpI ((l[i]).map mkS) ((l[j]).map mkS)):=by
 have hlt:∀ i j:Fin l.length,ltOf (fun (i j:Fin l.length)=>cmpI ((l[i]).map mkS) ((l[j]).map mkS)) i j = cmpSets l[i] l[j]:=fun i j=>by
  unfold ltOf
  rw[Bool.eq_iff_iff,decide_eq_true_eq]
  exact cmpI_iff _ _
 refine⟨fun i=>by rw[hlt]; exact ss_irrefl _,fun i j k h1 h2=>by rw[hlt] at *; exact ss_trans h1 h2,fun i j k h1 h2=>?_⟩
 rw[hlt] at *
 have a1:leSets l[j] l[i] = true:=by unfold leSets; rw[h1]; rfl
 have a2:leSets l[k] l[j] = true:=by unfold leSets; rw[h2]; rfl
 have:=ls_trans _ _ _ a2 a1
 unfold leSets at this
 rwa [Bool.not_eq_true'] at this
theorem sw_all {α:Type} [Inhabited α] {enc:α → Value} {off n:Nat} {d:Array α} {cur:Array Value} (hn:d.size = n) (h:off + n ≤ cur.size):((Sort.putCells enc off d cur).toList.drop off).take n = d.toList.map enc:=by subst hn; exact sw_cells h
theorem ext_all {α:Type} (d:Array α) {n:Nat} (h:d.size = n):d.extract 0 n = d:=by subst h; exact Array.extract_size
theorem sortF_con {c:List Bs → List Bs → Option Int}:ConOK Tryz.prog (sortFCon 77 78 27 c):=by
 refine⟨by kernel_rfl,fun x r hr=>?_⟩
 obtain⟨l,rfl⟩:∃ m:List (List Bs),m = x:=⟨x,rfl⟩
 obtain⟨r,rfl⟩:∃ m:List (List Bs),m = r:=⟨r,rfl⟩
 have hr:sortBy c l = some r:=hr
 unfold sortBy at hr
 obtain⟨hb,hr⟩:=cond_some hr
 rw[Bool.and_eq_true,bleN,decide_eq_true_eq,Nat.blt_eq] at hb
 obtain⟨hpos,hb⟩:=hb
 injection hr with hr
 have key:MeetsH Tryz.prog 77 ⟨[.c (.v (.own 1000000)),.c (.v (.fn 156 []))],[(1000000,.arr 27 1 (rowsS l))],.tup [],[(1000000,.arr 27 1 (rowsS r))]⟩:=by
  intro w G vs hnorm hglob hargs hobjs
  obtain⟨v0,v1,rfl⟩:∃ v0 v1,vs = [v0,v1]:=by
   have:=hargs.1
   match vs,this with
   | [a,b],_=>exact⟨a,b,rfl⟩
  have hv0:v0 = G.hv 1000000:=(hargs.2 0 _ _ rfl rfl:SRd G _ w _ v0).val
  have h1:=(hargs.2 1 _ _ rfl rfl:SRd G _ w _ v1)
  have hv1:v1 = .func (.func 78) #[] #[]:=(h1:LRd G _ w (.fn 156 []) v1).val
  obtain⟨hown,hbl⟩:=hobjs 1000000 _ rfl
  rcases own_rows hown with⟨hv,hl⟩ | ⟨g,cap,cur,off,xs,hv,hcol,hbk,hnc,hm,hs,hxl,hcell,hrd⟩
  ·rw[hl] at hpos; simp at hpos
  ·have hgw:g < w.heap.size:=hbk.lt
   haveI:Inhabited (Fin l.length):=⟨⟨0,hpos⟩⟩
   let enc:Fin l.length → Value:=fun i=>xs[i.val]'(by rw[hxl]; exact i.isLt)
   let cf:Fin l.length → Fin l.length → Int:=fun i j=>cmpI ((l[i]).map mkS) ((l[j]).map mkS)
   have hsz:(Array.ofFn (n:=l.length) id).size = l.length:=Array.size_ofFn
   have hdata:∀ i:Fin l.length,Rd (In G.χ 0) w (.sl ((l[i]).map fun y=>[PV.str (mkS y)])) (enc i):=fun i=>hrd i.val i.isLt (by rw[hxl]; exact i.isLt)
   have hone:OneCell enc:=fun i=>(hdata i).one
   have eg:∀ args w,(callFunc 78 args).run Tryz.prog w = .ok (.enter 78 args) w:=enters_of Tryz.func78 (by kernel_rfl) rfl
   have hcmp:CmpLays1 Tryz.prog 78 #[] enc cf g off (Array.ofFn (n:=l.length) id).size w:=fun m os dk hdk i j=>by
    refine (less_rd (hdata i) (hdata j) (sortWorld enc w g off m dk os) fun b hb hbw=>sw_other hbw fun e=>?_).mono ?_
    ·subst e
     have hb:G.χ g = 0:=hb
     omega
    ·rintro e w' ⟨rfl,cs,t,rfl⟩
     exact⟨rfl,0,#[.cells cs t],by rw[alloc_eq_grow]; rfl⟩
   have hH:Holds enc w g off (Array.ofFn (n:=l.length) id):=fun j hj=>by
    rw[hsz] at hj
    refine⟨?_,row_frozen hbk _⟩
    have hje:(Array.ofFn (n:=l.length) id)[j]! = ⟨j,hj⟩:=by
     rw[getElem!_pos _ j (by rw[hsz]; exact hj),Array.getElem_ofFn]; rfl
    rw[hje]
    exact hcell j _ (List.getElem?_eq_getElem (by rw[hxl]; exact hj))
   have hcall:=Tryz.slices_SortFunc enc hone cf (swo_sets l) 78 #[] g off cap (Array.ofFn (n:=l.length) id) w eg hcmp hH hgw (by rw[hsz]; omega)
   rw[hsz] at hcall
   rw[hv0,hv,hv1]
   refine hcall.mono ?_
   rintro en w' ⟨rfl,d',q,os,hperm,hsorted,rfl⟩
   obtain⟨hds,_,hpl⟩:=hperm
   rw[hsz] at hds
   have hpl:d'.toList.Perm (List.ofFn (n:=l.length) id):=by
    rw[ext_all d' hds,ext_all _ hsz,Array.toList_ofFn] at hpl
    exact hpl
   have hmap:List.map (fun i:Fin l.length=>l[i]) (List.ofFn (n:=l.length) id) = l:=by
    rw[List.map_ofFn]
    apply List.ext_getElem
    ·simp
    ·intro i h1 h2; simp
   have hr':r = d'.toList.map (fun i:Fin l.length=>l[i]):=by
    rw[← hr]
    refine sort_uniq ?_ ?_
    ·have:=hpl.map (fun i:Fin l.length=>l[i])
     rw[hmap] at this
     exact this
    ·rw[List.pairwise_map,List.pairwise_iff_getElem]
     intro i j hi hj hij
     have hi':i < d'.size:=by simpa using hi
     have hj':j < d'.size:=by simpa using hj
     have:=hsorted i j (Nat.zero_le _) hij (by omega)
     rw[getElem!_pos d' j hj',getElem!_pos d' i hi'] at this
     unfold leSets
     rw[Bool.not_eq_true',← Bool.not_eq_true]
     intro h
     have h2:=(cmpI_iff l[d'[j]] l[d'[i]]).2 (by simpa using h)
     unfold ltOf at this
     rw[decide_eq_false_iff_not] at this
     exact this h2
   have hrl:r.length = l.length:=by rw[hr']; simp [hds]
   refine⟨G,_,[],rfl,rfl,rfl,rfl,rfl,sw_size,fun b hb hχ=>⟨sw_other hb (fun e=>by subst e; omega),rfl⟩,fun b h=>.inl h,fun _ _=>⟨rfl,rfl⟩,fun b hb=>hnorm b (Nat.le_trans sw_size hb),⟨rfl,fun i x v hx hv=>by simp [Rz.comps] at hx⟩,fun o h ho=>?_⟩
   simp only[hpL,lookL] at ho
   split at ho
   ·rename_i he
    have he:o = 1000000:=by simpa using he
    subst he
    injection ho with ho
    subst ho
    refine⟨?_,fun b hb'=>hbl b hb'⟩
    have:=rows_own (k:=1000000 + 2) (χ:=G.χ) (l:=r) (xs:=d'.toList.map enc) (sw_row (enc:=enc) (q:=q) (off:=off) (d:=d') (os:=os) hbk) (cap:=cap) (off:=off) (by omega) hm (by simp [Sort.putCells]; exact hs) hcol (by rw[List.length_map,hrl]; simp [hds]) (by rw[hrl]; exact sw_all hds (by omega)) (fun j hj hx=>?_)
    ·rw[hrl,← hv] at this
     exact this
    ·have hj':j < d'.size:=by rw[hds]; omega
     have e1:(d'.toList.map enc)[j]'hx = enc d'[j]:=by rw[List.getElem_map]; rfl
     have e2:r[j] = l[d'[j]]:=by
      exact (List.getElem_of_eq hr' hj).trans (by rw[List.getElem_map]; rfl)
     rw[e1,e2]
     exact (hdata d'[j]).frame fun b hb hbw=>⟨hb,sw_other hbw fun e=>by subst e; have hb:G.χ g = 0:=hb; omega⟩
   ·cases ho
 have hl:∀ l:List (List Bs),listAs (.sl .str) ⟨.sl (.sl .str),l⟩ = l:=fun l=>listAs_d (t := .sl .str) l
 have e1:(sortFCon 77 78 27 c).spec l r = ⟨[.c (.v (.own 1000000)),.c (.v (.fn 156 []))],[(1000000,.arr 27 1 (rowsS l))],.tup [],[(1000000,.arr 27 1 (rowsS r))]⟩:=by
  show HSpec.mk _ [(1000000,TObj.un (.arr 27 (.sl .str) (listAs (.sl .str) ⟨.sl (.sl .str),l⟩)))] _ [(1000000,TObj.un (.arr 27 (.sl .str) (listAs (.sl .str) ⟨.sl (.sl .str),r⟩)))] = _
  rw[hl,hl]
  rfl
 show MeetsH Tryz.prog 77 ((sortFCon 77 78 27 c).spec l r)
 rw[e1]
 exact key
end Go.Proofs.YtcmibmohdnbhgaaGreatDoor
namespace Go.Proofs.YtcmibmohdnbhgaaGreatDoor
open Go.Lad Go.Proofs
theorem r_disable (w:World):(callFunc 180 #[]).run Tryz.prog w = .ok (.value (.tuple #[])) w:=run_call_mark0 Tryz.func180 (by kernel_rfl) (by kernel_rfl) (by kernel_rfl) .disable (by kernel_rfl) w
theorem r_enable (w:World):(callFunc 182 #[]).run Tryz.prog w = .ok (.value (.tuple #[])) w:=run_call_mark0 Tryz.func182 (by kernel_rfl) (by kernel_rfl) (by kernel_rfl) .enable (by kernel_rfl) w
theorem r_acquire (a:Addr) (w:World):(callFunc 183 #[.pointer (some a)]).run Tryz.prog w = .ok (.value (.tuple #[])) w:=run_call_marked Tryz.func183 (by kernel_rfl) (by kernel_rfl) (by kernel_rfl) .acquire (by kernel_rfl) a w
theorem r_release (a:Addr) (w:World):(callFunc 185 #[.pointer (some a)]).run Tryz.prog w = .ok (.value (.tuple #[])) w:=run_call_marked Tryz.func185 (by kernel_rfl) (by kernel_rfl) (by kernel_rfl) .releaseMerge (by kernel_rfl) a w
set_option maxRecDepth 100000 in
theorem lock1 (a:Addr) (w:World) (hc:w.cell? a = some (.int .i32 0)) (hz:w.frozen? a = false) :
  Calls Tryz.prog 165 #[.pointer (some a)] w fun e w'=>e = .returned (.tuple #[]) ∧ w' = w.setCell a (.int .i32 1):=by
 have hd:=r_disable
 have he:=r_enable
 have ha:=r_acquire
 have hcas:=run_call_cas_hit (P:=Tryz.prog) Tryz.func181 (by kernel_rfl) (by kernel_rfl) (by kernel_rfl) .i32 (by kernel_rfl) (y:=1) hc hz
 have hc':(w.setCell a (.int .i32 1)).cell? a = some (.int .i32 1):=World.cell?_setCell_same w a _ hc
 have hcv:=run_convert_to_unsafe (P:=Tryz.prog) (src:=220) (dst:=207) Tryz.underlying220 Tryz.underlying207 (by kernel_rfl) hc'
 go_enter Tryz.func165,Tryz.ntmps165
 go_wp2
 first | go_end0 | (simp only[Exit.inBlock,Exit.then]; refine bodyPost_ret (results_none rfl _ _ _) rfl ?_) | refine bodyPost_ret (results_none rfl _ _ _) rfl ?_
 go_wp2
set_option maxRecDepth 100000 in
theorem unlock1 (a:Addr) (w:World) (hc:w.cell? a = some (.int .i32 1)) (hz:w.frozen? a = false) :
  Calls Tryz.prog 166 #[.pointer (some a)] w fun e w'=>e = .returned (.tuple #[]) ∧ w' = w.setCell a (.int .i32 0):=by
 have hd:=r_disable
 have he:=r_enable
 have hr:=r_release
 have hadd:=run_call_add (P:=Tryz.prog) Tryz.func186 (by kernel_rfl) (by kernel_rfl) (by kernel_rfl) .i32 (by kernel_rfl) (y := -1) (s:=0) hc hz (by simp [go_sem]; rfl)
 have hcv:=run_convert_to_unsafe (P:=Tryz.prog) (src:=220) (dst:=207) Tryz.underlying220 Tryz.underlying207 (by kernel_rfl) hc
 go_enter Tryz.func166,Tryz.ntmps166
 go_wp2
 go_end0
 go_wp2
set_option maxRecDepth 100000 in
theorem lock2 (b o:Nat) (w:World) (hc:w.cell? ⟨b,o,none⟩ = some (.int .i32 0)) (hz:w.frozen? ⟨b,o,none⟩ = false) :
  Calls Tryz.prog 132 #[.pointer (some ⟨b,o,none⟩)] w fun e w'=>e = .returned (.tuple #[]) ∧ w' = w.setCell ⟨b,o,none⟩ (.int .i32 1):=by
 have hl:=lock1 ⟨b,o,none⟩ w hc hz
 go_enter Tryz.func132,Tryz.ntmps132
 go_wp2_with (go_at_call 165; refine hl.mono ?_; rintro e w' ⟨rfl,rfl⟩)
 go_end0
 exact⟨rfl,rfl⟩
set_option maxRecDepth 100000 in
theorem unlock_d (b o:Nat) (u:FrameMode) (w:World) (hc:w.cell? ⟨b,o,none⟩ = some (.int .i32 1)) (hz:w.frozen? ⟨b,o,none⟩ = false) :
  CallsD Tryz.prog 133 #[.pointer (some ⟨b,o,none⟩)] u w fun e u' w'=>u' = u ∧ (e = .returned (.tuple #[]) ∧ w' = w.setCell ⟨b,o,none⟩ (.int .i32 0)):=by
 have hl:=unlock1 ⟨b,o,none⟩ w hc hz
 go_enter_d Tryz.func133,Tryz.ntmps133
 go_wp2_with (go_at_call 166; refine hl.mono ?_; rintro e w' ⟨rfl,rfl⟩)
 go_end0
 exact⟨rfl,rfl⟩
set_option maxRecDepth 100000 in
theorem load_ok (b o:Nat) (x:Int) (w:World) (hc:w.cell? ⟨b,o,none⟩ = some (.int .u32 x)) :
  Calls Tryz.prog 90 #[.pointer (some ⟨b,o,none⟩)] w fun e w'=>e = .returned (.bool (x != 0)) ∧ w' = w:=by
 have hl:=run_call_load (P:=Tryz.prog) Tryz.func131 (by kernel_rfl) (by kernel_rfl) (by kernel_rfl) .u32 (by kernel_rfl) hc
 go_enter Tryz.func90,Tryz.ntmps90
 go_wp2
 go_ret
 exact⟨rfl,rfl⟩
set_option maxRecDepth 100000 in
theorem store_d (b o:Nat) (x:Value) (u:FrameMode) (w:World) (hc:w.cell? ⟨b,o,none⟩ = some x) (hz:w.frozen? ⟨b,o,none⟩ = false) :
  CallsD Tryz.prog 134 #[.pointer (some ⟨b,o,none⟩),.bool true] u w fun e u' w'=>u' = u ∧ (e = .returned (.tuple #[]) ∧ w' = w.drew.setCell ⟨b,o,none⟩ (.int .u32 1)):=by
 have hc':w.drew.cell? ⟨b,o,none⟩ = some x:=by go_simp
 have hz':w.drew.frozen? ⟨b,o,none⟩ = false:=by go_simp
 have hst:=run_call_store (P:=Tryz.prog) Tryz.func167 (by kernel_rfl) (by kernel_rfl) (by kernel_rfl) (by kernel_rfl) (k := .u32) (y:=1) hc' hz'
 go_enter_d Tryz.func134,Tryz.ntmps134
 go_wp2
 go_region_calls
 all_goals (go_end0; exact⟨rfl,rfl⟩)
end Go.Proofs.YtcmibmohdnbhgaaGreatDoor
namespace Go.Proofs.YtcmibmohdnbhgaaGreatDoor
open Go.Lad Go.Proofs Go.RowKit
def tabC (v:Value):Array Value:=(Array.replicate 256 (.slice none 0 0)).push v
theorem z172 (w:World):(zeroValue 172).run Tryz.prog w = .ok (.agg (tabC (.slice none 0 0))) w:=by
 obtain⟨ti,hti⟩:∃ ti,Tryz.prog.info? 172 = some ti:=Option.isSome_iff_exists.1 (by kernel_rfl)
 have hz:((Tryz.prog.info? 172).bind (·.zero)) = some (.agg (tabC (.slice none 0 0))):=by kernel_rfl
 rw[hti] at hz
 have hz:ti.zero = some (.agg (tabC (.slice none 0 0))):=hz
 simp [zeroValue,typeInfo,hti,hz]
theorem ms27 (w:World):(Instr.makeSlice 27 (.int .i64 0) (.int .i64 2)).run Tryz.prog w = .ok (.slice (some ⟨w.heap.size,0,none⟩) 0 2) (w.alloc (.cells #[.string ⟨#[]⟩,.string ⟨#[]⟩] 9)):=by
 obtain⟨ti,hti⟩:∃ ti,Tryz.prog.info? 9 = some ti:=Option.isSome_iff_exists.1 (by kernel_rfl)
 have hz:((Tryz.prog.info? 9).bind (·.zero)) = some (.string ⟨#[]⟩):=by kernel_rfl
 have hs:(Tryz.prog.info? 9).map (·.size) = some 1:=by kernel_rfl
 have hb:(Tryz.prog.info? 9).map (·.bytes) = some 16:=by kernel_rfl
 rw[hti] at hz hs hb
 have hz:ti.zero = some (.string ⟨#[]⟩):=hz
 have hs:ti.size = 1:=by simpa using hs
 have hb:ti.bytes = 16:=by simpa using hb
 have:=run_makeSlice (P:=Tryz.prog) w 27 9 ti (.string ⟨#[]⟩) Tryz.underlying27 hti hz .i64 .i64 0 2 (by omega) (by omega) (by rw[hs]; decide) (by rw[hb]; decide) (by omega)
 rw[hs] at this
 exact this.trans (by kernel_rfl)
theorem setRow_new (w:World) (a b:Array Value) (t:TypeId) {g:Nat} (hg:g = w.heap.size):(w.alloc (.cells a t)).setRow g b = w.alloc (.cells b t):=by
 subst hg
 have hx:∀ k:Nat,((w.alloc (.cells a t)).setRow w.heap.size b).heap[k]? = (w.alloc (.cells b t)).heap[k]? := fun k=>by
  by_cases hk:k = w.heap.size
  ·subst hk
   rw[setRow_heap _ _ a b t (0,0) (heap_alloc_new _ _),heap_alloc_new]
  ·rw[setRow_other _ _ _ _ hk]
   show (w.heap.push _)[k]? = (w.heap.push _)[k]?
   rw[Array.getElem?_push,Array.getElem?_push,if_neg hk,if_neg hk]
 show ({ w with heap:=_ }:World) = { w with heap:=_ }
 congr 1
 exact Array.ext_getElem? hx
set_option maxRecDepth 100000 in
theorem tab_size (v:Value):(tabC v).size = 257:=by kernel_rfl
theorem tab_set (v:Value):(tabC (.slice none 0 0)).toList.set 256 v = (tabC v).toList:=by kernel_rfl
theorem tab_at (v:Value) {i:Nat} (h:i < 256):(tabC v)[i]? = some (.slice none 0 0):=by
 unfold tabC
 rw[Array.getElem?_push,if_neg (by rw[Array.size_replicate]; omega),Array.getElem?_replicate,if_pos h]
theorem tab_last (v:Value):(tabC v)[256]? = some v:=by
 unfold tabC
 rw[Array.getElem?_push,if_pos (by rw[Array.size_replicate])]
theorem st172 (w:World) (X:Obj) (A:Option Addr) (n c g:Nat) (hg:g = w.heap.size + 1):(storeCells ⟨g,0,none⟩ ((tabC (.slice none 0 0)).toList.set 256 (.slice A n c))).run Tryz.prog ((w.alloc X).alloc (.cells (tabC (.slice none 0 0)) 172)) = .ok () ((w.alloc X).alloc (.cells (tabC (.slice A n c)) 172)):=by
 have hs:g = (w.alloc X).heap.size:=by rw[hg,World.size_alloc]
 subst hs
 rw[tab_set,run_storeCells_from (P:=Tryz.prog) (w.alloc X).heap.size 172 (tabC (.slice A n c)).toList 0 (tabC (.slice none 0 0)) _ (heap_alloc_new _ _) (by rw[Array.length_toList,tab_size,tab_size]) (fun v hv=>?_)]
 ·rw[setRow_new _ _ _ _ rfl,List.take_zero,List.nil_append,Array.toArray_toList]
 ·have hv:v ∈ tabC (.slice A n c):=by simpa using hv
  unfold tabC at hv
  rcases Array.mem_push.1 hv with h | h
  ·rw[Array.mem_replicate] at h
   rw[h.2]; rfl
  ·rw[h]; rfl
def BytesAt (w:World) (p:Nat) (l:Bs):Prop:=p < w.heap.size ∧ ∀ j x,l[j]? = some x → w.cell? ⟨p,j,none⟩ = some (.int .u8 (x.toNat:Int))
theorem BytesAt.frame {w w':World} {p:Nat} {l:Bs} (h:BytesAt w p l) (hb:w'.heap[p]? = w.heap[p]?) (hs:w.heap.size ≤ w'.heap.size):BytesAt w' p l:=by
 refine⟨Nat.lt_of_lt_of_le h.1 hs,fun j x hx=>?_⟩
 rw[← h.2 j x hx]
 simp only[World.cell?,hb]
def tv (m p1 c1 p2 c2 i:Nat):Value:=if i = 41 ∧ 1 ≤ m then .slice (some ⟨p1,0,none⟩) 3 c1 else if i = 40 ∧ 2 ≤ m then .slice (some ⟨p2,0,none⟩) 3 c2 else .slice none 0 0
def lets (m:Nat):List Value:=[Value.string ⟨#[41]⟩,Value.string ⟨#[40]⟩].take m
structure RT (w0 w:World) (m:Nat) (v:Value) (T:Array Value) (p1 c1 p2 c2:Nat):Prop where
 below:Below w0.heap.size w0 w
 tab:w.heap[w0.heap.size + 1]? = some (.cells T 172)
 size:T.size = 257
 last:T[256]? = some v
 ent:∀ i,i < 256 → T[i]? = some (tv m p1 c1 p2 c2 i)
 own:oRow w 9 1 v m (lets m)
 ne:∀ g,v.ownBlock = some g → w0.heap.size ≤ g ∧ g ≠ w0.heap.size + 1 ∧ (1 ≤ m → g ≠ p1) ∧ (2 ≤ m → g ≠ p2)
 b1:1 ≤ m → BytesAt w p1 [32,41,32] ∧ w0.heap.size ≤ p1 ∧ p1 ≠ w0.heap.size + 1
 b2:2 ≤ m → BytesAt w p2 [32,40,32] ∧ w0.heap.size ≤ p2 ∧ p2 ≠ w0.heap.size + 1
theorem nil_eq (w:World):(binOp .eql 120 (.slice none 0 0) (.slice none 0 0)).run Tryz.prog w = .ok (.bool true) w:=Lib.run_eql_slice_nil w 120 5 none 0 0 0 0 Tryz.underlying120
theorem el27:tyElem Tryz.prog 27 = some (9,1):=by kernel_rfl
theorem el27b:(Tryz.prog.info? 9).map (·.bytes) = some 16:=by kernel_rfl
theorem cells_below {w w':World} (h:Below w.heap.size w w') {b:Nat} (hb:b < w.heap.size) (o:Nat):w'.cell? ⟨b,o,none⟩ = w.cell? ⟨b,o,none⟩:=by
 simp only[World.cell?,h.block b hb]
theorem heap_alloc_old (w:World) (o:Obj) {b:Nat} (hb:b < w.heap.size):(w.alloc o).heap[b]? = w.heap[b]? := Below.heap_alloc w o b hb
theorem blk_set {w:World} {g i:Nat} {cs:Array Value} {t:TypeId} {fr:Nat × Nat} (h:w.heap[g]? = some (.cells cs t fr)) (v:Value):(w.setCell ⟨g,i,none⟩ v).heap[g]? = some (.cells (cs.setIfInBounds i v) t fr):=by
 rw[setCell_eq_setRow w g i cs t fr v h]
 exact setRow_heap w g _ _ t _ h
theorem size_set (w:World) (a:Addr) (v:Value):(w.setCell a v).heap.size = w.heap.size:=by show (w.heap.modify _ _).size = _; rw[Array.size_modify]
theorem bytes_new {w:World} {p:Nat} {o:UInt8} {C:Nat} {fr:Nat × Nat} (h:w.heap[p]? = some (.cells (bytesRow ⟨#[32,o,32]⟩ C) 5 fr)):BytesAt w p [32,o,32]:=by
 refine⟨(Array.getElem?_eq_some_iff.1 h).1,fun j x hx=>?_⟩
 rw[cell_of_row _ _ _ _ _ _ h]
 unfold bytesRow
 match j,hx with
 | 0,hx=>simp at hx; subst hx; rw[Array.getElem?_append_left (by simp)]; simp
 | 1,hx=>simp at hx; subst hx; rw[Array.getElem?_append_left (by simp)]; simp
 | 2,hx=>simp at hx; subst hx; rw[Array.getElem?_append_left (by simp)]; simp
 | j + 3,hx=>simp at hx
theorem rt_step {w wr W4 W5 W6 W7 W8:World} {m p1 c1 p2 c2 C:Nat} {v v':Value} {T:Array Value} {o:UInt8} {fr:Nat × Nat} (hR:RT w wr m v T p1 c1 p2 c2) (hm:m = 0 ∧ o = 41 ∨ m = 1 ∧ o = 40) (h4s:W4.heap.size = wr.heap.size + 2) (h4:∀ b,b < wr.heap.size → W4.heap[b]? = wr.heap[b]?)
  (h4o:W4.os = wr.os ∧ W4.tape = wr.tape ∧ W4.output = wr.output) (h3:W4.grownBy W5 v.ownBlock) (h2:oRow W5 9 1 v' (m + 1) (lets m ++ [.string ⟨#[o]⟩])) (h5:v'.ownBlock = v.ownBlock ∨ v'.ownBlock = some W4.heap.size)
  (hW6:W6 = W5.setCell ⟨w.heap.size + 1,256,none⟩ v') (hW7:W7 = W6.drew.alloc (.cells (bytesRow ⟨#[32,o,32]⟩ C) 5 fr)) (hW8:W8 = W7.setCell ⟨w.heap.size + 1,o.toNat,none⟩ (.slice (some ⟨W6.heap.size,0,none⟩) 3 C)) :
  ∃ p1' c1' p2' c2' T',RT w W8 (m + 1) v' T' p1' c1' p2' c2':=by
 have hn1:w.heap.size + 1 < wr.heap.size:=(Array.getElem?_eq_some_iff.1 hR.tab).1
 have hnev:some (w.heap.size + 1) ≠ v.ownBlock:=fun e=>(hR.ne _ e.symm).2.1 rfl
 have hz5:wr.heap.size + 2 ≤ W5.heap.size:=by rw[← h4s]; exact h3.size
 have hz6:W6.heap.size = W5.heap.size:=by rw[hW6,size_set]
 have hz7:W7.heap.size = W5.heap.size + 1:=by rw[hW7,World.size_alloc]; show W6.heap.size + 1 = _; rw[hz6]
 have hz8:W8.heap.size = W5.heap.size + 1:=by rw[hW8,size_set,hz7]
 have ho56:∀ b,b ≠ w.heap.size + 1 → W6.heap[b]? = W5.heap[b]? := fun b hb=>by rw[hW6]; exact Below.heap_setCell W5 _ _ b hb
 have ho67:∀ b,b < W6.heap.size → W7.heap[b]? = W6.heap[b]? := fun b hb=>by rw[hW7]; exact heap_alloc_old W6.drew _ hb
 have ho78:∀ b,b ≠ w.heap.size + 1 → W8.heap[b]? = W7.heap[b]? := fun b hb=>by rw[hW8]; exact Below.heap_setCell W7 _ _ b hb
 have ho58:∀ b,b < W5.heap.size → b ≠ w.heap.size + 1 → W8.heap[b]? = W5.heap[b]? := fun b hb hne=>by rw[ho78 b hne,ho67 b (by rw[hz6]; exact hb),ho56 b hne]
 have hor8:∀ b,b < wr.heap.size → b ≠ w.heap.size + 1 → some b ≠ v.ownBlock → W8.heap[b]? = wr.heap[b]? := fun b hb hne hv=>by rw[ho58 b (by omega) hne,h3.block b (by omega) hv,h4 b hb]
 have htab5:W5.heap[w.heap.size + 1]? = some (.cells T 172):=by rw[h3.block _ (by omega) hnev,h4 _ hn1,hR.tab]
 have htab6:W6.heap[w.heap.size + 1]? = some (.cells (T.setIfInBounds 256 v') 172):=by rw[hW6]; exact blk_set htab5 v'
 have htab7:W7.heap[w.heap.size + 1]? = some (.cells (T.setIfInBounds 256 v') 172):=by rw[ho67 _ (by omega),htab6]
 have htab8:W8.heap[w.heap.size + 1]? = some (.cells ((T.setIfInBounds 256 v').setIfInBounds o.toNat (.slice (some ⟨W6.heap.size,0,none⟩) 3 C)) 172):=by rw[hW8]; exact blk_set htab7 _
 have hos8:W8.os = wr.os ∧ W8.tape = wr.tape ∧ W8.output = wr.output:=by
  rw[hW8,hW7,hW6]
  exact⟨h3.os.trans h4o.1,h3.tape.trans h4o.2.1,h3.output.trans h4o.2.2⟩
 have hbelow:Below w.heap.size w W8:=by
  refine⟨hos8.1.trans hR.below.os,hos8.2.1.trans hR.below.tape,hos8.2.2.trans hR.below.output,by have:=hR.below.size; omega,fun b hb=>?_⟩
  rw[hor8 b (by omega) (by omega) (fun e=>by have:=(hR.ne b e.symm).1; omega)]
  exact hR.below.block b hb
 have hnew:W8.heap[W5.heap.size]? = some (.cells (bytesRow ⟨#[32,o,32]⟩ C) 5 fr):=by
  rw[ho78 _ (by omega),hW7,show W5.heap.size = W6.drew.heap.size from hz6.symm]
  exact heap_alloc_new _ _
 have hown8:oRow W8 9 1 v' (m + 1) (lets (m + 1)):=by
  have e:lets m ++ [.string ⟨#[o]⟩] = lets (m + 1):=by rcases hm with⟨rfl,rfl⟩ | ⟨rfl,rfl⟩ <;> rfl
  rw[← e]
  refine oRow.kept (row:=some (w.heap.size + 1)) h2 ⟨?_,?_,?_,by omega,fun k hk hne=>ho58 k hk (fun e=>hne (by rw[e]))⟩ (.inr ?_)
  ·rw[hW8,hW7,hW6]; rfl
  ·rw[hW8,hW7,hW6]; rfl
  ·rw[hW8,hW7,hW6]; rfl
  ·rcases h5 with h | h
   ·rw[h]; exact hnev.symm
   ·rw[h,h4s]; intro e; injection e with e; omega
 have hlt:∀ g,v'.ownBlock = some g → g < W5.heap.size:=fun g hg=>(h2.lt g hg).2
 have hge:∀ g,v'.ownBlock = some g → w.heap.size ≤ g ∧ g ≠ w.heap.size + 1:=fun g hg=>by
  rcases h5 with h | h
  ·have:=hR.ne g (h ▸ hg); exact⟨this.1,this.2.1⟩
  ·rw[h,h4s] at hg; injection hg with hg; subst hg; have:=hR.below.size; exact⟨by omega,by omega⟩
 have hlast:((T.setIfInBounds 256 v').setIfInBounds o.toNat (.slice (some ⟨W6.heap.size,0,none⟩) 3 C))[256]? = some v':=by
  rw[Array.getElem?_setIfInBounds_ne (by rcases hm with⟨_,rfl⟩ | ⟨_,rfl⟩ <;> decide),Array.getElem?_setIfInBounds_self_of_lt (by rw[hR.size]; decide)]
 have hent:∀ i,i < 256 → ((T.setIfInBounds 256 v').setIfInBounds o.toNat (.slice (some ⟨W6.heap.size,0,none⟩) 3 C))[i]? = if i = o.toNat then some (.slice (some ⟨W6.heap.size,0,none⟩) 3 C) else some (tv m p1 c1 p2 c2 i):=fun i hi=>by
  by_cases h:i = o.toNat
  ·subst h
   rw[if_pos rfl,Array.getElem?_setIfInBounds_self_of_lt (by rw[Array.size_setIfInBounds,hR.size]; omega)]
  ·rw[if_neg h,Array.getElem?_setIfInBounds_ne (Ne.symm h),Array.getElem?_setIfInBounds_ne (by omega),hR.ent i hi]
 rcases hm with⟨rfl,rfl⟩ | ⟨rfl,rfl⟩
 ·refine⟨W5.heap.size,C,0,0,_,hbelow,htab8,by rw[Array.size_setIfInBounds,Array.size_setIfInBounds,hR.size],hlast,fun i hi=>?_,hown8,fun g hg=>⟨(hge g hg).1,(hge g hg).2,fun _=>by have:=hlt g hg; omega,fun h=>absurd h (by omega)⟩,fun _=>⟨bytes_new hnew,by have:=hR.below.size; omega,by omega⟩,fun h=>absurd h (by omega)⟩
  rw[hent i hi,hz6,show (41:UInt8).toNat = 41 from rfl]
  unfold tv
  by_cases h:i = 41
  ·rw[if_pos h,if_pos ⟨h,by omega⟩]
  ·rw[if_neg h,if_neg (fun e=>h e.1),if_neg (by omega),if_neg (by omega),if_neg (by omega)]
 ·obtain⟨hb1,hb2,hb3⟩:=hR.b1 (Nat.le_refl _)
  refine⟨p1,c1,W5.heap.size,C,_,hbelow,htab8,by rw[Array.size_setIfInBounds,Array.size_setIfInBounds,hR.size],hlast,fun i hi=>?_,hown8,fun g hg=>⟨(hge g hg).1,(hge g hg).2,fun _=>?_,fun _=>by have:=hlt g hg; omega⟩,fun _=>⟨?_,hb2,hb3⟩,fun _=>⟨bytes_new hnew,by have:=hR.below.size; omega,by omega⟩⟩
  ·rw[hent i hi,hz6,show (40:UInt8).toNat = 40 from rfl]
   unfold tv
   by_cases h:i = 40
   ·subst h
    rw[if_pos rfl]; rfl
   ·rw[if_neg h]
    by_cases h2:i = 41
    ·rw[if_pos ⟨h2,by omega⟩,if_pos ⟨h2,by omega⟩]
    ·rw[if_neg (fun e=>h2 e.1),if_neg (by omega),if_neg (fun e=>h2 e.1),if_neg (fun e=>h e.1)]
  ·rcases h5 with h | h
   ·exact (hR.ne g (h ▸ hg)).2.2.1 (by omega)
   ·rw[h,h4s] at hg; injection hg with hg; subst hg; have:=hb1.1; omega
  ·refine hb1.frame ?_ (by omega)
   exact hor8 p1 hb1.1 hb3 fun e=>(hR.ne p1 e.symm).2.2.1 (by omega) rfl
set_option maxHeartbeats 4000000 in
set_option maxRecDepth 100000 in
theorem build_ok (B RB RO c:Nat) (w:World) (h4:w.cell? ⟨B,4,none⟩ = some (.slice (some ⟨RB,RO,none⟩) 4 c)) (hRB:RB < w.heap.size) (g0:w.cell? ⟨RB,RO,none⟩ = some (.string ⟨#[40]⟩)) (g1:w.cell? ⟨RB,RO + 1,none⟩ = some (.string ⟨#[32,40,32]⟩)) (g2:w.cell? ⟨RB,RO + 2,none⟩ = some (.string ⟨#[41]⟩)) (g3:w.cell? ⟨RB,RO + 3,none⟩ = some (.string ⟨#[32,41,32]⟩)) :
  Calls Tryz.prog 92 #[.pointer (some ⟨B,0,none⟩)] w fun e w'=>e = .returned (.iface 173 (.pointer (some ⟨w.heap.size + 1,0,none⟩))) ∧ ∃ v T p1 c1 p2 c2,RT w w' 2 v T p1 c1 p2 c2:=by
 have hms:=ms27
 have hz:=z172
 go_enter Tryz.func92,Tryz.ntmps92
 go_wp2
 go_loopg [4,5] 2 (fun g s4 s5 wr=>w = wr ∧ ((s4 = .bool true ∧ s5 = .int .i64 0 ∧ 2 ≤ g) ∨ (s4 = .bool false ∧ s5 = .int .i64 2 ∧ 1 ≤ g) ∨ (s4 = .bool false ∧ s5 = .int .i64 4)))
 case atStart=>exact⟨rfl,.inl ⟨rfl,rfl,by omega⟩⟩
 case round =>
  obtain⟨rfl,⟨rfl,rfl,hg⟩ | ⟨rfl,rfl,hg⟩ | ⟨rfl,rfl⟩⟩:=hrel
  ·go_wp2
   go_roundg 1
   case measure=>omega
   case rel=>exact⟨rfl,.inr (.inl ⟨rfl,rfl,by omega⟩)⟩
  ·go_wp2
   go_roundg 0
   case measure=>omega
   case rel=>exact⟨rfl,.inr (.inr ⟨rfl,rfl⟩)⟩
  ·have hst:=st172 w (.cells #[.string ⟨#[]⟩,.string ⟨#[]⟩] 9) (some ⟨w.heap.size,0,none⟩) 0 2 (w.heap.size + 1) rfl
   go_wp2
   go_loopg [12] 2 (fun g s12 wr=>∃ m v T p1 c1 p2 c2,m ≤ 2 ∧ 2 - m ≤ g ∧ s12 = .int .i64 (2 - 2 * (m:Int)) ∧ RT w wr m v T p1 c1 p2 c2)
   case atStart =>
    refine⟨0,.slice (some ⟨w.heap.size,0,none⟩) 0 2,tabC (.slice (some ⟨w.heap.size,0,none⟩) 0 2),0,0,0,0,by omega,by omega,rfl,⟨?_,?_,tab_size _,tab_last _,fun i hi=>?_,?_,fun g hg=>?_,fun h=>absurd h (by omega),fun h=>absurd h (by omega)⟩⟩
    ·exact ((Below.refl _ w).alloc (Nat.le_refl _) _).alloc (by rw[World.size_alloc]; omega) _
    ·rw[show w.heap.size + 1 = (w.alloc (.cells #[.string ⟨#[]⟩,.string ⟨#[]⟩] 9)).heap.size by rw[World.size_alloc]]
     exact heap_alloc_new _ _
    ·rw[tab_at _ hi]; unfold tv; rw[if_neg (by omega),if_neg (by omega)]
    ·refine⟨rfl,.inr ⟨w.heap.size,2,#[.string ⟨#[]⟩,.string ⟨#[]⟩],0,rfl,Nat.zero_le _,.of ?_,by omega,by unfold maxLen; omega,by decide,rfl⟩⟩
     rw[heap_alloc_old _ _ (by rw[World.size_alloc]; omega)]
     exact heap_alloc_new _ _
    ·simp [Value.ownBlock] at hg
     subst hg
     exact⟨Nat.le_refl _,by omega,fun h=>absurd h (by omega),fun h=>absurd h (by omega)⟩
   case round =>
    obtain⟨m,v,T,p1,c1,p2,c2,hm,hgm,rfl,hR⟩:=hrel
    rcases (show m = 0 ∨ m = 1 ∨ m = 2 by omega) with rfl | rfl | rfl
    ·have gl:wr.cell? ⟨RB,RO + 2,none⟩ = some (.string ⟨#[41]⟩):=(cells_below hR.below hRB _).trans g2
     have gn:wr.cell? ⟨RB,RO + 3,none⟩ = some (.string ⟨#[32,41,32]⟩):=(cells_below hR.below hRB _).trans g3
     have ge:wr.cell? ⟨w.heap.size + 1,41,none⟩ = some (.slice none 0 0):=by rw[cell_of_row _ _ _ _ _ _ hR.tab,hR.ent 41 (by omega)]; rfl
     have gt:wr.cell? ⟨w.heap.size + 1,256,none⟩ = some v:=by rw[cell_of_row _ _ _ _ _ _ hR.tab,hR.last]
     have hn1:w.heap.size + 1 < wr.heap.size:=(Array.getElem?_eq_some_iff.1 hR.tab).1
     have cv:(convert 120 9 (.slice (some ⟨wr.heap.size,0,none⟩) 1 1)).run Tryz.prog (wr.alloc (.cells #[.int .u8 41] 5)) = .ok (.string ⟨#[41]⟩) (wr.alloc (.cells #[.int .u8 41] 5)) :=
      run_convert_bytes_back (P:=Tryz.prog) _ 120 9 5 ⟨wr.heap.size,0,none⟩ 1 [41] Tryz.underlying120 Tryz.underlying5 Tryz.underlying9 (fun k hk=>by
       have:k = 0:=by simpa using hk
       subst this
       rw[World.cell?,show ((⟨wr.heap.size,0,none⟩:Addr).add 0).block = wr.heap.size from rfl,heap_alloc_new]; rfl)
     obtain⟨W4,hW4⟩:∃ W4,(wr.alloc (.cells #[.int .u8 41] 5)).alloc (.cells #[.string ⟨#[41]⟩] 9) = W4:=⟨_,rfl⟩
     have hz4:W4.heap.size = wr.heap.size + 2:=by rw[← hW4,World.size_alloc,World.size_alloc]
     have ho4:∀ b,b < wr.heap.size → W4.heap[b]? = wr.heap[b]? := fun b hb=>by
      rw[← hW4,heap_alloc_old _ _ (by rw[World.size_alloc]; omega),heap_alloc_old _ _ hb]
     obtain⟨ti,z,hti,hz9,hsize,hby,hzs⟩:=(tyElem_of el27).ex
     have hown4:oRow W4 9 1 v 0 (lets 0):=by rw[← hW4]; exact (hR.own.alloc _).alloc _
     obtain⟨v',W5,hr,h2,h3,_,h5⟩:=run_append_o W4 27 27 9 ti z 1 ti.bytes Tryz.underlying27 hti hz9 hsize rfl hzs (by omega) v 0 (lets 0) hown4 ⟨wr.heap.size + 1,0,none⟩ 1 1 [.string ⟨#[41]⟩] rfl (fun k u hk=>by
      cases k with
      | zero =>
       simp at hk
       subst hk
       rw[← hW4,World.cell?,show ((⟨wr.heap.size + 1,0,none⟩:Addr).add 0).block = (wr.alloc (.cells #[.int .u8 41] 5)).heap.size by rw[World.size_alloc]; rfl,heap_alloc_new]; rfl
      | succ k=>simp at hk) (fun u hu=>by simp at hu; subst hu; rfl) (by unfold maxLen; omega) (by
      have:=el27b
      rw[hti] at this
      have:ti.bytes = 16:=by simpa using this
      rw[this]; omega)
     have hnev:some (w.heap.size + 1) ≠ v.ownBlock:=fun e=>(hR.ne _ e.symm).2.1 rfl
     have htab5:W5.heap[w.heap.size + 1]? = some (.cells T 172):=by rw[h3.block _ (by omega) hnev,ho4 _ hn1,hR.tab]
     have ge5:(W5.cell? ⟨w.heap.size + 1,256,none⟩) = some v:=by rw[cell_of_row _ _ _ _ _ _ htab5,hR.last]
     have gf5:W5.frozen? ⟨w.heap.size + 1,256,none⟩ = false:=by simp [World.frozen?,htab5]
     obtain⟨g',off',cap',hv'⟩:∃ g' off' cap',v' = .slice (some ⟨g',off',none⟩) 1 cap':=by
      rcases h2.2 with⟨_,hnil⟩ | ⟨g',cap',cur',off',hv',_⟩
      ·simp at hnil
      ·exact⟨g',off',cap',hv'⟩
     have hz5:wr.heap.size + 2 ≤ W5.heap.size:=by rw[← hz4]; exact h3.size
     have hz6:(W5.setCell ⟨w.heap.size + 1,256,none⟩ v').heap.size = W5.heap.size:=size_set _ _ _
     have htab6:(W5.setCell ⟨w.heap.size + 1,256,none⟩ v').heap[w.heap.size + 1]? = some (.cells (T.setIfInBounds 256 v') 172):=blk_set htab5 v'
     have cs0:=run_bytes_of_string (P:=Tryz.prog) (W5.setCell ⟨w.heap.size + 1,256,none⟩ v') 9 120 5 ⟨#[32,41,32]⟩ Tryz.underlying9 Tryz.underlying120 Tryz.underlying5
     obtain⟨C,hC⟩:∃ C,grownCap (W5.setCell ⟨w.heap.size + 1,256,none⟩ v') (⟨#[32,41,32]⟩:ByteArray).size 0 5 = C:=⟨_,rfl⟩
     rw[hC,hz6] at cs0
     obtain⟨fr,hfr⟩:∃ fr,((bytesRow ⟨#[32,41,32]⟩ C).size,(bytesRow ⟨#[32,41,32]⟩ C).size + 1) = fr:=⟨_,rfl⟩
     rw[hfr] at cs0
     obtain⟨W7,hW7⟩:∃ W7,W7 = (W5.setCell ⟨w.heap.size + 1,256,none⟩ v').drew.alloc (.cells (bytesRow ⟨#[32,41,32]⟩ C) 5 fr):=⟨_,rfl⟩
     rw[← hW7] at cs0
     have cs:(convert 9 120 (.string ⟨#[32,41,32]⟩)).run Tryz.prog (W5.setCell ⟨w.heap.size + 1,256,none⟩ v') = .ok (.slice (some ⟨W5.heap.size,0,none⟩) 3 C) W7:=cs0
     have htab7:W7.heap[w.heap.size + 1]? = some (.cells (T.setIfInBounds 256 v') 172):=by
      rw[hW7]
      exact (heap_alloc_old (W5.setCell ⟨w.heap.size + 1,256,none⟩ v').drew _ (show w.heap.size + 1 < (W5.setCell ⟨w.heap.size + 1,256,none⟩ v').heap.size by rw[hz6]; omega)).trans htab6
     have ge7:W7.cell? ⟨w.heap.size + 1,41,none⟩ = some (.slice none 0 0):=by
      rw[cell_of_row _ _ _ _ _ _ htab7,Array.getElem?_setIfInBounds_ne (by decide),hR.ent 41 (by omega)]; rfl
     have gf7:W7.frozen? ⟨w.heap.size + 1,41,none⟩ = false:=by simp [World.frozen?,htab7]
     have hfin:=rt_step (o:=41) (C:=C) hR (by decide) hz4 ho4 (by rw[← hW4]; exact⟨rfl,rfl,rfl⟩) h3 h2 h5 rfl hW7 rfl
     rw[hz6] at hfin
     have HR:Aside (∃ p1' c1' p2' c2' T',RT w (W7.setCell ⟨w.heap.size + 1,41,none⟩ (.slice (some ⟨W5.heap.size,0,none⟩) 3 C)) 1 v' T' p1' c1' p2' c2'):=hfin
     rw[← hW4] at hr
     have hnn:=nil_eq
     have hi0:∀ h,(((⟨#[41]⟩:ByteArray)[0]'h).toNat:Int) = 41:=fun _=>rfl
     subst hv'
     clear hR hfin htab7 hW7 cs0 hC hfr htab6 htab5 h2 h3 h5 hown4 ho4 hW4 g0 g1 g2 g3 hz4 hz5 hz6 hnev hti hz9 hsize hby hzs h4
     go_wp2_with (at_builtin; refine Lib.wpList_append_run _ rfl _ _ _ _ rfl _ _ rfl rfl _ _ hr ?_)
     go_roundg 1
     case measure=>omega
     case rel =>
      obtain⟨p1',c1',p2',c2',T',hT⟩:=HR
      exact⟨1,_,T',p1',c1',p2',c2',by omega,by omega,rfl,hT⟩
    ·have gl:wr.cell? ⟨RB,RO,none⟩ = some (.string ⟨#[40]⟩):=(cells_below hR.below hRB _).trans g0
     have gn:wr.cell? ⟨RB,RO + 1,none⟩ = some (.string ⟨#[32,40,32]⟩):=(cells_below hR.below hRB _).trans g1
     have ge:wr.cell? ⟨w.heap.size + 1,40,none⟩ = some (.slice none 0 0):=by rw[cell_of_row _ _ _ _ _ _ hR.tab,hR.ent 40 (by omega)]; rfl
     have gt:wr.cell? ⟨w.heap.size + 1,256,none⟩ = some v:=by rw[cell_of_row _ _ _ _ _ _ hR.tab,hR.last]
     have hn1:w.heap.size + 1 < wr.heap.size:=(Array.getElem?_eq_some_iff.1 hR.tab).1
     have cv:(convert 120 9 (.slice (some ⟨wr.heap.size,0,none⟩) 1 1)).run Tryz.prog (wr.alloc (.cells #[.int .u8 40] 5)) = .ok (.string ⟨#[40]⟩) (wr.alloc (.cells #[.int .u8 40] 5)) :=
      run_convert_bytes_back (P:=Tryz.prog) _ 120 9 5 ⟨wr.heap.size,0,none⟩ 1 [40] Tryz.underlying120 Tryz.underlying5 Tryz.underlying9 (fun k hk=>by
       have:k = 0:=by simpa using hk
       subst this
       rw[World.cell?,show ((⟨wr.heap.size,0,none⟩:Addr).add 0).block = wr.heap.size from rfl,heap_alloc_new]; rfl)
     obtain⟨W4,hW4⟩:∃ W4,(wr.alloc (.cells #[.int .u8 40] 5)).alloc (.cells #[.string ⟨#[40]⟩] 9) = W4:=⟨_,rfl⟩
     have hz4:W4.heap.size = wr.heap.size + 2:=by rw[← hW4,World.size_alloc,World.size_alloc]
     have ho4:∀ b,b < wr.heap.size → W4.heap[b]? = wr.heap[b]? := fun b hb=>by
      rw[← hW4,heap_alloc_old _ _ (by rw[World.size_alloc]; omega),heap_alloc_old _ _ hb]
     obtain⟨ti,z,hti,hz9,hsize,hby,hzs⟩:=(tyElem_of el27).ex
     have hown4:oRow W4 9 1 v 1 (lets 1):=by rw[← hW4]; exact (hR.own.alloc _).alloc _
     obtain⟨v',W5,hr,h2,h3,_,h5⟩:=run_append_o W4 27 27 9 ti z 1 ti.bytes Tryz.underlying27 hti hz9 hsize rfl hzs (by omega) v 1 (lets 1) hown4 ⟨wr.heap.size + 1,0,none⟩ 1 1 [.string ⟨#[40]⟩] rfl (fun k u hk=>by
      cases k with
      | zero =>
       simp at hk
       subst hk
       rw[← hW4,World.cell?,show ((⟨wr.heap.size + 1,0,none⟩:Addr).add 0).block = (wr.alloc (.cells #[.int .u8 40] 5)).heap.size by rw[World.size_alloc]; rfl,heap_alloc_new]; rfl
      | succ k=>simp at hk) (fun u hu=>by simp at hu; subst hu; rfl) (by unfold maxLen; omega) (by
      have:=el27b
      rw[hti] at this
      have:ti.bytes = 16:=by simpa using this
      rw[this]; omega)
     have hnev:some (w.heap.size + 1) ≠ v.ownBlock:=fun e=>(hR.ne _ e.symm).2.1 rfl
     have htab5:W5.heap[w.heap.size + 1]? = some (.cells T 172):=by rw[h3.block _ (by omega) hnev,ho4 _ hn1,hR.tab]
     have ge5:(W5.cell? ⟨w.heap.size + 1,256,none⟩) = some v:=by rw[cell_of_row _ _ _ _ _ _ htab5,hR.last]
     have gf5:W5.frozen? ⟨w.heap.size + 1,256,none⟩ = false:=by simp [World.frozen?,htab5]
     obtain⟨g',off',cap',hv'⟩:∃ g' off' cap',v' = .slice (some ⟨g',off',none⟩) 2 cap':=by
      rcases h2.2 with⟨_,hnil⟩ | ⟨g',cap',cur',off',hv',_⟩
      ·simp at hnil
      ·exact⟨g',off',cap',hv'⟩
     have hz5:wr.heap.size + 2 ≤ W5.heap.size:=by rw[← hz4]; exact h3.size
     have hz6:(W5.setCell ⟨w.heap.size + 1,256,none⟩ v').heap.size = W5.heap.size:=size_set _ _ _
     have htab6:(W5.setCell ⟨w.heap.size + 1,256,none⟩ v').heap[w.heap.size + 1]? = some (.cells (T.setIfInBounds 256 v') 172):=blk_set htab5 v'
     have cs0:=run_bytes_of_string (P:=Tryz.prog) (W5.setCell ⟨w.heap.size + 1,256,none⟩ v') 9 120 5 ⟨#[32,40,32]⟩ Tryz.underlying9 Tryz.underlying120 Tryz.underlying5
     obtain⟨C,hC⟩:∃ C,grownCap (W5.setCell ⟨w.heap.size + 1,256,none⟩ v') (⟨#[32,40,32]⟩:ByteArray).size 0 5 = C:=⟨_,rfl⟩
     rw[hC,hz6] at cs0
     obtain⟨fr,hfr⟩:∃ fr,((bytesRow ⟨#[32,40,32]⟩ C).size,(bytesRow ⟨#[32,40,32]⟩ C).size + 1) = fr:=⟨_,rfl⟩
     rw[hfr] at cs0
     obtain⟨W7,hW7⟩:∃ W7,W7 = (W5.setCell ⟨w.heap.size + 1,256,none⟩ v').drew.alloc (.cells (bytesRow ⟨#[32,40,32]⟩ C) 5 fr):=⟨_,rfl⟩
     rw[← hW7] at cs0
     have cs:(convert 9 120 (.string ⟨#[32,40,32]⟩)).run Tryz.prog (W5.setCell ⟨w.heap.size + 1,256,none⟩ v') = .ok (.slice (some ⟨W5.heap.size,0,none⟩) 3 C) W7:=cs0
     have htab7:W7.heap[w.heap.size + 1]? = some (.cells (T.setIfInBounds 256 v') 172):=by
      rw[hW7]
      exact (heap_alloc_old (W5.setCell ⟨w.heap.size + 1,256,none⟩ v').drew _ (show w.heap.size + 1 < (W5.setCell ⟨w.heap.size + 1,256,none⟩ v').heap.size by rw[hz6]; omega)).trans htab6
     have ge7:W7.cell? ⟨w.heap.size + 1,40,none⟩ = some (.slice none 0 0):=by
      rw[cell_of_row _ _ _ _ _ _ htab7,Array.getElem?_setIfInBounds_ne (by decide),hR.ent 40 (by omega)]; rfl
     have gf7:W7.frozen? ⟨w.heap.size + 1,40,none⟩ = false:=by simp [World.frozen?,htab7]
     have hfin:=rt_step (o:=40) (C:=C) hR (by decide) hz4 ho4 (by rw[← hW4]; exact⟨rfl,rfl,rfl⟩) h3 h2 h5 rfl hW7 rfl
     rw[hz6] at hfin
     have HR:Aside (∃ p1' c1' p2' c2' T',RT w (W7.setCell ⟨w.heap.size + 1,40,none⟩ (.slice (some ⟨W5.heap.size,0,none⟩) 3 C)) 2 v' T' p1' c1' p2' c2'):=hfin
     rw[← hW4] at hr
     have hnn:=nil_eq
     have hi0:∀ h,(((⟨#[40]⟩:ByteArray)[0]'h).toNat:Int) = 40:=fun _=>rfl
     subst hv'
     clear hR hfin htab7 hW7 cs0 hC hfr htab6 htab5 h2 h3 h5 hown4 ho4 hW4 g0 g1 g2 g3 hz4 hz5 hz6 hnev hti hz9 hsize hby hzs h4
     go_wp2_with (at_builtin; refine Lib.wpList_append_run _ rfl _ _ _ _ rfl _ _ rfl rfl _ _ hr ?_)
     go_roundg 0
     case measure=>omega
     case rel =>
      obtain⟨p1',c1',p2',c2',T',hT⟩:=HR
      exact⟨2,_,T',p1',c1',p2',c2',by omega,by omega,rfl,hT⟩
    ·go_wp2
     go_ret
     exact⟨rfl,v,T,p1,c1,p2,c2,hR⟩
end Go.Proofs.YtcmibmohdnbhgaaGreatDoor
namespace Go.Proofs.YtcmibmohdnbhgaaGreatDoor
open Go.Lad Go.Proofs Go.RowKit
def TB (w:World) (N lo:Nat):Prop := ∃ g off cap p1 c1 p2 c2,N < w.heap.size ∧ w.cell? ⟨N,256,none⟩ = some (.slice (some ⟨g,off,none⟩) 2 cap) ∧ w.cell? ⟨g,off,none⟩ = some (.string ⟨#[41]⟩) ∧ w.cell? ⟨g,off + 1,none⟩ = some (.string ⟨#[40]⟩) ∧
 (∀ i,i < 256 → w.cell? ⟨N,i,none⟩ = some (tv 2 p1 c1 p2 c2 i)) ∧ BytesAt w p1 [32,41,32] ∧ BytesAt w p2 [32,40,32] ∧ lo ≤ N ∧ lo ≤ g ∧ g < w.heap.size ∧ lo ≤ p1 ∧ lo ≤ p2
theorem TB.frame {w w':World} {N lo:Nat} (h:TB w N lo) (hb:∀ b,lo ≤ b → b < w.heap.size → w'.heap[b]? = w.heap[b]?) (hs:w.heap.size ≤ w'.heap.size):TB w' N lo:=by
 obtain⟨g,off,cap,p1,c1,p2,c2,h1,h2,h3,h4,h5,h6,h7,h8,h9,h10,h11,h12⟩:=h
 have cl:∀ b o,lo ≤ b → b < w.heap.size → w'.cell? ⟨b,o,none⟩ = w.cell? ⟨b,o,none⟩:=fun b o h1 h2=>by simp only[World.cell?,hb b h1 h2]
 exact⟨g,off,cap,p1,c1,p2,c2,by omega,(cl _ _ h8 h1).trans h2,(cl _ _ h9 h10).trans h3,(cl _ _ h9 h10).trans h4,fun i hi=>(cl _ _ h8 h1).trans (h5 i hi),h6.frame (hb _ h11 h6.1) hs,h7.frame (hb _ h12 h7.1) hs,h8,h9,by omega,h11,h12⟩
theorem RT.tb {w w':World} {v:Value} {T:Array Value} {p1 c1 p2 c2:Nat} (h:RT w w' 2 v T p1 c1 p2 c2):TB w' (w.heap.size + 1) w.heap.size:=by
 obtain⟨g,cap,cur,off,hv,hgc⟩:∃ g cap cur off,v = .slice (some ⟨g,off,none⟩) 2 cap ∧ True:=by
  rcases h.own.2 with⟨_,hn⟩ | ⟨g,cap,cur,off,hv,_⟩
  ·simp [lets] at hn
  ·exact⟨g,cap,cur,off,hv,trivial⟩
 subst hv
 obtain⟨b1,b2,_⟩:=h.b1 (by omega)
 obtain⟨d1,d2,_⟩:=h.b2 (by omega)
 have hc:=h.own.cells (g:=g) rfl
 have ho:hOff (.slice (some ⟨g,off,none⟩) 2 cap) = off:=rfl
 rw[ho] at hc
 have c0:=hc 0 (.string ⟨#[41]⟩) rfl
 have c1':=hc 1 (.string ⟨#[40]⟩) rfl
 have hne:=h.ne g rfl
 have hgl:=(h.own.lt g rfl).2
 refine⟨g,off,cap,p1,c1,p2,c2,(Array.getElem?_eq_some_iff.1 h.tab).1,by rw[cell_of_row _ _ _ _ _ _ h.tab]; exact h.last,?_,?_,fun i hi=>by rw[cell_of_row _ _ _ _ _ _ h.tab]; exact h.ent i hi,b1,d1,by omega,hne.1,hgl,b2,d2⟩
 ·have e:(⟨g,off,none⟩:Addr).add 0 = ⟨g,off,none⟩:=by rw[Addr.add_lit]; rfl
  rwa [e] at c0
 ·rw[Addr.add_lit] at c1'; exact c1'
structure RD (w w':World) (B:Nat) (x0 x1 x2:Value):Prop where
 box:Blk w' B 93 #[x0,x1,x2,.iface 173 (.pointer (some ⟨w.heap.size + 1,0,none⟩)),.slice none 0 0]
 old:∀ b,b < w.heap.size → b ≠ B → w'.heap[b]? = w.heap[b]?
 os:w'.os = w.os ∧ w'.tape = w.tape ∧ w'.output = w.output
 size:w.heap.size ≤ w'.heap.size
 tb:TB w' (w.heap.size + 1) w.heap.size
set_option maxHeartbeats 4000000 in
set_option maxRecDepth 100000 in
theorem once_ok (B RB RO c:Nat) (x0 x1 x2 x3:Value) (w:World) (hB:Blk w B 93 #[x0,x1,x2,x3,.slice (some ⟨RB,RO,none⟩) 4 c]) (hRB:RB < w.heap.size) (g0:w.cell? ⟨RB,RO,none⟩ = some (.string ⟨#[40]⟩)) (g1:w.cell? ⟨RB,RO + 1,none⟩ = some (.string ⟨#[32,40,32]⟩)) (g2:w.cell? ⟨RB,RO + 2,none⟩ = some (.string ⟨#[41]⟩)) (g3:w.cell? ⟨RB,RO + 3,none⟩ = some (.string ⟨#[32,41,32]⟩)) :
  Calls Tryz.prog 58 #[.pointer (some ⟨B,0,none⟩)] w fun e w'=>e = .returned (.tuple #[]) ∧ RD w w' B x0 x1 x2:=by
 have hb:=build_ok B RB RO c w (by rw[hB.cell]; rfl) hRB g0 g1 g2 g3
 clear g0 g1 g2 g3
 have fin:∀ W v T p1 c1 p2 c2,RT w W 2 v T p1 c1 p2 c2 → W.cell? ⟨B,3,none⟩ = some x3 ∧ W.frozen? ⟨B,3,none⟩ = false ∧ W.cell? ⟨B,4,none⟩ = some (.slice (some ⟨RB,RO,none⟩) 4 c) ∧ W.frozen? ⟨B,4,none⟩ = false ∧
   RD w ((W.setCell ⟨B,3,none⟩ (.iface 173 (.pointer (some ⟨w.heap.size + 1,0,none⟩)))).setCell ⟨B,4,none⟩ (.slice none 0 0)) B x0 x1 x2:=fun W v T p1 c1 p2 c2 h=>by
  have hB':Blk W B 93 #[x0,x1,x2,x3,.slice (some ⟨RB,RO,none⟩) 4 c]:=hB.below h.below hB.lt
  have hlt:=hB.lt
  refine⟨by rw[hB'.cell]; rfl,hB'.frozen _,by rw[hB'.cell]; rfl,hB'.frozen _,?_,fun b hb hne=>?_,?_,?_,?_⟩
  ·exact (hB'.set_ 3 _).set_ 4 _
  ·rw[Below.heap_setCell _ _ _ b hne,Below.heap_setCell _ _ _ b hne]; exact h.below.block b hb
  ·exact⟨h.below.os,h.below.tape,h.below.output⟩
  ·rw[size_set,size_set]; exact h.below.size
  ·refine h.tb.frame (fun b h1 _=>?_) (by rw[size_set,size_set]; exact Nat.le_refl _)
   rw[Below.heap_setCell _ _ _ b (by show b ≠ B; omega),Below.heap_setCell _ _ _ b (by show b ≠ B; omega)]
 clear hB hRB
 go_enter Tryz.func58,Tryz.ntmps58
 go_wp2_with (go_at_call 92; refine hb.mono ?_; rintro e w' ⟨rfl,v,T,p1,c1,p2,c2,hT⟩; obtain⟨e1,e2,e3,e4,hD⟩:=fin _ _ _ _ _ _ _ hT; clear fin hb hT)
 go_end0
 exact⟨rfl,hD⟩
end Go.Proofs.YtcmibmohdnbhgaaGreatDoor
namespace Go.Proofs.YtcmibmohdnbhgaaGreatDoor
open Go.Lad Go.Proofs Go.RowKit
theorem RD.set_left {w w1 w2:World} {B:Nat} {x0 x1 x2:Value} {i:Nat} {u:Value} (h:RD w1 w2 B x0 x1 x2) (h1:w1 = w.setCell ⟨B,i,none⟩ u):RD w w2 B x0 x1 x2:=by
 have hs:w1.heap.size = w.heap.size:=by rw[h1,size_set]
 refine⟨by rw[← hs]; exact h.box,fun b hb hne=>?_,?_,by rw[← hs]; exact h.size,by rw[← hs]; exact h.tb⟩
 ·rw[h.old b (by omega) hne,h1,Below.heap_setCell _ _ _ b hne]
 ·have:=h.os; rw[h1] at this; exact this
theorem RD.set_right {w w2 w3:World} {B:Nat} {x0 x1 x2 y0 y1 y2:Value} {i:Nat} {u:Value} (h:RD w w2 B x0 x1 x2) (hB:B < w.heap.size) (h3:w3 = w2.setCell ⟨B,i,none⟩ u)
  (hc : #[x0,x1,x2,.iface 173 (.pointer (some ⟨w.heap.size + 1,0,none⟩)),.slice none 0 0].setIfInBounds i u = #[y0,y1,y2,.iface 173 (.pointer (some ⟨w.heap.size + 1,0,none⟩)),.slice none 0 0]):RD w w3 B y0 y1 y2:=by
 subst h3
 refine⟨by rw[← hc]; exact h.box.set_ i u,fun b hb hne=>?_,h.os,by rw[size_set]; exact h.size,h.tb.frame (fun b hb _=>?_) (by rw[size_set]; exact Nat.le_refl _)⟩
 ·rw[Below.heap_setCell _ _ _ b hne]; exact h.old b hb hne
 ·rw[Below.heap_setCell _ _ _ b (by show b ≠ B; omega)]
theorem RD.drew {w w2:World} {B:Nat} {x0 x1 x2:Value} (h:RD w w2 B x0 x1 x2):RD w w2.drew B x0 x1 x2:=⟨h.box,h.old,h.os,h.size,h.tb.frame (fun _ _ _=>rfl) (Nat.le_refl _)⟩
set_option maxHeartbeats 4000000 in
set_option maxRecDepth 100000 in
theorem slow_ok (B RB RO c:Nat) (x2 x3:Value) (w:World) (hB:Blk w B 93 #[.int .u32 0,.int .i32 0,x2,x3,.slice (some ⟨RB,RO,none⟩) 4 c]) (hRB:RB < w.heap.size) (hne:RB ≠ B) (g0:w.cell? ⟨RB,RO,none⟩ = some (.string ⟨#[40]⟩)) (g1:w.cell? ⟨RB,RO + 1,none⟩ = some (.string ⟨#[32,40,32]⟩)) (g2:w.cell? ⟨RB,RO + 2,none⟩ = some (.string ⟨#[41]⟩)) (g3:w.cell? ⟨RB,RO + 3,none⟩ = some (.string ⟨#[32,41,32]⟩)) :
  Calls Tryz.prog 91 #[.pointer (some ⟨B,0,none⟩),.func (.func 58) #[.pointer (some ⟨B,0,none⟩)] #[]] w fun e w'=>e = .returned (.tuple #[]) ∧ RD w w' B (.int .u32 1) (.int .i32 0) x2:=by
 have hlt:=hB.lt
 have hB1:Blk (w.setCell ⟨B,1,none⟩ (.int .i32 1)) B 93 #[.int .u32 0,.int .i32 1,x2,x3,.slice (some ⟨RB,RO,none⟩) 4 c]:=hB.set_ 1 _
 have gc:∀ o,(w.setCell ⟨B,1,none⟩ (.int .i32 1)).cell? ⟨RB,o,none⟩ = w.cell? ⟨RB,o,none⟩:=fun o=>by simp only[World.cell?,Below.heap_setCell w ⟨B,1,none⟩ _ RB hne]
 have hl:=lock2 B 1 w (by rw[hB.cell]; rfl) (hB.frozen _)
 have hd:=load_ok B 0 0 (w.setCell ⟨B,1,none⟩ (.int .i32 1)) (by rw[hB1.cell]; rfl)
 have ho:=once_ok B RB RO c _ _ _ _ _ hB1 (by rw[size_set]; exact hRB) ((gc _).trans g0) ((gc _).trans g1) ((gc _).trans g2) ((gc _).trans g3)
 have hnot:∀ (x:Bool) (w:World),(Op.unary .not (.bool x)).run Tryz.prog w = .ok (.bool (!x)) w:=fun _ _=>rfl
 have fin:∀ w2,RD (w.setCell ⟨B,1,none⟩ (.int .i32 1)) w2 B (.int .u32 0) (.int .i32 1) x2 → w2.cell? ⟨B,0,none⟩ = some (.int .u32 0) ∧ w2.frozen? ⟨B,0,none⟩ = false ∧ (w2.drew.setCell ⟨B,0,none⟩ (.int .u32 1)).cell? ⟨B,1,none⟩ = some (.int .i32 1) ∧ (w2.drew.setCell ⟨B,0,none⟩ (.int .u32 1)).frozen? ⟨B,1,none⟩ = false ∧
   RD w ((w2.drew.setCell ⟨B,0,none⟩ (.int .u32 1)).setCell ⟨B,1,none⟩ (.int .i32 0)) B (.int .u32 1) (.int .i32 0) x2:=fun w2 h=>by
  have h':=h.set_left rfl
  have h3:RD w (w2.drew.setCell ⟨B,0,none⟩ (.int .u32 1)) B (.int .u32 1) (.int .i32 1) x2:=h'.drew.set_right hlt rfl rfl
  exact⟨by rw[h.box.cell]; rfl,h.box.frozen _,by rw[h3.box.cell]; rfl,h3.box.frozen _,h3.set_right hlt rfl rfl⟩
 clear hB hB1 gc g0 g1 g2 g3 hRB hne
 go_enter_defers Tryz.func91,Tryz.ntmps91
 go_wp2_with (first | (go_at_call 132; refine hl.mono ?_; rintro e w' ⟨rfl,rfl⟩) | (go_at_call 90; refine hd.mono ?_; rintro e w' ⟨rfl,rfl⟩) | (go_at_call 58; refine ho.mono ?_; rintro e w' ⟨rfl,hD⟩; clear ho))
 obtain⟨e1,e2,e3,e4,hE⟩:=fin _ hD
 clear fin hD
 go_wp2
 refine leaves_cons (f:=134) (args := #[.pointer (some ⟨B,0,none⟩),.bool true]) (by simp) (by simp [go_sem]) ?_
 refine (store_d B 0 (.int .u32 0) .returning _ e1 e2).mono ?_
 rintro e u' w'' ⟨rfl,rfl,rfl⟩
 refine leaves_cons (f:=133) (args := #[.pointer (some ⟨B,1,none⟩)]) (by simp [settle]) (by simp [go_sem]) ?_
 refine (unlock_d B 1 _ _ e3 e4).mono ?_
 rintro e u' w'' ⟨rfl,rfl,rfl⟩
 simp [Leaves,settle,results,Tryz.results91]
 exact hE
set_option maxHeartbeats 4000000 in
set_option maxRecDepth 100000 in
theorem do_ok (B RB RO c:Nat) (x2 x3:Value) (w:World) (hB:Blk w B 93 #[.int .u32 0,.int .i32 0,x2,x3,.slice (some ⟨RB,RO,none⟩) 4 c]) (hRB:RB < w.heap.size) (hne:RB ≠ B) (g0:w.cell? ⟨RB,RO,none⟩ = some (.string ⟨#[40]⟩)) (g1:w.cell? ⟨RB,RO + 1,none⟩ = some (.string ⟨#[32,40,32]⟩)) (g2:w.cell? ⟨RB,RO + 2,none⟩ = some (.string ⟨#[41]⟩)) (g3:w.cell? ⟨RB,RO + 3,none⟩ = some (.string ⟨#[32,41,32]⟩)) :
  Calls Tryz.prog 57 #[.pointer (some ⟨B,0,none⟩),.func (.func 58) #[.pointer (some ⟨B,0,none⟩)] #[]] w fun e w'=>e = .returned (.tuple #[]) ∧ RD w w' B (.int .u32 1) (.int .i32 0) x2:=by
 have hs:=slow_ok B RB RO c x2 x3 w hB hRB hne g0 g1 g2 g3
 have hd:=load_ok B 0 0 w (by rw[hB.cell]; rfl)
 have hnot:∀ (x:Bool) (w:World),(Op.unary .not (.bool x)).run Tryz.prog w = .ok (.bool (!x)) w:=fun _ _=>rfl
 clear hB g0 g1 g2 g3 hRB hne
 go_enter Tryz.func57,Tryz.ntmps57
 go_wp2_with (first | (go_at_call 90; refine hd.mono ?_; rintro e w' ⟨rfl,rfl⟩) | (go_at_call 91; refine hs.mono ?_; rintro e w' ⟨rfl,hD⟩; clear hs))
 go_end0
 exact⟨rfl,hD⟩
end Go.Proofs.YtcmibmohdnbhgaaGreatDoor
namespace Go.Proofs.YtcmibmohdnbhgaaGreatDoor
open Go.Lad Go.Proofs Go.RowKit
def isPar (c:UInt8):Bool:=Nat.beq c.toNat 40 || Nat.beq c.toNat 41
theorem rp1_len (c:UInt8):(rp1 c).length = if isPar c = true then 3 else 1:=by
 unfold rp1 isPar
 cases Nat.beq c.toNat 40 <;> cases Nat.beq c.toNat 41 <;> rfl
theorem rp1_not {c:UInt8} (h:isPar c = false):rp1 c = [c]:=by
 unfold isPar at h
 rw[Bool.or_eq_false_iff] at h
 unfold rp1
 rw[h.1,h.2]; rfl
def parN (l:Bs) (k:Nat):Nat:=(l.take k).countP isPar
theorem parN_succ (l:Bs) {k:Nat} (h:k < l.length):parN l (k + 1) = parN l k + if isPar l[k] = true then 1 else 0:=by
 unfold parN
 rw[List.take_succ_eq_append_getElem h,List.countP_append,List.countP_singleton]
theorem parN_le (l:Bs) (k:Nat):parN l k ≤ k:=Nat.le_trans List.countP_le_length (by rw[List.length_take]; omega)
theorem parN_mono (l:Bs):∀ (d k:Nat),k + d ≤ l.length → parN l k ≤ parN l (k + d)
 | 0,_,_=>Nat.le_refl _
 | d + 1,k,h=>by
  refine Nat.le_trans (parN_mono l d k (by omega)) ?_
  rw[show k + (d + 1) = k + d + 1 by omega,parN_succ l (by omega)]
  omega
theorem out_len (l:Bs):∀ k,k ≤ l.length → ((l.take k).flatMap rp1).length = k + 2 * parN l k
 | 0,_=>by simp [parN]
 | k + 1,h=>by
  rw[parN_succ l (by omega),List.take_succ_eq_append_getElem (by omega),List.flatMap_append,List.length_append,out_len l k (by omega),List.flatMap_singleton,rp1_len]
  split <;> omega
theorem out_none (l:Bs) (h:parN l l.length = 0):l.flatMap rp1 = l:=by
 unfold parN at h
 rw[List.take_length,List.countP_eq_zero] at h
 have:∀ m:Bs,(∀ c ∈ m,¬ isPar c = true) → m.flatMap rp1 = m:=by
  intro m
  induction m with
  | nil=>intro _; rfl
  | cons c m ih =>
   intro hm
   rw[List.flatMap_cons,rp1_not (by simpa using hm c List.mem_cons_self),ih fun d hd=>hm d (List.mem_cons_of_mem _ hd)]
   rfl
 exact this l h
theorem par_count (l:Bs):parN l l.length = l.count 41 + l.count 40:=by
 unfold parN
 rw[List.take_length]
 induction l with
 | nil=>rfl
 | cons c l ih =>
  rw[List.countP_cons,List.count_cons,List.count_cons,ih]
  have e:isPar c = true ↔ c = 41 ∨ c = 40:=by
   unfold isPar
   rw[Bool.or_eq_true]
   constructor
   ·rintro (h | h)
    ·exact .inr (UInt8.toNat_inj.1 (Nat.eq_of_beq_eq_true h))
    ·exact .inl (UInt8.toNat_inj.1 (Nat.eq_of_beq_eq_true h))
   ·rintro (rfl | rfl)
    ·exact .inr rfl
    ·exact .inl rfl
  by_cases h1:c = 41
  ·subst h1; simp [e]; omega
  ·by_cases h2:c = 40
   ·subst h2; simp [e]; omega
   ·rw[if_neg (by rw[e]; simp [h1,h2])]
    simp [h1,h2]
structure RW (w wr:World) (N p1 c1 p2 c2:Nat):Prop where
 below:Below w.heap.size w wr
 e40:wr.cell? ⟨N,40,none⟩ = some (.slice (some ⟨p2,0,none⟩) 3 c2)
 e41:wr.cell? ⟨N,41,none⟩ = some (.slice (some ⟨p1,0,none⟩) 3 c1)
 e0:∀ R,R < 256 → R ≠ 40 → R ≠ 41 → wr.cell? ⟨N,R,none⟩ = some (.slice none 0 0)
 b1:BytesAt wr p1 [32,41,32]
 b2:BytesAt wr p2 [32,40,32]
 lt:N < wr.heap.size
theorem RW.drewN {w wr:World} {N p1 c1 p2 c2:Nat} (h:RW w wr N p1 c1 p2 c2) (q:Nat):RW w (wr.drewN q) N p1 c1 p2 c2:=⟨⟨h.below.os,h.below.tape,h.below.output,h.below.size,h.below.block⟩,h.e40,h.e41,h.e0,h.b1,h.b2,h.lt⟩
theorem buf_drew {w wr:World} {h N:Nat} {acc:List UInt8} (b:Lib.Buf w wr h N acc):Lib.Buf w wr.drew h N acc:=⟨⟨b.below.os,b.below.tape,b.below.output,b.below.size,b.below.block⟩,b.there,b.free,b.holds,b.fits⟩
theorem buf_set {w wr:World} {h N:Nat} {acc:List UInt8} {x:UInt8} (b:Lib.Buf w wr h N acc) (hh:w.heap.size ≤ h) (hl:acc.length < N):Lib.Buf w (wr.setCell ⟨h,acc.length,none⟩ (.int .u8 (x.toNat:Int))) h N (acc ++ [x]):=by
 have hs:=b.there acc.length hl
 refine⟨b.below.setCell (p:=⟨h,acc.length,none⟩) (Nat.le_refl _) _,fun j hj=>?_,fun j hj=>?_,fun j y hy=>?_,by rw[List.length_append]; exact hl⟩
 ·by_cases e:j = acc.length
  ·subst e
   rw[World.cell?_setCell_same' _ _ _ hs]; rfl
  ·rw[World.cell?_setCell_other _ _ _ _ (by intro h; injection h with _ h _; exact e h.symm)]; exact b.there j hj
 ·rw[World.frozen?_setCell]; exact b.free j hj
 ·by_cases e:j = acc.length
  ·subst e
   rw[World.cell?_setCell_same' _ _ _ hs]
   rw[List.getElem?_append_right (Nat.le_refl _),Nat.sub_self] at hy
   simp at hy
   rw[hy]
  ·rw[World.cell?_setCell_other _ _ _ _ (by intro h; injection h with _ h _; exact e h.symm)]
   have:j < acc.length:=by
    have:=(List.getElem?_eq_some_iff.1 hy).1
    rw[List.length_append] at this
    simp at this; omega
   rw[List.getElem?_append_left this] at hy
   exact b.holds j y hy
theorem ms120 (w:World) (m:Nat) (hm:m ≤ 10000000) (x:Int) (hx:x = m):∃ Z:Array Value,Z.size = m ∧ (Instr.makeSlice 120 (.int .i64 x) (.int .i64 x)).run Tryz.prog w = .ok (.slice (some ⟨w.heap.size,0,none⟩) m m) (w.alloc (.cells Z 5)):=by
 subst hx
 obtain⟨ti,hti⟩:∃ ti,Tryz.prog.info? 5 = some ti:=Option.isSome_iff_exists.1 (by kernel_rfl)
 have hz:((Tryz.prog.info? 5).bind (·.zero)) = some (.int .u8 0):=by kernel_rfl
 have hs:(Tryz.prog.info? 5).map (·.size) = some 1:=by kernel_rfl
 have hb:(Tryz.prog.info? 5).map (·.bytes) = some 1:=by kernel_rfl
 rw[hti] at hz hs hb
 have hz:ti.zero = some (.int .u8 0):=hz
 have hs:ti.size = 1:=by simpa using hs
 have hb:ti.bytes = 1:=by simpa using hb
 have:=run_makeSlice (P:=Tryz.prog) w 120 5 ti (.int .u8 0) Tryz.underlying120 hti hz .i64 .i64 m m (by omega) (by omega) (by rw[hs]; simp; omega) (by rw[hb]; omega) (by omega)
 rw[hs] at this
 exact⟨_,by rw[size_madeCells]; simp,this⟩
theorem size5 (w:World):(Go.sizeOf 5).run Tryz.prog w = .ok 1 w:=Tryz.sizeOf5 w
theorem info5:(Tryz.prog.info? 5).map (·.size) = some 1:=by kernel_rfl
set_option maxHeartbeats 4000000 in
set_option maxRecDepth 100000 in
theorem replB_ok (N lo:Nat) (s:ByteArray) (w:World) (hT:TB w N lo) (hs:s.size ≤ 1000000) (h16:s.size < 16) :
  Calls Tryz.prog 224 #[.pointer (some ⟨N,0,none⟩),.string s] w fun e w'=>e = .returned (.string (mkS (s.data.toList.flatMap rp1))) ∧ Below w.heap.size w w':=by
 have mixed:Tryz.prog.follows .mixedOrders = true:=by kernel_rfl
 obtain⟨g,off,cap,p1,c1,p2,c2,hN,t256,tg0,tg1,tent,tb1,tb2,_,_,_,_,_⟩:=hT
 obtain⟨n,hn⟩:∃ n,s.size = n:=⟨_,rfl⟩
 have hsl:s.data.toList.length = n:=by rw[← hn]; rfl
 have H:Aside (s.size = n ∧ s.data.toList.length = n):=⟨hn,hsl⟩
 have h16':¬ ((16:Int) ≤ (n:Int)):=by omega
 have hW0:RW w w N p1 c1 p2 c2:=⟨Below.refl _ _,tent 40 (by omega),tent 41 (by omega),fun R h h1 h2=>by rw[tent R h]; unfold tv; rw[if_neg (by omega),if_neg (by omega)],tb1,tb2,hN⟩
 have HW0:Aside (RW w w N p1 c1 p2 c2):=hW0
 clear tent hW0
 have hs:n ≤ 1000000:=by omega
 obtain⟨L,hL⟩:∃ L,s.data.toList = L:=⟨_,rfl⟩
 have HL:Aside (s.data.toList = L):=hL
 rw[hL] at hsl H ⊢
 clear hL
 clear hsl
 go_enter Tryz.func224,Tryz.ntmps224
 go_wp2
 go_loopg [5,6,10] n (fun g s5 s6 s10 wr=>∃ k:Nat,k ≤ n ∧ n - k ≤ g ∧ s5 = .int .i64 ((n:Int) + 2 * (parN L k:Int)) ∧ s6 = .bool (decide (parN L k ≠ 0)) ∧ s10 = .int .i64 (k:Int) ∧ RW w wr N p1 c1 p2 c2)
 case atStart=>exact⟨0,by omega,by omega,by simp [parN],by simp [parN],rfl,HW0⟩
 case round =>
  obtain⟨k,hk,hg,rfl,rfl,rfl,hW⟩:=hrel
  by_cases hlt:k < n
  ·have hkL:k < L.length:=by rw[H.2]; exact hlt
   obtain⟨b,hb⟩:∃ b,L[k] = b:=⟨_,rfl⟩
   have hix:∀ h,(s[k]'h) = b:=fun h=>by
    rw[← hb]
    have:=HL
    unfold Aside at this
    subst this
    rfl
   have hpar:=parN_succ L hkL
   rw[hb] at hpar
   have hcl:=parN_le L k
   obtain⟨R,hR⟩:∃ R,b.toNat = R:=⟨_,rfl⟩
   have hR256:R < 256:=by rw[← hR]; exact b.toNat_lt
   have HW:Aside (RW w wr N p1 c1 p2 c2):=hW
   have e40:=hW.e40
   have e41:=hW.e41
   have e0:R ≠ 40 → R ≠ 41 → wr.cell? ⟨N,R,none⟩ = some (.slice none 0 0):=hW.e0 R hR256
   clear hW
   have hisp:isPar b = (Nat.beq R 40 || Nat.beq R 41):=by unfold isPar; rw[hR]
   obtain⟨q,hq⟩:∃ q,parN L k = q:=⟨_,rfl⟩
   rw[hq] at hpar hcl ⊢
   have hqk:q ≤ 1000000:=by omega
   clear hq
   by_cases h40:R = 40
   ·subst h40
    rw[hisp] at hpar
    have HP:Aside (parN L (k + 1) = q + 1):=hpar
    clear hpar hb hisp
    go_wp2
    go_roundg (n - (k + 1))
    case measure=>omega
    case rel =>
     have HP:parN L (k + 1) = q + 1:=HP
     exact⟨k + 1,by omega,by omega,by rw[HP]; congr 1,by rw[HP]; simp,by go_num,HW⟩
   ·by_cases h41:R = 41
    ·subst h41
     rw[hisp] at hpar
     have HP:Aside (parN L (k + 1) = q + 1):=hpar
     clear hpar hb hisp
     go_wp2
     go_roundg (n - (k + 1))
     case measure=>omega
     case rel =>
      have HP:parN L (k + 1) = q + 1:=HP
      exact⟨k + 1,by omega,by omega,by rw[HP]; congr 1,by rw[HP]; simp,by go_num,HW⟩
    ·have e0:=e0 h40 h41
     have hnp:(Nat.beq R 40 || Nat.beq R 41) = false:=by
      rw[Bool.or_eq_false_iff,← Bool.not_eq_true,← Bool.not_eq_true]
      exact⟨fun e=>h40 (Nat.eq_of_beq_eq_true e),fun e=>h41 (Nat.eq_of_beq_eq_true e)⟩
     rw[hisp,hnp] at hpar
     have HP:Aside (parN L (k + 1) = q):=hpar
     clear hpar hb hisp hnp e40 e41
     go_wp2
     go_roundg (n - (k + 1))
     case measure=>omega
     case rel =>
      have HP:parN L (k + 1) = q:=HP
      exact⟨k + 1,by omega,by omega,by rw[HP],by rw[HP],by go_num,HW⟩
  ·have hkn:k = n:=by omega
   subst hkn
   obtain⟨q,hq⟩:∃ q,parN L k = q:=⟨_,rfl⟩
   have hqn:=parN_le L k
   rw[hq] at hqn ⊢
   rename World=>W
   have HQ:Aside (parN L k = q):=hq
   have HW:Aside (RW w W N p1 c1 p2 c2):=hW
   clear hq hW
   by_cases hq0:q = 0
   ·subst hq0
    go_wp2
    go_ret
    refine⟨?_,HW.below⟩
    rw[out_none L (by rw[H.2]; exact HQ),← HL]
    exact congrArg Ending.returned (congrArg Value.string (mkS_of s).symm)
   ·obtain⟨Z,hZ,hms⟩:=ms120 W (k + 2 * q) (by omega) ((k:Int) + 2 * (q:Int)) (by omega)
    have hneg:¬ ((k:Int) + 2 * (q:Int) < 0):=by omega
    have HZ:Aside (Z.size = k + 2 * q):=hZ
    clear hZ
    obtain⟨M,hM⟩:∃ M,k + 2 * q = M:=⟨_,rfl⟩
    rw[hM] at hms
    have HM:Aside (k + 2 * q = M):=hM
    clear hM
    go_wp2
    go_loopg [13,14] k (fun g s13 s14 wr=>∃ (i:Nat) (acc:List UInt8),i ≤ k ∧ k - i ≤ g ∧ acc = (L.take i).flatMap rp1 ∧ s13 = .int .i64 (acc.length:Int) ∧ s14 = .int .i64 (i:Int) ∧ Lib.Buf W wr W.heap.size M acc)
    case atStart=>exact⟨0,[],by omega,by omega,rfl,rfl,rfl,Lib.Buf.start W Z 5 M 0 (by have:=HZ; unfold Aside at this HM; omega)⟩
    case round =>
     obtain⟨i,acc,hi,hgi,hacc,rfl,rfl,hB⟩:=hrel
     by_cases hik:i < k
     ·have hkL:i < L.length:=by rw[H.2]; exact hik
      obtain⟨b,hb⟩:∃ b,L[i] = b:=⟨_,rfl⟩
      have hix:∀ h,(s[i]'h) = b:=fun h=>by
       rw[← hb]
       have:=HL
       unfold Aside at this
       subst this
       rfl
      have hnext:(L.take (i + 1)).flatMap rp1 = acc ++ rp1 b:=by
       rw[List.take_succ_eq_append_getElem hkL,List.flatMap_append,← hacc,List.flatMap_singleton,hb]
      have hlen:acc.length + (rp1 b).length ≤ M:=by
       have h1:=out_len L (i + 1) (by omega)
       rw[hnext,List.length_append] at h1
       have h2:=parN_mono L (k - (i + 1)) (i + 1) (by rw[H.2]; omega)
       rw[show i + 1 + (k - (i + 1)) = k by omega] at h2
       unfold Aside at HQ HM
       omega
      obtain⟨R,hR⟩:∃ R,b.toNat = R:=⟨_,rfl⟩
      have hR256:R < 256:=by rw[← hR]; exact b.toNat_lt
      have hcell:∀ o,wr.cell? ⟨N,o,none⟩ = W.cell? ⟨N,o,none⟩:=fun o=>by simp only[World.cell?,hB.below.block N HW.lt]
      have e40:=(hcell 40).trans HW.e40
      have e41:=(hcell 41).trans HW.e41
      have e0:R ≠ 40 → R ≠ 41 → wr.cell? ⟨N,R,none⟩ = some (.slice none 0 0):=fun h1 h2=>(hcell R).trans (HW.e0 R hR256 h1 h2)
      by_cases h40:R = 40
      ·subst h40
       have hrp:rp1 b = [32,40,32]:=by unfold rp1; rw[hR]; rfl
       rw[hrp] at hnext hlen
       have hv:Lib.HoldsBytes W (.slice (some ⟨p2,0,none⟩) 3 c2) [32,40,32]:=⟨_,c2,rfl,fun h=>(by cases h),fun a ha j x hx=>by
        injection ha with ha
        subst ha
        rw[Addr.add_lit,Nat.zero_add]
        exact HW.b2.2 j x hx⟩
       obtain⟨W2,hcp,hB2⟩:=Lib.copy_part (P:=Tryz.prog) W wr.drew W.heap.size M acc [32,40,32] (.slice (some ⟨p2,0,none⟩) 3 c2) 120 3 5 Tryz.underlying120 info5 (Nat.le_refl _) (buf_drew hB) hv hlen
       have hsl:=fun W'=>Lib.run_slice_tailV (P:=Tryz.prog) W' 120 5 Tryz.underlying120 size5 W.heap.size M acc.length (by omega)
       have HB:Aside (Lib.Buf W W2 W.heap.size M (acc ++ [32,40,32])):=hB2
       have HN:Aside ((L.take (i + 1)).flatMap rp1 = acc ++ [32,40,32]):=hnext
       obtain⟨j,hj⟩:∃ j,acc.length = j:=⟨_,rfl⟩
       rw[hj] at hcp hsl hlen ⊢
       have HJ:Aside (acc.length = j):=hj
       have hjb:j ≤ 10000000:=by have:=HM; unfold Aside at this; simp at hlen; omega
       clear hB hB2 hnext hj hv hcell hacc hrp hb
       go_wp2
       go_region_law_o (refine Go.Proofs.step_copy_runI rfl _ _ 120 120 rfl _ _ (by simp [Act.eval,Act.put]) (by simp [Act.eval,Act.put]) hcp ?_)
       go_wp2
       go_roundg (k - (i + 1))
       case measure=>omega
       case rel =>
        have HJ:acc.length = j:=HJ
        exact⟨i + 1,acc ++ [32,40,32],by omega,by omega,(by have:=HN; unfold Aside at this; exact this.symm),by rw[List.length_append,HJ]; congr 1,by go_num,HB⟩
      ·by_cases h41:R = 41
       ·subst h41
        have hrp:rp1 b = [32,41,32]:=by unfold rp1; rw[hR]; rfl
        rw[hrp] at hnext hlen
        have hv:Lib.HoldsBytes W (.slice (some ⟨p1,0,none⟩) 3 c1) [32,41,32]:=⟨_,c1,rfl,fun h=>(by cases h),fun a ha j x hx=>by
         injection ha with ha
         subst ha
         rw[Addr.add_lit,Nat.zero_add]
         exact HW.b1.2 j x hx⟩
        obtain⟨W2,hcp,hB2⟩:=Lib.copy_part (P:=Tryz.prog) W wr.drew W.heap.size M acc [32,41,32] (.slice (some ⟨p1,0,none⟩) 3 c1) 120 3 5 Tryz.underlying120 info5 (Nat.le_refl _) (buf_drew hB) hv hlen
        have hsl:=fun W'=>Lib.run_slice_tailV (P:=Tryz.prog) W' 120 5 Tryz.underlying120 size5 W.heap.size M acc.length (by omega)
        have HB:Aside (Lib.Buf W W2 W.heap.size M (acc ++ [32,41,32])):=hB2
        have HN:Aside ((L.take (i + 1)).flatMap rp1 = acc ++ [32,41,32]):=hnext
        obtain⟨j,hj⟩:∃ j,acc.length = j:=⟨_,rfl⟩
        rw[hj] at hcp hsl hlen ⊢
        have HJ:Aside (acc.length = j):=hj
        have hjb:j ≤ 10000000:=by have:=HM; unfold Aside at this; simp at hlen; omega
        clear hB hB2 hnext hj hv hcell hacc hrp hb
        go_wp2
        go_region_law_o (refine Go.Proofs.step_copy_runI rfl _ _ 120 120 rfl _ _ (by simp [Act.eval,Act.put]) (by simp [Act.eval,Act.put]) hcp ?_)
        go_wp2
        go_roundg (k - (i + 1))
        case measure=>omega
        case rel =>
         have HJ:acc.length = j:=HJ
         exact⟨i + 1,acc ++ [32,41,32],by omega,by omega,(by have:=HN; unfold Aside at this; exact this.symm),by rw[List.length_append,HJ]; congr 1,by go_num,HB⟩
       ·have e0:=e0 h40 h41
        have hnp:isPar b = false:=by
         unfold isPar
         rw[hR,Bool.or_eq_false_iff,← Bool.not_eq_true,← Bool.not_eq_true]
         exact⟨fun e=>h40 (Nat.eq_of_beq_eq_true e),fun e=>h41 (Nat.eq_of_beq_eq_true e)⟩
        rw[rp1_not hnp] at hnext hlen
        have hlen:acc.length < M:=by simp at hlen; omega
        have HB:Aside (Lib.Buf W (wr.setCell ⟨W.heap.size,acc.length,none⟩ (.int .u8 (b.toNat:Int))) W.heap.size M (acc ++ [b])):=buf_set hB (Nat.le_refl _) hlen
        rw[hR] at HB
        have HN:Aside ((L.take (i + 1)).flatMap rp1 = acc ++ [b]):=hnext
        have hth:=hB.there acc.length hlen
        have hfr:=hB.free acc.length hlen
        obtain⟨old,hold⟩:=Option.isSome_iff_exists.1 hth
        obtain⟨j,hj⟩:∃ j,acc.length = j:=⟨_,rfl⟩
        rw[hj] at hlen hold hfr HB ⊢
        have HJ:Aside (acc.length = j):=hj
        have hjb:j ≤ 10000000:=by have:=HM; unfold Aside at this; omega
        clear hB hnext hj hcell hacc hb hnp hth e40 e41
        go_wp2
        go_roundg (k - (i + 1))
        case measure=>omega
        case rel =>
         have HJ:acc.length = j:=HJ
         exact⟨i + 1,acc ++ [b],by omega,by omega,(by have:=HN; unfold Aside at this; exact this.symm),by rw[List.length_append,HJ]; congr 1,by go_num,HB⟩
     ·have hik:i = k:=by omega
      subst hik
      have hfull:acc = L.flatMap rp1:=by rw[hacc,List.take_of_length_le (by rw[H.2]; exact Nat.le_refl _)]
      have hlen:acc.length = M:=by
       rw[hacc,out_len L i (by rw[H.2]; exact Nat.le_refl _)]
       unfold Aside at HQ HM
       omega
      have hcv:=run_convert_bytes_back (P:=Tryz.prog) wr 120 9 5 ⟨W.heap.size,0,none⟩ M acc Tryz.underlying120 Tryz.underlying5 Tryz.underlying9 (fun j hj=>by
       rw[Addr.add_lit,Nat.zero_add]
       exact hB.holds j _ (List.getElem?_eq_getElem hj))
      rw[hlen] at hcv
      have HF:Aside (acc = L.flatMap rp1):=hfull
      have HBW:Aside (Below W.heap.size W wr):=hB.below
      clear hB hacc hfull hlen
      go_wp2
      go_ret
      refine⟨?_,?_⟩
      ·have HF:acc = L.flatMap rp1:=HF
       rw[← HF]; rfl
      ·have h1:Below w.heap.size w W:=HW.below
       exact h1.trans ((show Below W.heap.size W wr from HBW).mono h1.size)
end Go.Proofs.YtcmibmohdnbhgaaGreatDoor
namespace Go.Proofs.YtcmibmohdnbhgaaGreatDoor
open Go.Lad Go.Proofs Go.RowKit
set_option maxHeartbeats 4000000 in
set_option maxRecDepth 100000 in
theorem replA_ok (N lo:Nat) (s:ByteArray) (w:World) (hT:TB w N lo) (hs:s.size ≤ 1000000) (h16:16 ≤ s.size) :
  Calls Tryz.prog 224 #[.pointer (some ⟨N,0,none⟩),.string s] w fun e w'=>e = .returned (.string (mkS (s.data.toList.flatMap rp1))) ∧ Below w.heap.size w w':=by
 have mixed:Tryz.prog.follows .mixedOrders = true:=by kernel_rfl
 obtain⟨g,off,cap,p1,c1,p2,c2,hN,t256,tg0,tg1,tent,tb1,tb2,_,_,_,_,_⟩:=hT
 obtain⟨k,hn⟩:∃ k,s.size = k:=⟨_,rfl⟩
 have hsl:s.data.toList.length = k:=by rw[← hn]; rfl
 have H:Aside (s.size = k ∧ s.data.toList.length = k):=⟨hn,hsl⟩
 have h16':((16:Int) ≤ (k:Int)):=by omega
 have hW0:RW w w N p1 c1 p2 c2:=⟨Below.refl _ _,tent 40 (by omega),tent 41 (by omega),fun R h h1 h2=>by rw[tent R h]; unfold tv; rw[if_neg (by omega),if_neg (by omega)],tb1,tb2,hN⟩
 have HW0:Aside (RW w w N p1 c1 p2 c2):=hW0
 clear tent hW0
 have hs:k ≤ 1000000:=by omega
 have n41:=fun W=>Tryz.strings_Count_one s 41 W
 have n40:=fun W=>Tryz.strings_Count_one s 40 W
 obtain⟨L,hL⟩:∃ L,s.data.toList = L:=⟨_,rfl⟩
 have HL:Aside (s.data.toList = L):=hL
 rw[hL] at hsl H n41 n40 ⊢
 have hpc:=par_count L
 rw[hsl] at hpc
 obtain⟨a,ha⟩:∃ a,L.count 41 = a:=⟨_,rfl⟩
 obtain⟨b,hb⟩:∃ b,L.count 40 = b:=⟨_,rfl⟩
 have hab:=parN_le L k
 rw[ha,hb] at hpc
 rw[hpc] at hab
 have HPC:Aside (parN L k = a + b):=hpc
 unfold Lib.countByte at n41 n40
 rw[ha] at n41
 rw[hb] at n40
 clear hL ha hb hpc
 clear hsl
 go_enter Tryz.func224,Tryz.ntmps224
 go_wp2
 go_loopg [5,6,32] 2 (fun g' s5 s6 s32 wr=>∃ i q:Nat,(i = 0 ∧ q = 0 ∨ i = 1 ∧ q = a ∨ i = 2 ∧ q = a + b) ∧ 2 - i ≤ g' ∧ s5 = .int .i64 ((k:Int) + 2 * (q:Int)) ∧ s6 = .bool (decide (q ≠ 0)) ∧ s32 = .int .i64 (i:Int) ∧ wr.cell? ⟨g,off,none⟩ = some (.string ⟨#[41]⟩) ∧ wr.cell? ⟨g,off + 1,none⟩ = some (.string ⟨#[40]⟩) ∧ RW w wr N p1 c1 p2 c2)
 case atStart=>exact⟨0,0,.inl ⟨rfl,rfl⟩,by omega,by simp,by simp,rfl,tg0,tg1,HW0⟩
 case round =>
  obtain⟨i,q,hiq,hg,rfl,rfl,rfl,tg0,tg1,hW⟩:=hrel
  rcases hiq with⟨rfl,rfl⟩ | ⟨rfl,rfl⟩ | ⟨rfl,rfl⟩
  ·have HW:Aside (RW w wr N p1 c1 p2 c2):=hW
   have e41:=hW.e41
   have cn:=n41 wr
   have hi0:∀ h,(((⟨#[41]⟩:ByteArray)[0]'h).toNat:Int) = 41:=fun _=>rfl
   have hT0:Aside (wr.cell? ⟨g,off,none⟩ = some (.string ⟨#[41]⟩)):=tg0
   have hT1:Aside (wr.cell? ⟨g,off + 1,none⟩ = some (.string ⟨#[40]⟩)):=tg1
   clear hW n41 n40
   by_cases h0:a = 0
   ·subst h0
    go_wp2_with (go_at_call 88; refine cn.mono ?_; rintro e w' ⟨rfl,rfl⟩)
    go_roundg 1
    case measure=>omega
    case rel=>exact⟨1,_,.inr (.inl ⟨rfl,rfl⟩),by omega,by congr 1,by simp,rfl,hT0,hT1,HW⟩
   ·have hab1:a ≤ 1000000:=by omega
    go_wp2_with (go_at_call 88; refine cn.mono ?_; rintro e w' ⟨rfl,rfl⟩)
    go_region_o
    go_wp2
    have hne:a ≠ 0:=by omega
    go_roundg 1
    case measure=>omega
    case rel=>exact⟨1,_,.inr (.inl ⟨rfl,rfl⟩),by omega,by congr 1; omega,by rw[decide_eq_true hne],rfl,hT0,hT1,RW.drewN HW 1⟩
  ·have HW:Aside (RW w wr N p1 c1 p2 c2):=hW
   have e40:=hW.e40
   have cn:=n40 wr
   have hi0:∀ h,(((⟨#[40]⟩:ByteArray)[0]'h).toNat:Int) = 40:=fun _=>rfl
   have hT0:Aside (wr.cell? ⟨g,off,none⟩ = some (.string ⟨#[41]⟩)):=tg0
   have hT1:Aside (wr.cell? ⟨g,off + 1,none⟩ = some (.string ⟨#[40]⟩)):=tg1
   clear hW n41 n40
   by_cases h0:b = 0
   ·subst h0
    go_wp2_with (go_at_call 88; refine cn.mono ?_; rintro e w' ⟨rfl,rfl⟩)
    go_roundg 0
    case measure=>omega
    case rel=>exact⟨2,_,.inr (.inr ⟨rfl,rfl⟩),by omega,by congr 1,by simp,rfl,hT0,hT1,HW⟩
   ·have hab1:b ≤ 1000000:=by omega
    go_wp2_with (go_at_call 88; refine cn.mono ?_; rintro e w' ⟨rfl,rfl⟩)
    go_region_o
    go_wp2
    have hne:q + b ≠ 0:=by omega
    go_roundg 0
    case measure=>omega
    case rel=>exact⟨2,_,.inr (.inr ⟨rfl,rfl⟩),by omega,by congr 1; omega,by rw[decide_eq_true hne],rfl,hT0,hT1,RW.drewN HW 1⟩
  ·have hq:parN L k = a + b:=HPC
   have hqn:a + b ≤ k:=hab
   generalize a + b = q at hq hqn ⊢
   rename World=>W
   have HQ:Aside (parN L k = q):=hq
   have HW:Aside (RW w W N p1 c1 p2 c2):=hW
   clear hq hW
   by_cases hq0:q = 0
   ·subst hq0
    go_wp2
    go_ret
    refine⟨?_,HW.below⟩
    rw[out_none L (by rw[H.2]; exact HQ),← HL]
    exact congrArg Ending.returned (congrArg Value.string (mkS_of s).symm)
   ·obtain⟨Z,hZ,hms⟩:=ms120 W (k + 2 * q) (by omega) ((k:Int) + 2 * (q:Int)) (by omega)
    have hneg:¬ ((k:Int) + 2 * (q:Int) < 0):=by omega
    have HZ:Aside (Z.size = k + 2 * q):=hZ
    clear hZ
    obtain⟨M,hM⟩:∃ M,k + 2 * q = M:=⟨_,rfl⟩
    rw[hM] at hms
    have HM:Aside (k + 2 * q = M):=hM
    clear hM
    go_wp2
    go_loopg [13,14] k (fun g s13 s14 wr=>∃ (i:Nat) (acc:List UInt8),i ≤ k ∧ k - i ≤ g ∧ acc = (L.take i).flatMap rp1 ∧ s13 = .int .i64 (acc.length:Int) ∧ s14 = .int .i64 (i:Int) ∧ Lib.Buf W wr W.heap.size M acc)
    case atStart=>exact⟨0,[],by omega,by omega,rfl,rfl,rfl,Lib.Buf.start W Z 5 M 0 (by have:=HZ; unfold Aside at this HM; omega)⟩
    case round =>
     obtain⟨i,acc,hi,hgi,hacc,rfl,rfl,hB⟩:=hrel
     by_cases hik:i < k
     ·have hkL:i < L.length:=by rw[H.2]; exact hik
      obtain⟨b,hb⟩:∃ b,L[i] = b:=⟨_,rfl⟩
      have hix:∀ h,(s[i]'h) = b:=fun h=>by
       rw[← hb]
       have:=HL
       unfold Aside at this
       subst this
       rfl
      have hnext:(L.take (i + 1)).flatMap rp1 = acc ++ rp1 b:=by
       rw[List.take_succ_eq_append_getElem hkL,List.flatMap_append,← hacc,List.flatMap_singleton,hb]
      have hlen:acc.length + (rp1 b).length ≤ M:=by
       have h1:=out_len L (i + 1) (by omega)
       rw[hnext,List.length_append] at h1
       have h2:=parN_mono L (k - (i + 1)) (i + 1) (by rw[H.2]; omega)
       rw[show i + 1 + (k - (i + 1)) = k by omega] at h2
       unfold Aside at HQ HM
       omega
      obtain⟨R,hR⟩:∃ R,b.toNat = R:=⟨_,rfl⟩
      have hR256:R < 256:=by rw[← hR]; exact b.toNat_lt
      have hcell:∀ o,wr.cell? ⟨N,o,none⟩ = W.cell? ⟨N,o,none⟩:=fun o=>by simp only[World.cell?,hB.below.block N HW.lt]
      have e40:=(hcell 40).trans HW.e40
      have e41:=(hcell 41).trans HW.e41
      have e0:R ≠ 40 → R ≠ 41 → wr.cell? ⟨N,R,none⟩ = some (.slice none 0 0):=fun h1 h2=>(hcell R).trans (HW.e0 R hR256 h1 h2)
      by_cases h40:R = 40
      ·subst h40
       have hrp:rp1 b = [32,40,32]:=by unfold rp1; rw[hR]; rfl
       rw[hrp] at hnext hlen
       have hv:Lib.HoldsBytes W (.slice (some ⟨p2,0,none⟩) 3 c2) [32,40,32]:=⟨_,c2,rfl,fun h=>(by cases h),fun a ha j x hx=>by
        injection ha with ha
        subst ha
        rw[Addr.add_lit,Nat.zero_add]
        exact HW.b2.2 j x hx⟩
       obtain⟨W2,hcp,hB2⟩:=Lib.copy_part (P:=Tryz.prog) W wr.drew W.heap.size M acc [32,40,32] (.slice (some ⟨p2,0,none⟩) 3 c2) 120 3 5 Tryz.underlying120 info5 (Nat.le_refl _) (buf_drew hB) hv hlen
       have hsl:=fun W'=>Lib.run_slice_tailV (P:=Tryz.prog) W' 120 5 Tryz.underlying120 size5 W.heap.size M acc.length (by omega)
       have HB:Aside (Lib.Buf W W2 W.heap.size M (acc ++ [32,40,32])):=hB2
       have HN:Aside ((L.take (i + 1)).flatMap rp1 = acc ++ [32,40,32]):=hnext
       obtain⟨j,hj⟩:∃ j,acc.length = j:=⟨_,rfl⟩
       rw[hj] at hcp hsl hlen ⊢
       have HJ:Aside (acc.length = j):=hj
       have hjb:j ≤ 10000000:=by have:=HM; unfold Aside at this; simp at hlen; omega
       clear hB hB2 hnext hj hv hcell hacc hrp hb
       go_wp2
       go_region_law_o (refine Go.Proofs.step_copy_runI rfl _ _ 120 120 rfl _ _ (by simp [Act.eval,Act.put]) (by simp [Act.eval,Act.put]) hcp ?_)
       go_wp2
       go_roundg (k - (i + 1))
       case measure=>omega
       case rel =>
        have HJ:acc.length = j:=HJ
        exact⟨i + 1,acc ++ [32,40,32],by omega,by omega,(by have:=HN; unfold Aside at this; exact this.symm),by rw[List.length_append,HJ]; congr 1,by go_num,HB⟩
      ·by_cases h41:R = 41
       ·subst h41
        have hrp:rp1 b = [32,41,32]:=by unfold rp1; rw[hR]; rfl
        rw[hrp] at hnext hlen
        have hv:Lib.HoldsBytes W (.slice (some ⟨p1,0,none⟩) 3 c1) [32,41,32]:=⟨_,c1,rfl,fun h=>(by cases h),fun a ha j x hx=>by
         injection ha with ha
         subst ha
         rw[Addr.add_lit,Nat.zero_add]
         exact HW.b1.2 j x hx⟩
        obtain⟨W2,hcp,hB2⟩:=Lib.copy_part (P:=Tryz.prog) W wr.drew W.heap.size M acc [32,41,32] (.slice (some ⟨p1,0,none⟩) 3 c1) 120 3 5 Tryz.underlying120 info5 (Nat.le_refl _) (buf_drew hB) hv hlen
        have hsl:=fun W'=>Lib.run_slice_tailV (P:=Tryz.prog) W' 120 5 Tryz.underlying120 size5 W.heap.size M acc.length (by omega)
        have HB:Aside (Lib.Buf W W2 W.heap.size M (acc ++ [32,41,32])):=hB2
        have HN:Aside ((L.take (i + 1)).flatMap rp1 = acc ++ [32,41,32]):=hnext
        obtain⟨j,hj⟩:∃ j,acc.length = j:=⟨_,rfl⟩
        rw[hj] at hcp hsl hlen ⊢
        have HJ:Aside (acc.length = j):=hj
        have hjb:j ≤ 10000000:=by have:=HM; unfold Aside at this; simp at hlen; omega
        clear hB hB2 hnext hj hv hcell hacc hrp hb
        go_wp2
        go_region_law_o (refine Go.Proofs.step_copy_runI rfl _ _ 120 120 rfl _ _ (by simp [Act.eval,Act.put]) (by simp [Act.eval,Act.put]) hcp ?_)
        go_wp2
        go_roundg (k - (i + 1))
        case measure=>omega
        case rel =>
         have HJ:acc.length = j:=HJ
         exact⟨i + 1,acc ++ [32,41,32],by omega,by omega,(by have:=HN; unfold Aside at this; exact this.symm),by rw[List.length_append,HJ]; congr 1,by go_num,HB⟩
       ·have e0:=e0 h40 h41
        have hnp:isPar b = false:=by
         unfold isPar
         rw[hR,Bool.or_eq_false_iff,← Bool.not_eq_true,← Bool.not_eq_true]
         exact⟨fun e=>h40 (Nat.eq_of_beq_eq_true e),fun e=>h41 (Nat.eq_of_beq_eq_true e)⟩
        rw[rp1_not hnp] at hnext hlen
        have hlen:acc.length < M:=by simp at hlen; omega
        have HB:Aside (Lib.Buf W (wr.setCell ⟨W.heap.size,acc.length,none⟩ (.int .u8 (b.toNat:Int))) W.heap.size M (acc ++ [b])):=buf_set hB (Nat.le_refl _) hlen
        rw[hR] at HB
        have HN:Aside ((L.take (i + 1)).flatMap rp1 = acc ++ [b]):=hnext
        have hth:=hB.there acc.length hlen
        have hfr:=hB.free acc.length hlen
        obtain⟨old,hold⟩:=Option.isSome_iff_exists.1 hth
        obtain⟨j,hj⟩:∃ j,acc.length = j:=⟨_,rfl⟩
        rw[hj] at hlen hold hfr HB ⊢
        have HJ:Aside (acc.length = j):=hj
        have hjb:j ≤ 10000000:=by have:=HM; unfold Aside at this; omega
        clear hB hnext hj hcell hacc hb hnp hth e40 e41
        go_wp2
        go_roundg (k - (i + 1))
        case measure=>omega
        case rel =>
         have HJ:acc.length = j:=HJ
         exact⟨i + 1,acc ++ [b],by omega,by omega,(by have:=HN; unfold Aside at this; exact this.symm),by rw[List.length_append,HJ]; congr 1,by go_num,HB⟩
     ·have hik:i = k:=by omega
      subst hik
      have hfull:acc = L.flatMap rp1:=by rw[hacc,List.take_of_length_le (by rw[H.2]; exact Nat.le_refl _)]
      have hlen:acc.length = M:=by
       rw[hacc,out_len L i (by rw[H.2]; exact Nat.le_refl _)]
       unfold Aside at HQ HM
       omega
      have hcv:=run_convert_bytes_back (P:=Tryz.prog) wr 120 9 5 ⟨W.heap.size,0,none⟩ M acc Tryz.underlying120 Tryz.underlying5 Tryz.underlying9 (fun j hj=>by
       rw[Addr.add_lit,Nat.zero_add]
       exact hB.holds j _ (List.getElem?_eq_getElem hj))
      rw[hlen] at hcv
      have HF:Aside (acc = L.flatMap rp1):=hfull
      have HBW:Aside (Below W.heap.size W wr):=hB.below
      clear hB hacc hfull hlen
      go_wp2
      go_ret
      refine⟨?_,?_⟩
      ·have HF:acc = L.flatMap rp1:=HF
       rw[← HF]; rfl
      ·have h1:Below w.heap.size w W:=HW.below
       exact h1.trans ((show Below W.heap.size W wr from HBW).mono h1.size)
end Go.Proofs.YtcmibmohdnbhgaaGreatDoor
namespace Go.Proofs.YtcmibmohdnbhgaaGreatDoor
open Go.Lad Go.Proofs Go.RowKit
theorem byteRepl_ok (N lo:Nat) (s:ByteArray) (w:World) (hT:TB w N lo) (hs:s.size ≤ 1000000) :
  Calls Tryz.prog 224 #[.pointer (some ⟨N,0,none⟩),.string s] w fun e w'=>e = .returned (.string (mkS (s.data.toList.flatMap rp1))) ∧ Below w.heap.size w w':=by
 rcases Nat.lt_or_ge s.size 16 with h | h
 ·exact replB_ok N lo s w hT hs h
 ·exact replA_ok N lo s w hT hs h
theorem meth_ok (a:Addr) (w:World):(method 360 173 (.pointer (some a)) "Replace").run Tryz.prog w = .ok (224,.pointer (some a)) w:=by kernel_rfl
set_option maxHeartbeats 4000000 in
set_option maxRecDepth 100000 in
theorem replace_ok (B RB RO c:Nat) (x2 x3:Value) (s:ByteArray) (w:World) (hB:Blk w B 93 #[.int .u32 0,.int .i32 0,x2,x3,.slice (some ⟨RB,RO,none⟩) 4 c]) (hRB:RB < w.heap.size) (hne:RB ≠ B) (g0:w.cell? ⟨RB,RO,none⟩ = some (.string ⟨#[40]⟩)) (g1:w.cell? ⟨RB,RO + 1,none⟩ = some (.string ⟨#[32,40,32]⟩)) (g2:w.cell? ⟨RB,RO + 2,none⟩ = some (.string ⟨#[41]⟩)) (g3:w.cell? ⟨RB,RO + 3,none⟩ = some (.string ⟨#[32,41,32]⟩)) (hs:s.size ≤ 1000000) :
  Calls Tryz.prog 35 #[.pointer (some ⟨B,0,none⟩),.string s] w fun e w'=>e = .returned (.string (mkS (s.data.toList.flatMap rp1))) ∧ ∃ w1,RD w w1 B (.int .u32 1) (.int .i32 0) x2 ∧ Below w1.heap.size w1 w':=by
 have hd:=do_ok B RB RO c x2 x3 w hB hRB hne g0 g1 g2 g3
 have hr:∀ w1,RD w w1 B (.int .u32 1) (.int .i32 0) x2 → w1.cell? ⟨B,3,none⟩ = some (.iface 173 (.pointer (some ⟨w.heap.size + 1,0,none⟩))) ∧ Calls Tryz.prog 224 #[.pointer (some ⟨w.heap.size + 1,0,none⟩),.string s] w1 fun e w'=>e = .returned (.string (mkS (s.data.toList.flatMap rp1))) ∧ Below w1.heap.size w1 w':=fun w1 h =>
  ⟨by rw[h.box.cell]; rfl,byteRepl_ok _ _ s w1 h.tb hs⟩
 have hme:=meth_ok
 have hmf:∀ (fn:Fn) (first cap:Array Value) (w:World),(Instr.makeFunc fn first cap).run Tryz.prog w = .ok (.func fn first cap) w:=fun _ _ _ _=>rfl
 clear hB g0 g1 g2 g3 hRB hne
 go_enter Tryz.func35,Tryz.ntmps35
 go_wp2_with (first | (go_at_call 57; refine hd.mono ?_; rintro e w' ⟨rfl,hD⟩; obtain⟨hc,hcall⟩:=hr _ hD; have HD:Aside (RD w w' B (.int .u32 1) (.int .i32 0) x2):=hD; clear hd hr hD) | (go_at_fn 224; refine hcall.mono ?_; rintro e w'' ⟨rfl,hb⟩))
 refine hcall.mono ?_
 rintro e w'' ⟨rfl,hb⟩
 have HB:Aside (Below w'.heap.size w' w''):=hb
 clear hb hcall
 go_wp2
 go_ret
 exact⟨rfl,w',HD,HB⟩
theorem flat_len (l:Bs):(l.flatMap rp1).length ≤ 3 * l.length:=by
 induction l with
 | nil=>simp
 | cons c l ih =>
  rw[List.flatMap_cons,List.length_append,rp1_len,List.length_cons]
  split <;> omega
theorem repl_con:ConOK Tryz.prog (replCon 35 93):=by
 refine⟨by kernel_rfl,fun x r hr=>?_⟩
 obtain⟨l,a,b,c,os⟩:=x
 obtain⟨l,rfl⟩:∃ m:Bs,m = l:=⟨l,rfl⟩
 obtain⟨a,rfl⟩:∃ m:Int,m = a:=⟨a,rfl⟩
 obtain⟨b,rfl⟩:∃ m:Int,m = b:=⟨b,rfl⟩
 obtain⟨c,rfl⟩:∃ m:Int,m = c:=⟨c,rfl⟩
 obtain⟨os,rfl⟩:∃ m:List Bs,m = os:=⟨os,rfl⟩
 obtain⟨r,rfl⟩:∃ m:Bs,m = r:=⟨r,rfl⟩
 have hr:replF a b os l = some r:=hr
 unfold replF at hr
 obtain⟨hb,hr2⟩:=cond_some hr
 clear hr
 rw[Bool.and_eq_true,bleN,decide_eq_true_eq,decide_eq_true_eq] at hb
 obtain⟨⟨rfl,rfl,rfl⟩,hb⟩:=hb
 injection hr2 with hr
 show MeetsH Tryz.prog 35 ⟨[.c (.v (.loc 1000000 0)),.c (.v (.p (.str (mkS l))))],[(1000000,.box 93 [.p (.int .u32 0),.p (.int .i32 0),.p (.int .u32 c),.dead,.p (.sl (rpl.map fun x=>[PV.str (mkS x)]))])],.one (.v (.p (.str (mkS r)))),[(1000000,.gone)]⟩
 intro w G vs hnorm hglob hargs hobjs
 obtain⟨v0,v1,rfl⟩:∃ v0 v1,vs = [v0,v1]:=by
  have:=hargs.1
  match vs,this with
  | [a,b],_=>exact⟨a,b,rfl⟩
 have hv0:v0 = .pointer (some ⟨G.bl 1000000,0,none⟩):=(hargs.2 0 _ _ rfl rfl:SRd G _ w _ v0).val
 have r1:Rd (In G.χ 0) w (.str (mkS l)) v1:=(hargs.2 1 _ _ rfl rfl:SRd G _ w _ v1).val
 have hv1:v1 = .string (mkS l):=by cases r1; rfl
 subst hv0 hv1
 obtain⟨us,hblk,hcol,hall⟩:=hobjs 1000000 _ rfl
 obtain⟨x0,x1,x2,x3,x4,rfl⟩:∃ x0 x1 x2 x3 x4,us = [x0,x1,x2,x3,x4]:=by
  have:=hall.1
  match us,this with
  | [a,b,c,d,e],_=>exact⟨a,b,c,d,e,rfl⟩
 have k0:Rd (In G.χ 0) w (.int .u32 0) x0:=(hall.2 0 _ _ rfl rfl:LRd G _ w _ x0).val
 have k1:Rd (In G.χ 0) w (.int .i32 0) x1:=(hall.2 1 _ _ rfl rfl:LRd G _ w _ x1).val
 have k4:Rd (In G.χ 0) w (.sl (rpl.map fun x=>[PV.str (mkS x)])) x4:=(hall.2 4 _ _ rfl rfl:LRd G _ w _ x4).val
 have e0:x0 = .int .u32 0:=by cases k0; rfl
 have e1:x1 = .int .i32 0:=by cases k1; rfl
 subst e0 e1
 obtain⟨bk,off,cap,hx4,hbk,hF,hcells⟩:∃ bk off cap,x4 = .slice (some ⟨bk,off,none⟩) 4 cap ∧ bk < w.heap.size ∧ G.χ bk = 0 ∧ ∀ j x,rpl[j]? = some x → w.cell? ⟨bk,off + j,none⟩ = some (.string (mkS x)):=by
  generalize hrows:(rpl.map fun x=>[PV.str (mkS x)]) = rows at k4
  cases k4 with
  | sl0 h hm=>exact absurd hrows (by unfold rpl; simp)
  | @sl _ bk off c z us hn0 hF hbb hcc hmm hz hcell hrd =>
   refine⟨bk,off,c,by rw[← hrows]; rfl,hbb,hF,fun j x hx=>?_⟩
   have hi:rows[j]? = some [PV.str (mkS x)]:=by rw[← hrows,List.getElem?_map,hx]; rfl
   have h3:=hcell j 0 _ _ hi rfl
   have h4:=hrd j 0 _ _ hi rfl
   have h5:us j 0 = .string (mkS x):=by
    generalize us j 0 = u at h4
    cases h4; rfl
   have hz1:z = 1:=(hz j _ hi).symm
   subst hz1
   rw[h5,Nat.mul_one,Nat.add_zero] at h3
   exact h3
 subst hx4
 have hne:bk ≠ G.bl 1000000:=fun e=>by rw[e,hcol] at hF; cases hF
 refine (replace_ok (G.bl 1000000) bk off cap x2 x3 (mkS l) w hblk hbk hne (hcells 0 _ rfl) (hcells 1 _ rfl) (hcells 2 _ rfl) (hcells 3 _ rfl) (by rw[mkS_size]; exact hb)).mono ?_
 rintro en w' ⟨rfl,w1,hD,hB⟩
 rw[mkS_data,hr]
 have hsz:w.heap.size ≤ w'.heap.size:=Nat.le_trans hD.size hB.size
 refine⟨G,_,[.string (mkS r)],rfl,rfl,hB.os.trans hD.os.1,hB.tape.trans hD.os.2.1,hB.output.trans hD.os.2.2,hsz,fun b hb hχ=>⟨?_,rfl⟩,fun b hb=>.inl hb,fun _ _=>⟨rfl,rfl⟩,fun b hb=>hnorm b (Nat.le_trans hsz hb),⟨rfl,fun i x v hx hv=>?_⟩,fun o h ho=>?_⟩
 ·rw[hB.block b (Nat.lt_of_lt_of_le hb hD.size),hD.old b hb (fun e=>by rw[e,hcol] at hχ; omega)]
 ·cases i with
  | zero =>
   simp [Rz.comps] at hx hv
   subst hx hv
   refine⟨rfl,by simp [Leaf.ids],Rd.str ?_⟩
   rw[mkS_size,← hr]
   have:=flat_len l
   omega
  | succ i=>simp [Rz.comps] at hx
 ·simp only[hpL,lookL] at ho
  split at ho
  ·injection ho with ho
   subst ho
   trivial
  ·cases ho
end Go.Proofs.YtcmibmohdnbhgaaGreatDoor
namespace Go.Proofs.YtcmibmohdnbhgaaGreatDoor
open Go.Lad Go.Proofs
theorem split_conx:ConOK Tryz.prog (splitCon 33):=split_con (g:=0) (by kernel_rfl) rfl Tryz.strings_Split
theorem join_conx:ConOK Tryz.prog (joinCon 64):=join_con (by kernel_rfl) Tryz.strings_Join_none Tryz.strings_Join
theorem sortS_conx:ConOK Tryz.prog (sortSCon 46 9):=sortS_con (by kernel_rfl) Tryz.slices_Sort_string Tryz.slices_Sort_string_none
theorem compS_conx:ConOK Tryz.prog (compSCon 47 9):=compS_con (by kernel_rfl) Tryz.slices_Compact_string Tryz.slices_Compact_string_empty
end Go.Proofs.YtcmibmohdnbhgaaGreatDoor
