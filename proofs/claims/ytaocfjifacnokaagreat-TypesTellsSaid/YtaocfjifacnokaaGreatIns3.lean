import Derived.Test.YtaocfjifacnokaaGreatD12
import Derived.WalkKit
import Derived.Shelf.Spec.SlicesInsert
import Derived.Lib.AppendZerosOnto
import Derived.Laws.NewBlocks
import Derived.Test.YtaocfjifacnokaaGreatProg
import Derived.KernelRfl
import Derived.Test.YtaocfjifacnokaaGreatE6
namespace Go.Lad
open Go.RowKit
set_option linter.unusedVariables false
set_option linter.unusedSimpArgs false
theorem sD {P:Program} (w:World) (tS tR e:TypeId) (ht:P.underlying tS = some (.slice e)) (size:Nat) (hz:∀ w,(Go.sizeOf e).run P w = .ok size w)
  (a b:Addr) (la ca lb cb:Nat) (hne:a.block ≠ b.block) (tA tB:TypeId) (kA kB:Nat)
  (hsa:w.shape? a.block = some (tA,kA)) (hkA:kA ≠ 0) (hsb:w.shape? b.block = some (tB,kB))
  (hfb:w.frozen? b = false) (hfe:w.frozen? { block:=b.block,off:=kB } = false) :
  (Extern.SlicesOverlaps.overlaps #[tS,tS] #[tR] #[.slice (some a) la ca,.slice (some b) lb cb]).run P w = .ok (.bool false) w:=by
 have hnb:(a.block != b.block) = true:=by simpa using hne
 have hnb':(a.block == b.block) = false:=by simpa using hne
 change Sem.run P (α:=Value) (do
  let some t:=(#[tS,tS]:Array TypeId)[0]? | stuck "slices.overlaps: no parameter types"
  let .slice elem ← underlying t | stuck "slices.overlaps: slice type expected"
  let size ← sizeOf elem
  match (some a:Option Addr),(some b:Option Addr) with
  | some a,some b =>
   if la = 0 ∨ lb = 0 ∨ size = 0 then pure (Value.bool false)
   else if a.block != b.block && (← frozen a) && (← frozen b) then unsupported .addressObserved
   else do
    if a.block != b.block then do
     noView a; noView b
     if ← mayBeOne a b then return Value.bool ((← choose (.extern "sameAddr.stringBytes" 2)) == 1)
    pure (Value.bool (a.block == b.block && a.off < b.off + lb * size && b.off < a.off + la * size))
  | _,_=>pure (Value.bool false)) w = _
 by_cases h0:la = 0 ∨ lb = 0 ∨ size = 0
 ·simp [run_underlying ht,hz,h0]
 ·cases kA with
  | zero=>exact absurd rfl hkA
  | succ kA =>
   cases hfa:w.frozen? a <;> cases hfm:w.frozen? { block:=a.block,off:=kA + 1 } <;>
    simp [run_underlying ht,hz,h0,hnb,hnb',frozen,noView,viewAt,mayBeOne,stringish,shape,Sem.run,hsa,hsb,hfb,hfe,hfa,hfm]
theorem kl {P:Program} (w:World) (dT sT ty elem:TypeId) (z g o dLen dCap:Nat) (a:Addr) (sLen sCap:Nat) (cur:Array Value) (t:TypeId) (cs:List Value)
  (hu:P.underlying dT = some (.slice elem)) (hs:(P.info? elem).map (·.size) = some z) (hg:gS w g cur t) (hn:cs.length = Nat.min sLen dLen * z)
  (hsrc:∀ j v,cs[j]? = some v → w.cell? (a.add j) = some v) (hfit:o + cs.length ≤ cur.size) (h1:∀ v ∈ cs,v.oneCell' = true) :
  (Builtin.copy_ #[dT,sT] ty #[.slice (some ⟨g,o,none⟩) dLen dCap,.slice (some a) sLen sCap]).run P w = .ok (goInt (Nat.min sLen dLen)) (w.setRow g (putAt cur.toList o cs).toArray):=by
 have hl:=run_loadCells_list (P:=P) w a cs hsrc
 have hst:=iK P g o t cs 0 cur w hg (by simpa using hfit) h1
 cases hq:P.info? elem with
 | none=>simp [hq] at hs
 | some i =>
  have hi:i.size = z:=by simpa [hq] using hs
  simp only[Nat.add_zero] at hst
  have hmin:min sLen dLen * z = cs.length:=hn.symm
  simp [Builtin.copy_,run_underlying hu,Builtin.lenOf,Builtin.firstCells,sizeOf,typeInfo,hq,hi,hmin,hl,hst,putAt]
theorem Bz {α:Type} (cur xs news:List α) (off I:Nat) (hx:(cur.drop off).take xs.length = xs) (hI:I ≤ xs.length) (hfit:off + xs.length + news.length ≤ cur.length) :
  ((putAt (putAt cur (off + I + news.length) (xs.drop I)) (off + I) news).drop off).take (xs.length + news.length) = xs.take I ++ news ++ xs.drop I:=by
 have hd:(xs.drop I).length = xs.length - I:=List.length_drop
 have hx':∀ j,j < xs.length → cur[off + j]? = xs[j]? := fun j hj=>by
  conv=>rhs; rw[← hx]
  rw[List.getElem?_take_of_lt hj,List.getElem?_drop]
 apply List.ext_getElem?
 intro j
 by_cases hj:j < xs.length + news.length
 ·rw[List.getElem?_take_of_lt hj,List.getElem?_drop,gK _ _ _ (by rw[fB _ _ _ (by omega)]; omega),gK _ _ _ (by omega)]
  by_cases h1:j < I
  ·rw[if_neg (by omega),if_neg (by omega),hx' j (by omega),List.append_assoc,List.getElem?_append_left (by rw[List.length_take]; omega),List.getElem?_take_of_lt h1]
  by_cases h2:j < I + news.length
  ·rw[if_pos (by omega),List.append_assoc,List.getElem?_append_right (by rw[List.length_take]; omega),List.length_take,Nat.min_eq_left hI,List.getElem?_append_left (by omega)]
   congr 1; omega
  ·rw[if_neg (by omega),if_pos (by omega),List.getElem?_append_right (by rw[List.length_append,List.length_take]; omega),List.length_append,List.length_take,Nat.min_eq_left hI]
   congr 1; omega
 ·rw[List.getElem?_take_eq_none (by omega),List.getElem?_eq_none (by simp only[List.length_append,List.length_take,hd]; omega)]
theorem C3 {α:Type} (row xs news:List α) (I:Nat) (hrow:row.take I = xs.take I) (hI:I ≤ xs.length) (hlen:xs.length + news.length ≤ row.length) :
  ((putAt (putAt row I news) (I + news.length) (xs.drop I)).drop 0).take (xs.length + news.length) = xs.take I ++ news ++ xs.drop I:=by
 have hd:(xs.drop I).length = xs.length - I:=List.length_drop
 apply List.ext_getElem?
 intro j
 rw[List.drop_zero]
 by_cases hj:j < xs.length + news.length
 ·rw[List.getElem?_take_of_lt hj,gK _ _ _ (by rw[fB _ _ _ (by omega)]; omega),gK _ _ _ (by omega)]
  by_cases h1:j < I
  ·have:=congrArg (fun l=>l[j]?) hrow
   simp only[List.getElem?_take_of_lt h1] at this
   rw[if_neg (by omega),if_neg (by omega),this,List.append_assoc,List.getElem?_append_left (by rw[List.length_take]; omega),List.getElem?_take_of_lt h1]
  by_cases h2:j < I + news.length
  ·rw[if_neg (by omega),if_pos (by omega),List.append_assoc,List.getElem?_append_right (by rw[List.length_take]; omega),List.length_take,Nat.min_eq_left hI,List.getElem?_append_left (by omega)]
  ·rw[if_pos (by omega),List.getElem?_append_right (by rw[List.length_append,List.length_take]; omega),List.length_append,List.length_take,Nat.min_eq_left hI]
 ·rw[List.getElem?_take_eq_none (by omega),List.getElem?_eq_none (by simp only[List.length_append,List.length_take,hd]; omega)]
end Go.Lad
namespace Go.Proofs.YtaocfjifacnokaaGreat
open Go.Lad Go.RowKit
set_option linter.unusedVariables false
set_option linter.unusedSimpArgs false
theorem mo:Tryz.prog.underlying 22 = some (.slice 53):=by kernel_rfl
theorem Ic:dW Tryz.prog 22 = some (53,3):=by kernel_rfl
theorem wx:(Tryz.prog.info? 53).map (·.size) = some 3:=by kernel_rfl
theorem C4 (w:World):(Go.sizeOf 53).run Tryz.prog w = .ok 3 w:=by
 obtain⟨ti,hti⟩:∃ ti,Tryz.prog.info? 53 = some ti:=Option.isSome_iff_exists.1 (by kernel_rfl)
 have hsz:ti.size = 3:=by
  have:=wx
  rw[hti] at this
  simpa using this
 simp [sizeOf,typeInfo,hti,hsz]
def FC (w:World) (v:Value) (n m:Nat) (r:List Value) (en:Ending) (w':World):Prop :=
 ∃ v',en = .returned v' ∧ jM w' 53 3 v' (n + m) r ∧ w.grownBy w' v.ownBlock ∧ (v'.ownBlock = v.ownBlock ∨ v'.ownBlock = some w.heap.size)
set_option maxHeartbeats 4000000 in
set_option maxRecDepth 100000 in
theorem JT (w:World) (v:Value) (n m vc:Nat) (xs news:List Value) (va:Addr) (hown:jM w 53 3 v n xs) (hm:0 < m) (hl:news.length = m * 3) (hcell:∀ j u,news[j]? = some u → w.cell? (va.add j) = some u) (h1:∀ u ∈ news,u.oneCell' = true) (hs:n + m ≤ 2147483647) :
  Calls Tryz.prog 56 #[v,.int .i64 n,.slice (some va) m vc] w fun en w'=>FC w v n m (xs ++ news) en w':=by
 obtain⟨ti,z,hi,hz,hsize,hby,hzs⟩:=(fX Ic).ex
 obtain⟨v',w',hr,h2,h3,h4,h5⟩:=ql w 22 22 53 ti z 3 ti.bytes mo hi hz hsize rfl hzs (by omega) v n xs hown va m vc news hl hcell h1 (by unfold maxLen; omega) (Nat.le_trans (Nat.mul_le_mul hs hby) (by omega))
 have hz1:¬ ((m:Int) = 0):=by omega
 have u22:=run_underlying mo
 rcases hown.2 with⟨rfl,rfl⟩ | ⟨g,cap,cur,off,rfl,_,hg,hnc,hcm,hcs,htake⟩
 ·go_enter Tryz.func56,Tryz.ntmps56
  go_wp2_with (at_builtin; refine Lib.wpList_append_run _ rfl _ _ _ _ rfl _ _ rfl rfl _ _ hr ?_)
  go_ret
  exact⟨v',rfl,h2,h3,h5⟩
 ·have hc63:cap ≤ 9223372036854775807:=by unfold maxLen at hcm; omega
  go_enter Tryz.func56,Tryz.ntmps56
  go_wp2_with (at_builtin; refine Lib.wpList_append_run _ rfl _ _ _ _ rfl _ _ rfl rfl _ _ hr ?_)
  all_goals (go_ret; exact⟨v',rfl,h2,h3,h5⟩)
set_option maxHeartbeats 4000000 in
set_option maxRecDepth 100000 in
theorem FD (w:World) (g off n c i m vc vb voff:Nat) (cur:Array Value) (xs news:List Value) (hg:gS w g cur 53) (hcs:off + c * 3 ≤ cur.size) (hroom:n + m ≤ c) (hcm:c ≤ maxLen)
  (htake:(cur.toList.drop off).take (n * 3) = xs) (hxl:xs.length = n * 3) (hi:i < n) (hm:0 < m) (hl:news.length = m * 3) (hcell:∀ j u,news[j]? = some u → w.cell? ((⟨vb,voff,none⟩:Addr).add j) = some u)
  (h1:∀ u ∈ news,u.oneCell' = true) (h1x:∀ u ∈ xs,u.oneCell' = true) (hne:vb ≠ g) :
  Calls Tryz.prog 56 #[.slice (some ⟨g,off,none⟩) n c,.int .i64 i,.slice (some ⟨vb,voff,none⟩) m vc] w fun en w'=>FC w (.slice (some ⟨g,off,none⟩) n c) n m (xs.take (i * 3) ++ news ++ xs.drop (i * 3)) en w':=by
 have u22:=run_underlying mo
 have mixed:Tryz.prog.follows .mixedOrders = true:=by kernel_rfl
 have hz1:¬ ((m:Int) = 0):=by omega
 have hz2:¬ ((i:Int) = (n:Int)):=by omega
 have hc63:c ≤ 9223372036854775807:=by unfold maxLen at hcm; omega
 have hnz:0 < cur.size:=by omega
 have hsb:w.shape? g = some (53,cur.size):=by
  obtain⟨fr,hb,_⟩:=hg
  simp [World.shape?,hb]
 obtain⟨tA,kA,hsa,hkA⟩:∃ tA kA,w.shape? vb = some (tA,kA) ∧ kA ≠ 0:=by
  have h0:=hcell 0 _ (List.getElem?_eq_getElem (show 0 < news.length by omega))
  rw[Addr.add_lit] at h0
  unfold World.cell? at h0
  split at h0
  ·rename_i cc tt ff hb
   refine⟨tt,cc.size,by simp [World.shape?,hb],fun e=>?_⟩
   have h0:cc[voff + 0]? = _:=h0
   rw[Array.getElem?_eq_none (by omega)] at h0
   cases h0
  ·cases h0
 have hfz:∀ j,w.frozen? ⟨g,j,none⟩ = false:=fun j=>by
  obtain⟨fr,hb,hfr⟩:=hg
  have hfr:fr.2 ≤ fr.1:=hfr.elim id fun h=>absurd h.2 (by decide)
  simp only[World.frozen?,hb,Bool.and_eq_false_iff,decide_eq_false_iff_not]
  omega
 have hov:∀ b lb cb,(callFunc 88 #[.slice (some ⟨vb,voff,none⟩) m vc,.slice (some ⟨g,b,none⟩) lb cb]).run Tryz.prog w = .ok (.value (.bool false)) w:=fun b lb cb=>by
  rw[run_callFunc_extern Tryz.func88 (by kernel_rfl) (by kernel_rfl) (by kernel_rfl) (e:=Extern.SlicesOverlaps.overlaps #[22,22] #[4]) (by kernel_rfl),
   sD w 22 4 53 mo 3 C4 ⟨vb,voff,none⟩ ⟨g,b,none⟩ m vc lb cb hne tA 53 kA cur.size hsa hkA hsb (hfz _) (hfz _)]
  rfl
 have hdl:(xs.drop (i * 3)).length = (n - i) * 3:=by rw[List.length_drop,hxl]; omega
 have hw1:IntKind.i64.wrap ((i:Int) + (m:Int)) = (i:Int) + (m:Int):=by rw[IntKind.wrap_i64]; omega
 have hw2:IntKind.i64.wrap ((n:Int) + (m:Int)) = (n:Int) + (m:Int):=by rw[IntKind.wrap_i64]; omega
 have hb1:(0:Int) ≤ (i:Int) + (m:Int):=by omega
 have hin:i ≤ n:=by omega
 have htn:((i:Int) + (m:Int)).toNat = i + m:=by omega
 have htn2:((n:Int) + (m:Int)).toNat = n + m:=by omega
 have hb2:¬ (c = i + m):=by omega
 have hb3:(i:Int) ≤ (n:Int) + (m:Int):=by omega
 have hb4:¬ (c = i):=by omega
 obtain⟨W1,hW1⟩:∃ W1,W1 = w.drew.setRow g (putAt cur.toList (off + (i + m) * 3) (xs.drop (i * 3))).toArray:=⟨_,rfl⟩
 have hxc:∀ j u,xs[j]? = some u → w.cell? ⟨g,off + j,none⟩ = some u:=fun j u hj=>by
  rw[hg.cell,← Array.getElem?_toList]
  rw[← htake,List.getElem?_take] at hj
  split at hj
  ·rwa [List.getElem?_drop] at hj
  ·cases hj
 have hgd:gS w.drew g cur 53:=hg.frame rfl
 have hcp1:∀ ty dc sc,(Builtin.copy_ #[22,22] ty #[.slice (some ⟨g,off + (i + m) * 3,none⟩) (n + m - (i + m)) dc,.slice (some ⟨g,off + i * 3,none⟩) (n + m - i) sc]).run Tryz.prog w.drew = .ok (goInt (Nat.min (n + m - i) (n + m - (i + m)))) W1:=fun ty dc sc=>by
  rw[hW1]
  exact kl w.drew 22 22 ty 53 3 g (off + (i + m) * 3) (n + m - (i + m)) dc ⟨g,off + i * 3,none⟩ (n + m - i) sc cur 53 (xs.drop (i * 3)) mo wx hgd (by rw[hdl]; simp only[Nat.min_def]; split <;> omega)
   (fun j u hj=>by rw[Addr.add_lit,Nat.add_assoc]; exact hxc (i * 3 + j) u (by rwa [List.getElem?_drop] at hj)) (by rw[hdl]; omega) (fun u hu=>h1x u (List.mem_of_mem_drop hu))
 have hp1:(putAt cur.toList (off + (i + m) * 3) (xs.drop (i * 3))).length = cur.size:=by rw[fB _ _ _ (by rw[hdl,Array.length_toList]; omega),Array.length_toList]
 have hg1:gS W1 g (putAt cur.toList (off + (i + m) * 3) (xs.drop (i * 3))).toArray 53:=by rw[hW1]; exact hgd.set _ (by simpa using hp1)
 have hcp2:∀ (W:World),W.heap = W1.heap → ∀ ty dc,(Builtin.copy_ #[22,22] ty #[.slice (some ⟨g,off + i * 3,none⟩) (n + m - i) dc,.slice (some ⟨vb,voff,none⟩) m vc]).run Tryz.prog W = .ok (goInt (Nat.min m (n + m - i))) (W.setRow g (putAt (putAt cur.toList (off + (i + m) * 3) (xs.drop (i * 3))) (off + i * 3) news).toArray):=fun W hW ty dc=>by
  have:=kl (P:=Tryz.prog) W 22 22 ty 53 3 g (off + i * 3) (n + m - i) dc ⟨vb,voff,none⟩ m vc _ 53 news mo wx (hg1.frame (by rw[hW])) (by rw[hl]; simp only[Nat.min_def]; split <;> omega)
   (fun j u hj=>by
    rw[← hcell j u hj]
    have e1:W.heap[vb]? = w.heap[vb]? := by rw[hW,hW1]; exact setRow_other w.drew g vb _ hne
    simp only[Addr.add_lit,World.cell?,e1]) (by rw[List.size_toArray,hp1,hl]; omega) h1
  simpa using this
 subst hW1
 go_enter Tryz.func56,Tryz.ntmps56
 go_wp2_with (simp only[hov])
 go_region_law_o (refine Go.Proofs.step_copy_runI rfl _ _ 22 22 rfl _ _ (by simp [Act.eval,Act.put]) (by simp [Act.eval,Act.put]) (hcp1 _ _ _) ?_)
 go_wp2_with (at_builtin; refine Go.Proofs.wpList_copy_runI _ rfl _ _ 22 22 rfl _ _ rfl rfl (hcp2 _ rfl _ _) ?_)
 go_ret
 have hp2:(putAt (putAt cur.toList (off + (i + m) * 3) (xs.drop (i * 3))) (off + i * 3) news).length = cur.size:=by rw[fB _ _ _ (by rw[hp1,hl]; omega),hp1]
 refine⟨_,rfl,⟨?_,.inr ⟨g,c,_,off,rfl,Nat.zero_le _,hg1.set (putAt (putAt cur.toList (off + (i + m) * 3) (xs.drop (i * 3))) (off + i * 3) news).toArray (by simp [hp1,hp2]),hroom,hcm,by simp [hp2]; omega,?_⟩⟩,⟨?_,?_,?_,?_,fun k hk hkr=>?_⟩,.inl rfl⟩
 ·rw[List.length_append,List.length_append,List.length_take,hdl,hl,hxl]; omega
 ·have hcl:cur.toList.length = cur.size:=Array.length_toList
  have hs:=Bz cur.toList xs news off (i * 3) (by rw[hxl]; exact htake) (by omega) (by rw[hcl,hxl,hl]; omega)
  rw[hxl,hl,show off + i * 3 + m * 3 = off + (i + m) * 3 by omega,show n * 3 + m * 3 = (n + m) * 3 by omega] at hs
  simpa using hs
 ·rfl
 ·rfl
 ·rfl
 ·simp
 ·have hkg:k ≠ g:=fun e=>hkr (by rw[e]; rfl)
  rw[setRow_other _ g k _ hkg,setRow_other _ g k _ hkg]; rfl
set_option maxHeartbeats 4000000 in
set_option maxRecDepth 100000 in
theorem Ie (w:World) (g off n c i m vc vb voff:Nat) (cur:Array Value) (xs news:List Value) (hg:gS w g cur 53) (hcs:off + c * 3 ≤ cur.size) (hnc:n ≤ c) (hroom:c < n + m) (hcm:c ≤ maxLen) (hs:n + m ≤ 2147483647)
  (htake:(cur.toList.drop off).take (n * 3) = xs) (hxl:xs.length = n * 3) (hi:i < n) (hm:0 < m) (hl:news.length = m * 3) (hcell:∀ j u,news[j]? = some u → w.cell? ((⟨vb,voff,none⟩:Addr).add j) = some u)
  (h1:∀ u ∈ news,u.oneCell' = true) (h1x:∀ u ∈ xs,u.oneCell' = true) :
  Calls Tryz.prog 56 #[.slice (some ⟨g,off,none⟩) n c,.int .i64 i,.slice (some ⟨vb,voff,none⟩) m vc] w fun en w'=>FC w (.slice (some ⟨g,off,none⟩) n c) n m (xs.take (i * 3) ++ news ++ xs.drop (i * 3)) en w':=by
 obtain⟨ti,z,hti,hz,hsize,hby,hzs⟩:=(fX Ic).ex
 have u22:=run_underlying mo
 have mixed:Tryz.prog.follows .mixedOrders = true:=by kernel_rfl
 have hz1:¬ ((m:Int) = 0):=by omega
 have hz2:¬ ((i:Int) = (n:Int)):=by omega
 have hz3:(c:Int) < (n:Int) + (m:Int):=by omega
 have hc63:c ≤ 9223372036854775807:=by unfold maxLen at hcm; omega
 have hgw:g < w.heap.size:=hg.lt
 have hvw:vb < w.heap.size:=by
  have h0:=hcell 0 _ (List.getElem?_eq_getElem (show 0 < news.length by omega))
  rw[Addr.add_lit] at h0
  exact block_lt_of_cell h0
 have hkk:(n:Int) + (m:Int) - (i:Int) = ((n + m - i:Nat):Int):=by omega
 have hik:i + (n + m - i) = n + m:=by omega
 have hxc:∀ j u,xs[j]? = some u → w.cell? ⟨g,off + j,none⟩ = some u:=fun j u hj=>by
  rw[hg.cell,← Array.getElem?_toList]
  rw[← htake,List.getElem?_take] at hj
  split at hj
  ·rwa [List.getElem?_drop] at hj
  ·cases hj
 have hbytes:(n + m) * ti.bytes ≤ 140737488355328:=Nat.le_trans (Nat.mul_le_mul hs hby) (by omega)
 have hold:(Builtin.firstCells ti.size i (.slice (some ⟨g,off,none⟩) i c)).run Tryz.prog w.drew = .ok (xs.take (i * 3)).toArray w.drew:=by
  rw[hsize]
  exact run_firstCells_some w.drew 3 i ⟨g,off,none⟩ i c (xs.take (i * 3)) (by rw[List.length_take]; omega) (fun j u hj=>by
   rw[Addr.add_lit]
   rw[List.getElem?_take] at hj
   split at hj
   ·exact hxc j u hj
   ·cases hj)
 have hrz:∀ ty,(Builtin.append_ #[22,3] ty #[.slice (some ⟨g,off,none⟩) i c,.int .i64 ((n:Int) + (m:Int) - (i:Int))]).run Tryz.prog w =
   .ok (.slice (some ⟨w.heap.size,0,none⟩) (n + m) (grownCap w (n + m) c 53)) (w.drew.alloc (.cells ((xs.take (i * 3)).toArray ++ Builtin.zeroCells z.cells (n + m - i) ++ Builtin.zeroCells z.cells (grownCap w (n + m) c 53 - (n + m))) 53)):=fun ty=>by
  have h:=Lib.run_append_grow_zeros w 22 3 ty 53 ti z .i64 .i64 mo (by kernel_rfl) hti hz (some ⟨g,off,none⟩) i c (xs.take (i * 3)) hold (n + m - i) (by omega) (by omega) (by omega) (by omega)
   (Nat.le_trans (Nat.mul_le_mul (show n + m - i ≤ 2147483647 by omega) hby) (by omega)) (by rw[hik]; exact growslice_fits hroom hbytes)
  rw[hik] at h
  rw[hkk]
  exact h
 obtain⟨G,hG⟩:∃ G,G = grownCap w (n + m) c 53:=⟨_,rfl⟩
 have hGn:n + m ≤ G:=by rw[hG]; exact grownCap_ge w _ _ _
 have hGm:G ≤ maxLen:=by rw[hG]; exact grownCap_le_maxLen w (n + m) c 53 (by unfold maxLen; omega)
 have hG63:G ≤ 9223372036854775807:=by unfold maxLen at hGm; omega
 rw[← hG] at hrz
 obtain⟨ROW,hROW⟩:∃ ROW:Array Value,ROW = (xs.take (i * 3)).toArray ++ Builtin.zeroCells z.cells (n + m - i) ++ Builtin.zeroCells z.cells (G - (n + m)):=⟨_,rfl⟩
 have hRs:ROW.size = G * 3:=by
  rw[hROW]
  simp only[Array.size_append,List.size_toArray,size_zeroCells,hzs,List.length_take,hxl]
  omega
 have hRt:ROW.toList.take (i * 3) = xs.take (i * 3):=by
  rw[hROW]
  simp only[Array.toList_append]
  rw[List.append_assoc,List.take_append_of_le_length (by rw[List.length_take]; omega),List.take_of_length_le (by rw[List.length_take]; omega)]
 rw[← hROW] at hrz
 obtain⟨N,hN⟩:∃ N,N = w.heap.size:=⟨_,rfl⟩
 obtain⟨W1,hW1⟩:∃ W1,W1 = w.drew.alloc (.cells ROW 53):=⟨_,rfl⟩
 rw[← hN,← hW1] at hrz
 have hg1:gS W1 N ROW 53:=by rw[hW1,hN]; exact .of (heap_alloc_new w.drew _)
 have hold1:∀ k,k < w.heap.size → W1.heap[k]? = w.heap[k]? := fun k hk=>by rw[hW1]; exact heap_alloc_old w.drew _ hk
 have hdl:(xs.drop (i * 3)).length = (n - i) * 3:=by rw[List.length_drop,hxl]; omega
 have hcpA:∀ (W:World),W.heap = W1.heap → ∀ ty dc,(Builtin.copy_ #[22,22] ty #[.slice (some ⟨N,i * 3,none⟩) (n + m - i) dc,.slice (some ⟨vb,voff,none⟩) m vc]).run Tryz.prog W = .ok (goInt (Nat.min m (n + m - i))) (W.setRow N (putAt ROW.toList (i * 3) news).toArray):=fun W hW ty dc =>
  kl (P:=Tryz.prog) W 22 22 ty 53 3 N (i * 3) (n + m - i) dc ⟨vb,voff,none⟩ m vc ROW 53 news mo wx (hg1.frame (by rw[hW])) (by rw[hl]; simp only[Nat.min_def]; split <;> omega)
   (fun j u hj=>by
    rw[← hcell j u hj]
    have e1:W.heap[vb]? = w.heap[vb]? := by rw[hW]; exact hold1 vb hvw
    simp only[Addr.add_lit,World.cell?,e1]) (by rw[hl,hRs]; omega) h1
 have hp1:(putAt ROW.toList (i * 3) news).length = ROW.size:=by rw[fB _ _ _ (by rw[hl,Array.length_toList,hRs]; omega),Array.length_toList]
 obtain⟨W2,hW2⟩:∃ W2,W2 = W1.setRow N (putAt ROW.toList (i * 3) news).toArray:=⟨_,rfl⟩
 have hg2:gS W2 N (putAt ROW.toList (i * 3) news).toArray 53:=by rw[hW2]; exact hg1.set _ (by simpa using hp1)
 have hold2:∀ k,k < w.heap.size → W2.heap[k]? = w.heap[k]? := fun k hk=>by rw[hW2,setRow_other W1 N k _ (by omega)]; exact hold1 k hk
 have hcpB:∀ (W:World),W.heap = W2.heap → ∀ ty dc sc,(Builtin.copy_ #[22,22] ty #[.slice (some ⟨N,(i + m) * 3,none⟩) (n + m - (i + m)) dc,.slice (some ⟨g,off + i * 3,none⟩) (n - i) sc]).run Tryz.prog W =
   .ok (goInt (Nat.min (n - i) (n + m - (i + m)))) (W.setRow N (putAt (putAt ROW.toList (i * 3) news) ((i + m) * 3) (xs.drop (i * 3))).toArray):=fun W hW ty dc sc=>by
  have:=kl (P:=Tryz.prog) W 22 22 ty 53 3 N ((i + m) * 3) (n + m - (i + m)) dc ⟨g,off + i * 3,none⟩ (n - i) sc _ 53 (xs.drop (i * 3)) mo wx (hg2.frame (by rw[hW])) (by rw[hdl]; simp only[Nat.min_def]; split <;> omega)
   (fun j u hj=>by
    rw[Addr.add_lit,Nat.add_assoc,← hxc (i * 3 + j) u (by rwa [List.getElem?_drop] at hj)]
    have e1:W.heap[g]? = w.heap[g]? := by rw[hW]; exact hold2 g hgw
    simp only[World.cell?,e1]) (by rw[List.size_toArray,hp1,hdl,hRs]; omega) (fun u hu=>h1x u (List.mem_of_mem_drop hu))
  simpa using this
 have hGi:¬ (G = i):=by omega
 have hGim:¬ (G = i + m):=by omega
 have hci:¬ (c = i):=by omega
 have hw1:IntKind.i64.wrap ((i:Int) + (m:Int)) = (i:Int) + (m:Int):=by rw[IntKind.wrap_i64]; omega
 have hw2:IntKind.i64.wrap ((n:Int) + (m:Int)) = (n:Int) + (m:Int):=by rw[IntKind.wrap_i64]; omega
 have hw3:IntKind.i64.wrap ((n:Int) + (m:Int) - (i:Int)) = (n:Int) + (m:Int) - (i:Int):=by rw[IntKind.wrap_i64]; omega
 have hb1:(0:Int) ≤ (i:Int) + (m:Int):=by omega
 have hin:i ≤ n:=by omega
 have htn:((i:Int) + (m:Int)).toNat = i + m:=by omega
 have hb3:(i:Int) ≤ (n:Int):=by omega
 have hw4:W1.os = w.os ∧ W1.tape = w.tape ∧ W1.output = w.output ∧ W1.heap.size = w.heap.size + 1:=by rw[hW1]; exact⟨rfl,rfl,rfl,by simp⟩
 clear hkk hik hold hROW hG
 subst hW2
 subst hW1
 subst hN
 have hE:((w.alloc (.cells ROW 53)).drew).heap = (w.drew.alloc (.cells ROW 53)).heap:=rfl
 have hF:(((w.alloc (.cells ROW 53)).drew.setRow w.heap.size (putAt ROW.toList (i * 3) news).toArray).drew).heap = ((w.drew.alloc (.cells ROW 53)).setRow w.heap.size (putAt ROW.toList (i * 3) news).toArray).heap:=rfl
 go_enter Tryz.func56,Tryz.ntmps56
 go_wp2_with (first
  | (at_builtin; refine Lib.wpList_append_run _ rfl _ _ _ _ rfl _ _ rfl rfl _ _ (hrz _) ?_)
  | (at_builtin; refine Go.Proofs.wpList_copy_runI _ rfl _ _ 22 22 rfl _ _ rfl rfl (hcpA _ hE _ _) ?_))
 go_region_law_o (refine Go.Proofs.step_copy_runI rfl _ _ 22 22 rfl (.slice (some ⟨w.heap.size,(i + m) * 3,none⟩) (n + m - (i + m)) (G - (i + m))) (.slice (some ⟨g,off + i * 3,none⟩) (n - i) (c - i)) (by simp [Act.eval,Act.put]) (by simp [Act.eval,Act.put]) (hcpB _ hF 3 (G - (i + m)) (c - i)) ?_)
 go_wp2
 go_ret
 have hp2:(putAt (putAt ROW.toList (i * 3) news) ((i + m) * 3) (xs.drop (i * 3))).length = G * 3:=by rw[fB _ _ _ (by rw[hp1,hdl,hRs]; omega),hp1,hRs]
 refine⟨_,rfl,⟨?_,.inr ⟨w.heap.size,G,_,0,rfl,Nat.zero_le _,hg2.set (putAt (putAt ROW.toList (i * 3) news) ((i + m) * 3) (xs.drop (i * 3))).toArray (by simp [hp1,hp2,hRs]),hGn,hGm,by simp [hp2],?_⟩⟩,⟨rfl,rfl,rfl,?_,fun k hk hkr=>?_⟩,.inr rfl⟩
 ·rw[List.length_append,List.length_append,List.length_take,hdl,hl,hxl]; omega
 ·have hcl:ROW.toList.length = ROW.size:=Array.length_toList
  have hs:=C3 ROW.toList xs news (i * 3) hRt (by omega) (by rw[hcl,hxl,hl,hRs]; omega)
  rw[hxl,hl,show i * 3 + m * 3 = (i + m) * 3 by omega,show n * 3 + m * 3 = (n + m) * 3 by omega] at hs
  simpa using hs
 ·simp
 ·rw[setRow_other _ w.heap.size k _ (by omega)]; exact hold2 k hk
end Go.Proofs.YtaocfjifacnokaaGreat
namespace Go.Lad
open Go.RowKit
set_option linter.unusedVariables false
set_option linter.unusedSimpArgs false
section
variable {z:Nat} {F:Nat → Prop} {w:World} {l m:List (List PV)} {xs news:List Value}
theorem Ig (hxl:xs.length = l.length * z) (hx:∀ (i:Nat) x,l[i]? = some x → aL.rd (α:=CZ z) F w (chunk z i xs) x) (hn:∀ (i:Nat) x,m[i]? = some x → aL.rd (α:=CZ z) F w (chunk z i news) x) :
  ∀ (j:Nat) (x:List PV),(l ++ m)[j]? = some x → aL.rd (α:=CZ z) F w (chunk z j (xs ++ news)) x:=by
 intro j x hj0
 rcases Nat.lt_or_ge j l.length with hjl | hjl
 ·have hj':l[j]? = some x:=by rw[← List.getElem?_append_left (l₂:=m) hjl]; exact hj0
  have e1:chunk z j (xs ++ news) = chunk z j xs:=by
   unfold chunk
   have:j * z + z ≤ xs.length:=by
    rw[hxl,← Nat.succ_mul]; exact Nat.mul_le_mul_right _ hjl
   rw[List.drop_append_of_le_length (by omega),List.take_append_of_le_length (by rw[List.length_drop]; omega)]
  rw[e1]; exact hx j _ hj'
 ·have hj':m[j - l.length]? = some x:=by rw[← List.getElem?_append_right (l₁:=l) hjl]; exact hj0
  have e1:chunk z j (xs ++ news) = chunk z (j - l.length) news:=by
   unfold chunk
   have:j * z = xs.length + (j - l.length) * z:=by
    rw[hxl,← Nat.add_mul]; congr 1; omega
   rw[this,List.drop_append,Nat.add_sub_cancel_left,List.drop_of_length_le (Nat.le_add_right _ _),List.nil_append]
  rw[e1]
  exact hn _ _ hj'
theorem JU {i:Nat} (hi:i ≤ l.length) (hxl:xs.length = l.length * z) (hx:∀ (i:Nat) x,l[i]? = some x → aL.rd (α:=CZ z) F w (chunk z i xs) x):∀ (j:Nat) (x:List PV),(l.take i)[j]? = some x → aL.rd (α:=CZ z) F w (chunk z j (xs.take (i * z))) x:=by
 intro j x hj
 have hji:j < i:=by
  have:=(List.getElem?_eq_some_iff.1 hj).1
  rw[List.length_take] at this; omega
 rw[List.getElem?_take_of_lt hji] at hj
 have e1:chunk z j (xs.take (i * z)) = chunk z j xs:=by
  unfold chunk
  have:j * z + z ≤ i * z:=by rw[← Nat.succ_mul]; exact Nat.mul_le_mul_right _ hji
  rw[List.drop_take,List.take_take,Nat.min_eq_left (by omega)]
 rw[e1]; exact hx j x hj
theorem JV {i:Nat} (hx:∀ (i:Nat) x,l[i]? = some x → aL.rd (α:=CZ z) F w (chunk z i xs) x):∀ (j:Nat) (x:List PV),(l.drop i)[j]? = some x → aL.rd (α:=CZ z) F w (chunk z j (xs.drop (i * z))) x:=by
 intro j x hj
 rw[List.getElem?_drop] at hj
 have e1:chunk z j (xs.drop (i * z)) = chunk z (i + j) xs:=by
  unfold chunk
  rw[List.drop_drop,← Nat.add_mul]
 rw[e1]; exact hx _ x hj
theorem Ih {u:Value} (h:Rd F w (.sl m) u) (hm:0 < m.length):∃ b off c,u = .slice (some ⟨b,off,none⟩) m.length c ∧ F b:=by
 cases h with
 | @sl0 A c h hm'=>exact absurd hm (by simp)
 | @sl _ b off c z us h0 hF hb hc hm' hz hcell hrd=>exact⟨b,off,c,rfl,hF⟩
end
theorem JW {z:Nat} {F:Nat → Prop} {w:World} {l:List (List PV)} {xs:List Value} (hz:0 < z) (hxl:xs.length = l.length * z) (hx:∀ (i:Nat) x,l[i]? = some x → aL.rd (α:=CZ z) F w (chunk z i xs) x):∀ u ∈ xs,u.oneCell' = true:=by
 intro u hu
 obtain⟨j,hj⟩:=List.mem_iff_getElem?.1 hu
 have hjl:j < l.length * z:=by rw[← hxl]; exact (List.getElem?_eq_some_iff.1 hj).1
 have hi:j / z < l.length:=(Nat.div_lt_iff_lt_mul hz).2 hjl
 refine aL.one (hx (j / z) _ (List.getElem?_eq_getElem hi)) u ?_
 refine List.mem_of_getElem? (i:=j % z) ?_
 unfold chunk
 rw[List.getElem?_take,if_pos (Nat.mod_lt _ hz),List.getElem?_drop,Nat.mul_comm,Nat.div_add_mod]
 exact hj
end Go.Lad
namespace Go.Proofs.YtaocfjifacnokaaGreat
open Go.Lad Go.RowKit
set_option linter.unusedVariables false
set_option linter.unusedSimpArgs false
theorem JX {w:World} {χ:Col} {k:Nat} {v u:Value} {l ms:List (List PV)} {i:Nat} (hk:k ≠ 0) (hown:Go.Lad.Own (α:=CZ 3) k χ 53 w v l) (hrd:Rd (In χ 0) w (.sl ms) u) (hz:∀ r ∈ ms,r.length = 3) (hi:i ≤ l.length) (hm:0 < ms.length) (hs:l.length + ms.length ≤ 2147483647) :
  Calls Tryz.prog 56 #[v,.int .i64 i,u] w fun en w'=>∃ cells,FC w v l.length ms.length cells en w' ∧ ∀ χ':Col,(∀ b,χ b = 0 → b < w.heap.size → χ' b = 0) → ∀ (j:Nat) (x:List PV),(l.take i ++ ms ++ l.drop i)[j]? = some x → aL.rd (α:=CZ 3) (In χ' 0) w' (chunk 3 j cells) x:=by
 obtain⟨⟨xs,ho,hx⟩,hcol⟩:=hown
 have ho:jM w 53 3 v l.length xs:=ho
 have hx:∀ (i:Nat) x,l[i]? = some x → aL.rd (α:=CZ 3) (In χ 0) w (chunk 3 i xs) x:=hx
 have hxl:xs.length = l.length * 3:=ho.1
 obtain⟨vb,voff,vc,rfl,hvb⟩:=Ih hrd hm
 obtain⟨A,c0,news,hA,n1,n1c,n2,_,n3⟩:=BM (z:=3) (χ:=χ) hrd (fun b h=>h) hz
 injection hA with a1 a2 a3
 subst a1
 have hcell:=n3 _ rfl
 have hxone:=JW (z:=3) (by omega) hxl hx
 have hread:∀ (en:Ending) (w':World) (cells:List Value),FC w v l.length ms.length cells en w' → cells = xs.take (i * 3) ++ news ++ xs.drop (i * 3) → ∃ cells,FC w v l.length ms.length cells en w' ∧ ∀ χ':Col,(∀ b,χ b = 0 → b < w.heap.size → χ' b = 0) → ∀ (j:Nat) (x:List PV),(l.take i ++ ms ++ l.drop i)[j]? = some x → aL.rd (α:=CZ 3) (In χ' 0) w' (chunk 3 j cells) x:=by
  rintro en w' cells h rfl
  refine⟨_,h,fun χ' hχ=>?_⟩
  obtain⟨v',_,_,hgr,_⟩:=h
  have hfr:∀ b,In χ 0 b → b < w.heap.size → In χ' 0 b ∧ w'.heap[b]? = w.heap[b]? := fun b hb hlt=>⟨hχ b hb hlt,hgr.block b hlt (fun e=>by
   have:=hcol b e.symm
   have hb:χ b = 0:=hb
   omega)⟩
  have hx':∀ (i:Nat) x,l[i]? = some x → aL.rd (α:=CZ 3) (In χ' 0) w' (chunk 3 i xs) x:=fun i x h=>aL.frame hfr (hx i x h)
  have hn':∀ (i:Nat) x,ms[i]? = some x → aL.rd (α:=CZ 3) (In χ' 0) w' (chunk 3 i news) x:=fun i x h=>aL.frame hfr (n2 i x h)
  refine Ig ?_ (Ig ?_ (JU hi hxl hx') hn') (JV hx')
  ·rw[List.length_append,List.length_append,List.length_take,List.length_take,hxl,n1]; omega
  ·rw[List.length_take,List.length_take,hxl]; omega
 by_cases hin:i = l.length
 ·subst hin
  refine (JT w v l.length ms.length vc xs news ⟨vb,voff,none⟩ ho hm n1 hcell n1c hs).mono ?_
  intro en w' h
  refine hread en w' _ h ?_
  rw[List.take_of_length_le (by omega),List.drop_of_length_le (by omega),List.append_nil]
 ·rcases ho.2 with⟨rfl,hn⟩ | ⟨g,cap,cur,off,rfl,_,hg,hnc,hcm,hcs,htake⟩
  ·omega
  ·have hne:vb ≠ g:=fun e=>by
    have h1:=hcol g rfl
    have h2:χ vb = 0:=hvb
    rw[e] at h2; omega
   by_cases hroom:l.length + ms.length ≤ cap
   ·refine (FD w g off l.length cap i ms.length vc vb voff cur xs news hg hcs hroom hcm htake hxl (by omega) hm n1 hcell n1c hxone hne).mono ?_
    intro en w' h
    exact hread en w' _ h rfl
   ·refine (Ie w g off l.length cap i ms.length vc vb voff cur xs news hg hcs hnc (by omega) hcm hs htake hxl (by omega) hm n1 hcell n1c hxone).mono ?_
    intro en w' h
    exact hread en w' _ h rfl
theorem Ii {G:Gh} {hp:Hp} {w:World} {k:IntKind} {n:Int} {v:Value} (h:SRd G hp w (.c (.v (.p (.int k n)))) v):v = .int k n:=by
 have h1:Rd (In G.χ 0) w (.int k n) v:=(h:LRd G hp w _ v).val
 cases h1; rfl
theorem FE {l ms:List (List PV)} {i:Nat} (hz:∀ r ∈ ms,r.length = 3) (hi:i ≤ l.length) (hm:0 < ms.length) (hs:l.length + ms.length ≤ 2147483647) :
  pP Tryz.prog 56 ⟨[.c (.v (.own 1000000)),.c (.v (.p (.int .i64 i))),.c (.v (.p (.sl ms)))],[(1000000,.arr 53 3 l)],.one (.v (.own 0)),[(0,.arr 53 3 (l.take i ++ ms ++ l.drop i)),(1000000,.gone)]⟩:=by
 intro w G vs hnorm hglob hargs hobjs
 obtain⟨v0,a,u,rfl⟩:∃ v0 a u,vs = [v0,a,u]:=by
  have:=hargs.1
  match vs,this with
  | [a,b,c],_=>exact⟨a,b,c,rfl⟩
 have hv0:v0 = G.hv 1000000:=(hargs.2 0 _ _ rfl rfl:SRd G _ w _ v0).val
 have ha:a = .int .i64 (i:Int):=Ii (hargs.2 1 _ _ rfl rfl)
 have hu:Rd (In G.χ 0) w (.sl ms) u:=(hargs.2 2 _ _ rfl rfl:LRd G _ w _ u).val
 obtain⟨hown,hbl⟩:=hobjs 1000000 _ rfl
 have hown:Go.Lad.Own (α:=CZ 3) 1000002 G.χ 53 w v0 l:=by rw[hv0]; exact hown
 subst ha
 refine (JX (by omega) hown hu hz hi hm hs).mono ?_
 rintro en w' ⟨cells,⟨v',rfl,c1,c2,c3⟩,c4⟩
 have hcolb:∀ g,v0.ownBlock = some g → G.χ g = 1000002:=hown.col
 have hlt:∀ b,v0.ownBlock = some b → b < w.heap.size:=fun b hb=>by
  obtain⟨xs,ho,_⟩:=hown.ex
  exact (ho.lt b hb).2
 have hlen:(l.take i ++ ms ++ l.drop i).length = l.length + ms.length:=by rw[List.length_append,List.length_append,List.length_take,List.length_drop]; omega
 have hone:v'.oneCell' = true:=by
  rcases c1.2 with⟨rfl,_⟩ | ⟨g,cap,cur,off,rfl,_⟩ <;> rfl
 have hnew:∀ b,v'.ownBlock = some b → v0.ownBlock = some b ∨ b = w.heap.size:=fun b hb=>c3.imp (fun e=>by rw[← e]; exact hb) fun e=>by rw[hb] at e; exact Option.some.inj e
 refine⟨⟨fun b=>if v'.ownBlock = some b then 2 else G.χ b,fun o=>if o = 0 then v'.ownBlock.getD 0 else G.bl o,fun o=>if o = 0 then v' else G.hv o⟩,v',[v'],rfl,rfl,c2.os,c2.tape,c2.output,c2.size,fun b hb hχ=>?_,fun b hb=>?_,fun o ho=>⟨if_neg (by omega),if_neg (by omega)⟩,fun b hb=>?_,⟨rfl,fun i x v hx hv=>?_⟩,fun o h ho=>?_⟩
 ·have hne:v0.ownBlock ≠ some b:=fun e=>by have:=hcolb b e; omega
  refine⟨c2.block b hb (fun e=>hne e.symm),if_neg fun e=>?_⟩
  rcases hnew b e with h | h
  ·exact hne h
  ·omega
 ·dsimp only at hb
  split at hb
  ·rename_i he
   rcases hnew b he with h | h
   ·exact .inl (by have:=hcolb b h; omega)
   ·exact .inr (by omega)
  ·exact .inl hb
 ·dsimp only
  split
  ·rename_i he
   have:=(c1.lt b he).2
   omega
  ·exact hnorm b (Nat.le_trans c2.size hb)
 ·cases i with
  | succ i=>simp [Rz.fU] at hx
  | zero =>
   simp [Rz.fU] at hx hv
   subst hx hv
   exact⟨hone,by simp [aJ.ids,hpL,ae],by simp [LVal]⟩
 ·simp only[hpL,ae] at ho
  split at ho
  ·rename_i he
   have he:o = 0:=by simpa using he
   subst he
   injection ho with ho
   subst ho
   refine⟨?_,fun b hb'=>?_⟩
   ·show Go.Lad.Own (α:=CZ 3) 2 _ 53 w' (if (0:Nat) = 0 then v' else G.hv 0) (l.take i ++ ms ++ l.drop i)
    rw[if_pos rfl]
    refine⟨⟨cells,?_,fun j x hj=>c4 _ (fun b hb hbl=>?_) j x hj⟩,fun g hg=>if_pos hg⟩
    ·have hL:List.length (α:=CZ 3) (l.take i ++ ms ++ l.drop i) = l.length + ms.length:=hlen
     rw[hL]; exact c1
    ·dsimp only
     split
     ·rename_i he
      rcases hnew b he with h | h
      ·have:=hcolb b h; omega
      ·omega
     ·exact hb
   ·have hb':(if (0:Nat) = 0 then v' else G.hv 0).ownBlock = some b:=hb'
    rw[if_pos rfl] at hb'
    show b = if (0:Nat) = 0 then v'.ownBlock.getD 0 else G.bl 0
    rw[if_pos rfl,hb']; rfl
  ·split at ho
   ·injection ho with ho
    subst ho
    trivial
   ·cases ho
abbrev kG:Ty := .pair .str (.pair (.int .i64) (.slu 0))
theorem JY (hc:lu Tryz.prog 56 = true):ay Tryz.prog (yZ 56 53 kG):=by
 refine⟨hc,fun x r hr=>?_⟩
 obtain⟨i,v,l⟩:=x
 obtain⟨i,rfl⟩:∃ m:Int,m = i:=⟨i,rfl⟩
 obtain⟨v,rfl⟩:∃ m:List kG.den,m = v:=⟨v,rfl⟩
 obtain⟨l,rfl⟩:∃ m:List kG.den,m = l:=⟨l,rfl⟩
 obtain⟨r,rfl⟩:∃ m:List kG.den,m = r:=⟨r,rfl⟩
 have hr:E5 i v l = some r:=hr
 unfold E5 at hr
 obtain⟨hb,hr⟩:=a7 hr
 injection hr with hr
 rw[Bool.and_eq_true,Bool.and_eq_true,Bool.and_eq_true,dk,dk,lX,lX,decide_eq_true_eq,decide_eq_true_eq,decide_eq_true_eq,decide_eq_true_eq] at hb
 obtain⟨h1,h2,h3,h4⟩:=hb
 obtain⟨I,rfl⟩:∃ I:Nat,i = I:=⟨i.toNat,by omega⟩
 rw[Int.toNat_natCast] at hr
 have hz:∀ q ∈ v.map (enc kG),q.length = 3:=fun q hq=>by
  obtain⟨x,_,rfl⟩:=List.mem_map.1 hq
  obtain⟨a,b,c⟩:=x
  rfl
 have key:=FE (l:=l.map (enc kG)) (ms:=v.map (enc kG)) (i:=I) hz (by rw[List.length_map]; omega) (by rw[List.length_map]; omega) (by rw[List.length_map,List.length_map]; omega)
 have er:(l.map (enc kG)).take I ++ v.map (enc kG) ++ (l.map (enc kG)).drop I = r.map (enc kG):=by
  rw[← hr,List.map_append,List.map_append,List.map_take,List.map_drop]
 rw[er] at key
 have hl:∀ l:List kG.den,lG kG ⟨.sl kG,l⟩ = l:=fun l=>mD (t:=kG) l
 have e1:(yZ 56 53 kG).spec ((I:Int),v,l) r = ⟨[.c (.v (.own 1000000)),.c (.v (.p (.int .i64 I))),.c (.v (.p (.sl (v.map (enc kG)))))],[(1000000,.arr 53 3 (l.map (enc kG)))],.one (.v (.own 0)),[(0,.arr 53 3 (r.map (enc kG))),(1000000,.gone)]⟩:=by
  show qq.mk _ [(1000000,cY.un (.arr 53 kG (lG kG ⟨.sl kG,l⟩)))] _ [(0,cY.un (.arr 53 kG (lG kG ⟨.sl kG,r⟩))),(1000000,.gone)] = _
  rw[hl,hl]
  rfl
 show pP Tryz.prog 56 ((yZ 56 53 kG).spec ((I:Int),v,l) r)
 rw[e1]
 exact key
end Go.Proofs.YtaocfjifacnokaaGreat
