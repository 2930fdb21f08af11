import Derived.Test.YtcmibmohdnbhgaaGreatDoorAb7
import Derived.Laws.StructEq
namespace Go.Lad
set_option linter.unusedVariables false
set_option linter.unusedSimpArgs false
open Go.RowKit
def putAt {α:Type} (l:List α) (p:Nat) (us:List α):List α:=l.take p ++ us ++ l.drop (p + us.length)
theorem putAt_length {α:Type} (l us:List α) (p:Nat) (h:p + us.length ≤ l.length):(putAt l p us).length = l.length:=by simp [putAt]; omega
theorem putAt_get {α:Type} (l us:List α) (p:Nat) (h:p + us.length ≤ l.length) (j:Nat):(putAt l p us)[j]? = if p ≤ j ∧ j < p + us.length then us[j - p]? else l[j]? := by
 unfold putAt
 by_cases h1:j < p
 ·rw[if_neg (by omega),List.getElem?_append_left (by simp; omega),List.getElem?_append_left (by simp; omega),List.getElem?_take,if_pos h1]
 ·by_cases h2:j < p + us.length
  ·rw[if_pos ⟨by omega,h2⟩,List.getElem?_append_left (by simp; omega),List.getElem?_append_right (by simp; omega)]
   congr 1
   simp; omega
  ·rw[if_neg (by omega),List.getElem?_append_right (by simp; omega),List.getElem?_drop]
   congr 1
   simp; omega
theorem putAt_take {α:Type} (l us:List α) (p n:Nat) (h:p + us.length ≤ n) (hn:n ≤ l.length):(putAt l p us).take n = putAt (l.take n) p us:=by
 apply List.ext_getElem?
 intro j
 rw[putAt_get _ _ _ (by simp; omega),List.getElem?_take,putAt_get _ _ _ (by omega),List.getElem?_take]
 by_cases hj:j < n
 ·simp [hj]
 ·rw[if_neg hj,if_neg hj,if_neg (by omega)]
theorem putAt_drop {α:Type} (l us:List α) (o p:Nat) (h:o + p + us.length ≤ l.length):(putAt l (o + p) us).drop o = putAt (l.drop o) p us:=by
 apply List.ext_getElem?
 intro j
 rw[List.getElem?_drop,putAt_get _ _ _ h,putAt_get _ _ _ (by rw[List.length_drop]; omega),List.getElem?_drop]
 by_cases hj:p ≤ j ∧ j < p + us.length
 ·rw[if_pos (by omega),if_pos hj]; congr 1; omega
 ·rw[if_neg (by omega),if_neg hj]
theorem chunk_putAt {α:Type} (xs:List Value) (us:List Value) (z i off j:Nat) (hoff:off + us.length ≤ z) (hx:i * z + z ≤ xs.length):chunk z j (putAt xs (i * z + off) us) = if j = i then putAt (chunk z i xs) off us else chunk z j xs:=by
 apply List.ext_getElem?
 intro m
 unfold chunk
 rw[List.getElem?_take]
 by_cases hm:m < z
 ·rw[if_pos hm,List.getElem?_drop,putAt_get _ _ _ (by omega)]
  by_cases hji:j = i
  ·subst hji
   rw[if_pos rfl,putAt_get _ _ _ (by rw[List.length_take,List.length_drop]; omega),List.getElem?_take,if_pos hm,List.getElem?_drop]
   by_cases h1:off ≤ m ∧ m < off + us.length
   ·rw[if_pos h1,if_pos (by omega)]; congr 1; omega
   ·rw[if_neg h1,if_neg (by omega)]
  ·rw[if_neg hji,List.getElem?_take,if_pos hm,List.getElem?_drop,if_neg]
   rintro⟨h1,h2⟩
   rcases Nat.lt_or_gt_of_ne hji with h | h
   ·have:(j + 1) * z ≤ i * z:=Nat.mul_le_mul_right z h
    rw[Nat.succ_mul] at this; omega
   ·have:(i + 1) * z ≤ j * z:=Nat.mul_le_mul_right z h
    rw[Nat.succ_mul] at this; omega
 ·rw[if_neg hm]
  split
  ·rw[putAt_get _ _ _ (by rw[List.length_take,List.length_drop]; omega),if_neg (by omega),List.getElem?_take,if_neg hm]
  ·rw[List.getElem?_take,if_neg hm]
section
variable {P:Program} {w0:World} {χ0:Col} {T0:Ctx} {s:St} {a:Act} {w:World} {G:Gh} {o:Oper} {Q:Exit → Act → World → Prop}
theorem run_store_at {t bt:TypeId} {g off:Nat} {cur:Array Value} {v:Value} (hg:RowAt w g cur bt) (hn:tySize P t = some v.cells.size) (hle:off + v.cells.size ≤ cur.size) (h1:∀ u ∈ v.cells.toList,u.oneCell' = true) :
  (Instr.storeAt t (ptr g off) v).run P w = .ok () (w.setRow g (putAt cur.toList off v.cells.toList).toArray):=by
 obtain⟨i,hi,hs⟩:=tySize_info hn
 have:=run_storeCells_m P g off bt v.cells.toList 0 cur w hg (by simpa using hle) h1
 simp only[Nat.add_zero] at this
 simp only[Instr.storeAt,Instr.sureAddr,ptr,Sem.run_bind,Sem.run_pure,Result.andThen_ok,storeVar,sizeOf,typeInfo,run_program,hi,hs]
 rw[if_neg (by simp)]
 exact this
theorem setRow_chg {g:Nat} {cs:Array Value} {k:Nat} (hk:G.χ g = k):Chg [k] G.χ w G.χ (w.setRow g cs) :=
 ⟨rfl,rfl,rfl,by simp [World.setRow],fun _ _ _=>rfl,fun b _ hb=>setRow_other w g b cs (fun e=>hb (by rw[e,hk]; simp))⟩
theorem setRow_ext {g:Nat} {cs:Array Value} {ob:Nat} {h:HObj} (hk:G.χ g = ob + 2):Ext G s.hp w G (Lad.upd s.hp ob (some h)) (w.setRow g cs) :=
 ⟨fun b hb _=>⟨hb,setRow_other w g b cs (fun e=>by rw[e] at hb; have:G.χ g = 0:=hb; omega)⟩,fun _ _=>rfl,fun _ _=>rfl,fun i hi=>by
  by_cases hio:i = ob
  ·rw[hio,upd_same]; simp
  ·rw[upd_ne _ _ hio]; exact hi⟩
theorem does_store {g ob:Nat} {cs:Array Value} {h:HObj} {c:Prop} (r:RepG w0 χ0 T0 s a w G) (hd:∀ k,o.dst = some k → k < a.tmps.size) (hk:G.χ g = ob + 2)
  (hrun:(execOp a.eval o).run P w = .ok .skip (w.setRow g cs)) (hh:HRd G (Lad.upd s.hp ob (some h)) (w.setRow g cs) ob h):o.wp P a w (After w0 χ0 T0 a.tmps.size (s.app o.dst ⟨c,.dead,[(ob,h)]⟩)) Q:=by
 unfold Oper.wp
 rw[hrun]
 refine⟨Act.put_size _ _ _,G,r.upd hd (setRow_ext hk) (setRow_chg hk) (by simp) (fun b hb=>r.norm b (by simpa [World.setRow] using hb)) (fun i h' hi=>?_) trivial⟩
 change Lad.upd s.hp ob (some h) i = some h' at hi
 by_cases hid:i = ob
 ·subst hid
  rw[upd_same] at hi
  injection hi with hi
  subst hi
  exact .inr hh
 ·rw[upd_ne _ _ hid] at hi
  exact .inl ⟨hi,by simp; omega⟩
theorem All2.put {α β:Type} {R:α → β → Prop} {l u:List α} {m v:List β} (h:All2 R l m) (k:All2 R u v) (p:Nat):All2 R (putAt l p u) (putAt m p v):=by
 unfold putAt
 rw[k.1]
 exact ((h.take p).append k).append (h.drop _)
theorem own_set {k z i off:Nat} {e:TypeId} {χ:Col} {v:Value} {l:List (List PV)} {ps:List PV} {us:List Value} (h:Own (α:=CZ z) k χ e w v l) (hi:i < l.length) (hoff:off + us.length ≤ z) (hk:k ≠ 0) (hone:∀ u ∈ us,u.oneCell' = true)
  (hps:RdL (In χ 0) w ps us):∃ g cur,v.ownBlock = some g ∧ RowAt w g cur e ∧ hOff v + (i * z + off) + us.length ≤ cur.size ∧
   Own (α:=CZ z) k χ e (w.setRow g (putAt cur.toList (hOff v + (i * z + off)) us).toArray) v (l.set i (putAt (l.getD i []) off ps)):=by
 obtain⟨⟨xs,h1,h2⟩,h3⟩:=h
 have hxl:xs.length = l.length * z:=h1.1
 have hiz:i * z + z ≤ l.length * z:=by rw[← Nat.succ_mul]; exact Nat.mul_le_mul_right _ hi
 rcases h1.2 with⟨rfl,hn⟩ | ⟨g,cap,cur,o0,rfl,hb,hgg,hc,hm,hcs,hr⟩
 ·have:l.length = 0:=hn
  omega
 have hcap:o0 + l.length * z ≤ cur.size:=by
  have h5:o0 + cap * z ≤ cur.size:=hcs
  have h6:l.length * z ≤ cap * z:=Nat.mul_le_mul_right _ hc
  omega
 have hg:χ g = k:=h3 g rfl
 have e0:(l.set i (putAt (l.getD i []) off ps)).length = l.length:=List.length_set
 refine⟨g,cur,rfl,hgg,by (show o0 + _ + _ ≤ _); omega,⟨putAt xs (i * z + off) us,⟨?_,.inr ⟨g,cap,_,o0,?_,hb,hgg.set _ (by show (putAt cur.toList (o0 + (i * z + off)) us).length = cur.size; rw[putAt_length _ _ _ (by simp; omega)]; simp),?_,hm,?_,?_⟩⟩,fun j x hj=>?_⟩,h3⟩
 ·rw[putAt_length _ _ _ (by omega)]
  exact hxl.trans (congrArg (· * z) e0.symm)
 ·exact congrArg (fun n=>Value.slice (some ⟨g,o0,none⟩) n cap) e0.symm
 ·exact Nat.le_trans (Nat.le_of_eq e0) hc
 ·show o0 + _ ≤ (putAt cur.toList (o0 + (i * z + off)) us).length
  rw[putAt_length _ _ _ (by simp; omega)]
  simpa using hcs
 ·have hr':(cur.toList.drop o0).take (l.length * z) = xs:=hr
  have e1:(l.set i (putAt (l.getD i []) off ps)).length * z = l.length * z:=by rw[List.length_set]
  have:((putAt cur.toList (o0 + (i * z + off)) us).drop o0).take (l.length * z) = putAt xs (i * z + off) us:=by
   rw[putAt_drop _ _ _ _ (by simp; omega),putAt_take _ _ _ _ (by omega) (by simp; omega),hr']
  exact (congrArg (fun n=>List.take n ((putAt cur.toList (o0 + (i * z + off)) us).drop o0)) e1).trans this
 ·have hfr:∀ b,In χ 0 b → b < w.heap.size → In χ 0 b ∧ (w.setRow g (putAt cur.toList (o0 + (i * z + off)) us).toArray).heap[b]? = w.heap[b]? :=
   fun b hb0 _=>⟨hb0,setRow_other w g b _ (fun e=>hk (by rw[← hg,← e]; exact hb0))⟩
  refine GoRep.frame hfr ?_
  show GoRep.rd (α:=CZ z) (In χ 0) w (chunk z j (putAt xs (i * z + off) us)) x
  rw[chunk_putAt (α:=Value) xs us z i off j hoff (by omega)]
  have hj':(l.set i (putAt (l.getD i []) off ps))[j]? = some x:=hj
  rw[List.getElem?_set] at hj'
  by_cases hji:j = i
  ·subst hji
   rw[if_pos rfl]
   rw[if_pos rfl,if_pos hi] at hj'
   injection hj' with hj'
   obtain⟨q1,q2⟩:=h2 j (l.getD j []) (show (l:List (List PV))[j]? = some (l.getD j []) by simp [List.getD,List.getElem?_eq_getElem hi])
   have q1':(chunk z j xs).length = z:=q1
   refine⟨by rw[putAt_length _ _ _ (by omega)]; exact q1',?_⟩
   have hj'':x = putAt (l.getD j []) off ps:=hj'.symm
   subst hj''
   have hrow:All2 (fun p v=>Rd (In χ 0) w p v) (putAt (l.getD j []) off ps) (putAt (chunk z j xs) off us):=All2.put ⟨q2.1,q2.2⟩ ⟨hps.1,hps.2⟩ off
   exact⟨hrow.1,hrow.2⟩
  ·rw[if_neg hji]
   rw[if_neg (fun e=>hji e.symm)] at hj'
   exact h2 j x hj'
theorem opStore_ok {e:Eff} {t:TypeId} {x y:Operand} (r:RepG w0 χ0 T0 s a w G) (hd:∀ k,o.dst = some k → k < a.tmps.size) (ho:o.op = .store t x y) (h:opStore P t [s.arg x,s.arg y] = some e) (hc:e.cond) :
  o.wp P a w (After w0 χ0 T0 a.tmps.size (s.app o.dst e)) Q:=by
 have hx:=r.ev x
 have hy:=r.ev y
 have hex:∀ w',(Instr.storeAt t (a.eval x) (a.eval y)).run P w = .ok () w' → (execOp a.eval o).run P w = .ok .skip w':=by
  intro w' h
  simp only[execOp,ho,Sem.run_bind,h,Result.andThen_ok,Sem.run_pure]
 unfold opStore at h
 split at h
 ·rename_i ob off bt cs c _ heq
  simp only[List.cons.injEq,and_true] at heq
  obtain⟨h1,h2⟩:=St.arg_eq heq.1
  rw[h1] at hx
  rw[(St.arg_eq heq.2).1] at hy
  have hob:s.hp ob = some (.box bt cs):=by simpa [Slot.ids,Cmp.ids,Cmp.leaves,Leaf.ids] using h2
  have hval:a.eval x = ptr (G.bl ob) off:=LRd.val hx
  obtain⟨vs,hb,hcol,hall⟩:=r.objs ob _ hob
  split at h
  ·rename_i n hn
   split at h
   ·rename_i hcond
    obtain⟨hl,hle⟩:=hcond
    simp only[Option.some.injEq] at h
    subst h
    have hcells:=CRd.cells hy
    have hsz:(a.eval y).cells.size = n:=by have:=hcells.1; simp at this; omega
    have hone:∀ u ∈ (a.eval y).cells.toList,u.oneCell' = true:=fun u hu=>by
     obtain⟨j,hj⟩:=List.mem_iff_getElem?.1 hu
     have hlt:j < c.leaves.length:=by rw[hcells.1]; exact (List.getElem?_eq_some_iff.1 hj).1
     exact (hcells.2 j _ u (List.getElem?_eq_getElem hlt) hj).one
    have hrun:=run_store_at (P:=P) (t:=t) (off:=off) (v:=a.eval y) (RowAt.of hb) (by rw[hsz]; exact hn) (by rw[hsz]; simp; have:=hall.1; omega) hone
    rw[← hval] at hrun
    refine does_store r hd hcol (hex _ hrun) ⟨putAt vs off (a.eval y).cells.toList,?_,hcol,?_⟩
    ·have:=setRow_heap w (G.bl ob) vs.toArray (putAt vs off (a.eval y).cells.toList).toArray bt (0,0) hb
     exact this
    ·have hp:=All2.put hall hcells off
     rw[show cs.take off ++ c.leaves ++ cs.drop (off + n) = putAt cs off c.leaves by unfold putAt; rw[hl]]
     exact hp.mono fun _ _ h=>h.ext (setRow_ext hcol)
   ·cases h
  ·cases h
 ·rename_i ob i off z el z' l c _ heq
  simp only[List.cons.injEq,and_true] at heq
  obtain⟨h1,h2⟩:=St.arg_eq heq.1
  rw[h1] at hx
  rw[(St.arg_eq heq.2).1] at hy
  have hob:s.hp ob = some (.arr el z' l):=by simpa [Slot.ids,Cmp.ids,Cmp.leaves,Leaf.ids] using h2
  have hval:a.eval x = ptr (G.bl ob) (hOff (G.hv ob) + (i * z + off)):=LRd.val hx
  obtain⟨hown,hbl⟩:=r.objs ob _ hob
  split at h
  ·rename_i n ps hn hps
   split at h
   ·rename_i hcond
    obtain⟨rfl,hpl⟩:=hcond
    simp only[Option.some.injEq] at h
    subst h
    obtain⟨hi,hle⟩:i < l.length ∧ off + n ≤ z:=hc
    have hcells:=CRd.cells hy
    have hpr:=hcells
    rw[allPV_eq hps] at hpr
    have hrd:=rd_of_p hpr
    have hsz:(a.eval y).cells.size = n:=by have:=hrd.1; simp at this; omega
    obtain⟨g,cur,g1,g2,g3,g4⟩:=own_set (off:=off) hown hi (by simp; omega) (by omega) hrd.one hrd
    have hrun:=run_store_at (P:=P) (t:=t) (off:=hOff (G.hv ob) + (i * z + off)) (v:=a.eval y) g2 (by rw[hsz]; exact hn) (by simpa using g3) hrd.one
    have hgb:g = G.bl ob:=hbl g g1
    rw[hgb,← hval] at hrun
    rw[hgb] at g4 g2
    have hcol:G.χ (G.bl ob) = ob + 2:=by rw[← hgb]; exact hown.col g g1
    refine does_store r hd hcol (hex _ hrun) ⟨?_,hbl⟩
    rw[show (l.getD i []).take off ++ ps ++ (l.getD i []).drop (off + n) = putAt (l.getD i []) off ps by unfold putAt; rw[hpl]]
    exact g4
   ·cases h
  ·cases h
 ·cases h
theorem opConv_ok {e:Eff} {sr ds:TypeId} {x:Operand} (r:RepG w0 χ0 T0 s a w G) (hd:∀ k,o.dst = some k → k < a.tmps.size) (ho:o.op = .convert sr ds x) (h:opConv P sr ds [s.ev x] = some e):o.wp P a w (After w0 χ0 T0 a.tmps.size (s.app o.dst e)) Q:=by
 have hx:=r.ev x
 unfold opConv at h
 split at h
 ·rename_i k n heq
  simp only[List.cons.injEq,and_true] at heq
  rw[heq] at hx
  obtain⟨hv,hk⟩:=rd_int hx
  split at h
  ·rename_i k1 k' hs hd'
   have hrun:(execOp a.eval o).run P w = .ok (.value (.int k' (k'.wrap n))) w:=by
    simp [execOp,ho,convert,run_underlying hs,run_underlying hd',hv,Conv.intToInt]
   split at h
   ·rename_i hc
    simp only[val,Option.some.injEq] at h
    subst h
    obtain⟨rfl,hne⟩:=hc
    have hin:inK .i64 n:=by
     cases k <;> first | exact absurd rfl hne | skip
     all_goals
      simp [inK,IntKind.min,IntKind.max,IntKind.signed,IntKind.bits] at hk ⊢
      omega
    rw[wrap_in hin] at hrun
    exact does_val r hd hrun (mk_int hin)
   ·simp only[val,Option.some.injEq] at h
    subst h
    exact does_val r hd hrun (mk_int (wrap_inK _ _))
  ·cases h
 ·rename_i t heq
  simp only[List.cons.injEq,and_true] at heq
  rw[heq] at hx
  obtain⟨hv,hk⟩:=rd_str hx
  split at h
  ·rename_i hs hd'
   simp only[val,Option.some.injEq] at h
   subst h
   exact does_val r hd (by simp [execOp,ho,convert,run_underlying hs,run_underlying hd',hv]) (mk_str hk)
  ·cases h
 ·cases h
theorem Rd.toV {F:Nat → Prop} {w:World} {p:PV} {v:Value} (h:Rd F w p v) (hf:p.flat = true):v = p.toV ∧ p.Plain:=by
 cases h with
 | int h=>exact⟨rfl,h⟩
 | bool=>exact⟨rfl,trivial⟩
 | str h=>exact⟨rfl,h⟩
 | oth h=>exact⟨rfl,h⟩
 | sl0 h hm=>cases hf
 | sl us h0 _ _ _ _ _ _ _=>cases hf
 | mp mv _ _ _ _=>cases hf
theorem cmpRow_val {c:Cmp} {v:Value} {hp:Hp} {agg:Bool} {ps:List PV} (h:CRd G hp w c v) (hr:cmpRow c = some (agg,ps)) (hf:∀ p ∈ ps,p.flat = true):v = vfOf agg ps ∧ RowOK agg ps:=by
 unfold cmpRow at hr
 split at hr
 ·rename_i p
  simp only[Option.some.injEq,Prod.mk.injEq] at hr
  obtain⟨rfl,rfl⟩:=hr
  obtain⟨h1,h2⟩:=Rd.toV (LRd.val h) (hf p (by simp))
  exact⟨h1,by simpa using h2,fun _=>rfl⟩
 ·rename_i xs
  rw[Option.map_eq_some_iff] at hr
  obtain⟨qs,hq,hr⟩:=hr
  simp only[Prod.mk.injEq] at hr
  obtain⟨rfl,rfl⟩:=hr
  obtain⟨vs,hv,hall⟩:=h
  rw[allPV_eq hq] at hall
  have hget:∀ (i:Nat) u p,vs[i]? = some u → qs[i]? = some p → u = p.toV ∧ p.Plain:=fun i u p hu hp=>by
   have:=hall.2 i (.p p) u (by rw[List.getElem?_map,hp]; rfl) hu
   exact Rd.toV (LRd.val this) (hf p (List.mem_of_getElem? hp))
  have hlen:qs.length = vs.length:=by simpa using hall.1
  refine⟨?_,fun p hp=>?_,fun h=>by cases h⟩
  ·rw[hv]
   show Value.agg vs.toArray = .agg (qs.map PV.toV).toArray
   have:vs = qs.map PV.toV:=by
    apply List.ext_getElem?
    intro i
    rw[List.getElem?_map]
    rcases Nat.lt_or_ge i qs.length with hi | hi
    ·have h1:vs[i]? = some vs[i]:=List.getElem?_eq_getElem (by omega)
     have h2:qs[i]? = some qs[i]:=List.getElem?_eq_getElem hi
     rw[h1,h2,(hget i _ _ h1 h2).1]; rfl
    ·rw[List.getElem?_eq_none (by omega),List.getElem?_eq_none hi]; rfl
   rw[this]
  ·obtain⟨i,hi⟩:=List.mem_iff_getElem?.1 hp
   have hlt:i < vs.length:=by rw[← hlen]; exact (List.getElem?_eq_some_iff.1 hi).1
   exact (hget i _ p (List.getElem?_eq_getElem hlt) hi).2
 ·cases hr
theorem rowCmp_rd {agg:Bool} {ps:List PV} {hp:Hp} (h:RowOK agg ps):CRd G hp w (rowCmp agg ps) (vfOf agg ps):=by
 cases agg with
 | true =>
  refine⟨ps.map PV.toV,rfl,by simp,fun i a b ha hb=>?_⟩
  rw[List.getElem?_map,Option.map_eq_some_iff] at ha hb
  obtain⟨p,hp,rfl⟩:=ha
  obtain⟨p',hp',rfl⟩:=hb
  rw[hp] at hp'
  injection hp' with hp'
  subst hp'
  have hpl:=(h.1 p (List.mem_of_getElem? hp)).rd (F:=In G.χ 0) (w:=w)
  exact⟨hpl.one,by simp [Leaf.ids],hpl⟩
 | false =>
  have hl:=h.2 rfl
  cases ps with
  | nil=>simp at hl
  | cons p r =>
   have hpl:=(h.1 p List.mem_cons_self).rd (F:=In G.χ 0) (w:=w)
   exact⟨hpl.one,by simp [Leaf.ids],hpl⟩
theorem run_zero {t:TypeId} {agg:Bool} {z:List PV} (h:tyZero P t = some (agg,z)):(∀ w,(zeroValue t).run P w = .ok (vfOf agg z) w) ∧ RowOK agg z:=by
 unfold tyZero at h
 split at h
 ·rename_i i hi
  split at h
  ·rename_i v hz
   split at h
   ·rename_i c hs
    split at h
    ·rename_i agg' ps hcr
     split at h
     ·rename_i hfl
      simp only[Option.some.injEq,Prod.mk.injEq] at h
      obtain⟨rfl,rfl⟩:=h
      have hrd:=constSlot_rd (G:=⟨fun _=>0,fun _=>0,fun _=>.nilFunc⟩) (hp:=fun _=>none) (w:=default) v
      rw[hs] at hrd
      obtain⟨h1,h2⟩:=cmpRow_val hrd hcr (by simpa using hfl)
      exact⟨fun w=>by simp [zeroValue,typeInfo,hi,hz,h1],h2⟩
     ·cases h
    ·cases h
   ·cases h
  ·cases h
 ·cases h
theorem RowsS.flat {F F':Nat → Prop} {w w':World} {agg:Bool} {mv:List (ByteArray × Value)} {m:List (ByteArray × List PV)} (h:RowsS F w agg mv m) (hf:∀ y ∈ m,∀ p ∈ y.2,p.flat = true):RowsS F' w' agg mv m:=by
 refine⟨h.1,fun i x y hx hy=>?_⟩
 have h1:=h.2 i x y hx hy
 have h2:=hf y (List.mem_of_getElem? hy)
 cases agg with
 | true =>
  obtain⟨vs,h3,h4⟩:=h1
  refine⟨vs,h3,h4.1,fun j p v hp hv=>?_⟩
  obtain⟨rfl,h5⟩:=Rd.toV (h4.2 j p v hp hv) (h2 p (List.mem_of_getElem? hp))
  exact h5.rd
 | false =>
  obtain⟨p,h3,h4⟩:=h1
  obtain⟨h6,h5⟩:=Rd.toV h4 (h2 p (by rw[h3]; simp))
  rw[h6]
  exact⟨p,h3,h5.rd⟩
theorem RowsS.look {F:Nat → Prop} {agg:Bool} {mv:List (ByteArray × Value)} {m:List (ByteArray × List PV)} {z:List PV} {vz:Value} (h:RowsS F w agg mv m) (hz:RowV F w agg z vz) (x:ByteArray) :
  RowV F w agg ((lookM m x).getD z) (((lookM mv x).map id).getD vz) ∧ (lookM mv x).isSome = (lookM m x).isSome:=by
 unfold lookM
 rw[h.1]
 cases hp:pos (m.map (·.1)) x with
 | none=>exact⟨hz,rfl⟩
 | some i =>
  have hl:=pos_lt hp
  have hl2:i < mv.length:=by have:=congrArg List.length h.1; simp at this hl; omega
  have hl3:i < m.length:=by simpa using hl
  simp only[Option.bind_some,List.getElem?_eq_getElem hl2,List.getElem?_eq_getElem hl3,Option.map_some,Option.getD_some,Option.isSome_some,and_true]
  exact h.2 i _ _ (List.getElem?_eq_getElem hl2) (List.getElem?_eq_getElem hl3)
theorem RowsS.put {F:Nat → Prop} {agg:Bool} {mv:List (ByteArray × Value)} {m:List (ByteArray × List PV)} {ps:List PV} {v:Value} (h:RowsS F w agg mv m) (hv:RowV F w agg ps v) (x:ByteArray):RowsS F w agg (putM mv x v) (putM m x ps):=by
 have hlen:mv.length = m.length:=by have:=congrArg List.length h.1; simpa using this
 refine⟨by rw[putM_keys,putM_keys,h.1],fun i a b ha hb=>?_⟩
 unfold putM at ha hb
 rw[h.1] at ha
 cases hp:pos (m.map (·.1)) x with
 | none =>
  rw[hp] at ha hb
  dsimp only at ha hb
  by_cases hi:i < m.length
  ·rw[List.getElem?_append_left (by omega)] at ha
   rw[List.getElem?_append_left hi] at hb
   exact h.2 i a b ha hb
  ·rw[List.getElem?_append_right (by omega)] at ha
   rw[List.getElem?_append_right (by omega)] at hb
   rw[hlen] at ha
   cases hk:i - m.length with
   | zero=>rw[hk] at ha hb; simp at ha hb; subst ha hb; exact hv
   | succ k=>rw[hk] at ha; simp at ha
 | some j =>
  rw[hp] at ha hb
  dsimp only at ha hb
  rw[List.getElem?_set] at ha hb
  by_cases hj:j = i
  ·rw[if_pos hj] at ha hb
   split at ha
   ·split at hb
    ·simp at ha hb; subst ha hb; exact hv
    ·cases hb
   ·cases ha
  ·rw[if_neg hj] at ha hb
   exact h.2 i a b ha hb
theorem opLookup_ok {e:Eff} {t:TypeId} {ok:Bool} {x y:Operand} (r:RepG w0 χ0 T0 s a w G) (hd:∀ k,o.dst = some k → k < a.tmps.size) (ho:o.op = .lookup t x y ok) (h:opLookup P t ok [s.arg x,s.arg y] = some e) :
  o.wp P a w (After w0 χ0 T0 a.tmps.size (s.app o.dst e)) Q:=nomatch h
theorem opMapUpdate_ok {e:Eff} {t:TypeId} {x y z:Operand} (r:RepG w0 χ0 T0 s a w G) (hd:∀ k,o.dst = some k → k < a.tmps.size) (ho:o.op = .mapUpdate t x y z) (h:opMapUpdate P t [s.arg x,s.arg y,s.arg z] = some e) (hc:e.cond) :
  o.wp P a w (After w0 χ0 T0 a.tmps.size (s.app o.dst e)) Q:=nomatch h
theorem opMakeMap_ok {e:Eff} {t:TypeId} {rs:Option Operand} (r:RepG w0 χ0 T0 s a w G) (hd:∀ k,o.dst = some k → k < a.tmps.size) (ho:o.op = .makeMap t rs) (h:opMakeMap P t o.dst (isFree s.hp o.dst) (rs.toList.map s.arg) = some e) :
  o.wp P a w (After w0 χ0 T0 a.tmps.size (s.app o.dst e)) Q:=nomatch h
theorem run_bound {k:IntKind} {i:Int} {n:Nat} {code:BoundsCode} (h0:0 ≤ i) (hn:i ≤ n):(Instr.sliceBound (.int k i) n code).run P w = .ok i.toNat w:=by
 simp [Instr.sliceBound,asIntOf,h0,hn]
theorem bnds_run {isS:Bool} {n cap:Nat} {lo hi:Option Operand} {i j:Int} (r:RepG w0 χ0 T0 s a w G) (h:bnds lo.isSome hi.isSome n ((lo.toList ++ hi.toList).map s.arg) = some (i,j)) (h1:0 ≤ i) (h2:i ≤ j) (h3:j ≤ n) (hc:n ≤ cap) :
  (Instr.sliceBounds isS n cap (lo.map a.eval) (hi.map a.eval) none).run P w = .ok (i.toNat,j.toNat,cap) w:=by
 have ev:∀ (x:Operand) (k:IntKind) (m:Int) (hs:List (Option HObj)),s.arg x = (.c (.v (.p (.int k m))),hs) → a.eval x = .int k m:=fun x k m hs hx=>by
  have:=r.ev x
  rw[(St.arg_eq hx).1] at this
  exact (rd_int this).1
 cases lo with
 | none=>cases hi with
  | none =>
   simp [bnds] at h
   obtain⟨rfl,rfl⟩:=h
   simp [Instr.sliceBounds]
  | some y =>
   unfold bnds at h
   split at h <;> simp at *
   obtain⟨rfl,rfl⟩:=h
   rename_i heq
   have e:=ev y _ _ _ heq
   simp [Instr.sliceBounds,e,run_bound (P:=P) (w:=w) (show (0:Int) ≤ _ from by omega) (show _ ≤ (cap:Int) from by omega)]
 | some x=>cases hi with
  | none =>
   unfold bnds at h
   split at h <;> simp at *
   obtain⟨rfl,rfl⟩:=h
   rename_i heq
   have e:=ev x _ _ _ heq
   simp [Instr.sliceBounds,e,run_bound (P:=P) (w:=w) (show (0:Int) ≤ _ from by omega) (show _ ≤ (n:Int) from by omega)]
  | some y =>
   unfold bnds at h
   split at h <;> simp at *
   obtain⟨rfl,rfl⟩:=h
   rename_i heq
   have e1:=ev x _ _ _ heq.1
   have e2:=ev y _ _ _ heq.2
   have hj0:=Int.le_trans h1 h2
   have hjc:=Int.le_trans h3 (Int.ofNat_le.2 hc)
   have hij:=Int.le_trans h2 (Int.le_of_eq (Int.toNat_of_nonneg hj0).symm)
   simp [Instr.sliceBounds,e1,e2,run_bound (P:=P) (w:=w) hj0 hjc,run_bound (P:=P) (w:=w) h1 hij]
theorem opSlice_ok {e:Eff} {t:TypeId} {x:Operand} {lo hi:Option Operand} (r:RepG w0 χ0 T0 s a w G) (hd:∀ k,o.dst = some k → k < a.tmps.size) (ho:o.op = .slice t x lo hi none)
  (h:opSlice P t lo.isSome hi.isSome (s.arg x :: (lo.toList ++ hi.toList).map s.arg) = some e) (hc:e.cond):o.wp P a w (After w0 χ0 T0 a.tmps.size (s.app o.dst e)) Q:=by
 have hx:=r.ev x
 have run:∀ {el:TypeId} {z n c:Nat} {A:Option Addr} {i j:Int},tyElem P t = some (el,z) → a.eval x = .slice A n c → bnds lo.isSome hi.isSome n ((lo.toList ++ hi.toList).map s.arg) = some (i,j) → 0 ≤ i → i ≤ j → j ≤ n → n ≤ c →
   (execOp a.eval o).run P w = .ok (.value (svV A c i.toNat j.toNat z)) w:=by
  intro el z n c A i j h1 h2 h3 h4 h5 h6 h7
  have hE:=tyElem_of h1
  obtain⟨inf,zz,hi',_,hs,_⟩:=hE.ex
  simp only[execOp,ho,h2,Instr.sliceAt,Instr.slice,Sem.run_bind,run_underlying hE.ty,Result.andThen_ok,Option.map_none,bnds_run r h3 h4 h5 h6 h7,sizeOf,typeInfo,hi',Sem.run_pure]
  simp [hs,hi',svV]
 unfold opSlice at h
 split at h
 ·rename_i t' _ as heq
  simp only[List.cons.injEq] at heq
  obtain⟨heq,rfl⟩:=heq
  rw[(St.arg_eq heq).1] at hx
  split at h
  ·rename_i i j hu hb
   simp only[valIf,Option.some.injEq] at h
   subst h
   obtain⟨c1,c2,c3⟩:=hc
   obtain⟨hv,hsz⟩:=rd_str hx
   refine does_val r hd (v := .string (t'.extract i.toNat j.toNat)) ?_ (mk_str ?_)
   ·simp only[execOp,ho,hv,Instr.sliceAt,Instr.slice,Sem.run_bind,run_underlying hu,Result.andThen_ok,Option.map_none,Option.isSome_none,bnds_run r hb c1 c2 c3 (Nat.le_refl _)]
    simp [bnds_run r hb c1 c2 c3 (Nat.le_refl _)]
   ·simp only[ByteArray.size_extract]; omega
  ·cases h
 ·rename_i l _ as heq
  simp only[List.cons.injEq] at heq
  obtain⟨heq,rfl⟩:=heq
  rw[(St.arg_eq heq).1] at hx
  split at h
  ·rename_i el z i j hel hb
   simp only[valIf,Option.some.injEq] at h
   subst h
   obtain⟨c1,c2,c3,c4⟩:=hc
   obtain⟨A,c,z',hv,hs,hz'⟩:=(rd_p hx).to_sl
   have hzp:=(tyElem_of hel).pos
   refine does_val r hd (run hel hv hb c1 c2 c3 hs.cap) (mk_p ?_)
   by_cases h0:l = []
   ·subst h0
    have:i = 0:=by simp at c3; omega
    have:j = 0:=by simp at c3; omega
    subst_vars
    refine Rd.sl0 (fun hA=>?_) ?_
    ·have:A = none:=by
      revert hA
      split
      ·exact id
      ·cases A <;> simp
     have:=hs.nil this
     omega
    ·have:=hs.max
     omega
   ·obtain⟨y,hy⟩:=List.exists_mem_of_ne_nil l h0
    obtain⟨k,hk⟩:=List.mem_iff_getElem?.1 hy
    have hzz:z' = z:=(hz' k y hk).symm.trans (c4 y hy)
    subst hzz
    have h1:=(hs.take (k:=j.toNat) (by omega)).drop (k:=i.toNat) (by omega)
    exact Rd.of_sl h1 (.inl hzp)
  ·cases h
 ·rename_i as heq
  simp only[List.cons.injEq] at heq
  obtain⟨heq,rfl⟩:=heq
  rw[(St.arg_eq heq).1] at hx
  split at h
  ·rename_i ez i j hel hb
   obtain⟨el,z⟩:=ez
   simp only[valIf,Option.some.injEq] at h
   subst h
   obtain⟨rfl,rfl⟩:=hc
   have hv:=rd_nil hx
   have:=run hel hv hb (Int.le_refl _) (Int.le_refl _) (Int.le_refl _) (Nat.le_refl _)
   refine does_val r hd (v := .slice none 0 0) ?_ ⟨rfl,by simp [Leaf.ids],rfl⟩
   simpa [svV] using this
  ·cases h
 ·rename_i ob e' z' l as heq
  simp only[List.cons.injEq] at heq
  obtain⟨heq,rfl⟩:=heq
  obtain⟨h1,h2⟩:=St.arg_eq heq
  rw[h1] at hx
  have hob:s.hp ob = some (.arr e' z' l):=by simpa [Slot.ids,Cmp.ids,Cmp.leaves,Leaf.ids] using h2
  have hval:a.eval x = G.hv ob:=LRd.val hx
  obtain⟨hown,hbl⟩:=r.objs ob _ hob
  obtain⟨A,c,hv,hlc,hcm⟩:=hown.form
  split at h
  ·rename_i el z i j hel hb
   split at h
   ·rename_i hzz
    subst hzz
    simp only[valIf,Option.some.injEq] at h
    subst h
    obtain⟨c1,c2,c3⟩:=hc
    refine does_val r hd (run hel (hval.trans hv) hb c1 c2 c3 hlc) ⟨rfl,fun i hi=>?_,⟨A,_,c,hv,by omega,Int.toNat_le.2 c3,hlc,rfl⟩⟩
    simp [Leaf.ids] at hi
    subst hi
    rw[hob]; simp
   ·cases h
  ·cases h
 ·cases h
theorem opE_ok {e:Eff} (r:RepG w0 χ0 T0 s a w G) (hd:∀ k,o.dst = some k → k < a.tmps.size) (h:opE P o.op o.dst (isFree s.hp o.dst) ((Op.opds o.op).map s.arg) = some e) (hc:e.cond) :
  o.wp P a w (After w0 χ0 T0 a.tmps.size (s.app o.dst e)) Q:=by
 have hm:((Op.opds o.op).map s.arg).map (·.1) = (Op.opds o.op).map s.ev:=by rw[List.map_map]; rfl
 unfold opE at h
 rw[hm] at h
 split at h <;> rename_i hop
 ·rw[hop] at h; exact opMove_ok r hd (.inl hop) h
 ·rw[hop] at h; exact opMove_ok r hd (.inr hop) h
 ·rw[hop] at h; exact opPick_ok r hd hop h
 ·rw[hop] at h; exact opAlloc_ok r hd hop h
 ·rw[hop] at h; exact opLoad_ok r hd hop h hc
 ·rw[hop] at h; exact opStore_ok r hd hop h hc
 ·rw[hop] at h; exact opNil_ok r hd hop h
 ·rw[hop] at h; exact opFieldAddr_ok r hd hop h
 ·rw[hop] at h; exact opField_ok r hd hop h
 ·rw[hop] at h; exact opIndexAddr_ok r hd hop h hc
 ·rw[hop] at h; exact opIndex_ok r hd hop h hc
 ·rw[hop] at h; exact opBin_ok r hd hop h hc
 ·rw[hop] at h; exact opUn_ok r hd hop h hc
 ·rw[hop] at h; exact opExtract_ok r hd hop h
 ·rw[hop] at h; exact opBuild_ok r hd hop h
 ·rw[hop] at h; exact opBuildSlice_ok r hd hop h
 ·rw[hop] at h; exact opConv_ok r hd hop h
 ·rw[hop] at h; exact opSlice_ok r hd hop (by simpa [Op.opds] using h) hc
 ·rw[hop] at h; exact opMakeMap_ok r hd hop h
 ·rw[hop] at h; exact opLookup_ok r hd hop h
 ·rw[hop] at h; exact opMapUpdate_ok r hd hop h hc
 ·rename_i args ts
  rw[hop] at h
  split at h
  ·rename_i t hts
   have ht:ts = #[t]:=by rw[← Array.toArray_toList (xs:=ts),hts]
   have hx:∃ x,args.toList = [x]:=by
    simp only[Op.opds,List.nil_append] at h
    cases ha:args.toList with
    | nil=>rw[ha] at h; simp [opLen] at h
    | cons x l =>
     cases l with
     | nil=>exact⟨x,rfl⟩
     | cons y l=>rw[ha] at h; simp [opLen] at h
   obtain⟨x,hx⟩:=hx
   have ha:args = #[x]:=by rw[← Array.toArray_toList (xs:=args),hx]
   subst ht ha
   exact opLen_ok r hd hop rfl h hc
  ·cases h
 ·rename_i args ts
  rw[hop] at h
  split at h
  ·rename_i t t' hts
   split at h
   ·rename_i htt
    subst htt
    have ht:ts = #[t,t]:=by rw[← Array.toArray_toList (xs:=ts),hts]
    have hx:∃ x y,args.toList = [x,y]:=by
     simp only[Op.opds,List.nil_append] at h
     cases ha:args.toList with
     | nil=>rw[ha] at h; simp [opAppend] at h
     | cons x l =>
      cases l with
      | nil=>rw[ha] at h; simp [opAppend] at h
      | cons y l =>
       cases l with
       | nil=>exact⟨x,y,rfl⟩
       | cons z l=>rw[ha] at h; simp [opAppend] at h
    obtain⟨x,y,hx⟩:=hx
    have ha:args = #[x,y]:=by rw[← Array.toArray_toList (xs:=args),hx]
    subst ht ha
    exact opAppend_ok r hd hop rfl h hc
   ·cases h
  ·cases h
 ·cases h
end
end Go.Lad
