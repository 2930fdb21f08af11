import Derived.Test.YtaocfjifacnokaaGreatAb10e
import Derived.Lib.SliceRun
import Derived.Lib.AppendZeros
namespace Go.Lad
set_option linter.unusedVariables false
set_option linter.unusedSimpArgs false
open Go.RowKit
def yp (P:Program) (t:TypeId):List Arg → Option Eff:=fun _=>none
def tv (P:Program) (t:TypeId):List Slot → Option Eff:=fun _=>none
def yq (P:Program) (t:TypeId):List Arg → Option Eff:=fun _=>none
def tw (P:Program) (t:TypeId):List Arg → Option Eff:=fun _=>none
def kI (P:Program) (t:TypeId) (dst:Option Nat) (free:Bool):List Arg → Option Eff
 | [(.c (.v (.tl l)),_),y]=>match dW P t,ik y,dst with
  | some (e,z),some m,some d=>if free then some ⟨l.length + m.length ≤ 2147483647 ∧ l ≠ [] ∧ m ≠ [] ∧ (∀ x ∈ l,x.length = z) ∧ ∀ x ∈ m,x.length = z,.x (.own d),[(d,.arr e z (l ++ m))]⟩ else none
  | _,_,_=>none
 | _=>none
def nc:List Slot → Option (List aJ)
 | []=>some []
 | .c (.v x) :: r=>match nc r with | some l=>some (x :: l) | none=>none
 | _=>none
def eM (P:Program) (t:TypeId) (len:Nat) (is:List Nat) (dst:Option Nat) (free:Bool) (args:List Slot):Option Eff :=
 match dW P t,dst with
 | some (e,z),some d=>if is = List.range len ∧ free = true ∧ len ≤ 100 ∧ z = 1 then match nc args with | some cs=>some ⟨True,.x (.own d),[(d,.lit e cs)]⟩ | none=>none else none
 | _,_=>none
def rN (P:Program) (t t':TypeId) (dst:Option Nat) (free:Bool):List Arg → Option Eff:=fun _=>none
def Di (P:Program) (t:TypeId):List Slot → Option Eff:=fun _=>none
def opV (P:Program) (op:Op) (dst:Option Nat) (free:Bool) (args:List Arg):Option Eff :=
 match op with
 | .indexAddr t _ _=>yp P t args
 | .lookup t _ _ false=>tv P t (args.map (·.1))
 | .mapUpdate t _ _ _=>yq P t args
 | .call { callee := .builtin .clear,argTypes:=ts,.. }=>match ts.toList with | [t]=>tw P t args | _=>none
 | .mapEntry t _ _=>uC P t dst free args
 | .entryStore t _ _ _=>qt P t args
 | .call { callee := .builtin .copy,argTypes:=ts,.. }=>match ts.toList with | [t,u]=>uD P t u args | _=>none
 | .call { callee := .builtin .append,argTypes:=ts,.. }=>match ts.toList with | [t,t']=>if t = t' then kI P t dst free args else rN P t t' dst free args | _=>none
 | .call { callee := .builtin .cap,argTypes:=ts,.. }=>match ts.toList with | [t]=>Di P t (args.map (·.1)) | _=>none
 | .buildSlice t n ps=>eM P t n (ps.toList.map (·.1)) dst free (args.map (·.1))
 | _=>none
def opY (P:Program) (op:Op) (dst:Option Nat) (free:Bool) (args:List Arg):Option Eff :=
 match op with
 | .indexAddr _ _ _ | .lookup _ _ _ _ | .mapUpdate _ _ _ _ | .call { callee := .builtin .clear,.. } | .call { callee := .builtin .append,.. } | .call { callee := .builtin .cap,.. }=>opV P op dst free args
 | .mapEntry _ _ _ | .entryStore _ _ _ _ | .call { callee := .builtin .copy,.. }=>opV P op dst free args
 | .buildSlice _ _ _=>opV P op dst free args
 | _=>gG P op dst free args
def Gb (P:Program) (t:TypeId) (dst:Option Nat) (free:Bool):List Arg → Option Eff:=fun _=>none
def Gc (P:Program) (t:TypeId) (hl hh:Bool) (dst:Option Nat) (free:Bool):List Arg → Option Eff:=fun _=>none
def J3 (P:Program) (t:TypeId) (dst:Option Nat) (free:Bool):List Arg → Option Eff:=fun _=>none
def Dj (P:Program) (t:TypeId) (dst:Option Nat) (free:Bool):List Arg → Option Eff:=fun _=>none
def mi (P:Program) (t:TypeId):List Arg → Option Eff
 | [(.c (.v (.own o)),[some (.arr e z l)]),y]=>match dW P t,ik y with
  | some (e',z'),some m=>if e = e' ∧ z = z' then some ⟨l.length + m.length ≤ 2147483647 ∧ ∀ x ∈ m,x.length = z,.x (.p (.sl (l ++ m))),[(o,.gone)]⟩ else none
  | _,_=>none
 | _=>none
def BY (P:Program) (op:BinOp) (t:TypeId):List Arg → Option Eff:=fun _=>none
def dU:Op → Bool
 | .binOp .eql _ _ _ _=>true
 | .binOp .neq _ _ _ _=>true
 | .call { callee := .builtin .append,.. }=>true
 | .lookup _ _ _ false=>true
 | .slice _ _ _ _ none=>true
 | .alloc _=>true
 | .makeMap _ none=>true
 | .convert _ _ _=>true
 | _=>false
def zV (P:Program) (op:Op) (dst:Option Nat) (free:Bool) (args:List Arg):Option Eff :=
 match op with
 | .binOp b t _ _ _=>BY P b t args
 | .lookup t _ _ false=>Gb P t dst free args
 | .slice t _ l h none=>Gc P t l.isSome h.isSome dst free args
 | .alloc t=>J3 P t dst free args
 | .makeMap t none=>Dj P t dst free args
 | .convert src dt _=>LK P src dt dst free args
 | .call { callee := .builtin .append,argTypes:=ts,.. }=>match ts.toList with | [t,t']=>if t = t' then mi P t args else none | _=>none
 | _=>none
section
variable {P:Program} {w0:World} {χ0:Col} {T0:Ctx} {s:St} {a:Act} {w:World} {G:Gh} {o:Oper} {Q:Exit → Act → World → Prop}
theorem Ew {e:Eff} {t:TypeId} {x y:Operand} (r:cV w0 χ0 T0 s a w G) (hd:∀ k,o.dst = some k → k < a.tmps.size) (ho:o.op = .indexAddr t x y) (h:yp P t [s.arg x,s.arg y] = some e) (hc:e.cond) :
  o.wp P a w (bX w0 χ0 T0 a.tmps.size (s.app o.dst e)) Q:=nomatch h
theorem BZ {e:Eff} {t:TypeId} {x y:Operand} (r:cV w0 χ0 T0 s a w G) (hd:∀ k,o.dst = some k → k < a.tmps.size) (ho:o.op = .lookup t x y false) (h:tv P t [s.ev x,s.ev y] = some e) :
  o.wp P a w (bX w0 χ0 T0 a.tmps.size (s.app o.dst e)) Q:=nomatch h
theorem Dk {w':World} {v:Value} {y:aJ} {c:Prop} {G':Gh} {T:List Nat} {wr:List (Nat × dv)} (r:cV w0 χ0 T0 s a w G) (hd:∀ k,o.dst = some k → k < a.tmps.size)
  (hrun:(execOp a.eval o).run P w = .ok (.value v) w') (he:Ext G s.hp w G' (eA s.hp wr) w') (st:Chg T G.χ w G'.χ w') (hT:∀ k ∈ T,2 ≤ k) (hn:Norm G'.χ w')
  (ho:∀ i h,eA s.hp wr i = some h → (s.hp i = some h ∧ i + 2 ∉ T) ∨ HRd G' (eA s.hp wr) w' i h) (hy:LRd G' (eA s.hp wr) w' y v):o.wp P a w (bX w0 χ0 T0 a.tmps.size (s.app o.dst ⟨c,.x y,wr⟩)) Q:=by
 unfold Oper.wp
 rw[hrun]
 exact⟨Act.ja _ _ _,G',r.upd hd he st hT hn ho hy⟩
theorem Ex {e:Eff} {t:TypeId} {x:Operand} {lo hi:Option Operand} (r:cV w0 χ0 T0 s a w G) (hd:∀ k,o.dst = some k → k < a.tmps.size) (ho:o.op = .slice t x lo hi none)
  (h:Gc P t lo.isSome hi.isSome o.dst (bN s.hp o.dst) (s.arg x :: (lo.toList ++ hi.toList).map s.arg) = some e) (hc:e.cond):o.wp P a w (bX w0 χ0 T0 a.tmps.size (s.app o.dst e)) Q:=nomatch h
theorem Ey {e:Eff} {t:TypeId} {x y:Operand} (r:cV w0 χ0 T0 s a w G) (hd:∀ k,o.dst = some k → k < a.tmps.size) (ho:o.op = .lookup t x y false) (h:Gb P t o.dst (bN s.hp o.dst) [s.arg x,s.arg y] = some e) :
  o.wp P a w (bX w0 χ0 T0 a.tmps.size (s.app o.dst e)) Q:=nomatch h
theorem Gd {e:Eff} {t:TypeId} (r:cV w0 χ0 T0 s a w G) (hd:∀ k,o.dst = some k → k < a.tmps.size) (ho:o.op = .alloc t) (h:J3 P t o.dst (bN s.hp o.dst) [] = some e) :
  o.wp P a w (bX w0 χ0 T0 a.tmps.size (s.app o.dst e)) Q:=nomatch h
theorem B0 {e:Eff} {t:TypeId} (r:cV w0 χ0 T0 s a w G) (hd:∀ k,o.dst = some k → k < a.tmps.size) (ho:o.op = .makeMap t none) (h:Dj P t o.dst (bN s.hp o.dst) [] = some e) :
  o.wp P a w (bX w0 χ0 T0 a.tmps.size (s.app o.dst e)) Q:=nomatch h
theorem Ez {e:Eff} {t:TypeId} {x y:Operand} {c:Call} (r:cV w0 χ0 T0 s a w G) (hd:∀ k,o.dst = some k → k < a.tmps.size) (ho:o.op = .call c) (hcc:c = { callee := .builtin .append,args := #[x,y],argTypes := #[t,t] })
  (h:mi P t [s.arg x,s.arg y] = some e) (hc:e.cond):o.wp P a w (bX w0 χ0 T0 a.tmps.size (s.app o.dst e)) Q:=by
 have hx:=r.ev x
 unfold mi at h
 split at h
 ·rename_i ob el z l y' heq
  simp only[List.cons.injEq,and_true] at heq
  obtain⟨h1,h2⟩:=St.di heq.1
  rw[h1] at hx
  have hob:s.hp ob = some (.arr el z l):=by simpa [Slot.ids,Cmp.ids,Cmp.leaves,aJ.ids] using h2
  have hval:a.eval x = G.hv ob:=LRd.val hx
  split at h
  ·rename_i e' z' m hel hm
   split at h
   ·rename_i hcond
    obtain⟨rfl,rfl⟩:=hcond
    simp only[Option.some.injEq] at h
    subst h
    obtain⟨c1,c2⟩:=hc
    have hown:Own (α:=CZ z) (ob + 2) G.χ el w (a.eval x) l:=by rw[hval]; exact (r.gn ob _ hob).1
    have hsrc:=lq r heq.2 hm c2
    obtain⟨v',w',χ',hrun,h1,h2,h3,h4⟩:=zE (kd:=ob + 2) (ty:=o.type) (fX hel) hown hsrc (by omega) (by omega) c1 r.norm
    subst hcc
    have hrun':(execOp a.eval o).run P w = .ok (.value v') w':=by
     simp only[execOp,ho,resolve,invoke,builtin,Sem.run_bind,Sem.run_pure,Result.andThen_ok,List.map_toArray,List.map_cons,List.map_nil,hrun]
    let χ2:Col:=fun b=>if χ' b = ob + 2 then 0 else χ' b
    let G':Gh:={ χ:=χ2,bl:=G.bl,hv:=G.hv }
    have hz0:∀ b,χ' b = 0 → χ2 b = 0:=fun b hb=>by
     show (if χ' b = ob + 2 then 0 else χ' b) = 0
     rw[hb]; split <;> rfl
    have hown2:Own (α:=CZ z) 0 χ2 el w' v' (l ++ m):=h1.od (fun g _ _ hk=>if_pos hk) (.inl fun b _ hb=>hz0 b hb)
    have hrd:Rd (In χ2 0) w' (.sl (l ++ m)) v':=Rd.frame (fun b hb _=>⟨hb.elim id id,rfl⟩) (BT hown2)
    have hone:v'.oneCell' = true:=by
     obtain⟨B,cc,hv,_⟩:=h1.form
     rw[hv]; rfl
    have ht:∀ i,s.hp i ≠ none → eA s.hp [(ob,.gone)] i ≠ none:=fun i hi=>by
     show Lad.upd s.hp ob _ i ≠ none
     by_cases hio:i = ob
     ·rw[hio,cS]; simp
     ·rw[gp _ _ hio]; exact hi
    refine Dk (T:=[ob + 2]) (G':=G') (w':=w') r hd hrun' ⟨fun b hb hl=>⟨hz0 b (h4 b hb hl).1,(h4 b hb hl).2⟩,fun _ _=>rfl,fun _ _=>rfl,ht⟩
     ⟨h2.os,h2.tape,h2.output,h2.size,fun b hl hb=>?_,h2.block⟩ (by simp) (fun b hb=>hz0 b (h3 b hb)) (fun i h hi=>?_) ⟨hone,fun j hj=>by simp [aJ.ids] at hj,hrd⟩
    ·have h5:=h2.col b hl hb
     show (if χ' b = ob + 2 then 0 else χ' b) = _
     rw[if_neg (by rw[h5]; simpa using hb)]; exact h5
    ·have hi:Lad.upd s.hp ob (some .gone) i = some h:=hi
     by_cases hio:i = ob
     ·subst hio
      rw[cS] at hi
      injection hi with hi
      subst hi
      exact .inr trivial
     ·rw[gp _ _ hio] at hi
      exact .inl ⟨hi,by simp; omega⟩
   ·cases h
  ·cases h
 ·cases h
theorem EA {e:Eff} {b:BinOp} {t t':TypeId} {x y:Operand} (r:cV w0 χ0 T0 s a w G) (hd:∀ k,o.dst = some k → k < a.tmps.size) (ho:o.op = .binOp b t x y t') (h:BY P b t [s.arg x,s.arg y] = some e) :
  o.wp P a w (bX w0 χ0 T0 a.tmps.size (s.app o.dst e)) Q:=nomatch h
theorem IL {e:Eff} (r:cV w0 χ0 T0 s a w G) (hd:∀ k,o.dst = some k → k < a.tmps.size) (h:zV P o.op o.dst (bN s.hp o.dst) ((Op.cK o.op).map s.arg) = some e) (hc:e.cond):o.wp P a w (bX w0 χ0 T0 a.tmps.size (s.app o.dst e)) Q:=by
 unfold zV at h
 split at h <;> rename_i hop
 ·rw[hop] at h; exact EA r hd hop (by simpa [Op.cK] using h)
 ·rw[hop] at h; exact Ey r hd hop (by simpa [Op.cK] using h)
 ·rw[hop] at h; exact Ex r hd hop (by simpa [Op.cK] using h) hc
 ·rw[hop] at h; exact Gd r hd hop (by simpa [Op.cK] using h)
 ·rw[hop] at h; exact B0 r hd hop (by simpa [Op.cK] using h)
 ·rw[hop] at h; exact IK r hd hop (by simpa [Op.cK] using h)
 ·rename_i as ts
  split at h
  ·rename_i t t' hts
   split at h
   ·rename_i htt
    subst htt
    rw[hop] at h
    have hts':ts = #[t,t]:=by rw[← Array.toArray_toList (xs:=ts),hts]
    simp only[Op.cK,List.nil_append] at h
    cases hl:as.toList with
    | nil=>rw[hl] at h; simp [mi] at h
    | cons x rest=>cases rest with
     | nil=>rw[hl] at h; simp [mi] at h
     | cons y rest=>cases rest with
      | nil =>
       rw[hl] at h
       refine Ez (x:=x) (y:=y) (t:=t) r hd hop ?_ (by simpa using h) hc
       rw[hts',← Array.toArray_toList (xs:=as),hl]
      | cons z rest=>rw[hl] at h; simp [mi] at h
   ·cases h
  ·cases h
 ·cases h
theorem EB {e:Eff} {t:TypeId} {x y z:Operand} (r:cV w0 χ0 T0 s a w G) (hd:∀ k,o.dst = some k → k < a.tmps.size) (ho:o.op = .mapUpdate t x y z) (h:yq P t [s.arg x,s.arg y,s.arg z] = some e) (hc:e.cond) :
  o.wp P a w (bX w0 χ0 T0 a.tmps.size (s.app o.dst e)) Q:=nomatch h
theorem B1 {e:Eff} {t:TypeId} {x:Operand} {c:Call} (r:cV w0 χ0 T0 s a w G) (hd:∀ k,o.dst = some k → k < a.tmps.size) (ho:o.op = .call c) (hcc:c = { callee := .builtin .clear,args := #[x],argTypes := #[t] })
  (h:tw P t [s.arg x] = some e) (hc:e.cond):o.wp P a w (bX w0 χ0 T0 a.tmps.size (s.app o.dst e)) Q:=nomatch h
theorem IM {z k:Nat} {χ:Col} {e:TypeId} {w':World} {v':Value} {l m:List (List PV)} {xs news:List Value} (h1:jM w' e z v' (l.length + m.length) (xs ++ news)) (hxl:xs.length = l.length * z)
  (hx:∀ (i:Nat) x,l[i]? = some x → aL.rd (α:=CZ z) (In χ 0) w' (chunk z i xs) x) (hn:∀ (i:Nat) x,m[i]? = some x → aL.rd (α:=CZ z) (In χ 0) w' (chunk z i news) x) (hcol:∀ g,v'.ownBlock = some g → χ g = k):Own (α:=CZ z) k χ e w' v' (l ++ m):=by
 refine⟨⟨xs ++ news,(by rw[List.length_append]; exact h1:jM w' e z v' (List.length (α:=List PV) (l ++ m)) (xs ++ news)),fun j x hj=>?_⟩,hcol⟩
 have hj0:(l ++ m)[j]? = some (show List PV from x):=hj
 rcases Nat.lt_or_ge j l.length with hjl | hjl
 ·have hj':l[j]? = some (show List PV from x):=by rw[← List.getElem?_append_left (l₂:=m) hjl]; exact hj0
  have e1:chunk z j (xs ++ news) = chunk z j xs:=by
   unfold chunk
   have:j * z + z ≤ xs.length:=by
    rw[hxl,← Nat.succ_mul]; exact Nat.mul_le_mul_right _ hjl
   rw[List.drop_append_of_le_length (by omega),List.take_append_of_le_length (by rw[List.length_drop]; omega)]
  rw[show aL.sz (CZ z) = z from rfl,e1]; exact hx j _ hj'
 ·have hj':m[j - l.length]? = some (show List PV from x):=by rw[← List.getElem?_append_right (l₁:=l) hjl]; exact hj0
  have e1:chunk z j (xs ++ news) = chunk z (j - l.length) news:=by
   unfold chunk
   have:j * z = xs.length + (j - l.length) * z:=by
    rw[hxl,← Nat.add_mul]; congr 1; omega
   rw[this,List.drop_append,Nat.add_sub_cancel_left,List.drop_of_length_le (Nat.le_add_right _ _),List.nil_append]
  rw[show aL.sz (CZ z) = z from rfl,e1]
  exact hn _ _ hj'
theorem EC {e:Eff} {t:TypeId} {x y:Operand} {c:Call} (r:cV w0 χ0 T0 s a w G) (hd:∀ k,o.dst = some k → k < a.tmps.size) (ho:o.op = .call c) (hcc:c = { callee := .builtin .append,args := #[x,y],argTypes := #[t,t] })
  (h:kI P t o.dst (bN s.hp o.dst) [s.arg x,s.arg y] = some e) (hc:e.cond):o.wp P a w (bX w0 χ0 T0 a.tmps.size (s.app o.dst e)) Q:=by
 subst hcc
 have hx:=r.ev x
 unfold kI at h
 split at h
 ·rename_i l _ y' heq
  simp only[List.cons.injEq,and_true] at heq
  rw[(St.di heq.1).1] at hx
  split at h
  ·rename_i el z m d hel hm hdst
   split at h
   ·rename_i hfree
    simp only[Option.some.injEq] at h
    subst h
    obtain⟨c1,c2,c3,c4,c5⟩:=hc
    rw[hdst] at hfree
    have hf:s.hp d = none ∧ d < 1000000:=by simpa [bN] using hfree
    have hsrc:=lq r heq.2 hm c5
    obtain⟨hrd,htight⟩:Rd (In G.χ 0) w (.sl l) (a.eval x) ∧ _:=LRd.val hx
    obtain⟨A,cp,xs,hv,n1,n2,n3,n4,n5⟩:=BM hrd (fun _ h=>h) c4
    have hcp:=htight _ _ _ hv
    subst hcp
    obtain⟨B,cb,news,hvy,m1,m2,m3,m4,m5⟩:=hsrc
    cases A with
    | none=>exact absurd (n4 rfl) c2
    | some ad =>
    cases B with
    | none=>exact absurd (m4 rfl) c3
    | some bd =>
    have hE:=fX hel
    obtain⟨i1,zv,hi1,hzv,hsz,hby,hzs⟩:=hE.ex
    have hml:0 < m.length:=List.length_pos_iff.2 c3
    have hr:=run_append_grow (P:=P) w t o.type el i1 zv hE.ty hi1 hzv ad l.length l.length xs (by rw[hsz]; exact n1) (n5 ad rfl) bd m.length cb news (by rw[hsz]; exact m1) (m5 bd rfl) (by omega) (by omega) (growslice_fits (by omega) (Nat.le_trans (Nat.mul_le_mul c1 hby) (by omega)))
    have hge:=grownCap_ge w (l.length + m.length) l.length el
    have hcm':grownCap w (l.length + m.length) l.length el ≤ maxLen:=grownCap_le_maxLen w (l.length + m.length) l.length el (by simp only[maxLen]; omega)
    generalize grownCap w (l.length + m.length) l.length el = q at hr hge hcm'
    let X:Obj := .cells (xs.toArray ++ news.toArray ++ Builtin.zeroCells zv.cells (q - (l.length + m.length))) el
    have hrun:(execOp a.eval o).run P w = .ok (.value (.slice (some ⟨w.heap.size,0,none⟩) (l.length + m.length) q)) (w.drew.alloc X):=by
     simp only[execOp,ho,resolve,invoke,builtin,Sem.run_bind,Sem.run_pure,Result.andThen_ok,List.map_toArray,List.map_cons,List.map_nil,hv,hvy,hr]
     rfl
    have hblk:∀ b,b < w.heap.size → (w.drew.alloc X).heap[b]? = w.heap[b]? := fun b hb=>heap_alloc_old w.drew X hb
    let hw:Value := .slice (some ⟨w.heap.size,0,none⟩) (l.length + m.length) q
    let G':=G.add d w.heap.size hw
    have hfr:∀ b,In G.χ 0 b → b < w.heap.size → In G'.χ 0 b ∧ (w.drew.alloc X).heap[b]? = w.heap[b]? := fun b hb hl=>⟨by
     show (if b = w.heap.size then d + 2 else G.χ b) = 0
     rw[if_neg (by omega)]; exact hb,hblk b hl⟩
    have hlen:(xs ++ news).length = (l.length + m.length) * z:=by rw[List.length_append,n1,m1,Nat.add_mul]
    have hnew:Own (α:=CZ z) (d + 2) G'.χ el (w.drew.alloc X) hw (l ++ m):=by
     refine IM (xs:=xs) (news:=news) ⟨hlen,.inr ⟨w.heap.size,q,_,0,rfl,Nat.zero_le _,.of (heap_alloc_new w.drew _),hge,hcm',?_,?_⟩⟩ n1 (fun i x hx=>aL.frame hfr (n3 i x hx)) (fun i x hx=>aL.frame hfr (m3 i x hx)) (fun g hg=>?_)
     ·have h9:(l.length + m.length) * z + (q - (l.length + m.length)) * z = q * z:=by rw[← Nat.add_mul]; congr 1; omega
      simp only[Array.size_append,List.size_toArray,size_zeroCells,hzs,n1,m1]
      rw[Nat.zero_add,← Nat.add_mul]
      exact Nat.le_of_eq h9.symm
     ·rw[List.drop_zero]
      simp only[Array.toList_append,List.append_assoc]
      rw[← List.append_assoc,← hlen]
      exact List.take_left
     ·simp [hw,Value.ownBlock] at hg
      subst hg
      show (if w.heap.size = w.heap.size then d + 2 else _) = d + 2
      rw[if_pos rfl]
    refine Dk (T:=[]) (G':=G') (w':=w.drew.alloc X) r hd hrun ⟨hfr,fun i hi=>gp _ _ (fun e=>hi.elim (fun hi=>hi (by rw[e]; exact hf.1)) fun hi=>by omega),fun i hi=>gp _ _ (fun e=>hi.elim (fun hi=>hi (by rw[e]; exact hf.1)) fun hi=>by omega),mX _ _⟩
     ⟨rfl,rfl,rfl,by simp,fun b hl _=>if_neg (by omega),fun b hl _=>hblk b hl⟩ (by simp) (fun b hb=>?_) (fun i h hi=>?_) ⟨rfl,fun j hj=>?_,?_⟩
    ·have hb':w.heap.size + 1 ≤ b:=by simpa using hb
     show (if b = w.heap.size then d + 2 else G.χ b) = 0
     rw[if_neg (by omega)]; exact r.norm b (by omega)
    ·have hi:Lad.upd s.hp d (some (.arr el z (l ++ m))) i = some h:=hi
     by_cases hid:i = d
     ·subst hid
      rw[cS] at hi
      injection hi with hi
      subst hi
      refine .inr ⟨?_,fun b hb=>?_⟩
      ·show Own (α:=CZ z) (i + 2) _ el _ (Lad.upd G.hv i hw i) (l ++ m)
       rw[cS]; exact hnew
      ·change (Lad.upd G.hv i hw i).ownBlock = some b at hb
       rw[cS] at hb
       simp [hw,Value.ownBlock] at hb
       show b = Lad.upd G.bl i w.heap.size i
       rw[cS]; exact hb.symm
     ·rw[gp _ _ hid] at hi
      exact .inl ⟨hi,by simp⟩
    ·simp [aJ.ids] at hj
     subst hj
     show Lad.upd s.hp j _ j ≠ none
     rw[cS]; simp
    ·exact (cS G.hv d hw).symm
   ·cases h
  ·cases h
 ·cases h
theorem zW:∀ (xs:List Operand) (cs:List aJ),cV w0 χ0 T0 s a w G → nc (xs.map s.ev) = some cs → dV (LRd G s.hp w) cs ((xs.map a.eval).flatMap fun v=>v.cells.toList) ∧ cs.length = xs.length ∧ ∀ v ∈ xs.map a.eval,v.cells.size = 1
 | [],cs,r,h=>by
  simp only[List.map_nil,nc,Option.some.injEq] at h
  subst h
  exact⟨⟨rfl,by simp⟩,rfl,by simp⟩
 | x :: xs,cs,r,h=>by
  have hx:=r.ev x
  rw[List.map_cons] at h
  unfold nc at h
  split at h
  ·rename_i heq; cases heq
  ·rename_i l rest heq
   simp only[List.cons.injEq] at heq
   obtain⟨e1,rfl⟩:=heq
   rw[e1] at hx
   split at h
   ·rename_i l' hl'
    simp only[Option.some.injEq] at h
    subst h
    obtain⟨i1,i2,i3⟩:=zW xs l' r hl'
    have hc:dV (LRd G s.hp w) [l] (a.eval x).cells.toList:=CRd.cells (show CRd G s.hp w (.v l) (a.eval x) from hx)
    have hsz:(a.eval x).cells.size = 1:=by have:=hc.1; simpa using this.symm
    refine⟨?_,by simp [i2],fun v hv=>?_⟩
    ·rw[List.map_cons,List.flatMap_cons]
     exact hc.append i1
    ·rw[List.map_cons] at hv
     rcases List.mem_cons.1 hv with rfl | hv
     ·exact hsz
     ·exact i3 v hv
   ·cases h
  ·cases h
theorem wG {e:Eff} {t:TypeId} {n:Nat} {ps:Array (Nat × Operand)} (r:cV w0 χ0 T0 s a w G) (hd:∀ k,o.dst = some k → k < a.tmps.size) (ho:o.op = .buildSlice t n ps)
  (h:eM P t n (ps.toList.map (·.1)) o.dst (bN s.hp o.dst) ((ps.toList.map (·.2)).map s.ev) = some e):o.wp P a w (bX w0 χ0 T0 a.tmps.size (s.app o.dst e)) Q:=by
 cases hdst:o.dst with
 | none=>simp [eM,hdst] at h
 | some d =>
 cases hel:dW P t with
 | none=>simp [eM,hel] at h
 | some ez =>
 obtain⟨el,z⟩:=ez
 simp only[eM,hdst,hel] at h
 split at h
 ·rename_i hc
  obtain⟨h1,h2,h3,rfl⟩:=hc
  split at h
  ·rename_i cs hl
   simp only[Option.some.injEq] at h
   subst h
   have hf':s.hp d = none ∧ d < 1000000:=by simpa [bN] using h2
   obtain⟨hrd,hlen,hvz⟩:=zW _ cs r hl
   have hE:=fX hel
   obtain⟨i,zv,hi,hz,hsz,hby,hzs⟩:=hE.ex
   have hn:cs.length = n:=by
    have:=congrArg List.length h1
    rw[hlen]; simpa using this
   have hrun:(execOp a.eval o).run P w = .ok (.value (.slice (some ⟨w.heap.size,0,none⟩) cs.length cs.length)) (w.alloc (.cells (((ps.toList.map (·.2)).map a.eval).flatMap fun v=>v.cells.toList).toArray el)):=by
    have hlv:((ps.toList.map (·.2)).map a.eval).length = n:=by rw[List.length_map,← hlen]; exact hn
    have e1:(ps.map fun (i,x)=>(i,a.eval x)).toList = (((ps.toList.map (·.2)).map a.eval).zipIdx 0).map fun x=>(x.2,x.1):=by
     rw[← rJ,hlv,← h1,Array.toList_map,List.map_map,List.zip_map']; rfl
    rw[hn]
    generalize (ps.toList.map (·.2)).map a.eval = vs at *
    have hbs:(Instr.buildSlice t n (ps.map fun (i,x)=>(i,a.eval x))).run P w = .ok (.slice (some ⟨w.heap.size,0,none⟩) n n) (w.alloc (.cells (vs.flatMap fun v=>v.cells.toList).toArray el)):=by
     by_cases hn0:n = 0
     ·have hvs:vs = []:=List.eq_nil_of_length_eq_zero (by rw[hlv,hn0])
      subst hvs
      subst hn0
      have hps:ps = #[]:=by
       have:=congrArg List.length h1
       simpa using this
      subst hps
      simp [Instr.buildSlice,run_underlying hE.ty,sizeOf,typeInfo,hi,Instr.fill,newRow]
      rw[show Array.range 0 = #[] from Array.eq_empty_of_size_eq_zero (by simp)]
      rw[Array.map_empty]
     ·refine run_buildSlice w t el n _ _ i zv hE.ty hi hz ?_ ?_ ?_
      ·rw[hsz]; omega
      ·rw[hsz]; omega
      ·rw[e1,hsz]
       exact Great.fill_whole hE.pos vs _ hvz (by simp [hlv])
    simp only[execOp,ho,Sem.run_bind,hbs,Result.andThen_ok,Sem.run_pure]
   rw[← hdst]
   have hext:=Ext.new r.norm hf' (.cells (((ps.toList.map (·.2)).map a.eval).flatMap fun v=>v.cells.toList).toArray el) (.slice (some ⟨w.heap.size,0,none⟩) cs.length cs.length) (.lit el cs)
   refine n0 r hd hf' (.slice (some ⟨w.heap.size,0,none⟩) cs.length cs.length) hrun ⟨rfl,fun j hj=>?_,?_⟩ ⟨_,?_,?_,hrd.mono fun x v hx=>hx.ext hext,?_,by omega⟩
   ·simp [aJ.ids] at hj; subst hj; rw[cS]; simp
   ·exact (cS G.hv d _).symm
   ·show Blk _ (Lad.upd G.bl d w.heap.size d) el _
    rw[cS]
    exact heap_alloc_new w _
   ·show (if Lad.upd G.bl d w.heap.size d = w.heap.size then d + 2 else _) = d + 2
    rw[cS,if_pos rfl]
   ·show Lad.upd G.hv d _ d = .slice (some ⟨Lad.upd G.bl d w.heap.size d,0,none⟩) _ _
    rw[cS,cS]
  ·cases h
 ·cases h
theorem Ge {e:Eff} {t:TypeId} {x:Operand} {c:Call} (r:cV w0 χ0 T0 s a w G) (hd:∀ k,o.dst = some k → k < a.tmps.size) (ho:o.op = .call c) (hcc:c = { callee := .builtin .cap,args := #[x],argTypes := #[t] })
  (h:Di P t [s.ev x] = some e):o.wp P a w (bX w0 χ0 T0 a.tmps.size (s.app o.dst e)) Q:=nomatch h
theorem ED {e:Eff} {t t':TypeId} {x y:Operand} {c:Call} (r:cV w0 χ0 T0 s a w G) (hd:∀ k,o.dst = some k → k < a.tmps.size) (ho:o.op = .call c) (hcc:c = { callee := .builtin .append,args := #[x,y],argTypes := #[t,t'] })
  (h:rN P t t' o.dst (bN s.hp o.dst) [s.arg x,s.arg y] = some e) (hc:e.cond):o.wp P a w (bX w0 χ0 T0 a.tmps.size (s.app o.dst e)) Q:=nomatch h
theorem Kp {e:Eff} (r:cV w0 χ0 T0 s a w G) (hd:∀ k,o.dst = some k → k < a.tmps.size) (h:opV P o.op o.dst (bN s.hp o.dst) ((Op.cK o.op).map s.arg) = some e) (hc:e.cond):o.wp P a w (bX w0 χ0 T0 a.tmps.size (s.app o.dst e)) Q:=by
 have hm:((Op.cK o.op).map s.arg).map (·.1) = (Op.cK o.op).map s.ev:=by rw[List.map_map]; rfl
 unfold opV at h
 rw[hm] at h
 split at h <;> rename_i hop
 ·rw[hop] at h; exact Ew r hd hop (by simpa [Op.cK] using h) hc
 ·rw[hop] at h; exact BZ r hd hop (by simpa [Op.cK] using h)
 ·rw[hop] at h; exact EB r hd hop (by simpa [Op.cK] using h) hc
 ·rename_i as ts
  split at h
  ·rename_i t hts
   rw[hop] at h
   have hts':ts = #[t]:=by rw[← Array.toArray_toList (xs:=ts),hts]
   simp only[Op.cK,List.nil_append] at h
   cases hl:as.toList with
   | nil=>rw[hl] at h; simp [tw] at h
   | cons x rest=>cases rest with
    | nil =>
     rw[hl] at h
     refine B1 (x:=x) (t:=t) r hd hop ?_ (by simpa using h) hc
     rw[hts',← Array.toArray_toList (xs:=as),hl]
    | cons y rest=>rw[hl] at h; simp [tw] at h
  ·cases h
 ·rw[hop] at h; exact wF r hd hop (by simpa [Op.cK] using h)
 ·rw[hop] at h; exact tc r hd hop (by simpa [Op.cK] using h) hc
 ·rename_i as ts
  split at h
  ·rename_i t u hts
   rw[hop] at h
   have hts':ts = #[t,u]:=by rw[← Array.toArray_toList (xs:=ts),hts]
   simp only[Op.cK,List.nil_append] at h
   cases hl:as.toList with
   | nil=>rw[hl] at h; simp [uD] at h
   | cons x rest=>cases rest with
    | nil=>rw[hl] at h; simp [uD] at h
    | cons y rest=>cases rest with
     | nil =>
      rw[hl] at h
      refine Ev (x:=x) (y:=y) (t:=t) (u:=u) r hd hop ?_ (by simpa using h) hc
      rw[hts',← Array.toArray_toList (xs:=as),hl]
     | cons z rest=>rw[hl] at h; simp [uD] at h
  ·cases h
 ·rename_i as ts
  split at h
  ·rename_i t t' hts
   have hts':ts = #[t,t']:=by rw[← Array.toArray_toList (xs:=ts),hts]
   rw[hop] at h
   simp only[Op.cK,List.nil_append] at h
   cases hl:as.toList with
   | nil=>rw[hl] at h; simp [kI,rN] at h
   | cons x rest=>cases rest with
    | nil=>rw[hl] at h; simp [kI,rN] at h
    | cons y rest=>cases rest with
     | nil =>
      rw[hl] at h
      have has:as = #[x,y]:=by rw[← Array.toArray_toList (xs:=as),hl]
      split at h
      ·rename_i htt
       subst htt
       exact EC (x:=x) (y:=y) (t:=t) r hd hop (by rw[hts',has]) (by simpa using h) hc
      ·exact ED (x:=x) (y:=y) (t:=t) (t':=t') r hd hop (by rw[hts',has]) (by simpa using h) hc
     | cons z rest=>rw[hl] at h; simp [kI,rN] at h
  ·cases h
 ·rename_i as ts
  split at h
  ·rename_i t hts
   rw[hop] at h
   have hts':ts = #[t]:=by rw[← Array.toArray_toList (xs:=ts),hts]
   simp only[Op.cK,List.nil_append] at h
   cases hl:as.toList with
   | nil=>rw[hl] at h; simp [Di] at h
   | cons x rest=>cases rest with
    | nil =>
     rw[hl] at h
     refine Ge (x:=x) (t:=t) r hd hop ?_ (by simpa using h)
     rw[hts',← Array.toArray_toList (xs:=as),hl]
    | cons y rest=>rw[hl] at h; simp [Di] at h
  ·cases h
 ·rw[hop] at h; exact wG r hd hop (by simpa [Op.cK,List.map_map,Function.comp_def] using h)
 ·cases h
theorem Kq {e:Eff} (r:cV w0 χ0 T0 s a w G) (hd:∀ k,o.dst = some k → k < a.tmps.size) (h:opY P o.op o.dst (bN s.hp o.dst) ((Op.cK o.op).map s.arg) = some e) (hc:e.cond):o.wp P a w (bX w0 χ0 T0 a.tmps.size (s.app o.dst e)) Q:=by
 unfold opY at h
 split at h <;> rename_i hop <;> first | exact Kp r hd (by rw[hop]; rw[hop] at h; exact h) hc | exact IG r hd h hc
end
end Go.Lad
