import Derived.Test.YtkpefpjpadahiaaGreatDoorAb5
import Derived.Great.BuildSlice
namespace Go.Lad
set_option linter.unusedVariables false
set_option linter.unusedSimpArgs false
open Go.RowKit
section
variable {P:Program} {w0:World} {χ0:Col} {T0:Ctx} {s:St} {a:Act} {w:World} {G:Gh} {o:Oper} {Q:Exit->Act->World->Prop}
def Gh.add (G:Gh) (d:Nat) (b:Nat) (v:Value):Gh:={ χ:=fun i=>if i=b then d+2 else G.χ i,bl:=Lad.upd G.bl d b,hv:=Lad.upd G.hv d v }
theorem bP {α:Type} (f:Nat->α) (k:Nat) (v:α):Lad.upd f k v k=v:=by simp [Lad.upd]
theorem fZ {α:Type} (f:Nat->α) {k j:Nat} (v:α) (h:j≠k):Lad.upd f k v j=f j:=by simp [Lad.upd,h]
theorem Ext.new {G:Gh} {hp:Hp} {w:World} {d:Nat} (hn:Norm G.χ w) (hf:hp d=none/\d<1000000) (x:Obj) (v:Value) (h:df):Ext G hp w (G.add d w.heap.size v) (Lad.upd hp d (some h)) (w.alloc x):=by
 refine⟨fun b hb hl=>⟨?_,Below.heap_alloc w x b hl⟩,fun i hi=>?_,fun i hi=>?_,fun i hi=>?_⟩
 ·show (if b=w.heap.size then d+2 else G.χ b)=0;rw[if_neg (by omega)]; exact hb
 ·exact fZ _ _ (fun e=>hi.elim (fun hi=>hi (by rw[e]; exact hf.1)) fun hi=>by omega)
 ·exact fZ _ _ (fun e=>hi.elim (fun hi=>hi (by rw[e]; exact hf.1)) fun hi=>by omega)
 ·rw[fZ _ _ (fun e=>hi (by rw[e]; exact hf.1))]; exact hi
theorem Step.new {G : Gh} {w : World} (d : Nat) (v : Value) (x : Obj) : Step [] G.χ w (G.add d w.heap.size v).χ (w.alloc x) :=
  ((Step.refl [] G.χ w).alloc x).D2 fun b hb => by
    show (if b=w.heap.size then d+2 else G.χ b)=G.χ b;rw [if_neg (by omega)]
theorem Norm.new {G:Gh} {w:World} (hn:Norm G.χ w) (d:Nat) (v:Value) (x:Obj):Norm (G.add d w.heap.size v).χ (w.alloc x):=fun b hb=>by
 have hb':w.heap.size+1<=b:=by simpa using hb
 show (if b=w.heap.size then d+2 else G.χ b)=0;rw[if_neg (by omega)]; exact hn b (by omega)
theorem o6 {d:Nat} {x:Obj} {v:Value} {y:aJ} {h:df} {c:Prop} (r:cI w0 χ0 T0 s a w G) (hd:∀ k,o.dst=some k->k<a.tmps.size) (hf:s.hp d=none/\d<1000000) (hv:Value)
  (hrun:(execOp a.eval o).run P w = .ok (.value v) (w.alloc x)) (hy:LRd (G.add d w.heap.size hv) (Lad.upd s.hp d (some h)) (w.alloc x) y v)
  (hh:HRd (G.add d w.heap.size hv) (Lad.upd s.hp d (some h)) (w.alloc x) d h):o.wp P a w (bG w0 χ0 T0 a.tmps.size (s.app o.dst ⟨c,.x y,[(d,h)]⟩)) Q:=by
 unfold Oper.wp;rw[hrun];refine⟨Act.ji _ _ _,_,r.upd hd (Ext.new r.norm hf x hv h) (Step.new d hv x).chg (by simp) (Norm.new r.norm d hv x) (fun i h' hi=>?_) hy⟩;change Lad.upd s.hp d (some h) i=some h' at hi;by_cases hid:i=d
 ·subst hid;rw[bP] at hi;injection hi with hi
  subst hi;exact .inr hh
 ·rw[fZ _ _ hid] at hi;exact .inl ⟨hi,by simp⟩
theorem qu {t:TypeId} {cs:List aJ} (h:jJ P t=some cs):∃ i v,P.info? t=some i/\i.zero=some v/\v.cells.all (·.oneCell')=true/\cs=v.cells.toList.map gF:=by
 unfold jJ at h;split at h
 ·split at h
  ·split at h
   ·rename_i hc;simp only[Option.some.injEq] at h;exact⟨_,_,by assumption,by assumption,hc,h.symm⟩
   ·cases h
  ·cases h
 ·cases h
theorem D4 {G:Gh} {hp:Hp} {w:World} {v:Value} (h:v.cells.all (·.oneCell')=true):eu (LRd G hp w) (v.cells.toList.map gF) v.cells.toList :=
 ⟨by simp,fun i x u hx hu=>by
  rw[List.getElem?_map,hu] at hx;simp only[Option.map_some,Option.some.injEq] at hx;subst hx;exact nS G hp w (Array.all_eq_true_iff_forall_mem.1 h u (by simpa using List.mem_of_getElem? hu))⟩
theorem CB {e:Eff} {t:TypeId} (r:cI w0 χ0 T0 s a w G) (hd:∀ k,o.dst=some k->k<a.tmps.size) (ho:o.op = .alloc t) (h:jF P t o.dst (aY s.hp o.dst) []=some e) :
  o.wp P a w (bG w0 χ0 T0 a.tmps.size (s.app o.dst e)) Q:=by
 cases hdst:o.dst with
 | none=>simp [jF,hdst] at h
 | some d =>
 cases hz:jJ P t with
 | none=>simp [jF,hz] at h
 | some cs =>
 simp only[jF,hdst,hz] at h
 ·split at h
  ·rename_i hf;simp only[Option.some.injEq] at h;subst h;have hf':s.hp d=none/\d<1000000:=by simpa [aY] using hf
   rw[← hdst];obtain⟨i,v,h1,h2,h3,rfl⟩:=qu hz;refine o6 r hd hf' (x := .cells v.cells t) (v:=ptr w.heap.size 0) .nilFunc ?_ ⟨rfl,fun j hj=>?_,?_⟩ ?_
   ·simp [execOp,ho,Instr.alloc,zeroValue,typeInfo,h1,h2,newVar,newRow,ptr]
   ·simp [aJ.ids] at hj; subst hj; rw[bP]; simp
   ·show ptr w.heap.size 0=ptr (Lad.upd G.bl d w.heap.size d) 0;rw[bP]
   ·refine⟨v.cells.toList,?_,?_,D4 h3⟩
    ·show Blk _ (Lad.upd G.bl d w.heap.size d) t _;rw[bP]; simpa using Blk.new w t v.cells
    ·show (if (Lad.upd G.bl d w.heap.size d)=w.heap.size then d+2 else _)=d+2;rw[bP,if_pos rfl]
  ·cases h
theorem Hs (f:List Value):∀ (j:Nat) (cs:Array Value) (off:Nat),(f.zipIdx j).foldl (fun (cs:Array Value) (x:Value×Nat)=>cs.setIfInBounds (off+x.2) x.1) cs=(cs.toList.take (off+j)++f.take (cs.size-(off+j))++cs.toList.drop (off+j+f.length)).toArray:=by
 induction f with
 | nil=>intro j cs off; simp
 | cons v f ih =>
  intro j cs off;rw[List.zipIdx_cons,List.foldl_cons,ih];apply Array.ext';simp only[Array.toList_setIfInBounds,Array.size_setIfInBounds,List.length_cons];apply List.ext_getElem?;intro i;rcases Nat.lt_or_ge (off+j) cs.size with hlt | hge
  ·have e1:cs.size-(off+j)=(cs.size-(off+(j+1)))+1:=by omega
   rw[e1,List.take_succ_cons];have e2:(cs.toList.set (off+j) v).take (off+(j+1))=cs.toList.take (off+j)++[v]:=by
    rw[show off+(j+1)=off+j+1 by omega,List.take_set];rw[List.take_succ_eq_append_getElem (by simpa using hlt),List.set_append_right _ _ (by simp; omega)];have:(List.take (off+j) cs.toList).length=off+j:=by simp; omega
    simp [this]
   rw[e2,List.drop_set,if_pos (by omega)];rw[show off+(j+1)+f.length=off+j+(f.length+1) by omega];simp [List.append_assoc]
  ·have h1:cs.toList.set (off+j) v=cs.toList:=List.set_eq_of_length_le (by simpa using hge);have e0:cs.size-(off+j)=0:=by omega
   have e1:cs.size-(off+(j+1))=0:=by omega
   have e2:cs.toList.take (off+(j+1))=cs.toList:=List.take_of_length_le (by simp; omega);have e3:cs.toList.take (off+j)=cs.toList:=List.take_of_length_le (by simp; omega);have e4:cs.toList.drop (off+(j+1)+f.length)=[]:=List.drop_of_length_le (by simp; omega);have e5:cs.toList.drop (off+j+(f.length+1))=[]:=List.drop_of_length_le (by simp; omega);rw[h1,e0,e1,e2,e3,e4,e5]; simp
theorem CRd.cells {G:Gh} {hp:Hp} {w:World} {c:Cmp} {v:Value} (h:CRd G hp w c v):eu (LRd G hp w) c.leaves v.cells.toList:=by
 cases c with
 | v x =>
  have h1:=LRd.one h;have:v.cells = #[v]:=by cases v <;> first | rfl | simp [Value.oneCell'] at h1
  rw[this];refine⟨rfl,fun i a b ha hb=>?_⟩;cases i with
  | zero=>simp [Cmp.leaves] at ha hb; subst ha hb; exact h
  | succ i=>simp [Cmp.leaves] at ha
 | g xs =>
  obtain⟨vs,rfl,h2⟩:=h
  simpa [Cmp.leaves,Value.cells] using h2
theorem eu.append {α β:Type} {R:α->β->Prop} {l l':List α} {m m':List β} (h:eu R l m) (k:eu R l' m'):eu R (l++l') (m++m'):=by
 refine⟨by simp [h.1,k.1],fun i a b ha hb=>?_⟩;rcases Nat.lt_or_ge i l.length with hi | hi
 ·rw[List.getElem?_append_left hi] at ha;rw[List.getElem?_append_left (by rw[← h.1]; exact hi)] at hb;exact h.2 i a b ha hb
 ·rw[List.getElem?_append_right hi] at ha;rw[List.getElem?_append_right (by rw[← h.1]; exact hi),← h.1] at hb;exact k.2 _ a b ha hb
theorem eu.take {α β:Type} {R:α->β->Prop} {l:List α} {m:List β} (h:eu R l m) (n:Nat):eu R (l.take n) (m.take n):=by simpa using h.cut 0 n
theorem eu.drop {α β:Type} {R:α->β->Prop} {l:List α} {m:List β} (h:eu R l m) (n:Nat):eu R (l.drop n) (m.drop n):=by
 refine⟨by simp [h.1],fun i a b ha hb=>?_⟩;rw[List.getElem?_drop] at ha hb;exact h.2 _ a b ha hb
theorem M8 {G:Gh} {hp:Hp} {w:World} {cs:List aJ} {vs:List Value} {c:Cmp} {v:Value} {off:Nat} (h:eu (LRd G hp w) cs vs) (hc:CRd G hp w c v) (hle:off+c.leaves.length<=cs.length) :
  eu (LRd G hp w) (cs.take off++c.leaves++cs.drop (off+c.leaves.length)) (vs.take off++v.cells.toList++vs.drop (off+v.cells.toList.length)):=by
 have h1:=hc.cells;rw[← h1.1];exact ((h.take off).append h1).append (h.drop _)
theorem D5 {place:Nat->Option (Nat×Nat)}:∀ (is:List Nat) (xs:List Operand) (l:List (Nat×Nat×Cmp)) (cs cs':List aJ) (vs:List Value),cI w0 χ0 T0 s a w G->lZ place is (xs.map s.ev)=some l->uM cs l=some cs'->eu (LRd G s.hp w) cs vs ->
  ∃ vs':List Value,Instr.fill place vs.toArray (is.zip (xs.map a.eval))=some vs'.toArray/\eu (LRd G s.hp w) cs' vs'
 | [],[],l,cs,cs',vs,r,h1,h2,h3=>by
  simp [lZ] at h1;subst h1;simp [uM] at h2;subst h2;exact⟨vs,by simp [Instr.fill],h3⟩
 | [],x::xs,l,cs,cs',vs,r,h1,h2,h3=>by simp [lZ] at h1
 | i::is,[],l,cs,cs',vs,r,h1,h2,h3=>by simp [lZ] at h1
 | i::is,x::xs,l,cs,cs',vs,r,h1,h2,h3=>by
  have hx:=r.ev x;rw[List.map_cons] at h1;unfold lZ at h1;split at h1
  ·rename_i heq; cases heq
  ·rename_i i' is' c rest heq1 heq2;simp only[List.cons.injEq] at heq1 heq2;obtain⟨rfl,rfl⟩:=heq1;obtain⟨e1,rfl⟩:=heq2;rw[e1] at hx;split at h1
   ·rename_i off n l' hp hl;simp only[Option.some.injEq] at h1;subst h1;simp only[uM] at h2;split at h2
    ·rename_i hc;obtain⟨rfl,hle⟩:=hc;have hput:=M8 h3 hx hle;obtain⟨vs',g1,g2⟩:=D5 is xs l' _ cs' _ r hl h2 hput;refine⟨vs',?_,g2⟩;have hcl:=(CRd.cells hx).1;have hsz:(a.eval x).cells.size=c.leaves.length:=by rw[hcl]; simp
     have hvl:=h3.1;simp only[List.map_cons,List.zip_cons_cons,Instr.fill,hp,hsz];rw[if_neg (by simp; omega)];have:=Hs (a.eval x).cells.toList 0 vs.toArray off;have e2:(a.eval x).cells.zipIdx.foldl (fun (cs:Array Value) (x:Value×Nat)=>cs.setIfInBounds (off+x.2) x.1) vs.toArray=((a.eval x).cells.toList.zipIdx 0).foldl (fun (cs:Array Value) (x:Value×Nat)=>cs.setIfInBounds (off+x.2) x.1) vs.toArray:=by
      rw[← Array.foldl_toList]; simp
     have e3:((a.eval x).cells.zipIdx.foldl (fun cs (c,j)=>cs.setIfInBounds (off+j) c) vs.toArray)=(vs.take off++(a.eval x).cells.toList++vs.drop (off+(a.eval x).cells.toList.length)).toArray:=by
      refine e2.trans (this.trans ?_);simp only[Nat.add_zero,List.size_toArray];rw[List.take_of_length_le (i:=vs.length-off) (by rw[← hcl]; omega)]
     rw[e3]; exact g1
    ·cases h2
   ·cases h1
  ·cases h1
theorem CC {e:Eff} {t:TypeId} {ps:Array (Nat×Operand)} (r:cI w0 χ0 T0 s a w G) (hd:∀ k,o.dst=some k->k<a.tmps.size) (ho:o.op = .build t ps) (h:pK P t (ps.toList.map (·.1)) ((ps.toList.map (·.2)).map s.ev)=some e) :
  o.wp P a w (bG w0 χ0 T0 a.tmps.size (s.app o.dst e)) Q:=by
 unfold pK at h;split at h
 ·rename_i pl z hpl hz;split at h
  ·rename_i l hl;split at h
   ·rename_i cs hcs;simp only[val,Option.some.injEq] at h;subst h;obtain⟨i,v,h1,h2,h3,rfl⟩:=qu hz;obtain⟨vs,g1,g2⟩:=D5 (place:=fun i=>pl[i]?) _ _ l _ cs _ r hl hcs (D4 (G:=G) (hp:=s.hp) (w:=w) h3);have hb:P.built t (ps.map fun (i,x)=>(i,a.eval x)).toList=some vs.toArray:=by
     unfold placesOf at hpl;unfold Program.built;split at hpl
     ·rename_i fs hu;have e1:(ps.map fun (i,x)=>(i,a.eval x)).toList=(ps.toList.map (·.1)).zip ((ps.toList.map (·.2)).map a.eval):=by
       rw[Array.toList_map,List.map_map,List.zip_map']; rfl
      rw[e1];simp only[h1,hu,h2,hpl]
      simpa using g1
     ·cases hpl
    refine cf r hd ?_ ⟨vs,rfl,g2⟩;simp only[execOp,ho,Sem.run_bind,run_build w t _ _ hb,Result.andThen_ok,Sem.run_pure]
   ·cases h
  ·cases h
 ·cases h
theorem CD {z:Nat} (hz:0<z) (vs:List Value) (h:∀ v∈vs,v.cells.size=z) {i:Nat} {v:Value} (hi:vs[i]?=some v):chunk z i (vs.flatMap fun v=>v.cells.toList)=v.cells.toList:=by
 have hv:v.cells.size=z:=h v (List.mem_of_getElem? hi);apply List.ext_getElem?;intro j;unfold chunk;rw[List.getElem?_take];split
 ·rename_i hj;have e1:(i * z+j) / z=i:=by rw[Nat.mul_comm,Nat.mul_add_div hz,Nat.div_eq_of_lt hj,Nat.add_zero]
  have e2:(i * z+j) % z=j:=by rw[Nat.mul_comm,Nat.mul_add_mod,Nat.mod_eq_of_lt hj]
  rw[List.getElem?_drop,Great.flat_get hz vs h (i * z+j),e1,e2,hi];simp
 ·rw[List.getElem?_eq_none (by simp; omega)]
theorem xx {z k:Nat} {e:TypeId} {χ:Col} {w:World} {l:List (List PV)} {vs:List Value} (hz:0<z) (hk:χ w.heap.size=k) (hm:l.length<=9223372036854775807)
  (hl:eu (fun row v=>v.cells.size=z/\RdL (In χ 0) (w.alloc (.cells (vs.flatMap fun v=>v.cells.toList).toArray e)) row v.cells.toList) l vs) :
  Own (α:=CZ z) k χ e (w.alloc (.cells (vs.flatMap fun v=>v.cells.toList).toArray e)) (.slice (some ⟨w.heap.size,0,none⟩) l.length l.length) l:=by
 have hs:∀ v∈vs,v.cells.size=z:=fun v hv=>by
  obtain⟨i,hi⟩:=List.mem_iff_getElem?.1 hv;have hlt:i<l.length:=by rw[hl.1]; exact (List.getElem?_eq_some_iff.1 hi).1
  exact (hl.2 i _ v (List.getElem?_eq_getElem hlt) hi).1
 have hlen:(vs.flatMap fun v=>v.cells.toList).length=l.length * z:=by
  rw[hl.1];clear hl hm;induction vs with
  | nil=>simp
  | cons v vs ih =>
   rw[List.flatMap_cons,List.length_append,ih (fun u hu=>hs u (List.mem_cons_of_mem _ hu)),List.length_cons,Nat.add_mul];have:=hs v List.mem_cons_self;simp; omega
 refine⟨⟨vs.flatMap fun v=>v.cells.toList,iQ.of ⟨hlen,.inr ⟨w.heap.size,l.length,_,rfl,Nat.zero_le _,heap_alloc_new w _,Nat.le_refl _,by simpa [maxLen] using hm,by rw[show aN.sz (CZ z)=z from rfl]; simpa using hlen,by rw[show aN.sz (CZ z)=z from rfl]; exact List.take_of_length_le (Nat.le_of_eq hlen)⟩⟩,fun i x hx=>?_⟩,fun g hg=>?_⟩
 ·obtain⟨v,hv,h1,h2⟩:=hl.get hx;rw[show aN.sz (CZ z)=z from rfl,CD hz vs hs hv];exact⟨by simpa using h1,h2⟩
 ·simp [Value.ownBlock] at hg;subst hg;exact hk
theorem ri:∀ {xs:List aJ} {ps:List PV},dZ xs=some ps->xs=ps.map aJ.p
 | [],ps,h=>by simp [dZ] at h; subst h; rfl
 | .p p::r,ps,h=>by
  simp only[dZ,Option.map_eq_some_iff] at h;obtain⟨q,hq,rfl⟩:=h;rw[ri hq]; rfl
 | .dead::r,ps,h=>by simp [dZ] at h
 | .nil::r,ps,h=>by simp [dZ] at h
 | .loc _ _::r,ps,h=>by simp [dZ] at h
 | .own _::r,ps,h=>by simp [dZ] at h
 | .el _ _ _ _::r,ps,h=>by simp [dZ] at h
 | .ip _ _::r,ps,h=>by simp [dZ] at h
 | .mp _::r,ps,h=>by simp [dZ] at h
 | .fn _ _::r,ps,h=>by simp [dZ] at h
 | .sv _ _ _ _::r,ps,h=>by simp [dZ] at h
 | .tl _::r,ps,h=>by simp [dZ] at h
 | .ps _::r,ps,h=>by simp [dZ] at h
theorem yJ {xs:List PV} {vs:List Value} (h:eu (LRd G s.hp w) (xs.map aJ.p) vs):RdL (In G.χ 0) w xs vs:=by
 refine⟨by simpa using h.1,fun j p v hp hv=>?_⟩;exact (h.2 j (.p p) v (by rw[List.getElem?_map,hp]; rfl) hv).val
theorem Km {x:aJ} {p:PV} {v:Value} (h:Ah x=some p) (hx:LRd G s.hp w x v):Rd (In G.χ 0) w p v:=by
 unfold Ah at h;split at h
 ·simp only[Option.some.injEq] at h; subst h; exact hx.val
 ·simp only[Option.some.injEq] at h;subst h;have:v = .slice none 0 0:=hx.val;subst this;exact .sl0 (fun _=>rfl) (by omega)
 ·cases h
theorem uT:∀ {xs:List aJ} {ps:List PV} {vs:List Value},gL xs=some ps->eu (LRd G s.hp w) xs vs->RdL (In G.χ 0) w ps vs
 | [],ps,vs,h,ha=>by
  simp only[gL,Option.some.injEq] at h;subst h;have:vs=[]:=List.eq_nil_of_length_eq_zero ha.1.symm;subst this;exact⟨rfl,by simp⟩
 | x::xs,ps,vs,h,ha=>by
  unfold gL at h;split at h
  ·rename_i p l hp hl;simp only[Option.some.injEq] at h;subst h;cases vs with
   | nil=>cases ha.1
   | cons v vs =>
    have ih:=uT hl (vs:=vs) ⟨by simpa using ha.1,fun i a b h1 h2=>ha.2 (i+1) a b (by simpa using h1) (by simpa using h2)⟩;refine⟨by simp [ih.1],fun j p' v' h1 h2=>?_⟩;cases j with
    | zero =>
     simp at h1 h2;subst h1 h2;exact Km hp (ha.2 0 x v rfl rfl)
    | succ j=>exact ih.2 j p' v' (by simpa using h1) (by simpa using h2)
  ·cases h
theorem D6 {z:Nat}:∀ (xs:List Operand) (l:List (List PV)),cI w0 χ0 T0 s a w G->rowsOf z (xs.map s.arg)=some l->eu (fun row v=>v.cells.size=z/\RdL (In G.χ 0) w row v.cells.toList) l (xs.map a.eval)
 | [],l,r,h=>by simp [rowsOf] at h; subst h; exact⟨rfl,by simp⟩
 | x::xs,l,r,h=>by
  have hx:=r.ev x;rw[List.map_cons] at h;unfold rowsOf at h;split at h
  ·rename_i heq; cases heq
  ·rename_i c hs rest heq;simp only[List.cons.injEq] at heq;obtain⟨e1,rfl⟩:=heq;rw[(St.cE e1).1] at hx;split at h
   ·rename_i ps l' hps hl';split at h
    ·rename_i hz;simp only[Option.some.injEq] at h;subst h;have ih:=D6 xs l' r hl';have hc:=CRd.cells hx;have h2:=uT hps hc;refine⟨by simp [ih.1],fun i row v hr hv=>?_⟩;cases i with
     | zero =>
      simp at hr hv;subst hr hv;exact⟨by have:=h2.1; simp at this; omega,h2⟩
     | succ i=>exact ih.2 i row v (by simpa using hr) (by simpa using hv)
    ·cases h
   ·cases h
  ·cases h
theorem sC {α:Type} (vs:List α):(List.range vs.length).zip vs=(vs.zipIdx 0).map fun x=>(x.2,x.1):=by
 apply List.ext_getElem?;intro i;rw[List.getElem?_map,List.getElem?_zipIdx];rcases Nat.lt_or_ge i vs.length with h | h
 ·simp [List.getElem?_eq_getElem,h]
 ·rw[List.getElem?_eq_none (by simp; omega),List.getElem?_eq_none h];rfl
theorem tZ {e:Eff} {t:TypeId} {n:Nat} {ps:Array (Nat×Operand)} (r:cI w0 χ0 T0 s a w G) (hd:∀ k,o.dst=some k->k<a.tmps.size) (ho:o.op = .buildSlice t n ps)
  (h:dG P t n (ps.toList.map (·.1)) o.dst (aY s.hp o.dst) ((ps.toList.map (·.2)).map s.arg)=some e):o.wp P a w (bG w0 χ0 T0 a.tmps.size (s.app o.dst e)) Q:=by
 cases hdst:o.dst with
 | none=>simp [dG,hdst] at h
 | some d =>
 cases hel:dy P t with
 | none=>simp [dG,hel] at h
 | some ez =>
 obtain⟨el,z⟩:=ez;simp only[dG,hdst,hel] at h;split at h
 ·rename_i hc;obtain⟨h1,h2,h3,h4⟩:=hc;split at h
  ·rename_i l hl;simp only[Option.some.injEq] at h;subst h;have hf':s.hp d=none/\d<1000000:=by simpa [aY] using h2
   have hrd:=D6 _ l r hl;have hE:=eV hel;obtain⟨i,zv,hi,hz,hsz,hby,hzs⟩:=hE.ex;have hn:l.length=n:=by
    have:=congrArg List.length h1;rw[hrd.1]; simpa using this
   have hrun:(execOp a.eval o).run P w = .ok (.value (.slice (some ⟨w.heap.size,0,none⟩) l.length l.length)) (w.alloc (.cells (((ps.toList.map (·.2)).map a.eval).flatMap fun v=>v.cells.toList).toArray el)):=by
    have hlv:((ps.toList.map (·.2)).map a.eval).length=n:=by rw[← hrd.1]; exact hn
    have hvz:∀ v∈(ps.toList.map (·.2)).map a.eval,v.cells.size=z:=fun v hv=>by
     obtain⟨j,hj⟩:=List.mem_iff_getElem?.1 hv;have hlt:j<l.length:=by rw[hrd.1]; exact (List.getElem?_eq_some_iff.1 hj).1
     exact (hrd.2 j _ v (List.getElem?_eq_getElem hlt) hj).1
    have e1:(ps.map fun (i,x)=>(i,a.eval x)).toList=(((ps.toList.map (·.2)).map a.eval).zipIdx 0).map fun x=>(x.2,x.1):=by
     rw[← sC,hlv,← h1,Array.toList_map,List.map_map,List.zip_map']; rfl
    rw[hn];generalize (ps.toList.map (·.2)).map a.eval=vs at *
    have hbs:(Instr.buildSlice t n (ps.map fun (i,x)=>(i,a.eval x))).run P w = .ok (.slice (some ⟨w.heap.size,0,none⟩) n n) (w.alloc (.cells (vs.flatMap fun v=>v.cells.toList).toArray el)):=by
     by_cases hn0:n=0
     ·have hvs:vs=[]:=List.eq_nil_of_length_eq_zero (by rw[hlv,hn0]);subst hvs;subst hn0;have hps:ps = #[]:=by
       have:=congrArg List.length h1
       simpa using this
      subst hps;simp [Instr.buildSlice,run_underlying hE.ty,sizeOf,typeInfo,hi,Instr.fill,newRow];rw[show Array.range 0 = #[] from Array.eq_empty_of_size_eq_zero (by simp)];rw[Array.map_empty]
     ·refine run_buildSlice w t el n _ _ i zv hE.ty hi hz ?_ ?_ ?_
      ·rw[hsz];have:n * z<=100 * 1000:=Nat.mul_le_mul h3 h4;omega
      ·rw[hsz];intro h0;rcases Nat.mul_eq_zero.1 h0 with h0 | h0
       ·exact hn0 h0
       ·have:=hE.pos; omega
      ·rw[e1,hsz];exact Great.fill_whole hE.pos vs _ hvz (by simp [hlv])
    simp only[execOp,ho,Sem.run_bind,hbs,Result.andThen_ok,Sem.run_pure]
   rw[← hdst];refine o6 r hd hf' (.slice (some ⟨w.heap.size,0,none⟩) l.length l.length) hrun ⟨rfl,fun j hj=>?_,?_⟩ ⟨?_,fun b hb=>?_⟩
   ·simp [aJ.ids] at hj; subst hj; rw[bP]; simp
   ·exact (bP G.hv d _).symm
   ·show Own (α:=CZ z) (d+2) _ el _ (Lad.upd G.hv d _ d) l;rw[bP];refine xx hE.pos ?_ (by omega) ⟨hrd.1,fun j row v hr hv=>?_⟩
    ·show (if w.heap.size=w.heap.size then d+2 else _)=d+2;rw[if_pos rfl]
    ·obtain⟨q1,q2⟩:=hrd.2 j row v hr hv;exact⟨q1,q2.frame (Ext.new r.norm hf' _ (.slice (some ⟨w.heap.size,0,none⟩) l.length l.length) .gone).blk⟩
   ·change (Lad.upd G.hv d _ d).ownBlock=some b at hb;rw[bP] at hb;simp [Value.ownBlock] at hb;show b=Lad.upd G.bl d w.heap.size d;rw[bP]; exact hb.symm
  ·cases h
 ·cases h
end
end Go.Lad
