import Derived.Test.YtkpefpjpadahiaaGreatDoorAb10b
namespace Go.Lad
set_option linter.unusedVariables false
set_option linter.unusedSimpArgs false
open Go.RowKit
def nZ (z:Nat):List Slot->Option (List (List PV))
 | []=>some []
 | .c c::r=>match gL c.leaves,nZ z r with | some ps,some l=>if ps.length=z then some (ps::l) else none | _,_=>none
 | _=>none
def HE (tl:Bool) (l:List (List PV)):aJ:=if tl then .tl l else .p (.sl l)
def mC (P:Program) (tl:Bool) (t:TypeId) (len:Nat) (is:List Nat) (args:List Slot):Option Eff :=
 match dy P t with
 | some (_,z)=>if is=List.range len/\len<=100/\z<=1000 then match nZ z args with | some l=>val (.x (HE tl l)) | none=>none else none
 | _=>none
def Kz (a b:Int):Int:=IntKind.i64.wrap (a+b)
def sI:List Slot->Option Eff
 | [.c (.v (.p (.int .i64 a))),.c (.v (.p (.int .i64 b)))]=>val (.p (.int .i64 (Kz a b)))
 | _=>none
def opZ (P:Program) (tl:Bool) (op:Op) (args:List Slot):Option Eff :=
 match op with
 | .buildSlice t n ps=>mC P tl t n (ps.toList.map (·.1)) args
 | .binOp .add _ _ _ _=>sI args
 | _=>none
section
variable {P:Program} {w0:World} {χ0:Col} {T0:Ctx} {s:St} {a:Act} {w:World} {G:Gh} {o:Oper} {Q:Exit->Act->World->Prop}
theorem AE {z:Nat}:∀ (xs:List Operand) (l:List (List PV)),cI w0 χ0 T0 s a w G->nZ z (xs.map s.ev)=some l->eu (fun row v=>v.cells.size=z/\RdL (In G.χ 0) w row v.cells.toList) l (xs.map a.eval)
 | [],l,r,h=>by simp [nZ] at h; subst h; exact⟨rfl,by simp⟩
 | x::xs,l,r,h=>by
  have hx:=r.ev x;rw[List.map_cons] at h;unfold nZ at h;split at h
  ·rename_i heq; cases heq
  ·rename_i c rest heq;simp only[List.cons.injEq] at heq;obtain⟨e1,rfl⟩:=heq;rw[e1] at hx;split at h
   ·rename_i ps l' hps hl';split at h
    ·rename_i hz;simp only[Option.some.injEq] at h;subst h;have ih:=AE xs l' r hl';have hc:=CRd.cells hx;have h2:=uT hps hc;refine⟨by simp [ih.1],fun i row v hr hv=>?_⟩;cases i with
     | zero =>
      simp at hr hv;subst hr hv;exact⟨by have:=h2.1; simp at this; omega,h2⟩
     | succ i=>exact ih.2 i row v (by simpa using hr) (by simpa using hv)
    ·cases h
   ·cases h
  ·cases h
theorem xF {x:Obj} {v:Value} {y:aJ} {c:Prop} (r:cI w0 χ0 T0 s a w G) (hd:∀ k,o.dst=some k->k<a.tmps.size)
  (hrun:(execOp a.eval o).run P w = .ok (.value v) (w.alloc x)) (hy:LRd G s.hp (w.alloc x) y v):o.wp P a w (bG w0 χ0 T0 a.tmps.size (s.app o.dst ⟨c,.x y,[]⟩)) Q:=by
 unfold Oper.wp;rw[hrun];have hb:∀ b,b<w.heap.size->(w.alloc x).heap[b]?=w.heap[b]? := fun b hb=>heap_alloc_old w x hb;refine⟨Act.ji _ _ _,G,r.upd (T:=[]) (w':=w.alloc x) (G':=G) (hp':=s.hp) hd ⟨fun b h hl=>⟨h,hb b hl⟩,fun _ _=>rfl,fun _ _=>rfl,fun _ h=>h⟩ ⟨rfl,rfl,rfl,by simp,fun _ _ _=>rfl,fun b hl _=>hb b hl⟩ (by simp) (r.norm.alloc x) (fun i h hi=>.inl ⟨hi,by simp⟩) hy⟩
theorem AF {e:Eff} {tl:Bool} {t:TypeId} {n:Nat} {ps:Array (Nat×Operand)} (r:cI w0 χ0 T0 s a w G) (hd:∀ k,o.dst=some k->k<a.tmps.size) (ho:o.op = .buildSlice t n ps)
  (h:mC P tl t n (ps.toList.map (·.1)) ((ps.toList.map (·.2)).map s.ev)=some e):o.wp P a w (bG w0 χ0 T0 a.tmps.size (s.app o.dst e)) Q:=by
 cases hel:dy P t with
 | none=>simp [mC,hel] at h
 | some ez =>
 obtain⟨el,z⟩:=ez;simp only[mC,hel] at h;split at h
 ·rename_i hc;obtain⟨h1,h3,h4⟩:=hc;split at h
  ·rename_i l hl;simp only[val,Option.some.injEq] at h;subst h;have hrd:=AE _ l r hl;have hE:=eV hel;obtain⟨i,zv,hi,hz,hsz,hby,hzs⟩:=hE.ex;have hn:l.length=n:=by
    have:=congrArg List.length h1;rw[hrd.1]; simpa using this
   have hrun:(execOp a.eval o).run P w = .ok (.value (.slice (some ⟨w.heap.size,0,none⟩) l.length l.length)) (w.alloc (.cells (((ps.toList.map (·.2)).map a.eval).flatMap fun v=>v.cells.toList).toArray el)):=by
    have hlv:((ps.toList.map (·.2)).map a.eval).length=n:=by rw[← hrd.1]; exact hn
    have hvz:∀ v∈(ps.toList.map (·.2)).map a.eval,v.cells.size=z:=fun v hv=>by
     obtain⟨j,hj⟩:=List.mem_iff_getElem?.1 hv;have hlt:j<l.length:=by rw[hrd.1]; exact (List.getElem?_eq_some_iff.1 hj).1
     exact (hrd.2 j _ v (List.getElem?_eq_getElem hlt) hj).1
    have e1:(ps.map fun (i,x)=>(i,a.eval x)).toList=(((ps.toList.map (·.2)).map a.eval).zipIdx 0).map fun x=>(x.2,x.1):=by
     rw[← sC,hlv,← h1,Array.toList_map,List.map_map,List.zip_map']; rfl
    rw[hn];generalize (ps.toList.map (·.2)).map a.eval=vs at *
    have hbs:(Instr.buildSlice t n (ps.map fun (i,x)=>(i,a.eval x))).run P w = .ok (.slice (some ⟨w.heap.size,0,none⟩) n n) (w.alloc (.cells (vs.flatMap fun v=>v.cells.toList).toArray el)):=by
     by_cases hn0:n=0
     ·have hvs:vs=[]:=List.eq_nil_of_length_eq_zero (by rw[hlv,hn0]);subst hvs;subst hn0;have hps:ps = #[]:=by
       have:=congrArg List.length h1
       simpa using this
      subst hps;simp [Instr.buildSlice,run_underlying hE.ty,sizeOf,typeInfo,hi,Instr.fill,newRow];rw[show Array.range 0 = #[] from Array.eq_empty_of_size_eq_zero (by simp)];rw[Array.map_empty]
     ·refine run_buildSlice w t el n _ _ i zv hE.ty hi hz ?_ ?_ ?_
      ·rw[hsz];have:n * z<=100 * 1000:=Nat.mul_le_mul h3 h4;omega
      ·rw[hsz];intro h0;rcases Nat.mul_eq_zero.1 h0 with h0 | h0
       ·exact hn0 h0
       ·have:=hE.pos; omega
      ·rw[e1,hsz];exact Great.fill_whole hE.pos vs _ hvz (by simp [hlv])
    simp only[execOp,ho,Sem.run_bind,hbs,Result.andThen_ok,Sem.run_pure]
   suffices key:Rd (In G.χ 0) (w.alloc (.cells (((ps.toList.map (·.2)).map a.eval).flatMap fun v=>v.cells.toList).toArray el)) (.sl l) (.slice (some ⟨w.heap.size,0,none⟩) l.length l.length) by
    cases tl with
    | false=>exact xF r hd hrun ⟨rfl,by simp [HE,aJ.ids],key⟩
    | true=>exact xF r hd hrun ⟨rfl,by simp [HE,aJ.ids],key,fun A n c hv=>by injection hv with _ h1 h2; rw[← h1,← h2]⟩
   have hown:Own (α:=CZ z) 0 (fun b=>G.χ b) el (w.alloc (.cells (((ps.toList.map (·.2)).map a.eval).flatMap fun v=>v.cells.toList).toArray el)) (.slice (some ⟨w.heap.size,0,none⟩) l.length l.length) l:=by
    refine xx hE.pos ?_ (by omega) ⟨hrd.1,fun j row v hr hv=>?_⟩
    ·exact r.norm _ (Nat.le_refl _)
    ·obtain⟨q1,q2⟩:=hrd.2 j row v hr hv;exact⟨q1,q2.frame fun b hb hl=>⟨hb,heap_alloc_old w _ hl⟩⟩
   obtain⟨_,_,hv3,hcc,hmm⟩:=hown.form;injection hv3 with _ _ hv3
   obtain⟨⟨xs,hx,hrdx⟩,hcol⟩:=hown;have hz0:aN.sz (CZ z)=z:=rfl;refine Rd.uK (z:=z) ⟨rfl,Nat.le_refl _,by rw[hv3]; exact hmm,by simp,fun hpos=>⟨w.heap.size,0,rfl,fun i row hi=>?_⟩⟩ (.inl hE.pos);refine⟨chunk z i xs,hrdx i row hi,fun j u hu=>⟨r.norm _ (Nat.le_refl _),?_⟩⟩;obtain⟨_,hju⟩:=su hu;have h3:=hx.cells (g:=w.heap.size) rfl _ u hju;rw[show mu (.slice (some ⟨w.heap.size,0,none⟩) l.length l.length)=0 from rfl,fT,← Nat.add_assoc] at h3;exact h3
  ·cases h
 ·cases h
theorem FH {e:Eff} {t t':TypeId} {x y:Operand} (r:cI w0 χ0 T0 s a w G) (hd:∀ k,o.dst=some k->k<a.tmps.size) (ho:o.op = .binOp .add t x y t') (h:sI [s.ev x,s.ev y]=some e) :
  o.wp P a w (bG w0 χ0 T0 a.tmps.size (s.app o.dst e)) Q:=by
 have hx:=r.ev x;have hy:=r.ev y;unfold sI at h;split at h
 ·rename_i m n heq;simp only[List.cons.injEq,and_true] at heq;rw[heq.1] at hx;rw[heq.2] at hy;have hvx:=(fU hx).1;have hvy:=(fU hy).1;simp only[val,Option.some.injEq] at h;subst h;have h4:(binOp .add t (.int .i64 m) (.int .i64 n)).run P w = .ok (.int .i64 (Kz m n)) w:=by simp [binOp,Op.intArith,Kz]
  have h5:(eqGuard .add t x y (.int .i64 m) (.int .i64 n)).run P w = .ok () w:=rfl;exact cf r hd (by simp [execOp,ho,hvx,hvy,h5,h4]) (gZ (kg _ _))
 ·cases h
theorem HG {e:Eff} {tl:Bool} {args:List Slot} {op:Op} (h:opZ P tl op args=some e):e.wr=[]:=by
 unfold opZ at h;split at h
 ·unfold mC at h;split at h
  ·split at h
   ·split at h
    ·simp only[val,Option.some.injEq] at h; rw[← h]
    ·cases h
   ·cases h
  ·cases h
 ·unfold sI at h;split at h
  ·simp only[val,Option.some.injEq] at h; rw[← h]
  ·cases h
 ·cases h
theorem Nb {e:Eff} {tl:Bool} (r:cI w0 χ0 T0 s a w G) (hd:∀ k,o.dst=some k->k<a.tmps.size) (h:opZ P tl o.op ((Op.bL o.op).map s.ev)=some e):o.wp P a w (bG w0 χ0 T0 a.tmps.size (s.app o.dst e)) Q:=by
 unfold opZ at h;split at h
 ·rename_i t n ps hop;rw[hop] at h;exact AF r hd hop h
 ·rename_i hop;rw[hop] at h;exact FH r hd hop h
 ·cases h
end
end Go.Lad
