import Derived.Test.YtkpefpjpadahiaaGreatDoorAb10e
import Derived.Lib.SliceRun
import Derived.Lib.AppendZeros
namespace Go.Lad
set_option linter.unusedVariables false
set_option linter.unusedSimpArgs false
open Go.RowKit
def yQ (P:Program) (t:TypeId):List Arg->Option Eff:=fun _=>none
def uo (P:Program) (t:TypeId):List Slot->Option Eff:=fun _=>none
def yR (P:Program) (t:TypeId):List Arg->Option Eff:=fun _=>none
def mY (P:Program) (t:TypeId):List Arg->Option Eff
 | [(.c (.v (.sv o a b z)),[some (.arr e z' l)])]=>match dy P t with
  | some (e2,z2)=>match oZ P e2 with
   | some (_,ps)=>if z=z'/\z2=z'/\ps.length=z' then some ⟨a<=b/\b<=l.length,.dead,[(o,.arr e z' (l.take a++List.replicate (b-a) ps++l.drop b))]⟩ else none
   | none=>none
  | none=>none
 | _=>none
def lR (P:Program) (t:TypeId) (dst:Option Nat) (free:Bool):List Arg->Option Eff
 | [(.c (.v (.tl l)),_),y]=>match dy P t,jC y,dst with
  | some (e,z),some m,some d=>if free then some ⟨l.length+m.length<=2147483647/\l≠[]/\m≠[]/\(∀ x∈l,x.length=z)/\∀ x∈m,x.length=z,.x (.own d),[(d,.arr e z (l++m))]⟩ else none
  | _,_,_=>none
 | _=>none
def n0:List Slot->Option (List aJ)
 | []=>some []
 | .c (.v x)::r=>match n0 r with | some l=>some (x::l) | none=>none
 | _=>none
def fp (P:Program) (t:TypeId) (len:Nat) (is:List Nat) (dst:Option Nat) (free:Bool) (args:List Slot):Option Eff :=
 match dy P t,dst with
 | some (e,z),some d=>if is=List.range len/\free=true/\len<=100/\z=1 then match n0 args with | some cs=>some ⟨True,.x (.own d),[(d,.lit e cs)]⟩ | none=>none else none
 | _,_=>none
def pe (P:Program) (t t':TypeId) (dst:Option Nat) (free:Bool):List Arg->Option Eff:=fun _=>none
def kL (P:Program) (t t':TypeId) (dst:Option Nat) (free:Bool):List Arg->Option Eff
 | [(.c (.v (.own o)),[some (.arr e z l)]),(.c (.v (.p (.str s))),_)]=>match P.underlying t',dy P t,dst with
  | some .string,some (e',z'),some d=>if e=e'/\z=1/\z'=1/\free=true then some ⟨l.length+s.size<=2147483647,.x (.own d),[(o,.gone),(d,.arr e 1 (l++lA s))]⟩ else none
  | _,_,_=>none
 | [(.c (.v .nil),_),(.c (.v (.p (.str s))),_)]=>match P.underlying t',dy P t,dst with
  | some .string,some (e,z'),some d=>if z'=1/\free=true then some ⟨s.size<=2147483647,.x (.own d),[(d,.arr e 1 (lA s))]⟩ else none
  | _,_,_=>none
 | _=>none
def mD (P:Program) (t t':TypeId) (dst:Option Nat) (free:Bool) (args:List Arg):Option Eff :=
 match pe P t t' dst free args with | some e=>some e | none=>kL P t t' dst free args
def Ef (P:Program) (t:TypeId):List Slot->Option Eff:=fun _=>none
def opV (P:Program) (op:Op) (dst:Option Nat) (free:Bool) (args:List Arg):Option Eff :=
 match op with
 | .indexAddr t _ _=>yQ P t args
 | .lookup t _ _ false=>uo P t (args.map (·.1))
 | .mapUpdate t _ _ _=>yR P t args
 | .call { callee := .builtin .clear,argTypes:=ts,.. }=>match ts.toList with | [t]=>mY P t args | _=>none
 | .mapEntry t _ _=>vj P t dst free args
 | .entryStore t _ _ _=>rp P t args
 | .call { callee := .builtin .copy,argTypes:=ts,.. }=>match ts.toList with | [t,u]=>vk P t u args | _=>none
 | .call { callee := .builtin .append,argTypes:=ts,.. }=>match ts.toList with | [t,t']=>if t=t' then lR P t dst free args else mD P t t' dst free args | _=>none
 | .call { callee := .builtin .cap,argTypes:=ts,.. }=>match ts.toList with | [t]=>Ef P t (args.map (·.1)) | _=>none
 | .buildSlice t n ps=>fp P t n (ps.toList.map (·.1)) dst free (args.map (·.1))
 | _=>none
def opY (P:Program) (op:Op) (dst:Option Nat) (free:Bool) (args:List Arg):Option Eff :=
 match op with
 | .indexAddr _ _ _ | .lookup _ _ _ _ | .mapUpdate _ _ _ _ | .call { callee := .builtin .clear,.. } | .call { callee := .builtin .append,.. } | .call { callee := .builtin .cap,.. }=>opV P op dst free args
 | .mapEntry _ _ _ | .entryStore _ _ _ _ | .call { callee := .builtin .copy,.. }=>opV P op dst free args
 | .buildSlice _ _ _=>opV P op dst free args
 | _=>gQ P op dst free args
def HH (P:Program) (t:TypeId) (dst:Option Nat) (free:Bool):List Arg->Option Eff:=fun _=>none
def qJ (P:Program) (t:TypeId) (hl hh:Bool) (dst:Option Nat) (free:Bool):List Arg->Option Eff
 | (.c (.v (.own o)),[some (.arr e z' l)])::as=>match dy P t,qm hl hh l.length as,dst with
  | some (_,z),some (i,j),some d=>if z=z'/\free=true then some ⟨0<=i/\i<=j/\j<=l.length,.x (.own d),[(o,.gone),(d,.arr e z' ((l.take j.toNat).drop i.toNat))]⟩ else none
  | _,_,_=>none
 | _=>none
def MK (P:Program) (t:TypeId) (dst:Option Nat) (free:Bool):List Arg->Option Eff:=fun _=>none
def Eg (P:Program) (t:TypeId) (dst:Option Nat) (free:Bool):List Arg->Option Eff:=fun _=>none
def nk (P:Program) (t:TypeId):List Arg->Option Eff
 | [(.c (.v (.own o)),[some (.arr e z l)]),y]=>match dy P t,jC y with
  | some (e',z'),some m=>if e=e'/\z=z' then some ⟨l.length+m.length<=2147483647/\∀ x∈m,x.length=z,.x (.p (.sl (l++m))),[(o,.gone)]⟩ else none
  | _,_=>none
 | _=>none
def CN (P:Program) (op:BinOp) (t:TypeId):List Arg->Option Eff:=fun _=>none
def dO:Op->Bool
 | .binOp .eql _ _ _ _=>true
 | .binOp .neq _ _ _ _=>true
 | .call { callee := .builtin .append,.. }=>true
 | .lookup _ _ _ false=>true
 | .slice _ _ _ _ none=>true
 | .alloc _=>true
 | .makeMap _ none=>true
 | .convert _ _ _=>true
 | _=>false
def yS (P:Program) (op:Op) (dst:Option Nat) (free:Bool) (args:List Arg):Option Eff :=
 match op with
 | .binOp b t _ _ _=>CN P b t args
 | .lookup t _ _ false=>HH P t dst free args
 | .slice t _ l h none=>qJ P t l.isSome h.isSome dst free args
 | .alloc t=>MK P t dst free args
 | .makeMap t none=>Eg P t dst free args
 | .convert src dt _=>OF P src dt dst free args
 | .call { callee := .builtin .append,argTypes:=ts,.. }=>match ts.toList with | [t,t']=>if t=t' then nk P t args else none | _=>none
 | _=>none
section
variable {P:Program} {w0:World} {χ0:Col} {T0:Ctx} {s:St} {a:Act} {w:World} {G:Gh} {o:Oper} {Q:Exit->Act->World->Prop}
theorem FJ {e:Eff} {t:TypeId} {x y:Operand} (r:cI w0 χ0 T0 s a w G) (hd:∀ k,o.dst=some k->k<a.tmps.size) (ho:o.op = .indexAddr t x y) (h:yQ P t [s.arg x,s.arg y]=some e) (hc:e.cond) :
  o.wp P a w (bG w0 χ0 T0 a.tmps.size (s.app o.dst e)) Q:=nomatch h
theorem CO {e:Eff} {t:TypeId} {x y:Operand} (r:cI w0 χ0 T0 s a w G) (hd:∀ k,o.dst=some k->k<a.tmps.size) (ho:o.op = .lookup t x y false) (h:uo P t [s.ev x,s.ev y]=some e) :
  o.wp P a w (bG w0 χ0 T0 a.tmps.size (s.app o.dst e)) Q:=nomatch h
def KC (G:Gh) (d:Nat) (v:Value):Gh:={ χ:=fun b=>if v.ownBlock=some b then d+2 else G.χ b,bl:=Lad.upd G.bl d (v.ownBlock.getD 0),hv:=Lad.upd G.hv d v }
theorem yT {w':World} {v:Value} {y:aJ} {c:Prop} {G':Gh} {T:List Nat} {wr:List (Nat×df)} (r:cI w0 χ0 T0 s a w G) (hd:∀ k,o.dst=some k->k<a.tmps.size)
  (hrun:(execOp a.eval o).run P w = .ok (.value v) w') (he:Ext G s.hp w G' (eM s.hp wr) w') (st:Chg T G.χ w G'.χ w') (hT:∀ k∈T,2<=k) (hn:Norm G'.χ w')
  (ho:∀ i h,eM s.hp wr i=some h->(s.hp i=some h/\i+2∉T)\/HRd G' (eM s.hp wr) w' i h) (hy:LRd G' (eM s.hp wr) w' y v):o.wp P a w (bG w0 χ0 T0 a.tmps.size (s.app o.dst ⟨c,.x y,wr⟩)) Q:=by
 unfold Oper.wp;rw[hrun];exact⟨Act.ji _ _ _,G',r.upd hd he st hT hn ho hy⟩
theorem yU {d k:Nat} {v:Value} (hk:∀ g,v.ownBlock=some g->G.χ g=k) (hk0:k≠0) {b:Nat} (hb:G.χ b=0):(KC G d v).χ b=0:=by
 show (if v.ownBlock=some b then d+2 else G.χ b)=0;rw[if_neg (fun h=>hk0 ((hk b h).symm.trans hb))]; exact hb
theorem Nc {d k:Nat} {v:Value} {hp':Hp} (hk:∀ g,v.ownBlock=some g->G.χ g=k) (hk0:k≠0) (hf:s.hp d=none/\d<1000000) (ht:∀ i,s.hp i≠none->hp' i≠none):Ext G s.hp w (KC G d v) hp' w :=
 ⟨fun b hb _=>⟨yU hk hk0 hb,rfl⟩,fun i hi=>fZ _ _ (fun e=>hi.elim (fun hi=>hi (by rw[e]; exact hf.1)) fun hi=>by omega),fun i hi=>fZ _ _ (fun e=>hi.elim (fun hi=>hi (by rw[e]; exact hf.1)) fun hi=>by omega),ht⟩
theorem Nd {d k:Nat} {v:Value} (hk:∀ g,v.ownBlock=some g->G.χ g=k):Chg [k] G.χ w (KC G d v).χ w :=
 ⟨rfl,rfl,rfl,Nat.le_refl _,fun b _ hb=>if_neg fun h=>hb (by rw[hk b h]; simp),fun _ _ _=>rfl⟩
theorem CP {z i q m:Nat} {xs:List Value} (hq:q<m):chunk z q ((xs.drop (i * z)).take (m * z))=chunk z (i+q) xs:=by
 unfold chunk;apply List.ext_getElem?;intro j;rw[List.getElem?_take,List.getElem?_take];split
 ·rename_i hj;rw[List.getElem?_drop,List.getElem?_take,List.getElem?_drop,List.getElem?_drop];have:q * z+j<m * z:=by
   have:(q+1) * z<=m * z:=Nat.mul_le_mul_right _ (by omega);rw[Nat.add_mul] at this; omega
  rw[if_pos this,Nat.add_mul,Nat.add_assoc]
 ·rfl
theorem HI {z k kd i j n c:Nat} {χ χ':Col} {e:TypeId} {A:Option Addr} {l:List (List PV)} (h:Own (α:=CZ z) k χ e w (.slice A n c) l) (hij:i<=j) (hj:j<=l.length)
  (h0:∀ b,χ b=0->χ' b=0) (hk:∀ g,(svV A c i j z).ownBlock=some g->χ' g=kd):Own (α:=CZ z) kd χ' e w (svV A c i j z) ((l.take j).drop i):=by
 obtain⟨⟨xs,h1',h2⟩,h3⟩:=h;have h1:iQ w e z (.slice A n c) (List.length (α:=List PV) l) xs:=h1';clear h1';have hn:n=l.length:=by
  rcases h1.2 with⟨hv,hl⟩ | ⟨g,cap,cur,off,hv,_⟩
  ·injection hv with _ e2 _; omega
  ·injection hv with _ e2 _
 subst hn;have hlen:((l.take j).drop i).length=j-i:=by simp; omega
 have hp:=h1.part (i:=i) (m:=j-i) rfl (by omega);refine⟨⟨_,(by rw[hlen]; exact hp:iQ w e z (svV A c i j z) (List.length (α:=List PV) ((l.take j).drop i)) _),fun q x hx=>?_⟩,hk⟩;have hq:q<j-i:=by rw[← hlen]; exact (List.getElem?_eq_some_iff.1 hx).1
 have hx':((l.take j).drop i)[q]?=some (show List PV from x):=hx;rw[List.getElem?_drop,List.getElem?_take,if_pos (by omega)] at hx';have h5:=h2 (i+q) x hx';show aN.rd _ _ (chunk z q ((xs.drop (i * z)).take ((j-i) * z))) x;rw[CP hq];exact aN.frame (fun b hb _=>⟨h0 b hb,rfl⟩) h5
theorem FK {A:Option Addr} {n c i j z g:Nat} (h:(svV A c i j z).ownBlock=some g):(Value.slice A n c).ownBlock=some g:=by
 unfold svV at h;by_cases hc:c=i
 ·rw[if_pos hc] at h;cases A with
  | none=>simp [Value.ownBlock] at h
  | some ad=>simpa [Value.ownBlock] using h
 ·rw[if_neg hc] at h;cases A with
  | none=>simp [Value.ownBlock] at h
  | some ad=>simpa [Value.ownBlock,block_add] using h
theorem FL {e:Eff} {t:TypeId} {x:Operand} {lo hi:Option Operand} (r:cI w0 χ0 T0 s a w G) (hd:∀ k,o.dst=some k->k<a.tmps.size) (ho:o.op = .slice t x lo hi none)
  (h:qJ P t lo.isSome hi.isSome o.dst (aY s.hp o.dst) (s.arg x::(lo.toList++hi.toList).map s.arg)=some e) (hc:e.cond):o.wp P a w (bG w0 χ0 T0 a.tmps.size (s.app o.dst e)) Q:=by
 have hx:=r.ev x;have run:∀ {el:TypeId} {z n c:Nat} {A:Option Addr} {i j:Int},dy P t=some (el,z)->a.eval x = .slice A n c->qm lo.isSome hi.isSome n ((lo.toList++hi.toList).map s.arg)=some (i,j)->0<=i->i<=j->j<=n->n<=c ->
   (execOp a.eval o).run P w = .ok (.value (svV A c i.toNat j.toNat z)) w:=by
  intro el z n c A i j h1 h2 h3 h4 h5 h6 h7;have hE:=eV h1;obtain⟨inf,zz,hi',_,hs,_⟩:=hE.ex;simp only[execOp,ho,h2,Instr.sliceAt,Instr.slice,Sem.run_bind,run_underlying hE.ty,Result.andThen_ok,Option.map_none,rk r h3 h4 h5 h6 h7,sizeOf,typeInfo,hi',Sem.run_pure];simp [hs,hi',svV]
 unfold qJ at h;split at h
 ·rename_i ob e' z' l as heq;simp only[List.cons.injEq] at heq;obtain⟨heq,rfl⟩:=heq;obtain⟨h1,h2⟩:=St.cE heq;rw[h1] at hx;have hob:s.hp ob=some (.arr e' z' l):=by simpa [Slot.ids,Cmp.ids,Cmp.leaves,aJ.ids] using h2
  have hval:a.eval x=G.hv ob:=LRd.val hx;split at h
  ·rename_i el z i j d hel hb hdst;split at h
   ·rename_i hcc;obtain⟨rfl,hfree⟩:=hcc;simp only[Option.some.injEq] at h;subst h;obtain⟨c1,c2,c3⟩:=hc;rw[hdst] at hfree;have hf:s.hp d=none/\d<1000000:=by simpa [aY] using hfree
    have hdo:d≠ob:=fun e=>by rw[e,hob] at hf; cases hf.1
    obtain⟨hown,hbl⟩:=r.iA ob _ hob;obtain⟨A,c,hv,hcap,hmax⟩:=hown.form;have hrun:=run hel (hval.trans hv) hb c1 c2 c3 hcap;have hcol:∀ g,(svV A c i.toNat j.toNat z).ownBlock=some g->G.χ g=ob+2:=fun g hg=>hown.col g (by rw[hv]; exact FK hg);rw[hv] at hown;have hlk:∀ q,eM s.hp [(ob,df.gone),(d,df.arr e' z ((l.take j.toNat).drop i.toNat))] q=if q=d then some (.arr e' z ((l.take j.toNat).drop i.toNat)) else if q=ob then some .gone else s.hp q:=fun q=>by
     show Lad.upd (Lad.upd s.hp ob _) d _ q=_;unfold Lad.upd;rfl
    refine yT (T:=[ob+2]) (G':=KC G d (svV A c i.toNat j.toNat z)) r hd hrun (Nc hcol (by omega) hf (mz _ _)) (Nd hcol) (by simp) (fun b hb=>yU hcol (by omega) (r.norm b hb)) (fun q h hq=>?_) ⟨rfl,fun q hq=>?_,?_⟩
    ·rw[hlk] at hq;by_cases hqd:q=d
     ·subst hqd;rw[if_pos rfl] at hq;injection hq with hq
      subst hq;refine .inr ⟨?_,fun b hb=>?_⟩
      ·show Own (α:=CZ z) (q+2) _ e' w (Lad.upd G.hv q _ q) _;rw[bP];exact HI hown (by omega) (by omega) (fun b hb=>yU hcol (by omega) hb) (fun g hg=>if_pos hg)
      ·change (Lad.upd G.hv q _ q).ownBlock=some b at hb;rw[bP] at hb;show b=Lad.upd G.bl q _ q;rw[bP,hb]; rfl
     ·rw[if_neg hqd] at hq;by_cases hqo:q=ob
      ·subst hqo;rw[if_pos rfl] at hq;injection hq with hq
       subst hq;exact .inr trivial
      ·rw[if_neg hqo] at hq;exact .inl ⟨hq,by simp; omega⟩
    ·simp [aJ.ids] at hq;subst hq;rw[hlk,if_pos rfl]; simp
    ·exact (bP G.hv d _).symm
   ·cases h
  ·cases h
 ·cases h
theorem FM {e:Eff} {t:TypeId} {x y:Operand} (r:cI w0 χ0 T0 s a w G) (hd:∀ k,o.dst=some k->k<a.tmps.size) (ho:o.op = .lookup t x y false) (h:HH P t o.dst (aY s.hp o.dst) [s.arg x,s.arg y]=some e) :
  o.wp P a w (bG w0 χ0 T0 a.tmps.size (s.app o.dst e)) Q:=nomatch h
theorem HK {e:Eff} {t:TypeId} (r:cI w0 χ0 T0 s a w G) (hd:∀ k,o.dst=some k->k<a.tmps.size) (ho:o.op = .alloc t) (h:MK P t o.dst (aY s.hp o.dst) []=some e) :
  o.wp P a w (bG w0 χ0 T0 a.tmps.size (s.app o.dst e)) Q:=nomatch h
theorem CQ {e:Eff} {t:TypeId} (r:cI w0 χ0 T0 s a w G) (hd:∀ k,o.dst=some k->k<a.tmps.size) (ho:o.op = .makeMap t none) (h:Eg P t o.dst (aY s.hp o.dst) []=some e) :
  o.wp P a w (bG w0 χ0 T0 a.tmps.size (s.app o.dst e)) Q:=nomatch h
theorem FN {e:Eff} {t:TypeId} {x y:Operand} {c:Call} (r:cI w0 χ0 T0 s a w G) (hd:∀ k,o.dst=some k->k<a.tmps.size) (ho:o.op = .call c) (hcc:c = { callee := .builtin .append,args := #[x,y],argTypes := #[t,t] })
  (h:nk P t [s.arg x,s.arg y]=some e) (hc:e.cond):o.wp P a w (bG w0 χ0 T0 a.tmps.size (s.app o.dst e)) Q:=by
 have hx:=r.ev x;unfold nk at h;split at h
 ·rename_i ob el z l y' heq;simp only[List.cons.injEq,and_true] at heq;obtain⟨h1,h2⟩:=St.cE heq.1;rw[h1] at hx;have hob:s.hp ob=some (.arr el z l):=by simpa [Slot.ids,Cmp.ids,Cmp.leaves,aJ.ids] using h2
  have hval:a.eval x=G.hv ob:=LRd.val hx;split at h
  ·rename_i e' z' m hel hm;split at h
   ·rename_i hcond;obtain⟨rfl,rfl⟩:=hcond;simp only[Option.some.injEq] at h;subst h;obtain⟨c1,c2⟩:=hc;have hown:Own (α:=CZ z) (ob+2) G.χ el w (a.eval x) l:=by rw[hval]; exact (r.iA ob _ hob).1
    have hsrc:=my r heq.2 hm c2;obtain⟨v',w',χ',hrun,h1,h2,h3,h4⟩:=Al (kd:=ob+2) (ty:=o.type) (eV hel) hown hsrc (by omega) (by omega) c1 r.norm;subst hcc;have hrun':(execOp a.eval o).run P w = .ok (.value v') w':=by
     simp only[execOp,ho,resolve,invoke,builtin,Sem.run_bind,Sem.run_pure,Result.andThen_ok,List.map_toArray,List.map_cons,List.map_nil,hrun]
    let χ2:Col:=fun b=>if χ' b=ob+2 then 0 else χ' b
    let G':Gh:={ χ:=χ2,bl:=G.bl,hv:=G.hv }
    have hz0:∀ b,χ' b=0->χ2 b=0:=fun b hb=>by
     show (if χ' b=ob+2 then 0 else χ' b)=0;rw[hb]; split <;> rfl
    have hown2:Own (α:=CZ z) 0 χ2 el w' v' (l++m):=h1.o8 (fun g _ _ hk=>if_pos hk) (.inl fun b _ hb=>hz0 b hb);have hrd:Rd (In χ2 0) w' (.sl (l++m)) v':=Rd.frame (fun b hb _=>⟨hb.elim id id,rfl⟩) (CI hown2);have hone:v'.oneCell'=true:=by
     obtain⟨B,cc,hv,_⟩:=h1.form;rw[hv]; rfl
    have ht:∀ i,s.hp i≠none->eM s.hp [(ob,.gone)] i≠none:=fun i hi=>by
     show Lad.upd s.hp ob _ i≠none;by_cases hio:i=ob
     ·rw[hio,bP]; simp
     ·rw[fZ _ _ hio]; exact hi
    refine yT (T:=[ob+2]) (G':=G') (w':=w') r hd hrun' ⟨fun b hb hl=>⟨hz0 b (h4 b hb hl).1,(h4 b hb hl).2⟩,fun _ _=>rfl,fun _ _=>rfl,ht⟩
     ⟨h2.os,h2.tape,h2.output,h2.size,fun b hl hb=>?_,h2.block⟩ (by simp) (fun b hb=>hz0 b (h3 b hb)) (fun i h hi=>?_) ⟨hone,fun j hj=>by simp [aJ.ids] at hj,hrd⟩
    ·have h5:=h2.col b hl hb;show (if χ' b=ob+2 then 0 else χ' b)=_;rw[if_neg (by rw[h5]; simpa using hb)]; exact h5
    ·have hi:Lad.upd s.hp ob (some .gone) i=some h:=hi;by_cases hio:i=ob
     ·subst hio;rw[bP] at hi;injection hi with hi
      subst hi;exact .inr trivial
     ·rw[fZ _ _ hio] at hi;exact .inl ⟨hi,by simp; omega⟩
   ·cases h
  ·cases h
 ·cases h
theorem FO {e:Eff} {b:BinOp} {t t':TypeId} {x y:Operand} (r:cI w0 χ0 T0 s a w G) (hd:∀ k,o.dst=some k->k<a.tmps.size) (ho:o.op = .binOp b t x y t') (h:CN P b t [s.arg x,s.arg y]=some e) :
  o.wp P a w (bG w0 χ0 T0 a.tmps.size (s.app o.dst e)) Q:=nomatch h
theorem KD {e:Eff} (r:cI w0 χ0 T0 s a w G) (hd:∀ k,o.dst=some k->k<a.tmps.size) (h:yS P o.op o.dst (aY s.hp o.dst) ((Op.bL o.op).map s.arg)=some e) (hc:e.cond):o.wp P a w (bG w0 χ0 T0 a.tmps.size (s.app o.dst e)) Q:=by
 unfold yS at h;split at h <;> rename_i hop
 ·rw[hop] at h; exact FO r hd hop (by simpa [Op.bL] using h)
 ·rw[hop] at h; exact FM r hd hop (by simpa [Op.bL] using h)
 ·rw[hop] at h; exact FL r hd hop (by simpa [Op.bL] using h) hc
 ·rw[hop] at h; exact HK r hd hop (by simpa [Op.bL] using h)
 ·rw[hop] at h; exact CQ r hd hop (by simpa [Op.bL] using h)
 ·rw[hop] at h; exact KB r hd hop (by simpa [Op.bL] using h)
 ·rename_i as ts;split at h
  ·rename_i t t' hts;split at h
   ·rename_i htt;subst htt;rw[hop] at h;have hts':ts = #[t,t]:=by rw[← Array.toArray_toList (xs:=ts),hts]
    simp only[Op.bL,List.nil_append] at h;cases hl:as.toList with
    | nil=>rw[hl] at h; simp [nk] at h
    | cons x rest=>cases rest with
     | nil=>rw[hl] at h; simp [nk] at h
     | cons y rest=>cases rest with
      | nil =>
       rw[hl] at h;refine FN (x:=x) (y:=y) (t:=t) r hd hop ?_ (by simpa using h) hc;rw[hts',← Array.toArray_toList (xs:=as),hl]
      | cons z rest=>rw[hl] at h; simp [nk] at h
   ·cases h
  ·cases h
 ·cases h
theorem FP {e:Eff} {t:TypeId} {x y z:Operand} (r:cI w0 χ0 T0 s a w G) (hd:∀ k,o.dst=some k->k<a.tmps.size) (ho:o.op = .mapUpdate t x y z) (h:yR P t [s.arg x,s.arg y,s.arg z]=some e) (hc:e.cond) :
  o.wp P a w (bG w0 χ0 T0 a.tmps.size (s.app o.dst e)) Q:=nomatch h
theorem Nf (zc:Array Value) (n z:Nat) (hz:zc.size=z) {i j:Nat} (hi:i<n) (hj:j<z):(Builtin.zeroCells zc n).toList[i * z+j]?=zc.toList[j]? := by
 have hlt:i * z+j<n * z:=by
  have:(i+1) * z<=n * z:=Nat.mul_le_mul_right _ hi;rw[Nat.add_mul] at this; omega
 simp [Builtin.zeroCells,hlt,hz,Nat.mul_add_mod_of_lt,Nat.mod_eq_of_lt hj];rw[getElem!_pos zc j (by omega),getElem?_pos zc j (by omega)]
theorem Ng {zc:Array Value} {n:Nat} (h:∀ u∈zc.toList,u.oneCell'=true):∀ u∈(Builtin.zeroCells zc n).toList,u.oneCell'=true:=by
 intro u hu;rcases Nat.eq_zero_or_pos zc.size with h0 | h0
 ·simp [Builtin.zeroCells,h0] at hu
 ·simp [Builtin.zeroCells] at hu;obtain⟨j,hj,rfl⟩:=hu;have hm:=Nat.mod_lt j h0;rw[getElem!_pos zc _ hm];exact h _ (by simp)
theorem AG {g ob:Nat} {cs:Array Value} {h:df} {c:Prop} {v:Value} (r:cI w0 χ0 T0 s a w G) (hd:∀ k,o.dst=some k->k<a.tmps.size) (hk:G.χ g=ob+2)
  (hrun:(execOp a.eval o).run P w = .ok (.value v) (w.setRow g cs)) (hh:HRd G (Lad.upd s.hp ob (some h)) (w.setRow g cs) ob h):o.wp P a w (bG w0 χ0 T0 a.tmps.size (s.app o.dst ⟨c,.dead,[(ob,h)]⟩)) Q:=by
 unfold Oper.wp;rw[hrun];refine⟨Act.ji _ _ _,G,r.upd hd (qF hk) (uW hk) (by simp) (fun b hb=>r.norm b (by simpa [World.setRow] using hb)) (fun i h' hi=>?_) trivial⟩;change Lad.upd s.hp ob (some h) i=some h' at hi;by_cases hid:i=ob
 ·subst hid;rw[bP] at hi;injection hi with hi
  subst hi;exact .inr hh
 ·rw[fZ _ _ hid] at hi;exact .inl ⟨hi,by simp; omega⟩
theorem HO {ob:Nat} {h:df} {c:Prop} {v:Value} (r:cI w0 χ0 T0 s a w G) (hd:∀ k,o.dst=some k->k<a.tmps.size)
  (hrun:(execOp a.eval o).run P w = .ok (.value v) w) (hh:s.hp ob=some h):o.wp P a w (bG w0 χ0 T0 a.tmps.size (s.app o.dst ⟨c,.dead,[(ob,h)]⟩)) Q:=by
 unfold Oper.wp;rw[hrun];have e:eM s.hp [(ob,h)]=s.hp:=by
  funext i
  show Lad.upd s.hp ob (some h) i=s.hp i;by_cases hi:i=ob
  ·rw[hi,bP,hh]
  ·rw[fZ _ _ hi]
 have e2:s.app o.dst ⟨c,.dead,[(ob,h)]⟩=s.put o.dst .dead:=by
  show ({ tm:=(s.put o.dst .dead).tm,hp:=eM s.hp [(ob,h)] }:St)=_;rw[e];unfold St.put;cases o.dst <;> rfl
 refine⟨Act.ji _ _ _,G,?_⟩;rw[e2];exact r.val hd trivial
theorem CR {e:Eff} {t:TypeId} {x:Operand} {c:Call} (r:cI w0 χ0 T0 s a w G) (hd:∀ k,o.dst=some k->k<a.tmps.size) (ho:o.op = .call c) (hcc:c = { callee := .builtin .clear,args := #[x],argTypes := #[t] })
  (h:mY P t [s.arg x]=some e) (hc:e.cond):o.wp P a w (bG w0 χ0 T0 a.tmps.size (s.app o.dst e)) Q:=by
 subst hcc;have hx:=r.ev x;unfold mY at h;split at h
 ·rename_i ob i j z e0 z' l heq;simp only[List.cons.injEq,and_true] at heq;obtain⟨h1,h2⟩:=St.cE heq;rw[h1] at hx;have hob:s.hp ob=some (.arr e0 z' l):=by simpa [Slot.ids,Cmp.ids,Cmp.leaves,aJ.ids] using h2
  obtain⟨A,n,cp,hv,hij,hjn,hnc,hval⟩:=LRd.val hx;obtain⟨hown,hbl⟩:=r.iA ob _ hob;split at h
  ·rename_i e2 z2 hel;split at h
   ·rename_i agg ps hz;split at h
    ·rename_i hcc;obtain⟨rfl,rfl,hps⟩:=hcc;simp only[Option.some.injEq] at h;subst h;obtain⟨c1,c2⟩:=hc;have hE:=eV hel;by_cases h0:j=i
     ·subst h0;have hrun:(execOp a.eval o).run P w = .ok (.value (.tuple #[])) w:=by
       have hv0:a.eval x = .slice (if cp=j then A else A.map (·.add (j * z2))) 0 (cp-j):=by rw[hval]; unfold svV; rw[Nat.sub_self]
       simp only[execOp,ho,resolve,invoke,builtin,Sem.run_bind,Sem.run_pure,Result.andThen_ok,List.map_toArray,List.map_cons,List.map_nil,hv0,Builtin.clear_];cases (if cp=j then A else A.map (·.add (j * z2))) <;> simp [run_underlying hE.ty]
      have el:l.take j++List.replicate (j-j) ps++l.drop j=l:=by simp
      rw[el];exact HO r hd hrun hob
     ·obtain⟨i1,zv,hi1,hzv,hsz,hby,hzs⟩:=hE.ex;obtain⟨hrz,hrow⟩:=uZ hz;have hzvv:zv=re agg ps:=by
       have:=hrz default;simp [zeroValue,typeInfo,hi1,hzv] at this;exact this
      have hrd:RdL (In G.χ 0) w ps zv.cells.toList:=by
       have h1:=CRd.cells (sE (G:=G) (hp:=s.hp) (w:=w) hrow);rw[← hzvv] at h1;unfold sB at h1;cases agg with
       | true=>exact yJ h1
       | false =>
        have:=hrow.2 rfl;cases ps with
        | nil=>simp at this
        | cons p r' =>
         cases r' with
         | nil=>exact yJ (xs:=[p]) h1
         | cons _ _=>simp at this
      have hown0:=hown;obtain⟨⟨xs,q1',q2⟩,q3⟩:=hown;have q1:iQ w e0 z2 (G.hv ob) (List.length (α:=List PV) l) xs:=q1';clear q1';have hxl:xs.length=l.length * z2:=q1.1;rcases q1.2 with⟨hv',hn⟩ | ⟨g,cap,cur,off,hv',hb,hgg,hcc,hm,hcs,hr⟩
      ·omega
      rw[hv] at hv';injection hv' with e1 e2 e3
      subst e1 e2 e3;have hcol:G.χ g=ob+2:=q3 g (by rw[hv]; rfl)
      let us:=(Builtin.zeroCells zv.cells (j-i)).toList
      have hzsz:zv.cells.size=z2:=hzs;have hul:us.length=(j-i) * z2:=by simp [us,Builtin.zeroCells,hzsz]
      have hij2:i * z2+(j-i) * z2=j * z2:=by rw[← Nat.add_mul]; congr 1; omega
      have hjl:j * z2<=l.length * z2:=Nat.mul_le_mul_right _ c2;have hlc:l.length * z2<=cp * z2:=Nat.mul_le_mul_right _ hcc;have hv0:a.eval x = .slice (some ⟨g,off+i * z2,none⟩) (j-i) (cp-i):=by
       rw[hval]; unfold svV
       rw[if_neg (by omega)];show Value.slice (some ((⟨g,off,none⟩:Addr).add (i * z2))) _ _=_;rw[fT]
      have hst:=iD P g (off+i * z2) e0 us 0 cur w hgg (by omega) (Ng hrd.one);simp only[Nat.add_zero] at hst;have hrun:(execOp a.eval o).run P w = .ok (.value (.tuple #[])) (w.setRow g (putAt cur.toList (off+i * z2) us).toArray):=by
       obtain⟨mm,hmm⟩:∃ mm,j-i=mm+1:=⟨j-i-1,by omega⟩;simp only[execOp,ho,resolve,invoke,builtin,Sem.run_bind,Sem.run_pure,Result.andThen_ok,List.map_toArray,List.map_cons,List.map_nil,hv0,Builtin.clear_,List.getElem?_toArray,List.getElem?_cons_zero,hmm,run_underlying hE.ty,zeroValue,typeInfo,run_program,hi1,hzv];rw[← hmm];have hst':(storeCells ⟨g,off+i * z2,none⟩ (Builtin.zeroCells zv.cells (j-i)).toList).run P w=_:=hst;simp [hst',putAt]
      refine AG r hd hcol hrun ⟨?_,hbl⟩;have hfr:∀ b,In G.χ 0 b->b<w.heap.size->In G.χ 0 b/\(w.setRow g (putAt cur.toList (off+i * z2) us).toArray).heap[b]?=w.heap[b]? :=
       fun b hb0 _=>⟨hb0,setRow_other w g b _ (fun e=>by rw[e] at hb0; have:G.χ g=0:=hb0; omega)⟩
      have hL:∀ L:List (List PV),L=l.take i++List.replicate (j-i) ps++l.drop j->Own (α:=CZ z2) (ob+2) G.χ e0 (w.setRow g (putAt cur.toList (off+i * z2) us).toArray) (G.hv ob) L:=by
       intro L hL;have hLl:List.length (α:=List PV) L=l.length:=by rw[hL]; simp; omega
       refine⟨⟨putAt xs (i * z2) us,(⟨?_,.inr ⟨g,cp,(putAt cur.toList (off+i * z2) us).toArray,off,?_,hb,hgg.set _ (by show (putAt cur.toList (off+i * z2) us).length=cur.size; rw[ja _ _ _ (by simp; omega)]; simp),?_,hm,?_,?_⟩⟩:iQ _ e0 z2 _ (List.length (α:=List PV) L) _),fun q row hq=>?_⟩,q3⟩
       ·rw[hLl,ja _ _ _ (by omega),hxl]
       ·rw[hLl,hv]
       ·omega
       ·show off+_<=(putAt cur.toList (off+i * z2) us).length;rw[ja _ _ _ (by simp; omega)]
        simpa using hcs
       ·show ((putAt cur.toList (off+i * z2) us).drop off).take (List.length (α:=List PV) L * z2)=_;rw[hLl,uV _ _ _ _ (by simp; omega),uU _ _ _ _ (by omega) (by simp; omega),hr]
       ·refine aN.frame hfr ?_;have hq':L[q]?=some (show List PV from row):=hq;show aN.rd (α:=CZ z2) _ _ (chunk z2 q (putAt xs (i * z2) us)) row;by_cases hqi:i<=q/\q<j
        ·have hrow':(show List PV from row)=ps:=by
          rw[hL,List.append_assoc,List.getElem?_append_right (by simp; omega),List.getElem?_append_left (by simp; omega)] at hq';obtain⟨_,h5⟩:=List.getElem?_eq_some_iff.1 hq'
          simpa using h5.symm
         have hch:chunk z2 q (putAt xs (i * z2) us)=zv.cells.toList:=by
          apply List.ext_getElem?;intro mq;unfold chunk;rw[List.getElem?_take];split
          ·rename_i hmq;have h6:q * z2=i * z2+(q-i) * z2:=by rw[← Nat.add_mul]; congr 1; omega
           have h7:(q-i+1) * z2<=(j-i) * z2:=Nat.mul_le_mul_right _ (by omega);rw[Nat.add_mul] at h7;rw[List.getElem?_drop,jR _ _ _ (by omega),if_pos (by omega),show q * z2+mq-i * z2=(q-i) * z2+mq by omega];exact Nf zv.cells (j-i) z2 hzsz (by omega) hmq
          ·rw[List.getElem?_eq_none (by simp; omega)]
         rw[hch];have h8:row=ps:=hrow';subst h8;exact⟨by simpa using hzsz,hrd⟩
        ·have hch:chunk z2 q (putAt xs (i * z2) us)=chunk z2 q xs:=by
          apply List.ext_getElem?;intro mq;unfold chunk;rw[List.getElem?_take,List.getElem?_take];split
          ·rename_i hmq;rw[List.getElem?_drop,List.getElem?_drop,jR _ _ _ (by omega),if_neg];intro ⟨h6,h7⟩;rcases Nat.lt_or_ge q i with h8 | h8
           ·have:(q+1) * z2<=i * z2:=Nat.mul_le_mul_right _ (by omega);rw[Nat.add_mul] at this; omega
           ·have:j * z2<=q * z2:=Nat.mul_le_mul_right _ (by omega);omega
          ·rfl
         rw[hch];refine q2 q row ?_;show l[q]?=some (show List PV from row);rw[hL] at hq';rcases Nat.lt_or_ge q i with h8 | h8
         ·rw[List.append_assoc,List.getElem?_append_left (by simp; omega),List.getElem?_take,if_pos h8] at hq';exact hq'
         ·rw[List.getElem?_append_right (by simp; omega),List.getElem?_drop] at hq';rw[← hq']; congr 1; simp; omega
      exact hL _ rfl
    ·cases h
   ·cases h
  ·cases h
 ·cases h
theorem KG {z k:Nat} {χ:Col} {e:TypeId} {w':World} {v':Value} {l m:List (List PV)} {xs news:List Value} (h1:iQ w' e z v' (l.length+m.length) (xs++news)) (hxl:xs.length=l.length * z)
  (hx:∀ (i:Nat) x,l[i]?=some x->aN.rd (α:=CZ z) (In χ 0) w' (chunk z i xs) x) (hn:∀ (i:Nat) x,m[i]?=some x->aN.rd (α:=CZ z) (In χ 0) w' (chunk z i news) x) (hcol:∀ g,v'.ownBlock=some g->χ g=k):Own (α:=CZ z) k χ e w' v' (l++m):=by
 refine⟨⟨xs++news,(by rw[List.length_append]; exact h1:iQ w' e z v' (List.length (α:=List PV) (l++m)) (xs++news)),fun j x hj=>?_⟩,hcol⟩;have hj0:(l++m)[j]?=some (show List PV from x):=hj;rcases Nat.lt_or_ge j l.length with hjl | hjl
 ·have hj':l[j]?=some (show List PV from x):=by rw[← List.getElem?_append_left (l₂:=m) hjl]; exact hj0
  have e1:chunk z j (xs++news)=chunk z j xs:=by
   unfold chunk;have:j * z+z<=xs.length:=by
    rw[hxl,← Nat.succ_mul]; exact Nat.mul_le_mul_right _ hjl
   rw[List.drop_append_of_le_length (by omega),List.take_append_of_le_length (by rw[List.length_drop]; omega)]
  rw[show aN.sz (CZ z)=z from rfl,e1]; exact hx j _ hj'
 ·have hj':m[j-l.length]?=some (show List PV from x):=by rw[← List.getElem?_append_right (l₁:=l) hjl]; exact hj0
  have e1:chunk z j (xs++news)=chunk z (j-l.length) news:=by
   unfold chunk;have:j * z=xs.length+(j-l.length) * z:=by
    rw[hxl,← Nat.add_mul]; congr 1; omega
   rw[this,List.drop_append,Nat.add_sub_cancel_left,List.drop_of_length_le (Nat.le_add_right _ _),List.nil_append]
  rw[show aN.sz (CZ z)=z from rfl,e1];exact hn _ _ hj'
theorem FQ {e:Eff} {t:TypeId} {x y:Operand} {c:Call} (r:cI w0 χ0 T0 s a w G) (hd:∀ k,o.dst=some k->k<a.tmps.size) (ho:o.op = .call c) (hcc:c = { callee := .builtin .append,args := #[x,y],argTypes := #[t,t] })
  (h:lR P t o.dst (aY s.hp o.dst) [s.arg x,s.arg y]=some e) (hc:e.cond):o.wp P a w (bG w0 χ0 T0 a.tmps.size (s.app o.dst e)) Q:=by
 subst hcc;have hx:=r.ev x;unfold lR at h;split at h
 ·rename_i l _ y' heq;simp only[List.cons.injEq,and_true] at heq;rw[(St.cE heq.1).1] at hx;split at h
  ·rename_i el z m d hel hm hdst;split at h
   ·rename_i hfree;simp only[Option.some.injEq] at h;subst h;obtain⟨c1,c2,c3,c4,c5⟩:=hc;rw[hdst] at hfree;have hf:s.hp d=none/\d<1000000:=by simpa [aY] using hfree
    have hsrc:=my r heq.2 hm c5;obtain⟨hrd,htight⟩:Rd (In G.χ 0) w (.sl l) (a.eval x)/\_:=LRd.val hx;obtain⟨A,cp,xs,hv,n1,n2,n3,n4,n5⟩:=Ht hrd (fun _ h=>h) c4;have hcp:=htight _ _ _ hv;subst hcp;obtain⟨B,cb,news,hvy,m1,m2,m3,m4,m5⟩:=hsrc;cases A with
    | none=>exact absurd (n4 rfl) c2
    | some ad =>
    cases B with
    | none=>exact absurd (m4 rfl) c3
    | some bd =>
    have hE:=eV hel;obtain⟨i1,zv,hi1,hzv,hsz,hby,hzs⟩:=hE.ex;have hml:0<m.length:=List.length_pos_iff.2 c3;have hr:=run_append_grow (P:=P) w t o.type el i1 zv hE.ty hi1 hzv ad l.length l.length xs (by rw[hsz]; exact n1) (n5 ad rfl) bd m.length cb news (by rw[hsz]; exact m1) (m5 bd rfl) (by omega) (by omega) (growslice_fits (by omega) (Nat.le_trans (Nat.mul_le_mul c1 hby) (by omega)));have hge:=grownCap_ge w (l.length+m.length) l.length el;have hcm':grownCap w (l.length+m.length) l.length el<=maxLen:=grownCap_le_maxLen w (l.length+m.length) l.length el (by simp only[maxLen]; omega);generalize grownCap w (l.length+m.length) l.length el=q at hr hge hcm'
    let X:Obj := .cells (xs.toArray++news.toArray++Builtin.zeroCells zv.cells (q-(l.length+m.length))) el
    have hrun:(execOp a.eval o).run P w = .ok (.value (.slice (some ⟨w.heap.size,0,none⟩) (l.length+m.length) q)) (w.drew.alloc X):=by
     simp only[execOp,ho,resolve,invoke,builtin,Sem.run_bind,Sem.run_pure,Result.andThen_ok,List.map_toArray,List.map_cons,List.map_nil,hv,hvy,hr];rfl
    have hblk:∀ b,b<w.heap.size->(w.drew.alloc X).heap[b]?=w.heap[b]? := fun b hb=>heap_alloc_old w.drew X hb
    let hw:Value := .slice (some ⟨w.heap.size,0,none⟩) (l.length+m.length) q
    let G':=G.add d w.heap.size hw
    have hfr:∀ b,In G.χ 0 b->b<w.heap.size->In G'.χ 0 b/\(w.drew.alloc X).heap[b]?=w.heap[b]? := fun b hb hl=>⟨by
     show (if b=w.heap.size then d+2 else G.χ b)=0;rw[if_neg (by omega)]; exact hb,hblk b hl⟩
    have hlen:(xs++news).length=(l.length+m.length) * z:=by rw[List.length_append,n1,m1,Nat.add_mul]
    have hnew:Own (α:=CZ z) (d+2) G'.χ el (w.drew.alloc X) hw (l++m):=by
     refine KG (xs:=xs) (news:=news) ⟨hlen,.inr ⟨w.heap.size,q,_,0,rfl,Nat.zero_le _,.of (heap_alloc_new w.drew _),hge,hcm',?_,?_⟩⟩ n1 (fun i x hx=>aN.frame hfr (n3 i x hx)) (fun i x hx=>aN.frame hfr (m3 i x hx)) (fun g hg=>?_)
     ·have h9:(l.length+m.length) * z+(q-(l.length+m.length)) * z=q * z:=by rw[← Nat.add_mul]; congr 1; omega
      simp only[Array.size_append,List.size_toArray,size_zeroCells,hzs,n1,m1];rw[Nat.zero_add,← Nat.add_mul];exact Nat.le_of_eq h9.symm
     ·rw[List.drop_zero];simp only[Array.toList_append,List.append_assoc];rw[← List.append_assoc,← hlen];exact List.take_left
     ·simp [hw,Value.ownBlock] at hg;subst hg;show (if w.heap.size=w.heap.size then d+2 else _)=d+2;rw[if_pos rfl]
    refine yT (T:=[]) (G':=G') (w':=w.drew.alloc X) r hd hrun ⟨hfr,fun i hi=>fZ _ _ (fun e=>hi.elim (fun hi=>hi (by rw[e]; exact hf.1)) fun hi=>by omega),fun i hi=>fZ _ _ (fun e=>hi.elim (fun hi=>hi (by rw[e]; exact hf.1)) fun hi=>by omega),mz _ _⟩
     ⟨rfl,rfl,rfl,by simp,fun b hl _=>if_neg (by omega),fun b hl _=>hblk b hl⟩ (by simp) (fun b hb=>?_) (fun i h hi=>?_) ⟨rfl,fun j hj=>?_,?_⟩
    ·have hb':w.heap.size+1<=b:=by simpa using hb
     show (if b=w.heap.size then d+2 else G.χ b)=0;rw[if_neg (by omega)]; exact r.norm b (by omega)
    ·have hi:Lad.upd s.hp d (some (.arr el z (l++m))) i=some h:=hi;by_cases hid:i=d
     ·subst hid;rw[bP] at hi;injection hi with hi
      subst hi;refine .inr ⟨?_,fun b hb=>?_⟩
      ·show Own (α:=CZ z) (i+2) _ el _ (Lad.upd G.hv i hw i) (l++m);rw[bP]; exact hnew
      ·change (Lad.upd G.hv i hw i).ownBlock=some b at hb;rw[bP] at hb;simp [hw,Value.ownBlock] at hb;show b=Lad.upd G.bl i w.heap.size i;rw[bP]; exact hb.symm
     ·rw[fZ _ _ hid] at hi;exact .inl ⟨hi,by simp⟩
    ·simp [aJ.ids] at hj;subst hj;show Lad.upd s.hp j _ j≠none;rw[bP]; simp
    ·exact (bP G.hv d hw).symm
   ·cases h
  ·cases h
 ·cases h
theorem AH:∀ (xs:List Operand) (cs:List aJ),cI w0 χ0 T0 s a w G->n0 (xs.map s.ev)=some cs->eu (LRd G s.hp w) cs ((xs.map a.eval).flatMap fun v=>v.cells.toList)/\cs.length=xs.length/\∀ v∈xs.map a.eval,v.cells.size=1
 | [],cs,r,h=>by
  simp only[List.map_nil,n0,Option.some.injEq] at h;subst h;exact⟨⟨rfl,by simp⟩,rfl,by simp⟩
 | x::xs,cs,r,h=>by
  have hx:=r.ev x;rw[List.map_cons] at h;unfold n0 at h;split at h
  ·rename_i heq; cases heq
  ·rename_i l rest heq;simp only[List.cons.injEq] at heq;obtain⟨e1,rfl⟩:=heq;rw[e1] at hx;split at h
   ·rename_i l' hl';simp only[Option.some.injEq] at h;subst h;obtain⟨i1,i2,i3⟩:=AH xs l' r hl';have hc:eu (LRd G s.hp w) [l] (a.eval x).cells.toList:=CRd.cells (show CRd G s.hp w (.v l) (a.eval x) from hx);have hsz:(a.eval x).cells.size=1:=by have:=hc.1; simpa using this.symm
    refine⟨?_,by simp [i2],fun v hv=>?_⟩
    ·rw[List.map_cons,List.flatMap_cons];exact hc.append i1
    ·rw[List.map_cons] at hv;rcases List.mem_cons.1 hv with rfl | hv
     ·exact hsz
     ·exact i3 v hv
   ·cases h
  ·cases h
theorem xe {e:Eff} {t:TypeId} {n:Nat} {ps:Array (Nat×Operand)} (r:cI w0 χ0 T0 s a w G) (hd:∀ k,o.dst=some k->k<a.tmps.size) (ho:o.op = .buildSlice t n ps)
  (h:fp P t n (ps.toList.map (·.1)) o.dst (aY s.hp o.dst) ((ps.toList.map (·.2)).map s.ev)=some e):o.wp P a w (bG w0 χ0 T0 a.tmps.size (s.app o.dst e)) Q:=by
 cases hdst:o.dst with
 | none=>simp [fp,hdst] at h
 | some d =>
 cases hel:dy P t with
 | none=>simp [fp,hel] at h
 | some ez =>
 obtain⟨el,z⟩:=ez;simp only[fp,hdst,hel] at h;split at h
 ·rename_i hc;obtain⟨h1,h2,h3,rfl⟩:=hc;split at h
  ·rename_i cs hl;simp only[Option.some.injEq] at h;subst h;have hf':s.hp d=none/\d<1000000:=by simpa [aY] using h2
   obtain⟨hrd,hlen,hvz⟩:=AH _ cs r hl;have hE:=eV hel;obtain⟨i,zv,hi,hz,hsz,hby,hzs⟩:=hE.ex;have hn:cs.length=n:=by
    have:=congrArg List.length h1;rw[hlen]; simpa using this
   have hrun:(execOp a.eval o).run P w = .ok (.value (.slice (some ⟨w.heap.size,0,none⟩) cs.length cs.length)) (w.alloc (.cells (((ps.toList.map (·.2)).map a.eval).flatMap fun v=>v.cells.toList).toArray el)):=by
    have hlv:((ps.toList.map (·.2)).map a.eval).length=n:=by rw[List.length_map,← hlen]; exact hn
    have e1:(ps.map fun (i,x)=>(i,a.eval x)).toList=(((ps.toList.map (·.2)).map a.eval).zipIdx 0).map fun x=>(x.2,x.1):=by
     rw[← sC,hlv,← h1,Array.toList_map,List.map_map,List.zip_map']; rfl
    rw[hn];generalize (ps.toList.map (·.2)).map a.eval=vs at *
    have hbs:(Instr.buildSlice t n (ps.map fun (i,x)=>(i,a.eval x))).run P w = .ok (.slice (some ⟨w.heap.size,0,none⟩) n n) (w.alloc (.cells (vs.flatMap fun v=>v.cells.toList).toArray el)):=by
     by_cases hn0:n=0
     ·have hvs:vs=[]:=List.eq_nil_of_length_eq_zero (by rw[hlv,hn0]);subst hvs;subst hn0;have hps:ps = #[]:=by
       have:=congrArg List.length h1
       simpa using this
      subst hps;simp [Instr.buildSlice,run_underlying hE.ty,sizeOf,typeInfo,hi,Instr.fill,newRow];rw[show Array.range 0 = #[] from Array.eq_empty_of_size_eq_zero (by simp)];rw[Array.map_empty]
     ·refine run_buildSlice w t el n _ _ i zv hE.ty hi hz ?_ ?_ ?_
      ·rw[hsz]; omega
      ·rw[hsz]; omega
      ·rw[e1,hsz];exact Great.fill_whole hE.pos vs _ hvz (by simp [hlv])
    simp only[execOp,ho,Sem.run_bind,hbs,Result.andThen_ok,Sem.run_pure]
   rw[← hdst];have hext:=Ext.new r.norm hf' (.cells (((ps.toList.map (·.2)).map a.eval).flatMap fun v=>v.cells.toList).toArray el) (.slice (some ⟨w.heap.size,0,none⟩) cs.length cs.length) (.lit el cs);refine o6 r hd hf' (.slice (some ⟨w.heap.size,0,none⟩) cs.length cs.length) hrun ⟨rfl,fun j hj=>?_,?_⟩ ⟨_,?_,?_,hrd.mono fun x v hx=>hx.ext hext,?_,by omega⟩
   ·simp [aJ.ids] at hj; subst hj; rw[bP]; simp
   ·exact (bP G.hv d _).symm
   ·show Blk _ (Lad.upd G.bl d w.heap.size d) el _;rw[bP];exact heap_alloc_new w _
   ·show (if Lad.upd G.bl d w.heap.size d=w.heap.size then d+2 else _)=d+2;rw[bP,if_pos rfl]
   ·show Lad.upd G.hv d _ d = .slice (some ⟨Lad.upd G.bl d w.heap.size d,0,none⟩) _ _;rw[bP,bP]
  ·cases h
 ·cases h
theorem HS {e:Eff} {t:TypeId} {x:Operand} {c:Call} (r:cI w0 χ0 T0 s a w G) (hd:∀ k,o.dst=some k->k<a.tmps.size) (ho:o.op = .call c) (hcc:c = { callee := .builtin .cap,args := #[x],argTypes := #[t] })
  (h:Ef P t [s.ev x]=some e):o.wp P a w (bG w0 χ0 T0 a.tmps.size (s.app o.dst e)) Q:=nomatch h
theorem FR {e:Eff} {t t':TypeId} {x y:Operand} {c:Call} (r:cI w0 χ0 T0 s a w G) (hd:∀ k,o.dst=some k->k<a.tmps.size) (ho:o.op = .call c) (hcc:c = { callee := .builtin .append,args := #[x,y],argTypes := #[t,t'] })
  (h:pe P t t' o.dst (aY s.hp o.dst) [s.arg x,s.arg y]=some e) (hc:e.cond):o.wp P a w (bG w0 χ0 T0 a.tmps.size (s.app o.dst e)) Q:=nomatch h
theorem FT {e:Eff} {t t':TypeId} {x y:Operand} {c:Call} (r:cI w0 χ0 T0 s a w G) (hd:∀ k,o.dst=some k->k<a.tmps.size) (ho:o.op = .call c) (hcc:c = { callee := .builtin .append,args := #[x,y],argTypes := #[t,t'] })
  (h:kL P t t' o.dst (aY s.hp o.dst) [s.arg x,s.arg y]=some e) (hc:e.cond):o.wp P a w (bG w0 χ0 T0 a.tmps.size (s.app o.dst e)) Q:=by
 have hx:=r.ev x;have hy:=r.ev y;cases hdst:o.dst with
 | none=>unfold kL at h; split at h <;> (try split at h) <;> simp_all
 | some d =>
 rw[hdst] at h;have hfr:aY s.hp (some d)=true->s.hp d=none/\d<1000000:=fun h=>by simpa [aY] using h
 rw[← hdst];unfold kL at h;split at h
 ·rename_i ob el z l sx _ heq;simp only[List.cons.injEq,and_true] at heq;obtain⟨h1,h2⟩:=St.cE heq.1;rw[h1] at hx;rw[(St.cE heq.2).1] at hy;have hob:s.hp ob=some (.arr el z l):=by simpa [Slot.ids,Cmp.ids,Cmp.leaves,aJ.ids] using h2
  have hval:a.eval x=G.hv ob:=LRd.val hx;have hvy:a.eval y = .string sx:=(ka hy).1;split at h
  ·rename_i e' z' d' hu hel hdd;injection hdd with hdd
   subst hdd;split at h
   ·rename_i hcond;obtain⟨rfl,rfl,rfl,hfree⟩:=hcond;simp only[Option.some.injEq] at h;subst h;exact sD r hd ho hcc (hfr hfree) (by rw[hval,hvy]; exact Am (eV hel) hu (r.iA ob _ hob).1 (by omega) hc r.norm) (.inl rfl)
   ·cases h
  ·cases h
 ·rename_i _ sx _ heq;simp only[List.cons.injEq,and_true] at heq;rw[(St.cE heq.1).1] at hx;rw[(St.cE heq.2).1] at hy;have hvy:a.eval y = .string sx:=(ka hy).1;split at h
  ·rename_i e' z' d' hu hel hdd;injection hdd with hdd
   subst hdd;split at h
   ·rename_i hcond;obtain⟨rfl,hfree⟩:=hcond;simp only[Option.some.injEq] at h;subst h;have hn:=(hfr hfree).1;have hown:Own (α:=CZ 1) (d+2) G.χ e' w (a.eval x) []:=by rw[k9 hx]; exact Own.nil _ _ _ _
    exact sD (ob:=d) (l:=[]) r hd ho hcc (hfr hfree) (by rw[hvy]; exact Am (eV hel) hu hown (by omega) (by simpa using hc) r.norm) (.inr ⟨rfl,hn⟩)
   ·cases h
  ·cases h
 ·cases h
theorem FU {e:Eff} {t t':TypeId} {x y:Operand} {c:Call} (r:cI w0 χ0 T0 s a w G) (hd:∀ k,o.dst=some k->k<a.tmps.size) (ho:o.op = .call c) (hcc:c = { callee := .builtin .append,args := #[x,y],argTypes := #[t,t'] })
  (h:mD P t t' o.dst (aY s.hp o.dst) [s.arg x,s.arg y]=some e) (hc:e.cond):o.wp P a w (bG w0 χ0 T0 a.tmps.size (s.app o.dst e)) Q:=by
 unfold mD at h;split at h
 ·rename_i e' he;injection h with h
  subst h;exact FR r hd ho hcc he hc
 ·exact FT r hd ho hcc h hc
theorem Nh {e:Eff} (r:cI w0 χ0 T0 s a w G) (hd:∀ k,o.dst=some k->k<a.tmps.size) (h:opV P o.op o.dst (aY s.hp o.dst) ((Op.bL o.op).map s.arg)=some e) (hc:e.cond):o.wp P a w (bG w0 χ0 T0 a.tmps.size (s.app o.dst e)) Q:=by
 have hm:((Op.bL o.op).map s.arg).map (·.1)=(Op.bL o.op).map s.ev:=by rw[List.map_map]; rfl
 unfold opV at h;rw[hm] at h;split at h <;> rename_i hop
 ·rw[hop] at h; exact FJ r hd hop (by simpa [Op.bL] using h) hc
 ·rw[hop] at h; exact CO r hd hop (by simpa [Op.bL] using h)
 ·rw[hop] at h; exact FP r hd hop (by simpa [Op.bL] using h) hc
 ·rename_i as ts;split at h
  ·rename_i t hts;rw[hop] at h;have hts':ts = #[t]:=by rw[← Array.toArray_toList (xs:=ts),hts]
   simp only[Op.bL,List.nil_append] at h;cases hl:as.toList with
   | nil=>rw[hl] at h; simp [mY] at h
   | cons x rest=>cases rest with
    | nil =>
     rw[hl] at h;refine CR (x:=x) (t:=t) r hd hop ?_ (by simpa using h) hc;rw[hts',← Array.toArray_toList (xs:=as),hl]
    | cons y rest=>rw[hl] at h; simp [mY] at h
  ·cases h
 ·rw[hop] at h; exact xd r hd hop (by simpa [Op.bL] using h)
 ·rw[hop] at h; exact ua r hd hop (by simpa [Op.bL] using h) hc
 ·rename_i as ts;split at h
  ·rename_i t u hts;rw[hop] at h;have hts':ts = #[t,u]:=by rw[← Array.toArray_toList (xs:=ts),hts]
   simp only[Op.bL,List.nil_append] at h;cases hl:as.toList with
   | nil=>rw[hl] at h; simp [vk] at h
   | cons x rest=>cases rest with
    | nil=>rw[hl] at h; simp [vk] at h
    | cons y rest=>cases rest with
     | nil =>
      rw[hl] at h;refine FI (x:=x) (y:=y) (t:=t) (u:=u) r hd hop ?_ (by simpa using h) hc;rw[hts',← Array.toArray_toList (xs:=as),hl]
     | cons z rest=>rw[hl] at h; simp [vk] at h
  ·cases h
 ·rename_i as ts;split at h
  ·rename_i t t' hts;have hts':ts = #[t,t']:=by rw[← Array.toArray_toList (xs:=ts),hts]
   rw[hop] at h;simp only[Op.bL,List.nil_append] at h;cases hl:as.toList with
   | nil=>rw[hl] at h; simp [lR,mD,kL,pe] at h
   | cons x rest=>cases rest with
    | nil=>rw[hl] at h; simp [lR,mD,kL,pe] at h
    | cons y rest=>cases rest with
     | nil =>
      rw[hl] at h;have has:as = #[x,y]:=by rw[← Array.toArray_toList (xs:=as),hl]
      split at h
      ·rename_i htt;subst htt;exact FQ (x:=x) (y:=y) (t:=t) r hd hop (by rw[hts',has]) (by simpa using h) hc
      ·exact FU (x:=x) (y:=y) (t:=t) (t':=t') r hd hop (by rw[hts',has]) (by simpa using h) hc
     | cons z rest=>rw[hl] at h; simp [lR,mD,kL,pe] at h
  ·cases h
 ·rename_i as ts;split at h
  ·rename_i t hts;rw[hop] at h;have hts':ts = #[t]:=by rw[← Array.toArray_toList (xs:=ts),hts]
   simp only[Op.bL,List.nil_append] at h;cases hl:as.toList with
   | nil=>rw[hl] at h; simp [Ef] at h
   | cons x rest=>cases rest with
    | nil =>
     rw[hl] at h;refine HS (x:=x) (t:=t) r hd hop ?_ (by simpa using h);rw[hts',← Array.toArray_toList (xs:=as),hl]
    | cons y rest=>rw[hl] at h; simp [Ef] at h
  ·cases h
 ·rw[hop] at h; exact xe r hd hop (by simpa [Op.bL,List.map_map,Function.comp_def] using h)
 ·cases h
theorem Ni {e:Eff} (r:cI w0 χ0 T0 s a w G) (hd:∀ k,o.dst=some k->k<a.tmps.size) (h:opY P o.op o.dst (aY s.hp o.dst) ((Op.bL o.op).map s.arg)=some e) (hc:e.cond):o.wp P a w (bG w0 χ0 T0 a.tmps.size (s.app o.dst e)) Q:=by
 unfold opY at h;split at h <;> rename_i hop <;> first | exact Nh r hd (by rw[hop]; rw[hop] at h; exact h) hc | exact Ky r hd h hc
end
end Go.Lad
