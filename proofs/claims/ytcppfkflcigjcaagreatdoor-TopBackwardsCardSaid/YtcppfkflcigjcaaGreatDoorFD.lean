import Derived.Test.YtcppfkflcigjcaaGreatDoorFC
import Derived.Lib.ConvBytes
import Derived.Lib.SliceRun
import Derived.Lib.AppendZeros
import Derived.Orders
set_option linter.unusedVariables false
set_option linter.unusedSimpArgs false
set_option linter.unusedSectionVars false
namespace Go.Lad
open Go.RowKit
def xq (P:Program) (t:TypeId) (dst:Option Nat) (free:Bool):List Arg->Option Eff:=fun _=>none
def tW (P:Program) (t:TypeId):List Arg->Option Eff:=fun _=>none
def xr (P:Program) (t u:TypeId):List Arg->Option Eff:=fun _=>none
def Qx (P:Program) (src dst:TypeId) (d:Option Nat) (free:Bool):List Arg->Option Eff:=fun _=>none
section
variable {α β:Type} {kv:α->Value} {vf:β->Value} {w w':World} {b:Nat} {es:Array MapEntry} {clock:Nat} {m:List (α×β)} {P:Program} {t kt et:TypeId} [DecidableEq α]
theorem MP (m:List (α×β)) (x:α) (y:β):pos ((fa m x y).map (·.1)) x=some ((pos (m.map (·.1)) x).getD m.length):=by
 unfold fa;cases hp:pos (m.map (·.1)) x with
 | some i =>
  dsimp only;have h1:=(iu hp).1;have e:(m.set i (x,y)).map (·.1)=m.map (·.1):=by
   rw[List.map_set];apply List.ext_getElem?;intro j;rw[List.getElem?_set];split
   ·rename_i hij;subst hij;have hl:=mV hp;rw[if_pos hl,h1]
   ·rfl
  rw[e,hp]; rfl
 | none =>
  dsimp only;rw[List.map_append,wT,hp];simp [pos]
theorem fW.entry (h:fW kv vf w b es clock m) (K:KeyLaw P kt kv) (ht:P.underlying t=some (.map kt et)) {z0:β} (hz:∀ w,(zeroValue et).run P w = .ok (vf z0) w) (x:α) :
  ∃ es' clock' e' i,(Instr.mapEntry t (.map (some b)) (kv x)).run P w = .ok (.tuple #[vf ((bG m x).getD z0),.int .i64 (e':MapEntry).born]) (fb w b es' clock')/\fW kv vf (fb w b es' clock') b es' clock' (fa m x ((bG m x).getD z0)) /\
   pos ((fa m x ((bG m x).getD z0)).map (·.1)) x=some i/\es'.toList[i]?=some e':=by
 have hf:=K.find x es.toList _ h.keys w;have hg:(getObj b).run P w = .ok (.map es clock) w:=by simp [getObj,Sem.run,h.at_]
 have hs:∀ es' c',(setObj b (.map es' c')).run P w = .ok () (fb w b es' c'):=by
  intro es' c';simp [setObj,Sem.run,h.at_,Lad.fb]
 have hlt:=h.lt;have hpp:=MP m x ((bG m x).getD z0);cases hp:pos (m.map (·.1)) x with
 | none =>
  simp only[hp,Option.map_none] at hf;have hlk:bG m x=none:=by simp [bG,hp]
  rw[hlk,Option.getD_none] at hpp ⊢;refine⟨es.push { key:=kv x,val:=vf z0,born:=clock },clock+1,{ key:=kv x,val:=vf z0,born:=clock },m.length,?_,⟨nN _ _ _ _ hlt,?_,?_,?_,se h.uniq x z0⟩,?_,?_⟩
  ·simp only[Instr.mapEntry,Sem.run_bind,run_underlying ht,Result.andThen_ok,hg,K.chk,hf,hs,hz,Sem.run_pure,goInt]
  ·simp [fa,hp,h.eq]
  ·intro e he;simp only[Array.toList_push,List.mem_append,List.mem_singleton] at he;rcases he with he | rfl
   ·have:=h.born e he; omega
   ·exact Nat.lt_succ_self _
  ·simp only[Array.toList_push,List.map_append,List.map_cons,List.map_nil];rw[List.nodup_append];refine⟨h.apart,by simp,?_⟩;intro a ha c hc;simp only[List.mem_singleton] at hc;subst hc;obtain⟨e,he,rfl⟩:=List.mem_map.1 ha;have:=h.born e he;omega
  ·rw[hpp,hp]; rfl
  ·rw[← h.len]; simp
 | some i =>
  simp only[hp,Option.map_some] at hf;have hl:=mV hp;rw[List.length_map,← h.len] at hl;have hkey:(es[i]).key=kv x:=by
   have h1:=congrArg (fun l=>l[i]?) h.keys;rw[List.getElem?_map,List.getElem?_map,(iu hp).1] at h1
   simpa [hl] using h1
  have hm:i<m.length:=by rw[← h.len]; exact hl
  have hmi:m[i]?=some m[i]:=List.getElem?_eq_getElem hm;have hm1:(m[i]).1=x:=by
   have:=(iu hp).1;rw[List.getElem?_map,hmi] at this
   simpa using this
  have hlk:bG m x=some m[i].2:=by simp [bG,hp,hmi]
  have hput:fa m x ((bG m x).getD z0)=m:=by
   rw[hlk,Option.getD_some];unfold fa;rw[hp];dsimp only;apply List.ext_getElem?;intro j;rw[List.getElem?_set];split
   ·rename_i hij;subst hij;rw[hmi,← hm1]
   ·rfl
  have hmod:es.modify i (fun e=>{ e with key:=kv x })=es:=by
   apply Array.ext
   ·simp
   ·intro j h1 h2;rw[Array.getElem_modify];split
    ·rename_i hij;subst hij;exact congrArg (fun q=>MapEntry.mk q es[i].val es[i].born) hkey.symm
    ·rfl
  have hval:=h.val i _ hmi;rw[hput];refine⟨es,clock,es[i],i,?_,⟨nN _ _ _ _ hlt,h.eq,h.born,h.apart,h.uniq⟩,hp,by simp [hl]⟩;have hst:(((es[i]?).map (·.key)).getD (kv x))=kv x:=by simp [hl,hkey]
  have hb2:(((es[i]?).map (·.born)).getD 0)=es[i].born:=by simp [hl]
  simp only[Instr.mapEntry,Sem.run_bind,run_underlying ht,Result.andThen_ok,hg,K.chk,hf,hst,Instr.keyThatStays,K.same,if_true,Sem.run_pure,hmod,hs,hb2,goInt,hval,hlk,Option.getD_some];simp [hl]
theorem fW.entryStore (h:fW kv vf w b es clock m) {x:α} {i:Nat} {e:MapEntry} (hp:pos (m.map (·.1)) x=some i) (he:es.toList[i]?=some e) (y:β) :
  (Instr.entryStore t (.map (some b)) (.int .i64 e.born) (vf y)).run P w = .ok () (fb w b (es.modify i fun e=>{ e with val:=vf y }) clock)/\fW kv vf (fb w b (es.modify i fun e=>{ e with val:=vf y }) clock) b (es.modify i fun e=>{ e with val:=vf y }) clock (fa m x y):=by
 have hg:(getObj b).run P w = .ok (.map es clock) w:=by simp [getObj,Sem.run,h.at_]
 have hs:∀ es' c',(setObj b (.map es' c')).run P w = .ok () (fb w b es' c'):=by
  intro es' c';simp [setObj,Sem.run,h.at_,Lad.fb]
 have hlt:=h.lt;obtain⟨hil,hie⟩:=List.getElem?_eq_some_iff.1 he;have hl:i<es.size:=by simpa using hil
 have hie':es[i]=e:=by simpa using hie
 have hfi:es.findIdx? (fun e'=>((e'.born:Int) == (e.born:Int)))=some i:=by
  rw[Array.findIdx?_eq_some_iff_getElem];refine⟨hl,by rw[hie']; simp,fun j hj=>?_⟩;simp only[beq_iff_eq];intro hh;have hh:es[j].born=e.born:=by omega
  have hn:=h.apart;have:=(List.getElem_inj hn (i:=j) (j:=i) (h₀:=by simp; omega) (h₁:=by simp; omega)).1 (by simp only[List.getElem_map,Array.getElem_toList]; rw[hh,hie']);omega
 have hkey:(es[i]).key=kv x:=by
  have h1:=congrArg (fun l=>l[i]?) h.keys;rw[List.getElem?_map,List.getElem?_map,(iu hp).1] at h1
  simpa [hl] using h1
 have hmod:(es.modify i fun e=>{ e with val:=vf y }).toList=es.toList.set i { es[i] with val:=vf y }:=by
  apply List.ext_getElem
  ·simp
  ·intro j h1 h2;simp only[Array.getElem_toList,List.getElem_set];rw[Array.getElem_modify];split <;> simp_all
 refine⟨?_,⟨nN _ _ _ _ hlt,?_,?_,?_,se h.uniq x y⟩⟩
 ·simp only[Instr.entryStore,Sem.run_bind,hg,Result.andThen_ok,asInt,asIntOf,Sem.run_pure,hfi,hs]
 ·simp only[fa,hp,hmod,List.map_set,h.eq,hkey]
 ·intro e' he';rw[hmod] at he';rcases List.mem_or_eq_of_mem_set he' with he' | rfl
  ·exact h.born e' he'
  ·exact h.born (es[i]) (by simp)
 ·rw[hmod,List.map_set];have:(es.toList.map (·.born)).set i (es[i]).born=es.toList.map (·.born):=by
   apply List.ext_getElem
   ·simp
   ·intro j h1 h2;simp only[List.getElem_set,List.getElem_map,Array.getElem_toList];split <;> simp_all
  rw[this]; exact h.apart
end
section
variable {P:Program} {w0:World} {χ0:Col} {T0:Ctx} {s:St} {a:Act} {w:World} {G:Gh} {o:Oper} {Q:Exit->Act->World->Prop}
theorem zf {e:Eff} {t:TypeId} {x y:Operand} (r:bP w0 χ0 T0 s a w G) (hd:∀ k,o.dst=some k->k<a.tmps.size) (ho:o.op = .mapEntry t x y) (h:xq P t o.dst (aF s.hp o.dst) [s.arg x,s.arg y]=some e) :
  o.wp P a w (aX w0 χ0 T0 a.tmps.size (s.app o.dst e)) Q:=nomatch h
theorem wq {e:Eff} {t:TypeId} {x y z:Operand} (r:bP w0 χ0 T0 s a w G) (hd:∀ k,o.dst=some k->k<a.tmps.size) (ho:o.op = .entryStore t x y z) (h:tW P t [s.arg x,s.arg y,s.arg z]=some e) (hc:e.cond) :
  o.wp P a w (aX w0 χ0 T0 a.tmps.size (s.app o.dst e)) Q:=nomatch h
theorem Hz {e:Eff} {t u:TypeId} {x y:Operand} {c:Call} (r:bP w0 χ0 T0 s a w G) (hd:∀ k,o.dst=some k->k<a.tmps.size) (ho:o.op = .call c) (hcc:c = { callee := .builtin .copy,args := #[x,y],argTypes := #[t,u] })
  (h:xr P t u [s.arg x,s.arg y]=some e) (hc:e.cond):o.wp P a w (aX w0 χ0 T0 a.tmps.size (s.app o.dst e)) Q:=nomatch h
theorem MQ {e:Eff} {src dst:TypeId} {x:Operand} (r:bP w0 χ0 T0 s a w G) (hd:∀ k,o.dst=some k->k<a.tmps.size) (ho:o.op = .convert src dst x)
  (h:Qx P src dst o.dst (aF s.hp o.dst) [s.arg x]=some e):o.wp P a w (aX w0 χ0 T0 a.tmps.size (s.app o.dst e)) Q:=nomatch h
end
end Go.Lad
namespace Go.Lad
open Go.RowKit
def pL (P:Program) (t:TypeId):List Arg->Option Eff
 | [(.c (.v (.el o i 0 1)),[some (.arr _ 1 l)]),(.c (.v (.p (.int _ n))),_)]=>match P.underlying t with
  | some (.array m e)=>match gB P e with
   | some z=>if 2<=m then dQ (0<=n/\n<m/\i+n.toNat * z<l.length) (.x (.el o (i+n.toNat * z) 0 1)) else none
   | none=>none
  | _=>none
 | _=>none
def sq (P:Program) (t:TypeId):Bool:=match P.info? t with | some i=>(match i.zero with | some (.slice none 0 0)=>true | _=>false) | none=>false
def pr (P:Program) (t:TypeId):List Slot->Option Eff
 | [.c (.v (.p (.mp k m))),.c (.v (.p (.int k' n)))]=>match P.underlying t with
  | some (.map kt et)=>match P.underlying kt,sq P et with
   | some (.int k2),true=>if k=k2/\k'=k2 then val (.p (.sl ((bG m n).getD []))) else none
   | _,_=>none
  | _=>none
 | _=>none
def th (P:Program) (t:TypeId):List Arg->Option Eff
 | [(.c (.v (.mp o)),[some (.gI k e z m h)]),(.c (.v (.p (.int k' n))),_),(.c (.v (.own d)),[some (.arr e' z' l)])]=>match P.underlying t with
  | some (.map kt _)=>match P.underlying kt with
   | some (.int k2)=>if k=k2/\k'=k2/\e=e'/\z=z' then some ⟨h=none\/h=some n,.dead,[(d,.gone),(o,.gI k e z (fa m n l) none)]⟩ else none
   | _=>none
  | _=>none
 | _=>none
def pv (P:Program) (t:TypeId):List Arg->Option Eff
 | [(.c (.v (.sv o a b z)),[some (.arr e z' l)])]=>match cR P t with
  | some (e2,z2)=>match pJ P e2 with
   | some (_,ps)=>if z=z'/\z2=z'/\ps.length=z' then some ⟨a<=b/\b<=l.length,.dead,[(o,.arr e z' (l.take a++List.replicate (b-a) ps++l.drop b))]⟩ else none
   | none=>none
  | none=>none
 | _=>none
def n7 (P:Program) (t:TypeId) (dst:Option Nat) (free:Bool):List Arg->Option Eff
 | [(.c (.v (.tl l)),_),y]=>match cR P t,kF y,dst with
  | some (e,z),some m,some d=>if free then some ⟨l.length+m.length<=2147483647/\l≠[]/\m≠[]/\(∀ x∈l,x.length=z)/\∀ x∈m,x.length=z,.x (.own d),[(d,.arr e z (l++m))]⟩ else none
  | _,_,_=>none
 | _=>none
def qw:List Slot->Option (List av)
 | []=>some []
 | .c (.v x)::r=>match qw r with | some l=>some (x::l) | none=>none
 | _=>none
def fN (P:Program) (t:TypeId) (len:Nat) (is:List Nat) (dst:Option Nat) (free:Bool) (args:List Slot):Option Eff :=
 match cR P t,dst with
 | some (e,z),some d=>if is=List.range len/\free=true/\len<=100/\z=1 then match qw args with | some cs=>some ⟨True,.x (.own d),[(d,.lit e cs)]⟩ | none=>none else none
 | _,_=>none
def mo (P:Program) (t t':TypeId) (dst:Option Nat) (free:Bool):List Arg->Option Eff
 | [(.c (.v .nil),_),(.c (.v (.p (.int _ n))),_)]=>match P.underlying t',cR P t,dst with
  | some (.int _),some (e,z),some d=>match pJ P e with
   | some (_,ps)=>if free=true/\ps.length=z then some ⟨1<=n/\n<=2147483647,.x (.own d),[(d,.arr e z (List.replicate n.toNat ps))]⟩ else none
   | none=>none
  | _,_,_=>none
 | _=>none
def mr (P:Program) (t t':TypeId) (dst:Option Nat) (free:Bool):List Arg->Option Eff
 | [(.c (.v (.own o)),[some (.arr e z l)]),(.c (.v (.p (.str s))),_)]=>match P.underlying t',cR P t,dst with
  | some .string,some (e',z'),some d=>if e=e'/\z=1/\z'=1/\free=true then some ⟨l.length+s.size<=2147483647,.x (.own d),[(o,.gone),(d,.arr e 1 (l++nD s))]⟩ else none
  | _,_,_=>none
 | [(.c (.v .nil),_),(.c (.v (.p (.str s))),_)]=>match P.underlying t',cR P t,dst with
  | some .string,some (e,z'),some d=>if z'=1/\free=true then some ⟨s.size<=2147483647,.x (.own d),[(d,.arr e 1 (nD s))]⟩ else none
  | _,_,_=>none
 | _=>none
def oV (P:Program) (t t':TypeId) (dst:Option Nat) (free:Bool) (args:List Arg):Option Eff :=
 match mo P t t' dst free args with | some e=>some e | none=>mr P t t' dst free args
def vW (P:Program) (t:TypeId):List Slot->Option Eff
 | [.c (.v .nil)]=>match P.underlying t with
  | some (.slice _)=>val (.p (.int .i64 0))
  | _=>none
 | _=>none
def opV (P:Program) (op:Op) (dst:Option Nat) (free:Bool) (args:List Arg):Option Eff :=
 match op with
 | .indexAddr t _ _=>pL P t args
 | .lookup t _ _ false=>pr P t (args.map (·.1))
 | .mapUpdate t _ _ _=>th P t args
 | .call { callee := .builtin .clear,argTypes:=ts,.. }=>match ts.toList with | [t]=>pv P t args | _=>none
 | .mapEntry t _ _=>xq P t dst free args
 | .entryStore t _ _ _=>tW P t args
 | .call { callee := .builtin .copy,argTypes:=ts,.. }=>match ts.toList with | [t,u]=>xr P t u args | _=>none
 | .call { callee := .builtin .append,argTypes:=ts,.. }=>match ts.toList with | [t,t']=>if t=t' then n7 P t dst free args else oV P t t' dst free args | _=>none
 | .call { callee := .builtin .cap,argTypes:=ts,.. }=>match ts.toList with | [t]=>vW P t (args.map (·.1)) | _=>none
 | .buildSlice t n ps=>fN P t n (ps.toList.map (·.1)) dst free (args.map (·.1))
 | _=>none
def opY (P:Program) (op:Op) (dst:Option Nat) (free:Bool) (args:List Arg):Option Eff :=
 match op with
 | .indexAddr _ _ _ | .lookup _ _ _ _ | .mapUpdate _ _ _ _ | .call { callee := .builtin .clear,.. } | .call { callee := .builtin .append,.. } | .call { callee := .builtin .cap,.. }=>opV P op dst free args
 | .mapEntry _ _ _ | .entryStore _ _ _ _ | .call { callee := .builtin .copy,.. }=>opV P op dst free args
 | .buildSlice _ _ _=>opV P op dst free args
 | _=>iB P op dst free args
def tj (P:Program) (t:TypeId) (dst:Option Nat) (free:Bool):List Arg->Option Eff
 | [(.c (.v (.mp o)),[some (.gI k e z m none)]),(.c (.v (.p (.int k' n))),_)]=>match P.underlying t,dst with
  | some (.map kt et),some d=>match P.underlying kt,sq P et with
   | some (.int k2),true=>if k=k2/\k'=k2/\free=true then some ⟨True,.x (.own d),[(o,.gI k e z m (some n)),(d,.arr e z ((bG m n).getD []))]⟩ else none
   | _,_=>none
  | _,_=>none
 | _=>none
def tk (P:Program) (t:TypeId) (hl hh:Bool) (dst:Option Nat) (free:Bool):List Arg->Option Eff
 | (.c (.v (.own o)),[some (.arr e z' l)])::as=>match cR P t,sT hl hh l.length as,dst with
  | some (_,z),some (i,j),some d=>if z=z'/\free=true then some ⟨0<=i/\i<=j/\j<=l.length,.x (.own d),[(o,.gone),(d,.arr e z' ((l.take j.toNat).drop i.toNat))]⟩ else none
  | _,_,_=>none
 | _=>none
def F8:Value->Value->Bool
 | .bool a,.bool b=>a == b
 | .int k a,.int k' b=>(decide (k=k')) && (decide (a=b))
 | _,_=>false
def zK:List Value->Nat->Value->Bool
 | [],0,_=>true
 | u::r,n+1,z=>cond (F8 u z) (zK r n z) false
 | _,_,_=>false
def u0:Option Value->Option PV
 | some (.bool b)=>some (.bool b)
 | some (.int k 0)=>some (.int k 0)
 | _=>none
def xt (P:Program) (t:TypeId) (dst:Option Nat) (free:Bool):List Arg->Option Eff
 | []=>match P.underlying t,dst,P.info? t with
  | some (.array _ _),some d,some i=>match i.zero with
   | some v=>match u0 v.cells.toList.head? with
    | some p=>if (free && zK v.cells.toList i.size p.toV)=true/\i.size<=1000000 then some ⟨True,.x (.el d 0 0 1),[(d,.arr t 1 (List.replicate i.size [p]))]⟩ else none
    | none=>none
   | none=>none
  | _,_,_=>none
 | _=>none
def su (P:Program) (t:TypeId) (dst:Option Nat) (free:Bool):List Arg->Option Eff
 | []=>match P.underlying t,dst with
  | some (.map kt et),some d=>match P.underlying kt,cR P et with
   | some (.int k),some (e,z)=>if free then some ⟨True,.x (.mp d),[(d,.gI k e z [] none)]⟩ else none
   | _,_=>none
  | _,_=>none
 | _=>none
def pM (P:Program) (t:TypeId):List Arg->Option Eff
 | [(.c (.v (.own o)),[some (.arr e z l)]),y]=>match cR P t,kF y with
  | some (e',z'),some m=>if e=e'/\z=z' then some ⟨l.length+m.length<=2147483647/\∀ x∈m,x.length=z,.x (.p (.sl (l++m))),[(o,.gone)]⟩ else none
  | _,_=>none
 | _=>none
def qx (P:Program) (op:BinOp) (t:TypeId):List Arg->Option Eff
 | [(.c (.v (.own _)),[some (.arr _ _ l)]),(.c (.v .nil),_)]=>match op,P.underlying t with
  | .eql,some (.slice _)=>val (.x (.nb true l))
  | .neq,some (.slice _)=>val (.x (.nb false l))
  | _,_=>none
 | _=>none
def qy:List av->Option (List PV)
 | []=>some []
 | .p (.bool b)::r=>(qy r).map (.bool b :: ·)
 | .p (.int k n)::r=>(qy r).map (.int k n :: ·)
 | _=>none
def tn (P:Program) (t:TypeId) (dst:Option Nat) (free:Bool):List Arg->Option Eff
 | [(.c (.g xs),_)]=>match P.underlying t,dst,qy xs with
  | some (.array _ _),some d,some ps=>if free=true/\ps.length<=1000000 then some ⟨True,.x (.el d 0 0 1),[(d,.arr t 1 (ps.map fun p=>[p]))]⟩ else none
  | _,_,_=>none
 | _=>none
def dB:Op->Bool
 | .binOp .eql _ _ _ _=>true
 | .binOp .neq _ _ _ _=>true
 | .call { callee := .builtin .append,.. }=>true
 | .lookup _ _ _ false=>true
 | .slice _ _ _ _ none=>true
 | .alloc _=>true
 | .box _ _=>true
 | .makeMap _ none=>true
 | .convert _ _ _=>true
 | _=>false
def xu (P:Program) (op:Op) (dst:Option Nat) (free:Bool) (args:List Arg):Option Eff :=
 match op with
 | .binOp b t _ _ _=>qx P b t args
 | .lookup t _ _ false=>tj P t dst free args
 | .slice t _ l h none=>tk P t l.isSome h.isSome dst free args
 | .alloc t=>xt P t dst free args
 | .box t _=>tn P t dst free args
 | .makeMap t none=>su P t dst free args
 | .convert src dt _=>Qx P src dt dst free args
 | .call { callee := .builtin .append,argTypes:=ts,.. }=>match ts.toList with | [t,t']=>if t=t' then pM P t args else none | _=>none
 | _=>none
section
variable {P:Program} {w0:World} {χ0:Col} {T0:Ctx} {s:St} {a:Act} {w:World} {G:Gh} {o:Oper} {Q:Exit->Act->World->Prop}
theorem HA {e:Eff} {t:TypeId} {x y:Operand} (r:bP w0 χ0 T0 s a w G) (hd:∀ k,o.dst=some k->k<a.tmps.size) (ho:o.op = .indexAddr t x y) (h:pL P t [s.arg x,s.arg y]=some e) (hc:e.cond) :
  o.wp P a w (aX w0 χ0 T0 a.tmps.size (s.app o.dst e)) Q:=by
 have hx:=r.ev x;have hy:=r.ev y;unfold pL at h;split at h
 ·rename_i ob i0 e' l k n _ heq;simp only[List.cons.injEq,and_true] at heq;obtain⟨h1,h2⟩:=St.bF heq.1;rw[h1] at hx;rw[(St.bF heq.2).1] at hy;have hob:s.hp ob=some (.arr e' 1 l):=by simpa [Slot.ids,Cmp.ids,Cmp.leaves,av.ids] using h2
  have hval:a.eval x=ptr (G.bl ob) (lB (G.hv ob)+(i0 * 1+0)):=LRd.val hx;rw[Nat.mul_one,Nat.add_zero] at hval;split at h
  ·rename_i m el hu;split at h
   ·rename_i z hs;have hm2:2<=m:=by
     apply Classical.byContradiction;intro hn;rw[if_neg hn] at h; cases h
    rw[if_pos hm2] at h;simp only[dQ,Option.some.injEq] at h;subst h;obtain⟨c1,c2,c3⟩:=hc;obtain⟨inf,hinf,hsz⟩:=rz hs;have hn:((n.toNat:Nat):Int)=n:=Int.toNat_of_nonneg c1;refine bD r hd (v:=ptr (G.bl ob) (lB (G.hv ob)+(i0+n.toNat * z))) ?_ ⟨rfl,fun i hi=>?_,?_⟩
    ·have hm1:¬ m<=1:=by omega
     simp [execOp,ho,hval,(fH hy).1,Instr.indexAt,Instr.sureAddr,asIntOf,run_underlying hu,ptr,c1,c2,sizeOf,typeInfo,hinf,hsz,hm1,fY,Nat.add_assoc]
    ·simp [av.ids] at hi;subst hi;rw[hob]; simp
    ·show ptr _ _=ptr (G.bl ob) (lB (G.hv ob)+((i0+n.toNat * z) * 1+0));rw[Nat.mul_one,Nat.add_zero]
   ·cases h
  ·cases h
 ·cases h
theorem Cz {et:TypeId} (h:sq P et=true):∀ w,(zeroValue et).run P w = .ok (.slice none 0 0) w:=by
 unfold sq at h;split at h
 ·rename_i i hi;split at h
  ·rename_i hz;intro w;simp [zeroValue,typeInfo,hi,hz]
  ·cases h
 ·cases h
theorem EC {m:List (Int×List (List PV))} {mv:List (Int×Value)} (hk:mv.map (·.1)=m.map (·.1)) (n:Int) :
  (bG mv n=none/\bG m n=none/\pos (m.map (·.1)) n=none)\/∃ (i:Nat) (v:Value) (l:List (List PV)),bG mv n=some v/\bG m n=some l/\mv[i]?=some (n,v)/\m[i]?=some (n,l)/\pos (m.map (·.1)) n=some i:=by
 unfold bG;rw[hk];cases hp:pos (m.map (·.1)) n with
 | none=>exact .inl ⟨rfl,rfl,rfl⟩
 | some i =>
  right;have hl:=mV hp;have hl2:=hl;rw[← hk] at hl2;rw[List.length_map] at hl hl2;have h1:=(iu hp).1;have h2:=h1;rw[← hk] at h2;rw[List.getElem?_map,List.getElem?_eq_getElem hl,Option.map_some,Option.some.injEq] at h1;rw[List.getElem?_map,List.getElem?_eq_getElem hl2,Option.map_some,Option.some.injEq] at h2;refine⟨i,mv[i].2,m[i].2,?_,?_,?_,?_,rfl⟩
  ·simp [List.getElem?_eq_getElem hl2]
  ·simp [List.getElem?_eq_getElem hl]
  ·rw[List.getElem?_eq_getElem hl2,← h2]
  ·rw[List.getElem?_eq_getElem hl,← h1]
theorem ED {e:Eff} {t:TypeId} {x y:Operand} (r:bP w0 χ0 T0 s a w G) (hd:∀ k,o.dst=some k->k<a.tmps.size) (ho:o.op = .lookup t x y false) (h:pr P t [s.ev x,s.ev y]=some e) :
  o.wp P a w (aX w0 χ0 T0 a.tmps.size (s.app o.dst e)) Q:=by
 have hx:=r.ev x;have hy:=r.ev y;unfold pr at h;split at h
 ·rename_i k m k' n heq;simp only[List.cons.injEq,and_true] at heq;rw[heq.1] at hx;rw[heq.2] at hy;split at h
  ·rename_i kt et hu;split at h
   ·rename_i k2 hk hz;split at h
    ·rename_i hc;obtain⟨rfl,rfl⟩:=hc;simp only[val,Option.some.injEq] at h;subst h;have hrd:Rd (In G.χ 0) w (.mp k' m) (a.eval x):=LRd.val hx;generalize hxv:a.eval x=v at hrd;cases hrd with
     | mp mv hF hm hkey hrd =>
      have hrun:(execOp a.eval o).run P w = .ok (.value (((bG mv n).map id).getD (.slice none 0 0))) w:=by
       simp [execOp,ho,hxv,(fH hy).1,hm.rp (KeyLaw.int hk) hu (Cz hz) n,← show wU k' n = .int k' n from rfl]
      refine bD r hd hrun (Jh ?_);rcases EC hkey n with⟨h1,h2,_⟩ | ⟨i,u,l,h1,h2,h3,h4,_⟩
      ·rw[h1,h2];exact .sl0 (fun _=>rfl) (by omega)
      ·rw[h1,h2];exact hrd i _ _ h3 h4
    ·cases h
   ·cases h
  ·cases h
 ·cases h
def HC (G:Gh) (d:Nat) (v:Value):Gh:={ χ:=fun b=>if v.ownBlock=some b then d+2 else G.χ b,bl:=Lad.upd G.bl d (v.ownBlock.getD 0),hv:=Lad.upd G.hv d v }
theorem tX {w':World} {v:Value} {y:av} {c:Prop} {G':Gh} {T:List Nat} {wr:List (Nat×cu)} (r:bP w0 χ0 T0 s a w G) (hd:∀ k,o.dst=some k->k<a.tmps.size)
  (hrun:(execOp a.eval o).run P w = .ok (.value v) w') (he:Ext G s.hp w G' (eJ s.hp wr) w') (st:Chg T G.χ w G'.χ w') (hT:∀ k∈T,2<=k) (hn:Norm G'.χ w')
  (ho:∀ i h,eJ s.hp wr i=some h->(s.hp i=some h/\i+2∉T)\/HRd G' (eJ s.hp wr) w' i h) (hy:LRd G' (eJ s.hp wr) w' y v):o.wp P a w (aX w0 χ0 T0 a.tmps.size (s.app o.dst ⟨c,.x y,wr⟩)) Q:=by
 unfold Oper.wp;rw[hrun];exact⟨Act.jF _ _ _,G',r.upd hd he st hT hn ho hy⟩
theorem sw {d k:Nat} {v:Value} (hk:∀ g,v.ownBlock=some g->G.χ g=k) (hk0:k≠0) {b:Nat} (hb:G.χ b=0):(HC G d v).χ b=0:=by
 show (if v.ownBlock=some b then d+2 else G.χ b)=0;rw[if_neg (fun h=>hk0 ((hk b h).symm.trans hb))]; exact hb
theorem JC {d k:Nat} {v:Value} {hp':Hp} (hk:∀ g,v.ownBlock=some g->G.χ g=k) (hk0:k≠0) (hf:s.hp d=none/\d<1000000) (ht:∀ i,s.hp i≠none->hp' i≠none):Ext G s.hp w (HC G d v) hp' w :=
 ⟨fun b hb _=>⟨sw hk hk0 hb,rfl⟩,fun i hi=>fV _ _ (fun e=>hi.elim (fun hi=>hi (by rw[e]; exact hf.1)) fun hi=>by omega),fun i hi=>fV _ _ (fun e=>hi.elim (fun hi=>hi (by rw[e]; exact hf.1)) fun hi=>by omega),ht⟩
theorem JD {d k:Nat} {v:Value} (hk:∀ g,v.ownBlock=some g->G.χ g=k):Chg [k] G.χ w (HC G d v).χ w :=
 ⟨rfl,rfl,rfl,Nat.le_refl _,fun b _ hb=>if_neg fun h=>hb (by rw[hk b h]; simp),fun _ _ _=>rfl⟩
theorem EE {z i q m:Nat} {xs:List Value} (hq:q<m):chunk z q ((xs.drop (i * z)).take (m * z))=chunk z (i+q) xs:=by
 unfold chunk;apply List.ext_getElem?;intro j;rw[List.getElem?_take,List.getElem?_take];split
 ·rename_i hj;rw[List.getElem?_drop,List.getElem?_take,List.getElem?_drop,List.getElem?_drop];have:q * z+j<m * z:=by
   have:(q+1) * z<=m * z:=Nat.mul_le_mul_right _ (by omega);rw[Nat.add_mul] at this; omega
  rw[if_pos this,Nat.add_mul,Nat.add_assoc]
 ·rfl
theorem JE {z k kd i j n c:Nat} {χ χ':Col} {e:TypeId} {A:Option Addr} {l:List (List PV)} (h:Own (α:=CZ z) k χ e w (.slice A n c) l) (hij:i<=j) (hj:j<=l.length)
  (h0:∀ b,χ b=0->χ' b=0) (hk:∀ g,(svV A c i j z).ownBlock=some g->χ' g=kd):Own (α:=CZ z) kd χ' e w (svV A c i j z) ((l.take j).drop i):=by
 obtain⟨⟨xs,h1',h2⟩,h3⟩:=h;have h1:jq w e z (.slice A n c) (List.length (α:=List PV) l) xs:=h1';clear h1';have hn:n=l.length:=by
  rcases h1.2 with⟨hv,hl⟩ | ⟨g,cap,cur,off,hv,_⟩
  ·injection hv with _ e2 _; omega
  ·injection hv with _ e2 _
 subst hn;have hlen:((l.take j).drop i).length=j-i:=by simp; omega
 have hp:=h1.part (i:=i) (m:=j-i) rfl (by omega);refine⟨⟨_,(by rw[hlen]; exact hp:jq w e z (svV A c i j z) (List.length (α:=List PV) ((l.take j).drop i)) _),fun q x hx=>?_⟩,hk⟩;have hq:q<j-i:=by rw[← hlen]; exact (List.getElem?_eq_some_iff.1 hx).1
 have hx':((l.take j).drop i)[q]?=some (show List PV from x):=hx;rw[List.getElem?_drop,List.getElem?_take,if_pos (by omega)] at hx';have h5:=h2 (i+q) x hx';show aA.rd _ _ (chunk z q ((xs.drop (i * z)).take ((j-i) * z))) x;rw[EE hq];exact aA.frame (fun b hb _=>⟨h0 b hb,rfl⟩) h5
theorem HE {A:Option Addr} {n c i j z g:Nat} (h:(svV A c i j z).ownBlock=some g):(Value.slice A n c).ownBlock=some g:=by
 unfold svV at h;by_cases hc:c=i
 ·rw[if_pos hc] at h;cases A with
  | none=>simp [Value.ownBlock] at h
  | some ad=>simpa [Value.ownBlock] using h
 ·rw[if_neg hc] at h;cases A with
  | none=>simp [Value.ownBlock] at h
  | some ad=>simpa [Value.ownBlock,block_add] using h
theorem HG {e:Eff} {t:TypeId} {x:Operand} {lo hi:Option Operand} (r:bP w0 χ0 T0 s a w G) (hd:∀ k,o.dst=some k->k<a.tmps.size) (ho:o.op = .slice t x lo hi none)
  (h:tk P t lo.isSome hi.isSome o.dst (aF s.hp o.dst) (s.arg x::(lo.toList++hi.toList).map s.arg)=some e) (hc:e.cond):o.wp P a w (aX w0 χ0 T0 a.tmps.size (s.app o.dst e)) Q:=by
 have hx:=r.ev x;have run:∀ {el:TypeId} {z n c:Nat} {A:Option Addr} {i j:Int},cR P t=some (el,z)->a.eval x = .slice A n c->sT lo.isSome hi.isSome n ((lo.toList++hi.toList).map s.arg)=some (i,j)->0<=i->i<=j->j<=n->n<=c ->
   (execOp a.eval o).run P w = .ok (.value (svV A c i.toNat j.toNat z)) w:=by
  intro el z n c A i j h1 h2 h3 h4 h5 h6 h7;have hE:=fe h1;obtain⟨inf,zz,hi',_,hs,_⟩:=hE.ex;simp only[execOp,ho,h2,Instr.sliceAt,Instr.slice,Sem.run_bind,run_underlying hE.ty,Result.andThen_ok,Option.map_none,tS r h3 h4 h5 h6 h7,sizeOf,typeInfo,hi',Sem.run_pure];simp [hs,hi',svV]
 unfold tk at h;split at h
 ·rename_i ob e' z' l as heq;simp only[List.cons.injEq] at heq;obtain⟨heq,rfl⟩:=heq;obtain⟨h1,h2⟩:=St.bF heq;rw[h1] at hx;have hob:s.hp ob=some (.arr e' z' l):=by simpa [Slot.ids,Cmp.ids,Cmp.leaves,av.ids] using h2
  have hval:a.eval x=G.hv ob:=LRd.val hx;split at h
  ·rename_i el z i j d hel hb hdst;split at h
   ·rename_i hcc;obtain⟨rfl,hfree⟩:=hcc;simp only[Option.some.injEq] at h;subst h;obtain⟨c1,c2,c3⟩:=hc;rw[hdst] at hfree;have hf:s.hp d=none/\d<1000000:=by simpa [aF] using hfree
    have hdo:d≠ob:=fun e=>by rw[e,hob] at hf; cases hf.1
    obtain⟨hown,hbl⟩:=r.gM ob _ hob;obtain⟨A,c,hv,hcap,hmax⟩:=hown.form;have hrun:=run hel (hval.trans hv) hb c1 c2 c3 hcap;have hcol:∀ g,(svV A c i.toNat j.toNat z).ownBlock=some g->G.χ g=ob+2:=fun g hg=>hown.col g (by rw[hv]; exact HE hg);rw[hv] at hown;have hlk:∀ q,eJ s.hp [(ob,cu.gone),(d,cu.arr e' z ((l.take j.toNat).drop i.toNat))] q=if q=d then some (.arr e' z ((l.take j.toNat).drop i.toNat)) else if q=ob then some .gone else s.hp q:=fun q=>by
     show Lad.upd (Lad.upd s.hp ob _) d _ q=_;unfold Lad.upd;rfl
    refine tX (T:=[ob+2]) (G':=HC G d (svV A c i.toNat j.toNat z)) r hd hrun (JC hcol (by omega) hf (kO _ _)) (JD hcol) (by simp) (fun b hb=>sw hcol (by omega) (r.norm b hb)) (fun q h hq=>?_) ⟨rfl,fun q hq=>?_,?_⟩
    ·rw[hlk] at hq;by_cases hqd:q=d
     ·subst hqd;rw[if_pos rfl] at hq;injection hq with hq
      subst hq;refine .inr ⟨?_,fun b hb=>?_⟩
      ·show Own (α:=CZ z) (q+2) _ e' w (Lad.upd G.hv q _ q) _;rw[aE];exact JE hown (by omega) (by omega) (fun b hb=>sw hcol (by omega) hb) (fun g hg=>if_pos hg)
      ·change (Lad.upd G.hv q _ q).ownBlock=some b at hb;rw[aE] at hb;show b=Lad.upd G.bl q _ q;rw[aE,hb]; rfl
     ·rw[if_neg hqd] at hq;by_cases hqo:q=ob
      ·subst hqo;rw[if_pos rfl] at hq;injection hq with hq
       subst hq;exact .inr trivial
      ·rw[if_neg hqo] at hq;exact .inl ⟨hq,by simp; omega⟩
    ·simp [av.ids] at hq;subst hq;rw[hlk,if_pos rfl]; simp
    ·exact (aE G.hv d _).symm
   ·cases h
  ·cases h
 ·cases h
theorem HH {e:Eff} {t:TypeId} {x y:Operand} (r:bP w0 χ0 T0 s a w G) (hd:∀ k,o.dst=some k->k<a.tmps.size) (ho:o.op = .lookup t x y false) (h:tj P t o.dst (aF s.hp o.dst) [s.arg x,s.arg y]=some e) :
  o.wp P a w (aX w0 χ0 T0 a.tmps.size (s.app o.dst e)) Q:=by
 have hx:=r.ev x;have hy:=r.ev y;unfold tj at h;split at h
 ·rename_i ob k e0 z m k' n _ heq;simp only[List.cons.injEq,and_true] at heq;obtain⟨h1,h2⟩:=St.bF heq.1;rw[h1] at hx;rw[(St.bF heq.2).1] at hy;have hob:s.hp ob=some (.gI k e0 z m none):=by simpa [Slot.ids,Cmp.ids,Cmp.leaves,av.ids] using h2
  have hval:a.eval x = .map (some (G.bl ob)):=LRd.val hx;obtain⟨es,clock,mv,hm,hcol,hkey,hrow,hap,hnd⟩:=r.gM ob _ hob;split at h
  ·rename_i kt et d hu hdst;split at h
   ·rename_i k2 hk hz;split at h
    ·rename_i hc;obtain⟨rfl,rfl,hfree⟩:=hc;simp only[Option.some.injEq] at h;subst h;rw[hdst] at hfree;have hf:s.hp d=none/\d<1000000:=by simpa [aF] using hfree
     have hdo:d≠ob:=fun e=>by rw[e,hob] at hf; cases hf.1
     have hrun:(execOp a.eval o).run P w = .ok (.value (((bG mv n).map id).getD (.slice none 0 0))) w:=by
      simp [execOp,ho,hval,(fH hy).1,hm.rp (KeyLaw.int hk) hu (Cz hz) n,← show wU k' n = .int k' n from rfl]
     obtain⟨v,hv⟩:∃ v,v=((bG mv n).map id).getD (.slice none 0 0):=⟨_,rfl⟩;rw[← hv] at hrun;have hrow1:Own (α:=CZ z) (ob+2) G.χ e0 w v ((bG m n).getD []):=by
      rcases EC hkey n with⟨g1,g2,_⟩ | ⟨i,u,l,g1,g2,g3,g4,_⟩
      ·rw[hv,g1,g2]; exact Own.nil _ _ _ _
      ·rw[hv,g1,g2]; exact hrow i _ _ g3 g4 (by simp)
     have hvc:∀ g,v.ownBlock=some g->G.χ g=ob+2:=hrow1.col;have hoth:∀ (j:Nat) y g,mv[j]?=some y->y.1≠n->y.2.ownBlock=some g->v.ownBlock≠some g:=by
      intro j y g hj hy hg hvg;rcases EC hkey n with⟨g1,g2,_⟩ | ⟨i,u,l,g1,g2,g3,g4,_⟩
      ·rw[hv,g1] at hvg; simp [Value.ownBlock] at hvg
      ·rw[hv,g1] at hvg;exact hap i j (n,u) y g (fun e=>by subst e; rw[g3] at hj; injection hj with hj; exact hy (by rw[← hj])) g3 hj (by simp) (by simp) hvg hg
     have hlk:∀ q,eJ s.hp [(ob,cu.gI k' e0 z m (some n)),(d,cu.arr e0 z ((bG m n).getD []))] q=if q=d then some (.arr e0 z ((bG m n).getD [])) else if q=ob then some (.gI k' e0 z m (some n)) else s.hp q:=fun q=>by
      show Lad.upd (Lad.upd s.hp ob _) d _ q=_;unfold Lad.upd;rfl
     refine tX (T:=[ob+2]) (G':=HC G d v) r hd hrun (JC hvc (by omega) hf (kO _ _)) (JD hvc) (by simp) (fun b hb=>sw hvc (by omega) (r.norm b hb)) (fun q h hq=>?_) ⟨?_,fun q hq=>?_,?_⟩
     ·rw[hlk] at hq;by_cases hqd:q=d
      ·subst hqd;rw[if_pos rfl] at hq;injection hq with hq
       subst hq;refine .inr ⟨?_,fun b hb=>?_⟩
       ·show Own (α:=CZ z) (q+2) _ e0 w (Lad.upd G.hv q _ q) _;rw[aE];exact hrow1.oR (fun g hg _ _=>if_pos hg) (.inl fun b _ hb=>sw hvc (by omega) hb)
       ·change (Lad.upd G.hv q _ q).ownBlock=some b at hb;rw[aE] at hb;show b=Lad.upd G.bl q _ q;rw[aE,hb]; rfl
      ·rw[if_neg hqd] at hq;by_cases hqo:q=ob
       ·subst hqo;rw[if_pos rfl] at hq;injection hq with hq
        subst hq;have hblq:(HC G d v).bl q=G.bl q:=fV _ _ (fun e=>hdo e.symm);refine .inr ⟨es,clock,mv,by rw[hblq]; exact hm,?_,hkey,fun i y y' hy hy' hne=>?_,fun i j y y' g hij hy hy' h1 h2 hg=>hap i j y y' g hij hy hy' (by simp) (by simp) hg,hnd⟩
        ·rw[hblq];show (if v.ownBlock=some (G.bl q) then d+2 else G.χ (G.bl q))=q+2;rw[if_neg (hrow1.Ei hm.at_)]; exact hcol
        ·have hyn:y.1≠n:=fun e=>hne (by rw[e]);refine (hrow i y y' hy hy' (by simp)).oR (fun g hg _ hk=>?_) (.inl fun b _ hb=>sw hvc (by omega) hb);show (if v.ownBlock=some g then d+2 else G.χ g)=q+2;rw[if_neg (hoth i y g hy hyn hg)]; exact hk
       ·rw[if_neg hqo] at hq;exact .inl ⟨hq,by simp; omega⟩
     ·obtain⟨B,cc,hv2,_⟩:=hrow1.form;rw[hv2]; rfl
     ·simp [av.ids] at hq;subst hq;rw[hlk,if_pos rfl]; simp
     ·exact (aE G.hv d _).symm
    ·cases h
   ·cases h
  ·cases h
 ·cases h
theorem JF {u v:Value} (h:F8 u v=true):u=v:=by
 unfold F8 at h;split at h
 ·rw[beq_iff_eq.1 h]
 ·simp only[Bool.and_eq_true,decide_eq_true_eq] at h;rw[h.1,h.2]
 ·cases h
theorem Be {o:Option Value} {p:PV} (h:u0 o=some p):p.Plain:=by
 unfold u0 at h;split at h
 ·simp only[Option.some.injEq] at h; subst h; exact trivial
 ·rename_i k;simp only[Option.some.injEq] at h; subst h
  cases k <;> (constructor <;> decide)
 ·cases h
theorem CA:∀ {l:List Value} {n:Nat} {z:Value},zK l n z=true->l=List.replicate n z
 | [],0,_,_=>rfl
 | [],n+1,_,h=>by cases h
 | u::r,0,_,h=>by cases h
 | u::r,n+1,z,h=>by
  unfold zK at h;cases hs:F8 u z with
  | true=>rw[hs] at h; rw[JF hs,CA h,List.replicate_succ]
  | false=>rw[hs] at h; cases h
theorem JG {e:Eff} {t:TypeId} (r:bP w0 χ0 T0 s a w G) (hd:∀ k,o.dst=some k->k<a.tmps.size) (ho:o.op = .alloc t) (h:xt P t o.dst (aF s.hp o.dst) []=some e) :
  o.wp P a w (aX w0 χ0 T0 a.tmps.size (s.app o.dst e)) Q:=by
 unfold xt at h;split at h
 ·split at h
  ·rename_i m0 el d inf hu hdst hinf;split at h
   ·rename_i v hzv;obtain⟨p,hz⟩:∃ p,u0 v.cells.toList.head?=some p:=by
     cases hq:u0 v.cells.toList.head? with
     | none=>rw[hq] at h; cases h
     | some p=>exact⟨p,rfl⟩
    rw[hz] at h;dsimp only at h;split at h
    ·rename_i hc;rw[Bool.and_eq_true] at hc;obtain⟨⟨hfree,hrep⟩,hm6⟩:=hc;obtain⟨m,hmE⟩:∃ m,m=inf.size:=⟨_,rfl⟩;rw[← hmE] at hrep hm6 h;simp only[Option.some.injEq] at h;subst h;rw[hdst] at hfree;have hf:s.hp d=none/\d<1000000:=by simpa [aF] using hfree
     have hcs:=CA hrep;have hpl:p.Plain:=Be hz;have hrd:Rd (In G.χ 0) w p p.toV:=hpl.rd;have hrun:(execOp a.eval o).run P w = .ok (.value (ptr w.heap.size 0)) (w.alloc (.cells v.cells t)):=by
      simp [execOp,ho,Instr.alloc,zeroValue,typeInfo,hinf,hzv,newVar,newRow,ptr]
     have hsz:v.cells.size=m:=by
      have:=congrArg List.length hcs
      simpa using this
     have h0:lB ((G.add d w.heap.size (.slice (some ⟨w.heap.size,0,none⟩) m m)).hv d)=0:=by
      show lB (Lad.upd G.hv d _ d)=0;rw[aE]; rfl
     refine mh r hd hf (x := .cells v.cells t) (v:=ptr w.heap.size 0) (.slice (some ⟨w.heap.size,0,none⟩) m m) hrun ⟨rfl,fun j hj=>?_,?_⟩ ⟨?_,fun b hb=>?_⟩
     ·simp [av.ids] at hj; subst hj; rw[aE]; simp
     ·show ptr w.heap.size 0=ptr (Lad.upd G.bl d w.heap.size d) (lB ((G.add d w.heap.size (.slice (some ⟨w.heap.size,0,none⟩) m m)).hv d)+(0 * 1+0));rw[aE,h0]
     ·show Own (α:=CZ 1) (d+2) _ t _ (Lad.upd G.hv d _ d) (List.replicate m [p]);rw[aE];have hLj:∀ (L:List (List PV)),L=List.replicate m [p]->Own (α:=CZ 1) (d+2) (G.add d w.heap.size (.slice (some ⟨w.heap.size,0,none⟩) m m)).χ t (w.alloc (.cells v.cells t)) (.slice (some ⟨w.heap.size,0,none⟩) m m) L:=by
       intro L hL;have hL1:List.length (α:=List PV) L=m:=by rw[hL]; simp
       refine⟨⟨v.cells.toList,(⟨?_,.inr ⟨w.heap.size,m,v.cells,0,?_,Nat.zero_le _,.of (heap_alloc_new w _),?_,?_,?_,?_⟩⟩:jq _ t 1 _ (List.length (α:=List PV) L) _),fun j row hj=>?_⟩,fun g hg=>?_⟩
       ·rw[hL1]; simpa using hsz
       ·rw[hL1]
       ·omega
       ·simp only[maxLen]; omega
       ·omega
       ·rw[hL1,List.drop_zero,List.take_of_length_le (by simp; omega)]
       ·have hj2:(List.replicate m [p])[j]?=some (show List PV from row):=by rw[← hL]; exact hj
        obtain⟨hjm,hrow'⟩:=List.getElem?_eq_some_iff.1 hj2;simp at hjm hrow';have hch:chunk 1 j v.cells.toList=[p.toV]:=by
         rw[hcs];unfold chunk;rw[Nat.mul_one,List.drop_replicate,List.take_replicate,Nat.min_eq_left (by omega)];rfl
        show aA.rd (α:=CZ 1) _ _ (chunk 1 j v.cells.toList) row;rw[hch,← hrow'];have hfr:=(Ext.new r.norm hf (.cells v.cells t) (.slice (some ⟨w.heap.size,0,none⟩) m m) .gone).blk;refine⟨rfl,rfl,fun q p' v' h1 h2=>?_⟩;cases q with
        | zero=>simp at h1 h2; subst h1 h2; exact hpl.rd
        | succ q=>simp at h2
       ·simp [Value.ownBlock] at hg;subst hg;show (if w.heap.size=w.heap.size then d+2 else _)=d+2;rw[if_pos rfl]
      exact hLj _ rfl
     ·change (Lad.upd G.hv d _ d).ownBlock=some b at hb;rw[aE] at hb;simp [Value.ownBlock] at hb;show b=Lad.upd G.bl d w.heap.size d;rw[aE]; exact hb.symm
    ·cases h
   ·cases h
  ·cases h
 ·rename_i hno; exact (hno rfl).elim
theorem va {hp:Hp}:∀ {xs:List av} {ps:List PV} {vs:List Value},qy xs=some ps->dU (LRd G hp w) xs vs->vs=ps.map PV.toV/\∀ p∈ps,p.Plain
 | [],ps,vs,h,ha=>by
  simp only[qy,Option.some.injEq] at h;subst h;have:vs=[]:=List.length_eq_zero_iff.1 ha.1.symm;exact⟨this,fun p hp=>nomatch hp⟩
 | x::xs,ps,vs,h,ha=>by
  cases vs with
  | nil=>have:=ha.1; cases this
  | cons v vs =>
   have h0:=ha.2 0 x v rfl rfl;have ht:dU (LRd G hp w) xs vs:=⟨by simpa using ha.1,fun i a b h1 h2=>ha.2 (i+1) a b (by simpa using h1) (by simpa using h2)⟩;unfold qy at h;split at h
   ·rename_i heq; cases heq
   ·rename_i b r heq;simp only[List.cons.injEq] at heq;obtain⟨rfl,rfl⟩:=heq;rw[Option.map_eq_some_iff] at h;obtain⟨ps',hps,rfl⟩:=h;obtain⟨e,hpl⟩:=va hps ht;have hv:=h0.val;cases hv;exact⟨by rw[e]; rfl,fun p hp=>by
     rcases List.mem_cons.1 hp with rfl | hp
     ·exact trivial
     ·exact hpl p hp⟩
   ·rename_i k n r heq;simp only[List.cons.injEq] at heq;obtain⟨rfl,rfl⟩:=heq;rw[Option.map_eq_some_iff] at h;obtain⟨ps',hps,rfl⟩:=h;obtain⟨e,hpl⟩:=va hps ht;have hv:=h0.val;cases hv with
    | int hk =>
    exact⟨by rw[e]; rfl,fun p hp=>by
     rcases List.mem_cons.1 hp with rfl | hp
     ·exact hk
     ·exact hpl p hp⟩
   ·cases h
theorem HI (l:List Value) {j:Nat} {v:Value} (h:l[j]?=some v):chunk 1 j l=[v]:=by
 unfold chunk;obtain⟨hj,he⟩:=List.getElem?_eq_some_iff.1 h;rw[Nat.mul_one,List.drop_eq_getElem_cons hj,he];rfl
theorem HK {e:Eff} {t:TypeId} {x:Operand} (r:bP w0 χ0 T0 s a w G) (hd:∀ k,o.dst=some k->k<a.tmps.size) (ho:o.op = .box t x) (h:tn P t o.dst (aF s.hp o.dst) [s.arg x]=some e) :
  o.wp P a w (aX w0 χ0 T0 a.tmps.size (s.app o.dst e)) Q:=by
 have hx:=r.ev x;unfold tn at h;split at h
 ·rename_i xs _ heq;simp only[List.cons.injEq,and_true] at heq;rw[(St.bF heq).1] at hx;obtain⟨vs,hval,hvs⟩:=hx;split at h
  ·rename_i m0 el d ps hu hdst hps;obtain⟨hvp,hpl⟩:=va hps hvs;split at h
   ·rename_i hc;obtain⟨hfree,hm6⟩:=hc;simp only[Option.some.injEq] at h;subst h;rw[hdst] at hfree;have hf:s.hp d=none/\d<1000000:=by simpa [aF] using hfree
    obtain⟨m,hmE⟩:∃ m,m=ps.length:=⟨_,rfl⟩;rw[← hmE] at hm6;have hrun:(execOp a.eval o).run P w = .ok (.value (ptr w.heap.size 0)) (w.alloc (.cells vs.toArray t)):=by
     simp [execOp,ho,hval,Instr.box,newVar,newRow,ptr,Value.cells]
    have hsz:vs.toArray.size=m:=by rw[hvp,hmE]; simp
    have h0:lB ((G.add d w.heap.size (.slice (some ⟨w.heap.size,0,none⟩) m m)).hv d)=0:=by
     show lB (Lad.upd G.hv d _ d)=0;rw[aE]; rfl
    refine mh r hd hf (x := .cells vs.toArray t) (v:=ptr w.heap.size 0) (.slice (some ⟨w.heap.size,0,none⟩) m m) hrun ⟨rfl,fun j hj=>?_,?_⟩ ⟨?_,fun b hb=>?_⟩
    ·simp [av.ids] at hj; subst hj; rw[aE]; simp
    ·show ptr w.heap.size 0=ptr (Lad.upd G.bl d w.heap.size d) (lB ((G.add d w.heap.size (.slice (some ⟨w.heap.size,0,none⟩) m m)).hv d)+(0 * 1+0));rw[aE,h0]
    ·show Own (α:=CZ 1) (d+2) _ t _ (Lad.upd G.hv d _ d) (ps.map fun p=>[p]);rw[aE];have hLj:∀ (L:List (List PV)),L=(ps.map fun p=>[p])->Own (α:=CZ 1) (d+2) (G.add d w.heap.size (.slice (some ⟨w.heap.size,0,none⟩) m m)).χ t (w.alloc (.cells vs.toArray t)) (.slice (some ⟨w.heap.size,0,none⟩) m m) L:=by
      intro L hL;have hL1:List.length (α:=List PV) L=m:=by rw[hL,hmE]; simp
      refine⟨⟨vs,(⟨?_,.inr ⟨w.heap.size,m,vs.toArray,0,?_,Nat.zero_le _,.of (heap_alloc_new w _),?_,?_,?_,?_⟩⟩:jq _ t 1 _ (List.length (α:=List PV) L) _),fun j row hj=>?_⟩,fun g hg=>?_⟩
      ·rw[hL1]; simpa using hsz
      ·rw[hL1]
      ·omega
      ·simp only[maxLen]; omega
      ·omega
      ·rw[hL1,List.drop_zero,List.take_of_length_le (by simpa using Nat.le_of_eq hsz)]
      ·have hj2:(ps.map fun p=>[p])[j]?=some (show List PV from row):=by rw[← hL]; exact hj
       rw[List.getElem?_map,Option.map_eq_some_iff] at hj2;obtain⟨p,hp,hrow'⟩:=hj2;have hch:chunk 1 j vs=[p.toV]:=HI vs (by rw[hvp,List.getElem?_map,hp]; rfl);show aA.rd (α:=CZ 1) _ _ (chunk 1 j vs) row;rw[hch,← hrow'];have hfr:=(Ext.new r.norm hf (.cells vs.toArray t) (.slice (some ⟨w.heap.size,0,none⟩) m m) .gone).blk;refine⟨rfl,rfl,fun q p' v' h1 h2=>?_⟩;cases q with
       | zero=>simp at h1 h2; subst h1 h2; exact (hpl _ (List.mem_of_getElem? hp)).rd
       | succ q=>simp at h2
      ·simp [Value.ownBlock] at hg;subst hg;show (if w.heap.size=w.heap.size then d+2 else _)=d+2;rw[if_pos rfl]
     exact hLj _ rfl
    ·change (Lad.upd G.hv d _ d).ownBlock=some b at hb;rw[aE] at hb;simp [Value.ownBlock] at hb;show b=Lad.upd G.bl d w.heap.size d;rw[aE]; exact hb.symm
   ·cases h
  ·cases h
 ·cases h
theorem EF {e:Eff} {t:TypeId} (r:bP w0 χ0 T0 s a w G) (hd:∀ k,o.dst=some k->k<a.tmps.size) (ho:o.op = .makeMap t none) (h:su P t o.dst (aF s.hp o.dst) []=some e) :
  o.wp P a w (aX w0 χ0 T0 a.tmps.size (s.app o.dst e)) Q:=by
 unfold su at h;split at h
 ·split at h
  ·rename_i kt et d hu hdst;split at h
   ·rename_i k el z hk hel;split at h
    ·rename_i hfree;simp only[Option.some.injEq] at h;subst h;rw[hdst] at hfree;have hf:s.hp d=none/\d<1000000:=by simpa [aF] using hfree
     have hrun:(execOp a.eval o).run P w = .ok (.value (.map (some w.heap.size))) (w.alloc (.map #[] 0)):=by
      simp [execOp,ho,Instr.makeMap]
     have hbl:(G.add d w.heap.size .nilFunc).bl d=w.heap.size:=aE _ _ _;refine mh r hd hf .nilFunc hrun ⟨rfl,fun j hj=>?_,?_⟩ ⟨#[],0,[],?_,?_,rfl,by simp,by simp⟩
     ·simp [av.ids] at hj; subst hj; rw[aE]; simp
     ·show Value.map (some w.heap.size) = .map (some (Lad.upd G.bl d w.heap.size d));rw[aE]
     ·rw[hbl]; exact fW.made _ _ w
     ·rw[hbl];show (if w.heap.size=w.heap.size then d+2 else _)=d+2;rw[if_pos rfl]
    ·cases h
   ·cases h
  ·cases h
 ·rename_i hno; exact (hno rfl).elim
theorem HO {e:Eff} {t:TypeId} {x y:Operand} {c:Call} (r:bP w0 χ0 T0 s a w G) (hd:∀ k,o.dst=some k->k<a.tmps.size) (ho:o.op = .call c) (hcc:c = { callee := .builtin .append,args := #[x,y],argTypes := #[t,t] })
  (h:pM P t [s.arg x,s.arg y]=some e) (hc:e.cond):o.wp P a w (aX w0 χ0 T0 a.tmps.size (s.app o.dst e)) Q:=by
 have hx:=r.ev x;unfold pM at h;split at h
 ·rename_i ob el z l y' heq;simp only[List.cons.injEq,and_true] at heq;obtain⟨h1,h2⟩:=St.bF heq.1;rw[h1] at hx;have hob:s.hp ob=some (.arr el z l):=by simpa [Slot.ids,Cmp.ids,Cmp.leaves,av.ids] using h2
  have hval:a.eval x=G.hv ob:=LRd.val hx;split at h
  ·rename_i e' z' m hel hm;split at h
   ·rename_i hcond;obtain⟨rfl,rfl⟩:=hcond;simp only[Option.some.injEq] at h;subst h;obtain⟨c1,c2⟩:=hc;have hown:Own (α:=CZ z) (ob+2) G.χ el w (a.eval x) l:=by rw[hval]; exact (r.gM ob _ hob).1
    have hsrc:=oQ r heq.2 hm c2;obtain⟨v',w',χ',hrun,h1,h2,h3,h4⟩:=Cg (kd:=ob+2) (ty:=o.type) (fe hel) hown hsrc (by omega) (by omega) c1 r.norm;subst hcc;have hrun':(execOp a.eval o).run P w = .ok (.value v') w':=by
     simp only[execOp,ho,resolve,invoke,builtin,Sem.run_bind,Sem.run_pure,Result.andThen_ok,List.map_toArray,List.map_cons,List.map_nil,hrun]
    let χ2:Col:=fun b=>if χ' b=ob+2 then 0 else χ' b
    let G':Gh:={ χ:=χ2,bl:=G.bl,hv:=G.hv }
    have hz0:∀ b,χ' b=0->χ2 b=0:=fun b hb=>by
     show (if χ' b=ob+2 then 0 else χ' b)=0;rw[hb]; split <;> rfl
    have hown2:Own (α:=CZ z) 0 χ2 el w' v' (l++m):=h1.oR (fun g _ _ hk=>if_pos hk) (.inl fun b _ hb=>hz0 b hb);have hrd:Rd (In χ2 0) w' (.sl (l++m)) v':=Rd.frame (fun b hb _=>⟨hb.elim id id,rfl⟩) (Ex hown2);have hone:v'.oneCell'=true:=by
     obtain⟨B,cc,hv,_⟩:=h1.form;rw[hv]; rfl
    have ht:∀ i,s.hp i≠none->eJ s.hp [(ob,.gone)] i≠none:=fun i hi=>by
     show Lad.upd s.hp ob _ i≠none;by_cases hio:i=ob
     ·rw[hio,aE]; simp
     ·rw[fV _ _ hio]; exact hi
    refine tX (T:=[ob+2]) (G':=G') (w':=w') r hd hrun' ⟨fun b hb hl=>⟨hz0 b (h4 b hb hl).1,(h4 b hb hl).2⟩,fun _ _=>rfl,fun _ _=>rfl,ht⟩
     ⟨h2.os,h2.tape,h2.output,h2.size,fun b hl hb=>?_,h2.block⟩ (by simp) (fun b hb=>hz0 b (h3 b hb)) (fun i h hi=>?_) ⟨hone,fun j hj=>by simp [av.ids] at hj,hrd⟩
    ·have h5:=h2.col b hl hb;show (if χ' b=ob+2 then 0 else χ' b)=_;rw[if_neg (by rw[h5]; simpa using hb)]; exact h5
    ·have hi:Lad.upd s.hp ob (some .gone) i=some h:=hi;by_cases hio:i=ob
     ·subst hio;rw[aE] at hi;injection hi with hi
      subst hi;exact .inr trivial
     ·rw[fV _ _ hio] at hi;exact .inl ⟨hi,by simp; omega⟩
   ·cases h
  ·cases h
 ·cases h
theorem HS {e:Eff} {b:BinOp} {t t':TypeId} {x y:Operand} (r:bP w0 χ0 T0 s a w G) (hd:∀ k,o.dst=some k->k<a.tmps.size) (ho:o.op = .binOp b t x y t') (h:qx P b t [s.arg x,s.arg y]=some e) :
  o.wp P a w (aX w0 χ0 T0 a.tmps.size (s.app o.dst e)) Q:=by
 have hx:=r.ev x;have hy:=r.ev y;unfold qx at h;split at h
 ·rename_i ob e0 z l _ heq;simp only[List.cons.injEq,and_true] at heq;obtain⟨heq,heq2⟩:=heq;obtain⟨h1,h2⟩:=St.bF heq;rw[h1] at hx;rw[(St.bF heq2).1] at hy;have hob:s.hp ob=some (.arr e0 z l):=by simpa [Slot.ids,Cmp.ids,Cmp.leaves,av.ids] using h2
  have hval:a.eval x=G.hv ob:=LRd.val hx;obtain⟨hown,_⟩:=r.gM ob _ hob;obtain⟨xs,hor,_⟩:=hown.ex;have key:∃ A n c,G.hv ob = .slice A n c/\(A.isNone=true->l=[]):=by
   rcases hor.2 with⟨hv,hn⟩ | ⟨b,c,cs,off,hv,_⟩
   ·exact⟨_,_,_,hv,fun _=>List.eq_nil_of_length_eq_zero hn⟩
   ·exact⟨_,_,_,hv,fun hA=>by cases hA⟩
  obtain⟨A,n,c,hv,hnil⟩:=key;rw[hv] at hval;have hy':a.eval y = .slice none 0 0:=lx hy;split at h <;> simp only[val,Option.some.injEq,reduceCtorEq] at h
  ·rename_i hu;subst h;refine bD r hd (v := .bool A.isNone) ?_ ⟨rfl,by simp [av.ids],A.isNone,rfl,hnil⟩;have h3:(eqGuard .eql t x y (.slice A n c) (.slice none 0 0)).run P w = .ok () w:=rfl;have h4:(binOp .eql t (.slice A n c) (.slice none 0 0)).run P w = .ok (.bool A.isNone) w:=by simp only[binOp,Sem.run_bind,ry hu,Result.andThen_ok,Sem.run_pure]
   simp [execOp,ho,hval,hy',h3,h4]
  ·rename_i hu;subst h;refine bD r hd (v := .bool (!A.isNone)) ?_ ⟨rfl,by simp [av.ids],!A.isNone,rfl,fun h=>hnil (by cases A <;> simp_all)⟩;have h3:(eqGuard .neq t x y (.slice A n c) (.slice none 0 0)).run P w = .ok () w:=rfl;have h4:(binOp .neq t (.slice A n c) (.slice none 0 0)).run P w = .ok (.bool (!A.isNone)) w:=by simp only[binOp,Sem.run_bind,ry hu,Result.andThen_ok,Sem.run_pure]
   simp [execOp,ho,hval,hy',h3,h4]
 ·cases h
theorem MR {e:Eff} (r:bP w0 χ0 T0 s a w G) (hd:∀ k,o.dst=some k->k<a.tmps.size) (h:xu P o.op o.dst (aF s.hp o.dst) ((Op.bq o.op).map s.arg)=some e) (hc:e.cond):o.wp P a w (aX w0 χ0 T0 a.tmps.size (s.app o.dst e)) Q:=by
 unfold xu at h;split at h <;> rename_i hop
 ·rw[hop] at h; exact HS r hd hop (by simpa [Op.bq] using h)
 ·rw[hop] at h; exact HH r hd hop (by simpa [Op.bq] using h)
 ·rw[hop] at h; exact HG r hd hop (by simpa [Op.bq] using h) hc
 ·rw[hop] at h; exact JG r hd hop (by simpa [Op.bq] using h)
 ·rw[hop] at h; exact HK r hd hop (by simpa [Op.bq] using h)
 ·rw[hop] at h; exact EF r hd hop (by simpa [Op.bq] using h)
 ·rw[hop] at h; exact MQ r hd hop (by simpa [Op.bq] using h)
 ·rename_i as ts;split at h
  ·rename_i t t' hts;split at h
   ·rename_i htt;subst htt;rw[hop] at h;have hts':ts = #[t,t]:=by rw[← Array.toArray_toList (xs:=ts),hts]
    simp only[Op.bq,List.nil_append] at h;cases hl:as.toList with
    | nil=>rw[hl] at h; simp [pM] at h
    | cons x rest=>cases rest with
     | nil=>rw[hl] at h; simp [pM] at h
     | cons y rest=>cases rest with
      | nil =>
       rw[hl] at h;refine HO (x:=x) (y:=y) (t:=t) r hd hop ?_ (by simpa using h) hc;rw[hts',← Array.toArray_toList (xs:=as),hl]
      | cons z rest=>rw[hl] at h; simp [pM] at h
   ·cases h
  ·cases h
 ·cases h
theorem HT {e:Eff} {t:TypeId} {x y z:Operand} (r:bP w0 χ0 T0 s a w G) (hd:∀ k,o.dst=some k->k<a.tmps.size) (ho:o.op = .mapUpdate t x y z) (h:th P t [s.arg x,s.arg y,s.arg z]=some e) (hc:e.cond) :
  o.wp P a w (aX w0 χ0 T0 a.tmps.size (s.app o.dst e)) Q:=by
 have hx:=r.ev x;have hy:=r.ev y;have hz:=r.ev z;unfold th at h;split at h
 ·rename_i ob k e0 zz m hh k' n _ d e' z' l heq;simp only[List.cons.injEq,and_true] at heq;obtain⟨h1,h2⟩:=St.bF heq.1;rw[h1] at hx;rw[(St.bF heq.2.1).1] at hy;obtain⟨h3,h4⟩:=St.bF heq.2.2;rw[h3] at hz;have hob:s.hp ob=some (.gI k e0 zz m hh):=by simpa [Slot.ids,Cmp.ids,Cmp.leaves,av.ids] using h2
  have hd0:s.hp d=some (.arr e' z' l):=by simpa [Slot.ids,Cmp.ids,Cmp.leaves,av.ids] using h4
  have hval:a.eval x = .map (some (G.bl ob)):=LRd.val hx;have hvz:a.eval z=G.hv d:=LRd.val hz;obtain⟨es,clock,mv,hm,hcol,hkey,hrow,hap,hnd⟩:=r.gM ob _ hob;obtain⟨hown,hbl⟩:=r.gM d _ hd0;have hdo:d≠ob:=fun e=>by rw[e,hob] at hd0; cases hd0
  split at h
  ·rename_i kt et hu;split at h
   ·rename_i k2 hk;split at h
    ·rename_i hcc;obtain⟨rfl,rfl,rfl,rfl⟩:=hcc;simp only[Option.some.injEq] at h;subst h;have hc:hh=none\/hh=some n:=hc;obtain⟨g1,g2⟩:=hm.update (KeyLaw.int hk) hu n (G.hv d);have hrun:∃ es' clock',(execOp a.eval o).run P w = .ok .skip (fb w (G.bl ob) es' clock')/\fW (wU k') (id:Value->Value) (fb w (G.bl ob) es' clock') (G.bl ob) es' clock' (fa mv n (G.hv d)) :=
      ⟨_,_,by
       have g1':(Instr.mapUpdate t (.map (some (G.bl ob))) (.int k' n) (G.hv d)).run P w=_:=g1;simp only[execOp,ho,hval,(fH hy).1,hvz,Sem.run_bind,g1',Result.andThen_ok,Sem.run_pure],g2⟩
     obtain⟨es',clock',hrun,hm'⟩:=hrun
     let v:=G.hv d
     let G':Gh:={ χ:=fun b=>if v.ownBlock=some b then ob+2 else G.χ b,bl:=G.bl,hv:=G.hv }
     have hvc:∀ g,v.ownBlock=some g->G.χ g=d+2:=hown.col;have hz0:∀ b,G.χ b=0->G'.χ b=0:=fun b hb=>by
      show (if v.ownBlock=some b then ob+2 else G.χ b)=0;rw[if_neg (fun h=>by have:=hvc b h; omega)]; exact hb
     have hvm:v.ownBlock≠some (G.bl ob):=hown.Ei hm.at_;have hlk:∀ q,eJ s.hp [(d,cu.gone),(ob,cu.gI k' e0 zz (fa m n l) none)] q=if q=ob then some (.gI k' e0 zz (fa m n l) none) else if q=d then some .gone else s.hp q:=fun q=>by
      show Lad.upd (Lad.upd s.hp d _) ob _ q=_;unfold Lad.upd;rfl
     have hst:Chg [ob+2,d+2] G.χ w G'.χ (fb w (G.bl ob) es' clock') :=
      ⟨rfl,rfl,rfl,Nat.le_of_eq (vQ _ _ _ _).symm,fun b _ hb=>if_neg fun h=>hb (by rw[hvc b h]; simp),fun b _ hb=>jZ w (G.bl ob) es' clock' b (fun e=>hb (by rw[e,hcol]; simp))⟩
     have hfr:∀ b,In G.χ 0 b->b<w.heap.size->In G'.χ 0 b/\(fb w (G.bl ob) es' clock').heap[b]?=w.heap[b]? := fun b hb _=>⟨hz0 b hb,jZ w (G.bl ob) es' clock' b (fun e=>by rw[e] at hb; have:G.χ (G.bl ob)=0:=hb; omega)⟩;have hext:Ext G s.hp w G' (eJ s.hp [(d,cu.gone),(ob,cu.gI k' e0 zz (fa m n l) none)]) (fb w (G.bl ob) es' clock') :=
      ⟨hfr,fun _ _=>rfl,fun _ _=>rfl,kO _ _⟩
     have hmove:∀ {kk:Nat} {u:Value} {ll:List (List PV)},Own (α:=CZ zz) kk G.χ e0 w u ll->kk≠0->(∀ g,u.ownBlock=some g->G'.χ g=ob+2)->Own (α:=CZ zz) (ob+2) G'.χ e0 (fb w (G.bl ob) es' clock') u ll:=by
      intro kk u ll hu hkk hg;have hne:=hu.Ei hm.at_;obtain⟨⟨xs,q1,q2⟩,q3⟩:=hu;refine⟨⟨xs,⟨q1.1,?_⟩,fun i x hx=>aA.frame hfr (q2 i x hx)⟩,hg⟩;rcases q1.2 with hn | ⟨g,cap,cur,off,rfl,hb,hgg,rest⟩
      ·exact .inl hn
      ·refine .inr ⟨g,cap,cur,off,rfl,hb,?_,rest⟩;exact hgg.frame (jZ w (G.bl ob) es' clock' g (fun e=>hne (by rw[e]; rfl)))
     have hnew:Own (α:=CZ zz) (ob+2) G'.χ e0 (fb w (G.bl ob) es' clock') v l:=hmove hown (by omega) fun g hg=>if_pos hg;have hold:∀ (i:Nat) x y,mv[i]?=some x->m[i]?=some y->x.1≠n->Own (α:=CZ zz) (ob+2) G'.χ e0 (fb w (G.bl ob) es' clock') x.2 y.2:=fun i x y hx hy hxn=>by
      have h5:=hrow i x y hx hy (by rcases hc with rfl | rfl <;> simp; exact fun e=>hxn e.symm);refine hmove h5 (by omega) fun g hg=>?_;show (if v.ownBlock=some g then ob+2 else G.χ g)=ob+2;split
      ·rfl
      ·exact h5.col g hg
     have hsep:∀ (i:Nat) x g,mv[i]?=some x->x.1≠n->x.2.ownBlock=some g->v.ownBlock≠some g:=fun i x g hx hxn hg hv=>by
      obtain⟨y,hy⟩:∃ y,m[i]?=some y:=⟨_,List.getElem?_eq_getElem (by have:=congrArg List.length hkey; simp at this; have:=(List.getElem?_eq_some_iff.1 hx).1; omega)⟩;have h5:=(hrow i x y hx hy (by rcases hc with rfl | rfl <;> simp; exact fun e=>hxn e.symm)).col g hg;have h6:=hvc g hv;omega
     have hrows:OM (ob+2) G'.χ e0 (fb w (G.bl ob) es' clock') zz none (fa mv n v) (fa m n l):=by
      have hlen:=congrArg List.length hkey;simp only[List.length_map] at hlen;have hnk:∀ (i j:Nat) x,pos (m.map (·.1)) n=some i->mv[j]?=some x->j<i->x.1≠n:=fun i j x hp hx hji e=>by
       refine (iu hp).2 j hji ?_;rw[← hkey,List.getElem?_map,hx,← e]; rfl
      unfold fa;rw[hkey];cases hp:pos (m.map (·.1)) n with
      | none =>
       have hnot:∀ (i:Nat) x,mv[i]?=some x->x.1≠n:=fun i x hx e=>pR.1 hp (by rw[← hkey]; exact List.mem_map.2 ⟨x,List.mem_of_getElem? hx,e⟩);have hget:∀ {α:Type} (L:List α) (q:α) (i:Nat) x,(L++[q])[i]?=some x->(L[i]?=some x/\i<L.length)\/(i=L.length/\x=q):=fun L q i x hx=>by
        rcases Nat.lt_trichotomy i L.length with h | h | h
        ·rw[List.getElem?_append_left h] at hx; exact .inl ⟨hx,h⟩
        ·subst h; simp at hx; exact .inr ⟨rfl,hx.symm⟩
        ·rw[List.getElem?_eq_none (by simp; omega)] at hx; cases hx
       refine⟨by simp [hkey],fun i x y hx hy _=>?_,fun i j x y g hij hx hy _ _ hg hg2=>?_,?_⟩
       ·rcases hget _ _ _ _ hx with⟨hx,hi⟩ | ⟨rfl,rfl⟩
        ·rcases hget _ _ _ _ hy with⟨hy,_⟩ | ⟨rfl,rfl⟩
         ·exact hold i x y hx hy (hnot i x hx)
         ·omega
        ·rcases hget _ _ _ _ hy with⟨hy,hi⟩ | ⟨_,rfl⟩
         ·omega
         ·exact hnew
       ·rcases hget _ _ _ _ hx with⟨hx,hi⟩ | ⟨rfl,rfl⟩
        ·rcases hget _ _ _ _ hy with⟨hy,hj⟩ | ⟨rfl,rfl⟩
         ·exact hap i j x y g hij hx hy (by rcases hc with rfl | rfl <;> simp; exact fun e=>hnot i x hx e.symm) (by rcases hc with rfl | rfl <;> simp; exact fun e=>hnot j y hy e.symm) hg hg2
         ·exact hsep i x g hx (hnot i x hx) hg hg2
        ·rcases hget _ _ _ _ hy with⟨hy,hj⟩ | ⟨rfl,rfl⟩
         ·exact hsep j y g hy (hnot j y hy) hg2 hg
         ·exact hij rfl
       ·rw[List.map_append,List.map_cons,List.map_nil,List.nodup_append];refine⟨hnd,by simp,fun a ha b hb=>?_⟩;rw[List.mem_singleton] at hb;subst hb;exact fun e=>pR.1 hp (e ▸ ha)
      | some i0 =>
       have hi0:=mV hp;rw[List.length_map] at hi0;have hmi:∃ l0,m[i0]?=some (n,l0):=by
        have h1:=(iu hp).1;rw[List.getElem?_map,Option.map_eq_some_iff] at h1;obtain⟨q,hq,rfl⟩:=h1;exact⟨q.2,hq⟩
       obtain⟨l0,hmi⟩:=hmi;have huniq:∀ (i:Nat) x,mv[i]?=some x->i≠i0->x.1≠n:=fun i x hx hne e=>by
        have h1:(m.map (·.1))[i]?=some n:=by rw[← hkey,List.getElem?_map,hx,← e]; rfl
        have h2:=(iu hp).1;exact hne ((List.getElem?_inj (List.getElem?_eq_some_iff.1 h1).1 hnd).1 (h1.trans h2.symm))
       have hget:∀ {α:Type} (L:List α) (q:α) (i:Nat) x,i0<L.length->(L.set i0 q)[i]?=some x->(L[i]?=some x/\i≠i0)\/(i=i0/\x=q):=fun L q i x hL hx=>by
        rw[List.getElem?_set] at hx;by_cases hi:i0=i
        ·rw[if_pos hi,if_pos (by omega)] at hx;injection hx with hx
         exact .inr ⟨hi.symm,hx.symm⟩
        ·rw[if_neg hi] at hx;exact .inl ⟨hx,fun e=>hi e.symm⟩
       refine⟨by rw[List.map_set,List.map_set,hkey],fun i x y hx hy _=>?_,fun i j x y g hij hx hy _ _ hg hg2=>?_,?_⟩
       ·rcases hget _ _ _ _ (by omega) hx with⟨hx,hi⟩ | ⟨rfl,rfl⟩
        ·rcases hget _ _ _ _ (by omega) hy with⟨hy,_⟩ | ⟨rfl,rfl⟩
         ·exact hold i x y hx hy (huniq i x hx hi)
         ·exact absurd rfl hi
        ·rcases hget _ _ _ _ (by omega) hy with⟨hy,hi⟩ | ⟨_,rfl⟩
         ·exact absurd rfl hi
         ·exact hnew
       ·rcases hget _ _ _ _ (by omega) hx with⟨hx1,hi⟩ | ⟨hi,hx1⟩
        ·rcases hget _ _ _ _ (by omega) hy with⟨hy1,hj⟩ | ⟨hj,hy1⟩
         ·exact hap i j x y g hij hx1 hy1 (by rcases hc with rfl | rfl <;> simp; exact fun e=>huniq i x hx1 hi e.symm) (by rcases hc with rfl | rfl <;> simp; exact fun e=>huniq j y hy1 hj e.symm) hg hg2
         ·rw[hy1] at hg2;exact hsep i x g hx1 (huniq i x hx1 hi) hg hg2
        ·rcases hget _ _ _ _ (by omega) hy with⟨hy1,hj⟩ | ⟨hj,hy1⟩
         ·rw[hx1] at hg;exact hsep j y g hy1 (huniq j y hy1 hj) hg2 hg
         ·exact hij (hi.trans hj.symm)
       ·have e1:(m.set i0 (n,l)).map (·.1)=m.map (·.1):=by
         rw[List.map_set];apply List.ext_getElem?;intro i;rw[List.getElem?_set];split
         ·rename_i hi;subst hi;rw[(iu hp).1,if_pos (by rw[List.length_map]; omega)]
         ·rfl
        rw[e1]; exact hnd
     unfold Oper.wp;rw[hrun];refine⟨Act.jF _ _ _,G',r.upd hd hext hst (by simp) (fun b hb=>hz0 b (r.norm b (by rw[vQ] at hb; exact hb))) (fun i h' hi=>?_) trivial⟩;have hi:eJ s.hp [(d,cu.gone),(ob,cu.gI k' e0 zz (fa m n l) none)] i=some h':=hi;rw[hlk] at hi;by_cases hio:i=ob
     ·subst hio;rw[if_pos rfl] at hi;injection hi with hi
      subst hi;refine .inr ⟨es',clock',_,hm',?_,hrows⟩;show (if v.ownBlock=some (G.bl i) then i+2 else G.χ (G.bl i))=i+2;rw[if_neg hvm]; exact hcol
     ·rw[if_neg hio] at hi;by_cases hid:i=d
      ·subst hid;rw[if_pos rfl] at hi;injection hi with hi
       subst hi;exact .inr trivial
      ·rw[if_neg hid] at hi;exact .inl ⟨hi,by simp; omega⟩
    ·cases h
   ·cases h
  ·cases h
 ·cases h
theorem Po (zc:Array Value) (n z:Nat) (hz:zc.size=z) {i j:Nat} (hi:i<n) (hj:j<z):(Builtin.zeroCells zc n).toList[i * z+j]?=zc.toList[j]? := by
 have hlt:i * z+j<n * z:=by
  have:(i+1) * z<=n * z:=Nat.mul_le_mul_right _ hi;rw[Nat.add_mul] at this; omega
 simp [Builtin.zeroCells,hlt,hz,Nat.mul_add_mod_of_lt,Nat.mod_eq_of_lt hj];rw[getElem!_pos zc j (by omega),getElem?_pos zc j (by omega)]
theorem Pp {zc:Array Value} {n:Nat} (h:∀ u∈zc.toList,u.oneCell'=true):∀ u∈(Builtin.zeroCells zc n).toList,u.oneCell'=true:=by
 intro u hu;rcases Nat.eq_zero_or_pos zc.size with h0 | h0
 ·simp [Builtin.zeroCells,h0] at hu
 ·simp [Builtin.zeroCells] at hu;obtain⟨j,hj,rfl⟩:=hu;have hm:=Nat.mod_lt j h0;rw[getElem!_pos zc _ hm];exact h _ (by simp)
theorem CB {g ob:Nat} {cs:Array Value} {h:cu} {c:Prop} {v:Value} (r:bP w0 χ0 T0 s a w G) (hd:∀ k,o.dst=some k->k<a.tmps.size) (hk:G.χ g=ob+2)
  (hrun:(execOp a.eval o).run P w = .ok (.value v) (w.setRow g cs)) (hh:HRd G (Lad.upd s.hp ob (some h)) (w.setRow g cs) ob h):o.wp P a w (aX w0 χ0 T0 a.tmps.size (s.app o.dst ⟨c,.dead,[(ob,h)]⟩)) Q:=by
 unfold Oper.wp;rw[hrun];refine⟨Act.jF _ _ _,G,r.upd hd (tc hk) (xc hk) (by simp) (fun b hb=>r.norm b (by simpa [World.setRow] using hb)) (fun i h' hi=>?_) trivial⟩;change Lad.upd s.hp ob (some h) i=some h' at hi;by_cases hid:i=ob
 ·subst hid;rw[aE] at hi;injection hi with hi
  subst hi;exact .inr hh
 ·rw[fV _ _ hid] at hi;exact .inl ⟨hi,by simp; omega⟩
theorem JH {ob:Nat} {h:cu} {c:Prop} {v:Value} (r:bP w0 χ0 T0 s a w G) (hd:∀ k,o.dst=some k->k<a.tmps.size)
  (hrun:(execOp a.eval o).run P w = .ok (.value v) w) (hh:s.hp ob=some h):o.wp P a w (aX w0 χ0 T0 a.tmps.size (s.app o.dst ⟨c,.dead,[(ob,h)]⟩)) Q:=by
 unfold Oper.wp;rw[hrun];have e:eJ s.hp [(ob,h)]=s.hp:=by
  funext i
  show Lad.upd s.hp ob (some h) i=s.hp i;by_cases hi:i=ob
  ·rw[hi,aE,hh]
  ·rw[fV _ _ hi]
 have e2:s.app o.dst ⟨c,.dead,[(ob,h)]⟩=s.put o.dst .dead:=by
  show ({ tm:=(s.put o.dst .dead).tm,hp:=eJ s.hp [(ob,h)] }:St)=_;rw[e];unfold St.put;cases o.dst <;> rfl
 refine⟨Act.jF _ _ _,G,?_⟩;rw[e2];exact r.val hd trivial
theorem EG {e:Eff} {t:TypeId} {x:Operand} {c:Call} (r:bP w0 χ0 T0 s a w G) (hd:∀ k,o.dst=some k->k<a.tmps.size) (ho:o.op = .call c) (hcc:c = { callee := .builtin .clear,args := #[x],argTypes := #[t] })
  (h:pv P t [s.arg x]=some e) (hc:e.cond):o.wp P a w (aX w0 χ0 T0 a.tmps.size (s.app o.dst e)) Q:=by
 subst hcc;have hx:=r.ev x;unfold pv at h;split at h
 ·rename_i ob i j z e0 z' l heq;simp only[List.cons.injEq,and_true] at heq;obtain⟨h1,h2⟩:=St.bF heq;rw[h1] at hx;have hob:s.hp ob=some (.arr e0 z' l):=by simpa [Slot.ids,Cmp.ids,Cmp.leaves,av.ids] using h2
  obtain⟨A,n,cp,hv,hij,hjn,hnc,hval⟩:=LRd.val hx;obtain⟨hown,hbl⟩:=r.gM ob _ hob;split at h
  ·rename_i e2 z2 hel;split at h
   ·rename_i agg ps hz;split at h
    ·rename_i hcc;obtain⟨rfl,rfl,hps⟩:=hcc;simp only[Option.some.injEq] at h;subst h;obtain⟨c1,c2⟩:=hc;have hE:=fe hel;by_cases h0:j=i
     ·subst h0;have hrun:(execOp a.eval o).run P w = .ok (.value (.tuple #[])) w:=by
       have hv0:a.eval x = .slice (if cp=j then A else A.map (·.add (j * z2))) 0 (cp-j):=by rw[hval]; unfold svV; rw[Nat.sub_self]
       simp only[execOp,ho,resolve,invoke,builtin,Sem.run_bind,Sem.run_pure,Result.andThen_ok,List.map_toArray,List.map_cons,List.map_nil,hv0,Builtin.clear_];cases (if cp=j then A else A.map (·.add (j * z2))) <;> simp [run_underlying hE.ty]
      have el:l.take j++List.replicate (j-j) ps++l.drop j=l:=by simp
      rw[el];exact JH r hd hrun hob
     ·obtain⟨i1,zv,hi1,hzv,hsz,hby,hzs⟩:=hE.ex;obtain⟨hrz,hrow⟩:=rA hz;have hzvv:zv=sS agg ps:=by
       have:=hrz default;simp [zeroValue,typeInfo,hi1,hzv] at this;exact this
      have hrd:RdL (In G.χ 0) w ps zv.cells.toList:=by
       have h1:=CRd.cells (pU (G:=G) (hp:=s.hp) (w:=w) hrow);rw[← hzvv] at h1;unfold ru at h1;cases agg with
       | true=>exact qo h1
       | false =>
        have:=hrow.2 rfl;cases ps with
        | nil=>simp at this
        | cons p r' =>
         cases r' with
         | nil=>exact qo (xs:=[p]) h1
         | cons _ _=>simp at this
      have hown0:=hown;obtain⟨⟨xs,q1',q2⟩,q3⟩:=hown;have q1:jq w e0 z2 (G.hv ob) (List.length (α:=List PV) l) xs:=q1';clear q1';have hxl:xs.length=l.length * z2:=q1.1;rcases q1.2 with⟨hv',hn⟩ | ⟨g,cap,cur,off,hv',hb,hgg,hcc,hm,hcs,hr⟩
      ·omega
      rw[hv] at hv';injection hv' with e1 e2 e3
      subst e1 e2 e3;have hcol:G.χ g=ob+2:=q3 g (by rw[hv]; rfl)
      let us:=(Builtin.zeroCells zv.cells (j-i)).toList
      have hzsz:zv.cells.size=z2:=hzs;have hul:us.length=(j-i) * z2:=by simp [us,Builtin.zeroCells,hzsz]
      have hij2:i * z2+(j-i) * z2=j * z2:=by rw[← Nat.add_mul]; congr 1; omega
      have hjl:j * z2<=l.length * z2:=Nat.mul_le_mul_right _ c2;have hlc:l.length * z2<=cp * z2:=Nat.mul_le_mul_right _ hcc;have hv0:a.eval x = .slice (some ⟨g,off+i * z2,none⟩) (j-i) (cp-i):=by
       rw[hval]; unfold svV
       rw[if_neg (by omega)];show Value.slice (some ((⟨g,off,none⟩:Addr).add (i * z2))) _ _=_;rw[fY]
      have hst:=jE P g (off+i * z2) e0 us 0 cur w hgg (by omega) (Pp hrd.one);simp only[Nat.add_zero] at hst;have hrun:(execOp a.eval o).run P w = .ok (.value (.tuple #[])) (w.setRow g (putAt cur.toList (off+i * z2) us).toArray):=by
       obtain⟨mm,hmm⟩:∃ mm,j-i=mm+1:=⟨j-i-1,by omega⟩;simp only[execOp,ho,resolve,invoke,builtin,Sem.run_bind,Sem.run_pure,Result.andThen_ok,List.map_toArray,List.map_cons,List.map_nil,hv0,Builtin.clear_,List.getElem?_toArray,List.getElem?_cons_zero,hmm,run_underlying hE.ty,zeroValue,typeInfo,run_program,hi1,hzv];rw[← hmm];have hst':(storeCells ⟨g,off+i * z2,none⟩ (Builtin.zeroCells zv.cells (j-i)).toList).run P w=_:=hst;simp [hst',putAt]
      refine CB r hd hcol hrun ⟨?_,hbl⟩;have hfr:∀ b,In G.χ 0 b->b<w.heap.size->In G.χ 0 b/\(w.setRow g (putAt cur.toList (off+i * z2) us).toArray).heap[b]?=w.heap[b]? :=
       fun b hb0 _=>⟨hb0,setRow_other w g b _ (fun e=>by rw[e] at hb0; have:G.χ g=0:=hb0; omega)⟩
      have hL:∀ L:List (List PV),L=l.take i++List.replicate (j-i) ps++l.drop j->Own (α:=CZ z2) (ob+2) G.χ e0 (w.setRow g (putAt cur.toList (off+i * z2) us).toArray) (G.hv ob) L:=by
       intro L hL;have hLl:List.length (α:=List PV) L=l.length:=by rw[hL]; simp; omega
       refine⟨⟨putAt xs (i * z2) us,(⟨?_,.inr ⟨g,cp,(putAt cur.toList (off+i * z2) us).toArray,off,?_,hb,hgg.set _ (by show (putAt cur.toList (off+i * z2) us).length=cur.size; rw[kj _ _ _ (by simp; omega)]; simp),?_,hm,?_,?_⟩⟩:jq _ e0 z2 _ (List.length (α:=List PV) L) _),fun q row hq=>?_⟩,q3⟩
       ·rw[hLl,kj _ _ _ (by omega),hxl]
       ·rw[hLl,hv]
       ·omega
       ·show off+_<=(putAt cur.toList (off+i * z2) us).length;rw[kj _ _ _ (by simp; omega)]
        simpa using hcs
       ·show ((putAt cur.toList (off+i * z2) us).drop off).take (List.length (α:=List PV) L * z2)=_;rw[hLl,xb _ _ _ _ (by simp; omega),xa _ _ _ _ (by omega) (by simp; omega),hr]
       ·refine aA.frame hfr ?_;have hq':L[q]?=some (show List PV from row):=hq;show aA.rd (α:=CZ z2) _ _ (chunk z2 q (putAt xs (i * z2) us)) row;by_cases hqi:i<=q/\q<j
        ·have hrow':(show List PV from row)=ps:=by
          rw[hL,List.append_assoc,List.getElem?_append_right (by simp; omega),List.getElem?_append_left (by simp; omega)] at hq';obtain⟨_,h5⟩:=List.getElem?_eq_some_iff.1 hq'
          simpa using h5.symm
         have hch:chunk z2 q (putAt xs (i * z2) us)=zv.cells.toList:=by
          apply List.ext_getElem?;intro mq;unfold chunk;rw[List.getElem?_take];split
          ·rename_i hmq;have h6:q * z2=i * z2+(q-i) * z2:=by rw[← Nat.add_mul]; congr 1; omega
           have h7:(q-i+1) * z2<=(j-i) * z2:=Nat.mul_le_mul_right _ (by omega);rw[Nat.add_mul] at h7;rw[List.getElem?_drop,kY _ _ _ (by omega),if_pos (by omega),show q * z2+mq-i * z2=(q-i) * z2+mq by omega];exact Po zv.cells (j-i) z2 hzsz (by omega) hmq
          ·rw[List.getElem?_eq_none (by simp; omega)]
         rw[hch];have h8:row=ps:=hrow';subst h8;exact⟨by simpa using hzsz,hrd⟩
        ·have hch:chunk z2 q (putAt xs (i * z2) us)=chunk z2 q xs:=by
          apply List.ext_getElem?;intro mq;unfold chunk;rw[List.getElem?_take,List.getElem?_take];split
          ·rename_i hmq;rw[List.getElem?_drop,List.getElem?_drop,kY _ _ _ (by omega),if_neg];intro ⟨h6,h7⟩;rcases Nat.lt_or_ge q i with h8 | h8
           ·have:(q+1) * z2<=i * z2:=Nat.mul_le_mul_right _ (by omega);rw[Nat.add_mul] at this; omega
           ·have:j * z2<=q * z2:=Nat.mul_le_mul_right _ (by omega);omega
          ·rfl
         rw[hch];refine q2 q row ?_;show l[q]?=some (show List PV from row);rw[hL] at hq';rcases Nat.lt_or_ge q i with h8 | h8
         ·rw[List.append_assoc,List.getElem?_append_left (by simp; omega),List.getElem?_take,if_pos h8] at hq';exact hq'
         ·rw[List.getElem?_append_right (by simp; omega),List.getElem?_drop] at hq';rw[← hq']; congr 1; simp; omega
      exact hL _ rfl
    ·cases h
   ·cases h
  ·cases h
 ·cases h
theorem F9 {z k:Nat} {χ:Col} {e:TypeId} {w':World} {v':Value} {l m:List (List PV)} {xs news:List Value} (h1:jq w' e z v' (l.length+m.length) (xs++news)) (hxl:xs.length=l.length * z)
  (hx:∀ (i:Nat) x,l[i]?=some x->aA.rd (α:=CZ z) (In χ 0) w' (chunk z i xs) x) (hn:∀ (i:Nat) x,m[i]?=some x->aA.rd (α:=CZ z) (In χ 0) w' (chunk z i news) x) (hcol:∀ g,v'.ownBlock=some g->χ g=k):Own (α:=CZ z) k χ e w' v' (l++m):=by
 refine⟨⟨xs++news,(by rw[List.length_append]; exact h1:jq w' e z v' (List.length (α:=List PV) (l++m)) (xs++news)),fun j x hj=>?_⟩,hcol⟩;have hj0:(l++m)[j]?=some (show List PV from x):=hj;rcases Nat.lt_or_ge j l.length with hjl | hjl
 ·have hj':l[j]?=some (show List PV from x):=by rw[← List.getElem?_append_left (l₂:=m) hjl]; exact hj0
  have e1:chunk z j (xs++news)=chunk z j xs:=by
   unfold chunk;have:j * z+z<=xs.length:=by
    rw[hxl,← Nat.succ_mul]; exact Nat.mul_le_mul_right _ hjl
   rw[List.drop_append_of_le_length (by omega),List.take_append_of_le_length (by rw[List.length_drop]; omega)]
  rw[show aA.sz (CZ z)=z from rfl,e1]; exact hx j _ hj'
 ·have hj':m[j-l.length]?=some (show List PV from x):=by rw[← List.getElem?_append_right (l₁:=l) hjl]; exact hj0
  have e1:chunk z j (xs++news)=chunk z (j-l.length) news:=by
   unfold chunk;have:j * z=xs.length+(j-l.length) * z:=by
    rw[hxl,← Nat.add_mul]; congr 1; omega
   rw[this,List.drop_append,Nat.add_sub_cancel_left,List.drop_of_length_le (Nat.le_add_right _ _),List.nil_append]
  rw[show aA.sz (CZ z)=z from rfl,e1];exact hn _ _ hj'
theorem HU {e:Eff} {t:TypeId} {x y:Operand} {c:Call} (r:bP w0 χ0 T0 s a w G) (hd:∀ k,o.dst=some k->k<a.tmps.size) (ho:o.op = .call c) (hcc:c = { callee := .builtin .append,args := #[x,y],argTypes := #[t,t] })
  (h:n7 P t o.dst (aF s.hp o.dst) [s.arg x,s.arg y]=some e) (hc:e.cond):o.wp P a w (aX w0 χ0 T0 a.tmps.size (s.app o.dst e)) Q:=by
 subst hcc;have hx:=r.ev x;unfold n7 at h;split at h
 ·rename_i l _ y' heq;simp only[List.cons.injEq,and_true] at heq;rw[(St.bF heq.1).1] at hx;split at h
  ·rename_i el z m d hel hm hdst;split at h
   ·rename_i hfree;simp only[Option.some.injEq] at h;subst h;obtain⟨c1,c2,c3,c4,c5⟩:=hc;rw[hdst] at hfree;have hf:s.hp d=none/\d<1000000:=by simpa [aF] using hfree
    have hsrc:=oQ r heq.2 hm c5;obtain⟨hrd,htight⟩:Rd (In G.χ 0) w (.sl l) (a.eval x)/\_:=LRd.val hx;obtain⟨A,cp,xs,hv,n1,n2,n3,n4,n5⟩:=Jq hrd (fun _ h=>h) c4;have hcp:=htight _ _ _ hv;subst hcp;obtain⟨B,cb,news,hvy,m1,m2,m3,m4,m5⟩:=hsrc;cases A with
    | none=>exact absurd (n4 rfl) c2
    | some ad =>
    cases B with
    | none=>exact absurd (m4 rfl) c3
    | some bd =>
    have hE:=fe hel;obtain⟨i1,zv,hi1,hzv,hsz,hby,hzs⟩:=hE.ex;have hml:0<m.length:=List.length_pos_iff.2 c3;have hr:=run_append_grow (P:=P) w t o.type el i1 zv hE.ty hi1 hzv ad l.length l.length xs (by rw[hsz]; exact n1) (n5 ad rfl) bd m.length cb news (by rw[hsz]; exact m1) (m5 bd rfl) (by omega) (by omega) (growslice_fits (by omega) (Nat.le_trans (Nat.mul_le_mul c1 hby) (by omega)));have hge:=grownCap_ge w (l.length+m.length) l.length el;have hcm':grownCap w (l.length+m.length) l.length el<=maxLen:=grownCap_le_maxLen w (l.length+m.length) l.length el (by simp only[maxLen]; omega);generalize grownCap w (l.length+m.length) l.length el=q at hr hge hcm'
    let X:Obj := .cells (xs.toArray++news.toArray++Builtin.zeroCells zv.cells (q-(l.length+m.length))) el
    have hrun:(execOp a.eval o).run P w = .ok (.value (.slice (some ⟨w.heap.size,0,none⟩) (l.length+m.length) q)) (w.drew.alloc X):=by
     simp only[execOp,ho,resolve,invoke,builtin,Sem.run_bind,Sem.run_pure,Result.andThen_ok,List.map_toArray,List.map_cons,List.map_nil,hv,hvy,hr];rfl
    have hblk:∀ b,b<w.heap.size->(w.drew.alloc X).heap[b]?=w.heap[b]? := fun b hb=>heap_alloc_old w.drew X hb
    let hw:Value := .slice (some ⟨w.heap.size,0,none⟩) (l.length+m.length) q
    let G':=G.add d w.heap.size hw
    have hfr:∀ b,In G.χ 0 b->b<w.heap.size->In G'.χ 0 b/\(w.drew.alloc X).heap[b]?=w.heap[b]? := fun b hb hl=>⟨by
     show (if b=w.heap.size then d+2 else G.χ b)=0;rw[if_neg (by omega)]; exact hb,hblk b hl⟩
    have hlen:(xs++news).length=(l.length+m.length) * z:=by rw[List.length_append,n1,m1,Nat.add_mul]
    have hnew:Own (α:=CZ z) (d+2) G'.χ el (w.drew.alloc X) hw (l++m):=by
     refine F9 (xs:=xs) (news:=news) ⟨hlen,.inr ⟨w.heap.size,q,_,0,rfl,Nat.zero_le _,.of (heap_alloc_new w.drew _),hge,hcm',?_,?_⟩⟩ n1 (fun i x hx=>aA.frame hfr (n3 i x hx)) (fun i x hx=>aA.frame hfr (m3 i x hx)) (fun g hg=>?_)
     ·have h9:(l.length+m.length) * z+(q-(l.length+m.length)) * z=q * z:=by rw[← Nat.add_mul]; congr 1; omega
      simp only[Array.size_append,List.size_toArray,size_zeroCells,hzs,n1,m1];rw[Nat.zero_add,← Nat.add_mul];exact Nat.le_of_eq h9.symm
     ·rw[List.drop_zero];simp only[Array.toList_append,List.append_assoc];rw[← List.append_assoc,← hlen];exact List.take_left
     ·simp [hw,Value.ownBlock] at hg;subst hg;show (if w.heap.size=w.heap.size then d+2 else _)=d+2;rw[if_pos rfl]
    refine tX (T:=[]) (G':=G') (w':=w.drew.alloc X) r hd hrun ⟨hfr,fun i hi=>fV _ _ (fun e=>hi.elim (fun hi=>hi (by rw[e]; exact hf.1)) fun hi=>by omega),fun i hi=>fV _ _ (fun e=>hi.elim (fun hi=>hi (by rw[e]; exact hf.1)) fun hi=>by omega),kO _ _⟩
     ⟨rfl,rfl,rfl,by simp,fun b hl _=>if_neg (by omega),fun b hl _=>hblk b hl⟩ (by simp) (fun b hb=>?_) (fun i h hi=>?_) ⟨rfl,fun j hj=>?_,?_⟩
    ·have hb':w.heap.size+1<=b:=by simpa using hb
     show (if b=w.heap.size then d+2 else G.χ b)=0;rw[if_neg (by omega)]; exact r.norm b (by omega)
    ·have hi:Lad.upd s.hp d (some (.arr el z (l++m))) i=some h:=hi;by_cases hid:i=d
     ·subst hid;rw[aE] at hi;injection hi with hi
      subst hi;refine .inr ⟨?_,fun b hb=>?_⟩
      ·show Own (α:=CZ z) (i+2) _ el _ (Lad.upd G.hv i hw i) (l++m);rw[aE]; exact hnew
      ·change (Lad.upd G.hv i hw i).ownBlock=some b at hb;rw[aE] at hb;simp [hw,Value.ownBlock] at hb;show b=Lad.upd G.bl i w.heap.size i;rw[aE]; exact hb.symm
     ·rw[fV _ _ hid] at hi;exact .inl ⟨hi,by simp⟩
    ·simp [av.ids] at hj;subst hj;show Lad.upd s.hp j _ j≠none;rw[aE]; simp
    ·exact (aE G.hv d hw).symm
   ·cases h
  ·cases h
 ·cases h
theorem CC:∀ (xs:List Operand) (cs:List av),bP w0 χ0 T0 s a w G->qw (xs.map s.ev)=some cs->dU (LRd G s.hp w) cs ((xs.map a.eval).flatMap fun v=>v.cells.toList)/\cs.length=xs.length/\∀ v∈xs.map a.eval,v.cells.size=1
 | [],cs,r,h=>by
  simp only[List.map_nil,qw,Option.some.injEq] at h;subst h;exact⟨⟨rfl,by simp⟩,rfl,by simp⟩
 | x::xs,cs,r,h=>by
  have hx:=r.ev x;rw[List.map_cons] at h;unfold qw at h;split at h
  ·rename_i heq; cases heq
  ·rename_i l rest heq;simp only[List.cons.injEq] at heq;obtain⟨e1,rfl⟩:=heq;rw[e1] at hx;split at h
   ·rename_i l' hl';simp only[Option.some.injEq] at h;subst h;obtain⟨i1,i2,i3⟩:=CC xs l' r hl';have hc:dU (LRd G s.hp w) [l] (a.eval x).cells.toList:=CRd.cells (show CRd G s.hp w (.v l) (a.eval x) from hx);have hsz:(a.eval x).cells.size=1:=by have:=hc.1; simpa using this.symm
    refine⟨?_,by simp [i2],fun v hv=>?_⟩
    ·rw[List.map_cons,List.flatMap_cons];exact hc.append i1
    ·rw[List.map_cons] at hv;rcases List.mem_cons.1 hv with rfl | hv
     ·exact hsz
     ·exact i3 v hv
   ·cases h
  ·cases h
theorem zg {e:Eff} {t:TypeId} {n:Nat} {ps:Array (Nat×Operand)} (r:bP w0 χ0 T0 s a w G) (hd:∀ k,o.dst=some k->k<a.tmps.size) (ho:o.op = .buildSlice t n ps)
  (h:fN P t n (ps.toList.map (·.1)) o.dst (aF s.hp o.dst) ((ps.toList.map (·.2)).map s.ev)=some e):o.wp P a w (aX w0 χ0 T0 a.tmps.size (s.app o.dst e)) Q:=by
 cases hdst:o.dst with
 | none=>simp [fN,hdst] at h
 | some d =>
 cases hel:cR P t with
 | none=>simp [fN,hel] at h
 | some ez =>
 obtain⟨el,z⟩:=ez;simp only[fN,hdst,hel] at h;split at h
 ·rename_i hc;obtain⟨h1,h2,h3,rfl⟩:=hc;split at h
  ·rename_i cs hl;simp only[Option.some.injEq] at h;subst h;have hf':s.hp d=none/\d<1000000:=by simpa [aF] using h2
   obtain⟨hrd,hlen,hvz⟩:=CC _ cs r hl;have hE:=fe hel;obtain⟨i,zv,hi,hz,hsz,hby,hzs⟩:=hE.ex;have hn:cs.length=n:=by
    have:=congrArg List.length h1;rw[hlen]; simpa using this
   have hrun:(execOp a.eval o).run P w = .ok (.value (.slice (some ⟨w.heap.size,0,none⟩) cs.length cs.length)) (w.alloc (.cells (((ps.toList.map (·.2)).map a.eval).flatMap fun v=>v.cells.toList).toArray el)):=by
    have hlv:((ps.toList.map (·.2)).map a.eval).length=n:=by rw[List.length_map,← hlen]; exact hn
    have e1:(ps.map fun (i,x)=>(i,a.eval x)).toList=(((ps.toList.map (·.2)).map a.eval).zipIdx 0).map fun x=>(x.2,x.1):=by
     rw[← uU,hlv,← h1,Array.toList_map,List.map_map,List.zip_map']; rfl
    rw[hn];generalize (ps.toList.map (·.2)).map a.eval=vs at *
    have hbs:(Instr.buildSlice t n (ps.map fun (i,x)=>(i,a.eval x))).run P w = .ok (.slice (some ⟨w.heap.size,0,none⟩) n n) (w.alloc (.cells (vs.flatMap fun v=>v.cells.toList).toArray el)):=by
     by_cases hn0:n=0
     ·have hvs:vs=[]:=List.eq_nil_of_length_eq_zero (by rw[hlv,hn0]);subst hvs;subst hn0;have hps:ps = #[]:=by
       have:=congrArg List.length h1
       simpa using this
      subst hps;simp [Instr.buildSlice,run_underlying hE.ty,sizeOf,typeInfo,hi,Instr.fill,newRow];rw[show Array.range 0 = #[] from Array.eq_empty_of_size_eq_zero (by simp)];rw[Array.map_empty]
     ·refine run_buildSlice w t el n _ _ i zv hE.ty hi hz ?_ ?_ ?_
      ·rw[hsz]; omega
      ·rw[hsz]; omega
      ·rw[e1,hsz];exact Great.fill_whole hE.pos vs _ hvz (by simp [hlv])
    simp only[execOp,ho,Sem.run_bind,hbs,Result.andThen_ok,Sem.run_pure]
   rw[← hdst];have hext:=Ext.new r.norm hf' (.cells (((ps.toList.map (·.2)).map a.eval).flatMap fun v=>v.cells.toList).toArray el) (.slice (some ⟨w.heap.size,0,none⟩) cs.length cs.length) (.lit el cs);refine mh r hd hf' (.slice (some ⟨w.heap.size,0,none⟩) cs.length cs.length) hrun ⟨rfl,fun j hj=>?_,?_⟩ ⟨_,?_,?_,hrd.mono fun x v hx=>hx.ext hext,?_,by omega⟩
   ·simp [av.ids] at hj; subst hj; rw[aE]; simp
   ·exact (aE G.hv d _).symm
   ·show Blk _ (Lad.upd G.bl d w.heap.size d) el _;rw[aE];exact heap_alloc_new w _
   ·show (if Lad.upd G.bl d w.heap.size d=w.heap.size then d+2 else _)=d+2;rw[aE,if_pos rfl]
   ·show Lad.upd G.hv d _ d = .slice (some ⟨Lad.upd G.bl d w.heap.size d,0,none⟩) _ _;rw[aE,aE]
  ·cases h
 ·cases h
theorem JI {e:Eff} {t:TypeId} {x:Operand} {c:Call} (r:bP w0 χ0 T0 s a w G) (hd:∀ k,o.dst=some k->k<a.tmps.size) (ho:o.op = .call c) (hcc:c = { callee := .builtin .cap,args := #[x],argTypes := #[t] })
  (h:vW P t [s.ev x]=some e):o.wp P a w (aX w0 χ0 T0 a.tmps.size (s.app o.dst e)) Q:=by
 subst hcc;have hx:=r.ev x;unfold vW at h;split at h
 ·rename_i heq;simp only[List.cons.injEq,and_true] at heq;rw[heq] at hx;split at h
  ·rename_i el hu;simp only[val,Option.some.injEq] at h;subst h;have hv:a.eval x = .slice none 0 0:=lx hx;exact bD r hd (v := .int .i64 0) (by simp [execOp,ho,resolve,invoke,builtin,Builtin.cap_,run_underlying hu,hv,goInt]) (iz ⟨by show (-9223372036854775808:Int)<=0; omega,by show (0:Int)<=9223372036854775807; omega⟩)
  ·cases h
 ·cases h
theorem HV {e:Eff} {t t':TypeId} {x y:Operand} {c:Call} (r:bP w0 χ0 T0 s a w G) (hd:∀ k,o.dst=some k->k<a.tmps.size) (ho:o.op = .call c) (hcc:c = { callee := .builtin .append,args := #[x,y],argTypes := #[t,t'] })
  (h:mo P t t' o.dst (aF s.hp o.dst) [s.arg x,s.arg y]=some e) (hc:e.cond):o.wp P a w (aX w0 χ0 T0 a.tmps.size (s.app o.dst e)) Q:=by
 subst hcc;have hx:=r.ev x;have hy:=r.ev y;unfold mo at h;split at h
 ·rename_i _ kd n _ heq;simp only[List.cons.injEq,and_true] at heq;rw[(St.bF heq.1).1] at hx;rw[(St.bF heq.2).1] at hy;split at h
  ·rename_i k2 el z d hu hel hdst;split at h
   ·rename_i agg ps hz0;split at h
    ·rename_i hcc;obtain⟨hfree,hlen⟩:=hcc;simp only[Option.some.injEq] at h;subst h;obtain⟨c1,c3⟩:=hc;rw[hdst] at hfree;have hf:s.hp d=none/\d<1000000:=by simpa [aF] using hfree
     have hE:=fe hel;obtain⟨i1,zv,hi1,hzv,hsz,hby,hzs⟩:=hE.ex;obtain⟨hrz,hrow⟩:=rA hz0;have hzv':zv=sS agg ps:=by
      have:=hrz default;simp [zeroValue,typeInfo,hi1,hzv] at this;exact this
     have hrd:RdL (In G.χ 0) w ps zv.cells.toList:=by
      have h1:=CRd.cells (pU (G:=G) (hp:=s.hp) (w:=w) hrow);rw[← hzv'] at h1;unfold ru at h1;cases agg with
      | true=>exact qo h1
      | false =>
       have:=hrow.2 rfl;cases ps with
       | nil=>simp at this
       | cons p r' =>
        cases r' with
        | nil=>exact qo (xs:=[p]) h1
        | cons _ _=>simp at this
     have hv:a.eval x = .slice none 0 0:=lx hx;have hvy:a.eval y = .int kd n:=(fH hy).1;obtain⟨N,hN⟩:∃ N:Nat,n=N:=⟨n.toNat,by omega⟩;subst hN;have hzpos:0<z:=hE.pos;have hb2:N * i1.bytes<=281474976710656:=Nat.le_trans (Nat.mul_le_mul (show N<=2147483647 by omega) hby) (by decide);have hr:=Lib.run_append_nil_zeros (P:=P) w t t' o.type el i1 zv kd k2 hE.ty hu hi1 hzv N (by omega) (by omega) (by omega) hb2;have hge:=grownCap_ge w N 0 el;have hcm':grownCap w N 0 el<=maxLen:=grownCap_le_maxLen w N 0 el (by simp only[maxLen]; omega);generalize grownCap w N 0 el=q at hr hge hcm'
     let X:Obj := .cells (Builtin.zeroCells zv.cells N++Builtin.zeroCells zv.cells (q-N)) el
     have hrun:(execOp a.eval o).run P w = .ok (.value (.slice (some ⟨w.heap.size,0,none⟩) N q)) (w.drew.alloc X):=by
      simp only[execOp,ho,resolve,invoke,builtin,Sem.run_bind,Sem.run_pure,Result.andThen_ok,List.map_toArray,List.map_cons,List.map_nil,hv,hvy,hr];rfl
     have hblk:∀ b,b<w.heap.size->(w.drew.alloc X).heap[b]?=w.heap[b]? := fun b hb=>heap_alloc_old w.drew X hb
     let hw:Value := .slice (some ⟨w.heap.size,0,none⟩) N q
     let G':=G.add d w.heap.size hw
     have hfr:∀ b,In G.χ 0 b->b<w.heap.size->In G'.χ 0 b/\(w.drew.alloc X).heap[b]?=w.heap[b]? := fun b hb hl=>⟨by
      show (if b=w.heap.size then d+2 else G.χ b)=0;rw[if_neg (by omega)]; exact hb,hblk b hl⟩
     have hzl:zv.cells.size=z:=hzs;have hzc:Builtin.zeroCells zv.cells N=madeCells zv.cells (N * z):=by rw[← hzl]; rfl
     have hnl:(madeCells zv.cells (N * z)).toList.length=N * z:=by simp [madeCells]
     have hnew:Own (α:=CZ z) (d+2) G'.χ el (w.drew.alloc X) hw ([]++List.replicate (N:Int).toNat ps):=by
      have hL:([]:List (List PV)).length+(List.replicate (N:Int).toNat ps).length=N:=by simp
      refine F9 (l:=[]) (xs:=[]) (news:=(madeCells zv.cells (N * z)).toList) ⟨?_,.inr ⟨w.heap.size,q,_,0,?_,Nat.zero_le _,.of (heap_alloc_new w.drew _),?_,hcm',?_,?_⟩⟩ (by simp) (fun i x hx=>by simp at hx) (fun i x hx=>?_) (fun g hg=>?_)
      ·rw[hL,List.nil_append,hnl]
      ·rw[hL]
      ·rw[hL]; exact hge
      ·have h9:N * z+(q-N) * z=q * z:=by rw[← Nat.add_mul]; congr 1; omega
       simp only[Array.size_append,size_zeroCells,hzs];rw[Nat.zero_add];exact Nat.le_of_eq h9.symm
      ·rw[hL,List.drop_zero,Array.toList_append,hzc,List.nil_append];exact List.take_left' hnl
      ·have h1:=List.getElem?_eq_some_iff.1 hx;obtain⟨h2,h3⟩:=h1;simp at h2 h3;subst h3;have hch:chunk z i (madeCells zv.cells (N * z)).toList=zv.cells.toList:=by
        apply List.ext_getElem?;intro j;unfold chunk;rw[List.getElem?_take];split
        ·rename_i hq;rw[List.getElem?_drop,Cu zv.cells N z hzl (by omega) hq]
        ·rw[List.getElem?_eq_none (by simp; omega)]
       rw[hch];exact aA.frame (α:=CZ z) hfr (show aA.rd (α:=CZ z) (In G.χ 0) w zv.cells.toList ps from⟨by simpa using hzl,hrd⟩)
      ·simp [hw,Value.ownBlock] at hg;subst hg;show (if w.heap.size=w.heap.size then d+2 else _)=d+2;rw[if_pos rfl]
     change Own (α:=CZ z) (d+2) G'.χ el (w.drew.alloc X) hw (List.replicate (N:Int).toNat ps) at hnew;refine tX (T:=[]) (G':=G') (w':=w.drew.alloc X) r hd hrun ⟨hfr,fun i hi=>fV _ _ (fun e=>hi.elim (fun hi=>hi (by rw[e]; exact hf.1)) fun hi=>by omega),fun i hi=>fV _ _ (fun e=>hi.elim (fun hi=>hi (by rw[e]; exact hf.1)) fun hi=>by omega),kO _ _⟩
      ⟨rfl,rfl,rfl,by simp,fun b hl _=>if_neg (by omega),fun b hl _=>hblk b hl⟩ (by simp) (fun b hb=>?_) (fun i h hi=>?_) ⟨rfl,fun j hj=>?_,?_⟩
     ·have hb':w.heap.size+1<=b:=by simpa using hb
      show (if b=w.heap.size then d+2 else G.χ b)=0;rw[if_neg (by omega)]; exact r.norm b (by omega)
     ·have hi:Lad.upd s.hp d (some (.arr el z (List.replicate (N:Int).toNat ps))) i=some h:=hi;by_cases hid:i=d
      ·subst hid;rw[aE] at hi;injection hi with hi
       subst hi;refine .inr ⟨?_,fun b hb=>?_⟩
       ·show Own (α:=CZ z) (i+2) _ el _ (Lad.upd G.hv i hw i) (List.replicate (N:Int).toNat ps);rw[aE]; exact hnew
       ·change (Lad.upd G.hv i hw i).ownBlock=some b at hb;rw[aE] at hb;simp [hw,Value.ownBlock] at hb;show b=Lad.upd G.bl i w.heap.size i;rw[aE]; exact hb.symm
      ·rw[fV _ _ hid] at hi;exact .inl ⟨hi,by simp⟩
     ·simp [av.ids] at hj;subst hj;show Lad.upd s.hp j _ j≠none;rw[aE]; simp
     ·exact (aE G.hv d hw).symm
    ·cases h
   ·cases h
  ·cases h
 ·cases h
theorem HX {e:Eff} {t t':TypeId} {x y:Operand} {c:Call} (r:bP w0 χ0 T0 s a w G) (hd:∀ k,o.dst=some k->k<a.tmps.size) (ho:o.op = .call c) (hcc:c = { callee := .builtin .append,args := #[x,y],argTypes := #[t,t'] })
  (h:mr P t t' o.dst (aF s.hp o.dst) [s.arg x,s.arg y]=some e) (hc:e.cond):o.wp P a w (aX w0 χ0 T0 a.tmps.size (s.app o.dst e)) Q:=by
 have hx:=r.ev x;have hy:=r.ev y;cases hdst:o.dst with
 | none=>unfold mr at h; split at h <;> (try split at h) <;> simp_all
 | some d =>
 rw[hdst] at h;have hfr:aF s.hp (some d)=true->s.hp d=none/\d<1000000:=fun h=>by simpa [aF] using h
 rw[← hdst];unfold mr at h;split at h
 ·rename_i ob el z l sx _ heq;simp only[List.cons.injEq,and_true] at heq;obtain⟨h1,h2⟩:=St.bF heq.1;rw[h1] at hx;rw[(St.bF heq.2).1] at hy;have hob:s.hp ob=some (.arr el z l):=by simpa [Slot.ids,Cmp.ids,Cmp.leaves,av.ids] using h2
  have hval:a.eval x=G.hv ob:=LRd.val hx;have hvy:a.eval y = .string sx:=(lv hy).1;split at h
  ·rename_i e' z' d' hu hel hdd;injection hdd with hdd
   subst hdd;split at h
   ·rename_i hcond;obtain⟨rfl,rfl,rfl,hfree⟩:=hcond;simp only[Option.some.injEq] at h;subst h;exact uV r hd ho hcc (hfr hfree) (by rw[hval,hvy]; exact Ch (fe hel) hu (r.gM ob _ hob).1 (by omega) hc r.norm) (.inl rfl)
   ·cases h
  ·cases h
 ·rename_i _ sx _ heq;simp only[List.cons.injEq,and_true] at heq;rw[(St.bF heq.1).1] at hx;rw[(St.bF heq.2).1] at hy;have hvy:a.eval y = .string sx:=(lv hy).1;split at h
  ·rename_i e' z' d' hu hel hdd;injection hdd with hdd
   subst hdd;split at h
   ·rename_i hcond;obtain⟨rfl,hfree⟩:=hcond;simp only[Option.some.injEq] at h;subst h;have hn:=(hfr hfree).1;have hown:Own (α:=CZ 1) (d+2) G.χ e' w (a.eval x) []:=by rw[lx hx]; exact Own.nil _ _ _ _
    exact uV (ob:=d) (l:=[]) r hd ho hcc (hfr hfree) (by rw[hvy]; exact Ch (fe hel) hu hown (by omega) (by simpa using hc) r.norm) (.inr ⟨rfl,hn⟩)
   ·cases h
  ·cases h
 ·cases h
theorem HY {e:Eff} {t t':TypeId} {x y:Operand} {c:Call} (r:bP w0 χ0 T0 s a w G) (hd:∀ k,o.dst=some k->k<a.tmps.size) (ho:o.op = .call c) (hcc:c = { callee := .builtin .append,args := #[x,y],argTypes := #[t,t'] })
  (h:oV P t t' o.dst (aF s.hp o.dst) [s.arg x,s.arg y]=some e) (hc:e.cond):o.wp P a w (aX w0 χ0 T0 a.tmps.size (s.app o.dst e)) Q:=by
 unfold oV at h;split at h
 ·rename_i e' he;injection h with h
  subst h;exact HV r hd ho hcc he hc
 ·exact HX r hd ho hcc h hc
theorem Pq {e:Eff} (r:bP w0 χ0 T0 s a w G) (hd:∀ k,o.dst=some k->k<a.tmps.size) (h:opV P o.op o.dst (aF s.hp o.dst) ((Op.bq o.op).map s.arg)=some e) (hc:e.cond):o.wp P a w (aX w0 χ0 T0 a.tmps.size (s.app o.dst e)) Q:=by
 have hm:((Op.bq o.op).map s.arg).map (·.1)=(Op.bq o.op).map s.ev:=by rw[List.map_map]; rfl
 unfold opV at h;rw[hm] at h;split at h <;> rename_i hop
 ·rw[hop] at h; exact HA r hd hop (by simpa [Op.bq] using h) hc
 ·rw[hop] at h; exact ED r hd hop (by simpa [Op.bq] using h)
 ·rw[hop] at h; exact HT r hd hop (by simpa [Op.bq] using h) hc
 ·rename_i as ts;split at h
  ·rename_i t hts;rw[hop] at h;have hts':ts = #[t]:=by rw[← Array.toArray_toList (xs:=ts),hts]
   simp only[Op.bq,List.nil_append] at h;cases hl:as.toList with
   | nil=>rw[hl] at h; simp [pv] at h
   | cons x rest=>cases rest with
    | nil =>
     rw[hl] at h;refine EG (x:=x) (t:=t) r hd hop ?_ (by simpa using h) hc;rw[hts',← Array.toArray_toList (xs:=as),hl]
    | cons y rest=>rw[hl] at h; simp [pv] at h
  ·cases h
 ·rw[hop] at h; exact zf r hd hop (by simpa [Op.bq] using h)
 ·rw[hop] at h; exact wq r hd hop (by simpa [Op.bq] using h) hc
 ·rename_i as ts;split at h
  ·rename_i t u hts;rw[hop] at h;have hts':ts = #[t,u]:=by rw[← Array.toArray_toList (xs:=ts),hts]
   simp only[Op.bq,List.nil_append] at h;cases hl:as.toList with
   | nil=>rw[hl] at h; simp [xr] at h
   | cons x rest=>cases rest with
    | nil=>rw[hl] at h; simp [xr] at h
    | cons y rest=>cases rest with
     | nil =>
      rw[hl] at h;refine Hz (x:=x) (y:=y) (t:=t) (u:=u) r hd hop ?_ (by simpa using h) hc;rw[hts',← Array.toArray_toList (xs:=as),hl]
     | cons z rest=>rw[hl] at h; simp [xr] at h
  ·cases h
 ·rename_i as ts;split at h
  ·rename_i t t' hts;have hts':ts = #[t,t']:=by rw[← Array.toArray_toList (xs:=ts),hts]
   rw[hop] at h;simp only[Op.bq,List.nil_append] at h;cases hl:as.toList with
   | nil=>rw[hl] at h; simp [n7,oV,mr,mo] at h
   | cons x rest=>cases rest with
    | nil=>rw[hl] at h; simp [n7,oV,mr,mo] at h
    | cons y rest=>cases rest with
     | nil =>
      rw[hl] at h;have has:as = #[x,y]:=by rw[← Array.toArray_toList (xs:=as),hl]
      split at h
      ·rename_i htt;subst htt;exact HU (x:=x) (y:=y) (t:=t) r hd hop (by rw[hts',has]) (by simpa using h) hc
      ·exact HY (x:=x) (y:=y) (t:=t) (t':=t') r hd hop (by rw[hts',has]) (by simpa using h) hc
     | cons z rest=>rw[hl] at h; simp [n7,oV,mr,mo] at h
  ·cases h
 ·rename_i as ts;split at h
  ·rename_i t hts;rw[hop] at h;have hts':ts = #[t]:=by rw[← Array.toArray_toList (xs:=ts),hts]
   simp only[Op.bq,List.nil_append] at h;cases hl:as.toList with
   | nil=>rw[hl] at h; simp [vW] at h
   | cons x rest=>cases rest with
    | nil =>
     rw[hl] at h;refine JI (x:=x) (t:=t) r hd hop ?_ (by simpa using h);rw[hts',← Array.toArray_toList (xs:=as),hl]
    | cons y rest=>rw[hl] at h; simp [vW] at h
  ·cases h
 ·rw[hop] at h; exact zg r hd hop (by simpa [Op.bq,List.map_map,Function.comp_def] using h)
 ·cases h
theorem Pr {e:Eff} (r:bP w0 χ0 T0 s a w G) (hd:∀ k,o.dst=some k->k<a.tmps.size) (h:opY P o.op o.dst (aF s.hp o.dst) ((Op.bq o.op).map s.arg)=some e) (hc:e.cond):o.wp P a w (aX w0 χ0 T0 a.tmps.size (s.app o.dst e)) Q:=by
 unfold opY at h;split at h <;> rename_i hop <;> first | exact Pq r hd (by rw[hop]; rw[hop] at h; exact h) hc | exact MN r hd h hc
end
end Go.Lad
namespace Go.Lad
open Go.RowKit
def kC (ops:List Oper) (s:St) (g:Nat):Slot :=
 match (ops[g]?).bind (·.dst) with
 | some d=>s.tm d
 | none=>.dead
def pY (ops:List Oper) (s:St) (o:Oper):Option Bool :=
 match o.guard with
 | none=>some true
 | some (g,b)=>match kC ops s g with
  | .c (.v (.p (.bool c)))=>some (c == b)
  | .t _=>some false
  | _=>none
def re:Eff:=⟨True,.t [],[]⟩
def inL (l:List Nat) (d:Option Nat):Bool:=match d with | some d=>l.contains d | none=>false
def orE (x y:Option Eff):Option Eff:=match x with | some e=>some e | none=>y
def cE:Op->Bool
 | .buildSlice _ _ _=>true
 | .binOp .add _ _ _ _=>true
 | _=>false
def lR (op:Op):Bool:=cE op || dB op
def opX (P:Program) (Γ:Opt) (s:St) (o:Oper):Option Eff:=if (inL Γ.fz o.dst && lR o.op)=true then (if cE o.op=true then opZ P (inL Γ.mv o.dst) o.op ((Op.bq o.op).map s.ev) else xu P o.op o.dst (aF s.hp o.dst) ((Op.bq o.op).map s.arg)) else orE (opE P o.op o.dst (aF s.hp o.dst) ((Op.bq o.op).map s.arg)) (opY P o.op o.dst (aF s.hp o.dst) ((Op.bq o.op).map s.arg))
def oA:Op->Bool
 | .load _ _ | .indexAddr _ _ _ | .slice _ _ _ _ none=>true
 | .call { callee := .builtin .len,.. }=>true
 | _=>false
def xv:Op->Bool
 | .slice _ _ _ _ none=>true
 | .call { callee := .builtin .len,.. }=>true
 | _=>false
def nP:Op->Option Nat
 | .load _ (.tmp k)=>some k
 | .store _ (.tmp k) _=>some k
 | _=>none
def H0 (l:List Nat) (k t:Nat):Bool:=l.any fun e=>Nat.beq (e / 1000000) (k+1) && Nat.beq (e % 1000000) t
def btP (s:St) (t i:Nat):Prop:=(t<500000/\∃ cs,s.hp i=some (.box t cs))\/i+500000=t
def Ps (Γ:Opt) (s:St) (o:Oper):Prop := ∀ k,nP o.op=some k->∀ t,H0 Γ.bx k t=true->∀ i∈(s.ev (.tmp k)).ids,btP s t i
def rH (Γ:Opt) (s:St) (o:Oper):Prop:=(inL Γ.mv o.dst=true->∀ x∈Op.bq o.op,(s.ev x).ids=[])/\(inL Γ.mv o.dst=false->(inL Γ.bx o.dst && oA o.op)=true->∀ x∈Op.bq o.op,∀ i∈(s.ev x).ids,if xv o.op=true then ∃ t z l,s.hp i=some (.arr t z l) else ∃ t cs,s.hp i=some (.box t cs))/\Ps Γ s o
theorem fQ {x:Option Eff}:orE x none=x:=by cases x <;> rfl
theorem fI {y:Option Eff}:orE none y=y:=rfl
theorem jG {P:Program} {Γ:Opt} {s:St} {o:Oper} (h:(inL Γ.fz o.dst && lR o.op)=false):opX P Γ s o=orE (opE P o.op o.dst (aF s.hp o.dst) ((Op.bq o.op).map s.arg)) (opY P o.op o.dst (aF s.hp o.dst) ((Op.bq o.op).map s.arg)):=by
 unfold opX; rw[h]; rfl
theorem xw {P:Program} {Γ:Opt} {s:St} {o:Oper} (h:(inL Γ.fz o.dst && cE o.op)=true):opX P Γ s o=opZ P (inL Γ.mv o.dst) o.op ((Op.bq o.op).map s.ev):=by
 rw[Bool.and_eq_true] at h;unfold opX; rw[if_pos (by rw[h.1]; unfold lR; rw[h.2]; rfl),if_pos h.2]
theorem rI {P:Program} {Γ:Opt} {s:St} {o:Oper} (h:(inL Γ.fz o.dst && dB o.op)=true):opX P Γ s o=xu P o.op o.dst (aF s.hp o.dst) ((Op.bq o.op).map s.arg):=by
 rw[Bool.and_eq_true] at h;have hb:cE o.op=false:=by
  have h2:=h.2;unfold dB at h2;split at h2 <;> rename_i hop <;> first | (cases h2; done) | (rw[hop]; rfl)
 unfold opX; rw[if_pos (by rw[h.1]; unfold lR; rw[h.2,Bool.or_true]; rfl),if_neg (by rw[hb]; simp)]
theorem rJ {Γ:Opt} {o:Oper} (h1:(inL Γ.fz o.dst && cE o.op)=false) (h2:(inL Γ.fz o.dst && dB o.op)=false):(inL Γ.fz o.dst && lR o.op)=false:=by
 unfold lR;cases hf:inL Γ.fz o.dst <;> cases hb:cE o.op <;> cases ht:dB o.op <;> simp_all
theorem jH {x y:Option Eff} {e:Eff} (h:orE x y=some e):x=some e\/y=some e:=by
 unfold orE at h;split at h
 ·exact .inl h
 ·exact .inr h
def Stp (P:Program) (Γ:Opt) (s:St) (o:Oper) (e:Eff):Prop :=
 match o.op with
 | .call { callee := .value _,.. }=>kz P Γ s o e
 | _=>opX P Γ s o=some e/\rH Γ s o
def gy (P:Program) (Γ:Opt) (ops:List Oper) (s:St) (o:Oper) (e:Eff):Prop :=
 (pY ops s o=some true/\Stp P Γ s o e)\/(pY ops s o=some false/\e=re)
def Rev (Γ:Opt) (o:Oper) (s s':St):Prop:=s'=s\/(inL Γ.vs o.dst=true/\∃ tms hps σ,Sub σ s tms hps/\s'=oy tms hps)
def H2 (P:Program) (Γ:Opt) (ops:List Oper):List Oper->St->(St->Prop)->Prop
 | [],s,K=>K s
 | o::rest,s,K=>∃ s' e,Rev Γ o s s'/\gy P Γ ops s' o e/\e.cond/\H2 P Γ ops rest (s'.app o.dst e) K
def tY (Γ:Opt) (o:Oper) (s:St) (K:St->Prop):Prop:=if inL Γ.vs o.dst then (K s\/∃ tms hps σ,Sub σ s tms hps/\K (oy tms hps)) else K s
def rf (P:Program) (Γ:Opt) (s:St) (o:Oper) (K:Eff->Prop):Prop :=
 match o.op with
 | .call { callee := .value _,.. }=>∃ e,kz P Γ s o e/\e.cond/\K e
 | _=>match opX P Γ s o with | some e=>e.cond/\rH Γ s o/\K e | none=>False
def qz (P:Program) (Γ:Opt) (ops:List Oper):List Oper->St->(St->Prop)->Prop
 | [],s,K=>K s
 | o::rest,s,K=>tY Γ o s fun s =>
  match o.guard with
  | none=>rf P Γ s o fun e=>qz P Γ ops rest (s.app o.dst e) K
  | some (g,b)=>match kC ops s g with
   | .c (.v (.p (.bool c)))=>(c=b->rf P Γ s o fun e=>qz P Γ ops rest (s.app o.dst e) K)/\(c = !b->qz P Γ ops rest (s.app o.dst re) K)
   | .t _=>qz P Γ ops rest (s.app o.dst re) K
   | _=>False
theorem JJ {P:Program} {Γ:Opt} {s:St} {o:Oper} {K:Eff->Prop} (h:rf P Γ s o K):∃ e,Stp P Γ s o e/\e.cond/\K e:=by
 unfold rf at h;unfold Stp;split at h
 ·exact h
 ·split at h
  ·rename_i e he;exact⟨e,⟨he,h.2.1⟩,h.1,h.2.2⟩
  ·exact h.elim
theorem mY {P:Program} {Γ:Opt} {ops:List Oper} {K:St->Prop}:∀ (l:List Oper) (s:St),qz P Γ ops l s K->H2 P Γ ops l s K
 | [],s,h=>h
 | o::rest,s,h=>by
  have key:∀ s:St,(match o.guard with
   | none=>rf P Γ s o fun e=>qz P Γ ops rest (s.app o.dst e) K
   | some (g,b)=>match kC ops s g with
    | .c (.v (.p (.bool c)))=>(c=b->rf P Γ s o fun e=>qz P Γ ops rest (s.app o.dst e) K)/\(c = !b->qz P Γ ops rest (s.app o.dst re) K)
    | .t _=>qz P Γ ops rest (s.app o.dst re) K
    | _=>False)->∃ e,gy P Γ ops s o e/\e.cond/\H2 P Γ ops rest (s.app o.dst e) K:=by
   intro s h;split at h
   ·rename_i hg;obtain⟨e,h1,h2,h3⟩:=JJ h;exact⟨e,.inl ⟨by simp [pY,hg],h1⟩,h2,mY rest _ h3⟩
   ·rename_i g b hg;split at h
    ·rename_i c hs;obtain⟨h1,h2⟩:=h;by_cases hcb:c=b
     ·obtain⟨e,h3,h4,h5⟩:=JJ (h1 hcb);exact⟨e,.inl ⟨by simp [pY,hg,hs,hcb],h3⟩,h4,mY rest _ h5⟩
     ·refine⟨re,.inr ⟨?_,rfl⟩,trivial,mY rest _ (h2 (by cases c <;> cases b <;> simp_all))⟩;have:(c == b)=false:=by simpa using hcb
      simp [pY,hg,hs,this]
    ·rename_i hs;exact⟨re,.inr ⟨by simp [pY,hg,hs],rfl⟩,trivial,mY rest _ h⟩
    ·exact h.elim
  unfold qz tY at h;split at h
  ·rename_i hv;rcases h with h | ⟨tms,hps,σ,hs,h⟩
   ·obtain⟨e,h1⟩:=key s h;exact⟨s,e,.inl rfl,h1⟩
   ·obtain⟨e,h1⟩:=key _ h;exact⟨_,e,.inr ⟨hv,tms,hps,σ,hs,rfl⟩,h1⟩
  ·obtain⟨e,h1⟩:=key s h;exact⟨s,e,.inl rfl,h1⟩
section
variable {P:Program} {Γ:Opt} {w0:World} {χ0:Col} {T0:Ctx} {s:St} {a:Act} {w:World} {G:Gh} {o:Oper} {Q:Exit->Act->World->Prop} {ops:List Oper} {n:Nat}
theorem CD {x:Bool} (r:bP w0 χ0 T0 s a w G) (hdn:∀ o∈ops,∀ k,o.dst=some k->k<a.tmps.size) (h:pY ops s o=some x):Region.wanted o (yielded ops.toArray a.tmps)=x:=by
 unfold pY at h;unfold Region.wanted;split at h
 ·rename_i hg;simp only[Option.some.injEq] at h;rw[hg]; exact h
 ·rename_i g b hg;rw[hg];dsimp only;have hsl:∀ sl,kC ops s g=sl->sl ≠ .dead->∃ d,(ops.toArray[g]?).bind (·.dst)=some d/\s.tm d=sl/\d<a.tmps.size:=by
   intro sl h1 h2;unfold kC at h1;split at h1
   ·rename_i d hd;refine⟨d,by simpa using hd,h1,?_⟩;rw[Option.bind_eq_some_iff] at hd;obtain⟨o',ho',hd'⟩:=hd;exact hdn o' (List.mem_of_getElem? ho') d hd'
   ·exact absurd h1.symm h2
  split at h
  ·rename_i c hs;obtain⟨d,h1,h2,h3⟩:=hsl _ hs (by simp);simp only[Option.some.injEq] at h;have hv:=r.tms d;rw[h2] at hv;have hb:=lM hv;have:yielded ops.toArray a.tmps g=some c:=by
    unfold yielded;rw[h1];simp only[Option.bind_some,Array.getElem?_eq_getElem h3];have:a.tmps.getD d undef=a.tmps[d]:=by simp [Array.getElem?_eq_getElem h3]
    rw[this] at hb;rw[hb]
   rw[this];rw[← h]; cases c <;> cases b <;> rfl
  ·rename_i l hs;obtain⟨d,h1,h2,h3⟩:=hsl _ hs (by simp);simp only[Option.some.injEq] at h;have hv:=r.tms d;rw[h2] at hv;obtain⟨vs,hb,_⟩:=hv;have:yielded ops.toArray a.tmps g=none:=by
    unfold yielded;rw[h1];simp only[Option.bind_some,Array.getElem?_eq_getElem h3];have:a.tmps.getD d undef=a.tmps[d]:=by simp [Array.getElem?_eq_getElem h3]
    rw[this] at hb;rw[hb]
   rw[this,← h]; rfl
  ·cases h
theorem MS (r:bP w0 χ0 T0 s a w G) (hd:∀ k,o.dst=some k->k<a.tmps.size):aX w0 χ0 T0 a.tmps.size (s.app o.dst re) (a.put o.dst undef) w:=by
 refine⟨Act.jF _ _ _,G,?_⟩;have:=r.val (d:=o.dst) (x := .t []) (v:=undef) hd ⟨[],rfl,rfl,by simp⟩;have e:s.app o.dst re=s.put o.dst (.t []):=by unfold St.app St.put re; cases o.dst <;> rfl
 rw[e]; exact this
theorem vb {e:Eff} (r:bP w0 χ0 T0 s a w G) (hd:∀ k,o.dst=some k->k<a.tmps.size) (h:Stp P Γ s o e) (hc:e.cond):o.wp P a w (aX w0 χ0 T0 a.tmps.size (s.app o.dst e)) Q:=by
 unfold Stp at h;split at h
 ·exact MF r hd h
 ·have h:=h.1;cases hz:inL Γ.fz o.dst && cE o.op with
  | true=>rw[xw hz] at h; exact Pn r hd h
  | false =>
  cases ht:inL Γ.fz o.dst && dB o.op with
  | true=>rw[rI ht] at h; exact MR r hd h hc
  | false =>
   rw[jG (rJ hz ht)] at h;rcases jH h with h | h
   ·exact Pk r hd h hc
   ·exact Pr r hd h hc
theorem tZ {e:Eff} {K:Act->World->Prop} (hdn:∀ o∈ops,∀ k,o.dst=some k->k<n) (ho:o∈ops) (ha:aX w0 χ0 T0 n s a w) (h:gy P Γ ops s o e) (hc:e.cond)
  (hK:∀ a' w',aX w0 χ0 T0 n (s.app o.dst e) a' w'->K a' w') :
  if Region.wanted o (yielded ops.toArray a.tmps) then o.wp P a w K Q\/(o.asks P a w/\LetsOut Q) else K (a.put o.dst undef) w:=by
 obtain⟨hn,G,r⟩:=ha;subst hn;have hd:=hdn o ho;rcases h with⟨hw,h⟩ | ⟨hw,rfl⟩
 ·rw[CD r hdn hw,if_pos rfl];exact .inl (Oper.wp_mono (fun a' w' h'=>hK a' w' h') (vb r hd h hc))
 ·rw[CD r hdn hw];simp only[Bool.false_eq_true,if_false];exact hK _ _ (MS r hd)
theorem JK {s':St} (hχ:∀ b,χ0 b<=1) (h:Rev Γ o s s') (ha:aX w0 χ0 T0 n s a w):aX w0 χ0 T0 n s' a w:=by
 rcases h with rfl | ⟨_,tms,hps,σ,hs,rfl⟩
 ·exact ha
 ·exact xl hχ hs ha
theorem JL (hχ:∀ b,χ0 b<=1) (hdn:∀ o∈ops,∀ k,o.dst=some k->k<n) {K:St->Prop} (hQ:∀ s a w,K s->aX w0 χ0 T0 n s a w->Q .normal a w) :
  ∀ (l:List Oper) (s:St) (a:Act) (w:World),(∀ o∈l,o∈ops)->aX w0 χ0 T0 n s a w->H2 P Γ ops l s K->wpList P ops.toArray Q l a w
 | [],s,a,w,_,ha,h=>hQ s a w h ha
 | o::rest,s,a,w,hl,ha,h=>by
  obtain⟨s',e,h0,h1,h2,h3⟩:=h;unfold wpList;exact tZ hdn (hl o List.mem_cons_self) (JK hχ h0 ha) h1 h2 fun a' w' ha'=>JL hχ hdn hQ rest _ a' w' (fun o ho=>hl o (List.mem_cons_of_mem _ ho)) ha' h3
end
end Go.Lad
