import Derived.Test.YtkpefpjpadahiaaGreatDoorAb10c
import Derived.Lib.ConvBytes
namespace Go.Lad
set_option linter.unusedVariables false
set_option linter.unusedSimpArgs false
open Go.RowKit
def vj (P:Program) (t:TypeId) (dst:Option Nat) (free:Bool):List Arg->Option Eff:=fun _=>none
def rp (P:Program) (t:TypeId):List Arg->Option Eff:=fun _=>none
def vk (P:Program) (t u:TypeId):List Arg->Option Eff:=fun _=>none
def OF (P:Program) (src dst:TypeId) (d:Option Nat) (free:Bool):List Arg->Option Eff:=fun _=>none
section
variable {α β:Type} {kv:α->Value} {vf:β->Value} {w w':World} {b:Nat} {es:Array MapEntry} {clock:Nat} {m:List (α×β)} {P:Program} {t kt et:TypeId} [DecidableEq α]
theorem KA (m:List (α×β)) (x:α) (y:β):pos ((gv m x y).map (·.1)) x=some ((pos (m.map (·.1)) x).getD m.length):=by
 unfold gv;cases hp:pos (m.map (·.1)) x with
 | some i =>
  dsimp only;have h1:=(ig hp).1;have e:(m.set i (x,y)).map (·.1)=m.map (·.1):=by
   rw[List.map_set];apply List.ext_getElem?;intro j;rw[List.getElem?_set];split
   ·rename_i hij;subst hij;have hl:=mw hp;rw[if_pos hl,h1]
   ·rfl
  rw[e,hp]; rfl
 | none =>
  dsimp only;rw[List.map_append,kZ,hp];simp [pos]
theorem fP.entry (h:fP kv vf w b es clock m) (K:KeyLaw P kt kv) (ht:P.underlying t=some (.map kt et)) {z0:β} (hz:∀ w,(zeroValue et).run P w = .ok (vf z0) w) (x:α) :
  ∃ es' clock' e' i,(Instr.mapEntry t (.map (some b)) (kv x)).run P w = .ok (.tuple #[vf ((cM m x).getD z0),.int .i64 (e':MapEntry).born]) (gq w b es' clock')/\fP kv vf (gq w b es' clock') b es' clock' (gv m x ((cM m x).getD z0)) /\
   pos ((gv m x ((cM m x).getD z0)).map (·.1)) x=some i/\es'.toList[i]?=some e':=by
 have hf:=K.find x es.toList _ h.keys w;have hg:(getObj b).run P w = .ok (.map es clock) w:=by simp [getObj,Sem.run,h.at_]
 have hs:∀ es' c',(setObj b (.map es' c')).run P w = .ok () (gq w b es' c'):=by
  intro es' c';simp [setObj,Sem.run,h.at_,Lad.gq]
 have hlt:=h.lt;have hpp:=KA m x ((cM m x).getD z0);cases hp:pos (m.map (·.1)) x with
 | none =>
  simp only[hp,Option.map_none] at hf;have hlk:cM m x=none:=by simp [cM,hp]
  rw[hlk,Option.getD_none] at hpp ⊢;refine⟨es.push { key:=kv x,val:=vf z0,born:=clock },clock+1,{ key:=kv x,val:=vf z0,born:=clock },m.length,?_,⟨lF _ _ _ _ hlt,?_,?_,?_,pI h.uniq x z0⟩,?_,?_⟩
  ·simp only[Instr.mapEntry,Sem.run_bind,run_underlying ht,Result.andThen_ok,hg,K.chk,hf,hs,hz,Sem.run_pure,goInt]
  ·simp [gv,hp,h.eq]
  ·intro e he;simp only[Array.toList_push,List.mem_append,List.mem_singleton] at he;rcases he with he | rfl
   ·have:=h.born e he; omega
   ·exact Nat.lt_succ_self _
  ·simp only[Array.toList_push,List.map_append,List.map_cons,List.map_nil];rw[List.nodup_append];refine⟨h.apart,by simp,?_⟩;intro a ha c hc;simp only[List.mem_singleton] at hc;subst hc;obtain⟨e,he,rfl⟩:=List.mem_map.1 ha;have:=h.born e he;omega
  ·rw[hpp,hp]; rfl
  ·rw[← h.len]; simp
 | some i =>
  simp only[hp,Option.map_some] at hf;have hl:=mw hp;rw[List.length_map,← h.len] at hl;have hkey:(es[i]).key=kv x:=by
   have h1:=congrArg (fun l=>l[i]?) h.keys;rw[List.getElem?_map,List.getElem?_map,(ig hp).1] at h1
   simpa [hl] using h1
  have hm:i<m.length:=by rw[← h.len]; exact hl
  have hmi:m[i]?=some m[i]:=List.getElem?_eq_getElem hm;have hm1:(m[i]).1=x:=by
   have:=(ig hp).1;rw[List.getElem?_map,hmi] at this
   simpa using this
  have hlk:cM m x=some m[i].2:=by simp [cM,hp,hmi]
  have hput:gv m x ((cM m x).getD z0)=m:=by
   rw[hlk,Option.getD_some];unfold gv;rw[hp];dsimp only;apply List.ext_getElem?;intro j;rw[List.getElem?_set];split
   ·rename_i hij;subst hij;rw[hmi,← hm1]
   ·rfl
  have hmod:es.modify i (fun e=>{ e with key:=kv x })=es:=by
   apply Array.ext
   ·simp
   ·intro j h1 h2;rw[Array.getElem_modify];split
    ·rename_i hij;subst hij;exact congrArg (fun q=>MapEntry.mk q es[i].val es[i].born) hkey.symm
    ·rfl
  have hval:=h.val i _ hmi;rw[hput];refine⟨es,clock,es[i],i,?_,⟨lF _ _ _ _ hlt,h.eq,h.born,h.apart,h.uniq⟩,hp,by simp [hl]⟩;have hst:(((es[i]?).map (·.key)).getD (kv x))=kv x:=by simp [hl,hkey]
  have hb2:(((es[i]?).map (·.born)).getD 0)=es[i].born:=by simp [hl]
  simp only[Instr.mapEntry,Sem.run_bind,run_underlying ht,Result.andThen_ok,hg,K.chk,hf,hst,Instr.keyThatStays,K.same,if_true,Sem.run_pure,hmod,hs,hb2,goInt,hval,hlk,Option.getD_some];simp [hl]
theorem fP.entryStore (h:fP kv vf w b es clock m) {x:α} {i:Nat} {e:MapEntry} (hp:pos (m.map (·.1)) x=some i) (he:es.toList[i]?=some e) (y:β) :
  (Instr.entryStore t (.map (some b)) (.int .i64 e.born) (vf y)).run P w = .ok () (gq w b (es.modify i fun e=>{ e with val:=vf y }) clock)/\fP kv vf (gq w b (es.modify i fun e=>{ e with val:=vf y }) clock) b (es.modify i fun e=>{ e with val:=vf y }) clock (gv m x y):=by
 have hg:(getObj b).run P w = .ok (.map es clock) w:=by simp [getObj,Sem.run,h.at_]
 have hs:∀ es' c',(setObj b (.map es' c')).run P w = .ok () (gq w b es' c'):=by
  intro es' c';simp [setObj,Sem.run,h.at_,Lad.gq]
 have hlt:=h.lt;obtain⟨hil,hie⟩:=List.getElem?_eq_some_iff.1 he;have hl:i<es.size:=by simpa using hil
 have hie':es[i]=e:=by simpa using hie
 have hfi:es.findIdx? (fun e'=>((e'.born:Int) == (e.born:Int)))=some i:=by
  rw[Array.findIdx?_eq_some_iff_getElem];refine⟨hl,by rw[hie']; simp,fun j hj=>?_⟩;simp only[beq_iff_eq];intro hh;have hh:es[j].born=e.born:=by omega
  have hn:=h.apart;have:=(List.getElem_inj hn (i:=j) (j:=i) (h₀:=by simp; omega) (h₁:=by simp; omega)).1 (by simp only[List.getElem_map,Array.getElem_toList]; rw[hh,hie']);omega
 have hkey:(es[i]).key=kv x:=by
  have h1:=congrArg (fun l=>l[i]?) h.keys;rw[List.getElem?_map,List.getElem?_map,(ig hp).1] at h1
  simpa [hl] using h1
 have hmod:(es.modify i fun e=>{ e with val:=vf y }).toList=es.toList.set i { es[i] with val:=vf y }:=by
  apply List.ext_getElem
  ·simp
  ·intro j h1 h2;simp only[Array.getElem_toList,List.getElem_set];rw[Array.getElem_modify];split <;> simp_all
 refine⟨?_,⟨lF _ _ _ _ hlt,?_,?_,?_,pI h.uniq x y⟩⟩
 ·simp only[Instr.entryStore,Sem.run_bind,hg,Result.andThen_ok,asInt,asIntOf,Sem.run_pure,hfi,hs]
 ·simp only[gv,hp,hmod,List.map_set,h.eq,hkey]
 ·intro e' he';rw[hmod] at he';rcases List.mem_or_eq_of_mem_set he' with he' | rfl
  ·exact h.born e' he'
  ·exact h.born (es[i]) (by simp)
 ·rw[hmod,List.map_set];have:(es.toList.map (·.born)).set i (es[i]).born=es.toList.map (·.born):=by
   apply List.ext_getElem
   ·simp
   ·intro j h1 h2;simp only[List.getElem_set,List.getElem_map,Array.getElem_toList];split <;> simp_all
  rw[this]; exact h.apart
end
section
variable {P:Program} {w0:World} {χ0:Col} {T0:Ctx} {s:St} {a:Act} {w:World} {G:Gh} {o:Oper} {Q:Exit->Act->World->Prop}
theorem xd {e:Eff} {t:TypeId} {x y:Operand} (r:cI w0 χ0 T0 s a w G) (hd:∀ k,o.dst=some k->k<a.tmps.size) (ho:o.op = .mapEntry t x y) (h:vj P t o.dst (aY s.hp o.dst) [s.arg x,s.arg y]=some e) :
  o.wp P a w (bG w0 χ0 T0 a.tmps.size (s.app o.dst e)) Q:=nomatch h
theorem ua {e:Eff} {t:TypeId} {x y z:Operand} (r:cI w0 χ0 T0 s a w G) (hd:∀ k,o.dst=some k->k<a.tmps.size) (ho:o.op = .entryStore t x y z) (h:rp P t [s.arg x,s.arg y,s.arg z]=some e) (hc:e.cond) :
  o.wp P a w (bG w0 χ0 T0 a.tmps.size (s.app o.dst e)) Q:=nomatch h
theorem FI {e:Eff} {t u:TypeId} {x y:Operand} {c:Call} (r:cI w0 χ0 T0 s a w G) (hd:∀ k,o.dst=some k->k<a.tmps.size) (ho:o.op = .call c) (hcc:c = { callee := .builtin .copy,args := #[x,y],argTypes := #[t,u] })
  (h:vk P t u [s.arg x,s.arg y]=some e) (hc:e.cond):o.wp P a w (bG w0 χ0 T0 a.tmps.size (s.app o.dst e)) Q:=nomatch h
theorem KB {e:Eff} {src dst:TypeId} {x:Operand} (r:cI w0 χ0 T0 s a w G) (hd:∀ k,o.dst=some k->k<a.tmps.size) (ho:o.op = .convert src dst x)
  (h:OF P src dst o.dst (aY s.hp o.dst) [s.arg x]=some e):o.wp P a w (bG w0 χ0 T0 a.tmps.size (s.app o.dst e)) Q:=nomatch h
end
end Go.Lad
