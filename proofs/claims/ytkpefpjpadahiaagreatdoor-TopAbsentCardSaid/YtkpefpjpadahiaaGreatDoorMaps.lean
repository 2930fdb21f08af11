import Derived.Test.YtkpefpjpadahiaaGreatDoorBase
namespace Go.Lad
set_option linter.unusedVariables false
set_option linter.unusedSimpArgs false
open Go.RowKit
def pos {α:Type} [DecidableEq α]:List α->α->Option Nat
 | [],_=>none
 | y::r,x=>if x=y then some 0 else (pos r x).map (· + 1)
theorem ig {α:Type} [DecidableEq α] {l:List α} {x:α} {i:Nat} (h:pos l x=some i):l[i]?=some x/\∀ j,j<i->l[j]?≠some x:=by
 induction l generalizing i with
 | nil=>cases h
 | cons y r ih =>
  simp only[pos] at h;split at h
  ·rename_i e;injection h with h
   subst h e;exact⟨rfl,fun j hj=>absurd hj (by omega)⟩
  ·rename_i e;rw[Option.map_eq_some_iff] at h;obtain⟨i',h',rfl⟩:=h;obtain⟨a,b⟩:=ih h';refine⟨by simpa using a,fun j hj=>?_⟩;cases j with
   | zero=>simpa using fun e'=>e e'.symm
   | succ j=>simpa using b j (by omega)
theorem jI {α:Type} [DecidableEq α] {l:List α} {x:α}:pos l x=none↔x∉l:=by
 induction l with
 | nil=>simp [pos]
 | cons y r ih =>
  simp only[pos];split
  ·rename_i e; simp [e]
  ·rename_i e; simp [ih,e]
theorem mw {α:Type} [DecidableEq α] {l:List α} {x:α} {i:Nat} (h:pos l x=some i):i<l.length :=
 (List.getElem?_eq_some_iff.1 (ig h).1).1
theorem kZ {α:Type} [DecidableEq α] (l r:List α) (x:α):pos (l++r) x=match pos l x with | some i=>some i | none=>(pos r x).map (· + l.length):=by
 induction l with
 | nil=>simp [pos]
 | cons y l ih =>
  simp only[List.cons_append,pos];split
  ·rfl
  ·rw[ih];cases pos l x with
   | some i=>rfl
   | none=>simp [Option.map_map,Function.comp_def,Nat.add_assoc]
structure KeyLaw {α:Type} [DecidableEq α] (P:Program) (kt:TypeId) (kv:α->Value):Prop where
 chk:∀ b x w,(Instr.checkKey b 10000 kt (kv x)).run P w = .ok () w
 find:∀ x (es:List MapEntry) (ks:List α),es.map (·.key)=ks.map kv->∀ w,(Instr.findKey kt (kv x) es).run P w = .ok ((pos ks x).map fun i=>(i,(es.getD i default).val)) w
 same:∀ x,Instr.sameBits 10000 (kv x) (kv x)=true
section
variable {P:Program}
theorem oU {α:Type} [DecidableEq α] {kt:TypeId} {kv:α->Value} (he:∀ x y w,(Op.equal kt (kv x) (kv y)).run P w = .ok (decide (x=y)) w) (x:α) :
  ∀ (es:List MapEntry) (ks:List α) (n:Nat),es.map (·.key)=ks.map kv->∀ w,(Instr.findAsking kt (kv x) es n).run P w = .ok ((pos ks x).map fun i=>(i+n,(es.getD i default).val)) w
 | [],[],n,_,w=>by simp [Instr.findAsking,pos]
 | [],k::ks,n,h,w=>by simp at h
 | e::es,[],n,h,w=>by simp at h
 | e::es,k::ks,n,h,w=>by
  simp only[List.map_cons,List.cons.injEq] at h;have ih:=oU he x es ks (n+1) h.2 w;simp only[Instr.findAsking,Sem.run_bind,h.1,he,Result.andThen_ok];by_cases hk:x=k
  ·simp [hk,pos]
  ·simp only[hk,decide_false,Bool.false_eq_true,if_false,pos,ih];cases pos ks x with
   | none=>rfl
   | some i=>simp [Nat.add_assoc,Nat.add_comm 1 n]
theorem oV {α:Type} [DecidableEq α] {kv:α->Value} {d:TypeDesc} (he:∀ x y,Instr.sameNow d (kv x) (kv y)=some (decide (x=y))) (x:α) :
  ∀ (es:List MapEntry) (ks:List α) (n:Nat),es.map (·.key)=ks.map kv->Instr.findNow d (kv x) es n=some ((pos ks x).map fun i=>(i+n,(es.getD i default).val))
 | [],[],n,_=>by simp [Instr.findNow,pos]
 | [],k::ks,n,h=>by simp at h
 | e::es,[],n,h=>by simp at h
 | e::es,k::ks,n,h=>by
  simp only[List.map_cons,List.cons.injEq] at h;have ih:=oV he x es ks (n+1) h.2;simp only[Instr.findNow,h.1,he];by_cases hk:x=k
  ·simp [hk,pos]
  ·simp only[hk,decide_false,pos,if_false,ih];cases pos ks x with
   | none=>rfl
   | some i=>simp [Nat.add_assoc,Nat.add_comm 1 n]
theorem bytes_beq (x y:ByteArray):(x == y)=decide (x=y):=by
 rw[beq_toListBytes,ByteArray.toList_eq,ByteArray.toList_eq];obtain⟨⟨a⟩⟩:=x;obtain⟨⟨b⟩⟩:=y;simp only[ByteArray.mk.injEq,Array.mk.injEq];rw[Bool.eq_iff_iff];simp
theorem oW {kt:TypeId} (hd:∀ b (n:Nat) v w,(Instr.checkKey b (n+1) kt v).run P w = .ok () w) (b:Bool) (v:Value) (w:World):(Instr.checkKey b 10000 kt v).run P w = .ok () w:=hd b 9999 v w
theorem KeyLaw.int {kt:TypeId} {k:IntKind} (h:P.underlying kt=some (.int k)):KeyLaw P kt (fun n:Int=>.int k n) where
 chk b x w:=oW (fun b n v w=>by simp [Instr.checkKey,run_underlying h]) b _ w
 find x es ks hk w:=by
  have:=oV (d := .int k) (kv:=fun n:Int=>.int k n) (fun x y=>by simp [Instr.sameNow]; rfl) x es ks 0 hk;simp only[Instr.findKey,Sem.run_bind,run_underlying h,Result.andThen_ok,this];simp
 same x:=by simp [Instr.sameBits]
theorem KeyLaw.str {kt:TypeId} (h:P.underlying kt=some .string):KeyLaw P kt (fun s:ByteArray=>.string s) where
 chk b x w:=oW (fun b n v w=>by simp [Instr.checkKey,run_underlying h]) b _ w
 find x es ks hk w:=by
  have:=oV (d := .string) (kv:=fun s:ByteArray=>.string s) (fun x y=>by simp [Instr.sameNow,bytes_beq]) x es ks 0 hk;simp only[Instr.findKey,Sem.run_bind,run_underlying h,Result.andThen_ok,this];simp
 same x:=by simp [Instr.sameBits,bytes_beq]
theorem KeyLaw.struct {α:Type} [DecidableEq α] {kt:TypeId} {fs:Array Field} {kv:α->Value} (h:P.underlying kt=some (.struct fs))
  (chk:∀ b x w,(Instr.checkKey b 10000 kt (kv x)).run P w = .ok () w) (he:∀ x y w,(Op.equal kt (kv x) (kv y)).run P w = .ok (decide (x=y)) w)
  (same:∀ x,Instr.sameBits 10000 (kv x) (kv x)=true):KeyLaw P kt kv where
 chk:=chk
 find x es ks hk w:=by
  have hfa:=oU he x es ks 0 hk w;simp only[Instr.findKey,Sem.run_bind,run_underlying h,Result.andThen_ok];cases es with
  | nil =>
   have:ks=[]:=by simpa using hk
   subst this;simp [Instr.findNow,pos]
  | cons e es =>
   have:Instr.findNow (.struct fs) (kv x) (e::es) 0=none:=by simp [Instr.findNow,Instr.sameNow]
   simp only[this]
   simpa using hfa
 same:=same
end
structure fP {α β:Type} (kv:α->Value) (vf:β->Value) (w:World) (b:Nat) (es:Array MapEntry) (clock:Nat) (m:List (α×β)):Prop where
 at_:w.heap[b]?=some (.map es clock)
 eq:es.toList.map (fun e=>(e.key,e.val))=m.map fun p=>(kv p.1,vf p.2)
 born:∀ e∈es.toList,e.born<clock
 apart:(es.toList.map (·.born)).Nodup
 uniq:(m.map (·.1)).Nodup
def cM {α β:Type} [DecidableEq α] (m:List (α×β)) (x:α):Option β:=(pos (m.map (·.1)) x).bind fun i=>(m[i]?).map (·.2)
def gv {α β:Type} [DecidableEq α] (m:List (α×β)) (x:α) (y:β):List (α×β) :=
 match pos (m.map (·.1)) x with
 | some i=>m.set i (x,y)
 | none=>m++[(x,y)]
section
variable {α β:Type} {kv:α->Value} {vf:β->Value} {w w':World} {b:Nat} {es:Array MapEntry} {clock:Nat} {m:List (α×β)}
theorem fP.lt (h:fP kv vf w b es clock m):b<w.heap.size:=(Array.getElem?_eq_some_iff.1 h.at_).1
theorem fP.frame (h:fP kv vf w b es clock m) (hb:w'.heap[b]?=w.heap[b]?):fP kv vf w' b es clock m:=⟨hb.trans h.at_,h.eq,h.born,h.apart,h.uniq⟩
theorem fP.made (kv:α->Value) (vf:β->Value) (w:World):fP kv vf (w.alloc (.map #[] 0)) w.heap.size #[] 0 ([]:List (α×β)) :=
 ⟨(MapKept.heap_alloc w _).1,by simp,by simp,by simp,by simp⟩
theorem fP.keys (h:fP kv vf w b es clock m):es.toList.map (·.key)=(m.map (·.1)).map kv:=by
 have:=congrArg (List.map Prod.fst) h.eq
 simpa [List.map_map,Function.comp_def] using this
theorem fP.len (h:fP kv vf w b es clock m):es.size=m.length:=by
 have:=congrArg List.length h.eq
 simpa using this
theorem fP.val (h:fP kv vf w b es clock m) (i:Nat) (p:α×β) (hp:m[i]?=some p):(es.toList.getD i default).val=vf p.2:=by
 have:=congrArg (fun l=>l[i]?) h.eq;simp only[List.getElem?_map,hp,Option.map_some] at this;rw[Option.map_eq_some_iff] at this;obtain⟨e,he,h2⟩:=this;simp only[Prod.mk.injEq] at h2;simp only[List.getD,he,Option.getD_some,h2.2]
variable {P:Program} {t kt et:TypeId} [DecidableEq α]
theorem sw (m:List (α×β)) (x:α) (y:β):(gv m x y).map (·.1)=match pos (m.map (·.1)) x with | some _=>m.map (·.1) | none=>m.map (·.1)++[x]:=by
 unfold gv;cases hp:pos (m.map (·.1)) x with
 | some i =>
  dsimp only;rw[List.map_set];apply List.ext_getElem?;intro j;rw[List.getElem?_set];split
  ·rename_i hij;subst hij;rw[if_pos (mw hp),(ig hp).1]
  ·rfl
 | none=>simp
theorem pI {m:List (α×β)} (h:(m.map (·.1)).Nodup) (x:α) (y:β):((gv m x y).map (·.1)).Nodup:=by
 rw[sw];cases hp:pos (m.map (·.1)) x with
 | some i=>exact h
 | none =>
  rw[List.nodup_append];refine⟨h,by simp,fun a ha b hb=>?_⟩;rw[List.mem_singleton] at hb;subst hb;rintro rfl;exact jI.1 hp ha
theorem fP.look_ok (h:fP kv vf w b es clock m) (K:KeyLaw P kt kv) (ht:P.underlying t=some (.map kt et)) {z:Value} (hz:∀ w,(zeroValue et).run P w = .ok z w) (x:α) :
  (Instr.lookup t (.map (some b)) (kv x) true).run P w = .ok (.tuple #[((cM m x).map vf).getD z,.bool (cM m x).isSome]) w:=by
 have hf:=K.find x es.toList _ h.keys w;have hg:(getObj b).run P w = .ok (.map es clock) w:=by simp [getObj,Sem.run,h.at_]
 simp only[Instr.lookup,Sem.run_bind,run_underlying ht,Result.andThen_ok,hg,K.chk,hf,Sem.run_pure];cases hp:pos (m.map (·.1)) x with
 | none =>
  simp [cM,hp,hz]
 | some i =>
  have hl:=mw hp;rw[List.length_map] at hl;have hm:m[i]?=some m[i]:=List.getElem?_eq_getElem hl;have hv:=h.val i _ hm;have hlk:cM m x=some m[i].2:=by simp [cM,hp,hm]
  simp only[Option.map_some,hv,hlk,Option.isSome_some,Option.getD_some];simp
theorem fP.uJ (h:fP kv vf w b es clock m) (K:KeyLaw P kt kv) (ht:P.underlying t=some (.map kt et)) {z:Value} (hz:∀ w,(zeroValue et).run P w = .ok z w) (x:α) :
  (Instr.lookup t (.map (some b)) (kv x) false).run P w = .ok (((cM m x).map vf).getD z) w:=by
 have hf:=K.find x es.toList _ h.keys w;have hg:(getObj b).run P w = .ok (.map es clock) w:=by simp [getObj,Sem.run,h.at_]
 simp only[Instr.lookup,Sem.run_bind,run_underlying ht,Result.andThen_ok,hg,K.chk,hf,Sem.run_pure];cases hp:pos (m.map (·.1)) x with
 | none =>
  simp [cM,hp,hz]
 | some i =>
  have hl:=mw hp;rw[List.length_map] at hl;have hm:m[i]?=some m[i]:=List.getElem?_eq_getElem hl;have hv:=h.val i _ hm;have hlk:cM m x=some m[i].2:=by simp [cM,hp,hm]
  simp only[Option.map_some,hv,hlk,Option.getD_some];simp
def gq (w:World) (b:Nat) (es:Array MapEntry) (clock:Nat):World:={ w with heap:=w.heap.setIfInBounds b (.map es clock) }
theorem lX (w:World) (b:Nat) (es:Array MapEntry) (clock:Nat) (i:Nat) (h:i≠b):(gq w b es clock).heap[i]?=w.heap[i]? := by
 simp only[gq];rw[Array.getElem?_setIfInBounds_ne (by omega)]
@[simp] theorem MJ (w:World) (b:Nat) (es:Array MapEntry) (clock:Nat):(gq w b es clock).heap.size=w.heap.size:=by simp [gq]
theorem lF (w:World) (b:Nat) (es:Array MapEntry) (clock:Nat) (h:b<w.heap.size):(gq w b es clock).heap[b]?=some (.map es clock):=by
 simp only[gq];rw[Array.getElem?_setIfInBounds_self];simp [h]
theorem Step.gq {T:List Nat} {χ χ':Col} {w w':World} (h:Step T χ w χ' w') {b:Nat} (hp:χ' b∈T\/w.heap.size<=b) (es:Array MapEntry) (clock:Nat):Step T χ w χ' (gq w' b es clock) :=
 ⟨h.os,h.tape,h.output,by simpa using h.size,h.col,fun i hi hT=>(lX w' b es clock i (by
  rintro rfl;rcases hp with hp | hp
  ·rw[h.col _ hi] at hp; exact hT hp
  ·omega)).trans (h.block i hi hT)⟩
def lV (es:Array MapEntry) (clock:Nat) (i? : Option Nat) (k v:Value):Array MapEntry×Nat :=
 match i? with
 | some i=>(es.modify i fun e=>{ e with key:=k,val:=v },clock)
 | none=>(es.push { key:=k,val:=v,born:=clock },clock+1)
theorem fP.update (h:fP kv vf w b es clock m) (K:KeyLaw P kt kv) (ht:P.underlying t=some (.map kt et)) (x:α) (y:β) :
  (Instr.mapUpdate t (.map (some b)) (kv x) (vf y)).run P w = .ok () (gq w b (lV es clock (pos (m.map (·.1)) x) (kv x) (vf y)).1 (lV es clock (pos (m.map (·.1)) x) (kv x) (vf y)).2) /\
  fP kv vf (gq w b (lV es clock (pos (m.map (·.1)) x) (kv x) (vf y)).1 (lV es clock (pos (m.map (·.1)) x) (kv x) (vf y)).2) b
   (lV es clock (pos (m.map (·.1)) x) (kv x) (vf y)).1 (lV es clock (pos (m.map (·.1)) x) (kv x) (vf y)).2 (gv m x y):=by
 have hf:=K.find x es.toList _ h.keys w;have hg:(getObj b).run P w = .ok (.map es clock) w:=by simp [getObj,Sem.run,h.at_]
 have hs:∀ es' c',(setObj b (.map es' c')).run P w = .ok () (gq w b es' c'):=by
  intro es' c';simp [setObj,Sem.run,h.at_,Lad.gq]
 have hlt:=h.lt;cases hp:pos (m.map (·.1)) x with
 | none =>
  simp only[hp,Option.map_none] at hf;refine⟨?_,⟨lF _ _ _ _ hlt,?_,?_,?_,pI h.uniq x y⟩⟩
  ·simp only[Instr.mapUpdate,Sem.run_bind,run_underlying ht,Result.andThen_ok,hg,K.chk,hf,hs,lV]
  ·simp [lV,gv,hp,h.eq]
  ·intro e he;simp only[lV,Array.toList_push,List.mem_append,List.mem_singleton] at he ⊢;rcases he with he | rfl
   ·have:=h.born e he; omega
   ·exact Nat.lt_succ_self _
  ·simp only[lV,Array.toList_push,List.map_append,List.map_cons,List.map_nil];rw[List.nodup_append];refine⟨h.apart,by simp,?_⟩;intro a ha c hc;simp only[List.mem_singleton] at hc;subst hc;obtain⟨e,he,rfl⟩:=List.mem_map.1 ha;have:=h.born e he;omega
 | some i =>
  simp only[hp,Option.map_some] at hf;have hl:=mw hp;rw[List.length_map,← h.len] at hl;have hkey:(es[i]).key=kv x:=by
   have h1:=congrArg (fun l=>l[i]?) h.keys;rw[List.getElem?_map,List.getElem?_map,(ig hp).1] at h1
   simpa [hl] using h1
  have hm:i<m.length:=by rw[← h.len]; exact hl
  have hmod:(es.modify i fun e=>{ e with key:=kv x,val:=vf y }).toList=es.toList.set i { es[i] with key:=kv x,val:=vf y }:=by
   apply List.ext_getElem
   ·simp
   ·intro j h1 h2;simp only[Array.getElem_toList,List.getElem_set];rw[Array.getElem_modify];split <;> simp_all
  refine⟨?_,⟨lF _ _ _ _ hlt,?_,?_,?_,pI h.uniq x y⟩⟩
  ·have hst:(((es[i]?).map (·.key)).getD (kv x))=kv x:=by simp [hl,hkey]
   simp only[Instr.mapUpdate,Sem.run_bind,run_underlying ht,Result.andThen_ok,hg,K.chk,hf,lV,hst,Instr.keyThatStays,K.same,if_true,Sem.run_pure,hs]
  ·simp only[lV,gv,hp,hmod,List.map_set,h.eq]
  ·intro e he;simp only[lV,hmod] at he ⊢;rcases List.mem_or_eq_of_mem_set he with he | rfl
   ·exact h.born e he
   ·exact h.born (es[i]) (by simp)
  ·simp only[lV,hmod,List.map_set];have:(es.toList.map (·.born)).set i (es[i]).born=es.toList.map (·.born):=by
    apply List.ext_getElem
    ·simp
    ·intro j h1 h2;simp only[List.getElem_set,List.getElem_map,Array.getElem_toList];split <;> simp_all
   rw[this]; exact h.apart
end
end Go.Lad
