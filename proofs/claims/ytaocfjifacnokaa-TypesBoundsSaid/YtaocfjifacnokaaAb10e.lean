import Derived.Test.YtaocfjifacnokaaAb10c
import Derived.Lib.ConvBytes
namespace Go.Lad
set_option linter.unusedVariables false
set_option linter.unusedSimpArgs false
open Go.RowKit
def bytesPV (s:ByteArray):List (List PV):=s.data.toList.map fun b=>[PV.int .u8 (b.toNat:Int)]
def opMapEntry (P:Program) (t:TypeId) (dst:Option Nat) (free:Bool):List Arg → Option Eff
 | [(.c (.v (.mp o)),[some (.mapQ k agg m)]),(.c (.g [.p (.int k' n),.p (.int .i64 s)]),_)]=>match P.underlying t,dst with
  | some (.map kt et),some d=>match qKey P kt,tyZero P et with
   | some k2,some (agg2,z)=>if k = k2 ∧ k' = k2 ∧ agg2 = agg ∧ free = true then some ⟨True,.t [rowCmp agg ((lookM m (n,s)).getD z),.v (.own d)],[(d,.gone),(o,.mapE k agg (putM m (n,s) ((lookM m (n,s)).getD z)) (n,s) d)]⟩ else none
   | _,_=>none
  | _,_=>none
 | _=>none
def opEntryStore (P:Program) (t:TypeId):List Arg → Option Eff
 | [(.c (.v (.mp o)),[some (.mapE k agg m key d)]),(.c (.v (.own d')),_),(.c c,_)]=>match cmpRow c with
  | some (agg2,ps)=>if d' = d ∧ agg2 = agg then some ⟨∀ p ∈ ps,p.flat = true,.dead,[(o,.mapQ k agg (putM m key ps))]⟩ else none
  | none=>none
 | _=>none
def copyE (P:Program) (t u:TypeId) (o:Nat) (e:TypeId) (z:Nat) (l:List (List PV)) (a b:Nat) (s:ByteArray):Option Eff :=
 match tyElem P t,P.underlying u with
 | some (_,z2),some .string=>if z2 = 1 ∧ z = 1 then some ⟨a ≤ b ∧ b ≤ l.length ∧ b ≤ 9223372036854775807,.x (.p (.int .i64 ((min s.size (b - a):Nat):Int))),[(o,.arr e 1 (putAt l a ((bytesPV s).take (b - a))))]⟩ else none
 | _,_=>none
def opCopy (P:Program) (t u:TypeId):List Arg → Option Eff
 | [(.c (.v (.own o)),[some (.arr e z l)]),(.c (.v (.p (.str s))),_)]=>copyE P t u o e z l 0 l.length s
 | [(.c (.v (.sv o a b z2)),[some (.arr e z l)]),(.c (.v (.p (.str s))),_)]=>if z2 = 1 then copyE P t u o e z l a b s else none
 | _=>none
def opCO (P:Program) (src dst:TypeId) (d:Option Nat) (free:Bool):List Arg → Option Eff
 | [(.c (.v (.p (.str s))),_)]=>match P.underlying src,P.underlying dst,d with
  | some .string,some (.slice el),some d=>match P.underlying el with
   | some (.int .u8)=>if free = true ∧ markE el = true then some ⟨True,.x (.own d),[(d,.arr el 1 (bytesPV s))]⟩ else none
   | _=>none
  | _,_,_=>none
 | _=>none
section
variable {α β:Type} {kv:α → Value} {vf:β → Value} {w w':World} {b:Nat} {es:Array MapEntry} {clock:Nat} {m:List (α × β)} {P:Program} {t kt et:TypeId} [DecidableEq α]
theorem pos_put (m:List (α × β)) (x:α) (y:β):pos ((putM m x y).map (·.1)) x = some ((pos (m.map (·.1)) x).getD m.length):=by
 unfold putM
 cases hp:pos (m.map (·.1)) x with
 | some i =>
  dsimp only
  have h1:=(pos_some hp).1
  have e:(m.set i (x,y)).map (·.1) = m.map (·.1):=by
   rw[List.map_set]
   apply List.ext_getElem?
   intro j
   rw[List.getElem?_set]
   split
   ·rename_i hij
    subst hij
    have hl:=pos_lt hp
    rw[if_pos hl,h1]
   ·rfl
  rw[e,hp]; rfl
 | none =>
  dsimp only
  rw[List.map_append,pos_append,hp]
  simp [pos]
theorem MapAt.entry (h:MapAt kv vf w b es clock m) (K:KeyLaw P kt kv) (ht:P.underlying t = some (.map kt et)) {z0:β} (hz:∀ w,(zeroValue et).run P w = .ok (vf z0) w) (x:α) :
  ∃ es' clock' e' i,(Instr.mapEntry t (.map (some b)) (kv x)).run P w = .ok (.tuple #[vf ((lookM m x).getD z0),.int .i64 (e':MapEntry).born]) (setMap w b es' clock') ∧ MapAt kv vf (setMap w b es' clock') b es' clock' (putM m x ((lookM m x).getD z0)) ∧
   pos ((putM m x ((lookM m x).getD z0)).map (·.1)) x = some i ∧ es'.toList[i]? = some e':=by
 have hf:=K.find x es.toList _ h.keys w
 have hg:(getObj b).run P w = .ok (.map es clock) w:=by simp [getObj,Sem.run,h.at_]
 have hs:∀ es' c',(setObj b (.map es' c')).run P w = .ok () (setMap w b es' c'):=by
  intro es' c'
  simp [setObj,Sem.run,h.at_,Lad.setMap]
 have hlt:=h.lt
 have hpp:=pos_put m x ((lookM m x).getD z0)
 cases hp:pos (m.map (·.1)) x with
 | none =>
  simp only[hp,Option.map_none] at hf
  have hlk:lookM m x = none:=by simp [lookM,hp]
  rw[hlk,Option.getD_none] at hpp ⊢
  refine⟨es.push { key:=kv x,val:=vf z0,born:=clock },clock + 1,{ key:=kv x,val:=vf z0,born:=clock },m.length,?_,⟨setMap_same _ _ _ _ hlt,?_,?_,?_,putM_uniq h.uniq x z0⟩,?_,?_⟩
  ·simp only[Instr.mapEntry,Sem.run_bind,run_underlying ht,Result.andThen_ok,hg,K.chk,hf,hs,hz,Sem.run_pure,goInt]
  ·simp [putM,hp,h.eq]
  ·intro e he
   simp only[Array.toList_push,List.mem_append,List.mem_singleton] at he
   rcases he with he | rfl
   ·have:=h.born e he; omega
   ·exact Nat.lt_succ_self _
  ·simp only[Array.toList_push,List.map_append,List.map_cons,List.map_nil]
   rw[List.nodup_append]
   refine⟨h.apart,by simp,?_⟩
   intro a ha c hc
   simp only[List.mem_singleton] at hc
   subst hc
   obtain⟨e,he,rfl⟩:=List.mem_map.1 ha
   have:=h.born e he
   omega
  ·rw[hpp,hp]; rfl
  ·rw[← h.len]; simp
 | some i =>
  simp only[hp,Option.map_some] at hf
  have hl:=pos_lt hp
  rw[List.length_map,← h.len] at hl
  have hkey:(es[i]).key = kv x:=by
   have h1:=congrArg (fun l=>l[i]?) h.keys
   rw[List.getElem?_map,List.getElem?_map,(pos_some hp).1] at h1
   simpa [hl] using h1
  have hm:i < m.length:=by rw[← h.len]; exact hl
  have hmi:m[i]? = some m[i]:=List.getElem?_eq_getElem hm
  have hm1:(m[i]).1 = x:=by
   have:=(pos_some hp).1
   rw[List.getElem?_map,hmi] at this
   simpa using this
  have hlk:lookM m x = some m[i].2:=by simp [lookM,hp,hmi]
  have hput:putM m x ((lookM m x).getD z0) = m:=by
   rw[hlk,Option.getD_some]
   unfold putM
   rw[hp]
   dsimp only
   apply List.ext_getElem?
   intro j
   rw[List.getElem?_set]
   split
   ·rename_i hij
    subst hij
    rw[hmi,← hm1]
   ·rfl
  have hmod:es.modify i (fun e=>{ e with key:=kv x }) = es:=by
   apply Array.ext
   ·simp
   ·intro j h1 h2
    rw[Array.getElem_modify]
    split
    ·rename_i hij
     subst hij
     exact congrArg (fun q=>MapEntry.mk q es[i].val es[i].born) hkey.symm
    ·rfl
  have hval:=h.val i _ hmi
  rw[hput]
  refine⟨es,clock,es[i],i,?_,⟨setMap_same _ _ _ _ hlt,h.eq,h.born,h.apart,h.uniq⟩,hp,by simp [hl]⟩
  have hst:(((es[i]?).map (·.key)).getD (kv x)) = kv x:=by simp [hl,hkey]
  have hb2:(((es[i]?).map (·.born)).getD 0) = es[i].born:=by simp [hl]
  simp only[Instr.mapEntry,Sem.run_bind,run_underlying ht,Result.andThen_ok,hg,K.chk,hf,hst,Instr.keyThatStays,K.same,if_true,Sem.run_pure,hmod,hs,hb2,goInt,hval,hlk,Option.getD_some]
  simp [hl]
theorem MapAt.entryStore (h:MapAt kv vf w b es clock m) {x:α} {i:Nat} {e:MapEntry} (hp:pos (m.map (·.1)) x = some i) (he:es.toList[i]? = some e) (y:β) :
  (Instr.entryStore t (.map (some b)) (.int .i64 e.born) (vf y)).run P w = .ok () (setMap w b (es.modify i fun e=>{ e with val:=vf y }) clock) ∧ MapAt kv vf (setMap w b (es.modify i fun e=>{ e with val:=vf y }) clock) b (es.modify i fun e=>{ e with val:=vf y }) clock (putM m x y):=by
 have hg:(getObj b).run P w = .ok (.map es clock) w:=by simp [getObj,Sem.run,h.at_]
 have hs:∀ es' c',(setObj b (.map es' c')).run P w = .ok () (setMap w b es' c'):=by
  intro es' c'
  simp [setObj,Sem.run,h.at_,Lad.setMap]
 have hlt:=h.lt
 obtain⟨hil,hie⟩:=List.getElem?_eq_some_iff.1 he
 have hl:i < es.size:=by simpa using hil
 have hie':es[i] = e:=by simpa using hie
 have hfi:es.findIdx? (fun e'=>((e'.born:Int) == (e.born:Int))) = some i:=by
  rw[Array.findIdx?_eq_some_iff_getElem]
  refine⟨hl,by rw[hie']; simp,fun j hj=>?_⟩
  simp only[beq_iff_eq]
  intro hh
  have hh:es[j].born = e.born:=by omega
  have hn:=h.apart
  have:=(List.getElem_inj hn (i:=j) (j:=i) (h₀:=by simp; omega) (h₁:=by simp; omega)).1 (by simp only[List.getElem_map,Array.getElem_toList]; rw[hh,hie'])
  omega
 have hkey:(es[i]).key = kv x:=by
  have h1:=congrArg (fun l=>l[i]?) h.keys
  rw[List.getElem?_map,List.getElem?_map,(pos_some hp).1] at h1
  simpa [hl] using h1
 have hmod:(es.modify i fun e=>{ e with val:=vf y }).toList = es.toList.set i { es[i] with val:=vf y }:=by
  apply List.ext_getElem
  ·simp
  ·intro j h1 h2
   simp only[Array.getElem_toList,List.getElem_set]
   rw[Array.getElem_modify]
   split <;> simp_all
 refine⟨?_,⟨setMap_same _ _ _ _ hlt,?_,?_,?_,putM_uniq h.uniq x y⟩⟩
 ·simp only[Instr.entryStore,Sem.run_bind,hg,Result.andThen_ok,asInt,asIntOf,Sem.run_pure,hfi,hs]
 ·simp only[putM,hp,hmod,List.map_set,h.eq,hkey]
 ·intro e' he'
  rw[hmod] at he'
  rcases List.mem_or_eq_of_mem_set he' with he' | rfl
  ·exact h.born e' he'
  ·exact h.born (es[i]) (by simp)
 ·rw[hmod,List.map_set]
  have:(es.toList.map (·.born)).set i (es[i]).born = es.toList.map (·.born):=by
   apply List.ext_getElem
   ·simp
   ·intro j h1 h2
    simp only[List.getElem_set,List.getElem_map,Array.getElem_toList]
    split <;> simp_all
  rw[this]; exact h.apart
end
section
variable {P:Program} {w0:World} {χ0:Col} {T0:Ctx} {s:St} {a:Act} {w:World} {G:Gh} {o:Oper} {Q:Exit → Act → World → Prop}
theorem opMapEntry_ok {e:Eff} {t:TypeId} {x y:Operand} (r:RepG w0 χ0 T0 s a w G) (hd:∀ k,o.dst = some k → k < a.tmps.size) (ho:o.op = .mapEntry t x y) (h:opMapEntry P t o.dst (isFree s.hp o.dst) [s.arg x,s.arg y] = some e) :
  o.wp P a w (After w0 χ0 T0 a.tmps.size (s.app o.dst e)) Q:=by
 have hx:=r.ev x
 have hy:=r.ev y
 unfold opMapEntry at h
 split at h
 ·rename_i ob k agg m k' n sx _ heq
  simp only[List.cons.injEq,and_true] at heq
  obtain⟨h1,h2⟩:=St.arg_eq heq.1
  rw[h1] at hx
  rw[(St.arg_eq heq.2).1] at hy
  have hob:s.hp ob = some (.mapQ k agg m):=by simpa [Slot.ids,Cmp.ids,Cmp.leaves,Leaf.ids] using h2
  have hval:a.eval x = .map (some (G.bl ob)):=LRd.val hx
  have hkey:=rd_q hy
  obtain⟨es,clock,hm,hcol,hrow⟩:=r.objs ob _ hob
  split at h
  ·rename_i kt et d hu hdst
   split at h
   ·rename_i k2 agg2 z hk hz
    split at h
    ·rename_i hcc
     obtain⟨rfl,rfl,rfl,hf⟩:=hcc
     simp only[Option.some.injEq] at h
     subst h
     rw[hdst] at hf
     have hf':s.hp d = none ∧ d < 1000000:=by simpa [isFree] using hf
     obtain⟨hz1,hz2⟩:=run_zero hz
     obtain⟨es',clock',e',i,g1,g2,g3,g4⟩:=hm.entry (P:=P) (z0:=z) (qKey_law hk) hu hz1 (n,sx)
     have hrun:(execOp a.eval o).run P w = .ok (.value (.tuple #[vfOf agg2 ((lookM m (n,sx)).getD z),.int .i64 e'.born])) (setMap w (G.bl ob) es' clock'):=by
      simp only[execOp,ho,hval,hkey,Sem.run_bind,g1,Result.andThen_ok,Sem.run_pure]
     have hrok:RowOK agg2 ((lookM m (n,sx)).getD z):=by
      cases hl:lookM m (n,sx) with
      | none=>exact hz2
      | some q =>
       have:∃ p ∈ m,p.2 = q:=by
        unfold lookM at hl
        rw[Option.bind_eq_some_iff] at hl
        obtain⟨i,_,hi⟩:=hl
        rw[Option.map_eq_some_iff] at hi
        obtain⟨p,hp,rfl⟩:=hi
        exact⟨p,List.mem_of_getElem? hp,rfl⟩
       obtain⟨p,hp,rfl⟩:=this
       exact hrow p hp
     have hne:ob ≠ d:=fun e=>by rw[e] at hob; rw[hf'.1] at hob; cases hob
     let G':Gh:={ G with hv:=Lad.upd G.hv d (.int .i64 e'.born) }
     have hext:Ext G s.hp w G' (Lad.upd (Lad.upd s.hp d (some .gone)) ob (some (.mapE k' agg2 (putM m (n,sx) ((lookM m (n,sx)).getD z)) (n,sx) d))) (setMap w (G.bl ob) es' clock') :=
      ⟨fun b hb _=>⟨hb,setMap_other w (G.bl ob) es' clock' b (fun e=>by rw[e] at hb; have:G.χ (G.bl ob) = 0:=hb; omega)⟩,fun _ _=>rfl,
       fun i hi=>upd_ne _ _ (fun e=>hi.elim (fun hi=>hi (by rw[e]; exact hf'.1)) fun hi=>by omega),fun i hi=>by
       by_cases hio:i = ob
       ·rw[hio,upd_same]; simp
       ·rw[upd_ne _ _ hio]
        by_cases hid:i = d
        ·rw[hid,upd_same]; simp
        ·rw[upd_ne _ _ hid]; exact hi⟩
     have hchg:Chg [ob + 2] G.χ w G'.χ (setMap w (G.bl ob) es' clock') :=
      ⟨rfl,rfl,rfl,by simp,fun _ _ _=>rfl,fun b _ hb=>setMap_other w (G.bl ob) es' clock' b (fun e=>hb (by rw[e,hcol]; simp))⟩
     unfold Oper.wp
     rw[hrun]
     refine⟨Act.put_size _ _ _,G',r.upd hd hext hchg (by simp) (fun b hb=>r.norm b (by simpa using hb)) (fun j h' hj=>?_) ⟨[_,_],rfl,rfl,fun q c v hc hv=>?_⟩⟩
     ·change Lad.upd (Lad.upd s.hp d (some .gone)) ob _ j = some h' at hj
      by_cases hio:j = ob
      ·subst hio
       rw[upd_same] at hj
       injection hj with hj
       subst hj
       refine .inr ⟨es',clock',g2,hcol,putM_ok hrow hrok,?_,i,e',g3,g4,upd_same _ _ _⟩
       show Lad.upd (Lad.upd s.hp d (some .gone)) j _ d ≠ none
       rw[upd_ne _ _ (Ne.symm hne),upd_same]; simp
      ·rw[upd_ne _ _ hio] at hj
       by_cases hid:j = d
       ·subst hid
        rw[upd_same] at hj
        injection hj with hj
        subst hj
        exact .inr trivial
       ·rw[upd_ne _ _ hid] at hj
        exact .inl ⟨hj,by simp; omega⟩
     ·match q,hc,hv with
      | 0,hc,hv=>simp at hc hv; subst hc hv; exact rowCmp_rd hrok
      | 1,hc,hv =>
       simp at hc hv
       subst hc hv
       refine⟨rfl,fun j hj=>?_,(upd_same _ _ _).symm⟩
       simp [Leaf.ids] at hj
       subst hj
       show Lad.upd (Lad.upd s.hp j (some .gone)) ob _ j ≠ none
       rw[upd_ne _ _ (Ne.symm hne),upd_same]; simp
    ·cases h
   ·cases h
  ·cases h
 ·cases h
theorem opEntryStore_ok {e:Eff} {t:TypeId} {x y z:Operand} (r:RepG w0 χ0 T0 s a w G) (hd:∀ k,o.dst = some k → k < a.tmps.size) (ho:o.op = .entryStore t x y z) (h:opEntryStore P t [s.arg x,s.arg y,s.arg z] = some e) (hc:e.cond) :
  o.wp P a w (After w0 χ0 T0 a.tmps.size (s.app o.dst e)) Q:=by
 have hx:=r.ev x
 have hy:=r.ev y
 have hz:=r.ev z
 unfold opEntryStore at h
 split at h
 ·rename_i ob k agg m key d d' _ c _ heq
  simp only[List.cons.injEq,and_true] at heq
  obtain⟨h1,h2⟩:=St.arg_eq heq.1
  rw[h1] at hx
  rw[(St.arg_eq heq.2.1).1] at hy
  rw[(St.arg_eq heq.2.2).1] at hz
  have hob:s.hp ob = some (.mapE k agg m key d):=by simpa [Slot.ids,Cmp.ids,Cmp.leaves,Leaf.ids] using h2
  have hval:a.eval x = .map (some (G.bl ob)):=LRd.val hx
  obtain⟨es,clock,hm,hcol,hrow,_,i,e',hp,hie,hst⟩:=r.objs ob _ hob
  split at h
  ·rename_i agg2 ps hps
   split at h
   ·rename_i hcc
    obtain⟨rfl,rfl⟩:=hcc
    simp only[Option.some.injEq] at h
    subst h
    obtain⟨hv,hok⟩:=cmpRow_val hz hps hc
    have hsv:a.eval y = .int .i64 e'.born:=(LRd.val hy:a.eval y = G.hv d').trans hst
    obtain⟨g1,g2⟩:=hm.entryStore (P:=P) (t:=t) hp hie ps
    refine does_map r hd hcol ?_ ⟨_,_,g2,hcol,putM_ok hrow hok⟩
    simp only[execOp,ho,hval,hsv,hv,Sem.run_bind,g1,Result.andThen_ok,Sem.run_pure]
   ·cases h
  ·cases h
 ·cases h
theorem does_storeR {g ob:Nat} {cs:Array Value} {h:HObj} {c:Prop} {x:Slot} {v:Value} (r:RepG w0 χ0 T0 s a w G) (hd:∀ k,o.dst = some k → k < a.tmps.size) (hk:G.χ g = ob + 2)
  (hrun:(execOp a.eval o).run P w = .ok (.value v) (w.setRow g cs)) (hh:HRd G (Lad.upd s.hp ob (some h)) (w.setRow g cs) ob h) (hx:SRd G (Lad.upd s.hp ob (some h)) (w.setRow g cs) x v):o.wp P a w (After w0 χ0 T0 a.tmps.size (s.app o.dst ⟨c,x,[(ob,h)]⟩)) Q:=by
 unfold Oper.wp
 rw[hrun]
 refine⟨Act.put_size _ _ _,G,r.upd hd (setRow_ext hk) (setRow_chg hk) (by simp) (fun b hb=>r.norm b (by simpa [World.setRow] using hb)) (fun i h' hi=>?_) hx⟩
 change Lad.upd s.hp ob (some h) i = some h' at hi
 by_cases hid:i = ob
 ·subst hid
  rw[upd_same] at hi
  injection hi with hi
  subst hi
  exact .inr hh
 ·rw[upd_ne _ _ hid] at hi
  exact .inl ⟨hi,by simp; omega⟩
theorem does_noR {ob:Nat} {h:HObj} {c:Prop} {x:Slot} {v:Value} (r:RepG w0 χ0 T0 s a w G) (hd:∀ k,o.dst = some k → k < a.tmps.size)
  (hrun:(execOp a.eval o).run P w = .ok (.value v) w) (hh:s.hp ob = some h) (hx:SRd G s.hp w x v):o.wp P a w (After w0 χ0 T0 a.tmps.size (s.app o.dst ⟨c,x,[(ob,h)]⟩)) Q:=by
 unfold Oper.wp
 rw[hrun]
 have e:updL s.hp [(ob,h)] = s.hp:=by
  funext i
  show Lad.upd s.hp ob (some h) i = s.hp i
  unfold Lad.upd
  split
  ·rename_i hi; rw[hi,hh]
  ·rfl
 have e2:s.app o.dst ⟨c,x,[(ob,h)]⟩ = ⟨(s.put o.dst x).tm,s.hp⟩:=by
  unfold St.app St.put
  simp only[e]
 rw[e2]
 exact⟨Act.put_size _ _ _,G,r.upd (T:=[]) (w':=w) (G':=G) (hp':=s.hp) hd ⟨fun b h hl=>⟨h,rfl⟩,fun _ _=>rfl,fun _ _=>rfl,fun _ h=>h⟩ ⟨rfl,rfl,rfl,Nat.le_refl _,fun _ _ _=>rfl,fun _ _ _=>rfl⟩ (by simp) r.norm (fun i h hi=>.inl ⟨hi,by simp⟩) hx⟩
theorem own_copy {k q:Nat} {e:TypeId} {χ:Col} {v:Value} {l ms:List (List PV)} {us:List Value} (h:Own (α:=CZ 1) k χ e w v l) (hk:k ≠ 0) (hle:q + ms.length ≤ l.length) (hms:ms ≠ []) (hus:us.length = ms.length)
  (hrd:∀ (i:Nat) row u,ms[i]? = some row → us[i]? = some u → RdL (In χ 0) w row [u]):∃ g cur,v.ownBlock = some g ∧ RowAt w g cur e ∧ hOff v + q + us.length ≤ cur.size ∧
   Own (α:=CZ 1) k χ e (w.setRow g (putAt cur.toList (hOff v + q) us).toArray) v (putAt l q ms):=by
 obtain⟨⟨xs,h1,h2⟩,h3⟩:=h
 have hxl:xs.length = l.length * 1:=h1.1
 have hpos:0 < ms.length:=List.length_pos_iff.2 hms
 rcases h1.2 with⟨rfl,hn⟩ | ⟨g,cap,cur,o0,rfl,hb,hgg,hc,hm,hcs,hr⟩
 ·have:l.length = 0:=hn
  omega
 have hcs':o0 + cap * 1 ≤ cur.size:=hcs
 have hc':l.length ≤ cap:=hc
 have hg:χ g = k:=h3 g rfl
 have e0:(putAt l q ms).length = l.length:=putAt_length _ _ _ hle
 refine⟨g,cur,rfl,hgg,by (show o0 + _ + _ ≤ _); omega,⟨putAt xs q us,⟨?_,.inr ⟨g,cap,_,o0,?_,hb,hgg.set _ (by show (putAt cur.toList (o0 + q) us).length = cur.size; rw[putAt_length _ _ _ (by simp; omega)]; simp),?_,hm,?_,?_⟩⟩,fun j x hj=>?_⟩,h3⟩
 ·rw[putAt_length _ _ _ (by omega)]
  exact hxl.trans (congrArg (· * 1) e0.symm)
 ·exact congrArg (fun n=>Value.slice (some ⟨g,o0,none⟩) n cap) e0.symm
 ·exact Nat.le_trans (Nat.le_of_eq e0) hc
 ·show o0 + _ ≤ (putAt cur.toList (o0 + q) us).length
  rw[putAt_length _ _ _ (by simp; omega)]
  simpa using hcs
 ·have hr':(cur.toList.drop o0).take (l.length * 1) = xs:=hr
  have e1:(putAt l q ms).length * 1 = l.length * 1:=by rw[e0]
  have:((putAt cur.toList (o0 + q) us).drop o0).take (l.length * 1) = putAt xs q us:=by
   rw[putAt_drop _ _ _ _ (by simp; omega),putAt_take _ _ _ _ (by omega) (by simp; omega),hr']
  exact (congrArg (fun n=>List.take n ((putAt cur.toList (o0 + q) us).drop o0)) e1).trans this
 ·have hfr:∀ b,In χ 0 b → b < w.heap.size → In χ 0 b ∧ (w.setRow g (putAt cur.toList (o0 + q) us).toArray).heap[b]? = w.heap[b]? :=
   fun b hb0 _=>⟨hb0,setRow_other w g b _ (fun e=>hk (by rw[← hg,← e]; exact hb0))⟩
  refine GoRep.frame hfr ?_
  show GoRep.rd (α:=CZ 1) (In χ 0) w (chunk 1 j (putAt xs q us)) x
  have hj':(putAt l q ms)[j]? = some x:=hj
  rw[putAt_get _ _ _ hle] at hj'
  have hch:∀ ys:List Value,chunk 1 j ys = ys[j]?.toList:=fun ys=>by
   unfold chunk
   rw[Nat.mul_one]
   cases hy:ys[j]? with
   | none=>rw[List.drop_of_length_le (by simpa using hy)]; rfl
   | some y =>
    obtain⟨hl,rfl⟩:=List.getElem?_eq_some_iff.1 hy
    rw[List.drop_eq_getElem_cons hl]; rfl
  rw[hch,putAt_get _ _ _ (by omega)]
  by_cases hin:q ≤ j ∧ j < q + ms.length
  ·rw[if_pos hin] at hj'
   rw[if_pos (by omega)]
   obtain⟨u,hu⟩:∃ u,us[j - q]? = some u:=⟨_,List.getElem?_eq_getElem (by omega)⟩
   rw[hu]
   exact⟨rfl,hrd _ _ _ hj' hu⟩
  ·rw[if_neg hin] at hj'
   rw[if_neg (by omega),← hch]
   exact h2 j x hj'
theorem bytesPV_len (s:ByteArray):(bytesPV s).length = s.size:=by unfold bytesPV; rw[List.length_map,Array.length_toList]; rfl
theorem byte_rd (b:UInt8):Rd (In G.χ 0) w (.int .u8 (b.toNat:Int)) (.int .u8 (b.toNat:Int)):=by
 refine .int ⟨?_,?_⟩
 ·show (0:Int) ≤ _; simp
 ·show _ ≤ (255:Int)
  have:=b.toNat_lt
  simp; omega
theorem copyE_ok {e:Eff} {t u:TypeId} {x y:Operand} {c:Call} {ob:Nat} {e0:TypeId} {z:Nat} {l:List (List PV)} {q b:Nat} {sx:ByteArray} {A:Option Addr} {n cp:Nat} (r:RepG w0 χ0 T0 s a w G) (hd:∀ k,o.dst = some k → k < a.tmps.size) (ho:o.op = .call c)
  (hcc:c = { callee := .builtin .copy,args := #[x,y],argTypes := #[t,u] }) (hob:s.hp ob = some (.arr e0 z l)) (hv:G.hv ob = .slice A n cp) (hval:a.eval x = svV A cp q b 1) (hbn:b ≤ n) (hnc:n ≤ cp) (hy:a.eval y = .string sx)
  (h:copyE P t u ob e0 z l q b sx = some e) (hc:e.cond):o.wp P a w (After w0 χ0 T0 a.tmps.size (s.app o.dst e)) Q:=by
 subst hcc
 obtain⟨hown,hbl⟩:=r.objs ob _ hob
 unfold copyE at h
 split at h
 ·rename_i e2 z2 hel hu
  split at h
  ·rename_i hz
   obtain⟨rfl,rfl⟩:=hz
   simp only[Option.some.injEq] at h
   subst h
   obtain⟨c1,c2,c3⟩:=hc
   have hE:=tyElem_of hel
   obtain⟨i,zv,hi,hzv,hsz,hby,hzs⟩:=hE.ex
   have hln:l.length = n:=by
    obtain⟨A',c',hv',_⟩:=hown.form
    rw[hv] at hv'
    injection hv' with _ e2 _
    exact e2.symm
   have hmin:((bytesPV sx).take (b - q)).length = min sx.size (b - q):=by rw[List.length_take,bytesPV_len]; omega
   have h9:min sx.size (b - q) ≤ 9223372036854775807:=by omega
   have hres:∀ (hp:Hp) (w':World),SRd G hp w' (.x (.p (.int .i64 ((min sx.size (b - q):Nat):Int)))) (.int .i64 ((min sx.size (b - q):Nat):Int)):=fun hp w'=>mk_int (s:=⟨fun _=>.dead,hp⟩) (inK_nat h9)
   let us:List Value:=((sx.extract 0 (min sx.size (b - q))).data.map fun b=>Value.int .u8 b.toNat).toList
   have husl:us.length = min sx.size (b - q):=by
    simp only[us,Array.length_toList,Array.size_map]
    show (sx.extract 0 (min sx.size (b - q))).size = _
    rw[ByteArray.size_extract]; omega
   by_cases h0:min sx.size (b - q) = 0
   ·have hl0:(bytesPV sx).take (b - q) = []:=List.eq_nil_of_length_eq_zero (by rw[hmin,h0])
    have hus0:us = []:=List.eq_nil_of_length_eq_zero (by rw[husl,h0])
    have hpl:putAt l q ((bytesPV sx).take (b - q)) = l:=by rw[hl0]; simp [putAt]
    rw[hpl]
    have hrun:(execOp a.eval o).run P w = .ok (.value (.int .i64 ((min sx.size (b - q):Nat):Int))) w:=by
     rw[h0]
     simp only[execOp,ho,resolve,invoke,builtin,Sem.run_bind,Sem.run_pure,Result.andThen_ok,List.map_toArray,List.map_cons,List.map_nil,hval,hy,svV,Builtin.copy_,List.getElem?_toArray,List.getElem?_cons_zero,List.getElem?_cons_succ,run_underlying hE.ty,Builtin.lenOf,sizeOf,typeInfo,run_program,hi,Builtin.firstCells,goInt,show Nat.min sx.size (b - q) = 0 from h0]
     have e3:((sx.extract 0 0).data.map fun b=>Value.int .u8 b.toNat).toList = []:=by
      have:(sx.extract 0 0).data.size = 0:=by show (sx.extract 0 0).size = 0; rw[ByteArray.size_extract]; omega
      have:(sx.extract 0 0).data = #[]:=Array.eq_empty_of_size_eq_zero this
      rw[this]; simp
     rw[e3]
     cases (if cp = q then A else A.map (·.add (q * 1))) <;> simp [storeCells]
    exact does_noR r hd hrun hob (hres _ _)
   ·have hms:(bytesPV sx).take (b - q) ≠ []:=fun he=>h0 (by rw[← hmin,he]; rfl)
    obtain⟨g,cur,g1,g2,g3,g4⟩:=own_copy (q:=q) (us:=us) hown (by omega) (by rw[hmin]; omega) hms (by rw[husl,hmin]) (fun i row uu hr hu=>by
     have hil:=(List.getElem?_eq_some_iff.1 hu).1
     rw[husl] at hil
     rw[List.getElem?_take,if_pos (by omega)] at hr
     unfold bytesPV at hr
     rw[List.getElem?_map,Option.map_eq_some_iff] at hr
     obtain⟨bb,hbb,rfl⟩:=hr
     have hu2:uu = .int .u8 (bb.toNat:Int):=by
      simp only[us,Array.getElem?_toList,Array.getElem?_map,Option.map_eq_some_iff] at hu
      obtain⟨b3,hb3,rfl⟩:=hu
      have hb4:b3 = bb:=by
       rw[ByteArray.data_extract,Array.getElem?_extract] at hb3
       split at hb3
       ·rw[Nat.zero_add,← Array.getElem?_toList,hbb] at hb3
        injection hb3 with hb3
        exact hb3.symm
       ·cases hb3
      rw[hb4]
     subst hu2
     refine⟨rfl,fun j p v hp hv=>?_⟩
     cases j with
     | zero=>simp at hp hv; subst hp hv; exact byte_rd bb
     | succ j=>simp at hp)
    have hgb:g = G.bl ob:=hbl g g1
    have hcol:G.χ g = ob + 2:=hown.col g g1
    have hA:A = some ⟨g,hOff (G.hv ob),none⟩:=by
     obtain⟨g',c',hv',hv2,_⟩:=hown.block (fun he=>by
      have h7:l.length = 0:=by rw[show l = [] from he]; rfl
      omega)
     rw[g1] at hv2
     injection hv2 with hv2
     subst hv2
     rw[hv] at hv' ⊢
     injection hv' with e1 _ _
    have hst:=run_storeCells_m P g (hOff (G.hv ob) + q) e0 us 0 cur w g2 (by rw[Nat.add_zero]; exact g3) (fun uu hu=>by
     simp only[us,Array.mem_toList_iff,Array.mem_map] at hu
     obtain⟨_,_,rfl⟩:=hu
     rfl)
    simp only[Nat.add_zero] at hst
    have hrun:(execOp a.eval o).run P w = .ok (.value (.int .i64 ((min sx.size (b - q):Nat):Int))) (w.setRow g (putAt cur.toList (hOff (G.hv ob) + q) us).toArray):=by
     simp only[execOp,ho,resolve,invoke,builtin,Sem.run_bind,Sem.run_pure,Result.andThen_ok,List.map_toArray,List.map_cons,List.map_nil,hval,hy,svV,Builtin.copy_,List.getElem?_toArray,List.getElem?_cons_zero,List.getElem?_cons_succ,run_underlying hE.ty,Builtin.lenOf,sizeOf,typeInfo,run_program,hi,Builtin.firstCells,goInt]
     rw[if_neg (by omega),hA]
     simp only[Option.map_some,add_none,Nat.mul_one]
     have hst':(storeCells ⟨g,hOff (G.hv ob) + q,none⟩ ((sx.extract 0 (min sx.size (b - q))).data.map fun b=>Value.int .u8 b.toNat).toList).run P w = _:=hst
     simp only[show Nat.min sx.size (b - q) = min sx.size (b - q) from rfl,Sem.run_bind,hst',Result.andThen_ok,Sem.run_pure,putAt]
    exact does_storeR r hd hcol hrun ⟨g4,hbl⟩ (hres _ _)
  ·cases h
 ·cases h
theorem opCopy_ok {e:Eff} {t u:TypeId} {x y:Operand} {c:Call} (r:RepG w0 χ0 T0 s a w G) (hd:∀ k,o.dst = some k → k < a.tmps.size) (ho:o.op = .call c) (hcc:c = { callee := .builtin .copy,args := #[x,y],argTypes := #[t,u] })
  (h:opCopy P t u [s.arg x,s.arg y] = some e) (hc:e.cond):o.wp P a w (After w0 χ0 T0 a.tmps.size (s.app o.dst e)) Q:=by
 have hx:=r.ev x
 have hy:=r.ev y
 unfold opCopy at h
 split at h
 ·rename_i ob e0 z l sx _ heq
  simp only[List.cons.injEq,and_true] at heq
  obtain⟨h1,h2⟩:=St.arg_eq heq.1
  rw[h1] at hx
  rw[(St.arg_eq heq.2).1] at hy
  have hob:s.hp ob = some (.arr e0 z l):=by simpa [Slot.ids,Cmp.ids,Cmp.leaves,Leaf.ids] using h2
  have hval:a.eval x = G.hv ob:=LRd.val hx
  obtain⟨hown,hbl⟩:=r.objs ob _ hob
  obtain⟨A,cp,hv,hnc,hcm⟩:=hown.form
  refine copyE_ok (A:=A) (n:=l.length) (cp:=cp) r hd ho hcc hob hv ?_ (Nat.le_refl _) hnc (rd_str hy).1 h hc
  rw[hval,hv]
  unfold svV
  rw[Nat.sub_zero,Nat.sub_zero]
  split
  ·rfl
  ·rw[Nat.zero_mul]
   cases A with
   | none=>rfl
   | some ad =>
    have:ad.add 0 = ad:=by
     cases ad with
     | mk bk of sp=>cases sp <;> simp [Addr.add]
    rw[Option.map_some,this]; rfl
 ·rename_i ob q b z2 e0 z l sx _ heq
  simp only[List.cons.injEq,and_true] at heq
  obtain⟨h1,h2⟩:=St.arg_eq heq.1
  rw[h1] at hx
  rw[(St.arg_eq heq.2).1] at hy
  have hob:s.hp ob = some (.arr e0 z l):=by simpa [Slot.ids,Cmp.ids,Cmp.leaves,Leaf.ids] using h2
  split at h
  ·rename_i hz2
   subst hz2
   obtain⟨A,n,cp,hv,hij,hjn,hnc,hval⟩:=LRd.val hx
   exact copyE_ok (A:=A) (n:=n) (cp:=cp) r hd ho hcc hob hv hval hjn hnc (rd_str hy).1 h hc
  ·cases h
 ·cases h
theorem opCO_ok {e:Eff} {src dst:TypeId} {x:Operand} (r:RepG w0 χ0 T0 s a w G) (hd:∀ k,o.dst = some k → k < a.tmps.size) (ho:o.op = .convert src dst x)
  (h:opCO P src dst o.dst (isFree s.hp o.dst) [s.arg x] = some e):o.wp P a w (After w0 χ0 T0 a.tmps.size (s.app o.dst e)) Q:=by
 have hx:=r.ev x
 unfold opCO at h
 split at h
 ·rename_i b _ heq
  simp only[List.cons.injEq,and_true] at heq
  rw[(St.arg_eq heq).1] at hx
  split at h
  ·rename_i el d hsu hdu hdst
   split at h
   ·rename_i heu
    split at h
    ·rename_i hf
     simp only[Option.some.injEq] at h
     subst h
     rw[hdst] at hf
     have hf':s.hp d = none ∧ d < 1000000:=by simpa [isFree] using hf.1
     have hv:=rd_str hx
     have hrun0:=Lib.run_convert_string_bytes w src dst el b hsu hdu heu
     have hrun:(execOp a.eval o).run P w = .ok (.value (.slice (some ⟨w.heap.size,0,none⟩) b.size (grownCap w b.size 0 el))) (Lib.bytesWorld w el b):=by
      simp only[execOp,ho,hv.1,Sem.run_bind,hrun0,Result.andThen_ok,Sem.run_pure]
     have hcap:=grownCap_ge w b.size 0 el
     have hmax:grownCap w b.size 0 el ≤ 9223372036854775807:=grownCap_le_maxLen w b.size 0 el hv.2
     have hsz:(Lib.bytesWorld w el b).heap.size = w.heap.size + 1:=Lib.bytesWorld_size w el b
     have hold:∀ j,j < w.heap.size → (Lib.bytesWorld w el b).heap[j]? = w.heap[j]? := fun j hj=>Lib.bytesWorld_at_old w el b j hj
     let hvv:Value := .slice (some ⟨w.heap.size,0,none⟩) b.size (grownCap w b.size 0 el)
     have hbs:(Lib.bytesCells w el b).size = grownCap w b.size 0 el:=by
      unfold Lib.bytesCells
      rw[Array.size_append,Array.size_map,Array.size_replicate]
      show b.size + _ = _
      omega
     have hext:Ext G s.hp w (G.add d w.heap.size hvv) (Lad.upd s.hp d (some (.arr el 1 (bytesPV b)))) (Lib.bytesWorld w el b):=by
      refine⟨fun q hq hl=>⟨?_,hold q hl⟩,fun i hi=>?_,fun i hi=>?_,fun i hi=>?_⟩
      ·show (if q = w.heap.size then d + 2 else G.χ q) = 0
       rw[if_neg (by omega)]; exact hq
      ·exact upd_ne _ _ (fun e=>hi.elim (fun hi=>hi (by rw[e]; exact hf'.1)) fun hi=>by omega)
      ·exact upd_ne _ _ (fun e=>hi.elim (fun hi=>hi (by rw[e]; exact hf'.1)) fun hi=>by omega)
      ·rw[upd_ne _ _ (fun e=>hi (by rw[e]; exact hf'.1))]; exact hi
     have hchg:Chg [] G.χ w (G.add d w.heap.size hvv).χ (Lib.bytesWorld w el b):=by
      refine⟨rfl,rfl,rfl,by omega,fun q hq _=>?_,fun q hq _=>hold q hq⟩
      show (if q = w.heap.size then d + 2 else G.χ q) = G.χ q
      rw[if_neg (by omega)]
     have hnorm:Norm (G.add d w.heap.size hvv).χ (Lib.bytesWorld w el b):=fun q hq=>by
      rw[hsz] at hq
      show (if q = w.heap.size then d + 2 else G.χ q) = 0
      rw[if_neg (by omega)]; exact r.norm q (by omega)
     unfold Oper.wp
     rw[hrun]
     refine⟨Act.put_size _ _ _,_,r.upd hd hext hchg (by simp) hnorm (fun i h' hi=>?_) ⟨rfl,fun j hj=>?_,(upd_same _ _ _).symm⟩⟩
     ·change Lad.upd s.hp d (some _) i = some h' at hi
      by_cases hid:i = d
      ·subst hid
       rw[upd_same] at hi
       injection hi with hi
       subst hi
       refine .inr ⟨?_,fun q hq=>?_⟩
       ·show Own (α:=CZ 1) (i + 2) (G.add i w.heap.size hvv).χ el (Lib.bytesWorld w el b) (Lad.upd G.hv i hvv i) (bytesPV b)
        rw[upd_same]
        have hLb:List.length (α:=CZ 1) (bytesPV b) = b.size:=bytesPV_len b
        refine⟨⟨(b.data.map fun c=>Value.int .u8 c.toNat).toList,⟨?_,.inr ⟨w.heap.size,grownCap w b.size 0 el,Lib.bytesCells w el b,0,?_,Nat.zero_le _,⟨_,Lib.bytesWorld_at_new w el b,.inr ⟨Nat.le_refl _,hf.2⟩⟩,?_,hmax,?_,?_⟩⟩,fun q row hq=>?_⟩,fun g hg=>?_⟩
        ·rw[hLb]
         simp only[Array.length_toList,Array.size_map]
         show b.size = b.size * 1
         omega
        ·rw[hLb]
        ·rw[hLb]; exact hcap
        ·show 0 + grownCap w b.size 0 el * 1 ≤ (Lib.bytesCells w el b).size
         omega
        ·rw[hLb,List.drop_zero]
         unfold Lib.bytesCells
         rw[Array.toList_append]
         show List.take (b.size * 1) _ = _
         rw[Nat.mul_one]
         exact List.take_left' (by simp only[Array.length_toList,Array.size_map]; rfl)
        ·obtain⟨row,rfl⟩:∃ r:List PV,r = row:=⟨row,rfl⟩
         have hq':(bytesPV b)[q]? = some row:=hq
         unfold bytesPV at hq'
         rw[List.getElem?_map,Option.map_eq_some_iff] at hq'
         obtain⟨bb,hbb,rfl⟩:=hq'
         have hch:chunk 1 q (b.data.map fun c=>Value.int .u8 c.toNat).toList = [Value.int .u8 (bb.toNat:Int)]:=by
          unfold chunk
          rw[Nat.mul_one]
          have h9:(b.data.map fun c=>Value.int .u8 c.toNat).toList[q]? = some (Value.int .u8 (bb.toNat:Int)):=by
           rw[Array.toList_map,List.getElem?_map,hbb]; rfl
          obtain⟨hl,h10⟩:=List.getElem?_eq_some_iff.1 h9
          rw[List.drop_eq_getElem_cons hl,h10]; rfl
         show GoRep.rd (α:=CZ 1) _ _ (chunk 1 q _) _
         rw[hch]
         refine⟨rfl,rfl,fun j p v hp hv=>?_⟩
         cases j with
         | zero =>
          simp at hp hv
          subst hp hv
          refine .int ⟨?_,?_⟩
          ·show (0:Int) ≤ _; simp
          ·show _ ≤ (255:Int)
           have:=bb.toNat_lt
           simp; omega
         | succ j=>simp at hp
        ·injection hg with hg
         subst hg
         show (if w.heap.size = w.heap.size then i + 2 else _) = i + 2
         rw[if_pos rfl]
       ·change (Lad.upd G.hv i hvv i).ownBlock = some q at hq
        rw[upd_same] at hq
        injection hq with hq
        subst hq
        exact (upd_same _ _ _).symm
      ·rw[upd_ne _ _ hid] at hi
       exact .inl ⟨hi,by simp⟩
     ·simp [Leaf.ids] at hj
      subst hj
      show Lad.upd s.hp j (some _) j ≠ none
      rw[upd_same]; simp
    ·cases h
   ·cases h
  ·cases h
 ·cases h
end
end Go.Lad
