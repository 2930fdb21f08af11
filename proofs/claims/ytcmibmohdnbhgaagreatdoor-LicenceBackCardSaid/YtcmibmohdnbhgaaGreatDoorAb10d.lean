import Derived.Test.YtcmibmohdnbhgaaGreatDoorAb10e
import Derived.Lib.SliceRun
import Derived.Lib.AppendZeros
namespace Go.Lad
set_option linter.unusedVariables false
set_option linter.unusedSimpArgs false
open Go.RowKit
def opIdxV (P:Program) (t:TypeId):List Arg → Option Eff:=fun _=>none
def opLookD (P:Program) (t:TypeId):List Slot → Option Eff:=fun _=>none
def opPutL (P:Program) (t:TypeId):List Arg → Option Eff:=fun _=>none
def opClear (P:Program) (t:TypeId):List Arg → Option Eff:=fun _=>none
def opAppT (P:Program) (t:TypeId) (dst:Option Nat) (free:Bool):List Arg → Option Eff
 | [(.c (.v (.tl l)),_),y]=>match tyElem P t,asList y,dst with
  | some (e,z),some m,some d=>if free then some ⟨l.length + m.length ≤ 2147483647 ∧ l ≠ [] ∧ m ≠ [] ∧ (∀ x ∈ l,x.length = z) ∧ ∀ x ∈ m,x.length = z,.x (.own d),[(d,.arr e z (l ++ m))]⟩ else none
  | _,_,_=>none
 | _=>none
def litRows:List Slot → Option (List Leaf)
 | []=>some []
 | .c (.v x) :: r=>match litRows r with | some l=>some (x :: l) | none=>none
 | _=>none
def opBuildLit (P:Program) (t:TypeId) (len:Nat) (is:List Nat) (dst:Option Nat) (free:Bool) (args:List Slot):Option Eff :=
 match tyElem P t,dst with
 | some (e,z),some d=>if is = List.range len ∧ free = true ∧ len ≤ 100 ∧ z = 1 then match litRows args with | some cs=>some ⟨True,.x (.own d),[(d,.lit e cs)]⟩ | none=>none else none
 | _,_=>none
def opAppI (P:Program) (t t':TypeId) (dst:Option Nat) (free:Bool):List Arg → Option Eff
 | [(.c (.v .nil),_),(.c (.v (.p (.int _ n))),_)]=>match P.underlying t',tyElem P t,dst with
  | some (.int _),some (e,z),some d=>match tyZero P e with
   | some (_,ps)=>if free = true ∧ ps.length = z then some ⟨1 ≤ n ∧ n ≤ 2147483647,.x (.own d),[(d,.arr e z (List.replicate n.toNat ps))]⟩ else none
   | none=>none
  | _,_,_=>none
 | _=>none
def opCap (P:Program) (t:TypeId):List Slot → Option Eff
 | [.c (.v .nil)]=>match P.underlying t with
  | some (.slice _)=>val (.p (.int .i64 0))
  | _=>none
 | _=>none
def opV (P:Program) (op:Op) (dst:Option Nat) (free:Bool) (args:List Arg):Option Eff :=
 match op with
 | .indexAddr t _ _=>opIdxV P t args
 | .lookup t _ _ false=>opLookD P t (args.map (·.1))
 | .mapUpdate t _ _ _=>opPutL P t args
 | .call { callee := .builtin .clear,argTypes:=ts,.. }=>match ts.toList with | [t]=>opClear P t args | _=>none
 | .mapEntry t _ _=>opMapEntry P t dst free args
 | .entryStore t _ _ _=>opEntryStore P t args
 | .call { callee := .builtin .copy,argTypes:=ts,.. }=>match ts.toList with | [t,u]=>opCopy P t u args | _=>none
 | .call { callee := .builtin .append,argTypes:=ts,.. }=>match ts.toList with | [t,t']=>if t = t' then opAppT P t dst free args else opAppI P t t' dst free args | _=>none
 | .call { callee := .builtin .cap,argTypes:=ts,.. }=>match ts.toList with | [t]=>opCap P t (args.map (·.1)) | _=>none
 | .buildSlice t n ps=>opBuildLit P t n (ps.toList.map (·.1)) dst free (args.map (·.1))
 | _=>none
def opY (P:Program) (op:Op) (dst:Option Nat) (free:Bool) (args:List Arg):Option Eff :=
 match op with
 | .indexAddr _ _ _ | .lookup _ _ _ _ | .mapUpdate _ _ _ _ | .call { callee := .builtin .clear,.. } | .call { callee := .builtin .append,.. } | .call { callee := .builtin .cap,.. }=>opV P op dst free args
 | .mapEntry _ _ _ | .entryStore _ _ _ _ | .call { callee := .builtin .copy,.. }=>opV P op dst free args
 | .buildSlice _ _ _=>opV P op dst free args
 | _=>opY0 P op dst free args
def opTake (P:Program) (t:TypeId) (dst:Option Nat) (free:Bool):List Arg → Option Eff:=fun _=>none
def opCutO (P:Program) (t:TypeId) (hl hh:Bool) (dst:Option Nat) (free:Bool):List Arg → Option Eff
 | (.c (.v (.own o)),[some (.arr e z' l)]) :: as=>match tyElem P t,bnds hl hh l.length as,dst with
  | some (_,z),some (i,j),some d=>if z = z' ∧ free = true then some ⟨0 ≤ i ∧ i ≤ j ∧ j ≤ l.length,.x (.own d),[(o,.gone),(d,.arr e z' ((l.take j.toNat).drop i.toNat))]⟩ else none
  | _,_,_=>none
 | _=>none
def opVec (P:Program) (t:TypeId) (dst:Option Nat) (free:Bool):List Arg → Option Eff:=fun _=>none
def opMakeL (P:Program) (t:TypeId) (dst:Option Nat) (free:Bool):List Arg → Option Eff:=fun _=>none
def opAppZ (P:Program) (t:TypeId):List Arg → Option Eff
 | [(.c (.v (.own o)),[some (.arr e z l)]),y]=>match tyElem P t,asList y with
  | some (e',z'),some m=>if e = e' ∧ z = z' then some ⟨l.length + m.length ≤ 2147483647 ∧ ∀ x ∈ m,x.length = z,.x (.p (.sl (l ++ m))),[(o,.gone)]⟩ else none
  | _,_=>none
 | _=>none
def opNilO (P:Program) (op:BinOp) (t:TypeId):List Arg → Option Eff:=fun _=>none
def isTake:Op → Bool
 | .binOp .eql _ _ _ _=>true
 | .binOp .neq _ _ _ _=>true
 | .call { callee := .builtin .append,.. }=>true
 | .lookup _ _ _ false=>true
 | .slice _ _ _ _ none=>true
 | .alloc _=>true
 | .makeMap _ none=>true
 | .convert _ _ _=>true
 | _=>false
def opTk (P:Program) (op:Op) (dst:Option Nat) (free:Bool) (args:List Arg):Option Eff :=
 match op with
 | .binOp b t _ _ _=>opNilO P b t args
 | .lookup t _ _ false=>opTake P t dst free args
 | .slice t _ l h none=>opCutO P t l.isSome h.isSome dst free args
 | .alloc t=>opVec P t dst free args
 | .makeMap t none=>opMakeL P t dst free args
 | .convert src dt _=>opCO P src dt dst free args
 | .call { callee := .builtin .append,argTypes:=ts,.. }=>match ts.toList with | [t,t']=>if t = t' then opAppZ P t args else none | _=>none
 | _=>none
section
variable {P:Program} {w0:World} {χ0:Col} {T0:Ctx} {s:St} {a:Act} {w:World} {G:Gh} {o:Oper} {Q:Exit → Act → World → Prop}
theorem opIdxV_ok {e:Eff} {t:TypeId} {x y:Operand} (r:RepG w0 χ0 T0 s a w G) (hd:∀ k,o.dst = some k → k < a.tmps.size) (ho:o.op = .indexAddr t x y) (h:opIdxV P t [s.arg x,s.arg y] = some e) (hc:e.cond) :
  o.wp P a w (After w0 χ0 T0 a.tmps.size (s.app o.dst e)) Q:=nomatch h
theorem opLookD_ok {e:Eff} {t:TypeId} {x y:Operand} (r:RepG w0 χ0 T0 s a w G) (hd:∀ k,o.dst = some k → k < a.tmps.size) (ho:o.op = .lookup t x y false) (h:opLookD P t [s.ev x,s.ev y] = some e) :
  o.wp P a w (After w0 χ0 T0 a.tmps.size (s.app o.dst e)) Q:=nomatch h
def reGh (G:Gh) (d:Nat) (v:Value):Gh:={ χ:=fun b=>if v.ownBlock = some b then d + 2 else G.χ b,bl:=Lad.upd G.bl d (v.ownBlock.getD 0),hv:=Lad.upd G.hv d v }
theorem does_gh {w':World} {v:Value} {y:Leaf} {c:Prop} {G':Gh} {T:List Nat} {wr:List (Nat × HObj)} (r:RepG w0 χ0 T0 s a w G) (hd:∀ k,o.dst = some k → k < a.tmps.size)
  (hrun:(execOp a.eval o).run P w = .ok (.value v) w') (he:Ext G s.hp w G' (updL s.hp wr) w') (st:Chg T G.χ w G'.χ w') (hT:∀ k ∈ T,2 ≤ k) (hn:Norm G'.χ w')
  (ho:∀ i h,updL s.hp wr i = some h → (s.hp i = some h ∧ i + 2 ∉ T) ∨ HRd G' (updL s.hp wr) w' i h) (hy:LRd G' (updL s.hp wr) w' y v):o.wp P a w (After w0 χ0 T0 a.tmps.size (s.app o.dst ⟨c,.x y,wr⟩)) Q:=by
 unfold Oper.wp
 rw[hrun]
 exact⟨Act.put_size _ _ _,G',r.upd hd he st hT hn ho hy⟩
theorem re_zero {d k:Nat} {v:Value} (hk:∀ g,v.ownBlock = some g → G.χ g = k) (hk0:k ≠ 0) {b:Nat} (hb:G.χ b = 0):(reGh G d v).χ b = 0:=by
 show (if v.ownBlock = some b then d + 2 else G.χ b) = 0
 rw[if_neg (fun h=>hk0 ((hk b h).symm.trans hb))]; exact hb
theorem re_ext {d k:Nat} {v:Value} {hp':Hp} (hk:∀ g,v.ownBlock = some g → G.χ g = k) (hk0:k ≠ 0) (hf:s.hp d = none ∧ d < 1000000) (ht:∀ i,s.hp i ≠ none → hp' i ≠ none):Ext G s.hp w (reGh G d v) hp' w :=
 ⟨fun b hb _=>⟨re_zero hk hk0 hb,rfl⟩,fun i hi=>upd_ne _ _ (fun e=>hi.elim (fun hi=>hi (by rw[e]; exact hf.1)) fun hi=>by omega),fun i hi=>upd_ne _ _ (fun e=>hi.elim (fun hi=>hi (by rw[e]; exact hf.1)) fun hi=>by omega),ht⟩
theorem re_chg {d k:Nat} {v:Value} (hk:∀ g,v.ownBlock = some g → G.χ g = k):Chg [k] G.χ w (reGh G d v).χ w :=
 ⟨rfl,rfl,rfl,Nat.le_refl _,fun b _ hb=>if_neg fun h=>hb (by rw[hk b h]; simp),fun _ _ _=>rfl⟩
theorem chunk_part {z i q m:Nat} {xs:List Value} (hq:q < m):chunk z q ((xs.drop (i * z)).take (m * z)) = chunk z (i + q) xs:=by
 unfold chunk
 apply List.ext_getElem?
 intro j
 rw[List.getElem?_take,List.getElem?_take]
 split
 ·rename_i hj
  rw[List.getElem?_drop,List.getElem?_take,List.getElem?_drop,List.getElem?_drop]
  have:q * z + j < m * z:=by
   have:(q + 1) * z ≤ m * z:=Nat.mul_le_mul_right _ (by omega)
   rw[Nat.add_mul] at this; omega
  rw[if_pos this,Nat.add_mul,Nat.add_assoc]
 ·rfl
theorem own_part {z k kd i j n c:Nat} {χ χ':Col} {e:TypeId} {A:Option Addr} {l:List (List PV)} (h:Own (α:=CZ z) k χ e w (.slice A n c) l) (hij:i ≤ j) (hj:j ≤ l.length)
  (h0:∀ b,χ b = 0 → χ' b = 0) (hk:∀ g,(svV A c i j z).ownBlock = some g → χ' g = kd):Own (α:=CZ z) kd χ' e w (svV A c i j z) ((l.take j).drop i):=by
 obtain⟨⟨xs,h1',h2⟩,h3⟩:=h
 have h1:oRow w e z (.slice A n c) (List.length (α:=List PV) l) xs:=h1'
 clear h1'
 have hn:n = l.length:=by
  rcases h1.2 with⟨hv,hl⟩ | ⟨g,cap,cur,off,hv,_⟩
  ·injection hv with _ e2 _; omega
  ·injection hv with _ e2 _
 subst hn
 have hlen:((l.take j).drop i).length = j - i:=by simp; omega
 have hp:=h1.part (i:=i) (m:=j - i) rfl (by omega)
 refine⟨⟨_,(by rw[hlen]; exact hp:oRow w e z (svV A c i j z) (List.length (α:=List PV) ((l.take j).drop i)) _),fun q x hx=>?_⟩,hk⟩
 have hq:q < j - i:=by rw[← hlen]; exact (List.getElem?_eq_some_iff.1 hx).1
 have hx':((l.take j).drop i)[q]? = some (show List PV from x):=hx
 rw[List.getElem?_drop,List.getElem?_take,if_pos (by omega)] at hx'
 have h5:=h2 (i + q) x hx'
 show GoRep.rd _ _ (chunk z q ((xs.drop (i * z)).take ((j - i) * z))) x
 rw[chunk_part hq]
 exact GoRep.frame (fun b hb _=>⟨h0 b hb,rfl⟩) h5
theorem svV_block {A:Option Addr} {n c i j z g:Nat} (h:(svV A c i j z).ownBlock = some g):(Value.slice A n c).ownBlock = some g:=by
 unfold svV at h
 by_cases hc:c = i
 ·rw[if_pos hc] at h
  cases A with
  | none=>simp [Value.ownBlock] at h
  | some ad=>simpa [Value.ownBlock] using h
 ·rw[if_neg hc] at h
  cases A with
  | none=>simp [Value.ownBlock] at h
  | some ad=>simpa [Value.ownBlock,block_add] using h
theorem opCutO_ok {e:Eff} {t:TypeId} {x:Operand} {lo hi:Option Operand} (r:RepG w0 χ0 T0 s a w G) (hd:∀ k,o.dst = some k → k < a.tmps.size) (ho:o.op = .slice t x lo hi none)
  (h:opCutO P t lo.isSome hi.isSome o.dst (isFree s.hp o.dst) (s.arg x :: (lo.toList ++ hi.toList).map s.arg) = some e) (hc:e.cond):o.wp P a w (After w0 χ0 T0 a.tmps.size (s.app o.dst e)) Q:=by
 have hx:=r.ev x
 have run:∀ {el:TypeId} {z n c:Nat} {A:Option Addr} {i j:Int},tyElem P t = some (el,z) → a.eval x = .slice A n c → bnds lo.isSome hi.isSome n ((lo.toList ++ hi.toList).map s.arg) = some (i,j) → 0 ≤ i → i ≤ j → j ≤ n → n ≤ c →
   (execOp a.eval o).run P w = .ok (.value (svV A c i.toNat j.toNat z)) w:=by
  intro el z n c A i j h1 h2 h3 h4 h5 h6 h7
  have hE:=tyElem_of h1
  obtain⟨inf,zz,hi',_,hs,_⟩:=hE.ex
  simp only[execOp,ho,h2,Instr.sliceAt,Instr.slice,Sem.run_bind,run_underlying hE.ty,Result.andThen_ok,Option.map_none,bnds_run r h3 h4 h5 h6 h7,sizeOf,typeInfo,hi',Sem.run_pure]
  simp [hs,hi',svV]
 unfold opCutO at h
 split at h
 ·rename_i ob e' z' l as heq
  simp only[List.cons.injEq] at heq
  obtain⟨heq,rfl⟩:=heq
  obtain⟨h1,h2⟩:=St.arg_eq heq
  rw[h1] at hx
  have hob:s.hp ob = some (.arr e' z' l):=by simpa [Slot.ids,Cmp.ids,Cmp.leaves,Leaf.ids] using h2
  have hval:a.eval x = G.hv ob:=LRd.val hx
  split at h
  ·rename_i el z i j d hel hb hdst
   split at h
   ·rename_i hcc
    obtain⟨rfl,hfree⟩:=hcc
    simp only[Option.some.injEq] at h
    subst h
    obtain⟨c1,c2,c3⟩:=hc
    rw[hdst] at hfree
    have hf:s.hp d = none ∧ d < 1000000:=by simpa [isFree] using hfree
    have hdo:d ≠ ob:=fun e=>by rw[e,hob] at hf; cases hf.1
    obtain⟨hown,hbl⟩:=r.objs ob _ hob
    obtain⟨A,c,hv,hcap,hmax⟩:=hown.form
    have hrun:=run hel (hval.trans hv) hb c1 c2 c3 hcap
    have hcol:∀ g,(svV A c i.toNat j.toNat z).ownBlock = some g → G.χ g = ob + 2:=fun g hg=>hown.col g (by rw[hv]; exact svV_block hg)
    rw[hv] at hown
    have hlk:∀ q,updL s.hp [(ob,HObj.gone),(d,HObj.arr e' z ((l.take j.toNat).drop i.toNat))] q = if q = d then some (.arr e' z ((l.take j.toNat).drop i.toNat)) else if q = ob then some .gone else s.hp q:=fun q=>by
     show Lad.upd (Lad.upd s.hp ob _) d _ q = _
     unfold Lad.upd
     rfl
    refine does_gh (T:=[ob + 2]) (G':=reGh G d (svV A c i.toNat j.toNat z)) r hd hrun (re_ext hcol (by omega) hf (updL_there _ _)) (re_chg hcol) (by simp) (fun b hb=>re_zero hcol (by omega) (r.norm b hb)) (fun q h hq=>?_) ⟨rfl,fun q hq=>?_,?_⟩
    ·rw[hlk] at hq
     by_cases hqd:q = d
     ·subst hqd
      rw[if_pos rfl] at hq
      injection hq with hq
      subst hq
      refine .inr ⟨?_,fun b hb=>?_⟩
      ·show Own (α:=CZ z) (q + 2) _ e' w (Lad.upd G.hv q _ q) _
       rw[upd_same]
       exact own_part hown (by omega) (by omega) (fun b hb=>re_zero hcol (by omega) hb) (fun g hg=>if_pos hg)
      ·change (Lad.upd G.hv q _ q).ownBlock = some b at hb
       rw[upd_same] at hb
       show b = Lad.upd G.bl q _ q
       rw[upd_same,hb]; rfl
     ·rw[if_neg hqd] at hq
      by_cases hqo:q = ob
      ·subst hqo
       rw[if_pos rfl] at hq
       injection hq with hq
       subst hq
       exact .inr trivial
      ·rw[if_neg hqo] at hq
       exact .inl ⟨hq,by simp; omega⟩
    ·simp [Leaf.ids] at hq
     subst hq
     rw[hlk,if_pos rfl]; simp
    ·exact (upd_same G.hv d _).symm
   ·cases h
  ·cases h
 ·cases h
theorem opTake_ok {e:Eff} {t:TypeId} {x y:Operand} (r:RepG w0 χ0 T0 s a w G) (hd:∀ k,o.dst = some k → k < a.tmps.size) (ho:o.op = .lookup t x y false) (h:opTake P t o.dst (isFree s.hp o.dst) [s.arg x,s.arg y] = some e) :
  o.wp P a w (After w0 χ0 T0 a.tmps.size (s.app o.dst e)) Q:=nomatch h
theorem opVec_ok {e:Eff} {t:TypeId} (r:RepG w0 χ0 T0 s a w G) (hd:∀ k,o.dst = some k → k < a.tmps.size) (ho:o.op = .alloc t) (h:opVec P t o.dst (isFree s.hp o.dst) [] = some e) :
  o.wp P a w (After w0 χ0 T0 a.tmps.size (s.app o.dst e)) Q:=nomatch h
theorem opMakeL_ok {e:Eff} {t:TypeId} (r:RepG w0 χ0 T0 s a w G) (hd:∀ k,o.dst = some k → k < a.tmps.size) (ho:o.op = .makeMap t none) (h:opMakeL P t o.dst (isFree s.hp o.dst) [] = some e) :
  o.wp P a w (After w0 χ0 T0 a.tmps.size (s.app o.dst e)) Q:=nomatch h
theorem opAppZ_ok {e:Eff} {t:TypeId} {x y:Operand} {c:Call} (r:RepG w0 χ0 T0 s a w G) (hd:∀ k,o.dst = some k → k < a.tmps.size) (ho:o.op = .call c) (hcc:c = { callee := .builtin .append,args := #[x,y],argTypes := #[t,t] })
  (h:opAppZ P t [s.arg x,s.arg y] = some e) (hc:e.cond):o.wp P a w (After w0 χ0 T0 a.tmps.size (s.app o.dst e)) Q:=by
 have hx:=r.ev x
 unfold opAppZ at h
 split at h
 ·rename_i ob el z l y' heq
  simp only[List.cons.injEq,and_true] at heq
  obtain⟨h1,h2⟩:=St.arg_eq heq.1
  rw[h1] at hx
  have hob:s.hp ob = some (.arr el z l):=by simpa [Slot.ids,Cmp.ids,Cmp.leaves,Leaf.ids] using h2
  have hval:a.eval x = G.hv ob:=LRd.val hx
  split at h
  ·rename_i e' z' m hel hm
   split at h
   ·rename_i hcond
    obtain⟨rfl,rfl⟩:=hcond
    simp only[Option.some.injEq] at h
    subst h
    obtain⟨c1,c2⟩:=hc
    have hown:Own (α:=CZ z) (ob + 2) G.χ el w (a.eval x) l:=by rw[hval]; exact (r.objs ob _ hob).1
    have hsrc:=asList_src r heq.2 hm c2
    obtain⟨v',w',χ',hrun,h1,h2,h3,h4⟩:=run_appS (kd:=ob + 2) (ty:=o.type) (tyElem_of hel) hown hsrc (by omega) (by omega) c1 r.norm
    subst hcc
    have hrun':(execOp a.eval o).run P w = .ok (.value v') w':=by
     simp only[execOp,ho,resolve,invoke,builtin,Sem.run_bind,Sem.run_pure,Result.andThen_ok,List.map_toArray,List.map_cons,List.map_nil,hrun]
    let χ2:Col:=fun b=>if χ' b = ob + 2 then 0 else χ' b
    let G':Gh:={ χ:=χ2,bl:=G.bl,hv:=G.hv }
    have hz0:∀ b,χ' b = 0 → χ2 b = 0:=fun b hb=>by
     show (if χ' b = ob + 2 then 0 else χ' b) = 0
     rw[hb]; split <;> rfl
    have hown2:Own (α:=CZ z) 0 χ2 el w' v' (l ++ m):=h1.recolour (fun g _ _ hk=>if_pos hk) (.inl fun b _ hb=>hz0 b hb)
    have hrd:Rd (In χ2 0) w' (.sl (l ++ m)) v':=Rd.frame (fun b hb _=>⟨hb.elim id id,rfl⟩) (own_rd hown2)
    have hone:v'.oneCell' = true:=by
     obtain⟨B,cc,hv,_⟩:=h1.form
     rw[hv]; rfl
    have ht:∀ i,s.hp i ≠ none → updL s.hp [(ob,.gone)] i ≠ none:=fun i hi=>by
     show Lad.upd s.hp ob _ i ≠ none
     by_cases hio:i = ob
     ·rw[hio,upd_same]; simp
     ·rw[upd_ne _ _ hio]; exact hi
    refine does_gh (T:=[ob + 2]) (G':=G') (w':=w') r hd hrun' ⟨fun b hb hl=>⟨hz0 b (h4 b hb hl).1,(h4 b hb hl).2⟩,fun _ _=>rfl,fun _ _=>rfl,ht⟩
     ⟨h2.os,h2.tape,h2.output,h2.size,fun b hl hb=>?_,h2.block⟩ (by simp) (fun b hb=>hz0 b (h3 b hb)) (fun i h hi=>?_) ⟨hone,fun j hj=>by simp [Leaf.ids] at hj,hrd⟩
    ·have h5:=h2.col b hl hb
     show (if χ' b = ob + 2 then 0 else χ' b) = _
     rw[if_neg (by rw[h5]; simpa using hb)]; exact h5
    ·have hi:Lad.upd s.hp ob (some .gone) i = some h:=hi
     by_cases hio:i = ob
     ·subst hio
      rw[upd_same] at hi
      injection hi with hi
      subst hi
      exact .inr trivial
     ·rw[upd_ne _ _ hio] at hi
      exact .inl ⟨hi,by simp; omega⟩
   ·cases h
  ·cases h
 ·cases h
theorem opNilO_ok {e:Eff} {b:BinOp} {t t':TypeId} {x y:Operand} (r:RepG w0 χ0 T0 s a w G) (hd:∀ k,o.dst = some k → k < a.tmps.size) (ho:o.op = .binOp b t x y t') (h:opNilO P b t [s.arg x,s.arg y] = some e) :
  o.wp P a w (After w0 χ0 T0 a.tmps.size (s.app o.dst e)) Q:=nomatch h
theorem opTk_ok {e:Eff} (r:RepG w0 χ0 T0 s a w G) (hd:∀ k,o.dst = some k → k < a.tmps.size) (h:opTk P o.op o.dst (isFree s.hp o.dst) ((Op.opds o.op).map s.arg) = some e) (hc:e.cond):o.wp P a w (After w0 χ0 T0 a.tmps.size (s.app o.dst e)) Q:=by
 unfold opTk at h
 split at h <;> rename_i hop
 ·rw[hop] at h; exact opNilO_ok r hd hop (by simpa [Op.opds] using h)
 ·rw[hop] at h; exact opTake_ok r hd hop (by simpa [Op.opds] using h)
 ·rw[hop] at h; exact opCutO_ok r hd hop (by simpa [Op.opds] using h) hc
 ·rw[hop] at h; exact opVec_ok r hd hop (by simpa [Op.opds] using h)
 ·rw[hop] at h; exact opMakeL_ok r hd hop (by simpa [Op.opds] using h)
 ·rw[hop] at h; exact opCO_ok r hd hop (by simpa [Op.opds] using h)
 ·rename_i as ts
  split at h
  ·rename_i t t' hts
   split at h
   ·rename_i htt
    subst htt
    rw[hop] at h
    have hts':ts = #[t,t]:=by rw[← Array.toArray_toList (xs:=ts),hts]
    simp only[Op.opds,List.nil_append] at h
    cases hl:as.toList with
    | nil=>rw[hl] at h; simp [opAppZ] at h
    | cons x rest=>cases rest with
     | nil=>rw[hl] at h; simp [opAppZ] at h
     | cons y rest=>cases rest with
      | nil =>
       rw[hl] at h
       refine opAppZ_ok (x:=x) (y:=y) (t:=t) r hd hop ?_ (by simpa using h) hc
       rw[hts',← Array.toArray_toList (xs:=as),hl]
      | cons z rest=>rw[hl] at h; simp [opAppZ] at h
   ·cases h
  ·cases h
 ·cases h
theorem opPutL_ok {e:Eff} {t:TypeId} {x y z:Operand} (r:RepG w0 χ0 T0 s a w G) (hd:∀ k,o.dst = some k → k < a.tmps.size) (ho:o.op = .mapUpdate t x y z) (h:opPutL P t [s.arg x,s.arg y,s.arg z] = some e) (hc:e.cond) :
  o.wp P a w (After w0 χ0 T0 a.tmps.size (s.app o.dst e)) Q:=nomatch h
theorem opClear_ok {e:Eff} {t:TypeId} {x:Operand} {c:Call} (r:RepG w0 χ0 T0 s a w G) (hd:∀ k,o.dst = some k → k < a.tmps.size) (ho:o.op = .call c) (hcc:c = { callee := .builtin .clear,args := #[x],argTypes := #[t] })
  (h:opClear P t [s.arg x] = some e) (hc:e.cond):o.wp P a w (After w0 χ0 T0 a.tmps.size (s.app o.dst e)) Q:=nomatch h
theorem own_cat {z k:Nat} {χ:Col} {e:TypeId} {w':World} {v':Value} {l m:List (List PV)} {xs news:List Value} (h1:oRow w' e z v' (l.length + m.length) (xs ++ news)) (hxl:xs.length = l.length * z)
  (hx:∀ (i:Nat) x,l[i]? = some x → GoRep.rd (α:=CZ z) (In χ 0) w' (chunk z i xs) x) (hn:∀ (i:Nat) x,m[i]? = some x → GoRep.rd (α:=CZ z) (In χ 0) w' (chunk z i news) x) (hcol:∀ g,v'.ownBlock = some g → χ g = k):Own (α:=CZ z) k χ e w' v' (l ++ m):=by
 refine⟨⟨xs ++ news,(by rw[List.length_append]; exact h1:oRow w' e z v' (List.length (α:=List PV) (l ++ m)) (xs ++ news)),fun j x hj=>?_⟩,hcol⟩
 have hj0:(l ++ m)[j]? = some (show List PV from x):=hj
 rcases Nat.lt_or_ge j l.length with hjl | hjl
 ·have hj':l[j]? = some (show List PV from x):=by rw[← List.getElem?_append_left (l₂:=m) hjl]; exact hj0
  have e1:chunk z j (xs ++ news) = chunk z j xs:=by
   unfold chunk
   have:j * z + z ≤ xs.length:=by
    rw[hxl,← Nat.succ_mul]; exact Nat.mul_le_mul_right _ hjl
   rw[List.drop_append_of_le_length (by omega),List.take_append_of_le_length (by rw[List.length_drop]; omega)]
  rw[show GoRep.sz (CZ z) = z from rfl,e1]; exact hx j _ hj'
 ·have hj':m[j - l.length]? = some (show List PV from x):=by rw[← List.getElem?_append_right (l₁:=l) hjl]; exact hj0
  have e1:chunk z j (xs ++ news) = chunk z (j - l.length) news:=by
   unfold chunk
   have:j * z = xs.length + (j - l.length) * z:=by
    rw[hxl,← Nat.add_mul]; congr 1; omega
   rw[this,List.drop_append,Nat.add_sub_cancel_left,List.drop_of_length_le (Nat.le_add_right _ _),List.nil_append]
  rw[show GoRep.sz (CZ z) = z from rfl,e1]
  exact hn _ _ hj'
theorem opAppT_ok {e:Eff} {t:TypeId} {x y:Operand} {c:Call} (r:RepG w0 χ0 T0 s a w G) (hd:∀ k,o.dst = some k → k < a.tmps.size) (ho:o.op = .call c) (hcc:c = { callee := .builtin .append,args := #[x,y],argTypes := #[t,t] })
  (h:opAppT P t o.dst (isFree s.hp o.dst) [s.arg x,s.arg y] = some e) (hc:e.cond):o.wp P a w (After w0 χ0 T0 a.tmps.size (s.app o.dst e)) Q:=by
 subst hcc
 have hx:=r.ev x
 unfold opAppT at h
 split at h
 ·rename_i l _ y' heq
  simp only[List.cons.injEq,and_true] at heq
  rw[(St.arg_eq heq.1).1] at hx
  split at h
  ·rename_i el z m d hel hm hdst
   split at h
   ·rename_i hfree
    simp only[Option.some.injEq] at h
    subst h
    obtain⟨c1,c2,c3,c4,c5⟩:=hc
    rw[hdst] at hfree
    have hf:s.hp d = none ∧ d < 1000000:=by simpa [isFree] using hfree
    have hsrc:=asList_src r heq.2 hm c5
    obtain⟨hrd,htight⟩:Rd (In G.χ 0) w (.sl l) (a.eval x) ∧ _:=LRd.val hx
    obtain⟨A,cp,xs,hv,n1,n2,n3,n4,n5⟩:=rd_src hrd (fun _ h=>h) c4
    have hcp:=htight _ _ _ hv
    subst hcp
    obtain⟨B,cb,news,hvy,m1,m2,m3,m4,m5⟩:=hsrc
    cases A with
    | none=>exact absurd (n4 rfl) c2
    | some ad =>
    cases B with
    | none=>exact absurd (m4 rfl) c3
    | some bd =>
    have hE:=tyElem_of hel
    obtain⟨i1,zv,hi1,hzv,hsz,hby,hzs⟩:=hE.ex
    have hml:0 < m.length:=List.length_pos_iff.2 c3
    have hr:=run_append_grow (P:=P) w t o.type el i1 zv hE.ty hi1 hzv ad l.length l.length xs (by rw[hsz]; exact n1) (n5 ad rfl) bd m.length cb news (by rw[hsz]; exact m1) (m5 bd rfl) (by omega) (by omega) (growslice_fits (by omega) (Nat.le_trans (Nat.mul_le_mul c1 hby) (by omega)))
    have hge:=grownCap_ge w (l.length + m.length) l.length el
    have hcm':grownCap w (l.length + m.length) l.length el ≤ maxLen:=grownCap_le_maxLen w (l.length + m.length) l.length el (by simp only[maxLen]; omega)
    generalize grownCap w (l.length + m.length) l.length el = q at hr hge hcm'
    let X:Obj := .cells (xs.toArray ++ news.toArray ++ Builtin.zeroCells zv.cells (q - (l.length + m.length))) el
    have hrun:(execOp a.eval o).run P w = .ok (.value (.slice (some ⟨w.heap.size,0,none⟩) (l.length + m.length) q)) (w.drew.alloc X):=by
     simp only[execOp,ho,resolve,invoke,builtin,Sem.run_bind,Sem.run_pure,Result.andThen_ok,List.map_toArray,List.map_cons,List.map_nil,hv,hvy,hr]
     rfl
    have hblk:∀ b,b < w.heap.size → (w.drew.alloc X).heap[b]? = w.heap[b]? := fun b hb=>heap_alloc_old w.drew X hb
    let hw:Value := .slice (some ⟨w.heap.size,0,none⟩) (l.length + m.length) q
    let G':=G.add d w.heap.size hw
    have hfr:∀ b,In G.χ 0 b → b < w.heap.size → In G'.χ 0 b ∧ (w.drew.alloc X).heap[b]? = w.heap[b]? := fun b hb hl=>⟨by
     show (if b = w.heap.size then d + 2 else G.χ b) = 0
     rw[if_neg (by omega)]; exact hb,hblk b hl⟩
    have hlen:(xs ++ news).length = (l.length + m.length) * z:=by rw[List.length_append,n1,m1,Nat.add_mul]
    have hnew:Own (α:=CZ z) (d + 2) G'.χ el (w.drew.alloc X) hw (l ++ m):=by
     refine own_cat (xs:=xs) (news:=news) ⟨hlen,.inr ⟨w.heap.size,q,_,0,rfl,Nat.zero_le _,.of (heap_alloc_new w.drew _),hge,hcm',?_,?_⟩⟩ n1 (fun i x hx=>GoRep.frame hfr (n3 i x hx)) (fun i x hx=>GoRep.frame hfr (m3 i x hx)) (fun g hg=>?_)
     ·have h9:(l.length + m.length) * z + (q - (l.length + m.length)) * z = q * z:=by rw[← Nat.add_mul]; congr 1; omega
      simp only[Array.size_append,List.size_toArray,size_zeroCells,hzs,n1,m1]
      rw[Nat.zero_add,← Nat.add_mul]
      exact Nat.le_of_eq h9.symm
     ·rw[List.drop_zero]
      simp only[Array.toList_append,List.append_assoc]
      rw[← List.append_assoc,← hlen]
      exact List.take_left
     ·simp [hw,Value.ownBlock] at hg
      subst hg
      show (if w.heap.size = w.heap.size then d + 2 else _) = d + 2
      rw[if_pos rfl]
    refine does_gh (T:=[]) (G':=G') (w':=w.drew.alloc X) r hd hrun ⟨hfr,fun i hi=>upd_ne _ _ (fun e=>hi.elim (fun hi=>hi (by rw[e]; exact hf.1)) fun hi=>by omega),fun i hi=>upd_ne _ _ (fun e=>hi.elim (fun hi=>hi (by rw[e]; exact hf.1)) fun hi=>by omega),updL_there _ _⟩
     ⟨rfl,rfl,rfl,by simp,fun b hl _=>if_neg (by omega),fun b hl _=>hblk b hl⟩ (by simp) (fun b hb=>?_) (fun i h hi=>?_) ⟨rfl,fun j hj=>?_,?_⟩
    ·have hb':w.heap.size + 1 ≤ b:=by simpa using hb
     show (if b = w.heap.size then d + 2 else G.χ b) = 0
     rw[if_neg (by omega)]; exact r.norm b (by omega)
    ·have hi:Lad.upd s.hp d (some (.arr el z (l ++ m))) i = some h:=hi
     by_cases hid:i = d
     ·subst hid
      rw[upd_same] at hi
      injection hi with hi
      subst hi
      refine .inr ⟨?_,fun b hb=>?_⟩
      ·show Own (α:=CZ z) (i + 2) _ el _ (Lad.upd G.hv i hw i) (l ++ m)
       rw[upd_same]; exact hnew
      ·change (Lad.upd G.hv i hw i).ownBlock = some b at hb
       rw[upd_same] at hb
       simp [hw,Value.ownBlock] at hb
       show b = Lad.upd G.bl i w.heap.size i
       rw[upd_same]; exact hb.symm
     ·rw[upd_ne _ _ hid] at hi
      exact .inl ⟨hi,by simp⟩
    ·simp [Leaf.ids] at hj
     subst hj
     show Lad.upd s.hp j _ j ≠ none
     rw[upd_same]; simp
    ·exact (upd_same G.hv d hw).symm
   ·cases h
  ·cases h
 ·cases h
theorem lit_rows:∀ (xs:List Operand) (cs:List Leaf),RepG w0 χ0 T0 s a w G → litRows (xs.map s.ev) = some cs → All2 (LRd G s.hp w) cs ((xs.map a.eval).flatMap fun v=>v.cells.toList) ∧ cs.length = xs.length ∧ ∀ v ∈ xs.map a.eval,v.cells.size = 1
 | [],cs,r,h=>by
  simp only[List.map_nil,litRows,Option.some.injEq] at h
  subst h
  exact⟨⟨rfl,by simp⟩,rfl,by simp⟩
 | x :: xs,cs,r,h=>by
  have hx:=r.ev x
  rw[List.map_cons] at h
  unfold litRows at h
  split at h
  ·rename_i heq; cases heq
  ·rename_i l rest heq
   simp only[List.cons.injEq] at heq
   obtain⟨e1,rfl⟩:=heq
   rw[e1] at hx
   split at h
   ·rename_i l' hl'
    simp only[Option.some.injEq] at h
    subst h
    obtain⟨i1,i2,i3⟩:=lit_rows xs l' r hl'
    have hc:All2 (LRd G s.hp w) [l] (a.eval x).cells.toList:=CRd.cells (show CRd G s.hp w (.v l) (a.eval x) from hx)
    have hsz:(a.eval x).cells.size = 1:=by have:=hc.1; simpa using this.symm
    refine⟨?_,by simp [i2],fun v hv=>?_⟩
    ·rw[List.map_cons,List.flatMap_cons]
     exact hc.append i1
    ·rw[List.map_cons] at hv
     rcases List.mem_cons.1 hv with rfl | hv
     ·exact hsz
     ·exact i3 v hv
   ·cases h
  ·cases h
theorem opBuildLit_ok {e:Eff} {t:TypeId} {n:Nat} {ps:Array (Nat × Operand)} (r:RepG w0 χ0 T0 s a w G) (hd:∀ k,o.dst = some k → k < a.tmps.size) (ho:o.op = .buildSlice t n ps)
  (h:opBuildLit P t n (ps.toList.map (·.1)) o.dst (isFree s.hp o.dst) ((ps.toList.map (·.2)).map s.ev) = some e):o.wp P a w (After w0 χ0 T0 a.tmps.size (s.app o.dst e)) Q:=by
 cases hdst:o.dst with
 | none=>simp [opBuildLit,hdst] at h
 | some d =>
 cases hel:tyElem P t with
 | none=>simp [opBuildLit,hel] at h
 | some ez =>
 obtain⟨el,z⟩:=ez
 simp only[opBuildLit,hdst,hel] at h
 split at h
 ·rename_i hc
  obtain⟨h1,h2,h3,rfl⟩:=hc
  split at h
  ·rename_i cs hl
   simp only[Option.some.injEq] at h
   subst h
   have hf':s.hp d = none ∧ d < 1000000:=by simpa [isFree] using h2
   obtain⟨hrd,hlen,hvz⟩:=lit_rows _ cs r hl
   have hE:=tyElem_of hel
   obtain⟨i,zv,hi,hz,hsz,hby,hzs⟩:=hE.ex
   have hn:cs.length = n:=by
    have:=congrArg List.length h1
    rw[hlen]; simpa using this
   have hrun:(execOp a.eval o).run P w = .ok (.value (.slice (some ⟨w.heap.size,0,none⟩) cs.length cs.length)) (w.alloc (.cells (((ps.toList.map (·.2)).map a.eval).flatMap fun v=>v.cells.toList).toArray el)):=by
    have hlv:((ps.toList.map (·.2)).map a.eval).length = n:=by rw[List.length_map,← hlen]; exact hn
    have e1:(ps.map fun (i,x)=>(i,a.eval x)).toList = (((ps.toList.map (·.2)).map a.eval).zipIdx 0).map fun x=>(x.2,x.1):=by
     rw[← zip_range,hlv,← h1,Array.toList_map,List.map_map,List.zip_map']; rfl
    rw[hn]
    generalize (ps.toList.map (·.2)).map a.eval = vs at *
    have hbs:(Instr.buildSlice t n (ps.map fun (i,x)=>(i,a.eval x))).run P w = .ok (.slice (some ⟨w.heap.size,0,none⟩) n n) (w.alloc (.cells (vs.flatMap fun v=>v.cells.toList).toArray el)):=by
     by_cases hn0:n = 0
     ·have hvs:vs = []:=List.eq_nil_of_length_eq_zero (by rw[hlv,hn0])
      subst hvs
      subst hn0
      have hps:ps = #[]:=by
       have:=congrArg List.length h1
       simpa using this
      subst hps
      simp [Instr.buildSlice,run_underlying hE.ty,sizeOf,typeInfo,hi,Instr.fill,newRow]
      rw[show Array.range 0 = #[] from Array.eq_empty_of_size_eq_zero (by simp)]
      rw[Array.map_empty]
     ·refine run_buildSlice w t el n _ _ i zv hE.ty hi hz ?_ ?_ ?_
      ·rw[hsz]; omega
      ·rw[hsz]; omega
      ·rw[e1,hsz]
       exact Great.fill_whole hE.pos vs _ hvz (by simp [hlv])
    simp only[execOp,ho,Sem.run_bind,hbs,Result.andThen_ok,Sem.run_pure]
   rw[← hdst]
   have hext:=Ext.new r.norm hf' (.cells (((ps.toList.map (·.2)).map a.eval).flatMap fun v=>v.cells.toList).toArray el) (.slice (some ⟨w.heap.size,0,none⟩) cs.length cs.length) (.lit el cs)
   refine does_new r hd hf' (.slice (some ⟨w.heap.size,0,none⟩) cs.length cs.length) hrun ⟨rfl,fun j hj=>?_,?_⟩ ⟨_,?_,?_,hrd.mono fun x v hx=>hx.ext hext,?_,by omega⟩
   ·simp [Leaf.ids] at hj; subst hj; rw[upd_same]; simp
   ·exact (upd_same G.hv d _).symm
   ·show Blk _ (Lad.upd G.bl d w.heap.size d) el _
    rw[upd_same]
    exact heap_alloc_new w _
   ·show (if Lad.upd G.bl d w.heap.size d = w.heap.size then d + 2 else _) = d + 2
    rw[upd_same,if_pos rfl]
   ·show Lad.upd G.hv d _ d = .slice (some ⟨Lad.upd G.bl d w.heap.size d,0,none⟩) _ _
    rw[upd_same,upd_same]
  ·cases h
 ·cases h
theorem opCap_ok {e:Eff} {t:TypeId} {x:Operand} {c:Call} (r:RepG w0 χ0 T0 s a w G) (hd:∀ k,o.dst = some k → k < a.tmps.size) (ho:o.op = .call c) (hcc:c = { callee := .builtin .cap,args := #[x],argTypes := #[t] })
  (h:opCap P t [s.ev x] = some e):o.wp P a w (After w0 χ0 T0 a.tmps.size (s.app o.dst e)) Q:=by
 subst hcc
 have hx:=r.ev x
 unfold opCap at h
 split at h
 ·rename_i heq
  simp only[List.cons.injEq,and_true] at heq
  rw[heq] at hx
  split at h
  ·rename_i el hu
   simp only[val,Option.some.injEq] at h
   subst h
   have hv:a.eval x = .slice none 0 0:=rd_nil hx
   exact does_val r hd (v := .int .i64 0) (by simp [execOp,ho,resolve,invoke,builtin,Builtin.cap_,run_underlying hu,hv,goInt]) (mk_int ⟨by show (-9223372036854775808:Int) ≤ 0; omega,by show (0:Int) ≤ 9223372036854775807; omega⟩)
  ·cases h
 ·cases h
theorem opAppI_ok {e:Eff} {t t':TypeId} {x y:Operand} {c:Call} (r:RepG w0 χ0 T0 s a w G) (hd:∀ k,o.dst = some k → k < a.tmps.size) (ho:o.op = .call c) (hcc:c = { callee := .builtin .append,args := #[x,y],argTypes := #[t,t'] })
  (h:opAppI P t t' o.dst (isFree s.hp o.dst) [s.arg x,s.arg y] = some e) (hc:e.cond):o.wp P a w (After w0 χ0 T0 a.tmps.size (s.app o.dst e)) Q:=by
 subst hcc
 have hx:=r.ev x
 have hy:=r.ev y
 unfold opAppI at h
 split at h
 ·rename_i _ kd n _ heq
  simp only[List.cons.injEq,and_true] at heq
  rw[(St.arg_eq heq.1).1] at hx
  rw[(St.arg_eq heq.2).1] at hy
  split at h
  ·rename_i k2 el z d hu hel hdst
   split at h
   ·rename_i agg ps hz0
    split at h
    ·rename_i hcc
     obtain⟨hfree,hlen⟩:=hcc
     simp only[Option.some.injEq] at h
     subst h
     obtain⟨c1,c3⟩:=hc
     rw[hdst] at hfree
     have hf:s.hp d = none ∧ d < 1000000:=by simpa [isFree] using hfree
     have hE:=tyElem_of hel
     obtain⟨i1,zv,hi1,hzv,hsz,hby,hzs⟩:=hE.ex
     obtain⟨hrz,hrow⟩:=run_zero hz0
     have hzv':zv = vfOf agg ps:=by
      have:=hrz default
      simp [zeroValue,typeInfo,hi1,hzv] at this
      exact this
     have hrd:RdL (In G.χ 0) w ps zv.cells.toList:=by
      have h1:=CRd.cells (rowCmp_rd (G:=G) (hp:=s.hp) (w:=w) hrow)
      rw[← hzv'] at h1
      unfold rowCmp at h1
      cases agg with
      | true=>exact rd_of_p h1
      | false =>
       have:=hrow.2 rfl
       cases ps with
       | nil=>simp at this
       | cons p r' =>
        cases r' with
        | nil=>exact rd_of_p (xs:=[p]) h1
        | cons _ _=>simp at this
     have hv:a.eval x = .slice none 0 0:=rd_nil hx
     have hvy:a.eval y = .int kd n:=(rd_int hy).1
     obtain⟨N,hN⟩:∃ N:Nat,n = N:=⟨n.toNat,by omega⟩
     subst hN
     have hzpos:0 < z:=hE.pos
     have hb2:N * i1.bytes ≤ 281474976710656:=Nat.le_trans (Nat.mul_le_mul (show N ≤ 2147483647 by omega) hby) (by decide)
     have hr:=Lib.run_append_nil_zeros (P:=P) w t t' o.type el i1 zv kd k2 hE.ty hu hi1 hzv N (by omega) (by omega) (by omega) hb2
     have hge:=grownCap_ge w N 0 el
     have hcm':grownCap w N 0 el ≤ maxLen:=grownCap_le_maxLen w N 0 el (by simp only[maxLen]; omega)
     generalize grownCap w N 0 el = q at hr hge hcm'
     let X:Obj := .cells (Builtin.zeroCells zv.cells N ++ Builtin.zeroCells zv.cells (q - N)) el
     have hrun:(execOp a.eval o).run P w = .ok (.value (.slice (some ⟨w.heap.size,0,none⟩) N q)) (w.drew.alloc X):=by
      simp only[execOp,ho,resolve,invoke,builtin,Sem.run_bind,Sem.run_pure,Result.andThen_ok,List.map_toArray,List.map_cons,List.map_nil,hv,hvy,hr]
      rfl
     have hblk:∀ b,b < w.heap.size → (w.drew.alloc X).heap[b]? = w.heap[b]? := fun b hb=>heap_alloc_old w.drew X hb
     let hw:Value := .slice (some ⟨w.heap.size,0,none⟩) N q
     let G':=G.add d w.heap.size hw
     have hfr:∀ b,In G.χ 0 b → b < w.heap.size → In G'.χ 0 b ∧ (w.drew.alloc X).heap[b]? = w.heap[b]? := fun b hb hl=>⟨by
      show (if b = w.heap.size then d + 2 else G.χ b) = 0
      rw[if_neg (by omega)]; exact hb,hblk b hl⟩
     have hzl:zv.cells.size = z:=hzs
     have hzc:Builtin.zeroCells zv.cells N = madeCells zv.cells (N * z):=by rw[← hzl]; rfl
     have hnl:(madeCells zv.cells (N * z)).toList.length = N * z:=by simp [madeCells]
     have hnew:Own (α:=CZ z) (d + 2) G'.χ el (w.drew.alloc X) hw ([] ++ List.replicate (N:Int).toNat ps):=by
      have hL:([]:List (List PV)).length + (List.replicate (N:Int).toNat ps).length = N:=by simp
      refine own_cat (l:=[]) (xs:=[]) (news:=(madeCells zv.cells (N * z)).toList) ⟨?_,.inr ⟨w.heap.size,q,_,0,?_,Nat.zero_le _,.of (heap_alloc_new w.drew _),?_,hcm',?_,?_⟩⟩ (by simp) (fun i x hx=>by simp at hx) (fun i x hx=>?_) (fun g hg=>?_)
      ·rw[hL,List.nil_append,hnl]
      ·rw[hL]
      ·rw[hL]; exact hge
      ·have h9:N * z + (q - N) * z = q * z:=by rw[← Nat.add_mul]; congr 1; omega
       simp only[Array.size_append,size_zeroCells,hzs]
       rw[Nat.zero_add]
       exact Nat.le_of_eq h9.symm
      ·rw[hL,List.drop_zero,Array.toList_append,hzc,List.nil_append]
       exact List.take_left' hnl
      ·have h1:=List.getElem?_eq_some_iff.1 hx
       obtain⟨h2,h3⟩:=h1
       simp at h2 h3
       subst h3
       have hch:chunk z i (madeCells zv.cells (N * z)).toList = zv.cells.toList:=by
        apply List.ext_getElem?
        intro j
        unfold chunk
        rw[List.getElem?_take]
        split
        ·rename_i hq
         rw[List.getElem?_drop,made_get zv.cells N z hzl (by omega) hq]
        ·rw[List.getElem?_eq_none (by simp; omega)]
       rw[hch]
       exact GoRep.frame (α:=CZ z) hfr (show GoRep.rd (α:=CZ z) (In G.χ 0) w zv.cells.toList ps from⟨by simpa using hzl,hrd⟩)
      ·simp [hw,Value.ownBlock] at hg
       subst hg
       show (if w.heap.size = w.heap.size then d + 2 else _) = d + 2
       rw[if_pos rfl]
     change Own (α:=CZ z) (d + 2) G'.χ el (w.drew.alloc X) hw (List.replicate (N:Int).toNat ps) at hnew
     refine does_gh (T:=[]) (G':=G') (w':=w.drew.alloc X) r hd hrun ⟨hfr,fun i hi=>upd_ne _ _ (fun e=>hi.elim (fun hi=>hi (by rw[e]; exact hf.1)) fun hi=>by omega),fun i hi=>upd_ne _ _ (fun e=>hi.elim (fun hi=>hi (by rw[e]; exact hf.1)) fun hi=>by omega),updL_there _ _⟩
      ⟨rfl,rfl,rfl,by simp,fun b hl _=>if_neg (by omega),fun b hl _=>hblk b hl⟩ (by simp) (fun b hb=>?_) (fun i h hi=>?_) ⟨rfl,fun j hj=>?_,?_⟩
     ·have hb':w.heap.size + 1 ≤ b:=by simpa using hb
      show (if b = w.heap.size then d + 2 else G.χ b) = 0
      rw[if_neg (by omega)]; exact r.norm b (by omega)
     ·have hi:Lad.upd s.hp d (some (.arr el z (List.replicate (N:Int).toNat ps))) i = some h:=hi
      by_cases hid:i = d
      ·subst hid
       rw[upd_same] at hi
       injection hi with hi
       subst hi
       refine .inr ⟨?_,fun b hb=>?_⟩
       ·show Own (α:=CZ z) (i + 2) _ el _ (Lad.upd G.hv i hw i) (List.replicate (N:Int).toNat ps)
        rw[upd_same]; exact hnew
       ·change (Lad.upd G.hv i hw i).ownBlock = some b at hb
        rw[upd_same] at hb
        simp [hw,Value.ownBlock] at hb
        show b = Lad.upd G.bl i w.heap.size i
        rw[upd_same]; exact hb.symm
      ·rw[upd_ne _ _ hid] at hi
       exact .inl ⟨hi,by simp⟩
     ·simp [Leaf.ids] at hj
      subst hj
      show Lad.upd s.hp j _ j ≠ none
      rw[upd_same]; simp
     ·exact (upd_same G.hv d hw).symm
    ·cases h
   ·cases h
  ·cases h
 ·cases h
theorem opV_ok {e:Eff} (r:RepG w0 χ0 T0 s a w G) (hd:∀ k,o.dst = some k → k < a.tmps.size) (h:opV P o.op o.dst (isFree s.hp o.dst) ((Op.opds o.op).map s.arg) = some e) (hc:e.cond):o.wp P a w (After w0 χ0 T0 a.tmps.size (s.app o.dst e)) Q:=by
 have hm:((Op.opds o.op).map s.arg).map (·.1) = (Op.opds o.op).map s.ev:=by rw[List.map_map]; rfl
 unfold opV at h
 rw[hm] at h
 split at h <;> rename_i hop
 ·rw[hop] at h; exact opIdxV_ok r hd hop (by simpa [Op.opds] using h) hc
 ·rw[hop] at h; exact opLookD_ok r hd hop (by simpa [Op.opds] using h)
 ·rw[hop] at h; exact opPutL_ok r hd hop (by simpa [Op.opds] using h) hc
 ·rename_i as ts
  split at h
  ·rename_i t hts
   rw[hop] at h
   have hts':ts = #[t]:=by rw[← Array.toArray_toList (xs:=ts),hts]
   simp only[Op.opds,List.nil_append] at h
   cases hl:as.toList with
   | nil=>rw[hl] at h; simp [opClear] at h
   | cons x rest=>cases rest with
    | nil =>
     rw[hl] at h
     refine opClear_ok (x:=x) (t:=t) r hd hop ?_ (by simpa using h) hc
     rw[hts',← Array.toArray_toList (xs:=as),hl]
    | cons y rest=>rw[hl] at h; simp [opClear] at h
  ·cases h
 ·rw[hop] at h; exact opMapEntry_ok r hd hop (by simpa [Op.opds] using h)
 ·rw[hop] at h; exact opEntryStore_ok r hd hop (by simpa [Op.opds] using h) hc
 ·rename_i as ts
  split at h
  ·rename_i t u hts
   rw[hop] at h
   have hts':ts = #[t,u]:=by rw[← Array.toArray_toList (xs:=ts),hts]
   simp only[Op.opds,List.nil_append] at h
   cases hl:as.toList with
   | nil=>rw[hl] at h; simp [opCopy] at h
   | cons x rest=>cases rest with
    | nil=>rw[hl] at h; simp [opCopy] at h
    | cons y rest=>cases rest with
     | nil =>
      rw[hl] at h
      refine opCopy_ok (x:=x) (y:=y) (t:=t) (u:=u) r hd hop ?_ (by simpa using h) hc
      rw[hts',← Array.toArray_toList (xs:=as),hl]
     | cons z rest=>rw[hl] at h; simp [opCopy] at h
  ·cases h
 ·rename_i as ts
  split at h
  ·rename_i t t' hts
   have hts':ts = #[t,t']:=by rw[← Array.toArray_toList (xs:=ts),hts]
   rw[hop] at h
   simp only[Op.opds,List.nil_append] at h
   cases hl:as.toList with
   | nil=>rw[hl] at h; simp [opAppT,opAppI] at h
   | cons x rest=>cases rest with
    | nil=>rw[hl] at h; simp [opAppT,opAppI] at h
    | cons y rest=>cases rest with
     | nil =>
      rw[hl] at h
      have has:as = #[x,y]:=by rw[← Array.toArray_toList (xs:=as),hl]
      split at h
      ·rename_i htt
       subst htt
       exact opAppT_ok (x:=x) (y:=y) (t:=t) r hd hop (by rw[hts',has]) (by simpa using h) hc
      ·exact opAppI_ok (x:=x) (y:=y) (t:=t) (t':=t') r hd hop (by rw[hts',has]) (by simpa using h) hc
     | cons z rest=>rw[hl] at h; simp [opAppT,opAppI] at h
  ·cases h
 ·rename_i as ts
  split at h
  ·rename_i t hts
   rw[hop] at h
   have hts':ts = #[t]:=by rw[← Array.toArray_toList (xs:=ts),hts]
   simp only[Op.opds,List.nil_append] at h
   cases hl:as.toList with
   | nil=>rw[hl] at h; simp [opCap] at h
   | cons x rest=>cases rest with
    | nil =>
     rw[hl] at h
     refine opCap_ok (x:=x) (t:=t) r hd hop ?_ (by simpa using h)
     rw[hts',← Array.toArray_toList (xs:=as),hl]
    | cons y rest=>rw[hl] at h; simp [opCap] at h
  ·cases h
 ·rw[hop] at h; exact opBuildLit_ok r hd hop (by simpa [Op.opds,List.map_map,Function.comp_def] using h)
 ·cases h
theorem opY_ok {e:Eff} (r:RepG w0 χ0 T0 s a w G) (hd:∀ k,o.dst = some k → k < a.tmps.size) (h:opY P o.op o.dst (isFree s.hp o.dst) ((Op.opds o.op).map s.arg) = some e) (hc:e.cond):o.wp P a w (After w0 χ0 T0 a.tmps.size (s.app o.dst e)) Q:=by
 unfold opY at h
 split at h <;> rename_i hop <;> first | exact opV_ok r hd (by rw[hop]; rw[hop] at h; exact h) hc | exact opY0_ok r hd h hc
end
end Go.Lad
