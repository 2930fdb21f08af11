import Derived.Test.YtkpefpjpadahiaaGreatDoorAb14r
namespace Go.Lad
set_option linter.unusedVariables false
set_option linter.unusedSimpArgs false
open Go.RowKit
def OM (B:St->(AEx->St->Prop)->Prop) (s:St) (Q:AEx->St->Prop):Prop :=
 ∃ (α:Type) (tms:α->List (Nat×Slot)) (hps:α->List (Nat×df)) (μ:α->Nat),(∃ x σ,Sub σ s (tms x) (hps x)) /\
  ∀ x,B (qH (tms x) (hps x)) fun e s'=>match e with
   | .normal=>∃ y σ,Sub σ s' (tms y) (hps y)/\μ y<μ x
   | e=>Q e s'
def H9 (K:St->Prop) (s:St):Prop:=K s\/∃ tms hps σ,Sub σ s tms hps/\K (qH tms hps)
def pj:Code->Nat
 | .region id _ _=>id
 | .seq a _=>pj a
 | .block _ b=>pj b
 | .loop b=>pj b
 | .scope b=>pj b
 | _=>1000000
def mF (js:List Nat) (b:Code) (K:St->Prop) (s:St):Prop:=if js.contains (pj b) then H9 K s else K s
def Ej (K:St->Prop) (Q:AEx->St->Prop):AEx->St->Prop
 | .normal,s=>K s
 | e,s=>Q e s
def Ia (id:Nat) (Q:AEx->St->Prop):AEx->St->Prop
 | .exit i,s=>if i=id then Q .normal s else Q (.exit i) s
 | e,s=>Q e s
def Ek (x:Slot) (A B:Prop):Prop :=
 match x with
 | .c (.v (.p (.bool t)))=>(t=true->A)/\(t=false->B)
 | .c (.v (.nb p l))=>if p then (l=[]->A)/\B else A/\(l=[]->B)
 | _=>False
structure P4 (w0:World) (χ0:Col) (T0:Ctx) (s:St) (a:Act) (l:Nat) (r:Loop) (G:Gh) (W:World):Prop where
 rep:cI w0 χ0 T0 s a W G
 P7:W.heap[l]?=some (.loop r)
 col:G.χ l=1
def KP (P:Program) (gf:FuncId) (xs:List (List Cmp)) (cs:Nat->List df):Prop :=
 False
def Ib (P:Program) (A B:St->(AEx->St->Prop)->Prop) (g:Operand) (ps:List Nat) (ts:List Nat) (s:St) (Q:AEx->St->Prop):Prop :=
 False
def nodupB:List Nat->Bool
 | []=>true
 | x::r=>!r.contains x && nodupB r
theorem vH:∀ l:List Nat,nodupB l=true->l.Nodup
 | [],_=>List.nodup_nil
 | x::r,h=>by
  unfold nodupB at h;rw[Bool.and_eq_true] at h;exact List.nodup_cons.2 ⟨fun hm=>(by have:=h.1; rw[List.contains_iff_mem.2 hm] at this; cases this),vH r h.2⟩
def hJ (Γ:Opt) (n:Nat):Code->Bool
 | .region _ ops draw=>ops.toList.all (fun o=>match o.dst with | some d=>decide (d<n) && decide (d<10000) | none=>true) && (!draw || vF Γ ops.toList)
 | .seq a b=>hJ Γ n a && hJ Γ n b
 | .cond _ a b=>hJ Γ n a && hJ Γ n b
 | .block _ b=>hJ Γ n b
 | .loop b=>hJ Γ n b
 | .scope b=>hJ Γ n b
 | .rangeFunc _ ps a b=>hJ Γ n a && hJ Γ n b && kN a && kN b && ps.toList.all (fun p=>decide (p<n)) && nodupB ps.toList
 | _=>true
def MM (P:Program) (Γ:Opt) (c:Code) (s s':St):Prop :=
 ∀ (w0:World) (χ0:Col) (T0:Ctx) (n:Nat) (a:Act) (w:World),P.follows .mixedOrders=true->(∀ b,χ0 b<=1)->T0.lo<=w0.heap.size->hJ Γ n c=true->Γ.nt=n->bG w0 χ0 T0 n s a w->c.wp P (fun e a' w'=>e = .normal/\bG w0 χ0 T0 n s' a' w') a w
def ij (P:Program) (Γ:Opt):Code->St->(AEx->St->Prop)->Prop
 | .skip,s,Q=>Q .normal s
 | .region _ ops _,s,Q=>od P Γ ops.toList ops.toList s (fun s'=>Q .normal s')
 | .seq a b,s,Q=>ij P Γ a s (Ej (mF Γ.js b fun s'=>ij P Γ b s' Q) Q)\/(kN (.seq a b)=false/\∃ s',MM P Γ (.seq a b) s s'/\Q .normal s')
 | .cond c a b,s,Q=>Ek (s.ev c) (ij P Γ a s Q) (ij P Γ b s Q)
 | .block id b,s,Q=>ij P Γ b s (Ia id Q)
 | .loop b,s,Q=>OM (ij P Γ b) s Q
 | .exit id,s,Q=>Q (.exit id) s
 | .ret,s,Q=>Q .ret s
 | .scope b,s,Q=>ij P Γ b s Q
 | .rangeFunc g ps a b,s,Q=>Ib P (ij P Γ a) (ij P Γ b) g ps.toList (ps.toList++y4 a++y4 b) s Q
 | _,_,_=>False
section
variable {P:Program} {Γ:Opt} {s:St} {w0:World} {χ0:Col} {T0:Ctx} {n:Nat} {a:Act} {w:World}
def Ic (w0:World) (χ0:Col) (T0:Ctx) (n:Nat) (Q:AEx->St->Prop):Exit->Act->World->Prop
 | .normal,a,w=>∃ s,Q .normal s/\bG w0 χ0 T0 n s a w
 | .exit i,a,w=>∃ s,Q (.exit i) s/\bG w0 χ0 T0 n s a w
 | .ret,a,w=>∃ s,Q .ret s/\bG w0 χ0 T0 n s a w
 | _,_,_=>False
theorem oQ.mono {ts ts':List Nat} {a b:Act} (h:oQ ts a b) (hs:∀ t∈ts,t∈ts'):oQ ts' a b:=fun t ht=>h t fun h2=>ht (hs t h2)
theorem oQ.trans {ts:List Nat} {a b c:Act} (h:oQ ts a b) (h2:oQ ts b c):oQ ts a c:=fun t ht=>(h2 t ht).trans (h t ht)
theorem nr.put {lo:Nat} {χ:Col} {ds:List Deferred} {l:Nat} {r:Loop} {o:Obj} (h:nr lo χ w ds) (hl:w.heap[l]?=some (.loop r)):nr lo χ (w.putObj l o) ds:=⟨h.1,fun d hd=>by
 obtain⟨D,h1,h2,h3,h4,h5⟩:=h.2 d hd;have hne:D≠l:=by rintro rfl; rw[h5] at hl; cases hl
 exact⟨D,h1,h2,by simpa using h3,h4,(World.putObj_heap_other hne).trans h5⟩⟩
theorem nr.ne {lo:Nat} {χ:Col} {ds:List Deferred} {l:Nat} {r:Loop} (h:nr lo χ w ds) (hl:w.heap[l]?=some (.loop r)):∀ d∈ds,d ≠ { target := .collected l,args := #[] }:=by
 rintro d hd rfl;obtain⟨D,h1,h2,h3,h4,h5⟩:=h.2 _ hd;injection h1 with h1
 injection h1 with h1
 subst h1;rw[h5] at hl; cases hl
theorem F4 {g:Operand} {ps:Array Tmp} {A B:Code} {Q:AEx->St->Prop} (hχ:∀ b,χ0 b<=1) (hlo:T0.lo<=w0.heap.size) (hkA:hJ Γ n A=true) (hkB:hJ Γ n B=true) (hrA:kN A=true) (hrB:kN B=true) (hps:∀ p∈ps.toList,p<n) (hnd:ps.toList.Nodup)
  (h:Ib P (ij P Γ A) (ij P Γ B) g ps.toList (ps.toList++y4 A++y4 B) s Q) (ha:bG w0 χ0 T0 n s a w):(Code.rangeFunc g ps A B).wp P (Ic w0 χ0 T0 n Q) a w:=h.elim
theorem jS (hnt:Γ.nt=n) (hm:P.follows .mixedOrders=true) (hχ:∀ b,χ0 b<=1) (hlo:T0.lo<=w0.heap.size):∀ (c:Code) (s:St) (Q:AEx->St->Prop) (a:Act) (w:World),hJ Γ n c=true->ij P Γ c s Q->bG w0 χ0 T0 n s a w->c.wp P (Ic w0 χ0 T0 n Q) a w
 | .skip,s,Q,a,w,_,h,ha=>wp_skip ⟨s,h,ha⟩
 | .region id ops draw,s,Q,a,w,hk,h,ha=>by
  unfold hJ at hk;rw[Bool.and_eq_true] at hk;have hdst:∀ o∈ops.toList,∀ k:Nat,o.dst=some k->k<n/\k<10000:=fun o ho k hd=>by
   have:=List.all_eq_true.1 hk.1 o ho;rw[hd] at this
   simpa using this
  have:=F3 (ops:=ops.toList) (id:=id) (draw:=draw) (Q:=Ic w0 χ0 T0 n Q) hχ hm (fun o ho k hd=>(hdst o ho k hd).1) (fun o ho k hd=>(hdst o ho k hd).2) (K:=fun s'=>Q .normal s') (fun s a w h ha=>⟨s,h,ha⟩) ha
   (fun hd=>by have h2:=hk.2; rw[hd] at h2; simpa using h2) h
  simpa using this
 | .seq x y,s,Q,a,w,hk,h,ha=>by
  rcases h with h | ⟨_,s',h,hQ⟩
  case inr=>exact wp_mono (h w0 χ0 T0 n a w hm hχ hlo hk hnt ha) fun e a' w' hq=>by obtain⟨rfl,hq⟩:=hq; exact⟨s',hQ,hq⟩
  unfold hJ at hk;rw[Bool.and_eq_true] at hk;refine wp_seq (wp_mono (jS hnt hm hχ hlo x s _ a w hk.1 h ha) fun e a' w' hq=>?_);cases e with
  | normal =>
   obtain⟨s',h1,h2⟩:=hq;have h1:H9 (fun s'=>ij P Γ y s' Q) s':=by
    have h1:(if Γ.js.contains (pj y) then H9 (fun s'=>ij P Γ y s' Q) s' else ij P Γ y s' Q):=h1;split at h1
    ·exact h1
    ·exact .inl h1
   rcases h1 with h1 | ⟨tms,hps,σ,h1,h3⟩
   ·exact jS hnt hm hχ hlo y s' Q a' w' hk.2 h1 h2
   ·exact jS hnt hm hχ hlo y _ Q a' w' hk.2 h3 (yO hχ h1 h2)
  | exit i=>exact hq
  | ret=>exact hq
  | goto l=>exact hq
  | panic c=>exact hq
  | outgrown=>exact hq
 | .cond c x y,s,Q,a,w,hk,h,ha=>by
  unfold hJ at hk;rw[Bool.and_eq_true] at hk;unfold ij at h;obtain⟨hn,G,r⟩:=ha;have hv:=r.ev c;unfold Ek at h;split at h
  ·rename_i t hs;rw[hs] at hv;exact wp_cond_split (kI hv) (fun ht=>jS hnt hm hχ hlo x s Q a w hk.1 (h.1 ht) ⟨hn,G,r⟩) (fun ht=>jS hnt hm hχ hlo y s Q a w hk.2 (h.2 ht) ⟨hn,G,r⟩)
  ·rename_i p l hs;rw[hs] at hv;obtain⟨b,hb,hl⟩:=LRd.val hv;cases p with
   | true =>
    simp only[if_true] at h;exact wp_cond_split hb (fun ht=>jS hnt hm hχ hlo x s Q a w hk.1 (h.1 (hl ht)) ⟨hn,G,r⟩) (fun ht=>jS hnt hm hχ hlo y s Q a w hk.2 h.2 ⟨hn,G,r⟩)
   | false =>
    simp only[Bool.false_eq_true,if_false] at h;exact wp_cond_split hb (fun ht=>jS hnt hm hχ hlo x s Q a w hk.1 h.1 ⟨hn,G,r⟩) (fun ht=>jS hnt hm hχ hlo y s Q a w hk.2 (h.2 (hl ht)) ⟨hn,G,r⟩)
  ·exact h.elim
 | .block id b,s,Q,a,w,hk,h,ha=>by
  unfold hJ at hk;refine wp_block (wp_mono (jS hnt hm hχ hlo b s _ a w hk h ha) fun e a' w' hq=>?_);cases e with
  | normal=>exact hq
  | exit i =>
   obtain⟨s',h1,h2⟩:=hq;have h1:(if i=id then Q .normal s' else Q (.exit i) s'):=h1;simp only[Exit.inBlock];split
   ·rename_i hi; rw[if_pos hi] at h1; exact⟨s',h1,h2⟩
   ·rename_i hi; rw[if_neg hi] at h1; exact⟨s',h1,h2⟩
  | ret=>exact hq
  | goto l=>exact hq
  | panic c=>exact hq
  | outgrown=>exact hq
 | .loop b,s,Q,a,w,hk,h,ha=>by
  unfold hJ at hk;obtain⟨α,tms,hps,μ,⟨x,σ,hx⟩,hround⟩:=h;refine wp_loop_ghost (fun k a w=>∃ x,μ x=k/\bG w0 χ0 T0 n (qH (tms x) (hps x)) a w) (μ x) ⟨x,rfl,yO hχ hx ha⟩ ?_;rintro k a w ⟨x,rfl,hax⟩;refine wp_mono (jS hnt hm hχ hlo b _ _ a w hk (hround x) hax) fun e a' w' hq=>?_;cases e with
  | normal =>
   obtain⟨s',⟨y,σ',h1,h2⟩,h3⟩:=hq;exact⟨μ y,h2,y,rfl,yO hχ h1 h3⟩
  | exit i=>exact hq
  | ret=>exact hq
  | goto l=>exact hq
  | panic c=>exact hq
  | outgrown=>exact hq
 | .exit id,s,Q,a,w,_,h,ha=>wp_exit ⟨s,h,ha⟩
 | .ret,s,Q,a,w,_,h,ha=>wp_ret ⟨s,h,ha⟩
 | .scope b,s,Q,a,w,hk,h,ha=>by
  unfold hJ at hk;refine wp_scope_straight (wp_mono (jS hnt hm hχ hlo b s Q a w hk h ha) fun e a' w' hq=>?_);cases e <;> exact hq
 | .rangeFunc g ps x y,s,Q,a,w,hk,h,ha=>by
  unfold hJ at hk;simp only[Bool.and_eq_true,List.all_eq_true,decide_eq_true_eq] at hk;obtain⟨⟨⟨⟨⟨h1,h2⟩,h3⟩,h4⟩,h5⟩,h6⟩:=hk;exact F4 hχ hlo h1 h2 h3 h4 h5 (vH _ h6) h ha
 | .label _,_,_,_,_,_,h,_=>h.elim
 | .goto _,_,_,_,_,_,h,_=>h.elim
 | .refuse _,_,_,_,_,_,h,_=>h.elim
end
def sJ (P:Program) (s:St):ResultVar->Option Cmp
 | .tmp t=>match s.tm t with | .c c=>some c | _=>none
 | .cell t ty=>match s.tm t with
  | .c (.v (.loc o off))=>match s.hp o,gK P ty with
   | some (.box _ cs),some n=>nU cs off n (fW P ty)
   | _,_=>none
  | _=>none
def oo (P:Program) (s:St):List ResultVar->Option (List Cmp)
 | []=>some []
 | r::rs=>match sJ P s r,oo P s rs with | some c,some l=>some (c::l) | _,_=>none
def C2:Rz->List (Nat×Slot)
 | .one c=>[(0,.c c)]
 | .tup l=>l.zipIdx.map fun x=>(x.2,.c x.1)
def AO (cs:List Cmp) (hp:Hp):St:={ tm:=fun i=>match cs[i]? with | some c=>.c c | none=>.dead,hp:=hp }
def Ie (P:Program) (rs:List ResultVar) (s:St) (res:Rz) (kb:List (Nat×df)):Prop :=
 match oo P s rs with
 | none=>False
 | some cs=>(match res with | .one _=>True | .tup l=>l.length≠1)/\cs.length=res.eH.length/\∃ σ,Sub σ (AO cs s.hp) (C2 res) kb
section
variable {P:Program} {Γ:Opt} {s:St} {w0:World} {χ0:Col} {T0:Ctx} {n:Nat} {a:Act} {w:World} {G:Gh}
def xS (tmps:Array Value):ResultVar->Sem Value
 | .tmp t=>pure (tmps.getD t undef)
 | .cell a t=>do loadVar t (← asAddr (tmps.getD a undef))
def oneOf:List Value->Value
 | [v]=>v
 | vs=>.tuple vs.toArray
theorem AP {vs:List Value} {fn:Func} (tmps:Array Value) (h:(fn.results.toList.mapM (xS tmps)).run P w = .ok vs w):(results fn tmps).run P w = .ok (oneOf vs) w:=by
 have e:results fn tmps=(do let vs ← fn.results.mapM (xS tmps); pure (if h:vs.size=1 then vs[0] else .tuple vs)):=rfl;have e2:(fn.results.mapM (xS tmps)).run P w = .ok vs.toArray w:=by
  rw[show fn.results=fn.results.toList.toArray from (Array.toArray_toList).symm,List.mapM_toArray,Sem.run_map,h];rfl
 rw[e,Sem.run_bind,e2];simp only[Result.andThen_ok,Sem.run_pure];cases vs with
 | nil=>rfl
 | cons v vs=>cases vs <;> rfl
theorem F5 {rv:ResultVar} {c:Cmp} (r:cI w0 χ0 T0 s a w G) (h:sJ P s rv=some c):∃ v,CRd G s.hp w c v/\(xS a.tmps rv).run P w = .ok v w:=by
 cases rv with
 | tmp t =>
  have hv:=r.tms t;simp only[sJ] at h;split at h
  ·rename_i c' hs;injection h with h
   subst h;rw[hs] at hv;exact⟨_,hv,rfl⟩
  ·cases h
 | cell t ty =>
  have hv:=r.tms t;simp only[sJ] at h;split at h
  ·rename_i o off hs;rw[hs] at hv;split at h
   ·rename_i bt cs k ho hn;obtain⟨vs,hb,_,hall⟩:=r.iA o _ ho;obtain⟨v,g1,g2⟩:=pL (b:=G.bl o) (o2:=0) h hall hn (uP hn) (fun j v hj=>by rw[hb.cell]; simpa using hj);have hp:a.tmps.getD t undef=ptr (G.bl o) off:=LRd.val hv;refine⟨v,g1,?_⟩;rw[Nat.zero_add] at g2
    simpa [xS,hp,ptr,asAddr,Instr.loadAt,Instr.sureAddr] using g2
   ·cases h
  ·cases h
theorem vI (r:cI w0 χ0 T0 s a w G):∀ (rs:List ResultVar) (cs:List Cmp),oo P s rs=some cs->∃ vs:List Value,eu (CRd G s.hp w) cs vs /\
  (rs.mapM (xS a.tmps)).run P w = .ok vs w
 | [],cs,h=>by
  simp [oo] at h;subst h;exact⟨[],⟨rfl,by simp⟩,by simp⟩
 | x::rs,cs,h=>by
  unfold oo at h;split at h
  ·rename_i c l h1 h2;injection h with h
   subst h;obtain⟨v,g1,g2⟩:=F5 r h1;obtain⟨vs,g3,g4⟩:=vI r rs l h2;refine⟨v::vs,⟨by simp [g3.1],fun i a b ha hb=>?_⟩,?_⟩
   ·cases i with
    | zero=>simp at ha hb; subst ha hb; exact g1
    | succ i=>exact g3.2 i a b (by simpa using ha) (by simpa using hb)
   ·rw[List.mapM_cons];simp only[Sem.run_bind,g2,Result.andThen_ok,g4,Sem.run_pure]
  ·cases h
def PF (P:Program) (rs:List ResultVar) (res:Rz) (kb:List (Nat×df)):AEx->St->Prop
 | .exit _,_=>False
 | _,s=>Ie P rs s res kb
def oq:Nat->List Slot->List (Nat×Slot)
 | _,[]=>[]
 | i,x::r=>(i,x)::oq (i+1) r
def st0 (S:nw):St:=qH (oq 0 S.args) S.hps
theorem tJ:∀ (args:List Slot) (i t:Nat),aq (oq i args) t=if i<=t then args[t-i]? else none
 | [],i,t=>by simp [oq,aq]
 | x::r,i,t=>by
  simp only[oq,aq];by_cases h:t=i
  ·subst h; simp
  ·rw[if_neg h,tJ r (i+1) t];by_cases h2:i<=t
   ·rw[if_pos (by omega),if_pos h2];have:t-i=(t-(i+1))+1:=by omega
    rw[this,List.getElem?_cons_succ]
   ·rw[if_neg (by omega),if_neg h2]
theorem C3 {res:Rz} {i:Nat} {c:Cmp} (h:res.eH[i]?=some c):(i,Slot.c c)∈C2 res:=by
 cases res with
 | one c' =>
  cases i with
  | zero=>simp [Rz.eH] at h; subst h; simp [C2]
  | succ i=>simp [Rz.eH] at h
 | tup l=>exact List.mem_map.2 ⟨(c,i),List.mem_zipIdx_iff_getElem?.2 h,rfl⟩
theorem rB {fn:Func} {R:Ending->World->Prop} {tmps:Array Value} {m:Nat} (hlo:w0.heap.size<=T0.lo) (hR:∀ w',cI w0 χ0 T0 s { tmps:=tmps,defers:=[] } w' G->∃ v,(results fn tmps).run P w' = .ok v w'/\R (.returned v) w') :
  ∀ (ds:List Deferred) (w':World),cI w0 χ0 T0 s { tmps:=tmps,defers:=ds } w' G->LeavesInM Fence.wide m P fn tmps R ds .returning w'
 | [],w',r=>hR w' r
 | d::ds,w',r=>by
  obtain⟨D,rfl,h2,h3,h4,h5⟩:=r.defers.2 d List.mem_cons_self;have hn:=List.nodup_cons.1 r.defers.1;have r':cI w0 χ0 T0 s { tmps:=tmps,defers:=ds } w' G:=⟨r.os,r.tape,r.output,r.size,r.old,r.col,r.own,r.pin,r.norm,⟨hn.2,fun d hd=>r.defers.2 d (List.mem_cons_of_mem _ hd)⟩,r.tms,r.iA,r.Cw⟩;exact⟨by simp,.inl ⟨D,_,rfl,run_takeDeferred h5,rB hlo hR ds _ (r'.PE (Nat.le_trans hlo h2) h4 fun d hd e=>hn.1 (e ▸ hd))⟩⟩
theorem xh {f:FuncId} {fn:Func} {c:Code} {S:nw} (hnt:Γ.nt=fn.ntmps) (hm:P.follows .mixedOrders=true) (hf:P.funcs[f]?=some fn) (hb:fn.body=some c) (hk:hJ Γ fn.ntmps c=true) (hn:S.args.length<=fn.ntmps)
  (h:ij P Γ c (st0 S) (PF P fn.results.toList S.res S.kb)):gP P f S:=by
 intro w G0 vs hnorm hglob hargs hobjs;refine (callsIn_wide (n:=0)).1 (callsIn_of_wp_marks hf hb trivial (wpIn_wide.2 ?_));have hlen:vs.length=S.args.length:=hargs.1.symm
 let χ0:Col:=fun b=>if G0.χ b<=1 then G0.χ b else 0
 let T0:Ctx:=⟨fun b=>2<=G0.χ b,G0.bl,G0.hv,w.heap.size⟩
 have hχ:∀ b,χ0 b<=1:=fun b=>by
  show (if G0.χ b<=1 then G0.χ b else 0)<=1;split <;> omega
 have hrep:bG w χ0 T0 fn.ntmps (st0 S) { tmps:=vs.toArray++Array.replicate (fn.ntmps-vs.toArray.size) undef,defers:=[] } w:=by
  refine⟨by simp; omega,G0,rfl,rfl,rfl,Nat.le_refl _,fun _ _ _=>rfl,fun b _ hT=>?_,fun b hb=>.inl hb,fun o _=>⟨rfl,rfl⟩,hnorm,nr.nil,fun t=>?_,hobjs,fun g h=>?_,fun g h h2=>?_⟩
  ·have hT:¬ 2<=G0.χ b:=hT;exact (if_pos (by omega)).symm
  ·show SRd G0 _ w ((aq (oq 0 S.args) t).getD .dead) _;rw[tJ,if_pos (Nat.zero_le _),Nat.sub_zero];cases ht:S.args[t]? with
   | none=>trivial
   | some x =>
    obtain⟨v,hv,hr⟩:=hargs.get ht;have hlt:t<vs.length:=(List.getElem?_eq_some_iff.1 hv).1;have e:(vs.toArray++Array.replicate (fn.ntmps-vs.toArray.size) undef).getD t undef=v:=by
     rw[Array.getD_eq_getD_getElem?,Array.getElem?_append_left (by simpa using hlt)];simp [hv]
    rw[e]; exact hr
  ·obtain⟨h1,h2⟩:=hglob g h;exact⟨(if_pos (by omega)).trans h1,h2⟩
  ·have h2:2<=G0.χ g:=h2;have:=(hglob g h).1;omega
 have hwp:=jS hnt hm hχ (Nat.le_refl _) c (st0 S) _ _ w hk h hrep;have fin:∀ (s:St) (a:Act) (w':World),Ie P fn.results.toList s S.res S.kb->bG w χ0 T0 fn.ntmps s a w' ->
   LeavesInM Fence.wide 0 P fn a.tmps (fun e w'=>∃ (G':Gh) (v':Value) (us:List Value),e = .returned v'/\S.res.val v' us/\w'.os=w.os/\w'.tape=w.tape/\w'.output=w.output/\w.heap.size<=w'.heap.size /\
   (∀ b,b<w.heap.size->G0.χ b<=1->w'.heap[b]?=w.heap[b]?/\G'.χ b=G0.χ b)/\(∀ b,2<=G'.χ b->2<=G0.χ b\/w.heap.size<=b)/\(∀ o,1000000<=o->G'.bl o=G0.bl o/\G'.hv o=G0.hv o)/\Norm G'.χ w' /\
   eu (CRd G' (hpL S.kb) w') S.res.eH us/\(∀ o h,hpL S.kb o=some h->HRd G' (hpL S.kb) w' o h)) a.defers .returning w':=by
  intro s a w' hret ⟨_,G',r⟩;refine rB (Nat.le_refl _) (fun w' r=>?_) a.defers w' r;unfold Ie at hret;split at hret
  ·exact hret.elim
  ·rename_i cs hcs;obtain⟨hsh,hcl,σ,⟨⟨hσ,hv0,hp0,hpins⟩,ht,hh⟩⟩:=hret;obtain⟨us,hus,hrun⟩:=vI r _ _ hcs;have hobj':∀ o h,(AO cs s.hp).hp o=some h->HRd G' (AO cs s.hp).hp w' o h:=r.iA;have key:∀ o2,1000000<=o2->∀ o,aq (σ.m.map fun x=>(x.2,x.1)) o2=some o->o=o2:=fun o2 ho2 o hl=>by
    obtain⟨x,hx,he⟩:=List.mem_map.1 (dD hl);injection he with e1 e2
    have:=fv hpins x hx (by omega);omega
   refine⟨_,AP a.tmps hrun,eB σ G',_,us,rfl,?_,r.os,r.tape,r.output,r.size,fun b hb h1=>?_,fun b hb=>?_,fun o ho=>?_,fun b hb=>jj (r.norm b hb),?_,fun o h ho=>?_⟩
   ·cases hrs:S.res with
    | one c' =>
     rw[hrs] at hcl;have:us.length=1:=by rw[← hus.1,hcl]; rfl
     cases us with
     | nil=>simp at this
     | cons u us=>cases us with
      | nil=>rfl
      | cons _ _=>simp at this
    | tup l =>
     rw[hrs] at hsh hcl;have hl:us.length≠1:=by rw[← hus.1,hcl]; exact hsh
     cases us with
     | nil=>rfl
     | cons u us=>cases us with
      | nil=>simp at hl
      | cons _ _=>rfl
   ·have hT:¬ T0.T b:=fun h=>by have h:2<=G0.χ b:=h; omega
    refine⟨r.old b hb hT,?_⟩;have h2:G'.χ b=G0.χ b:=(r.col b hb hT).trans (if_pos h1);exact (if_pos (by omega)).trans h2
   ·exact r.own b (CH hb).1
   ·constructor
    ·show (match aq (σ.m.map fun x=>(x.2,x.1)) o with | some o=>G'.bl o | none=>if σ.pin=true/\1000000<=o then G'.bl o else 0)=_;cases hl:aq (σ.m.map fun x=>(x.2,x.1)) o with
     | some o'=>rw[key o ho o' hl]; exact (r.pin o ho).1
     | none=>exact (if_pos ⟨hp0,ho⟩).trans (r.pin o ho).1
    ·show (match aq (σ.m.map fun x=>(x.2,x.1)) o with | some o=>G'.hv o | none=>if σ.pin=true/\1000000<=o then G'.hv o else .slice none 0 0)=_;cases hl:aq (σ.m.map fun x=>(x.2,x.1)) o with
     | some o'=>rw[key o ho o' hl]; exact (r.pin o ho).2
     | none=>exact (if_pos ⟨hp0,ho⟩).trans (r.pin o ho).2
   ·refine⟨by rw[← hcl]; exact hus.1,fun i c' u hc' hu=>?_⟩;have h1:=fv ht _ (C3 hc');have hi:i<cs.length:=by rw[hcl]; exact (List.getElem?_eq_some_iff.1 hc').1
    have h2:(AO cs s.hp).tm i = .c cs[i]:=by
     show (match cs[i]? with | some c=>Slot.c c | none=>.dead)=_;rw[List.getElem?_eq_getElem hi]
    dsimp only at h1;rw[h2] at h1;exact yM hσ hobj' (hus.2 i _ u (List.getElem?_eq_getElem hi) hu) h1
   ·exact yN (q:=(o,h)) hσ hobj' (fv hh _ (dD ho))
 refine wp_mono hwp fun e a w' hq=>?_;cases e with
 | normal=>obtain⟨s,h1,h2⟩:=hq; exact fin s a w' h1 h2
 | ret=>obtain⟨s,h1,h2⟩:=hq; exact fin s a w' h1 h2
 | exit i=>obtain⟨s,h1,h2⟩:=hq; exact h1.elim
 | goto l=>exact hq.elim
 | panic ch=>exact hq.elim
 | outgrown=>exact hq.elim
end
end Go.Lad
