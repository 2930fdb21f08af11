import Derived.Test.YtcmibmohdnbhgaaGreatDoorAb13
import Derived.RangeFuncNested
import Derived.OrdersIn
namespace Go.Lad
set_option linter.unusedVariables false
set_option linter.unusedSimpArgs false
open Go.RowKit
inductive AEx where
 | normal
 | exit (id:Nat)
 | ret
def dsts:Code → List Nat
 | .region _ ops _=>ops.toList.filterMap (·.dst)
 | .seq a b=>dsts a ++ dsts b
 | .cond _ a b=>dsts a ++ dsts b
 | .block _ b=>dsts b
 | _=>[]
def roundOK:Code → Bool
 | .skip=>true
 | .region _ ops draw=>!draw && ops.toList.all (fun o=>match o.op with | .defer _=>false | _=>true)
 | .seq a b=>roundOK a && roundOK b
 | .cond _ a b=>roundOK a && roundOK b
 | .block _ b=>roundOK b
 | .exit _=>true
 | .ret=>true
 | _=>false
def SameT (ts:List Nat) (a a':Act):Prop := ∀ t,t ∉ ts → a'.tmps.getD t undef = a.tmps.getD t undef
theorem SameT.refl (ts:List Nat) (a:Act):SameT ts a a:=fun _ _=>rfl
theorem SameT.put {ts:List Nat} {a b c:Act} {d:Option Nat} {v:Value} (h:SameT ts a b) (hc:c.tmps = (b.put d v).tmps) (hd:∀ k,d = some k → k ∈ ts):SameT ts a c:=fun t ht=>by
 rw[hc,← h t ht]
 cases d with
 | none=>rfl
 | some k =>
  have:k ≠ t:=fun e=>ht (e ▸ hd k rfl)
  simp only[Act.put,Array.getD_eq_getD_getElem?,Array.getElem?_setIfInBounds,if_neg this]
section
variable {P:Program} {Γ:Opt} {w0:World} {χ0:Col} {T0:Ctx} {s:St} {a:Act} {w:World} {G:Gh} {n m l0:Nat}
theorem wpIn_of_wp {o:Oper} {next:Act → World → Prop} {Q:Exit → Act → World → Prop} (hd:∀ c,o.op ≠ .defer c) (h:o.wp P a w next fun _ _ _=>False) :
  o.wpIn (Fence.wide.inRound l0) m P a w (fun a' w'=>next a' w' ∧ ∃ v,a'.tmps = (a.put o.dst v).tmps) Q:=by
 refine⟨fun _ _=>trivial,?_⟩
 unfold Oper.wp at h
 show o.uponIn _ _ _ _ _ _ ((o.semAt (some l0) a.eval).run P w)
 rw[Oper.semAt_some l0 a.eval o hd]
 cases hr:(execOp a.eval o).run P w with
 | halt e w' =>
  rw[hr] at h
  cases e with
  | panic v=>exact h.elim
  | _=>exact h.elim
 | ok x w' =>
  rw[hr] at h
  cases x with
  | value v=>exact⟨h,v,rfl⟩
  | skip=>exact⟨h,undef,rfl⟩
  | defer d=>exact⟨h,undef,by cases o.dst <;> rfl⟩
  | enter f args =>
   refine⟨fun hd=>by simp [Fence.wide] at hd,?_⟩
   have h2:=CallsIn.inRound (n:=m - 1) l0 (callsIn_wide.2 h)
   refine h2.mono fun e w'' hq=>?_
   cases e with
   | returned v=>exact⟨hq,v,rfl⟩
   | panicked c=>exact hq.elim
   | outgrown=>obtain⟨_,_,hq⟩:=hq; exact hq.elim
  | row r args =>
   refine⟨fun hd=>by simp [Fence.wide] at hd,fun c cs _=>?_⟩
   obtain⟨v,w'',hv,hs⟩:=h c cs
   exact⟨v,w'',⟨hv,v,rfl⟩,stepsIn_wide.2 hs⟩
  | _=>exact h.elim
theorem regR_ok {ops:List Oper} {Q:Exit → Act → World → Prop} {ts:List Nat} {a0:Act} (hχ:∀ b,χ0 b ≤ 1) (hdn:∀ o ∈ ops,∀ k,o.dst = some k → k < n) (hnd:∀ o ∈ ops,∀ c,o.op ≠ .defer c) (hts:∀ o ∈ ops,∀ k,o.dst = some k → k ∈ ts) {K:St → Prop}
  (hQ:∀ s a w,K s → After w0 χ0 T0 n s a w → SameT ts a0 a → Q .normal a w) :
  ∀ (l:List Oper) (s:St) (a:Act) (w:World),(∀ o ∈ l,o ∈ ops) → After w0 χ0 T0 n s a w → SameT ts a0 a → lexA P Γ ops l s K → wpListIn (Fence.wide.inRound l0) m P ops.toArray Q l a w
 | [],s,a,w,_,ha,hs,h=>hQ s a w h ha hs
 | o :: rest,s,a,w,hl,ha,hs,h=>by
  obtain⟨s',e,h0,h1,h2,h3⟩:=h
  have ho:=hl o List.mem_cons_self
  unfold wpListIn
  have key:=eff_step (Q:=fun _ _ _=>False) (K:=fun a' w'=>After w0 χ0 T0 n (s'.app o.dst e) a' w') hdn ho (rev_ok hχ h0 ha) h1 h2 fun _ _ h=>h
  have go:∀ a' w',After w0 χ0 T0 n (s'.app o.dst e) a' w' → (∃ v,a'.tmps = (a.put o.dst v).tmps) → wpListIn (Fence.wide.inRound l0) m P ops.toArray Q rest a' w':=fun a' w' h4 ⟨v,hv⟩ =>
   regR_ok hχ hdn hnd hts hQ rest _ a' w' (fun o ho=>hl o (List.mem_cons_of_mem _ ho)) h4 (hs.put hv (hts o ho)) h3
  split
  ·rename_i hw
   rw[if_pos hw] at key
   rcases key with key | ⟨_,_,_,key⟩
   ·exact Oper.wpIn_mono (fun a' w' h4=>go a' w' h4.1 h4.2) (wpIn_of_wp (hnd o ho) key)
   ·exact key.elim
  ·rename_i hw
   rw[if_neg hw] at key
   exact⟨fun _ _=>trivial,go _ _ key ⟨undef,rfl⟩⟩
end
section
variable {w0:World} {χ0:Col} {T0:Ctx} {s:St} {a:Act} {w:World} {G:Gh}
def baseχ (G:Gh):Col:=fun b=>if G.χ b ≤ 1 then G.χ b else 0
def baseT (T0:Ctx) (G:Gh):Ctx:=⟨fun b=>2 ≤ G.χ b,G.bl,G.hv,T0.lo⟩
theorem baseχ_le (G:Gh) (b:Nat):baseχ G b ≤ 1:=by unfold baseχ; split <;> omega
theorem RepG.base (r:RepG w0 χ0 T0 s a w G):RepG w (baseχ G) (baseT T0 G) s a w G:=by
 refine⟨rfl,rfl,rfl,Nat.le_refl _,fun _ _ _=>rfl,fun b _ hT=>?_,fun b hb=>.inl hb,fun o _=>⟨rfl,rfl⟩,r.norm,r.defers,r.tms,r.objs,fun g h=>?_,fun g h h2=>?_⟩
 ·have hT:¬ 2 ≤ G.χ b:=hT
  exact (if_pos (by omega)).symm
 ·obtain⟨h1,h2⟩:=r.globR g h
  exact⟨(if_pos (by omega)).trans h1,h2⟩
 ·have h2:2 ≤ G.χ g:=h2
  have:=(r.globR g h).1
  omega
def Kept1 (G:Gh) (w:World) (G':Gh) (w':World):Prop:=w.heap.size ≤ w'.heap.size ∧ ∀ b,b < w.heap.size → G.χ b = 1 → G'.χ b = 1 ∧ w'.heap[b]? = w.heap[b]?
theorem RepG.kept1 {s':St} {a':Act} {w':World} {G':Gh} (r:RepG w (baseχ G) (baseT T0 G) s' a' w' G'):Kept1 G w G' w' :=
 ⟨r.size,fun b hb h1=>by
  have hT:¬ (baseT T0 G).T b:=fun h=>by have h:2 ≤ G.χ b:=h; omega
  exact⟨(r.col b hb hT).trans ((if_pos (by omega)).trans h1),r.old b hb hT⟩⟩
theorem RepG.back {s' s2:St} {a' b':Act} {w':World} {G':Gh} (hχ:∀ b,χ0 b ≤ 1) (r:RepG w0 χ0 T0 s a w G) (r':RepG w (baseχ G) (baseT T0 G) s' a' w' G') (hp:s2.hp = s'.hp) (ht:∀ t,SRd G' s2.hp w' (s2.tm t) (b'.tmps.getD t undef)) (hd:DefOK T0.lo G'.χ w' b'.defers):RepG w0 χ0 T0 s2 b' w' G':=by
 have hT:∀ b,b < w0.heap.size → ¬ T0.T b → ¬ (baseT T0 G).T b:=fun b hb h1 h2=>by
  have h2:2 ≤ G.χ b:=h2
  have:=hχ b
  rw[← r.col b hb h1] at this
  omega
 refine⟨r'.os.trans r.os,r'.tape.trans r.tape,r'.output.trans r.output,Nat.le_trans r.size r'.size,fun b hb h1=>?_,fun b hb h1=>?_,fun b hb=>?_,fun o ho=>?_,r'.norm,hd,ht,fun o h hh=>?_,r.glob⟩
 ·exact (r'.old b (Nat.lt_of_lt_of_le hb r.size) (hT b hb h1)).trans (r.old b hb h1)
 ·have h2:=r.col b hb h1
  refine (r'.col b (Nat.lt_of_lt_of_le hb r.size) (hT b hb h1)).trans ?_
  unfold baseχ
  rw[if_pos (by rw[h2]; exact hχ b)]; exact h2
 ·rcases r'.own b hb with h | h
  ·exact r.own b h
  ·exact .inr (Nat.le_trans r.size h)
 ·exact⟨(r'.pin o ho).1.trans (r.pin o ho).1,(r'.pin o ho).2.trans (r.pin o ho).2⟩
 ·rw[hp] at hh ⊢; exact r'.objs o h hh
theorem RepG.free {χ':Col} {w':World} (r:RepG w0 χ0 T0 s a w G) (hos:w'.os = w.os) (htape:w'.tape = w.tape) (hout:w'.output = w.output) (hsz:w.heap.size ≤ w'.heap.size)
  (hcol:∀ b,b < w.heap.size → χ' b = G.χ b) (hnew:∀ b,w.heap.size ≤ b → χ' b ≤ 1) (hn:Norm χ' w')
  (hblk:∀ b,b < w.heap.size → (G.χ b = 1 ∧ w0.heap.size ≤ b ∧ ∀ d ∈ a.defers,d ≠ { target := .collected b,args := #[] }) ∨ w'.heap[b]? = w.heap[b]?):RepG w0 χ0 T0 s a w' { G with χ:=χ' }:=by
 have e:Ext G s.hp w { G with χ:=χ' } s.hp w':=⟨fun b hb hlt=>⟨(hcol b hlt).trans hb,(hblk b hlt).resolve_left fun h=>by have hb:G.χ b = 0:=hb; omega⟩,fun _ _=>rfl,fun _ _=>rfl,fun _ h=>h⟩
 have st:Chg [1] G.χ w χ' w':=⟨hos,htape,hout,hsz,fun b hb _=>hcol b hb,fun b hb h1=>(hblk b hb).resolve_left fun h=>h1 (by rw[h.1]; simp)⟩
 refine⟨hos.trans r.os,htape.trans r.tape,hout.trans r.output,Nat.le_trans r.size hsz,fun b hb h1=>?_,fun b hb h1=>?_,fun b hb=>?_,r.pin,hn,⟨r.defers.1,fun d hd=>?_⟩,fun t=>(r.tms t).ext e,fun o h hh=>?_,r.glob⟩
 ·exact ((hblk b (Nat.lt_of_lt_of_le hb r.size)).resolve_left fun h=>by omega).trans (r.old b hb h1)
 ·exact (hcol b (Nat.lt_of_lt_of_le hb r.size)).trans (r.col b hb h1)
 ·by_cases hb':b < w.heap.size
  ·exact r.own b (by have:=hcol b hb'; have hb:2 ≤ χ' b:=hb; omega)
  ·have:=hnew b (by omega)
   have hb:2 ≤ χ' b:=hb
   omega
 ·obtain⟨D,h1,h2,h3,h4,h5⟩:=r.defers.2 d hd
  exact⟨D,h1,h2,Nat.lt_of_lt_of_le h3 hsz,(hcol D h3).trans h4,((hblk D h3).resolve_left fun h=>h.2.2 d hd h1).trans h5⟩
 ·exact (r.objs o h hh).ext e st (by simp) (by simp) (by rw[hh]; simp)
theorem RepG.putF {b:Nat} {o:Obj} (r:RepG w0 χ0 T0 s a w G) (h0:w0.heap.size ≤ b) (h1:G.χ b = 1) (hd:∀ d ∈ a.defers,d ≠ { target := .collected b,args := #[] }):RepG w0 χ0 T0 s a (w.putObj b o) G:=by
 have:=r.free (χ':=G.χ) (w':=w.putObj b o) rfl rfl rfl (by simp) (fun _ _=>rfl) (fun c hc=>by rw[r.norm c hc]; omega) (fun c hc=>r.norm c (by simpa using hc)) (fun c _=>by
  by_cases hcb:c = b
  ·subst hcb; exact .inl ⟨h1,h0,hd⟩
  ·exact .inr (World.putObj_heap_other hcb))
 exact this
def addχ (G:Gh) (b:Nat):Gh:={ G with χ:=fun c=>if c = b then 1 else G.χ c }
theorem RepG.allocF (o:Obj) (r:RepG w0 χ0 T0 s a w G):RepG w0 χ0 T0 s a (w.alloc o) (addχ G w.heap.size):=by
 refine r.free rfl rfl rfl (by simp) (fun b hb=>if_neg (by omega)) (fun b hb=>?_) (fun b hb=>?_) (fun b hb=>.inr (Below.heap_alloc w o b hb))
 ·show (if b = w.heap.size then 1 else G.χ b) ≤ 1
  split
  ·omega
  ·rw[r.norm b hb]; omega
 ·rw[World.size_alloc] at hb
  show (if b = w.heap.size then 1 else G.χ b) = 0
  rw[if_neg (by omega)]; exact r.norm b (by omega)
end
end Go.Lad
