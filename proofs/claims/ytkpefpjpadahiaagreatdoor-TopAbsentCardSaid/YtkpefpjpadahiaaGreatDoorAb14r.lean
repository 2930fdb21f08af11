import Derived.Test.YtkpefpjpadahiaaGreatDoorAb13
import Derived.RangeFuncNested
import Derived.OrdersIn
namespace Go.Lad
set_option linter.unusedVariables false
set_option linter.unusedSimpArgs false
open Go.RowKit
inductive AEx where
 | normal
 | exit (id:Nat)
 | ret
def y4:Code->List Nat
 | .region _ ops _=>ops.toList.filterMap (·.dst)
 | .seq a b=>y4 a++y4 b
 | .cond _ a b=>y4 a++y4 b
 | .block _ b=>y4 b
 | _=>[]
def kN:Code->Bool
 | .skip=>true
 | .region _ ops draw=>!draw && ops.toList.all (fun o=>match o.op with | .defer _=>false | _=>true)
 | .seq a b=>kN a && kN b
 | .cond _ a b=>kN a && kN b
 | .block _ b=>kN b
 | .exit _=>true
 | .ret=>true
 | _=>false
def oQ (ts:List Nat) (a a':Act):Prop := ∀ t,t∉ts->a'.tmps.getD t undef=a.tmps.getD t undef
theorem oQ.refl (ts:List Nat) (a:Act):oQ ts a a:=fun _ _=>rfl
theorem oQ.put {ts:List Nat} {a b c:Act} {d:Option Nat} {v:Value} (h:oQ ts a b) (hc:c.tmps=(b.put d v).tmps) (hd:∀ k,d=some k->k∈ts):oQ ts a c:=fun t ht=>by
 rw[hc,← h t ht];cases d with
 | none=>rfl
 | some k =>
  have:k≠t:=fun e=>ht (e ▸ hd k rfl);simp only[Act.put,Array.getD_eq_getD_getElem?,Array.getElem?_setIfInBounds,if_neg this]
section
variable {P:Program} {Γ:Opt} {w0:World} {χ0:Col} {T0:Ctx} {s:St} {a:Act} {w:World} {G:Gh} {n m l0:Nat}
end
section
variable {w0:World} {χ0:Col} {T0:Ctx} {s:St} {a:Act} {w:World} {G:Gh}
def baseχ (G:Gh):Col:=fun b=>if G.χ b<=1 then G.χ b else 0
def H8 (T0:Ctx) (G:Gh):Ctx:=⟨fun b=>2<=G.χ b,G.bl,G.hv,T0.lo⟩
theorem cI.base (r:cI w0 χ0 T0 s a w G):cI w (baseχ G) (H8 T0 G) s a w G:=by
 refine⟨rfl,rfl,rfl,Nat.le_refl _,fun _ _ _=>rfl,fun b _ hT=>?_,fun b hb=>.inl hb,fun o _=>⟨rfl,rfl⟩,r.norm,r.defers,r.tms,r.iA,fun g h=>?_,fun g h h2=>?_⟩
 ·have hT:¬ 2<=G.χ b:=hT;exact (if_pos (by omega)).symm
 ·obtain⟨h1,h2⟩:=r.Af g h;exact⟨(if_pos (by omega)).trans h1,h2⟩
 ·have h2:2<=G.χ g:=h2;have:=(r.Af g h).1;omega
theorem cI.back {s' s2:St} {a' b':Act} {w':World} {G':Gh} (hχ:∀ b,χ0 b<=1) (r:cI w0 χ0 T0 s a w G) (r':cI w (baseχ G) (H8 T0 G) s' a' w' G') (hp:s2.hp=s'.hp) (ht:∀ t,SRd G' s2.hp w' (s2.tm t) (b'.tmps.getD t undef)) (hd:nr T0.lo G'.χ w' b'.defers):cI w0 χ0 T0 s2 b' w' G':=by
 have hT:∀ b,b<w0.heap.size -> ¬ T0.T b -> ¬ (H8 T0 G).T b:=fun b hb h1 h2=>by
  have h2:2<=G.χ b:=h2;have:=hχ b;rw[← r.col b hb h1] at this;omega
 refine⟨r'.os.trans r.os,r'.tape.trans r.tape,r'.output.trans r.output,Nat.le_trans r.size r'.size,fun b hb h1=>?_,fun b hb h1=>?_,fun b hb=>?_,fun o ho=>?_,r'.norm,hd,ht,fun o h hh=>?_,r.Cw⟩
 ·exact (r'.old b (Nat.lt_of_lt_of_le hb r.size) (hT b hb h1)).trans (r.old b hb h1)
 ·have h2:=r.col b hb h1;refine (r'.col b (Nat.lt_of_lt_of_le hb r.size) (hT b hb h1)).trans ?_;unfold baseχ;rw[if_pos (by rw[h2]; exact hχ b)]; exact h2
 ·rcases r'.own b hb with h | h
  ·exact r.own b h
  ·exact .inr (Nat.le_trans r.size h)
 ·exact⟨(r'.pin o ho).1.trans (r.pin o ho).1,(r'.pin o ho).2.trans (r.pin o ho).2⟩
 ·rw[hp] at hh ⊢; exact r'.iA o h hh
theorem cI.free {χ':Col} {w':World} (r:cI w0 χ0 T0 s a w G) (hos:w'.os=w.os) (htape:w'.tape=w.tape) (iR:w'.output=w.output) (hsz:w.heap.size<=w'.heap.size)
  (hcol:∀ b,b<w.heap.size->χ' b=G.χ b) (hnew:∀ b,w.heap.size<=b->χ' b<=1) (hn:Norm χ' w')
  (hblk:∀ b,b<w.heap.size->(G.χ b=1/\w0.heap.size<=b/\∀ d∈a.defers,d ≠ { target := .collected b,args := #[] })\/w'.heap[b]?=w.heap[b]?):cI w0 χ0 T0 s a w' { G with χ:=χ' }:=by
 have e:Ext G s.hp w { G with χ:=χ' } s.hp w':=⟨fun b hb hlt=>⟨(hcol b hlt).trans hb,(hblk b hlt).resolve_left fun h=>by have hb:G.χ b=0:=hb; omega⟩,fun _ _=>rfl,fun _ _=>rfl,fun _ h=>h⟩;have st:Chg [1] G.χ w χ' w':=⟨hos,htape,iR,hsz,fun b hb _=>hcol b hb,fun b hb h1=>(hblk b hb).resolve_left fun h=>h1 (by rw[h.1]; simp)⟩;refine⟨hos.trans r.os,htape.trans r.tape,iR.trans r.output,Nat.le_trans r.size hsz,fun b hb h1=>?_,fun b hb h1=>?_,fun b hb=>?_,r.pin,hn,⟨r.defers.1,fun d hd=>?_⟩,fun t=>(r.tms t).ext e,fun o h hh=>?_,r.Cw⟩
 ·exact ((hblk b (Nat.lt_of_lt_of_le hb r.size)).resolve_left fun h=>by omega).trans (r.old b hb h1)
 ·exact (hcol b (Nat.lt_of_lt_of_le hb r.size)).trans (r.col b hb h1)
 ·by_cases hb':b<w.heap.size
  ·exact r.own b (by have:=hcol b hb'; have hb:2<=χ' b:=hb; omega)
  ·have:=hnew b (by omega);have hb:2<=χ' b:=hb;omega
 ·obtain⟨D,h1,h2,h3,h4,h5⟩:=r.defers.2 d hd;exact⟨D,h1,h2,Nat.lt_of_lt_of_le h3 hsz,(hcol D h3).trans h4,((hblk D h3).resolve_left fun h=>h.2.2 d hd h1).trans h5⟩
 ·exact (r.iA o h hh).ext e st (by simp) (by simp) (by rw[hh]; simp)
theorem cI.PE {b:Nat} {o:Obj} (r:cI w0 χ0 T0 s a w G) (h0:w0.heap.size<=b) (h1:G.χ b=1) (hd:∀ d∈a.defers,d ≠ { target := .collected b,args := #[] }):cI w0 χ0 T0 s a (w.putObj b o) G:=by
 have:=r.free (χ':=G.χ) (w':=w.putObj b o) rfl rfl rfl (by simp) (fun _ _=>rfl) (fun c hc=>by rw[r.norm c hc]; omega) (fun c hc=>r.norm c (by simpa using hc)) (fun c _=>by
  by_cases hcb:c=b
  ·subst hcb; exact .inl ⟨h1,h0,hd⟩
  ·exact .inr (World.putObj_heap_other hcb))
 exact this
end
end Go.Lad
