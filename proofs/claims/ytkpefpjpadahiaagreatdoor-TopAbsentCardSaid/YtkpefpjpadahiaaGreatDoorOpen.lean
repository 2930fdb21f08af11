import Derived.Test.YtkpefpjpadahiaaGreatDoorBase
import Derived.ProofKit
import Derived.OpenShut
import Derived.ChangeOld
import Derived.Deep.Slices
import Derived.JoinedCond
namespace Go.Lad
set_option linter.unusedVariables false
set_option linter.unusedSimpArgs false
open Go.RowKit Go.ChangeShapes Go.WideShapes Go.Deep
def jZ (P:Program) (t:TypeId) (α:Type) [aN α]:Prop :=
 ∀ (H:Type) (enc:TypeId×Value->H) (w:World) (base:Nat) (sp:Nat->Bool) (held:Bool) (fuel:Nat) (cs:List Value) (y:DataW H×List MemPlace),
  DataW.trod enc P w base sp held fuel t cs=some y->∃ x:α,aN.rd (Old w) w cs x
section
variable {P:Program} {t:TypeId}
theorem F6 {n:Int} (h:(Lit.int .i64 n).wf=true):I64 n:=by
 simp [Lit.wf,IntKind.min,IntKind.max,IntKind.signed,IntKind.bits] at h;exact⟨by omega,by omega⟩
theorem C5 (ht:P.underlying t=some .bool):jZ P t Bool:=by
 intro H enc w base sp held fuel cs y h;cases fuel with
 | zero=>simp [DataW.trod] at h
 | succ n =>
  unfold DataW.trod at h;rw[ht] at h;split at h <;> first | exact⟨_,rfl⟩ | (exfalso; simp_all; done)
theorem AR {e:TypeId} {α:Type} [aN α] (ht:P.underlying t=some (.slice e)) (hC:P.cellsOf e=aN.sz α) (hpos:0<aN.sz α) (ho:jZ P e α):jZ P t (List α):=by
 intro H enc w base sp held fuel cs y h;rcases open_slice ht h with⟨rfl,_⟩ | ⟨a,len,cap,m,n,D,Pl,rfl,hb,hl,hm,hmm,_,hx⟩
 ·exact⟨[],none,0,0,rfl,Sl.empty _ _⟩
 ·have hlm:len<=m:=by rw[hmm]; split <;> omega
  have hex:∀ i:Fin len,∃ x:α,∃ cs',w.cells? base (a.add (i.1 * P.cellsOf e)) (P.cellsOf e)=some cs'/\aN.rd (Old w) w cs' x:=by
   intro i;obtain⟨cs',h1,h2⟩:=hx i.1 (by omega);obtain⟨x,hx'⟩:=ho H enc w base sp held n cs' _ h2;exact⟨x,cs',h1,hx'⟩
  refine⟨List.ofFn fun i=>Classical.choose (hex i),some a,len,cap,rfl,by simp,hl,by simpa [maxLen] using hm,by simp,fun hn=>?_⟩;have hspot:a.spot=none:=by
   obtain⟨x,cs',h1,_⟩:=hex ⟨0,hn⟩;obtain⟨_,hlen,hat⟩:=World.cells?_some h1;have h0:=hat 0 (by rw[hC]; exact hpos);have e0:(a.add (0 * P.cellsOf e)).add 0=a:=by simp [Addr.add]
   rw[e0] at h0;rw[List.getElem?_eq_getElem (by rw[hlen,hC]; exact hpos)] at h0;exact World.cell?_spot h0
  obtain⟨b,off,spot⟩:=a;subst hspot;refine⟨b,off,rfl,fun i x hi=>?_⟩;have hil:i<len:=by simpa using (List.getElem?_eq_some_iff.1 hi).1
  rw[List.getElem?_ofFn,dif_pos hil] at hi;injection hi with hi
  obtain⟨cs',h1,h2⟩:=Classical.choose_spec (hex ⟨i,hil⟩);rw[hi] at h2;refine⟨cs',h2,fun j u hu=>?_⟩;obtain⟨_,hlen,hat⟩:=World.cells?_some h1;have hj:j<cs'.length:=(List.getElem?_eq_some_iff.1 hu).1;have h3:=hat j (by rw[← hlen]; exact hj);rw[fT,fT,hC,hu] at h3;exact⟨qY h3,h3⟩
theorem jZ.via {α β:Type} [aN β] {f:α->β} (g:β->α) (hg:∀ x,f (g x)=x) (h:jZ P t β):@jZ P t α (aN.via f):=by
 intro H enc w base sp held fuel cs y hy;obtain⟨x,hx⟩:=h H enc w base sp held fuel cs y hy;refine⟨g x,?_⟩;show aN.rd (Old w) w cs (f (g x));rw[hg];exact hx
theorem jZ.arg {α:Type} [aN α] (ho:jZ P t α) {H:Type} {enc:TypeId×Value->H} {w:World} {base:Nat} {sp:Nat->Bool} {held:Bool} {v:Value} {d:DataW H} {ps:List MemPlace}
  (h:DataW.Trod enc P w base sp held t v d ps):∃ x:α,aN.rd (Old w) w v.cells.toList x:=by
 obtain⟨fuel,hf⟩:=h;exact ho H enc w base sp held fuel _ _ hf
theorem C6 {r:Reach} {b0:Nat} {w:World} {fs:Array Field} {v:Value} (hs:P.underlying t=some (.struct fs)) (hv:Value.okWide P w r b0 t v):∃ cs:Array Value,v = .agg cs:=by
 obtain⟨cs,rfl,_⟩:=okWide_struct hs hv;exact⟨cs,rfl⟩
end
end Go.Lad
