import Derived.Test.YtkpefpjpadahiaaGreatDoorAb17
import Derived.Test.YtkpefpjpadahiaaGreatDoorOpen
namespace Go.Lad
set_option linter.unusedVariables false
set_option linter.unusedSimpArgs false
open Go.RowKit
class qo (α:Type) [aN α] where
 enc:α->List PV
 rd:∀ {F:Nat->Prop} {w:World} {cs:List Value} {x:α},(∀ b,F b->b<w.heap.size)->aN.rd F w cs x->RdL F w (enc x) cs
class Enc (α:Type) [aN α] extends qo α where
 pos:0<aN.sz α
theorem RdL.za {F:Nat->Prop} {w:World} {p:PV} {v:Value} (h:Rd F w p v):RdL F w [p] [v] :=
 ⟨rfl,fun j p' v' hp hv=>by
  cases j with
  | zero=>simp at hp hv; subst hp hv; exact h
  | succ j=>simp at hp⟩
theorem RdL.app {F:Nat->Prop} {w:World} {ps qs:List PV} {vs us:List Value} (h:RdL F w ps vs) (k:RdL F w qs us):RdL F w (ps++qs) (vs++us):=by
 have:=eu.append (R:=Rd F w) ⟨h.1,h.2⟩ ⟨k.1,k.2⟩;exact⟨this.1,this.2⟩
theorem vM {n:Int} (h:I64 n):inK .i64 n:=by
 rw[KQ]; exact h
instance:Enc Int where
 enc n:=[.int .i64 n]
 rd _ h:=by obtain⟨rfl,h⟩:=h; exact .za (.int (vM h))
 pos:=Nat.one_pos
instance:Enc Bool where
 enc n:=[.bool n]
 rd _ h:=by have h:_=_:=h; subst h; exact .za .bool
 pos:=Nat.one_pos
instance:Enc ByteArray where
 enc n:=[.str n]
 rd _ h:=by obtain⟨rfl,h⟩:=h; exact .za (.str h)
 pos:=Nat.one_pos
instance:Enc UInt8 where
 enc n:=[.int .u8 n.toNat]
 rd _ h:=by have h:_=_:=h; subst h; exact .za (.int (Hq _))
 pos:=Nat.one_pos
instance:qo Unit where
 enc _:=[]
 rd _ h:=by have h:_=_:=h; subst h; exact⟨rfl,by simp⟩
instance {α β:Type} [aN α] [aN β] [Enc α] [qo β]:Enc (α×β) where
 enc p:=qo.enc p.1++qo.enc p.2
 rd hF h:=by
  obtain⟨c1,c2,rfl,h1,h2⟩:=h;exact (qo.rd hF h1).app (qo.rd hF h2)
 pos:=Nat.lt_of_lt_of_le (Enc.pos (α:=α)) (Nat.le_add_right _ _)
instance {α:Type} [aN α] [Enc α]:Enc (List α) where
 enc l:=[.sl (l.map qo.enc)]
 rd {F w cs l} hF h:=by
  obtain⟨A,n,c,rfl,hs⟩:=h;refine .za ?_;have hs':Sl (α:=CZ (aN.sz α)) F w A n c (l.map qo.enc):=by
   refine⟨by rw[← hs.len]; exact List.length_map _,hs.cap,hs.max,hs.nil,fun hn=>?_⟩;obtain⟨b,off,hA,H⟩:=hs.at_ hn;refine⟨b,off,hA,fun i x hx=>?_⟩;have hx':(l.map qo.enc)[i]?=some (show List PV from x):=hx;rw[List.getElem?_map,Option.map_eq_some_iff] at hx';obtain⟨y,hy,hxy⟩:=hx';obtain⟨vs,h1,h2⟩:=H i y hy;refine⟨vs,⟨aN.len h1,?_⟩,h2⟩;have:=qo.rd hF h1;rw[hxy] at this;exact this
  exact Rd.uK hs' (.inl Enc.pos)
 pos:=Nat.one_pos
@[reducible] def Enc.via {α β:Type} [aN β] [Enc β] (f:α->β):@Enc α (aN.via f) :=
 @Enc.mk α (aN.via f) (@qo.mk α (aN.via f) (fun x=>qo.enc (f x)) (fun hF h=>qo.rd (α:=β) hF h)) (Enc.pos (α:=β))
def bs (s:ByteArray):Bs:=s.data.toList
theorem OR (s:ByteArray):mkS (bs s)=s:=y6 s
theorem KS {w:World} {n:Int} (h:I64 n):SRd ⟨fun _=>0,fun _=>0,fun _=>undef⟩ (hpL []) w (.c (.v (.p (.int .i64 n)))) (.int .i64 n):=MN (.int (vM h))
end Go.Lad
