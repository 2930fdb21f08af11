import Derived.Test.YtaocfjifacnokaaGreatAb17
import Derived.Test.YtaocfjifacnokaaGreatOpen
namespace Go.Lad
set_option linter.unusedVariables false
set_option linter.unusedSimpArgs false
open Go.RowKit
class pz (α:Type) [aL α] where
 enc:α → List PV
 rd:∀ {F:Nat → Prop} {w:World} {cs:List Value} {x:α},(∀ b,F b → b < w.heap.size) → aL.rd F w cs x → RdL F w (enc x) cs
class Enc (α:Type) [aL α] extends pz α where
 pos:0 < aL.sz α
theorem RdL.yG {F:Nat → Prop} {w:World} {p:PV} {v:Value} (h:Rd F w p v):RdL F w [p] [v] :=
 ⟨rfl,fun j p' v' hp hv=>by
  cases j with
  | zero=>simp at hp hv; subst hp hv; exact h
  | succ j=>simp at hp⟩
theorem RdL.app {F:Nat → Prop} {w:World} {ps qs:List PV} {vs us:List Value} (h:RdL F w ps vs) (k:RdL F w qs us):RdL F w (ps ++ qs) (vs ++ us):=by
 have:=dV.append (R:=Rd F w) ⟨h.1,h.2⟩ ⟨k.1,k.2⟩
 exact⟨this.1,this.2⟩
theorem Cg {n:Int} (h:I64 n):inK .i64 n:=by
 rw[IV]; exact h
instance:Enc Int where
 enc n:=[.int .i64 n]
 rd _ h:=by obtain⟨rfl,h⟩:=h; exact .yG (.int (Cg h))
 pos:=Nat.one_pos
instance:Enc Bool where
 enc n:=[.bool n]
 rd _ h:=by have h:_ = _:=h; subst h; exact .yG .bool
 pos:=Nat.one_pos
instance:Enc ByteArray where
 enc n:=[.str n]
 rd _ h:=by obtain⟨rfl,h⟩:=h; exact .yG (.str h)
 pos:=Nat.one_pos
instance:Enc UInt8 where
 enc n:=[.int .u8 n.toNat]
 rd _ h:=by have h:_ = _:=h; subst h; exact .yG (.int (FY _))
 pos:=Nat.one_pos
instance:pz Unit where
 enc _:=[]
 rd _ h:=by have h:_ = _:=h; subst h; exact⟨rfl,by simp⟩
instance {α β:Type} [aL α] [aL β] [Enc α] [pz β]:Enc (α × β) where
 enc p:=pz.enc p.1 ++ pz.enc p.2
 rd hF h:=by
  obtain⟨c1,c2,rfl,h1,h2⟩:=h
  exact (pz.rd hF h1).app (pz.rd hF h2)
 pos:=Nat.lt_of_lt_of_le (Enc.pos (α:=α)) (Nat.le_add_right _ _)
instance {α:Type} [aL α] [Enc α]:Enc (List α) where
 enc l:=[.sl (l.map pz.enc)]
 rd {F w cs l} hF h:=by
  obtain⟨A,n,c,rfl,hs⟩:=h
  refine .yG ?_
  have hs':Sl (α:=CZ (aL.sz α)) F w A n c (l.map pz.enc):=by
   refine⟨by rw[← hs.len]; exact List.length_map _,hs.cap,hs.max,hs.nil,fun hn=>?_⟩
   obtain⟨b,off,hA,H⟩:=hs.at_ hn
   refine⟨b,off,hA,fun i x hx=>?_⟩
   have hx':(l.map pz.enc)[i]? = some (show List PV from x):=hx
   rw[List.getElem?_map,Option.map_eq_some_iff] at hx'
   obtain⟨y,hy,hxy⟩:=hx'
   obtain⟨vs,h1,h2⟩:=H i y hy
   refine⟨vs,⟨aL.len h1,?_⟩,h2⟩
   have:=pz.rd hF h1
   rw[hxy] at this
   exact this
  exact Rd.wP hs' (.inl Enc.pos)
 pos:=Nat.one_pos
@[reducible] def Enc.via {α β:Type} [aL β] [Enc β] (f:α → β):@Enc α (aL.via f) :=
 @Enc.mk α (aL.via f) (@pz.mk α (aL.via f) (fun x=>pz.enc (f x)) (fun hF h=>pz.rd (α:=β) hF h)) (Enc.pos (α:=β))
def bs (s:ByteArray):Bs:=s.data.toList
theorem L2 (s:ByteArray):mkS (bs s) = s:=GB s
end Go.Lad
