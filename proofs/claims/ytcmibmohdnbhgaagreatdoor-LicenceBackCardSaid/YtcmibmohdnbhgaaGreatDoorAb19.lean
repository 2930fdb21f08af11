import Derived.Test.YtcmibmohdnbhgaaGreatDoorAb17
import Derived.Test.YtcmibmohdnbhgaaGreatDoorOpen
namespace Go.Lad
set_option linter.unusedVariables false
set_option linter.unusedSimpArgs false
open Go.RowKit
class EncT (α:Type) [GoRep α] where
 enc:α → List PV
 rd:∀ {F:Nat → Prop} {w:World} {cs:List Value} {x:α},(∀ b,F b → b < w.heap.size) → GoRep.rd F w cs x → RdL F w (enc x) cs
class Enc (α:Type) [GoRep α] extends EncT α where
 pos:0 < GoRep.sz α
theorem RdL.one1 {F:Nat → Prop} {w:World} {p:PV} {v:Value} (h:Rd F w p v):RdL F w [p] [v] :=
 ⟨rfl,fun j p' v' hp hv=>by
  cases j with
  | zero=>simp at hp hv; subst hp hv; exact h
  | succ j=>simp at hp⟩
theorem RdL.app {F:Nat → Prop} {w:World} {ps qs:List PV} {vs us:List Value} (h:RdL F w ps vs) (k:RdL F w qs us):RdL F w (ps ++ qs) (vs ++ us):=by
 have:=All2.append (R:=Rd F w) ⟨h.1,h.2⟩ ⟨k.1,k.2⟩
 exact⟨this.1,this.2⟩
theorem inK_of_i64 {n:Int} (h:I64 n):inK .i64 n:=by
 rw[inK_i64]; exact h
instance:Enc Int where
 enc n:=[.int .i64 n]
 rd _ h:=by obtain⟨rfl,h⟩:=h; exact .one1 (.int (inK_of_i64 h))
 pos:=Nat.one_pos
instance:Enc Bool where
 enc n:=[.bool n]
 rd _ h:=by have h:_ = _:=h; subst h; exact .one1 .bool
 pos:=Nat.one_pos
instance:Enc ByteArray where
 enc n:=[.str n]
 rd _ h:=by obtain⟨rfl,h⟩:=h; exact .one1 (.str h)
 pos:=Nat.one_pos
instance:Enc UInt8 where
 enc n:=[.int .u8 n.toNat]
 rd _ h:=by have h:_ = _:=h; subst h; exact .one1 (.int (inK_u8 _))
 pos:=Nat.one_pos
instance:EncT Unit where
 enc _:=[]
 rd _ h:=by have h:_ = _:=h; subst h; exact⟨rfl,by simp⟩
instance {α β:Type} [GoRep α] [GoRep β] [Enc α] [EncT β]:Enc (α × β) where
 enc p:=EncT.enc p.1 ++ EncT.enc p.2
 rd hF h:=by
  obtain⟨c1,c2,rfl,h1,h2⟩:=h
  exact (EncT.rd hF h1).app (EncT.rd hF h2)
 pos:=Nat.lt_of_lt_of_le (Enc.pos (α:=α)) (Nat.le_add_right _ _)
instance {α:Type} [GoRep α] [Enc α]:Enc (List α) where
 enc l:=[.sl (l.map EncT.enc)]
 rd {F w cs l} hF h:=by
  obtain⟨A,n,c,rfl,hs⟩:=h
  refine .one1 ?_
  have hs':Sl (α:=CZ (GoRep.sz α)) F w A n c (l.map EncT.enc):=by
   refine⟨by rw[← hs.len]; exact List.length_map _,hs.cap,hs.max,hs.nil,fun hn=>?_⟩
   obtain⟨b,off,hA,H⟩:=hs.at_ hn
   refine⟨b,off,hA,fun i x hx=>?_⟩
   have hx':(l.map EncT.enc)[i]? = some (show List PV from x):=hx
   rw[List.getElem?_map,Option.map_eq_some_iff] at hx'
   obtain⟨y,hy,hxy⟩:=hx'
   obtain⟨vs,h1,h2⟩:=H i y hy
   refine⟨vs,⟨GoRep.len h1,?_⟩,h2⟩
   have:=EncT.rd hF h1
   rw[hxy] at this
   exact this
  exact Rd.of_sl hs' (.inl Enc.pos)
 pos:=Nat.one_pos
@[reducible] def Enc.via {α β:Type} [GoRep β] [Enc β] (f:α → β):@Enc α (GoRep.via f) :=
 @Enc.mk α (GoRep.via f) (@EncT.mk α (GoRep.via f) (fun x=>EncT.enc (f x)) (fun hF h=>EncT.rd (α:=β) hF h)) (Enc.pos (α:=β))
def bs (s:ByteArray):Bs:=s.data.toList
theorem bs_mk (s:ByteArray):mkS (bs s) = s:=mkS_of s
theorem srd_str {w:World} {s:ByteArray} (h:s.size ≤ 9223372036854775807):SRd ⟨fun _=>0,fun _=>0,fun _=>undef⟩ (hpL []) w (.c (.v (.p (.str (mkS (bs s)))))) (.string s):=by
 rw[bs_mk]
 exact srd_p (.str h)
end Go.Lad
