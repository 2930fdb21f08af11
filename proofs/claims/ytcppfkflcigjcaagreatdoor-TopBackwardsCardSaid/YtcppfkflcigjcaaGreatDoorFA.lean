import Derived.WalkKit
import Derived.WalkSpells
import Derived.WalkLawsBesides
import Derived.Maps.AppendAt
import Derived.Deep.AppendLies
import Derived.Deep.Slices
import Derived.Deep.QuietTactic
import Derived.BigQuiet
import Derived.Lib.Hide
import Derived.Lib.Space
import Derived.Lib.ItoaNum
import Derived.Lib.LaidTab
import Derived.Deep.MidRow
set_option linter.unusedVariables false
set_option linter.unusedSimpArgs false
set_option linter.unusedSectionVars false
namespace Go.Lad
open Go.RowKit
theorem fY (b off j:Nat):(⟨b,off,none⟩:Addr).add j=⟨b,off+j,none⟩:=by
 unfold Addr.add; split <;> simp_all
theorem block_add (a:Addr) (n:Nat):(a.add n).block=a.block:=by unfold Addr.add; split <;> rfl
theorem tI {w:World} {a:Addr} {v:Value} (h:w.cell? a=some v):a.block<w.heap.size:=World.block_lt_of_cell? w a h
theorem Rj.Go.RowKit.Below.drewN {B:Nat} {a w:World} (h:Below B a w) (n:Nat):Below B a (w.drewN n):=⟨h.os,h.tape,h.output,h.size,h.block⟩
class aA (α:Type) where
 sz:Nat
 rd:(Nat->Prop)->World->List Value->α->Prop
 len:∀ {F:Nat->Prop} {w:World} {cs:List Value} {x:α},rd F w cs x->cs.length=sz
 one:∀ {F:Nat->Prop} {w:World} {cs:List Value} {x:α},rd F w cs x->∀ u∈cs,u.oneCell'=true
 frame:∀ {F F':Nat->Prop} {w w':World} {cs:List Value} {x:α},(∀ b,F b->b<w.heap.size->F' b/\w'.heap[b]?=w.heap[b]?)->rd F w cs x->rd F' w' cs x
def At {α:Type} [aA α] (F:Nat->Prop) (w:World) (b off:Nat) (x:α):Prop :=
 ∃ cs,aA.rd F w cs x/\∀ j u,cs[j]?=some u->F b/\w.cell? ⟨b,off+j,none⟩=some u
theorem At.frame {α:Type} [aA α] {F F':Nat->Prop} {w w':World} {b off:Nat} {x:α} (h:At F w b off x)
  (hf:∀ b,F b->b<w.heap.size->F' b/\w'.heap[b]?=w.heap[b]?):At F' w' b off x:=by
 obtain⟨cs,h1,h2⟩:=h;refine⟨cs,aA.frame hf h1,fun j u hu=>?_⟩;obtain⟨a1,a2⟩:=h2 j u hu;have hf':=hf b a1 (tI a2);exact⟨hf'.1,(World.cell?_of_block (w:=w) (a:=⟨b,off+j,none⟩) hf'.2).trans a2⟩
structure Sl {α:Type} [aA α] (F:Nat->Prop) (w:World) (A:Option Addr) (n c:Nat) (l:List α):Prop where
 len:l.length=n
 cap:n<=c
 max:c<=9223372036854775807
 nil:A=none->c=0
 at_:0<n->∃ b off,A=some ⟨b,off,none⟩/\∀ i x,l[i]?=some x->At F w b (off+i * aA.sz α) x
theorem Sl.frame {α:Type} [aA α] {F F':Nat->Prop} {w w':World} {A:Option Addr} {n c:Nat} {l:List α} (h:Sl F w A n c l)
  (hf:∀ b,F b->b<w.heap.size->F' b/\w'.heap[b]?=w.heap[b]?):Sl F' w' A n c l :=
 ⟨h.len,h.cap,h.max,h.nil,fun hn=>by
  obtain⟨b,off,e,H⟩:=h.at_ hn;exact⟨b,off,e,fun i x hx=>(H i x hx).frame hf⟩⟩
def I64 (n:Int):Prop := -9223372036854775808<=n/\n<=9223372036854775807
instance:aA Int where
 sz:=1
 rd _ _ cs n:=cs=[.int .i64 n]/\I64 n
 len h:=by rw[h.1]; rfl
 one h:=by rw[h.1]; simp [Value.oneCell']
 frame _ h:=h
instance:aA Bool where
 sz:=1
 rd _ _ cs b:=cs=[.bool b]
 len h:=by rw[h]; rfl
 one h:=by rw[h]; simp [Value.oneCell']
 frame _ h:=h
instance:aA ByteArray where
 sz:=1
 rd _ _ cs s:=cs=[.string s]/\s.size<=9223372036854775807
 len h:=by rw[h.1]; rfl
 one h:=by rw[h.1]; simp [Value.oneCell']
 frame _ h:=h
instance:aA UInt8 where
 sz:=1
 rd _ _ cs n:=cs=[.int .u8 n.toNat]
 len h:=by rw[h]; rfl
 one h:=by rw[h]; simp [Value.oneCell']
 frame _ h:=h
instance:aA UInt64 where
 sz:=1
 rd _ _ cs n:=cs=[.int .u64 n.toNat]
 len h:=by rw[h]; rfl
 one h:=by rw[h]; simp [Value.oneCell']
 frame _ h:=h
instance:aA Unit where
 sz:=0
 rd _ _ cs _:=cs=[]
 len h:=by rw[h]; rfl
 one h:=by rw[h]; simp
 frame _ h:=h
instance {α:Type} [aA α]:aA (List α) where
 sz:=1
 rd F w cs l := ∃ A n c,cs=[.slice A n c]/\Sl F w A n c l
 len h:=by obtain⟨A,n,c,rfl,_⟩:=h; rfl
 one h:=by obtain⟨A,n,c,rfl,_⟩:=h; simp [Value.oneCell']
 frame hf h:=by obtain⟨A,n,c,e,h⟩:=h; exact⟨A,n,c,e,h.frame hf⟩
instance {α β:Type} [aA α] [aA β]:aA (α×β) where
 sz:=aA.sz α+aA.sz β
 rd F w cs p := ∃ c1 c2,cs=c1++c2/\aA.rd F w c1 p.1/\aA.rd F w c2 p.2
 len h:=by obtain⟨c1,c2,rfl,h1,h2⟩:=h; rw[List.length_append,aA.len h1,aA.len h2]
 one h:=by
  obtain⟨c1,c2,rfl,h1,h2⟩:=h;intro u hu;rcases List.mem_append.1 hu with hu | hu
  ·exact aA.one h1 u hu
  ·exact aA.one h2 u hu
 frame hf h:=by
  obtain⟨c1,c2,e,h1,h2⟩:=h;exact⟨c1,c2,e,aA.frame hf h1,aA.frame hf h2⟩
@[reducible] def aA.via {α β:Type} [aA β] (f:α->β):aA α where
 sz:=aA.sz β
 rd F w cs x:=aA.rd F w cs (f x)
 len h:=aA.len h
 one h:=aA.one h
 frame hf h:=aA.frame hf h
class Plain (α:Type) [aA α]:Prop where
 any:∀ {F F':Nat->Prop} {w w':World} {cs:List Value} {x:α},aA.rd F w cs x->aA.rd F' w' cs x
instance:Plain Int:=⟨fun h=>h⟩
instance:Plain Bool:=⟨fun h=>h⟩
instance:Plain ByteArray:=⟨fun h=>h⟩
instance:Plain UInt8:=⟨fun h=>h⟩
instance:Plain UInt64:=⟨fun h=>h⟩
instance:Plain Unit:=⟨fun h=>h⟩
instance {α β:Type} [aA α] [aA β] [Plain α] [Plain β]:Plain (α×β) :=
 ⟨fun h=>by obtain⟨c1,c2,e,h1,h2⟩:=h; exact⟨c1,c2,e,Plain.any h1,Plain.any h2⟩⟩
def Old (w:World):Nat->Prop:=fun b=>b<w.heap.size
section
variable {α:Type} [aA α] {F:Nat->Prop} {w w':World} {A:Option Addr} {n c:Nat} {l:List α}
theorem Sl.empty (F:Nat->Prop) (w:World):Sl F w none 0 0 ([]:List α) :=
 ⟨rfl,Nat.le_refl _,by omega,fun _=>rfl,fun h=>absurd h (by omega)⟩
theorem Sl.old (h:Sl F w A n c l):Sl (Old w) w A n c l:=h.frame fun _ _ hb=>⟨hb,rfl⟩
theorem Sl.mono {F':Nat->Prop} (h:Sl F w A n c l) (hf:∀ b,F b->b<w.heap.size->F' b):Sl F' w A n c l:=h.frame fun b h1 h2=>⟨hf b h1 h2,rfl⟩
theorem Sl.below {B:Nat} (h:Sl F w A n c l) (hF:∀ b,F b->b<w.heap.size->b<B) (hb:Below B w w'):Sl F w' A n c l:=h.frame fun b h1 h2=>⟨h1,hb.block b (hF b h1 h2)⟩
theorem Sl.drew (h:Sl F w A n c l):Sl F w.drew A n c l:=h.frame fun _ h1 _=>⟨h1,rfl⟩
theorem Sl.drewN (h:Sl F w A n c l) (k:Nat):Sl F (w.drewN k) A n c l:=h.frame fun _ h1 _=>⟨h1,rfl⟩
theorem Sl.alloc (h:Sl F w A n c l) (o:Obj):Sl F (w.alloc o) A n c l:=h.frame fun b h1 h2=>⟨h1,Below.heap_alloc w o b h2⟩
theorem Sl.setCell (h:Sl F w A n c l) {p:Addr} (hp:¬ F p.block) (u:Value):Sl F (w.setCell p u) A n c l :=
 h.frame fun b h1 _=>⟨h1,Below.heap_setCell w p u b (by rintro rfl; exact hp h1)⟩
theorem Sl.take (h:Sl F w A n c l) {k:Nat} (hk:k<=n):Sl F w A k c (l.take k) :=
 ⟨by rw[List.length_take,h.len]; omega,Nat.le_trans hk h.cap,h.max,h.nil,fun hn=>by
  obtain⟨b,off,e,H⟩:=h.at_ (by omega);refine⟨b,off,e,fun i x hx=>H i x ?_⟩;rw[List.getElem?_take] at hx;split at hx
  ·exact hx
  ·cases hx⟩
theorem Sl.drop (h:Sl F w A n c l) {k:Nat} (hk:k<=n):Sl F w (if c=k then A else A.map (·.add (k * aA.sz α))) (n-k) (c-k) (l.drop k):=by
 refine⟨by rw[List.length_drop,h.len],by have:=h.cap; omega,by have:=h.max; omega,fun hA=>?_,fun hn=>?_⟩
 ·split at hA
  ·omega
  ·have:A=none:=by simpa using hA
   have:=h.nil this;omega
 ·obtain⟨b,off,e,H⟩:=h.at_ (by omega);have:=h.cap;rw[if_neg (by omega)];refine⟨b,off+k * aA.sz α,by rw[e]; simp [fY],fun i x hx=>?_⟩;rw[List.getElem?_drop] at hx;have:=H _ x hx
  rwa [Nat.add_mul,← Nat.add_assoc] at this
end
theorem At.bool {F:Nat->Prop} {w:World} {b off:Nat} {x:Bool} (h:At F w b off x):F b/\w.cell? ⟨b,off,none⟩=some (.bool x):=by
 obtain⟨cs,rfl,h⟩:=h;exact h 0 _ rfl
theorem At.str {F:Nat->Prop} {w:World} {b off:Nat} {s:ByteArray} (h:At F w b off s):F b/\w.cell? ⟨b,off,none⟩=some (.string s)/\s.size<=9223372036854775807:=by
 obtain⟨cs,⟨rfl,hi⟩,h⟩:=h;exact⟨(h 0 _ rfl).1,(h 0 _ rfl).2,hi⟩
theorem At.u8 {F:Nat->Prop} {w:World} {b off:Nat} {n:UInt8} (h:At F w b off n):F b/\w.cell? ⟨b,off,none⟩=some (.int .u8 n.toNat):=by
 obtain⟨cs,rfl,h⟩:=h;exact h 0 _ rfl
theorem At.u64 {F:Nat->Prop} {w:World} {b off:Nat} {n:UInt64} (h:At F w b off n):F b/\w.cell? ⟨b,off,none⟩=some (.int .u64 n.toNat):=by
 obtain⟨cs,rfl,h⟩:=h;exact h 0 _ rfl
theorem At.list {α:Type} [aA α] {F:Nat->Prop} {w:World} {b off:Nat} {l:List α} (h:At F w b off l):F b/\∃ A n c,w.cell? ⟨b,off,none⟩=some (.slice A n c)/\Sl F w A n c l:=by
 obtain⟨cs,⟨A,n,c,rfl,hi⟩,h⟩:=h;exact⟨(h 0 _ rfl).1,A,n,c,(h 0 _ rfl).2,hi⟩
theorem At.fst {α β:Type} [aA α] [aA β] {F:Nat->Prop} {w:World} {b off:Nat} {p:α×β} (h:At F w b off p):At F w b off p.1:=by
 obtain⟨cs,⟨c1,c2,rfl,h1,h2⟩,h⟩:=h;refine⟨c1,h1,fun j u hu=>h j u ?_⟩;rw[List.getElem?_append_left (List.getElem?_eq_some_iff.1 hu).1];exact hu
abbrev Col:=Nat->Nat
def In (χ:Col) (k:Nat):Nat->Prop:=fun b=>χ b=k
structure Step (T:List Nat) (χ:Col) (w:World) (χ':Col) (w':World):Prop where
 os:w'.os=w.os
 tape:w'.tape=w.tape
 output:w'.output=w.output
 size:w.heap.size<=w'.heap.size
 col:∀ b,b<w.heap.size->χ' b=χ b
 block:∀ b,b<w.heap.size->χ b∉T->w'.heap[b]?=w.heap[b]?
section
variable {T:List Nat} {χ χ' χ'':Col} {w w' w'':World}
theorem Step.refl (T:List Nat) (χ:Col) (w:World):Step T χ w χ w:=⟨rfl,rfl,rfl,Nat.le_refl _,fun _ _=>rfl,fun _ _ _=>rfl⟩
theorem Step.trans (h:Step T χ w χ' w') (k:Step T χ' w' χ'' w''):Step T χ w χ'' w'' :=
 ⟨k.os.trans h.os,k.tape.trans h.tape,k.output.trans h.output,Nat.le_trans h.size k.size,
  fun b hb=>(k.col b (Nat.lt_of_lt_of_le hb h.size)).trans (h.col b hb),
  fun b hb hT=>(k.block b (Nat.lt_of_lt_of_le hb h.size) (by rw[h.col b hb]; exact hT)).trans (h.block b hb hT)⟩
theorem Step.wide {T':List Nat} (h:Step T χ w χ' w') (hT:∀ k,k∈T->k∈T'):Step T' χ w χ' w' :=
 ⟨h.os,h.tape,h.output,h.size,h.col,fun b hb hk=>h.block b hb fun hk'=>hk (hT _ hk')⟩
theorem Step.RF {T':List Nat} (h:Step T' χ w χ' w') (hT:∀ b,b<w.heap.size->χ b∈T'->χ b∈T):Step T χ w χ' w' :=
 ⟨h.os,h.tape,h.output,h.size,h.col,fun b hb hk=>h.block b hb fun hk'=>hk (hT b hb hk')⟩
theorem Step.FV (h:Step T χ w χ' w') (hc:∀ b,b<w.heap.size->χ'' b=χ' b):Step T χ w χ'' w' :=
 ⟨h.os,h.tape,h.output,h.size,fun b hb=>(hc b hb).trans (h.col b hb),h.block⟩
theorem Step.drew (h:Step T χ w χ' w'):Step T χ w χ' w'.drew:=⟨h.os,h.tape,h.output,h.size,h.col,h.block⟩
theorem Step.drewN (h:Step T χ w χ' w') (n:Nat):Step T χ w χ' (w'.drewN n):=⟨h.os,h.tape,h.output,h.size,h.col,h.block⟩
theorem Step.alloc (h:Step T χ w χ' w') (o:Obj):Step T χ w χ' (w'.alloc o) :=
 ⟨h.os,h.tape,h.output,by simp; have:=h.size; omega,h.col,fun b hb hT=>(Below.heap_alloc w' o b (Nat.lt_of_lt_of_le hb h.size)).trans (h.block b hb hT)⟩
theorem Step.setCell (h:Step T χ w χ' w') {p:Addr} (hp:χ' p.block∈T\/w.heap.size<=p.block) (u:Value):Step T χ w χ' (w'.setCell p u) :=
 ⟨h.os,h.tape,h.output,by simpa [World.setCell] using h.size,h.col,fun b hb hT=>(Below.heap_setCell w' p u b (by
  rintro rfl;rcases hp with hp | hp
  ·rw[h.col _ hb] at hp; exact hT hp
  ·omega)).trans (h.block b hb hT)⟩
theorem Step.B8 (hb:Below w.heap.size w w') (hc:∀ b,b<w.heap.size->χ' b=χ b):Step T χ w χ' w' :=
 ⟨hb.os,hb.tape,hb.output,hb.size,hc,fun b hb' _=>hb.block b hb'⟩
theorem Step.below {B:Nat} (h:Step T χ w χ' w') (hB:B<=w.heap.size) (hT:∀ b,b<B->χ b∉T):Below B w w' :=
 ⟨h.os,h.tape,h.output,h.size,fun b hb=>h.block b (by omega) (hT b hb)⟩
def Norm (χ:Col) (w:World):Prop := ∀ b,w.heap.size<=b->χ b=0
def clip (χ:Col) (n:Nat):Col:=fun b=>if b<n then χ b else 0
theorem wC {χ:Col} {n b:Nat} (h:b<n):clip χ n b=χ b:=by simp [clip,h]
theorem Hl (χ:Col) (w:World):Norm (clip χ w.heap.size) w:=fun b hb=>by unfold clip; rw[if_neg (by omega)]
theorem Step.clip (h:Step T χ w χ' w'):Step T χ w (clip χ' w'.heap.size) w':=h.FV fun b hb=>wC (Nat.lt_of_lt_of_le hb h.size)
theorem Norm.alloc (h:Norm χ w) (o:Obj):Norm χ (w.alloc o):=fun b hb=>h b (by simp at hb; omega)
theorem Norm.drew (h:Norm χ w):Norm χ w.drew:=h
theorem Norm.drewN (h:Norm χ w) (n:Nat):Norm χ (w.drewN n):=h
theorem Norm.at_ (h:Norm χ w):χ w.heap.size=0:=h _ (Nat.le_refl _)
theorem Norm.zero (w:World):Norm (fun _=>0) w:=fun _ _=>rfl
theorem Step.fr (h:Step T χ w χ' w') {k:Nat} (hk:k∉T):∀ b,In χ k b->b<w.heap.size->In χ' k b/\w'.heap[b]?=w.heap[b]? :=
 fun b hb hl=>⟨(h.col b hl).trans hb,h.block b hl (by rw[show χ b=k from hb]; exact hk)⟩
end
theorem Sl.clip {α:Type} [aA α] {χ:Col} {w:World} {k:Nat} {A:Option Addr} {n c:Nat} {l:List α} (h:Sl (In χ k) w A n c l):Sl (In (Lad.clip χ w.heap.size) k) w A n c l :=
 h.frame fun b hb hl=>⟨(wC hl).trans hb,rfl⟩
theorem Sl.step {α:Type} [aA α] {T:List Nat} {χ χ':Col} {w w':World} {k:Nat} {A:Option Addr} {n c:Nat} {l:List α} (h:Sl (In χ k) w A n c l) (s:Step T χ w χ' w') (hk:k∉T):Sl (In χ' k) w' A n c l :=
 h.frame (s.fr hk)
theorem At.step {α:Type} [aA α] {T:List Nat} {χ χ':Col} {w w':World} {k b off:Nat} {x:α} (h:At (In χ k) w b off x) (s:Step T χ w χ' w') (hk:k∉T):At (In χ' k) w' b off x :=
 h.frame (s.fr hk)
def chunk (size i:Nat) (xs:List Value):List Value:=(xs.drop (i * size)).take size
def lB:Value->Nat
 | .slice (some a) _ _=>a.off
 | _=>0
def Qr (_:TypeId):Bool:=false
def jD (w:World) (g:Nat) (cur:Array Value) (e:TypeId):Prop := ∃ fr:Nat×Nat,w.heap[g]?=some (.cells cur e fr)/\(fr.2<=fr.1\/(cur.size<=fr.1/\Qr e=true))
theorem jD.of {w:World} {g:Nat} {cur:Array Value} {e:TypeId} (h:w.heap[g]?=some (.cells cur e (0,0))):jD w g cur e:=⟨_,h,.inl (Nat.le_refl _)⟩
theorem jD.lt {w:World} {g:Nat} {cur:Array Value} {e:TypeId} (h:jD w g cur e):g<w.heap.size:=by
 obtain⟨fr,h,_⟩:=h;exact (Array.getElem?_eq_some_iff.1 h).1
theorem jD.frame {w w':World} {g:Nat} {cur:Array Value} {e:TypeId} (h:jD w g cur e) (hb:w'.heap[g]?=w.heap[g]?):jD w' g cur e:=by
 obtain⟨fr,h,h2⟩:=h;exact⟨fr,hb.trans h,h2⟩
theorem jD.cell {w:World} {g:Nat} {cur:Array Value} {e:TypeId} (h:jD w g cur e) (i:Nat):w.cell? ⟨g,i,none⟩=cur[i]? := by
 obtain⟨fr,h,_⟩:=h;exact cell_of_row w g i cur e fr h
theorem jD.set {w:World} {g:Nat} {cur:Array Value} {e:TypeId} (h:jD w g cur e) (cs:Array Value) (hs:cs.size=cur.size):jD (w.setRow g cs) g cs e:=by
 obtain⟨fr,h,h2⟩:=h;exact⟨fr,setRow_heap w g cur _ e _ h,by rw[hs]; exact h2⟩
theorem jE (P:Program) (g o:Nat) (t:TypeId):∀ (vs:List Value) (i:Nat) (cur:Array Value) (w:World),jD w g cur t->o+i+vs.length<=cur.size->(∀ v∈vs,v.oneCell'=true) ->
  (storeCells ⟨g,o,none⟩ vs i).run P w = .ok () (w.setRow g (cur.toList.take (o+i)++vs++cur.toList.drop (o+i+vs.length)).toArray)
 | [],i,cur,w,⟨fr,hg,_⟩,_,_=>by
  simp only[storeCells,List.append_nil,List.length_nil,Nat.add_zero,List.take_append_drop,Array.toArray_toList];rw[setRow_self w g cur t fr hg];rfl
 | v::rest,i,cur,w,⟨fr,hg,hfz⟩,hl,h1=>by
  have hi:o+i<cur.size:=by simp at hl; omega
  have hadd:(⟨g,o,none⟩:Addr).add i=⟨g,o+i,none⟩:=by unfold Addr.add; split <;> simp_all
  have hcell:w.cell? ⟨g,o+i,none⟩=some cur[o+i]:=by simp [World.cell?,hg,hi]
  have hfro:w.frozen? ⟨g,o+i,none⟩=false:=by
   obtain⟨lo,hi'⟩:=fr;simp only[World.frozen?,hg,Bool.and_eq_false_iff,decide_eq_false_iff_not];have hfz:=hfz.imp_right And.left;simp only at hfz;omega
  have hst:(store ((⟨g,o,none⟩:Addr).add i) v).run P w = .ok () (w.setRow g (cur.setIfInBounds (o+i) v)):=by
   rw[hadd,run_store P w _ v _ (h1 v (by simp)),hcell];simp [hfro,setCell_eq_setRow w g (o+i) cur t fr v hg]
  have ih:=jE P g o t rest (i+1) (cur.setIfInBounds (o+i) v) (w.setRow g (cur.setIfInBounds (o+i) v)) (jD.set ⟨fr,hg,hfz⟩ _ (by simp)) (by simp at hl ⊢; omega) (fun x hx=>h1 x (by simp [hx]));simp only[storeCells,Sem.run_bind,hst,Result.andThen_ok,ih,setRow_setRow];congr 3;have e:=list_seg_step cur.toList (o+i) v rest (by simp at hl ⊢; omega)
  simpa [Array.toList_setIfInBounds,Nat.add_assoc] using e
def jq (w:World) (e:TypeId) (size:Nat) (v:Value) (n:Nat) (xs:List Value):Prop :=
 xs.length=n * size /\
 ((v = .slice none 0 0/\n=0) \/
  ∃ g cap cur off,v = .slice (some ⟨g,off,none⟩) n cap/\0<=g/\jD w g cur e/\n<=cap/\cap<=maxLen/\off+cap * size<=cur.size/\(cur.toList.drop off).take (n * size)=xs)
section
variable {w:World} {e:TypeId} {size:Nat} {v:Value} {n:Nat} {xs:List Value}
theorem B9 (w:World) (e:TypeId) (size:Nat):jq w e size (.slice none 0 0) 0 []:=⟨by simp,.inl ⟨rfl,rfl⟩⟩
theorem jq.of (h:w.ownsRow 0 e size v n xs):jq w e size v n xs:=by
 refine⟨h.1,?_⟩;rcases h.2 with hn | ⟨g,cap,cur,rfl,hb,hgg,hc,hm,hcs,hr⟩
 ·exact .inl hn
 ·exact .inr ⟨g,cap,cur,0,rfl,hb,.of hgg,hc,hm,by omega,by simpa using hr⟩
theorem jq.lt (h:jq w e size v n xs):∀ k,v.ownBlock=some k->0<=k/\k<w.heap.size:=by
 intro k hk;rcases h.2 with⟨rfl,_⟩ | ⟨g,cap,cur,off,rfl,hb,hg,_⟩
 ·simp [Value.ownBlock] at hk
 ·simp [Value.ownBlock] at hk;subst hk;exact⟨hb,hg.lt⟩
theorem jq.kept {w':World} {row:Option Nat} (h:jq w e size v n xs) (hg:w.grownBy w' row) (hne:v.ownBlock=none\/v.ownBlock≠row):jq w' e size v n xs:=by
 refine⟨h.1,?_⟩;rcases h.2 with hn | ⟨g,cap,cur,off,rfl,hb,hgg,rest⟩
 ·exact .inl hn
 ·refine .inr ⟨g,cap,cur,off,rfl,hb,?_,rest⟩;exact hgg.frame (hg.block g hgg.lt (by simpa [Value.ownBlock] using hne))
theorem jq.alloc (h:jq w e size v n xs) (o:Obj):jq (w.alloc o) e size v n xs :=
 h.kept (World.grownBy_alloc w o none) (by cases hv:v.ownBlock <;> simp)
theorem jq.cells (h:jq w e size v n xs) {g:Nat} (hg:v.ownBlock=some g):∀ j u,xs[j]?=some u->w.cell? ((⟨g,lB v,none⟩:Addr).add j)=some u:=by
 intro j u hu;rcases h.2 with⟨rfl,_⟩ | ⟨g',cap,cur,off,rfl,_,hgg,_,_,_,htake⟩
 ·simp [Value.ownBlock] at hg
 ·simp [Value.ownBlock] at hg;subst hg;show w.cell? ((⟨g',off,none⟩:Addr).add j)=some u;rw[fY,hgg.cell];rw[← htake,List.getElem?_take] at hu;split at hu
  ·rw[List.getElem?_drop] at hu; simpa using hu
  ·cases hu
theorem jq.part (h:jq w e size v n xs) {A:Option Addr} {c i m:Nat} (hv:v = .slice A n c) (him:i+m<=n) :
  jq w e size (.slice (if c=i then A else A.map (·.add (i * size))) m (c-i)) m ((xs.drop (i * size)).take (m * size)):=by
 have hxl:=h.1;have h1:i * size+m * size<=n * size:=by rw[← Nat.add_mul]; exact Nat.mul_le_mul_right _ him
 refine⟨by rw[List.length_take,List.length_drop]; omega,?_⟩;rcases h.2 with⟨hv',hn⟩ | ⟨g,cap,cur,off,hv',hb,hgg,hc,hm,hcs,hr⟩
 ·rw[hv] at hv';injection hv' with e1 e2 e3
  subst e1 e3;have:i=0:=by omega
  have hm0:m=0:=by omega
  subst this hm0;exact .inl ⟨by simp,rfl⟩
 ·rw[hv] at hv';injection hv' with e1 e2 e3
  subst e1 e3;by_cases hci:c=i
  ·have hm0:m=0:=by omega
   subst hm0;rw[if_pos hci];refine .inr ⟨g,c-i,cur,off,rfl,hb,hgg,by omega,by omega,?_,by simp⟩;have:c-i=0:=by omega
   rw[this];have:0 * size<=c * size:=Nat.mul_le_mul_right _ (by omega);omega
  ·rw[if_neg hci];refine .inr ⟨g,c-i,cur,off+i * size,?_,hb,hgg,by omega,by omega,?_,?_⟩
   ·show Value.slice (some ((⟨g,off,none⟩:Addr).add (i * size))) m (c-i)=_;rw[fY]
   ·have:i * size+(c-i) * size=c * size:=by rw[← Nat.add_mul]; congr 1; omega
    omega
   ·rw[← hr,List.drop_take,List.take_take,List.drop_drop,Nat.min_eq_left (by omega)]
end
structure Own {α:Type} [aA α] (k:Nat) (χ:Col) (e:TypeId) (w:World) (v:Value) (l:List α):Prop where
 ex:∃ xs,jq w e (aA.sz α) v l.length xs/\∀ i x,l[i]?=some x->aA.rd (In χ 0) w (chunk (aA.sz α) i xs) x
 col:∀ g,v.ownBlock=some g->χ g=k
section
variable {α:Type} [aA α] {T:List Nat} {k:Nat} {χ χ':Col} {e:TypeId} {w w':World} {v:Value} {l:List α}
theorem Own.nil (k:Nat) (χ:Col) (e:TypeId) (w:World):Own k χ e w (.slice none 0 0) ([]:List α) :=
 ⟨⟨[],B9 w e _,by simp⟩,by simp [Value.ownBlock]⟩
theorem Own.step (h:Own k χ e w v l) (s:Step T χ w χ' w') (hk:k∉T) (h0:0∉T):Own k χ' e w' v l:=by
 obtain⟨⟨xs,h1,h2⟩,h3⟩:=h;refine⟨⟨xs,⟨h1.1,?_⟩,fun i x hx=>aA.frame (s.fr h0) (h2 i x hx)⟩,fun g hg=>?_⟩
 ·rcases h1.2 with hn | ⟨g,cap,cur,off,rfl,hb,hgg,rest⟩
  ·exact .inl hn
  ·refine .inr ⟨g,cap,cur,off,rfl,hb,?_,rest⟩;exact hgg.frame (s.block g hgg.lt (by rw[h3 g rfl]; exact hk))
 ·rw[s.col g (h1.lt g hg).2]; exact h3 g hg
theorem Own.Qs [Plain α] (h:Own k χ e w v l) (s:Step T χ w χ' w') (hk:k∉T):Own k χ' e w' v l:=by
 obtain⟨⟨xs,h1,h2⟩,h3⟩:=h;refine⟨⟨xs,⟨h1.1,?_⟩,fun i x hx=>Plain.any (h2 i x hx)⟩,fun g hg=>?_⟩
 ·rcases h1.2 with hn | ⟨g,cap,cur,off,rfl,hb,hgg,rest⟩
  ·exact .inl hn
  ·refine .inr ⟨g,cap,cur,off,rfl,hb,?_,rest⟩;exact hgg.frame (s.block g hgg.lt (by rw[h3 g rfl]; exact hk))
 ·rw[s.col g (h1.lt g hg).2]; exact h3 g hg
theorem Own.clip (h:Own k χ e w v l):Own k (clip χ w.heap.size) e w v l:=by
 obtain⟨⟨xs,h1,h2⟩,h3⟩:=h;refine⟨⟨xs,h1,fun i x hx=>aA.frame (F:=In χ 0) (F':=In (Lad.clip χ w.heap.size) 0) (fun b hb hl=>⟨(wC hl).trans hb,rfl⟩) (h2 i x hx)⟩,fun g hg=>(wC (h1.lt g hg).2).trans (h3 g hg)⟩
theorem Own.alloc (h:Own k χ e w v l) (o:Obj):Own k χ e (w.alloc o) v l:=by
 obtain⟨⟨xs,h1,h2⟩,h3⟩:=h;exact⟨⟨xs,h1.alloc o,fun i x hx=>aA.frame (fun b hb hl=>⟨hb,Below.heap_alloc w o b hl⟩) (h2 i x hx)⟩,h3⟩
theorem Own.drew (h:Own k χ e w v l):Own k χ e w.drew v l:=by
 obtain⟨⟨xs,h1,h2⟩,h3⟩:=h;exact⟨⟨xs,h1,fun i x hx=>aA.frame (w:=w) (w':=w.drew) (F:=In χ 0) (F':=In χ 0) (fun b hb hl=>⟨hb,rfl⟩) (h2 i x hx)⟩,h3⟩
theorem Own.drewN (h:Own k χ e w v l) (j:Nat):Own k χ e (w.drewN j) v l:=by
 obtain⟨⟨xs,h1,h2⟩,h3⟩:=h;exact⟨⟨xs,h1,fun i x hx=>aA.frame (w:=w) (w':=w.drewN j) (F:=In χ 0) (F':=In χ 0) (fun b hb hl=>⟨hb,rfl⟩) (h2 i x hx)⟩,h3⟩
theorem Own.form (h:Own k χ e w v l):∃ A c,v = .slice A l.length c/\l.length<=c/\c<=9223372036854775807:=by
 obtain⟨⟨xs,h1,h2⟩,h3⟩:=h;rcases h1.2 with⟨rfl,hn⟩ | ⟨g,cap,cur,off,rfl,hb,hgg,hc,hm,rest⟩
 ·exact⟨none,0,by rw[hn],by omega,by omega⟩
 ·exact⟨_,cap,rfl,hc,hm⟩
theorem uR {size i j:Nat} {xs:List Value} {u:Value} (h:(chunk size i xs)[j]?=some u):j<size/\xs[i * size+j]?=some u:=by
 unfold chunk at h;rw[List.getElem?_take] at h;split at h
 ·rw[List.getElem?_drop] at h; exact⟨by assumption,h⟩
 ·cases h
theorem Own.sl (h:Own k χ e w v l):∃ A c,v = .slice A l.length c/\Sl (fun b=>χ b=k\/χ b=0) w A l.length c l:=by
 obtain⟨⟨xs,h1,h2⟩,h3⟩:=h;rcases h1.2 with⟨rfl,hn⟩ | ⟨g,cap,cur,off,rfl,hb,hgg,hc,hm,hr⟩
 ·have:l=[]:=List.eq_nil_of_length_eq_zero hn;subst this;exact⟨none,0,rfl,Sl.empty _ _⟩
 ·refine⟨_,cap,rfl,rfl,hc,hm,(by intro h; cases h),fun hn=>⟨g,off,rfl,fun i x hx=>⟨chunk (aA.sz α) i xs,aA.frame (fun b hb _=>⟨.inr hb,rfl⟩) (h2 i x hx),fun j u hu=>⟨.inl (h3 g rfl),?_⟩⟩⟩⟩;obtain⟨_,hu'⟩:=uR hu;have:=h1.cells (g:=g) rfl _ u hu'
  rwa [fY,← Nat.add_assoc] at this
end
def Blk (w:World) (g:Nat) (t:TypeId) (cs:Array Value):Prop:=w.heap[g]?=some (.cells cs t (0,0))
section
variable {w w':World} {g:Nat} {t:TypeId} {cs:Array Value}
theorem Blk.lt (h:Blk w g t cs):g<w.heap.size:=by
 rcases Nat.lt_or_ge g w.heap.size with hlt | hge
 ·exact hlt
 ·unfold Blk at h; rw[Array.getElem?_eq_none hge] at h; cases h
theorem Blk.cell (h:Blk w g t cs) (i:Nat):w.cell? ⟨g,i,none⟩=cs[i]? := cell_of_row w g i cs t (0,0) h
theorem Blk.frozen (h:Blk w g t cs) (i:Nat):w.frozen? ⟨g,i,none⟩=false:=by
 unfold Blk at h;simp [World.frozen?,h]
theorem Blk.new (w:World) (t:TypeId) (cs:Array Value):Blk (w.alloc (.cells cs t)) w.heap.size t cs:=heap_alloc_new w _
theorem Blk.fresh (w:World) (t:TypeId) (cs:Array Value) {g:Nat} (hg:w.heap.size=g):Blk (w.alloc (.cells cs t)) g t cs:=hg ▸ heap_alloc_new w _
theorem Blk.alloc (h:Blk w g t cs) (o:Obj):Blk (w.alloc o) g t cs:=(Below.heap_alloc w o g h.lt).trans h
theorem Blk.drew (h:Blk w g t cs):Blk w.drew g t cs:=h
theorem Blk.drewN (h:Blk w g t cs) (n:Nat):Blk (w.drewN n) g t cs:=h
theorem Blk.Hm (h:Blk w g t cs) (i:Nat) (u:Value):Blk (w.setCell ⟨g,i,none⟩ u) g t (cs.setIfInBounds i u):=by
 unfold Blk at h ⊢;simp [World.setCell,Array.getElem?_modify,h]
theorem Blk.far (h:Blk w g t cs) {p:Addr} (hp:g≠p.block) (u:Value):Blk (w.setCell p u) g t cs:=(Below.heap_setCell w p u g hp).trans h
theorem Blk.below {B:Nat} (h:Blk w g t cs) (hb:Below B w w') (hg:g<B):Blk w' g t cs:=(hb.block g hg).trans h
theorem Blk.step {T:List Nat} {χ χ':Col} (h:Blk w g t cs) (s:Step T χ w χ' w') (hg:χ g∉T):Blk w' g t cs:=(s.block g h.lt hg).trans h
theorem Blk.at_ {α:Type} [aA α] {F:Nat->Prop} {x:α} (h:Blk w g t cs) (hF:F g) (hrd:aA.rd F w cs.toList x):At F w g 0 x :=
 ⟨_,hrd,fun j u hu=>⟨hF,by rw[Nat.zero_add,h.cell]; simpa using hu⟩⟩
end
theorem Own.ne {α:Type} [aA α] {k:Nat} {χ:Col} {e:TypeId} {w:World} {v:Value} {l:List α} (h:Own k χ e w v l) {g:Nat} {t:TypeId} {cs:Array Value} (hg:Blk w g t cs) (ht:e≠t):v.ownBlock≠some g:=by
 obtain⟨⟨xs,h1,_⟩,_⟩:=h;rcases h1.2 with⟨rfl,_⟩ | ⟨g',cap,cur,off,rfl,_,hh,_⟩
 ·simp [Value.ownBlock]
 ·intro he;have:g'=g:=by simpa [Value.ownBlock] using he
  subst this;obtain⟨fr,hh,_⟩:=hh;unfold Blk at hg;rw[hh] at hg;injection hg with hg
  injection hg with _ hg
  exact ht hg
theorem Own.Ei {α:Type} [aA α] {k:Nat} {χ:Col} {e:TypeId} {w:World} {v:Value} {l:List α} (h:Own k χ e w v l) {g:Nat} {es:Array MapEntry} {c:Nat} (hg:w.heap[g]?=some (.map es c)):v.ownBlock≠some g:=by
 obtain⟨⟨xs,h1,_⟩,_⟩:=h;rcases h1.2 with⟨rfl,_⟩ | ⟨g',cap,cur,off,rfl,_,hh,_⟩
 ·simp [Value.ownBlock]
 ·intro he;have:g'=g:=by simpa [Value.ownBlock] using he
  subst this;obtain⟨fr,hh,_⟩:=hh;rw[hh] at hg;cases hg
theorem Own.FV {α:Type} [aA α] [Plain α] {k k':Nat} {χ χ':Col} {e:TypeId} {w:World} {v:Value} {l:List α} (h:Own k χ e w v l) (hc:∀ g,v.ownBlock=some g->g<w.heap.size->χ g=k->χ' g=k'):Own k' χ' e w v l:=by
 obtain⟨⟨xs,h1,h2⟩,h3⟩:=h;exact⟨⟨xs,h1,fun i x hx=>Plain.any (h2 i x hx)⟩,fun g hg=>hc g hg (h1.lt g hg).2 (h3 g hg)⟩
structure Box (k:Nat) (χ:Col) (w:World) (b:Nat) (t:TypeId) (cs:Array Value):Prop where
 blk:Blk w b t cs
 col:χ b=k
theorem Box.step {k:Nat} {T:List Nat} {χ χ':Col} {w w':World} {b:Nat} {t:TypeId} {cs:Array Value} (h:Box k χ w b t cs) (s:Step T χ w χ' w') (h0:k∉T):Box k χ' w' b t cs :=
 ⟨h.blk.step s (by rw[h.col]; exact h0),(s.col _ h.blk.lt).trans h.col⟩
theorem Box.alloc {k:Nat} {χ:Col} {w:World} {b:Nat} {t:TypeId} {cs:Array Value} (h:Box k χ w b t cs) (o:Obj):Box k χ (w.alloc o) b t cs:=⟨h.blk.alloc o,h.col⟩
theorem Box.drew {k:Nat} {χ:Col} {w:World} {b:Nat} {t:TypeId} {cs:Array Value} (h:Box k χ w b t cs):Box k χ w.drew b t cs:=⟨h.blk,h.col⟩
theorem Box.drewN {k:Nat} {χ:Col} {w:World} {b:Nat} {t:TypeId} {cs:Array Value} (h:Box k χ w b t cs) (n:Nat):Box k χ (w.drewN n) b t cs:=⟨h.blk,h.col⟩
theorem Box.new {χ:Col} {w:World} {t:TypeId} {cs:Array Value} {b:Nat} (hb:w.heap.size=b) (hn:Norm χ w):Box 0 χ (w.alloc (.cells cs t)) b t cs:=⟨Blk.fresh _ _ _ hb,by subst hb; exact hn.at_⟩
def merge (χ χ2:Col) (n k:Nat):Col:=fun b=>if b<n then χ b else if χ2 b=0 then 0 else k
theorem Step.merge {T:List Nat} {χ χ1 χ2:Col} {w w':World} {k:Nat} (h:Step T χ1 w χ2 w') (hT:∀ b,b<w.heap.size->χ1 b∈T->χ b=k):Step [k] χ w (merge χ χ2 w.heap.size k) w' :=
 ⟨h.os,h.tape,h.output,h.size,fun b hb=>by simp [Lad.merge,hb],fun b hb hk=>h.block b hb fun ht=>hk (by rw[hT b hb ht]; simp)⟩
def Ja {α:Type} [aA α] (B:Nat) (e:TypeId) (w:World) (v:Value) (l:List α):Prop := ∃ χ,Own 1 χ e w v l/\∀ b,b<B->χ b=0
theorem Ja.col {α:Type} [aA α] [Plain α] {e:TypeId} {w w':World} {v:Value} {l:List α} (h:Ja w.heap.size e w' v l) (hb:Below w.heap.size w w') (χ:Col) (k:Nat) :
  ∃ χ',Step [] χ w χ' w'/\Own k χ' e w' v l/\∀ b,w.heap.size<=b->χ' b=k\/χ' b=0:=by
 obtain⟨χ2,ho,hn⟩:=h;refine⟨merge χ χ2 w.heap.size k,Step.B8 hb fun b hb'=>by simp [merge,hb'],ho.FV fun g _ _ hg=>?_,fun b hb'=>?_⟩
 ·unfold merge;split
  ·rename_i hlt;rw[hn g hlt] at hg;cases hg
  ·rw[hg]; simp
 ·unfold merge;rw[if_neg (by omega)];split
  ·exact .inr rfl
  ·exact .inl rfl
theorem Sl.row {α:Type} [aA α] {F:Nat->Prop} {w:World} {A:Option Addr} {n c:Nat} {l:List α} (h:Sl F w A n c l) :
  ∃ xs:List Value,xs.length=n * aA.sz α/\(∀ u∈xs,u.oneCell'=true)/\(∀ i x,l[i]?=some x->aA.rd F w (chunk (aA.sz α) i xs) x) /\
   (0<n->∃ b off,A=some ⟨b,off,none⟩/\∀ j u,xs[j]?=some u->w.cell? ⟨b,off+j,none⟩=some u):=by
 rcases Nat.eq_zero_or_pos n with hn | hn
 ·have:l=[]:=List.eq_nil_of_length_eq_zero (by rw[h.len,hn]);subst this hn;exact⟨[],by simp,by simp,by simp,fun h=>absurd h (by omega)⟩
 obtain⟨b,off,rfl,H⟩:=h.at_ hn;have key:∀ (m:Nat),m<=n->∃ xs:List Value,xs.length=m * aA.sz α/\(∀ u∈xs,u.oneCell'=true)/\(∀ i x,i<m->l[i]?=some x->aA.rd F w (chunk (aA.sz α) i xs) x) /\
   ∀ j u,xs[j]?=some u->w.cell? ⟨b,off+j,none⟩=some u:=by
  intro m;induction m with
  | zero=>exact fun _=>⟨[],by simp,by simp,fun i x hi=>absurd hi (by omega),by simp⟩
  | succ m ih =>
   intro hm;obtain⟨xs,h1,h1c,h2,h3⟩:=ih (by omega);have hl:m<l.length:=by rw[h.len]; omega
   obtain⟨cs,hrd,hcs⟩:=H m l[m] (List.getElem?_eq_getElem hl);have hlen:=aA.len hrd;refine⟨xs++cs,by rw[List.length_append,h1,hlen,Nat.succ_mul],?_,fun i x hi hx=>?_,fun j u hu=>?_⟩
   ·intro u hu;rcases List.mem_append.1 hu with hu | hu
    ·exact h1c u hu
    ·exact aA.one hrd u hu
   ·rcases Nat.lt_or_ge i m with him | him
    ·have e1:chunk (aA.sz α) i (xs++cs)=chunk (aA.sz α) i xs:=by
      unfold chunk;have:i * aA.sz α+aA.sz α<=xs.length:=by
       rw[h1,← Nat.succ_mul]; exact Nat.mul_le_mul_right _ him
      rw[List.drop_append_of_le_length (by omega),List.take_append_of_le_length (by rw[List.length_drop]; omega)]
     rw[e1]; exact h2 i x him hx
    ·obtain rfl:i=m:=by omega
     have e1:chunk (aA.sz α) i (xs++cs)=cs:=by
      unfold chunk;rw[← h1,List.drop_left,List.take_of_length_le (by omega)]
     rw[e1];rw[List.getElem?_eq_getElem hl] at hx;injection hx with hx
     rw[← hx]; exact hrd
   ·rcases Nat.lt_or_ge j xs.length with hj | hj
    ·rw[List.getElem?_append_left hj] at hu; exact h3 j u hu
    ·rw[List.getElem?_append_right hj] at hu;have:=(hcs _ u hu).2;rw[← h1] at this
     rwa [Nat.add_assoc,Nat.add_sub_cancel' hj] at this
 obtain⟨xs,h1,h1c,h2,h3⟩:=key n (Nat.le_refl _);exact⟨xs,h1,h1c,fun i x hx=>h2 i x (by rw[← h.len]; exact (List.getElem?_eq_some_iff.1 hx).1) hx,fun _=>⟨b,off,rfl,h3⟩⟩
structure Ej (P:Program) (t e:TypeId) (size:Nat):Prop where
 ty:P.underlying t=some (.slice e)
 ex:∃ i z,P.info? e=some i/\i.zero=some z/\i.size=size/\i.bytes<=65536/\z.cells.size=size
 pos:0<size
theorem tJ {P:Program} (w:World) (t ty e:TypeId) (i:TypeInfo) (size:Nat) (ht:P.underlying t=some (.slice e)) (hi:P.info? e=some i)
  (v:Value) (n:Nat) (xs:List Value) (hown:jq w e size v n xs) (c:Nat):(Builtin.append_ #[t,t] ty #[v,.slice none 0 c]).run P w = .ok v w:=by
 rcases hown.2 with⟨rfl,rfl⟩ | ⟨g,cap,cur,off,rfl,_,_,hnc,_⟩
 ·simp [Builtin.append_,run_underlying ht,sizeOf,typeInfo,hi,Builtin.lenOf,Builtin.firstCells]
 ·simp [Builtin.append_,run_underlying ht,sizeOf,typeInfo,hi,Builtin.lenOf,Builtin.firstCells,hnc,storeCells]
theorem tK {P:Program} (w:World) (t ty e:TypeId) (i:TypeInfo) (ht:P.underlying t=some (.slice e)) (hi:P.info? e=some i)
  (g off sLen sCap:Nat) (cur:Array Value) (hg:jD w g cur e)
  (a:Addr) (m c:Nat) (news:List Value) (hl:news.length=m * i.size) (hnews:∀ j u,news[j]?=some u->w.cell? (a.add j)=some u) (h1:∀ u∈news,u.oneCell'=true)
  (hroom:sLen+m<=sCap) (hfit:off+sLen * i.size+news.length<=cur.size) :
  (Builtin.append_ #[t,t] ty #[.slice (some ⟨g,off,none⟩) sLen sCap,.slice (some a) m c]).run P w =
   .ok (.slice (some ⟨g,off,none⟩) (sLen+m) sCap) (w.setRow g (cur.toList.take (off+sLen * i.size)++news++cur.toList.drop (off+sLen * i.size+news.length)).toArray):=by
 have hf:=run_firstCells_some (P:=P) w i.size m a m c news hl hnews;have hst:=jE P g (off+sLen * i.size) e news 0 cur w hg (by simpa using hfit) h1;simp only[Nat.add_zero] at hst;simp [Builtin.append_,run_underlying ht,sizeOf,typeInfo,hi,Builtin.lenOf,hroom,hf,fY,hst]
theorem qj {P:Program} (w:World) (t ty e:TypeId) (i:TypeInfo) (z:Value) (size bytes:Nat) (ht:P.underlying t=some (.slice e)) (hi:P.info? e=some i) (hz:i.zero=some z)
  (hsize:i.size=size) (hby:i.bytes=bytes) (hzs:z.cells.size=size) (hsz:0<size)
  (v:Value) (n:Nat) (xs:List Value) (hown:jq w e size v n xs)
  (a:Addr) (m c:Nat) (news:List Value) (hl:news.length=m * size) (hnews:∀ j u,news[j]?=some u->w.cell? (a.add j)=some u) (h1:∀ u∈news,u.oneCell'=true)
  (h63:n+m<=maxLen) (hbytes:(n+m) * bytes<=140737488355328) :
  ∃ v' w',(Builtin.append_ #[t,t] ty #[v,.slice (some a) m c]).run P w = .ok v' w'/\jq w' e size v' (n+m) (xs++news)/\w.grownBy w' v.ownBlock /\
   (v' = .slice none 0 0↔v = .slice none 0 0/\m=0)/\(v'.ownBlock=v.ownBlock\/v'.ownBlock=some w.heap.size):=by
 have hxl:=hown.1;rcases hown.2 with⟨rfl,rfl⟩ | ⟨g,cap,cur,off,rfl,hbg,hg,hnc,hcm,hcs,htake⟩
 ·have hx:xs=[]:=List.eq_nil_of_length_eq_zero (by simpa using hxl);subst hx;obtain⟨v',w',r1,r2,r3,r4,r5⟩:=run_append_own_at (P:=P) w 0 t ty e i z size bytes ht hi hz hsize hby hzs hsz (.slice none 0 0) 0 [] (World.ownsRow_nil w 0 e size) a m c news hl hnews h1 h63 hbytes (Nat.zero_le _);exact⟨v',w',r1,.of r2,r3,r4,r5⟩
 ·subst hsize;subst hby;have hsmall:n+m<=9223372036854775807:=by simp only[maxLen] at h63; omega
  have hlen:(xs++news).length=(n+m) * i.size:=by rw[List.length_append,hxl,hl,Nat.add_mul]
  have hnm:n * i.size+m * i.size=(n+m) * i.size:=by rw[Nat.add_mul]
  by_cases hroom:n+m<=cap
  ·have hcapm:(n+m) * i.size<=cap * i.size:=Nat.mul_le_mul_right _ hroom;have hfit:off+n * i.size+news.length<=cur.size:=by rw[hl]; omega
   have hr:=tK (P:=P) w t ty e i ht hi g off n cap cur hg a m c news hl hnews h1 hroom hfit;refine⟨_,_,hr,⟨hlen,.inr ⟨g,cap,_,off,rfl,hbg,hg.set _ (by simp only[List.size_toArray,List.length_append,List.length_take,List.length_drop,Array.length_toList]; omega),hroom,hcm,?_,?_⟩⟩,⟨rfl,rfl,rfl,by simp,fun k _ hk=>setRow_other w g k _ (fun e=>hk (by simp [Value.ownBlock,e]))⟩,by simp,Or.inl rfl⟩
   ·simp only[List.size_toArray,List.length_append,List.length_take,List.length_drop,Array.length_toList];omega
   ·show (List.drop off (cur.toList.take (off+n * i.size)++news++cur.toList.drop (off+n * i.size+news.length))).take ((n+m) * i.size)=xs++news;rw[List.append_assoc,List.drop_append_of_le_length (by rw[List.length_take,Array.length_toList]; omega),List.drop_take,Nat.add_sub_cancel_left,htake,← List.append_assoc,← hlen];exact List.take_left
  ·have holds:∀ j u,xs[j]?=some u->w.cell? ((⟨g,off,none⟩:Addr).add j)=some u:=hown.cells (g:=g) rfl;have hr:=run_append_grow (P:=P) w t ty e i z ht hi hz ⟨g,off,none⟩ n cap xs hxl holds a m c news hl hnews (by omega) (by omega) (growslice_fits (by omega) hbytes);have hge:=grownCap_ge w (n+m) cap e;have hcm':grownCap w (n+m) cap e<=maxLen:=grownCap_le_maxLen w (n+m) cap e h63;refine⟨_,_,hr,⟨hlen,.inr ⟨w.heap.size,_,_,0,rfl,Nat.zero_le _,.of (heap_alloc_new w.drew _),hge,hcm',?_,?_⟩⟩,⟨rfl,rfl,rfl,by simp,fun k hk _=>heap_alloc_old w.drew _ hk⟩,by simp,Or.inr rfl⟩
   ·have:∀ q,n+m<=q->(n+m) * i.size+(q-(n+m)) * i.size=q * i.size:=fun q hq=>by rw[← Nat.add_mul]; congr 1; omega
    simp only[Array.size_append,List.size_toArray,size_zeroCells,hzs,hxl,hl];rw[Nat.zero_add,hnm];exact Nat.le_of_eq (this _ hge).symm
   ·rw[List.drop_zero];simp only[Array.toList_append,List.append_assoc];rw[← List.append_assoc,← hlen];exact List.take_left
section
variable {α:Type} [aA α] {P:Program} {t e:TypeId} {k:Nat} {χ:Col} {w:World} {v:Value} {l l2:List α} {F:Nat->Prop} {A:Option Addr} {m c:Nat}
end
def za (k:Nat) (f:Col->World->Prop):Prop:=k≠0/\∀ (T:List Nat) (χ:Col) (w:World) (χ':Col) (w':World),f χ w->Step T χ w χ' w'->k∉T->f χ' w'
theorem za.own {α:Type} [aA α] [Plain α] (k:Nat) (hk:k≠0) (e:TypeId) (v:Value) (l:List α):za k (fun χ w=>Own k χ e w v l):=⟨hk,fun _ _ _ _ _ h s ht=>h.Qs s ht⟩
theorem za.box (k:Nat) (hk:k≠0) (b:Nat) (t:TypeId) (cs:Array Value):za k (fun χ w=>Box k χ w b t cs):=⟨hk,fun _ _ _ _ _ h s ht=>h.step s ht⟩
theorem za.sl {α:Type} [aA α] (k:Nat) (hk:k≠0) (A:Option Addr) (n c:Nat) (l:List α):za k (fun χ w=>Sl (In χ k) w A n c l):=⟨hk,fun _ _ _ _ _ h s ht=>h.step s ht⟩
structure LS (w:World) (T:List Nat) (fs:List (Nat×(Col->World->Prop))) (χ:Col) (wr:World):Prop where
 nz:0∉T
 AX:∀ x∈fs,za x.1 x.2
 st:Step T (fun _=>0) w χ wr
 norm:Norm χ wr
 facts:∀ x∈fs,x.2 χ wr
section
variable {w:World} {T T':List Nat} {fs:List (Nat×(Col->World->Prop))} {χ χ':Col} {wr wr':World}
theorem LS.bel (h:LS w T fs χ wr):Below w.heap.size w wr:=h.st.below (Nat.le_refl _) fun _ _=>h.nz
theorem LS.size (h:LS w T fs χ wr):w.heap.size<=wr.heap.size:=h.st.size
theorem LS.get (h:LS w T fs χ wr) (i:Nat) {k:Nat} {f:Col->World->Prop} (hi:fs[i]?=some (k,f)):f χ wr:=h.facts (k,f) (List.mem_of_getElem? hi)
theorem LS.Qt (h:LS w T fs χ wr) (s:Step T' χ wr χ' wr') {gs:List (Nat×(Col->World->Prop))} (hT:∀ k,k∈T'->k∈T) (hg:∀ x∈gs,za x.1 x.2/\((x∈fs/\x.1∉T')\/x.2 (clip χ' wr'.heap.size) wr')) :
  LS w T gs (clip χ' wr'.heap.size) wr' :=
 ⟨h.nz,fun x hx=>(hg x hx).1,h.st.trans (s.clip.wide hT),Hl _ _,fun x hx=>by
  rcases (hg x hx).2 with⟨h1,h2⟩ | h1
  ·exact (h.AX x h1).2 _ _ _ _ _ (h.facts x h1) s.clip h2
  ·exact h1⟩
theorem LS.quiet (h:LS w T fs χ wr) (s:Step [] χ wr χ' wr') (hn:Norm χ' wr'):LS w T fs χ' wr' :=
 ⟨h.nz,h.AX,h.st.trans (s.wide (by simp)),hn,fun x hx=>(h.AX x hx).2 _ _ _ _ _ (h.facts x hx) s (by simp)⟩
theorem LS.below (h:LS w T fs χ wr) (hb:Below wr.heap.size wr wr'):LS w T fs χ wr':=h.quiet (Step.B8 hb fun _ _=>rfl) fun b hb'=>h.norm b (Nat.le_trans hb.size hb')
theorem LS.alloc (h:LS w T fs χ wr) (o:Obj):LS w T fs χ (wr.alloc o):=h.quiet ((Step.refl _ _ _).alloc o) (Norm.alloc h.norm o)
theorem LS.drew (h:LS w T fs χ wr):LS w T fs χ wr.drew:=h.quiet (Step.refl _ _ _).drew h.norm
theorem LS.drewN (h:LS w T fs χ wr) (n:Nat):LS w T fs χ (wr.drewN n):=h.quiet ((Step.refl _ _ _).drewN n) h.norm
theorem LS.store (h:LS w T fs χ wr) {q:Nat} (hq:χ q=0) (hqw:w.heap.size<=q) (i:Nat) (u:Value):LS w T fs χ (wr.setCell ⟨q,i,none⟩ u):=by
 have s:Step [0] χ wr χ (wr.setCell ⟨q,i,none⟩ u):=(Step.refl _ χ wr).setCell (.inl (by rw[hq]; simp)) u;exact⟨h.nz,h.AX,h.st.setCell (.inr hqw) u,fun b hb=>h.norm b (by simpa [World.setCell] using hb),fun x hx=>(h.AX x hx).2 _ _ _ _ _ (h.facts x hx) s (by simpa using (h.AX x hx).1)⟩
theorem LS.sub (h:LS w T fs χ wr) {gs:List (Nat×(Col->World->Prop))} (hg:∀ x∈gs,x∈fs):LS w T gs χ wr:=⟨h.nz,fun x hx=>h.AX x (hg x hx),h.st,h.norm,fun x hx=>h.facts x (hg x hx)⟩
theorem LS.more (h:LS w T fs χ wr) {k:Nat} {f:Col->World->Prop} (hs:za k f) (hf:f χ wr):LS w T ((k,f)::fs) χ wr :=
 ⟨h.nz,fun x hx=>by
  rcases List.mem_cons.1 hx with rfl | hx
  ·exact hs
  ·exact h.AX x hx,h.st,h.norm,fun x hx=>by
  rcases List.mem_cons.1 hx with rfl | hx
  ·exact hf
  ·exact h.facts x hx⟩
theorem LS.set (h:LS w T fs χ wr) (i:Nat) {k:Nat} {f f':Col->World->Prop} (hi:fs[i]?=some (k,f)) (hn:(fs.map (·.1)).Nodup) (hk:k∈T) (s:Step [k] χ wr χ' wr') (hs:za k f')
  (hf:f' (clip χ' wr'.heap.size) wr'):LS w T (fs.set i (k,f')) (clip χ' wr'.heap.size) wr':=by
 refine h.Qt s (by simpa using hk) fun x hx=>?_;rw[List.mem_iff_getElem?] at hx;obtain⟨j,hj⟩:=hx;by_cases hij:i=j
 ·subst hij;rw[List.getElem?_set_self (List.getElem?_eq_some_iff.1 hi).1] at hj;injection hj with hj
  subst hj;exact⟨hs,.inr hf⟩
 ·rw[List.getElem?_set_ne hij] at hj;refine⟨h.AX x (List.mem_of_getElem? hj),.inl ⟨List.mem_of_getElem? hj,?_⟩⟩;rw[List.mem_singleton];intro e;have h1:(fs.map (·.1))[i]?=some k:=by rw[List.getElem?_map,hi]; rfl
  have h2:(fs.map (·.1))[j]?=some k:=by rw[List.getElem?_map,hj,← e]; rfl
  exact hij ((List.getElem?_inj (List.getElem?_eq_some_iff.1 h1).1 hn).1 (h1.trans h2.symm))
theorem LS.start (w:World) (T:List Nat) (hT:0∉T):LS w T [] (fun _=>0) w:=⟨hT,by simp,Step.refl _ _ _,fun _ _=>rfl,by simp⟩
end
theorem Sl.built {α:Type} [aA α] (F:Nat->Prop) (W:World) (arr:Array Value) (e:TypeId) (l:List α) (n:Nat) (hn:l.length=n) (hm:n<=9223372036854775807)
  (hF:F W.heap.size) (hrd:∀ i x,l[i]?=some x->∃ cs,aA.rd F (W.alloc (.cells arr e)) cs x/\∀ j u,cs[j]?=some u->arr[i * aA.sz α+j]?=some u) :
  Sl F (W.alloc (.cells arr e)) (some ⟨W.heap.size,0,none⟩) n n l:=by
 refine⟨hn,Nat.le_refl _,hm,by simp,fun _=>⟨W.heap.size,0,rfl,fun i x hx=>?_⟩⟩;obtain⟨cs,h1,h2⟩:=hrd i x hx;refine⟨cs,h1,fun j u hu=>⟨hF,?_⟩⟩;have:=h2 j u hu;rw[cell_of_row _ W.heap.size _ arr e (0,0) (heap_alloc_new W _),Nat.zero_add];exact this
end Go.Lad
namespace Go.Lad
open Go.RowKit
def pos {α:Type} [DecidableEq α]:List α->α->Option Nat
 | [],_=>none
 | y::r,x=>if x=y then some 0 else (pos r x).map (· + 1)
theorem iu {α:Type} [DecidableEq α] {l:List α} {x:α} {i:Nat} (h:pos l x=some i):l[i]?=some x/\∀ j,j<i->l[j]?≠some x:=by
 induction l generalizing i with
 | nil=>cases h
 | cons y r ih =>
  simp only[pos] at h;split at h
  ·rename_i e;injection h with h
   subst h e;exact⟨rfl,fun j hj=>absurd hj (by omega)⟩
  ·rename_i e;rw[Option.map_eq_some_iff] at h;obtain⟨i',h',rfl⟩:=h;obtain⟨a,b⟩:=ih h';refine⟨by simpa using a,fun j hj=>?_⟩;cases j with
   | zero=>simpa using fun e'=>e e'.symm
   | succ j=>simpa using b j (by omega)
theorem pR {α:Type} [DecidableEq α] {l:List α} {x:α}:pos l x=none↔x∉l:=by
 induction l with
 | nil=>simp [pos]
 | cons y r ih =>
  simp only[pos];split
  ·rename_i e; simp [e]
  ·rename_i e; simp [ih,e]
theorem mV {α:Type} [DecidableEq α] {l:List α} {x:α} {i:Nat} (h:pos l x=some i):i<l.length :=
 (List.getElem?_eq_some_iff.1 (iu h).1).1
theorem wT {α:Type} [DecidableEq α] (l r:List α) (x:α):pos (l++r) x=match pos l x with | some i=>some i | none=>(pos r x).map (· + l.length):=by
 induction l with
 | nil=>simp [pos]
 | cons y l ih =>
  simp only[List.cons_append,pos];split
  ·rfl
  ·rw[ih];cases pos l x with
   | some i=>rfl
   | none=>simp [Option.map_map,Function.comp_def,Nat.add_assoc]
structure KeyLaw {α:Type} [DecidableEq α] (P:Program) (kt:TypeId) (kv:α->Value):Prop where
 chk:∀ b x w,(Instr.checkKey b 10000 kt (kv x)).run P w = .ok () w
 find:∀ x (es:List MapEntry) (ks:List α),es.map (·.key)=ks.map kv->∀ w,(Instr.findKey kt (kv x) es).run P w = .ok ((pos ks x).map fun i=>(i,(es.getD i default).val)) w
 same:∀ x,Instr.sameBits 10000 (kv x) (kv x)=true
section
variable {P:Program}
theorem rl {α:Type} [DecidableEq α] {kt:TypeId} {kv:α->Value} (he:∀ x y w,(Op.equal kt (kv x) (kv y)).run P w = .ok (decide (x=y)) w) (x:α) :
  ∀ (es:List MapEntry) (ks:List α) (n:Nat),es.map (·.key)=ks.map kv->∀ w,(Instr.findAsking kt (kv x) es n).run P w = .ok ((pos ks x).map fun i=>(i+n,(es.getD i default).val)) w
 | [],[],n,_,w=>by simp [Instr.findAsking,pos]
 | [],k::ks,n,h,w=>by simp at h
 | e::es,[],n,h,w=>by simp at h
 | e::es,k::ks,n,h,w=>by
  simp only[List.map_cons,List.cons.injEq] at h;have ih:=rl he x es ks (n+1) h.2 w;simp only[Instr.findAsking,Sem.run_bind,h.1,he,Result.andThen_ok];by_cases hk:x=k
  ·simp [hk,pos]
  ·simp only[hk,decide_false,Bool.false_eq_true,if_false,pos,ih];cases pos ks x with
   | none=>rfl
   | some i=>simp [Nat.add_assoc,Nat.add_comm 1 n]
theorem rm {α:Type} [DecidableEq α] {kv:α->Value} {d:TypeDesc} (he:∀ x y,Instr.sameNow d (kv x) (kv y)=some (decide (x=y))) (x:α) :
  ∀ (es:List MapEntry) (ks:List α) (n:Nat),es.map (·.key)=ks.map kv->Instr.findNow d (kv x) es n=some ((pos ks x).map fun i=>(i+n,(es.getD i default).val))
 | [],[],n,_=>by simp [Instr.findNow,pos]
 | [],k::ks,n,h=>by simp at h
 | e::es,[],n,h=>by simp at h
 | e::es,k::ks,n,h=>by
  simp only[List.map_cons,List.cons.injEq] at h;have ih:=rm he x es ks (n+1) h.2;simp only[Instr.findNow,h.1,he];by_cases hk:x=k
  ·simp [hk,pos]
  ·simp only[hk,decide_false,pos,if_false,ih];cases pos ks x with
   | none=>rfl
   | some i=>simp [Nat.add_assoc,Nat.add_comm 1 n]
theorem bytes_beq (x y:ByteArray):(x == y)=decide (x=y):=by
 rw[beq_toListBytes,ByteArray.toList_eq,ByteArray.toList_eq];obtain⟨⟨a⟩⟩:=x;obtain⟨⟨b⟩⟩:=y;simp only[ByteArray.mk.injEq,Array.mk.injEq];rw[Bool.eq_iff_iff];simp
theorem rn {kt:TypeId} (hd:∀ b (n:Nat) v w,(Instr.checkKey b (n+1) kt v).run P w = .ok () w) (b:Bool) (v:Value) (w:World):(Instr.checkKey b 10000 kt v).run P w = .ok () w:=hd b 9999 v w
theorem KeyLaw.int {kt:TypeId} {k:IntKind} (h:P.underlying kt=some (.int k)):KeyLaw P kt (fun n:Int=>.int k n) where
 chk b x w:=rn (fun b n v w=>by simp [Instr.checkKey,run_underlying h]) b _ w
 find x es ks hk w:=by
  have:=rm (d := .int k) (kv:=fun n:Int=>.int k n) (fun x y=>by simp [Instr.sameNow]; rfl) x es ks 0 hk;simp only[Instr.findKey,Sem.run_bind,run_underlying h,Result.andThen_ok,this];simp
 same x:=by simp [Instr.sameBits]
theorem KeyLaw.str {kt:TypeId} (h:P.underlying kt=some .string):KeyLaw P kt (fun s:ByteArray=>.string s) where
 chk b x w:=rn (fun b n v w=>by simp [Instr.checkKey,run_underlying h]) b _ w
 find x es ks hk w:=by
  have:=rm (d := .string) (kv:=fun s:ByteArray=>.string s) (fun x y=>by simp [Instr.sameNow,bytes_beq]) x es ks 0 hk;simp only[Instr.findKey,Sem.run_bind,run_underlying h,Result.andThen_ok,this];simp
 same x:=by simp [Instr.sameBits,bytes_beq]
theorem KeyLaw.struct {α:Type} [DecidableEq α] {kt:TypeId} {fs:Array Field} {kv:α->Value} (h:P.underlying kt=some (.struct fs))
  (chk:∀ b x w,(Instr.checkKey b 10000 kt (kv x)).run P w = .ok () w) (he:∀ x y w,(Op.equal kt (kv x) (kv y)).run P w = .ok (decide (x=y)) w)
  (same:∀ x,Instr.sameBits 10000 (kv x) (kv x)=true):KeyLaw P kt kv where
 chk:=chk
 find x es ks hk w:=by
  have hfa:=rl he x es ks 0 hk w;simp only[Instr.findKey,Sem.run_bind,run_underlying h,Result.andThen_ok];cases es with
  | nil =>
   have:ks=[]:=by simpa using hk
   subst this;simp [Instr.findNow,pos]
  | cons e es =>
   have:Instr.findNow (.struct fs) (kv x) (e::es) 0=none:=by simp [Instr.findNow,Instr.sameNow]
   simp only[this]
   simpa using hfa
 same:=same
end
structure fW {α β:Type} (kv:α->Value) (vf:β->Value) (w:World) (b:Nat) (es:Array MapEntry) (clock:Nat) (m:List (α×β)):Prop where
 at_:w.heap[b]?=some (.map es clock)
 eq:es.toList.map (fun e=>(e.key,e.val))=m.map fun p=>(kv p.1,vf p.2)
 born:∀ e∈es.toList,e.born<clock
 apart:(es.toList.map (·.born)).Nodup
 uniq:(m.map (·.1)).Nodup
def bG {α β:Type} [DecidableEq α] (m:List (α×β)) (x:α):Option β:=(pos (m.map (·.1)) x).bind fun i=>(m[i]?).map (·.2)
def fa {α β:Type} [DecidableEq α] (m:List (α×β)) (x:α) (y:β):List (α×β) :=
 match pos (m.map (·.1)) x with
 | some i=>m.set i (x,y)
 | none=>m++[(x,y)]
section
variable {α β:Type} {kv:α->Value} {vf:β->Value} {w w':World} {b:Nat} {es:Array MapEntry} {clock:Nat} {m:List (α×β)}
theorem fW.lt (h:fW kv vf w b es clock m):b<w.heap.size:=(Array.getElem?_eq_some_iff.1 h.at_).1
theorem fW.frame (h:fW kv vf w b es clock m) (hb:w'.heap[b]?=w.heap[b]?):fW kv vf w' b es clock m:=⟨hb.trans h.at_,h.eq,h.born,h.apart,h.uniq⟩
theorem fW.made (kv:α->Value) (vf:β->Value) (w:World):fW kv vf (w.alloc (.map #[] 0)) w.heap.size #[] 0 ([]:List (α×β)) :=
 ⟨(MapKept.heap_alloc w _).1,by simp,by simp,by simp,by simp⟩
theorem fW.keys (h:fW kv vf w b es clock m):es.toList.map (·.key)=(m.map (·.1)).map kv:=by
 have:=congrArg (List.map Prod.fst) h.eq
 simpa [List.map_map,Function.comp_def] using this
theorem fW.len (h:fW kv vf w b es clock m):es.size=m.length:=by
 have:=congrArg List.length h.eq
 simpa using this
theorem fW.val (h:fW kv vf w b es clock m) (i:Nat) (p:α×β) (hp:m[i]?=some p):(es.toList.getD i default).val=vf p.2:=by
 have:=congrArg (fun l=>l[i]?) h.eq;simp only[List.getElem?_map,hp,Option.map_some] at this;rw[Option.map_eq_some_iff] at this;obtain⟨e,he,h2⟩:=this;simp only[Prod.mk.injEq] at h2;simp only[List.getD,he,Option.getD_some,h2.2]
variable {P:Program} {t kt et:TypeId} [DecidableEq α]
theorem uS (m:List (α×β)) (x:α) (y:β):(fa m x y).map (·.1)=match pos (m.map (·.1)) x with | some _=>m.map (·.1) | none=>m.map (·.1)++[x]:=by
 unfold fa;cases hp:pos (m.map (·.1)) x with
 | some i =>
  dsimp only;rw[List.map_set];apply List.ext_getElem?;intro j;rw[List.getElem?_set];split
  ·rename_i hij;subst hij;rw[if_pos (mV hp),(iu hp).1]
  ·rfl
 | none=>simp
theorem se {m:List (α×β)} (h:(m.map (·.1)).Nodup) (x:α) (y:β):((fa m x y).map (·.1)).Nodup:=by
 rw[uS];cases hp:pos (m.map (·.1)) x with
 | some i=>exact h
 | none =>
  rw[List.nodup_append];refine⟨h,by simp,fun a ha b hb=>?_⟩;rw[List.mem_singleton] at hb;subst hb;rintro rfl;exact pR.1 hp ha
theorem fW.look_ok (h:fW kv vf w b es clock m) (K:KeyLaw P kt kv) (ht:P.underlying t=some (.map kt et)) {z:Value} (hz:∀ w,(zeroValue et).run P w = .ok z w) (x:α) :
  (Instr.lookup t (.map (some b)) (kv x) true).run P w = .ok (.tuple #[((bG m x).map vf).getD z,.bool (bG m x).isSome]) w:=by
 have hf:=K.find x es.toList _ h.keys w;have hg:(getObj b).run P w = .ok (.map es clock) w:=by simp [getObj,Sem.run,h.at_]
 simp only[Instr.lookup,Sem.run_bind,run_underlying ht,Result.andThen_ok,hg,K.chk,hf,Sem.run_pure];cases hp:pos (m.map (·.1)) x with
 | none =>
  simp [bG,hp,hz]
 | some i =>
  have hl:=mV hp;rw[List.length_map] at hl;have hm:m[i]?=some m[i]:=List.getElem?_eq_getElem hl;have hv:=h.val i _ hm;have hlk:bG m x=some m[i].2:=by simp [bG,hp,hm]
  simp only[Option.map_some,hv,hlk,Option.isSome_some,Option.getD_some];simp
theorem fW.rp (h:fW kv vf w b es clock m) (K:KeyLaw P kt kv) (ht:P.underlying t=some (.map kt et)) {z:Value} (hz:∀ w,(zeroValue et).run P w = .ok z w) (x:α) :
  (Instr.lookup t (.map (some b)) (kv x) false).run P w = .ok (((bG m x).map vf).getD z) w:=by
 have hf:=K.find x es.toList _ h.keys w;have hg:(getObj b).run P w = .ok (.map es clock) w:=by simp [getObj,Sem.run,h.at_]
 simp only[Instr.lookup,Sem.run_bind,run_underlying ht,Result.andThen_ok,hg,K.chk,hf,Sem.run_pure];cases hp:pos (m.map (·.1)) x with
 | none =>
  simp [bG,hp,hz]
 | some i =>
  have hl:=mV hp;rw[List.length_map] at hl;have hm:m[i]?=some m[i]:=List.getElem?_eq_getElem hl;have hv:=h.val i _ hm;have hlk:bG m x=some m[i].2:=by simp [bG,hp,hm]
  simp only[Option.map_some,hv,hlk,Option.getD_some];simp
def fb (w:World) (b:Nat) (es:Array MapEntry) (clock:Nat):World:={ w with heap:=w.heap.setIfInBounds b (.map es clock) }
theorem jZ (w:World) (b:Nat) (es:Array MapEntry) (clock:Nat) (i:Nat) (h:i≠b):(fb w b es clock).heap[i]?=w.heap[i]? := by
 simp only[fb];rw[Array.getElem?_setIfInBounds_ne (by omega)]
@[simp] theorem vQ (w:World) (b:Nat) (es:Array MapEntry) (clock:Nat):(fb w b es clock).heap.size=w.heap.size:=by simp [fb]
theorem nN (w:World) (b:Nat) (es:Array MapEntry) (clock:Nat) (h:b<w.heap.size):(fb w b es clock).heap[b]?=some (.map es clock):=by
 simp only[fb];rw[Array.getElem?_setIfInBounds_self];simp [h]
theorem Step.fb {T:List Nat} {χ χ':Col} {w w':World} (h:Step T χ w χ' w') {b:Nat} (hp:χ' b∈T\/w.heap.size<=b) (es:Array MapEntry) (clock:Nat):Step T χ w χ' (fb w' b es clock) :=
 ⟨h.os,h.tape,h.output,by simpa using h.size,h.col,fun i hi hT=>(jZ w' b es clock i (by
  rintro rfl;rcases hp with hp | hp
  ·rw[h.col _ hi] at hp; exact hT hp
  ·omega)).trans (h.block i hi hT)⟩
def om (es:Array MapEntry) (clock:Nat) (i? : Option Nat) (k v:Value):Array MapEntry×Nat :=
 match i? with
 | some i=>(es.modify i fun e=>{ e with key:=k,val:=v },clock)
 | none=>(es.push { key:=k,val:=v,born:=clock },clock+1)
theorem fW.update (h:fW kv vf w b es clock m) (K:KeyLaw P kt kv) (ht:P.underlying t=some (.map kt et)) (x:α) (y:β) :
  (Instr.mapUpdate t (.map (some b)) (kv x) (vf y)).run P w = .ok () (fb w b (om es clock (pos (m.map (·.1)) x) (kv x) (vf y)).1 (om es clock (pos (m.map (·.1)) x) (kv x) (vf y)).2) /\
  fW kv vf (fb w b (om es clock (pos (m.map (·.1)) x) (kv x) (vf y)).1 (om es clock (pos (m.map (·.1)) x) (kv x) (vf y)).2) b
   (om es clock (pos (m.map (·.1)) x) (kv x) (vf y)).1 (om es clock (pos (m.map (·.1)) x) (kv x) (vf y)).2 (fa m x y):=by
 have hf:=K.find x es.toList _ h.keys w;have hg:(getObj b).run P w = .ok (.map es clock) w:=by simp [getObj,Sem.run,h.at_]
 have hs:∀ es' c',(setObj b (.map es' c')).run P w = .ok () (fb w b es' c'):=by
  intro es' c';simp [setObj,Sem.run,h.at_,Lad.fb]
 have hlt:=h.lt;cases hp:pos (m.map (·.1)) x with
 | none =>
  simp only[hp,Option.map_none] at hf;refine⟨?_,⟨nN _ _ _ _ hlt,?_,?_,?_,se h.uniq x y⟩⟩
  ·simp only[Instr.mapUpdate,Sem.run_bind,run_underlying ht,Result.andThen_ok,hg,K.chk,hf,hs,om]
  ·simp [om,fa,hp,h.eq]
  ·intro e he;simp only[om,Array.toList_push,List.mem_append,List.mem_singleton] at he ⊢;rcases he with he | rfl
   ·have:=h.born e he; omega
   ·exact Nat.lt_succ_self _
  ·simp only[om,Array.toList_push,List.map_append,List.map_cons,List.map_nil];rw[List.nodup_append];refine⟨h.apart,by simp,?_⟩;intro a ha c hc;simp only[List.mem_singleton] at hc;subst hc;obtain⟨e,he,rfl⟩:=List.mem_map.1 ha;have:=h.born e he;omega
 | some i =>
  simp only[hp,Option.map_some] at hf;have hl:=mV hp;rw[List.length_map,← h.len] at hl;have hkey:(es[i]).key=kv x:=by
   have h1:=congrArg (fun l=>l[i]?) h.keys;rw[List.getElem?_map,List.getElem?_map,(iu hp).1] at h1
   simpa [hl] using h1
  have hm:i<m.length:=by rw[← h.len]; exact hl
  have hmod:(es.modify i fun e=>{ e with key:=kv x,val:=vf y }).toList=es.toList.set i { es[i] with key:=kv x,val:=vf y }:=by
   apply List.ext_getElem
   ·simp
   ·intro j h1 h2;simp only[Array.getElem_toList,List.getElem_set];rw[Array.getElem_modify];split <;> simp_all
  refine⟨?_,⟨nN _ _ _ _ hlt,?_,?_,?_,se h.uniq x y⟩⟩
  ·have hst:(((es[i]?).map (·.key)).getD (kv x))=kv x:=by simp [hl,hkey]
   simp only[Instr.mapUpdate,Sem.run_bind,run_underlying ht,Result.andThen_ok,hg,K.chk,hf,om,hst,Instr.keyThatStays,K.same,if_true,Sem.run_pure,hs]
  ·simp only[om,fa,hp,hmod,List.map_set,h.eq]
  ·intro e he;simp only[om,hmod] at he ⊢;rcases List.mem_or_eq_of_mem_set he with he | rfl
   ·exact h.born e he
   ·exact h.born (es[i]) (by simp)
  ·simp only[om,hmod,List.map_set];have:(es.toList.map (·.born)).set i (es[i]).born=es.toList.map (·.born):=by
    apply List.ext_getElem
    ·simp
    ·intro j h1 h2;simp only[List.getElem_set,List.getElem_map,Array.getElem_toList];split <;> simp_all
   rw[this]; exact h.apart
end
end Go.Lad
namespace Go.Lad
open Go.RowKit
inductive PV where
 | int (k:IntKind) (n:Int)
 | bool (b:Bool)
 | str (s:ByteArray)
 | sl (l:List (List PV))
 | oth (v:Value)
 | mp (k:IntKind) (m:List (Int×List (List PV)))
def wU (k:IntKind) (n:Int):Value := .int k n
def inK (k:IntKind) (n:Int):Prop:=k.min<=n/\n<=k.max
inductive Rd (F:Nat->Prop) (w:World):PV->Value->Prop
 | int {k n} (h:inK k n):Rd F w (.int k n) (.int k n)
 | bool {b}:Rd F w (.bool b) (.bool b)
 | str {s} (h:s.size<=9223372036854775807):Rd F w (.str s) (.string s)
 | oth {v} (h:v.oneCell'=true):Rd F w (.oth v) v
 | sl0 {A c} (h:A=none->c=0) (hm:c<=9223372036854775807):Rd F w (.sl []) (.slice A 0 c)
 | sl {l:List (List PV)} {b off c z:Nat} (us:Nat->Nat->Value) (h0:l≠[]) (hF:F b) (hb:b<w.heap.size) (hc:l.length<=c) (hm:c<=9223372036854775807)
   (hz:∀ (i:Nat) (cs:List PV),l[i]?=some cs->cs.length=z)
   (hcell:∀ (i j:Nat) (cs:List PV) (p:PV),l[i]?=some cs->cs[j]?=some p->w.cell? ⟨b,off+i * z+j,none⟩=some (us i j))
   (hrd:∀ (i j:Nat) (cs:List PV) (p:PV),l[i]?=some cs->cs[j]?=some p->Rd F w p (us i j)):Rd F w (.sl l) (.slice (some ⟨b,off,none⟩) l.length c)
 | mp {k:IntKind} {m:List (Int×List (List PV))} {b:Nat} {es:Array MapEntry} {clock:Nat} (mv:List (Int×Value)) (hF:F b) (hm:fW (wU k) (id:Value->Value) w b es clock mv) (hk:mv.map (·.1)=m.map (·.1))
  (hrd:∀ (i:Nat) x y,mv[i]?=some x->m[i]?=some y->Rd F w (.sl y.2) x.2):Rd F w (.mp k m) (.map (some b))
theorem Rd.one {F:Nat->Prop} {w:World} {p:PV} {v:Value} (h:Rd F w p v):v.oneCell'=true:=by
 cases h <;> first | rfl | assumption
theorem Rd.frame {F F':Nat->Prop} {w w':World} {p:PV} {v:Value} (hf:∀ b,F b->b<w.heap.size->F' b/\w'.heap[b]?=w.heap[b]?) (h:Rd F w p v):Rd F' w' p v:=by
 induction h with
 | int h=>exact .int h
 | bool=>exact .bool
 | str h=>exact .str h
 | oth h=>exact .oth h
 | sl0 h hm=>exact .sl0 h hm
 | sl us h0 hF hb hc hm hz hcell hrd ih =>
  obtain⟨h1,h2⟩:=hf _ hF hb;refine .sl us h0 h1 ?_ hc hm hz (fun i j cs p hi hj=>?_) ih
  ·rw[Array.getElem?_eq_getElem hb] at h2;exact (Array.getElem?_eq_some_iff.1 h2).1
  ·exact (World.cell?_of_block (w:=w) (a:=⟨_,_,none⟩) h2).trans (hcell i j cs p hi hj)
 | mp mv hF hm hk hrd ih =>
  obtain⟨h1,h2⟩:=hf _ hF hm.lt;exact .mp mv h1 (hm.frame h2) hk ih
def CZ (_:Nat):=List PV
def RdL (F:Nat->Prop) (w:World) (ps:List PV) (vs:List Value):Prop:=ps.length=vs.length/\∀ (j:Nat) (p:PV) (v:Value),ps[j]?=some p->vs[j]?=some v->Rd F w p v
theorem RdL.frame {F F':Nat->Prop} {w w':World} {ps:List PV} {vs:List Value} (hf:∀ b,F b->b<w.heap.size->F' b/\w'.heap[b]?=w.heap[b]?) (h:RdL F w ps vs):RdL F' w' ps vs :=
 ⟨h.1,fun j p v hp hv=>Rd.frame hf (h.2 j p v hp hv)⟩
theorem RdL.one {F:Nat->Prop} {w:World} {ps:List PV} {vs:List Value} (h:RdL F w ps vs):∀ u∈vs,u.oneCell'=true:=by
 intro u hu;obtain⟨j,hj⟩:=List.mem_iff_getElem?.1 hu;have hl:=(List.getElem?_eq_some_iff.1 hj).1;exact (h.2 j _ u (List.getElem?_eq_getElem (by rw[h.1]; exact hl)) hj).one
instance (z:Nat):aA (CZ z) where
 sz:=z
 rd F w cs x:=cs.length=z/\RdL F w (show List PV from x) cs
 len h:=h.1
 one h:=h.2.one
 frame hf h:=⟨h.1,h.2.frame hf⟩
theorem Rd.vR {F:Nat->Prop} {w:World} {l:List (List PV)} {v:Value} (h:Rd F w (.sl l) v):∃ A c z,v = .slice A l.length c/\Sl (α:=CZ z) F w A l.length c l/\∀ (i:Nat) (cs:List PV),l[i]?=some cs->cs.length=z:=by
 cases h with
 | @sl0 A c h hm=>exact⟨A,c,0,rfl,⟨rfl,Nat.zero_le _,hm,h,fun h=>absurd h (by simp)⟩,by simp⟩
 | @sl _ b off c z us h0 hF hb hc hm hz hcell hrd =>
  refine⟨_,c,z,rfl,⟨rfl,hc,hm,(by intro h; cases h),fun hn=>⟨b,off,rfl,fun i x hx=>?_⟩⟩,hz⟩;have hxl:(show List PV from x).length=z:=hz i x hx;refine⟨(List.range z).map (us i),⟨by simp,by simpa using hxl,fun j p v hp hv=>?_⟩,fun j u hu=>⟨hF,?_⟩⟩
  ·rw[List.getElem?_map,List.getElem?_range (by have:=(List.getElem?_eq_some_iff.1 hp).1; omega)] at hv;simp at hv;subst hv;exact hrd i j x p hx hp
  ·rw[List.getElem?_map,Option.map_eq_some_iff] at hu;obtain⟨j',hj',rfl⟩:=hu;have hjz:j<z:=by have:=(List.getElem?_eq_some_iff.1 hj').1; simpa using this
   rw[List.getElem?_range hjz] at hj';injection hj' with hj'
   subst hj';obtain⟨p,hp⟩:∃ p,(show List PV from x)[j]?=some p:=⟨_,List.getElem?_eq_getElem (by omega)⟩;exact hcell i j x p hx hp
theorem Rd.zw {F:Nat->Prop} {w:World} {z:Nat} {l:List (List PV)} {A:Option Addr} {n c:Nat} (h:Sl (α:=CZ z) F w A n c l) (hF:0<z\/∀ b off,A=some ⟨b,off,none⟩->F b/\b<w.heap.size):Rd F w (.sl l) (.slice A n c):=by
 have hn:=h.len;subst hn;by_cases h0:l=[]
 ·subst h0; exact .sl0 h.nil h.max
 ·obtain⟨b,off,rfl,H⟩:=h.at_ (by have:=List.length_pos_iff.2 h0; exact this);have hlen:∀ (i:Nat) (cs:List PV),l[i]?=some cs->cs.length=z:=fun i cs hi=>by
   obtain⟨vs,⟨h1,h2⟩,_⟩:=H i cs hi;exact h2.1.trans h1
  have hFb:F b/\b<w.heap.size:=by
   rcases hF with hz | hF
   ·obtain⟨cs,hcs⟩:∃ cs,l[0]?=some cs:=⟨_,List.getElem?_eq_getElem (List.length_pos_iff.2 h0)⟩;obtain⟨vs,⟨h1,h2⟩,h3⟩:=H 0 cs hcs;obtain⟨u,hu⟩:∃ u,vs[0]?=some u:=⟨_,List.getElem?_eq_getElem (by rw[h1]; exact hz)⟩;exact⟨(h3 0 u hu).1,tI (h3 0 u hu).2⟩
   ·exact hF b off rfl
  have key:∃ us:Nat->Nat->Value,∀ (i j:Nat) (cs:List PV) (p:PV),l[i]?=some cs->cs[j]?=some p->w.cell? ⟨b,off+i * z+j,none⟩=some (us i j)/\Rd F w p (us i j):=by
   refine⟨fun i j=>(w.cell? ⟨b,off+i * z+j,none⟩).getD undef,fun i j cs p hi hj=>?_⟩;obtain⟨vs,⟨h1,h2⟩,h3⟩:=H i cs hi;obtain⟨u,hu⟩:∃ u,vs[j]?=some u:=⟨_,List.getElem?_eq_getElem (by rw[h1,← hlen i cs hi]; exact (List.getElem?_eq_some_iff.1 hj).1)⟩;have hc:w.cell? ⟨b,off+i * z+j,none⟩=some u:=(h3 j u hu).2;dsimp only;rw[hc];exact⟨rfl,h2.2 j p u hj hu⟩
  obtain⟨us,hus⟩:=key;exact .sl us h0 hFb.1 hFb.2 h.cap h.max hlen (fun i j cs p hi hj=>(hus i j cs p hi hj).1) (fun i j cs p hi hj=>(hus i j cs p hi hj).2)
inductive av where
 | dead
 | p (p:PV)
 | nil
 | loc (o off:Nat)
 | own (o:Nat)
 | el (o i off z:Nat)
 | ip (cs:List PV) (off:Nat)
 | mp (o:Nat)
 | fn (f:FuncId) (caps:List Nat)
 | nb (pos:Bool) (l:List (List PV))
 | sv (o a b z:Nat)
 | tl (l:List (List PV))
 | ps (o:Nat)
def av.ids:av->List Nat
 | .loc o _ | .own o | .el o _ _ _ | .mp o | .sv o _ _ _ | .ps o=>[o]
 | .fn _ caps=>caps
 | _=>[]
inductive Cmp where
 | v (x:av)
 | g (xs:List av)
def Cmp.leaves:Cmp->List av
 | .v x=>[x]
 | .g xs=>xs
inductive Slot where
 | dead
 | c (c:Cmp)
 | t (l:List Cmp)
def Cmp.ids (c:Cmp):List Nat:=c.leaves.flatMap av.ids
def Slot.ids:Slot->List Nat
 | .dead=>[]
 | .c x=>x.ids
 | .t l=>l.flatMap Cmp.ids
inductive cu where
 | gone
 | box (t:TypeId) (cs:List av)
 | arr (e:TypeId) (z:Nat) (l:List (List PV))
 | kx (k:IntKind) (agg:Bool) (m:List (Int×List PV))
 | iJ (agg:Bool) (m:List (ByteArray×List PV))
 | fM (k:IntKind) (agg:Bool) (m:List ((ByteArray×Int×Int×Int×ByteArray)×List PV))
 | sU (k:IntKind) (agg:Bool) (m:List ((ByteArray×Int×Int×Int×ByteArray)×List PV)) (key:ByteArray×Int×Int×Int×ByteArray) (d:Nat)
 | gI (k:IntKind) (e:TypeId) (z:Nat) (m:List (Int×List (List PV))) (h:Option Int)
 | lit (e:TypeId) (cs:List av)
def cu.ids:cu->List Nat
 | .box _ cs=>cs.flatMap av.ids
 | .lit _ cs=>cs.flatMap av.ids
 | .sU _ _ _ _ d=>[d]
 | _=>[]
abbrev Hp:=Nat->Option cu
structure Gh where
 χ:Col
 bl:Nat->Nat
 hv:Nat->Value
def ptr (b off:Nat):Value := .pointer (some ⟨b,off,none⟩)
def svV (A:Option Addr) (c a b z:Nat):Value := .slice (if c=a then A else A.map (·.add (a * z))) (b-a) (c-a)
def fnV (c:Nat) (l:List Value):Value:=if c % 2=0 then .func (.func (c / 2)) #[] l.toArray else .func (.func (c / 2)) l.toArray #[]
theorem pS (f:Nat) (l:List Value):fnV (2 * f) l = .func (.func f) #[] l.toArray:=by unfold fnV; rw[if_pos (by omega),show 2 * f / 2=f by omega]
theorem My (f:Nat) (l:List Value):fnV (2 * f+1) l = .func (.func f) l.toArray #[]:=by unfold fnV; rw[if_neg (by omega),show (2 * f+1) / 2=f by omega]
def LVal (G:Gh) (w:World):av->Value->Prop
 | .dead,_=>True
 | .p p,v=>Rd (In G.χ 0) w p v
 | .nil,v=>v = .slice none 0 0
 | .loc o off,v=>v=ptr (G.bl o) off
 | .own o,v=>v=G.hv o
 | .el o i off z,v=>v=ptr (G.bl o) (lB (G.hv o)+(i * z+off))
 | .ip cs off,v=>∃ b off0,v=ptr b (off0+off)/\In G.χ 0 b/\b<w.heap.size/\∀ j p,cs[j]?=some p->∃ u,w.cell? ⟨b,off0+j,none⟩=some u/\Rd (In G.χ 0) w p u
 | .mp o,v=>v = .map (some (G.bl o))
 | .nb pos l,v=>∃ b,v = .bool b/\(b=pos->l=[])
 | .fn f caps,v=>v=fnV f (caps.map fun o=>ptr (G.bl o) 0)
 | .sv o a b z,v=>∃ A n c,G.hv o = .slice A n c/\a<=b/\b<=n/\n<=c/\v=svV A c a b z
 | .tl l,v=>Rd (In G.χ 0) w (.sl l) v/\∀ A n c,v = .slice A n c->n=c
 | .ps o,v=>v = .pointer none\/v=ptr (G.bl o) 0
structure LRd (G:Gh) (hp:Hp) (w:World) (x:av) (v:Value):Prop where
 one:v.oneCell'=true
 ids:∀ o∈x.ids,hp o≠none
 val:LVal G w x v
def dU {α β:Type} (R:α->β->Prop) (l:List α) (m:List β):Prop:=l.length=m.length/\∀ (i:Nat) a b,l[i]?=some a->m[i]?=some b->R a b
def CRd (G:Gh) (hp:Hp) (w:World):Cmp->Value->Prop
 | .v x,v=>LRd G hp w x v
 | .g xs,v=>∃ vs:List Value,v = .agg vs.toArray/\dU (LRd G hp w) xs vs
def SRd (G:Gh) (hp:Hp) (w:World):Slot->Value->Prop
 | .dead,_=>True
 | .c c,v=>CRd G hp w c v
 | .t l,v=>∃ vs:List Value,v = .tuple vs.toArray/\dU (CRd G hp w) l vs
def PV.toV:PV->Value
 | .int k n=>.int k n
 | .bool b=>.bool b
 | .str s=>.string s
 | .oth v=>v
 | .sl _=>.nilFunc
 | .mp _ _=>.nilFunc
def PV.Plain:PV->Prop
 | .int k n=>inK k n
 | .str s=>s.size<=9223372036854775807
 | .oth v=>v.oneCell'=true
 | .bool _=>True
 | .sl _=>False
 | .mp _ _=>False
theorem PV.Plain.rd {F:Nat->Prop} {w:World} {p:PV} (h:p.Plain):Rd F w p p.toV:=by
 cases p with
 | int k n=>exact .int h
 | bool b=>exact .bool
 | str s=>exact .str h
 | oth v=>exact .oth h
 | sl l=>exact h.elim
 | mp k m=>exact h.elim
def sS (agg:Bool) (ps:List PV):Value:=if agg then .agg (ps.map PV.toV).toArray else (ps.headD (.bool false)).toV
def po (agg:Bool) (ps:List PV):Prop:=(∀ p∈ps,p.Plain)/\(agg=false->ps.length=1)
def Ek (s:ByteArray):Value := .string s
def tM (k:IntKind) (x:ByteArray×Int×Int×Int×ByteArray):Value := .agg #[.string x.1,.int k x.2.1,.int k x.2.2.1,.int k x.2.2.2.1,.string x.2.2.2.2]
def wV (F:Nat->Prop) (w:World) (agg:Bool) (ps:List PV) (v:Value):Prop :=
 match agg with
 | true=>∃ vs:List Value,v = .agg vs.toArray/\RdL F w ps vs
 | false=>∃ p,ps=[p]/\Rd F w p v
theorem wV.frame {F F':Nat->Prop} {w w':World} {agg:Bool} {ps:List PV} {v:Value} (hf:∀ b,F b->b<w.heap.size->F' b/\w'.heap[b]?=w.heap[b]?) (h:wV F w agg ps v):wV F' w' agg ps v:=by
 cases agg with
 | true=>obtain⟨vs,h1,h2⟩:=h; exact⟨vs,h1,h2.frame hf⟩
 | false=>obtain⟨p,h1,h2⟩:=h; exact⟨p,h1,h2.frame hf⟩
def pT (F:Nat->Prop) (w:World) (agg:Bool) (mv:List (ByteArray×Value)) (m:List (ByteArray×List PV)):Prop :=
 mv.map (·.1)=m.map (·.1)/\∀ (i:Nat) x y,mv[i]?=some x->m[i]?=some y->wV F w agg y.2 x.2
theorem pT.frame {F F':Nat->Prop} {w w':World} {agg:Bool} {mv:List (ByteArray×Value)} {m:List (ByteArray×List PV)} (hf:∀ b,F b->b<w.heap.size->F' b/\w'.heap[b]?=w.heap[b]?) (h:pT F w agg mv m):pT F' w' agg mv m :=
 ⟨h.1,fun i x y hx hy=>(h.2 i x y hx hy).frame hf⟩
def OM (c:Nat) (χ:Col) (e:TypeId) (w:World) (z:Nat) (h:Option Int) (mv:List (Int×Value)) (m:List (Int×List (List PV))):Prop :=
 mv.map (·.1)=m.map (·.1)/\(∀ (i:Nat) x y,mv[i]?=some x->m[i]?=some y->h≠some x.1->Own (α:=CZ z) c χ e w x.2 y.2) /\
 (∀ (i j:Nat) x y g,i≠j->mv[i]?=some x->mv[j]?=some y->h≠some x.1->h≠some y.1->x.2.ownBlock=some g->y.2.ownBlock≠some g)/\(m.map (·.1)).Nodup
def HRd (G:Gh) (hp:Hp) (w:World) (o:Nat):cu->Prop
 | .gone=>True
 | .box t cs=>∃ vs:List Value,Blk w (G.bl o) t vs.toArray/\G.χ (G.bl o)=o+2/\dU (LRd G hp w) cs vs
 | .arr e z l=>Own (α:=CZ z) (o+2) G.χ e w (G.hv o) l/\∀ b,(G.hv o).ownBlock=some b->b=G.bl o
 | .kx k agg m=>∃ es clock,fW (wU k) (sS agg) w (G.bl o) es clock m/\G.χ (G.bl o)=o+2/\∀ x∈m,po agg x.2
 | .iJ agg m=>∃ es clock mv,fW Ek (id:Value->Value) w (G.bl o) es clock mv/\G.χ (G.bl o)=o+2/\pT (In G.χ 0) w agg mv m
 | .fM k agg m=>∃ es clock,fW (tM k) (sS agg) w (G.bl o) es clock m/\G.χ (G.bl o)=o+2/\∀ x∈m,po agg x.2
 | .sU k agg m key d=>∃ es clock,fW (tM k) (sS agg) w (G.bl o) es clock m/\G.χ (G.bl o)=o+2/\(∀ x∈m,po agg x.2)/\hp d≠none/\∃ i e,pos (m.map (·.1)) key=some i/\es.toList[i]?=some e/\G.hv d = .int .i64 e.born
 | .gI k e z m h=>∃ es clock mv,fW (wU k) (id:Value->Value) w (G.bl o) es clock mv/\G.χ (G.bl o)=o+2/\OM (o+2) G.χ e w z h mv m
 | .lit e cs=>∃ vs:List Value,Blk w (G.bl o) e vs.toArray/\G.χ (G.bl o)=o+2/\dU (LRd G hp w) cs vs/\G.hv o = .slice (some ⟨G.bl o,0,none⟩) cs.length cs.length/\cs.length<=100
structure Ext (G:Gh) (hp:Hp) (w:World) (G':Gh) (hp':Hp) (w':World):Prop where
 blk:∀ b,In G.χ 0 b->b<w.heap.size->In G'.χ 0 b/\w'.heap[b]?=w.heap[b]?
 bl:∀ o,hp o≠none\/1000000<=o->G'.bl o=G.bl o
 hv:∀ o,hp o≠none\/1000000<=o->G'.hv o=G.hv o
 there:∀ o,hp o≠none->hp' o≠none
theorem LRd.ext {G G':Gh} {hp hp':Hp} {w w':World} {x:av} {v:Value} (h:LRd G hp w x v) (e:Ext G hp w G' hp' w'):LRd G' hp' w' x v:=by
 refine⟨h.one,fun o ho=>e.there o (h.ids o ho),?_⟩;have hv:=h.val;cases x with
 | dead=>trivial
 | p p=>exact Rd.frame e.blk hv
 | nil=>exact hv
 | loc o off=>rw[LVal,e.bl o (.inl (h.ids o (by simp [av.ids])))]; exact hv
 | own o=>rw[LVal,e.hv o (.inl (h.ids o (by simp [av.ids])))]; exact hv
 | el o i off z=>rw[LVal,e.bl o (.inl (h.ids o (by simp [av.ids]))),e.hv o (.inl (h.ids o (by simp [av.ids])))]; exact hv
 | ip cs off =>
  obtain⟨b,off0,h1,h2,h3,h4⟩:=hv;obtain⟨h5,h6⟩:=e.blk b h2 h3;refine⟨b,off0,h1,h5,?_,fun j p hj=>?_⟩
  ·rw[Array.getElem?_eq_getElem h3] at h6;exact (Array.getElem?_eq_some_iff.1 h6).1
  ·obtain⟨u,hu,hr⟩:=h4 j p hj;exact⟨u,(World.cell?_of_block (w:=w) (a:=⟨_,_,none⟩) h6).trans hu,Rd.frame e.blk hr⟩
 | mp o=>rw[LVal,e.bl o (.inl (h.ids o (by simp [av.ids])))]; exact hv
 | nb pos l=>exact hv
 | tl l=>exact⟨Rd.frame e.blk hv.1,hv.2⟩
 | sv o a b z=>rw[LVal,e.hv o (.inl (h.ids o (by simp [av.ids])))]; exact hv
 | ps o=>rw[LVal,e.bl o (.inl (h.ids o (by simp [av.ids])))]; exact hv
 | fn f caps =>
  have:caps.map (fun o=>ptr (G'.bl o) 0)=caps.map (fun o=>ptr (G.bl o) 0):=List.map_congr_left fun o ho=>by rw[e.bl o (.inl (h.ids o ho))]
  rw[LVal,this]; exact hv
theorem dU.mono {α β:Type} {R R':α->β->Prop} {l:List α} {m:List β} (h:dU R l m) (hr:∀ a b,R a b->R' a b):dU R' l m:=⟨h.1,fun i a b ha hb=>hr _ _ (h.2 i a b ha hb)⟩
theorem CRd.ext {G G':Gh} {hp hp':Hp} {w w':World} {x:Cmp} {v:Value} (h:CRd G hp w x v) (e:Ext G hp w G' hp' w'):CRd G' hp' w' x v:=by
 cases x with
 | v x=>exact LRd.ext h e
 | g xs=>obtain⟨vs,h1,h2⟩:=h; exact⟨vs,h1,h2.mono fun a b h=>h.ext e⟩
theorem SRd.ext {G G':Gh} {hp hp':Hp} {w w':World} {x:Slot} {v:Value} (h:SRd G hp w x v) (e:Ext G hp w G' hp' w'):SRd G' hp' w' x v:=by
 cases x with
 | dead=>trivial
 | c c=>exact CRd.ext h e
 | t l=>obtain⟨vs,h1,h2⟩:=h; exact⟨vs,h1,h2.mono fun a b h=>h.ext e⟩
structure Chg (T:List Nat) (χ:Col) (w:World) (χ':Col) (w':World):Prop where
 os:w'.os=w.os
 tape:w'.tape=w.tape
 output:w'.output=w.output
 size:w.heap.size<=w'.heap.size
 col:∀ b,b<w.heap.size->χ b∉T->χ' b=χ b
 block:∀ b,b<w.heap.size->χ b∉T->w'.heap[b]?=w.heap[b]?
theorem Step.chg {T:List Nat} {χ χ':Col} {w w':World} (h:Step T χ w χ' w'):Chg T χ w χ' w':=⟨h.os,h.tape,h.output,h.size,fun b hb _=>h.col b hb,h.block⟩
theorem Own.chg {α:Type} [aA α] {T:List Nat} {k:Nat} {χ χ':Col} {e:TypeId} {w w':World} {v:Value} {l:List α} (h:Own k χ e w v l) (s:Chg T χ w χ' w') (hk:k∉T) (h0:0∉T):Own k χ' e w' v l:=by
 obtain⟨⟨xs,h1,h2⟩,h3⟩:=h;have hfr:∀ b,In χ 0 b->b<w.heap.size->In χ' 0 b/\w'.heap[b]?=w.heap[b]? := fun b hb hl =>
  ⟨(s.col b hl (by rw[show χ b=0 from hb]; exact h0)).trans hb,s.block b hl (by rw[show χ b=0 from hb]; exact h0)⟩
 refine⟨⟨xs,⟨h1.1,?_⟩,fun i x hx=>aA.frame hfr (h2 i x hx)⟩,fun g hg=>?_⟩
 ·rcases h1.2 with hn | ⟨g,cap,cur,off,rfl,hb,hgg,rest⟩
  ·exact .inl hn
  ·refine .inr ⟨g,cap,cur,off,rfl,hb,?_,rest⟩;exact hgg.frame (s.block g hgg.lt (by rw[h3 g rfl]; exact hk))
 ·rw[s.col g (h1.lt g hg).2 (by rw[h3 g hg]; exact hk)]; exact h3 g hg
theorem HRd.ext {G G':Gh} {hp hp':Hp} {w w':World} {o:Nat} {h:cu} {T:List Nat} (hr:HRd G hp w o h) (e:Ext G hp w G' hp' w') (s:Chg T G.χ w G'.χ w') (hT:o+2∉T) (h0:0∉T) (ho:hp o≠none):HRd G' hp' w' o h:=by
 cases h with
 | gone=>trivial
 | box t cs =>
  obtain⟨vs,h1,h2,h3⟩:=hr;rw[HRd,e.bl o (.inl ho)];exact⟨vs,(s.block _ h1.lt (by rw[h2]; exact hT)).trans h1,(s.col _ h1.lt (by rw[h2]; exact hT)).trans h2,h3.mono fun a b h=>h.ext e⟩
 | arr t z l =>
  rw[HRd,e.bl o (.inl ho),e.hv o (.inl ho)];exact⟨hr.1.chg s hT h0,hr.2⟩
 | kx k agg m =>
  obtain⟨es,clock,h1,h2,h3⟩:=hr;rw[HRd,e.bl o (.inl ho)];exact⟨es,clock,h1.frame (s.block _ h1.lt (by rw[h2]; exact hT)),(s.col _ h1.lt (by rw[h2]; exact hT)).trans h2,h3⟩
 | iJ agg m =>
  obtain⟨es,clock,mv,h1,h2,h3⟩:=hr;rw[HRd,e.bl o (.inl ho)];exact⟨es,clock,mv,h1.frame (s.block _ h1.lt (by rw[h2]; exact hT)),(s.col _ h1.lt (by rw[h2]; exact hT)).trans h2,h3.frame e.blk⟩
 | fM k agg m =>
  obtain⟨es,clock,h1,h2,h3⟩:=hr;rw[HRd,e.bl o (.inl ho)];exact⟨es,clock,h1.frame (s.block _ h1.lt (by rw[h2]; exact hT)),(s.col _ h1.lt (by rw[h2]; exact hT)).trans h2,h3⟩
 | sU k agg m key d =>
  obtain⟨es,clock,h1,h2,h3,h4,i,e',h5,h6,h7⟩:=hr;rw[HRd,e.bl o (.inl ho)];exact⟨es,clock,h1.frame (s.block _ h1.lt (by rw[h2]; exact hT)),(s.col _ h1.lt (by rw[h2]; exact hT)).trans h2,h3,e.there d h4,i,e',h5,h6,(e.hv d (.inl h4)).trans h7⟩
 | gI k t z m h =>
  obtain⟨es,clock,mv,h1,h2,h3,h4,h5⟩:=hr;rw[HRd,e.bl o (.inl ho)];exact⟨es,clock,mv,h1.frame (s.block _ h1.lt (by rw[h2]; exact hT)),(s.col _ h1.lt (by rw[h2]; exact hT)).trans h2,h3,fun i x y hx hy hh=>(h4 i x y hx hy hh).chg s hT h0,h5⟩
 | lit t cs =>
  obtain⟨vs,h1,h2,h3,h4,h5⟩:=hr;rw[HRd,e.bl o (.inl ho),e.hv o (.inl ho)];exact⟨vs,(s.block _ h1.lt (by rw[h2]; exact hT)).trans h1,(s.col _ h1.lt (by rw[h2]; exact hT)).trans h2,h3.mono fun a b h=>h.ext e,h4,h5⟩
structure St where
 tm:Nat->Slot
 hp:Hp
def upd {α:Type} (f:Nat->α) (k:Nat) (v:α):Nat->α:=fun j=>if j=k then v else f j
def St.put (s:St) (d:Option Nat) (x:Slot):St:=match d with | some d=>{ s with tm:=upd s.tm d x } | none=>s
structure Ctx where
 T:Nat->Prop
 bl:Nat->Nat
 hv:Nat->Value
 lo:Nat
def zb (g:Nat):Option (List PV) :=
 match g with
 | 1=>some [.str ⟨#[61,61]⟩,.str ⟨#[59]⟩,.str ⟨#[44]⟩,.str ⟨#[61]⟩,.str ⟨#[60]⟩,.str ⟨#[43]⟩,.str ⟨#[45]⟩,.str ⟨#[42]⟩,.str ⟨#[46]⟩,.str ⟨#[33]⟩,.str ⟨#[40]⟩,.str ⟨#[41]⟩,.str ⟨#[123]⟩,.str ⟨#[125]⟩]
 | _=>none
def Jb (g:Nat):Bool:=Nat.beq g 0
def Jc (g:Nat):Option (IntKind×List Int):=match g with | 5=>some (.u64,Lib.pow10Tab) | 2=>some (.u8,Lib.asciiSpaceTab) | _=>none
def Jd (g:Nat):Prop:=(zb g).isSome=true\/Jb g=true\/(Jc g).isSome=true
def FW (w:World) (g:Nat) (k:IntKind) (zs:List Int):Prop := ∃ t fr,w.heap[g]?=some (.cells (zs.map fun z=>Value.int k z).toArray t fr)
theorem wW {P:Program} {w:World} {g:Nat} {k:IntKind} {zs:List Int} {name:String} (hg:P.globalNamed name=some g) (h:FW w g k zs):Lib.TabIs P w name k zs:=by
 obtain⟨t,fr,h⟩:=h;unfold Lib.TabIs World.var?;rw[hg];show (match w.heap[g]? with | some (.cells cs _ _)=>some cs | _=>none)=_;rw[h]
theorem rq {P:Program} {w:World} {g:Nat} {k:IntKind} {zs:List Int} {name:String} (hg:P.globalNamed name=some g) (h:Lib.TabIs P w name k zs):FW w g k zs:=by
 unfold Lib.TabIs World.var? at h;rw[hg] at h;have h:(match w.heap[g]? with | some (.cells cs _ _)=>some cs | _=>none)=some (zs.map fun z=>Value.int k z).toArray:=h;split at h
 ·rename_i cs t fr hb;injection h with h
  exact⟨t,fr,hb.trans (by rw[h])⟩
 ·cases h
def wX (χ:Col) (w:World):Prop := ∀ g,Jd g->χ g=0/\g<w.heap.size/\(∀ cs,zb g=some cs->∀ (j:Nat) p,cs[j]?=some p->p.Plain/\w.cell? ⟨g,j,none⟩=some p.toV)/\(Jb g=true->∃ m,w.cell? ⟨g,0,none⟩=some (.int .i64 m))/\(∀ k zs,Jc g=some (k,zs)->FW w g k zs)
def oo (lo:Nat) (χ:Col) (w:World) (ds:List Deferred):Prop:=ds.Nodup/\∀ d∈ds,∃ D,d = { target := .collected D,args := #[] }/\lo<=D/\D<w.heap.size/\χ D=1/\w.heap[D]?=some (.deferred (some []))
theorem oo.nil {lo:Nat} {χ:Col} {w:World}:oo lo χ w []:=⟨List.nodup_nil,fun d h=>nomatch h⟩
theorem oo.step {lo:Nat} {χ χ':Col} {w w':World} {ds:List Deferred} (h:oo lo χ w ds) (hs:w.heap.size<=w'.heap.size) (hb:∀ b,b<w.heap.size->χ b=1->χ' b=1/\w'.heap[b]?=w.heap[b]?):oo lo χ' w' ds :=
 ⟨h.1,fun d hd=>by
  obtain⟨D,h1,h2,h3,h4,h5⟩:=h.2 d hd;obtain⟨h6,h7⟩:=hb D h3 h4;exact⟨D,h1,h2,Nat.lt_of_lt_of_le h3 hs,h6,h7.trans h5⟩⟩
structure bP (w0:World) (χ0:Col) (T0:Ctx) (s:St) (a:Act) (w:World) (G:Gh):Prop where
 os:w.os=w0.os
 tape:w.tape=w0.tape
 output:w.output=w0.output
 size:w0.heap.size<=w.heap.size
 old:∀ b,b<w0.heap.size -> ¬ T0.T b->w.heap[b]?=w0.heap[b]?
 col:∀ b,b<w0.heap.size -> ¬ T0.T b->G.χ b=χ0 b
 own:∀ b,2<=G.χ b->T0.T b\/w0.heap.size<=b
 pin:∀ o,1000000<=o->G.bl o=T0.bl o/\G.hv o=T0.hv o
 norm:Norm G.χ w
 defers:oo T0.lo G.χ w a.defers
 tms:∀ t,SRd G s.hp w (s.tm t) (a.tmps.getD t undef)
 gM:∀ o h,s.hp o=some h->HRd G s.hp w o h
 w5:wX χ0 w0/\∀ g,Jd g -> ¬ T0.T g
theorem bP.Ca {w0:World} {χ0:Col} {T0:Ctx} {s:St} {a:Act} {w:World} {G:Gh} (r:bP w0 χ0 T0 s a w G):wX G.χ w:=by
 intro g h;obtain⟨h1,h2,h3,h4,h5⟩:=r.w5.1 g h;have hT:=r.w5.2 g h;refine⟨(r.col g h2 hT).trans h1,Nat.lt_of_lt_of_le h2 r.size,fun cs hc j p hp=>⟨(h3 cs hc j p hp).1,?_⟩,fun ha=>?_,fun k zs hx=>?_⟩
 ·exact (World.cell?_of_block (w:=w0) (a:=⟨_,_,none⟩) (r.old g h2 hT)).trans (h3 cs hc j p hp).2
 ·obtain⟨m,hm⟩:=h4 ha;exact⟨m,(World.cell?_of_block (w:=w0) (a:=⟨_,_,none⟩) (r.old g h2 hT)).trans hm⟩
 ·obtain⟨t,fr,hb⟩:=h5 k zs hx;exact⟨t,fr,(r.old g h2 hT).trans hb⟩
theorem Act.jF (a:Act) (d:Option Nat) (v:Value):(a.put d v).tmps.size=a.tmps.size:=by cases d <;> simp [Act.put]
theorem Act.Mz (a:Act) (d:Option Nat) (v:Value):(a.put d v).defers=a.defers:=by cases d <;> rfl
theorem Act.Je (a:Act) (d:Option Nat) (v:Value) (hd:∀ k,d=some k->k<a.tmps.size) (t:Nat):(a.put d v).tmps.getD t undef=if d=some t then v else a.tmps.getD t undef:=by
 cases d with
 | none=>simp [Act.put]
 | some k =>
  have:=hd k rfl;simp only[Act.put,Array.getD_eq_getD_getElem?,Array.getElem?_setIfInBounds,Option.some.injEq];split
  ·subst_vars; simp [this]
  ·rfl
theorem bP.upd {w0:World} {χ0:Col} {T0:Ctx} {s:St} {a:Act} {w w':World} {G G':Gh} {hp':Hp} {T:List Nat} {d:Option Nat} {x:Slot} {v:Value} (r:bP w0 χ0 T0 s a w G)
  (hd:∀ k,d=some k->k<a.tmps.size) (e:Ext G s.hp w G' hp' w') (st:Chg T G.χ w G'.χ w') (hT2:∀ k∈T,2<=k) (hn:Norm G'.χ w')
  (ho:∀ o h,hp' o=some h->(s.hp o=some h/\o+2∉T)\/HRd G' hp' w' o h)
  (hx:SRd G' hp' w' x v):bP w0 χ0 T0 ({ tm:=(s.put d x).tm,hp:=hp' }:St) (a.put d v) w' G':=by
 have h0:0∉T:=fun h=>absurd (hT2 0 h) (by omega);have hfar:∀ b,b<w0.heap.size -> ¬ T0.T b->G.χ b∉T:=fun b hb hT hk=>by
  rcases r.own b (hT2 _ hk) with h | h
  ·exact hT h
  ·omega
 refine⟨st.os.trans r.os,st.tape.trans r.tape,st.output.trans r.output,Nat.le_trans r.size st.size,fun b hb hT=>?_,fun b hb hT=>?_,fun b hb=>?_,fun o ho=>⟨(e.bl o (.inr ho)).trans (r.pin o ho).1,(e.hv o (.inr ho)).trans (r.pin o ho).2⟩,hn,by rw[Act.Mz a d v]; exact r.defers.step st.size fun b hb h1=>⟨(st.col b hb (by rw[h1]; exact fun h=>absurd (hT2 1 h) (by omega))).trans h1,st.block b hb (by rw[h1]; exact fun h=>absurd (hT2 1 h) (by omega))⟩,fun t=>?_,fun o h hh=>?_,r.w5⟩
 ·exact (st.block b (Nat.lt_of_lt_of_le hb r.size) (hfar b hb hT)).trans (r.old b hb hT)
 ·exact (st.col b (Nat.lt_of_lt_of_le hb r.size) (hfar b hb hT)).trans (r.col b hb hT)
 ·by_cases hb':b<w.heap.size
  ·by_cases hT:G.χ b∈T
   ·exact r.own b (hT2 _ hT)
   ·exact r.own b (by rw[← st.col b hb' hT]; exact hb)
  ·exact .inr (by have:=r.size; omega)
 ·rw[Act.Je a d v hd];cases d with
  | none=>simpa [St.put] using (r.tms t).ext e
  | some k =>
   simp only[St.put,Lad.upd,Option.some.injEq];by_cases hk:t=k
   ·subst hk; simpa using hx
   ·rw[if_neg hk,if_neg (fun h=>hk h.symm)]; exact (r.tms t).ext e
 ·rcases ho o h hh with⟨h1,h2⟩ | h1
  ·exact (r.gM o h h1).ext e st h2 h0 (by rw[h1]; simp)
  ·exact h1
theorem Ext.refl (G:Gh) (hp:Hp) (w:World):Ext G hp w G hp w:=⟨fun _ h _=>⟨h,rfl⟩,fun _ _=>rfl,fun _ _=>rfl,fun _ h=>h⟩
theorem bP.val {w0:World} {χ0:Col} {T0:Ctx} {s:St} {a:Act} {w:World} {G:Gh} {d:Option Nat} {x:Slot} {v:Value} (r:bP w0 χ0 T0 s a w G)
  (hd:∀ k,d=some k->k<a.tmps.size) (hx:SRd G s.hp w x v):bP w0 χ0 T0 (s.put d x) (a.put d v) w G:=by
 have:=r.upd (d:=d) hd (Ext.refl G s.hp w) (Step.refl [] G.χ w).chg (by simp) r.norm (fun o h hh=>.inl ⟨hh,by simp⟩) hx;cases d <;> exact this
theorem bP.drew {w0:World} {χ0:Col} {T0:Ctx} {s:St} {a:Act} {w:World} {G:Gh} (r:bP w0 χ0 T0 s a w G):bP w0 χ0 T0 s a w.drew G:=by
 have:=r.upd (d:=none) (x := .dead) (v:=undef) (w':=w.drew) (by simp) ⟨fun _ h _=>⟨h,rfl⟩,fun _ _=>rfl,fun _ _=>rfl,fun _ h=>h⟩ (Step.refl [] G.χ w).drew.chg (by simp) r.norm (fun o h hh=>.inl ⟨hh,by simp⟩) trivial;exact this
end Go.Lad
namespace Go.Lad
open Go.RowKit
def fv (P:Program) (t:TypeId):Bool:=match P.underlying t with | some (.struct _) | some (.array _ _)=>true | _=>false
def gB (P:Program) (t:TypeId):Option Nat:=if (P.underlying t).isSome then (P.info? t).map (·.size) else none
def cR (P:Program) (t:TypeId):Option (TypeId×Nat) :=
 match P.underlying t with
 | some (.slice e)=>match P.info? e with
  | some i=>match i.zero with
   | some z=>if i.bytes<=65536/\z.cells.size=i.size/\0<i.size then some (e,i.size) else none
   | none=>none
  | none=>none
 | _=>none
theorem fe {P:Program} {t e:TypeId} {z:Nat} (h:cR P t=some (e,z)):Ej P t e z:=by
 unfold cR at h;split at h
 ·rename_i e' hu;split at h
  ·rename_i i hi;split at h
   ·rename_i v hv;split at h
    ·rename_i hc;simp only[Option.some.injEq,Prod.mk.injEq] at h;obtain⟨rfl,rfl⟩:=h;exact⟨hu,⟨i,v,hi,hv,rfl,hc.1,hc.2.1⟩,hc.2.2⟩
    ·cases h
   ·cases h
  ·cases h
 ·cases h
def nC (P:Program) (t:TypeId) (f:Nat):Option (Nat×Nat×Bool) :=
 match P.underlying t with
 | some (.struct fs)=>match fs[f]? with
  | some x=>match P.info? x.type with
   | some i=>if P.underlying x.type≠none/\0<i.size then some (x.offset,i.size,fv P x.type) else none
   | none=>none
  | none=>none
 | _=>none
def PV.flat:PV->Bool
 | .sl _=>false
 | .mp _ _=>false
 | _=>true
def ir:Value->av
 | .int k n=>if k.min<=n/\n<=k.max then .p (.int k n) else .dead
 | .bool b=>.p (.bool b)
 | .string s=>if s.size<=9223372036854775807 then .p (.str s) else .dead
 | .slice none 0 0=>.nil
 | .pointer none=>.p (.oth (.pointer none))
 | .nilFunc=>.p (.oth .nilFunc)
 | .map none=>.p (.oth (.map none))
 | .nilIface=>.p (.oth .nilIface)
 | _=>.dead
def kX:Value->Slot
 | .agg cs=>if cs.all (·.oneCell') then .c (.g (cs.toList.map ir)) else .dead
 | .tuple _=>.dead
 | v=>.c (.v (ir v))
theorem qk (G:Gh) (hp:Hp) (w:World) {v:Value} (h1:v.oneCell'=true):LRd G hp w (ir v) v:=by
 refine⟨h1,?_,?_⟩
 ·unfold ir; split <;> (try split) <;> simp [av.ids]
 ·unfold ir;split <;> (try split) <;> first
   | trivial
   | (rename_i h; exact .int h)
   | exact .bool
   | (rename_i h; exact .str h)
   | rfl
   | exact .oth rfl
theorem ql (G:Gh) (hp:Hp) (w:World) (v:Value):SRd G hp w (kX v) v:=by
 unfold kX;split
 ·rename_i cs;split
  ·rename_i h;refine⟨cs.toList,by simp,by simp,fun i a b ha hb=>?_⟩;rw[List.getElem?_map,hb] at ha;simp only[Option.map_some,Option.some.injEq] at ha;subst ha;refine qk G hp w ?_;have:=Array.all_eq_true_iff_forall_mem.1 h b (by simpa using List.mem_of_getElem? hb);exact this
  ·trivial
 ·trivial
 ·rename_i h1 h2;exact qk G hp w (by cases v <;> simp_all [Value.oneCell'])
def kN (P:Program) (t:TypeId):Option (List av) :=
 match P.info? t with
 | some i=>match i.zero with
  | some v=>if v.cells.all (·.oneCell') then some (v.cells.toList.map ir) else none
  | none=>none
 | none=>none
def St.ev (s:St):Operand->Slot
 | .tmp t=>s.tm t
 | .const v=>kX v
 | .global g=>match zb g with | some cs=>.c (.v (.ip cs 0)) | none=>.dead
 | .func f=>.c (.v (.fn (2 * f) []))
theorem bP.ev {w0:World} {χ0:Col} {T0:Ctx} {s:St} {a:Act} {w:World} {G:Gh} (r:bP w0 χ0 T0 s a w G) (x:Operand):SRd G s.hp w (s.ev x) (a.eval x):=by
 cases x with
 | tmp t=>exact r.tms t
 | const v=>exact ql G s.hp w v
 | global g =>
  have key:∀ o:Option (List PV),zb g=o->SRd G s.hp w (match o with | some cs=>.c (.v (.ip cs 0)) | none=>.dead) (a.eval (.global g)):=fun o h=>by
   cases o with
   | none=>trivial
   | some cs =>
    obtain⟨h1,h2,h3,_⟩:=r.Ca g (.inl (by rw[h]; rfl));refine⟨rfl,by simp [av.ids],g,0,rfl,h1,h2,fun j p hp=>⟨_,?_,(h3 cs h j p hp).1.rd⟩⟩;rw[Nat.zero_add]; exact (h3 cs h j p hp).2
  exact key _ rfl
 | func f=>exact⟨rfl,by simp [av.ids],(pS f []).symm⟩
structure Eff where
 cond:Prop
 res:Slot
 wr:List (Nat×cu)
abbrev Arg:=Slot×List (Option cu)
def eJ (hp:Hp):List (Nat×cu)->Hp
 | []=>hp
 | x::r=>eJ (upd hp x.1 (some x.2)) r
def St.app (s:St) (d:Option Nat) (e:Eff):St:={ tm:=(s.put d e.res).tm,hp:=eJ s.hp e.wr }
def val (x:Slot):Option Eff:=some ⟨True,x,[]⟩
def dQ (c:Prop) (x:Slot):Option Eff:=some ⟨c,x,[]⟩
abbrev Slot.p (p:PV):Slot := .c (.v (.p p))
abbrev Slot.x (x:av):Slot := .c (.v x)
def kF:Arg->Option (List (List PV))
 | (.c (.v (.p (.sl l))),_)=>some l
 | (.c (.v .nil),_)=>some []
 | (.c (.v (.tl l)),_)=>some l
 | (.c (.v (.own _)),[some (.arr _ _ l)])=>some l
 | (.c (.v (.sv _ a b z)),[some (.arr _ z' l)])=>if z=z'/\b<=l.length then some ((l.take b).drop a) else none
 | _=>none
def ew:List av->Option (List PV)
 | []=>some []
 | .p p::r=>(ew r).map (p :: ·)
 | _=>none
def uT:List Slot->Option Eff
 | [s]=>val s
 | _=>none
def s9:List Slot->Option Eff
 | [.c (.v (.p (.bool c))),.c (.v (.p (.bool x))),.c (.v (.p (.bool y)))]=>val (.p (.bool (bif c then x else y)))
 | [.c (.v (.p (.bool c))),x,y]=>val (bif c then x else y)
 | _=>none
def kJ (P:Program) (t:TypeId) (dst:Option Nat) (free:Bool):List Arg->Option Eff
 | []=>match dst,kN P t with
  | some d,some cs=>if free then some ⟨True,.x (.loc d 0),[(d,.box t cs)]⟩ else none
  | _,_=>none
 | _=>none
def qm (cs:List av) (off n:Nat) (agg:Bool):Option Cmp :=
 if agg then (if off+n<=cs.length then some (.g ((cs.drop off).take n)) else none) else (cs[off]?).map .v
def mW (P:Program) (t:TypeId):List Arg->Option Eff
 | [(.c (.v (.loc _ off)),[some (.box _ cs)])]=>match gB P t with
  | some n=>(qm cs off n (fv P t)).bind fun c=>val (.c c)
  | none=>none
 | [(.c (.v (.ip cs off)),_)]=>match gB P t with
  | some n=>if fv P t then dQ (off+n<=cs.length) (.c (.g (((cs.drop off).take n).map .p))) else dQ (off<cs.length) (.p (cs.getD off (.bool false)))
  | none=>none
 | [(.c (.v (.el _ i off z)),[some (.arr _ z' l)])]=>match gB P t with
  | some n=>if z=z' then (if fv P t then dQ (i<l.length/\off+n<=z) (.c (.g ((((l.getD i []).drop off).take n).map .p))) else dQ (i<l.length/\off<z) (.p ((l.getD i []).getD off (.bool false)))) else none
  | none=>none
 | _=>none
def Cb:List Slot->Option Eff
 | [.c (.v (.loc o off))]=>val (.x (.loc o off))
 | [.c (.v (.el o i off z))]=>val (.x (.el o i off z))
 | [.c (.v (.ip cs off))]=>val (.x (.ip cs off))
 | _=>none
def jS (P:Program) (t:TypeId) (f:Nat):List Slot->Option Eff
 | [.c (.v (.loc o off))]=>match nC P t f with | some (k,_,_)=>val (.x (.loc o (off+k))) | none=>none
 | [.c (.v (.el o i off z))]=>match nC P t f with | some (k,_,_)=>val (.x (.el o i (off+k) z)) | none=>none
 | [.c (.v (.ip cs off))]=>match nC P t f with | some (k,_,_)=>val (.x (.ip cs (off+k))) | none=>none
 | _=>none
def sf (P:Program) (t:TypeId) (f:Nat):List Slot->Option Eff
 | [.c (.g xs)]=>match nC P t f with | some (k,n,agg)=>(qm xs k n agg).bind fun c=>val (.c c) | none=>none
 | _=>none
def eX (P:Program) (t:TypeId):List Arg->Option Eff
 | [(.c (.v (.p (.sl l))),_),(.c (.v (.p (.int _ n))),_)]=>match cR P t with
  | some (_,z)=>dQ (0<=n/\n.toNat<l.length/\(l.getD n.toNat []).length=z) (.x (.ip (l.getD n.toNat []) 0))
  | none=>none
 | [(.c (.v (.own o)),[some (.arr _ z' l)]),(.c (.v (.p (.int _ n))),_)]=>match cR P t with
  | some (_,z)=>if z=z' then dQ (0<=n/\n.toNat<l.length) (.x (.el o n.toNat 0 z)) else none
  | none=>none
 | [(.c (.v (.sv o a b z2)),[some (.arr _ z' l)]),(.c (.v (.p (.int _ n))),_)]=>match cR P t with
  | some (_,z)=>if z=z'/\z2=z' then dQ (0<=n/\n.toNat<b-a/\b<=l.length) (.x (.el o (a+n.toNat) 0 z)) else none
  | none=>none
 | _=>none
def ov (P:Program) (t:TypeId):List Slot->Option Eff
 | [.c (.v (.p (.str s))),.c (.v (.p (.int _ n)))]=>match P.underlying t with
  | some .string=>dQ (0<=n/\n.toNat<s.size) (.p (.int .u8 (s.data.toList.getD n.toNat 0).toNat))
  | _=>none
 | [.c (.g xs),.c (.v (.p (.int _ n)))]=>match P.underlying t with
  | some (.array m e)=>match gB P e,ew xs with
   | some 1,some ps=>if ps.length=m/\fv P e=false then dQ (0<=n/\n.toNat<ps.length) (.p (ps.getD n.toNat (.bool false))) else none
   | _,_=>none
  | _=>none
 | _=>none
def mc (op:BinOp) (k:IntKind) (a b:Int):Option Eff :=
 match op with
 | .add=>if k = .i64 then dQ (inK .i64 (a+b)) (.p (.int .i64 (a+b))) else val (.p (.int k (k.wrap (a+b))))
 | .sub=>if k = .i64 then dQ (inK .i64 (a-b)) (.p (.int .i64 (a-b))) else val (.p (.int k (k.wrap (a-b))))
 | .mul=>if k = .i64 then dQ (inK .i64 (a * b)) (.p (.int .i64 (a * b))) else val (.p (.int k (k.wrap (a * b))))
 | .quo=>dQ (b≠0/\inK k (a.tdiv b)) (.p (.int k (a.tdiv b)))
 | .rem=>dQ (b≠0/\inK k (a.tmod b)) (.p (.int k (a.tmod b)))
 | .eql=>val (.p (.bool (decide (a=b))))
 | .neq=>val (.p (.bool (!decide (a=b))))
 | .lss=>val (.p (.bool (decide (a<b))))
 | .leq=>val (.p (.bool (decide (a<=b))))
 | .gtr=>val (.p (.bool (decide (b<a))))
 | .geq=>val (.p (.bool (decide (b<=a))))
 | _=>none
def mX (op:BinOp) (a b:ByteArray):Option Eff :=
 match op with
 | .add=>dQ (a.size+b.size<=9223372036854775807) (.p (.str (a++b)))
 | .eql=>val (.p (.bool (decide (a=b))))
 | .neq=>val (.p (.bool (!decide (a=b))))
 | .lss=>val (.p (.bool (Op.bytesLess a.toList b.toList)))
 | .leq=>val (.p (.bool (Op.bytesLess a.toList b.toList || decide (a=b))))
 | .gtr=>val (.p (.bool (!(Op.bytesLess a.toList b.toList || decide (a=b)))))
 | .geq=>val (.p (.bool (!Op.bytesLess a.toList b.toList)))
 | _=>none
def mS (P:Program) (op:BinOp) (t:TypeId):List Slot->Option Eff
 | [.c (.v (.p (.int k a))),.c (.v (.p (.int k' b)))]=>if k=k' then mc op k a b else none
 | [.c (.v (.p (.str a))),.c (.v (.p (.str b)))]=>mX op a b
 | [.c (.v (.p (.bool a))),.c (.v (.p (.bool b)))]=>match op,P.underlying t with
  | .eql,some .bool=>val (.p (.bool (a == b)))
  | .neq,some .bool=>val (.p (.bool (!(a == b))))
  | _,_=>none
 | [.c (.v (.p (.sl l))),.c (.v .nil)]=>match op,P.underlying t with
  | .eql,some (.slice _)=>val (.x (.nb true l))
  | .neq,some (.slice _)=>val (.x (.nb false l))
  | _,_=>none
 | [.c (.v .nil),.c (.v .nil)]=>match op,P.underlying t with
  | .eql,some (.slice _)=>val (.p (.bool true))
  | .neq,some (.slice _)=>val (.p (.bool false))
  | _,_=>none
 | [.c (.v (.loc _ _)),.c (.v (.p (.oth (.pointer none))))]=>match op,P.underlying t with
  | .eql,some (.pointer _)=>val (.p (.bool false))
  | .neq,some (.pointer _)=>val (.p (.bool true))
  | _,_=>none
 | [.c (.v (.p (.oth (.pointer none)))),.c (.v (.p (.oth (.pointer none))))]=>match op,P.underlying t with
  | .eql,some (.pointer _)=>val (.p (.bool true))
  | .neq,some (.pointer _)=>val (.p (.bool false))
  | _,_=>none
 | _=>none
def kG (P:Program) (src dst:TypeId):List Slot->Option Eff
 | [.c (.v (.p (.int k n)))]=>match P.underlying src,P.underlying dst with
  | some (.int _),some (.int k')=>if k' = .i64/\k ≠ .u64 then val (.p (.int .i64 n)) else val (.p (.int k' (k'.wrap n)))
  | _,_=>none
 | [.c (.v (.p (.str s)))]=>match P.underlying src,P.underlying dst with
  | some .string,some .string=>val (.p (.str s))
  | _,_=>none
 | _=>none
def Jf (op:UnOp):List Slot->Option Eff
 | [.c (.v (.p (.bool a)))]=>match op with | .not=>val (.p (.bool (!a))) | _=>none
 | [.c (.v (.p (.int .i64 a)))]=>match op with | .neg=>dQ (inK .i64 (-a)) (.p (.int .i64 (-a))) | _=>none
 | [.c (.v (.p (.int .u64 a)))]=>match op with | .neg=>val (.p (.int .u64 (IntKind.u64.wrap (0-a)))) | _=>none
 | _=>none
def oK (i:Nat):List Slot->Option Eff
 | [.t l]=>match l[i]? with | some c=>val (.c c) | none=>none
 | _=>none
def wY:List av->List (Nat×Nat×Cmp)->Option (List av)
 | cs,[]=>some cs
 | cs,(off,n,c)::r=>if c.leaves.length=n/\off+n<=cs.length then wY (cs.take off++c.leaves++cs.drop (off+n)) r else none
def ow (place:Nat->Option (Nat×Nat)):List Nat->List Slot->Option (List (Nat×Nat×Cmp))
 | [],[]=>some []
 | i::is,.c c::r=>match place i,ow place is r with | some (o,n),some l=>some ((o,n,c)::l) | _,_=>none
 | _,_=>none
def placesOf (P:Program) (t:TypeId):Option (List (Nat×Nat)) :=
 match P.underlying t with
 | some (.struct fs)=>fs.toList.mapM fun f=>(P.info? f.type).map fun i=>(f.offset,i.size)
 | some (.array m e)=>(P.info? e).map fun i=>(List.range m).map fun k=>(k * i.size,i.size)
 | _=>none
def si (P:Program) (t:TypeId) (is:List Nat) (args:List Slot):Option Eff :=
 match placesOf P t,kN P t with
 | some pl,some z=>match ow (fun i=>pl[i]?) is args with
  | some l=>match wY z l with | some cs=>val (.c (.g cs)) | none=>none
  | none=>none
 | _,_=>none
def Cc:av->Option PV
 | .p p=>some p
 | .nil=>some (.sl [])
 | _=>none
def iv:List av->Option (List PV)
 | []=>some []
 | x::r=>match Cc x,iv r with | some p,some l=>some (p::l) | _,_=>none
def rowsOf (z:Nat):List Arg->Option (List (List PV))
 | []=>some []
 | (.c c,_)::r=>match iv c.leaves,rowsOf z r with | some ps,some l=>if ps.length=z then some (ps::l) else none | _,_=>none
 | _=>none
def dx (P:Program) (t:TypeId) (len:Nat) (is:List Nat) (dst:Option Nat) (free:Bool) (args:List Arg):Option Eff :=
 match cR P t,dst with
 | some (e,z),some d=>if is=List.range len/\free/\len<=100/\z<=1000 then match rowsOf z args with | some l=>some ⟨True,.x (.own d),[(d,.arr e z l)]⟩ | none=>none else none
 | _,_=>none
def me (P:Program) (t:TypeId):List Arg->Option Eff
 | [(.c (.v (.mp _)),[some (.kx _ _ m)])]=>match P.underlying t with | some (.map _ _)=>dQ (m.length<=9223372036854775807) (.p (.int .i64 m.length)) | _=>none
 | [(.c (.v (.mp _)),[some (.iJ _ m)])]=>match P.underlying t with | some (.map _ _)=>dQ (m.length<=9223372036854775807) (.p (.int .i64 m.length)) | _=>none
 | [(.c (.v (.mp _)),[some (.fM _ _ m)])]=>match P.underlying t with | some (.map _ _)=>dQ (m.length<=9223372036854775807) (.p (.int .i64 m.length)) | _=>none
 | [(.c (.v (.p (.str s))),_)]=>match P.underlying t with | some .string=>val (.p (.int .i64 s.size)) | _=>none
 | [a]=>match P.underlying t,kF a with | some (.slice _),some l=>val (.p (.int .i64 l.length)) | _,_=>none
 | _=>none
def iw (P:Program) (t:TypeId) (dst:Option Nat) (free:Bool):List Arg->Option Eff
 | [(.c (.v (.own o)),[some (.arr e z l)]),y]=>match cR P t,kF y,dst with
  | some (e',z'),some m,some d=>if e=e'/\z=z'/\free then some ⟨l.length+m.length<=2147483647/\∀ x∈m,x.length=z,.x (.own d),[(o,.gone),(d,.arr e z (l++m))]⟩ else none
  | _,_,_=>none
 | [(.c (.v .nil),_),y]=>match cR P t,kF y,dst with
  | some (e,z),some m,some d=>if free then some ⟨m.length<=2147483647/\∀ x∈m,x.length=z,.x (.own d),[(d,.arr e z m)]⟩ else none
  | _,_,_=>none
 | _=>none
def ox (P:Program) (t:TypeId):List Arg->Option Eff
 | [(.c (.v (.loc o off)),[some (.box bt cs)]),(.c c,_)]=>match gB P t with
  | some n=>if c.leaves.length=n/\off+n<=cs.length then some ⟨True,.dead,[(o,.box bt (cs.take off++c.leaves++cs.drop (off+n)))]⟩ else none
  | none=>none
 | [(.c (.v (.el o i off z)),[some (.arr e z' l)]),(.c c,_)]=>match gB P t,ew c.leaves with
  | some n,some ps=>if z=z'/\ps.length=n then some ⟨i<l.length/\off+n<=z,.dead,[(o,.arr e z (l.set i ((l.getD i []).take off++ps++(l.getD i []).drop (off+n))))]⟩ else none
  | _,_=>none
 | _=>none
def sT (hl hh:Bool) (n:Nat) (as:List Arg):Option (Int×Int) :=
 match hl,hh,as with
 | false,false,[]=>some (0,n)
 | true,false,[(.c (.v (.p (.int _ i))),_)]=>some (i,n)
 | false,true,[(.c (.v (.p (.int _ j))),_)]=>some (0,j)
 | true,true,[(.c (.v (.p (.int _ i))),_),(.c (.v (.p (.int _ j))),_)]=>some (i,j)
 | _,_,_=>none
def j0 (P:Program) (t:TypeId) (hl hh:Bool):List Arg->Option Eff
 | (.c (.v (.p (.str s))),_)::as=>match P.underlying t,sT hl hh s.size as with
  | some .string,some (i,j)=>dQ (0<=i/\i<=j/\j<=s.size) (.p (.str (s.extract i.toNat j.toNat)))
  | _,_=>none
 | (.c (.v (.p (.sl l))),_)::as=>match cR P t,sT hl hh l.length as with
  | some (_,z),some (i,j)=>dQ (0<=i/\i<=j/\j<=l.length/\∀ x∈l,x.length=z) (.p (.sl ((l.take j.toNat).drop i.toNat)))
  | _,_=>none
 | (.c (.v .nil),_)::as=>match cR P t,sT hl hh 0 as with
  | some _,some (i,j)=>dQ (i=0/\j=0) (.x .nil)
  | _,_=>none
 | (.c (.v (.own o)),[some (.arr _ z' l)])::as=>match cR P t,sT hl hh l.length as with
  | some (_,z),some (i,j)=>if z=z' then dQ (0<=i/\i<=j/\j<=l.length) (.x (.sv o i.toNat j.toNat z)) else none
  | _,_=>none
 | _=>none
def mf:Cmp->Option (Bool×List PV)
 | .v (.p p)=>some (false,[p])
 | .g xs=>(ew xs).map fun ps=>(true,ps)
 | _=>none
def ru (agg:Bool) (ps:List PV):Cmp:=if agg then .g (ps.map .p) else .v (.p (ps.headD (.bool false)))
def pJ (P:Program) (t:TypeId):Option (Bool×List PV) :=
 match P.info? t with
 | some i=>match i.zero with
  | some v=>match kX v with
   | .c c=>match mf c with
    | some (agg,ps)=>if ps.all PV.flat then some (agg,ps) else none
    | none=>none
   | _=>none
  | none=>none
 | none=>none
def av.pq:av->av
 | .nil=>.p (.sl [])
 | x=>x
def Cmp.pq:Cmp->Cmp
 | .v x=>.v x.pq
 | .g xs=>.g (xs.map av.pq)
def qn (P:Program) (t:TypeId):Option (Bool×List PV) :=
 match P.info? t with
 | some i=>match i.zero with
  | some v=>match kX v with
   | .c c=>mf c.pq
   | _=>none
  | none=>none
 | none=>none
def Jg (P:Program) (t:TypeId):Option IntKind :=
 match P.underlying t with
 | some (.struct fs)=>match fs.toList with
  | [f,g,h]=>match P.underlying f.type,P.underlying g.type,P.underlying h.type with
   | some (.int k),some (.int k2),some (.int k3)=>if (decide (k2=k) && decide (k3=k) && decide (f.offset=0) && decide (g.offset=1) && decide (h.offset=2) && (f.name != "_") && (g.name != "_") && (h.name != "_") && !P.stoodInHeld t)=true then some k else none
   | _,_,_=>none
  | _=>none
 | _=>none
def Cd (P:Program) (kt:TypeId):Option IntKind :=
 match P.underlying kt with
 | some (.struct fs)=>match fs.toList with
  | [f,g,h]=>match P.underlying f.type,Jg P g.type,P.underlying h.type with
   | some .string,some k,some .string=>if (decide (f.offset=0) && decide (g.offset=1) && decide (h.offset=4) && (f.name != "_") && (g.name != "_") && (h.name != "_") && !P.stoodInHeld kt && decide (gB P g.type=some 3))=true then some k else none
   | _,_,_=>none
  | _=>none
 | _=>none
def kB (P:Program) (t:TypeId) (dst:Option Nat) (free:Bool):List Arg->Option Eff
 | []=>match P.underlying t,dst with
  | some (.map kt et),some d=>match P.underlying kt with
   | some .string=>match qn P et with
    | some (agg,_)=>if free then some ⟨True,.x (.mp d),[(d,.iJ agg [])]⟩ else none
    | none=>none
   | ktd=>match ktd,pJ P et with
    | some (.int k),some (agg,_)=>if free then some ⟨True,.x (.mp d),[(d,.kx k agg [])]⟩ else none
    | some (.struct _),some (agg,_)=>match Cd P kt with
     | some k=>if free then some ⟨True,.x (.mp d),[(d,.fM k agg [])]⟩ else none
     | none=>none
    | _,_=>none
  | _,_=>none
 | _=>none
def mg (ok:Bool) (agg:Bool) (r:Option (List PV)) (z:List PV):Slot :=
 if ok then .t [ru agg (r.getD z),.v (.p (.bool r.isSome))] else .c (ru agg (r.getD z))
def iy (P:Program) (t:TypeId) (ok:Bool):List Arg->Option Eff
 | [(.c (.v (.mp _)),[some (.kx k agg m)]),(.c (.v (.p (.int k' n))),_)]=>match P.underlying t with
  | some (.map kt et)=>match P.underlying kt,pJ P et with
   | some (.int k2),some (agg2,z)=>if k=k2/\k'=k2/\agg2=agg then val (mg ok agg (bG m n) z) else none
   | _,_=>none
  | _=>none
 | [(.c (.v (.mp _)),[some (.iJ agg m)]),(.c (.v (.p (.str s))),_)]=>match P.underlying t with
  | some (.map kt et)=>match P.underlying kt,qn P et with
   | some .string,some (agg2,z)=>if agg2=agg then val (mg ok agg (bG m s) z) else none
   | _,_=>none
  | _=>none
 | [(.c (.v (.p (.oth (.map none)))),_),(.c (.v (.p (.str _))),_)]=>match P.underlying t with
  | some (.map kt et)=>match P.underlying kt,qn P et with
   | some .string,some (agg,z)=>val (mg ok agg none z)
   | _,_=>none
  | _=>none
 | [(.c (.v (.mp _)),[some (.fM k agg m)]),(.c (.g [.p (.str s0),.p (.int k' n),.p (.int k4 n4),.p (.int k5 n5),.p (.str s)]),_)]=>match P.underlying t with
  | some (.map kt et)=>match Cd P kt,pJ P et with
   | some k2,some (agg2,z)=>if k=k2/\k'=k2/\k4=k2/\k5=k2/\agg2=agg then val (mg ok agg (bG m (s0,n,n4,n5,s)) z) else none
   | _,_=>none
  | _=>none
 | _=>none
def gr (P:Program) (t:TypeId):List Arg->Option Eff
 | [(.c (.v (.mp o)),[some (.kx k agg m)]),(.c (.v (.p (.int k' n))),_),(.c c,_)]=>match P.underlying t with
  | some (.map kt _)=>match P.underlying kt,mf c with
   | some (.int k2),some (agg2,ps)=>if k=k2/\k'=k2/\agg2=agg then some ⟨∀ p∈ps,p.flat=true,.dead,[(o,.kx k agg (fa m n ps))]⟩ else none
   | _,_=>none
  | _=>none
 | [(.c (.v (.mp o)),[some (.iJ agg m)]),(.c (.v (.p (.str s))),_),(.c c,_)]=>match P.underlying t with
  | some (.map kt _)=>match P.underlying kt,mf c with
   | some .string,some (agg2,ps)=>if agg2=agg then some ⟨True,.dead,[(o,.iJ agg (fa m s ps))]⟩ else none
   | _,_=>none
  | _=>none
 | [(.c (.v (.mp o)),[some (.fM k agg m)]),(.c (.g [.p (.str s0),.p (.int k' n),.p (.int k4 n4),.p (.int k5 n5),.p (.str s)]),_),(.c c,_)]=>match P.underlying t with
  | some (.map kt _)=>match Cd P kt,mf c with
   | some k2,some (agg2,ps)=>if k=k2/\k'=k2/\k4=k2/\k5=k2/\agg2=agg then some ⟨∀ p∈ps,p.flat=true,.dead,[(o,.fM k agg (fa m (s0,n,n4,n5,s) ps))]⟩ else none
   | _,_=>none
  | _=>none
 | _=>none
def Op.bq:Op->List Operand
 | .move x | .assign x | .box _ x | .load _ x | .nilCheck x | .unOp _ _ x | .convert _ _ x | .makeInterface _ x
 | .fieldAddr _ x _ | .field _ x _ | .range _ x | .next x _ | .extract x _=>[x]
 | .pick c a b=>[c,a,b]
 | .build _ ps | .buildSlice _ _ ps=>ps.toList.map (·.2)
 | .store _ a v | .binOp _ _ a v _ | .makeSlice _ a v | .indexAddr _ a v | .index _ a v | .lookup _ a v _ | .mapEntry _ a v=>[a,v]
 | .makeFunc _ first captured=>first.toList++captured.toList
 | .slice _ x l h m=>x::(l.toList++h.toList++m.toList)
 | .mapUpdate _ m k v | .entryStore _ m k v=>[m,k,v]
 | .makeMap _ r=>r.toList
 | .call c=>(match c.callee with | .value f=>[f] | .invoke r _=>[r] | .builtin _=>[])++c.args.toList
 | _=>[]
def St.arg (s:St) (x:Operand):Arg:=(s.ev x,(s.ev x).ids.map s.hp)
def aF (hp:Hp):Option Nat->Bool
 | some d=>(hp d).isNone && decide (d<1000000)
 | none=>false
def opE (P:Program) (op:Op) (dst:Option Nat) (free:Bool) (args:List Arg):Option Eff :=
 match op with
 | .move _ | .assign _=>uT (args.map (·.1))
 | .pick _ _ _=>s9 (args.map (·.1))
 | .alloc t=>kJ P t dst free args
 | .load t _=>mW P t args
 | .store t _ _=>ox P t args
 | .nilCheck _=>Cb (args.map (·.1))
 | .fieldAddr t _ f=>jS P t f (args.map (·.1))
 | .field t _ f=>sf P t f (args.map (·.1))
 | .indexAddr t _ _=>eX P t args
 | .index t _ _=>ov P t (args.map (·.1))
 | .binOp b t _ _ _=>mS P b t (args.map (·.1))
 | .unOp b _ _=>Jf b (args.map (·.1))
 | .extract _ i=>oK i (args.map (·.1))
 | .build t ps=>si P t (ps.toList.map (·.1)) (args.map (·.1))
 | .buildSlice t n ps=>dx P t n (ps.toList.map (·.1)) dst free args
 | .convert s d _=>kG P s d (args.map (·.1))
 | .slice t _ l h none=>j0 P t l.isSome h.isSome args
 | .makeMap t _=>kB P t dst free args
 | .lookup t _ _ ok=>iy P t ok args
 | .mapUpdate t _ _ _=>gr P t args
 | .call { callee := .builtin .len,argTypes:=ts,.. }=>match ts.toList with | [t]=>me P t args | _=>none
 | .call { callee := .builtin .append,argTypes:=ts,.. }=>match ts.toList with | [t,t']=>if t=t' then iw P t dst free args else none | _=>none
 | _=>none
end Go.Lad
namespace Go.Lad
open Go.RowKit
def aX (w0:World) (χ0:Col) (T0:Ctx) (n:Nat) (s':St) (a':Act) (w':World):Prop:=a'.tmps.size=n/\∃ G',bP w0 χ0 T0 s' a' w' G'
section
variable {P:Program} {w0:World} {χ0:Col} {T0:Ctx} {s:St} {a:Act} {w:World} {G:Gh} {o:Oper} {Q:Exit->Act->World->Prop}
theorem bD {x:Slot} {v:Value} {c:Prop} (r:bP w0 χ0 T0 s a w G) (hd:∀ k,o.dst=some k->k<a.tmps.size)
  (hrun:(execOp a.eval o).run P w = .ok (.value v) w) (hx:SRd G s.hp w x v):o.wp P a w (aX w0 χ0 T0 a.tmps.size (s.app o.dst ⟨c,x,[]⟩)) Q:=by
 unfold Oper.wp;rw[hrun];have h:=r.val hd hx;refine⟨Act.jF _ _ _,G,?_⟩;have e:s.app o.dst ⟨c,x,[]⟩=s.put o.dst x:=by unfold St.app St.put; cases o.dst <;> rfl
 rw[e]; exact h
theorem AU {p:PV} {v:Value} (h:SRd G s.hp w (.p p) v):Rd (In G.χ 0) w p v:=by
 exact LRd.val h
theorem fH {k:IntKind} {n:Int} {v:Value} (h:SRd G s.hp w (.p (.int k n)) v):v = .int k n/\inK k n:=by
 cases AU h; exact⟨rfl,by assumption⟩
theorem lM {b:Bool} {v:Value} (h:SRd G s.hp w (.p (.bool b)) v):v = .bool b:=by
 cases AU h; rfl
theorem lv {t:ByteArray} {v:Value} (h:SRd G s.hp w (.p (.str t)) v):v = .string t/\t.size<=9223372036854775807:=by
 cases AU h; exact⟨rfl,by assumption⟩
theorem wZ {u v:Value} (h:SRd G s.hp w (.p (.oth u)) v):v=u:=by
 cases AU h; rfl
theorem lx {v:Value} (h:SRd G s.hp w (.x .nil) v):v = .slice none 0 0:=by
 exact LRd.val h
theorem Jh {p:PV} {v:Value} (h:Rd (In G.χ 0) w p v):SRd G s.hp w (.p p) v:=⟨h.one,by simp [av.ids],h⟩
theorem ke (b:Bool):SRd G s.hp w (.p (.bool b)) (.bool b):=Jh .bool
theorem iz {k:IntKind} {n:Int} (h:inK k n):SRd G s.hp w (.p (.int k n)) (.int k n):=Jh (.int h)
theorem AV {t:ByteArray} (h:t.size<=9223372036854775807):SRd G s.hp w (.p (.str t)) (.string t):=Jh (.str h)
theorem St.bF {x:Operand} {sl:Slot} {hs:List (Option cu)} (h:s.arg x=(sl,hs)):s.ev x=sl/\sl.ids.map s.hp=hs:=by
 unfold St.arg at h;injection h with h1 h2
 subst h1;exact⟨rfl,h2⟩
theorem zx {e:Eff} {x:Operand} (r:bP w0 χ0 T0 s a w G) (hd:∀ k,o.dst=some k->k<a.tmps.size) (ho:o.op = .move x\/o.op = .assign x) (h:uT [s.ev x]=some e) :
  o.wp P a w (aX w0 χ0 T0 a.tmps.size (s.app o.dst e)) Q:=by
 simp only[uT,val,Option.some.injEq] at h;subst h;refine bD r hd ?_ (r.ev x);rcases ho with ho | ho <;> simp [execOp,ho]
theorem Hn {e:Eff} {x y z:Operand} (r:bP w0 χ0 T0 s a w G) (hd:∀ k,o.dst=some k->k<a.tmps.size) (ho:o.op = .pick x y z) (h:s9 [s.ev x,s.ev y,s.ev z]=some e) :
  o.wp P a w (aX w0 χ0 T0 a.tmps.size (s.app o.dst e)) Q:=by
 have hx:=r.ev x;have hy:=r.ev y;have hz:=r.ev z;unfold s9 at h;split at h
 ·rename_i c b1 b2 heq;simp only[List.cons.injEq,and_true] at heq;obtain⟨h1,h2,h3⟩:=heq;rw[h1] at hx;rw[h2] at hy;rw[h3] at hz;simp only[val,Option.some.injEq] at h;subst h;refine bD (v := .bool (bif c then b1 else b2)) r hd ?_ (ke _);simp only[execOp,ho,lM hx,lM hy,lM hz,asBool,Sem.run_bind,Sem.run_pure,Result.andThen_ok];cases c <;> rfl
 ·rename_i c s1 s2 _ heq;simp only[List.cons.injEq,and_true] at heq;obtain⟨h1,h2,h3⟩:=heq;rw[h1] at hx;rw[h2] at hy;rw[h3] at hz;simp only[val,Option.some.injEq] at h;subst h;refine bD (v:=bif c then a.eval y else a.eval z) r hd ?_ (by cases c <;> assumption);simp only[execOp,ho,lM hx,asBool,Sem.run_bind,Sem.run_pure,Result.andThen_ok];cases c <;> rfl
 ·cases h
theorem Ho (n:Int):inK .u64 (IntKind.u64.wrap n):=by
 simp only[inK,IntKind.wrap,IntKind.min,IntKind.max,IntKind.signed,IntKind.bits]; simp <;> omega
theorem MA {e:Eff} {u:UnOp} {t:TypeId} {x:Operand} (r:bP w0 χ0 T0 s a w G) (hd:∀ k,o.dst=some k->k<a.tmps.size) (ho:o.op = .unOp u t x) (h:Jf u [s.ev x]=some e) (hc:e.cond) :
  o.wp P a w (aX w0 χ0 T0 a.tmps.size (s.app o.dst e)) Q:=by
 have hx:=r.ev x;unfold Jf at h;split at h
 ·rename_i b heq;simp only[List.cons.injEq,and_true] at heq;rw[heq] at hx;split at h
  ·simp only[val,Option.some.injEq] at h;subst h;refine bD r hd ?_ (ke _);simp [execOp,ho,lM hx,Op.unary]
  ·cases h
 ·rename_i b heq;simp only[List.cons.injEq,and_true] at heq;rw[heq] at hx;split at h
  ·simp only[dQ,Option.some.injEq] at h;subst h;refine bD r hd ?_ (iz hc);have h2:IntKind.i64.wrap (0-b) = -b:=by
    have:=hc;simp only[inK,IntKind.min,IntKind.max,IntKind.signed,IntKind.bits] at this;rw[IntKind.wrap_i64];simp at this;omega
   simp [execOp,ho,(fH hx).1,Op.unary,Op.intArith] at h2 ⊢;exact h2
  ·cases h
 ·rename_i b heq;simp only[List.cons.injEq,and_true] at heq;rw[heq] at hx;split at h
  ·simp only[val,Option.some.injEq] at h;subst h;refine bD r hd ?_ (iz (Ho _));simp [execOp,ho,(fH hx).1,Op.unary,Op.intArith]
  ·cases h
 ·cases h
theorem wD {n:Int} (h:inK .i64 n):IntKind.i64.wrap n=n:=by
 simp [inK,IntKind.min,IntKind.max,IntKind.signed,IntKind.bits] at h;rw[IntKind.wrap_i64]; omega
theorem lC (k:IntKind) (n:Int):inK k (k.wrap n):=by
 cases k <;> simp only[inK,IntKind.wrap,IntKind.min,IntKind.max,IntKind.signed,IntKind.bits] <;> simp <;> (try split) <;> omega
theorem Ce {k:IntKind} {n:Int} (h:inK k n):k.wrap n=n:=by
 cases k <;> simp [inK,IntKind.min,IntKind.max,IntKind.signed,IntKind.bits] at h <;> simp [IntKind.wrap,IntKind.signed,IntKind.bits] <;> (try split) <;> omega
theorem Hq {e:Eff} {k:IntKind} {op:BinOp} {m n:Int} {ty:TypeId} (h:mc op k m n=some e) (hc:e.cond) :
  ∃ v,e.wr=[]/\SRd G s.hp w e.res v/\(binOp op ty (.int k m) (.int k n)).run P w = .ok v w:=by
 unfold mc at h;split at h <;> (try split at h) <;> simp only[val,dQ,Option.some.injEq,reduceCtorEq] at h <;> (try subst h)
 ·subst_vars
  exact⟨_,rfl,iz hc,by simp [binOp,Op.intArith,wD hc]⟩
 ·exact⟨_,rfl,iz (lC _ _),by simp [binOp,Op.intArith]⟩
 ·subst_vars
  exact⟨_,rfl,iz hc,by simp [binOp,Op.intArith,wD hc]⟩
 ·exact⟨_,rfl,iz (lC _ _),by simp [binOp,Op.intArith]⟩
 ·subst_vars
  exact⟨_,rfl,iz hc,by simp [binOp,Op.intArith,wD hc]⟩
 ·exact⟨_,rfl,iz (lC _ _),by simp [binOp,Op.intArith]⟩
 ·exact⟨_,rfl,iz hc.2,by simp [binOp,Op.intDiv,hc.1,Ce hc.2]⟩
 ·exact⟨_,rfl,iz hc.2,by simp [binOp,Op.intDiv,hc.1]⟩
 ·exact⟨_,rfl,ke _,by simp [binOp,Op.intCmp]; rfl⟩
 ·exact⟨_,rfl,ke _,by simp [binOp,Op.intCmp]; rfl⟩
 ·exact⟨_,rfl,ke _,by simp [binOp,Op.intCmp]⟩
 ·exact⟨_,rfl,ke _,by simp [binOp,Op.intCmp]⟩
 ·exact⟨_,rfl,ke _,by simp [binOp,Op.intCmp]⟩
 ·exact⟨_,rfl,ke _,by simp [binOp,Op.intCmp]⟩
theorem Hr {e:Eff} {op:BinOp} {m n:ByteArray} {ty:TypeId} (h:mX op m n=some e) (hc:e.cond) :
  ∃ v,e.wr=[]/\SRd G s.hp w e.res v/\(binOp op ty (.string m) (.string n)).run P w = .ok v w:=by
 have hb:∀ x y:ByteArray,(x.toList == y.toList)=decide (x=y):=fun x y=>by rw[← beq_toListBytes,bytes_beq]
 unfold mX at h;split at h <;> simp only[val,dQ,Option.some.injEq,reduceCtorEq] at h <;> (try subst h)
 ·refine⟨.string (m++n),rfl,AV (by simpa using hc),?_⟩;have:¬ ((m.size+n.size:Nat):Int) > IntKind.i64.max:=by
   have:m.size+n.size<=9223372036854775807:=hc;simp [IntKind.max,IntKind.signed,IntKind.bits]; omega
  simp only[binOp,Op.stringOp];rw[if_neg this]; rfl
 all_goals exact⟨_,rfl,ke _,by simp [binOp,Op.stringOp,hb]⟩
theorem MB {t:TypeId} (hu:P.underlying t=some .bool) (x y:Bool):(Op.equal t (.bool x) (.bool y)).run P w = .ok (x == y) w:=by
 have key:∀ n,(Op.equalIn (n+1) t (.bool x) (.bool y)).run P w = .ok (x == y) w:=by
  intro n;simp only[Op.equalIn,Sem.run_bind,run_underlying hu,Result.andThen_ok];rfl
 exact key 9999
theorem ry {t el:TypeId} (hu:P.underlying t=some (.slice el)) (A:Option Addr) (n c:Nat):(Op.equal t (.slice A n c) (.slice none 0 0)).run P w = .ok A.isNone w:=by
 have key:∀ m,(Op.equalIn (m+1) t (.slice A n c) (.slice none 0 0)).run P w = .ok A.isNone w:=by
  intro m;cases A with
  | none=>simp only[Op.equalIn,Sem.run_bind,run_underlying hu,Result.andThen_ok]; rfl
  | some a=>simp only[Op.equalIn,Sem.run_bind,run_underlying hu,Result.andThen_ok]; rfl
 exact key 9999
theorem Ji {t el:TypeId} (hu:P.underlying t=some (.pointer el)) (A:Option Addr):(Op.equal t (.pointer A) (.pointer none)).run P w = .ok A.isNone w:=by
 have key:∀ m,(Op.equalIn (m+1) t (.pointer A) (.pointer none)).run P w = .ok A.isNone w:=by
  intro m;cases A with
  | none=>simp only[Op.equalIn,Sem.run_bind,run_underlying hu,Result.andThen_ok]; rfl
  | some a=>simp only[Op.equalIn,Sem.run_bind,run_underlying hu,Result.andThen_ok]; rfl
 exact key 9999
theorem Cf {t:TypeId} {ms:Array (String×TypeId)} (hu:P.underlying t=some (.interface ms)):(Op.equal t .nilIface .nilIface).run P w = .ok true w:=by
 have key:∀ m,(Op.equalIn (m+1) t .nilIface .nilIface).run P w = .ok true w:=by
  intro m;simp only[Op.equalIn,Sem.run_bind,run_underlying hu,Result.andThen_ok]; rfl
 exact key 9999
theorem Jj {e:Eff} {b:BinOp} {t t':TypeId} {x y:Operand} (r:bP w0 χ0 T0 s a w G) (hd:∀ k,o.dst=some k->k<a.tmps.size) (ho:o.op = .binOp b t x y t') (h:mS P b t [s.ev x,s.ev y]=some e) (hc:e.cond) :
  o.wp P a w (aX w0 χ0 T0 a.tmps.size (s.app o.dst e)) Q:=by
 have hx:=r.ev x;have hy:=r.ev y;unfold mS at h;have fin:∀ v,e.wr=[]->SRd G s.hp w e.res v->(eqGuard b t x y (a.eval x) (a.eval y)).run P w = .ok () w->(binOp b t (a.eval x) (a.eval y)).run P w = .ok v w->o.wp P a w (aX w0 χ0 T0 a.tmps.size (s.app o.dst e)) Q:=by
  intro v h1 h2 h3 h4;obtain⟨c,x',wr⟩:=e;subst h1;exact bD r hd (by simp [execOp,ho,h3,h4]) h2
 split at h
 ·rename_i k m k' n heq;simp only[List.cons.injEq,and_true] at heq;obtain⟨h1,h2⟩:=heq;rw[h1] at hx;rw[h2] at hy;split at h
  ·subst_vars
   obtain⟨v,g1,g2,g3⟩:=Hq (P:=P) (G:=G) (s:=s) (w:=w) (ty:=t) h hc;refine fin v g1 g2 ?_ ?_
   ·rw[(fH hx).1,(fH hy).1]; cases b <;> rfl
   ·rw[(fH hx).1,(fH hy).1]; exact g3
  ·cases h
 ·rename_i m n heq;simp only[List.cons.injEq,and_true] at heq;obtain⟨h1,h2⟩:=heq;rw[h1] at hx;rw[h2] at hy;obtain⟨v,g1,g2,g3⟩:=Hr (P:=P) (G:=G) (s:=s) (w:=w) (ty:=t) h hc;refine fin v g1 g2 ?_ ?_
  ·rw[(lv hx).1,(lv hy).1]; cases b <;> rfl
  ·rw[(lv hx).1,(lv hy).1]; exact g3
 ·rename_i m n heq;simp only[List.cons.injEq,and_true] at heq;obtain⟨h1,h2⟩:=heq;rw[h1] at hx;rw[h2] at hy;split at h <;> simp only[val,Option.some.injEq,reduceCtorEq] at h
  all_goals
   rename_i hu;subst h;refine fin _ rfl (ke _) ?_ ?_
   ·rw[lM hx,lM hy]; rfl
   ·rw[lM hx,lM hy];simp only[binOp,Sem.run_bind,MB hu,Result.andThen_ok,Sem.run_pure]
 ·rename_i l heq;simp only[List.cons.injEq,and_true] at heq;obtain⟨h1,h2⟩:=heq;rw[h1] at hx;rw[h2] at hy;obtain⟨A,c,z,hv,hs,_⟩:=(AU hx).vR;have hnil:A.isNone=true->l=[]:=fun hA=>by
   have hA:A=none:=by simpa using hA
   have:=hs.nil hA;have:=hs.cap;exact List.eq_nil_of_length_eq_zero (by omega)
  split at h <;> simp only[val,Option.some.injEq,reduceCtorEq] at h
  ·rename_i hu;subst h;refine fin (.bool A.isNone) rfl ⟨rfl,by simp [av.ids],A.isNone,rfl,hnil⟩ (by rw[hv,lx hy]; rfl) ?_;rw[hv,lx hy];simp only[binOp,Sem.run_bind,ry hu,Result.andThen_ok,Sem.run_pure]
  ·rename_i hu;subst h;refine fin (.bool (!A.isNone)) rfl ⟨rfl,by simp [av.ids],!A.isNone,rfl,fun h=>hnil (by cases A <;> simp_all)⟩ (by rw[hv,lx hy]; rfl) ?_;rw[hv,lx hy];simp only[binOp,Sem.run_bind,ry hu,Result.andThen_ok,Sem.run_pure]
 ·rename_i heq;simp only[List.cons.injEq,and_true] at heq;obtain⟨h1,h2⟩:=heq;rw[h1] at hx;rw[h2] at hy;split at h <;> simp only[val,Option.some.injEq,reduceCtorEq] at h
  all_goals
   rename_i hu;subst h;refine fin _ rfl (ke _) (by rw[lx hx,lx hy]; rfl) ?_;rw[lx hx,lx hy];simp only[binOp,Sem.run_bind,ry hu,Result.andThen_ok,Sem.run_pure];rfl
 ·rename_i ob off heq;simp only[List.cons.injEq,and_true] at heq;obtain⟨h1,h2⟩:=heq;rw[h1] at hx;rw[h2] at hy;have hv:a.eval x = .pointer (some ⟨G.bl ob,off,none⟩):=LRd.val hx;have hz:a.eval y = .pointer none:=wZ hy;split at h <;> simp only[val,Option.some.injEq,reduceCtorEq] at h
  all_goals
   rename_i hu;subst h;refine fin _ rfl (ke _) (by rw[hv,hz]; rfl) ?_;rw[hv,hz];simp only[binOp,Sem.run_bind,Ji hu,Result.andThen_ok,Sem.run_pure];rfl
 ·rename_i heq;simp only[List.cons.injEq,and_true] at heq;obtain⟨h1,h2⟩:=heq;rw[h1] at hx;rw[h2] at hy;have hv:a.eval x = .pointer none:=wZ hx;have hz:a.eval y = .pointer none:=wZ hy;split at h <;> simp only[val,Option.some.injEq,reduceCtorEq] at h
  all_goals
   rename_i hu;subst h;refine fin _ rfl (ke _) (by rw[hv,hz]; rfl) ?_;rw[hv,hz];simp only[binOp,Sem.run_bind,Ji hu,Result.andThen_ok,Sem.run_pure];rfl
 ·cases h
theorem AW {e:Eff} {i:Nat} {x:Operand} (r:bP w0 χ0 T0 s a w G) (hd:∀ k,o.dst=some k->k<a.tmps.size) (ho:o.op = .extract x i) (h:oK i [s.ev x]=some e) :
  o.wp P a w (aX w0 χ0 T0 a.tmps.size (s.app o.dst e)) Q:=by
 have hx:=r.ev x;unfold oK at h;split at h
 ·rename_i l heq;simp only[List.cons.injEq,and_true] at heq;rw[heq] at hx;obtain⟨vs,hv,h1,h2⟩:=hx;split at h
  ·rename_i c hc;simp only[val,Option.some.injEq] at h;subst h;have hi:i<vs.length:=by rw[← h1]; exact (List.getElem?_eq_some_iff.1 hc).1
   refine bD (v:=vs[i]) r hd ?_ (h2 i c _ hc (List.getElem?_eq_getElem hi));simp [execOp,ho,hv,Instr.extract,hi]
  ·cases h
 ·cases h
end
end Go.Lad
namespace Go.Lad
open Go.RowKit
section
variable {P:Program} {w0:World} {χ0:Col} {T0:Ctx} {s:St} {a:Act} {w:World} {G:Gh} {o:Oper} {Q:Exit->Act->World->Prop}
theorem rz {t:TypeId} {n:Nat} (h:gB P t=some n):∃ i,P.info? t=some i/\i.size=n:=by
 unfold gB at h;split at h
 ·rw[Option.map_eq_some_iff] at h;exact h
 ·cases h
theorem w4 {t:TypeId} {n:Nat} (h:gB P t=some n):P.underlying t≠none:=by
 unfold gB at h;split at h
 ·rename_i hc; intro h0; rw[h0] at hc; cases hc
 ·cases h
theorem El {t:TypeId} (h:fv P t=true):∃ d,P.underlying t=some d/\d.isRow=true:=by
 unfold fv at h;split at h
 ·exact⟨_,by assumption,rfl⟩
 ·exact⟨_,by assumption,rfl⟩
 ·cases h
theorem fO {t:TypeId} (hu:P.underlying t≠none):(isAgg t).run P w = .ok (fv P t) w:=by
 unfold isAgg fv;cases h:P.underlying t with
 | none=>exact absurd h hu
 | some d =>
  rw[Sem.run_bind,run_underlying h w];cases d <;> rfl
def tN (w:World) (b off:Nat) (vs:List Value):Prop := ∀ j v,vs[j]?=some v->w.cell? ⟨b,off+j,none⟩=some v
theorem Hs {t:TypeId} {b off:Nat} {v:Value} (hu:P.underlying t≠none) (ha:fv P t=false) (hc:w.cell? ⟨b,off,none⟩=some v):(Instr.loadAt t (ptr b off)).run P w = .ok v w:=by
 simp [Instr.loadAt,Instr.sureAddr,ptr,loadVar,fO hu,ha,hc]
theorem zy {t:TypeId} {n b off:Nat} {vs:List Value} (ha:fv P t=true) (hn:gB P t=some n) (hl:vs.length=n) (hc:tN w b off vs):(Instr.loadAt t (ptr b off)).run P w = .ok (.agg vs.toArray) w:=by
 obtain⟨d,hu,hd⟩:=El ha;obtain⟨i,hi,hs⟩:=rz hn;exact run_loadAt_mid w b off t vs d hc hu hd (by rw[hl,hi,← hs]; rfl)
theorem dU.get {α β:Type} {R:α->β->Prop} {l:List α} {m:List β} (h:dU R l m) {i:Nat} {x:α} (hi:l[i]?=some x):∃ y,m[i]?=some y/\R x y:=by
 have hlt:i<m.length:=by rw[← h.1]; exact (List.getElem?_eq_some_iff.1 hi).1
 exact⟨_,List.getElem?_eq_getElem hlt,h.2 i x _ hi (List.getElem?_eq_getElem hlt)⟩
theorem dU.cut {α β:Type} {R:α->β->Prop} {l:List α} {m:List β} (h:dU R l m) (off n:Nat):dU R ((l.drop off).take n) ((m.drop off).take n):=by
 refine⟨by simp [h.1],fun i a b ha hb=>?_⟩;rw[List.getElem?_take] at ha hb;split at ha
 ·rename_i hi;rw[if_pos hi,List.getElem?_drop] at hb;rw[List.getElem?_drop] at ha;exact h.2 _ a b ha hb
 ·cases ha
theorem sj {cs:List av} {vs:List Value} {off n:Nat} {t:TypeId} {c:Cmp} {b o2:Nat} (h:qm cs off n (fv P t)=some c) (hcs:dU (LRd G s.hp w) cs vs) (hn:gB P t=some n) (hu:P.underlying t≠none)
  (hc:tN w b o2 vs):∃ v,CRd G s.hp w c v/\(Instr.loadAt t (ptr b (o2+off))).run P w = .ok v w:=by
 unfold qm at h;split at h
 ·rename_i ha;split at h
  ·rename_i hle;simp only[Option.some.injEq] at h;subst h;refine⟨.agg ((vs.drop off).take n).toArray,⟨_,rfl,hcs.cut off n⟩,zy ha hn (by have:=hcs.1; simp; omega) (fun j v hj=>?_)⟩;rw[List.getElem?_take] at hj;split at hj
   ·rw[List.getElem?_drop] at hj;rw[Nat.add_assoc]; exact hc _ v hj
   ·cases hj
  ·cases h
 ·rename_i ha;rw[Option.map_eq_some_iff] at h;obtain⟨x,hx,rfl⟩:=h;obtain⟨v,hv,hr⟩:=hcs.get hx;exact⟨v,hr,Hs hu (by simpa using ha) (hc off v hv)⟩
theorem Jk {b off0:Nat} {cs:List PV} (h:∀ (j:Nat) (p:PV),cs[j]?=some p->∃ u,w.cell? ⟨b,off0+j,none⟩=some u/\Rd (In G.χ 0) w p u) :
  ∃ vs:List Value,tN w b off0 vs/\dU (LRd G s.hp w) (cs.map av.p) vs:=by
 refine⟨(List.range cs.length).map fun j=>(w.cell? ⟨b,off0+j,none⟩).getD undef,fun j v hj=>?_,by simp,fun i x v hx hv=>?_⟩
 ·rw[List.getElem?_map,Option.map_eq_some_iff] at hj;obtain⟨j',hj',rfl⟩:=hj;have hl:j<cs.length:=by have:=(List.getElem?_eq_some_iff.1 hj').1; simpa using this
  rw[List.getElem?_range hl] at hj';injection hj' with hj'
  subst hj';obtain⟨u,hu,_⟩:=h j _ (List.getElem?_eq_getElem hl);rw[hu]; rfl
 ·rw[List.getElem?_map,Option.map_eq_some_iff] at hx;obtain⟨p,hp,rfl⟩:=hx;have hl:=(List.getElem?_eq_some_iff.1 hp).1;rw[List.getElem?_map,List.getElem?_range hl] at hv;simp only[Option.map_some,Option.some.injEq] at hv;subst hv;obtain⟨u,hu,hr⟩:=h i p hp;rw[hu];exact⟨hr.one,by simp [av.ids],hr⟩
theorem Jl {n:Nat} (cs:List PV) (off:Nat) (h:off<cs.length):qm (cs.map av.p) off n false=some (.v (.p (cs.getD off (.bool false)))):=by
 simp [qm,List.getElem?_eq_getElem h]
theorem Own.block {α:Type} [aA α] {k:Nat} {χ:Col} {e:TypeId} {v:Value} {l:List α} (h:Own k χ e w v l) (hl:l≠[]):∃ g c,v = .slice (some ⟨g,lB v,none⟩) l.length c/\v.ownBlock=some g/\g<w.heap.size:=by
 obtain⟨⟨xs,h1,h2⟩,h3⟩:=h;rcases h1.2 with⟨rfl,hn⟩ | ⟨g,cap,cur,off,rfl,hb,hgg,hc,hm,hr⟩
 ·exact absurd (List.eq_nil_of_length_eq_zero hn) hl
 ·exact⟨g,cap,rfl,rfl,hgg.lt⟩
theorem zA {ob:Nat} {e:TypeId} {z:Nat} {l:List (List PV)} (h:HRd G s.hp w ob (.arr e z l)) {i:Nat} (hi:i<l.length) :
  ∃ vs:List Value,vs.length=z/\tN w (G.bl ob) (lB (G.hv ob)+i * z) vs/\dU (LRd G s.hp w) ((l.getD i []).map av.p) vs:=by
 obtain⟨ho,hb⟩:=h;have hne:l≠[]:=by intro h0; subst h0; simp at hi
 obtain⟨g,c,hv,hg,_⟩:=ho.block hne;obtain⟨⟨xs,h1,h2⟩,h3⟩:=ho;have hx:l[i]?=some (l.getD i []):=by simp [List.getD,List.getElem?_eq_getElem hi]
 obtain⟨hz,hrl,hrd⟩:=h2 i _ hx;refine⟨chunk z i xs,hz,fun j u hj=>?_,by rw[List.length_map]; exact hrl,fun j x v hx hv'=>?_⟩
 ·obtain⟨hjz,hj'⟩:=uR hj;rw[← hb g hg];have:=h1.cells hg _ u hj';rw[fY,← Nat.add_assoc] at this;exact this
 ·rw[List.getElem?_map,Option.map_eq_some_iff] at hx;obtain⟨p,hp,rfl⟩:=hx;have:=hrd j p v hp hv';exact⟨this.one,by simp [av.ids],this⟩
theorem Ht {e:Eff} {t:TypeId} {x:Operand} (r:bP w0 χ0 T0 s a w G) (hd:∀ k,o.dst=some k->k<a.tmps.size) (ho:o.op = .load t x) (h:mW P t [s.arg x]=some e) (hc:e.cond) :
  o.wp P a w (aX w0 χ0 T0 a.tmps.size (s.app o.dst e)) Q:=by
 have hx:=r.ev x;have hu:∀ {n},gB P t=some n->P.underlying t≠none:=w4;have fin:∀ (c:Cmp) (q:Prop) v,CRd G s.hp w c v->(Instr.loadAt t (a.eval x)).run P w = .ok v w->o.wp P a w (aX w0 χ0 T0 a.tmps.size (s.app o.dst ⟨q,.c c,[]⟩)) Q:=by
  intro c q v h1 h2;exact bD r hd (by simp [execOp,ho,h2]) h1
 unfold mW at h;split at h
 ·rename_i ob off bt cs heq;simp only[List.cons.injEq,and_true] at heq;obtain⟨h1,h2⟩:=St.bF heq;rw[h1] at hx;have hob:s.hp ob=some (.box bt cs):=by simpa [Slot.ids,Cmp.ids,Cmp.leaves,av.ids] using h2
  have hval:a.eval x=ptr (G.bl ob) off:=LRd.val hx;obtain⟨vs,hb,_,hall⟩:=r.gM ob _ hob;split at h
  ·rename_i n hn;rw[Option.bind_eq_some_iff] at h;obtain⟨c,hcut,h⟩:=h;simp only[val,Option.some.injEq] at h;subst h;obtain⟨v,g1,g2⟩:=sj (b:=G.bl ob) (o2:=0) hcut hall hn (hu hn) (fun j v hj=>by rw[hb.cell]; simpa using hj);exact fin c _ v g1 (by rw[hval]; simpa using g2)
  ·cases h
 ·rename_i cs off _ heq;simp only[List.cons.injEq,and_true] at heq;rw[(St.bF heq).1] at hx;obtain⟨b,off0,hv,hb,hbl,hcells⟩:LVal G w (.ip cs off) (a.eval x):=by
   exact LRd.val hx
  obtain⟨vs,g1,g2⟩:=Jk (s:=s) hcells;split at h
  ·rename_i n hn;split at h
   ·rename_i hagg;simp only[dQ,Option.some.injEq] at h;subst h;have hle:off+n<=cs.length:=hc;have hcut:qm (cs.map av.p) off n (fv P t)=some (.g (((cs.drop off).take n).map av.p)):=by
     unfold qm;rw[if_pos hagg,if_pos (by simpa using hle),List.map_take,List.map_drop]
    obtain⟨v,k1,k2⟩:=sj hcut g2 hn (hu hn) g1;exact fin _ _ v k1 (by rw[hv]; exact k2)
   ·rename_i hagg;simp only[dQ,Option.some.injEq] at h;subst h;have hle:off<cs.length:=hc;have hcut:qm (cs.map av.p) off n (fv P t)=some (.v (.p (cs.getD off (.bool false)))):=by
     unfold qm;rw[if_neg hagg];simp [List.getElem?_eq_getElem hle]
    obtain⟨v,k1,k2⟩:=sj hcut g2 hn (hu hn) g1;exact fin _ _ v k1 (by rw[hv]; exact k2)
  ·cases h
 ·rename_i ob i off z e' z' l heq;simp only[List.cons.injEq,and_true] at heq;obtain⟨h1,h2⟩:=St.bF heq;rw[h1] at hx;have hob:s.hp ob=some (.arr e' z' l):=by simpa [Slot.ids,Cmp.ids,Cmp.leaves,av.ids] using h2
  have hval:a.eval x=ptr (G.bl ob) (lB (G.hv ob)+i * z+off):=by rw[Nat.add_assoc]; exact LRd.val hx
  split at h
  ·rename_i n hn;split at h
   ·rename_i hzz;subst hzz;split at h
    ·rename_i hagg;simp only[dQ,Option.some.injEq] at h;subst h;obtain⟨hi,hle⟩:i<l.length/\off+n<=z:=hc;obtain⟨vs,g0,g1,g2⟩:=zA (r.gM ob _ hob) hi;have hcut:qm ((l.getD i []).map av.p) off n (fv P t)=some (.g ((((l.getD i []).drop off).take n).map av.p)):=by
      unfold qm;have:=g2.1;rw[if_pos hagg,if_pos (by omega),List.map_take,List.map_drop]
     obtain⟨v,k1,k2⟩:=sj hcut g2 hn (hu hn) g1;exact fin _ _ v k1 (by rw[hval]; exact k2)
    ·rename_i hagg;simp only[dQ,Option.some.injEq] at h;subst h;obtain⟨hi,hle⟩:i<l.length/\off<z:=hc;obtain⟨vs,g0,g1,g2⟩:=zA (r.gM ob _ hob) hi;have hcut:qm ((l.getD i []).map av.p) off n (fv P t)=some (.v (.p ((l.getD i []).getD off (.bool false)))):=by
      have:=g2.1;rw[List.length_map] at this;rw[show fv P t=false by simpa using hagg];exact Jl _ _ (by omega)
     obtain⟨v,k1,k2⟩:=sj hcut g2 hn (hu hn) g1;exact fin _ _ v k1 (by rw[hval]; exact k2)
   ·cases h
  ·cases h
 ·cases h
end
end Go.Lad
