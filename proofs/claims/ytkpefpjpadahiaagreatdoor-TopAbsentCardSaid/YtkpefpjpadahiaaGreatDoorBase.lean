import Derived.WalkKit
import Derived.WalkSpells
import Derived.WalkLawsBesides
import Derived.Maps.AppendAt
import Derived.Deep.AppendLies
import Derived.Deep.Slices
import Derived.Deep.QuietTactic
import Derived.BigQuiet
import Derived.Lib.Hide
namespace Go.Lad
set_option linter.unusedVariables false
set_option linter.unusedSimpArgs false
open Go.RowKit
theorem fT (b off j:Nat):(⟨b,off,none⟩:Addr).add j=⟨b,off+j,none⟩:=by
 unfold Addr.add; split <;> simp_all
theorem block_add (a:Addr) (n:Nat):(a.add n).block=a.block:=by unfold Addr.add; split <;> rfl
theorem qY {w:World} {a:Addr} {v:Value} (h:w.cell? a=some v):a.block<w.heap.size:=World.block_lt_of_cell? w a h
theorem PD.Go.RowKit.Below.drewN {B:Nat} {a w:World} (h:Below B a w) (n:Nat):Below B a (w.drewN n):=⟨h.os,h.tape,h.output,h.size,h.block⟩
class aN (α:Type) where
 sz:Nat
 rd:(Nat->Prop)->World->List Value->α->Prop
 len:∀ {F:Nat->Prop} {w:World} {cs:List Value} {x:α},rd F w cs x->cs.length=sz
 one:∀ {F:Nat->Prop} {w:World} {cs:List Value} {x:α},rd F w cs x->∀ u∈cs,u.oneCell'=true
 frame:∀ {F F':Nat->Prop} {w w':World} {cs:List Value} {x:α},(∀ b,F b->b<w.heap.size->F' b/\w'.heap[b]?=w.heap[b]?)->rd F w cs x->rd F' w' cs x
def At {α:Type} [aN α] (F:Nat->Prop) (w:World) (b off:Nat) (x:α):Prop :=
 ∃ cs,aN.rd F w cs x/\∀ j u,cs[j]?=some u->F b/\w.cell? ⟨b,off+j,none⟩=some u
theorem At.frame {α:Type} [aN α] {F F':Nat->Prop} {w w':World} {b off:Nat} {x:α} (h:At F w b off x)
  (hf:∀ b,F b->b<w.heap.size->F' b/\w'.heap[b]?=w.heap[b]?):At F' w' b off x:=by
 obtain⟨cs,h1,h2⟩:=h;refine⟨cs,aN.frame hf h1,fun j u hu=>?_⟩;obtain⟨a1,a2⟩:=h2 j u hu;have hf':=hf b a1 (qY a2);exact⟨hf'.1,(World.cell?_of_block (w:=w) (a:=⟨b,off+j,none⟩) hf'.2).trans a2⟩
structure Sl {α:Type} [aN α] (F:Nat->Prop) (w:World) (A:Option Addr) (n c:Nat) (l:List α):Prop where
 len:l.length=n
 cap:n<=c
 max:c<=9223372036854775807
 nil:A=none->c=0
 at_:0<n->∃ b off,A=some ⟨b,off,none⟩/\∀ i x,l[i]?=some x->At F w b (off+i * aN.sz α) x
theorem Sl.frame {α:Type} [aN α] {F F':Nat->Prop} {w w':World} {A:Option Addr} {n c:Nat} {l:List α} (h:Sl F w A n c l)
  (hf:∀ b,F b->b<w.heap.size->F' b/\w'.heap[b]?=w.heap[b]?):Sl F' w' A n c l :=
 ⟨h.len,h.cap,h.max,h.nil,fun hn=>by
  obtain⟨b,off,e,H⟩:=h.at_ hn;exact⟨b,off,e,fun i x hx=>(H i x hx).frame hf⟩⟩
def I64 (n:Int):Prop := -9223372036854775808<=n/\n<=9223372036854775807
instance:aN Int where
 sz:=1
 rd _ _ cs n:=cs=[.int .i64 n]/\I64 n
 len h:=by rw[h.1]; rfl
 one h:=by rw[h.1]; simp [Value.oneCell']
 frame _ h:=h
instance:aN Bool where
 sz:=1
 rd _ _ cs b:=cs=[.bool b]
 len h:=by rw[h]; rfl
 one h:=by rw[h]; simp [Value.oneCell']
 frame _ h:=h
instance:aN ByteArray where
 sz:=1
 rd _ _ cs s:=cs=[.string s]/\s.size<=9223372036854775807
 len h:=by rw[h.1]; rfl
 one h:=by rw[h.1]; simp [Value.oneCell']
 frame _ h:=h
instance:aN UInt8 where
 sz:=1
 rd _ _ cs n:=cs=[.int .u8 n.toNat]
 len h:=by rw[h]; rfl
 one h:=by rw[h]; simp [Value.oneCell']
 frame _ h:=h
instance:aN UInt64 where
 sz:=1
 rd _ _ cs n:=cs=[.int .u64 n.toNat]
 len h:=by rw[h]; rfl
 one h:=by rw[h]; simp [Value.oneCell']
 frame _ h:=h
instance:aN Unit where
 sz:=0
 rd _ _ cs _:=cs=[]
 len h:=by rw[h]; rfl
 one h:=by rw[h]; simp
 frame _ h:=h
instance {α:Type} [aN α]:aN (List α) where
 sz:=1
 rd F w cs l := ∃ A n c,cs=[.slice A n c]/\Sl F w A n c l
 len h:=by obtain⟨A,n,c,rfl,_⟩:=h; rfl
 one h:=by obtain⟨A,n,c,rfl,_⟩:=h; simp [Value.oneCell']
 frame hf h:=by obtain⟨A,n,c,e,h⟩:=h; exact⟨A,n,c,e,h.frame hf⟩
instance {α β:Type} [aN α] [aN β]:aN (α×β) where
 sz:=aN.sz α+aN.sz β
 rd F w cs p := ∃ c1 c2,cs=c1++c2/\aN.rd F w c1 p.1/\aN.rd F w c2 p.2
 len h:=by obtain⟨c1,c2,rfl,h1,h2⟩:=h; rw[List.length_append,aN.len h1,aN.len h2]
 one h:=by
  obtain⟨c1,c2,rfl,h1,h2⟩:=h;intro u hu;rcases List.mem_append.1 hu with hu | hu
  ·exact aN.one h1 u hu
  ·exact aN.one h2 u hu
 frame hf h:=by
  obtain⟨c1,c2,e,h1,h2⟩:=h;exact⟨c1,c2,e,aN.frame hf h1,aN.frame hf h2⟩
@[reducible] def aN.via {α β:Type} [aN β] (f:α->β):aN α where
 sz:=aN.sz β
 rd F w cs x:=aN.rd F w cs (f x)
 len h:=aN.len h
 one h:=aN.one h
 frame hf h:=aN.frame hf h
class Plain (α:Type) [aN α]:Prop where
 any:∀ {F F':Nat->Prop} {w w':World} {cs:List Value} {x:α},aN.rd F w cs x->aN.rd F' w' cs x
instance:Plain Int:=⟨fun h=>h⟩
instance:Plain Bool:=⟨fun h=>h⟩
instance:Plain ByteArray:=⟨fun h=>h⟩
instance:Plain UInt8:=⟨fun h=>h⟩
instance:Plain UInt64:=⟨fun h=>h⟩
instance:Plain Unit:=⟨fun h=>h⟩
instance {α β:Type} [aN α] [aN β] [Plain α] [Plain β]:Plain (α×β) :=
 ⟨fun h=>by obtain⟨c1,c2,e,h1,h2⟩:=h; exact⟨c1,c2,e,Plain.any h1,Plain.any h2⟩⟩
def Old (w:World):Nat->Prop:=fun b=>b<w.heap.size
section
variable {α:Type} [aN α] {F:Nat->Prop} {w w':World} {A:Option Addr} {n c:Nat} {l:List α}
theorem Sl.empty (F:Nat->Prop) (w:World):Sl F w none 0 0 ([]:List α) :=
 ⟨rfl,Nat.le_refl _,by omega,fun _=>rfl,fun h=>absurd h (by omega)⟩
theorem Sl.old (h:Sl F w A n c l):Sl (Old w) w A n c l:=h.frame fun _ _ hb=>⟨hb,rfl⟩
theorem Sl.mono {F':Nat->Prop} (h:Sl F w A n c l) (hf:∀ b,F b->b<w.heap.size->F' b):Sl F' w A n c l:=h.frame fun b h1 h2=>⟨hf b h1 h2,rfl⟩
theorem Sl.below {B:Nat} (h:Sl F w A n c l) (hF:∀ b,F b->b<w.heap.size->b<B) (hb:Below B w w'):Sl F w' A n c l:=h.frame fun b h1 h2=>⟨h1,hb.block b (hF b h1 h2)⟩
theorem Sl.drew (h:Sl F w A n c l):Sl F w.drew A n c l:=h.frame fun _ h1 _=>⟨h1,rfl⟩
theorem Sl.drewN (h:Sl F w A n c l) (k:Nat):Sl F (w.drewN k) A n c l:=h.frame fun _ h1 _=>⟨h1,rfl⟩
theorem Sl.alloc (h:Sl F w A n c l) (o:Obj):Sl F (w.alloc o) A n c l:=h.frame fun b h1 h2=>⟨h1,Below.heap_alloc w o b h2⟩
theorem Sl.setCell (h:Sl F w A n c l) {p:Addr} (hp:¬ F p.block) (u:Value):Sl F (w.setCell p u) A n c l :=
 h.frame fun b h1 _=>⟨h1,Below.heap_setCell w p u b (by rintro rfl; exact hp h1)⟩
theorem Sl.take (h:Sl F w A n c l) {k:Nat} (hk:k<=n):Sl F w A k c (l.take k) :=
 ⟨by rw[List.length_take,h.len]; omega,Nat.le_trans hk h.cap,h.max,h.nil,fun hn=>by
  obtain⟨b,off,e,H⟩:=h.at_ (by omega);refine⟨b,off,e,fun i x hx=>H i x ?_⟩;rw[List.getElem?_take] at hx;split at hx
  ·exact hx
  ·cases hx⟩
theorem Sl.drop (h:Sl F w A n c l) {k:Nat} (hk:k<=n):Sl F w (if c=k then A else A.map (·.add (k * aN.sz α))) (n-k) (c-k) (l.drop k):=by
 refine⟨by rw[List.length_drop,h.len],by have:=h.cap; omega,by have:=h.max; omega,fun hA=>?_,fun hn=>?_⟩
 ·split at hA
  ·omega
  ·have:A=none:=by simpa using hA
   have:=h.nil this;omega
 ·obtain⟨b,off,e,H⟩:=h.at_ (by omega);have:=h.cap;rw[if_neg (by omega)];refine⟨b,off+k * aN.sz α,by rw[e]; simp [fT],fun i x hx=>?_⟩;rw[List.getElem?_drop] at hx;have:=H _ x hx
  rwa [Nat.add_mul,← Nat.add_assoc] at this
end
theorem At.bool {F:Nat->Prop} {w:World} {b off:Nat} {x:Bool} (h:At F w b off x):F b/\w.cell? ⟨b,off,none⟩=some (.bool x):=by
 obtain⟨cs,rfl,h⟩:=h;exact h 0 _ rfl
theorem At.str {F:Nat->Prop} {w:World} {b off:Nat} {s:ByteArray} (h:At F w b off s):F b/\w.cell? ⟨b,off,none⟩=some (.string s)/\s.size<=9223372036854775807:=by
 obtain⟨cs,⟨rfl,hi⟩,h⟩:=h;exact⟨(h 0 _ rfl).1,(h 0 _ rfl).2,hi⟩
theorem At.u8 {F:Nat->Prop} {w:World} {b off:Nat} {n:UInt8} (h:At F w b off n):F b/\w.cell? ⟨b,off,none⟩=some (.int .u8 n.toNat):=by
 obtain⟨cs,rfl,h⟩:=h;exact h 0 _ rfl
theorem At.u64 {F:Nat->Prop} {w:World} {b off:Nat} {n:UInt64} (h:At F w b off n):F b/\w.cell? ⟨b,off,none⟩=some (.int .u64 n.toNat):=by
 obtain⟨cs,rfl,h⟩:=h;exact h 0 _ rfl
theorem At.list {α:Type} [aN α] {F:Nat->Prop} {w:World} {b off:Nat} {l:List α} (h:At F w b off l):F b/\∃ A n c,w.cell? ⟨b,off,none⟩=some (.slice A n c)/\Sl F w A n c l:=by
 obtain⟨cs,⟨A,n,c,rfl,hi⟩,h⟩:=h;exact⟨(h 0 _ rfl).1,A,n,c,(h 0 _ rfl).2,hi⟩
theorem At.fst {α β:Type} [aN α] [aN β] {F:Nat->Prop} {w:World} {b off:Nat} {p:α×β} (h:At F w b off p):At F w b off p.1:=by
 obtain⟨cs,⟨c1,c2,rfl,h1,h2⟩,h⟩:=h;refine⟨c1,h1,fun j u hu=>h j u ?_⟩;rw[List.getElem?_append_left (List.getElem?_eq_some_iff.1 hu).1];exact hu
abbrev Col:=Nat->Nat
def In (χ:Col) (k:Nat):Nat->Prop:=fun b=>χ b=k
structure Step (T:List Nat) (χ:Col) (w:World) (χ':Col) (w':World):Prop where
 os:w'.os=w.os
 tape:w'.tape=w.tape
 output:w'.output=w.output
 size:w.heap.size<=w'.heap.size
 col:∀ b,b<w.heap.size->χ' b=χ b
 block:∀ b,b<w.heap.size->χ b∉T->w'.heap[b]?=w.heap[b]?
section
variable {T:List Nat} {χ χ' χ'':Col} {w w' w'':World}
theorem Step.refl (T:List Nat) (χ:Col) (w:World):Step T χ w χ w:=⟨rfl,rfl,rfl,Nat.le_refl _,fun _ _=>rfl,fun _ _ _=>rfl⟩
theorem Step.trans (h:Step T χ w χ' w') (k:Step T χ' w' χ'' w''):Step T χ w χ'' w'' :=
 ⟨k.os.trans h.os,k.tape.trans h.tape,k.output.trans h.output,Nat.le_trans h.size k.size,
  fun b hb=>(k.col b (Nat.lt_of_lt_of_le hb h.size)).trans (h.col b hb),
  fun b hb hT=>(k.block b (Nat.lt_of_lt_of_le hb h.size) (by rw[h.col b hb]; exact hT)).trans (h.block b hb hT)⟩
theorem Step.wide {T':List Nat} (h:Step T χ w χ' w') (hT:∀ k,k∈T->k∈T'):Step T' χ w χ' w' :=
 ⟨h.os,h.tape,h.output,h.size,h.col,fun b hb hk=>h.block b hb fun hk'=>hk (hT _ hk')⟩
theorem Step.P6 {T':List Nat} (h:Step T' χ w χ' w') (hT:∀ b,b<w.heap.size->χ b∈T'->χ b∈T):Step T χ w χ' w' :=
 ⟨h.os,h.tape,h.output,h.size,h.col,fun b hb hk=>h.block b hb fun hk'=>hk (hT b hb hk')⟩
theorem Step.D2 (h:Step T χ w χ' w') (hc:∀ b,b<w.heap.size->χ'' b=χ' b):Step T χ w χ'' w' :=
 ⟨h.os,h.tape,h.output,h.size,fun b hb=>(hc b hb).trans (h.col b hb),h.block⟩
theorem Step.drew (h:Step T χ w χ' w'):Step T χ w χ' w'.drew:=⟨h.os,h.tape,h.output,h.size,h.col,h.block⟩
theorem Step.drewN (h:Step T χ w χ' w') (n:Nat):Step T χ w χ' (w'.drewN n):=⟨h.os,h.tape,h.output,h.size,h.col,h.block⟩
theorem Step.alloc (h:Step T χ w χ' w') (o:Obj):Step T χ w χ' (w'.alloc o) :=
 ⟨h.os,h.tape,h.output,by simp; have:=h.size; omega,h.col,fun b hb hT=>(Below.heap_alloc w' o b (Nat.lt_of_lt_of_le hb h.size)).trans (h.block b hb hT)⟩
theorem Step.setCell (h:Step T χ w χ' w') {p:Addr} (hp:χ' p.block∈T\/w.heap.size<=p.block) (u:Value):Step T χ w χ' (w'.setCell p u) :=
 ⟨h.os,h.tape,h.output,by simpa [World.setCell] using h.size,h.col,fun b hb hT=>(Below.heap_setCell w' p u b (by
  rintro rfl;rcases hp with hp | hp
  ·rw[h.col _ hb] at hp; exact hT hp
  ·omega)).trans (h.block b hb hT)⟩
theorem Step.Ab (hb:Below w.heap.size w w') (hc:∀ b,b<w.heap.size->χ' b=χ b):Step T χ w χ' w' :=
 ⟨hb.os,hb.tape,hb.output,hb.size,hc,fun b hb' _=>hb.block b hb'⟩
theorem Step.below {B:Nat} (h:Step T χ w χ' w') (hB:B<=w.heap.size) (hT:∀ b,b<B->χ b∉T):Below B w w' :=
 ⟨h.os,h.tape,h.output,h.size,fun b hb=>h.block b (by omega) (hT b hb)⟩
def Norm (χ:Col) (w:World):Prop := ∀ b,w.heap.size<=b->χ b=0
def clip (χ:Col) (n:Nat):Col:=fun b=>if b<n then χ b else 0
theorem ui {χ:Col} {n b:Nat} (h:b<n):clip χ n b=χ b:=by simp [clip,h]
theorem Fw (χ:Col) (w:World):Norm (clip χ w.heap.size) w:=fun b hb=>by unfold clip; rw[if_neg (by omega)]
theorem Step.clip (h:Step T χ w χ' w'):Step T χ w (clip χ' w'.heap.size) w':=h.D2 fun b hb=>ui (Nat.lt_of_lt_of_le hb h.size)
theorem Norm.alloc (h:Norm χ w) (o:Obj):Norm χ (w.alloc o):=fun b hb=>h b (by simp at hb; omega)
theorem Norm.drew (h:Norm χ w):Norm χ w.drew:=h
theorem Norm.drewN (h:Norm χ w) (n:Nat):Norm χ (w.drewN n):=h
theorem Norm.at_ (h:Norm χ w):χ w.heap.size=0:=h _ (Nat.le_refl _)
theorem Norm.zero (w:World):Norm (fun _=>0) w:=fun _ _=>rfl
theorem Step.fr (h:Step T χ w χ' w') {k:Nat} (hk:k∉T):∀ b,In χ k b->b<w.heap.size->In χ' k b/\w'.heap[b]?=w.heap[b]? :=
 fun b hb hl=>⟨(h.col b hl).trans hb,h.block b hl (by rw[show χ b=k from hb]; exact hk)⟩
end
theorem Sl.clip {α:Type} [aN α] {χ:Col} {w:World} {k:Nat} {A:Option Addr} {n c:Nat} {l:List α} (h:Sl (In χ k) w A n c l):Sl (In (Lad.clip χ w.heap.size) k) w A n c l :=
 h.frame fun b hb hl=>⟨(ui hl).trans hb,rfl⟩
theorem Sl.step {α:Type} [aN α] {T:List Nat} {χ χ':Col} {w w':World} {k:Nat} {A:Option Addr} {n c:Nat} {l:List α} (h:Sl (In χ k) w A n c l) (s:Step T χ w χ' w') (hk:k∉T):Sl (In χ' k) w' A n c l :=
 h.frame (s.fr hk)
theorem At.step {α:Type} [aN α] {T:List Nat} {χ χ':Col} {w w':World} {k b off:Nat} {x:α} (h:At (In χ k) w b off x) (s:Step T χ w χ' w') (hk:k∉T):At (In χ' k) w' b off x :=
 h.frame (s.fr hk)
def chunk (size i:Nat) (xs:List Value):List Value:=(xs.drop (i * size)).take size
def mu:Value->Nat
 | .slice (some a) _ _=>a.off
 | _=>0
def Oy (_:TypeId):Bool:=false
def iC (w:World) (g:Nat) (cur:Array Value) (e:TypeId):Prop := ∃ fr:Nat×Nat,w.heap[g]?=some (.cells cur e fr)/\(fr.2<=fr.1\/(cur.size<=fr.1/\Oy e=true))
theorem iC.of {w:World} {g:Nat} {cur:Array Value} {e:TypeId} (h:w.heap[g]?=some (.cells cur e (0,0))):iC w g cur e:=⟨_,h,.inl (Nat.le_refl _)⟩
theorem iC.lt {w:World} {g:Nat} {cur:Array Value} {e:TypeId} (h:iC w g cur e):g<w.heap.size:=by
 obtain⟨fr,h,_⟩:=h;exact (Array.getElem?_eq_some_iff.1 h).1
theorem iC.frame {w w':World} {g:Nat} {cur:Array Value} {e:TypeId} (h:iC w g cur e) (hb:w'.heap[g]?=w.heap[g]?):iC w' g cur e:=by
 obtain⟨fr,h,h2⟩:=h;exact⟨fr,hb.trans h,h2⟩
theorem iC.cell {w:World} {g:Nat} {cur:Array Value} {e:TypeId} (h:iC w g cur e) (i:Nat):w.cell? ⟨g,i,none⟩=cur[i]? := by
 obtain⟨fr,h,_⟩:=h;exact cell_of_row w g i cur e fr h
theorem iC.set {w:World} {g:Nat} {cur:Array Value} {e:TypeId} (h:iC w g cur e) (cs:Array Value) (hs:cs.size=cur.size):iC (w.setRow g cs) g cs e:=by
 obtain⟨fr,h,h2⟩:=h;exact⟨fr,setRow_heap w g cur _ e _ h,by rw[hs]; exact h2⟩
theorem iD (P:Program) (g o:Nat) (t:TypeId):∀ (vs:List Value) (i:Nat) (cur:Array Value) (w:World),iC w g cur t->o+i+vs.length<=cur.size->(∀ v∈vs,v.oneCell'=true) ->
  (storeCells ⟨g,o,none⟩ vs i).run P w = .ok () (w.setRow g (cur.toList.take (o+i)++vs++cur.toList.drop (o+i+vs.length)).toArray)
 | [],i,cur,w,⟨fr,hg,_⟩,_,_=>by
  simp only[storeCells,List.append_nil,List.length_nil,Nat.add_zero,List.take_append_drop,Array.toArray_toList];rw[setRow_self w g cur t fr hg];rfl
 | v::rest,i,cur,w,⟨fr,hg,hfz⟩,hl,h1=>by
  have hi:o+i<cur.size:=by simp at hl; omega
  have hadd:(⟨g,o,none⟩:Addr).add i=⟨g,o+i,none⟩:=by unfold Addr.add; split <;> simp_all
  have hcell:w.cell? ⟨g,o+i,none⟩=some cur[o+i]:=by simp [World.cell?,hg,hi]
  have hfro:w.frozen? ⟨g,o+i,none⟩=false:=by
   obtain⟨lo,hi'⟩:=fr;simp only[World.frozen?,hg,Bool.and_eq_false_iff,decide_eq_false_iff_not];have hfz:=hfz.imp_right And.left;simp only at hfz;omega
  have hst:(store ((⟨g,o,none⟩:Addr).add i) v).run P w = .ok () (w.setRow g (cur.setIfInBounds (o+i) v)):=by
   rw[hadd,run_store P w _ v _ (h1 v (by simp)),hcell];simp [hfro,setCell_eq_setRow w g (o+i) cur t fr v hg]
  have ih:=iD P g o t rest (i+1) (cur.setIfInBounds (o+i) v) (w.setRow g (cur.setIfInBounds (o+i) v)) (iC.set ⟨fr,hg,hfz⟩ _ (by simp)) (by simp at hl ⊢; omega) (fun x hx=>h1 x (by simp [hx]));simp only[storeCells,Sem.run_bind,hst,Result.andThen_ok,ih,setRow_setRow];congr 3;have e:=list_seg_step cur.toList (o+i) v rest (by simp at hl ⊢; omega)
  simpa [Array.toList_setIfInBounds,Nat.add_assoc] using e
def iQ (w:World) (e:TypeId) (size:Nat) (v:Value) (n:Nat) (xs:List Value):Prop :=
 xs.length=n * size /\
 ((v = .slice none 0 0/\n=0) \/
  ∃ g cap cur off,v = .slice (some ⟨g,off,none⟩) n cap/\0<=g/\iC w g cur e/\n<=cap/\cap<=maxLen/\off+cap * size<=cur.size/\(cur.toList.drop off).take (n * size)=xs)
section
variable {w:World} {e:TypeId} {size:Nat} {v:Value} {n:Nat} {xs:List Value}
theorem Ac (w:World) (e:TypeId) (size:Nat):iQ w e size (.slice none 0 0) 0 []:=⟨by simp,.inl ⟨rfl,rfl⟩⟩
theorem iQ.of (h:w.ownsRow 0 e size v n xs):iQ w e size v n xs:=by
 refine⟨h.1,?_⟩;rcases h.2 with hn | ⟨g,cap,cur,rfl,hb,hgg,hc,hm,hcs,hr⟩
 ·exact .inl hn
 ·exact .inr ⟨g,cap,cur,0,rfl,hb,.of hgg,hc,hm,by omega,by simpa using hr⟩
theorem iQ.lt (h:iQ w e size v n xs):∀ k,v.ownBlock=some k->0<=k/\k<w.heap.size:=by
 intro k hk;rcases h.2 with⟨rfl,_⟩ | ⟨g,cap,cur,off,rfl,hb,hg,_⟩
 ·simp [Value.ownBlock] at hk
 ·simp [Value.ownBlock] at hk;subst hk;exact⟨hb,hg.lt⟩
theorem iQ.kept {w':World} {row:Option Nat} (h:iQ w e size v n xs) (hg:w.grownBy w' row) (hne:v.ownBlock=none\/v.ownBlock≠row):iQ w' e size v n xs:=by
 refine⟨h.1,?_⟩;rcases h.2 with hn | ⟨g,cap,cur,off,rfl,hb,hgg,rest⟩
 ·exact .inl hn
 ·refine .inr ⟨g,cap,cur,off,rfl,hb,?_,rest⟩;exact hgg.frame (hg.block g hgg.lt (by simpa [Value.ownBlock] using hne))
theorem iQ.alloc (h:iQ w e size v n xs) (o:Obj):iQ (w.alloc o) e size v n xs :=
 h.kept (World.grownBy_alloc w o none) (by cases hv:v.ownBlock <;> simp)
theorem iQ.cells (h:iQ w e size v n xs) {g:Nat} (hg:v.ownBlock=some g):∀ j u,xs[j]?=some u->w.cell? ((⟨g,mu v,none⟩:Addr).add j)=some u:=by
 intro j u hu;rcases h.2 with⟨rfl,_⟩ | ⟨g',cap,cur,off,rfl,_,hgg,_,_,_,htake⟩
 ·simp [Value.ownBlock] at hg
 ·simp [Value.ownBlock] at hg;subst hg;show w.cell? ((⟨g',off,none⟩:Addr).add j)=some u;rw[fT,hgg.cell];rw[← htake,List.getElem?_take] at hu;split at hu
  ·rw[List.getElem?_drop] at hu; simpa using hu
  ·cases hu
theorem iQ.part (h:iQ w e size v n xs) {A:Option Addr} {c i m:Nat} (hv:v = .slice A n c) (him:i+m<=n) :
  iQ w e size (.slice (if c=i then A else A.map (·.add (i * size))) m (c-i)) m ((xs.drop (i * size)).take (m * size)):=by
 have hxl:=h.1;have h1:i * size+m * size<=n * size:=by rw[← Nat.add_mul]; exact Nat.mul_le_mul_right _ him
 refine⟨by rw[List.length_take,List.length_drop]; omega,?_⟩;rcases h.2 with⟨hv',hn⟩ | ⟨g,cap,cur,off,hv',hb,hgg,hc,hm,hcs,hr⟩
 ·rw[hv] at hv';injection hv' with e1 e2 e3
  subst e1 e3;have:i=0:=by omega
  have hm0:m=0:=by omega
  subst this hm0;exact .inl ⟨by simp,rfl⟩
 ·rw[hv] at hv';injection hv' with e1 e2 e3
  subst e1 e3;by_cases hci:c=i
  ·have hm0:m=0:=by omega
   subst hm0;rw[if_pos hci];refine .inr ⟨g,c-i,cur,off,rfl,hb,hgg,by omega,by omega,?_,by simp⟩;have:c-i=0:=by omega
   rw[this];have:0 * size<=c * size:=Nat.mul_le_mul_right _ (by omega);omega
  ·rw[if_neg hci];refine .inr ⟨g,c-i,cur,off+i * size,?_,hb,hgg,by omega,by omega,?_,?_⟩
   ·show Value.slice (some ((⟨g,off,none⟩:Addr).add (i * size))) m (c-i)=_;rw[fT]
   ·have:i * size+(c-i) * size=c * size:=by rw[← Nat.add_mul]; congr 1; omega
    omega
   ·rw[← hr,List.drop_take,List.take_take,List.drop_drop,Nat.min_eq_left (by omega)]
end
structure Own {α:Type} [aN α] (k:Nat) (χ:Col) (e:TypeId) (w:World) (v:Value) (l:List α):Prop where
 ex:∃ xs,iQ w e (aN.sz α) v l.length xs/\∀ i x,l[i]?=some x->aN.rd (In χ 0) w (chunk (aN.sz α) i xs) x
 col:∀ g,v.ownBlock=some g->χ g=k
section
variable {α:Type} [aN α] {T:List Nat} {k:Nat} {χ χ':Col} {e:TypeId} {w w':World} {v:Value} {l:List α}
theorem Own.nil (k:Nat) (χ:Col) (e:TypeId) (w:World):Own k χ e w (.slice none 0 0) ([]:List α) :=
 ⟨⟨[],Ac w e _,by simp⟩,by simp [Value.ownBlock]⟩
theorem Own.step (h:Own k χ e w v l) (s:Step T χ w χ' w') (hk:k∉T) (h0:0∉T):Own k χ' e w' v l:=by
 obtain⟨⟨xs,h1,h2⟩,h3⟩:=h;refine⟨⟨xs,⟨h1.1,?_⟩,fun i x hx=>aN.frame (s.fr h0) (h2 i x hx)⟩,fun g hg=>?_⟩
 ·rcases h1.2 with hn | ⟨g,cap,cur,off,rfl,hb,hgg,rest⟩
  ·exact .inl hn
  ·refine .inr ⟨g,cap,cur,off,rfl,hb,?_,rest⟩;exact hgg.frame (s.block g hgg.lt (by rw[h3 g rfl]; exact hk))
 ·rw[s.col g (h1.lt g hg).2]; exact h3 g hg
theorem Own.Oz [Plain α] (h:Own k χ e w v l) (s:Step T χ w χ' w') (hk:k∉T):Own k χ' e w' v l:=by
 obtain⟨⟨xs,h1,h2⟩,h3⟩:=h;refine⟨⟨xs,⟨h1.1,?_⟩,fun i x hx=>Plain.any (h2 i x hx)⟩,fun g hg=>?_⟩
 ·rcases h1.2 with hn | ⟨g,cap,cur,off,rfl,hb,hgg,rest⟩
  ·exact .inl hn
  ·refine .inr ⟨g,cap,cur,off,rfl,hb,?_,rest⟩;exact hgg.frame (s.block g hgg.lt (by rw[h3 g rfl]; exact hk))
 ·rw[s.col g (h1.lt g hg).2]; exact h3 g hg
theorem Own.clip (h:Own k χ e w v l):Own k (clip χ w.heap.size) e w v l:=by
 obtain⟨⟨xs,h1,h2⟩,h3⟩:=h;refine⟨⟨xs,h1,fun i x hx=>aN.frame (F:=In χ 0) (F':=In (Lad.clip χ w.heap.size) 0) (fun b hb hl=>⟨(ui hl).trans hb,rfl⟩) (h2 i x hx)⟩,fun g hg=>(ui (h1.lt g hg).2).trans (h3 g hg)⟩
theorem Own.alloc (h:Own k χ e w v l) (o:Obj):Own k χ e (w.alloc o) v l:=by
 obtain⟨⟨xs,h1,h2⟩,h3⟩:=h;exact⟨⟨xs,h1.alloc o,fun i x hx=>aN.frame (fun b hb hl=>⟨hb,Below.heap_alloc w o b hl⟩) (h2 i x hx)⟩,h3⟩
theorem Own.drew (h:Own k χ e w v l):Own k χ e w.drew v l:=by
 obtain⟨⟨xs,h1,h2⟩,h3⟩:=h;exact⟨⟨xs,h1,fun i x hx=>aN.frame (w:=w) (w':=w.drew) (F:=In χ 0) (F':=In χ 0) (fun b hb hl=>⟨hb,rfl⟩) (h2 i x hx)⟩,h3⟩
theorem Own.drewN (h:Own k χ e w v l) (j:Nat):Own k χ e (w.drewN j) v l:=by
 obtain⟨⟨xs,h1,h2⟩,h3⟩:=h;exact⟨⟨xs,h1,fun i x hx=>aN.frame (w:=w) (w':=w.drewN j) (F:=In χ 0) (F':=In χ 0) (fun b hb hl=>⟨hb,rfl⟩) (h2 i x hx)⟩,h3⟩
theorem Own.form (h:Own k χ e w v l):∃ A c,v = .slice A l.length c/\l.length<=c/\c<=9223372036854775807:=by
 obtain⟨⟨xs,h1,h2⟩,h3⟩:=h;rcases h1.2 with⟨rfl,hn⟩ | ⟨g,cap,cur,off,rfl,hb,hgg,hc,hm,rest⟩
 ·exact⟨none,0,by rw[hn],by omega,by omega⟩
 ·exact⟨_,cap,rfl,hc,hm⟩
theorem su {size i j:Nat} {xs:List Value} {u:Value} (h:(chunk size i xs)[j]?=some u):j<size/\xs[i * size+j]?=some u:=by
 unfold chunk at h;rw[List.getElem?_take] at h;split at h
 ·rw[List.getElem?_drop] at h; exact⟨by assumption,h⟩
 ·cases h
theorem Own.sl (h:Own k χ e w v l):∃ A c,v = .slice A l.length c/\Sl (fun b=>χ b=k\/χ b=0) w A l.length c l:=by
 obtain⟨⟨xs,h1,h2⟩,h3⟩:=h;rcases h1.2 with⟨rfl,hn⟩ | ⟨g,cap,cur,off,rfl,hb,hgg,hc,hm,hr⟩
 ·have:l=[]:=List.eq_nil_of_length_eq_zero hn;subst this;exact⟨none,0,rfl,Sl.empty _ _⟩
 ·refine⟨_,cap,rfl,rfl,hc,hm,(by intro h; cases h),fun hn=>⟨g,off,rfl,fun i x hx=>⟨chunk (aN.sz α) i xs,aN.frame (fun b hb _=>⟨.inr hb,rfl⟩) (h2 i x hx),fun j u hu=>⟨.inl (h3 g rfl),?_⟩⟩⟩⟩;obtain⟨_,hu'⟩:=su hu;have:=h1.cells (g:=g) rfl _ u hu'
  rwa [fT,← Nat.add_assoc] at this
end
def Blk (w:World) (g:Nat) (t:TypeId) (cs:Array Value):Prop:=w.heap[g]?=some (.cells cs t (0,0))
section
variable {w w':World} {g:Nat} {t:TypeId} {cs:Array Value}
theorem Blk.lt (h:Blk w g t cs):g<w.heap.size:=by
 rcases Nat.lt_or_ge g w.heap.size with hlt | hge
 ·exact hlt
 ·unfold Blk at h; rw[Array.getElem?_eq_none hge] at h; cases h
theorem Blk.cell (h:Blk w g t cs) (i:Nat):w.cell? ⟨g,i,none⟩=cs[i]? := cell_of_row w g i cs t (0,0) h
theorem Blk.frozen (h:Blk w g t cs) (i:Nat):w.frozen? ⟨g,i,none⟩=false:=by
 unfold Blk at h;simp [World.frozen?,h]
theorem Blk.new (w:World) (t:TypeId) (cs:Array Value):Blk (w.alloc (.cells cs t)) w.heap.size t cs:=heap_alloc_new w _
theorem Blk.fresh (w:World) (t:TypeId) (cs:Array Value) {g:Nat} (hg:w.heap.size=g):Blk (w.alloc (.cells cs t)) g t cs:=hg ▸ heap_alloc_new w _
theorem Blk.alloc (h:Blk w g t cs) (o:Obj):Blk (w.alloc o) g t cs:=(Below.heap_alloc w o g h.lt).trans h
theorem Blk.drew (h:Blk w g t cs):Blk w.drew g t cs:=h
theorem Blk.drewN (h:Blk w g t cs) (n:Nat):Blk (w.drewN n) g t cs:=h
theorem Blk.Hc (h:Blk w g t cs) (i:Nat) (u:Value):Blk (w.setCell ⟨g,i,none⟩ u) g t (cs.setIfInBounds i u):=by
 unfold Blk at h ⊢;simp [World.setCell,Array.getElem?_modify,h]
theorem Blk.far (h:Blk w g t cs) {p:Addr} (hp:g≠p.block) (u:Value):Blk (w.setCell p u) g t cs:=(Below.heap_setCell w p u g hp).trans h
theorem Blk.below {B:Nat} (h:Blk w g t cs) (hb:Below B w w') (hg:g<B):Blk w' g t cs:=(hb.block g hg).trans h
theorem Blk.step {T:List Nat} {χ χ':Col} (h:Blk w g t cs) (s:Step T χ w χ' w') (hg:χ g∉T):Blk w' g t cs:=(s.block g h.lt hg).trans h
theorem Blk.at_ {α:Type} [aN α] {F:Nat->Prop} {x:α} (h:Blk w g t cs) (hF:F g) (hrd:aN.rd F w cs.toList x):At F w g 0 x :=
 ⟨_,hrd,fun j u hu=>⟨hF,by rw[Nat.zero_add,h.cell]; simpa using hu⟩⟩
end
theorem Own.ne {α:Type} [aN α] {k:Nat} {χ:Col} {e:TypeId} {w:World} {v:Value} {l:List α} (h:Own k χ e w v l) {g:Nat} {t:TypeId} {cs:Array Value} (hg:Blk w g t cs) (ht:e≠t):v.ownBlock≠some g:=by
 obtain⟨⟨xs,h1,_⟩,_⟩:=h;rcases h1.2 with⟨rfl,_⟩ | ⟨g',cap,cur,off,rfl,_,hh,_⟩
 ·simp [Value.ownBlock]
 ·intro he;have:g'=g:=by simpa [Value.ownBlock] using he
  subst this;obtain⟨fr,hh,_⟩:=hh;unfold Blk at hg;rw[hh] at hg;injection hg with hg
  injection hg with _ hg
  exact ht hg
theorem Own.D2 {α:Type} [aN α] [Plain α] {k k':Nat} {χ χ':Col} {e:TypeId} {w:World} {v:Value} {l:List α} (h:Own k χ e w v l) (hc:∀ g,v.ownBlock=some g->g<w.heap.size->χ g=k->χ' g=k'):Own k' χ' e w v l:=by
 obtain⟨⟨xs,h1,h2⟩,h3⟩:=h;exact⟨⟨xs,h1,fun i x hx=>Plain.any (h2 i x hx)⟩,fun g hg=>hc g hg (h1.lt g hg).2 (h3 g hg)⟩
structure Box (k:Nat) (χ:Col) (w:World) (b:Nat) (t:TypeId) (cs:Array Value):Prop where
 blk:Blk w b t cs
 col:χ b=k
theorem Box.step {k:Nat} {T:List Nat} {χ χ':Col} {w w':World} {b:Nat} {t:TypeId} {cs:Array Value} (h:Box k χ w b t cs) (s:Step T χ w χ' w') (h0:k∉T):Box k χ' w' b t cs :=
 ⟨h.blk.step s (by rw[h.col]; exact h0),(s.col _ h.blk.lt).trans h.col⟩
theorem Box.alloc {k:Nat} {χ:Col} {w:World} {b:Nat} {t:TypeId} {cs:Array Value} (h:Box k χ w b t cs) (o:Obj):Box k χ (w.alloc o) b t cs:=⟨h.blk.alloc o,h.col⟩
theorem Box.drew {k:Nat} {χ:Col} {w:World} {b:Nat} {t:TypeId} {cs:Array Value} (h:Box k χ w b t cs):Box k χ w.drew b t cs:=⟨h.blk,h.col⟩
theorem Box.drewN {k:Nat} {χ:Col} {w:World} {b:Nat} {t:TypeId} {cs:Array Value} (h:Box k χ w b t cs) (n:Nat):Box k χ (w.drewN n) b t cs:=⟨h.blk,h.col⟩
theorem Box.new {χ:Col} {w:World} {t:TypeId} {cs:Array Value} {b:Nat} (hb:w.heap.size=b) (hn:Norm χ w):Box 0 χ (w.alloc (.cells cs t)) b t cs:=⟨Blk.fresh _ _ _ hb,by subst hb; exact hn.at_⟩
def merge (χ χ2:Col) (n k:Nat):Col:=fun b=>if b<n then χ b else if χ2 b=0 then 0 else k
theorem Step.merge {T:List Nat} {χ χ1 χ2:Col} {w w':World} {k:Nat} (h:Step T χ1 w χ2 w') (hT:∀ b,b<w.heap.size->χ1 b∈T->χ b=k):Step [k] χ w (merge χ χ2 w.heap.size k) w' :=
 ⟨h.os,h.tape,h.output,h.size,fun b hb=>by simp [Lad.merge,hb],fun b hb hk=>h.block b hb fun ht=>hk (by rw[hT b hb ht]; simp)⟩
def Hd {α:Type} [aN α] (B:Nat) (e:TypeId) (w:World) (v:Value) (l:List α):Prop := ∃ χ,Own 1 χ e w v l/\∀ b,b<B->χ b=0
theorem Hd.col {α:Type} [aN α] [Plain α] {e:TypeId} {w w':World} {v:Value} {l:List α} (h:Hd w.heap.size e w' v l) (hb:Below w.heap.size w w') (χ:Col) (k:Nat) :
  ∃ χ',Step [] χ w χ' w'/\Own k χ' e w' v l/\∀ b,w.heap.size<=b->χ' b=k\/χ' b=0:=by
 obtain⟨χ2,ho,hn⟩:=h;refine⟨merge χ χ2 w.heap.size k,Step.Ab hb fun b hb'=>by simp [merge,hb'],ho.D2 fun g _ _ hg=>?_,fun b hb'=>?_⟩
 ·unfold merge;split
  ·rename_i hlt;rw[hn g hlt] at hg;cases hg
  ·rw[hg]; simp
 ·unfold merge;rw[if_neg (by omega)];split
  ·exact .inr rfl
  ·exact .inl rfl
theorem Sl.row {α:Type} [aN α] {F:Nat->Prop} {w:World} {A:Option Addr} {n c:Nat} {l:List α} (h:Sl F w A n c l) :
  ∃ xs:List Value,xs.length=n * aN.sz α/\(∀ u∈xs,u.oneCell'=true)/\(∀ i x,l[i]?=some x->aN.rd F w (chunk (aN.sz α) i xs) x) /\
   (0<n->∃ b off,A=some ⟨b,off,none⟩/\∀ j u,xs[j]?=some u->w.cell? ⟨b,off+j,none⟩=some u):=by
 rcases Nat.eq_zero_or_pos n with hn | hn
 ·have:l=[]:=List.eq_nil_of_length_eq_zero (by rw[h.len,hn]);subst this hn;exact⟨[],by simp,by simp,by simp,fun h=>absurd h (by omega)⟩
 obtain⟨b,off,rfl,H⟩:=h.at_ hn;have key:∀ (m:Nat),m<=n->∃ xs:List Value,xs.length=m * aN.sz α/\(∀ u∈xs,u.oneCell'=true)/\(∀ i x,i<m->l[i]?=some x->aN.rd F w (chunk (aN.sz α) i xs) x) /\
   ∀ j u,xs[j]?=some u->w.cell? ⟨b,off+j,none⟩=some u:=by
  intro m;induction m with
  | zero=>exact fun _=>⟨[],by simp,by simp,fun i x hi=>absurd hi (by omega),by simp⟩
  | succ m ih =>
   intro hm;obtain⟨xs,h1,h1c,h2,h3⟩:=ih (by omega);have hl:m<l.length:=by rw[h.len]; omega
   obtain⟨cs,hrd,hcs⟩:=H m l[m] (List.getElem?_eq_getElem hl);have hlen:=aN.len hrd;refine⟨xs++cs,by rw[List.length_append,h1,hlen,Nat.succ_mul],?_,fun i x hi hx=>?_,fun j u hu=>?_⟩
   ·intro u hu;rcases List.mem_append.1 hu with hu | hu
    ·exact h1c u hu
    ·exact aN.one hrd u hu
   ·rcases Nat.lt_or_ge i m with him | him
    ·have e1:chunk (aN.sz α) i (xs++cs)=chunk (aN.sz α) i xs:=by
      unfold chunk;have:i * aN.sz α+aN.sz α<=xs.length:=by
       rw[h1,← Nat.succ_mul]; exact Nat.mul_le_mul_right _ him
      rw[List.drop_append_of_le_length (by omega),List.take_append_of_le_length (by rw[List.length_drop]; omega)]
     rw[e1]; exact h2 i x him hx
    ·obtain rfl:i=m:=by omega
     have e1:chunk (aN.sz α) i (xs++cs)=cs:=by
      unfold chunk;rw[← h1,List.drop_left,List.take_of_length_le (by omega)]
     rw[e1];rw[List.getElem?_eq_getElem hl] at hx;injection hx with hx
     rw[← hx]; exact hrd
   ·rcases Nat.lt_or_ge j xs.length with hj | hj
    ·rw[List.getElem?_append_left hj] at hu; exact h3 j u hu
    ·rw[List.getElem?_append_right hj] at hu;have:=(hcs _ u hu).2;rw[← h1] at this
     rwa [Nat.add_assoc,Nat.add_sub_cancel' hj] at this
 obtain⟨xs,h1,h1c,h2,h3⟩:=key n (Nat.le_refl _);exact⟨xs,h1,h1c,fun i x hx=>h2 i x (by rw[← h.len]; exact (List.getElem?_eq_some_iff.1 hx).1) hx,fun _=>⟨b,off,rfl,h3⟩⟩
structure Cu (P:Program) (t e:TypeId) (size:Nat):Prop where
 ty:P.underlying t=some (.slice e)
 ex:∃ i z,P.info? e=some i/\i.zero=some z/\i.size=size/\i.bytes<=65536/\z.cells.size=size
 pos:0<size
theorem qZ {P:Program} (w:World) (t ty e:TypeId) (i:TypeInfo) (size:Nat) (ht:P.underlying t=some (.slice e)) (hi:P.info? e=some i)
  (v:Value) (n:Nat) (xs:List Value) (hown:iQ w e size v n xs) (c:Nat):(Builtin.append_ #[t,t] ty #[v,.slice none 0 c]).run P w = .ok v w:=by
 rcases hown.2 with⟨rfl,rfl⟩ | ⟨g,cap,cur,off,rfl,_,_,hnc,_⟩
 ·simp [Builtin.append_,run_underlying ht,sizeOf,typeInfo,hi,Builtin.lenOf,Builtin.firstCells]
 ·simp [Builtin.append_,run_underlying ht,sizeOf,typeInfo,hi,Builtin.lenOf,Builtin.firstCells,hnc,storeCells]
theorem ra {P:Program} (w:World) (t ty e:TypeId) (i:TypeInfo) (ht:P.underlying t=some (.slice e)) (hi:P.info? e=some i)
  (g off sLen sCap:Nat) (cur:Array Value) (hg:iC w g cur e)
  (a:Addr) (m c:Nat) (news:List Value) (hl:news.length=m * i.size) (hnews:∀ j u,news[j]?=some u->w.cell? (a.add j)=some u) (h1:∀ u∈news,u.oneCell'=true)
  (hroom:sLen+m<=sCap) (hfit:off+sLen * i.size+news.length<=cur.size) :
  (Builtin.append_ #[t,t] ty #[.slice (some ⟨g,off,none⟩) sLen sCap,.slice (some a) m c]).run P w =
   .ok (.slice (some ⟨g,off,none⟩) (sLen+m) sCap) (w.setRow g (cur.toList.take (off+sLen * i.size)++news++cur.toList.drop (off+sLen * i.size+news.length)).toArray):=by
 have hf:=run_firstCells_some (P:=P) w i.size m a m c news hl hnews;have hst:=iD P g (off+sLen * i.size) e news 0 cur w hg (by simpa using hfit) h1;simp only[Nat.add_zero] at hst;simp [Builtin.append_,run_underlying ht,sizeOf,typeInfo,hi,Builtin.lenOf,hroom,hf,fT,hst]
theorem nR {P:Program} (w:World) (t ty e:TypeId) (i:TypeInfo) (z:Value) (size bytes:Nat) (ht:P.underlying t=some (.slice e)) (hi:P.info? e=some i) (hz:i.zero=some z)
  (hsize:i.size=size) (hby:i.bytes=bytes) (hzs:z.cells.size=size) (hsz:0<size)
  (v:Value) (n:Nat) (xs:List Value) (hown:iQ w e size v n xs)
  (a:Addr) (m c:Nat) (news:List Value) (hl:news.length=m * size) (hnews:∀ j u,news[j]?=some u->w.cell? (a.add j)=some u) (h1:∀ u∈news,u.oneCell'=true)
  (h63:n+m<=maxLen) (hbytes:(n+m) * bytes<=140737488355328) :
  ∃ v' w',(Builtin.append_ #[t,t] ty #[v,.slice (some a) m c]).run P w = .ok v' w'/\iQ w' e size v' (n+m) (xs++news)/\w.grownBy w' v.ownBlock /\
   (v' = .slice none 0 0↔v = .slice none 0 0/\m=0)/\(v'.ownBlock=v.ownBlock\/v'.ownBlock=some w.heap.size):=by
 have hxl:=hown.1;rcases hown.2 with⟨rfl,rfl⟩ | ⟨g,cap,cur,off,rfl,hbg,hg,hnc,hcm,hcs,htake⟩
 ·have hx:xs=[]:=List.eq_nil_of_length_eq_zero (by simpa using hxl);subst hx;obtain⟨v',w',r1,r2,r3,r4,r5⟩:=run_append_own_at (P:=P) w 0 t ty e i z size bytes ht hi hz hsize hby hzs hsz (.slice none 0 0) 0 [] (World.ownsRow_nil w 0 e size) a m c news hl hnews h1 h63 hbytes (Nat.zero_le _);exact⟨v',w',r1,.of r2,r3,r4,r5⟩
 ·subst hsize;subst hby;have hsmall:n+m<=9223372036854775807:=by simp only[maxLen] at h63; omega
  have hlen:(xs++news).length=(n+m) * i.size:=by rw[List.length_append,hxl,hl,Nat.add_mul]
  have hnm:n * i.size+m * i.size=(n+m) * i.size:=by rw[Nat.add_mul]
  by_cases hroom:n+m<=cap
  ·have hcapm:(n+m) * i.size<=cap * i.size:=Nat.mul_le_mul_right _ hroom;have hfit:off+n * i.size+news.length<=cur.size:=by rw[hl]; omega
   have hr:=ra (P:=P) w t ty e i ht hi g off n cap cur hg a m c news hl hnews h1 hroom hfit;refine⟨_,_,hr,⟨hlen,.inr ⟨g,cap,_,off,rfl,hbg,hg.set _ (by simp only[List.size_toArray,List.length_append,List.length_take,List.length_drop,Array.length_toList]; omega),hroom,hcm,?_,?_⟩⟩,⟨rfl,rfl,rfl,by simp,fun k _ hk=>setRow_other w g k _ (fun e=>hk (by simp [Value.ownBlock,e]))⟩,by simp,Or.inl rfl⟩
   ·simp only[List.size_toArray,List.length_append,List.length_take,List.length_drop,Array.length_toList];omega
   ·show (List.drop off (cur.toList.take (off+n * i.size)++news++cur.toList.drop (off+n * i.size+news.length))).take ((n+m) * i.size)=xs++news;rw[List.append_assoc,List.drop_append_of_le_length (by rw[List.length_take,Array.length_toList]; omega),List.drop_take,Nat.add_sub_cancel_left,htake,← List.append_assoc,← hlen];exact List.take_left
  ·have holds:∀ j u,xs[j]?=some u->w.cell? ((⟨g,off,none⟩:Addr).add j)=some u:=hown.cells (g:=g) rfl;have hr:=run_append_grow (P:=P) w t ty e i z ht hi hz ⟨g,off,none⟩ n cap xs hxl holds a m c news hl hnews (by omega) (by omega) (growslice_fits (by omega) hbytes);have hge:=grownCap_ge w (n+m) cap e;have hcm':grownCap w (n+m) cap e<=maxLen:=grownCap_le_maxLen w (n+m) cap e h63;refine⟨_,_,hr,⟨hlen,.inr ⟨w.heap.size,_,_,0,rfl,Nat.zero_le _,.of (heap_alloc_new w.drew _),hge,hcm',?_,?_⟩⟩,⟨rfl,rfl,rfl,by simp,fun k hk _=>heap_alloc_old w.drew _ hk⟩,by simp,Or.inr rfl⟩
   ·have:∀ q,n+m<=q->(n+m) * i.size+(q-(n+m)) * i.size=q * i.size:=fun q hq=>by rw[← Nat.add_mul]; congr 1; omega
    simp only[Array.size_append,List.size_toArray,size_zeroCells,hzs,hxl,hl];rw[Nat.zero_add,hnm];exact Nat.le_of_eq (this _ hge).symm
   ·rw[List.drop_zero];simp only[Array.toList_append,List.append_assoc];rw[← List.append_assoc,← hlen];exact List.take_left
section
variable {α:Type} [aN α] {P:Program} {t e:TypeId} {k:Nat} {χ:Col} {w:World} {v:Value} {l l2:List α} {F:Nat->Prop} {A:Option Addr} {m c:Nat}
end
def wZ (k:Nat) (f:Col->World->Prop):Prop:=k≠0/\∀ (T:List Nat) (χ:Col) (w:World) (χ':Col) (w':World),f χ w->Step T χ w χ' w'->k∉T->f χ' w'
theorem wZ.own {α:Type} [aN α] [Plain α] (k:Nat) (hk:k≠0) (e:TypeId) (v:Value) (l:List α):wZ k (fun χ w=>Own k χ e w v l):=⟨hk,fun _ _ _ _ _ h s ht=>h.Oz s ht⟩
theorem wZ.box (k:Nat) (hk:k≠0) (b:Nat) (t:TypeId) (cs:Array Value):wZ k (fun χ w=>Box k χ w b t cs):=⟨hk,fun _ _ _ _ _ h s ht=>h.step s ht⟩
theorem wZ.sl {α:Type} [aN α] (k:Nat) (hk:k≠0) (A:Option Addr) (n c:Nat) (l:List α):wZ k (fun χ w=>Sl (In χ k) w A n c l):=⟨hk,fun _ _ _ _ _ h s ht=>h.step s ht⟩
structure LS (w:World) (T:List Nat) (fs:List (Nat×(Col->World->Prop))) (χ:Col) (wr:World):Prop where
 nz:0∉T
 yG:∀ x∈fs,wZ x.1 x.2
 st:Step T (fun _=>0) w χ wr
 norm:Norm χ wr
 facts:∀ x∈fs,x.2 χ wr
section
variable {w:World} {T T':List Nat} {fs:List (Nat×(Col->World->Prop))} {χ χ':Col} {wr wr':World}
theorem LS.bel (h:LS w T fs χ wr):Below w.heap.size w wr:=h.st.below (Nat.le_refl _) fun _ _=>h.nz
theorem LS.size (h:LS w T fs χ wr):w.heap.size<=wr.heap.size:=h.st.size
theorem LS.get (h:LS w T fs χ wr) (i:Nat) {k:Nat} {f:Col->World->Prop} (hi:fs[i]?=some (k,f)):f χ wr:=h.facts (k,f) (List.mem_of_getElem? hi)
theorem LS.OA (h:LS w T fs χ wr) (s:Step T' χ wr χ' wr') {gs:List (Nat×(Col->World->Prop))} (hT:∀ k,k∈T'->k∈T) (hg:∀ x∈gs,wZ x.1 x.2/\((x∈fs/\x.1∉T')\/x.2 (clip χ' wr'.heap.size) wr')) :
  LS w T gs (clip χ' wr'.heap.size) wr' :=
 ⟨h.nz,fun x hx=>(hg x hx).1,h.st.trans (s.clip.wide hT),Fw _ _,fun x hx=>by
  rcases (hg x hx).2 with⟨h1,h2⟩ | h1
  ·exact (h.yG x h1).2 _ _ _ _ _ (h.facts x h1) s.clip h2
  ·exact h1⟩
theorem LS.quiet (h:LS w T fs χ wr) (s:Step [] χ wr χ' wr') (hn:Norm χ' wr'):LS w T fs χ' wr' :=
 ⟨h.nz,h.yG,h.st.trans (s.wide (by simp)),hn,fun x hx=>(h.yG x hx).2 _ _ _ _ _ (h.facts x hx) s (by simp)⟩
theorem LS.below (h:LS w T fs χ wr) (hb:Below wr.heap.size wr wr'):LS w T fs χ wr':=h.quiet (Step.Ab hb fun _ _=>rfl) fun b hb'=>h.norm b (Nat.le_trans hb.size hb')
theorem LS.alloc (h:LS w T fs χ wr) (o:Obj):LS w T fs χ (wr.alloc o):=h.quiet ((Step.refl _ _ _).alloc o) (Norm.alloc h.norm o)
theorem LS.drew (h:LS w T fs χ wr):LS w T fs χ wr.drew:=h.quiet (Step.refl _ _ _).drew h.norm
theorem LS.drewN (h:LS w T fs χ wr) (n:Nat):LS w T fs χ (wr.drewN n):=h.quiet ((Step.refl _ _ _).drewN n) h.norm
theorem LS.store (h:LS w T fs χ wr) {q:Nat} (hq:χ q=0) (hqw:w.heap.size<=q) (i:Nat) (u:Value):LS w T fs χ (wr.setCell ⟨q,i,none⟩ u):=by
 have s:Step [0] χ wr χ (wr.setCell ⟨q,i,none⟩ u):=(Step.refl _ χ wr).setCell (.inl (by rw[hq]; simp)) u;exact⟨h.nz,h.yG,h.st.setCell (.inr hqw) u,fun b hb=>h.norm b (by simpa [World.setCell] using hb),fun x hx=>(h.yG x hx).2 _ _ _ _ _ (h.facts x hx) s (by simpa using (h.yG x hx).1)⟩
theorem LS.sub (h:LS w T fs χ wr) {gs:List (Nat×(Col->World->Prop))} (hg:∀ x∈gs,x∈fs):LS w T gs χ wr:=⟨h.nz,fun x hx=>h.yG x (hg x hx),h.st,h.norm,fun x hx=>h.facts x (hg x hx)⟩
theorem LS.more (h:LS w T fs χ wr) {k:Nat} {f:Col->World->Prop} (hs:wZ k f) (hf:f χ wr):LS w T ((k,f)::fs) χ wr :=
 ⟨h.nz,fun x hx=>by
  rcases List.mem_cons.1 hx with rfl | hx
  ·exact hs
  ·exact h.yG x hx,h.st,h.norm,fun x hx=>by
  rcases List.mem_cons.1 hx with rfl | hx
  ·exact hf
  ·exact h.facts x hx⟩
theorem LS.set (h:LS w T fs χ wr) (i:Nat) {k:Nat} {f f':Col->World->Prop} (hi:fs[i]?=some (k,f)) (hn:(fs.map (·.1)).Nodup) (hk:k∈T) (s:Step [k] χ wr χ' wr') (hs:wZ k f')
  (hf:f' (clip χ' wr'.heap.size) wr'):LS w T (fs.set i (k,f')) (clip χ' wr'.heap.size) wr':=by
 refine h.OA s (by simpa using hk) fun x hx=>?_;rw[List.mem_iff_getElem?] at hx;obtain⟨j,hj⟩:=hx;by_cases hij:i=j
 ·subst hij;rw[List.getElem?_set_self (List.getElem?_eq_some_iff.1 hi).1] at hj;injection hj with hj
  subst hj;exact⟨hs,.inr hf⟩
 ·rw[List.getElem?_set_ne hij] at hj;refine⟨h.yG x (List.mem_of_getElem? hj),.inl ⟨List.mem_of_getElem? hj,?_⟩⟩;rw[List.mem_singleton];intro e;have h1:(fs.map (·.1))[i]?=some k:=by rw[List.getElem?_map,hi]; rfl
  have h2:(fs.map (·.1))[j]?=some k:=by rw[List.getElem?_map,hj,← e]; rfl
  exact hij ((List.getElem?_inj (List.getElem?_eq_some_iff.1 h1).1 hn).1 (h1.trans h2.symm))
theorem LS.start (w:World) (T:List Nat) (hT:0∉T):LS w T [] (fun _=>0) w:=⟨hT,by simp,Step.refl _ _ _,fun _ _=>rfl,by simp⟩
end
theorem Sl.built {α:Type} [aN α] (F:Nat->Prop) (W:World) (arr:Array Value) (e:TypeId) (l:List α) (n:Nat) (hn:l.length=n) (hm:n<=9223372036854775807)
  (hF:F W.heap.size) (hrd:∀ i x,l[i]?=some x->∃ cs,aN.rd F (W.alloc (.cells arr e)) cs x/\∀ j u,cs[j]?=some u->arr[i * aN.sz α+j]?=some u) :
  Sl F (W.alloc (.cells arr e)) (some ⟨W.heap.size,0,none⟩) n n l:=by
 refine⟨hn,Nat.le_refl _,hm,by simp,fun _=>⟨W.heap.size,0,rfl,fun i x hx=>?_⟩⟩;obtain⟨cs,h1,h2⟩:=hrd i x hx;refine⟨cs,h1,fun j u hu=>⟨hF,?_⟩⟩;have:=h2 j u hu;rw[cell_of_row _ W.heap.size _ arr e (0,0) (heap_alloc_new W _),Nat.zero_add];exact this
end Go.Lad
