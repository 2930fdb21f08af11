import Derived.Test.YtcmibmohdnbhgaaGreatDoorAb10
import Derived.Lib.ConvBytes
import Derived.Laws.AppendOwn
import Derived.Laws.MakeOwn
import Derived.Laws.BytesArg
import Derived.Laws.StructEq
namespace Go.Lad
set_option linter.unusedVariables false
set_option linter.unusedSimpArgs false
open Go.RowKit
def opBox (P:Program) (t:TypeId) (dst:Option Nat) (free:Bool):List Slot → Option Eff
 | [.c c]=>match dst,tySize P t with
  | some d,some n=>if free = true ∧ c.leaves.length = n then some ⟨True,.x (.loc d 0),[(d,.box t c.leaves)]⟩ else none
  | _,_=>none
 | _=>none
def capsOf:List Slot → Option (List Nat)
 | []=>some []
 | .c (.v (.loc o 0)) :: r=>(capsOf r).map (o :: ·)
 | _=>none
def opMakeFunc (fn:Fn) (first:Nat) (caps:List Slot):Option Eff :=
 match fn,first,capsOf caps with
 | .func f,0,some l=>val (.x (.fn (2 * f) l))
 | .func f,n + 1,some l=>if l.length = n + 1 then val (.x (.fn (2 * f + 1) l)) else none
 | _,_,_=>none
def opMinMax (mx:Bool):List Slot → Option Eff:=fun _=>none
def opMakeSlice (P:Program) (t:TypeId) (dst:Option Nat) (free:Bool):List Slot → Option Eff:=fun _=>none
def rowByte:List PV → Option UInt8
 | [.int .u8 n]=>some (UInt8.ofNat n.toNat)
 | _=>none
def bytesOf:List (List PV) → Option (List UInt8)
 | []=>some []
 | r :: l=>match rowByte r,bytesOf l with | some b,some m=>some (b :: m) | _,_=>none
def opBytes0 (P:Program) (src dst:TypeId):List Arg → Option Eff
 | [a]=>match tyElem P src,P.underlying dst,asList a with
  | some (e,1),some .string,some l=>match P.underlying e,bytesOf l with
   | some (.int .u8),some m=>some ⟨m.length ≤ 9223372036854775807,.p (.str ⟨m.toArray⟩),[]⟩
   | _,_=>none
  | _,_,_=>none
 | _=>none
def eqPV:PV → PV → Option Bool
 | .int k a,.int k' b=>if k = k' then some (decide (a = b)) else none
 | .str a,.str b=>some (decide (a = b))
 | .bool a,.bool b=>some (a == b)
 | _,_=>none
def eqRow:List PV → List PV → Option Bool
 | [],[]=>some true
 | p :: ps,q :: qs=>match eqPV p q,eqRow ps qs with | some a,some b=>some (a && b) | _,_=>none
 | _,_=>none
def kindOK (P:Program) (t:TypeId):PV → Bool
 | .int _ _=>match P.underlying t with | some (.int _)=>true | _=>false
 | .str _=>match P.underlying t with | some .string=>true | _=>false
 | .bool _=>match P.underlying t with | some .bool=>true | _=>false
 | _=>false
def fieldsOK (P:Program):Nat → List Field → List PV → Bool
 | _,[],[]=>true
 | i,f :: fs,p :: ps=>decide (f.offset = i) && (f.name != "_") && kindOK P f.type p && fieldsOK P (i + 1) fs ps
 | _,_,_=>false
def opEqS (P:Program) (b:BinOp) (t:TypeId):List Slot → Option Eff
 | [.c (.g xs),.c (.g ys)]=>match P.underlying t with
  | some (.struct fs)=>match allPV xs,allPV ys with
   | some ps,some qs=>if (fieldsOK P 0 fs.toList ps && !P.stoodInHeld t && !P.eqGuardType P.depth t) = true then
     match b,eqRow ps qs with
     | .eql,some r=>val (.p (.bool r))
     | .neq,some r=>val (.p (.bool (!r)))
     | _,_=>none
    else none
   | _,_=>none
  | _=>none
 | _=>none
def isShB:BinOp → Bool
 | .and | .or | .xor | .andNot | .shl | .shr=>true
 | _=>false
def andI (k:IntKind) (a b:Int):Int:=k.wrap ((BitVec.ofInt k.bits a &&& BitVec.ofInt k.bits b).toNat:Int)
def orI (k:IntKind) (a b:Int):Int:=k.wrap ((BitVec.ofInt k.bits a ||| BitVec.ofInt k.bits b).toNat:Int)
def xorI (k:IntKind) (a b:Int):Int:=k.wrap ((BitVec.ofInt k.bits a ^^^ BitVec.ofInt k.bits b).toNat:Int)
def anI (k:IntKind) (a b:Int):Int:=k.wrap ((BitVec.ofInt k.bits a &&& ~~~BitVec.ofInt k.bits b).toNat:Int)
def shlI (k:IntKind) (a n:Int):Int:=k.wrap (a * 2 ^ (min n.toNat k.bits))
def shrI (k:IntKind) (a n:Int):Int:=a.fdiv (2 ^ (min n.toNat k.bits))
def opSh (b:BinOp):List Slot → Option Eff
 | [.c (.v (.p (.int k a))),.c (.v (.p (.int k2 n)))]=>match b with
  | .shl=>valIf (0 ≤ n) (.p (.int k (shlI k a n)))
  | .shr=>valIf (0 ≤ n ∧ inK k (shrI k a n)) (.p (.int k (shrI k a n)))
  | .and=>if k = k2 then val (.p (.int k (andI k a n))) else none
  | .or=>if k = k2 then val (.p (.int k (orI k a n))) else none
  | .xor=>if k = k2 then val (.p (.int k (xorI k a n))) else none
  | .andNot=>if k = k2 then val (.p (.int k (anI k a n))) else none
  | _=>none
 | _=>none
def opES (P:Program) (b:BinOp) (t:TypeId) (l:List Slot):Option Eff:=match opEqS P b t l with | some e=>some e | none=>opSh b l
def opSl3 (P:Program) (t:TypeId):List Slot → Option Eff:=fun _=>none
def opCB (P:Program) (src dst:TypeId) (args:List Slot):Option Eff :=
 match P.underlying src,P.underlying dst with
 | some .string,some (.slice el)=>match P.underlying el with
  | some (.int .u8)=>match args with
   | [.c (.v (.p (.str s)))]=>val (.p (.sl (s.data.toList.map fun b=>[PV.int .u8 (b.toNat:Int)])))
   | _=>none
  | _=>none
 | _,_=>none
def opBytes (P:Program) (src dst:TypeId) (args:List Arg):Option Eff:=match opCB P src dst (args.map (·.1)) with | some e=>some e | none=>opBytes0 P src dst args
def opY0 (P:Program) (op:Op) (dst:Option Nat) (free:Bool) (args:List Arg):Option Eff :=
 match op with
 | .box t _=>opBox P t dst free (args.map (·.1))
 | .makeFunc fn first _=>opMakeFunc fn first.size (args.map (·.1))
 | .call { callee := .builtin .min,.. }=>opMinMax false (args.map (·.1))
 | .call { callee := .builtin .max,.. }=>opMinMax true (args.map (·.1))
 | .makeSlice t _ _=>opMakeSlice P t dst free (args.map (·.1))
 | .convert s d _=>opBytes P s d args
 | .binOp b t _ _ _=>opES P b t (args.map (·.1))
 | .slice t _ none (some _) (some _)=>opSl3 P t (args.map (·.1))
 | _=>none
section
variable {P:Program} {w0:World} {χ0:Col} {T0:Ctx} {s:St} {a:Act} {w:World} {G:Gh} {o:Oper} {Q:Exit → Act → World → Prop}
theorem opBox_ok {e:Eff} {t:TypeId} {x:Operand} (r:RepG w0 χ0 T0 s a w G) (hd:∀ k,o.dst = some k → k < a.tmps.size) (ho:o.op = .box t x) (h:opBox P t o.dst (isFree s.hp o.dst) [s.ev x] = some e) :
  o.wp P a w (After w0 χ0 T0 a.tmps.size (s.app o.dst e)) Q:=by
 have hx:=r.ev x
 unfold opBox at h
 split at h
 ·rename_i c heq
  simp only[List.cons.injEq,and_true] at heq
  rw[heq] at hx
  split at h
  ·rename_i d n hdst hn
   split at h
   ·rename_i hc
    obtain⟨hf,hl⟩:=hc
    simp only[Option.some.injEq] at h
    subst h
    rw[hdst] at hf
    have hf':s.hp d = none ∧ d < 1000000:=by simpa [isFree] using hf
    have hcells:=CRd.cells hx
    refine does_new r hd hf' (x := .cells (a.eval x).cells t) (v:=ptr w.heap.size 0) .nilFunc ?_ ⟨rfl,fun j hj=>?_,?_⟩ ?_
    ·simp [execOp,ho,Instr.box,newVar,newRow,ptr]
    ·simp [Leaf.ids] at hj; subst hj; rw[upd_same]; simp
    ·show ptr w.heap.size 0 = ptr (Lad.upd G.bl d w.heap.size d) 0
     rw[upd_same]
    ·refine⟨(a.eval x).cells.toList,?_,?_,hcells.mono fun y v hy=>hy.ext (Ext.new r.norm hf' _ .nilFunc _)⟩
     ·show Blk _ (Lad.upd G.bl d w.heap.size d) t _
      rw[upd_same]; simpa using Blk.new w t (a.eval x).cells
     ·show (if (Lad.upd G.bl d w.heap.size d) = w.heap.size then d + 2 else _) = d + 2
      rw[upd_same,if_pos rfl]
   ·cases h
  ·cases h
 ·cases h
theorem capsOf_rd:∀ (xs:List Operand) (l:List Nat),RepG w0 χ0 T0 s a w G → capsOf (xs.map s.ev) = some l → (∀ i ∈ l,s.hp i ≠ none) ∧ xs.map a.eval = l.map fun o=>ptr (G.bl o) 0
 | [],l,r,h=>by simp [capsOf] at h; subst h; simp
 | x :: xs,l,r,h=>by
  have hx:=r.ev x
  rw[List.map_cons] at h
  unfold capsOf at h
  split at h
  ·rename_i heq; cases heq
  ·rename_i ob rest heq
   simp only[List.cons.injEq] at heq
   obtain⟨e1,rfl⟩:=heq
   rw[e1] at hx
   rw[Option.map_eq_some_iff] at h
   obtain⟨l',hl',rfl⟩:=h
   obtain⟨h1,h2⟩:=capsOf_rd xs l' r hl'
   refine⟨fun i hi=>?_,?_⟩
   ·rcases List.mem_cons.1 hi with rfl | hi
    ·exact hx.ids _ (by simp [Leaf.ids])
    ·exact h1 i hi
   ·rw[List.map_cons,List.map_cons,h2,show a.eval x = ptr (G.bl ob) 0 from LRd.val hx]
  ·cases h
theorem opMakeFunc_ok {e:Eff} {fn:Fn} {first caps:Array Operand} (r:RepG w0 χ0 T0 s a w G) (hd:∀ k,o.dst = some k → k < a.tmps.size) (ho:o.op = .makeFunc fn first caps) (h:opMakeFunc fn first.size ((first.toList ++ caps.toList).map s.ev) = some e) :
  o.wp P a w (After w0 χ0 T0 a.tmps.size (s.app o.dst e)) Q:=by
 unfold opMakeFunc at h
 split at h
 ·rename_i f l hfs hl
  have hfirst:first = #[]:=Array.eq_empty_of_size_eq_zero hfs
  subst hfirst
  simp only[val,Option.some.injEq] at h
  subst h
  have hl:capsOf (caps.toList.map s.ev) = some l:=by simpa using hl
  obtain⟨h1,h2⟩:=capsOf_rd _ l r hl
  refine does_val r hd (v := .func (.func f) #[] (caps.map a.eval)) ?_ ⟨rfl,h1,?_⟩
  ·simp [execOp,ho,Instr.makeFunc]
  ·show Value.func (.func f) #[] (caps.map a.eval) = fnV (2 * f) (l.map fun o=>ptr (G.bl o) 0)
   rw[fnV_even,← h2]
   congr 1
   apply Array.ext'; simp
 ·rename_i f n l hfs hl
  split at h
  ·rename_i hlen
   simp only[val,Option.some.injEq] at h
   subst h
   obtain⟨h1,h2⟩:=capsOf_rd _ l r (show capsOf (((first.toList ++ caps.toList)).map s.ev) = some l from hl)
   have hcl:(first.toList ++ caps.toList).length = l.length:=by
    have:=congrArg List.length h2
    simpa using this
   have hc0:caps = #[]:=by
    rw[List.length_append,Array.length_toList,Array.length_toList,hfs,hlen] at hcl
    exact Array.eq_empty_of_size_eq_zero (by omega)
   subst hc0
   refine does_val r hd (v := .func (.func f) (first.map a.eval) #[]) ?_ ⟨rfl,h1,?_⟩
   ·simp [execOp,ho,Instr.makeFunc]
   ·show Value.func (.func f) (first.map a.eval) #[] = fnV (2 * f + 1) (l.map fun o=>ptr (G.bl o) 0)
    rw[fnV_odd,← h2]
    congr 1
    apply Array.ext'; simp
  ·cases h
 ·cases h
theorem opMinMax_ok {e:Eff} {mx:Bool} {c:Call} {b:Builtin} (r:RepG w0 χ0 T0 s a w G) (hd:∀ k,o.dst = some k → k < a.tmps.size) (ho:o.op = .call c) (hc:c.callee = .builtin b) (hb:b = if mx then .max else .min) (h:opMinMax mx (c.args.toList.map s.ev) = some e) :
  o.wp P a w (After w0 χ0 T0 a.tmps.size (s.app o.dst e)) Q:=nomatch h
theorem made_get (zc:Array Value) (n z:Nat) (hz:zc.size = z) {i j:Nat} (hi:i < n) (hj:j < z):(madeCells zc (n * z)).toList[i * z + j]? = zc.toList[j]? := by
 have hlt:i * z + j < n * z:=by
  have:(i + 1) * z ≤ n * z:=Nat.mul_le_mul_right _ hi
  rw[Nat.add_mul] at this; omega
 simp [madeCells,hlt,hz,Nat.mul_add_mod_of_lt,Nat.mod_eq_of_lt hj]
 rw[getElem!_pos zc j (by omega),getElem?_pos zc j (by omega)]
theorem opMakeSlice_ok {e:Eff} {t:TypeId} {x y:Operand} (r:RepG w0 χ0 T0 s a w G) (hd:∀ k,o.dst = some k → k < a.tmps.size) (ho:o.op = .makeSlice t x y) (h:opMakeSlice P t o.dst (isFree s.hp o.dst) [s.ev x,s.ev y] = some e) (hc:e.cond) :
  o.wp P a w (After w0 χ0 T0 a.tmps.size (s.app o.dst e)) Q:=nomatch h
theorem bytesOf_eq:∀ {l:List (List PV)} {m:List UInt8},bytesOf l = some m → ∃ xs:List Int,l = xs.map (fun n=>[PV.int .u8 n]) ∧ m = xs.map fun n=>UInt8.ofNat n.toNat
 | [],m,h=>by simp [bytesOf] at h; subst h; exact⟨[],rfl,rfl⟩
 | r :: l,m,h=>by
  unfold bytesOf at h
  split at h
  ·rename_i b m' h1 h2
   injection h with h
   subst h
   obtain⟨xs,rfl,rfl⟩:=bytesOf_eq h2
   unfold rowByte at h1
   split at h1
   ·injection h1 with h1
    rename_i n
    exact⟨n :: xs,rfl,by rw[List.map_cons,h1]⟩
   ·cases h1
  ·cases h
theorem does_dataW {w':World} {v:Value} {y:Leaf} {c:Prop} (r:RepG w0 χ0 T0 s a w G) (hd:∀ k,o.dst = some k → k < a.tmps.size)
  (hrun:(execOp a.eval o).run P w = .ok (.value v) w') (h1:w'.os = w.os) (h2:w'.tape = w.tape) (h3:w'.output = w.output) (h4:w.heap.size ≤ w'.heap.size) (hb:∀ b,b < w.heap.size → w'.heap[b]? = w.heap[b]?) (hy:LRd G s.hp w' y v):o.wp P a w (After w0 χ0 T0 a.tmps.size (s.app o.dst ⟨c,.x y,[]⟩)) Q:=by
 unfold Oper.wp
 rw[hrun]
 refine⟨Act.put_size _ _ _,G,r.upd (T:=[]) (w':=w') (G':=G) (hp':=s.hp) hd ⟨fun b h hl=>⟨h,hb b hl⟩,fun _ _=>rfl,fun _ _=>rfl,fun _ h=>h⟩ ⟨h1,h2,h3,h4,fun _ _ _=>rfl,fun b hl _=>hb b hl⟩ (by simp) (fun b h=>r.norm b (Nat.le_trans h4 h)) (fun i h hi=>.inl ⟨hi,by simp⟩) hy⟩
theorem opCB_ok {e:Eff} {src dst:TypeId} {x:Operand} (r:RepG w0 χ0 T0 s a w G) (hd:∀ k,o.dst = some k → k < a.tmps.size) (ho:o.op = .convert src dst x)
  (h:opCB P src dst [s.ev x] = some e):o.wp P a w (After w0 χ0 T0 a.tmps.size (s.app o.dst e)) Q:=by
 unfold opCB at h
 split at h
 ·rename_i el hsu hdu
  split at h
  ·rename_i heu
   split at h
   ·rename_i b heq
    simp only[List.cons.injEq,and_true] at heq
    have hx:=r.ev x
    rw[heq] at hx
    have hval:Rd (In G.χ 0) w (.str b) (a.eval x):=(hx:LRd G s.hp w _ _).val
    simp only[val,Option.some.injEq] at h
    subst h
    have hv:a.eval x = .string b ∧ b.size ≤ 9223372036854775807:=by
     generalize a.eval x = v at hval
     cases hval with
     | str h=>exact⟨rfl,h⟩
    have hrun:=Lib.run_convert_string_bytes w src dst el b hsu hdu heu
    have hlen:(b.data.toList.map fun c=>[PV.int .u8 (c.toNat:Int)]).length = b.size:=by rw[List.length_map,Array.length_toList]; rfl
    have hcap:=grownCap_ge w b.size 0 el
    have hmax:grownCap w b.size 0 el ≤ 9223372036854775807:=grownCap_le_maxLen w b.size 0 el hv.2
    refine does_dataW (w':=Lib.bytesWorld w el b) (v := .slice (some ⟨w.heap.size,0,none⟩) b.size (grownCap w b.size 0 el)) r hd ?_ rfl rfl rfl (by rw[Lib.bytesWorld_size]; omega) (fun j hj=>Lib.bytesWorld_at_old w el b j hj) ⟨rfl,by simp [Leaf.ids],?_⟩
    ·simp only[execOp,ho,hv.1,Sem.run_bind,hrun,Result.andThen_ok,Sem.run_pure]
    ·show Rd (In G.χ 0) _ (.sl _) _
     by_cases h0:b.data.toList = []
     ·have hz:b.size = 0:=by rw[← hlen,h0]; rfl
      rw[hz] at hmax
      rw[h0,hz]
      exact .sl0 (fun h=>by cases h) hmax
     ·rw[← hlen] at hcap hmax ⊢
      refine Rd.sl (z:=1) (fun i _=>.int .u8 ((b.data.toList.getD i 0).toNat:Int)) (by simpa using h0) (r.norm _ (Nat.le_refl _)) (by rw[Lib.bytesWorld_size]; omega) hcap hmax (fun i cs hi=>?_) (fun i j cs p hi hj=>?_) (fun i j cs p hi hj=>?_)
      ·rw[List.getElem?_map,Option.map_eq_some_iff] at hi
       obtain⟨c,_,rfl⟩:=hi
       rfl
      ·have hil:=(List.getElem?_eq_some_iff.1 hi).1
       rw[hlen] at hil
       rw[List.getElem?_map,Option.map_eq_some_iff] at hi
       obtain⟨c,_,rfl⟩:=hi
       cases j with
       | zero=>rw[Nat.zero_add,Nat.mul_one,Nat.add_zero]; exact Lib.bytesWorld_cell w el b i hil
       | succ j=>simp at hj
      ·rw[List.getElem?_map,Option.map_eq_some_iff] at hi
       obtain⟨c,hc,rfl⟩:=hi
       cases j with
       | zero =>
        simp at hj
        subst hj
        rw[List.getD_eq_getElem?_getD,hc]
        refine .int ⟨?_,?_⟩
        ·show (0:Int) ≤ _; simp
        ·show _ ≤ (255:Int)
         have:=c.toNat_lt
         simp; omega
       | succ j=>simp at hj
   ·cases h
  ·cases h
 ·cases h
theorem opCB_wr {e:Eff} {src dst:TypeId} {args:List Slot} (h:opCB P src dst args = some e):e.wr = []:=by
 unfold opCB at h
 split at h
 ·split at h
  ·split at h
   ·simp only[val,Option.some.injEq] at h; rw[← h]
   ·cases h
  ·cases h
 ·cases h
theorem opBytes0_ok {e:Eff} {src dst:TypeId} {x:Operand} (r:RepG w0 χ0 T0 s a w G) (hd:∀ k,o.dst = some k → k < a.tmps.size) (ho:o.op = .convert src dst x) (h:opBytes0 P src dst [s.arg x] = some e) (hc:e.cond) :
  o.wp P a w (After w0 χ0 T0 a.tmps.size (s.app o.dst e)) Q:=by
 unfold opBytes0 at h
 split at h
 ·rename_i A heq
  simp only[List.cons.injEq,and_true] at heq
  split at h
  ·rename_i el l hel hdu hl
   split at h
   ·rename_i m heu hm
    simp only[Option.some.injEq] at h
    subst h
    obtain⟨xs,rfl,rfl⟩:=bytesOf_eq hm
    have hE:=tyElem_of hel
    obtain⟨B,c,news,hv,n1,n2,n3,n4,n5⟩:=asList_src (z:=1) r heq hl (by simp)
    have hnews:news = xs.map (Value.int .u8):=by
     apply List.ext_getElem?
     intro i
     rw[List.getElem?_map]
     cases hx:xs[i]? with
     | none =>
      have:=List.getElem?_eq_none_iff.1 hx
      exact List.getElem?_eq_none (by rw[n1]; simpa using this)
     | some n =>
      have hi:=(List.getElem?_eq_some_iff.1 hx).1
      have hli:(xs.map (fun n=>[PV.int .u8 n]))[i]? = some [PV.int .u8 n]:=by rw[List.getElem?_map,hx]; rfl
      have hrow:=n3 i (show List PV from[PV.int .u8 n]) hli
      have hil:i < news.length:=by rw[n1]; simpa using hi
      have hch:chunk 1 i news = [news[i]]:=by
       unfold chunk
       rw[Nat.mul_one,List.drop_eq_getElem_cons hil]
       rfl
      rw[hch] at hrow
      have h1:=hrow.2.2 0 (.int .u8 n) news[i] rfl rfl
      rw[List.getElem?_eq_getElem hil]
      generalize news[i] = v at h1
      cases h1
      rfl
    have hrun:(convert src dst (a.eval x)).run P w = .ok (.string ⟨(xs.map fun n=>UInt8.ofNat n.toNat).toArray⟩) w:=by
     rw[hv]
     cases hB:B with
     | none =>
      have h0:=n4 hB
      have:xs = []:=by simpa using h0
      subst this
      exact run_convert_bytes_nil w src el hE.ty heu _ _ dst hdu
     | some ad =>
      have hlc:(loadCells ad xs.length).run P w = .ok (xs.map (Value.int .u8)).toArray w:=by
       have:=run_loadCells_list (P:=P) w ad (xs.map (Value.int .u8)) (fun j v hj=>n5 ad hB j v (by rw[hnews]; exact hj))
       simpa using this
      rw[show (List.map (fun n=>[PV.int .u8 n]) xs).length = xs.length by simp,run_convert_bytes_string w src dst el _ _ c hE.ty heu hdu,run_bytesToString w _ _ c xs hlc,foldl_push_bytes]
      simp [ByteArray.empty,ByteArray.emptyWithCapacity]
      rfl
    refine does_val r hd ?_ (mk_str ?_)
    ·simp only[execOp,ho,Sem.run_bind,hrun,Result.andThen_ok,Sem.run_pure]
    ·simpa [ByteArray.size] using hc
   ·cases h
  ·cases h
 ·rename_i hno
  exact (hno _ rfl).elim
theorem opBytes_ok {e:Eff} {src dst:TypeId} {x:Operand} (r:RepG w0 χ0 T0 s a w G) (hd:∀ k,o.dst = some k → k < a.tmps.size) (ho:o.op = .convert src dst x) (h:opBytes P src dst [s.arg x] = some e) (hc:e.cond) :
  o.wp P a w (After w0 χ0 T0 a.tmps.size (s.app o.dst e)) Q:=by
 unfold opBytes at h
 split at h
 ·rename_i heq
  injection h with h
  subst h
  exact opCB_ok r hd ho heq
 ·exact opBytes0_ok r hd ho h hc
theorem eqPV_run {t:TypeId} {p q:PV} {b:Bool} {F F':Nat → Prop} {u v:Value} (d:Nat) (hk:kindOK P t p = true) (h:eqPV p q = some b) (hu:Rd F w p u) (hv:Rd F' w q v):(Op.equalIn (d + 1) t u v).run P w = .ok b w ∧ tyAgg P t = false ∧ P.underlying t ≠ none:=by
 unfold eqPV at h
 split at h
 ·rename_i k a k' c
  split at h
  ·rename_i hkk
   subst hkk
   simp only[Option.some.injEq] at h
   subst h
   cases hu
   cases hv
   unfold kindOK at hk
   dsimp only at hk
   split at hk
   ·rename_i hty
    refine⟨?_,by unfold tyAgg; rw[hty],by rw[hty]; simp⟩
    rw[run_equalIn_int w d t k _ a c hty]
    congr 1
   ·cases hk
  ·cases h
 ·rename_i a c
  simp only[Option.some.injEq] at h
  subst h
  cases hu
  cases hv
  unfold kindOK at hk
  dsimp only at hk
  split at hk
  ·rename_i hty
   refine⟨?_,by unfold tyAgg; rw[hty],by rw[hty]; simp⟩
   rw[run_equalIn_string w d t a c hty]
   congr 1
   rw[Bool.eq_iff_iff,beq_iff_eq,decide_eq_true_eq,ByteArray.toList_eq,ByteArray.toList_eq]
   exact⟨fun h=>ByteArray.ext (Array.ext' h),fun h=>by rw[h]⟩
  ·cases hk
 ·rename_i a c
  simp only[Option.some.injEq] at h
  subst h
  cases hu
  cases hv
  unfold kindOK at hk
  dsimp only at hk
  split at hk
  ·rename_i hty
   refine⟨?_,by unfold tyAgg; rw[hty],by rw[hty]; simp⟩
   rw[run_equalIn_bool' w d t a c hty]
  ·cases hk
 ·cases h
theorem eqRow_run {F F':Nat → Prop} (d:Nat) (us vs:List Value):∀ (fs:List Field) (i:Nat) (ps qs:List PV) (b:Bool),fieldsOK P i fs ps = true → eqRow ps qs = some b →
  (∀ (j:Nat) p,ps[j]? = some p → ∃ u,us[i + j]? = some u ∧ Rd F w p u) → (∀ (j:Nat) q,qs[j]? = some q → ∃ v,vs[i + j]? = some v ∧ Rd F' w q v) → (Op.eqFields (d + 1) us.toArray vs.toArray fs).run P w = .ok b w
 | [],i,[],[],b,_,h,_,_=>by
  simp only[eqRow,Option.some.injEq] at h
  subst h
  rfl
 | [],i,[],_ :: _,b,_,h,_,_=>by cases h
 | [],i,_ :: _,qs,b,hk,_,_,_=>by cases hk
 | _ :: _,i,[],qs,b,hk,_,_,_=>by cases hk
 | _ :: _,i,_ :: _,[],b,_,h,_,_=>by cases h
 | f :: fs,i,p :: ps,q :: qs,b,hk,h,hu,hv=>by
  unfold fieldsOK at hk
  simp only[Bool.and_eq_true,decide_eq_true_eq,bne_iff_ne,ne_eq] at hk
  obtain⟨⟨⟨ho,hn⟩,hkd⟩,hrest⟩:=hk
  unfold eqRow at h
  split at h
  ·rename_i a c ha hc
   simp only[Option.some.injEq] at h
   subst h
   obtain⟨u,hu0,hru⟩:=hu 0 p rfl
   obtain⟨v,hv0,hrv⟩:=hv 0 q rfl
   rw[Nat.add_zero] at hu0 hv0
   obtain⟨e1,e2,e3⟩:=eqPV_run d hkd ha hru hrv
   have ih:=eqRow_run d us vs fs (i + 1) ps qs c hrest hc (fun j p hp=>by
    obtain⟨x,hx⟩:=hu (j + 1) p (by simpa using hp)
    exact⟨x,by rw[show i + 1 + j = i + (j + 1) by omega]; exact hx.1,hx.2⟩) (fun j p hp=>by
    obtain⟨x,hx⟩:=hv (j + 1) p (by simpa using hp)
    exact⟨x,by rw[show i + 1 + j = i + (j + 1) by omega]; exact hx.1,hx.2⟩)
   have p1:(part f.type us.toArray f.offset).run P w = .ok u w:=by rw[ho]; simp [part,run_isAgg (t:=f.type) (P:=P) e3,e2,hu0]
   have p2:(part f.type vs.toArray f.offset).run P w = .ok v w:=by rw[ho]; simp [part,run_isAgg (t:=f.type) (P:=P) e3,e2,hv0]
   unfold Op.eqFields
   rw[if_pos hn]
   simp only[Sem.run_bind,p1,p2,e1,Result.andThen_ok]
   cases a with
   | true=>simpa using ih
   | false=>simp
  ·cases h
theorem opEqS_ok {e:Eff} {b:BinOp} {t t':TypeId} {x y:Operand} (r:RepG w0 χ0 T0 s a w G) (hd:∀ k,o.dst = some k → k < a.tmps.size) (ho:o.op = .binOp b t x y t') (h:opEqS P b t [s.ev x,s.ev y] = some e) :
  o.wp P a w (After w0 χ0 T0 a.tmps.size (s.app o.dst e)) Q:=by
 have hx:=r.ev x
 have hy:=r.ev y
 unfold opEqS at h
 split at h
 ·rename_i xs ys heq
  simp only[List.cons.injEq,and_true] at heq
  rw[heq.1] at hx
  rw[heq.2] at hy
  obtain⟨us,hu,hau⟩:=hx
  obtain⟨vs,hv,hav⟩:=hy
  split at h
  ·rename_i fs hst
   split at h
   ·rename_i ps qs hps hqs
    rw[allPV_is hps] at hau
    rw[allPV_is hqs] at hav
    split at h
    ·rename_i hc
     simp only[Bool.and_eq_true,Bool.not_eq_true'] at hc
     obtain⟨⟨hf,hsh⟩,hg⟩:=hc
     have hfs:P.fieldsOf t = fs:=by simp [Program.fieldsOf,hst]
     have key:∀ r,eqRow ps qs = some r → (Op.equalIn 10000 t (.agg us.toArray) (.agg vs.toArray)).run P w = .ok r w:=fun r hr=>by
      rw[show (10000:Nat) = 9999 + 1 from rfl,run_equalIn_struct w 9999 t _ _ (by rw[hfs]; exact hst) hsh,hfs]
      refine eqRow_run (F:=In G.χ 0) (F':=In G.χ 0) 9998 us vs fs.toList 0 ps qs r hf hr (fun j p hp=>?_) (fun j p hp=>?_)
      ·obtain⟨u,h1,h2⟩:=hau.get (show (ps.map Leaf.p)[j]? = some (.p p) by rw[List.getElem?_map,hp]; rfl)
       exact⟨u,by rw[Nat.zero_add]; exact h1,h2.val⟩
      ·obtain⟨u,h1,h2⟩:=hav.get (show (qs.map Leaf.p)[j]? = some (.p p) by rw[List.getElem?_map,hp]; rfl)
       exact⟨u,by rw[Nat.zero_add]; exact h1,h2.val⟩
     have guard:(eqGuard b t x y (a.eval x) (a.eval y)).run P w = .ok () w:=by rw[hu,hv]; exact run_eqGuard_agg w b t x y _ _ hg
     split at h
     ·rename_i rr hr
      simp only[val,Option.some.injEq] at h
      subst h
      rw[hu,hv] at guard
      refine does_val r hd (v := .bool _) (by simp only[execOp,ho,Sem.run_bind,hu,hv,guard,Result.andThen_ok,run_eql_struct,key _ hr,Sem.run_pure]) ⟨rfl,by simp [Leaf.ids],Rd.bool⟩
     ·rename_i rr hr
      simp only[val,Option.some.injEq] at h
      subst h
      rw[hu,hv] at guard
      refine does_val r hd (v := .bool _) (by simp only[execOp,ho,Sem.run_bind,hu,hv,guard,Result.andThen_ok,run_neq_struct,key _ hr,Sem.run_pure]) ⟨rfl,by simp [Leaf.ids],Rd.bool⟩
     ·cases h
    ·cases h
   ·cases h
  ·cases h
 ·cases h
theorem opSh_ok {e:Eff} {b:BinOp} {t t':TypeId} {x y:Operand} (r:RepG w0 χ0 T0 s a w G) (hd:∀ k,o.dst = some k → k < a.tmps.size) (ho:o.op = .binOp b t x y t') (h:opSh b [s.ev x,s.ev y] = some e) (hc:e.cond) :
  o.wp P a w (After w0 χ0 T0 a.tmps.size (s.app o.dst e)) Q:=by
 have hx:=r.ev x
 have hy:=r.ev y
 unfold opSh at h
 split at h
 ·rename_i k m k2 n heq
  simp only[List.cons.injEq,and_true] at heq
  rw[heq.1] at hx
  rw[heq.2] at hy
  have hvx:=(rd_int hx).1
  have hvy:=(rd_int hy).1
  have fin:∀ z:Int,e.wr = [] → e.res = Slot.p (.int k z) → inK k z → (binOp b t (.int k m) (.int k2 n)).run P w = .ok (.int k z) w → (eqGuard b t x y (.int k m) (.int k2 n)).run P w = .ok () w → o.wp P a w (After w0 χ0 T0 a.tmps.size (s.app o.dst e)) Q:=fun z h1 h2 h3 h4 h5=>by
   obtain⟨c,x',wr⟩:=e
   dsimp only at h1 h2
   subst h1 h2
   exact does_val r hd (by simp [execOp,ho,hvx,hvy,h5,h4]) (mk_int h3)
  split at h
  ·simp only[valIf,Option.some.injEq] at h
   subst h
   have hc:0 ≤ n:=hc
   exact fin _ rfl rfl (wrap_inK _ _) (by simp [binOp,Op.shift,shlI,Int.not_lt.2 hc]) rfl
  ·simp only[valIf,Option.some.injEq] at h
   subst h
   have hc:0 ≤ n ∧ _:=hc
   exact fin _ rfl rfl hc.2 (by simp [binOp,Op.shift,shrI,Int.not_lt.2 hc.1]) rfl
  ·split at h
   ·rename_i hk
    subst hk
    simp only[val,Option.some.injEq] at h
    subst h
    exact fin _ rfl rfl (wrap_inK _ _) (by simp [binOp,Op.intBits,andI]) rfl
   ·cases h
  ·split at h
   ·rename_i hk
    subst hk
    simp only[val,Option.some.injEq] at h
    subst h
    exact fin _ rfl rfl (wrap_inK _ _) (by simp [binOp,Op.intBits,orI]) rfl
   ·cases h
  ·split at h
   ·rename_i hk
    subst hk
    simp only[val,Option.some.injEq] at h
    subst h
    exact fin _ rfl rfl (wrap_inK _ _) (by simp [binOp,Op.intBits,xorI]) rfl
   ·cases h
  ·split at h
   ·rename_i hk
    subst hk
    simp only[val,Option.some.injEq] at h
    subst h
    exact fin _ rfl rfl (wrap_inK _ _) (by simp [binOp,Op.intBits,anI]) rfl
   ·cases h
  ·cases h
 ·cases h
theorem opSl3_ok {e:Eff} {t:TypeId} {x hi mx:Operand} (r:RepG w0 χ0 T0 s a w G) (hd:∀ k,o.dst = some k → k < a.tmps.size) (ho:o.op = .slice t x none (some hi) (some mx))
  (h:opSl3 P t [s.ev x,s.ev hi,s.ev mx] = some e) (hc:e.cond):o.wp P a w (After w0 χ0 T0 a.tmps.size (s.app o.dst e)) Q:=nomatch h
theorem opY0_ok {e:Eff} (r:RepG w0 χ0 T0 s a w G) (hd:∀ k,o.dst = some k → k < a.tmps.size) (h:opY0 P o.op o.dst (isFree s.hp o.dst) ((Op.opds o.op).map s.arg) = some e) (hc:e.cond) :
  o.wp P a w (After w0 χ0 T0 a.tmps.size (s.app o.dst e)) Q:=by
 have hm:((Op.opds o.op).map s.arg).map (·.1) = (Op.opds o.op).map s.ev:=by rw[List.map_map]; rfl
 unfold opY0 at h
 rw[hm] at h
 split at h <;> rename_i hop
 ·rw[hop] at h; exact opBox_ok r hd hop h
 ·rw[hop] at h; exact opMakeFunc_ok r hd hop (by simpa [Op.opds] using h)
 ·rw[hop] at h; exact opMinMax_ok (mx:=false) r hd hop rfl rfl (by simpa [Op.opds] using h)
 ·rw[hop] at h; exact opMinMax_ok (mx:=true) r hd hop rfl rfl (by simpa [Op.opds] using h)
 ·rw[hop] at h; exact opMakeSlice_ok r hd hop h hc
 ·rw[hop] at h; exact opBytes_ok r hd hop h hc
 ·rw[hop] at h
  unfold opES at h
  split at h
  ·rename_i heq
   injection h with h
   subst h
   exact opEqS_ok r hd hop (by simpa [Op.opds] using heq)
  ·exact opSh_ok r hd hop (by simpa [Op.opds] using h) hc
 ·rw[hop] at h; exact opSl3_ok r hd hop (by simpa [Op.opds] using h) hc
 ·cases h
end
end Go.Lad
