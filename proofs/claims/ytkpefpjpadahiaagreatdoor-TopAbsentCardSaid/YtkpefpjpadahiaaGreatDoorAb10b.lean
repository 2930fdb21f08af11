import Derived.Test.YtkpefpjpadahiaaGreatDoorAb10
import Derived.Lib.ConvBytes
import Derived.Laws.AppendOwn
import Derived.Laws.MakeOwn
import Derived.Laws.BytesArg
import Derived.Laws.StructEq
namespace Go.Lad
set_option linter.unusedVariables false
set_option linter.unusedSimpArgs false
open Go.RowKit
def vg (P:Program) (t:TypeId) (dst:Option Nat) (free:Bool):List Slot->Option Eff
 | [.c c]=>match dst,gK P t with
  | some d,some n=>if free=true/\c.leaves.length=n then some ⟨True,.x (.loc d 0),[(d,.box t c.leaves)]⟩ else none
  | _,_=>none
 | _=>none
def nX:List Slot->Option (List Nat)
 | []=>some []
 | .c (.v (.loc o 0))::r=>(nX r).map (o :: ·)
 | _=>none
def kn (fn:Fn) (first:Nat) (caps:List Slot):Option Eff :=
 match fn,first,nX caps with
 | .func f,0,some l=>val (.x (.fn (2 * f) l))
 | .func f,n+1,some l=>if l.length=n+1 then val (.x (.fn (2 * f+1) l)) else none
 | _,_,_=>none
def lH (mx:Bool):List Slot->Option Eff
 | [.c (.v (.p (.int k a))),.c (.v (.p (.int k' b)))]=>if k=k' then val (.p (.int k (if mx then max a b else min a b))) else none
 | [.c (.v (.p (.int k a))),.c (.v (.p (.int k' b))),.c (.v (.p (.int k2 c)))]=>if k=k'/\k=k2 then val (.p (.int k (if mx then max (max a b) c else min (min a b) c))) else none
 | _=>none
def tE (P:Program) (t:TypeId) (dst:Option Nat) (free:Bool):List Slot->Option Eff:=fun _=>none
def yP:List PV->Option UInt8
 | [.int .u8 n]=>some (UInt8.ofNat n.toNat)
 | _=>none
def bytesOf:List (List PV)->Option (List UInt8)
 | []=>some []
 | r::l=>match yP r,bytesOf l with | some b,some m=>some (b::m) | _,_=>none
def pd (P:Program) (src dst:TypeId):List Arg->Option Eff
 | [a]=>match dy P src,P.underlying dst,jC a with
  | some (e,1),some .string,some l=>match P.underlying e,bytesOf l with
   | some (.int .u8),some m=>some ⟨m.length<=9223372036854775807,.p (.str ⟨m.toArray⟩),[]⟩
   | _,_=>none
  | _,_,_=>none
 | _=>none
def FG:PV->PV->Option Bool
 | .int k a,.int k' b=>if k=k' then some (decide (a=b)) else none
 | .str a,.str b=>some (decide (a=b))
 | .bool a,.bool b=>some (a == b)
 | _,_=>none
def kK:List PV->List PV->Option Bool
 | [],[]=>some true
 | p::ps,q::qs=>match FG p q,kK ps qs with | some a,some b=>some (a && b) | _,_=>none
 | _,_=>none
def sG (P:Program) (t:TypeId):PV->Bool
 | .int _ _=>match P.underlying t with | some (.int _)=>true | _=>false
 | .str _=>match P.underlying t with | some .string=>true | _=>false
 | .bool _=>match P.underlying t with | some .bool=>true | _=>false
 | _=>false
def rn (P:Program):Nat->List Field->List PV->Bool
 | _,[],[]=>true
 | i,f::fs,p::ps=>decide (f.offset=i) && (f.name != "_") && sG P f.type p && rn P (i+1) fs ps
 | _,_,_=>false
def nY (P:Program):Nat->List Field->List PV->Bool
 | _,[],[]=>true
 | _,[],_::_=>false
 | i,f::fs,ps=>decide (f.offset=i) && (f.name != "_") && (match P.underlying f.type with
  | some (.struct gs)=>decide (gs.size<=ps.length) && rn P 0 gs.toList (ps.take gs.size) && !P.stoodInHeld f.type && (match P.info? f.type with | some inf=>decide (inf.size=gs.size) | none=>false) && nY P (i+gs.size) fs (ps.drop gs.size)
  | _=>match ps with
   | p::r=>sG P f.type p && nY P (i+1) fs r
   | []=>false)
def oN (P:Program) (b:BinOp) (t:TypeId):List Slot->Option Eff
 | [.c (.g xs),.c (.g ys)]=>match P.underlying t with
  | some (.struct fs)=>match dZ xs,dZ ys with
   | some ps,some qs=>if (nY P 0 fs.toList ps && !P.stoodInHeld t && !P.eqGuardType P.depth t)=true then
     match b,kK ps qs with
     | .eql,some r=>val (.p (.bool r))
     | .neq,some r=>val (.p (.bool (!r)))
     | _,_=>none
    else none
   | _,_=>none
  | _=>none
 | _=>none
def OE:BinOp->Bool
 | .and | .or | .xor | .andNot | .shl | .shr=>true
 | _=>false
def Kr (k:IntKind) (a b:Int):Int:=k.wrap ((BitVec.ofInt k.bits a &&& BitVec.ofInt k.bits b).toNat:Int)
def orI (k:IntKind) (a b:Int):Int:=k.wrap ((BitVec.ofInt k.bits a ||| BitVec.ofInt k.bits b).toNat:Int)
def Ks (k:IntKind) (a b:Int):Int:=k.wrap ((BitVec.ofInt k.bits a ^^^ BitVec.ofInt k.bits b).toNat:Int)
def anI (k:IntKind) (a b:Int):Int:=k.wrap ((BitVec.ofInt k.bits a &&& ~~~BitVec.ofInt k.bits b).toNat:Int)
def Kt (k:IntKind) (a n:Int):Int:=k.wrap (a * 2 ^ (min n.toNat k.bits))
def Az (k:IntKind) (a n:Int):Int:=a.fdiv (2 ^ (min n.toNat k.bits))
def CJ (b:BinOp):List Slot->Option Eff
 | [.c (.v (.p (.int k a))),.c (.v (.p (.int k2 n)))]=>match b with
  | .shl=>dS (0<=n) (.p (.int k (Kt k a n)))
  | .shr=>dS (0<=n/\inK k (Az k a n)) (.p (.int k (Az k a n)))
  | .and=>if k=k2 then val (.p (.int k (Kr k a n))) else none
  | .or=>if k=k2 then val (.p (.int k (orI k a n))) else none
  | .xor=>if k=k2 then val (.p (.int k (Ks k a n))) else none
  | .andNot=>if k=k2 then val (.p (.int k (anI k a n))) else none
  | _=>none
 | _=>none
def isC:Operand->Bool
 | .const _=>true
 | _=>false
def AA (P:Program) (b:BinOp) (t:TypeId) (c:Bool):List Slot->Option Eff
 | [.c (.v (.p (.oth .nilIface))),.c (.v (.p (.oth .nilIface)))]=>match c,b,P.underlying t with
  | true,.eql,some (.interface _)=>val (.p (.bool true))
  | true,.neq,some (.interface _)=>val (.p (.bool false))
  | _,_,_=>none
 | _=>none
def xb (P:Program) (b:BinOp) (t:TypeId) (c:Bool) (l:List Slot):Option Eff:=match oN P b t l with | some e=>some e | none=>match CJ b l with | some e=>some e | none=>AA P b t c l
def xD (P:Program) (t:TypeId):List Slot->Option Eff
 | [.c (.v (.p (.sl l))),.c (.v (.p (.int _ j))),.c (.v (.p (.int _ m)))]=>match dy P t with
  | some (_,z)=>dS (j=l.length/\m=l.length/\∀ x∈l,x.length=z) (.p (.sl l))
  | none=>none
 | _=>none
def CK (P:Program) (src dst:TypeId) (args:List Slot):Option Eff :=
 match P.underlying src,P.underlying dst with
 | some .string,some (.slice el)=>match P.underlying el with
  | some (.int .u8)=>match args with
   | [.c (.v (.p (.str s)))]=>val (.p (.sl (s.data.toList.map fun b=>[PV.int .u8 (b.toNat:Int)])))
   | _=>none
  | _=>none
 | _,_=>none
def lC (P:Program) (src dst:TypeId) (args:List Arg):Option Eff:=match CK P src dst (args.map (·.1)) with | some e=>some e | none=>pd P src dst args
def gQ (P:Program) (op:Op) (dst:Option Nat) (free:Bool) (args:List Arg):Option Eff :=
 match op with
 | .box t _=>vg P t dst free (args.map (·.1))
 | .makeFunc fn first _=>kn fn first.size (args.map (·.1))
 | .call { callee := .builtin .min,.. }=>lH false (args.map (·.1))
 | .call { callee := .builtin .max,.. }=>lH true (args.map (·.1))
 | .makeSlice t _ _=>tE P t dst free (args.map (·.1))
 | .convert s d _=>lC P s d args
 | .binOp b t _ y _=>xb P b t (isC y) (args.map (·.1))
 | .slice t _ none (some _) (some _)=>xD P t (args.map (·.1))
 | _=>none
section
variable {P:Program} {w0:World} {χ0:Col} {T0:Ctx} {s:St} {a:Act} {w:World} {G:Gh} {o:Oper} {Q:Exit->Act->World->Prop}
theorem Hz {e:Eff} {t:TypeId} {x:Operand} (r:cI w0 χ0 T0 s a w G) (hd:∀ k,o.dst=some k->k<a.tmps.size) (ho:o.op = .box t x) (h:vg P t o.dst (aY s.hp o.dst) [s.ev x]=some e) :
  o.wp P a w (bG w0 χ0 T0 a.tmps.size (s.app o.dst e)) Q:=by
 have hx:=r.ev x;unfold vg at h;split at h
 ·rename_i c heq;simp only[List.cons.injEq,and_true] at heq;rw[heq] at hx;split at h
  ·rename_i d n hdst hn;split at h
   ·rename_i hc;obtain⟨hf,hl⟩:=hc;simp only[Option.some.injEq] at h;subst h;rw[hdst] at hf;have hf':s.hp d=none/\d<1000000:=by simpa [aY] using hf
    have hcells:=CRd.cells hx;refine o6 r hd hf' (x := .cells (a.eval x).cells t) (v:=ptr w.heap.size 0) .nilFunc ?_ ⟨rfl,fun j hj=>?_,?_⟩ ?_
    ·simp [execOp,ho,Instr.box,newVar,newRow,ptr]
    ·simp [aJ.ids] at hj; subst hj; rw[bP]; simp
    ·show ptr w.heap.size 0=ptr (Lad.upd G.bl d w.heap.size d) 0;rw[bP]
    ·refine⟨(a.eval x).cells.toList,?_,?_,hcells.mono fun y v hy=>hy.ext (Ext.new r.norm hf' _ .nilFunc _)⟩
     ·show Blk _ (Lad.upd G.bl d w.heap.size d) t _;rw[bP]; simpa using Blk.new w t (a.eval x).cells
     ·show (if (Lad.upd G.bl d w.heap.size d)=w.heap.size then d+2 else _)=d+2;rw[bP,if_pos rfl]
   ·cases h
  ·cases h
 ·cases h
theorem sH:∀ (xs:List Operand) (l:List Nat),cI w0 χ0 T0 s a w G->nX (xs.map s.ev)=some l->(∀ i∈l,s.hp i≠none)/\xs.map a.eval=l.map fun o=>ptr (G.bl o) 0
 | [],l,r,h=>by simp [nX] at h; subst h; simp
 | x::xs,l,r,h=>by
  have hx:=r.ev x;rw[List.map_cons] at h;unfold nX at h;split at h
  ·rename_i heq; cases heq
  ·rename_i ob rest heq;simp only[List.cons.injEq] at heq;obtain⟨e1,rfl⟩:=heq;rw[e1] at hx;rw[Option.map_eq_some_iff] at h;obtain⟨l',hl',rfl⟩:=h;obtain⟨h1,h2⟩:=sH xs l' r hl';refine⟨fun i hi=>?_,?_⟩
   ·rcases List.mem_cons.1 hi with rfl | hi
    ·exact hx.ids _ (by simp [aJ.ids])
    ·exact h1 i hi
   ·rw[List.map_cons,List.map_cons,h2,show a.eval x=ptr (G.bl ob) 0 from LRd.val hx]
  ·cases h
theorem xc {e:Eff} {fn:Fn} {first caps:Array Operand} (r:cI w0 χ0 T0 s a w G) (hd:∀ k,o.dst=some k->k<a.tmps.size) (ho:o.op = .makeFunc fn first caps) (h:kn fn first.size ((first.toList++caps.toList).map s.ev)=some e) :
  o.wp P a w (bG w0 χ0 T0 a.tmps.size (s.app o.dst e)) Q:=by
 unfold kn at h;split at h
 ·rename_i f l hfs hl;have hfirst:first = #[]:=Array.eq_empty_of_size_eq_zero hfs
  subst hfirst;simp only[val,Option.some.injEq] at h;subst h;have hl:nX (caps.toList.map s.ev)=some l:=by simpa using hl
  obtain⟨h1,h2⟩:=sH _ l r hl;refine cf r hd (v := .func (.func f) #[] (caps.map a.eval)) ?_ ⟨rfl,h1,?_⟩
  ·simp [execOp,ho,Instr.makeFunc]
  ·show Value.func (.func f) #[] (caps.map a.eval)=fnV (2 * f) (l.map fun o=>ptr (G.bl o) 0);rw[Ae,← h2];congr 1;apply Array.ext'; simp
 ·rename_i f n l hfs hl;split at h
  ·rename_i hlen;simp only[val,Option.some.injEq] at h;subst h;obtain⟨h1,h2⟩:=sH _ l r (show nX (((first.toList++caps.toList)).map s.ev)=some l from hl);have hcl:(first.toList++caps.toList).length=l.length:=by
    have:=congrArg List.length h2
    simpa using this
   have hc0:caps = #[]:=by
    rw[List.length_append,Array.length_toList,Array.length_toList,hfs,hlen] at hcl;exact Array.eq_empty_of_size_eq_zero (by omega)
   subst hc0;refine cf r hd (v := .func (.func f) (first.map a.eval) #[]) ?_ ⟨rfl,h1,?_⟩
   ·simp [execOp,ho,Instr.makeFunc]
   ·show Value.func (.func f) (first.map a.eval) #[]=fnV (2 * f+1) (l.map fun o=>ptr (G.bl o) 0);rw[Ki,← h2];congr 1;apply Array.ext'; simp
  ·cases h
 ·cases h
theorem Ku {e:Eff} {b:BinOp} {t t':TypeId} {x y:Operand} (r:cI w0 χ0 T0 s a w G) (hd:∀ k,o.dst=some k->k<a.tmps.size) (ho:o.op = .binOp b t x y t') (h:AA P b t (isC y) [s.ev x,s.ev y]=some e) :
  o.wp P a w (bG w0 χ0 T0 a.tmps.size (s.app o.dst e)) Q:=by
 have hx:=r.ev x;have hy:=r.ev y;cases hcc:isC y with
 | false=>rw[hcc] at h; unfold AA at h; split at h <;> (try split at h) <;> simp_all
 | true =>
  rw[hcc] at h;unfold AA at h;split at h
  ·rename_i heq;simp only[List.cons.injEq,and_true] at heq;rw[heq.1] at hx;rw[heq.2] at hy;have hv:a.eval x = .nilIface:=uN hx;have hz:a.eval y = .nilIface:=uN hy;have hg:(eqGuard b t x y .nilIface .nilIface).run P w = .ok () w:=by
    cases y with
    | const v=>cases b <;> cases x <;> rfl
    | tmp i=>cases hcc
    | global i=>cases hcc
    | func i=>cases hcc
   split at h
   ·rename_i hu;simp only[val,Option.some.injEq] at h;subst h;exact cf r hd (v := .bool true) (by simp [execOp,ho,hv,hz,hg,binOp,Ak hu]) (iZ _)
   ·rename_i hu;simp only[val,Option.some.injEq] at h;subst h;exact cf r hd (v := .bool false) (by simp [execOp,ho,hv,hz,hg,binOp,Ak hu]) (iZ _)
   ·cases h
  ·cases h
theorem tF {e : Eff} {mx : Bool} {c : Call} {b : Builtin} (r : cI w0 χ0 T0 s a w G) (hd : ∀ k, o.dst=some k->k<a.tmps.size) (ho : o.op = .call c) (hc : c.callee = .builtin b) (hb : b=if mx then .max else .min) (h : lH mx (c.args.toList.map s.ev)=some e) :
    o.wp P a w (bG w0 χ0 T0 a.tmps.size (s.app o.dst e)) Q := by
  have hargs : ∀ x y : Operand, c.args.toList=[x, y]->c.args = #[x, y] := fun x y h => by rw [← Array.toArray_toList (xs := c.args), h]
  unfold lH at h;split at h
  · rename_i k m k' n heq
    obtain ⟨x, y, hxy⟩ : ∃ x y, c.args.toList=[x, y] := by
      cases hl : c.args.toList with
      | nil => rw [hl] at heq; simp at heq
      | cons x l => cases l with
        | nil => rw [hl] at heq; simp at heq
        | cons y l => cases l with
          | nil => exact ⟨x, y, rfl⟩
          | cons z l => rw [hl] at heq; simp at heq
    rw [hxy] at heq;simp only [List.map_cons, List.map_nil, List.cons.injEq, and_true] at heq;have hx := r.ev x;have hy := r.ev y;rw [heq.1] at hx;rw [heq.2] at hy;split at h
    · rename_i hk
      subst hk;simp only [val, Option.some.injEq] at h;subst h;obtain ⟨v1, w1⟩ := fU hx;obtain ⟨v2, w2⟩ := fU hy;refine cf r hd (v := .int k (if mx then max m n else min m n)) ?_ (gZ ?_)
      · cases mx with
        | true =>
          simp only [execOp, ho, resolve, hc, hb, invoke, builtin, Sem.run_bind, Sem.run_pure, Result.andThen_ok, hargs x y hxy, List.map_toArray, List.map_cons, List.map_nil, Builtin.max_, List.foldlM, v1, v2, Builtin.max2, if_true];simp only [Result.ok.injEq, Next.value.injEq, Value.int.injEq, true_and, and_true, gt_iff_lt];omega
        | false =>
          simp only [execOp, ho, resolve, hc, hb, invoke, builtin, Sem.run_bind, Sem.run_pure, Result.andThen_ok, hargs x y hxy, List.map_toArray, List.map_cons, List.map_nil, Builtin.min_, List.foldlM, v1, v2, Builtin.min2, Bool.false_eq_true, if_false];simp only [Result.ok.injEq, Next.value.injEq, Value.int.injEq, true_and, and_true];omega
      · cases mx with
        | true => simp only [if_true]; have : max m n=m\/max m n=n := by omega
                  rcases this with h | h <;> rw [h] <;> assumption
        | false => simp only [Bool.false_eq_true, if_false]; have : min m n=m\/min m n=n := by omega
                   rcases this with h | h <;> rw [h] <;> assumption
    · cases h
  · rename_i k m k' n k2 q heq
    obtain ⟨x, y, z, hxy⟩ : ∃ x y z, c.args.toList=[x, y, z] := by
      cases hl : c.args.toList with
      | nil => rw [hl] at heq; simp at heq
      | cons x l => cases l with
        | nil => rw [hl] at heq; simp at heq
        | cons y l => cases l with
          | nil => rw [hl] at heq; simp at heq
          | cons z l => cases l with
            | nil => exact ⟨x, y, z, rfl⟩
            | cons z l => rw [hl] at heq; simp at heq
    have hargs : c.args = #[x, y, z] := by rw [← Array.toArray_toList (xs := c.args), hxy]
    rw [hxy] at heq;simp only [List.map_cons, List.map_nil, List.cons.injEq, and_true] at heq;have hx := r.ev x;have hy := r.ev y;have hz := r.ev z;rw [heq.1] at hx;rw [heq.2.1] at hy;rw [heq.2.2] at hz;split at h
    · rename_i hk
      obtain ⟨rfl, rfl⟩ := hk;simp only [val, Option.some.injEq] at h;subst h;obtain ⟨v1, w1⟩ := fU hx;obtain ⟨v2, w2⟩ := fU hy;obtain ⟨v3, w3⟩ := fU hz;refine cf r hd (v := .int k (if mx then max (max m n) q else min (min m n) q)) ?_ (gZ ?_)
      · cases mx with
        | true =>
          simp only [execOp, ho, resolve, hc, hb, invoke, builtin, Sem.run_bind, Sem.run_pure, Result.andThen_ok, hargs, List.map_toArray, List.map_cons, List.map_nil, Builtin.max_, List.foldlM, v1, v2, v3, Builtin.max2, if_true];simp only [Result.ok.injEq, Next.value.injEq, Value.int.injEq, true_and, and_true, gt_iff_lt]
          (repeat' split) <;> omega
        | false =>
          simp only [execOp, ho, resolve, hc, hb, invoke, builtin, Sem.run_bind, Sem.run_pure, Result.andThen_ok, hargs, List.map_toArray, List.map_cons, List.map_nil, Builtin.min_, List.foldlM, v1, v2, v3, Builtin.min2, Bool.false_eq_true, if_false];simp only [Result.ok.injEq, Next.value.injEq, Value.int.injEq, true_and, and_true]
          (repeat' split) <;> omega
      · cases mx with
        | true => simp only [if_true]; have : max (max m n) q=m\/max (max m n) q=n\/max (max m n) q=q := by omega
                  rcases this with h | h | h <;> rw [h] <;> assumption
        | false => simp only [Bool.false_eq_true, if_false]; have : min (min m n) q=m\/min (min m n) q=n\/min (min m n) q=q := by omega
                   rcases this with h | h | h <;> rw [h] <;> assumption
    · cases h
  · cases h
theorem vh {e:Eff} {t:TypeId} {x y:Operand} (r:cI w0 χ0 T0 s a w G) (hd:∀ k,o.dst=some k->k<a.tmps.size) (ho:o.op = .makeSlice t x y) (h:tE P t o.dst (aY s.hp o.dst) [s.ev x,s.ev y]=some e) (hc:e.cond) :
  o.wp P a w (bG w0 χ0 T0 a.tmps.size (s.app o.dst e)) Q:=nomatch h
theorem vi:∀ {l:List (List PV)} {m:List UInt8},bytesOf l=some m->∃ xs:List Int,l=xs.map (fun n=>[PV.int .u8 n])/\m=xs.map fun n=>UInt8.ofNat n.toNat
 | [],m,h=>by simp [bytesOf] at h; subst h; exact⟨[],rfl,rfl⟩
 | r::l,m,h=>by
  unfold bytesOf at h;split at h
  ·rename_i b m' h1 h2;injection h with h
   subst h;obtain⟨xs,rfl,rfl⟩:=vi h2;unfold yP at h1;split at h1
   ·injection h1 with h1
    rename_i n;exact⟨n::xs,rfl,by rw[List.map_cons,h1]⟩
   ·cases h1
  ·cases h
theorem CL {w':World} {v:Value} {y:aJ} {c:Prop} (r:cI w0 χ0 T0 s a w G) (hd:∀ k,o.dst=some k->k<a.tmps.size)
  (hrun:(execOp a.eval o).run P w = .ok (.value v) w') (h1:w'.os=w.os) (h2:w'.tape=w.tape) (h3:w'.output=w.output) (h4:w.heap.size<=w'.heap.size) (hb:∀ b,b<w.heap.size->w'.heap[b]?=w.heap[b]?) (hy:LRd G s.hp w' y v):o.wp P a w (bG w0 χ0 T0 a.tmps.size (s.app o.dst ⟨c,.x y,[]⟩)) Q:=by
 unfold Oper.wp;rw[hrun];refine⟨Act.ji _ _ _,G,r.upd (T:=[]) (w':=w') (G':=G) (hp':=s.hp) hd ⟨fun b h hl=>⟨h,hb b hl⟩,fun _ _=>rfl,fun _ _=>rfl,fun _ h=>h⟩ ⟨h1,h2,h3,h4,fun _ _ _=>rfl,fun b hl _=>hb b hl⟩ (by simp) (fun b h=>r.norm b (Nat.le_trans h4 h)) (fun i h hi=>.inl ⟨hi,by simp⟩) hy⟩
theorem Kv {e:Eff} {src dst:TypeId} {x:Operand} (r:cI w0 χ0 T0 s a w G) (hd:∀ k,o.dst=some k->k<a.tmps.size) (ho:o.op = .convert src dst x)
  (h:CK P src dst [s.ev x]=some e):o.wp P a w (bG w0 χ0 T0 a.tmps.size (s.app o.dst e)) Q:=by
 unfold CK at h;split at h
 ·rename_i el hsu hdu;split at h
  ·rename_i heu;split at h
   ·rename_i b heq;simp only[List.cons.injEq,and_true] at heq;have hx:=r.ev x;rw[heq] at hx;have hval:Rd (In G.χ 0) w (.str b) (a.eval x):=(hx:LRd G s.hp w _ _).val;simp only[val,Option.some.injEq] at h;subst h;have hv:a.eval x = .string b/\b.size<=9223372036854775807:=by
     generalize a.eval x=v at hval;cases hval with
     | str h=>exact⟨rfl,h⟩
    have hrun:=Lib.run_convert_string_bytes w src dst el b hsu hdu heu;have hlen:(b.data.toList.map fun c=>[PV.int .u8 (c.toNat:Int)]).length=b.size:=by rw[List.length_map,Array.length_toList]; rfl
    have hcap:=grownCap_ge w b.size 0 el;have hmax:grownCap w b.size 0 el<=9223372036854775807:=grownCap_le_maxLen w b.size 0 el hv.2;refine CL (w':=Lib.bytesWorld w el b) (v := .slice (some ⟨w.heap.size,0,none⟩) b.size (grownCap w b.size 0 el)) r hd ?_ rfl rfl rfl (by rw[Lib.bytesWorld_size]; omega) (fun j hj=>Lib.bytesWorld_at_old w el b j hj) ⟨rfl,by simp [aJ.ids],?_⟩
    ·simp only[execOp,ho,hv.1,Sem.run_bind,hrun,Result.andThen_ok,Sem.run_pure]
    ·show Rd (In G.χ 0) _ (.sl _) _;by_cases h0:b.data.toList=[]
     ·have hz:b.size=0:=by rw[← hlen,h0]; rfl
      rw[hz] at hmax;rw[h0,hz];exact .sl0 (fun h=>by cases h) hmax
     ·rw[← hlen] at hcap hmax ⊢;refine Rd.sl (z:=1) (fun i _=>.int .u8 ((b.data.toList.getD i 0).toNat:Int)) (by simpa using h0) (r.norm _ (Nat.le_refl _)) (by rw[Lib.bytesWorld_size]; omega) hcap hmax (fun i cs hi=>?_) (fun i j cs p hi hj=>?_) (fun i j cs p hi hj=>?_)
      ·rw[List.getElem?_map,Option.map_eq_some_iff] at hi;obtain⟨c,_,rfl⟩:=hi;rfl
      ·have hil:=(List.getElem?_eq_some_iff.1 hi).1;rw[hlen] at hil;rw[List.getElem?_map,Option.map_eq_some_iff] at hi;obtain⟨c,_,rfl⟩:=hi;cases j with
       | zero=>rw[Nat.zero_add,Nat.mul_one,Nat.add_zero]; exact Lib.bytesWorld_cell w el b i hil
       | succ j=>simp at hj
      ·rw[List.getElem?_map,Option.map_eq_some_iff] at hi;obtain⟨c,hc,rfl⟩:=hi;cases j with
       | zero =>
        simp at hj;subst hj;rw[List.getD_eq_getElem?_getD,hc];refine .int ⟨?_,?_⟩
        ·show (0:Int)<=_; simp
        ·show _<=(255:Int);have:=c.toNat_lt;simp; omega
       | succ j=>simp at hj
   ·cases h
  ·cases h
 ·cases h
theorem Kw {e:Eff} {src dst:TypeId} {args:List Slot} (h:CK P src dst args=some e):e.wr=[]:=by
 unfold CK at h;split at h
 ·split at h
  ·split at h
   ·simp only[val,Option.some.injEq] at h; rw[← h]
   ·cases h
  ·cases h
 ·cases h
theorem AB {e:Eff} {src dst:TypeId} {x:Operand} (r:cI w0 χ0 T0 s a w G) (hd:∀ k,o.dst=some k->k<a.tmps.size) (ho:o.op = .convert src dst x) (h:pd P src dst [s.arg x]=some e) (hc:e.cond) :
  o.wp P a w (bG w0 χ0 T0 a.tmps.size (s.app o.dst e)) Q:=by
 unfold pd at h;split at h
 ·rename_i A heq;simp only[List.cons.injEq,and_true] at heq;split at h
  ·rename_i el l hel hdu hl;split at h
   ·rename_i m heu hm;simp only[Option.some.injEq] at h;subst h;obtain⟨xs,rfl,rfl⟩:=vi hm;have hE:=eV hel;obtain⟨B,c,news,hv,n1,n2,n3,n4,n5⟩:=my (z:=1) r heq hl (by simp);have hnews:news=xs.map (Value.int .u8):=by
     apply List.ext_getElem?;intro i;rw[List.getElem?_map];cases hx:xs[i]? with
     | none =>
      have:=List.getElem?_eq_none_iff.1 hx;exact List.getElem?_eq_none (by rw[n1]; simpa using this)
     | some n =>
      have hi:=(List.getElem?_eq_some_iff.1 hx).1;have hli:(xs.map (fun n=>[PV.int .u8 n]))[i]?=some [PV.int .u8 n]:=by rw[List.getElem?_map,hx]; rfl
      have hrow:=n3 i (show List PV from[PV.int .u8 n]) hli;have hil:i<news.length:=by rw[n1]; simpa using hi
      have hch:chunk 1 i news=[news[i]]:=by
       unfold chunk;rw[Nat.mul_one,List.drop_eq_getElem_cons hil];rfl
      rw[hch] at hrow;have h1:=hrow.2.2 0 (.int .u8 n) news[i] rfl rfl;rw[List.getElem?_eq_getElem hil];generalize news[i]=v at h1;cases h1;rfl
    have hrun:(convert src dst (a.eval x)).run P w = .ok (.string ⟨(xs.map fun n=>UInt8.ofNat n.toNat).toArray⟩) w:=by
     rw[hv];cases hB:B with
     | none =>
      have h0:=n4 hB;have:xs=[]:=by simpa using h0
      subst this;exact run_convert_bytes_nil w src el hE.ty heu _ _ dst hdu
     | some ad =>
      have hlc:(loadCells ad xs.length).run P w = .ok (xs.map (Value.int .u8)).toArray w:=by
       have:=run_loadCells_list (P:=P) w ad (xs.map (Value.int .u8)) (fun j v hj=>n5 ad hB j v (by rw[hnews]; exact hj))
       simpa using this
      rw[show (List.map (fun n=>[PV.int .u8 n]) xs).length=xs.length by simp,run_convert_bytes_string w src dst el _ _ c hE.ty heu hdu,run_bytesToString w _ _ c xs hlc,foldl_push_bytes];simp [ByteArray.empty,ByteArray.emptyWithCapacity];rfl
    refine cf r hd ?_ (yH ?_)
    ·simp only[execOp,ho,Sem.run_bind,hrun,Result.andThen_ok,Sem.run_pure]
    ·simpa [ByteArray.size] using hc
   ·cases h
  ·cases h
 ·rename_i hno;exact (hno _ rfl).elim
theorem CM {e:Eff} {src dst:TypeId} {x:Operand} (r:cI w0 χ0 T0 s a w G) (hd:∀ k,o.dst=some k->k<a.tmps.size) (ho:o.op = .convert src dst x) (h:lC P src dst [s.arg x]=some e) (hc:e.cond) :
  o.wp P a w (bG w0 χ0 T0 a.tmps.size (s.app o.dst e)) Q:=by
 unfold lC at h;split at h
 ·rename_i heq;injection h with h
  subst h;exact Kv r hd ho heq
 ·exact AB r hd ho h hc
theorem AD {t:TypeId} {p q:PV} {b:Bool} {F F':Nat->Prop} {u v:Value} (d:Nat) (hk:sG P t p=true) (h:FG p q=some b) (hu:Rd F w p u) (hv:Rd F' w q v):(Op.equalIn (d+1) t u v).run P w = .ok b w/\fW P t=false/\P.underlying t≠none:=by
 unfold FG at h;split at h
 ·rename_i k a k' c;split at h
  ·rename_i hkk;subst hkk;simp only[Option.some.injEq] at h;subst h;cases hu;cases hv;unfold sG at hk;dsimp only at hk;split at hk
   ·rename_i hty;refine⟨?_,by unfold fW; rw[hty],by rw[hty]; simp⟩;rw[run_equalIn_int w d t k _ a c hty];congr 1
   ·cases hk
  ·cases h
 ·rename_i a c;simp only[Option.some.injEq] at h;subst h;cases hu;cases hv;unfold sG at hk;dsimp only at hk;split at hk
  ·rename_i hty;refine⟨?_,by unfold fW; rw[hty],by rw[hty]; simp⟩;rw[run_equalIn_string w d t a c hty];congr 1;rw[Bool.eq_iff_iff,beq_iff_eq,decide_eq_true_eq,ByteArray.toList_eq,ByteArray.toList_eq];exact⟨fun h=>ByteArray.ext (Array.ext' h),fun h=>by rw[h]⟩
  ·cases hk
 ·rename_i a c;simp only[Option.some.injEq] at h;subst h;cases hu;cases hv;unfold sG at hk;dsimp only at hk;split at hk
  ·rename_i hty;refine⟨?_,by unfold fW; rw[hty],by rw[hty]; simp⟩;rw[run_equalIn_bool' w d t a c hty]
  ·cases hk
 ·cases h
theorem xE {F F':Nat->Prop} (d:Nat) (us vs:List Value):∀ (fs:List Field) (i:Nat) (ps qs:List PV) (b:Bool),rn P i fs ps=true->kK ps qs=some b ->
  (∀ (j:Nat) p,ps[j]?=some p->∃ u,us[i+j]?=some u/\Rd F w p u)->(∀ (j:Nat) q,qs[j]?=some q->∃ v,vs[i+j]?=some v/\Rd F' w q v)->(Op.eqFields (d+1) us.toArray vs.toArray fs).run P w = .ok b w
 | [],i,[],[],b,_,h,_,_=>by
  simp only[kK,Option.some.injEq] at h;subst h;rfl
 | [],i,[],_::_,b,_,h,_,_=>by cases h
 | [],i,_::_,qs,b,hk,_,_,_=>by cases hk
 | _::_,i,[],qs,b,hk,_,_,_=>by cases hk
 | _::_,i,_::_,[],b,_,h,_,_=>by cases h
 | f::fs,i,p::ps,q::qs,b,hk,h,hu,hv=>by
  unfold rn at hk;simp only[Bool.and_eq_true,decide_eq_true_eq,bne_iff_ne,ne_eq] at hk;obtain⟨⟨⟨ho,hn⟩,hkd⟩,hrest⟩:=hk;unfold kK at h;split at h
  ·rename_i a c ha hc;simp only[Option.some.injEq] at h;subst h;obtain⟨u,hu0,hru⟩:=hu 0 p rfl;obtain⟨v,hv0,hrv⟩:=hv 0 q rfl;rw[Nat.add_zero] at hu0 hv0;obtain⟨e1,e2,e3⟩:=AD d hkd ha hru hrv;have ih:=xE d us vs fs (i+1) ps qs c hrest hc (fun j p hp=>by
    obtain⟨x,hx⟩:=hu (j+1) p (by simpa using hp);exact⟨x,by rw[show i+1+j=i+(j+1) by omega]; exact hx.1,hx.2⟩) (fun j p hp=>by
    obtain⟨x,hx⟩:=hv (j+1) p (by simpa using hp);exact⟨x,by rw[show i+1+j=i+(j+1) by omega]; exact hx.1,hx.2⟩)
   have p1:(part f.type us.toArray f.offset).run P w = .ok u w:=by rw[ho]; simp [part,gG (t:=f.type) (P:=P) e3,e2,hu0]
   have p2:(part f.type vs.toArray f.offset).run P w = .ok v w:=by rw[ho]; simp [part,gG (t:=f.type) (P:=P) e3,e2,hv0]
   unfold Op.eqFields;rw[if_pos hn];simp only[Sem.run_bind,p1,p2,e1,Result.andThen_ok];cases a with
   | true=>simpa using ih
   | false=>simp
  ·cases h
theorem tG:∀ (n:Nat) (ps qs:List PV) (b:Bool),n<=ps.length->kK ps qs=some b->∃ a c,kK (ps.take n) (qs.take n)=some a/\kK (ps.drop n) (qs.drop n)=some c/\b=(a && c)
 | 0,ps,qs,b,_,h=>⟨true,b,by simp [kK],by simpa using h,by simp⟩
 | n+1,[],qs,b,hn,_=>by simp at hn
 | n+1,p::ps,[],b,_,h=>by cases h
 | n+1,p::ps,q::qs,b,hn,h=>by
  unfold kK at h;split at h
  ·rename_i x y hx hy;simp only[Option.some.injEq] at h;subst h;obtain⟨a,c,h1,h2,rfl⟩:=tG n ps qs y (by simpa using hn) hy;refine⟨x && a,c,?_,by simpa using h2,by rw[Bool.and_assoc]⟩;rw[List.take_succ_cons,List.take_succ_cons];unfold kK;rw[hx,h1]
  ·cases h
theorem qI {F F':Nat->Prop} (d:Nat) (us vs:List Value):∀ (fs:List Field) (i:Nat) (ps qs:List PV) (b:Bool),nY P i fs ps=true->kK ps qs=some b ->
  (∀ (j:Nat) p,ps[j]?=some p->∃ u,us[i+j]?=some u/\Rd F w p u)->(∀ (j:Nat) q,qs[j]?=some q->∃ v,vs[i+j]?=some v/\Rd F' w q v)->(Op.eqFields (d+2) us.toArray vs.toArray fs).run P w = .ok b w
 | [],i,[],[],b,_,h,_,_=>by
  simp only[kK,Option.some.injEq] at h;subst h;rfl
 | [],i,[],_::_,b,_,h,_,_=>by cases h
 | [],i,_::_,qs,b,hk,_,_,_=>by cases hk
 | f::fs,i,ps,qs,b,hk,h,hu,hv=>by
  unfold nY at hk;simp only[Bool.and_eq_true,decide_eq_true_eq,bne_iff_ne,ne_eq] at hk;obtain⟨⟨ho,hn⟩,hk⟩:=hk;split at hk
  ·rename_i gs hst;simp only[Bool.and_eq_true,decide_eq_true_eq,Bool.not_eq_true'] at hk;obtain⟨⟨⟨⟨hlen,hf⟩,hsh⟩,hsz⟩,hrest⟩:=hk;split at hsz
   ·rename_i inf hinf;rw[decide_eq_true_eq] at hsz;obtain⟨a,c,h1,h2,rfl⟩:=tG gs.size ps qs b hlen h;have hat:∀ (zs:List Value) (rs:List PV) (F:Nat->Prop),(∀ (j:Nat) p,rs[j]?=some p->∃ u,zs[i+j]?=some u/\Rd F w p u) ->
      (∀ (j:Nat) p,(rs.take gs.size)[j]?=some p->∃ u,((zs.drop i).take gs.size)[0+j]?=some u/\Rd F w p u):=fun zs rs F hz j p hp=>by
     rw[List.getElem?_take] at hp;split at hp
     ·rename_i hj;obtain⟨u,h3,h4⟩:=hz j p hp;exact⟨u,by rw[Nat.zero_add,List.getElem?_take,if_pos hj,List.getElem?_drop]; exact h3,h4⟩
     ·cases hp
    have hrs:∀ (zs:List Value) (rs:List PV) (F:Nat->Prop),(∀ (j:Nat) p,rs[j]?=some p->∃ u,zs[i+j]?=some u/\Rd F w p u) ->
      (∀ (j:Nat) p,(rs.drop gs.size)[j]?=some p->∃ u,zs[i+gs.size+j]?=some u/\Rd F w p u):=fun zs rs F hz j p hp=>by
     rw[List.getElem?_drop] at hp;obtain⟨u,h3,h4⟩:=hz (gs.size+j) p hp;exact⟨u,by rw[Nat.add_assoc]; exact h3,h4⟩
    have hfs:P.fieldsOf f.type=gs:=by simp [Program.fieldsOf,hst]
    have key:(Op.equalIn (d+2) f.type (.agg ((us.drop i).take gs.size).toArray) (.agg ((vs.drop i).take gs.size).toArray)).run P w = .ok a w:=by
     rw[run_equalIn_struct w (d+1) f.type _ _ (by rw[hfs]; exact hst) hsh,hfs];exact xE d _ _ gs.toList 0 _ _ a hf h1 (hat us ps F hu) (hat vs qs F' hv)
    have hag:fW P f.type=true:=by unfold fW; rw[hst]
    have hp:∀ zs:List Value,(part f.type zs.toArray f.offset).run P w = .ok (.agg ((zs.drop i).take gs.size).toArray) w:=fun zs=>by
     rw[ho];simp [part,gG (t:=f.type) (P:=P) (by rw[hst]; simp),hag,sizeOf,typeInfo,hinf,hsz,List.extract_toArray,List.extract_eq_take_drop]
    have ih:=qI d us vs fs (i+gs.size) _ _ c hrest h2 (hrs us ps F hu) (hrs vs qs F' hv);unfold Op.eqFields;rw[if_pos hn];simp only[Sem.run_bind,hp,key,Result.andThen_ok];cases a with
    | true=>simpa using ih
    | false=>simp
   ·cases hsz
  ·cases ps with
   | nil=>cases hk
   | cons p ps =>
    cases qs with
    | nil=>cases h
    | cons q qs =>
     dsimp only at hk;rw[Bool.and_eq_true] at hk;obtain⟨hkd,hrest⟩:=hk;unfold kK at h;split at h
     ·rename_i a c ha hc;simp only[Option.some.injEq] at h;subst h;obtain⟨u,hu0,hru⟩:=hu 0 p rfl;obtain⟨v,hv0,hrv⟩:=hv 0 q rfl;rw[Nat.add_zero] at hu0 hv0;obtain⟨e1,e2,e3⟩:=AD (d+1) hkd ha hru hrv;have ih:=qI d us vs fs (i+1) ps qs c hrest hc (fun j p hp=>by
       obtain⟨x,hx⟩:=hu (j+1) p (by simpa using hp);exact⟨x,by rw[show i+1+j=i+(j+1) by omega]; exact hx.1,hx.2⟩) (fun j p hp=>by
       obtain⟨x,hx⟩:=hv (j+1) p (by simpa using hp);exact⟨x,by rw[show i+1+j=i+(j+1) by omega]; exact hx.1,hx.2⟩)
      have p1:(part f.type us.toArray f.offset).run P w = .ok u w:=by rw[ho]; simp [part,gG (t:=f.type) (P:=P) e3,e2,hu0]
      have p2:(part f.type vs.toArray f.offset).run P w = .ok v w:=by rw[ho]; simp [part,gG (t:=f.type) (P:=P) e3,e2,hv0]
      unfold Op.eqFields;rw[if_pos hn];simp only[Sem.run_bind,p1,p2,e1,Result.andThen_ok];cases a with
      | true=>simpa using ih
      | false=>simp
     ·cases h
theorem HA {e:Eff} {b:BinOp} {t t':TypeId} {x y:Operand} (r:cI w0 χ0 T0 s a w G) (hd:∀ k,o.dst=some k->k<a.tmps.size) (ho:o.op = .binOp b t x y t') (h:oN P b t [s.ev x,s.ev y]=some e) :
  o.wp P a w (bG w0 χ0 T0 a.tmps.size (s.app o.dst e)) Q:=by
 have hx:=r.ev x;have hy:=r.ev y;unfold oN at h;split at h
 ·rename_i xs ys heq;simp only[List.cons.injEq,and_true] at heq;rw[heq.1] at hx;rw[heq.2] at hy;obtain⟨us,hu,hau⟩:=hx;obtain⟨vs,hv,hav⟩:=hy;split at h
  ·rename_i fs hst;split at h
   ·rename_i ps qs hps hqs;rw[rf hps] at hau;rw[rf hqs] at hav;split at h
    ·rename_i hc;simp only[Bool.and_eq_true,Bool.not_eq_true'] at hc;obtain⟨⟨hf,hsh⟩,hg⟩:=hc;have hfs:P.fieldsOf t=fs:=by simp [Program.fieldsOf,hst]
     have key:∀ r,kK ps qs=some r->(Op.equalIn 10000 t (.agg us.toArray) (.agg vs.toArray)).run P w = .ok r w:=fun r hr=>by
      rw[show (10000:Nat)=9999+1 from rfl,run_equalIn_struct w 9999 t _ _ (by rw[hfs]; exact hst) hsh,hfs];refine qI (F:=In G.χ 0) (F':=In G.χ 0) 9997 us vs fs.toList 0 ps qs r hf hr (fun j p hp=>?_) (fun j p hp=>?_)
      ·obtain⟨u,h1,h2⟩:=hau.get (show (ps.map aJ.p)[j]?=some (.p p) by rw[List.getElem?_map,hp]; rfl);exact⟨u,by rw[Nat.zero_add]; exact h1,h2.val⟩
      ·obtain⟨u,h1,h2⟩:=hav.get (show (qs.map aJ.p)[j]?=some (.p p) by rw[List.getElem?_map,hp]; rfl);exact⟨u,by rw[Nat.zero_add]; exact h1,h2.val⟩
     have guard:(eqGuard b t x y (a.eval x) (a.eval y)).run P w = .ok () w:=by rw[hu,hv]; exact run_eqGuard_agg w b t x y _ _ hg
     split at h
     ·rename_i rr hr;simp only[val,Option.some.injEq] at h;subst h;rw[hu,hv] at guard;refine cf r hd (v := .bool _) (by simp only[execOp,ho,Sem.run_bind,hu,hv,guard,Result.andThen_ok,run_eql_struct,key _ hr,Sem.run_pure]) ⟨rfl,by simp [aJ.ids],Rd.bool⟩
     ·rename_i rr hr;simp only[val,Option.some.injEq] at h;subst h;rw[hu,hv] at guard;refine cf r hd (v := .bool _) (by simp only[execOp,ho,Sem.run_bind,hu,hv,guard,Result.andThen_ok,run_neq_struct,key _ hr,Sem.run_pure]) ⟨rfl,by simp [aJ.ids],Rd.bool⟩
     ·cases h
    ·cases h
   ·cases h
  ·cases h
 ·cases h
theorem Kx {e:Eff} {b:BinOp} {t t':TypeId} {x y:Operand} (r:cI w0 χ0 T0 s a w G) (hd:∀ k,o.dst=some k->k<a.tmps.size) (ho:o.op = .binOp b t x y t') (h:CJ b [s.ev x,s.ev y]=some e) (hc:e.cond) :
  o.wp P a w (bG w0 χ0 T0 a.tmps.size (s.app o.dst e)) Q:=by
 have hx:=r.ev x;have hy:=r.ev y;unfold CJ at h;split at h
 ·rename_i k m k2 n heq;simp only[List.cons.injEq,and_true] at heq;rw[heq.1] at hx;rw[heq.2] at hy;have hvx:=(fU hx).1;have hvy:=(fU hy).1;have fin:∀ z:Int,e.wr=[]->e.res=Slot.p (.int k z)->inK k z->(binOp b t (.int k m) (.int k2 n)).run P w = .ok (.int k z) w->(eqGuard b t x y (.int k m) (.int k2 n)).run P w = .ok () w->o.wp P a w (bG w0 χ0 T0 a.tmps.size (s.app o.dst e)) Q:=fun z h1 h2 h3 h4 h5=>by
   obtain⟨c,x',wr⟩:=e;dsimp only at h1 h2;subst h1 h2;exact cf r hd (by simp [execOp,ho,hvx,hvy,h5,h4]) (gZ h3)
  split at h
  ·simp only[dS,Option.some.injEq] at h;subst h;have hc:0<=n:=hc;exact fin _ rfl rfl (kg _ _) (by simp [binOp,Op.shift,Kt,Int.not_lt.2 hc]) rfl
  ·simp only[dS,Option.some.injEq] at h;subst h;have hc:0<=n/\_:=hc;exact fin _ rfl rfl hc.2 (by simp [binOp,Op.shift,Az,Int.not_lt.2 hc.1]) rfl
  ·split at h
   ·rename_i hk;subst hk;simp only[val,Option.some.injEq] at h;subst h;exact fin _ rfl rfl (kg _ _) (by simp [binOp,Op.intBits,Kr]) rfl
   ·cases h
  ·split at h
   ·rename_i hk;subst hk;simp only[val,Option.some.injEq] at h;subst h;exact fin _ rfl rfl (kg _ _) (by simp [binOp,Op.intBits,orI]) rfl
   ·cases h
  ·split at h
   ·rename_i hk;subst hk;simp only[val,Option.some.injEq] at h;subst h;exact fin _ rfl rfl (kg _ _) (by simp [binOp,Op.intBits,Ks]) rfl
   ·cases h
  ·split at h
   ·rename_i hk;subst hk;simp only[val,Option.some.injEq] at h;subst h;exact fin _ rfl rfl (kg _ _) (by simp [binOp,Op.intBits,anI]) rfl
   ·cases h
  ·cases h
 ·cases h
theorem Sl.shut {α:Type} [aN α] {F:Nat->Prop} {w:World} {A:Option Addr} {n c:Nat} {l:List α} (h:Sl F w A n c l):Sl F w A n n l :=
 ⟨h.len,Nat.le_refl _,Nat.le_trans h.cap h.max,fun hA=>by have:=h.nil hA; have:=h.cap; omega,h.at_⟩
theorem HC {e:Eff} {t:TypeId} {x hi mx:Operand} (r:cI w0 χ0 T0 s a w G) (hd:∀ k,o.dst=some k->k<a.tmps.size) (ho:o.op = .slice t x none (some hi) (some mx))
  (h:xD P t [s.ev x,s.ev hi,s.ev mx]=some e) (hc:e.cond):o.wp P a w (bG w0 χ0 T0 a.tmps.size (s.app o.dst e)) Q:=by
 have hx:=r.ev x;have hh:=r.ev hi;have hm:=r.ev mx;unfold xD at h;split at h
 ·rename_i l k1 j k2 m heq;simp only[List.cons.injEq,and_true] at heq;obtain⟨h1,h2,h3⟩:=heq;rw[h1] at hx;rw[h2] at hh;rw[h3] at hm;split at h
  ·rename_i el z hel;simp only[dS,Option.some.injEq] at h;subst h;obtain⟨c1,c2,c4⟩:=hc;obtain⟨A,c,z',hv,hs,hz'⟩:=(xa hx).tA;have hzp:=(eV hel).pos;have hE:=eV hel;obtain⟨inf,zz,hi',_,hsz,_⟩:=hE.ex;have hj:(0:Int)<=j:=by omega
   have hm0:(0:Int)<=m:=by omega
   have hjt:j.toNat=l.length:=by omega
   have hmt:m.toNat=l.length:=by omega
   have hcap:=hs.cap;have hrun:(execOp a.eval o).run P w = .ok (.value (.slice (if l.length=0 then A else A.map (·.add (0 * z))) (l.length-0) (l.length-0))) w:=by
    simp only[execOp,ho,hv,Instr.sliceAt,Instr.slice,Sem.run_bind,run_underlying hE.ty,Result.andThen_ok,Option.map_none,Option.map_some,(fU hh).1,(fU hm).1,Instr.sliceBounds,la (P:=P) (w:=w) hm0 (show m<=(c:Int) by omega),la (P:=P) (w:=w) hj (show j<=((m.toNat:Nat):Int) by omega),Sem.run_pure,hjt,hmt,sizeOf,typeInfo,hi'];simp [hsz,hi',hjt,hmt,la (P:=P) (w:=w) hj (show j<=((l.length:Nat):Int) by omega)]
   refine cf r hd hrun (Hj ?_);by_cases h0:l=[]
   ·subst h0;refine Rd.sl0 (fun hA=>?_) ?_
    ·rfl
    ·simp
   ·obtain⟨y,hy⟩:=List.exists_mem_of_ne_nil l h0;obtain⟨k,hk⟩:=List.mem_iff_getElem?.1 hy;have hzz:z'=z:=(hz' k y hk).symm.trans (c4 y hy);subst hzz;have h1:=(Sl.shut hs).drop (k:=0) (by omega);exact Rd.uK h1 (.inl hzp)
  ·cases h
 ·cases h
theorem Ky {e:Eff} (r:cI w0 χ0 T0 s a w G) (hd:∀ k,o.dst=some k->k<a.tmps.size) (h:gQ P o.op o.dst (aY s.hp o.dst) ((Op.bL o.op).map s.arg)=some e) (hc:e.cond) :
  o.wp P a w (bG w0 χ0 T0 a.tmps.size (s.app o.dst e)) Q:=by
 have hm:((Op.bL o.op).map s.arg).map (·.1)=(Op.bL o.op).map s.ev:=by rw[List.map_map]; rfl
 unfold gQ at h;rw[hm] at h;split at h <;> rename_i hop
 ·rw[hop] at h; exact Hz r hd hop h
 ·rw[hop] at h; exact xc r hd hop (by simpa [Op.bL] using h)
 ·rw[hop] at h; exact tF (mx:=false) r hd hop rfl rfl (by simpa [Op.bL] using h)
 ·rw[hop] at h; exact tF (mx:=true) r hd hop rfl rfl (by simpa [Op.bL] using h)
 ·rw[hop] at h; exact vh r hd hop h hc
 ·rw[hop] at h; exact CM r hd hop h hc
 ·rw[hop] at h;unfold xb at h;split at h
  ·rename_i heq;injection h with h
   subst h;exact HA r hd hop (by simpa [Op.bL] using heq)
  ·split at h
   ·rename_i heq;injection h with h
    subst h;exact Kx r hd hop (by simpa [Op.bL] using heq) hc
   ·exact Ku r hd hop (by simpa [Op.bL] using h)
 ·rw[hop] at h; exact HC r hd hop (by simpa [Op.bL] using h) hc
 ·cases h
end
end Go.Lad
