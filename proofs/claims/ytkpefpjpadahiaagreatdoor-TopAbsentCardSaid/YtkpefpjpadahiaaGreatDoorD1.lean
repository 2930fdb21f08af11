import Derived.Test.YtkpefpjpadahiaaGreatDoorU2
namespace Go.Lad
set_option linter.unusedVariables false
set_option linter.unusedSimpArgs false
open Go.RowKit
inductive TL where
 | dead
 | v (t:Ty) (x:t.den)
 | nil
 | loc (o off:Nat)
 | own (o:Nat)
 | el (o:Nat) (n:Int) (off z:Nat)
 | ip (t:Ty) (x:t.den) (off:Nat)
 | mp (o:Nat)
 | fn (f:FuncId) (caps:List Nat)
 | sv (o:Nat) (a b:Int) (z:Nat)
 | oth (v:Value)
 | nb (pos:Bool) (t:Ty) (l:List t.den)
 | tl (t:Ty) (l:List t.den)
 | ps (o:Nat)
inductive TC where
 | v (x:TL)
 | g (xs:List TL)
inductive TSl where
 | dead
 | c (x:TC)
 | t (l:List TC)
inductive cV where
 | gone
 | box (t:TypeId) (cs:List TL)
 | arr (e:TypeId) (t:Ty) (l:List t.den)
 | fO (k:IntKind) (agg:Bool) (t:Ty) (m:List (Int×t.den))
 | fa (agg:Bool) (t:Ty) (m:List (Bs×t.den))
 | fb (k:IntKind) (agg:Bool) (t:Ty) (m:List ((Int×Bs)×t.den))
 | ql (k:IntKind) (agg:Bool) (t:Ty) (m:List ((Int×Bs)×t.den)) (key:Int×Bs) (d:Nat)
 | kV (k:IntKind) (e:TypeId) (t:Ty) (m:List (Int×List t.den)) (h:Option Int)
 | lit (e:TypeId) (cs:List TL)
def OS {κ V W:Type} (e:V->W) (m:List (κ×V)):List (κ×W):=m.map fun p=>(p.1,e p.2)
structure TSt where
 tm:List (Nat×TSl)
 hp:List (Nat×cV)
def TL.un:TL->aJ
 | .dead=>.dead
 | .v t x=>match enc t x with | [p]=>.p p | _=>.dead
 | .nil=>.nil
 | .loc o off=>.loc o off
 | .own o=>.own o
 | .el o n off z=>.el o n.toNat off z
 | .ip t x off=>.ip (enc t x) off
 | .mp o=>.mp o
 | .fn f caps=>.fn f caps
 | .sv o a b z=>.sv o a.toNat b.toNat z
 | .oth y=>.p (.oth y)
 | .nb pos t l=>.nb pos (l.map (enc t))
 | .tl t l=>.tl (l.map (enc t))
 | .ps o=>.ps o
def TC.un:TC->Cmp
 | .v x=>.v x.un
 | .g xs=>.g (xs.map TL.un)
def TSl.un:TSl->Slot
 | .dead=>.dead
 | .c x=>.c x.un
 | .t l=>.t (l.map TC.un)
def cV.un:cV->df
 | .gone=>.gone
 | .box t cs=>.box t (cs.map TL.un)
 | .arr e t l=>.arr e t.cells (l.map (enc t))
 | .fO k agg t m=>.fO k agg (mH id (enc t) m)
 | .fa agg t m=>.fa agg (mH mkS (enc t) m)
 | .fb k agg t m=>.fb k agg (mH mkQ (enc t) m)
 | .ql k agg t m key d=>.ql k agg (mH mkQ (enc t) m) (mkQ key) d
 | .kV k e t m h=>.kV k e t.cells (OS (List.map (enc t)) m) h
 | .lit e cs=>.lit e (cs.map TL.un)
def nH (l:List (Nat×TSl)):List (Nat×Slot):=l.map fun x=>(x.1,x.2.un)
def dY (l:List (Nat×cV)):List (Nat×df):=l.map fun x=>(x.1,x.2.un)
def TSt.un (s:TSt):St:=qH (nH s.tm) (dY s.hp)
def look {α:Type}:List (Nat×α)->Nat->Option α
 | [],_=>none
 | x::r,k=>cond (Nat.beq k x.1) (some x.2) (look r k)
def qp {α:Type}:List (Nat×α)->Nat->α->List (Nat×α)
 | [],k,v=>[(k,v)]
 | x::r,k,v=>cond (Nat.beq k x.1) ((k,v)::r) (x::qp r k v)
structure Dyn where
 t:Ty
 x:t.den
def Eo (g:Nat):Option Dyn:=none
theorem KU (g:Nat):w6 g=(Eo g).map fun d=>enc d.t d.x:=rfl
def qx {α:Type} (l m:List (Nat×α)) (k:Nat):Option α:=match look l k with | some x=>some x | none=>look m k
def KV:TL->TL
 | .v (.slu i) l=>.v (.sl (iz i)) (List.map (Uun i) l)
 | x=>x
def nrm:TSl->TSl
 | .c (.v x)=>.c (.v (KV x))
 | x=>x
def evT (fx cur:TSt) (c:Value->TSl):Operand->TSl
 | .tmp t=>match qx cur.tm fx.tm t with | some x=>nrm x | none=>.dead
 | .const v=>c v
 | .global g=>match Eo g with | some d=>.c (.v (.ip d.t d.x 0)) | none=>.dead
 | .func f=>.c (.v (.fn (2 * f) []))
def obT (fx cur:TSt) (o:Nat):Option cV:=qx cur.hp fx.hp o
def un2 (fx cur:TSt):St:=qH (nH (cur.tm++fx.tm)) (dY (cur.hp++fx.hp))
def pR:Value->TL
 | .int k n=>cond (decide (k.min<=n) && decide (n<=k.max)) (.v (.int k) n) .dead
 | .bool b=>.v .bool b
 | .string s=>cond (Nat.ble s.size 9223372036854775807) (.v .str s.data.toList) .dead
 | .slice none 0 0=>.nil
 | .pointer none=>.oth (.pointer none)
 | .nilFunc=>.oth .nilFunc
 | .map none=>.oth (.map none)
 | .nilIface=>.oth .nilIface
 | _=>.dead
def cJ:Value->TSl
 | .agg cs=>cond (cs.all (·.oneCell')) (.c (.g (cs.toList.map pR))) .dead
 | .tuple _=>.dead
 | v=>.c (.v (pR v))
def Ep (P:Program) (t:TypeId):Option (List TL) :=
 match P.info? t with
 | some i=>match i.zero with
  | some v=>cond (v.cells.all (·.oneCell')) (some (v.cells.toList.map pR)) none
  | none=>none
 | none=>none
def dR:(t:Ty)->t.den->List TL
 | .any,x=>[.v .any x]
 | .int k,x=>[.v (.int k) x]
 | .bool,x=>[.v .bool x]
 | .str,x=>[.v .str x]
 | .sl e,x=>[.v (.sl e) x]
 | .map k e,x=>[.v (.map k e) x]
 | .slu i,x=>[.v (.sl (iz i)) (List.map (Uun i) x)]
 | .pair a b,x=>dR a x.1++dR b x.2
def C7 {ρ:Type} (t:Ty) (l:TL) (k:t.den->Option ρ):Option ρ :=
 match l with
 | .v t' x=>tK t' t x k
 | _=>none
def AS {ρ:Type}:(t:Ty)->List TL->(t.den->List TL->Option ρ)->Option ρ
 | .pair a b,ls,k=>AS a ls fun x ls=>AS b ls fun y ls=>k (x,y) ls
 | t,l::ls,k=>C7 t l fun x=>k x ls
 | _,[],_=>none
def kQ {ρ:Type} (t:Ty) (ls:List TL) (k:t.den->Option ρ):Option ρ:=AS t ls fun x r=>match r with | []=>k x | _=>none
def TC.leaves:TC->List TL
 | TC.v x=>[x]
 | TC.g xs=>xs
def C8 (cs:List TL) (off n:Nat) (agg:Bool):Option TC :=
 cond agg (cond (Nat.ble (off+n) cs.length) (some (.g ((cs.drop off).take n))) none) ((cs[off]?).map .v)
def Ty.gd:Ty->Bool
 | .sl _=>false
 | .slu _=>false
 | .map _ _=>false
 | .pair a b=>a.gd && b.gd
 | _=>true
def leZ (a b:Int):Bool :=
 match a,b with
 | .ofNat m,.ofNat n=>Nat.ble m n
 | .ofNat _,.negSucc _=>false
 | .negSucc _,.ofNat _=>true
 | .negSucc m,.negSucc n=>Nat.ble n m
def ltZ (a b:Int):Bool := !leZ b a
def eqZ (a b:Int):Bool :=
 match a,b with
 | .ofNat m,.ofNat n=>Nat.beq m n
 | .negSucc m,.negSucc n=>Nat.beq m n
 | _,_=>false
theorem iv (a b:Int):leZ a b=decide (a<=b):=by
 unfold leZ;split <;> rw[Bool.eq_iff_iff] <;> simp <;> omega
theorem dP (a b:Int):ltZ a b=decide (a<b):=by
 unfold ltZ; rw[iv,Bool.eq_iff_iff]; simp
theorem fE (a b:Int):eqZ a b=decide (a=b):=by
 cases a <;> cases b <;> simp only[eqZ] <;> rw[Bool.eq_iff_iff] <;> simp [Nat.beq_eq] <;> omega
def MO (n:Int):Bool:=leZ (-9223372036854775808) n && leZ n 9223372036854775807
def z64 (n:Int):Option Int:=cond (MO n) (some n) none
def inZ (k:IntKind) (n:Int):Bool:=leZ k.min n && leZ n k.max
def Nr (k:IntKind) (a b:Int):Option Int:=cond (!eqZ b 0 && inZ k (a.tdiv b)) (some (a.tdiv b)) none
def KW (k:IntKind) (a b:Int):Option Int:=cond (!eqZ b 0 && inZ k (a.tmod b)) (some (a.tmod b)) none
theorem zb (n:Int):z64 n=i64? n:=by
 unfold z64 i64? MO;rw[iv,iv];by_cases h : -9223372036854775808<=n/\n<=9223372036854775807
 ·rw[if_pos h]; simp [h]
 ·rw[if_neg h];have:(decide (-9223372036854775808<=n) && decide (n<=9223372036854775807))=false:=by
   rw[Bool.eq_false_iff]; simpa using h
  rw[this]; rfl
def po {α ρ:Type} [DecidableEq ρ] (l:List α) (A B:Option ρ):Option ρ :=
 match l with
 | []=>if A=B then B else none
 | _::_=>B
theorem vN {α ρ:Type} [DecidableEq ρ] {l:List α} {A B:Option ρ} {r:ρ} (h:po l A B=some r):B=some r/\(l=[]->A=some r):=by
 unfold po at h;split at h
 ·split at h
  ·rename_i hc; exact⟨h,fun hl=>hc.trans h⟩
  ·cases h
 ·exact⟨h,fun hl=>by cases hl⟩
class Fuel where
 n:Nat
def bS [Fuel] {α β:Type} (body:α->Option (α⊕β)) (x:α):Option β:=iterM body Fuel.n x
theorem AT [Fuel] {α β:Type} {body:α->Option (α⊕β)} {x:α} {r:β} (h:bS body x=some r):El body x=some r:=vJ.2 ⟨_,h⟩
section
variable {ρ:Type} (P:Program) (H:List (Nat×Ty)) (fx cur:TSt)
abbrev KE (ρ:Type):=TSl->List (Nat×cV)->Option ρ
abbrev tL (x:TL):TSl := .c (.v x)
abbrev tV (t:Ty) (x:t.den):TSl := .c (.v (.v t x))
def mZ (d:Nat):Bool:=match obT fx cur d with | some _=>false | none=>Nat.ble (d+1) 1000000
def na (d:Ty) (x:TSl) (k:(t:Ty)->List t.den->Option ρ):Option ρ :=
 match x with
 | .c (.v (.v (.sl t) l))=>k t l
 | .c (.v .nil)=>k d []
 | .c (.v (.tl t l))=>k t l
 | .c (.v (.own o))=>match obT fx cur o with | some (.arr _ t l)=>k t l | _=>none
 | .c (.v (.sv o a b z))=>match obT fx cur o with | some (.arr _ t l)=>cond (Nat.beq z t.cells) ((cut l a b).bind fun m=>k t m) none | _=>none
 | _=>none
def MP (x:TSl) (k:KE ρ):Option ρ:=k x []
def Io (c x y:TSl) (k:KE ρ):Option ρ :=
 match c with
 | .c (.v (.v .bool c))=>match x,y with
  | .c (.v (.v .bool x)),.c (.v (.v .bool y))=>k (tV .bool (cond c x y)) []
  | x,y=>k (cond c x y) []
 | _=>none
def C9 (t:TypeId) (d:Option Nat) (k:KE ρ):Option ρ :=
 match d,Ep P t with
 | some d,some cs=>cond (mZ fx cur d) (k (tL (.loc d 0)) [(d,.box t cs)]) none
 | _,_=>none
def Ip (t:TypeId) (x:TSl) (k:KE ρ):Option ρ :=
 match gK P t with
 | none=>none
 | some n=>match x with
  | .c (.v (.loc o off))=>match obT fx cur o with
   | some (.box _ cs)=>match C8 cs off n (fW P t) with | some c=>k (.c c) [] | none=>none
   | _=>none
  | .c (.v (.ip t' x off))=>match C8 (dR t' x) off n (fW P t) with | some c=>k (.c c) [] | none=>none
  | .c (.v (.el o i off z))=>match obT fx cur o with
   | some (.arr _ t' l)=>cond (Nat.beq z t'.cells) ((idx l i).bind fun x=>match C8 (dR t' x) off n (fW P t) with | some c=>k (.c c) [] | none=>none) none
   | _=>none
  | _=>none
def Da (t:TypeId) (x v:TSl) (k:KE ρ):Option ρ :=
 match gK P t,v with
 | some n,.c c=>match x with
  | .c (.v (.loc o off))=>match obT fx cur o with
   | some (.box bt cs)=>cond (Nat.beq c.leaves.length n && Nat.ble (off+n) cs.length) (k .dead [(o,.box bt (cs.take off++c.leaves++cs.drop (off+n)))]) none
   | _=>none
  | .c (.v (.el o i off z))=>match obT fx cur o with
   | some (.arr e t' l)=>cond (Nat.beq z t'.cells && Nat.beq c.leaves.length n && Nat.ble (off+n) z) ((idx l i).bind fun x=>kQ t' ((dR t' x).take off++c.leaves++(dR t' x).drop (off+n)) fun y=>k .dead [(o,.arr e t' (l.set i.toNat y))]) none
   | _=>none
  | _=>none
 | _,_=>none
def Ns (x:TSl) (k:KE ρ):Option ρ :=
 match x with
 | .c (.v (.loc o off))=>k (tL (.loc o off)) []
 | .c (.v (.el o i off z))=>k (tL (.el o i off z)) []
 | .c (.v (.ip t x off))=>k (tL (.ip t x off)) []
 | _=>none
def qN (t:TypeId) (f:Nat) (x:TSl) (k:KE ρ):Option ρ :=
 match lz P t f with
 | some (j,_,_)=>match x with
  | .c (.v (.loc o off))=>k (tL (.loc o (off+j))) []
  | .c (.v (.el o i off z))=>k (tL (.el o i (off+j) z)) []
  | .c (.v (.ip t x off))=>k (tL (.ip t x (off+j))) []
  | _=>none
 | none=>none
def Db (t:TypeId) (f:Nat) (x:TSl) (k:KE ρ):Option ρ :=
 match lz P t f,x with
 | some (j,n,agg),.c (.g xs)=>match C8 xs j n agg with | some c=>k (.c c) [] | none=>none
 | _,_=>none
def Iq (a b n:Int) (m:Nat):Option Unit:=qM (0<=a/\0<=n/\n<b-a/\b<=m)
def Nt (a b:Int):Int:=a+b
def qO (t:TypeId) (x i:TSl) (k:KE ρ):Option ρ :=
 match dy P t,i with
 | some (_,z),.c (.v (.v (.int _) n))=>match x with
  | .c (.v (.v (.sl t') l))=>cond (Nat.beq z t'.cells) ((idx l n).bind fun x=>k (tL (.ip t' x 0)) []) none
  | .c (.v (.own o))=>match obT fx cur o with
   | some (.arr _ t' l)=>cond (Nat.beq z t'.cells) ((idx l n).bind fun _=>k (tL (.el o n 0 z)) []) none
   | _=>none
  | .c (.v (.sv o a b z2))=>match obT fx cur o with
   | some (.arr _ t' l)=>cond (Nat.beq z t'.cells && Nat.beq z2 z) ((Iq a b n l.length).bind fun _=>k (tL (.el o (Nt a n) 0 z)) []) none
   | _=>none
  | _=>none
 | _,_=>none
def uq:Ty->Bool
 | .pair _ _=>false
 | _=>true
def Er {ρ:Type} (t:Ty):List TL->(List t.den->Option ρ)->Option ρ
 | [],k=>k []
 | .v t' x::r,k=>kP t' t x fun x=>Er t r fun l=>k (x::l)
 | _,_=>none
def Dc (t:TypeId) (x i:TSl) (k:KE ρ):Option ρ :=
 match P.underlying t,x,i with
 | some .string,.c (.v (.v .str s)),.c (.v (.v (.int _) n))=>(bAt s n).bind fun c=>k (tV (.int .u8) c) []
 | some (.array m e),.c (.g xs),.c (.v (.v (.int _) n))=>match gK P e,xs with
  | some 1,.v t x::r=>cond (Nat.beq xs.length m && !fW P e && uq t) (Er t xs fun l=>(idx l n).bind fun y=>k (tV t y) []) none
  | _,_=>none
 | _,_,_=>none
def Nu (k:IntKind) (a n:Int):Option Int:=cond (leZ 0 n && inZ k (Az k a n)) (some (Az k a n)) none
def Ir (k:IntKind) (a n:Int):Option Int:=cond (leZ 0 n) (some (Kt k a n)) none
def Is (b:BinOp) (x y:TSl) (k:KE ρ):Option ρ :=
 match b,x,y with
 | .add,.c (.v (.v (.int .i64) a)),.c (.v (.v (.int .i64) b))=>k (tV (.int .i64) (Kz a b)) []
 | _,_,_=>none
def tSh (op:BinOp) (x y:TSl) (k:KE ρ):Option ρ :=
 match x,y with
 | .c (.v (.v (.int kd) a)),.c (.v (.v (.int kd2) n))=>match op with
  | .shl=>(Ir kd a n).bind fun c=>k (tV (.int kd) c) []
  | .shr=>(Nu kd a n).bind fun c=>k (tV (.int kd) c) []
  | .and=>match IntKind.same kd kd2 with | some _=>k (tV (.int kd) (Kr kd a n)) [] | none=>none
  | .or=>match IntKind.same kd kd2 with | some _=>k (tV (.int kd) (orI kd a n)) [] | none=>none
  | .xor=>match IntKind.same kd kd2 with | some _=>k (tV (.int kd) (Ks kd a n)) [] | none=>none
  | .andNot=>match IntKind.same kd kd2 with | some _=>k (tV (.int kd) (anI kd a n)) [] | none=>none
  | _=>none
 | _,_=>none
def Nv (op:BinOp) (kd:IntKind) (a b:Int) (k:KE ρ):Option ρ :=
 match op with
 | .add=>match IntKind.same kd .i64 with | some _=>(z64 (a+b)).bind fun c=>k (tV (.int .i64) c) [] | none=>k (tV (.int kd) (kd.wrap (a+b))) []
 | .sub=>match IntKind.same kd .i64 with | some _=>(z64 (a-b)).bind fun c=>k (tV (.int .i64) c) [] | none=>k (tV (.int kd) (kd.wrap (a-b))) []
 | .mul=>match IntKind.same kd .i64 with | some _=>(z64 (a * b)).bind fun c=>k (tV (.int .i64) c) [] | none=>k (tV (.int kd) (kd.wrap (a * b))) []
 | .quo=>(Nr kd a b).bind fun c=>k (tV (.int kd) c) []
 | .rem=>(KW kd a b).bind fun c=>k (tV (.int kd) c) []
 | .eql=>k (tV .bool (eqZ a b)) []
 | .neq=>k (tV .bool (!eqZ a b)) []
 | .lss=>k (tV .bool (ltZ a b)) []
 | .leq=>k (tV .bool (leZ a b)) []
 | .gtr=>k (tV .bool (ltZ b a)) []
 | .geq=>k (tV .bool (leZ b a)) []
 | _=>none
def Nw (op:BinOp) (a b:Bs) (k:KE ρ):Option ρ :=
 match op with
 | .add=>(cat? a b).bind fun c=>k (tV .str c) []
 | .eql=>k (tV .bool (decide (a=b))) []
 | .neq=>k (tV .bool (!decide (a=b))) []
 | .lss=>k (tV .bool (Op.bytesLess a b)) []
 | .leq=>k (tV .bool (Op.bytesLess a b || decide (a=b))) []
 | .gtr=>k (tV .bool (!(Op.bytesLess a b || decide (a=b)))) []
 | .geq=>k (tV .bool (!Op.bytesLess a b)) []
 | _=>none
def Dd (a b:Bool):Bool:=a == b
def PJ (a:Int):Int := -a
def mmT (mx:Bool) (a b:Int):Int:=cond mx (max a b) (min a b)
def Nx (op:BinOp) (t:TypeId) (x y:TSl) (k:KE ρ):Option ρ :=
 match x,y with
 | .c (.v (.v (.int kd) a)),.c (.v (.v (.int kd') b))=>match IntKind.same kd kd' with | some _=>Nv op kd a b k | none=>none
 | .c (.v (.v .str a)),.c (.v (.v .str b))=>Nw op a b k
 | .c (.v (.v .bool a)),.c (.v (.v .bool b))=>match op,P.underlying t with
  | .eql,some .bool=>k (tV .bool (Dd a b)) []
  | .neq,some .bool=>k (tV .bool (!Dd a b)) []
  | _,_=>none
 | .c (.v (.v (.sl t') l)),.c (.v .nil)=>match op,P.underlying t with
  | .eql,some (.slice _)=>k (tL (.nb true t' l)) []
  | .neq,some (.slice _)=>k (tL (.nb false t' l)) []
  | _,_=>none
 | .c (.v .nil),.c (.v .nil)=>match op,P.underlying t with
  | .eql,some (.slice _)=>k (tV .bool true) []
  | .neq,some (.slice _)=>k (tV .bool false) []
  | _,_=>none
 | .c (.v (.loc _ _)),.c (.v (.oth (.pointer none)))=>match op,P.underlying t with
  | .eql,some (.pointer _)=>k (tV .bool false) []
  | .neq,some (.pointer _)=>k (tV .bool true) []
  | _,_=>none
 | .c (.v (.oth (.pointer none))),.c (.v (.oth (.pointer none)))=>match op,P.underlying t with
  | .eql,some (.pointer _)=>k (tV .bool true) []
  | .neq,some (.pointer _)=>k (tV .bool false) []
  | _,_=>none
 | _,_=>none
def tNI (op:BinOp) (t:TypeId) (c:Bool) (k:KE ρ):Option ρ :=
 match c,op,P.underlying t with
 | true,.eql,some (.interface _)=>k (tV .bool true) []
 | true,.neq,some (.interface _)=>k (tV .bool false) []
 | _,_,_=>none
def Ny (a b:Bs):Bool:=decide (a=b)
def Nz:(t:Ty)->t.den->t.den->Option Bool
 | .int _,a,b=>some (eqZ a b)
 | .str,a,b=>some (Ny a b)
 | .bool,a,b=>some (Dd a b)
 | _,_,_=>none
def jT:List TL->List TL->Option Bool
 | [],[]=>some true
 | .v t x::xs,.v t' y::ys=>match Ty.same t' t with
  | some h=>match Nz t x (lf h.down y) with
   | some a=>match xs,ys with
    | [],[]=>some a
    | _,_=>match jT xs ys with | some b=>some (a && b) | none=>none
   | none=>none
  | none=>none
 | _,_=>none
def NA (op:BinOp) (t:TypeId) (xs ys:List TL) (k:KE ρ):Option ρ :=
 match P.underlying t with
 | some (.struct fs)=>(dZ (xs.map TL.un)).bind fun ps=>cond (nY P 0 fs.toList ps && !P.stoodInHeld t && !P.eqGuardType P.depth t)
  (match op,jT xs ys with
   | .eql,some r=>k (tV .bool r) []
   | .neq,some r=>k (tV .bool (!r)) []
   | _,_=>none) none
 | _=>none
def PK (a:Int):Int:=IntKind.u64.wrap (0-a)
def tUn (op:UnOp) (x:TSl) (k:KE ρ):Option ρ :=
 match op,x with
 | .not,.c (.v (.v .bool a))=>k (tV .bool (!a)) []
 | .neg,.c (.v (.v (.int .u64) a))=>k (tV (.int .u64) (PK a)) []
 | .neg,.c (.v (.v (.int .i64) a))=>(z64 (PJ a)).bind fun c=>k (tV (.int .i64) c) []
 | _,_=>none
def AU (l:List Int):Bs:=l.map fun n=>UInt8.ofNat n.toNat
def bJ (l:Bs):List Int:=l.map fun b=>(b.toNat:Int)
def It (src dst:TypeId) (x:TSl) (k:KE ρ):Option ρ :=
 match P.underlying src,P.underlying dst with
 | some (.int _),some (.int k')=>match x with
  | .c (.v (.v (.int kd) n))=>match IntKind.same k' .i64,IntKind.same kd .u64 with
   | some _,none=>k (tV (.int .i64) n) []
   | _,_=>k (tV (.int k') (k'.wrap n)) []
  | _=>none
 | some .string,some .string=>match x with
  | .c (.v (.v .str s))=>k (tV .str s) []
  | _=>none
 | some (.slice _),some .string=>match dy P src with
  | some (e,1)=>match P.underlying e with
   | some (.int .u8)=>na fx cur (.int .u8) x fun t l=>kP (.sl t) (.sl (.int .u8)) l fun l=>(qM ((AU l).length<=9223372036854775807)).bind fun _=>k (tV .str (AU l)) []
   | _=>none
  | _=>none
 | some .string,some (.slice el)=>match P.underlying el with
  | some (.int .u8)=>match x with
   | .c (.v (.v .str s))=>k (tV (.sl (.int .u8)) (bJ s)) []
   | _=>none
  | _=>none
 | _,_=>none
def vO (i:Nat) (x:TSl) (k:KE ρ):Option ρ :=
 match x with
 | .t l=>match l[i]? with | some c=>k (.c c) [] | none=>none
 | _=>none
def AV:List TL->List (Nat×Nat×TC)->Option (List TL)
 | cs,[]=>some cs
 | cs,(off,n,c)::r=>cond (Nat.beq c.leaves.length n && Nat.ble (off+n) cs.length) (AV (cs.take off++c.leaves++cs.drop (off+n)) r) none
def vP (pl:List (Nat×Nat)):List Nat->List TSl->Option (List (Nat×Nat×TC))
 | [],[]=>some []
 | i::is,.c c::r=>match pl[i]?,vP pl is r with | some (o,n),some l=>some ((o,n,c)::l) | _,_=>none
 | _,_=>none
def De (t:TypeId) (is:List Nat) (args:List TSl) (k:KE ρ):Option ρ :=
 match placesOf P t,Ep P t with
 | some pl,some z=>match vP pl is args with
  | some l=>match AV z l with | some cs=>k (.c (.g cs)) [] | none=>none
  | none=>none
 | _,_=>none
def Iu {ρ:Type} (t:Ty) (l:TL) (k:t.den->Option ρ):Option ρ :=
 match l with
 | .v t' x=>tK t' t x k
 | .nil=>Im t k
 | _=>none
def AW {ρ:Type}:(t:Ty)->List TL->(t.den->List TL->Option ρ)->Option ρ
 | .pair a b,ls,k=>AW a ls fun x ls=>AW b ls fun y ls=>k (x,y) ls
 | t,l::ls,k=>Iu t l fun x=>k x ls
 | _,[],_=>none
def pq {ρ:Type} (t:Ty) (ls:List TL) (k:t.den->Option ρ):Option ρ:=AW t ls fun x r=>match r with | []=>k x | _=>none
def vQ {ρ:Type} (t:Ty):List TSl->(List t.den->Option ρ)->Option ρ
 | [],k=>k []
 | .c c::r,k=>pq t c.leaves fun x=>vQ t r fun l=>k (x::l)
 | _,_=>none
def pS:Nat->List Nat->Bool
 | _,[]=>true
 | i,x::r=>Nat.beq i x && pS (i+1) r
def pr (t:TypeId) (len:Nat) (is:List Nat) (d:Option Nat) (args:List TSl) (k:KE ρ):Option ρ :=
 match dy P t,d,look H t with
 | some (e,z),some d,some te=>cond (pS 0 is && Nat.beq is.length len && mZ fx cur d && Nat.ble len 100 && Nat.ble z 1000 && Nat.beq z te.cells) (vQ te args fun l=>k (tL (.own d)) [(d,.arr e te l)]) none
 | _,_,_=>none
def Iv:List TSl->Option (List TL)
 | []=>some []
 | .c (.v x)::r=>match Iv r with | some l=>some (x::l) | none=>none
 | _=>none
def sO (t:TypeId) (len:Nat) (is:List Nat) (d:Option Nat) (args:List TSl) (k:KE ρ):Option ρ :=
 match dy P t,d,Iv args with
 | some (e,z),some d,some cs=>cond (pS 0 is && Nat.beq is.length len && mZ fx cur d && Nat.ble len 100 && Nat.beq z 1) (k (tL (.own d)) [(d,.lit e cs)]) none
 | _,_,_=>none
def NB:TL->Bool
 | .own _=>true
 | _=>false
def ownRow:TSl->Bool
 | .c (.v x)=>NB x
 | _=>false
def vR (t:TypeId) (len:Nat) (is:List Nat) (d:Option Nat) (args:List TSl) (k:KE ρ):Option ρ :=
 cond (args.any ownRow) (sO P fx cur t len is d args k) (pr P H fx cur t len is d args k)
def OT (tl:Bool) (te:Ty) (l:List te.den):TL:=cond tl (.tl te l) (.v (.sl te) l)
def zd (tl:Bool) (t:TypeId) (len:Nat) (is:List Nat) (args:List TSl) (k:KE ρ):Option ρ :=
 match dy P t,look H t with
 | some (e,z),some te=>cond (pS 0 is && Nat.beq is.length len && Nat.ble len 100 && Nat.ble z 1000 && Nat.beq z te.cells) (vQ te args fun l=>k (tL (OT tl te l)) []) none
 | _,_=>none
def NC (t:TypeId) (x:TSl) (k:KE ρ):Option ρ :=
 match P.underlying t with
 | some (.map _ _)=>match x with
  | .c (.v (.mp o))=>match obT fx cur o with
   | some (.fO _ _ _ m)=>(qM (m.length<=9223372036854775807)).bind fun _=>k (tV (.int .i64) (m.length:Int)) []
   | some (.fb _ _ _ m)=>(qM (m.length<=9223372036854775807)).bind fun _=>k (tV (.int .i64) (m.length:Int)) []
   | some (.fa _ _ m)=>(qM (m.length<=9223372036854775807)).bind fun _=>k (tV (.int .i64) (m.length:Int)) []
   | _=>none
  | _=>none
 | some .string=>match x with
  | .c (.v (.v .str s))=>k (tV (.int .i64) (s.length:Int)) []
  | _=>none
 | some (.slice _)=>na fx cur .bool x fun _ l=>k (tV (.int .i64) (l.length:Int)) []
 | _=>none
def ur (t:TypeId) (d:Option Nat) (x y:TSl) (k:KE ρ):Option ρ :=
 match dy P t,d with
 | some (e,z),some d=>cond (mZ fx cur d) (match x with
  | .c (.v (.own o))=>match obT fx cur o with
   | some (.arr e' t' l)=>cond (Nat.beq e e' && Nat.beq z t'.cells) (na fx cur t' y fun t2 m=>kP (.sl t2) (.sl t') m fun m=>(app? l m).bind fun r=>k (tL (.own d)) [(o,.gone),(d,.arr e t' r)]) none
   | _=>none
  | .c (.v .nil)=>match look H t with
   | some te=>cond (Nat.beq z te.cells) (na fx cur te y fun t2 m=>kP (.sl t2) (.sl te) m fun m=>(app? [] m).bind fun r=>k (tL (.own d)) [(d,.arr e te r)]) none
   | none=>none
  | _=>none) none
 | _,_=>none
def vS (hl hh:Bool) (n:Nat) (as:List TSl):Option (Int×Int) :=
 match hl,hh,as with
 | false,false,[]=>some (0,n)
 | true,false,[.c (.v (.v (.int _) i))]=>some (i,n)
 | false,true,[.c (.v (.v (.int _) j))]=>some (0,j)
 | true,true,[.c (.v (.v (.int _) i)),.c (.v (.v (.int _) j))]=>some (i,j)
 | _,_,_=>none
def ze (t:TypeId) (hl hh:Bool) (x:TSl) (as:List TSl) (k:KE ρ):Option ρ :=
 match x with
 | .c (.v (.v .str s))=>match P.underlying t,vS hl hh s.length as with
  | some .string,some (i,j)=>(cut s i j).bind fun r=>k (tV .str r) []
  | _,_=>none
 | .c (.v (.v (.sl t') l))=>match dy P t,vS hl hh l.length as with
  | some (_,z),some (i,j)=>cond (Nat.beq z t'.cells) ((cut l i j).bind fun r=>k (tV (.sl t') r) []) none
  | _,_=>none
 | .c (.v .nil)=>match dy P t,vS hl hh 0 as with
  | some _,some (i,j)=>(qM (i=0/\j=0)).bind fun _=>k (tL .nil) []
  | _,_=>none
 | .c (.v (.own o))=>match obT fx cur o with
  | some (.arr _ t' l)=>match dy P t,vS hl hh l.length as with
   | some (_,z),some (i,j)=>cond (Nat.beq z t'.cells) ((cut l i j).bind fun _=>k (tL (.sv o i j z)) []) none
   | _,_=>none
  | _=>none
 | _=>none
def Iw (n:Nat) (j m:Int):Option Unit:=cond (eqZ j n && eqZ m n) (some ()) none
def ND (t:TypeId) (x j m:TSl) (k:KE ρ):Option ρ :=
 match dy P t,x,j,m with
 | some (_,z),.c (.v (.v (.sl t') l)),.c (.v (.v (.int _) j)),.c (.v (.v (.int _) m))=>cond (Nat.beq z t'.cells) ((Iw l.length j m).bind fun _=>k (tV (.sl t') l) []) none
 | _,_,_,_=>none
def NF (t:TypeId) (d:Option Nat) (x:TSl) (k:KE ρ):Option ρ :=
 match d,gK P t,x with
 | some d,some n,.c c=>cond (mZ fx cur d && Nat.beq c.leaves.length n) (k (tL (.loc d 0)) [(d,.box t c.leaves)]) none
 | _,_,_=>none
def nc (et:TypeId):Option (Bool×List TL) :=
 match P.info? et with
 | some i=>match i.zero with
  | some v=>match cJ v with
   | .c c=>some ((match c with | .g _=>true | .v _=>false),c.leaves)
   | _=>none
  | none=>none
 | none=>none
def NG (agg:Bool) (ls:List TL):TC:=cond agg (.g ls) (.v (match ls with | x::_=>x | []=>.dead))
def TC.isAgg:TC->Bool
 | .g _=>true
 | .v _=>false
def vT (t:TypeId) (d:Option Nat) (k:KE ρ):Option ρ :=
 match P.underlying t,d,look H t with
 | some (.map kt et),some d,some te=>match P.underlying kt,nc P et with
  | some (.int kd),some (agg,z)=>cond (mZ fx cur d && te.gd) (kQ te z fun _=>k (tL (.mp d)) [(d,.fO kd agg te [])]) none
  | some .string,some (agg,z)=>cond (mZ fx cur d) (pq te z fun _=>k (tL (.mp d)) [(d,.fa agg te [])]) none
  | some (.struct _),some (agg,z)=>match Ai P kt with
   | some kd=>cond (mZ fx cur d && te.gd) (kQ te z fun _=>k (tL (.mp d)) [(d,.fb kd agg te [])]) none
   | none=>none
  | _,_=>none
 | _,_,_=>none
def sP (ok agg:Bool) (te:Ty) (r:Option te.den) (z:te.den) (k:KE ρ):Option ρ :=
 cond ok (k (.t [NG agg (dR te (r.getD z)),.v (.v .bool r.isSome)]) []) (k (.c (NG agg (dR te (r.getD z)))) [])
def zf (t:TypeId) (ok:Bool) (m x:TSl) (k:KE ρ):Option ρ :=
 match P.underlying t,m with
 | some (.map kt et),.c (.v (.mp o))=>match P.underlying kt,nc P et with
  | some kd,some (agg2,z)=>match obT fx cur o,x with
   | some (.fO kd2 agg te m),.c (.v (.v (.int kd3) n))=>match kd with
    | .int kd=>match IntKind.same kd kd2,IntKind.same kd3 kd with
     | some _,some _=>cond ((agg == agg2) && te.gd) (kQ te z fun z=>sP ok agg te (cM m n) z k) none
     | _,_=>none
    | _=>none
   | some (.fa agg te m),.c (.v (.v .str s))=>match kd with
    | .string=>cond (agg == agg2) (pq te z fun z=>sP ok agg te (cM m s) z k) none
    | _=>none
   | some (.fb kd2 agg te m),.c (.g [.v (.int kd3) n,.v .str s])=>match Ai P kt with
    | some kd=>match IntKind.same kd kd2,IntKind.same kd3 kd with
     | some _,some _=>cond ((agg == agg2) && te.gd) (kQ te z fun z=>sP ok agg te (cM m (n,s)) z k) none
     | _,_=>none
    | none=>none
   | _,_=>none
  | _,_=>none
 | _,_=>none
def ou (t:TypeId) (m x v:TSl) (k:KE ρ):Option ρ :=
 match P.underlying t,m,v with
 | some (.map kt et),.c (.v (.mp o)),.c c=>match P.underlying kt with
  | some kd=>match obT fx cur o,x with
   | some (.fO kd2 agg te m),.c (.v (.v (.int kd3) n))=>match kd with
    | .int kd=>match IntKind.same kd kd2,IntKind.same kd3 kd with
     | some _,some _=>cond ((agg == c.isAgg) && te.gd) (kQ te c.leaves fun y=>k .dead [(o,.fO kd2 agg te (gv m n y))]) none
     | _,_=>none
    | _=>none
   | some (.fa agg te m),.c (.v (.v .str s))=>match kd with
    | .string=>cond (agg == c.isAgg) (kQ te c.leaves fun y=>k .dead [(o,.fa agg te (gv m s y))]) none
    | _=>none
   | some (.fb kd2 agg te m),.c (.g [.v (.int kd3) n,.v .str s])=>match Ai P kt with
    | some kd=>match IntKind.same kd kd2,IntKind.same kd3 kd with
     | some _,some _=>cond ((agg == c.isAgg) && te.gd) (kQ te c.leaves fun y=>k .dead [(o,.fb kd2 agg te (gv m (n,s) y))]) none
     | _,_=>none
    | none=>none
   | _,_=>none
  | none=>none
 | _,_,_=>none
def NH (n m:Int):Option Unit:=qM (0<=n/\n=m/\n<=4294967296)
def OU {α:Type} (n:Int) (x:α):List α:=List.replicate n.toNat x
def Df (t:TypeId) (d:Option Nat) (x y:TSl) (k:KE ρ):Option ρ:=(fun _=>none) (P,H,fx,cur)
def sR (f:FuncId) (n:Nat) (l:Option (List Nat)) (k:KE ρ):Option ρ:=match l with | some l=>(match n with | 0=>k (tL (.fn (2 * f) l)) [] | n+1=>cond (Nat.beq l.length (n+1)) (k (tL (.fn (2 * f+1) l)) []) none) | none=>none
def uu (mx:Bool) (x y:TSl) (k:KE ρ):Option ρ :=
 match x,y with
 | .c (.v (.v (.int kd) a)),.c (.v (.v (.int kd') b))=>match IntKind.same kd kd' with | some _=>k (tV (.int kd) (mmT mx a b)) [] | none=>none
 | _,_=>none
def rD (mx:Bool) (x y z:TSl) (k:KE ρ):Option ρ :=
 match x,y,z with
 | .c (.v (.v (.int kd) a)),.c (.v (.v (.int kd') b)),.c (.v (.v (.int kd2) c))=>match IntKind.same kd kd',IntKind.same kd kd2 with | some _,some _=>k (tV (.int kd) (mmT mx (mmT mx a b) c)) [] | _,_=>none
 | _,_,_=>none
def MQ (m:Nat) (e:TypeId) (x i:TSl) (k:KE ρ):Option ρ:=(fun _=>none) (P,fx,cur)
def NI (t:TypeId) (x i:TSl) (k:KE ρ):Option ρ :=
 match P.underlying t with
 | some (.array m e)=>MQ P fx cur m e x i k
 | _=>qO P fx cur t x i k
def Dg (t:TypeId) (m x:TSl) (k:KE ρ):Option ρ:=(fun _=>none) P
def Dh (H:List (Nat×Ty)) (t:TypeId) (ok:Bool) (x:TSl) (k:KE ρ):Option ρ :=
 match P.underlying t,look H t with
 | some (.map kt et),some te=>match P.underlying kt,nc P et with
  | some .string,some (agg,z)=>match x with
   | .c (.v (.v .str _))=>pq te z fun z=>sP ok agg te none z k
   | _=>none
  | _,_=>none
 | _,_=>none
def Ix (H:List (Nat×Ty)) (t:TypeId) (ok:Bool) (m x:TSl) (k:KE ρ):Option ρ :=
 match m with
 | .c (.v (.oth (.map none)))=>Dh P H t ok x k
 | .c (.v (.v (.map _ _) _))=>cond ok none (Dg P t m x k)
 | _=>zf P fx cur t ok m x k
def MR (t:TypeId) (o:Nat) (x v:TSl) (k:KE ρ):Option ρ:=(fun _=>none) (P,fx,cur)
def NJ (t:TypeId) (m x v:TSl) (k:KE ρ):Option ρ :=
 match m with
 | .c (.v (.mp o))=>match obT fx cur o with
  | some (.kV _ _ _ _ _)=>MR P fx cur t o x v k
  | _=>ou P fx cur t m x v k
 | _=>ou P fx cur t m x v k
def KX {α:Type} (l:List α) (a b:Int) (z:α):List α:=l.take a.toNat++List.replicate (b.toNat-a.toNat) z++l.drop b.toNat
def Di (t:TypeId) (x:TSl) (k:KE ρ):Option ρ :=
 match dy P t,x with
 | some (e2,z2),.c (.v (.sv o a b z))=>match obT fx cur o,nc P e2 with
  | some (.arr e t' l),some (_,zl)=>cond (Nat.beq z t'.cells && Nat.beq z2 t'.cells && t'.gd) (kQ t' zl fun z0=>(qM (a.toNat<=b.toNat/\b.toNat<=l.length)).bind fun _=>k .dead [(o,.arr e t' (KX l a b z0))]) none
  | _,_=>none
 | _,_=>none
def F8 (t:TypeId) (d:Option Nat) (m x:TSl) (k:KE ρ):Option ρ:=(fun _=>none) (P,fx,cur)
def AX (m st v:TSl) (k:KE ρ):Option ρ:=(fun _=>none) (fx,cur)
def OV (t u:TypeId) (x y:TSl) (k:KE ρ):Option ρ:=(fun _=>none) (P,fx,cur)
def tCO (src dst:TypeId) (d:Option Nat) (x:TSl) (k:KE ρ):Option ρ:=(fun _=>none) (P,fx,cur)
def appT? {α:Type} (l m:List α):Option (List α):=match l,m with | _::_,_::_=>app? l m | _,_=>none
def xT (t:TypeId) (d:Option Nat) (x y:TSl) (k:KE ρ):Option ρ :=
 match x with
 | .c (.v (.tl t' l))=>match dy P t,d with
  | some (e,z),some d=>cond (mZ fx cur d && Nat.beq z t'.cells) (na fx cur t' y fun t2 m=>kP (.sl t2) (.sl t') m fun m=>(appT? l m).bind fun r=>k (tL (.own d)) [(d,.arr e t' r)]) none
  | _,_=>none
 | _=>ur P H fx cur t d x y k
def Iy (t:TypeId) (x y:TSl) (k:KE ρ):Option ρ :=
 match dy P t,x with
 | some (e,z),.c (.v (.own o))=>match obT fx cur o with
  | some (.arr e' t' l)=>cond (Nat.beq e e' && Nat.beq z t'.cells) (na fx cur t' y fun t2 m=>kP (.sl t2) (.sl t') m fun m=>(app? l m).bind fun r=>k (tV (.sl t') r) [(o,.gone)]) none
  | _=>none
 | _,_=>none
def MS (t t':TypeId) (d:Option Nat) (x y:TSl) (k:KE ρ):Option ρ:=(fun _=>none) (P,H,fx,cur)
def Iz (t t':TypeId) (d:Option Nat) (x:TSl) (s:Bs) (k:KE ρ):Option ρ :=
 match P.underlying t',dy P t,d with
 | some .string,some (e,z'),some d=>cond (Nat.beq z' 1 && mZ fx cur d) (match x with
  | .c (.v (.own o))=>match obT fx cur o with
   | some (.arr e' (.int .u8) l)=>cond (Nat.beq e' e) ((app? l (bJ s)).bind fun r=>k (tL (.own d)) [(o,.gone),(d,.arr e (.int .u8) r)]) none
   | _=>none
  | .c (.v .nil)=>(app? [] (bJ s)).bind fun r=>k (tL (.own d)) [(d,.arr e (.int .u8) r)]
  | _=>none) none
 | _,_,_=>none
def IB (t t':TypeId) (d:Option Nat) (x y:TSl) (k:KE ρ):Option ρ :=
 match y with
 | .c (.v (.v .str s))=>Iz P fx cur t t' d x s k
 | _=>MS P H fx cur t t' d x y k
def PL (t:TypeId) (x:TSl) (k:KE ρ):Option ρ:=(fun _=>none) P
def OW (t:TypeId) (d:Option Nat) (m x:TSl) (k:KE ρ):Option ρ:=(fun _=>none) (P,fx,cur)
def Es (t:TypeId) (hl hh:Bool) (d:Option Nat) (x:TSl) (as:List TSl) (k:KE ρ):Option ρ :=
 match x,d with
 | .c (.v (.own o)),some d=>match obT fx cur o with
  | some (.arr e t' l)=>match dy P t,vS hl hh l.length as with
   | some (_,z),some (i,j)=>cond (Nat.beq z t'.cells && mZ fx cur d) ((cut l i j).bind fun m=>k (tL (.own d)) [(o,.gone),(d,.arr e t' m)]) none
   | _,_=>none
  | _=>none
 | _,_=>none
def MT:BinOp->Bool
 | .eql | .neq=>true
 | _=>false
def MU (op:BinOp) (t:TypeId) (x y:TSl) (k:KE ρ):Option ρ:=(fun _=>none) (P,fx,cur)
def PM (t:TypeId) (d:Option Nat) (k:KE ρ):Option ρ:=(fun _=>none) (P,H,fx,cur)
def NK (t:TypeId) (d:Option Nat) (k:KE ρ):Option ρ:=(fun _=>none) (P,H,fx,cur)
end
end Go.Lad
