import Derived.Test.YtaocfjifacnokaaGreatU2
namespace Go.Lad
set_option linter.unusedVariables false
set_option linter.unusedSimpArgs false
open Go.RowKit
inductive TL where
 | dead
 | v (t:Ty) (x:t.den)
 | nil
 | loc (o off:Nat)
 | own (o:Nat)
 | el (o:Nat) (n:Int) (off z:Nat)
 | ip (t:Ty) (x:t.den) (off:Nat)
 | mp (o:Nat)
 | fn (f:FuncId) (caps:List Nat)
 | sv (o:Nat) (a b:Int) (z:Nat)
 | oth (v:Value)
 | nb (pos:Bool) (t:Ty) (l:List t.den)
 | tl (t:Ty) (l:List t.den)
inductive TC where
 | v (x:TL)
 | g (xs:List TL)
inductive TSl where
 | dead
 | c (x:TC)
 | t (l:List TC)
inductive cY where
 | gone
 | box (t:TypeId) (cs:List TL)
 | arr (e:TypeId) (t:Ty) (l:List t.den)
 | ix (k:IntKind) (agg:Bool) (t:Ty) (m:List (Int × t.den))
 | fi (agg:Bool) (t:Ty) (m:List (Bs × t.den))
 | iy (k:IntKind) (agg:Bool) (t:Ty) (m:List ((Int × Int) × t.den))
 | py (k:IntKind) (agg:Bool) (t:Ty) (m:List ((Int × Int) × t.den)) (key:Int × Int) (d:Nat)
 | jN (k:IntKind) (e:TypeId) (t:Ty) (m:List (Int × List t.den)) (h:Option Int)
 | lit (e:TypeId) (cs:List TL)
def L3 {κ V W:Type} (e:V → W) (m:List (κ × V)):List (κ × W):=m.map fun p=>(p.1,e p.2)
structure TSt where
 tm:List (Nat × TSl)
 hp:List (Nat × cY)
def TL.un:TL → aJ
 | .dead=>.dead
 | .v t x=>match enc t x with | [p]=>.p p | _=>.dead
 | .nil=>.nil
 | .loc o off=>.loc o off
 | .own o=>.own o
 | .el o n off z=>.el o n.toNat off z
 | .ip t x off=>.ip (enc t x) off
 | .mp o=>.mp o
 | .fn f caps=>.fn f caps
 | .sv o a b z=>.sv o a.toNat b.toNat z
 | .oth y=>.p (.oth y)
 | .nb pos t l=>.nb pos (l.map (enc t))
 | .tl t l=>.tl (l.map (enc t))
def TC.un:TC → Cmp
 | .v x=>.v x.un
 | .g xs=>.g (xs.map TL.un)
def TSl.un:TSl → Slot
 | .dead=>.dead
 | .c x=>.c x.un
 | .t l=>.t (l.map TC.un)
def cY.un:cY → dv
 | .gone=>.gone
 | .box t cs=>.box t (cs.map TL.un)
 | .arr e t l=>.arr e t.cells (l.map (enc t))
 | .ix k agg t m=>.ix k agg (lD id (enc t) m)
 | .fi agg t m=>.fi agg (lD mkS (enc t) m)
 | .iy k agg t m=>.iy k agg (lD mkQ (enc t) m)
 | .py k agg t m key d=>.py k agg (lD mkQ (enc t) m) (mkQ key) d
 | .jN k e t m h=>.jN k e t.cells (L3 (List.map (enc t)) m) h
 | .lit e cs=>.lit e (cs.map TL.un)
def kz (l:List (Nat × TSl)):List (Nat × Slot):=l.map fun x=>(x.1,x.2.un)
def dN (l:List (Nat × cY)):List (Nat × dv):=l.map fun x=>(x.1,x.2.un)
def TSt.un (s:TSt):St:=kU (kz s.tm) (dN s.hp)
def look {α:Type}:List (Nat × α) → Nat → Option α
 | [],_=>none
 | x :: r,k=>cond (Nat.beq k x.1) (some x.2) (look r k)
def pA {α:Type}:List (Nat × α) → Nat → α → List (Nat × α)
 | [],k,v=>[(k,v)]
 | x :: r,k,v=>cond (Nat.beq k x.1) ((k,v) :: r) (x :: pA r k v)
structure Dyn where
 t:Ty
 x:t.den
def Ds (g:Nat):Option Dyn:=none
theorem IY (g:Nat):wC g = (Ds g).map fun d=>enc d.t d.x:=rfl
def pH {α:Type} (l m:List (Nat × α)) (k:Nat):Option α:=match look l k with | some x=>some x | none=>look m k
def IZ:TL → TL
 | .v (.slu i) l=>.v (.sl (eH i)) (List.map (Uun i) l)
 | x=>x
def nrm:TSl → TSl
 | .c (.v x)=>.c (.v (IZ x))
 | x=>x
def evT (fx cur:TSt) (c:Value → TSl):Operand → TSl
 | .tmp t=>match pH cur.tm fx.tm t with | some x=>nrm x | none=>.dead
 | .const v=>c v
 | .global g=>match Ds g with | some d=>.c (.v (.ip d.t d.x 0)) | none=>.dead
 | .func f=>.c (.v (.fn (2 * f) []))
def obT (fx cur:TSt) (o:Nat):Option cY:=pH cur.hp fx.hp o
def un2 (fx cur:TSt):St:=kU (kz (cur.tm ++ fx.tm)) (dN (cur.hp ++ fx.hp))
def pg:Value → TL
 | .int k n=>cond (decide (k.min ≤ n) && decide (n ≤ k.max)) (.v (.int k) n) .dead
 | .bool b=>.v .bool b
 | .string s=>cond (Nat.ble s.size 9223372036854775807) (.v .str s.data.toList) .dead
 | .slice none 0 0=>.nil
 | .pointer none=>.oth (.pointer none)
 | .nilFunc=>.oth .nilFunc
 | .map none=>.oth (.map none)
 | .nilIface=>.oth .nilIface
 | _=>.dead
def da:Value → TSl
 | .agg cs=>cond (cs.all (·.oneCell')) (.c (.g (cs.toList.map pg))) .dead
 | .tuple _=>.dead
 | v=>.c (.v (pg v))
def Dt (P:Program) (t:TypeId):Option (List TL) :=
 match P.info? t with
 | some i=>match i.zero with
  | some v=>cond (v.cells.all (·.oneCell')) (some (v.cells.toList.map pg)) none
  | none=>none
 | none=>none
def dH:(t:Ty) → t.den → List TL
 | .any,x=>[.v .any x]
 | .int k,x=>[.v (.int k) x]
 | .bool,x=>[.v .bool x]
 | .str,x=>[.v .str x]
 | .sl e,x=>[.v (.sl e) x]
 | .map k e,x=>[.v (.map k e) x]
 | .slu i,x=>[.v (.sl (eH i)) (List.map (Uun i) x)]
 | .pair a b,x=>dH a x.1 ++ dH b x.2
def Ch {ρ:Type} (t:Ty) (l:TL) (k:t.den → Option ρ):Option ρ :=
 match l with
 | .v t' x=>sO t' t x k
 | _=>none
def Aj {ρ:Type}:(t:Ty) → List TL → (t.den → List TL → Option ρ) → Option ρ
 | .pair a b,ls,k=>Aj a ls fun x ls=>Aj b ls fun y ls=>k (x,y) ls
 | t,l :: ls,k=>Ch t l fun x=>k x ls
 | _,[],_=>none
def jG {ρ:Type} (t:Ty) (ls:List TL) (k:t.den → Option ρ):Option ρ:=Aj t ls fun x r=>match r with | []=>k x | _=>none
def TC.leaves:TC → List TL
 | TC.v x=>[x]
 | TC.g xs=>xs
def Ci (cs:List TL) (off n:Nat) (agg:Bool):Option TC :=
 cond agg (cond (Nat.ble (off + n) cs.length) (some (.g ((cs.drop off).take n))) none) ((cs[off]?).map .v)
def Ty.fK:Ty → Bool
 | .sl _=>false
 | .slu _=>false
 | .map _ _=>false
 | .pair a b=>a.fK && b.fK
 | _=>true
def leZ (a b:Int):Bool :=
 match a,b with
 | .ofNat m,.ofNat n=>Nat.ble m n
 | .ofNat _,.negSucc _=>false
 | .negSucc _,.ofNat _=>true
 | .negSucc m,.negSucc n=>Nat.ble n m
def ltZ (a b:Int):Bool := !leZ b a
def eqZ (a b:Int):Bool :=
 match a,b with
 | .ofNat m,.ofNat n=>Nat.beq m n
 | .negSucc m,.negSucc n=>Nat.beq m n
 | _,_=>false
theorem dk (a b:Int):leZ a b = decide (a ≤ b):=by
 unfold leZ
 split <;> rw[Bool.eq_iff_iff] <;> simp <;> omega
theorem ao (a b:Int):ltZ a b = decide (a < b):=by
 unfold ltZ; rw[dk,Bool.eq_iff_iff]; simp
theorem bg (a b:Int):eqZ a b = decide (a = b):=by
 cases a <;> cases b <;> simp only[eqZ] <;> rw[Bool.eq_iff_iff] <;> simp [Nat.beq_eq] <;> omega
def J8 (n:Int):Bool:=leZ (-9223372036854775808) n && leZ n 9223372036854775807
def z64 (n:Int):Option Int:=cond (J8 n) (some n) none
def inZ (k:IntKind) (n:Int):Bool:=leZ k.min n && leZ n k.max
def Kw (k:IntKind) (a b:Int):Option Int:=cond (!eqZ b 0 && inZ k (a.tdiv b)) (some (a.tdiv b)) none
def Kx (k:IntKind) (a b:Int):Option Int:=cond (!eqZ b 0 && inZ k (a.tmod b)) (some (a.tmod b)) none
theorem yH (n:Int):z64 n = i64? n:=by
 unfold z64 i64? J8
 rw[dk,dk]
 by_cases h : -9223372036854775808 ≤ n ∧ n ≤ 9223372036854775807
 ·rw[if_pos h]; simp [h]
 ·rw[if_neg h]
  have:(decide (-9223372036854775808 ≤ n) && decide (n ≤ 9223372036854775807)) = false:=by
   rw[Bool.eq_false_iff]; simpa using h
  rw[this]; rfl
def qF {α ρ:Type} [DecidableEq ρ] (l:List α) (A B:Option ρ):Option ρ :=
 match l with
 | []=>if A = B then B else none
 | _ :: _=>B
theorem uY {α ρ:Type} [DecidableEq ρ] {l:List α} {A B:Option ρ} {r:ρ} (h:qF l A B = some r):B = some r ∧ (l = [] → A = some r):=by
 unfold qF at h
 split at h
 ·split at h
  ·rename_i hc; exact⟨h,fun hl=>hc.trans h⟩
  ·cases h
 ·exact⟨h,fun hl=>by cases hl⟩
class Fuel where
 n:Nat
def bO [Fuel] {α β:Type} (body:α → Option (α ⊕ β)) (x:α):Option β:=iterM body Fuel.n x
theorem Ak [Fuel] {α β:Type} {body:α → Option (α ⊕ β)} {x:α} {r:β} (h:bO body x = some r):kx body x = some r:=iD.2 ⟨_,h⟩
section
variable {ρ:Type} (P:Program) (H:List (Nat × Ty)) (fx cur:TSt)
abbrev KE (ρ:Type):=TSl → List (Nat × cY) → Option ρ
abbrev tL (x:TL):TSl := .c (.v x)
abbrev tV (t:Ty) (x:t.den):TSl := .c (.v (.v t x))
def nT (d:Nat):Bool:=match obT fx cur d with | some _=>false | none=>Nat.ble (d + 1) 1000000
def mc (d:Ty) (x:TSl) (k:(t:Ty) → List t.den → Option ρ):Option ρ :=
 match x with
 | .c (.v (.v (.sl t) l))=>k t l
 | .c (.v .nil)=>k d []
 | .c (.v (.tl t l))=>k t l
 | .c (.v (.own o))=>match obT fx cur o with | some (.arr _ t l)=>k t l | _=>none
 | .c (.v (.sv o a b z))=>match obT fx cur o with | some (.arr _ t l)=>cond (Nat.beq z t.cells) ((cut l a b).bind fun m=>k t m) none | _=>none
 | _=>none
def J9 (x:TSl) (k:KE ρ):Option ρ:=k x []
def GK (c x y:TSl) (k:KE ρ):Option ρ :=
 match c with
 | .c (.v (.v .bool c))=>match x,y with
  | .c (.v (.v .bool x)),.c (.v (.v .bool y))=>k (tV .bool (cond c x y)) []
  | x,y=>k (cond c x y) []
 | _=>none
def Cj (t:TypeId) (d:Option Nat) (k:KE ρ):Option ρ :=
 match d,Dt P t with
 | some d,some cs=>cond (nT fx cur d) (k (tL (.loc d 0)) [(d,.box t cs)]) none
 | _,_=>none
def GL (t:TypeId) (x:TSl) (k:KE ρ):Option ρ :=
 match fZ P t with
 | none=>none
 | some n=>match x with
  | .c (.v (.loc o off))=>match obT fx cur o with
   | some (.box _ cs)=>match Ci cs off n (fJ P t) with | some c=>k (.c c) [] | none=>none
   | _=>none
  | .c (.v (.ip t' x off))=>match Ci (dH t' x) off n (fJ P t) with | some c=>k (.c c) [] | none=>none
  | .c (.v (.el o i off z))=>match obT fx cur o with
   | some (.arr _ t' l)=>cond (Nat.beq z t'.cells) ((idx l i).bind fun x=>match Ci (dH t' x) off n (fJ P t) with | some c=>k (.c c) [] | none=>none) none
   | _=>none
  | _=>none
def Ck (t:TypeId) (x v:TSl) (k:KE ρ):Option ρ :=
 match fZ P t,v with
 | some n,.c c=>match x with
  | .c (.v (.loc o off))=>match obT fx cur o with
   | some (.box bt cs)=>cond (Nat.beq c.leaves.length n && Nat.ble (off + n) cs.length) (k .dead [(o,.box bt (cs.take off ++ c.leaves ++ cs.drop (off + n)))]) none
   | _=>none
  | .c (.v (.el o i off z))=>match obT fx cur o with
   | some (.arr e t' l)=>cond (Nat.beq z t'.cells && Nat.beq c.leaves.length n && Nat.ble (off + n) z) ((idx l i).bind fun x=>jG t' ((dH t' x).take off ++ c.leaves ++ (dH t' x).drop (off + n)) fun y=>k .dead [(o,.arr e t' (l.set i.toNat y))]) none
   | _=>none
  | _=>none
 | _,_=>none
def Ky (x:TSl) (k:KE ρ):Option ρ :=
 match x with
 | .c (.v (.loc o off))=>k (tL (.loc o off)) []
 | .c (.v (.el o i off z))=>k (tL (.el o i off z)) []
 | .c (.v (.ip t x off))=>k (tL (.ip t x off)) []
 | _=>none
def pT (t:TypeId) (f:Nat) (x:TSl) (k:KE ρ):Option ρ :=
 match ki P t f with
 | some (j,_,_)=>match x with
  | .c (.v (.loc o off))=>k (tL (.loc o (off + j))) []
  | .c (.v (.el o i off z))=>k (tL (.el o i (off + j) z)) []
  | .c (.v (.ip t x off))=>k (tL (.ip t x (off + j))) []
  | _=>none
 | none=>none
def Cl (t:TypeId) (f:Nat) (x:TSl) (k:KE ρ):Option ρ :=
 match ki P t f,x with
 | some (j,n,agg),.c (.g xs)=>match Ci xs j n agg with | some c=>k (.c c) [] | none=>none
 | _,_=>none
def GM (a b n:Int) (m:Nat):Option Unit:=wK (0 ≤ a ∧ 0 ≤ n ∧ n < b - a ∧ b ≤ m)
def Kz (a b:Int):Int:=a + b
def pU (t:TypeId) (x i:TSl) (k:KE ρ):Option ρ :=
 match dW P t,i with
 | some (_,z),.c (.v (.v (.int _) n))=>match x with
  | .c (.v (.v (.sl t') l))=>cond (Nat.beq z t'.cells) ((idx l n).bind fun x=>k (tL (.ip t' x 0)) []) none
  | .c (.v (.own o))=>match obT fx cur o with
   | some (.arr _ t' l)=>cond (Nat.beq z t'.cells) ((idx l n).bind fun _=>k (tL (.el o n 0 z)) []) none
   | _=>none
  | .c (.v (.sv o a b z2))=>match obT fx cur o with
   | some (.arr _ t' l)=>cond (Nat.beq z t'.cells && Nat.beq z2 z) ((GM a b n l.length).bind fun _=>k (tL (.el o (Kz a n) 0 z)) []) none
   | _=>none
  | _=>none
 | _,_=>none
def tx:Ty → Bool
 | .pair _ _=>false
 | _=>true
def Du {ρ:Type} (t:Ty):List TL → (List t.den → Option ρ) → Option ρ
 | [],k=>k []
 | .v t' x :: r,k=>jF t' t x fun x=>Du t r fun l=>k (x :: l)
 | _,_=>none
def Cm (t:TypeId) (x i:TSl) (k:KE ρ):Option ρ :=
 match P.underlying t,x,i with
 | some .string,.c (.v (.v .str s)),.c (.v (.v (.int _) n))=>(bAt s n).bind fun c=>k (tV (.int .u8) c) []
 | some (.array m e),.c (.g xs),.c (.v (.v (.int _) n))=>match fZ P e,xs with
  | some 1,.v t x :: r=>cond (Nat.beq xs.length m && !fJ P e && tx t) (Du t xs fun l=>(idx l n).bind fun y=>k (tV t y) []) none
  | _,_=>none
 | _,_,_=>none
def ES (k:IntKind) (a n:Int):Option Int:=cond (leZ 0 n && inZ k (wD k a n)) (some (wD k a n)) none
def KA (k:IntKind) (a n:Int):Option Int:=cond (leZ 0 n) (some (IC k a n)) none
def GN (b:BinOp) (x y:TSl) (k:KE ρ):Option ρ :=
 match b,x,y with
 | .add,.c (.v (.v (.int .i64) a)),.c (.v (.v (.int .i64) b))=>k (tV (.int .i64) (IH a b)) []
 | _,_,_=>none
def tSh (op:BinOp) (x y:TSl) (k:KE ρ):Option ρ :=
 match x,y with
 | .c (.v (.v (.int kd) a)),.c (.v (.v (.int kd2) n))=>match op with
  | .shl=>(KA kd a n).bind fun c=>k (tV (.int kd) c) []
  | .shr=>(ES kd a n).bind fun c=>k (tV (.int kd) c) []
  | .and=>match IntKind.same kd kd2 with | some _=>k (tV (.int kd) (IA kd a n)) [] | none=>none
  | .or=>match IntKind.same kd kd2 with | some _=>k (tV (.int kd) (orI kd a n)) [] | none=>none
  | .xor=>match IntKind.same kd kd2 with | some _=>k (tV (.int kd) (IB kd a n)) [] | none=>none
  | .andNot=>match IntKind.same kd kd2 with | some _=>k (tV (.int kd) (anI kd a n)) [] | none=>none
  | _=>none
 | _,_=>none
def KB (op:BinOp) (kd:IntKind) (a b:Int) (k:KE ρ):Option ρ :=
 match op with
 | .add=>match IntKind.same kd .i64 with | some _=>(z64 (a + b)).bind fun c=>k (tV (.int .i64) c) [] | none=>k (tV (.int kd) (kd.wrap (a + b))) []
 | .sub=>match IntKind.same kd .i64 with | some _=>(z64 (a - b)).bind fun c=>k (tV (.int .i64) c) [] | none=>k (tV (.int kd) (kd.wrap (a - b))) []
 | .mul=>match IntKind.same kd .i64 with | some _=>(z64 (a * b)).bind fun c=>k (tV (.int .i64) c) [] | none=>k (tV (.int kd) (kd.wrap (a * b))) []
 | .quo=>(Kw kd a b).bind fun c=>k (tV (.int kd) c) []
 | .rem=>(Kx kd a b).bind fun c=>k (tV (.int kd) c) []
 | .eql=>k (tV .bool (eqZ a b)) []
 | .neq=>k (tV .bool (!eqZ a b)) []
 | .lss=>k (tV .bool (ltZ a b)) []
 | .leq=>k (tV .bool (leZ a b)) []
 | .gtr=>k (tV .bool (ltZ b a)) []
 | .geq=>k (tV .bool (leZ b a)) []
 | _=>none
def KC (op:BinOp) (a b:Bs) (k:KE ρ):Option ρ :=
 match op with
 | .add=>(cat? a b).bind fun c=>k (tV .str c) []
 | .eql=>k (tV .bool (decide (a = b))) []
 | .neq=>k (tV .bool (!decide (a = b))) []
 | .lss=>k (tV .bool (Op.bytesLess a b)) []
 | .leq=>k (tV .bool (Op.bytesLess a b || decide (a = b))) []
 | .gtr=>k (tV .bool (!(Op.bytesLess a b || decide (a = b)))) []
 | .geq=>k (tV .bool (!Op.bytesLess a b)) []
 | _=>none
def Cn (a b:Bool):Bool:=a == b
def MM (a:Int):Int := -a
def KD (op:BinOp) (t:TypeId) (x y:TSl) (k:KE ρ):Option ρ :=
 match x,y with
 | .c (.v (.v (.int kd) a)),.c (.v (.v (.int kd') b))=>match IntKind.same kd kd' with | some _=>KB op kd a b k | none=>none
 | .c (.v (.v .str a)),.c (.v (.v .str b))=>KC op a b k
 | .c (.v (.v .bool a)),.c (.v (.v .bool b))=>match op,P.underlying t with
  | .eql,some .bool=>k (tV .bool (Cn a b)) []
  | .neq,some .bool=>k (tV .bool (!Cn a b)) []
  | _,_=>none
 | .c (.v (.v (.sl t') l)),.c (.v .nil)=>match op,P.underlying t with
  | .eql,some (.slice _)=>k (tL (.nb true t' l)) []
  | .neq,some (.slice _)=>k (tL (.nb false t' l)) []
  | _,_=>none
 | .c (.v .nil),.c (.v .nil)=>match op,P.underlying t with
  | .eql,some (.slice _)=>k (tV .bool true) []
  | .neq,some (.slice _)=>k (tV .bool false) []
  | _,_=>none
 | .c (.v (.loc _ _)),.c (.v (.oth (.pointer none)))=>match op,P.underlying t with
  | .eql,some (.pointer _)=>k (tV .bool false) []
  | .neq,some (.pointer _)=>k (tV .bool true) []
  | _,_=>none
 | .c (.v (.oth (.pointer none))),.c (.v (.oth (.pointer none)))=>match op,P.underlying t with
  | .eql,some (.pointer _)=>k (tV .bool true) []
  | .neq,some (.pointer _)=>k (tV .bool false) []
  | _,_=>none
 | _,_=>none
def KG (a b:Bs):Bool:=decide (a = b)
def KH:(t:Ty) → t.den → t.den → Option Bool
 | .int _,a,b=>some (eqZ a b)
 | .str,a,b=>some (KG a b)
 | .bool,a,b=>some (Cn a b)
 | _,_,_=>none
def jd:List TL → List TL → Option Bool
 | [],[]=>some true
 | .v t x :: xs,.v t' y :: ys=>match Ty.same t' t with
  | some h=>match KH t x (jT h.down y) with
   | some a=>match xs,ys with
    | [],[]=>some a
    | _,_=>match jd xs ys with | some b=>some (a && b) | none=>none
   | none=>none
  | none=>none
 | _,_=>none
def eS (P:Program):Nat → List Field → List TL → Bool
 | _,[],[]=>true
 | i,f :: fs,.v (.int _) _ :: xs=>Nat.beq f.offset i && (f.name != "_") && (match P.underlying f.type with | some (.int _)=>true | _=>false) && eS P (i + 1) fs xs
 | i,f :: fs,.v .str _ :: xs=>Nat.beq f.offset i && (f.name != "_") && (match P.underlying f.type with | some .string=>true | _=>false) && eS P (i + 1) fs xs
 | i,f :: fs,.v .bool _ :: xs=>Nat.beq f.offset i && (f.name != "_") && (match P.underlying f.type with | some .bool=>true | _=>false) && eS P (i + 1) fs xs
 | _,_,_=>false
def KI (op:BinOp) (t:TypeId) (xs ys:List TL) (k:KE ρ):Option ρ :=
 match P.underlying t with
 | some (.struct fs)=>cond (eS P 0 fs.toList xs && !P.stoodInHeld t && !P.eqGuardType P.depth t)
  (match op,jd xs ys with
   | .eql,some r=>k (tV .bool r) []
   | .neq,some r=>k (tV .bool (!r)) []
   | _,_=>none) none
 | _=>none
def MN (a:Int):Int:=IntKind.u64.wrap (0 - a)
def tUn (op:UnOp) (x:TSl) (k:KE ρ):Option ρ :=
 match op,x with
 | .not,.c (.v (.v .bool a))=>k (tV .bool (!a)) []
 | .neg,.c (.v (.v (.int .u64) a))=>k (tV (.int .u64) (MN a)) []
 | .neg,.c (.v (.v (.int .i64) a))=>(z64 (MM a)).bind fun c=>k (tV (.int .i64) c) []
 | _,_=>none
def Al (l:List Int):Bs:=l.map fun n=>UInt8.ofNat n.toNat
def Co (l:Bs):List Int:=l.map fun b=>(b.toNat:Int)
def GO (src dst:TypeId) (x:TSl) (k:KE ρ):Option ρ :=
 match P.underlying src,P.underlying dst with
 | some (.int _),some (.int k')=>match x with
  | .c (.v (.v (.int kd) n))=>match IntKind.same k' .i64,IntKind.same kd .u64 with
   | some _,none=>k (tV (.int .i64) n) []
   | _,_=>k (tV (.int k') (k'.wrap n)) []
  | _=>none
 | some .string,some .string=>match x with
  | .c (.v (.v .str s))=>k (tV .str s) []
  | _=>none
 | some (.slice _),some .string=>match dW P src with
  | some (e,1)=>match P.underlying e with
   | some (.int .u8)=>mc fx cur (.int .u8) x fun t l=>jF (.sl t) (.sl (.int .u8)) l fun l=>(wK ((Al l).length ≤ 9223372036854775807)).bind fun _=>k (tV .str (Al l)) []
   | _=>none
  | _=>none
 | some .string,some (.slice el)=>match P.underlying el with
  | some (.int .u8)=>match x with
   | .c (.v (.v .str s))=>k (tV (.sl (.int .u8)) (Co s)) []
   | _=>none
  | _=>none
 | _,_=>none
def uZ (i:Nat) (x:TSl) (k:KE ρ):Option ρ :=
 match x with
 | .t l=>match l[i]? with | some c=>k (.c c) [] | none=>none
 | _=>none
def Am:List TL → List (Nat × Nat × TC) → Option (List TL)
 | cs,[]=>some cs
 | cs,(off,n,c) :: r=>cond (Nat.beq c.leaves.length n && Nat.ble (off + n) cs.length) (Am (cs.take off ++ c.leaves ++ cs.drop (off + n)) r) none
def u0 (pl:List (Nat × Nat)):List Nat → List TSl → Option (List (Nat × Nat × TC))
 | [],[]=>some []
 | i :: is,.c c :: r=>match pl[i]?,u0 pl is r with | some (o,n),some l=>some ((o,n,c) :: l) | _,_=>none
 | _,_=>none
def Cp (t:TypeId) (is:List Nat) (args:List TSl) (k:KE ρ):Option ρ :=
 match placesOf P t,Dt P t with
 | some pl,some z=>match u0 pl is args with
  | some l=>match Am z l with | some cs=>k (.c (.g cs)) [] | none=>none
  | none=>none
 | _,_=>none
def Dv {ρ:Type} (t:Ty):List TSl → (List t.den → Option ρ) → Option ρ
 | [],k=>k []
 | .c c :: r,k=>jG t c.leaves fun x=>Dv t r fun l=>k (x :: l)
 | _,_=>none
def GP {ρ:Type} (t:Ty) (l:TL) (k:t.den → Option ρ):Option ρ :=
 match l with
 | .v t' x=>sO t' t x k
 | .nil=>GJ t k
 | _=>none
def Ao {ρ:Type}:(t:Ty) → List TL → (t.den → List TL → Option ρ) → Option ρ
 | .pair a b,ls,k=>Ao a ls fun x ls=>Ao b ls fun y ls=>k (x,y) ls
 | t,l :: ls,k=>GP t l fun x=>k x ls
 | _,[],_=>none
def pV {ρ:Type} (t:Ty) (ls:List TL) (k:t.den → Option ρ):Option ρ:=Ao t ls fun x r=>match r with | []=>k x | _=>none
def Dw {ρ:Type} (t:Ty):List TSl → (List t.den → Option ρ) → Option ρ
 | [],k=>k []
 | .c c :: r,k=>pV t c.leaves fun x=>Dw t r fun l=>k (x :: l)
 | _,_=>none
def ph:Nat → List Nat → Bool
 | _,[]=>true
 | i,x :: r=>Nat.beq i x && ph (i + 1) r
def oC (t:TypeId) (len:Nat) (is:List Nat) (d:Option Nat) (args:List TSl) (k:KE ρ):Option ρ :=
 match dW P t,d,look H t with
 | some (e,z),some d,some te=>cond (ph 0 is && Nat.beq is.length len && nT fx cur d && Nat.ble len 100 && Nat.ble z 1000 && Nat.beq z te.cells) (Dv te args fun l=>k (tL (.own d)) [(d,.arr e te l)]) none
 | _,_,_=>none
def GQ:List TSl → Option (List TL)
 | []=>some []
 | .c (.v x) :: r=>match GQ r with | some l=>some (x :: l) | none=>none
 | _=>none
def rU (t:TypeId) (len:Nat) (is:List Nat) (d:Option Nat) (args:List TSl) (k:KE ρ):Option ρ :=
 match dW P t,d,GQ args with
 | some (e,z),some d,some cs=>cond (ph 0 is && Nat.beq is.length len && nT fx cur d && Nat.ble len 100 && Nat.beq z 1) (k (tL (.own d)) [(d,.lit e cs)]) none
 | _,_,_=>none
def KJ:TL → Bool
 | .own _=>true
 | _=>false
def ownRow:TSl → Bool
 | .c (.v x)=>KJ x
 | _=>false
def u5 (t:TypeId) (len:Nat) (is:List Nat) (d:Option Nat) (args:List TSl) (k:KE ρ):Option ρ :=
 cond (args.any ownRow) (rU P fx cur t len is d args k) (oC P H fx cur t len is d args k)
def L4 (tl:Bool) (te:Ty) (l:List te.den):TL:=cond tl (.tl te l) (.v (.sl te) l)
def yI (tl:Bool) (t:TypeId) (len:Nat) (is:List Nat) (args:List TSl) (k:KE ρ):Option ρ :=
 match dW P t,look H t with
 | some (e,z),some te=>cond (ph 0 is && Nat.beq is.length len && Nat.ble len 100 && Nat.ble z 1000 && Nat.beq z te.cells) (Dw te args fun l=>k (tL (L4 tl te l)) []) none
 | _,_=>none
def KK (t:TypeId) (x:TSl) (k:KE ρ):Option ρ :=
 match P.underlying t with
 | some (.map _ _)=>match x with
  | .c (.v (.mp o))=>match obT fx cur o with
   | some (.ix _ _ _ m)=>(wK (m.length ≤ 9223372036854775807)).bind fun _=>k (tV (.int .i64) (m.length:Int)) []
   | some (.iy _ _ _ m)=>(wK (m.length ≤ 9223372036854775807)).bind fun _=>k (tV (.int .i64) (m.length:Int)) []
   | some (.fi _ _ m)=>(wK (m.length ≤ 9223372036854775807)).bind fun _=>k (tV (.int .i64) (m.length:Int)) []
   | _=>none
  | _=>none
 | some .string=>match x with
  | .c (.v (.v .str s))=>k (tV (.int .i64) (s.length:Int)) []
  | _=>none
 | some (.slice _)=>mc fx cur .bool x fun _ l=>k (tV (.int .i64) (l.length:Int)) []
 | _=>none
def tz (t:TypeId) (d:Option Nat) (x y:TSl) (k:KE ρ):Option ρ :=
 match dW P t,d with
 | some (e,z),some d=>cond (nT fx cur d) (match x with
  | .c (.v (.own o))=>match obT fx cur o with
   | some (.arr e' t' l)=>cond (Nat.beq e e' && Nat.beq z t'.cells) (mc fx cur t' y fun t2 m=>jF (.sl t2) (.sl t') m fun m=>(app? l m).bind fun r=>k (tL (.own d)) [(o,.gone),(d,.arr e t' r)]) none
   | _=>none
  | .c (.v .nil)=>match look H t with
   | some te=>cond (Nat.beq z te.cells) (mc fx cur te y fun t2 m=>jF (.sl t2) (.sl te) m fun m=>(app? [] m).bind fun r=>k (tL (.own d)) [(d,.arr e te r)]) none
   | none=>none
  | _=>none) none
 | _,_=>none
def xo (hl hh:Bool) (n:Nat) (as:List TSl):Option (Int × Int) :=
 match hl,hh,as with
 | false,false,[]=>some (0,n)
 | true,false,[.c (.v (.v (.int _) i))]=>some (i,n)
 | false,true,[.c (.v (.v (.int _) j))]=>some (0,j)
 | true,true,[.c (.v (.v (.int _) i)),.c (.v (.v (.int _) j))]=>some (i,j)
 | _,_,_=>none
def yJ (t:TypeId) (hl hh:Bool) (x:TSl) (as:List TSl) (k:KE ρ):Option ρ :=
 match x with
 | .c (.v (.v .str s))=>match P.underlying t,xo hl hh s.length as with
  | some .string,some (i,j)=>(cut s i j).bind fun r=>k (tV .str r) []
  | _,_=>none
 | .c (.v (.v (.sl t') l))=>match dW P t,xo hl hh l.length as with
  | some (_,z),some (i,j)=>cond (Nat.beq z t'.cells) ((cut l i j).bind fun r=>k (tV (.sl t') r) []) none
  | _,_=>none
 | .c (.v .nil)=>match dW P t,xo hl hh 0 as with
  | some _,some (i,j)=>(wK (i = 0 ∧ j = 0)).bind fun _=>k (tL .nil) []
  | _,_=>none
 | .c (.v (.own o))=>match obT fx cur o with
  | some (.arr _ t' l)=>match dW P t,xo hl hh l.length as with
   | some (_,z),some (i,j)=>cond (Nat.beq z t'.cells) ((cut l i j).bind fun _=>k (tL (.sv o i j z)) []) none
   | _,_=>none
  | _=>none
 | _=>none
def MO (t:TypeId) (x j m:TSl) (k:KE ρ):Option ρ:=(fun _=>none) P
def KL (t:TypeId) (d:Option Nat) (x:TSl) (k:KE ρ):Option ρ :=
 match d,fZ P t,x with
 | some d,some n,.c c=>cond (nT fx cur d && Nat.beq c.leaves.length n) (k (tL (.loc d 0)) [(d,.box t c.leaves)]) none
 | _,_,_=>none
def nv (et:TypeId):Option (Bool × List TL) :=
 match P.info? et with
 | some i=>match i.zero with
  | some v=>match da v with
   | .c c=>some ((match c with | .g _=>true | .v _=>false),c.leaves)
   | _=>none
  | none=>none
 | none=>none
def KM (agg:Bool) (ls:List TL):TC:=cond agg (.g ls) (.v (match ls with | x :: _=>x | []=>.dead))
def TC.isAgg:TC → Bool
 | .g _=>true
 | .v _=>false
def u6 (t:TypeId) (d:Option Nat) (k:KE ρ):Option ρ :=
 match P.underlying t,d,look H t with
 | some (.map kt et),some d,some te=>match P.underlying kt,nv P et with
  | some (.int kd),some (agg,z)=>cond (nT fx cur d && te.fK) (jG te z fun _=>k (tL (.mp d)) [(d,.ix kd agg te [])]) none
  | some .string,some (agg,z)=>cond (nT fx cur d) (pV te z fun _=>k (tL (.mp d)) [(d,.fi agg te [])]) none
  | some (.struct _),some (agg,z)=>match zC P kt with
   | some kd=>cond (nT fx cur d && te.fK) (jG te z fun _=>k (tL (.mp d)) [(d,.iy kd agg te [])]) none
   | none=>none
  | _,_=>none
 | _,_,_=>none
def rV (ok agg:Bool) (te:Ty) (r:Option te.den) (z:te.den) (k:KE ρ):Option ρ :=
 cond ok (k (.t [KM agg (dH te (r.getD z)),.v (.v .bool r.isSome)]) []) (k (.c (KM agg (dH te (r.getD z)))) [])
def yK (t:TypeId) (ok:Bool) (m x:TSl) (k:KE ρ):Option ρ :=
 match P.underlying t,m with
 | some (.map kt et),.c (.v (.mp o))=>match P.underlying kt,nv P et with
  | some kd,some (agg2,z)=>match obT fx cur o,x with
   | some (.ix kd2 agg te m),.c (.v (.v (.int kd3) n))=>match kd with
    | .int kd=>match IntKind.same kd kd2,IntKind.same kd3 kd with
     | some _,some _=>cond ((agg == agg2) && te.fK) (jG te z fun z=>rV ok agg te (cD m n) z k) none
     | _,_=>none
    | _=>none
   | some (.fi agg te m),.c (.v (.v .str s))=>match kd with
    | .string=>cond (agg == agg2) (pV te z fun z=>rV ok agg te (cD m s) z k) none
    | _=>none
   | some (.iy kd2 agg te m),.c (.g [.v (.int kd3) n,.v (.int .i64) s])=>match zC P kt with
    | some kd=>match IntKind.same kd kd2,IntKind.same kd3 kd with
     | some _,some _=>cond ((agg == agg2) && te.fK) (jG te z fun z=>rV ok agg te (cD m (n,s)) z k) none
     | _,_=>none
    | none=>none
   | _,_=>none
  | _,_=>none
 | _,_=>none
def nw (t:TypeId) (m x v:TSl) (k:KE ρ):Option ρ :=
 match P.underlying t,m,v with
 | some (.map kt et),.c (.v (.mp o)),.c c=>match P.underlying kt with
  | some kd=>match obT fx cur o,x with
   | some (.ix kd2 agg te m),.c (.v (.v (.int kd3) n))=>match kd with
    | .int kd=>match IntKind.same kd kd2,IntKind.same kd3 kd with
     | some _,some _=>cond ((agg == c.isAgg) && te.fK) (jG te c.leaves fun y=>k .dead [(o,.ix kd2 agg te (fE m n y))]) none
     | _,_=>none
    | _=>none
   | some (.fi agg te m),.c (.v (.v .str s))=>match kd with
    | .string=>cond (agg == c.isAgg) (jG te c.leaves fun y=>k .dead [(o,.fi agg te (fE m s y))]) none
    | _=>none
   | some (.iy kd2 agg te m),.c (.g [.v (.int kd3) n,.v (.int .i64) s])=>match zC P kt with
    | some kd=>match IntKind.same kd kd2,IntKind.same kd3 kd with
     | some _,some _=>cond ((agg == c.isAgg) && te.fK) (jG te c.leaves fun y=>k .dead [(o,.iy kd2 agg te (fE m (n,s) y))]) none
     | _,_=>none
    | none=>none
   | _,_=>none
  | none=>none
 | _,_,_=>none
def KN (n m:Int):Option Unit:=wK (0 ≤ n ∧ n = m ∧ n ≤ 4294967296)
def L5 {α:Type} (n:Int) (x:α):List α:=List.replicate n.toNat x
def Cq (t:TypeId) (d:Option Nat) (x y:TSl) (k:KE ρ):Option ρ:=(fun _=>none) (P,H,fx,cur)
def rW (f:FuncId) (n:Nat) (l:Option (List Nat)) (k:KE ρ):Option ρ:=match l with | some l=>(match n with | 0=>k (tL (.fn (2 * f) l)) [] | n + 1=>cond (Nat.beq l.length (n + 1)) (k (tL (.fn (2 * f + 1) l)) []) none) | none=>none
def Dx (mx:Bool) (x y:TSl) (k:KE ρ):Option ρ:=none
def Ka (m:Nat) (e:TypeId) (x i:TSl) (k:KE ρ):Option ρ:=(fun _=>none) (P,fx,cur)
def KO (t:TypeId) (x i:TSl) (k:KE ρ):Option ρ :=
 match P.underlying t with
 | some (.array m e)=>Ka P fx cur m e x i k
 | _=>pU P fx cur t x i k
def Cr (t:TypeId) (m x:TSl) (k:KE ρ):Option ρ:=(fun _=>none) P
def Cs (H:List (Nat × Ty)) (t:TypeId) (ok:Bool) (x:TSl) (k:KE ρ):Option ρ :=
 match P.underlying t,look H t with
 | some (.map kt et),some te=>match P.underlying kt,nv P et with
  | some .string,some (agg,z)=>match x with
   | .c (.v (.v .str _))=>pV te z fun z=>rV ok agg te none z k
   | _=>none
  | _,_=>none
 | _,_=>none
def GR (H:List (Nat × Ty)) (t:TypeId) (ok:Bool) (m x:TSl) (k:KE ρ):Option ρ :=
 match m with
 | .c (.v (.oth (.map none)))=>Cs P H t ok x k
 | .c (.v (.v (.map _ _) _))=>cond ok none (Cr P t m x k)
 | _=>yK P fx cur t ok m x k
def Kb (t:TypeId) (o:Nat) (x v:TSl) (k:KE ρ):Option ρ:=(fun _=>none) (P,fx,cur)
def KP (t:TypeId) (m x v:TSl) (k:KE ρ):Option ρ :=
 match m with
 | .c (.v (.mp o))=>match obT fx cur o with
  | some (.jN _ _ _ _ _)=>Kb P fx cur t o x v k
  | _=>nw P fx cur t m x v k
 | _=>nw P fx cur t m x v k
def KQ (t:TypeId) (x:TSl) (k:KE ρ):Option ρ:=(fun _=>none) (P,fx,cur)
def ET (t:TypeId) (d:Option Nat) (m x:TSl) (k:KE ρ):Option ρ:=(fun _=>none) (P,fx,cur)
def Ap (m st v:TSl) (k:KE ρ):Option ρ:=(fun _=>none) (fx,cur)
def L6 (t u:TypeId) (x y:TSl) (k:KE ρ):Option ρ:=(fun _=>none) (P,fx,cur)
def tCO (src dst:TypeId) (d:Option Nat) (x:TSl) (k:KE ρ):Option ρ:=(fun _=>none) (P,fx,cur)
def appT? {α:Type} (l m:List α):Option (List α):=match l,m with | _ :: _,_ :: _=>app? l m | _,_=>none
def xp (t:TypeId) (d:Option Nat) (x y:TSl) (k:KE ρ):Option ρ :=
 match x with
 | .c (.v (.tl t' l))=>match dW P t,d with
  | some (e,z),some d=>cond (nT fx cur d && Nat.beq z t'.cells) (mc fx cur t' y fun t2 m=>jF (.sl t2) (.sl t') m fun m=>(appT? l m).bind fun r=>k (tL (.own d)) [(d,.arr e t' r)]) none
  | _,_=>none
 | _=>tz P H fx cur t d x y k
def GS (t:TypeId) (x y:TSl) (k:KE ρ):Option ρ :=
 match dW P t,x with
 | some (e,z),.c (.v (.own o))=>match obT fx cur o with
  | some (.arr e' t' l)=>cond (Nat.beq e e' && Nat.beq z t'.cells) (mc fx cur t' y fun t2 m=>jF (.sl t2) (.sl t') m fun m=>(app? l m).bind fun r=>k (tV (.sl t') r) [(o,.gone)]) none
  | _=>none
 | _,_=>none
def L7 (t t':TypeId) (d:Option Nat) (x y:TSl) (k:KE ρ):Option ρ:=(fun _=>none) (P,H,fx,cur)
def MP (t:TypeId) (x:TSl) (k:KE ρ):Option ρ:=(fun _=>none) P
def L8 (t:TypeId) (d:Option Nat) (m x:TSl) (k:KE ρ):Option ρ:=(fun _=>none) (P,fx,cur)
def Kc (t:TypeId) (hl hh:Bool) (d:Option Nat) (x:TSl) (as:List TSl) (k:KE ρ):Option ρ:=(fun _=>none) (P,fx,cur)
def Kd:BinOp → Bool
 | .eql | .neq=>true
 | _=>false
def Ke (op:BinOp) (t:TypeId) (x y:TSl) (k:KE ρ):Option ρ:=(fun _=>none) (P,fx,cur)
def MQ (t:TypeId) (d:Option Nat) (k:KE ρ):Option ρ:=(fun _=>none) (P,H,fx,cur)
def KR (t:TypeId) (d:Option Nat) (k:KE ρ):Option ρ:=(fun _=>none) (P,H,fx,cur)
end
end Go.Lad
