import Derived.Test.YtcppfkflcigjcaaGreatDoorFF
set_option linter.unusedVariables false
set_option linter.unusedSimpArgs false
set_option linter.unusedSectionVars false
namespace Go.Lad
open Go.RowKit
inductive TL where
 | dead
 | v (t:Ty) (x:t.den)
 | nil
 | loc (o off:Nat)
 | own (o:Nat)
 | el (o:Nat) (n:Int) (off z:Nat)
 | ip (t:Ty) (x:t.den) (off:Nat)
 | mp (o:Nat)
 | fn (f:FuncId) (caps:List Nat)
 | sv (o:Nat) (a b:Int) (z:Nat)
 | oth (v:Value)
 | nb (pos:Bool) (t:Ty) (l:List t.den)
 | tl (t:Ty) (l:List t.den)
 | ps (o:Nat)
inductive TC where
 | v (x:TL)
 | g (xs:List TL)
inductive TSl where
 | dead
 | c (x:TC)
 | t (l:List TC)
inductive bI where
 | gone
 | box (t:TypeId) (cs:List TL)
 | arr (e:TypeId) (t:Ty) (l:List t.den)
 | kx (k:IntKind) (agg:Bool) (t:Ty) (m:List (Int×t.den))
 | iJ (agg:Bool) (t:Ty) (m:List (Bs×t.den))
 | fM (k:IntKind) (agg:Bool) (t:Ty) (m:List ((Bs×Int×Int×Int×Bs)×t.den))
 | sU (k:IntKind) (agg:Bool) (t:Ty) (m:List ((Bs×Int×Int×Int×Bs)×t.den)) (key:Bs×Int×Int×Int×Bs) (d:Nat)
 | gI (k:IntKind) (e:TypeId) (t:Ty) (m:List (Int×List t.den)) (h:Option Int)
 | lit (e:TypeId) (cs:List TL)
def wy {κ V W:Type} (e:V->W) (m:List (κ×V)):List (κ×W):=m.map fun p=>(p.1,e p.2)
theorem CR {κ V W:Type} (e:V->W) (m:List (κ×V)):(wy e m).map (·.1)=m.map (·.1):=by unfold wy; rw[List.map_map]; rfl
theorem z6 {κ V W:Type} [DecidableEq κ] (e:V->W) (m:List (κ×V)) (k:κ):bG (wy e m) k=(bG m k).map e:=by
 unfold bG;rw[CR];cases pos (m.map (·.1)) k with
 | none=>rfl
 | some i =>
  show ((wy e m)[i]?).map _=((m[i]?).map _).map e;unfold wy;rw[List.getElem?_map];cases m[i]? <;> rfl
theorem Kc {κ V W:Type} [DecidableEq κ] (e:V->W) (m:List (κ×V)) (k:κ) (v:V):fa (wy e m) k (e v)=wy e (fa m k v):=by
 unfold fa;rw[CR];cases pos (m.map (·.1)) k with
 | none=>unfold wy; rw[List.map_append]; rfl
 | some i=>unfold wy; rw[List.map_set]
structure TSt where
 tm:List (Nat×TSl)
 hp:List (Nat×bI)
def TL.un:TL->av
 | .dead=>.dead
 | .v t x=>match enc t x with | [p]=>.p p | _=>.dead
 | .nil=>.nil
 | .loc o off=>.loc o off
 | .own o=>.own o
 | .el o n off z=>.el o n.toNat off z
 | .ip t x off=>.ip (enc t x) off
 | .mp o=>.mp o
 | .fn f caps=>.fn f caps
 | .sv o a b z=>.sv o a.toNat b.toNat z
 | .oth y=>.p (.oth y)
 | .nb pos t l=>.nb pos (l.map (enc t))
 | .tl t l=>.tl (l.map (enc t))
 | .ps o=>.ps o
def TC.un:TC->Cmp
 | .v x=>.v x.un
 | .g xs=>.g (xs.map TL.un)
def TSl.un:TSl->Slot
 | .dead=>.dead
 | .c x=>.c x.un
 | .t l=>.t (l.map TC.un)
def bI.un:bI->cu
 | .gone=>.gone
 | .box t cs=>.box t (cs.map TL.un)
 | .arr e t l=>.arr e t.cells (l.map (enc t))
 | .kx k agg t m=>.kx k agg (oX id (enc t) m)
 | .iJ agg t m=>.iJ agg (oX mkS (enc t) m)
 | .fM k agg t m=>.fM k agg (oX mkQ (enc t) m)
 | .sU k agg t m key d=>.sU k agg (oX mkQ (enc t) m) (mkQ key) d
 | .gI k e t m h=>.gI k e t.cells (wy (List.map (enc t)) m) h
 | .lit e cs=>.lit e (cs.map TL.un)
def nU (l:List (Nat×TSl)):List (Nat×Slot):=l.map fun x=>(x.1,x.2.un)
def du (l:List (Nat×bI)):List (Nat×cu):=l.map fun x=>(x.1,x.2.un)
def TSt.un (s:TSt):St:=oy (nU s.tm) (du s.hp)
def look {α:Type}:List (Nat×α)->Nat->Option α
 | [],_=>none
 | x::r,k=>cond (Nat.beq k x.1) (some x.2) (look r k)
def sX {α:Type}:List (Nat×α)->Nat->α->List (Nat×α)
 | [],k,v=>[(k,v)]
 | x::r,k,v=>cond (Nat.beq k x.1) ((k,v)::r) (x::sX r k v)
structure Dyn where
 t:Ty
 x:t.den
def Gi (g:Nat):Option Dyn :=
 match g with
 | 1=>some ⟨.pair .str (.pair .str (.pair .str (.pair .str (.pair .str (.pair .str (.pair .str (.pair .str (.pair .str (.pair .str (.pair .str (.pair .str (.pair .str (.str))))))))))))),(([61,61]:Bs),([59]:Bs),([44]:Bs),([61]:Bs),([60]:Bs),([43]:Bs),([45]:Bs),([42]:Bs),([46]:Bs),([33]:Bs),([40]:Bs),([41]:Bs),([123]:Bs),([125]:Bs))⟩
 | _=>none
theorem M5 (g:Nat):zb g=(Gi g).map fun d=>enc d.t d.x:=by
 match g with
 | 0=>rfl
 | 1=>rfl
 | n+2=>rfl
def rM {α:Type} (l m:List (Nat×α)) (k:Nat):Option α:=match look l k with | some x=>some x | none=>look m k
def M6:TL->TL
 | .v (.slu i) l=>.v (.sl (jI i)) (List.map (Uun i) l)
 | x=>x
def nrm:TSl->TSl
 | .c (.v x)=>.c (.v (M6 x))
 | x=>x
def evT (fx cur:TSt) (c:Value->TSl):Operand->TSl
 | .tmp t=>match rM cur.tm fx.tm t with | some x=>nrm x | none=>.dead
 | .const v=>c v
 | .global g=>match Gi g with | some d=>.c (.v (.ip d.t d.x 0)) | none=>.dead
 | .func f=>.c (.v (.fn (2 * f) []))
def obT (fx cur:TSt) (o:Nat):Option bI:=rM cur.hp fx.hp o
def un2 (fx cur:TSt):St:=oy (nU (cur.tm++fx.tm)) (du (cur.hp++fx.hp))
def sC:Value->TL
 | .int k n=>cond (decide (k.min<=n) && decide (n<=k.max)) (.v (.int k) n) .dead
 | .bool b=>.v .bool b
 | .string s=>cond (Nat.ble s.size 9223372036854775807) (.v .str s.data.toList) .dead
 | .slice none 0 0=>.nil
 | .pointer none=>.oth (.pointer none)
 | .nilFunc=>.oth .nilFunc
 | .map none=>.oth (.map none)
 | .nilIface=>.oth .nilIface
 | _=>.dead
def cq:Value->TSl
 | .agg cs=>cond (cs.all (·.oneCell')) (.c (.g (cs.toList.map sC))) .dead
 | .tuple _=>.dead
 | v=>.c (.v (sC v))
def Gj (P:Program) (t:TypeId):Option (List TL) :=
 match P.info? t with
 | some i=>match i.zero with
  | some v=>cond (v.cells.all (·.oneCell')) (some (v.cells.toList.map sC)) none
  | none=>none
 | none=>none
def dF:(t:Ty)->t.den->List TL
 | .any,x=>[.v .any x]
 | .int k,x=>[.v (.int k) x]
 | .bool,x=>[.v .bool x]
 | .str,x=>[.v .str x]
 | .sl e,x=>[.v (.sl e) x]
 | .map k e,x=>[.v (.map k e) x]
 | .slu i,x=>[.v (.sl (jI i)) (List.map (Uun i) x)]
 | .pair a b,x=>dF a x.1++dF b x.2
def EZ {ρ:Type} (t:Ty) (l:TL) (k:t.den->Option ρ):Option ρ :=
 match l with
 | .v t' x=>v7 t' t x k
 | _=>none
def CS {ρ:Type}:(t:Ty)->List TL->(t.den->List TL->Option ρ)->Option ρ
 | .pair a b,ls,k=>CS a ls fun x ls=>CS b ls fun y ls=>k (x,y) ls
 | t,l::ls,k=>EZ t l fun x=>k x ls
 | _,[],_=>none
def k7 {ρ:Type} (t:Ty) (ls:List TL) (k:t.den->Option ρ):Option ρ:=CS t ls fun x r=>match r with | []=>k x | _=>none
def TC.leaves:TC->List TL
 | TC.v x=>[x]
 | TC.g xs=>xs
def E0 (cs:List TL) (off n:Nat) (agg:Bool):Option TC :=
 cond agg (cond (Nat.ble (off+n) cs.length) (some (.g ((cs.drop off).take n))) none) ((cs[off]?).map .v)
def Ty.gw:Ty->Bool
 | .sl _=>false
 | .slu _=>false
 | .map _ _=>false
 | .pair a b=>a.gw && b.gw
 | _=>true
def leZ (a b:Int):Bool :=
 match a,b with
 | .ofNat m,.ofNat n=>Nat.ble m n
 | .ofNat _,.negSucc _=>false
 | .negSucc _,.ofNat _=>true
 | .negSucc m,.negSucc n=>Nat.ble n m
def ltZ (a b:Int):Bool := !leZ b a
def eqZ (a b:Int):Bool :=
 match a,b with
 | .ofNat m,.ofNat n=>Nat.beq m n
 | .negSucc m,.negSucc n=>Nat.beq m n
 | _,_=>false
theorem gC (a b:Int):leZ a b=decide (a<=b):=by
 unfold leZ;split <;> rw[Bool.eq_iff_iff] <;> simp <;> omega
theorem bw (a b:Int):ltZ a b=decide (a<b):=by
 unfold ltZ; rw[gC,Bool.eq_iff_iff]; simp
theorem km (a b:Int):eqZ a b=decide (a=b):=by
 cases a <;> cases b <;> simp only[eqZ] <;> rw[Bool.eq_iff_iff] <;> simp [Nat.beq_eq] <;> omega
def OT (n:Int):Bool:=leZ (-9223372036854775808) n && leZ n 9223372036854775807
def z64 (n:Int):Option Int:=cond (OT n) (some n) none
def inZ (k:IntKind) (n:Int):Bool:=leZ k.min n && leZ n k.max
def Px (k:IntKind) (a b:Int):Option Int:=cond (!eqZ b 0 && inZ k (a.tdiv b)) (some (a.tdiv b)) none
def M7 (k:IntKind) (a b:Int):Option Int:=cond (!eqZ b 0 && inZ k (a.tmod b)) (some (a.tmod b)) none
theorem E1 (n:Int):z64 n=i64? n:=by
 unfold z64 i64? OT;rw[gC,gC];by_cases h : -9223372036854775808<=n/\n<=9223372036854775807
 ·rw[if_pos h]; simp [h]
 ·rw[if_neg h];have:(decide (-9223372036854775808<=n) && decide (n<=9223372036854775807))=false:=by
   rw[Bool.eq_false_iff]; simpa using h
  rw[this]; rfl
def pw {α ρ:Type} [DecidableEq ρ] (l:List α) (A B:Option ρ):Option ρ :=
 match l with
 | []=>if A=B then B else none
 | _::_=>B
theorem xT {α ρ:Type} [DecidableEq ρ] {l:List α} {A B:Option ρ} {r:ρ} (h:pw l A B=some r):B=some r/\(l=[]->A=some r):=by
 unfold pw at h;split at h
 ·split at h
  ·rename_i hc; exact⟨h,fun hl=>hc.trans h⟩
  ·cases h
 ·exact⟨h,fun hl=>by cases hl⟩
class Fuel where
 n:Nat
def aw [Fuel] {α β:Type} (body:α->Option (α⊕β)) (x:α):Option β:=iterM body Fuel.n x
theorem CT [Fuel] {α β:Type} {body:α->Option (α⊕β)} {x:α} {r:β} (h:aw body x=some r):Ge body x=some r:=xQ.2 ⟨_,h⟩
section
variable {ρ:Type} (P:Program) (H:List (Nat×Ty)) (fx cur:TSt)
abbrev KE (ρ:Type):=TSl->List (Nat×bI)->Option ρ
abbrev tL (x:TL):TSl := .c (.v x)
abbrev tV (t:Ty) (x:t.den):TSl := .c (.v (.v t x))
def lF (d:Nat):Bool:=match obT fx cur d with | some _=>false | none=>Nat.ble (d+1) 1000000
def px (d:Ty) (x:TSl) (k:(t:Ty)->List t.den->Option ρ):Option ρ :=
 match x with
 | .c (.v (.v (.sl t) l))=>k t l
 | .c (.v .nil)=>k d []
 | .c (.v (.tl t l))=>k t l
 | .c (.v (.own o))=>match obT fx cur o with | some (.arr _ t l)=>k t l | _=>none
 | .c (.v (.sv o a b z))=>match obT fx cur o with | some (.arr _ t l)=>cond (Nat.beq z t.cells) ((cut l a b).bind fun m=>k t m) none | _=>none
 | _=>none
def OU (x:TSl) (k:KE ρ):Option ρ:=k x []
def Kd (c x y:TSl) (k:KE ρ):Option ρ :=
 match c with
 | .c (.v (.v .bool c))=>match x,y with
  | .c (.v (.v .bool x)),.c (.v (.v .bool y))=>k (tV .bool (cond c x y)) []
  | x,y=>k (cond c x y) []
 | _=>none
def E2 (t:TypeId) (d:Option Nat) (k:KE ρ):Option ρ :=
 match d,Gj P t with
 | some d,some cs=>cond (lF fx cur d) (k (tL (.loc d 0)) [(d,.box t cs)]) none
 | _,_=>none
def Ke (t:TypeId) (x:TSl) (k:KE ρ):Option ρ :=
 match gB P t with
 | none=>none
 | some n=>match x with
  | .c (.v (.loc o off))=>match obT fx cur o with
   | some (.box _ cs)=>match E0 cs off n (fv P t) with | some c=>k (.c c) [] | none=>none
   | _=>none
  | .c (.v (.ip t' x off))=>match E0 (dF t' x) off n (fv P t) with | some c=>k (.c c) [] | none=>none
  | .c (.v (.el o i off z))=>match obT fx cur o with
   | some (.arr _ t' l)=>cond (Nat.beq z t'.cells) ((idx l i).bind fun x=>match E0 (dF t' x) off n (fv P t) with | some c=>k (.c c) [] | none=>none) none
   | _=>none
  | _=>none
def E3 (t:TypeId) (x v:TSl) (k:KE ρ):Option ρ :=
 match gB P t,v with
 | some n,.c c=>match x with
  | .c (.v (.loc o off))=>match obT fx cur o with
   | some (.box bt cs)=>cond (Nat.beq c.leaves.length n && Nat.ble (off+n) cs.length) (k .dead [(o,.box bt (cs.take off++c.leaves++cs.drop (off+n)))]) none
   | _=>none
  | .c (.v (.el o i off z))=>match obT fx cur o with
   | some (.arr e t' l)=>cond (Nat.beq z t'.cells && Nat.beq c.leaves.length n && Nat.ble (off+n) z) ((idx l i).bind fun x=>k7 t' ((dF t' x).take off++c.leaves++(dF t' x).drop (off+n)) fun y=>k .dead [(o,.arr e t' (l.set i.toNat y))]) none
   | _=>none
  | _=>none
 | _,_=>none
def Py (x:TSl) (k:KE ρ):Option ρ :=
 match x with
 | .c (.v (.loc o off))=>k (tL (.loc o off)) []
 | .c (.v (.el o i off z))=>k (tL (.el o i off z)) []
 | .c (.v (.ip t x off))=>k (tL (.ip t x off)) []
 | _=>none
def tt (t:TypeId) (f:Nat) (x:TSl) (k:KE ρ):Option ρ :=
 match nC P t f with
 | some (j,_,_)=>match x with
  | .c (.v (.loc o off))=>k (tL (.loc o (off+j))) []
  | .c (.v (.el o i off z))=>k (tL (.el o i (off+j) z)) []
  | .c (.v (.ip t x off))=>k (tL (.ip t x (off+j))) []
  | _=>none
 | none=>none
def E4 (t:TypeId) (f:Nat) (x:TSl) (k:KE ρ):Option ρ :=
 match nC P t f,x with
 | some (j,n,agg),.c (.g xs)=>match E0 xs j n agg with | some c=>k (.c c) [] | none=>none
 | _,_=>none
def Kf (a b n:Int) (m:Nat):Option Unit:=p6 (0<=a/\0<=n/\n<b-a/\b<=m)
def CU (a b:Int):Int:=a+b
def tu (t:TypeId) (x i:TSl) (k:KE ρ):Option ρ :=
 match cR P t,i with
 | some (_,z),.c (.v (.v (.int _) n))=>match x with
  | .c (.v (.v (.sl t') l))=>cond (Nat.beq z t'.cells) ((idx l n).bind fun x=>k (tL (.ip t' x 0)) []) none
  | .c (.v (.own o))=>match obT fx cur o with
   | some (.arr _ t' l)=>cond (Nat.beq z t'.cells) ((idx l n).bind fun _=>k (tL (.el o n 0 z)) []) none
   | _=>none
  | .c (.v (.sv o a b z2))=>match obT fx cur o with
   | some (.arr _ t' l)=>cond (Nat.beq z t'.cells && Nat.beq z2 z) ((Kf a b n l.length).bind fun _=>k (tL (.el o (CU a n) 0 z)) []) none
   | _=>none
  | _=>none
 | _,_=>none
def wF:Ty->Bool
 | .pair _ _=>false
 | _=>true
def xU {ρ:Type} (t:Ty):List TL->(List t.den->Option ρ)->Option ρ
 | [],k=>k []
 | .v t' x::r,k=>lT t' t x fun x=>xU t r fun l=>k (x::l)
 | _,_=>none
def E5 (t:TypeId) (x i:TSl) (k:KE ρ):Option ρ :=
 match P.underlying t,x,i with
 | some .string,.c (.v (.v .str s)),.c (.v (.v (.int _) n))=>(bAt s n).bind fun c=>k (tV (.int .u8) c) []
 | some (.array m e),.c (.g xs),.c (.v (.v (.int _) n))=>match gB P e,xs with
  | some 1,.v t x::r=>cond (Nat.beq xs.length m && !fv P e && wF t) (xU t xs fun l=>(idx l n).bind fun y=>k (tV t y) []) none
  | _,_=>none
 | _,_,_=>none
def M8 (k:IntKind) (a n:Int):Option Int:=cond (leZ 0 n && inZ k (Cs k a n)) (some (Cs k a n)) none
def Pz (k:IntKind) (a n:Int):Option Int:=cond (leZ 0 n) (some (MI k a n)) none
def Kg (b:BinOp) (x y:TSl) (k:KE ρ):Option ρ :=
 match b,x,y with
 | .add,.c (.v (.v (.int .i64) a)),.c (.v (.v (.int .i64) b))=>k (tV (.int .i64) (MO a b)) []
 | _,_,_=>none
def tSh (op:BinOp) (x y:TSl) (k:KE ρ):Option ρ :=
 match x,y with
 | .c (.v (.v (.int kd) a)),.c (.v (.v (.int kd2) n))=>match op with
  | .shl=>(Pz kd a n).bind fun c=>k (tV (.int kd) c) []
  | .shr=>(M8 kd a n).bind fun c=>k (tV (.int kd) c) []
  | .and=>match IntKind.same kd kd2 with | some _=>k (tV (.int kd) (MG kd a n)) [] | none=>none
  | .or=>match IntKind.same kd kd2 with | some _=>k (tV (.int kd) (orI kd a n)) [] | none=>none
  | .xor=>match IntKind.same kd kd2 with | some _=>k (tV (.int kd) (MH kd a n)) [] | none=>none
  | .andNot=>match IntKind.same kd kd2 with | some _=>k (tV (.int kd) (anI kd a n)) [] | none=>none
  | _=>none
 | _,_=>none
def PA (op:BinOp) (kd:IntKind) (a b:Int) (k:KE ρ):Option ρ :=
 match op with
 | .add=>match IntKind.same kd .i64 with | some _=>(z64 (a+b)).bind fun c=>k (tV (.int .i64) c) [] | none=>k (tV (.int kd) (kd.wrap (a+b))) []
 | .sub=>match IntKind.same kd .i64 with | some _=>(z64 (a-b)).bind fun c=>k (tV (.int .i64) c) [] | none=>k (tV (.int kd) (kd.wrap (a-b))) []
 | .mul=>match IntKind.same kd .i64 with | some _=>(z64 (a * b)).bind fun c=>k (tV (.int .i64) c) [] | none=>k (tV (.int kd) (kd.wrap (a * b))) []
 | .quo=>(Px kd a b).bind fun c=>k (tV (.int kd) c) []
 | .rem=>(M7 kd a b).bind fun c=>k (tV (.int kd) c) []
 | .eql=>k (tV .bool (eqZ a b)) []
 | .neq=>k (tV .bool (!eqZ a b)) []
 | .lss=>k (tV .bool (ltZ a b)) []
 | .leq=>k (tV .bool (leZ a b)) []
 | .gtr=>k (tV .bool (ltZ b a)) []
 | .geq=>k (tV .bool (leZ b a)) []
 | _=>none
def PB (op:BinOp) (a b:Bs) (k:KE ρ):Option ρ :=
 match op with
 | .add=>(cat? a b).bind fun c=>k (tV .str c) []
 | .eql=>k (tV .bool (decide (a=b))) []
 | .neq=>k (tV .bool (!decide (a=b))) []
 | .lss=>k (tV .bool (Op.bytesLess a b)) []
 | .leq=>k (tV .bool (Op.bytesLess a b || decide (a=b))) []
 | .gtr=>k (tV .bool (!(Op.bytesLess a b || decide (a=b)))) []
 | .geq=>k (tV .bool (!Op.bytesLess a b)) []
 | _=>none
def E6 (a b:Bool):Bool:=a == b
def Ro (a:Int):Int := -a
def mmT (mx:Bool) (a b:Int):Int:=cond mx (max a b) (min a b)
def PC (op:BinOp) (t:TypeId) (x y:TSl) (k:KE ρ):Option ρ :=
 match x,y with
 | .c (.v (.v (.int kd) a)),.c (.v (.v (.int kd') b))=>match IntKind.same kd kd' with | some _=>PA op kd a b k | none=>none
 | .c (.v (.v .str a)),.c (.v (.v .str b))=>PB op a b k
 | .c (.v (.v .bool a)),.c (.v (.v .bool b))=>match op,P.underlying t with
  | .eql,some .bool=>k (tV .bool (E6 a b)) []
  | .neq,some .bool=>k (tV .bool (!E6 a b)) []
  | _,_=>none
 | .c (.v (.v (.sl t') l)),.c (.v .nil)=>match op,P.underlying t with
  | .eql,some (.slice _)=>k (tL (.nb true t' l)) []
  | .neq,some (.slice _)=>k (tL (.nb false t' l)) []
  | _,_=>none
 | .c (.v .nil),.c (.v .nil)=>match op,P.underlying t with
  | .eql,some (.slice _)=>k (tV .bool true) []
  | .neq,some (.slice _)=>k (tV .bool false) []
  | _,_=>none
 | .c (.v (.loc _ _)),.c (.v (.oth (.pointer none)))=>match op,P.underlying t with
  | .eql,some (.pointer _)=>k (tV .bool false) []
  | .neq,some (.pointer _)=>k (tV .bool true) []
  | _,_=>none
 | .c (.v (.oth (.pointer none))),.c (.v (.oth (.pointer none)))=>match op,P.underlying t with
  | .eql,some (.pointer _)=>k (tV .bool true) []
  | .neq,some (.pointer _)=>k (tV .bool false) []
  | _,_=>none
 | _,_=>none
def tNI (op:BinOp) (t:TypeId) (c:Bool) (k:KE ρ):Option ρ :=
 match c,op,P.underlying t with
 | true,.eql,some (.interface _)=>k (tV .bool true) []
 | true,.neq,some (.interface _)=>k (tV .bool false) []
 | _,_,_=>none
def PD (a b:Bs):Bool:=decide (a=b)
def PE:(t:Ty)->t.den->t.den->Option Bool
 | .int _,a,b=>some (eqZ a b)
 | .str,a,b=>some (PD a b)
 | .bool,a,b=>some (E6 a b)
 | _,_,_=>none
def k8:List TL->List TL->Option Bool
 | [],[]=>some true
 | .v t x::xs,.v t' y::ys=>match Ty.same t' t with
  | some h=>match PE t x (mZ h.down y) with
   | some a=>match xs,ys with
    | [],[]=>some a
    | _,_=>match k8 xs ys with | some b=>some (a && b) | none=>none
   | none=>none
  | none=>none
 | _,_=>none
def PF (op:BinOp) (t:TypeId) (xs ys:List TL) (k:KE ρ):Option ρ :=
 match P.underlying t with
 | some (.struct fs)=>(ew (xs.map TL.un)).bind fun ps=>cond (qu P 0 fs.toList ps && !P.stoodInHeld t && !P.eqGuardType P.depth t)
  (match op,k8 xs ys with
   | .eql,some r=>k (tV .bool r) []
   | .neq,some r=>k (tV .bool (!r)) []
   | _,_=>none) none
 | _=>none
def Rp (a:Int):Int:=IntKind.u64.wrap (0-a)
def tUn (op:UnOp) (x:TSl) (k:KE ρ):Option ρ :=
 match op,x with
 | .not,.c (.v (.v .bool a))=>k (tV .bool (!a)) []
 | .neg,.c (.v (.v (.int .u64) a))=>k (tV (.int .u64) (Rp a)) []
 | .neg,.c (.v (.v (.int .i64) a))=>(z64 (Ro a)).bind fun c=>k (tV (.int .i64) c) []
 | _,_=>none
def Ih (l:List Int):Bs:=l.map fun n=>UInt8.ofNat n.toNat
def eQ (l:Bs):List Int:=l.map fun b=>(b.toNat:Int)
def Kh (src dst:TypeId) (x:TSl) (k:KE ρ):Option ρ :=
 match P.underlying src,P.underlying dst with
 | some (.int _),some (.int k')=>match x with
  | .c (.v (.v (.int kd) n))=>match IntKind.same k' .i64,IntKind.same kd .u64 with
   | some _,none=>k (tV (.int .i64) n) []
   | _,_=>k (tV (.int k') (k'.wrap n)) []
  | _=>none
 | some .string,some .string=>match x with
  | .c (.v (.v .str s))=>k (tV .str s) []
  | _=>none
 | some (.slice _),some .string=>match cR P src with
  | some (e,1)=>match P.underlying e with
   | some (.int .u8)=>px fx cur (.int .u8) x fun t l=>lT (.sl t) (.sl (.int .u8)) l fun l=>(p6 ((Ih l).length<=9223372036854775807)).bind fun _=>k (tV .str (Ih l)) []
   | _=>none
  | _=>none
 | some .string,some (.slice el)=>match P.underlying el with
  | some (.int .u8)=>match x with
   | .c (.v (.v .str s))=>k (tV (.sl (.int .u8)) (eQ s)) []
   | _=>none
  | _=>none
 | _,_=>none
def xV (i:Nat) (x:TSl) (k:KE ρ):Option ρ :=
 match x with
 | .t l=>match l[i]? with | some c=>k (.c c) [] | none=>none
 | _=>none
def CV:List TL->List (Nat×Nat×TC)->Option (List TL)
 | cs,[]=>some cs
 | cs,(off,n,c)::r=>cond (Nat.beq c.leaves.length n && Nat.ble (off+n) cs.length) (CV (cs.take off++c.leaves++cs.drop (off+n)) r) none
def xW (pl:List (Nat×Nat)):List Nat->List TSl->Option (List (Nat×Nat×TC))
 | [],[]=>some []
 | i::is,.c c::r=>match pl[i]?,xW pl is r with | some (o,n),some l=>some ((o,n,c)::l) | _,_=>none
 | _,_=>none
def E7 (t:TypeId) (is:List Nat) (args:List TSl) (k:KE ρ):Option ρ :=
 match placesOf P t,Gj P t with
 | some pl,some z=>match xW pl is args with
  | some l=>match CV z l with | some cs=>k (.c (.g cs)) [] | none=>none
  | none=>none
 | _,_=>none
def Ki {ρ:Type} (t:Ty) (l:TL) (k:t.den->Option ρ):Option ρ :=
 match l with
 | .v t' x=>v7 t' t x k
 | .nil=>Kb t k
 | _=>none
def CW {ρ:Type}:(t:Ty)->List TL->(t.den->List TL->Option ρ)->Option ρ
 | .pair a b,ls,k=>CW a ls fun x ls=>CW b ls fun y ls=>k (x,y) ls
 | t,l::ls,k=>Ki t l fun x=>k x ls
 | _,[],_=>none
def rN {ρ:Type} (t:Ty) (ls:List TL) (k:t.den->Option ρ):Option ρ:=CW t ls fun x r=>match r with | []=>k x | _=>none
def xX {ρ:Type} (t:Ty):List TSl->(List t.den->Option ρ)->Option ρ
 | [],k=>k []
 | .c c::r,k=>rN t c.leaves fun x=>xX t r fun l=>k (x::l)
 | _,_=>none
def sD:Nat->List Nat->Bool
 | _,[]=>true
 | i,x::r=>Nat.beq i x && sD (i+1) r
def rO (t:TypeId) (len:Nat) (is:List Nat) (d:Option Nat) (args:List TSl) (k:KE ρ):Option ρ :=
 match cR P t,d,look H t with
 | some (e,z),some d,some te=>cond (sD 0 is && Nat.beq is.length len && lF fx cur d && Nat.ble len 100 && Nat.ble z 1000 && Nat.beq z te.cells) (xX te args fun l=>k (tL (.own d)) [(d,.arr e te l)]) none
 | _,_,_=>none
def Kj:List TSl->Option (List TL)
 | []=>some []
 | .c (.v x)::r=>match Kj r with | some l=>some (x::l) | none=>none
 | _=>none
def vi (t:TypeId) (len:Nat) (is:List Nat) (d:Option Nat) (args:List TSl) (k:KE ρ):Option ρ :=
 match cR P t,d,Kj args with
 | some (e,z),some d,some cs=>cond (sD 0 is && Nat.beq is.length len && lF fx cur d && Nat.ble len 100 && Nat.beq z 1) (k (tL (.own d)) [(d,.lit e cs)]) none
 | _,_,_=>none
def PG:TL->Bool
 | .own _=>true
 | _=>false
def ownRow:TSl->Bool
 | .c (.v x)=>PG x
 | _=>false
def xY (t:TypeId) (len:Nat) (is:List Nat) (d:Option Nat) (args:List TSl) (k:KE ρ):Option ρ :=
 cond (args.any ownRow) (vi P fx cur t len is d args k) (rO P H fx cur t len is d args k)
def QM (tl:Bool) (te:Ty) (l:List te.den):TL:=cond tl (.tl te l) (.v (.sl te) l)
def Bq (tl:Bool) (t:TypeId) (len:Nat) (is:List Nat) (args:List TSl) (k:KE ρ):Option ρ :=
 match cR P t,look H t with
 | some (e,z),some te=>cond (sD 0 is && Nat.beq is.length len && Nat.ble len 100 && Nat.ble z 1000 && Nat.beq z te.cells) (xX te args fun l=>k (tL (QM tl te l)) []) none
 | _,_=>none
def PH (t:TypeId) (x:TSl) (k:KE ρ):Option ρ :=
 match P.underlying t with
 | some (.map _ _)=>match x with
  | .c (.v (.mp o))=>match obT fx cur o with
   | some (.kx _ _ _ m)=>(p6 (m.length<=9223372036854775807)).bind fun _=>k (tV (.int .i64) (m.length:Int)) []
   | some (.fM _ _ _ m)=>(p6 (m.length<=9223372036854775807)).bind fun _=>k (tV (.int .i64) (m.length:Int)) []
   | some (.iJ _ _ m)=>(p6 (m.length<=9223372036854775807)).bind fun _=>k (tV (.int .i64) (m.length:Int)) []
   | _=>none
  | _=>none
 | some .string=>match x with
  | .c (.v (.v .str s))=>k (tV (.int .i64) (s.length:Int)) []
  | _=>none
 | some (.slice _)=>px fx cur .bool x fun _ l=>k (tV (.int .i64) (l.length:Int)) []
 | _=>none
def wG (t:TypeId) (d:Option Nat) (x y:TSl) (k:KE ρ):Option ρ :=
 match cR P t,d with
 | some (e,z),some d=>cond (lF fx cur d) (match x with
  | .c (.v (.own o))=>match obT fx cur o with
   | some (.arr e' t' l)=>cond (Nat.beq e e' && Nat.beq z t'.cells) (px fx cur t' y fun t2 m=>lT (.sl t2) (.sl t') m fun m=>(app? l m).bind fun r=>k (tL (.own d)) [(o,.gone),(d,.arr e t' r)]) none
   | _=>none
  | .c (.v .nil)=>match look H t with
   | some te=>cond (Nat.beq z te.cells) (px fx cur te y fun t2 m=>lT (.sl t2) (.sl te) m fun m=>(app? [] m).bind fun r=>k (tL (.own d)) [(d,.arr e te r)]) none
   | none=>none
  | _=>none) none
 | _,_=>none
def xZ (hl hh:Bool) (n:Nat) (as:List TSl):Option (Int×Int) :=
 match hl,hh,as with
 | false,false,[]=>some (0,n)
 | true,false,[.c (.v (.v (.int _) i))]=>some (i,n)
 | false,true,[.c (.v (.v (.int _) j))]=>some (0,j)
 | true,true,[.c (.v (.v (.int _) i)),.c (.v (.v (.int _) j))]=>some (i,j)
 | _,_,_=>none
def Br (t:TypeId) (hl hh:Bool) (x:TSl) (as:List TSl) (k:KE ρ):Option ρ :=
 match x with
 | .c (.v (.v .str s))=>match P.underlying t,xZ hl hh s.length as with
  | some .string,some (i,j)=>(cut s i j).bind fun r=>k (tV .str r) []
  | _,_=>none
 | .c (.v (.v (.sl t') l))=>match cR P t,xZ hl hh l.length as with
  | some (_,z),some (i,j)=>cond (Nat.beq z t'.cells) ((cut l i j).bind fun r=>k (tV (.sl t') r) []) none
  | _,_=>none
 | .c (.v .nil)=>match cR P t,xZ hl hh 0 as with
  | some _,some (i,j)=>(p6 (i=0/\j=0)).bind fun _=>k (tL .nil) []
  | _,_=>none
 | .c (.v (.own o))=>match obT fx cur o with
  | some (.arr _ t' l)=>match cR P t,xZ hl hh l.length as with
   | some (_,z),some (i,j)=>cond (Nat.beq z t'.cells) ((cut l i j).bind fun _=>k (tL (.sv o i j z)) []) none
   | _,_=>none
  | _=>none
 | _=>none
def Rq (t:TypeId) (x j m:TSl) (k:KE ρ):Option ρ:=(fun _=>none) P
def PI (t:TypeId) (d:Option Nat) (x:TSl) (k:KE ρ):Option ρ :=
 match d,gB P t,x with
 | some d,some n,.c c=>cond (lF fx cur d && Nat.beq c.leaves.length n) (k (tL (.loc d 0)) [(d,.box t c.leaves)]) none
 | _,_,_=>none
def nG (et:TypeId):Option (Bool×List TL) :=
 match P.info? et with
 | some i=>match i.zero with
  | some v=>match cq v with
   | .c c=>some ((match c with | .g _=>true | .v _=>false),c.leaves)
   | _=>none
  | none=>none
 | none=>none
def PJ (agg:Bool) (ls:List TL):TC:=cond agg (.g ls) (.v (match ls with | x::_=>x | []=>.dead))
def TC.isAgg:TC->Bool
 | .g _=>true
 | .v _=>false
def x6 (t:TypeId) (d:Option Nat) (k:KE ρ):Option ρ :=
 match P.underlying t,d,look H t with
 | some (.map kt et),some d,some te=>match P.underlying kt,nG P et with
  | some (.int kd),some (agg,z)=>cond (lF fx cur d && te.gw) (k7 te z fun _=>k (tL (.mp d)) [(d,.kx kd agg te [])]) none
  | some .string,some (agg,z)=>cond (lF fx cur d) (rN te z fun _=>k (tL (.mp d)) [(d,.iJ agg te [])]) none
  | some (.struct _),some (agg,z)=>match Cd P kt with
   | some kd=>cond (lF fx cur d && te.gw) (k7 te z fun _=>k (tL (.mp d)) [(d,.fM kd agg te [])]) none
   | none=>none
  | _,_=>none
 | _,_,_=>none
def vj (ok agg:Bool) (te:Ty) (r:Option te.den) (z:te.den) (k:KE ρ):Option ρ :=
 cond ok (k (.t [PJ agg (dF te (r.getD z)),.v (.v .bool r.isSome)]) []) (k (.c (PJ agg (dF te (r.getD z)))) [])
def Bt (t:TypeId) (ok:Bool) (m x:TSl) (k:KE ρ):Option ρ :=
 match P.underlying t,m with
 | some (.map kt et),.c (.v (.mp o))=>match P.underlying kt,nG P et with
  | some kd,some (agg2,z)=>match obT fx cur o,x with
   | some (.kx kd2 agg te m),.c (.v (.v (.int kd3) n))=>match kd with
    | .int kd=>match IntKind.same kd kd2,IntKind.same kd3 kd with
     | some _,some _=>cond ((agg == agg2) && te.gw) (k7 te z fun z=>vj ok agg te (bG m n) z k) none
     | _,_=>none
    | _=>none
   | some (.iJ agg te m),.c (.v (.v .str s))=>match kd with
    | .string=>cond (agg == agg2) (rN te z fun z=>vj ok agg te (bG m s) z k) none
    | _=>none
   | some (.fM kd2 agg te m),.c (.g [.v .str s0,.v (.int kd3) n,.v (.int kd4) n4,.v (.int kd5) n5,.v .str s])=>match Cd P kt with
    | some kd=>match IntKind.same kd kd2,IntKind.same kd3 kd,IntKind.same kd4 kd,IntKind.same kd5 kd with
     | some _,some _,some _,some _=>cond ((agg == agg2) && te.gw) (k7 te z fun z=>vj ok agg te (bG m (s0,n,n4,n5,s)) z k) none
     | _,_,_,_=>none
    | none=>none
   | _,_=>none
  | _,_=>none
 | _,_=>none
def qI (t:TypeId) (m x v:TSl) (k:KE ρ):Option ρ :=
 match P.underlying t,m,v with
 | some (.map kt et),.c (.v (.mp o)),.c c=>match P.underlying kt with
  | some kd=>match obT fx cur o,x with
   | some (.kx kd2 agg te m),.c (.v (.v (.int kd3) n))=>match kd with
    | .int kd=>match IntKind.same kd kd2,IntKind.same kd3 kd with
     | some _,some _=>cond ((agg == c.isAgg) && te.gw) (k7 te c.leaves fun y=>k .dead [(o,.kx kd2 agg te (fa m n y))]) none
     | _,_=>none
    | _=>none
   | some (.iJ agg te m),.c (.v (.v .str s))=>match kd with
    | .string=>cond (agg == c.isAgg) (k7 te c.leaves fun y=>k .dead [(o,.iJ agg te (fa m s y))]) none
    | _=>none
   | some (.fM kd2 agg te m),.c (.g [.v .str s0,.v (.int kd3) n,.v (.int kd4) n4,.v (.int kd5) n5,.v .str s])=>match Cd P kt with
    | some kd=>match IntKind.same kd kd2,IntKind.same kd3 kd,IntKind.same kd4 kd,IntKind.same kd5 kd with
     | some _,some _,some _,some _=>cond ((agg == c.isAgg) && te.gw) (k7 te c.leaves fun y=>k .dead [(o,.fM kd2 agg te (fa m (s0,n,n4,n5,s) y))]) none
     | _,_,_,_=>none
    | none=>none
   | _,_=>none
  | none=>none
 | _,_,_=>none
def pN (n m:Int):Option Unit:=p6 (0<=n/\n=m/\n<=4294967296)
def ri {α:Type} (n:Int) (x:α):List α:=List.replicate n.toNat x
def tw (t:TypeId) (d:Option Nat) (x y:TSl) (k:KE ρ):Option ρ :=
 match cR P t,d,look H t with
 | some (e,z),some d,some te=>match nG P e,x,y with
  | some (_,zl),.c (.v (.v (.int _) n)),.c (.v (.v (.int _) m))=>cond (lF fx cur d && te.gw && Nat.beq z te.cells) (k7 te zl fun z0=>(pN n m).bind fun _=>k (tL (.own d)) [(d,.arr e te (ri n z0))]) none
  | _,_,_=>none
 | _,_,_=>none
def vk (f:FuncId) (n:Nat) (l:Option (List Nat)) (k:KE ρ):Option ρ:=match l with | some l=>(match n with | 0=>k (tL (.fn (2 * f) l)) [] | n+1=>cond (Nat.beq l.length (n+1)) (k (tL (.fn (2 * f+1) l)) []) none) | none=>none
def wH (mx:Bool) (x y:TSl) (k:KE ρ):Option ρ :=
 match x,y with
 | .c (.v (.v (.int kd) a)),.c (.v (.v (.int kd') b))=>match IntKind.same kd kd' with | some _=>k (tV (.int kd) (mmT mx a b)) [] | none=>none
 | _,_=>none
def ui (mx:Bool) (x y z:TSl) (k:KE ρ):Option ρ :=
 match x,y,z with
 | .c (.v (.v (.int kd) a)),.c (.v (.v (.int kd') b)),.c (.v (.v (.int kd2) c))=>match IntKind.same kd kd',IntKind.same kd kd2 with | some _,some _=>k (tV (.int kd) (mmT mx (mmT mx a b) c)) [] | _,_=>none
 | _,_,_=>none
def fL (a n:Int) (m:Nat):Option Unit:=cond (leZ 0 a && leZ 0 n && ltZ n (m:Int)) (some ()) none
def Kk (n:Int) (z:Nat):Int:=n * (z:Int)
def Kl (m:Nat) (e:TypeId) (x i:TSl) (k:KE ρ):Option ρ :=
 match x,i,gB P e with
 | .c (.v (.el o a 0 1)),.c (.v (.v (.int _) n)),some z=>cond (Nat.ble 2 m) (match obT fx cur o with
  | some (.arr _ t' l)=>cond (Nat.beq t'.cells 1) ((fL a n m).bind fun _=>(idx l (CU a (Kk n z))).bind fun _=>k (tL (.el o (CU a (Kk n z)) 0 1)) []) none
  | _=>none) none
 | _,_,_=>none
def PK (t:TypeId) (x i:TSl) (k:KE ρ):Option ρ :=
 match P.underlying t with
 | some (.array m e)=>Kl P fx cur m e x i k
 | _=>tu P fx cur t x i k
def Bu (t:TypeId) (m x:TSl) (k:KE ρ):Option ρ :=
 match m,x with
 | .c (.v (.v (.map kd e) m)),.c (.v (.v (.int kd3) n))=>match P.underlying t with
  | some (.map kt et)=>match P.underlying kt with
   | some (.int kd2)=>match IntKind.same kd kd2,IntKind.same kd3 kd2 with
    | some _,some _=>cond (sq P et) (k (tV (.sl e) ((bG m n).getD [])) []) none
    | _,_=>none
   | _=>none
  | _=>none
 | _,_=>none
def E8 (H:List (Nat×Ty)) (t:TypeId) (ok:Bool) (x:TSl) (k:KE ρ):Option ρ :=
 match P.underlying t,look H t with
 | some (.map kt et),some te=>match P.underlying kt,nG P et with
  | some .string,some (agg,z)=>match x with
   | .c (.v (.v .str _))=>rN te z fun z=>vj ok agg te none z k
   | _=>none
  | _,_=>none
 | _,_=>none
def Km (H:List (Nat×Ty)) (t:TypeId) (ok:Bool) (m x:TSl) (k:KE ρ):Option ρ :=
 match m with
 | .c (.v (.oth (.map none)))=>E8 P H t ok x k
 | .c (.v (.v (.map _ _) _))=>cond ok none (Bu P t m x k)
 | _=>Bt P fx cur t ok m x k
def Ko (h:Option Int) (n:Int):Option Unit:=match h with | none=>some () | some x=>p6 (x=n)
def Kp (t:TypeId) (o:Nat) (x v:TSl) (k:KE ρ):Option ρ :=
 match obT fx cur o,x,v with
 | some (.gI kd e te m h),.c (.v (.v (.int kd3) n)),.c (.v (.own d))=>match P.underlying t with
  | some (.map kt _)=>match P.underlying kt with
   | some (.int kd2)=>match IntKind.same kd kd2,IntKind.same kd3 kd2 with
    | some _,some _=>match obT fx cur d with
     | some (.arr e' t' l)=>cond (Nat.beq e e') (lT (.sl t') (.sl te) l fun l=>(Ko h n).bind fun _=>k .dead [(d,.gone),(o,.gI kd e te (fa m n l) none)]) none
     | _=>none
    | _,_=>none
   | _=>none
  | _=>none
 | _,_,_=>none
def PL (t:TypeId) (m x v:TSl) (k:KE ρ):Option ρ :=
 match m with
 | .c (.v (.mp o))=>match obT fx cur o with
  | some (.gI _ _ _ _ _)=>Kp P fx cur t o x v k
  | _=>qI P fx cur t m x v k
 | _=>qI P fx cur t m x v k
def M9 {α:Type} (l:List α) (a b:Int) (z:α):List α:=l.take a.toNat++List.replicate (b.toNat-a.toNat) z++l.drop b.toNat
def E9 (t:TypeId) (x:TSl) (k:KE ρ):Option ρ :=
 match cR P t,x with
 | some (e2,z2),.c (.v (.sv o a b z))=>match obT fx cur o,nG P e2 with
  | some (.arr e t' l),some (_,zl)=>cond (Nat.beq z t'.cells && Nat.beq z2 t'.cells && t'.gw) (k7 t' zl fun z0=>(p6 (a.toNat<=b.toNat/\b.toNat<=l.length)).bind fun _=>k .dead [(o,.arr e t' (M9 l a b z0))]) none
  | _,_=>none
 | _,_=>none
def Ii (t:TypeId) (d:Option Nat) (m x:TSl) (k:KE ρ):Option ρ:=(fun _=>none) (P,fx,cur)
def CX (m st v:TSl) (k:KE ρ):Option ρ:=(fun _=>none) (fx,cur)
def QN (t u:TypeId) (x y:TSl) (k:KE ρ):Option ρ:=(fun _=>none) (P,fx,cur)
def tCO (src dst:TypeId) (d:Option Nat) (x:TSl) (k:KE ρ):Option ρ:=(fun _=>none) (P,fx,cur)
def appT? {α:Type} (l m:List α):Option (List α):=match l,m with | _::_,_::_=>app? l m | _,_=>none
def z7 (t:TypeId) (d:Option Nat) (x y:TSl) (k:KE ρ):Option ρ :=
 match x with
 | .c (.v (.tl t' l))=>match cR P t,d with
  | some (e,z),some d=>cond (lF fx cur d && Nat.beq z t'.cells) (px fx cur t' y fun t2 m=>lT (.sl t2) (.sl t') m fun m=>(appT? l m).bind fun r=>k (tL (.own d)) [(d,.arr e t' r)]) none
  | _,_=>none
 | _=>wG P H fx cur t d x y k
def Kq (t:TypeId) (x y:TSl) (k:KE ρ):Option ρ :=
 match cR P t,x with
 | some (e,z),.c (.v (.own o))=>match obT fx cur o with
  | some (.arr e' t' l)=>cond (Nat.beq e e' && Nat.beq z t'.cells) (px fx cur t' y fun t2 m=>lT (.sl t2) (.sl t') m fun m=>(app? l m).bind fun r=>k (tV (.sl t') r) [(o,.gone)]) none
  | _=>none
 | _,_=>none
def Kr (n:Int):Option Unit:=p6 (1<=n/\n<=2147483647)
def Ks (t t':TypeId) (d:Option Nat) (x y:TSl) (k:KE ρ):Option ρ :=
 match cR P t,d,look H t with
 | some (e,z),some d,some te=>match P.underlying t',nG P e,x,y with
  | some (.int _),some (_,zl),.c (.v .nil),.c (.v (.v (.int _) n))=>cond (lF fx cur d && te.gw && Nat.beq z te.cells) (k7 te zl fun z0=>(Kr n).bind fun _=>k (tL (.own d)) [(d,.arr e te (ri n z0))]) none
  | _,_,_,_=>none
 | _,_,_=>none
def Kt (t t':TypeId) (d:Option Nat) (x:TSl) (s:Bs) (k:KE ρ):Option ρ :=
 match P.underlying t',cR P t,d with
 | some .string,some (e,z'),some d=>cond (Nat.beq z' 1 && lF fx cur d) (match x with
  | .c (.v (.own o))=>match obT fx cur o with
   | some (.arr e' (.int .u8) l)=>cond (Nat.beq e' e) ((app? l (eQ s)).bind fun r=>k (tL (.own d)) [(o,.gone),(d,.arr e (.int .u8) r)]) none
   | _=>none
  | .c (.v .nil)=>(app? [] (eQ s)).bind fun r=>k (tL (.own d)) [(d,.arr e (.int .u8) r)]
  | _=>none) none
 | _,_,_=>none
def Ku (t t':TypeId) (d:Option Nat) (x y:TSl) (k:KE ρ):Option ρ :=
 match y with
 | .c (.v (.v .str s))=>Kt P fx cur t t' d x s k
 | _=>Ks P H fx cur t t' d x y k
def PM (t:TypeId) (x:TSl) (k:KE ρ):Option ρ :=
 match P.underlying t,x with
 | some (.slice _),.c (.v .nil)=>k (tV (.int .i64) (0:Int)) []
 | _,_=>none
def Kv (t:TypeId) (d:Option Nat) (m x:TSl) (k:KE ρ):Option ρ :=
 match m,x with
 | .c (.v (.mp o)),.c (.v (.v (.int kd3) n))=>match obT fx cur o with
  | some (.gI kd e te m none)=>match P.underlying t,d with
   | some (.map kt et),some d=>match P.underlying kt with
    | some (.int kd2)=>match IntKind.same kd kd2,IntKind.same kd3 kd2 with
     | some _,some _=>cond (lF fx cur d && sq P et) (k (tL (.own d)) [(o,.gI kd e te m (some n)),(d,.arr e te ((bG m n).getD []))]) none
     | _,_=>none
    | _=>none
   | _,_=>none
  | _=>none
 | _,_=>none
def Gk (t:TypeId) (hl hh:Bool) (d:Option Nat) (x:TSl) (as:List TSl) (k:KE ρ):Option ρ :=
 match x,d with
 | .c (.v (.own o)),some d=>match obT fx cur o with
  | some (.arr e t' l)=>match cR P t,xZ hl hh l.length as with
   | some (_,z),some (i,j)=>cond (Nat.beq z t'.cells && lF fx cur d) ((cut l i j).bind fun m=>k (tL (.own d)) [(o,.gone),(d,.arr e t' m)]) none
   | _,_=>none
  | _=>none
 | _,_=>none
def OV:BinOp->Bool
 | .eql | .neq=>true
 | _=>false
def Kw (op:BinOp) (t:TypeId) (x y:TSl) (k:KE ρ):Option ρ :=
 match x,y with
 | .c (.v (.own o)),.c (.v .nil)=>match obT fx cur o with
  | some (.arr _ t' l)=>match op,P.underlying t with
   | .eql,some (.slice _)=>k (tL (.nb true t' l)) []
   | .neq,some (.slice _)=>k (tL (.nb false t' l)) []
   | _,_=>none
  | _=>none
 | _,_=>none
def Kx:Ty->Bool
 | .bool=>true
 | .int _=>true
 | _=>false
def Rr:(t:Ty)->t.den->Value
 | .bool,x=>.bool x
 | .int k,x=>.int k x
 | _,_=>.nilFunc
def PN (t:TypeId) (d:Option Nat) (k:KE ρ):Option ρ :=
 match P.underlying t,d,P.info? t,look H t with
 | some (.array _ _),some d,some i,some te=>match i.zero with
  | some v=>match u0 v.cells.toList.head? with
   | some p=>match p,te with
    | .bool b,.bool=>cond (lF fx cur d && Nat.ble i.size 1000000 && zK v.cells.toList i.size (.bool b)) (k (tL (.el d 0 0 1)) [(d,.arr t .bool (List.replicate i.size b))]) none
    | .int kd n,.int kd'=>match IntKind.same kd kd' with
     | some _=>cond (lF fx cur d && Nat.ble i.size 1000000 && zK v.cells.toList i.size (.int kd n)) (k (tL (.el d 0 0 1)) [(d,.arr t (.int kd') (List.replicate i.size n))]) none
     | none=>none
    | _,_=>none
   | none=>none
  | none=>none
 | _,_,_,_=>none
def Ky (t:TypeId) (d:Option Nat) (x:TSl) (k:KE ρ):Option ρ :=
 match P.underlying t,d,look H t,x with
 | some (.array _ _),some d,some te,.c (.g xs)=>cond (lF fx cur d && Kx te && Nat.ble xs.length 1000000) (xU te xs fun l=>k (tL (.el d 0 0 1)) [(d,.arr t te l)]) none
 | _,_,_,_=>none
def Fa (t:TypeId) (d:Option Nat) (k:KE ρ):Option ρ :=
 match P.underlying t,d,look H t with
 | some (.map kt et),some d,some te=>match P.underlying kt,cR P et with
  | some (.int kd),some (e,z)=>cond (lF fx cur d && Nat.beq z te.cells) (k (tL (.mp d)) [(d,.gI kd e te [] none)]) none
  | _,_=>none
 | _,_,_=>none
end
end Go.Lad
namespace Go.Lad
open Go.RowKit
def Tup:List Ty->Type
 | []=>Unit
 | [t]=>t.den
 | t::u::r=>t.den×Tup (u::r)
noncomputable def z8:(t:Ty)->DecidableEq t.den
 | .any=>Pw
 | .int _=>inferInstanceAs (DecidableEq Int)
 | .bool=>inferInstanceAs (DecidableEq Bool)
 | .str=>inferInstanceAs (DecidableEq (List UInt8))
 | .sl e=>@instDecidableEqList e.den (z8 e)
 | .pair a b=>@instDecidableEqProd a.den b.den (z8 a) (z8 b)
 | .slu i=>fun a b=>Classical.propDecidable (a=b)
 | .map _ e=>@instDecidableEqList (Int×List e.den) (@instDecidableEqProd Int (List e.den) inferInstance (@instDecidableEqList e.den (z8 e)))
noncomputable def tx:(ps:List Ty)->DecidableEq (Tup ps)
 | []=>inferInstanceAs (DecidableEq Unit)
 | [t]=>z8 t
 | t::u::r=>@instDecidableEqProd t.den (Tup (u::r)) (z8 t) (tx (u::r))
def lG:(ps:List Ty)->Tup ps->List Dyn
 | [],_=>[]
 | [t],x=>[⟨t,x⟩]
 | t::u::r,x=>⟨t,x.1⟩::lG (u::r) x.2
def CY {ρ:Type}:(ps:List Ty)->List Dyn->(Tup ps->Option ρ)->Option ρ
 | [],[],k=>k ()
 | [t],[d],k=>lT d.t t d.x k
 | t::u::r,d::ds,k=>lT d.t t d.x fun x=>CY (u::r) ds fun y=>k (x,y)
 | _,_,_=>none
inductive LSh where
 | dead
 | d (t:Ty)
 | nil
 | own (o:Nat)
 | loc (o off:Nat)
 | mp (o:Nat)
 | fn (f:FuncId) (caps:List Nat)
 | pn
 | mn
 | bc (b:Bool)
 | ip (t:Ty)
 | vp (o:Nat)
 | ps (o:Nat)
 | ni
inductive CSh where
 | v (x:LSh)
 | g (xs:List LSh)
 | a (t:Ty)
inductive SSh where
 | dead
 | c (x:CSh)
 | t (l:List CSh)
inductive OSh where
 | gone
 | box (t:TypeId) (xs:List LSh)
 | arr (e:TypeId) (t:Ty)
 | kx (k:IntKind) (agg:Bool) (t:Ty)
 | iJ (agg:Bool) (t:Ty)
 | fM (k:IntKind) (agg:Bool) (t:Ty)
 | gI (k:IntKind) (e:TypeId) (t:Ty)
structure Shp where
 tm:List (Nat×SSh)
 hp:List (Nat×OSh)
 ps:List Ty
def mkL:LSh->List Dyn->TL×List Dyn
 | .dead,ds=>(.dead,ds)
 | .d t,d::r=>match Ty.same d.t t with | some h=>(.v t (mZ h.down d.x),r) | none=>(.dead,r)
 | .d _,[]=>(.dead,[])
 | .nil,ds=>(.nil,ds)
 | .own o,ds=>(.own o,ds)
 | .loc o off,ds=>(.loc o off,ds)
 | .mp o,ds=>(.mp o,ds)
 | .fn f caps,ds=>(.fn f caps,ds)
 | .pn,ds=>(.oth (.pointer none),ds)
 | .mn,ds=>(.oth (.map none),ds)
 | .bc b,ds=>(.v .bool b,ds)
 | .ip t,d::r=>match Ty.same d.t t with | some h=>(.ip t (mZ h.down d.x) 0,r) | none=>(.dead,r)
 | .ip _,[]=>(.dead,[])
 | .vp o,ds=>(.el o 0 0 1,ds)
 | .ps o,ds=>(.ps o,ds)
 | .ni,ds=>(.oth .nilIface,ds)
def tz:List LSh->List Dyn->List TL×List Dyn
 | [],ds=>([],ds)
 | x::r,ds=>match mkL x ds with | (y,ds)=>match tz r ds with | (l,ds)=>(y::l,ds)
def mkC:CSh->List Dyn->TC×List Dyn
 | .v x,ds=>match mkL x ds with | (y,ds)=>(.v y,ds)
 | .g xs,ds=>match tz xs ds with | (l,ds)=>(.g l,ds)
 | .a t,d::r=>match Ty.same d.t t with | some h=>(.g (dF t (mZ h.down d.x)),r) | none=>(.g [],r)
 | .a _,[]=>(.g [],[])
def mQ:List CSh->List Dyn->List TC×List Dyn
 | [],ds=>([],ds)
 | x::r,ds=>match mkC x ds with | (y,ds)=>match mQ r ds with | (l,ds)=>(y::l,ds)
def x7:SSh->List Dyn->TSl×List Dyn
 | .dead,ds=>(.dead,ds)
 | .c x,ds=>match mkC x ds with | (y,ds)=>(.c y,ds)
 | .t l,ds=>match mQ l ds with | (l,ds)=>(.t l,ds)
def C0:List (Nat×SSh)->List Dyn->List (Nat×TSl)×List Dyn
 | [],ds=>([],ds)
 | x::r,ds=>match x7 x.2 ds with | (y,ds)=>match C0 r ds with | (l,ds)=>((x.1,y)::l,ds)
def kH (t:Ty) (d:Dyn):List t.den:=match Ty.same d.t (.sl t) with | some h=>mZ (b := .sl t) h.down d.x | none=>[]
def Kz (k:IntKind) (t:Ty) (d:Dyn):List (Int×List t.den):=match Ty.same d.t (.map k t) with | some h=>mZ (b := .map k t) h.down d.x | none=>[]
def mkO:OSh->List Dyn->bI×List Dyn
 | .gone,ds=>(.gone,ds)
 | .box t xs,ds=>match tz xs ds with | (l,ds)=>(.box t l,ds)
 | .arr e t,d::ds=>(.arr e t (kH t d),ds)
 | .kx k agg t,d::ds=>(.kx k agg t (kH (.pair (.int k) t) d),ds)
 | .iJ agg t,d::ds=>(.iJ agg t (kH (.pair .str t) d),ds)
 | .fM k agg t,d::ds=>(.fM k agg t (kH (.pair (.pair .str (.pair (.int k) (.pair (.int k) (.pair (.int k) .str)))) t) d),ds)
 | .gI k e t,d::ds=>(.gI k e t (Kz k t d) none,ds)
 | .arr e t,[]=>(.gone,[])
 | .gI k e t,[]=>(.gone,[])
 | .kx k agg t,[]=>(.gone,[])
 | .iJ agg t,[]=>(.gone,[])
 | .fM k agg t,[]=>(.gone,[])
def pj:List (Nat×OSh)->List Dyn->List (Nat×bI)×List Dyn
 | [],ds=>([],ds)
 | x::r,ds=>match mkO x.2 ds with | (y,ds)=>match pj r ds with | (l,ds)=>((x.1,y)::l,ds)
def Shp.mk' (σ:Shp) (ds:List Dyn):TSt:=match C0 σ.tm ds with | (tm,ds)=>match pj σ.hp ds with | (hp,_)=>⟨tm,hp⟩
def Shp.at (σ:Shp) (x:Tup σ.ps):TSt:=σ.mk' (lG σ.ps x)
structure FS where
 m:List (Nat×Nat)
 nV:List Nat
 frz:List Nat
def bu:List Nat->Nat->Bool
 | [],_=>false
 | x::r,k=>cond (Nat.beq k x) true (bu r k)
def Na (l:List (Nat×Nat)):List Nat:=l.map (·.1)
def vl (l:List (Nat×Nat)):List Nat:=l.map (·.2)
def Fb:List (Nat×Nat)->Nat->Nat->Bool
 | [],_,_=>false
 | x::r,a,b=>cond (Nat.beq a x.1 && Nat.beq b x.2) true (Fb r a b)
def FS.ren (f:FS) (o o2:Nat):FS:=cond (Fb f.m o o2) f { f with m:=(o,o2)::f.m }
abbrev KF (ρ:Type):=FS->List Dyn->Option ρ
def x8:List Nat->List Nat->FS->Option FS
 | [],[],f=>some f
 | x::xs,y::ys,f=>x8 xs ys (f.ren x y)
 | _,_,_=>none
section
variable {ρ:Type} (fx cur:TSt)
def C1 (t:Ty) (l:TL) (f:FS) (k:t.den->FS->Option ρ):Option ρ :=
 match l with
 | .v t' x=>v7 t' t x fun x=>k x f
 | .nil=>Kb t fun x=>k x f
 | .own o=>match obT fx cur o with
  | some (.arr _ t' l)=>v7 (.sl t') t l fun x=>k x { f with frz:=o::f.frz }
  | _=>none
 | .mp o=>match obT fx cur o with
  | some (.gI kd _ t' m none)=>lT (.map kd t') t m fun x=>k x { f with frz:=o::f.frz }
  | _=>none
 | _=>none
def Aa:(t:Ty)->List TL->FS->(t.den->FS->List TL->Option ρ)->Option ρ
 | .pair a b,ls,f,k=>Aa a ls f fun x f ls=>Aa b ls f fun y f ls=>k (x,y) f ls
 | t,l::ls,f,k=>C1 fx cur t l f fun x f=>k x f ls
 | _,[],_,_=>none
def Nb (te:Ty):List TL->FS->(List te.den->FS->Option ρ)->Option ρ
 | [],f,k=>k [] f
 | x::r,f,k=>C1 fx cur te x f fun x f=>Nb te r f fun l f=>k (x::l) f
def KA (t:Ty) (o:Nat) (cs:List TL) (f:FS) (k:KF ρ):Option ρ :=
 match t with
 | .sl te=>cond (wF te) (Nb fx cur te cs f fun l f=>k { f with frz:=o::f.frz } [⟨.sl te,l⟩]) none
 | _=>none
def bEq:Bool->Bool->Bool
 | true,c=>c
 | false,c=>!c
def Nc (sh:LSh) (x:TL) (f:FS) (k:KF ρ):Option ρ :=
 match sh with
 | .dead=>k f []
 | .d t=>match x with
  | .v t' x=>lT t' t x fun x=>k f [⟨t,x⟩]
  | .nil=>match t with | .sl e=>k f [⟨.sl e,([]:List e.den)⟩] | _=>none
  | .tl t' l=>lT (.sl t') t l fun x=>k f [⟨t,x⟩]
  | .own o=>match obT fx cur o with | some (.arr _ t' l)=>lT (.sl t') t l fun x=>k { f with frz:=o::f.frz } [⟨t,x⟩] | some (.lit _ cs)=>KA fx cur t o cs f k | _=>none
  | .sv o a b z=>match obT fx cur o with | some (.arr _ t' l)=>cond (Nat.beq z t'.cells && Nat.ble 1 z) ((cut l a b).bind fun l=>lT (.sl t') t l fun x=>k { f with frz:=o::f.frz } [⟨t,x⟩]) none | _=>none
  | _=>none
 | .nil=>match x with | .nil=>k f [] | _=>none
 | .own o2=>match x with | .own o=>k (f.ren o o2) [] | .nil=>k { f with nV:=o2::f.nV } [] | _=>none
 | .loc o2 off2=>match x with | .loc o off=>cond (Nat.beq off off2) (k (f.ren o o2) []) none | _=>none
 | .mp o2=>match x with | .mp o=>k (f.ren o o2) [] | _=>none
 | .fn g2 caps2=>match x with | .fn g caps=>cond (Nat.beq g g2) (match x8 caps caps2 f with | some f=>k f [] | none=>none) none | _=>none
 | .pn=>match x with | .oth (.pointer none)=>k f [] | _=>none
 | .mn=>match x with | .oth (.map none)=>k f [] | _=>none
 | .bc b=>match x with | .v .bool c=>cond (bEq b c) (k f []) none | _=>none
 | .ip t=>match x with
  | .loc o off=>cond (Nat.beq off 0) (match obT fx cur o with
   | some (.box _ xs)=>Aa fx cur t xs f fun x f rest=>match rest with | []=>k { f with frz:=o::f.frz } [⟨t,x⟩] | _=>none
   | _=>none) none
  | .ip t' x off=>cond (Nat.beq off 0) (lT t' t x fun x=>k f [⟨t,x⟩]) none
  | _=>none
 | .vp o2=>match x with | .el o n 0 1=>cond (eqZ n 0) (k (f.ren o o2) []) none | _=>none
 | .ni=>match x with | .oth .nilIface=>k f [] | _=>none
 | .ps o2=>match x with | .ps o=>k (f.ren o o2) [] | .loc o off=>cond (Nat.beq off 0) (k (f.ren o o2) []) none | .oth (.pointer none)=>cond (bu (vl f.m) o2) (k f []) none | _=>none
def C2:List LSh->List TL->FS->KF ρ->Option ρ
 | [],[],f,k=>k f []
 | s::ss,x::xs,f,k=>Nc fx cur s x f fun f ds=>C2 ss xs f fun f es=>k f (ds++es)
 | _,_,_,_=>none
def Nd:CSh->TC->FS->KF ρ->Option ρ
 | .a t,.g xs,f,k=>Aa fx cur t xs f fun x f rest=>match rest with | []=>k f [⟨t,x⟩] | _=>none
 | .v s,.v x,f,k=>Nc fx cur s x f k
 | .g ss,.g xs,f,k=>C2 fx cur ss xs f k
 | _,_,_,_=>none
def Gl:List CSh->List TC->FS->KF ρ->Option ρ
 | [],[],f,k=>k f []
 | s::ss,x::xs,f,k=>Nd fx cur s x f fun f ds=>Gl ss xs f fun f es=>k f (ds++es)
 | _,_,_,_=>none
def Nf (s:SSh) (x:TSl) (f:FS) (k:KF ρ):Option ρ :=
 match s with
 | .dead=>k f []
 | .c s=>match x with | .c x=>Nd fx cur s x f k | _=>none
 | .t ss=>match x with | .t xs=>Gl fx cur ss xs f k | _=>none
def Gm:List (Nat×SSh)->FS->KF ρ->Option ρ
 | [],f,k=>k f []
 | s::ss,f,k=>Nf fx cur s.2 ((rM cur.tm fx.tm s.1).getD .dead) f fun f ds=>Gm ss f fun f es=>k f (ds++es)
def C3:List (Nat×Nat)->Nat->Option Nat
 | [],_=>none
 | x::r,k=>cond (Nat.beq k x.2) (some x.1) (C3 r k)
def PO (s:OSh) (o:Option bI) (f:FS) (k:KF ρ):Option ρ :=
 match s with
 | .gone=>match o with | some _=>k f [] | none=>none
 | .box t ss=>match o with | some (.box t' xs)=>cond (Nat.beq t t') (C2 fx cur ss xs f k) none | _=>none
 | .arr e t=>match o with | some (.arr e' t' l)=>cond (Nat.beq e e') (lT (.sl t') (.sl t) l fun l=>k f [⟨.sl t,l⟩]) none | _=>none
 | .kx kd agg t=>match o with | some (.kx kd' agg' t' m)=>cond (agg == agg') (lT (.sl (.pair (.int kd') t')) (.sl (.pair (.int kd) t)) m fun l=>k f [⟨.sl (.pair (.int kd) t),l⟩]) none | _=>none
 | .iJ agg t=>match o with | some (.iJ agg' t' m)=>cond (agg == agg') (lT (.sl (.pair .str t')) (.sl (.pair .str t)) m fun l=>k f [⟨.sl (.pair .str t),l⟩]) none | _=>none
 | .gI kd e t=>match o with | some (.gI kd' e' t' m none)=>cond (Nat.beq e e') (lT (.map kd' t') (.map kd t) m fun l=>k f [⟨.map kd t,l⟩]) none | _=>none
 | .fM kd agg t=>match o with | some (.fM kd' agg' t' m)=>cond (agg == agg') (lT (.sl (.pair (.pair .str (.pair (.int kd') (.pair (.int kd') (.pair (.int kd') .str)))) t')) (.sl (.pair (.pair .str (.pair (.int kd) (.pair (.int kd) (.pair (.int kd) .str)))) t)) m fun l=>k f [⟨.sl (.pair (.pair .str (.pair (.int kd) (.pair (.int kd) (.pair (.int kd) .str)))) t),l⟩]) none | _=>none
def v8:List (Nat×OSh)->FS->KF ρ->Option ρ
 | [],f,k=>k f []
 | s::ss,f,k=>match C3 f.m s.1 with
  | some o=>PO fx cur s.2 (obT fx cur o) f fun f ds=>v8 ss f fun f es=>k f (ds++es)
  | none=>match s.2 with
   | .arr e t=>v8 ss { f with nV:=s.1::f.nV } fun f es=>k f (⟨.sl t,([]:List t.den)⟩::es)
   | .gone=>v8 ss f k
   | _=>none
end
def rP:List Nat->Bool
 | []=>true
 | x::r=>!bu r x && rP r
def aG {α:Type} (l:List (Nat×α)):List Nat:=l.map (·.1)
def FS.ok (f:FS) (hk:List Nat) (pin:Bool):Bool :=
 rP (Na f.m) && rP (vl f.m) && f.m.all (fun x=>bu hk x.2 && (!pin || Nat.ble (x.2+1) 1000000 || Nat.beq x.1 x.2)) && f.frz.all (fun o=>!bu (Na f.m) o) && f.nV.all (fun o=>!bu (vl f.m) o && bu hk o && Nat.ble (o+1) 1000000)
def C4:List (Nat×OSh)->List (Nat×Nat)
 | []=>[]
 | x::r=>match x.2 with
  | .gone=>C4 r
  | _=>cond (Nat.ble 1000000 x.1) ((x.1,x.1)::C4 r) (C4 r)
def fitAll {ρ:Type} (fx cur:TSt) (σ:Shp) (fx2:TSt) (k:Tup σ.ps->Option ρ):Option ρ :=
 Gm fx cur σ.tm ⟨(fx2.hp.map fun x=>(x.1,x.1))++C4 σ.hp,[],[]⟩ fun f ds=>v8 fx cur σ.hp f fun f es =>
  cond (f.ok (aG σ.hp++aG fx2.hp) true) (CY σ.ps (ds++es) k) none
def TSl.vm:TSl->Bool
 | .dead=>true
 | _=>false
def rQ (fx cur:TSt) (σ:Shp):Bool :=
 cur.tm.all (fun x=>bu (aG σ.tm) x.1 || (match look fx.tm x.1 with | some y=>y.vm | none=>true)) && cur.hp.all (fun x=>bu (aG σ.hp) x.1 || (match look fx.hp x.1 with | some _=>false | none=>true))
def TL.iK:TL->List Nat
 | .loc o _ | .own o | .el o _ _ _ | .mp o | .sv o _ _ _ | .ps o=>[o]
 | .fn _ caps=>caps
 | _=>[]
def TSl.iK:TSl->List Nat
 | .dead=>[]
 | .c x=>x.leaves.flatMap TL.iK
 | .t l=>l.flatMap fun c=>c.leaves.flatMap TL.iK
def bI.iK:bI->List Nat
 | .box _ cs=>cs.flatMap TL.iK
 | .lit _ cs=>cs.flatMap TL.iK
 | .sU _ _ _ _ _ d=>[d]
 | _=>[]
def iI (fx:TSt):Bool:=fx.tm.all (fun x=>x.2.iK.all (bu (aG fx.hp))) && fx.hp.all (fun x=>x.2.iK.all (bu (aG fx.hp)))
def aT (cur:TSt) (σ:Shp) (kt kh:List Nat):TSt :=
 ⟨((cur.tm.filter fun x=>!bu (aG σ.tm) x.1).map fun x=>(x.1,cond (bu kt x.1) x.2 .dead))++(aG σ.tm).map fun k=>(k,.dead),cur.hp.filter fun x=>!bu (aG σ.hp) x.1 && bu kh x.1⟩
def gA {α:Type}:List Nat->List (Nat×α)->List (Nat×α)
 | _,[]=>[]
 | seen,x::r=>cond (bu seen x.1) (gA seen r) (x::gA (x.1::seen) r)
def gZ (fx cur kept:TSt) (σ:Shp):TSt :=
 ⟨gA [] (kept.tm++fx.tm.filter fun x=>!bu (aG cur.tm) x.1 && !bu (aG σ.tm) x.1),gA [] (kept.hp++fx.hp.filter fun x=>!bu (aG cur.hp) x.1 && !bu (aG σ.hp) x.1)⟩
def x9 (fx cur:TSt) (σ:Shp) (kt kh:List Nat):TSt :=
 ⟨(cur.tm.filter fun x=>bu (aG σ.tm) x.1 || !bu kt x.1)++fx.tm.filter fun x=>bu (aG σ.tm) x.1 && !bu (aG cur.tm) x.1,cur.hp.filter fun x=>bu (aG σ.hp) x.1 || !bu kh x.1⟩
def n9 (fx cur kept:TSt) (σ:Shp):Bool :=
 cur.hp.all (fun x=>bu (aG σ.hp) x.1 || bu (aG kept.hp) x.1 || (match look fx.hp x.1 with | some _=>false | none=>true)) && σ.hp.all fun x=>match look fx.hp x.1 with | some _=>false | none=>true
inductive RSh where
 | one (c:CSh)
 | tup (l:List CSh)
structure Con where
 f:FuncId
 ain:List SSh
 kin:List (Nat×OSh)
 hin:List (Nat×OSh)
 ps:List Ty
 out:RSh
 ig:List (Nat×OSh)
 qs:List Ty
 fn:Tup ps->Option (Tup qs)
def rnT (ρ:List (Nat×Nat)) (o:Nat):Nat:=match look ρ o with | some x=>x | none=>o
def wz (ρ:List (Nat×Nat)):TL->TL
 | .loc o f=>.loc (rnT ρ o) f
 | .own o=>.own (rnT ρ o)
 | .el o i f z=>.el (rnT ρ o) i f z
 | .mp o=>.mp (rnT ρ o)
 | .fn f caps=>.fn f (caps.map (rnT ρ))
 | .sv o a b z=>.sv (rnT ρ o) a b z
 | .ps o=>.ps (rnT ρ o)
 | x=>x
def KB (ρ:List (Nat×Nat)):TC->TC
 | .v x=>.v (wz ρ x)
 | .g xs=>.g (xs.map (wz ρ))
def wA (ρ:List (Nat×Nat)):bI->bI
 | .box t cs=>.box t (cs.map (wz ρ))
 | .lit t cs=>.lit t (cs.map (wz ρ))
 | .sU _ _ _ _ _ _=>.gone
 | h=>h
def LSh.gw:LSh->Bool
 | .d t=>t.gw
 | .ip _=>false
 | _=>true
def CSh.leaves:CSh->List LSh
 | CSh.v x=>[x]
 | CSh.g xs=>xs
 | CSh.a t=>[.d t]
def RSh.eF:RSh->List CSh
 | .one c=>[c]
 | .tup l=>l
def OSh.gw:OSh->Bool
 | .box _ xs=>xs.all LSh.gw
 | .arr _ t=>t.gw
 | .gI _ _ t=>t.gw
 | .iJ _ t=>t.gw
 | _=>true
def LSh.ya:LSh->Bool
 | .ip _=>false
 | _=>true
def SSh.ya:SSh->Bool
 | .dead=>true
 | .c x=>x.leaves.all LSh.ya
 | .t l=>l.all fun c=>c.leaves.all LSh.ya
def Con.gw (c:Con):Bool:=c.out.eF.all (fun x=>x.leaves.all LSh.gw) && c.ig.all (fun x=>x.2.gw) && c.kin.all fun x=>x.2.gw
def od (d:Nat) (m:List (Nat×Nat)):List (Nat×OSh)->List (Nat×Nat)
 | []=>[]
 | x::r=>cond (bu (vl m) x.1) (od d m r) ((x.1,d+10000 * x.1)::od d m r)
section
variable {ρ:Type} (fx cur:TSt)
def wI:List SSh->List TSl->FS->KF ρ->Option ρ
 | [],[],f,k=>k f []
 | s::ss,x::xs,f,k=>Nf fx cur s x f fun f ds=>wI ss xs f fun f es=>k f (ds++es)
 | _,_,_,_=>none
def ly:List LSh->List TL->Bool
 | [],[]=>true
 | .d _::ss,.v _ _::xs=>ly ss xs
 | .own _::ss,.own _::xs=>ly ss xs
 | .loc _ _::ss,.loc _ _::xs=>ly ss xs
 | .mp _::ss,.mp _::xs=>ly ss xs
 | .fn _ _::ss,.fn _ _::xs=>ly ss xs
 | .nil::ss,.nil::xs=>ly ss xs
 | .pn::ss,.oth _::xs=>ly ss xs
 | .mn::ss,.oth _::xs=>ly ss xs
 | .vp _::ss,.el _ _ _ _::xs=>ly ss xs
 | .ps _::ss,.ps _::xs=>ly ss xs
 | _,_=>false
def KC (s:OSh) (o:Option bI):Bool :=
 match s,o with
 | .box _ ss,some (.box _ xs)=>ly ss xs
 | .arr _ _,some (.arr _ _ _)=>true
 | .kx _ _ _,some (.kx _ _ _ _)=>true
 | .iJ _ _,some (.iJ _ _ _)=>true
 | .fM _ _ _,some (.fM _ _ _ _)=>true
 | .gI _ _ _,some (.gI _ _ _ _ _)=>true
 | _,_=>false
def sE (m:List (Nat×Nat)):List (Nat×OSh)->Bool
 | []=>true
 | s::ss=>(match C3 m s.1 with | some o=>KC s.2 (obT fx cur o) | none=>false) && sE m ss
def wJ (r:RSh) (ρ:List (Nat×Nat)) (cs:List TC):TSl :=
 match r,cs with
 | .one _,[c]=>.c (KB ρ c)
 | _,cs=>.t (cs.map (KB ρ))
def yb (con:Con) (d:Nat) (args:List TSl) (k:KE ρ):Option ρ :=
 wI fx cur con.ain args ⟨[],[],[]⟩ fun f ds=>v8 fx cur con.kin f fun f es=>v8 fx cur con.hin f fun f gs =>
  cond (f.ok (aG con.kin++aG con.hin) false && (match f.nV with | []=>true | _=>false) && f.m.all (fun x=>Nat.ble 1000000 x.2 && bu (aG con.ig++aG con.kin) x.2 && (match obT fx cur x.1 with | some _=>true | none=>false)) && (match f.frz with | []=>true | _=>con.gw) && rP (aG con.ig++aG con.kin) && con.ig.all (fun x=>bu (vl f.m) x.1 || (Nat.ble (x.1+1) 50 && lF fx cur (d+10000 * x.1))) && sE fx cur f.m con.kin)
   (CY con.ps (ds++(es++gs)) fun x=>(con.fn x).bind fun r=>match mQ con.out.eF (lG con.qs r) with
    | (cs,ds)=>match pj con.ig ds with
     | (hs,_)=>k (wJ con.out (f.m.map (fun x=>(x.2,x.1))++od d f.m con.ig) cs) (hs.map fun x=>(rnT (f.m.map (fun x=>(x.2,x.1))++od d f.m con.ig) x.1,wA (f.m.map (fun x=>(x.2,x.1))++od d f.m con.ig) x.2))) none
end
def Gn (Φ:List Con) (sel:List (Nat×Nat)) (f:FuncId) (d:Nat):Option Con :=
 match look sel d with
 | some i=>match Φ[i]? with | some c=>cond (Nat.beq c.f f) (some c) none | none=>none
 | none=>Φ.find? fun c=>Nat.beq c.f f
structure Iter where
 f:FuncId
 cs:List CSh
 ps:List Ty
 fn:List bI->Option (List (Tup ps))
 at_:List bI->Nat->List bI
def Iter.row (it:Iter) (x:Tup it.ps):List TC:=(mQ it.cs (lG it.ps x)).1
def py (os:List Nat) (ol:List bI) (l:List (Nat×bI)):List (Nat×bI):=l.map fun x=>(x.1,match look (os.zip ol) x.1 with | some h=>h | none=>x.2)
def pk (cur:TSt) (os:List Nat) (ol:List bI):TSt:=⟨cur.tm,py os ol cur.hp⟩
def wK (l:List (Nat×bI)):List Nat->Option (List bI)
 | []=>some []
 | o::r=>match look l o with
  | some h=>match wK l r with | some t=>some (h::t) | none=>none
  | none=>none
def wa {α σ β:Type} (f:Nat->α->σ->Option (σ⊕β)):Nat->List α->σ->Option (σ⊕β)
 | _,[],s=>some (.inl s)
 | k,x::r,s=>(f k x s).bind fun y=>match y with
  | .inl s'=>wa f (k+1) r s'
  | .inr b=>some (.inr b)
def fxK (fx cur:TSt) (os:List Nat) (ol:List bI) (σ:Shp) (kt kh:List Nat):TSt:=gZ fx (pk cur os ol) (aT (pk cur os ol) σ kt kh) σ
def Fc:SSh->Bool
 | .c (.v (.loc _ _))=>true
 | _=>false
def Gp (fx cur:TSt) (σ:Shp) (kt kh:List Nat) (os:List Nat) (tg:Nat) (ts:List Nat) (n m:Nat):Bool :=
 iI (gZ fx cur (aT cur σ kt kh) σ) && n9 fx cur (aT cur σ kt kh) σ && (σ.tm.all (fun x=>Fc x.2 && !bu ts x.1) && !bu (aG σ.tm) tg) && Nat.beq n m && os.all (fun o=>bu (aG (aT cur σ kt kh).hp) o) && rP os &&
  (gZ fx cur (aT cur σ kt kh) σ).tm.all (fun x=>!bu ts x.1 || x.2.vm)
structure Env where
 P:Program
 H:List (Nat×Ty)
 Φ:List Con
 sel:List (Nat×Nat)
 js:List Nat
 hs:List Nat
 fz:List Nat
 zs:List Nat
 ns:List Nat
 bs:List Nat
 its:List Iter:=[]
 KI:List (TSt->TSt->Option TSt):=[]
def Ab:List TSl->Option (List Nat)
 | []=>some []
 | .c (.v (.loc o 0))::r=>match Ab r with | some l=>some (o::l) | none=>none
 | _=>none
def tA (E:Env) (d:Option Nat):Bool:=match d with | some d'=>bu E.zs d' | none=>false
section
variable {ρ:Type} (E:Env) (fx:TSt)
def KD (fx cur:TSt) (args:List TSl):Bool:=args.all fun x=>x.iK.all fun i=>match obT fx cur i with | some (.lit _ _) | none=>false | _=>true
def orT {ρ:Type} (a b:Option ρ):Option ρ:=match a with | some r=>some r | none=>b
def Ng (hs:List Nat) (d:Nat) (wr:List (Nat×bI)):Bool:=hs.all fun e=>Nat.ble e 1999999 || wr.all fun x=>!Nat.beq (d+1000000 * (x.1+2)) e
def C5 (E:Env) (fx cur:TSt) (c:Call) (caps:List Nat) (f d:Nat) (con:Con) (k:KE ρ):Option ρ :=
 cond ((bu E.hs d || KD fx cur (cond (Nat.beq (f % 2) 0) (c.args.toList.map (evT fx cur cq)++caps.map fun o=>tL (.loc o 0)) ((caps.map fun o=>tL (.loc o 0))++c.args.toList.map (evT fx cur cq)))) && (match con.kin,con.hin with | [],[]=>con.ain.all SSh.ya || bu E.hs d | _,_=>bu E.hs d) && (match con.hin with | []=>true | _=>!bu E.hs (d+1000000))) (yb fx cur con d (cond (Nat.beq (f % 2) 0) (c.args.toList.map (evT fx cur cq)++caps.map fun o=>tL (.loc o 0)) ((caps.map fun o=>tL (.loc o 0))++c.args.toList.map (evT fx cur cq))) fun y wr=>cond (Ng E.hs d wr) (k y wr) none) none
def o6 (op:Op) (d:Option Nat) (cur:TSt) (k:KE ρ):Option ρ :=
 let ev:=evT fx cur cq
 match op with
 | .move x | .assign x=>OU (ev x) k
 | .pick c x y=>Kd (ev c) (ev x) (ev y) k
 | .alloc t=>match tA E d with | true=>PN E.P E.H fx cur t d k | false=>E2 E.P fx cur t d k
 | .load t x=>Ke E.P fx cur t (ev x) k
 | .store t x v=>E3 E.P fx cur t (ev x) (ev v) k
 | .nilCheck x=>Py (ev x) k
 | .fieldAddr t x f=>tt E.P t f (ev x) k
 | .field t x f=>E4 E.P t f (ev x) k
 | .indexAddr t x i=>PK E.P fx cur t (ev x) (ev i) k
 | .index t x i=>E5 E.P t (ev x) (ev i) k
 | .binOp b t x y _=>match tA E d with
  | true=>match OV b with | true=>Kw E.P fx cur b t (ev x) (ev y) k | false=>Kg b (ev x) (ev y) k
  | false=>match ev x,ev y with
   | .c (.g xs),.c (.g ys)=>PF E.P b t xs ys k
   | .c (.v (.oth .nilIface)),.c (.v (.oth .nilIface))=>tNI E.P b t (isC y) k
   | X,Y=>match Qw b with | true=>tSh b X Y k | false=>PC E.P b t X Y k
 | .unOp b _ x=>tUn b (ev x) k
 | .extract x i=>xV i (ev x) k
 | .build t ps=>E7 E.P t (ps.toList.map (·.1)) (ps.toList.map fun p=>ev p.2) k
 | .buildSlice t n ps=>match d with
  | some d'=>cond (bu E.zs d') (Bq E.P E.H (bu E.ns d') t n (ps.toList.map (·.1)) (ps.toList.map fun p=>ev p.2) k) (xY E.P E.H fx cur t n (ps.toList.map (·.1)) (some d') (ps.toList.map fun p=>ev p.2) k)
  | none=>none
 | .convert s t x=>match tA E d with | true=>tCO E.P fx cur s t d (ev x) k | false=>Kh E.P fx cur s t (ev x) k
 | .slice t x none (some h) (some m)=>Rq E.P t (ev x) (ev h) (ev m) k
 | .slice t x l h none=>match tA E d with | true=>Gk E.P fx cur t l.isSome h.isSome d (ev x) ((l.toList++h.toList).map ev) k | false=>Br E.P fx cur t l.isSome h.isSome (ev x) ((l.toList++h.toList).map ev) k
 | .box t x=>match tA E d with | true=>Ky E.P E.H fx cur t d (ev x) k | false=>PI E.P fx cur t d (ev x) k
 | .makeMap t none=>match tA E d with | true=>Fa E.P E.H fx cur t d k | false=>x6 E.P E.H fx cur t d k
 | .lookup t m x ok=>match ok,tA E d with | false,true=>Kv E.P fx cur t d (ev m) (ev x) k | _,_=>Km E.P fx cur E.H t ok (ev m) (ev x) k
 | .mapUpdate t m x v=>PL E.P fx cur t (ev m) (ev x) (ev v) k
 | .mapEntry t m x=>Ii E.P fx cur t d (ev m) (ev x) k
 | .entryStore _ m st v=>CX fx cur (ev m) (ev st) (ev v) k
 | .makeFunc (.func f) first caps=>vk f first.size (Ab ((first.toList++caps.toList).map ev)) k
 | .makeSlice t x y=>tw E.P E.H fx cur t d (ev x) (ev y) k
 | .call c=>match c.callee with
  | .builtin .len=>match c.args.toList,c.argTypes.toList with | [x],[t]=>PH E.P fx cur t (ev x) k | _,_=>none
  | .builtin .append=>match c.args.toList,c.argTypes.toList with | [x,y],[t,t']=>cond (Nat.beq t t') (match tA E d with | true=>Kq E.P fx cur t (ev x) (ev y) k | false=>z7 E.P E.H fx cur t d (ev x) (ev y) k) (match tA E d with | true=>none | false=>Ku E.P E.H fx cur t t' d (ev x) (ev y) k) | _,_=>none
  | .builtin .cap=>match c.args.toList,c.argTypes.toList with | [x],[t]=>PM E.P t (ev x) k | _,_=>none
  | .builtin .copy=>match c.args.toList,c.argTypes.toList with | [x,y],[t,u]=>QN E.P fx cur t u (ev x) (ev y) k | _,_=>none
  | .builtin .clear=>match c.args.toList,c.argTypes.toList with | [x],[t]=>E9 E.P fx cur t (ev x) k | _,_=>none
  | .builtin .min=>match c.args.toList with | [x,y]=>wH false (ev x) (ev y) k | [x,y,z]=>ui false (ev x) (ev y) (ev z) k | _=>none
  | .builtin .max=>match c.args.toList with | [x,y]=>wH true (ev x) (ev y) k | [x,y,z]=>ui true (ev x) (ev y) (ev z) k | _=>none
  | .value g=>match ev g,d with
   | .c (.v (.fn f caps)),some d=>match Gn E.Φ E.sel (f / 2) d with
    | some con=>match look E.sel (d+1000000) with
     | none=>C5 E fx cur c caps f d con k
     | some _=>match Gn E.Φ E.sel (f / 2) (d+1000000) with
      | some con2=>orT (C5 E fx cur c caps f d con k) (C5 E fx cur c caps f d con2 k)
      | none=>none
    | none=>none
   | _,_=>none
  | _=>none
 | _=>none
def QO (os:List Operand) (cur:TSt):Bool:=os.all fun x=>match (evT fx cur cq x).iK with | []=>true | _=>false
def PQ (os:List Operand) (cur:TSt):Bool:=os.all fun x=>(evT fx cur cq x).iK.all fun i=>match obT fx cur i with | some (.box _ _)=>true | _=>false
def PR (os:List Operand) (cur:TSt):Bool:=os.all fun x=>(evT fx cur cq x).iK.all fun i=>match obT fx cur i with | some (.arr _ _ _)=>true | _=>false
def OW (op:Op) (cur:TSt):Bool:=match nP op with
 | some a=>E.bs.all fun e=>cond (Nat.beq (e / 1000000) (a+1)) ((evT fx cur cq (.tmp a)).iK.all fun i=>cond (Nat.ble 500000 (e % 1000000)) (Nat.beq (i+500000) (e % 1000000)) (match obT fx cur i with | some (.box t _)=>Nat.beq t (e % 1000000) | _=>false)) true
 | none=>true
def QP (op:Op) (d:Option Nat) (cur:TSt) (k:KE ρ):Option ρ :=
 match d with
 | some d=>cond (bu E.ns d) (cond (QO fx (Op.bq op) cur) (o6 E fx op (some d) cur k) none) (cond (bu E.bs d) (cond (cond (xv op) (PR fx (Op.bq op) cur) (PQ fx (Op.bq op) cur)) (o6 E fx op (some d) cur k) none) (o6 E fx op (some d) cur k))
 | none=>o6 E fx op none cur k
def opT (op:Op) (d:Option Nat) (cur:TSt) (k:KE ρ):Option ρ:=cond (OW E fx op cur) (QP E fx op d cur k) none
def PS:List (Nat×bI)->List (Nat×bI)->List (Nat×bI)
 | l,[]=>l
 | l,x::r=>PS (sX l x.1 x.2) r
def sY (cur:TSt) (d:Option Nat) (x:TSl) (wr:List (Nat×bI)):TSt:=⟨match d with | some d=>sX cur.tm d x | none=>cur.tm,PS cur.hp wr⟩
def fg {ρ:Type}:List (Nat×TSl)->(List (Nat×TSl)->ρ)->ρ
 | [],k=>k []
 | x::r,k=>match x with
  | (i,.dead)=>fg r fun r=>k ((i,.dead)::r)
  | (i,.c (.v (.v t y)))=>fg r fun r=>k ((i,.c (.v (.v t y)))::r)
  | (i,.c (.v y))=>fg r fun r=>k ((i,.c (.v y))::r)
  | (i,.c (.g y))=>fg r fun r=>k ((i,.c (.g y))::r)
  | (i,.t y)=>fg r fun r=>k ((i,.t y)::r)
def KG (cur:TSt) (t:Ty) (l:TL) (k:t.den->List Nat->Option ρ):Option ρ :=
 match l with
 | .v t' x=>v7 t' t x fun x=>k x []
 | .nil=>Kb t fun x=>k x []
 | .own o=>match obT fx cur o with
  | some (.arr _ t' l)=>v7 (.sl t') t l fun x=>k x [o]
  | _=>none
 | _=>none
def C6 (cur:TSt):(t:Ty)->List TL->(t.den->List Nat->List TL->Option ρ)->Option ρ
 | .pair a b,ls,k=>C6 cur a ls fun x os ls=>C6 cur b ls fun y ps ls=>k (x,y) (os++ps) ls
 | t,l::ls,k=>KG fx cur t l fun x os=>k x os ls
 | _,[],_=>none
def yc (cur:TSt) (te:Ty):List Operand->(List (Nat×TSl)->List Nat->Option ρ)->Option ρ
 | [],k=>k [] []
 | .tmp t::r,k=>match rM cur.tm fx.tm t with
  | some (.c c)=>C6 fx cur te c.leaves fun x os rest=>match rest with
   | []=>yc cur te r fun ns ps=>k ((t,.c (match c with | .g _=>.g (dF te x) | .v _=>.v (match dF te x with | y::_=>y | []=>.dead)))::ns) (os++ps)
   | _=>none
  | _=>none
 | _::r,k=>yc cur te r k
def vn (os:List Nat) (x:TSl):TSl:=cond (x.iK.any (bu os)) .dead x
def Ac (cur:TSt) (ns:List (Nat×TSl)) (os:List Nat):List (Nat×TSl):=ns++cur.tm.map fun x=>(x.1,vn os x.2)
def yd (cur:TSt) (os:List Nat):List (Nat×bI):=cur.hp.filter fun x=>!bu os x.1
def OX:TL->Option Nat
 | .own o=>some o
 | _=>none
def Bv (cur:TSt):List Operand->List Nat
 | []=>[]
 | .tmp t::r=>match rM cur.tm fx.tm t with
  | some (.c (.v (.own o)))=>o::Bv cur r
  | _=>Bv cur r
 | _::r=>Bv cur r
def ye (cur:TSt):List Operand->List Nat
 | []=>[]
 | .tmp t::r=>match rM cur.tm fx.tm t with
  | some (.c (.v (.loc o _)))=>(match obT fx cur o with | some (.box _ cs)=>cs.filterMap OX++ye cur r | _=>ye cur r)
  | _=>ye cur r
 | _::r=>ye cur r
def ownArgs (cur:TSt) (l:List Operand):List Nat:=match Bv fx cur l with | []=>ye fx cur l | os=>os
def qJ (cur:TSt) (os:List Nat):TL->TL
 | .own o=>cond (bu os o) (match obT fx cur o with | some (.arr _ t l)=>.v (.sl t) l | _=>.own o) (.own o)
 | x=>x
def yf (cur:TSt) (os:List Nat):TC->TC
 | .v x=>.v (qJ fx cur os x)
 | .g xs=>.g (xs.map (qJ fx cur os))
def Fe (cur:TSt) (os:List Nat):TSl->TSl
 | .c c=>.c (yf fx cur os c)
 | .t l=>.t (l.map (yf fx cur os))
 | .dead=>.dead
def yg (cur:TSt) (os:List Nat):bI->bI
 | .box t cs=>.box t (cs.map (qJ fx cur os))
 | .lit t cs=>.lit t (cs.map (qJ fx cur os))
 | h=>h
def zTm (cur:TSt) (os:List Nat):List (Nat×TSl):=cur.tm.map fun x=>(x.1,vn os (Fe fx cur os x.2))
def zHp (cur:TSt) (os:List Nat):List (Nat×bI):=(cur.hp.filter fun x=>!bu os x.1).map fun x=>(x.1,yg fx cur os x.2)
def wb (cur:TSt):List Operand->List Nat
 | []=>[]
 | .tmp t::r=>match rM cur.tm fx.tm t with
  | some (.c c)=>c.leaves.filterMap OX++wb cur r
  | _=>wb cur r
 | _::r=>wb cur r
def PT:TL->Bool
 | .nil=>true
 | _=>false
def Gq (cur:TSt) (l:List Operand):Bool:=l.all fun x=>match evT fx cur cq x with | .c c=>c.leaves.all fun y=>!PT y | _=>true
def PU (op:Op) (cur:TSt) (k:TSt->Option ρ):Option ρ :=
 match op with
 | .buildSlice t _ ps=>cond (Gq fx cur (ps.toList.map (·.2)))
  (cond ((wb fx cur (ps.toList.map (·.2))).all (fun o=>match look fx.hp o with | some _=>false | none=>true) && iI ⟨gA [] (zTm fx cur (wb fx cur (ps.toList.map (·.2)))++fx.tm),gA [] (zHp fx cur (wb fx cur (ps.toList.map (·.2)))++fx.hp)⟩) (k ⟨zTm fx cur (wb fx cur (ps.toList.map (·.2))),zHp fx cur (wb fx cur (ps.toList.map (·.2)))⟩) none)
  (match look E.H t with
  | some te=>yc fx cur te (ps.toList.map (·.2)) fun ns os =>
   cond (os.all (fun o=>match look fx.hp o with | some _=>false | none=>true) && iI ⟨gA [] (Ac cur ns os++fx.tm),gA [] (yd cur os++fx.hp)⟩) (k ⟨Ac cur ns os,yd cur os⟩) none
  | none=>none)
 | .call c =>
  cond ((ownArgs fx cur c.args.toList).all (fun o=>match look fx.hp o with | some _=>false | none=>true) && iI ⟨gA [] (zTm fx cur (ownArgs fx cur c.args.toList)++fx.tm),gA [] (zHp fx cur (ownArgs fx cur c.args.toList)++fx.hp)⟩) (k ⟨zTm fx cur (ownArgs fx cur c.args.toList),zHp fx cur (ownArgs fx cur c.args.toList)⟩) none
 | _=>none
def PW (o:Oper) (cur:TSt) (k:TSt->Option ρ):Option ρ :=
 match o.dst with
 | some d=>cond (bu E.fz d) (PU E fx o.op cur k) (k cur)
 | none=>k cur
def Ff (ops:List Oper) (cur:TSt) (g:Nat):Option (Nat×TSl) :=
 match ops[g]? with
 | some o=>match o.dst with | some d=>some (d,(rM cur.tm fx.tm d).getD .dead) | none=>none
 | none=>none
def zk (ops:List Oper):List Oper->TSt->(TSt->Option ρ)->Option ρ
 | [],cur,K=>K cur
 | o::rest,cur,K=>match o.guard with
  | none=>PW E fx o cur fun cur=>opT E fx o.op o.dst cur fun x wr=>fg (sY cur o.dst x wr).tm fun tm=>zk ops rest ⟨tm,(sY cur o.dst x wr).hp⟩ K
  | some (g,b)=>match Ff fx ops cur g with
   | some (d,.c (.v (.v .bool c)))=>cond c
    (cond b (opT E fx o.op o.dst ⟨sX cur.tm d (tV .bool true),cur.hp⟩ fun x wr=>fg (sY ⟨sX cur.tm d (tV .bool true),cur.hp⟩ o.dst x wr).tm fun tm=>zk ops rest ⟨tm,(sY cur o.dst x wr).hp⟩ K) (zk ops rest (sY ⟨sX cur.tm d (tV .bool true),cur.hp⟩ o.dst (.t []) []) K))
    (cond b (zk ops rest (sY ⟨sX cur.tm d (tV .bool false),cur.hp⟩ o.dst (.t []) []) K) (opT E fx o.op o.dst ⟨sX cur.tm d (tV .bool false),cur.hp⟩ fun x wr=>fg (sY ⟨sX cur.tm d (tV .bool false),cur.hp⟩ o.dst x wr).tm fun tm=>zk ops rest ⟨tm,(sY cur o.dst x wr).hp⟩ K))
   | some (d,.t _)=>zk ops rest (sY cur o.dst (.t []) []) K
   | _=>none
end
inductive An where
 | no
 | seq (a b:An)
 | join (σ:Shp) (kt kh:List Nat) (pure:Bool) (a b:An)
 | cond (a b:An)
 | loop (σ:Shp) (kt kh:List Nat) (b:An)
 | one (a:An)
 | range (σ:Shp) (kt kh:List Nat) (a b:An)
 | hand (i:Nat)
def PX {α:Type}:List α->Nat->Option α
 | [],_=>none
 | x::_,0=>some x
 | _::r,i+1=>PX r i
noncomputable def den [Fuel] (E : Env) : Code->An->TSt->(ρ : Type)->DecidableEq ρ->TSt->(AEx->TSt->Option ρ)->Option ρ
  | .skip, _, fx, ρ, dq, cur, K => K .normal cur
  | .region _ ops _, _, fx, ρ, dq, cur, K => zk E fx ops.toList ops.toList cur fun c => K .normal c
  | .seq a b, an, fx, ρ, dq, cur, K => match an with
    | .seq x y => den E a x fx ρ dq cur fun e c => match e with | .normal => den E b y fx ρ dq c K | e => K e c
    | .join σ kt kh true x y => Bool.rec none
        ((den E a x (gZ fx cur (aT cur σ kt kh) σ) (Tup σ.ps) (tx σ.ps) (x9 fx cur σ kt kh) fun e c => match e with
          | .normal => Bool.rec none (fitAll (gZ fx cur (aT cur σ kt kh) σ) c σ (gZ fx cur (aT cur σ kt kh) σ) some) (rQ (gZ fx cur (aT cur σ kt kh) σ) c σ)
          | _ => none).bind fun v => den E b y fx ρ dq ⟨(σ.at v).tm++(aT cur σ kt kh).tm, (σ.at v).hp++(aT cur σ kt kh).hp⟩ K)
        (iI (gZ fx cur (aT cur σ kt kh) σ) && n9 fx cur (aT cur σ kt kh) σ)
    | .join σ kt kh false x y => Bool.rec none
        ((den E a x (gZ fx cur (aT cur σ kt kh) σ) (Tup σ.ps⊕ρ) (@instDecidableEqSum _ _ (tx σ.ps) dq) (x9 fx cur σ kt kh) fun e c => match e with
          | .normal => Bool.rec none (fitAll (gZ fx cur (aT cur σ kt kh) σ) c σ (gZ fx cur (aT cur σ kt kh) σ) fun v => some (.inl v)) (rQ (gZ fx cur (aT cur σ kt kh) σ) c σ)
          | e => (K e ⟨c.tm++(aT cur σ kt kh).tm, c.hp++(aT cur σ kt kh).hp⟩).map .inr).bind fun o => match o with
            | .inl v => den E b y fx ρ dq ⟨(σ.at v).tm++(aT cur σ kt kh).tm, (σ.at v).hp++(aT cur σ kt kh).hp⟩ K
            | .inr r => some r)
        (iI (gZ fx cur (aT cur σ kt kh) σ) && n9 fx cur (aT cur σ kt kh) σ)
    | .hand i => match PX E.KI i with
      | some h => (h fx cur).bind fun c => K .normal c
      | none => none
    | _ => none
  | .cond c a b, an, fx, ρ, dq, cur, K => match an with
    | .cond x y => match evT fx cur cq c with
      | .c (.v (.v .bool t)) => Bool.rec (den E b y fx ρ dq cur K) (den E a x fx ρ dq cur K) t
      | .c (.v (.nb pos t l)) => Bool.rec (pw l (den E b y fx ρ dq cur K) (den E a x fx ρ dq cur K)) (pw l (den E a x fx ρ dq cur K) (den E b y fx ρ dq cur K)) pos
      | _ => none
    | _ => none
  | .block id b, an, fx, ρ, dq, cur, K => match an with
    | .one x => den E b x fx ρ dq cur fun e c => match e with | .exit i => Bool.rec (K (.exit i) c) (K .normal c) (Nat.beq i id) | e => K e c
    | _ => none
  | .loop b, an, fx, ρ, dq, cur, K => match an with
    | .loop σ kt kh x => Bool.rec none
        (fitAll fx cur σ (gZ fx cur (aT cur σ kt kh) σ) fun v0 => aw (fun v => den E b x (gZ fx cur (aT cur σ kt kh) σ) (Tup σ.ps⊕ρ) (@instDecidableEqSum _ _ (tx σ.ps) dq) (σ.at v) fun e c => match e with
          | .normal => Bool.rec none (fitAll (gZ fx cur (aT cur σ kt kh) σ) c σ (gZ fx cur (aT cur σ kt kh) σ) fun v => some (.inl v)) (rQ (gZ fx cur (aT cur σ kt kh) σ) c σ)
          | e => (K e ⟨c.tm++(aT cur σ kt kh).tm, c.hp++(aT cur σ kt kh).hp⟩).map .inr) v0)
        (iI (gZ fx cur (aT cur σ kt kh) σ) && n9 fx cur (aT cur σ kt kh) σ)
    | _ => none
  | .exit id, _, fx, ρ, dq, cur, K => K (.exit id) cur
  | .ret, _, fx, ρ, dq, cur, K => K .ret cur
  | .scope b, an, fx, ρ, dq, cur, K => match an with
    | .one x => den E b x fx ρ dq cur K
    | _ => none
  | .rangeFunc g ps a b, an, fx, ρ, dq, cur, K => match an with
    | .range σ kt kh x y => match g with
      | .tmp tg => match look (gZ fx cur (aT cur σ kt kh) σ).tm tg with
        | some (.c (.v (.fn f2 os))) => match wK cur.hp os with
          | some ol => match E.its.find? (fun it => Nat.beq (2 * it.f) f2) with
            | some it => Bool.rec none
              ((it.fn ol).bind fun xs => fitAll fx (pk cur os (it.at_ ol 0)) σ (fxK fx cur os (it.at_ ol 0) σ kt kh) fun v0 =>
                (wa (fun k row v => den E a x (fxK fx cur os (it.at_ ol k) σ kt kh) (Tup σ.ps⊕ρ) (@instDecidableEqSum _ _ (tx σ.ps) dq) ⟨ps.toList.zip ((it.row row).map TSl.c)++(σ.at v).tm, (σ.at v).hp⟩ fun e c => match e with
                  | .normal => den E b y (fxK fx cur os (it.at_ ol k) σ kt kh) (Tup σ.ps⊕ρ) (@instDecidableEqSum _ _ (tx σ.ps) dq) c fun e c => match e with
                    | .normal => Bool.rec none (fitAll (fxK fx cur os (it.at_ ol k) σ kt kh) c σ (fxK fx cur os (it.at_ ol k) σ kt kh) fun v => some (.inl v)) (rQ (fxK fx cur os (it.at_ ol k) σ kt kh) c σ)
                    | e => (K e ⟨(c.tm.filter fun x => !bu (ps.toList++gE a++gE b) x.1)++(aT (pk cur os (it.at_ ol k)) σ kt kh).tm, c.hp++(aT (pk cur os (it.at_ ol k)) σ kt kh).hp⟩).map .inr
                  | _ => none) 0 xs v0).bind fun o => match o with
                | .inl v => K .normal ⟨(σ.at v).tm++(aT (pk cur os (it.at_ ol xs.length)) σ kt kh).tm, (σ.at v).hp++(aT (pk cur os (it.at_ ol xs.length)) σ kt kh).hp⟩
                | .inr r => some r)
              (Gp fx cur σ kt kh os tg (ps.toList++gE a++gE b) it.cs.length ps.toList.length)
            | none => none
          | none => none
        | _ => none
      | _ => none
    | _ => none
  | _, _, _, _, _, _, _ => none
def Nh (P:Program) (cur:TSt):ResultVar->Option TC
 | .tmp t=>match look cur.tm t with | some (.c c)=>some c | _=>none
 | .cell t ty=>match look cur.tm t with
  | some (.c (.v (.loc o off)))=>match look cur.hp o,gB P ty with
   | some (.box _ cs),some n=>E0 cs off n (fv P ty)
   | _,_=>none
  | _=>none
def C7 (P:Program) (cur:TSt):List ResultVar->Option (List TC)
 | []=>some []
 | r::rs=>match Nh P cur r,C7 P cur rs with | some c,some l=>some (c::l) | _,_=>none
def vo:Nat->List TC->List (Nat×TSl)
 | _,[]=>[]
 | i,c::r=>(i,.c c)::vo (i+1) r
def KH:Nat->List SSh->List (Nat×SSh)
 | _,[]=>[]
 | i,c::r=>(i,c)::KH (i+1) r
noncomputable def PY (P:Program) (rs:List ResultVar) (kin:List (Nat×bI)) (out:RSh) (ig:List (Nat×OSh)) (qs:List Ty) (cur:TSt):Option (Tup qs) :=
 match C7 P ⟨cur.tm,cur.hp++kin⟩ rs with
 | some cs=>Bool.rec none (fitAll ⟨[],kin⟩ ⟨vo 0 cs,cur.hp⟩ ⟨KH 0 (out.eF.map .c),ig,qs⟩ ⟨[],kin⟩ some) (rQ ⟨[],kin⟩ ⟨[],cur.hp⟩ ⟨[],[],[]⟩ && rP (aG kin) && Nat.beq cs.length out.eF.length && (match out with | .one _=>true | .tup l=>!Nat.beq l.length 1))
 | none=>none
def wB:List SSh->List Dyn->List TSl×List Dyn
 | [],ds=>([],ds)
 | x::r,ds=>match x7 x ds with | (y,ds)=>match wB r ds with | (l,ds)=>(y::l,ds)
def Ij:Nat->List TSl->List (Nat×TSl)
 | _,[]=>[]
 | i,c::r=>(i,c)::Ij (i+1) r
noncomputable def fnT [Fuel] (E:Env) (fn:Func) (an:An) (ain:List SSh) (kin hin:List (Nat×OSh)) (ps:List Ty) (out:RSh) (ig:List (Nat×OSh)) (qs:List Ty) (x:Tup ps):Option (Tup qs) :=
 match fn.body with
 | some c=>match wB ain (lG ps x) with
  | (as,ds)=>match pj kin ds with
   | (ks,ds)=>match pj hin ds with
    | (hs,_)=>Bool.rec none (den E c an ⟨[],ks⟩ (Tup qs) (tx qs) ⟨Ij 0 as,hs⟩ fun e c=>match e with
     | .exit _=>none
     | _=>PY E.P fn.results.toList ks out ig qs c) (iI ⟨[],ks⟩)
 | none=>none
end Go.Lad
