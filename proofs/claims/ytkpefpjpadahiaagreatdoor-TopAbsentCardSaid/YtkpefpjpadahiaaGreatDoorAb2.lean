import Derived.Test.YtkpefpjpadahiaaGreatDoorAb1
import Derived.Deep.MidRow
namespace Go.Lad
set_option linter.unusedVariables false
set_option linter.unusedSimpArgs false
open Go.RowKit
def fW (P:Program) (t:TypeId):Bool:=match P.underlying t with | some (.struct _) | some (.array _ _)=>true | _=>false
def gK (P:Program) (t:TypeId):Option Nat:=if (P.underlying t).isSome then (P.info? t).map (·.size) else none
def dy (P:Program) (t:TypeId):Option (TypeId×Nat) :=
 match P.underlying t with
 | some (.slice e)=>match P.info? e with
  | some i=>match i.zero with
   | some z=>if i.bytes<=65536/\z.cells.size=i.size/\0<i.size then some (e,i.size) else none
   | none=>none
  | none=>none
 | _=>none
theorem eV {P:Program} {t e:TypeId} {z:Nat} (h:dy P t=some (e,z)):Cu P t e z:=by
 unfold dy at h;split at h
 ·rename_i e' hu;split at h
  ·rename_i i hi;split at h
   ·rename_i v hv;split at h
    ·rename_i hc;simp only[Option.some.injEq,Prod.mk.injEq] at h;obtain⟨rfl,rfl⟩:=h;exact⟨hu,⟨i,v,hi,hv,rfl,hc.1,hc.2.1⟩,hc.2.2⟩
    ·cases h
   ·cases h
  ·cases h
 ·cases h
def lz (P:Program) (t:TypeId) (f:Nat):Option (Nat×Nat×Bool) :=
 match P.underlying t with
 | some (.struct fs)=>match fs[f]? with
  | some x=>match P.info? x.type with
   | some i=>if P.underlying x.type≠none/\0<i.size then some (x.offset,i.size,fW P x.type) else none
   | none=>none
  | none=>none
 | _=>none
def PV.flat:PV->Bool
 | .sl _=>false
 | .mp _ _=>false
 | _=>true
def gF:Value->aJ
 | .int k n=>if k.min<=n/\n<=k.max then .p (.int k n) else .dead
 | .bool b=>.p (.bool b)
 | .string s=>if s.size<=9223372036854775807 then .p (.str s) else .dead
 | .slice none 0 0=>.nil
 | .pointer none=>.p (.oth (.pointer none))
 | .nilFunc=>.p (.oth .nilFunc)
 | .map none=>.p (.oth (.map none))
 | .nilIface=>.p (.oth .nilIface)
 | _=>.dead
def jQ:Value->Slot
 | .agg cs=>if cs.all (·.oneCell') then .c (.g (cs.toList.map gF)) else .dead
 | .tuple _=>.dead
 | v=>.c (.v (gF v))
theorem nS (G:Gh) (hp:Hp) (w:World) {v:Value} (h1:v.oneCell'=true):LRd G hp w (gF v) v:=by
 refine⟨h1,?_,?_⟩
 ·unfold gF; split <;> (try split) <;> simp [aJ.ids]
 ·unfold gF;split <;> (try split) <;> first
   | trivial
   | (rename_i h; exact .int h)
   | exact .bool
   | (rename_i h; exact .str h)
   | rfl
   | exact .oth rfl
theorem nT (G:Gh) (hp:Hp) (w:World) (v:Value):SRd G hp w (jQ v) v:=by
 unfold jQ;split
 ·rename_i cs;split
  ·rename_i h;refine⟨cs.toList,by simp,by simp,fun i a b ha hb=>?_⟩;rw[List.getElem?_map,hb] at ha;simp only[Option.map_some,Option.some.injEq] at ha;subst ha;refine nS G hp w ?_;have:=Array.all_eq_true_iff_forall_mem.1 h b (by simpa using List.mem_of_getElem? hb);exact this
  ·trivial
 ·trivial
 ·rename_i h1 h2;exact nS G hp w (by cases v <;> simp_all [Value.oneCell'])
def jJ (P:Program) (t:TypeId):Option (List aJ) :=
 match P.info? t with
 | some i=>match i.zero with
  | some v=>if v.cells.all (·.oneCell') then some (v.cells.toList.map gF) else none
  | none=>none
 | none=>none
def St.ev (s:St):Operand->Slot
 | .tmp t=>s.tm t
 | .const v=>jQ v
 | .global g=>match w6 g with | some cs=>.c (.v (.ip cs 0)) | none=>.dead
 | .func f=>.c (.v (.fn (2 * f) []))
theorem cI.ev {w0:World} {χ0:Col} {T0:Ctx} {s:St} {a:Act} {w:World} {G:Gh} (r:cI w0 χ0 T0 s a w G) (x:Operand):SRd G s.hp w (s.ev x) (a.eval x):=by
 cases x with
 | tmp t=>exact r.tms t
 | const v=>exact nT G s.hp w v
 | global g =>
  have key:∀ o:Option (List PV),w6 g=o->SRd G s.hp w (match o with | some cs=>.c (.v (.ip cs 0)) | none=>.dead) (a.eval (.global g)):=fun o h=>by
   cases o with
   | none=>trivial
   | some cs =>
    obtain⟨h1,h2,h3,_⟩:=r.Af g (.inl (by rw[h]; rfl));refine⟨rfl,by simp [aJ.ids],g,0,rfl,h1,h2,fun j p hp=>⟨_,?_,(h3 cs h j p hp).1.rd⟩⟩;rw[Nat.zero_add]; exact (h3 cs h j p hp).2
  exact key _ rfl
 | func f=>exact⟨rfl,by simp [aJ.ids],(Ae f []).symm⟩
structure Eff where
 cond:Prop
 res:Slot
 wr:List (Nat×df)
abbrev Arg:=Slot×List (Option df)
def eM (hp:Hp):List (Nat×df)->Hp
 | []=>hp
 | x::r=>eM (upd hp x.1 (some x.2)) r
def St.app (s:St) (d:Option Nat) (e:Eff):St:={ tm:=(s.put d e.res).tm,hp:=eM s.hp e.wr }
def val (x:Slot):Option Eff:=some ⟨True,x,[]⟩
def dS (c:Prop) (x:Slot):Option Eff:=some ⟨c,x,[]⟩
abbrev Slot.p (p:PV):Slot := .c (.v (.p p))
abbrev Slot.x (x:aJ):Slot := .c (.v x)
def jC:Arg->Option (List (List PV))
 | (.c (.v (.p (.sl l))),_)=>some l
 | (.c (.v .nil),_)=>some []
 | (.c (.v (.tl l)),_)=>some l
 | (.c (.v (.own _)),[some (.arr _ _ l)])=>some l
 | (.c (.v (.sv _ a b z)),[some (.arr _ z' l)])=>if z=z'/\b<=l.length then some ((l.take b).drop a) else none
 | _=>none
def dZ:List aJ->Option (List PV)
 | []=>some []
 | .p p::r=>(dZ r).map (p :: ·)
 | _=>none
def sA:List Slot->Option Eff
 | [s]=>val s
 | _=>none
def qE:List Slot->Option Eff
 | [.c (.v (.p (.bool c))),.c (.v (.p (.bool x))),.c (.v (.p (.bool y)))]=>val (.p (.bool (bif c then x else y)))
 | [.c (.v (.p (.bool c))),x,y]=>val (bif c then x else y)
 | _=>none
def jF (P:Program) (t:TypeId) (dst:Option Nat) (free:Bool):List Arg->Option Eff
 | []=>match dst,jJ P t with
  | some d,some cs=>if free then some ⟨True,.x (.loc d 0),[(d,.box t cs)]⟩ else none
  | _,_=>none
 | _=>none
def nU (cs:List aJ) (off n:Nat) (agg:Bool):Option Cmp :=
 if agg then (if off+n<=cs.length then some (.g ((cs.drop off).take n)) else none) else (cs[off]?).map .v
def k7 (P:Program) (t:TypeId):List Arg->Option Eff
 | [(.c (.v (.loc _ off)),[some (.box _ cs)])]=>match gK P t with
  | some n=>(nU cs off n (fW P t)).bind fun c=>val (.c c)
  | none=>none
 | [(.c (.v (.ip cs off)),_)]=>match gK P t with
  | some n=>if fW P t then dS (off+n<=cs.length) (.c (.g (((cs.drop off).take n).map .p))) else dS (off<cs.length) (.p (cs.getD off (.bool false)))
  | none=>none
 | [(.c (.v (.el _ i off z)),[some (.arr _ z' l)])]=>match gK P t with
  | some n=>if z=z' then (if fW P t then dS (i<l.length/\off+n<=z) (.c (.g ((((l.getD i []).drop off).take n).map .p))) else dS (i<l.length/\off<z) (.p ((l.getD i []).getD off (.bool false)))) else none
  | none=>none
 | _=>none
def Ag:List Slot->Option Eff
 | [.c (.v (.loc o off))]=>val (.x (.loc o off))
 | [.c (.v (.el o i off z))]=>val (.x (.el o i off z))
 | [.c (.v (.ip cs off))]=>val (.x (.ip cs off))
 | _=>none
def iS (P:Program) (t:TypeId) (f:Nat):List Slot->Option Eff
 | [.c (.v (.loc o off))]=>match lz P t f with | some (k,_,_)=>val (.x (.loc o (off+k))) | none=>none
 | [.c (.v (.el o i off z))]=>match lz P t f with | some (k,_,_)=>val (.x (.el o i (off+k) z)) | none=>none
 | [.c (.v (.ip cs off))]=>match lz P t f with | some (k,_,_)=>val (.x (.ip cs (off+k))) | none=>none
 | _=>none
def pJ (P:Program) (t:TypeId) (f:Nat):List Slot->Option Eff
 | [.c (.g xs)]=>match lz P t f with | some (k,n,agg)=>(nU xs k n agg).bind fun c=>val (.c c) | none=>none
 | _=>none
def eN (P:Program) (t:TypeId):List Arg->Option Eff
 | [(.c (.v (.p (.sl l))),_),(.c (.v (.p (.int _ n))),_)]=>match dy P t with
  | some (_,z)=>dS (0<=n/\n.toNat<l.length/\(l.getD n.toNat []).length=z) (.x (.ip (l.getD n.toNat []) 0))
  | none=>none
 | [(.c (.v (.own o)),[some (.arr _ z' l)]),(.c (.v (.p (.int _ n))),_)]=>match dy P t with
  | some (_,z)=>if z=z' then dS (0<=n/\n.toNat<l.length) (.x (.el o n.toNat 0 z)) else none
  | none=>none
 | [(.c (.v (.sv o a b z2)),[some (.arr _ z' l)]),(.c (.v (.p (.int _ n))),_)]=>match dy P t with
  | some (_,z)=>if z=z'/\z2=z' then dS (0<=n/\n.toNat<b-a/\b<=l.length) (.x (.el o (a+n.toNat) 0 z)) else none
  | none=>none
 | _=>none
def lY (P:Program) (t:TypeId):List Slot->Option Eff
 | [.c (.v (.p (.str s))),.c (.v (.p (.int _ n)))]=>match P.underlying t with
  | some .string=>dS (0<=n/\n.toNat<s.size) (.p (.int .u8 (s.data.toList.getD n.toNat 0).toNat))
  | _=>none
 | [.c (.g xs),.c (.v (.p (.int _ n)))]=>match P.underlying t with
  | some (.array m e)=>match gK P e,dZ xs with
   | some 1,some ps=>if ps.length=m/\fW P e=false then dS (0<=n/\n.toNat<ps.length) (.p (ps.getD n.toNat (.bool false))) else none
   | _,_=>none
  | _=>none
 | _=>none
def kE (op:BinOp) (k:IntKind) (a b:Int):Option Eff :=
 match op with
 | .add=>if k = .i64 then dS (inK .i64 (a+b)) (.p (.int .i64 (a+b))) else val (.p (.int k (k.wrap (a+b))))
 | .sub=>if k = .i64 then dS (inK .i64 (a-b)) (.p (.int .i64 (a-b))) else val (.p (.int k (k.wrap (a-b))))
 | .mul=>if k = .i64 then dS (inK .i64 (a * b)) (.p (.int .i64 (a * b))) else val (.p (.int k (k.wrap (a * b))))
 | .quo=>dS (b≠0/\inK k (a.tdiv b)) (.p (.int k (a.tdiv b)))
 | .rem=>dS (b≠0/\inK k (a.tmod b)) (.p (.int k (a.tmod b)))
 | .eql=>val (.p (.bool (decide (a=b))))
 | .neq=>val (.p (.bool (!decide (a=b))))
 | .lss=>val (.p (.bool (decide (a<b))))
 | .leq=>val (.p (.bool (decide (a<=b))))
 | .gtr=>val (.p (.bool (decide (b<a))))
 | .geq=>val (.p (.bool (decide (b<=a))))
 | _=>none
def k8 (op:BinOp) (a b:ByteArray):Option Eff :=
 match op with
 | .add=>dS (a.size+b.size<=9223372036854775807) (.p (.str (a++b)))
 | .eql=>val (.p (.bool (decide (a=b))))
 | .neq=>val (.p (.bool (!decide (a=b))))
 | .lss=>val (.p (.bool (Op.bytesLess a.toList b.toList)))
 | .leq=>val (.p (.bool (Op.bytesLess a.toList b.toList || decide (a=b))))
 | .gtr=>val (.p (.bool (!(Op.bytesLess a.toList b.toList || decide (a=b)))))
 | .geq=>val (.p (.bool (!Op.bytesLess a.toList b.toList)))
 | _=>none
def kY (P:Program) (op:BinOp) (t:TypeId):List Slot->Option Eff
 | [.c (.v (.p (.int k a))),.c (.v (.p (.int k' b)))]=>if k=k' then kE op k a b else none
 | [.c (.v (.p (.str a))),.c (.v (.p (.str b)))]=>k8 op a b
 | [.c (.v (.p (.bool a))),.c (.v (.p (.bool b)))]=>match op,P.underlying t with
  | .eql,some .bool=>val (.p (.bool (a == b)))
  | .neq,some .bool=>val (.p (.bool (!(a == b))))
  | _,_=>none
 | [.c (.v (.p (.sl l))),.c (.v .nil)]=>match op,P.underlying t with
  | .eql,some (.slice _)=>val (.x (.nb true l))
  | .neq,some (.slice _)=>val (.x (.nb false l))
  | _,_=>none
 | [.c (.v .nil),.c (.v .nil)]=>match op,P.underlying t with
  | .eql,some (.slice _)=>val (.p (.bool true))
  | .neq,some (.slice _)=>val (.p (.bool false))
  | _,_=>none
 | [.c (.v (.loc _ _)),.c (.v (.p (.oth (.pointer none))))]=>match op,P.underlying t with
  | .eql,some (.pointer _)=>val (.p (.bool false))
  | .neq,some (.pointer _)=>val (.p (.bool true))
  | _,_=>none
 | [.c (.v (.p (.oth (.pointer none)))),.c (.v (.p (.oth (.pointer none))))]=>match op,P.underlying t with
  | .eql,some (.pointer _)=>val (.p (.bool true))
  | .neq,some (.pointer _)=>val (.p (.bool false))
  | _,_=>none
 | _=>none
def jD (P:Program) (src dst:TypeId):List Slot->Option Eff
 | [.c (.v (.p (.int k n)))]=>match P.underlying src,P.underlying dst with
  | some (.int _),some (.int k')=>if k' = .i64/\k ≠ .u64 then val (.p (.int .i64 n)) else val (.p (.int k' (k'.wrap n)))
  | _,_=>none
 | [.c (.v (.p (.str s)))]=>match P.underlying src,P.underlying dst with
  | some .string,some .string=>val (.p (.str s))
  | _,_=>none
 | _=>none
def Hi (op:UnOp):List Slot->Option Eff
 | [.c (.v (.p (.bool a)))]=>match op with | .not=>val (.p (.bool (!a))) | _=>none
 | [.c (.v (.p (.int .i64 a)))]=>match op with | .neg=>dS (inK .i64 (-a)) (.p (.int .i64 (-a))) | _=>none
 | [.c (.v (.p (.int .u64 a)))]=>match op with | .neg=>val (.p (.int .u64 (IntKind.u64.wrap (0-a)))) | _=>none
 | _=>none
def ml (i:Nat):List Slot->Option Eff
 | [.t l]=>match l[i]? with | some c=>val (.c c) | none=>none
 | _=>none
def uM:List aJ->List (Nat×Nat×Cmp)->Option (List aJ)
 | cs,[]=>some cs
 | cs,(off,n,c)::r=>if c.leaves.length=n/\off+n<=cs.length then uM (cs.take off++c.leaves++cs.drop (off+n)) r else none
def lZ (place:Nat->Option (Nat×Nat)):List Nat->List Slot->Option (List (Nat×Nat×Cmp))
 | [],[]=>some []
 | i::is,.c c::r=>match place i,lZ place is r with | some (o,n),some l=>some ((o,n,c)::l) | _,_=>none
 | _,_=>none
def placesOf (P:Program) (t:TypeId):Option (List (Nat×Nat)) :=
 match P.underlying t with
 | some (.struct fs)=>fs.toList.mapM fun f=>(P.info? f.type).map fun i=>(f.offset,i.size)
 | _=>none
def pK (P:Program) (t:TypeId) (is:List Nat) (args:List Slot):Option Eff :=
 match placesOf P t,jJ P t with
 | some pl,some z=>match lZ (fun i=>pl[i]?) is args with
  | some l=>match uM z l with | some cs=>val (.c (.g cs)) | none=>none
  | none=>none
 | _,_=>none
def Ah:aJ->Option PV
 | .p p=>some p
 | .nil=>some (.sl [])
 | _=>none
def gL:List aJ->Option (List PV)
 | []=>some []
 | x::r=>match Ah x,gL r with | some p,some l=>some (p::l) | _,_=>none
def rowsOf (z:Nat):List Arg->Option (List (List PV))
 | []=>some []
 | (.c c,_)::r=>match gL c.leaves,rowsOf z r with | some ps,some l=>if ps.length=z then some (ps::l) else none | _,_=>none
 | _=>none
def dG (P:Program) (t:TypeId) (len:Nat) (is:List Nat) (dst:Option Nat) (free:Bool) (args:List Arg):Option Eff :=
 match dy P t,dst with
 | some (e,z),some d=>if is=List.range len/\free/\len<=100/\z<=1000 then match rowsOf z args with | some l=>some ⟨True,.x (.own d),[(d,.arr e z l)]⟩ | none=>none else none
 | _,_=>none
def kF (P:Program) (t:TypeId):List Arg->Option Eff
 | [(.c (.v (.mp _)),[some (.fO _ _ m)])]=>match P.underlying t with | some (.map _ _)=>dS (m.length<=9223372036854775807) (.p (.int .i64 m.length)) | _=>none
 | [(.c (.v (.mp _)),[some (.fa _ m)])]=>match P.underlying t with | some (.map _ _)=>dS (m.length<=9223372036854775807) (.p (.int .i64 m.length)) | _=>none
 | [(.c (.v (.mp _)),[some (.fb _ _ m)])]=>match P.underlying t with | some (.map _ _)=>dS (m.length<=9223372036854775807) (.p (.int .i64 m.length)) | _=>none
 | [(.c (.v (.p (.str s))),_)]=>match P.underlying t with | some .string=>val (.p (.int .i64 s.size)) | _=>none
 | [a]=>match P.underlying t,jC a with | some (.slice _),some l=>val (.p (.int .i64 l.length)) | _,_=>none
 | _=>none
def gM (P:Program) (t:TypeId) (dst:Option Nat) (free:Bool):List Arg->Option Eff
 | [(.c (.v (.own o)),[some (.arr e z l)]),y]=>match dy P t,jC y,dst with
  | some (e',z'),some m,some d=>if e=e'/\z=z'/\free then some ⟨l.length+m.length<=2147483647/\∀ x∈m,x.length=z,.x (.own d),[(o,.gone),(d,.arr e z (l++m))]⟩ else none
  | _,_,_=>none
 | [(.c (.v .nil),_),y]=>match dy P t,jC y,dst with
  | some (e,z),some m,some d=>if free then some ⟨m.length<=2147483647/\∀ x∈m,x.length=z,.x (.own d),[(d,.arr e z m)]⟩ else none
  | _,_,_=>none
 | _=>none
def ma (P:Program) (t:TypeId):List Arg->Option Eff
 | [(.c (.v (.loc o off)),[some (.box bt cs)]),(.c c,_)]=>match gK P t with
  | some n=>if c.leaves.length=n/\off+n<=cs.length then some ⟨True,.dead,[(o,.box bt (cs.take off++c.leaves++cs.drop (off+n)))]⟩ else none
  | none=>none
 | [(.c (.v (.el o i off z)),[some (.arr e z' l)]),(.c c,_)]=>match gK P t,dZ c.leaves with
  | some n,some ps=>if z=z'/\ps.length=n then some ⟨i<l.length/\off+n<=z,.dead,[(o,.arr e z (l.set i ((l.getD i []).take off++ps++(l.getD i []).drop (off+n))))]⟩ else none
  | _,_=>none
 | _=>none
def qm (hl hh:Bool) (n:Nat) (as:List Arg):Option (Int×Int) :=
 match hl,hh,as with
 | false,false,[]=>some (0,n)
 | true,false,[(.c (.v (.p (.int _ i))),_)]=>some (i,n)
 | false,true,[(.c (.v (.p (.int _ j))),_)]=>some (0,j)
 | true,true,[(.c (.v (.p (.int _ i))),_),(.c (.v (.p (.int _ j))),_)]=>some (i,j)
 | _,_,_=>none
def iY (P:Program) (t:TypeId) (hl hh:Bool):List Arg->Option Eff
 | (.c (.v (.p (.str s))),_)::as=>match P.underlying t,qm hl hh s.size as with
  | some .string,some (i,j)=>dS (0<=i/\i<=j/\j<=s.size) (.p (.str (s.extract i.toNat j.toNat)))
  | _,_=>none
 | (.c (.v (.p (.sl l))),_)::as=>match dy P t,qm hl hh l.length as with
  | some (_,z),some (i,j)=>dS (0<=i/\i<=j/\j<=l.length/\∀ x∈l,x.length=z) (.p (.sl ((l.take j.toNat).drop i.toNat)))
  | _,_=>none
 | (.c (.v .nil),_)::as=>match dy P t,qm hl hh 0 as with
  | some _,some (i,j)=>dS (i=0/\j=0) (.x .nil)
  | _,_=>none
 | (.c (.v (.own o)),[some (.arr _ z' l)])::as=>match dy P t,qm hl hh l.length as with
  | some (_,z),some (i,j)=>if z=z' then dS (0<=i/\i<=j/\j<=l.length) (.x (.sv o i.toNat j.toNat z)) else none
  | _,_=>none
 | _=>none
def kG:Cmp->Option (Bool×List PV)
 | .v (.p p)=>some (false,[p])
 | .g xs=>(dZ xs).map fun ps=>(true,ps)
 | _=>none
def sB (agg:Bool) (ps:List PV):Cmp:=if agg then .g (ps.map .p) else .v (.p (ps.headD (.bool false)))
def oZ (P:Program) (t:TypeId):Option (Bool×List PV) :=
 match P.info? t with
 | some i=>match i.zero with
  | some v=>match jQ v with
   | .c c=>match kG c with
    | some (agg,ps)=>if ps.all PV.flat then some (agg,ps) else none
    | none=>none
   | _=>none
  | none=>none
 | none=>none
def aJ.mX:aJ->aJ
 | .nil=>.p (.sl [])
 | x=>x
def Cmp.mX:Cmp->Cmp
 | .v x=>.v x.mX
 | .g xs=>.g (xs.map aJ.mX)
def nV (P:Program) (t:TypeId):Option (Bool×List PV) :=
 match P.info? t with
 | some i=>match i.zero with
  | some v=>match jQ v with
   | .c c=>kG c.mX
   | _=>none
  | none=>none
 | none=>none
def Ai (P:Program) (kt:TypeId):Option IntKind :=
 match P.underlying kt with
 | some (.struct fs)=>match fs.toList with
  | [f,g]=>match P.underlying f.type,P.underlying g.type with
   | some (.int k),some .string=>if (decide (f.offset=0) && decide (g.offset=1) && (f.name != "_") && (g.name != "_") && !P.stoodInHeld kt)=true then some k else none
   | _,_=>none
  | _=>none
 | _=>none
def ju (P:Program) (t:TypeId) (dst:Option Nat) (free:Bool):List Arg->Option Eff
 | []=>match P.underlying t,dst with
  | some (.map kt et),some d=>match P.underlying kt with
   | some .string=>match nV P et with
    | some (agg,_)=>if free then some ⟨True,.x (.mp d),[(d,.fa agg [])]⟩ else none
    | none=>none
   | ktd=>match ktd,oZ P et with
    | some (.int k),some (agg,_)=>if free then some ⟨True,.x (.mp d),[(d,.fO k agg [])]⟩ else none
    | some (.struct _),some (agg,_)=>match Ai P kt with
     | some k=>if free then some ⟨True,.x (.mp d),[(d,.fb k agg [])]⟩ else none
     | none=>none
    | _,_=>none
  | _,_=>none
 | _=>none
def kH (ok:Bool) (agg:Bool) (r:Option (List PV)) (z:List PV):Slot :=
 if ok then .t [sB agg (r.getD z),.v (.p (.bool r.isSome))] else .c (sB agg (r.getD z))
def gN (P:Program) (t:TypeId) (ok:Bool):List Arg->Option Eff
 | [(.c (.v (.mp _)),[some (.fO k agg m)]),(.c (.v (.p (.int k' n))),_)]=>match P.underlying t with
  | some (.map kt et)=>match P.underlying kt,oZ P et with
   | some (.int k2),some (agg2,z)=>if k=k2/\k'=k2/\agg2=agg then val (kH ok agg (cM m n) z) else none
   | _,_=>none
  | _=>none
 | [(.c (.v (.mp _)),[some (.fa agg m)]),(.c (.v (.p (.str s))),_)]=>match P.underlying t with
  | some (.map kt et)=>match P.underlying kt,nV P et with
   | some .string,some (agg2,z)=>if agg2=agg then val (kH ok agg (cM m s) z) else none
   | _,_=>none
  | _=>none
 | [(.c (.v (.p (.oth (.map none)))),_),(.c (.v (.p (.str _))),_)]=>match P.underlying t with
  | some (.map kt et)=>match P.underlying kt,nV P et with
   | some .string,some (agg,z)=>val (kH ok agg none z)
   | _,_=>none
  | _=>none
 | [(.c (.v (.mp _)),[some (.fb k agg m)]),(.c (.g [.p (.int k' n),.p (.str s)]),_)]=>match P.underlying t with
  | some (.map kt et)=>match Ai P kt,oZ P et with
   | some k2,some (agg2,z)=>if k=k2/\k'=k2/\agg2=agg then val (kH ok agg (cM m (n,s)) z) else none
   | _,_=>none
  | _=>none
 | _=>none
def fQ (P:Program) (t:TypeId):List Arg->Option Eff
 | [(.c (.v (.mp o)),[some (.fO k agg m)]),(.c (.v (.p (.int k' n))),_),(.c c,_)]=>match P.underlying t with
  | some (.map kt _)=>match P.underlying kt,kG c with
   | some (.int k2),some (agg2,ps)=>if k=k2/\k'=k2/\agg2=agg then some ⟨∀ p∈ps,p.flat=true,.dead,[(o,.fO k agg (gv m n ps))]⟩ else none
   | _,_=>none
  | _=>none
 | [(.c (.v (.mp o)),[some (.fa agg m)]),(.c (.v (.p (.str s))),_),(.c c,_)]=>match P.underlying t with
  | some (.map kt _)=>match P.underlying kt,kG c with
   | some .string,some (agg2,ps)=>if agg2=agg then some ⟨True,.dead,[(o,.fa agg (gv m s ps))]⟩ else none
   | _,_=>none
  | _=>none
 | [(.c (.v (.mp o)),[some (.fb k agg m)]),(.c (.g [.p (.int k' n),.p (.str s)]),_),(.c c,_)]=>match P.underlying t with
  | some (.map kt _)=>match Ai P kt,kG c with
   | some k2,some (agg2,ps)=>if k=k2/\k'=k2/\agg2=agg then some ⟨∀ p∈ps,p.flat=true,.dead,[(o,.fb k agg (gv m (n,s) ps))]⟩ else none
   | _,_=>none
  | _=>none
 | _=>none
def Op.bL:Op->List Operand
 | .move x | .assign x | .box _ x | .load _ x | .nilCheck x | .unOp _ _ x | .convert _ _ x | .makeInterface _ x
 | .fieldAddr _ x _ | .field _ x _ | .range _ x | .next x _ | .extract x _=>[x]
 | .pick c a b=>[c,a,b]
 | .build _ ps | .buildSlice _ _ ps=>ps.toList.map (·.2)
 | .store _ a v | .binOp _ _ a v _ | .makeSlice _ a v | .indexAddr _ a v | .index _ a v | .lookup _ a v _ | .mapEntry _ a v=>[a,v]
 | .makeFunc _ first captured=>first.toList++captured.toList
 | .slice _ x l h m=>x::(l.toList++h.toList++m.toList)
 | .mapUpdate _ m k v | .entryStore _ m k v=>[m,k,v]
 | .makeMap _ r=>r.toList
 | .call c=>(match c.callee with | .value f=>[f] | .invoke r _=>[r] | .builtin _=>[])++c.args.toList
 | _=>[]
def St.arg (s:St) (x:Operand):Arg:=(s.ev x,(s.ev x).ids.map s.hp)
def aY (hp:Hp):Option Nat->Bool
 | some d=>(hp d).isNone && decide (d<1000000)
 | none=>false
def opE (P:Program) (op:Op) (dst:Option Nat) (free:Bool) (args:List Arg):Option Eff :=
 match op with
 | .move _ | .assign _=>sA (args.map (·.1))
 | .pick _ _ _=>qE (args.map (·.1))
 | .alloc t=>jF P t dst free args
 | .load t _=>k7 P t args
 | .store t _ _=>ma P t args
 | .nilCheck _=>Ag (args.map (·.1))
 | .fieldAddr t _ f=>iS P t f (args.map (·.1))
 | .field t _ f=>pJ P t f (args.map (·.1))
 | .indexAddr t _ _=>eN P t args
 | .index t _ _=>lY P t (args.map (·.1))
 | .binOp b t _ _ _=>kY P b t (args.map (·.1))
 | .unOp b _ _=>Hi b (args.map (·.1))
 | .extract _ i=>ml i (args.map (·.1))
 | .build t ps=>pK P t (ps.toList.map (·.1)) (args.map (·.1))
 | .buildSlice t n ps=>dG P t n (ps.toList.map (·.1)) dst free args
 | .convert s d _=>jD P s d (args.map (·.1))
 | .slice t _ l h none=>iY P t l.isSome h.isSome args
 | .makeMap t _=>ju P t dst free args
 | .lookup t _ _ ok=>gN P t ok args
 | .mapUpdate t _ _ _=>fQ P t args
 | .call { callee := .builtin .len,argTypes:=ts,.. }=>match ts.toList with | [t]=>kF P t args | _=>none
 | .call { callee := .builtin .append,argTypes:=ts,.. }=>match ts.toList with | [t,t']=>if t=t' then gM P t dst free args else none | _=>none
 | _=>none
end Go.Lad
