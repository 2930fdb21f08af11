import Derived.Test.YtcppfkflcigjcaaGreatDoorFE
import Derived.Test.YtcppfkflcigjcaaGreatDoorFA
import Derived.ProofKit
import Derived.OpenShut
import Derived.ChangeOld
import Derived.Deep.Slices
import Derived.JoinedCond
import Derived.KernelRfl
set_option linter.unusedVariables false
set_option linter.unusedSimpArgs false
set_option linter.unusedSectionVars false
namespace Go.Lad
open Go.RowKit
abbrev Bs:=List UInt8
def mkS (l:Bs):ByteArray:=⟨l.toArray⟩
theorem iW (l:Bs):(mkS l).data.toList=l:=by simp [mkS]
theorem fw (l:Bs):(mkS l).size=l.length:=by simp [mkS,ByteArray.size]
theorem M1 (a b:Bs):mkS a++mkS b=mkS (a++b):=by
 apply ByteArray.ext;simp [mkS,ByteArray.data_append]
theorem Bk {a b:Bs}:(mkS a=mkS b)=(a=b):=by
 apply propext;constructor
 ·intro h;have:=congrArg (fun s:ByteArray=>s.data.toList) h
  simpa [iW] using this
 ·intro h; rw[h]
theorem CP (l:Bs) (i j:Nat):(mkS l).extract i j=mkS ((l.take j).drop i):=by
 apply ByteArray.ext;simp [mkS,ByteArray.data_extract,List.extract_toArray,List.extract_eq_take_drop,List.drop_take]
theorem qH (l:Bs):(mkS l).toList=l:=by
 rw[ByteArray.toList_eq];exact iW l
theorem Bl (s:ByteArray):mkS s.data.toList=s:=by
 apply ByteArray.ext;simp [mkS]
def inR (k:IntKind) (n:Int):Prop:=k.min<=n/\n<=k.max
instance (k:IntKind) (n:Int):Decidable (inR k n):=inferInstanceAs (Decidable (_/\_))
def i64? (n:Int):Option Int:=if -9223372036854775808<=n/\n<=9223372036854775807 then some n else none
def idx {α:Type} (l:List α) (n:Int):Option α:=if 0<=n then l[n.toNat]? else none
def bAt (l:Bs) (n:Int):Option Int:=(idx l n).map fun c=>(c.toNat:Int)
def cut {α:Type} (l:List α) (i j:Int):Option (List α):=if 0<=i/\i<=j/\j<=l.length then some ((l.take j.toNat).drop i.toNat) else none
def cat? (a b:Bs):Option Bs:=if a.length+b.length<=9223372036854775807 then some (a++b) else none
def app? {α:Type} (l m:List α):Option (List α):=if l.length+m.length<=2147483647 then some (l++m) else none
def p6 (p:Prop) [Decidable p]:Option Unit:=if p then some () else none
theorem J2 {n m:Int} (h:i64? n=some m):n=m/\(-9223372036854775808<=n/\n<=9223372036854775807):=by
 unfold i64? at h;split at h
 ·injection h with h; exact⟨h,by assumption⟩
 ·cases h
theorem nS {α:Type} {l:List α} {n:Int} {x:α} (h:idx l n=some x):0<=n/\n.toNat<l.length/\l[n.toNat]?=some x:=by
 unfold idx at h;split at h
 ·exact⟨by assumption,(List.getElem?_eq_some_iff.1 h).1,h⟩
 ·cases h
theorem Bm {α:Type} {l:List α} {n:Int} {x:α} (e:α->List PV) (h:idx l n=some x):(l.map e).getD n.toNat []=e x:=by
 have:=(nS h).2.2;rw[List.getD_eq_getElem?_getD,List.getElem?_map,this]; rfl
theorem J3 {l:Bs} {n c:Int} (h:bAt l n=some c):0<=n/\n.toNat<l.length/\((l.getD n.toNat 0).toNat:Int)=c:=by
 unfold bAt at h;rw[Option.map_eq_some_iff] at h;obtain⟨b,hb,rfl⟩:=h;obtain⟨h1,h2,h3⟩:=nS hb;exact⟨h1,h2,by rw[List.getD_eq_getElem?_getD,h3]; rfl⟩
theorem p7 {α:Type} {l m:List α} {i j:Int} (h:cut l i j=some m):(l.take j.toNat).drop i.toNat=m/\0<=i/\i<=j/\j<=l.length/\j.toNat<=l.length:=by
 unfold cut at h;split at h
 ·rename_i hc; injection h with h; exact⟨h,hc.1,hc.2.1,hc.2.2,by omega⟩
 ·cases h
theorem J4 {a b m:Bs} (h:cat? a b=some m):a++b=m/\a.length+b.length<=9223372036854775807:=by
 unfold cat? at h;split at h
 ·injection h with h; exact⟨h,by assumption⟩
 ·cases h
theorem p8 {α:Type} {a b m:List α} (h:app? a b=some m):a++b=m/\a.length+b.length<=2147483647:=by
 unfold app? at h;split at h
 ·injection h with h; exact⟨h,by assumption⟩
 ·cases h
theorem kD {p:Prop} [Decidable p] {u:Unit} (h:p6 p=some u):p:=by
 unfold p6 at h;split at h
 ·assumption
 ·cases h
theorem bind_some {α β:Type} {o:Option α} {f:α->Option β} {r:β} (h:o.bind f=some r):∃ x,o=some x/\f x=some r:=Option.bind_eq_some_iff.1 h
section
variable {s:St} {ρ:List (Nat×Nat)}
end
theorem Bn {P:Program} {f:FuncId} {args:List Slot} {vs:List Value} {w:World} (h:gS P f ⟨args,[],.one (.v (.p (.bool true))),[]⟩) (hg:wX (fun _=>0) w) (ha:dU (SRd ⟨fun _=>0,fun _=>0,fun _=>undef⟩ (hpL []) w) args vs) :
  Calls P f vs.toArray w fun e w'=>e = .returned (.bool true)/\Below w.heap.size w w':=by
 refine (h w ⟨fun _=>0,fun _=>0,fun _=>undef⟩ vs (fun _ _=>rfl) hg ha (fun o h ho=>by cases ho)).mono ?_;rintro e w' ⟨G',v,us,rfl,hv,h1,h2,h3,h4,h5,h6,h7,h8,h9,h10⟩;have hv:us=[v]:=hv;subst hv;have hr:LRd G' (hpL []) w' (.p (.bool true)) v:=h9.2 0 _ _ rfl rfl;have:v = .bool true:=by cases (show Rd _ _ (.bool true) v from hr.val); rfl
 exact⟨by rw[this],h1,h2,h3,h4,fun b hb=>(h5 b hb (by show 0<=1; omega)).1⟩
theorem OS {w:World} {p:PV} {v:Value} (h:Rd (Old w) w p v):SRd ⟨fun _=>0,fun _=>0,fun _=>undef⟩ (hpL []) w (.c (.v (.p p))) v :=
 ⟨h.one,by simp [av.ids],Rd.frame (fun _ _ _=>⟨rfl,rfl⟩) h⟩
theorem QH {w:World} {ps:List PV} {cs:Array Value} (h:RdL (Old w) w ps cs.toList):SRd ⟨fun _=>0,fun _=>0,fun _=>undef⟩ (hpL []) w (.c (.g (ps.map .p))) (.agg cs):=by
 refine⟨cs.toList,by simp,by simpa using h.1,fun i x u hx hu=>?_⟩;rw[List.getElem?_map,Option.map_eq_some_iff] at hx;obtain⟨p,hp,rfl⟩:=hx;have:=h.2 i p u hp hu;exact⟨this.one,by simp [av.ids],Rd.frame (fun _ _ _=>⟨rfl,rfl⟩) this⟩
theorem J5 {α β:Type} {R:α->β->Prop}:dU R [] []:=⟨rfl,by simp⟩
theorem vd {α β:Type} {R:α->β->Prop} {a:α} {b:β} {l:List α} {m:List β} (h:R a b) (k:dU R l m):dU R (a::l) (b::m) :=
 ⟨by simp [k.1],fun i x y hx hy=>by
  cases i with
  | zero=>simp at hx hy; subst hx hy; exact h
  | succ i=>exact k.2 i x y (by simpa using hx) (by simpa using hy)⟩
end Go.Lad
namespace Go.Lad
open Go.RowKit
theorem Bo {α β:Type} [DecidableEq α] [DecidableEq β] (f:α->β) (hf:∀ a b,f a=f b->a=b):∀ (l:List α) (x:α),pos (l.map f) (f x)=pos l x
 | [],_=>rfl
 | y::l,x=>by
  rw[List.map_cons];unfold pos;by_cases h:y=x
  ·subst h; simp
  ·have:¬ f y=f x:=fun e=>h (hf _ _ e);have ih:=Bo f hf l x;have h2:¬ x=y:=fun e=>h e.symm;have h3:¬ f x=f y:=fun e=>this e.symm;simp [h,this,h2,h3,ih]
def oX {κ κ' V:Type} (f:κ->κ') (e:V->List PV) (m:List (κ×V)):List (κ'×List PV):=m.map fun p=>(f p.1,e p.2)
theorem ve {κ κ' V:Type} [DecidableEq κ] [DecidableEq κ'] (f:κ->κ') (hf:∀ a b,f a=f b->a=b) (e:V->List PV) (m:List (κ×V)) (k:κ):bG (oX f e m) (f k)=(bG m k).map e:=by
 unfold bG oX;have h1:(m.map fun p=>(f p.1,e p.2)).map (·.1)=(m.map (·.1)).map f:=by simp [List.map_map,Function.comp_def]
 rw[h1,Bo f hf];cases pos (m.map (·.1)) k with
 | none=>rfl
 | some i =>
  simp only[Option.bind_some,List.getElem?_map];cases m[i]? <;> rfl
theorem xR {κ κ' V:Type} [DecidableEq κ] [DecidableEq κ'] (f:κ->κ') (hf:∀ a b,f a=f b->a=b) (e:V->List PV) (m:List (κ×V)) (k:κ) (v:V):fa (oX f e m) (f k) (e v)=oX f e (fa m k v):=by
 unfold fa oX;have h1:(m.map fun p=>(f p.1,e p.2)).map (·.1)=(m.map (·.1)).map f:=by simp [List.map_map,Function.comp_def]
 rw[h1,Bo f hf];cases pos (m.map (·.1)) k with
 | none=>simp
 | some i=>simp [List.map_set]
theorem p9 {κ κ' V:Type} (f:κ->κ') (e:V->List PV) (m:List (κ×V)):(oX f e m).length=m.length:=by simp [oX]
theorem uh (a b:Bs) (h:mkS a=mkS b):a=b:=by rw[Bk] at h; exact h
theorem QI {V:Type} (e:V->List PV) (m:List (Bs×V)) (k:Bs):bG (oX mkS e m) (mkS k)=(bG m k).map e:=ve mkS uh e m k
theorem Rl {V:Type} (e:V->List PV) (m:List (Bs×V)) (k:Bs) (v:V):fa (oX mkS e m) (mkS k) (e v)=oX mkS e (fa m k v):=xR mkS uh e m k v
theorem QJ {V:Type} (e:V->List PV) (m:List (Int×V)) (k:Int):bG (oX id e m) k=(bG m k).map e:=ve id (fun _ _ h=>h) e m k
theorem Rm {V:Type} (e:V->List PV) (m:List (Int×V)) (k:Int) (v:V):fa (oX id e m) k (e v)=oX id e (fa m k v):=xR id (fun _ _ h=>h) e m k v
def mkQ (x:Bs×Int×Int×Int×Bs):ByteArray×Int×Int×Int×ByteArray:=(mkS x.1,x.2.1,x.2.2.1,x.2.2.2.1,mkS x.2.2.2.2)
theorem Gf (a b:Bs×Int×Int×Int×Bs) (h:mkQ a=mkQ b):a=b:=by
 obtain⟨a1,a2,a3,a4,a5⟩:=a;obtain⟨b1,b2,b3,b4,b5⟩:=b;injection h with h1 h2
 injection h2 with h2 h3
 injection h3 with h3 h4
 injection h4 with h4 h5
 have h1:a1=b1:=uh _ _ h1;have h2:a2=b2:=h2;have h3:a3=b3:=h3;have h4:a4=b4:=h4;have h5:a5=b5:=uh _ _ h5;rw[h1,h2,h3,h4,h5]
theorem QK {V:Type} (e:V->List PV) (m:List ((Bs×Int×Int×Int×Bs)×V)) (k:Bs×Int×Int×Int×Bs):bG (oX mkQ e m) (mkQ k)=(bG m k).map e:=ve mkQ Gf e m k
theorem Rn {V:Type} (e:V->List PV) (m:List ((Bs×Int×Int×Int×Bs)×V)) (k:Bs×Int×Int×Int×Bs) (v:V):fa (oX mkQ e m) (mkQ k) (e v)=oX mkQ e (fa m k v):=xR mkQ Gf e m k v
end Go.Lad
namespace Go.Lad
open Go.RowKit Go.ChangeShapes Go.WideShapes Go.Deep
def lr (P:Program) (t:TypeId) (α:Type) [aA α]:Prop :=
 ∀ (H:Type) (enc:TypeId×Value->H) (w:World) (base:Nat) (sp:Nat->Bool) (held:Bool) (fuel:Nat) (cs:List Value) (y:DataW H×List MemPlace),
  DataW.trod enc P w base sp held fuel t cs=some y->∃ x:α,aA.rd (Old w) w cs x
section
variable {P:Program} {t:TypeId}
theorem Ig {n:Int} (h:(Lit.int .i64 n).wf=true):I64 n:=by
 simp [Lit.wf,IntKind.min,IntKind.max,IntKind.signed,IntKind.bits] at h;exact⟨by omega,by omega⟩
theorem EW (ht:P.underlying t=some .bool):lr P t Bool:=by
 intro H enc w base sp held fuel cs y h;cases fuel with
 | zero=>simp [DataW.trod] at h
 | succ n =>
  unfold DataW.trod at h;rw[ht] at h;split at h <;> first | exact⟨_,rfl⟩ | (exfalso; simp_all; done)
theorem CQ {e:TypeId} {α:Type} [aA α] (ht:P.underlying t=some (.slice e)) (hC:P.cellsOf e=aA.sz α) (hpos:0<aA.sz α) (ho:lr P e α):lr P t (List α):=by
 intro H enc w base sp held fuel cs y h;rcases open_slice ht h with⟨rfl,_⟩ | ⟨a,len,cap,m,n,D,Pl,rfl,hb,hl,hm,hmm,_,hx⟩
 ·exact⟨[],none,0,0,rfl,Sl.empty _ _⟩
 ·have hlm:len<=m:=by rw[hmm]; split <;> omega
  have hex:∀ i:Fin len,∃ x:α,∃ cs',w.cells? base (a.add (i.1 * P.cellsOf e)) (P.cellsOf e)=some cs'/\aA.rd (Old w) w cs' x:=by
   intro i;obtain⟨cs',h1,h2⟩:=hx i.1 (by omega);obtain⟨x,hx'⟩:=ho H enc w base sp held n cs' _ h2;exact⟨x,cs',h1,hx'⟩
  refine⟨List.ofFn fun i=>Classical.choose (hex i),some a,len,cap,rfl,by simp,hl,by simpa [maxLen] using hm,by simp,fun hn=>?_⟩;have hspot:a.spot=none:=by
   obtain⟨x,cs',h1,_⟩:=hex ⟨0,hn⟩;obtain⟨_,hlen,hat⟩:=World.cells?_some h1;have h0:=hat 0 (by rw[hC]; exact hpos);have e0:(a.add (0 * P.cellsOf e)).add 0=a:=by simp [Addr.add]
   rw[e0] at h0;rw[List.getElem?_eq_getElem (by rw[hlen,hC]; exact hpos)] at h0;exact World.cell?_spot h0
  obtain⟨b,off,spot⟩:=a;subst hspot;refine⟨b,off,rfl,fun i x hi=>?_⟩;have hil:i<len:=by simpa using (List.getElem?_eq_some_iff.1 hi).1
  rw[List.getElem?_ofFn,dif_pos hil] at hi;injection hi with hi
  obtain⟨cs',h1,h2⟩:=Classical.choose_spec (hex ⟨i,hil⟩);rw[hi] at h2;refine⟨cs',h2,fun j u hu=>?_⟩;obtain⟨_,hlen,hat⟩:=World.cells?_some h1;have hj:j<cs'.length:=(List.getElem?_eq_some_iff.1 hu).1;have h3:=hat j (by rw[← hlen]; exact hj);rw[fY,fY,hC,hu] at h3;exact⟨tI h3,h3⟩
theorem lr.via {α β:Type} [aA β] {f:α->β} (g:β->α) (hg:∀ x,f (g x)=x) (h:lr P t β):@lr P t α (aA.via f):=by
 intro H enc w base sp held fuel cs y hy;obtain⟨x,hx⟩:=h H enc w base sp held fuel cs y hy;refine⟨g x,?_⟩;show aA.rd (Old w) w cs (f (g x));rw[hg];exact hx
theorem lr.arg {α:Type} [aA α] (ho:lr P t α) {H:Type} {enc:TypeId×Value->H} {w:World} {base:Nat} {sp:Nat->Bool} {held:Bool} {v:Value} {d:DataW H} {ps:List MemPlace}
  (h:DataW.Trod enc P w base sp held t v d ps):∃ x:α,aA.rd (Old w) w v.cells.toList x:=by
 obtain⟨fuel,hf⟩:=h;exact ho H enc w base sp held fuel _ _ hf
theorem EX {r:Reach} {b0:Nat} {w:World} {fs:Array Field} {v:Value} (hs:P.underlying t=some (.struct fs)) (hv:Value.okWide P w r b0 t v):∃ cs:Array Value,v = .agg cs:=by
 obtain⟨cs,rfl,_⟩:=okWide_struct hs hv;exact⟨cs,rfl⟩
end
end Go.Lad
namespace Go.Lad
open Go.RowKit
class sW (α:Type) [aA α] where
 enc:α->List PV
 rd:∀ {F:Nat->Prop} {w:World} {cs:List Value} {x:α},(∀ b,F b->b<w.heap.size)->aA.rd F w cs x->RdL F w (enc x) cs
class Enc (α:Type) [aA α] extends sW α where
 pos:0<aA.sz α
theorem RdL.Bp {F:Nat->Prop} {w:World} {p:PV} {v:Value} (h:Rd F w p v):RdL F w [p] [v] :=
 ⟨rfl,fun j p' v' hp hv=>by
  cases j with
  | zero=>simp at hp hv; subst hp hv; exact h
  | succ j=>simp at hp⟩
theorem RdL.app {F:Nat->Prop} {w:World} {ps qs:List PV} {vs us:List Value} (h:RdL F w ps vs) (k:RdL F w qs us):RdL F w (ps++qs) (vs++us):=by
 have:=dU.append (R:=Rd F w) ⟨h.1,h.2⟩ ⟨k.1,k.2⟩;exact⟨this.1,this.2⟩
theorem xS {n:Int} (h:I64 n):inK .i64 n:=by
 rw[M0]; exact h
instance:Enc Int where
 enc n:=[.int .i64 n]
 rd _ h:=by obtain⟨rfl,h⟩:=h; exact .Bp (.int (xS h))
 pos:=Nat.one_pos
instance:Enc Bool where
 enc n:=[.bool n]
 rd _ h:=by have h:_=_:=h; subst h; exact .Bp .bool
 pos:=Nat.one_pos
instance:Enc ByteArray where
 enc n:=[.str n]
 rd _ h:=by obtain⟨rfl,h⟩:=h; exact .Bp (.str h)
 pos:=Nat.one_pos
instance:Enc UInt8 where
 enc n:=[.int .u8 n.toNat]
 rd _ h:=by have h:_=_:=h; subst h; exact .Bp (.int (Jn _))
 pos:=Nat.one_pos
instance:sW Unit where
 enc _:=[]
 rd _ h:=by have h:_=_:=h; subst h; exact⟨rfl,by simp⟩
instance {α β:Type} [aA α] [aA β] [Enc α] [sW β]:Enc (α×β) where
 enc p:=sW.enc p.1++sW.enc p.2
 rd hF h:=by
  obtain⟨c1,c2,rfl,h1,h2⟩:=h;exact (sW.rd hF h1).app (sW.rd hF h2)
 pos:=Nat.lt_of_lt_of_le (Enc.pos (α:=α)) (Nat.le_add_right _ _)
instance {α:Type} [aA α] [Enc α]:Enc (List α) where
 enc l:=[.sl (l.map sW.enc)]
 rd {F w cs l} hF h:=by
  obtain⟨A,n,c,rfl,hs⟩:=h;refine .Bp ?_;have hs':Sl (α:=CZ (aA.sz α)) F w A n c (l.map sW.enc):=by
   refine⟨by rw[← hs.len]; exact List.length_map _,hs.cap,hs.max,hs.nil,fun hn=>?_⟩;obtain⟨b,off,hA,H⟩:=hs.at_ hn;refine⟨b,off,hA,fun i x hx=>?_⟩;have hx':(l.map sW.enc)[i]?=some (show List PV from x):=hx;rw[List.getElem?_map,Option.map_eq_some_iff] at hx';obtain⟨y,hy,hxy⟩:=hx';obtain⟨vs,h1,h2⟩:=H i y hy;refine⟨vs,⟨aA.len h1,?_⟩,h2⟩;have:=sW.rd hF h1;rw[hxy] at this;exact this
  exact Rd.zw hs' (.inl Enc.pos)
 pos:=Nat.one_pos
@[reducible] def Enc.via {α β:Type} [aA β] [Enc β] (f:α->β):@Enc α (aA.via f) :=
 @Enc.mk α (aA.via f) (@sW.mk α (aA.via f) (fun x=>sW.enc (f x)) (fun hF h=>sW.rd (α:=β) hF h)) (Enc.pos (α:=β))
def bs (s:ByteArray):Bs:=s.data.toList
theorem QL (s:ByteArray):mkS (bs s)=s:=Bl s
theorem M3 {w:World} {n:Int} (h:I64 n):SRd ⟨fun _=>0,fun _=>0,fun _=>undef⟩ (hpL []) w (.c (.v (.p (.int .i64 n)))) (.int .i64 n):=OS (.int (xS h))
end Go.Lad
namespace Go.Lad
theorem aj {α β:Type} (a:α) (f:α->Option β):Option.bind (some a) f=f a:=Eq.trans rfl rfl
theorem dV {α:Type} {l:List α} {k:Nat} (h:k<l.length):idx l (k:Int)=some l[k]:=by
 unfold idx;rw[if_pos (by omega),Int.toNat_natCast,List.getElem?_eq_getElem h]
theorem i64_in {n:Int} (h1 : -9223372036854775808<=n) (h2:n<=9223372036854775807):i64? n=some n:=if_pos ⟨h1,h2⟩
theorem J6 {n:Nat} (h:n+1<=9223372036854775807):i64? ((n:Int)+1)=some ((n+1:Nat):Int):=by
 rw[i64_in (by omega) (by omega)]; rfl
theorem Pv {α:Type} {l m:List α} (h:l.length+m.length<=2147483647):app? l m=some (l++m):=if_pos h
theorem J7 {α β:Type} [DecidableEq α] (m:List (α×β)) (x:α) (y:β):(fa m x y).map (·.1)=if x∈m.map (·.1) then m.map (·.1) else m.map (·.1)++[x]:=by
 unfold fa;cases h:pos (m.map (·.1)) x with
 | none =>
  rw[if_neg (pR.1 h)];simp
 | some i =>
  have hx:=(iu h).1;have hm:x∈m.map (·.1):=List.mem_of_getElem? hx;rw[if_pos hm];simp only[List.map_set];apply List.ext_getElem?;intro j;rw[List.getElem?_set];split
  ·rename_i hij;subst hij;rw[hx];simp [mV h];have:=mV h
   simpa using this
  ·rfl
theorem J8 {α β:Type} [DecidableEq α] (m:List (α×β)) (x x':α) (y:β):bG (fa m x y) x'=if x'=x then some y else bG m x':=by
 have hk:=J7 m x y;unfold bG;rw[hk];cases h:pos (m.map (·.1)) x with
 | none =>
  have hn:=pR.1 h;rw[if_neg hn,wT];have hp:fa m x y=m++[(x,y)]:=by unfold fa; rw[h]
  rw[hp];by_cases hx:x'=x
  ·subst hx;rw[h];simp [pos]
  ·rw[if_neg hx];cases h':pos (m.map (·.1)) x' with
   | none =>
    have:pos [x] x'=none:=pR.2 (by simp [hx]);simp [this]
   | some i =>
    have hl:=mV h';rw[List.length_map] at hl;simp [List.getElem?_append_left hl]
 | some i =>
  have hx:=(iu h).1;have hm:x∈m.map (·.1):=List.mem_of_getElem? hx;rw[if_pos hm];have hp:fa m x y=m.set i (x,y):=by unfold fa; rw[h]
  rw[hp];have hl:=mV h;rw[List.length_map] at hl;by_cases hxx:x'=x
  ·subst hxx;rw[h];simp [hl]
  ·rw[if_neg hxx];cases h':pos (m.map (·.1)) x' with
   | none=>rfl
   | some j =>
    have hj:=(iu h').1;have hij:i≠j:=fun e=>by
     subst e;rw[hx] at hj;exact hxx (by simpa using hj.symm)
    simp [List.getElem?_set,hij]
end Go.Lad
namespace Go.Lad
inductive ba where
 | mk (name:List UInt8) (kind:Int) (fields:List ba)
inductive nT where
 | mk (op n:Int) (s m:List UInt8) (names:List (List UInt8)) (args:List nT)
inductive oY where
 | mk (op:Int) (name:List UInt8) (args:List oY)
inductive lE where
 | mk (kind n:Int) (names:List (List UInt8)) (vals:List lE)
mutual
def ba.enc:ba->List PV
 | .mk n k fs=>[.str (mkS n),.int .i64 k,.sl (ba.oZ fs)]
def ba.oZ:List ba->List (List PV)
 | []=>[]
 | x::r=>x.enc::ba.oZ r
end
mutual
def nT.enc:nT->List PV
 | .mk o n s m ns as=>[.int .i64 o,.int .i64 n,.str (mkS s),.str (mkS m),.sl (ns.map fun x=>[.str (mkS x)]),.sl (nT.oZ as)]
def nT.oZ:List nT->List (List PV)
 | []=>[]
 | x::r=>x.enc::nT.oZ r
end
mutual
def oY.enc:oY->List PV
 | .mk o n as=>[.int .i64 o,.str (mkS n),.sl (oY.oZ as)]
def oY.oZ:List oY->List (List PV)
 | []=>[]
 | x::r=>x.enc::oY.oZ r
end
mutual
def lE.enc:lE->List PV
 | .mk k n ns vs=>[.int .i64 k,.int .i64 n,.sl (ns.map fun x=>[.str (mkS x)]),.sl (lE.oZ vs)]
def lE.oZ:List lE->List (List PV)
 | []=>[]
 | x::r=>x.enc::lE.oZ r
end
theorem ba.kQ:∀ l:List ba,ba.oZ l=l.map ba.enc
 | []=>by rw[ba.oZ]; rfl
 | x::r=>by rw[ba.oZ,ba.kQ r]; rfl
theorem nT.kQ:∀ l:List nT,nT.oZ l=l.map nT.enc
 | []=>by rw[nT.oZ]; rfl
 | x::r=>by rw[nT.oZ,nT.kQ r]; rfl
theorem oY.kQ:∀ l:List oY,oY.oZ l=l.map oY.enc
 | []=>by rw[oY.oZ]; rfl
 | x::r=>by rw[oY.oZ,oY.kQ r]; rfl
theorem lE.kQ:∀ l:List lE,lE.oZ l=l.map lE.enc
 | []=>by rw[lE.oZ]; rfl
 | x::r=>by rw[lE.oZ,lE.kQ r]; rfl
def UD:Nat->Type
 | 0=>ba
 | 1=>nT
 | 2=>oY
 | 3=>lE
 | _=>Bool
def EY:(i:Nat)->UD i->List PV
 | 0,x=>ba.enc x
 | 1,x=>nT.enc x
 | 2,x=>oY.enc x
 | 3,x=>lE.enc x
 | _+4,x=>[.bool x]
end Go.Lad
namespace Go.Lad
open Go.RowKit
def Any:Type:=Value
noncomputable def Pw:DecidableEq Any:=fun a b=>Classical.propDecidable (a=b)
inductive Ty where
 | any
 | int (k:IntKind)
 | bool
 | str
 | sl (e:Ty)
 | pair (a b:Ty)
 | map (k:IntKind) (e:Ty)
 | slu (i:Nat)
def Ty.den:Ty->Type
 | .any=>Any
 | .int _=>Int
 | .bool=>Bool
 | .str=>Bs
 | .sl e=>List e.den
 | .pair a b=>a.den×b.den
 | .map _ e=>List (Int×List e.den)
 | .slu i=>List (UD i)
def Ty.cells:Ty->Nat
 | .pair a b=>a.cells+b.cells
 | _=>1
def enc:(t:Ty)->t.den->List PV
 | .any,x=>[.oth x]
 | .int k,x=>[.int k x]
 | .bool,x=>[.bool x]
 | .str,x=>[.str (mkS x)]
 | .sl e,x=>[.sl (List.map (enc e) x)]
 | .pair a b,x=>enc a x.1++enc b x.2
 | .map k e,x=>[.mp k (List.map (fun q=>(q.1,List.map (enc e) q.2)) x)]
 | .slu i,x=>[.sl (List.map (EY i) x)]
theorem k6:∀ (t:Ty) (x:t.den),(enc t x).length=t.cells
 | .any,_=>rfl
 | .int _,_=>rfl
 | .bool,_=>rfl
 | .str,_=>rfl
 | .sl _,_=>rfl
 | .map _ _,_=>rfl
 | .slu _,_=>rfl
 | .pair a b,x=>by unfold enc Ty.cells; rw[List.length_append,k6 a,k6 b]
def IntKind.same (a b:IntKind):Option (PLift (a=b)):=if h:a=b then some ⟨h⟩ else none
def Ty.same:(a b:Ty)->Option (PLift (a=b))
 | .int k,.int k'=>(IntKind.same k k').map fun h=>⟨by rw[h.down]⟩
 | .any,.any=>some ⟨rfl⟩
 | .bool,.bool=>some ⟨rfl⟩
 | .str,.str=>some ⟨rfl⟩
 | .sl a,.sl b=>(Ty.same a b).map fun h=>⟨by rw[h.down]⟩
 | .slu i,.slu j=>if h:i=j then some ⟨by rw[h]⟩ else none
 | .pair a b,.pair c d=>match Ty.same a c,Ty.same b d with
  | some h,some g=>some ⟨by rw[h.down,g.down]⟩
  | _,_=>none
 | .map k a,.map k' b=>match IntKind.same k k',Ty.same a b with
  | some h,some g=>some ⟨by rw[h.down,g.down]⟩
  | _,_=>none
 | _,_=>none
def mZ {a b:Ty} (h:a=b) (x:a.den):b.den:=h ▸ x
def lT {α:Type} (a b:Ty) (x:a.den) (k:b.den->Option α):Option α :=
 match Ty.same a b with
 | some h=>k (mZ h.down x)
 | none=>none
end Go.Lad
namespace Go.Lad
def jI:Nat->Ty
 | 0=>.pair .str (.pair (.int .i64) (.slu 0))
 | 1=>.pair (.int .i64) (.pair (.int .i64) (.pair .str (.pair .str (.pair (.sl .str) (.slu 1)))))
 | 2=>.pair (.int .i64) (.pair .str (.slu 2))
 | 3=>.pair (.int .i64) (.pair (.int .i64) (.pair (.sl .str) (.slu 3)))
 | _=>.bool
def Uun:(i:Nat)->UD i->(jI i).den
 | 0,x=>match x with | ba.mk n k fs=>(n,k,fs)
 | 1,x=>match x with | nT.mk o n s m ns as=>(o,n,s,m,ns,as)
 | 2,x=>match x with | oY.mk o n as=>(o,n,as)
 | 3,x=>match x with | lE.mk k n ns vs=>(k,n,ns,vs)
 | _+4,x=>x
def Umk:(i:Nat)->(jI i).den->UD i
 | 0,x=>ba.mk x.1 x.2.1 x.2.2
 | 1,x=>nT.mk x.1 x.2.1 x.2.2.1 x.2.2.2.1 x.2.2.2.2.1 x.2.2.2.2.2
 | 2,x=>oY.mk x.1 x.2.1 x.2.2
 | 3,x=>lE.mk x.1 x.2.1 x.2.2.1 x.2.2.2
 | _+4,x=>x
theorem J9:∀ (i:Nat) (x:UD i),Umk i (Uun i x)=x
 | 0,x=>by cases x; rfl
 | 1,x=>by cases x; rfl
 | 2,x=>by cases x; rfl
 | 3,x=>by cases x; rfl
 | _+4,x=>rfl
theorem Ka:∀ (i:Nat) (x:(jI i).den),Uun i (Umk i x)=x
 | 0,x=>rfl
 | 1,x=>rfl
 | 2,x=>rfl
 | 3,x=>rfl
 | _+4,x=>rfl
theorem M4:∀ (i:Nat) (x:UD i),enc (jI i) (Uun i x)=EY i x
 | 0,x=>by
  cases x with | mk n k fs =>
  show [PV.str (mkS n)]++([.int .i64 k]++[.sl (List.map (EY 0) fs)])=ba.enc (.mk n k fs);rw[ba.enc,ba.kQ]; rfl
 | 1,x=>by
  cases x with | mk o n s m ns as =>
  show [PV.int .i64 o]++([.int .i64 n]++([.str (mkS s)]++([.str (mkS m)]++([.sl (List.map (enc .str) ns)]++[.sl (List.map (EY 1) as)]))))=nT.enc (.mk o n s m ns as);rw[nT.enc,nT.kQ]; rfl
 | 2,x=>by
  cases x with | mk o n as =>
  show [PV.int .i64 o]++([.str (mkS n)]++[.sl (List.map (EY 2) as)])=oY.enc (.mk o n as);rw[oY.enc,oY.kQ]; rfl
 | 3,x=>by
  cases x with | mk k n ns vs =>
  show [PV.int .i64 k]++([.int .i64 n]++([.sl (List.map (enc .str) ns)]++[.sl (List.map (EY 3) vs)]))=lE.enc (.mk k n ns vs);rw[lE.enc,lE.kQ]; rfl
 | _+4,x=>rfl
theorem sB (i:Nat) (l:List (UD i)):enc (.sl (jI i)) (l.map (Uun i))=enc (.slu i) l:=by
 show [PV.sl (List.map (enc (jI i)) (l.map (Uun i)))]=[.sl (List.map (EY i) l)];rw[List.map_map];congr 2;exact List.map_congr_left fun x _=>M4 i x
theorem Gg (i:Nat) (l:List (jI i).den):enc (.slu i) (l.map (Umk i))=enc (.sl (jI i)) l:=by
 rw[← sB,List.map_map];congr 1;exact (List.map_congr_left fun x _=>Ka i x).trans (List.map_id l)
def v7 {α:Type}:(a b:Ty)->a.den->(b.den->Option α)->Option α
 | .sl e,.slu i,x,k=>lT (.sl e) (.sl (jI i)) x fun y=>k (List.map (Umk i) y)
 | .slu j,.sl e,x,k=>lT (.sl (jI j)) (.sl e) (List.map (Uun j) x) k
 | a,b,x,k=>lT a b x k
def Kb {α:Type}:(t:Ty)->(t.den->Option α)->Option α
 | .sl e,k=>k ([]:List e.den)
 | .slu i,k=>k ([]:List (UD i))
 | _,_=>none
theorem vg {α:Type} {a b:Ty} {x:a.den} {k:b.den->Option α} {r:α} (h:lT a b x k=some r):∃ e:a=b,k (mZ e x)=some r:=by
 unfold lT at h;split at h
 ·rename_i g _; exact⟨g.down,h⟩
 ·cases h
theorem nh {α:Type} {a b:Ty} {x:a.den} {k:b.den->Option α} {r:α} (h:v7 a b x k=some r):∃ y:b.den,k y=some r/\enc b y=enc a x:=by
 unfold v7 at h;split at h
 ·obtain⟨e,h⟩:=vg h;injection e with e
  subst e;exact⟨_,h,Gg _ _⟩
 ·obtain⟨e,h⟩:=vg h;injection e with e
  subst e;exact⟨_,h,sB _ _⟩
 ·obtain⟨e,h⟩:=vg h;subst e;exact⟨_,h,rfl⟩
theorem vh {α:Type} {t:Ty} {k:t.den->Option α} {r:α} (h:Kb t k=some r):∃ y:t.den,k y=some r/\enc t y=[.sl []]:=by
 unfold Kb at h;split at h
 ·exact⟨_,h,rfl⟩
 ·exact⟨_,h,rfl⟩
 ·cases h
end Go.Lad
