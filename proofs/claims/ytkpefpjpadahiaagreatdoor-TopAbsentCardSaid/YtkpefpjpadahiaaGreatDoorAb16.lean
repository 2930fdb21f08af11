import Derived.Test.YtkpefpjpadahiaaGreatDoorAb15
namespace Go.Lad
set_option linter.unusedVariables false
set_option linter.unusedSimpArgs false
open Go.RowKit
abbrev Bs:=List UInt8
def mkS (l:Bs):ByteArray:=⟨l.toArray⟩
theorem gw (l:Bs):(mkS l).data.toList=l:=by simp [mkS]
theorem eI (l:Bs):(mkS l).size=l.length:=by simp [mkS,ByteArray.size]
theorem KR (a b:Bs):mkS a++mkS b=mkS (a++b):=by
 apply ByteArray.ext;simp [mkS,ByteArray.data_append]
theorem y5 {a b:Bs}:(mkS a=mkS b)=(a=b):=by
 apply propext;constructor
 ·intro h;have:=congrArg (fun s:ByteArray=>s.data.toList) h
  simpa [gw] using this
 ·intro h; rw[h]
theorem AQ (l:Bs) (i j:Nat):(mkS l).extract i j=mkS ((l.take j).drop i):=by
 apply ByteArray.ext;simp [mkS,ByteArray.data_extract,List.extract_toArray,List.extract_eq_take_drop,List.drop_take]
theorem ot (l:Bs):(mkS l).toList=l:=by
 rw[ByteArray.toList_eq];exact gw l
theorem y6 (s:ByteArray):mkS s.data.toList=s:=by
 apply ByteArray.ext;simp [mkS]
def inR (k:IntKind) (n:Int):Prop:=k.min<=n/\n<=k.max
instance (k:IntKind) (n:Int):Decidable (inR k n):=inferInstanceAs (Decidable (_/\_))
def i64? (n:Int):Option Int:=if -9223372036854775808<=n/\n<=9223372036854775807 then some n else none
def idx {α:Type} (l:List α) (n:Int):Option α:=if 0<=n then l[n.toNat]? else none
def bAt (l:Bs) (n:Int):Option Int:=(idx l n).map fun c=>(c.toNat:Int)
def cut {α:Type} (l:List α) (i j:Int):Option (List α):=if 0<=i/\i<=j/\j<=l.length then some ((l.take j.toNat).drop i.toNat) else none
def cat? (a b:Bs):Option Bs:=if a.length+b.length<=9223372036854775807 then some (a++b) else none
def app? {α:Type} (l m:List α):Option (List α):=if l.length+m.length<=2147483647 then some (l++m) else none
def qM (p:Prop) [Decidable p]:Option Unit:=if p then some () else none
theorem Ih {n m:Int} (h:i64? n=some m):n=m/\(-9223372036854775808<=n/\n<=9223372036854775807):=by
 unfold i64? at h;split at h
 ·injection h with h; exact⟨h,by assumption⟩
 ·cases h
theorem mG {α:Type} {l:List α} {n:Int} {x:α} (h:idx l n=some x):0<=n/\n.toNat<l.length/\l[n.toNat]?=some x:=by
 unfold idx at h;split at h
 ·exact⟨by assumption,(List.getElem?_eq_some_iff.1 h).1,h⟩
 ·cases h
theorem y7 {α:Type} {l:List α} {n:Int} {x:α} (e:α->List PV) (h:idx l n=some x):(l.map e).getD n.toNat []=e x:=by
 have:=(mG h).2.2;rw[List.getD_eq_getElem?_getD,List.getElem?_map,this]; rfl
theorem Ii {l:Bs} {n c:Int} (h:bAt l n=some c):0<=n/\n.toNat<l.length/\((l.getD n.toNat 0).toNat:Int)=c:=by
 unfold bAt at h;rw[Option.map_eq_some_iff] at h;obtain⟨b,hb,rfl⟩:=h;obtain⟨h1,h2,h3⟩:=mG hb;exact⟨h1,h2,by rw[List.getD_eq_getElem?_getD,h3]; rfl⟩
theorem nE {α:Type} {l m:List α} {i j:Int} (h:cut l i j=some m):(l.take j.toNat).drop i.toNat=m/\0<=i/\i<=j/\j<=l.length/\j.toNat<=l.length:=by
 unfold cut at h;split at h
 ·rename_i hc; injection h with h; exact⟨h,hc.1,hc.2.1,hc.2.2,by omega⟩
 ·cases h
theorem Ij {a b m:Bs} (h:cat? a b=some m):a++b=m/\a.length+b.length<=9223372036854775807:=by
 unfold cat? at h;split at h
 ·injection h with h; exact⟨h,by assumption⟩
 ·cases h
theorem nF {α:Type} {a b m:List α} (h:app? a b=some m):a++b=m/\a.length+b.length<=2147483647:=by
 unfold app? at h;split at h
 ·injection h with h; exact⟨h,by assumption⟩
 ·cases h
theorem ld {p:Prop} [Decidable p] {u:Unit} (h:qM p=some u):p:=by
 unfold qM at h;split at h
 ·assumption
 ·cases h
theorem bind_some {α β:Type} {o:Option α} {f:α->Option β} {r:β} (h:o.bind f=some r):∃ x,o=some x/\f x=some r:=Option.bind_eq_some_iff.1 h
section
variable {s:St} {ρ:List (Nat×Nat)}
end
theorem y8 {P:Program} {f:FuncId} {args:List Slot} {vs:List Value} {w:World} (h:gP P f ⟨args,[],.one (.v (.p (.bool true))),[]⟩) (hg:xu (fun _=>0) w) (ha:eu (SRd ⟨fun _=>0,fun _=>0,fun _=>undef⟩ (hpL []) w) args vs) :
  Calls P f vs.toArray w fun e w'=>e = .returned (.bool true)/\Below w.heap.size w w':=by
 refine (h w ⟨fun _=>0,fun _=>0,fun _=>undef⟩ vs (fun _ _=>rfl) hg ha (fun o h ho=>by cases ho)).mono ?_;rintro e w' ⟨G',v,us,rfl,hv,h1,h2,h3,h4,h5,h6,h7,h8,h9,h10⟩;have hv:us=[v]:=hv;subst hv;have hr:LRd G' (hpL []) w' (.p (.bool true)) v:=h9.2 0 _ _ rfl rfl;have:v = .bool true:=by cases (show Rd _ _ (.bool true) v from hr.val); rfl
 exact⟨by rw[this],h1,h2,h3,h4,fun b hb=>(h5 b hb (by show 0<=1; omega)).1⟩
theorem MN {w:World} {p:PV} {v:Value} (h:Rd (Old w) w p v):SRd ⟨fun _=>0,fun _=>0,fun _=>undef⟩ (hpL []) w (.c (.v (.p p))) v :=
 ⟨h.one,by simp [aJ.ids],Rd.frame (fun _ _ _=>⟨rfl,rfl⟩) h⟩
theorem ON {w:World} {ps:List PV} {cs:Array Value} (h:RdL (Old w) w ps cs.toList):SRd ⟨fun _=>0,fun _=>0,fun _=>undef⟩ (hpL []) w (.c (.g (ps.map .p))) (.agg cs):=by
 refine⟨cs.toList,by simp,by simpa using h.1,fun i x u hx hu=>?_⟩;rw[List.getElem?_map,Option.map_eq_some_iff] at hx;obtain⟨p,hp,rfl⟩:=hx;have:=h.2 i p u hp hu;exact⟨this.one,by simp [aJ.ids],Rd.frame (fun _ _ _=>⟨rfl,rfl⟩) this⟩
theorem Ik {α β:Type} {R:α->β->Prop}:eu R [] []:=⟨rfl,by simp⟩
theorem sK {α β:Type} {R:α->β->Prop} {a:α} {b:β} {l:List α} {m:List β} (h:R a b) (k:eu R l m):eu R (a::l) (b::m) :=
 ⟨by simp [k.1],fun i x y hx hy=>by
  cases i with
  | zero=>simp at hx hy; subst hx hy; exact h
  | succ i=>exact k.2 i x y (by simpa using hx) (by simpa using hy)⟩
end Go.Lad
