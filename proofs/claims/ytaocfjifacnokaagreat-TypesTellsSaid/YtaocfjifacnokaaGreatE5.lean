import Derived.Test.YtaocfjifacnokaaGreatD12
import Derived.Lib.IndexMore
import Derived.Below
namespace Go.Lad
set_option linter.unusedVariables false
set_option linter.unusedSimpArgs false
open Go.RowKit
def mH (s sub:Bs):Option Bool:=cond (Nat.ble s.length 1000000000) (some (Lib.contains s sub)) none
noncomputable def sU (f:FuncId):Con:=⟨f,[.c (.v (.d .str)),.c (.v (.d .str))],[],[],[.str,.str],.one (.v (.d .bool)),[],[.bool],fun x=>mH x.1 x.2⟩
theorem yY {P:Program} {f g:FuncId} (hc:lu P f = true) (hg:Is g = true)
  (h1:∀ (s sub:ByteArray) (m:Int) (w:World),s.size < 4294967281 → w.cell? ⟨g,0,none⟩ = some (.int .i64 m) →
   Calls P f #[.string s,.string sub] w fun e w'=>e = .returned (.bool (Lib.contains s.data.toList sub.data.toList)) ∧ w' = w):ay P (sU f):=by
 refine⟨hc,fun x r hr=>?_⟩
 obtain⟨l,sep⟩:=x
 obtain⟨l,rfl⟩:∃ m:Bs,m = l:=⟨l,rfl⟩
 obtain⟨sep,rfl⟩:∃ m:Bs,m = sep:=⟨sep,rfl⟩
 obtain⟨r,rfl⟩:∃ m:Bool,m = r:=⟨r,rfl⟩
 have hr:mH l sep = some r:=hr
 unfold mH at hr
 obtain⟨hb,hr⟩:=a7 hr
 rw[lX,decide_eq_true_eq] at hb
 injection hr with hr
 show pP P f ⟨[.c (.v (.p (.str (mkS l)))),.c (.v (.p (.str (mkS sep))))],[],.one (.v (.p (.bool r))),[]⟩
 intro w G vs hnorm hglob hargs _
 obtain⟨v0,v1,rfl⟩:∃ v0 v1,vs = [v0,v1]:=by
  have:=hargs.1
  match vs,this with
  | [a,b],_=>exact⟨a,b,rfl⟩
 have r0:Rd (In G.χ 0) w (.str (mkS l)) v0:=(hargs.2 0 _ _ rfl rfl:SRd G _ w _ v0).val
 have r1:Rd (In G.χ 0) w (.str (mkS sep)) v1:=(hargs.2 1 _ _ rfl rfl:SRd G _ w _ v1).val
 have hv0:v0 = .string (mkS l):=by cases r0; rfl
 have hv1:v1 = .string (mkS sep):=by cases r1; rfl
 subst hv0
 subst hv1
 obtain⟨_,_,_,h4⟩:=hglob g (.inr hg)
 obtain⟨m,hm⟩:=h4 hg
 refine (h1 (mkS l) (mkS sep) m w (by rw[lB]; omega) hm).mono ?_
 rintro e w' ⟨rfl,rfl⟩
 rw[mB,mB,hr]
 refine⟨G,_,[_],rfl,rfl,rfl,rfl,rfl,Nat.le_refl _,fun b hb _=>⟨rfl,rfl⟩,fun b hb=>.inl hb,fun _ _=>⟨rfl,rfl⟩,hnorm,⟨rfl,fun i x v hx hv=>?_⟩,(fun o h ho=>by cases ho)⟩
 cases i with
 | succ i=>simp [Rz.fU] at hx
 | zero =>
  simp [Rz.fU] at hx hv
  subst hx hv
  exact⟨rfl,by simp [aJ.ids],Rd.bool⟩
end Go.Lad
