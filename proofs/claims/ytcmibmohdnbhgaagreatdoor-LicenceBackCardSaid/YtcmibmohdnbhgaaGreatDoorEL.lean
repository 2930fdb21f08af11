import Derived.Test.YtcmibmohdnbhgaaGreatDoorD12
import Derived.Lib.Join
import Derived.Below
import Derived.Lib.Split
import Derived.Lib.SplitLaws
import Derived.Lib.SlicesCompact
import Derived.Lib.SlTrimSet
set_option linter.unusedVariables false
set_option linter.unusedSimpArgs false
set_option linter.unusedSectionVars false
namespace Go.Lad
open Go.RowKit
def joinF (l:List Bs) (sep:Bs):Option Bs:=cond (Nat.ble l.length 140737488355328 && Nat.ble (Lib.join l sep).length 140737488355328) (some (Lib.join l sep)) none
noncomputable def joinCon (f:FuncId):Con:=⟨f,[.c (.v (.d (.sl .str))),.c (.v (.d .str))],[],[],[.sl .str,.str],.one (.v (.d .str)),[],[.str],fun x=>joinF x.1 x.2⟩
theorem mkS_back (l:List Bs):(l.map mkS).map (·.data.toList) = l:=by
 rw[List.map_map]
 have:((fun s:ByteArray=>s.data.toList) ∘ mkS) = id:=by funext x; exact mkS_data x
 rw[this,List.map_id]
theorem join_con {P:Program} {f:FuncId} (hc:callable P f = true)
  (h0:∀ (a:Option Addr) (c:Nat) (sep:ByteArray) (w:World),Calls P f #[.slice a 0 c,.string sep] w fun e w'=>e = .returned (.string ⟨#[]⟩) ∧ w' = w)
  (h1:∀ (bk o c:Nat) (xs:List ByteArray) (sep:ByteArray) (w:World),(∀ (j:Nat) x,xs[j]? = some x → w.cell? ⟨bk,o + j,none⟩ = some (.string x)) → bk < w.heap.size → xs.length ≤ 140737488355328 → xs.length ≤ c → (Lib.join (xs.map (·.data.toList)) sep.data.toList).length ≤ 140737488355328 →
   Calls P f #[.slice (some ⟨bk,o,none⟩) xs.length c,.string sep] w fun e w'=>e = .returned (.string ⟨(Lib.join (xs.map (·.data.toList)) sep.data.toList).toArray⟩) ∧ Below w.heap.size w w'):ConOK P (joinCon f):=by
 refine⟨hc,fun x r hr=>?_⟩
 obtain⟨l,sep⟩:=x
 obtain⟨l,rfl⟩:∃ m:List Bs,m = l:=⟨l,rfl⟩
 obtain⟨sep,rfl⟩:∃ m:Bs,m = sep:=⟨sep,rfl⟩
 obtain⟨r,rfl⟩:∃ m:Bs,m = r:=⟨r,rfl⟩
 have hr:joinF l sep = some r:=hr
 unfold joinF at hr
 obtain⟨hb,hr⟩:=cond_some hr
 rw[Bool.and_eq_true,bleN,bleN,decide_eq_true_eq,decide_eq_true_eq] at hb
 injection hr with hr
 show MeetsH P f ⟨[.c (.v (.p (.sl (l.map fun x=>[PV.str (mkS x)])))),.c (.v (.p (.str (mkS sep))))],[],.one (.v (.p (.str (mkS r)))),[]⟩
 intro w G vs hnorm _ hargs _
 obtain⟨v0,v1,rfl⟩:∃ v0 v1,vs = [v0,v1]:=by
  have:=hargs.1
  match vs,this with
  | [a,b],_=>exact⟨a,b,rfl⟩
 have r0:Rd (In G.χ 0) w (.sl (l.map fun x=>[PV.str (mkS x)])) v0:=(hargs.2 0 _ _ rfl rfl:SRd G _ w _ v0).val
 have r1:Rd (In G.χ 0) w (.str (mkS sep)) v1:=(hargs.2 1 _ _ rfl rfl:SRd G _ w _ v1).val
 have hv1:v1 = .string (mkS sep):=by cases r1; rfl
 subst hv1
 have hsep:(mkS sep).data.toList = sep:=mkS_data sep
 have fin:∀ w',Below w.heap.size w w' → ∃ (G':Gh) (v:Value) (us:List Value),Ending.returned (.string (mkS r)) = .returned v ∧ (Rz.one (.v (.p (.str (mkS r))))).val v us ∧ w'.os = w.os ∧ w'.tape = w.tape ∧ w'.output = w.output ∧ w.heap.size ≤ w'.heap.size ∧
   (∀ b,b < w.heap.size → G.χ b ≤ 1 → w'.heap[b]? = w.heap[b]? ∧ G'.χ b = G.χ b) ∧ (∀ b,2 ≤ G'.χ b → 2 ≤ G.χ b ∨ w.heap.size ≤ b) ∧ (∀ o,1000000 ≤ o → G'.bl o = G.bl o ∧ G'.hv o = G.hv o) ∧ Norm G'.χ w' ∧
   All2 (CRd G' (hpL []) w') (Rz.one (.v (.p (.str (mkS r))))).comps us ∧ (∀ o h,hpL [] o = some h → HRd G' (hpL []) w' o h):=fun w' hw=>by
  refine⟨G,_,[.string (mkS r)],rfl,rfl,hw.os,hw.tape,hw.output,hw.size,fun b hb _=>⟨hw.block b hb,rfl⟩,fun b hb=>.inl hb,fun _ _=>⟨rfl,rfl⟩,fun b hb=>hnorm b (Nat.le_trans hw.size hb),⟨rfl,fun i x v hx hv=>?_⟩,(fun o h ho=>by cases ho)⟩
  cases i with
  | zero =>
   simp [Rz.comps] at hx hv
   subst hx hv
   refine⟨rfl,by simp [Leaf.ids],Rd.str ?_⟩
   rw[mkS_size,← hr]
   omega
  | succ i=>simp [Rz.comps] at hx
 have nil:l = [] → ∀ A c,v0 = .slice A 0 c → Calls P f [v0,.string (mkS sep)].toArray w fun e w'=>∃ (G':Gh) (v:Value) (us:List Value),e = .returned v ∧ (Rz.one (.v (.p (.str (mkS r))))).val v us ∧ w'.os = w.os ∧ w'.tape = w.tape ∧ w'.output = w.output ∧ w.heap.size ≤ w'.heap.size ∧
   (∀ b,b < w.heap.size → G.χ b ≤ 1 → w'.heap[b]? = w.heap[b]? ∧ G'.χ b = G.χ b) ∧ (∀ b,2 ≤ G'.χ b → 2 ≤ G.χ b ∨ w.heap.size ≤ b) ∧ (∀ o,1000000 ≤ o → G'.bl o = G.bl o ∧ G'.hv o = G.hv o) ∧ Norm G'.χ w' ∧
   All2 (CRd G' (hpL []) w') (Rz.one (.v (.p (.str (mkS r))))).comps us ∧ (∀ o h,hpL [] o = some h → HRd G' (hpL []) w' o h):=fun hl A c hv=>by
  subst hl
  subst hv
  have:r = []:=by rw[← hr]; rfl
  subst this
  refine (h0 A c (mkS sep) w).mono ?_
  rintro e w' ⟨rfl,rfl⟩
  exact fin w' (Below.refl _ _)
 rcases List.eq_nil_or_concat l with hl | ⟨_,_,hl⟩
 ·subst hl
  obtain⟨A,c,z,hv,_⟩:=Rd.to_sl r0
  exact nil rfl A c hv
 ·have hne:l ≠ []:=by rw[hl]; simp
  clear hl nil
  generalize hrows:(l.map fun x=>[PV.str (mkS x)]) = rows at r0
  cases r0 with
  | sl0 h hm=>exact absurd (List.map_eq_nil_iff.1 hrows) hne
  | @sl _ b off c z us hn0 hF hbb hcc hmm hz hcell hrd =>
   have hlen:rows.length = l.length:=by rw[← hrows,List.length_map]
   have hz1:z = 1:=by
    obtain⟨y,ys,rfl⟩:=List.exists_cons_of_ne_nil hne
    have:=hz 0 [PV.str (mkS y)] (by rw[← hrows]; rfl)
    simpa using this.symm
   subst hz1
   have hx:rows.length = (l.map mkS).length:=by rw[hlen,List.length_map]
   rw[hx]
   refine (h1 b off c (l.map mkS) (mkS sep) w (fun j x hj=>?_) hbb (by rw[List.length_map]; exact hb.1) (by rw[← hx]; exact hcc) (by rw[mkS_back,hsep]; exact hb.2)).mono ?_
   ·rw[List.getElem?_map,Option.map_eq_some_iff] at hj
    obtain⟨y,hy,rfl⟩:=hj
    have hi:rows[j]? = some [PV.str (mkS y)]:=by rw[← hrows,List.getElem?_map,hy]; rfl
    have h3:=hcell j 0 _ _ hi rfl
    have h4:=hrd j 0 _ _ hi rfl
    have h5:us j 0 = .string (mkS y):=by
     generalize us j 0 = u at h4
     cases h4; rfl
    rw[h5,Nat.mul_one,Nat.add_zero] at h3
    exact h3
   ·rintro e w' ⟨rfl,hw⟩
    rw[mkS_back,hsep,hr]
    exact fin w' hw
end Go.Lad
namespace Go.Lad
open Go.RowKit
def splitF (s sep:Bs):Option (List Bs):=cond (Nat.ble s.length 1000000000 && Nat.ble 1 sep.length) (some (Lib.split s sep)) none
noncomputable def splitCon (f:FuncId):Con:=⟨f,[.c (.v (.d .str)),.c (.v (.d .str))],[],[],[.str,.str],.one (.v (.d (.sl .str))),[],[.sl .str],fun x=>splitF x.1 x.2⟩
theorem split_rows (s sep:Bs):Lib.split s sep = (Lib.splitB (mkS sep) 0 (Lib.countB (mkS s) (mkS sep)) (mkS s)).map (·.data.toList):=by
 rw[Lib.splitB_data,mkS_data,mkS_data]
 unfold Lib.split
 congr 1
theorem ext_size (s:ByteArray) (i j:Nat):(s.extract i j).size ≤ s.size:=by rw[ByteArray.size_extract]; omega
theorem splitB_size (sep:ByteArray):∀ (k:Nat) (s y:ByteArray),y ∈ Lib.splitB sep 0 k s → y.size ≤ s.size
 | 0,s,y,h=>by
  rw[Lib.splitB_zero,List.mem_singleton] at h
  rw[h]; exact Nat.le_refl _
 | k + 1,s,y,h=>by
  unfold Lib.splitB at h
  split at h
  ·rw[List.mem_singleton] at h
   rw[h]; exact Nat.le_refl _
  ·rcases List.mem_cons.1 h with rfl | h
   ·exact ext_size _ _ _
   ·exact Nat.le_trans (splitB_size sep k _ y h) (ext_size _ _ _)
theorem split_con {P:Program} {f g:FuncId} {t9:TypeId} (hc:callable P f = true) (hg:gany g = true)
  (h1:∀ (s sep:ByteArray) (m:Int) (w:World),s.size < 4294967281 → w.cell? ⟨g,0,none⟩ = some (.int .i64 m) → 1 ≤ sep.size →
   Calls P f #[.string s,.string sep] w fun e w'=>e = .returned (.slice (some ⟨w.heap.size,0,none⟩) (Lib.countB s sep + 1) (Lib.countB s sep + 1)) ∧ w' = w.alloc (.cells ((Lib.splitB sep 0 (Lib.countB s sep) s).map Value.string).toArray t9)):ConOK P (splitCon f):=by
 refine⟨hc,fun x r hr=>?_⟩
 obtain⟨l,sep⟩:=x
 obtain⟨l,rfl⟩:∃ m:Bs,m = l:=⟨l,rfl⟩
 obtain⟨sep,rfl⟩:∃ m:Bs,m = sep:=⟨sep,rfl⟩
 obtain⟨r,rfl⟩:∃ m:List Bs,m = r:=⟨r,rfl⟩
 have hr:splitF l sep = some r:=hr
 unfold splitF at hr
 obtain⟨hb,hr⟩:=cond_some hr
 rw[Bool.and_eq_true,bleN,bleN,decide_eq_true_eq,decide_eq_true_eq] at hb
 injection hr with hr
 show MeetsH P f ⟨[.c (.v (.p (.str (mkS l)))),.c (.v (.p (.str (mkS sep))))],[],.one (.v (.p (.sl (r.map fun x=>[PV.str (mkS x)])))),[]⟩
 intro w G vs hnorm hglob hargs _
 obtain⟨v0,v1,rfl⟩:∃ v0 v1,vs = [v0,v1]:=by
  have:=hargs.1
  match vs,this with
  | [a,b],_=>exact⟨a,b,rfl⟩
 have r0:Rd (In G.χ 0) w (.str (mkS l)) v0:=(hargs.2 0 _ _ rfl rfl:SRd G _ w _ v0).val
 have r1:Rd (In G.χ 0) w (.str (mkS sep)) v1:=(hargs.2 1 _ _ rfl rfl:SRd G _ w _ v1).val
 have hv0:v0 = .string (mkS l):=by cases r0; rfl
 have hv1:v1 = .string (mkS sep):=by cases r1; rfl
 subst hv0
 subst hv1
 obtain⟨_,_,_,h4⟩:=hglob g (.inr hg)
 obtain⟨m,hm⟩:=h4 hg
 refine (h1 (mkS l) (mkS sep) m w (by rw[mkS_size]; omega) hm (by rw[mkS_size]; omega)).mono ?_
 rintro e w' ⟨rfl,rfl⟩
 have hlen:(Lib.splitB (mkS sep) 0 (Lib.countB (mkS l) (mkS sep)) (mkS l)).length = Lib.countB (mkS l) (mkS sep) + 1:=Lib.splitB_all _ (by rw[mkS_size]; omega) 0 _ _ rfl
 have hle:=Lib.countB_le (mkS sep) (by rw[mkS_size]; omega) _ (mkS l) (Nat.le_refl _)
 rw[mkS_size] at hle
 generalize hps:Lib.splitB (mkS sep) 0 (Lib.countB (mkS l) (mkS sep)) (mkS l) = ps at *
 have hrps:r = ps.map (·.data.toList):=by rw[← hr,split_rows,hps]
 have hrl:(r.map fun x=>[PV.str (mkS x)]).length = Lib.countB (mkS l) (mkS sep) + 1:=by rw[List.length_map,hrps,List.length_map,hlen]
 have bel:Below w.heap.size w (w.alloc (.cells (ps.map Value.string).toArray t9)):=(Below.refl _ w).alloc (Nat.le_refl _) _
 rw[← hrl]
 refine⟨G,_,[_],rfl,rfl,bel.os,bel.tape,bel.output,bel.size,fun b hb _=>⟨bel.block b hb,rfl⟩,fun b hb=>.inl hb,fun _ _=>⟨rfl,rfl⟩,fun b hb=>hnorm b (Nat.le_trans bel.size hb),⟨rfl,fun i x v hx hv=>?_⟩,(fun o h ho=>by cases ho)⟩
 cases i with
 | succ i=>simp [Rz.comps] at hx
 | zero =>
  simp [Rz.comps] at hx hv
  subst hx hv
  refine⟨rfl,by simp [Leaf.ids],?_⟩
  have hsz:∀ y ∈ ps,y.size ≤ 9223372036854775807:=fun y hy=>by
   rw[← hps] at hy
   have:=splitB_size _ _ _ y hy
   rw[mkS_size] at this
   omega
  have hlt:w.heap.size < (w.alloc (.cells (ps.map Value.string).toArray t9)).heap.size:=by simp
  have hne:(r.map fun x=>[PV.str (mkS x)]) ≠ []:=fun e=>by rw[e] at hrl; simp at hrl
  have hps2:∀ i (x:Bs),r[i]? = some x → ∃ y,ps[i]? = some y ∧ y = mkS x:=fun i x hi=>by
   rw[hrps,List.getElem?_map,Option.map_eq_some_iff] at hi
   obtain⟨y,hy,rfl⟩:=hi
   exact⟨y,hy,rfl⟩
  suffices key:Rd (In G.χ 0) (w.alloc (.cells (ps.map Value.string).toArray t9)) (.sl (r.map fun x=>[PV.str (mkS x)])) (.slice (some ⟨w.heap.size,0,none⟩) (r.map fun x=>[PV.str (mkS x)]).length (r.map fun x=>[PV.str (mkS x)]).length) by rw[List.length_map] at key; exact key
  refine Rd.sl (z:=1) (fun i _=>.string (ps.getD i ByteArray.empty)) (b:=w.heap.size) (off:=0) hne (hnorm _ (Nat.le_refl _)) hlt (Nat.le_refl _) (by rw[hrl]; omega) (fun i cs hi=>?_) (fun i j cs p hi hj=>?_) (fun i j cs p hi hj=>?_)
  ·rw[List.getElem?_map,Option.map_eq_some_iff] at hi
   obtain⟨c,_,rfl⟩:=hi
   rfl
  ·rw[List.getElem?_map,Option.map_eq_some_iff] at hi
   obtain⟨c,hc,rfl⟩:=hi
   obtain⟨y,hy,_⟩:=hps2 i c hc
   cases j with
   | zero =>
    rw[Nat.zero_add,Nat.mul_one,Nat.add_zero,List.getD_eq_getElem?_getD,hy]
    have hh:(w.alloc (.cells (ps.map Value.string).toArray t9)).heap[w.heap.size]? = some (.cells (ps.map Value.string).toArray t9):=by simp [World.alloc,-World.alloc_eq]
    unfold World.cell?
    rw[hh]
    simp [hy]
   | succ j=>simp at hj
  ·rw[List.getElem?_map,Option.map_eq_some_iff] at hi
   obtain⟨c,hc,rfl⟩:=hi
   obtain⟨y,hy,rfl⟩:=hps2 i c hc
   cases j with
   | zero =>
    simp at hj
    subst hj
    rw[List.getD_eq_getElem?_getD,hy]
    exact .str (hsz _ (List.mem_of_getElem? hy))
   | succ j=>simp at hj
end Go.Lad
namespace Go.Lad
open Go.RowKit
def licC (c:UInt8):Bool:=(Nat.ble 97 c.toNat && Nat.ble c.toNat 122) || (Nat.ble 48 c.toNat && Nat.ble c.toNat 57) || Nat.beq c.toNat 45 || Nat.beq c.toNat 46
def nameB (s:Bs):Bool:=Nat.ble s.length 20 && !decide (s = [97,110,100]) && !decide (s = [111,114]) && (match s with | c :: _=>Nat.ble 97 c.toNat && Nat.ble c.toNat 122 | []=>false) && s.all licC
def trimF (s cs:Bs):Option Bs:=cond (cs.all (fun c=>Nat.blt c.toNat 128) && Nat.ble cs.length 1000000) (some (Lib.trimS s cs)) none
noncomputable def trimCon (f:FuncId):Con:=⟨f,[.c (.v (.d .str)),.c (.v (.d .str))],[],[],[.str,.str],.one (.v (.d .str)),[],[.str],fun x=>trimF x.1 x.2⟩
def contFF (s:Bs):Option Bool:=cond (s.all licC) (some false) none
noncomputable def contFCon (f g:FuncId):Con:=⟨f,[.c (.v (.d .str)),.c (.v (.fn (2 * g) []))],[],[],[.str],.one (.v (.d .bool)),[],[.bool],fun s=>contFF s⟩
def rpl:List Bs:=[[40],[32,40,32],[41],[32,41,32]]
def rp1 (c:UInt8):Bs:=cond (Nat.beq c.toNat 40) [32,40,32] (cond (Nat.beq c.toNat 41) [32,41,32] [c])
def replF (a b:Int) (l:List Bs) (s:Bs):Option Bs:=cond (decide (a = 0 ∧ b = 0 ∧ l = rpl) && Nat.ble s.length 1000000) (some (s.flatMap rp1)) none
abbrev rplBox (t:TypeId):OSh := .box t [.d (.int .u32),.d (.int .i32),.d (.int .u32),.dead,.d (.sl .str)]
noncomputable def replCon (f:FuncId) (t:TypeId):Con:=⟨f,[.c (.v (.loc 1000000 0)),.c (.v (.d .str))],[],[(1000000,rplBox t)],[.str,.int .u32,.int .i32,.int .u32,.sl .str],.one (.v (.d .str)),[(1000000,.gone)],[.str],fun x=>replF x.2.1 x.2.2.1 x.2.2.2.2 x.1⟩
def leS (x y:Bs):Bool:=decide (x ≤ y)
def sortS (l:List Bs):Option (List Bs):=cond (Nat.ble l.length 4000000000) (some (l.mergeSort leS)) none
def compS (l:List Bs):Option (List Bs):=cond (Nat.ble l.length 4000000000) (some (Lib.compact l)) none
noncomputable def sortSCon (f:FuncId) (e:TypeId):Con:=⟨f,[.c (.v (.own 1000000))],[],[(1000000,.arr e .str)],[.sl .str],.tup [],[(1000000,.arr e .str)],[.sl .str],fun l=>sortS l⟩
noncomputable def compSCon (f:FuncId) (e:TypeId):Con:=⟨f,[.c (.v (.own 1000000))],[],[(1000000,.arr e .str)],[.sl .str],.one (.v (.own 0)),[(0,.arr e .str),(1000000,.gone)],[.sl .str],fun l=>compS l⟩
def cmpSets (a b:List Bs):Bool:=cond (Nat.beq a.length b.length) (cmpL a b) (Nat.blt a.length b.length)
where cmpL:List Bs → List Bs → Bool
 | x :: a,y :: b=>cond (decide (x = y)) (cmpL a b) (Op.bytesLess x y)
 | _,_=>false
def leSets (a b:List Bs):Bool := !cmpSets b a
def sortBy (c:List Bs → List Bs → Option Int) (l:List (List Bs)):Option (List (List Bs)):=cond (Nat.blt 0 l.length && Nat.ble l.length 4000000000) (some (l.mergeSort leSets)) none
noncomputable def sortFCon (f g:FuncId) (e:TypeId) (c:List Bs → List Bs → Option Int):Con:=⟨f,[.c (.v (.own 1000000)),.c (.v (.fn (2 * g) []))],[],[(1000000,.arr e (.sl .str))],[.sl (.sl .str)],.tup [],[(1000000,.arr e (.sl .str))],[.sl (.sl .str)],fun l=>sortBy c l⟩
end Go.Lad
namespace Go.Lad
theorem bl_irrefl:∀ a:Bs,Op.bytesLess a a = false
 | []=>rfl
 | x :: a=>by
  unfold Op.bytesLess
  rw[bl_irrefl a,Bool.and_false,Bool.or_false,decide_eq_false (by rw[UInt8.lt_iff_toNat_lt]; omega)]
theorem bl_trans:∀ {a b c:Bs},Op.bytesLess a b = true → Op.bytesLess b c = true → Op.bytesLess a c = true
 | _,[],_,h,_=>by unfold Op.bytesLess at h; cases h
 | _,_ :: _,[],_,h=>by unfold Op.bytesLess at h; cases h
 | [],y :: b,z :: c,_,_=>rfl
 | x :: a,y :: b,z :: c,h1,h2=>by
  unfold Op.bytesLess at h1 h2 ⊢
  simp only[Bool.or_eq_true,Bool.and_eq_true,decide_eq_true_eq,beq_iff_eq,UInt8.lt_iff_toNat_lt] at h1 h2 ⊢
  rcases h1 with h1 | ⟨rfl,h1⟩
  ·rcases h2 with h2 | ⟨rfl,h2⟩
   ·exact .inl (by omega)
   ·exact .inl h1
  ·rcases h2 with h2 | ⟨rfl,h2⟩
   ·exact .inl h2
   ·exact .inr ⟨rfl,bl_trans h1 h2⟩
theorem bl_tri:∀ {a b:Bs},a ≠ b → Op.bytesLess a b = true ∨ Op.bytesLess b a = true
 | [],[],h=>absurd rfl h
 | [],y :: b,_=>.inl rfl
 | x :: a,[],_=>.inr rfl
 | x :: a,y :: b,h=>by
  unfold Op.bytesLess
  simp only[Bool.or_eq_true,Bool.and_eq_true,decide_eq_true_eq,beq_iff_eq,UInt8.lt_iff_toNat_lt]
  by_cases hxy:x = y
  ·subst hxy
   have:a ≠ b:=fun e=>h (by rw[e])
   rcases bl_tri this with h1 | h1
   ·exact .inl (.inr ⟨rfl,h1⟩)
   ·exact .inr (.inr ⟨rfl,h1⟩)
  ·have:x.toNat ≠ y.toNat:=fun e=>hxy (UInt8.toNat_inj.1 e)
   rcases Nat.lt_or_gt_of_ne this with h1 | h1
   ·exact .inl (.inl h1)
   ·exact .inr (.inl h1)
theorem cl_irrefl:∀ a:List Bs,cmpSets.cmpL a a = false
 | []=>rfl
 | x :: a=>by rw[cmpSets.cmpL,decide_eq_true rfl]; exact cl_irrefl a
theorem cl_cons {x y:Bs} {a b:List Bs}:cmpSets.cmpL (x :: a) (y :: b) = true ↔ (x = y ∧ cmpSets.cmpL a b = true) ∨ Op.bytesLess x y = true:=by
 rw[cmpSets.cmpL]
 by_cases h:x = y
 ·subst h
  rw[decide_eq_true rfl,cond_true,bl_irrefl]
  simp
 ·rw[decide_eq_false h,cond_false]
  simp [h]
theorem cl_trans:∀ {a b c:List Bs},cmpSets.cmpL a b = true → cmpSets.cmpL b c = true → cmpSets.cmpL a c = true
 | [],_,_,h,_=>by rw[cmpSets.cmpL] at h; cases h; simp
 | x :: a,[],_,h,_=>by rw[cmpSets.cmpL] at h; cases h; simp
 | x :: a,y :: b,[],_,h=>by rw[cmpSets.cmpL] at h; cases h; simp
 | x :: a,y :: b,z :: c,h1,h2=>by
  rw[cl_cons] at h1 h2 ⊢
  rcases h1 with⟨rfl,h1⟩ | h1
  ·rcases h2 with⟨rfl,h2⟩ | h2
   ·exact .inl ⟨rfl,cl_trans h1 h2⟩
   ·exact .inr h2
  ·rcases h2 with⟨rfl,h2⟩ | h2
   ·exact .inr h1
   ·exact .inr (bl_trans h1 h2)
theorem cl_tri:∀ {a b:List Bs},a.length = b.length → a ≠ b → cmpSets.cmpL a b = true ∨ cmpSets.cmpL b a = true
 | [],[],_,h=>absurd rfl h
 | [],_ :: _,h,_=>by cases h
 | _ :: _,[],h,_=>by cases h
 | x :: a,y :: b,hl,h=>by
  rw[cl_cons,cl_cons]
  by_cases hxy:x = y
  ·subst hxy
   rcases cl_tri (by simpa using hl) (fun e:a = b=>h (by rw[e])) with h1 | h1
   ·exact .inl (.inl ⟨rfl,h1⟩)
   ·exact .inr (.inl ⟨rfl,h1⟩)
  ·rcases bl_tri hxy with h1 | h1
   ·exact .inl (.inr h1)
   ·exact .inr (.inr h1)
theorem ss_iff {a b:List Bs}:cmpSets a b = true ↔ a.length < b.length ∨ (a.length = b.length ∧ cmpSets.cmpL a b = true):=by
 unfold cmpSets
 by_cases h:a.length = b.length
 ·rw[h,Nat.beq_refl,cond_true]; simp
 ·rw[show Nat.beq a.length b.length = false by rw[← Bool.not_eq_true]; exact fun e=>h (Nat.eq_of_beq_eq_true e),cond_false]
  simp [h,Nat.blt_eq]
theorem ss_irrefl (a:List Bs):cmpSets a a = false:=by
 rw[← Bool.not_eq_true,ss_iff,cl_irrefl]
 simp
theorem ss_trans {a b c:List Bs} (h1:cmpSets a b = true) (h2:cmpSets b c = true):cmpSets a c = true:=by
 rw[ss_iff] at h1 h2 ⊢
 rcases h1 with h1 | ⟨h1,h1'⟩
 ·rcases h2 with h2 | ⟨h2,_⟩
  ·exact .inl (by omega)
  ·exact .inl (by omega)
 ·rcases h2 with h2 | ⟨h2,h2'⟩
  ·exact .inl (by omega)
  ·exact .inr ⟨by omega,cl_trans h1' h2'⟩
theorem ss_tri {a b:List Bs} (h:a ≠ b):cmpSets a b = true ∨ cmpSets b a = true:=by
 rw[ss_iff,ss_iff]
 rcases Nat.lt_trichotomy a.length b.length with h1 | h1 | h1
 ·exact .inl (.inl h1)
 ·rcases cl_tri h1 h with h2 | h2
  ·exact .inl (.inr ⟨h1,h2⟩)
  ·exact .inr (.inr ⟨h1.symm,h2⟩)
 ·exact .inr (.inl h1)
theorem ls_trans (a b c:List Bs) (h1:leSets a b = true) (h2:leSets b c = true):leSets a c = true:=by
 unfold leSets at h1 h2 ⊢
 rw[Bool.not_eq_true',← Bool.not_eq_true] at h1 h2 ⊢
 intro h
 by_cases hab:a = b
 ·subst hab; exact h2 h
 ·rcases ss_tri hab with h3 | h3
  ·exact h2 (ss_trans h h3)
  ·exact h1 h3
theorem ls_total (a b:List Bs):(leSets a b || leSets b a) = true:=by
 unfold leSets
 rw[Bool.or_eq_true,Bool.not_eq_true',Bool.not_eq_true']
 cases h:cmpSets b a with
 | false=>exact .inl rfl
 | true =>
  refine .inr ?_
  rw[← Bool.not_eq_true]
  intro h2
  have:=ss_trans h h2
  rw[ss_irrefl] at this; cases this
theorem ls_anti {a b:List Bs} (h1:leSets a b = true) (h2:leSets b a = true):a = b:=by
 unfold leSets at h1 h2
 rw[Bool.not_eq_true',← Bool.not_eq_true] at h1 h2
 refine Classical.byContradiction fun h=>?_
 rcases ss_tri h with h3 | h3
 ·exact h2 h3
 ·exact h1 h3
theorem sort_uniq {l r:List (List Bs)} (hp:r.Perm l) (hs:r.Pairwise fun a b=>leSets a b = true):l.mergeSort leSets = r :=
 List.Perm.eq_of_pairwise (fun _ _ _ _=>ls_anti) (List.pairwise_mergeSort ls_trans ls_total l) hs ((List.mergeSort_perm l leSets).trans hp.symm)
end Go.Lad
